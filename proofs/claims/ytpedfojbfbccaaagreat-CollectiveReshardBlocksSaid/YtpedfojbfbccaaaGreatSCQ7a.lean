import Derived.Test.YtpedfojbfbccaaaGreatSXc
namespace Go.Proofs.YtpedfojbfbccaaaGreat
open Go Go.RowKit Go.Vc
set_option maxRecDepth 100000
set_option maxHeartbeats 4000000
set_option linter.unusedVariables false
set_option linter.unusedSimpArgs false
theorem cif {P : Program} {ro : Option Nat} {n : Fr} {Kn : Act → World → Prop} {Ke : Nat → Act → World → Prop} {Kr : Act → World → Prop} {env : Env} {w : World} {c : Operand} {x y : Code} {b : Bool} {β : Type} {p q : Option β} {r : β} (h : (if b = true then p else q) = some r) (hc : Ev n env c (.bool b)) (ht : b = true → p = some r → CodeW P ro n x Kn Ke Kr env w) (hf : b = false → q = some r → CodeW P ro n y Kn Ke Kr env w) : CodeW P ro n (.cond c x y) Kn Ke Kr env w := c_cond hc (fun hb => ht hb (ite_t hb h)) (fun hb => hf hb (ite_f hb h))
theorem fq {F C : NP} {w0 w : World} {os : List MO} {cl cl' : List Cl} {e : Ending} (h : Bun noM F w0 C w os cl) (hs : Subs cl cl') : e = e ∧ Ext w0 w ∧ AllCl cl' F w := ⟨rfl, h.ext0, h.fin hs⟩
abbrev lType (x : GType) : List Value := [vi x.Kind, vi x.Bits, vi x.Frac, vi x.Round, vi x.Over]
abbrev AType (x : GType) : Array Value := #[vi x.Kind, vi x.Bits, vi x.Frac, vi x.Round, vi x.Over]
abbrev lVal (x : GVal) : List Value := [vi x.N, vi x.D]
abbrev AVal (x : GVal) : Array Value := #[vi x.N, vi x.D]
abbrev lTensor (x : GTensor) (A1 : Option Addr) (C1 : Nat) (A2 : Option Addr) (C2 : Nat) : List Value := [vi x.Type_.Kind, vi x.Type_.Bits, vi x.Type_.Frac, vi x.Type_.Round, vi x.Type_.Over, vs A1 x.Dims.length C1, vs A2 x.Vals.length C2]
abbrev ATensor (x : GTensor) (A1 : Option Addr) (C1 : Nat) (A2 : Option Addr) (C2 : Nat) : Array Value := #[vi x.Type_.Kind, vi x.Type_.Bits, vi x.Type_.Frac, vi x.Type_.Round, vi x.Type_.Over, vs A1 x.Dims.length C1, vs A2 x.Vals.length C2]
abbrev zTensor : List Value := [vi 0, vi 0, vi 0, vi 0, vi 0, vs none 0 0, vs none 0 0]
abbrev ZTensor : Array Value := #[vi 0, vi 0, vi 0, vi 0, vi 0, vs none 0 0, vs none 0 0]
abbrev u2 := @Tryz.underlying2
abbrev u3 := @Tryz.underlying3
abbrev u4 := @Tryz.underlying4
abbrev u22 := @Tryz.underlying22
abbrev u24 := @Tryz.underlying24
abbrev u25 := @Tryz.underlying25
abbrev u38 := @Tryz.underlying38
abbrev u39 := @Tryz.underlying39
abbrev u41 := @Tryz.underlying41
abbrev u42 := @Tryz.underlying42
abbrev u51 := @Tryz.underlying51
abbrev u54 := @Tryz.underlying54
abbrev u58 := @Tryz.underlying58
abbrev u60 := @Tryz.underlying60
abbrev u68 := @Tryz.underlying68
abbrev u83 := @Tryz.underlying83
abbrev u84 := @Tryz.underlying84
abbrev u121 := @Tryz.underlying121
abbrev u129 := @Tryz.underlying129
abbrev u133 := @Tryz.underlying133
abbrev u138 := @Tryz.underlying138
abbrev u140 := @Tryz.underlying140
theorem stood_38 : Tryz.prog.stoodInHeld 38 = false := by kernel_rfl
theorem eqstruct_38 (a0 b0 : Int) (a1 b1 : Int) (a2 b2 : Int) (a3 b3 : Int) (a4 b4 : Int) (w : World) : (binOp .eql 38 (.agg #[(Value.int .i64 a0), (Value.int .i64 a1), (Value.int .i64 a2), (Value.int .i64 a3), (Value.int .i64 a4)]) (.agg #[(Value.int .i64 b0), (Value.int .i64 b1), (Value.int .i64 b2), (Value.int .i64 b3), (Value.int .i64 b4)])).run Tryz.prog w = .ok (.bool ((decide (a0 = b0)) && (decide (a1 = b1)) && (decide (a2 = b2)) && (decide (a3 = b3)) && (decide (a4 = b4)))) w := by
  simp [go_sem, stood_38, Tryz.underlying38, eq_dec_int, eq_dec_str]
  all_goals (by_cases h0 : a0 = b0 <;> by_cases h1 : a1 = b1 <;> by_cases h2 : a2 = b2 <;> by_cases h3 : a3 = b3 <;> by_cases h4 : a4 = b4 <;> simp [h0, h1, h2, h3, h4])
theorem eqstruct_38n (a0 b0 : Int) (a1 b1 : Int) (a2 b2 : Int) (a3 b3 : Int) (a4 b4 : Int) (w : World) : (binOp .neq 38 (.agg #[(Value.int .i64 a0), (Value.int .i64 a1), (Value.int .i64 a2), (Value.int .i64 a3), (Value.int .i64 a4)]) (.agg #[(Value.int .i64 b0), (Value.int .i64 b1), (Value.int .i64 b2), (Value.int .i64 b3), (Value.int .i64 b4)])).run Tryz.prog w = .ok (.bool (!((decide (a0 = b0)) && (decide (a1 = b1)) && (decide (a2 = b2)) && (decide (a3 = b3)) && (decide (a4 = b4))))) w := by
  simp [go_sem, stood_38, Tryz.underlying38, eq_dec_int, eq_dec_str]
  all_goals (by_cases h0 : a0 = b0 <;> by_cases h1 : a1 = b1 <;> by_cases h2 : a2 = b2 <;> by_cases h3 : a3 = b3 <;> by_cases h4 : a4 = b4 <;> simp [h0, h1, h2, h3, h4])
theorem eqguard_38 (op : BinOp) (x y : Operand) (xs ys : Array Value) (w : World) : (eqGuard op 38 x y (.agg xs) (.agg ys)).run Tryz.prog w = .ok () w := run_eqGuard_agg w op 38 x y xs ys (by kernel_rfl)
theorem stood_54 : Tryz.prog.stoodInHeld 54 = false := by kernel_rfl
theorem eqstruct_54 (a0 b0 : Int) (a1 b1 : Int) (a2 b2 : Int) (a3 b3 : Int) (a4 b4 : List UInt8) (w : World) : (binOp .eql 54 (.agg #[(Value.int .i64 a0), (Value.int .i64 a1), (Value.int .i64 a2), (Value.int .i64 a3), (str a4)]) (.agg #[(Value.int .i64 b0), (Value.int .i64 b1), (Value.int .i64 b2), (Value.int .i64 b3), (str b4)])).run Tryz.prog w = .ok (.bool ((decide (a0 = b0)) && (decide (a1 = b1)) && (decide (a2 = b2)) && (decide (a3 = b3)) && (decide (a4 = b4)))) w := by
  simp [go_sem, stood_54, Tryz.underlying54, eq_dec_int, eq_dec_str]
  all_goals (by_cases h0 : a0 = b0 <;> by_cases h1 : a1 = b1 <;> by_cases h2 : a2 = b2 <;> by_cases h3 : a3 = b3 <;> by_cases h4 : a4 = b4 <;> simp [h0, h1, h2, h3, h4])
theorem eqguard_54 (op : BinOp) (x y : Operand) (xs ys : Array Value) (w : World) : (eqGuard op 54 x y (.agg xs) (.agg ys)).run Tryz.prog w = .ok () w := run_eqGuard_agg w op 54 x y xs ys (by kernel_rfl)
theorem stood_68 : Tryz.prog.stoodInHeld 68 = false := by kernel_rfl
theorem eqstruct_68n (a0 b0 : Int) (a1 b1 : Int) (w : World) : (binOp .neq 68 (.agg #[(Value.int .i64 a0), (Value.int .i64 a1)]) (.agg #[(Value.int .i64 b0), (Value.int .i64 b1)])).run Tryz.prog w = .ok (.bool (!((decide (a0 = b0)) && (decide (a1 = b1))))) w := by
  simp [go_sem, stood_68, Tryz.underlying68, eq_dec_int, eq_dec_str]
  all_goals (by_cases h0 : a0 = b0 <;> by_cases h1 : a1 = b1 <;> simp [h0, h1])
theorem eqguard_68 (op : BinOp) (x y : Operand) (xs ys : Array Value) (w : World) : (eqGuard op 68 x y (.agg xs) (.agg ys)).run Tryz.prog w = .ok () w := run_eqGuard_agg w op 68 x y xs ys (by kernel_rfl)
theorem info_2 : Info Tryz.prog 2 1 8 (Value.int .i64 0) := info_mk (by kernel_rfl) rfl
theorem info_3 : Info Tryz.prog 3 1 8 (Value.int .i64 0) := info_mk (by kernel_rfl) rfl
theorem info_41 : Info Tryz.prog 41 7 88 (Value.agg #[(Value.int .i64 0), (Value.int .i64 0), (Value.int .i64 0), (Value.int .i64 0), (Value.int .i64 0), (Value.slice none 0 0), (Value.slice none 0 0)]) := info_mk (by kernel_rfl) rfl
theorem info_54 : Info Tryz.prog 54 5 48 (Value.agg #[(Value.int .i64 0), (Value.int .i64 0), (Value.int .i64 0), (Value.int .i64 0), (str ([] : List UInt8))]) := info_mk (by kernel_rfl) rfl
theorem info_68 : Info Tryz.prog 68 2 16 (Value.agg #[(Value.int .i64 0), (Value.int .i64 0)]) := info_mk (by kernel_rfl) rfl
theorem ok_10 : FnOK Tryz.prog 10 := ⟨_, Tryz.func10, by kernel_rfl, by kernel_rfl⟩
theorem ok_106 : FnOK Tryz.prog 106 := ⟨_, Tryz.func106, by kernel_rfl, by kernel_rfl⟩
theorem ok_107 : FnOK Tryz.prog 107 := ⟨_, Tryz.func107, by kernel_rfl, by kernel_rfl⟩
theorem ok_108 : FnOK Tryz.prog 108 := ⟨_, Tryz.func108, by kernel_rfl, by kernel_rfl⟩
theorem ok_109 : FnOK Tryz.prog 109 := ⟨_, Tryz.func109, by kernel_rfl, by kernel_rfl⟩
theorem ok_11 : FnOK Tryz.prog 11 := ⟨_, Tryz.func11, by kernel_rfl, by kernel_rfl⟩
theorem ok_110 : FnOK Tryz.prog 110 := ⟨_, Tryz.func110, by kernel_rfl, by kernel_rfl⟩
theorem ok_111 : FnOK Tryz.prog 111 := ⟨_, Tryz.func111, by kernel_rfl, by kernel_rfl⟩
theorem ok_112 : FnOK Tryz.prog 112 := ⟨_, Tryz.func112, by kernel_rfl, by kernel_rfl⟩
theorem ok_113 : FnOK Tryz.prog 113 := ⟨_, Tryz.func113, by kernel_rfl, by kernel_rfl⟩
theorem ok_114 : FnOK Tryz.prog 114 := ⟨_, Tryz.func114, by kernel_rfl, by kernel_rfl⟩
theorem ok_115 : FnOK Tryz.prog 115 := ⟨_, Tryz.func115, by kernel_rfl, by kernel_rfl⟩
theorem ok_116 : FnOK Tryz.prog 116 := ⟨_, Tryz.func116, by kernel_rfl, by kernel_rfl⟩
theorem ok_117 : FnOK Tryz.prog 117 := ⟨_, Tryz.func117, by kernel_rfl, by kernel_rfl⟩
theorem ok_126 : FnOK Tryz.prog 126 := ⟨_, Tryz.func126, by kernel_rfl, by kernel_rfl⟩
theorem ok_127 : FnOK Tryz.prog 127 := ⟨_, Tryz.func127, by kernel_rfl, by kernel_rfl⟩
theorem ok_128 : FnOK Tryz.prog 128 := ⟨_, Tryz.func128, by kernel_rfl, by kernel_rfl⟩
theorem ok_129 : FnOK Tryz.prog 129 := ⟨_, Tryz.func129, by kernel_rfl, by kernel_rfl⟩
theorem ok_13 : FnOK Tryz.prog 13 := ⟨_, Tryz.func13, by kernel_rfl, by kernel_rfl⟩
theorem ok_130 : FnOK Tryz.prog 130 := ⟨_, Tryz.func130, by kernel_rfl, by kernel_rfl⟩
theorem ok_131 : FnOK Tryz.prog 131 := ⟨_, Tryz.func131, by kernel_rfl, by kernel_rfl⟩
theorem ok_132 : FnOK Tryz.prog 132 := ⟨_, Tryz.func132, by kernel_rfl, by kernel_rfl⟩
theorem ok_133 : FnOK Tryz.prog 133 := ⟨_, Tryz.func133, by kernel_rfl, by kernel_rfl⟩
theorem ok_134 : FnOK Tryz.prog 134 := ⟨_, Tryz.func134, by kernel_rfl, by kernel_rfl⟩
theorem ok_135 : FnOK Tryz.prog 135 := ⟨_, Tryz.func135, by kernel_rfl, by kernel_rfl⟩
theorem ok_136 : FnOK Tryz.prog 136 := ⟨_, Tryz.func136, by kernel_rfl, by kernel_rfl⟩
theorem ok_137 : FnOK Tryz.prog 137 := ⟨_, Tryz.func137, by kernel_rfl, by kernel_rfl⟩
theorem ok_138 : FnOK Tryz.prog 138 := ⟨_, Tryz.func138, by kernel_rfl, by kernel_rfl⟩
theorem ok_139 : FnOK Tryz.prog 139 := ⟨_, Tryz.func139, by kernel_rfl, by kernel_rfl⟩
theorem ok_140 : FnOK Tryz.prog 140 := ⟨_, Tryz.func140, by kernel_rfl, by kernel_rfl⟩
theorem ok_141 : FnOK Tryz.prog 141 := ⟨_, Tryz.func141, by kernel_rfl, by kernel_rfl⟩
theorem ok_142 : FnOK Tryz.prog 142 := ⟨_, Tryz.func142, by kernel_rfl, by kernel_rfl⟩
theorem ok_146 : FnOK Tryz.prog 146 := ⟨_, Tryz.func146, by kernel_rfl, by kernel_rfl⟩
theorem ok_147 : FnOK Tryz.prog 147 := ⟨_, Tryz.func147, by kernel_rfl, by kernel_rfl⟩
theorem ok_148 : FnOK Tryz.prog 148 := ⟨_, Tryz.func148, by kernel_rfl, by kernel_rfl⟩
theorem ok_149 : FnOK Tryz.prog 149 := ⟨_, Tryz.func149, by kernel_rfl, by kernel_rfl⟩
theorem ok_15 : FnOK Tryz.prog 15 := ⟨_, Tryz.func15, by kernel_rfl, by kernel_rfl⟩
theorem ok_150 : FnOK Tryz.prog 150 := ⟨_, Tryz.func150, by kernel_rfl, by kernel_rfl⟩
theorem ok_151 : FnOK Tryz.prog 151 := ⟨_, Tryz.func151, by kernel_rfl, by kernel_rfl⟩
theorem ok_152 : FnOK Tryz.prog 152 := ⟨_, Tryz.func152, by kernel_rfl, by kernel_rfl⟩
theorem ok_153 : FnOK Tryz.prog 153 := ⟨_, Tryz.func153, by kernel_rfl, by kernel_rfl⟩
theorem ok_154 : FnOK Tryz.prog 154 := ⟨_, Tryz.func154, by kernel_rfl, by kernel_rfl⟩
theorem ok_155 : FnOK Tryz.prog 155 := ⟨_, Tryz.func155, by kernel_rfl, by kernel_rfl⟩
theorem ok_157 : FnOK Tryz.prog 157 := ⟨_, Tryz.func157, by kernel_rfl, by kernel_rfl⟩
theorem ok_158 : FnOK Tryz.prog 158 := ⟨_, Tryz.func158, by kernel_rfl, by kernel_rfl⟩
theorem ok_159 : FnOK Tryz.prog 159 := ⟨_, Tryz.func159, by kernel_rfl, by kernel_rfl⟩
theorem ok_16 : FnOK Tryz.prog 16 := ⟨_, Tryz.func16, by kernel_rfl, by kernel_rfl⟩
theorem ok_160 : FnOK Tryz.prog 160 := ⟨_, Tryz.func160, by kernel_rfl, by kernel_rfl⟩
theorem ok_161 : FnOK Tryz.prog 161 := ⟨_, Tryz.func161, by kernel_rfl, by kernel_rfl⟩
theorem ok_162 : FnOK Tryz.prog 162 := ⟨_, Tryz.func162, by kernel_rfl, by kernel_rfl⟩
theorem ok_18 : FnOK Tryz.prog 18 := ⟨_, Tryz.func18, by kernel_rfl, by kernel_rfl⟩
theorem ok_21 : FnOK Tryz.prog 21 := ⟨_, Tryz.func21, by kernel_rfl, by kernel_rfl⟩
theorem ok_22 : FnOK Tryz.prog 22 := ⟨_, Tryz.func22, by kernel_rfl, by kernel_rfl⟩
theorem ok_24 : FnOK Tryz.prog 24 := ⟨_, Tryz.func24, by kernel_rfl, by kernel_rfl⟩
theorem ok_26 : FnOK Tryz.prog 26 := ⟨_, Tryz.func26, by kernel_rfl, by kernel_rfl⟩
theorem ok_27 : FnOK Tryz.prog 27 := ⟨_, Tryz.func27, by kernel_rfl, by kernel_rfl⟩
theorem ok_28 : FnOK Tryz.prog 28 := ⟨_, Tryz.func28, by kernel_rfl, by kernel_rfl⟩
theorem ok_29 : FnOK Tryz.prog 29 := ⟨_, Tryz.func29, by kernel_rfl, by kernel_rfl⟩
theorem ok_30 : FnOK Tryz.prog 30 := ⟨_, Tryz.func30, by kernel_rfl, by kernel_rfl⟩
theorem ok_31 : FnOK Tryz.prog 31 := ⟨_, Tryz.func31, by kernel_rfl, by kernel_rfl⟩
theorem ok_32 : FnOK Tryz.prog 32 := ⟨_, Tryz.func32, by kernel_rfl, by kernel_rfl⟩
theorem ok_33 : FnOK Tryz.prog 33 := ⟨_, Tryz.func33, by kernel_rfl, by kernel_rfl⟩
theorem ok_34 : FnOK Tryz.prog 34 := ⟨_, Tryz.func34, by kernel_rfl, by kernel_rfl⟩
theorem ok_38 : FnOK Tryz.prog 38 := ⟨_, Tryz.func38, by kernel_rfl, by kernel_rfl⟩
theorem ok_39 : FnOK Tryz.prog 39 := ⟨_, Tryz.func39, by kernel_rfl, by kernel_rfl⟩
theorem ok_40 : FnOK Tryz.prog 40 := ⟨_, Tryz.func40, by kernel_rfl, by kernel_rfl⟩
theorem ok_41 : FnOK Tryz.prog 41 := ⟨_, Tryz.func41, by kernel_rfl, by kernel_rfl⟩
theorem ok_42 : FnOK Tryz.prog 42 := ⟨_, Tryz.func42, by kernel_rfl, by kernel_rfl⟩
theorem ok_43 : FnOK Tryz.prog 43 := ⟨_, Tryz.func43, by kernel_rfl, by kernel_rfl⟩
theorem ok_44 : FnOK Tryz.prog 44 := ⟨_, Tryz.func44, by kernel_rfl, by kernel_rfl⟩
theorem ok_45 : FnOK Tryz.prog 45 := ⟨_, Tryz.func45, by kernel_rfl, by kernel_rfl⟩
theorem ok_46 : FnOK Tryz.prog 46 := ⟨_, Tryz.func46, by kernel_rfl, by kernel_rfl⟩
theorem ok_48 : FnOK Tryz.prog 48 := ⟨_, Tryz.func48, by kernel_rfl, by kernel_rfl⟩
theorem ok_49 : FnOK Tryz.prog 49 := ⟨_, Tryz.func49, by kernel_rfl, by kernel_rfl⟩
theorem ok_50 : FnOK Tryz.prog 50 := ⟨_, Tryz.func50, by kernel_rfl, by kernel_rfl⟩
theorem ok_51 : FnOK Tryz.prog 51 := ⟨_, Tryz.func51, by kernel_rfl, by kernel_rfl⟩
theorem ok_52 : FnOK Tryz.prog 52 := ⟨_, Tryz.func52, by kernel_rfl, by kernel_rfl⟩
theorem ok_53 : FnOK Tryz.prog 53 := ⟨_, Tryz.func53, by kernel_rfl, by kernel_rfl⟩
theorem ok_56 : FnOK Tryz.prog 56 := ⟨_, Tryz.func56, by kernel_rfl, by kernel_rfl⟩
theorem ok_57 : FnOK Tryz.prog 57 := ⟨_, Tryz.func57, by kernel_rfl, by kernel_rfl⟩
theorem ok_58 : FnOK Tryz.prog 58 := ⟨_, Tryz.func58, by kernel_rfl, by kernel_rfl⟩
theorem ok_59 : FnOK Tryz.prog 59 := ⟨_, Tryz.func59, by kernel_rfl, by kernel_rfl⟩
theorem ok_60 : FnOK Tryz.prog 60 := ⟨_, Tryz.func60, by kernel_rfl, by kernel_rfl⟩
theorem ok_61 : FnOK Tryz.prog 61 := ⟨_, Tryz.func61, by kernel_rfl, by kernel_rfl⟩
theorem ok_62 : FnOK Tryz.prog 62 := ⟨_, Tryz.func62, by kernel_rfl, by kernel_rfl⟩
theorem ok_63 : FnOK Tryz.prog 63 := ⟨_, Tryz.func63, by kernel_rfl, by kernel_rfl⟩
theorem ok_64 : FnOK Tryz.prog 64 := ⟨_, Tryz.func64, by kernel_rfl, by kernel_rfl⟩
theorem ok_65 : FnOK Tryz.prog 65 := ⟨_, Tryz.func65, by kernel_rfl, by kernel_rfl⟩
theorem ok_67 : FnOK Tryz.prog 67 := ⟨_, Tryz.func67, by kernel_rfl, by kernel_rfl⟩
theorem ok_69 : FnOK Tryz.prog 69 := ⟨_, Tryz.func69, by kernel_rfl, by kernel_rfl⟩
theorem ok_70 : FnOK Tryz.prog 70 := ⟨_, Tryz.func70, by kernel_rfl, by kernel_rfl⟩
theorem ok_71 : FnOK Tryz.prog 71 := ⟨_, Tryz.func71, by kernel_rfl, by kernel_rfl⟩
theorem ok_72 : FnOK Tryz.prog 72 := ⟨_, Tryz.func72, by kernel_rfl, by kernel_rfl⟩
theorem ok_73 : FnOK Tryz.prog 73 := ⟨_, Tryz.func73, by kernel_rfl, by kernel_rfl⟩
theorem ok_74 : FnOK Tryz.prog 74 := ⟨_, Tryz.func74, by kernel_rfl, by kernel_rfl⟩
theorem ok_75 : FnOK Tryz.prog 75 := ⟨_, Tryz.func75, by kernel_rfl, by kernel_rfl⟩
theorem ok_76 : FnOK Tryz.prog 76 := ⟨_, Tryz.func76, by kernel_rfl, by kernel_rfl⟩
theorem ok_77 : FnOK Tryz.prog 77 := ⟨_, Tryz.func77, by kernel_rfl, by kernel_rfl⟩
theorem ok_81 : FnOK Tryz.prog 81 := ⟨_, Tryz.func81, by kernel_rfl, by kernel_rfl⟩
theorem ok_82 : FnOK Tryz.prog 82 := ⟨_, Tryz.func82, by kernel_rfl, by kernel_rfl⟩
theorem ok_83 : FnOK Tryz.prog 83 := ⟨_, Tryz.func83, by kernel_rfl, by kernel_rfl⟩
theorem ok_84 : FnOK Tryz.prog 84 := ⟨_, Tryz.func84, by kernel_rfl, by kernel_rfl⟩
theorem ok_85 : FnOK Tryz.prog 85 := ⟨_, Tryz.func85, by kernel_rfl, by kernel_rfl⟩
theorem ok_86 : FnOK Tryz.prog 86 := ⟨_, Tryz.func86, by kernel_rfl, by kernel_rfl⟩
theorem ok_87 : FnOK Tryz.prog 87 := ⟨_, Tryz.func87, by kernel_rfl, by kernel_rfl⟩
theorem ok_88 : FnOK Tryz.prog 88 := ⟨_, Tryz.func88, by kernel_rfl, by kernel_rfl⟩
theorem ok_89 : FnOK Tryz.prog 89 := ⟨_, Tryz.func89, by kernel_rfl, by kernel_rfl⟩
theorem ok_9 : FnOK Tryz.prog 9 := ⟨_, Tryz.func9, by kernel_rfl, by kernel_rfl⟩
theorem ok_90 : FnOK Tryz.prog 90 := ⟨_, Tryz.func90, by kernel_rfl, by kernel_rfl⟩
theorem ok_91 : FnOK Tryz.prog 91 := ⟨_, Tryz.func91, by kernel_rfl, by kernel_rfl⟩
theorem ok_92 : FnOK Tryz.prog 92 := ⟨_, Tryz.func92, by kernel_rfl, by kernel_rfl⟩
theorem ok_93 : FnOK Tryz.prog 93 := ⟨_, Tryz.func93, by kernel_rfl, by kernel_rfl⟩
theorem ok_94 : FnOK Tryz.prog 94 := ⟨_, Tryz.func94, by kernel_rfl, by kernel_rfl⟩
theorem ok_95 : FnOK Tryz.prog 95 := ⟨_, Tryz.func95, by kernel_rfl, by kernel_rfl⟩
theorem size_138 : (Tryz.prog.info? 138).map (·.size) = some 1 := by kernel_rfl
theorem size_2 : (Tryz.prog.info? 2).map (·.size) = some 1 := by kernel_rfl
theorem size_22 : (Tryz.prog.info? 22).map (·.size) = some 1 := by kernel_rfl
theorem size_24 : (Tryz.prog.info? 24).map (·.size) = some 1 := by kernel_rfl
theorem size_3 : (Tryz.prog.info? 3).map (·.size) = some 1 := by kernel_rfl
theorem size_38 : (Tryz.prog.info? 38).map (·.size) = some 5 := by kernel_rfl
theorem size_39 : (Tryz.prog.info? 39).map (·.size) = some 1 := by kernel_rfl
theorem size_41 : (Tryz.prog.info? 41).map (·.size) = some 7 := by kernel_rfl
theorem size_54 : (Tryz.prog.info? 54).map (·.size) = some 5 := by kernel_rfl
theorem size_58 : (Tryz.prog.info? 58).map (·.size) = some 1 := by kernel_rfl
theorem size_60 : (Tryz.prog.info? 60).map (·.size) = some 1 := by kernel_rfl
theorem size_68 : (Tryz.prog.info? 68).map (·.size) = some 2 := by kernel_rfl
theorem zero_121 : (Tryz.prog.info? 121).bind (·.zero) = some (Value.agg #[(Value.int .i64 0), (Value.int .i64 0), (Value.int .i64 0), (Value.int .i64 0), (Value.int .i64 0), (Value.int .i64 0)]) := by kernel_rfl
theorem zero_24 : (Tryz.prog.info? 24).bind (·.zero) = some (Value.agg #[(Value.slice none 0 0)]) := by kernel_rfl
theorem zero_3 : (Tryz.prog.info? 3).bind (·.zero) = some (Value.int .i64 0) := by kernel_rfl
theorem zero_4 : (Tryz.prog.info? 4).bind (·.zero) = some (Value.bool false) := by kernel_rfl
theorem zero_41 : (Tryz.prog.info? 41).bind (·.zero) = some (Value.agg #[(Value.int .i64 0), (Value.int .i64 0), (Value.int .i64 0), (Value.int .i64 0), (Value.int .i64 0), (Value.slice none 0 0), (Value.slice none 0 0)]) := by kernel_rfl
theorem zero_54 : (Tryz.prog.info? 54).bind (·.zero) = some (Value.agg #[(Value.int .i64 0), (Value.int .i64 0), (Value.int .i64 0), (Value.int .i64 0), (str ([] : List UInt8))]) := by kernel_rfl
theorem zero_60 : (Tryz.prog.info? 60).bind (·.zero) = some (Value.agg #[Value.nilFunc]) := by kernel_rfl
theorem zero_68 : (Tryz.prog.info? 68).bind (·.zero) = some (Value.agg #[(Value.int .i64 0), (Value.int .i64 0)]) := by kernel_rfl
theorem c_law53_small (F : NP) (w0 : World) (hF : ∀ k, F k → k < w0.heap.size) (m1 : GMesh) (l1 : List GTensor) (a1 : Option Addr) (c1 : Nat) (a2 : Option Addr) (c2 : Nat) (hc : AllCl [Cl.sl (cInt .i64) a1 c1 m1.Dims, Cl.sl cGTensor a2 c2 l1] F w0) (r : Bool)
  (h : m_law53_small m1 l1 = some r) :
  Calls Tryz.prog 9 #[(Value.agg #[vs a1 m1.Dims.length c1]), vs a2 l1.length c2] w0 fun e w => e = .returned (vb r) ∧ Ext w0 w ∧ AllCl [] F w := by
 refine enterK Tryz.func9 rfl Tryz.ntmps9 rfl ?_
 have hI := Bun.start hF hc
 clear hc
 rw [m_law53_small] at h
 refine sr (l_box (v := (Value.agg #[vs a1 m1.Dims.length c1])) (cs := #[vs a1 m1.Dims.length c1]) hI gn rfl rfl et rfl ?_)
 clear hI; intro b1 c3 w1 hI
 obtain ⟨c4, hI⟩ := hI.relBox .z
 refine sac ?_
 refine nk (c_seq (sr (sm ?_)))
 refine sq (y_lenl rfl u25 et) ?_
 refine sq (y_gtr rfl et ev_const) ?_
 refine sm ?_
 refine s_gval (g_false rfl rfl rfl rfl) rfl (fun hc => y_fieldAddr rfl et u24 rfl size_22 rfl) ?_
 refine s_gval (g_false rfl rfl rfl rfl) rfl (fun hc => (y_load1 (v := (vs a1 m1.Dims.length c1)) rfl (ev_gv et hc) u22 rfl (hI.kblk (l := [vs a1 m1.Dims.length c1]) .z rfl).1)) ?_
 refine s_gval (g_false rfl rfl rfl rfl) rfl (fun hc => y_lenl rfl u22 (ev_gv et hc)) ?_
 refine s_gval (g_false rfl rfl rfl rfl) rfl (fun hc => y_gtr rfl (ev_gv et hc) ev_const) ?_
 refine sq (y_or rfl et et) ?_
 refine nk (cif h et (fun hb h => ?_) (fun hb h => ?_))
 ·refine sr (sac ?_)
  refine nk (c_ret ?_)
  obtain rfl := some_inj h
  exact q_ret (vs := [vb false]) Tryz.results9 ⟨ev_tmp rfl rfl, trivial⟩ (fq hI trivial)
 refine c_skip (k_same (c_seq (sr (sac ?_))))
 refine nk (c_block (c_loop (α := Nat × Int) (fun x => fun w => ∃ C, Bun noM F w0 C w [] [Cl.sl cGTensor a2 c2 l1] ∧ m_law53_small_l1 l1 (x.1) (x.2) = some r) (fun x _ => x.1) (fun x => [(1, vs a2 l1.length c2), (5, vi (x.2))]) (fu, 0) ⟨_, hI.arr .n ⟨(.s (.s .z)), trivial⟩, h⟩ ⟨rfl, rfl, trivial⟩ ?_))
 clear h hI; rintro ⟨fuel1, i1⟩ w2 ⟨c5, hI, h⟩
 dsimp only at hI h
 rcases fuel1 with _ | fuel1
 ·rw [m_law53_small_l1] at h; cases h
 rw [m_law53_small_l1] at h
 refine c_sub (e := [(1, vs a2 l1.length c2), (5, vi i1)]) ⟨rfl, rfl, trivial⟩ ?_
 refine c_seq (sr (sm ?_))
 refine sm ?_
 refine sq (y_lenl rfl u25 et) ?_
 refine sq (y_lss rfl et et) ?_
 refine nk (cif h et (fun hb h => ?_) (fun hb h => ?_))
 ·refine c_skip (k_same (c_seq (c_block (sr (sm ?_)))))
  refine sm ?_
  obtain ⟨e1, hx1, h⟩ := bnd_some h
  obtain ⟨ad1, cs1, hA1, hr1, hq1⟩ := hI.clat .z hx1
  obtain ⟨a3, c6, a4, c7, rfl, hf1, hf2⟩ := hr1
  have hI := hI.add (c := Cl.sl (cInt .i64) a3 c6 e1.Dims) hf1
  have hI := hI.add (c := Cl.sl cGVal a4 c7 e1.Vals) hf2
  refine sq (y_indexAddr rfl u25 size_41 et et (lat_bd hx1) hA1) ?_
  refine sq (y_fieldAddr rfl et u41 rfl size_39 rfl) ?_
  refine sq (y_load1 (v := (vs a4 e1.Vals.length c7)) rfl et u39 rfl (CA.part hq1 rfl).1) ?_
  refine sq (y_lenl rfl u39 et) ?_
  refine sq (y_gtr rfl et ev_const) ?_
  refine sm ?_
  refine s_gval (g_false rfl rfl rfl rfl) rfl (fun hc => y_move rfl et) ?_
  refine s_gval (g_false rfl rfl rfl rfl) rfl (fun hc => y_move rfl et) ?_
  obtain ⟨e2, hx2, h⟩ := bnd_some h
  replace hx2 := gd_some hx2
  obtain ⟨ad2, cs2, hq2⟩ := hI.gclat (.s (.s .z)) hx2
  obtain ⟨a5, c8, a6, c9, hq3⟩ : ∃ (a5 : Option Addr) (c8 : Nat) (a6 : Option Addr) (c9 : Nat), (!(decide (300 < (e1.Vals.length : Int)))) = true → (a2 = some ad2 ∧ cs2 = (lTensor e2 a5 c8 a6 c9) ∧ CA (Dj F c5) w2 (ad2.add (Int.toNat i1 * 7)) cs2 ∧ SlC (cInt .i64) (Dj F c5) w2 a5 c8 e2.Dims ∧ SlC cGVal (Dj F c5) w2 a6 c9 e2.Vals) := by
   by_cases hc : (!(decide (300 < (e1.Vals.length : Int)))) = true
   ·obtain ⟨k1, k2, k3⟩ := hq2 hc; obtain ⟨a5, c8, a6, c9, rfl, hf3, hf4⟩ := k2; exact ⟨a5, c8, a6, c9, fun _ => ⟨k1, rfl, k3, hf3, hf4⟩⟩
   exact ⟨default, default, default, default, fun k => absurd k hc⟩
  clear hq2
  have hI := hI.add (c := Cl.gsl (!(decide (300 < (e1.Vals.length : Int)))) (cInt .i64) a5 c8 e2.Dims) (fun hc => (hq3 hc).2.2.2.1)
  have hI := hI.add (c := Cl.gsl (!(decide (300 < (e1.Vals.length : Int)))) cGVal a6 c9 e2.Vals) (fun hc => (hq3 hc).2.2.2.2)
  have hq4 : (!(decide (300 < (e1.Vals.length : Int)))) = true → CA (Dj F c5) w2 (ad2.add (Int.toNat i1 * 7)) (lTensor e2 a5 c8 a6 c9) := fun hc => by have k := hq3 hc; have e : cs2 = _ := k.2.1; rw [← e]; exact k.2.2.1
  refine s_gval (g_false rfl rfl rfl rfl) rfl (fun hc => (y_indexAddr rfl u25 size_41 (ev_gv et hc) (ev_gv et hc) (lat_bd (hx2 hc)) (hq3 hc).1)) ?_
  refine s_gval (g_false rfl rfl rfl rfl) rfl (fun hc => y_fieldAddr rfl (ev_gv et hc) u41 rfl size_22 rfl) ?_
  refine s_gval (g_false rfl rfl rfl rfl) rfl (fun hc => (y_load1 (v := (vs a5 e2.Dims.length c8)) rfl (ev_gv et hc) u22 rfl (CA.part (hq4 hc) rfl).1)) ?_
  refine s_gval (g_false rfl rfl rfl rfl) rfl (fun hc => y_lenl rfl u22 (ev_gv et hc)) ?_
  refine s_gval (g_false rfl rfl rfl rfl) rfl (fun hc => y_gtr rfl (ev_gv et hc) ev_const) ?_
  refine sq (y_or rfl et et) ?_
  refine nk (cif h et (fun hb h => ?_) (fun hb h => ?_))
  ·refine sr (sac ?_)
   refine nk (c_ret ?_)
   obtain rfl := some_inj h
   exact q_ret (vs := [vb false]) Tryz.results9 ⟨ev_tmp rfl rfl, trivial⟩ (fq hI trivial)
  refine c_skip (k_same (c_region rfl ?_))
  refine sm ?_
  refine sq (y_add rfl et ev_const) ?_
  refine sa ?_
  refine s_nil ?_
  exact k_loop (fuel1, wi64 (i1 + 1)) ⟨rfl, rfl, trivial⟩ ⟨_, hI.arr .n ⟨(.s (.s (.s (.s .z)))), trivial⟩, h⟩ (Nat.lt_succ_self _)
 refine c_exit ?_
 refine k_in ?_
 refine k_same (sr (sac ?_))
 refine nk (c_ret ?_)
 obtain rfl := some_inj h
 exact q_ret (vs := [vb true]) Tryz.results9 ⟨ev_tmp rfl rfl, trivial⟩ (fq hI trivial)
theorem c_law53_vector (F : NP) (w0 : World) (hF : ∀ k, F k → k < w0.heap.size) (l1 : List Int) (a1 : Option Addr) (c1 : Nat) (hc : AllCl [Cl.sl (cInt .i64) a1 c1 l1] F w0) (r : GTensor)
  (h : m_law53_vector l1 = some r) :
  Calls Tryz.prog 29 #[vs a1 l1.length c1] w0 fun e w => ∃ (a2 : Option Addr) (c2 : Nat) (a3 : Option Addr) (c3 : Nat), e = .returned (Value.agg (ATensor r a2 c2 a3 c3)) ∧ Ext w0 w ∧ AllCl [Cl.sl (cInt .i64) a2 c2 r.Dims, Cl.sl cGVal a3 c3 r.Vals] F w := by
 refine enterK Tryz.func29 rfl Tryz.ntmps29 rfl ?_
 have hI := Bun.start hF hc
 clear hc
 rw [m_law53_vector] at h
 refine sr (l_alloc (cs := ZTensor) hI gn rfl rfl zero_41 rfl ?_)
 clear hI; intro b1 c4 w1 hI
 refine nk (sr (sq (y_build (vs := [(0, vi 3)]) (cs := #[vi 3, vi 0, vi 0, vi 0, vi 0]) rfl ⟨rfl, ev_const, trivial⟩ (by kernel_rfl)) ?_))
 refine sm ?_
 refine sq (y_lenl rfl u83 et) ?_
 refine l_lit (c := (cInt .i64)) (xs := ([(l1.length : Int)] : List Int)) (vs := [(0, vi (l1.length : Int))]) (cs := #[vi (l1.length : Int)]) (css := [[vi (l1.length : Int)]]) hI gn rfl rfl u22 info_3 rfl ⟨rfl, et, trivial⟩ (by kernel_rfl) ⟨rfl, trivial⟩ rfl rfl rfl ?_
 clear hI; intro b2 c5 w2 hI
 refine sq (y_build (vs := [(0, (Value.agg #[vi 3, vi 0, vi 0, vi 0, vi 0])), (1, (vs (some ⟨b2, 0, none⟩) ([(l1.length : Int)] : List Int).length 1))]) (cs := #[vi 3, vi 0, vi 0, vi 0, vi 0, (vs (some ⟨b2, 0, none⟩) ([(l1.length : Int)] : List Int).length 1), vs none 0 0]) rfl ⟨rfl, et, ⟨rfl, et, trivial⟩⟩ (by kernel_rfl)) ?_
 refine l_alloc (cs := ZTensor) hI gn rfl rfl zero_41 rfl ?_
 clear hI; intro b3 c6 w3 hI
 refine l_store (new := [vi 3, vi 0, vi 0, vi 0, vi 0, (vs (some ⟨b2, 0, none⟩) ([(l1.length : Int)] : List Int).length 1), vs none 0 0]) (cs' := #[vi 3, vi 0, vi 0, vi 0, vi 0, (vs (some ⟨b2, 0, none⟩) ([(l1.length : Int)] : List Int).length 1), vs none 0 0]) hI .z gn rfl rfl et et rfl size_41 rfl rfl rfl ?_
 clear hI; intro c7 w4 hI
 refine nk (c_seq (sr (sac ?_)))
 refine nk (c_block ?_)
 have hI := hI.nil cGVal 68 none
 refine c_loop (α := Nat × Int × GTensor × (Option Addr) × Nat × (Option Addr) × Nat) (fun x => fun w => ∃ C, Bun noM F w0 C w [MO.row (cInt .i64) 3 (x.2.2.2.1) (x.2.2.2.2.1) (x.2.2.1).Dims, MO.row cGVal 68 (x.2.2.2.2.2.1) (x.2.2.2.2.2.2) (x.2.2.1).Vals, MO.box b1 41 ZTensor, MO.box b3 41 (ATensor (x.2.2.1) (x.2.2.2.1) (x.2.2.2.2.1) (x.2.2.2.2.2.1) (x.2.2.2.2.2.2))] [Cl.sl (cInt .i64) a1 c1 l1] ∧ m_law53_vector_l1 l1 (x.1) (x.2.1) (x.2.2.1) = some r) (fun x _ => x.1) (fun x => [(0, vs a1 l1.length c1), (2, vp b1 0), (3, vp b3 0), (4, vi (x.2.1))]) (fu, 0, (⟨(⟨3, 0, 0, 0, 0⟩ : GType), ([(l1.length : Int)] : List Int), ([] : List GVal)⟩ : GTensor), some ⟨b2, 0, none⟩, 1, none, 0) ⟨_, hI.arr (.c (.s (.s .z)) (.c .z (.c (.s .z) (.c .z .n)))) ⟨.z, trivial⟩, h⟩ ⟨rfl, rfl, rfl, rfl, trivial⟩ ?_
 clear h hI; rintro ⟨fuel1, i1, t1, a4, c8, a5, c9⟩ w5 ⟨c10, hI, h⟩
 dsimp only at hI h
 rcases fuel1 with _ | fuel1
 ·rw [m_law53_vector_l1] at h; cases h
 rw [m_law53_vector_l1] at h
 refine c_sub (e := [(0, vs a1 l1.length c1), (2, vp b1 0), (3, vp b3 0), (4, vi i1)]) ⟨rfl, rfl, rfl, rfl, trivial⟩ ?_
 refine c_seq (sr (sm ?_))
 refine sm ?_
 refine sq (y_lenl rfl u83 et) ?_
 refine sq (y_lss rfl et et) ?_
 refine nk (cif h et (fun hb h => ?_) (fun hb h => ?_))
 ·refine c_skip (k_same (c_seq (c_block (c_drawX [8, 10] false (.c (0, .q) (.c (1, .q) (.c (2, .q) (.c (3, .q) (.c (4, .q) (.c (5, .q) (.c (6, .q) (.c (7, .s) (.c (8, .s) (.c (9, .q) (.c (10, .s) .n))))))))))) hI (by kernel_rfl) (by kernel_rfl) ?_))))
  clear hI; intro w6 hI
  refine a_q rfl gn rfl (fun w' => y_fieldAddr rfl et u41 rfl size_39 rfl) ?_
  refine a_read rfl gn rfl (fun w' hw' => (y_load1 (v := (vs a5 t1.Vals.length c9)) rfl et u39 rfl ((CA.blk (hI.blk (.s (.s (.s .z)))) rfl).at_ (SX.any rfl hw')))) (by kernel_rfl) ?_
  refine a_q rfl gn rfl (fun w' => y_move rfl et) ?_
  refine a_q rfl gn rfl (fun w' => y_move rfl et) ?_
  obtain ⟨e1, hx1, h⟩ := bnd_some h
  obtain ⟨ad1, cs1, hA1, hr1, hq1⟩ := hI.clat .z hx1
  obtain rfl : cs1 = [vi e1] := hr1
  refine a_q rfl gn rfl (fun w' => y_indexAddr rfl u83 size_2 et et (lat_bd hx1) hA1) ?_
  refine a_read rfl gn rfl (fun w' hw' => (y_load1 (v := (vi e1)) rfl et u2 rfl (hq1.at_ (SX.any rfl hw')))) (by kernel_rfl) ?_
  refine a_q rfl gn rfl (fun w' => (y_build (vs := [(0, vi e1), (1, vi 1)]) (cs := #[vi e1, vi 1]) rfl ⟨rfl, et, ⟨rfl, ev_const, trivial⟩⟩ (by kernel_rfl))) ?_
  refine la_lit (c := cGVal) (xs := ([(⟨e1, 1⟩ : GVal)] : List GVal)) (vs := [(0, (Value.agg #[vi e1, vi 1]))]) (cs := #[vi e1, vi 1]) (css := [[vi e1, vi 1]]) hI rfl gn rfl rfl u39 info_68 rfl ⟨rfl, et, trivial⟩ (by kernel_rfl) ⟨rfl, trivial⟩ rfl rfl rfl ?_
  clear hI; intro b4 c11 w7 hI
  refine a_turn (F := F) (C := c11) rfl rfl ?_
  obtain ⟨zs1, hx2, h⟩ := bnd_some h
  refine la_append (xs := t1.Vals) (ys := ([(⟨e1, 1⟩ : GVal)] : List GVal)) hI (.s (.s .z)) (hI.rd .z) hx2 rfl gn rfl rfl u39 info_68 rfl rfl et et ?_
  clear hI; intro a6 c12 c13 w8 hI
  refine a_q rfl gn rfl (fun w' => y_fieldAddr rfl et u41 rfl size_39 rfl) ?_
  refine la_store (new := [vs a6 zs1.length c12]) (cs' := #[vi t1.Type_.Kind, vi t1.Type_.Bits, vi t1.Type_.Frac, vi t1.Type_.Round, vi t1.Type_.Over, vs a4 t1.Dims.length c8, vs a6 zs1.length c12]) hI (.s (.s (.s (.s .z)))) rfl gn rfl rfl et et rfl size_39 rfl rfl rfl ?_
  clear hI; intro c14 w9 hI
  refine a_nil ?_
  refine k_same (c_region rfl ?_)
  refine sm ?_
  refine sq (y_add rfl et ev_const) ?_
  refine sa ?_
  refine s_nil ?_
  exact k_loop (fuel1, wi64 (i1 + 1), (⟨t1.Type_, t1.Dims, zs1⟩ : GTensor), a4, c8, a6, c12) ⟨rfl, rfl, rfl, rfl, trivial⟩ ⟨_, hI.arr (.c (.s .z) (.c (.s .z) (.c (.s .z) (.c (.s .z) .n)))) ⟨.z, trivial⟩, h⟩ (Nat.lt_succ_self _)
 refine c_exit ?_
 refine k_in ?_
 refine k_same (sr (sq (y_loadN (l := (lTensor t1 a4 c8 a5 c9)) rfl et u41 rfl size_41 (CellsAt.of_blk (hI.blk (.s (.s (.s .z)))) rfl)) ?_))
 refine l_store (new := (lTensor t1 a4 c8 a5 c9)) (cs' := (ATensor t1 a4 c8 a5 c9)) hI (.s (.s .z)) gn rfl rfl et et rfl size_41 rfl rfl rfl ?_
 clear hI; intro c15 w10 hI
 refine nk (c_ret ?_)
 obtain ⟨c16, hI⟩ := hI.release .z
 obtain ⟨c17, hI⟩ := hI.release .z
 obtain rfl := some_inj h
 exact q_ret (vs := [(Value.agg (ATensor t1 a4 c8 a5 c9))]) Tryz.results29 ⟨⟨_, ev_tmp rfl rfl, load_agg (l := (lTensor t1 a4 c8 a5 c9)) u41 rfl size_41 (CellsAt.of_blk (hI.blk .z) rfl)⟩, trivial⟩ ⟨a4, c8, a5, c9, rfl, hI.ext0, hI.fin ⟨(.s .z), .z, trivial⟩⟩
theorem c_mesh_Validate (F : NP) (w0 : World) (hF : ∀ k, F k → k < w0.heap.size) (m1 : GMesh) (a1 : Option Addr) (c1 : Nat) (hc : AllCl [Cl.sl (cInt .i64) a1 c1 m1.Dims] F w0) (r : Int)
  (h : m_mesh_Validate m1 = some r) :
  Calls Tryz.prog 69 #[(Value.agg #[vs a1 m1.Dims.length c1])] w0 fun e w => e = .returned (vi r) ∧ Ext w0 w ∧ AllCl [] F w := by
 refine enterK Tryz.func69 rfl Tryz.ntmps69 rfl ?_
 have hI := Bun.start hF hc
 clear hc
 rw [m_mesh_Validate] at h
 refine sr (l_box (v := (Value.agg #[vs a1 m1.Dims.length c1])) (cs := #[vs a1 m1.Dims.length c1]) hI gn rfl rfl et rfl ?_)
 clear hI; intro b1 c2 w1 hI
 obtain ⟨c3, hI⟩ := hI.relBox .z
 refine sac ?_
 refine nk (c_seq (sr (sq (y_fieldAddr rfl et u24 rfl size_22 rfl) ?_)))
 refine sq (y_load1 (v := (vs a1 m1.Dims.length c1)) rfl et u22 rfl (hI.kblk (l := [vs a1 m1.Dims.length c1]) .z rfl).1) ?_
 refine sq (y_lenl rfl u22 et) ?_
 refine sq (y_lss rfl et ev_const) ?_
 refine sm ?_
 refine s_gval (g_false rfl rfl rfl rfl) rfl (fun hc => y_fieldAddr rfl et u24 rfl size_22 rfl) ?_
 refine s_gval (g_false rfl rfl rfl rfl) rfl (fun hc => (y_load1 (v := (vs a1 m1.Dims.length c1)) rfl (ev_gv et hc) u22 rfl (hI.kblk (l := [vs a1 m1.Dims.length c1]) .z rfl).1)) ?_
 refine s_gval (g_false rfl rfl rfl rfl) rfl (fun hc => y_lenl rfl u22 (ev_gv et hc)) ?_
 refine s_gval (g_false rfl rfl rfl rfl) rfl (fun hc => y_gtr rfl (ev_gv et hc) ev_const) ?_
 refine sq (y_or rfl et et) ?_
 refine nk (cif h et (fun hb h => ?_) (fun hb h => ?_))
 ·refine sr (sac ?_)
  refine nk (c_ret ?_)
  obtain rfl := some_inj h
  exact q_ret (vs := [vi 23]) Tryz.results69 ⟨ev_tmp rfl rfl, trivial⟩ (fq hI trivial)
 refine c_skip (k_same (sr (sac ?_)))
 refine nk (c_seq (sr (sq (y_fieldAddr rfl et u24 rfl size_22 rfl) ?_)))
 refine sq (y_load1 (v := (vs a1 m1.Dims.length c1)) rfl et u22 rfl (hI.kblk (l := [vs a1 m1.Dims.length c1]) .z rfl).1) ?_
 refine sq (y_lenl rfl u22 et) ?_
 refine sq (y_move rfl ev_const) ?_
 refine nk (c_block (c_loop (α := Nat × Int × Int) (fun x => fun w => ∃ C, Bun noM F w0 C w [] [Cl.sl (cInt .i64) a1 c1 m1.Dims] ∧ m_mesh_Validate_l1 m1 (x.1) (x.2.1) (x.2.2) = some r) (fun x _ => x.1) (fun x => [(3, vi (x.2.1)), (17, vs a1 m1.Dims.length c1), (18, vi (m1.Dims.length : Int)), (19, vi (x.2.2))]) (fu, 1, 0) ⟨_, hI.arr .n ⟨(.s .z), trivial⟩, h⟩ ⟨rfl, rfl, rfl, rfl, trivial⟩ ?_))
 clear h hI; rintro ⟨fuel1, n1, i1⟩ w2 ⟨c4, hI, h⟩
 dsimp only at hI h
 rcases fuel1 with _ | fuel1
 ·rw [m_mesh_Validate_l1] at h; cases h
 rw [m_mesh_Validate_l1] at h
 refine c_sub (e := [(3, vi n1), (17, vs a1 m1.Dims.length c1), (18, vi (m1.Dims.length : Int)), (19, vi i1)]) ⟨rfl, rfl, rfl, rfl, trivial⟩ ?_
 refine sr (sq (y_lss rfl et et) ?_)
 refine nk (c_seq (cif h et (fun hb h => ?_) (fun hb h => ?_)))
 ·refine c_skip (k_same (c_seq (c_block (sr ?_))))
  obtain ⟨e1, hx1, h⟩ := bnd_some h
  obtain ⟨ad1, cs1, hA1, hr1, hq1⟩ := hI.clat .z hx1
  obtain rfl : cs1 = [vi e1] := hr1
  refine sq (y_indexAddr rfl u22 size_3 et et (lat_bd hx1) hA1) ?_
  refine sq (y_load1 (v := (vi e1)) rfl et u3 rfl hq1.1) ?_
  refine sa ?_
  refine nk (c_seq (sr (sm ?_)))
  refine sq (y_lss rfl et ev_const) ?_
  refine sm ?_
  refine s_gval (g_false rfl rfl rfl rfl) rfl (fun hc => y_move rfl et) ?_
  refine s_gval (g_false rfl rfl rfl rfl) rfl (fun hc => y_gtr rfl (ev_gv et hc) ev_const) ?_
  refine sq (y_or rfl et et) ?_
  refine nk (cif h et (fun hb h => ?_) (fun hb h => ?_))
  ·refine sr (sac ?_)
   refine nk (c_ret ?_)
   obtain rfl := some_inj h
   exact q_ret (vs := [vi 23]) Tryz.results69 ⟨ev_tmp rfl rfl, trivial⟩ (fq hI trivial)
  refine c_skip (k_same (c_region rfl ?_))
  refine sm ?_
  refine sm ?_
  refine sq (y_mul rfl et et) ?_
  refine sa ?_
  refine nk (c_region rfl ?_)
  refine sq (y_add rfl et ev_const) ?_
  refine sm ?_
  refine s_nil ?_
  exact k_loop (fuel1, wi64 (n1 * e1), wi64 (i1 + 1)) ⟨rfl, rfl, rfl, rfl, trivial⟩ ⟨_, hI.arr .n ⟨.z, trivial⟩, h⟩ (Nat.lt_succ_self _)
 refine c_exit ?_
 refine k_in ?_
 refine k_same (c_seq (sr (sm ?_)))
 refine sq (y_gtr rfl et ev_const) ?_
 refine nk (cif h et (fun hb h => ?_) (fun hb h => ?_))
 ·refine sr (sac ?_)
  refine nk (c_ret ?_)
  obtain rfl := some_inj h
  exact q_ret (vs := [vi 23]) Tryz.results69 ⟨ev_tmp rfl rfl, trivial⟩ (fq hI trivial)
 refine c_skip (k_same (sr (sac ?_)))
 refine nk (c_ret ?_)
 obtain rfl := some_inj h
 exact q_ret (vs := [vi 0]) Tryz.results69 ⟨ev_tmp rfl rfl, trivial⟩ (fq hI trivial)
theorem c_box_Validate (F : NP) (w0 : World) (hF : ∀ k, F k → k < w0.heap.size) (ext1 : List Int) (a1 : Option Addr) (c1 : Nat) (hc : AllCl [Cl.sl (cInt .i64) a1 c1 ext1] F w0) (r : Int)
  (h : m_box_Validate ext1 = some r) :
  Calls Tryz.prog 107 #[vs a1 ext1.length c1] w0 fun e w => e = .returned (vi r) ∧ Ext w0 w ∧ AllCl [] F w := by
 refine enterK Tryz.func107 rfl Tryz.ntmps107 rfl ?_
 have hI := Bun.start hF hc
 clear hc
 rw [m_box_Validate] at h
 refine sr (sac ?_)
 refine nk (c_seq (sr (sm ?_)))
 refine sq (y_lenl rfl u22 et) ?_
 refine sq (y_gtr rfl et ev_const) ?_
 refine nk (cif h et (fun hb h => ?_) (fun hb h => ?_))
 ·refine sr (sac ?_)
  refine nk (c_ret ?_)
  obtain rfl := some_inj h
  exact q_ret (vs := [vi 2]) Tryz.results107 ⟨ev_tmp rfl rfl, trivial⟩ (fq hI trivial)
 refine c_skip (k_same (sr (sac ?_)))
 refine sac ?_
 refine nk (c_join (α := Bool) (fun _ => ⟨46, []⟩) (fun x => [(0, vs a1 ext1.length c1), (3, vi 1), (4, vb x)]) (fun x => fun w => ∃ C, Bun noM F w0 C w [] [Cl.sl (cInt .i64) a1 c1 ext1] ∧ m_box_Validate_j1 ext1 x = some r) ?_ ?_)
 ·clear h hI; rintro empty1 w1 ⟨c2, hI, h⟩
  try dsimp only at hI h
  rw [m_box_Validate_j1] at h
  refine c_sub (e := [(0, vs a1 ext1.length c1), (3, vi 1), (4, vb empty1)]) ⟨rfl, rfl, rfl, trivial⟩ ?_
  refine c_seq (sr (sm ?_))
  refine sq (y_lenl rfl u22 et) ?_
  refine sq (y_move rfl ev_const) ?_
  refine nk (c_block (c_loop (α := Nat × Int × Int) (fun x => fun w => ∃ C, Bun noM F w0 C w [] [Cl.sl (cInt .i64) a1 c1 ext1] ∧ m_box_Validate_l1 ext1 empty1 (x.1) (x.2.1) (x.2.2) = some r) (fun x _ => x.1) (fun x => [(3, vi (x.2.1)), (4, vb empty1), (26, vs a1 ext1.length c1), (27, vi (ext1.length : Int)), (28, vi (x.2.2))]) (fu, 1, 0) ⟨_, hI.arr .n ⟨.z, trivial⟩, h⟩ ⟨rfl, rfl, rfl, rfl, rfl, trivial⟩ ?_))
  clear h hI; rintro ⟨fuel1, points1, i1⟩ w2 ⟨c3, hI, h⟩
  dsimp only at hI h
  rcases fuel1 with _ | fuel1
  ·rw [m_box_Validate_l1] at h; cases h
  rw [m_box_Validate_l1] at h
  refine c_sub (e := [(3, vi points1), (4, vb empty1), (26, vs a1 ext1.length c1), (27, vi (ext1.length : Int)), (28, vi i1)]) ⟨rfl, rfl, rfl, rfl, rfl, trivial⟩ ?_
  refine sr (sq (y_lss rfl et et) ?_)
  refine nk (c_seq (cif h et (fun hb h => ?_) (fun hb h => ?_)))
  ·refine c_skip (k_same (c_join (α := Int) (fun _ => ⟨46, []⟩) (fun x => [(3, vi x), (4, vb empty1), (26, vs a1 ext1.length c1), (27, vi (ext1.length : Int)), (28, vi i1)]) (fun x => fun w => ∃ C, Bun noM F w0 C w [] [Cl.sl (cInt .i64) a1 c1 ext1] ∧ m_box_Validate_j2 (m_box_Validate_l1 ext1 empty1 fuel1) i1 x = some r) ?_ ?_))
   ·clear h hI; rintro points2 w3 ⟨c4, hI, h⟩
    try dsimp only at hI h
    rw [m_box_Validate_j2] at h
    refine c_sub (e := [(3, vi points2), (4, vb empty1), (26, vs a1 ext1.length c1), (27, vi (ext1.length : Int)), (28, vi i1)]) ⟨rfl, rfl, rfl, rfl, rfl, trivial⟩ ?_
    refine c_region rfl ?_
    refine sq (y_add rfl et ev_const) ?_
    refine sm ?_
    refine s_nil ?_
    exact k_loop (fuel1, points2, wi64 (i1 + 1)) ⟨rfl, rfl, rfl, rfl, rfl, trivial⟩ ⟨_, hI.arr .n ⟨.z, trivial⟩, h⟩ (Nat.lt_succ_self _)
   refine c_block (sr ?_)
   obtain ⟨e1, hx1, h⟩ := bnd_some h
   obtain ⟨ad1, cs1, hA1, hr1, hq1⟩ := hI.clat .z hx1
   obtain rfl : cs1 = [vi e1] := hr1
   refine sq (y_indexAddr rfl u22 size_3 et et (lat_bd hx1) hA1) ?_
   refine sq (y_load1 (v := (vi e1)) rfl et u3 rfl hq1.1) ?_
   refine sa ?_
   refine nk (c_seq (sr (sm ?_)))
   refine sq (y_not rfl et) ?_
   refine sm ?_
   refine s_gval (g_true rfl rfl rfl rfl) rfl (fun hc => y_move rfl et) ?_
   refine s_gval (g_true rfl rfl rfl rfl) rfl (fun hc => y_move rfl et) ?_
   obtain ⟨ho1, h⟩ := chk_some h
   refine s_gval (g_true rfl rfl rfl rfl) rfl (fun hc => y_quo rfl ev_const (ev_gv et hc) (ho1 hc)) ?_
   refine s_gval (g_true rfl rfl rfl rfl) rfl (fun hc => y_gtr rfl (ev_gv et hc) (ev_gv et hc)) ?_
   refine sq (y_and rfl et et) ?_
   refine nk (cif h et (fun hb h => ?_) (fun hb h => ?_))
   ·refine sr (sac ?_)
    refine nk (c_ret ?_)
    obtain rfl := some_inj h
    exact q_ret (vs := [vi 2]) Tryz.results107 ⟨ev_tmp rfl rfl, trivial⟩ (fq hI trivial)
   refine c_skip (k_same (sr (sm ?_)))
   refine sq (y_not rfl et) ?_
   refine nk (cif h et (fun hb h => ?_) (fun hb h => ?_))
   ·refine c_region rfl ?_
    refine sm ?_
    refine sm ?_
    refine sq (y_mul rfl et et) ?_
    refine sa ?_
    refine s_nil ?_
    exact k_join (wi64 (points1 * e1)) ⟨rfl, rfl, rfl, rfl, rfl, trivial⟩ ⟨_, hI.arr .n ⟨.z, trivial⟩, h⟩ rfl
   exact c_skip (k_join points1 ⟨rfl, rfl, rfl, rfl, rfl, trivial⟩ ⟨_, hI.arr .n ⟨.z, trivial⟩, h⟩ rfl)
  refine c_exit ?_
  refine k_in ?_
  refine k_same (sr (sac ?_))
  refine nk (c_ret ?_)
  obtain rfl := some_inj h
  exact q_ret (vs := [vi 0]) Tryz.results107 ⟨ev_tmp rfl rfl, trivial⟩ (fq hI trivial)
 refine sr (sm ?_)
 refine sq (y_lenl rfl u22 et) ?_
 refine sq (y_move rfl ev_const) ?_
 refine nk (c_block (c_loop (α := Nat × Bool × Int) (fun x => fun w => ∃ C, Bun noM F w0 C w [] [Cl.sl (cInt .i64) a1 c1 ext1] ∧ m_box_Validate_l2 ext1 (x.1) (x.2.1) (x.2.2) = some r) (fun x _ => x.1) (fun x => [(0, vs a1 ext1.length c1), (3, vi 1), (4, vb (x.2.1)), (12, vs a1 ext1.length c1), (13, vi (ext1.length : Int)), (14, vi (x.2.2))]) (fu, false, 0) ⟨_, hI.arr .n ⟨.z, trivial⟩, h⟩ ⟨rfl, rfl, rfl, rfl, rfl, rfl, trivial⟩ ?_))
 clear h hI; rintro ⟨fuel2, empty2, i2⟩ w4 ⟨c5, hI, h⟩
 dsimp only at hI h
 rcases fuel2 with _ | fuel2
 ·rw [m_box_Validate_l2] at h; cases h
 rw [m_box_Validate_l2] at h
 refine c_sub (e := [(0, vs a1 ext1.length c1), (3, vi 1), (4, vb empty2), (12, vs a1 ext1.length c1), (13, vi (ext1.length : Int)), (14, vi i2)]) ⟨rfl, rfl, rfl, rfl, rfl, rfl, trivial⟩ ?_
 refine sr (sq (y_lss rfl et et) ?_)
 refine nk (c_seq (cif h et (fun hb h => ?_) (fun hb h => ?_)))
 ·refine c_skip (k_same (c_seq (c_block (sr ?_))))
  obtain ⟨e2, hx2, h⟩ := bnd_some h
  obtain ⟨ad2, cs2, hA2, hr2, hq2⟩ := hI.clat .z hx2
  obtain rfl : cs2 = [vi e2] := hr2
  refine sq (y_indexAddr rfl u22 size_3 et et (lat_bd hx2) hA2) ?_
  refine sq (y_load1 (v := (vi e2)) rfl et u3 rfl hq2.1) ?_
  refine sa ?_
  refine nk (c_seq (sr (sm ?_)))
  refine sq (y_lss rfl et ev_const) ?_
  refine nk (cif h et (fun hb h => ?_) (fun hb h => ?_))
  ·refine sr (sac ?_)
   refine nk (c_ret ?_)
   obtain rfl := some_inj h
   exact q_ret (vs := [vi 1]) Tryz.results107 ⟨ev_tmp rfl rfl, trivial⟩ (fq hI trivial)
  refine c_skip (k_same (c_region rfl ?_))
  refine sm ?_
  refine sm ?_
  refine s_gval (g_false rfl rfl rfl rfl) rfl (fun hc => y_move rfl et) ?_
  refine s_gval (g_false rfl rfl rfl rfl) rfl (fun hc => y_eql rfl (ev_gv et hc) ev_const) ?_
  refine sq (y_or rfl et et) ?_
  obtain ⟨empty3, hx3, h⟩ := bnd_some h
  refine sq (binU (y_assign rfl et) (congrArg Value.bool (some_inj hx3))) ?_
  refine nk (c_region rfl ?_)
  refine sq (y_add rfl et ev_const) ?_
  refine sm ?_
  refine s_nil ?_
  exact k_loop (fuel2, empty3, wi64 (i2 + 1)) ⟨rfl, rfl, rfl, rfl, rfl, rfl, trivial⟩ ⟨_, hI.arr .n ⟨.z, trivial⟩, h⟩ (Nat.lt_succ_self _)
 refine c_exit ?_
 refine k_in ?_
 exact k_join empty2 ⟨rfl, rfl, rfl, trivial⟩ ⟨_, hI.arr .n ⟨.z, trivial⟩, h⟩ rfl
theorem c_box_Count (F : NP) (w0 : World) (hF : ∀ k, F k → k < w0.heap.size) (ext1 : List Int) (a1 : Option Addr) (c1 : Nat) (hc : AllCl [Cl.sl (cInt .i64) a1 c1 ext1] F w0) (r : Int)
  (h : m_box_Count ext1 = some r) :
  Calls Tryz.prog 87 #[vs a1 ext1.length c1] w0 fun e w => e = .returned (vi r) ∧ Ext w0 w ∧ AllCl [] F w := by
 refine enterK Tryz.func87 rfl Tryz.ntmps87 rfl ?_
 have hI := Bun.start hF hc
 clear hc
 rw [m_box_Count] at h
 refine sr (sac ?_)
 refine nk (c_seq (sr (sm ?_)))
 obtain ⟨r1, hx1, h⟩ := bnd_some h
 refine s_call gn rfl (r_callF (vs := [vs a1 ext1.length c1]) rfl ok_107 ⟨et, trivial⟩) (Calls.mono (c_box_Validate (Dj F noM) w0 hI.lt ext1 a1 c1 ⟨(hI.get .z), trivial⟩ r1 hx1) ?_)
 rintro _ w1 ⟨rfl, hx2, hl1⟩
 refine ⟨_, rfl, ?_⟩
 replace hI := (hI.ext hx2)
 refine sq (y_neq rfl et ev_const) ?_
 refine nk (cif h et (fun hb h => ?_) (fun hb h => ?_))
 ·refine sr (sac ?_)
  refine nk (c_ret ?_)
  obtain rfl := some_inj h
  exact q_ret (vs := [vi 0]) Tryz.results87 ⟨ev_tmp rfl rfl, trivial⟩ (fq hI trivial)
 refine c_skip (k_same (sr (sac ?_)))
 refine nk (c_join (α := Unit) (fun _ => ⟨31, []⟩) (fun _ => [(0, vs a1 ext1.length c1), (3, vi 1)]) (fun _ => fun w => ∃ C, Bun noM F w0 C w [] [Cl.sl (cInt .i64) a1 c1 ext1] ∧ m_box_Count_j1 ext1 = some r) ?_ ?_)
 ·clear h hI; rintro _ w2 ⟨c2, hI, h⟩
  try dsimp only at hI h
  rw [m_box_Count_j1] at h
  refine c_sub (e := [(0, vs a1 ext1.length c1), (3, vi 1)]) ⟨rfl, rfl, trivial⟩ ?_
  refine c_seq (sr (sm ?_))
  refine sq (y_lenl rfl u22 et) ?_
  refine sq (y_move rfl ev_const) ?_
  refine nk (c_block (c_loop (α := Nat × Int × Int) (fun x => fun w => ∃ C, Bun noM F w0 C w [] [Cl.sl (cInt .i64) a1 c1 ext1] ∧ m_box_Count_l1 ext1 (x.1) (x.2.1) (x.2.2) = some r) (fun x _ => x.1) (fun x => [(3, vi (x.2.1)), (20, vs a1 ext1.length c1), (21, vi (ext1.length : Int)), (22, vi (x.2.2))]) (fu, 1, 0) ⟨_, hI.arr .n ⟨.z, trivial⟩, h⟩ ⟨rfl, rfl, rfl, rfl, trivial⟩ ?_))
  clear h hI; rintro ⟨fuel1, points1, i1⟩ w3 ⟨c3, hI, h⟩
  dsimp only at hI h
  rcases fuel1 with _ | fuel1
  ·rw [m_box_Count_l1] at h; cases h
  rw [m_box_Count_l1] at h
  refine c_sub (e := [(3, vi points1), (20, vs a1 ext1.length c1), (21, vi (ext1.length : Int)), (22, vi i1)]) ⟨rfl, rfl, rfl, rfl, trivial⟩ ?_
  refine sr (sq (y_lss rfl et et) ?_)
  refine nk (c_seq (cif h et (fun hb h => ?_) (fun hb h => ?_)))
  ·refine c_skip (k_same (c_seq (c_block (sr ?_))))
   obtain ⟨e1, hx3, h⟩ := bnd_some h
   obtain ⟨ad1, cs1, hA1, hr1, hq1⟩ := hI.clat .z hx3
   obtain rfl : cs1 = [vi e1] := hr1
   refine sq (y_indexAddr rfl u22 size_3 et et (lat_bd hx3) hA1) ?_
   refine sq (y_load1 (v := (vi e1)) rfl et u3 rfl hq1.1) ?_
   refine sa ?_
   refine nk (c_region rfl ?_)
   refine sm ?_
   refine sm ?_
   refine sq (y_mul rfl et et) ?_
   refine sa ?_
   refine nk (c_region rfl ?_)
   refine sq (y_add rfl et ev_const) ?_
   refine sm ?_
   refine s_nil ?_
   exact k_loop (fuel1, wi64 (points1 * e1), wi64 (i1 + 1)) ⟨rfl, rfl, rfl, rfl, trivial⟩ ⟨_, hI.arr .n ⟨.z, trivial⟩, h⟩ (Nat.lt_succ_self _)
  refine c_exit ?_
  refine k_in ?_
  refine k_same (sr (sm ?_))
  refine sa ?_
  refine nk (c_ret ?_)
  obtain rfl := some_inj h
  exact q_ret (vs := [vi points1]) Tryz.results87 ⟨ev_tmp rfl rfl, trivial⟩ (fq hI trivial)
 refine sr (sm ?_)
 refine sq (y_lenl rfl u22 et) ?_
 refine sq (y_move rfl ev_const) ?_
 refine nk (c_block (c_loop (α := Nat × Int) (fun x => fun w => ∃ C, Bun noM F w0 C w [] [Cl.sl (cInt .i64) a1 c1 ext1] ∧ m_box_Count_l2 ext1 (x.1) (x.2) = some r) (fun x _ => x.1) (fun x => [(0, vs a1 ext1.length c1), (3, vi 1), (11, vs a1 ext1.length c1), (12, vi (ext1.length : Int)), (13, vi (x.2))]) (fu, 0) ⟨_, hI.arr .n ⟨.z, trivial⟩, h⟩ ⟨rfl, rfl, rfl, rfl, rfl, trivial⟩ ?_))
 clear h hI; rintro ⟨fuel2, i2⟩ w4 ⟨c4, hI, h⟩
 dsimp only at hI h
 rcases fuel2 with _ | fuel2
 ·rw [m_box_Count_l2] at h; cases h
 rw [m_box_Count_l2] at h
 refine c_sub (e := [(0, vs a1 ext1.length c1), (3, vi 1), (11, vs a1 ext1.length c1), (12, vi (ext1.length : Int)), (13, vi i2)]) ⟨rfl, rfl, rfl, rfl, rfl, trivial⟩ ?_
 refine sr (sq (y_lss rfl et et) ?_)
 refine nk (c_seq (cif h et (fun hb h => ?_) (fun hb h => ?_)))
 ·refine c_skip (k_same (c_seq (c_block (sr ?_))))
  obtain ⟨e2, hx4, h⟩ := bnd_some h
  obtain ⟨ad2, cs2, hA2, hr2, hq2⟩ := hI.clat .z hx4
  obtain rfl : cs2 = [vi e2] := hr2
  refine sq (y_indexAddr rfl u22 size_3 et et (lat_bd hx4) hA2) ?_
  refine sq (y_load1 (v := (vi e2)) rfl et u3 rfl hq2.1) ?_
  refine sa ?_
  refine nk (sr (sm ?_))
  refine sq (y_eql rfl et ev_const) ?_
  refine nk (cif h et (fun hb h => ?_) (fun hb h => ?_))
  ·refine sr (sac ?_)
   refine nk (c_ret ?_)
   obtain rfl := some_inj h
   exact q_ret (vs := [vi 0]) Tryz.results87 ⟨ev_tmp rfl rfl, trivial⟩ (fq hI trivial)
  refine c_skip (k_same (c_region rfl ?_))
  refine sq (y_add rfl et ev_const) ?_
  refine sm ?_
  refine s_nil ?_
  exact k_loop (fuel2, wi64 (i2 + 1)) ⟨rfl, rfl, rfl, rfl, rfl, trivial⟩ ⟨_, hI.arr .n ⟨.z, trivial⟩, h⟩ (Nat.lt_succ_self _)
 refine c_exit ?_
 refine k_in ?_
 exact k_join () ⟨rfl, rfl, trivial⟩ ⟨_, hI.arr .n ⟨.z, trivial⟩, h⟩ rfl
theorem c_mesh_Devices (F : NP) (w0 : World) (hF : ∀ k, F k → k < w0.heap.size) (m1 : GMesh) (a1 : Option Addr) (c1 : Nat) (hc : AllCl [Cl.sl (cInt .i64) a1 c1 m1.Dims] F w0) (r : Int)
  (h : m_mesh_Devices m1 = some r) :
  Calls Tryz.prog 75 #[(Value.agg #[vs a1 m1.Dims.length c1])] w0 fun e w => e = .returned (vi r) ∧ Ext w0 w ∧ AllCl [] F w := by
 refine enterK Tryz.func75 rfl Tryz.ntmps75 rfl ?_
 have hI := Bun.start hF hc
 clear hc
 rw [m_mesh_Devices] at h
 refine sr (l_box (v := (Value.agg #[vs a1 m1.Dims.length c1])) (cs := #[vs a1 m1.Dims.length c1]) hI gn rfl rfl et rfl ?_)
 clear hI; intro b1 c2 w1 hI
 obtain ⟨c3, hI⟩ := hI.relBox .z
 refine sac ?_
 refine nk (c_seq (sr (sq (y_loadN (l := [vs a1 m1.Dims.length c1]) rfl et u24 rfl size_24 (hI.kblk (l := [vs a1 m1.Dims.length c1]) .z rfl).1) ?_)))
 obtain ⟨r1, hx1, h⟩ := bnd_some h
 refine s_call gn rfl (r_callF (vs := [(Value.agg #[vs a1 m1.Dims.length c1])]) rfl ok_69 ⟨et, trivial⟩) (Calls.mono (c_mesh_Validate (Dj F c3) w1 hI.lt m1 a1 c1 ⟨(hI.get (.s .z)), trivial⟩ r1 hx1) ?_)
 rintro _ w2 ⟨rfl, hx2, hl1⟩
 refine ⟨_, rfl, ?_⟩
 replace hI := (hI.ext hx2)
 refine sq (y_neq rfl et ev_const) ?_
 refine nk (cif h et (fun hb h => ?_) (fun hb h => ?_))
 ·refine sr (sac ?_)
  refine nk (c_ret ?_)
  obtain rfl := some_inj h
  exact q_ret (vs := [vi 0]) Tryz.results75 ⟨ev_tmp rfl rfl, trivial⟩ (fq hI trivial)
 refine c_skip (k_same (sr (sq (y_fieldAddr rfl et u24 rfl size_22 rfl) ?_)))
 refine sq (y_load1 (v := (vs a1 m1.Dims.length c1)) rfl et u22 rfl (hI.kblk (l := [vs a1 m1.Dims.length c1]) .z rfl).1) ?_
 obtain ⟨r2, hx3, h⟩ := bnd_some h
 refine s_call gn rfl (r_callF (vs := [vs a1 m1.Dims.length c1]) rfl ok_87 ⟨et, trivial⟩) (Calls.mono (c_box_Count (Dj F c3) w2 hI.lt m1.Dims a1 c1 ⟨(hI.get (.s .z)), trivial⟩ r2 hx3) ?_)
 rintro _ w3 ⟨rfl, hx4, hl2⟩
 refine ⟨_, rfl, ?_⟩
 replace hI := (hI.ext hx4)
 refine sa ?_
 refine nk (c_ret ?_)
 obtain rfl := some_inj h
 exact q_ret (vs := [vi r2]) Tryz.results75 ⟨ev_tmp rfl rfl, trivial⟩ (fq hI trivial)
theorem c_value_plain (F : NP) (w0 : World) (hF : ∀ k, F k → k < w0.heap.size) (t1 : GType) (hc : AllCl [] F w0) (r : Bool)
  (h : m_value_plain t1 = some r) :
  Calls Tryz.prog 108 #[(Value.agg (AType t1))] w0 fun e w => e = .returned (vb r) ∧ Ext w0 w ∧ AllCl [] F w := by
 refine enterK Tryz.func108 rfl Tryz.ntmps108 rfl ?_
 have hI := Bun.start hF hc
 clear hc
 rw [m_value_plain] at h
 refine sr (l_box (v := (Value.agg (AType t1))) (cs := (AType t1)) hI gn rfl rfl et rfl ?_)
 clear hI; intro b1 c1 w1 hI
 obtain ⟨c2, hI⟩ := hI.relBox .z
 refine sac ?_
 refine nk (sr (sq (y_loadN (l := (lType t1)) rfl et u38 rfl size_38 (hI.kblk (l := (lType t1)) .z rfl).1) ?_))
 refine sq (y_fieldAddr rfl et u38 rfl size_3 rfl) ?_
 refine sq (y_load1 (v := (vi t1.Kind)) rfl et u3 rfl (hI.kblk (l := [vi t1.Kind]) .z rfl).1) ?_
 refine sq (y_build (vs := [(0, vi t1.Kind)]) (cs := #[vi t1.Kind, vi 0, vi 0, vi 0, vi 0]) rfl ⟨rfl, et, trivial⟩ (by kernel_rfl)) ?_
 refine sq (y_bin rfl et et (eqstruct_38 ..) (eqguard_38 ..)) ?_
 refine sa ?_
 refine nk (c_ret ?_)
 obtain rfl := some_inj h
 exact q_ret (vs := [(vb ((decide (t1.Kind = t1.Kind)) && (decide (t1.Bits = 0)) && (decide (t1.Frac = 0)) && (decide (t1.Round = 0)) && (decide (t1.Over = 0))))]) Tryz.results108 ⟨ev_tmp rfl rfl, trivial⟩ (fq hI trivial)
theorem c_fixed_ValidateType (F : NP) (w0 : World) (hF : ∀ k, F k → k < w0.heap.size) (t1 : GType) (hc : AllCl [] F w0) (r : Int)
  (h : m_fixed_ValidateType t1 = some r) :
  Calls Tryz.prog 109 #[(Value.agg (AType t1))] w0 fun e w => e = .returned (vi r) ∧ Ext w0 w ∧ AllCl [] F w := by
 refine enterK Tryz.func109 rfl Tryz.ntmps109 rfl ?_
 have hI := Bun.start hF hc
 clear hc
 rw [m_fixed_ValidateType] at h
 refine sr (l_box (v := (Value.agg (AType t1))) (cs := (AType t1)) hI gn rfl rfl et rfl ?_)
 clear hI; intro b1 c1 w1 hI
 obtain ⟨c2, hI⟩ := hI.relBox .z
 refine sac ?_
 refine nk (sr (sq (y_fieldAddr rfl et u38 rfl size_3 rfl) ?_))
 refine sq (y_load1 (v := (vi t1.Round)) rfl et u3 rfl (hI.kblk (l := [vi t1.Round]) .z rfl).1) ?_
 refine sq (y_geq rfl et ev_const) ?_
 refine sm ?_
 refine s_gval (g_true rfl rfl rfl rfl) rfl (fun hc => y_fieldAddr rfl et u38 rfl size_3 rfl) ?_
 refine s_gval (g_true rfl rfl rfl rfl) rfl (fun hc => (y_load1 (v := (vi t1.Round)) rfl (ev_gv et hc) u3 rfl (hI.kblk (l := [vi t1.Round]) .z rfl).1)) ?_
 refine s_gval (g_true rfl rfl rfl rfl) rfl (fun hc => y_leq rfl (ev_gv et hc) ev_const) ?_
 refine sq (y_and rfl et et) ?_
 refine sm ?_
 refine s_gval (g_true rfl rfl rfl rfl) rfl (fun hc => y_fieldAddr rfl et u38 rfl size_3 rfl) ?_
 refine s_gval (g_true rfl rfl rfl rfl) rfl (fun hc => (y_load1 (v := (vi t1.Over)) rfl (ev_gv et hc) u3 rfl (hI.kblk (l := [vi t1.Over]) .z rfl).1)) ?_
 refine s_gval (g_true rfl rfl rfl rfl) rfl (fun hc => y_eql rfl (ev_gv et hc) ev_const) ?_
 refine s_gval (g_true rfl rfl rfl rfl) rfl (fun hc => y_move rfl (ev_gv et hc)) ?_
 refine s_gval (g_false2 rfl rfl rfl rfl) rfl (fun hc => y_fieldAddr rfl et u38 rfl size_3 rfl) ?_
 refine s_gval (g_false2 rfl rfl rfl rfl) rfl (fun hc => (y_load1 (v := (vi t1.Over)) rfl (ev_gv et hc) u3 rfl (hI.kblk (l := [vi t1.Over]) .z rfl).1)) ?_
 refine s_gval (g_false2 rfl rfl rfl rfl) rfl (fun hc => y_eql rfl (ev_gv et hc) ev_const) ?_
 refine s_gval (g_true rfl rfl rfl rfl) rfl (fun hc => y_or2 rfl hc et et) ?_
 refine sq (y_and rfl et et) ?_
 obtain ⟨modes1, hx1, h⟩ := bnd_some h
 refine sq (binU (y_assign rfl et) (congrArg Value.bool (some_inj hx1))) ?_
 refine nk (c_seq (sr (sq (y_fieldAddr rfl et u38 rfl size_3 rfl) ?_)))
 refine sq (y_load1 (v := (vi t1.Kind)) rfl et u3 rfl (hI.kblk (l := [vi t1.Kind]) .z rfl).1) ?_
 refine sq (y_neq rfl et ev_const) ?_
 refine sm ?_
 refine s_gval (g_false rfl rfl rfl rfl) rfl (fun hc => y_fieldAddr rfl et u38 rfl size_3 rfl) ?_
 refine s_gval (g_false rfl rfl rfl rfl) rfl (fun hc => (y_load1 (v := (vi t1.Bits)) rfl (ev_gv et hc) u3 rfl (hI.kblk (l := [vi t1.Bits]) .z rfl).1)) ?_
 refine s_gval (g_false rfl rfl rfl rfl) rfl (fun hc => y_lss rfl (ev_gv et hc) ev_const) ?_
 refine sq (y_or rfl et et) ?_
 refine sm ?_
 refine s_gval (g_false rfl rfl rfl rfl) rfl (fun hc => y_fieldAddr rfl et u38 rfl size_3 rfl) ?_
 refine s_gval (g_false rfl rfl rfl rfl) rfl (fun hc => (y_load1 (v := (vi t1.Bits)) rfl (ev_gv et hc) u3 rfl (hI.kblk (l := [vi t1.Bits]) .z rfl).1)) ?_
 refine s_gval (g_false rfl rfl rfl rfl) rfl (fun hc => y_gtr rfl (ev_gv et hc) ev_const) ?_
 refine sq (y_or rfl et et) ?_
 refine sm ?_
 refine s_gval (g_false rfl rfl rfl rfl) rfl (fun hc => y_fieldAddr rfl et u38 rfl size_3 rfl) ?_
 refine s_gval (g_false rfl rfl rfl rfl) rfl (fun hc => (y_load1 (v := (vi t1.Frac)) rfl (ev_gv et hc) u3 rfl (hI.kblk (l := [vi t1.Frac]) .z rfl).1)) ?_
 refine s_gval (g_false rfl rfl rfl rfl) rfl (fun hc => y_lss rfl (ev_gv et hc) ev_const) ?_
 refine sq (y_or rfl et et) ?_
 refine sm ?_
 refine s_gval (g_false rfl rfl rfl rfl) rfl (fun hc => y_fieldAddr rfl et u38 rfl size_3 rfl) ?_
 refine s_gval (g_false rfl rfl rfl rfl) rfl (fun hc => (y_load1 (v := (vi t1.Frac)) rfl (ev_gv et hc) u3 rfl (hI.kblk (l := [vi t1.Frac]) .z rfl).1)) ?_
 refine s_gval (g_false rfl rfl rfl rfl) rfl (fun hc => y_gtr rfl (ev_gv et hc) ev_const) ?_
 refine sq (y_or rfl et et) ?_
 refine sm ?_
 refine s_gval (g_false rfl rfl rfl rfl) rfl (fun hc => y_move rfl et) ?_
 refine s_gval (g_false rfl rfl rfl rfl) rfl (fun hc => y_not rfl (ev_gv et hc)) ?_
 refine sq (y_or rfl et et) ?_
 refine s_nil ?_
 refine k_next (e := [(48, (vb ((((((!decide (t1.Kind = 2)) || (decide (t1.Bits < 2))) || (decide (31 < t1.Bits))) || (decide (t1.Frac < 0))) || (decide (30 < t1.Frac))) || (!modes1))))]) ⟨rfl, trivial⟩ ?_
 refine cif h et (fun hb h => ?_) (fun hb h => ?_)
 ·refine sr (sac ?_)
  refine nk (c_ret ?_)
  obtain rfl := some_inj h
  exact q_ret (vs := [vi 10]) Tryz.results109 ⟨ev_tmp rfl rfl, trivial⟩ (fq hI trivial)
 refine c_skip (k_same (sr (sac ?_)))
 refine nk (c_ret ?_)
 obtain rfl := some_inj h
 exact q_ret (vs := [vi 0]) Tryz.results109 ⟨ev_tmp rfl rfl, trivial⟩ (fq hI trivial)
theorem c_value_ValidateType (F : NP) (w0 : World) (hF : ∀ k, F k → k < w0.heap.size) (t1 : GType) (hc : AllCl [] F w0) (r : Int)
  (h : m_value_ValidateType t1 = some r) :
  Calls Tryz.prog 88 #[(Value.agg (AType t1))] w0 fun e w => e = .returned (vi r) ∧ Ext w0 w ∧ AllCl [] F w := by
 refine enterK Tryz.func88 rfl Tryz.ntmps88 rfl ?_
 have hI := Bun.start hF hc
 clear hc
 rw [m_value_ValidateType] at h
 refine sr (l_box (v := (Value.agg (AType t1))) (cs := (AType t1)) hI gn rfl rfl et rfl ?_)
 clear hI; intro b1 c1 w1 hI
 obtain ⟨c2, hI⟩ := hI.relBox .z
 refine sac ?_
 refine nk (c_seq (sr (sq (y_fieldAddr rfl et u38 rfl size_3 rfl) ?_)))
 refine sq (y_load1 (v := (vi t1.Kind)) rfl et u3 rfl (hI.kblk (l := [vi t1.Kind]) .z rfl).1) ?_
 refine nk (c_block (c_join (α := Bool) (fun _ => ⟨15, []⟩) (fun x => [(1, vp b1 0), (4, vi t1.Kind), (5, vb x)]) (fun x => fun w => ∃ C, Bun noM F w0 C w [] [Cl.blk b1 38 (AType t1)] ∧ m_value_ValidateType_j1 t1 x = some r) ?_ ?_))
 ·clear h hI; rintro i1 w2 ⟨c3, hI, h⟩
  try dsimp only at hI h
  rw [m_value_ValidateType_j1] at h
  refine c_sub (e := [(1, vp b1 0), (4, vi t1.Kind), (5, vb i1)]) ⟨rfl, rfl, rfl, trivial⟩ ?_
  refine cif h et (fun hb h => ?_) (fun hb h => ?_)
  ·refine sr (sq (y_loadN (l := (lType t1)) rfl et u38 rfl size_38 (hI.kblk (l := (lType t1)) .z rfl).1) ?_)
   obtain ⟨r1, hx1, h⟩ := bnd_some h
   refine s_call gn rfl (r_callF (vs := [(Value.agg (AType t1))]) rfl ok_108 ⟨et, trivial⟩) (Calls.mono (c_value_plain (Dj F c3) w2 hI.lt t1 trivial r1 hx1) ?_)
   rintro _ w3 ⟨rfl, hx2, hl1⟩
   refine ⟨_, rfl, ?_⟩
   replace hI := (hI.ext hx2)
   refine nk (cif h et (fun hb h => ?_) (fun hb h => ?_))
   ·refine sr (sac ?_)
    refine nk (c_ret ?_)
    obtain rfl := some_inj h
    exact q_ret (vs := [vi 0]) Tryz.results88 ⟨ev_tmp rfl rfl, trivial⟩ (fq hI trivial)
   refine c_skip (k_same (sr (sac ?_)))
   refine nk (c_ret ?_)
   obtain rfl := some_inj h
   exact q_ret (vs := [vi 10]) Tryz.results88 ⟨ev_tmp rfl rfl, trivial⟩ (fq hI trivial)
  refine sr (sq (y_eql rfl et ev_const) ?_)
  refine sa ?_
  refine nk (cif h et (fun hb h => ?_) (fun hb h => ?_))
  ·refine sr (sq (y_loadN (l := (lType t1)) rfl et u38 rfl size_38 (hI.kblk (l := (lType t1)) .z rfl).1) ?_)
   obtain ⟨r2, hx3, h⟩ := bnd_some h
   refine s_call gn rfl (r_callF (vs := [(Value.agg (AType t1))]) rfl ok_109 ⟨et, trivial⟩) (Calls.mono (c_fixed_ValidateType (Dj F c3) w2 hI.lt t1 trivial r2 hx3) ?_)
   rintro _ w4 ⟨rfl, hx4, hl2⟩
   refine ⟨_, rfl, ?_⟩
   replace hI := (hI.ext hx4)
   refine sq (y_eql rfl et ev_const) ?_
   refine nk (cif h et (fun hb h => ?_) (fun hb h => ?_))
   ·refine sr (sac ?_)
    refine nk (c_ret ?_)
    obtain rfl := some_inj h
    exact q_ret (vs := [vi 0]) Tryz.results88 ⟨ev_tmp rfl rfl, trivial⟩ (fq hI trivial)
   refine c_skip (k_same (sr (sac ?_)))
   refine nk (c_ret ?_)
   obtain rfl := some_inj h
   exact q_ret (vs := [vi 10]) Tryz.results88 ⟨ev_tmp rfl rfl, trivial⟩ (fq hI trivial)
  refine c_skip (k_same (sr (sac ?_)))
  refine nk (c_ret ?_)
  obtain rfl := some_inj h
  exact q_ret (vs := [vi 10]) Tryz.results88 ⟨ev_tmp rfl rfl, trivial⟩ (fq hI trivial)
 refine sr (sq (y_eql rfl et ev_const) ?_)
 refine sa ?_
 refine nk (cif h et (fun hb h => ?_) (fun hb h => ?_))
 ·exact c_skip (k_join (decide (t1.Kind = 1)) ⟨rfl, rfl, rfl, trivial⟩ ⟨_, hI.arr .n ⟨.z, trivial⟩, h⟩ rfl)
 refine c_region rfl ?_
 refine sq (y_eql rfl et ev_const) ?_
 refine sa ?_
 refine s_nil ?_
 exact k_join (decide (t1.Kind = 3)) ⟨rfl, rfl, rfl, trivial⟩ ⟨_, hI.arr .n ⟨.z, trivial⟩, h⟩ rfl
theorem c_shape_Validate (F : NP) (w0 : World) (hF : ∀ k, F k → k < w0.heap.size) (d1 : List Int) (a1 : Option Addr) (c1 : Nat) (hc : AllCl [Cl.sl (cInt .i64) a1 c1 d1] F w0) (r : Int)
  (h : m_shape_Validate d1 = some r) :
  Calls Tryz.prog 82 #[vs a1 d1.length c1] w0 fun e w => e = .returned (vi r) ∧ Ext w0 w ∧ AllCl [] F w := by
 refine enterK Tryz.func82 rfl Tryz.ntmps82 rfl ?_
 have hI := Bun.start hF hc
 clear hc
 rw [m_shape_Validate] at h
 refine sr (sac ?_)
 refine nk (c_seq (sr (sm ?_)))
 refine sq (y_lenl rfl u22 et) ?_
 refine sq (y_gtr rfl et ev_const) ?_
 refine nk (cif h et (fun hb h => ?_) (fun hb h => ?_))
 ·refine sr (sac ?_)
  refine nk (c_ret ?_)
  obtain rfl := some_inj h
  exact q_ret (vs := [vi 2]) Tryz.results82 ⟨ev_tmp rfl rfl, trivial⟩ (fq hI trivial)
 refine c_skip (k_same (c_join (α := Unit) (fun _ => ⟨34, []⟩) (fun _ => [(0, vs a1 d1.length c1)]) (fun _ => fun w => ∃ C, Bun noM F w0 C w [] [Cl.sl (cInt .i64) a1 c1 d1] ∧ m_shape_Validate_j1 d1 = some r) ?_ ?_))
 ·clear h hI; rintro _ w1 ⟨c2, hI, h⟩
  try dsimp only at hI h
  rw [m_shape_Validate_j1] at h
  refine c_sub (e := [(0, vs a1 d1.length c1)]) ⟨rfl, trivial⟩ ?_
  refine sr (sac ?_)
  refine nk (c_seq (sr (sm ?_)))
  refine sq (y_lenl rfl u22 et) ?_
  refine sq (y_move rfl ev_const) ?_
  refine nk (c_block (c_loop (α := Nat × Int × Int) (fun x => fun w => ∃ C, Bun noM F w0 C w [] [Cl.sl (cInt .i64) a1 c1 d1] ∧ m_shape_Validate_l1 d1 (x.1) (x.2.1) (x.2.2) = some r) (fun x _ => x.1) (fun x => [(5, vi (x.2.1)), (20, vs a1 d1.length c1), (21, vi (d1.length : Int)), (22, vi (x.2.2))]) (fu, 1, 0) ⟨_, hI.arr .n ⟨.z, trivial⟩, h⟩ ⟨rfl, rfl, rfl, rfl, trivial⟩ ?_))
  clear h hI; rintro ⟨fuel1, size1, i1⟩ w2 ⟨c3, hI, h⟩
  dsimp only at hI h
  rcases fuel1 with _ | fuel1
  ·rw [m_shape_Validate_l1] at h; cases h
  rw [m_shape_Validate_l1] at h
  refine c_sub (e := [(5, vi size1), (20, vs a1 d1.length c1), (21, vi (d1.length : Int)), (22, vi i1)]) ⟨rfl, rfl, rfl, rfl, trivial⟩ ?_
  refine sr (sq (y_lss rfl et et) ?_)
  refine nk (c_seq (cif h et (fun hb h => ?_) (fun hb h => ?_)))
  ·refine c_skip (k_same (c_seq (c_block (sr ?_))))
   obtain ⟨e1, hx1, h⟩ := bnd_some h
   obtain ⟨ad1, cs1, hA1, hr1, hq1⟩ := hI.clat .z hx1
   obtain rfl : cs1 = [vi e1] := hr1
   refine sq (y_indexAddr rfl u22 size_3 et et (lat_bd hx1) hA1) ?_
   refine sq (y_load1 (v := (vi e1)) rfl et u3 rfl hq1.1) ?_
   refine sa ?_
   refine nk (c_seq (sr (sm ?_)))
   refine sm ?_
   obtain ⟨ho1, h⟩ := chk_some h
   refine sq (y_quo rfl ev_const et ho1) ?_
   refine sq (y_gtr rfl et et) ?_
   refine nk (cif h et (fun hb h => ?_) (fun hb h => ?_))
   ·refine sr (sac ?_)
    refine nk (c_ret ?_)
    obtain rfl := some_inj h
    exact q_ret (vs := [vi 2]) Tryz.results82 ⟨ev_tmp rfl rfl, trivial⟩ (fq hI trivial)
   refine c_skip (k_same (c_region rfl ?_))
   refine sm ?_
   refine sm ?_
   refine sq (y_mul rfl et et) ?_
   refine sa ?_
   refine nk (c_region rfl ?_)
   refine sq (y_add rfl et ev_const) ?_
   refine sm ?_
   refine s_nil ?_
   exact k_loop (fuel1, wi64 (size1 * e1), wi64 (i1 + 1)) ⟨rfl, rfl, rfl, rfl, trivial⟩ ⟨_, hI.arr .n ⟨.z, trivial⟩, h⟩ (Nat.lt_succ_self _)
  refine c_exit ?_
  refine k_in ?_
  refine k_same (sr (sac ?_))
  refine nk (c_ret ?_)
  obtain rfl := some_inj h
  exact q_ret (vs := [vi 0]) Tryz.results82 ⟨ev_tmp rfl rfl, trivial⟩ (fq hI trivial)
 refine sr (sm ?_)
 refine sq (y_lenl rfl u22 et) ?_
 refine sq (y_move rfl ev_const) ?_
 refine nk (c_block (c_loop (α := Nat × Int) (fun x => fun w => ∃ C, Bun noM F w0 C w [] [Cl.sl (cInt .i64) a1 c1 d1] ∧ m_shape_Validate_l2 d1 (x.1) (x.2) = some r) (fun x _ => x.1) (fun x => [(0, vs a1 d1.length c1), (11, vs a1 d1.length c1), (12, vi (d1.length : Int)), (13, vi (x.2))]) (fu, 0) ⟨_, hI.arr .n ⟨.z, trivial⟩, h⟩ ⟨rfl, rfl, rfl, rfl, trivial⟩ ?_))
 clear h hI; rintro ⟨fuel2, i2⟩ w3 ⟨c4, hI, h⟩
 dsimp only at hI h
 rcases fuel2 with _ | fuel2
 ·rw [m_shape_Validate_l2] at h; cases h
 rw [m_shape_Validate_l2] at h
 refine c_sub (e := [(0, vs a1 d1.length c1), (11, vs a1 d1.length c1), (12, vi (d1.length : Int)), (13, vi i2)]) ⟨rfl, rfl, rfl, rfl, trivial⟩ ?_
 refine sr (sq (y_lss rfl et et) ?_)
 refine nk (c_seq (cif h et (fun hb h => ?_) (fun hb h => ?_)))
 ·refine c_skip (k_same (c_seq (c_block (sr ?_))))
  obtain ⟨e2, hx2, h⟩ := bnd_some h
  obtain ⟨ad2, cs2, hA2, hr2, hq2⟩ := hI.clat .z hx2
  obtain rfl : cs2 = [vi e2] := hr2
  refine sq (y_indexAddr rfl u22 size_3 et et (lat_bd hx2) hA2) ?_
  refine sq (y_load1 (v := (vi e2)) rfl et u3 rfl hq2.1) ?_
  refine sa ?_
  refine nk (sr (sm ?_))
  refine sq (y_lss rfl et ev_const) ?_
  refine nk (cif h et (fun hb h => ?_) (fun hb h => ?_))
  ·refine sr (sac ?_)
   refine nk (c_ret ?_)
   obtain rfl := some_inj h
   exact q_ret (vs := [vi 1]) Tryz.results82 ⟨ev_tmp rfl rfl, trivial⟩ (fq hI trivial)
  refine c_skip (k_same (c_region rfl ?_))
  refine sq (y_add rfl et ev_const) ?_
  refine sm ?_
  refine s_nil ?_
  exact k_loop (fuel2, wi64 (i2 + 1)) ⟨rfl, rfl, rfl, rfl, trivial⟩ ⟨_, hI.arr .n ⟨.z, trivial⟩, h⟩ (Nat.lt_succ_self _)
 refine c_exit ?_
 refine k_in ?_
 exact k_join () ⟨rfl, trivial⟩ ⟨_, hI.arr .n ⟨.z, trivial⟩, h⟩ rfl
theorem c_shape_Size (F : NP) (w0 : World) (hF : ∀ k, F k → k < w0.heap.size) (d1 : List Int) (a1 : Option Addr) (c1 : Nat) (hc : AllCl [Cl.sl (cInt .i64) a1 c1 d1] F w0) (r : Int)
  (h : m_shape_Size d1 = some r) :
  Calls Tryz.prog 84 #[vs a1 d1.length c1] w0 fun e w => e = .returned (vi r) ∧ Ext w0 w ∧ AllCl [] F w := by
 refine enterK Tryz.func84 rfl Tryz.ntmps84 rfl ?_
 have hI := Bun.start hF hc
 clear hc
 rw [m_shape_Size] at h
 refine sr (sac ?_)
 refine nk (c_seq (sr (sm ?_)))
 obtain ⟨r1, hx1, h⟩ := bnd_some h
 refine s_call gn rfl (r_callF (vs := [vs a1 d1.length c1]) rfl ok_82 ⟨et, trivial⟩) (Calls.mono (c_shape_Validate (Dj F noM) w0 hI.lt d1 a1 c1 ⟨(hI.get .z), trivial⟩ r1 hx1) ?_)
 rintro _ w1 ⟨rfl, hx2, hl1⟩
 refine ⟨_, rfl, ?_⟩
 replace hI := (hI.ext hx2)
 refine sq (y_neq rfl et ev_const) ?_
 refine nk (cif h et (fun hb h => ?_) (fun hb h => ?_))
 ·refine sr (sac ?_)
  refine nk (c_ret ?_)
  obtain rfl := some_inj h
  exact q_ret (vs := [vi 0]) Tryz.results84 ⟨ev_tmp rfl rfl, trivial⟩ (fq hI trivial)
 refine c_skip (k_same (sr (sac ?_)))
 refine nk (c_seq (sr (sm ?_)))
 refine sq (y_lenl rfl u22 et) ?_
 refine sq (y_move rfl ev_const) ?_
 refine nk (c_block (c_loop (α := Nat × Int × Int) (fun x => fun w => ∃ C, Bun noM F w0 C w [] [Cl.sl (cInt .i64) a1 c1 d1] ∧ m_shape_Size_l1 d1 (x.1) (x.2.1) (x.2.2) = some r) (fun x _ => x.1) (fun x => [(3, vi (x.2.1)), (9, vs a1 d1.length c1), (10, vi (d1.length : Int)), (11, vi (x.2.2))]) (fu, 1, 0) ⟨_, hI.arr .n ⟨.z, trivial⟩, h⟩ ⟨rfl, rfl, rfl, rfl, trivial⟩ ?_))
 clear h hI; rintro ⟨fuel1, size1, i1⟩ w2 ⟨c2, hI, h⟩
 dsimp only at hI h
 rcases fuel1 with _ | fuel1
 ·rw [m_shape_Size_l1] at h; cases h
 rw [m_shape_Size_l1] at h
 refine c_sub (e := [(3, vi size1), (9, vs a1 d1.length c1), (10, vi (d1.length : Int)), (11, vi i1)]) ⟨rfl, rfl, rfl, rfl, trivial⟩ ?_
 refine sr (sq (y_lss rfl et et) ?_)
 refine nk (c_seq (cif h et (fun hb h => ?_) (fun hb h => ?_)))
 ·refine c_skip (k_same (c_seq (c_block (sr ?_))))
  obtain ⟨e1, hx3, h⟩ := bnd_some h
  obtain ⟨ad1, cs1, hA1, hr1, hq1⟩ := hI.clat .z hx3
  obtain rfl : cs1 = [vi e1] := hr1
  refine sq (y_indexAddr rfl u22 size_3 et et (lat_bd hx3) hA1) ?_
  refine sq (y_load1 (v := (vi e1)) rfl et u3 rfl hq1.1) ?_
  refine sa ?_
  refine nk (c_region rfl ?_)
  refine sm ?_
  refine sm ?_
  refine sq (y_mul rfl et et) ?_
  refine sa ?_
  refine nk (c_region rfl ?_)
  refine sq (y_add rfl et ev_const) ?_
  refine sm ?_
  refine s_nil ?_
  exact k_loop (fuel1, wi64 (size1 * e1), wi64 (i1 + 1)) ⟨rfl, rfl, rfl, rfl, trivial⟩ ⟨_, hI.arr .n ⟨.z, trivial⟩, h⟩ (Nat.lt_succ_self _)
 refine c_exit ?_
 refine k_in ?_
 refine k_same (sr (sm ?_))
 refine sa ?_
 refine nk (c_ret ?_)
 obtain rfl := some_inj h
 exact q_ret (vs := [vi size1]) Tryz.results84 ⟨ev_tmp rfl rfl, trivial⟩ (fq hI trivial)
theorem c_round_valid (F : NP) (w0 : World) (hF : ∀ k, F k → k < w0.heap.size) (bits1 : Int) (hc : AllCl [] F w0) (r : Bool)
  (h : m_round_valid bits1 = some r) :
  Calls Tryz.prog 146 #[vi bits1] w0 fun e w => e = .returned (vb r) ∧ Ext w0 w ∧ AllCl [] F w := by
 refine enterK Tryz.func146 rfl Tryz.ntmps146 rfl ?_
 have hI := Bun.start hF hc
 clear hc
 rw [m_round_valid] at h
 refine sr (sac ?_)
 refine nk (sr (sm ?_))
 refine sq (y_geq rfl et ev_const) ?_
 refine sm ?_
 refine s_gval (g_true rfl rfl rfl rfl) rfl (fun hc => y_move rfl et) ?_
 refine s_gval (g_true rfl rfl rfl rfl) rfl (fun hc => y_leq rfl (ev_gv et hc) ev_const) ?_
 refine sq (y_and rfl et et) ?_
 refine sa ?_
 refine nk (c_ret ?_)
 obtain rfl := some_inj h
 exact q_ret (vs := [(vb ((decide (2 ≤ bits1)) && (decide (bits1 ≤ 31))))]) Tryz.results146 ⟨ev_tmp rfl rfl, trivial⟩ (fq hI trivial)
theorem c_round_MinInt (F : NP) (w0 : World) (hF : ∀ k, F k → k < w0.heap.size) (bits1 : Int) (hc : AllCl [] F w0) (r : Int)
  (h : m_round_MinInt bits1 = some r) :
  Calls Tryz.prog 127 #[vi bits1] w0 fun e w => e = .returned (vi r) ∧ Ext w0 w ∧ AllCl [] F w := by
 refine enterK Tryz.func127 rfl Tryz.ntmps127 rfl ?_
 have hI := Bun.start hF hc
 clear hc
 rw [m_round_MinInt] at h
 refine sr (sac ?_)
 refine nk (c_seq (sr (sm ?_)))
 obtain ⟨r1, hx1, h⟩ := bnd_some h
 refine s_call gn rfl (r_callF (vs := [vi bits1]) rfl ok_146 ⟨et, trivial⟩) (Calls.mono (c_round_valid (Dj F noM) w0 hI.lt bits1 trivial r1 hx1) ?_)
 rintro _ w1 ⟨rfl, hx2, hl1⟩
 refine ⟨_, rfl, ?_⟩
 replace hI := (hI.ext hx2)
 refine sq (y_not rfl et) ?_
 refine nk (cif h et (fun hb h => ?_) (fun hb h => ?_))
 ·refine sr (sac ?_)
  refine nk (c_ret ?_)
  obtain rfl := some_inj h
  exact q_ret (vs := [vi 0]) Tryz.results127 ⟨ev_tmp rfl rfl, trivial⟩ (fq hI trivial)
 refine c_skip (k_same (sr (sm ?_)))
 refine sq (y_sub rfl et ev_const) ?_
 refine sq (y_conv rfl (by rw [u3]; rfl) u133 et) ?_
 obtain ⟨ho1, h⟩ := chk_some h
 refine sq (y_shl rfl ev_const et ho1) ?_
 refine sq (y_neg rfl et) ?_
 refine sa ?_
 refine nk (c_ret ?_)
 obtain rfl := some_inj h
 exact q_ret (vs := [(vi (wi64 (-(wi64 (1 * 2 ^ (min (Int.toNat (wu64 (wi64 (bits1 - 1)))) 64))))))]) Tryz.results127 ⟨ev_tmp rfl rfl, trivial⟩ (fq hI trivial)
theorem c_round_MaxInt (F : NP) (w0 : World) (hF : ∀ k, F k → k < w0.heap.size) (bits1 : Int) (hc : AllCl [] F w0) (r : Int)
  (h : m_round_MaxInt bits1 = some r) :
  Calls Tryz.prog 128 #[vi bits1] w0 fun e w => e = .returned (vi r) ∧ Ext w0 w ∧ AllCl [] F w := by
 refine enterK Tryz.func128 rfl Tryz.ntmps128 rfl ?_
 have hI := Bun.start hF hc
 clear hc
 rw [m_round_MaxInt] at h
 refine sr (sac ?_)
 refine nk (c_seq (sr (sm ?_)))
 obtain ⟨r1, hx1, h⟩ := bnd_some h
 refine s_call gn rfl (r_callF (vs := [vi bits1]) rfl ok_146 ⟨et, trivial⟩) (Calls.mono (c_round_valid (Dj F noM) w0 hI.lt bits1 trivial r1 hx1) ?_)
 rintro _ w1 ⟨rfl, hx2, hl1⟩
 refine ⟨_, rfl, ?_⟩
 replace hI := (hI.ext hx2)
 refine sq (y_not rfl et) ?_
 refine nk (cif h et (fun hb h => ?_) (fun hb h => ?_))
 ·refine sr (sac ?_)
  refine nk (c_ret ?_)
  obtain rfl := some_inj h
  exact q_ret (vs := [vi 0]) Tryz.results128 ⟨ev_tmp rfl rfl, trivial⟩ (fq hI trivial)
 refine c_skip (k_same (sr (sm ?_)))
 refine sq (y_sub rfl et ev_const) ?_
 refine sq (y_conv rfl (by rw [u3]; rfl) u133 et) ?_
 obtain ⟨ho1, h⟩ := chk_some h
 refine sq (y_shl rfl ev_const et ho1) ?_
 refine sq (y_sub rfl et ev_const) ?_
 refine sa ?_
 refine nk (c_ret ?_)
 obtain rfl := some_inj h
 exact q_ret (vs := [(vi (wi64 ((wi64 (1 * 2 ^ (min (Int.toNat (wu64 (wi64 (bits1 - 1)))) 64))) - 1)))]) Tryz.results128 ⟨ev_tmp rfl rfl, trivial⟩ (fq hI trivial)
theorem c_fixed_Valid (F : NP) (w0 : World) (hF : ∀ k, F k → k < w0.heap.size) (t1 : GType) (v1 : GVal) (hc : AllCl [] F w0) (r : Bool)
  (h : m_fixed_Valid t1 v1 = some r) :
  Calls Tryz.prog 110 #[(Value.agg (AType t1)), (Value.agg (AVal v1))] w0 fun e w => e = .returned (vb r) ∧ Ext w0 w ∧ AllCl [] F w := by
 refine enterK Tryz.func110 rfl Tryz.ntmps110 rfl ?_
 have hI := Bun.start hF hc
 clear hc
 rw [m_fixed_Valid] at h
 refine sr (l_box (v := (Value.agg (AType t1))) (cs := (AType t1)) hI gn rfl rfl et rfl ?_)
 clear hI; intro b1 c1 w1 hI
 obtain ⟨c2, hI⟩ := hI.relBox .z
 refine l_box (v := (Value.agg (AVal v1))) (cs := (AVal v1)) hI gn rfl rfl et rfl ?_
 clear hI; intro b2 c3 w2 hI
 obtain ⟨c4, hI⟩ := hI.relBox .z
 refine sac ?_
 refine nk (c_seq (c_drawX [] false (.c (0, .q) (.c (1, .s) (.c (2, .q) (.c (3, .q) (.c (4, .q) (.c (5, .q) (.c (6, .q) (.c (7, .q) (.c (8, .q) (.c (9, .q) (.c (10, .q) (.c (11, .q) (.c (12, .q) (.c (13, .s) (.c (14, .q) (.c (15, .q) (.c (16, .q) (.c (17, .q) (.c (18, .q) (.c (19, .q) (.c (20, .q) (.c (21, .s) (.c (22, .q) (.c (23, .q) (.c (24, .q) .n))))))))))))))))))))))))) hI (by kernel_rfl) (by kernel_rfl) ?_))
 clear hI; intro w3 hI
 refine a_read rfl gn rfl (fun w' hw' => (y_loadN (l := (lType t1)) rfl et u38 rfl size_38 ((hI.kblk (l := (lType t1)) (.s .z) rfl).at_ (SX.any rfl hw')))) (by kernel_rfl) ?_
 obtain ⟨r1, hx1, h⟩ := bnd_some h
 refine la_call rfl gn rfl (r_callF (vs := [(Value.agg (AType t1))]) rfl ok_109 ⟨et, trivial⟩) (Calls.mono (c_fixed_ValidateType (Dj F c4) w3 hI.lt t1 trivial r1 hx1) ?_)
 rintro _ w4 ⟨rfl, hx2, hl1⟩
 refine ⟨_, rfl, hx2, ?_⟩
 replace hI := (hI.ext hx2)
 refine a_q rfl gn rfl (fun w' => y_eql rfl et ev_const) ?_
 refine a_q rfl gn rfl (fun w' => y_move rfl et) ?_
 refine a_gval rfl (g_true rfl rfl rfl rfl) rfl (fun hc => fun w' => (y_fieldAddr rfl et u68 rfl size_2 rfl)) ?_
 refine a_gread rfl (g_true rfl rfl rfl rfl) rfl (fun hc => fun w' hw' => (y_load1 (v := (vi v1.D)) rfl (ev_gv et hc) u2 rfl ((hI.kblk (l := [vi v1.D]) .z rfl).at_ (SX.any rfl hw')))) (by kernel_rfl) ?_
 refine a_gval rfl (g_true rfl rfl rfl rfl) rfl (fun hc => fun w' => (y_eql rfl (ev_gv et hc) ev_const)) ?_
 refine a_q rfl gn rfl (fun w' => y_and rfl et et) ?_
 refine a_q rfl gn rfl (fun w' => y_move rfl et) ?_
 refine a_gval rfl (g_true rfl rfl rfl rfl) rfl (fun hc => fun w' => (y_fieldAddr rfl et u68 rfl size_2 rfl)) ?_
 refine a_gread rfl (g_true rfl rfl rfl rfl) rfl (fun hc => fun w' hw' => (y_load1 (v := (vi v1.N)) rfl (ev_gv et hc) u2 rfl ((hI.kblk (l := [vi v1.N]) .z rfl).at_ (SX.any rfl hw')))) (by kernel_rfl) ?_
 refine a_gval rfl (g_true rfl rfl rfl rfl) rfl (fun hc => fun w' => (y_fieldAddr rfl et u38 rfl size_3 rfl)) ?_
 refine a_gread rfl (g_true rfl rfl rfl rfl) rfl (fun hc => fun w' hw' => (y_load1 (v := (vi t1.Bits)) rfl (ev_gv et hc) u3 rfl ((hI.kblk (l := [vi t1.Bits]) (.s .z) rfl).at_ (SX.any rfl hw')))) (by kernel_rfl) ?_
 obtain ⟨r2, hx3, h⟩ := bnd_some h
 replace hx3 := gd_some hx3
 refine la_gcallU (v := (vi r2)) rfl (g_true rfl rfl rfl rfl) rfl (fun hc => (r_callF (vs := [vi t1.Bits]) rfl ok_127 ⟨(ev_gv et hc), trivial⟩)) (fun hc => (c_round_MinInt (Dj F c4) w4 hI.lt t1.Bits trivial r2 (hx3 hc)).mono fun _ _ k => ⟨k.1, k.2.1⟩) ?_
 intro w5 hx4; replace hI := hI.ext hx4
 refine a_gval rfl (g_true rfl rfl rfl rfl) rfl (fun hc => fun w' => (y_geq rfl (ev_gv et hc) (ev_gv et hc))) ?_
 refine a_q rfl gn rfl (fun w' => y_and rfl et et) ?_
 refine a_q rfl gn rfl (fun w' => y_move rfl et) ?_
 refine a_gval rfl (g_true rfl rfl rfl rfl) rfl (fun hc => fun w' => (y_fieldAddr rfl et u68 rfl size_2 rfl)) ?_
 refine a_gread rfl (g_true rfl rfl rfl rfl) rfl (fun hc => fun w' hw' => (y_load1 (v := (vi v1.N)) rfl (ev_gv et hc) u2 rfl ((hI.kblk (l := [vi v1.N]) .z rfl).at_ (SX.any rfl hw')))) (by kernel_rfl) ?_
 refine a_gval rfl (g_true rfl rfl rfl rfl) rfl (fun hc => fun w' => (y_fieldAddr rfl et u38 rfl size_3 rfl)) ?_
 refine a_gread rfl (g_true rfl rfl rfl rfl) rfl (fun hc => fun w' hw' => (y_load1 (v := (vi t1.Bits)) rfl (ev_gv et hc) u3 rfl ((hI.kblk (l := [vi t1.Bits]) (.s .z) rfl).at_ (SX.any rfl hw')))) (by kernel_rfl) ?_
 obtain ⟨r3, hx5, h⟩ := bnd_some h
 replace hx5 := gd_some hx5
 refine la_gcallU (v := (vi r3)) rfl (g_true rfl rfl rfl rfl) rfl (fun hc => (r_callF (vs := [vi t1.Bits]) rfl ok_128 ⟨(ev_gv et hc), trivial⟩)) (fun hc => (c_round_MaxInt (Dj F c4) w5 hI.lt t1.Bits trivial r3 (hx5 hc)).mono fun _ _ k => ⟨k.1, k.2.1⟩) ?_
 intro w6 hx6; replace hI := hI.ext hx6
 refine a_gval rfl (g_true rfl rfl rfl rfl) rfl (fun hc => fun w' => (y_leq rfl (ev_gv et hc) (ev_gv et hc))) ?_
 refine a_q rfl gn rfl (fun w' => y_and rfl et et) ?_
 refine a_q rfl gn rfl (fun w' => y_assign rfl et) ?_
 refine a_nil ?_
 refine k_next (e := [(4, (vb ((((decide (r1 = 0)) && (decide (v1.D = 1))) && (decide (r2 ≤ v1.N))) && (decide (v1.N ≤ r3)))))]) ⟨rfl, trivial⟩ ?_
 refine c_ret ?_
 obtain rfl := some_inj h
 exact q_ret (vs := [(vb ((((decide (r1 = 0)) && (decide (v1.D = 1))) && (decide (r2 ≤ v1.N))) && (decide (v1.N ≤ r3))))]) Tryz.results110 ⟨ev_tmp rfl rfl, trivial⟩ (fq hI trivial)
theorem c_value_whole (F : NP) (w0 : World) (hF : ∀ k, F k → k < w0.heap.size) (n1 : Int) (hc : AllCl [] F w0) (r : Bool)
  (h : m_value_whole n1 = some r) :
  Calls Tryz.prog 111 #[vi n1] w0 fun e w => e = .returned (vb r) ∧ Ext w0 w ∧ AllCl [] F w := by
 refine enterK Tryz.func111 rfl Tryz.ntmps111 rfl ?_
 have hI := Bun.start hF hc
 clear hc
 rw [m_value_whole] at h
 refine sr (sac ?_)
 refine nk (sr (sm ?_))
 refine sq (y_geq rfl et ev_const) ?_
 refine sm ?_
 refine s_gval (g_true rfl rfl rfl rfl) rfl (fun hc => y_move rfl et) ?_
 refine s_gval (g_true rfl rfl rfl rfl) rfl (fun hc => y_leq rfl (ev_gv et hc) ev_const) ?_
 refine sq (y_and rfl et et) ?_
 refine sa ?_
 refine nk (c_ret ?_)
 obtain rfl := some_inj h
 exact q_ret (vs := [(vb ((decide ((-2147483647) ≤ n1)) && (decide (n1 ≤ 2147483647))))]) Tryz.results111 ⟨ev_tmp rfl rfl, trivial⟩ (fq hI trivial)
theorem c_frac_inRange (F : NP) (w0 : World) (hF : ∀ k, F k → k < w0.heap.size) (n1 : Int) (hc : AllCl [] F w0) (r : Bool)
  (h : m_frac_inRange n1 = some r) :
  Calls Tryz.prog 129 #[vi n1] w0 fun e w => e = .returned (vb r) ∧ Ext w0 w ∧ AllCl [] F w := by
 refine enterK Tryz.func129 rfl Tryz.ntmps129 rfl ?_
 have hI := Bun.start hF hc
 clear hc
 rw [m_frac_inRange] at h
 refine sr (sac ?_)
 refine nk (sr (sm ?_))
 refine sq (y_geq rfl et ev_const) ?_
 refine sm ?_
 refine s_gval (g_true rfl rfl rfl rfl) rfl (fun hc => y_move rfl et) ?_
 refine s_gval (g_true rfl rfl rfl rfl) rfl (fun hc => y_leq rfl (ev_gv et hc) ev_const) ?_
 refine sq (y_and rfl et et) ?_
 refine sa ?_
 refine nk (c_ret ?_)
 obtain rfl := some_inj h
 exact q_ret (vs := [(vb ((decide ((-2147483647) ≤ n1)) && (decide (n1 ≤ 2147483647))))]) Tryz.results129 ⟨ev_tmp rfl rfl, trivial⟩ (fq hI trivial)
theorem c_frac_magnitude (F : NP) (w0 : World) (hF : ∀ k, F k → k < w0.heap.size) (n1 : Int) (hc : AllCl [] F w0) (r : Int)
  (h : m_frac_magnitude n1 = some r) :
  Calls Tryz.prog 131 #[vi n1] w0 fun e w => e = .returned (Value.int .u64 r) ∧ Ext w0 w ∧ AllCl [] F w := by
 refine enterK Tryz.func131 rfl Tryz.ntmps131 rfl ?_
 have hI := Bun.start hF hc
 clear hc
 rw [m_frac_magnitude] at h
 refine sr (sac ?_)
 refine nk (c_seq (sr (sm ?_)))
 refine sq (y_lss rfl et ev_const) ?_
 refine nk (cif h et (fun hb h => ?_) (fun hb h => ?_))
 ·refine sr (sm ?_)
  refine sq (y_conv rfl (by rw [u2]; rfl) u129 et) ?_
  refine sq (y_neg rfl et) ?_
  refine sa ?_
  refine nk (c_ret ?_)
  obtain rfl := some_inj h
  exact q_ret (vs := [(Value.int .u64 (wu64 (-(wu64 n1))))]) Tryz.results131 ⟨ev_tmp rfl rfl, trivial⟩ (fq hI trivial)
 refine c_skip (k_same (sr (sm ?_)))
 refine sq (y_conv rfl (by rw [u2]; rfl) u129 et) ?_
 refine sa ?_
 refine nk (c_ret ?_)
 obtain rfl := some_inj h
 exact q_ret (vs := [(Value.int .u64 (wu64 n1))]) Tryz.results131 ⟨ev_tmp rfl rfl, trivial⟩ (fq hI trivial)
theorem c_frac_gcd (F : NP) (w0 : World) (hF : ∀ k, F k → k < w0.heap.size) (a1 : Int) (b1 : Int) (hc : AllCl [] F w0) (r : Int)
  (h : m_frac_gcd a1 b1 = some r) :
  Calls Tryz.prog 130 #[(Value.int .u64 a1), (Value.int .u64 b1)] w0 fun e w => e = .returned (Value.int .u64 r) ∧ Ext w0 w ∧ AllCl [] F w := by
 refine enterK Tryz.func130 rfl Tryz.ntmps130 rfl ?_
 have hI := Bun.start hF hc
 clear hc
 rw [m_frac_gcd] at h
 refine sr (sac ?_)
 refine nk (c_seq (c_block (c_loop (α := Nat × Int × Int) (fun x => fun w => ∃ C, Bun noM F w0 C w [] [] ∧ m_frac_gcd_l1 (x.1) (x.2.1) (x.2.2) = some r) (fun x _ => x.1) (fun x => [(0, (Value.int .u64 (x.2.1))), (1, (Value.int .u64 (x.2.2)))]) (fu, a1, b1) ⟨_, hI.arr .n trivial, h⟩ ⟨rfl, rfl, trivial⟩ ?_)))
 clear h hI; rintro ⟨fuel1, a2, b2⟩ w1 ⟨c1, hI, h⟩
 dsimp only at hI h
 rcases fuel1 with _ | fuel1
 ·rw [m_frac_gcd_l1] at h; cases h
 rw [m_frac_gcd_l1] at h
 refine c_sub (e := [(0, (Value.int .u64 a2)), (1, (Value.int .u64 b2))]) ⟨rfl, rfl, trivial⟩ ?_
 refine c_seq (sr (sm ?_))
 refine sq (y_neq rfl et ev_const) ?_
 refine nk (cif h et (fun hb h => ?_) (fun hb h => ?_))
 ·refine c_skip (k_same (c_block (c_drawX [] false (.c (0, .q) (.c (1, .q) (.c (2, .q) (.c (3, .q) (.c (4, .q) (.c (5, .q) .n)))))) hI (by kernel_rfl) (by kernel_rfl) ?_)))
  clear hI; intro w2 hI
  refine a_q rfl gn rfl (fun w' => y_move rfl et) ?_
  refine a_q rfl gn rfl (fun w' => y_move rfl et) ?_
  refine a_q rfl gn rfl (fun w' => y_move rfl et) ?_
  obtain ⟨ho1, h⟩ := chk_some h
  refine a_q rfl gn rfl (fun w' => y_rem rfl et et ho1) ?_
  refine a_q rfl gn rfl (fun w' => y_assign rfl et) ?_
  refine a_q rfl gn rfl (fun w' => y_assign rfl et) ?_
  refine a_nil ?_
  exact k_loop (fuel1, b2, Int.tmod a2 b2) ⟨rfl, rfl, trivial⟩ ⟨_, hI.arr .n trivial, h⟩ (Nat.lt_succ_self _)
 refine c_exit ?_
 refine k_in ?_
 refine k_same (sr (sm ?_))
 refine sa ?_
 refine nk (c_ret ?_)
 obtain rfl := some_inj h
 exact q_ret (vs := [(Value.int .u64 a2)]) Tryz.results130 ⟨ev_tmp rfl rfl, trivial⟩ (fq hI trivial)
theorem c_frac_Valid (F : NP) (w0 : World) (hF : ∀ k, F k → k < w0.heap.size) (v1 : GVal) (hc : AllCl [] F w0) (r : Bool)
  (h : m_frac_Valid v1 = some r) :
  Calls Tryz.prog 112 #[(Value.agg (AVal v1))] w0 fun e w => e = .returned (vb r) ∧ Ext w0 w ∧ AllCl [] F w := by
 refine enterK Tryz.func112 rfl Tryz.ntmps112 rfl ?_
 have hI := Bun.start hF hc
 clear hc
 rw [m_frac_Valid] at h
 refine sr (l_box (v := (Value.agg (AVal v1))) (cs := (AVal v1)) hI gn rfl rfl et rfl ?_)
 clear hI; intro b1 c1 w1 hI
 obtain ⟨c2, hI⟩ := hI.relBox .z
 refine sac ?_
 refine nk (c_seq (c_drawX [] false (.c (0, .q) (.c (1, .q) (.c (2, .q) (.c (3, .q) (.c (4, .q) (.c (5, .q) (.c (6, .q) (.c (7, .q) (.c (8, .q) (.c (9, .q) (.c (10, .q) (.c (11, .s) (.c (12, .q) (.c (13, .q) (.c (14, .q) (.c (15, .q) (.c (17, .q) (.c (18, .q) (.c (19, .q) (.c (16, .s) (.c (20, .s) (.c (21, .q) (.c (22, .q) (.c (23, .q) .n)))))))))))))))))))))))) hI (by kernel_rfl) (by kernel_rfl) ?_))
 clear hI; intro w2 hI
 refine a_q rfl gn rfl (fun w' => y_fieldAddr rfl et u68 rfl size_2 rfl) ?_
 refine a_read rfl gn rfl (fun w' hw' => (y_load1 (v := (vi v1.D)) rfl et u2 rfl ((hI.kblk (l := [vi v1.D]) .z rfl).at_ (SX.any rfl hw')))) (by kernel_rfl) ?_
 refine a_q rfl gn rfl (fun w' => y_geq rfl et ev_const) ?_
 refine a_q rfl gn rfl (fun w' => y_move rfl et) ?_
 refine a_gval rfl (g_true rfl rfl rfl rfl) rfl (fun hc => fun w' => (y_fieldAddr rfl et u68 rfl size_2 rfl)) ?_
 refine a_gread rfl (g_true rfl rfl rfl rfl) rfl (fun hc => fun w' hw' => (y_load1 (v := (vi v1.D)) rfl (ev_gv et hc) u2 rfl ((hI.kblk (l := [vi v1.D]) .z rfl).at_ (SX.any rfl hw')))) (by kernel_rfl) ?_
 refine a_gval rfl (g_true rfl rfl rfl rfl) rfl (fun hc => fun w' => (y_leq rfl (ev_gv et hc) ev_const)) ?_
 refine a_q rfl gn rfl (fun w' => y_and rfl et et) ?_
 refine a_q rfl gn rfl (fun w' => y_move rfl et) ?_
 refine a_gval rfl (g_true rfl rfl rfl rfl) rfl (fun hc => fun w' => (y_fieldAddr rfl et u68 rfl size_2 rfl)) ?_
 refine a_gread rfl (g_true rfl rfl rfl rfl) rfl (fun hc => fun w' hw' => (y_load1 (v := (vi v1.N)) rfl (ev_gv et hc) u2 rfl ((hI.kblk (l := [vi v1.N]) .z rfl).at_ (SX.any rfl hw')))) (by kernel_rfl) ?_
 obtain ⟨r1, hx1, h⟩ := bnd_some h
 replace hx1 := gd_some hx1
 refine la_gcallU (v := (vb r1)) rfl (g_true rfl rfl rfl rfl) rfl (fun hc => (r_callF (vs := [vi v1.N]) rfl ok_129 ⟨(ev_gv et hc), trivial⟩)) (fun hc => (c_frac_inRange (Dj F c2) w2 hI.lt v1.N trivial r1 (hx1 hc)).mono fun _ _ k => ⟨k.1, k.2.1⟩) ?_
 intro w3 hx2; replace hI := hI.ext hx2
 refine a_q rfl gn rfl (fun w' => y_and rfl et et) ?_
 refine a_q rfl gn rfl (fun w' => y_move rfl et) ?_
 refine a_gval rfl (g_true rfl rfl rfl rfl) rfl (fun hc => fun w' => (y_fieldAddr rfl et u68 rfl size_2 rfl)) ?_
 refine a_gread rfl (g_true rfl rfl rfl rfl) rfl (fun hc => fun w' hw' => (y_load1 (v := (vi v1.N)) rfl (ev_gv et hc) u2 rfl ((hI.kblk (l := [vi v1.N]) .z rfl).at_ (SX.any rfl hw')))) (by kernel_rfl) ?_
 refine a_gval rfl (g_true rfl rfl rfl rfl) rfl (fun hc => fun w' => (y_fieldAddr rfl et u68 rfl size_2 rfl)) ?_
 refine a_gread rfl (g_true rfl rfl rfl rfl) rfl (fun hc => fun w' hw' => (y_load1 (v := (vi v1.D)) rfl (ev_gv et hc) u2 rfl ((hI.kblk (l := [vi v1.D]) .z rfl).at_ (SX.any rfl hw')))) (by kernel_rfl) ?_
 refine a_gval rfl (g_true rfl rfl rfl rfl) rfl (fun hc => fun w' => (y_conv rfl (by rw [u2]; rfl) u129 (ev_gv et hc))) ?_
 obtain ⟨r2, hx3, h⟩ := bnd_some h
 replace hx3 := gd_some hx3
 refine la_gcallU (v := (Value.int .u64 r2)) rfl (g_true rfl rfl rfl rfl) rfl (fun hc => (r_callF (vs := [vi v1.N]) rfl ok_131 ⟨(ev_gv et hc), trivial⟩)) (fun hc => (c_frac_magnitude (Dj F c2) w3 hI.lt v1.N trivial r2 (hx3 hc)).mono fun _ _ k => ⟨k.1, k.2.1⟩) ?_
 intro w4 hx4; replace hI := hI.ext hx4
 obtain ⟨r3, hx5, h⟩ := bnd_some h
 replace hx5 := gd_some hx5
 refine la_gcallU (v := (Value.int .u64 r3)) rfl (g_true rfl rfl rfl rfl) rfl (fun hc => (r_callF (vs := [(Value.int .u64 r2), (Value.int .u64 (wu64 v1.D))]) rfl ok_130 ⟨(ev_gv et hc), ⟨(ev_gv et hc), trivial⟩⟩)) (fun hc => (c_frac_gcd (Dj F c2) w4 hI.lt r2 (wu64 v1.D) trivial r3 (hx5 hc)).mono fun _ _ k => ⟨k.1, k.2.1⟩) ?_
 intro w5 hx6; replace hI := hI.ext hx6
 refine a_gval rfl (g_true rfl rfl rfl rfl) rfl (fun hc => fun w' => (y_eql rfl (ev_gv et hc) ev_const)) ?_
 refine a_q rfl gn rfl (fun w' => y_and rfl et et) ?_
 refine a_q rfl gn rfl (fun w' => y_assign rfl et) ?_
 refine a_nil ?_
 refine k_next (e := [(2, (vb ((((decide (1 ≤ v1.D)) && (decide (v1.D ≤ 2147483647))) && r1) && (decide (r3 = 1)))))]) ⟨rfl, trivial⟩ ?_
 refine c_ret ?_
 obtain rfl := some_inj h
 exact q_ret (vs := [(vb ((((decide (1 ≤ v1.D)) && (decide (v1.D ≤ 2147483647))) && r1) && (decide (r3 = 1))))]) Tryz.results112 ⟨ev_tmp rfl rfl, trivial⟩ (fq hI trivial)
theorem c_value_Valid (F : NP) (w0 : World) (hF : ∀ k, F k → k < w0.heap.size) (t1 : GType) (v1 : GVal) (hc : AllCl [] F w0) (r : Bool)
  (h : m_value_Valid t1 v1 = some r) :
  Calls Tryz.prog 89 #[(Value.agg (AType t1)), (Value.agg (AVal v1))] w0 fun e w => e = .returned (vb r) ∧ Ext w0 w ∧ AllCl [] F w := by
 refine enterK Tryz.func89 rfl Tryz.ntmps89 rfl ?_
 have hI := Bun.start hF hc
 clear hc
 rw [m_value_Valid] at h
 refine sr (l_box (v := (Value.agg (AType t1))) (cs := (AType t1)) hI gn rfl rfl et rfl ?_)
 clear hI; intro b1 c1 w1 hI
 obtain ⟨c2, hI⟩ := hI.relBox .z
 refine l_box (v := (Value.agg (AVal v1))) (cs := (AVal v1)) hI gn rfl rfl et rfl ?_
 clear hI; intro b2 c3 w2 hI
 obtain ⟨c4, hI⟩ := hI.relBox .z
 refine sac ?_
 refine nk (c_seq (sr (sq (y_loadN (l := (lType t1)) rfl et u38 rfl size_38 (hI.kblk (l := (lType t1)) (.s .z) rfl).1) ?_)))
 obtain ⟨r1, hx1, h⟩ := bnd_some h
 refine s_call gn rfl (r_callF (vs := [(Value.agg (AType t1))]) rfl ok_88 ⟨et, trivial⟩) (Calls.mono (c_value_ValidateType (Dj F c4) w2 hI.lt t1 trivial r1 hx1) ?_)
 rintro _ w3 ⟨rfl, hx2, hl1⟩
 refine ⟨_, rfl, ?_⟩
 replace hI := (hI.ext hx2)
 refine sq (y_neq rfl et ev_const) ?_
 refine nk (cif h et (fun hb h => ?_) (fun hb h => ?_))
 ·refine sr (sac ?_)
  refine nk (c_ret ?_)
  obtain rfl := some_inj h
  exact q_ret (vs := [vb false]) Tryz.results89 ⟨ev_tmp rfl rfl, trivial⟩ (fq hI trivial)
 refine c_skip (k_same (c_seq (sr (sq (y_fieldAddr rfl et u38 rfl size_3 rfl) ?_))))
 refine sq (y_load1 (v := (vi t1.Kind)) rfl et u3 rfl (hI.kblk (l := [vi t1.Kind]) (.s .z) rfl).1) ?_
 refine nk (c_block (sr (sq (y_eql rfl et ev_const) ?_)))
 refine sa ?_
 refine nk (cif h et (fun hb h => ?_) (fun hb h => ?_))
 ·refine sr (sq (y_loadN (l := (lType t1)) rfl et u38 rfl size_38 (hI.kblk (l := (lType t1)) (.s .z) rfl).1) ?_)
  refine sq (y_loadN (l := (lVal v1)) rfl et u68 rfl size_68 (hI.kblk (l := (lVal v1)) .z rfl).1) ?_
  obtain ⟨r2, hx3, h⟩ := bnd_some h
  refine s_call gn rfl (r_callF (vs := [(Value.agg (AType t1)), (Value.agg (AVal v1))]) rfl ok_110 ⟨et, ⟨et, trivial⟩⟩) (Calls.mono (c_fixed_Valid (Dj F c4) w3 hI.lt t1 v1 trivial r2 hx3) ?_)
  rintro _ w4 ⟨rfl, hx4, hl2⟩
  refine ⟨_, rfl, ?_⟩
  replace hI := (hI.ext hx4)
  refine sa ?_
  refine nk (c_ret ?_)
  obtain rfl := some_inj h
  exact q_ret (vs := [vb r2]) Tryz.results89 ⟨ev_tmp rfl rfl, trivial⟩ (fq hI trivial)
 refine sr (sq (y_eql rfl et ev_const) ?_)
 refine sa ?_
 refine nk (cif h et (fun hb h => ?_) (fun hb h => ?_))
 ·refine sr (sq (y_fieldAddr rfl et u68 rfl size_2 rfl) ?_)
  refine sq (y_load1 (v := (vi v1.D)) rfl et u2 rfl (hI.kblk (l := [vi v1.D]) .z rfl).1) ?_
  refine sq (y_eql rfl et ev_const) ?_
  refine sm ?_
  refine s_gval (g_true rfl rfl rfl rfl) rfl (fun hc => y_fieldAddr rfl et u68 rfl size_2 rfl) ?_
  refine s_gval (g_true rfl rfl rfl rfl) rfl (fun hc => (y_load1 (v := (vi v1.N)) rfl (ev_gv et hc) u2 rfl (hI.kblk (l := [vi v1.N]) .z rfl).1)) ?_
  obtain ⟨r3, hx5, h⟩ := bnd_some h
  replace hx5 := gd_some hx5
  refine s_gcallU (v := (vb r3)) (g_true rfl rfl rfl rfl) rfl (fun hc => (r_callF (vs := [vi v1.N]) rfl ok_111 ⟨(ev_gv et hc), trivial⟩)) (fun hc => (c_value_whole (Dj F c4) w3 hI.lt v1.N trivial r3 (hx5 hc)).mono fun _ _ k => ⟨k.1, k.2.1⟩) ?_
  intro w5 hx6; replace hI := hI.ext hx6
  refine sq (y_and rfl et et) ?_
  refine sa ?_
  refine nk (c_ret ?_)
  obtain rfl := some_inj h
  exact q_ret (vs := [(vb ((decide (v1.D = 1)) && r3))]) Tryz.results89 ⟨ev_tmp rfl rfl, trivial⟩ (fq hI trivial)
 refine c_skip (k_same (sr (sq (y_loadN (l := (lVal v1)) rfl et u68 rfl size_68 (hI.kblk (l := (lVal v1)) .z rfl).1) ?_)))
 obtain ⟨r4, hx7, h⟩ := bnd_some h
 refine s_call gn rfl (r_callF (vs := [(Value.agg (AVal v1))]) rfl ok_112 ⟨et, trivial⟩) (Calls.mono (c_frac_Valid (Dj F c4) w3 hI.lt v1 trivial r4 hx7) ?_)
 rintro _ w6 ⟨rfl, hx8, hl4⟩
 refine ⟨_, rfl, ?_⟩
 replace hI := (hI.ext hx8)
 refine sa ?_
 refine nk (c_ret ?_)
 obtain rfl := some_inj h
 exact q_ret (vs := [vb r4]) Tryz.results89 ⟨ev_tmp rfl rfl, trivial⟩ (fq hI trivial)
theorem c_tensor_Validate (F : NP) (w0 : World) (hF : ∀ k, F k → k < w0.heap.size) (t1 : GTensor) (a1 : Option Addr) (c1 : Nat) (a2 : Option Addr) (c2 : Nat) (hc : AllCl [Cl.sl (cInt .i64) a1 c1 t1.Dims, Cl.sl cGVal a2 c2 t1.Vals] F w0) (r : Int)
  (h : m_tensor_Validate t1 = some r) :
  Calls Tryz.prog 71 #[(Value.agg (ATensor t1 a1 c1 a2 c2))] w0 fun e w => e = .returned (vi r) ∧ Ext w0 w ∧ AllCl [] F w := by
 refine enterK Tryz.func71 rfl Tryz.ntmps71 rfl ?_
 have hI := Bun.start hF hc
 clear hc
 rw [m_tensor_Validate] at h
 refine sr (l_box (v := (Value.agg (ATensor t1 a1 c1 a2 c2))) (cs := (ATensor t1 a1 c1 a2 c2)) hI gn rfl rfl et rfl ?_)
 clear hI; intro b1 c3 w1 hI
 obtain ⟨c4, hI⟩ := hI.relBox .z
 refine sac ?_
 refine nk (c_seq (sr (sq (y_fieldAddr rfl et u41 rfl size_38 rfl) ?_)))
 refine sq (y_loadN (l := (lType t1.Type_)) rfl et u38 rfl size_38 (hI.kblk (l := (lType t1.Type_)) .z rfl).1) ?_
 obtain ⟨r1, hx1, h⟩ := bnd_some h
 refine s_call gn rfl (r_callF (vs := [(Value.agg (AType t1.Type_))]) rfl ok_88 ⟨et, trivial⟩) (Calls.mono (c_value_ValidateType (Dj F c4) w1 hI.lt t1.Type_ trivial r1 hx1) ?_)
 rintro _ w2 ⟨rfl, hx2, hl1⟩
 refine ⟨_, rfl, ?_⟩
 replace hI := (hI.ext hx2)
 refine sa ?_
 refine nk (sr (sm ?_))
 refine sq (y_neq rfl et ev_const) ?_
 refine nk (cif h et (fun hb h => ?_) (fun hb h => ?_))
 ·refine sr (sm ?_)
  refine sa ?_
  refine nk (c_ret ?_)
  obtain rfl := some_inj h
  exact q_ret (vs := [vi r1]) Tryz.results71 ⟨ev_tmp rfl rfl, trivial⟩ (fq hI trivial)
 refine c_skip (k_same (c_seq (sr (sq (y_fieldAddr rfl et u41 rfl size_22 rfl) ?_))))
 refine sq (y_load1 (v := (vs a1 t1.Dims.length c1)) rfl et u22 rfl (hI.kblk (l := [vs a1 t1.Dims.length c1]) .z rfl).1) ?_
 obtain ⟨r2, hx3, h⟩ := bnd_some h
 refine s_call gn rfl (r_callF (vs := [vs a1 t1.Dims.length c1]) rfl ok_82 ⟨et, trivial⟩) (Calls.mono (c_shape_Validate (Dj F c4) w2 hI.lt t1.Dims a1 c1 ⟨(hI.get (.s .z)), trivial⟩ r2 hx3) ?_)
 rintro _ w3 ⟨rfl, hx4, hl2⟩
 refine ⟨_, rfl, ?_⟩
 replace hI := (hI.ext hx4)
 refine sa ?_
 refine nk (sr (sm ?_))
 refine sq (y_neq rfl et ev_const) ?_
 refine nk (cif h et (fun hb h => ?_) (fun hb h => ?_))
 ·refine sr (sm ?_)
  refine sa ?_
  refine nk (c_ret ?_)
  obtain rfl := some_inj h
  exact q_ret (vs := [vi r2]) Tryz.results71 ⟨ev_tmp rfl rfl, trivial⟩ (fq hI trivial)
 refine c_skip (k_same (c_seq (c_seq (c_drawX [] false (.c (0, .q) (.c (1, .q) (.c (2, .q) (.c (3, .q) (.c (4, .q) (.c (5, .s) (.c (6, .q) .n))))))) hI (by kernel_rfl) (by kernel_rfl) ?_))))
 clear hI; intro w4 hI
 refine a_q rfl gn rfl (fun w' => y_fieldAddr rfl et u41 rfl size_39 rfl) ?_
 refine a_read rfl gn rfl (fun w' hw' => (y_load1 (v := (vs a2 t1.Vals.length c2)) rfl et u39 rfl ((hI.kblk (l := [vs a2 t1.Vals.length c2]) .z rfl).at_ (SX.any rfl hw')))) (by kernel_rfl) ?_
 refine a_q rfl gn rfl (fun w' => y_lenl rfl u39 et) ?_
 refine a_q rfl gn rfl (fun w' => y_fieldAddr rfl et u41 rfl size_22 rfl) ?_
 refine a_read rfl gn rfl (fun w' hw' => (y_load1 (v := (vs a1 t1.Dims.length c1)) rfl et u22 rfl ((hI.kblk (l := [vs a1 t1.Dims.length c1]) .z rfl).at_ (SX.any rfl hw')))) (by kernel_rfl) ?_
 obtain ⟨r3, hx5, h⟩ := bnd_some h
 refine la_call rfl gn rfl (r_callF (vs := [vs a1 t1.Dims.length c1]) rfl ok_84 ⟨et, trivial⟩) (Calls.mono (c_shape_Size (Dj F c4) w4 hI.lt t1.Dims a1 c1 ⟨(hI.get (.s .z)), trivial⟩ r3 hx5) ?_)
 rintro _ w5 ⟨rfl, hx6, hl3⟩
 refine ⟨_, rfl, hx6, ?_⟩
 replace hI := (hI.ext hx6)
 refine a_q rfl gn rfl (fun w' => y_neq rfl et et) ?_
 refine a_nil ?_
 refine k_same (cif h et (fun hb h => ?_) (fun hb h => ?_))
 ·refine sr (sac ?_)
  refine nk (c_ret ?_)
  obtain rfl := some_inj h
  exact q_ret (vs := [vi 1]) Tryz.results71 ⟨ev_tmp rfl rfl, trivial⟩ (fq hI trivial)
 refine c_skip (k_same (c_seq (sr (sq (y_fieldAddr rfl et u41 rfl size_39 rfl) ?_))))
 refine sq (y_load1 (v := (vs a2 t1.Vals.length c2)) rfl et u39 rfl (hI.kblk (l := [vs a2 t1.Vals.length c2]) .z rfl).1) ?_
 refine sq (y_lenl rfl u39 et) ?_
 refine sq (y_move rfl ev_const) ?_
 refine nk (c_block (c_loop (α := Nat × Int) (fun x => fun w => ∃ C, Bun noM F w0 C w [] [Cl.blk b1 41 (ATensor t1 a1 c1 a2 c2), Cl.sl (cInt .i64) a1 c1 t1.Dims, Cl.sl cGVal a2 c2 t1.Vals] ∧ m_tensor_Validate_l1 t1 (x.1) (x.2) = some r) (fun x _ => x.1) (fun x => [(1, vp b1 0), (27, vs a2 t1.Vals.length c2), (28, vi (t1.Vals.length : Int)), (29, vi (x.2))]) (fu, 0) ⟨_, hI.arr .n ⟨.z, (.s .z), (.s (.s .z)), trivial⟩, h⟩ ⟨rfl, rfl, rfl, rfl, trivial⟩ ?_))
 clear h hI; rintro ⟨fuel1, i1⟩ w6 ⟨c5, hI, h⟩
 dsimp only at hI h
 rcases fuel1 with _ | fuel1
 ·rw [m_tensor_Validate_l1] at h; cases h
 rw [m_tensor_Validate_l1] at h
 refine c_sub (e := [(1, vp b1 0), (27, vs a2 t1.Vals.length c2), (28, vi (t1.Vals.length : Int)), (29, vi i1)]) ⟨rfl, rfl, rfl, rfl, trivial⟩ ?_
 refine sr (sq (y_lss rfl et et) ?_)
 refine nk (c_seq (cif h et (fun hb h => ?_) (fun hb h => ?_)))
 ·refine c_skip (k_same (c_seq (c_block (sr ?_))))
  obtain ⟨e1, hx7, h⟩ := bnd_some h
  obtain ⟨ad1, cs1, hA1, hr1, hq1⟩ := hI.clat (.s (.s .z)) hx7
  obtain rfl : cs1 = (lVal e1) := hr1
  refine sq (y_indexAddr rfl u39 size_68 et et (lat_bd hx7) hA1) ?_
  refine sq (y_loadN (l := (lVal e1)) rfl et u68 rfl size_68 hq1.1) ?_
  refine l_alloc (cs := #[vi 0, vi 0]) hI gn rfl rfl zero_68 rfl ?_
  clear hI; intro b2 c6 w7 hI
  refine l_store (new := (lVal e1)) (cs' := (AVal e1)) hI .z gn rfl rfl et et rfl size_68 rfl rfl rfl ?_
  clear hI; intro c7 w8 hI
  refine nk (sr (sq (y_fieldAddr rfl et u41 rfl size_38 rfl) ?_))
  refine sq (y_loadN (l := (lType t1.Type_)) rfl et u38 rfl size_38 (hI.kblk (l := (lType t1.Type_)) .z rfl).1) ?_
  refine sq (y_loadN (l := (lVal e1)) rfl et u68 rfl size_68 (CellsAt.of_blk (hI.blk .z) rfl)) ?_
  obtain ⟨r4, hx8, h⟩ := bnd_some h
  refine s_call gn rfl (r_callF (vs := [(Value.agg (AType t1.Type_)), (Value.agg (AVal e1))]) rfl ok_89 ⟨et, ⟨et, trivial⟩⟩) (Calls.mono (c_value_Valid (Dj F c7) w8 hI.lt t1.Type_ e1 trivial r4 hx8) ?_)
  rintro _ w9 ⟨rfl, hx9, hl4⟩
  refine ⟨_, rfl, ?_⟩
  replace hI := (hI.ext hx9)
  refine sq (y_not rfl et) ?_
  refine nk (cif h et (fun hb h => ?_) (fun hb h => ?_))
  ·refine sr (sac ?_)
   refine nk (c_ret ?_)
   obtain rfl := some_inj h
   exact q_ret (vs := [vi 1]) Tryz.results71 ⟨ev_tmp rfl rfl, trivial⟩ (fq hI trivial)
  refine c_skip (k_same (c_region rfl ?_))
  refine sq (y_add rfl et ev_const) ?_
  refine sm ?_
  refine s_nil ?_
  exact k_loop (fuel1, wi64 (i1 + 1)) ⟨rfl, rfl, rfl, rfl, trivial⟩ ⟨_, hI.arr .n ⟨.z, (.s .z), (.s (.s .z)), trivial⟩, h⟩ (Nat.lt_succ_self _)
 refine c_exit ?_
 refine k_in ?_
 refine k_same (sr (sac ?_))
 refine nk (c_ret ?_)
 obtain rfl := some_inj h
 exact q_ret (vs := [vi 0]) Tryz.results71 ⟨ev_tmp rfl rfl, trivial⟩ (fq hI trivial)
theorem c_slices_Equal_int_int (F : NP) (w0 : World) (hF : ∀ k, F k → k < w0.heap.size) (s1_1 : List Int) (s2_1 : List Int) (a1 : Option Addr) (c1 : Nat) (a2 : Option Addr) (c2 : Nat) (hc : AllCl [Cl.sl (cInt .i64) a1 c1 s1_1, Cl.sl (cInt .i64) a2 c2 s2_1] F w0) (r : Bool)
  (h : m_slices_Equal_int_int s1_1 s2_1 = some r) :
  Calls Tryz.prog 92 #[vs a1 s1_1.length c1, vs a2 s2_1.length c2] w0 fun e w => e = .returned (vb r) ∧ Ext w0 w ∧ AllCl [] F w := by
 refine enterK Tryz.func92 rfl Tryz.ntmps92 rfl ?_
 have hI := Bun.start hF hc
 clear hc
 rw [m_slices_Equal_int_int] at h
 refine sr (sac ?_)
 refine nk (c_seq (sr (sm ?_)))
 refine sq (y_lenl rfl u22 et) ?_
 refine sm ?_
 refine sq (y_lenl rfl u22 et) ?_
 refine sq (y_neq rfl et et) ?_
 refine nk (cif h et (fun hb h => ?_) (fun hb h => ?_))
 ·refine sr (sac ?_)
  refine nk (c_ret ?_)
  obtain rfl := some_inj h
  exact q_ret (vs := [vb false]) Tryz.results92 ⟨ev_tmp rfl rfl, trivial⟩ (fq hI trivial)
 refine c_skip (k_same (c_seq (sr (sm ?_))))
 refine sq (y_lenl rfl u22 et) ?_
 refine sq (y_move rfl ev_const) ?_
 refine nk (c_block (c_loop (α := Nat × Int) (fun x => fun w => ∃ C, Bun noM F w0 C w [] [Cl.sl (cInt .i64) a1 c1 s1_1, Cl.sl (cInt .i64) a2 c2 s2_1] ∧ m_slices_Equal_int_int_l1 s1_1 s2_1 (x.1) (x.2) = some r) (fun x _ => x.1) (fun x => [(0, vs a1 s1_1.length c1), (1, vs a2 s2_1.length c2), (12, vi (s1_1.length : Int)), (13, vi (x.2))]) (fu, 0) ⟨_, hI.arr .n ⟨.z, (.s .z), trivial⟩, h⟩ ⟨rfl, rfl, rfl, rfl, trivial⟩ ?_))
 clear h hI; rintro ⟨fuel1, i1⟩ w1 ⟨c3, hI, h⟩
 dsimp only at hI h
 rcases fuel1 with _ | fuel1
 ·rw [m_slices_Equal_int_int_l1] at h; cases h
 rw [m_slices_Equal_int_int_l1] at h
 refine c_sub (e := [(0, vs a1 s1_1.length c1), (1, vs a2 s2_1.length c2), (12, vi (s1_1.length : Int)), (13, vi i1)]) ⟨rfl, rfl, rfl, rfl, trivial⟩ ?_
 refine sr (sq (y_lss rfl et et) ?_)
 refine nk (c_seq (cif h et (fun hb h => ?_) (fun hb h => ?_)))
 ·refine c_skip (k_same (c_seq (c_block (sr (sm ?_)))))
  refine sa ?_
  refine nk (c_seq (c_drawX [] false (.c (0, .q) (.c (1, .q) (.c (2, .q) (.c (3, .q) (.c (4, .q) (.c (5, .q) (.c (6, .q) (.c (7, .q) (.c (8, .q) .n))))))))) hI (by kernel_rfl) (by kernel_rfl) ?_))
  clear hI; intro w2 hI
  refine a_q rfl gn rfl (fun w' => y_move rfl et) ?_
  refine a_q rfl gn rfl (fun w' => y_move rfl et) ?_
  obtain ⟨e1, hx1, h⟩ := bnd_some h
  obtain ⟨ad1, cs1, hA1, hr1, hq1⟩ := hI.clat .z hx1
  obtain rfl : cs1 = [vi e1] := hr1
  refine a_q rfl gn rfl (fun w' => y_indexAddr rfl u22 size_3 et et (lat_bd hx1) hA1) ?_
  refine a_read rfl gn rfl (fun w' hw' => (y_load1 (v := (vi e1)) rfl et u3 rfl (hq1.at_ (SX.any rfl hw')))) (by kernel_rfl) ?_
  refine a_q rfl gn rfl (fun w' => y_move rfl et) ?_
  refine a_q rfl gn rfl (fun w' => y_move rfl et) ?_
  obtain ⟨e2, hx2, h⟩ := bnd_some h
  obtain ⟨ad2, cs2, hA2, hr2, hq2⟩ := hI.clat (.s .z) hx2
  obtain rfl : cs2 = [vi e2] := hr2
  refine a_q rfl gn rfl (fun w' => y_indexAddr rfl u22 size_3 et et (lat_bd hx2) hA2) ?_
  refine a_read rfl gn rfl (fun w' hw' => (y_load1 (v := (vi e2)) rfl et u3 rfl (hq2.at_ (SX.any rfl hw')))) (by kernel_rfl) ?_
  refine a_q rfl gn rfl (fun w' => y_neq rfl et et) ?_
  refine a_nil ?_
  refine k_same (cif h et (fun hb h => ?_) (fun hb h => ?_))
  ·refine sr (sac ?_)
   refine nk (c_ret ?_)
   obtain rfl := some_inj h
   exact q_ret (vs := [vb false]) Tryz.results92 ⟨ev_tmp rfl rfl, trivial⟩ (fq hI trivial)
  refine c_skip (k_same (c_region rfl ?_))
  refine sq (y_add rfl et ev_const) ?_
  refine sm ?_
  refine s_nil ?_
  exact k_loop (fuel1, wi64 (i1 + 1)) ⟨rfl, rfl, rfl, rfl, trivial⟩ ⟨_, hI.arr .n ⟨.z, (.s .z), trivial⟩, h⟩ (Nat.lt_succ_self _)
 refine c_exit ?_
 refine k_in ?_
 refine k_same (sr (sac ?_))
 refine nk (c_ret ?_)
 obtain rfl := some_inj h
 exact q_ret (vs := [vb true]) Tryz.results92 ⟨ev_tmp rfl rfl, trivial⟩ (fq hI trivial)
theorem c_shape_Same (F : NP) (w0 : World) (hF : ∀ k, F k → k < w0.heap.size) (a1 : List Int) (b1 : List Int) (a2 : Option Addr) (c1 : Nat) (a3 : Option Addr) (c2 : Nat) (hc : AllCl [Cl.sl (cInt .i64) a2 c1 a1, Cl.sl (cInt .i64) a3 c2 b1] F w0) (r : Bool)
  (h : m_shape_Same a1 b1 = some r) :
  Calls Tryz.prog 76 #[vs a2 a1.length c1, vs a3 b1.length c2] w0 fun e w => e = .returned (vb r) ∧ Ext w0 w ∧ AllCl [] F w := by
 refine enterK Tryz.func76 rfl Tryz.ntmps76 rfl ?_
 have hI := Bun.start hF hc
 clear hc
 rw [m_shape_Same] at h
 refine sr (sac ?_)
 refine nk (sr (sm ?_))
 refine sm ?_
 obtain ⟨r1, hx1, h⟩ := bnd_some h
 refine s_call gn rfl (r_callF (vs := [vs a2 a1.length c1, vs a3 b1.length c2]) rfl ok_92 ⟨et, ⟨et, trivial⟩⟩) (Calls.mono (c_slices_Equal_int_int (Dj F noM) w0 hI.lt a1 b1 a2 c1 a3 c2 ⟨(hI.get .z), (hI.get (.s .z)), trivial⟩ r1 hx1) ?_)
 rintro _ w1 ⟨rfl, hx2, hl1⟩
 refine ⟨_, rfl, ?_⟩
 replace hI := (hI.ext hx2)
 refine sa ?_
 refine nk (c_ret ?_)
 obtain rfl := some_inj h
 exact q_ret (vs := [vb r1]) Tryz.results76 ⟨ev_tmp rfl rfl, trivial⟩ (fq hI trivial)
theorem c_collective_check (F : NP) (w0 : World) (hF : ∀ k, F k → k < w0.heap.size) (m1 : GMesh) (l1 : List GTensor) (a1 : Option Addr) (c1 : Nat) (a2 : Option Addr) (c2 : Nat) (hc : AllCl [Cl.sl (cInt .i64) a1 c1 m1.Dims, Cl.sl cGTensor a2 c2 l1] F w0) (r : Int)
  (h : m_collective_check m1 l1 = some r) :
  Calls Tryz.prog 43 #[(Value.agg #[vs a1 m1.Dims.length c1]), vs a2 l1.length c2] w0 fun e w => e = .returned (vi r) ∧ Ext w0 w ∧ AllCl [] F w := by
 refine enterK Tryz.func43 rfl Tryz.ntmps43 rfl ?_
 have hI := Bun.start hF hc
 clear hc
 rw [m_collective_check] at h
 refine sr (l_box (v := (Value.agg #[vs a1 m1.Dims.length c1])) (cs := #[vs a1 m1.Dims.length c1]) hI gn rfl rfl et rfl ?_)
 clear hI; intro b1 c3 w1 hI
 obtain ⟨c4, hI⟩ := hI.relBox .z
 refine sac ?_
 refine nk (c_seq (sr (sq (y_loadN (l := [vs a1 m1.Dims.length c1]) rfl et u24 rfl size_24 (hI.kblk (l := [vs a1 m1.Dims.length c1]) .z rfl).1) ?_)))
 obtain ⟨r1, hx1, h⟩ := bnd_some h
 refine s_call gn rfl (r_callF (vs := [(Value.agg #[vs a1 m1.Dims.length c1])]) rfl ok_69 ⟨et, trivial⟩) (Calls.mono (c_mesh_Validate (Dj F c4) w1 hI.lt m1 a1 c1 ⟨(hI.get (.s .z)), trivial⟩ r1 hx1) ?_)
 rintro _ w2 ⟨rfl, hx2, hl1⟩
 refine ⟨_, rfl, ?_⟩
 replace hI := (hI.ext hx2)
 refine sa ?_
 refine nk (sr (sm ?_))
 refine sq (y_neq rfl et ev_const) ?_
 refine nk (cif h et (fun hb h => ?_) (fun hb h => ?_))
 ·refine sr (sm ?_)
  refine sa ?_
  refine nk (c_ret ?_)
  obtain rfl := some_inj h
  exact q_ret (vs := [vi r1]) Tryz.results43 ⟨ev_tmp rfl rfl, trivial⟩ (fq hI trivial)
 refine c_skip (k_same (c_seq (sr (sm ?_))))
 refine sq (y_lenl rfl u25 et) ?_
 refine sq (y_loadN (l := [vs a1 m1.Dims.length c1]) rfl et u24 rfl size_24 (hI.kblk (l := [vs a1 m1.Dims.length c1]) .z rfl).1) ?_
 obtain ⟨r2, hx3, h⟩ := bnd_some h
 refine s_call gn rfl (r_callF (vs := [(Value.agg #[vs a1 m1.Dims.length c1])]) rfl ok_75 ⟨et, trivial⟩) (Calls.mono (c_mesh_Devices (Dj F c4) w2 hI.lt m1 a1 c1 ⟨(hI.get (.s .z)), trivial⟩ r2 hx3) ?_)
 rintro _ w3 ⟨rfl, hx4, hl2⟩
 refine ⟨_, rfl, ?_⟩
 replace hI := (hI.ext hx4)
 refine sq (y_neq rfl et et) ?_
 refine nk (cif h et (fun hb h => ?_) (fun hb h => ?_))
 ·refine sr (sac ?_)
  refine nk (c_ret ?_)
  obtain rfl := some_inj h
  exact q_ret (vs := [vi 1]) Tryz.results43 ⟨ev_tmp rfl rfl, trivial⟩ (fq hI trivial)
 refine c_skip (k_same (c_join (α := Unit) (fun _ => ⟨56, []⟩) (fun _ => [(1, vs a2 l1.length c2)]) (fun _ => fun w => ∃ C, Bun noM F w0 C w [] [Cl.sl cGTensor a2 c2 l1] ∧ m_collective_check_j1 l1 = some r) ?_ ?_))
 ·clear h hI; rintro _ w4 ⟨c5, hI, h⟩
  try dsimp only at hI h
  rw [m_collective_check_j1] at h
  refine c_sub (e := [(1, vs a2 l1.length c2)]) ⟨rfl, trivial⟩ ?_
  refine c_seq (sr (sm ?_))
  obtain ⟨zs1, hx5, h⟩ := bnd_some h
  obtain ⟨a3, hB1⟩ : ∃ B : Option Addr, B = (if c2 = Int.toNat 1 then a2 else Option.map (·.add (Int.toNat 1 * 7)) a2) := ⟨_, rfl⟩
  refine sq (y_lfrom rfl u25 size_41 et ev_const hx5 hB1) ?_
  replace hI := hI.from_ .z hx5 hB1
  refine sq (y_lenl rfl u25 et) ?_
  refine sq (y_move rfl ev_const) ?_
  refine nk (c_block (c_loop (α := Nat × Int) (fun x => fun w => ∃ C, Bun noM F w0 C w [] [Cl.sl cGTensor a2 c2 l1, Cl.sl cGTensor a3 (c2 - Int.toNat 1) zs1] ∧ m_collective_check_l1 zs1 l1 (x.1) (x.2) = some r) (fun x _ => x.1) (fun x => [(1, vs a2 l1.length c2), (34, vs a3 zs1.length (c2 - Int.toNat 1)), (35, vi (zs1.length : Int)), (36, vi (x.2))]) (fu, 0) ⟨_, hI.arr .n ⟨(.s .z), .z, trivial⟩, h⟩ ⟨rfl, rfl, rfl, rfl, trivial⟩ ?_))
  clear h hI; rintro ⟨fuel1, i1⟩ w5 ⟨c6, hI, h⟩
  dsimp only at hI h
  rcases fuel1 with _ | fuel1
  ·rw [m_collective_check_l1] at h; cases h
  rw [m_collective_check_l1] at h
  refine c_sub (e := [(1, vs a2 l1.length c2), (34, vs a3 zs1.length (c2 - Int.toNat 1)), (35, vi (zs1.length : Int)), (36, vi i1)]) ⟨rfl, rfl, rfl, rfl, trivial⟩ ?_
  refine sr (sq (y_lss rfl et et) ?_)
  refine nk (c_seq (cif h et (fun hb h => ?_) (fun hb h => ?_)))
  ·refine c_skip (k_same (c_seq (c_block (sr ?_))))
   obtain ⟨e1, hx6, h⟩ := bnd_some h
   obtain ⟨ad1, cs1, hA1, hr1, hq1⟩ := hI.clat (.s .z) hx6
   obtain ⟨a4, c7, a5, c8, rfl, hf1, hf2⟩ := hr1
   have hI := hI.add (c := Cl.sl (cInt .i64) a4 c7 e1.Dims) hf1
   have hI := hI.add (c := Cl.sl cGVal a5 c8 e1.Vals) hf2
   refine sq (y_indexAddr rfl u25 size_41 et et (lat_bd hx6) hA1) ?_
   refine sq (y_loadN (l := (lTensor e1 a4 c7 a5 c8)) rfl et u41 rfl size_41 hq1.1) ?_
   refine l_alloc (cs := ZTensor) hI gn rfl rfl zero_41 rfl ?_
   clear hI; intro b2 c9 w6 hI
   refine l_store (new := (lTensor e1 a4 c7 a5 c8)) (cs' := (ATensor e1 a4 c7 a5 c8)) hI .z gn rfl rfl et et rfl size_41 rfl rfl rfl ?_
   clear hI; intro c10 w7 hI
   refine nk (c_seq (c_seq (c_drawX [] false (.c (0, .q) (.c (1, .q) (.c (2, .q) (.c (3, .q) (.c (4, .q) (.c (5, .q) (.c (6, .q) .n))))))) hI (by kernel_rfl) (by kernel_rfl) ?_)))
   clear hI; intro w8 hI
   refine a_q rfl gn rfl (fun w' => y_fieldAddr rfl et u41 rfl size_38 rfl) ?_
   refine a_read rfl gn rfl (fun w' hw' => (y_loadN (l := (lType e1.Type_)) rfl et u38 rfl size_38 ((CA.blk (hI.blk .z) rfl).at_ (SX.any rfl hw')))) (by kernel_rfl) ?_
   refine a_q rfl gn rfl (fun w' => y_move rfl et) ?_
   obtain ⟨e2, hx7, h⟩ := bnd_some h
   obtain ⟨ad2, cs2, hA2, hr2, hq2⟩ := hI.clat (.s (.s .z)) hx7
   obtain ⟨a6, c11, a7, c12, rfl, hf3, hf4⟩ := hr2
   have hI := hI.add (c := Cl.sl (cInt .i64) a6 c11 e2.Dims) hf3
   have hI := hI.add (c := Cl.sl cGVal a7 c12 e2.Vals) hf4
   refine a_q rfl gn rfl (fun w' => y_indexAddr rfl u25 size_41 et ev_const (lat_bd hx7) hA2) ?_
   refine a_q rfl gn rfl (fun w' => y_fieldAddr rfl et u41 rfl size_38 rfl) ?_
   refine a_read rfl gn rfl (fun w' hw' => (y_loadN (l := (lType e2.Type_)) rfl et u38 rfl size_38 ((CA.part hq2 rfl).at_ (SX.any rfl hw')))) (by kernel_rfl) ?_
   refine a_q rfl gn rfl (fun w' => y_bin rfl et et (eqstruct_38n ..) (eqguard_38 ..)) ?_
   refine a_nil ?_
   refine k_same (cif h et (fun hb h => ?_) (fun hb h => ?_))
   ·refine sr (sac ?_)
    refine nk (c_ret ?_)
    obtain rfl := some_inj h
    exact q_ret (vs := [vi 10]) Tryz.results43 ⟨ev_tmp rfl rfl, trivial⟩ (fq hI trivial)
   refine c_skip (k_same (c_seq (c_drawX [] false (.c (0, .q) (.c (1, .q) (.c (2, .q) (.c (3, .q) (.c (4, .q) (.c (5, .q) (.c (6, .s) (.c (7, .q) .n)))))))) hI (by kernel_rfl) (by kernel_rfl) ?_)))
   clear hI; intro w9 hI
   refine a_q rfl gn rfl (fun w' => y_fieldAddr rfl et u41 rfl size_22 rfl) ?_
   refine a_read rfl gn rfl (fun w' hw' => (y_load1 (v := (vs a4 e1.Dims.length c7)) rfl et u22 rfl ((CA.blk (hI.blk .z) rfl).at_ (SX.any rfl hw')))) (by kernel_rfl) ?_
   refine a_q rfl gn rfl (fun w' => y_move rfl et) ?_
   obtain ⟨e3, hx8, h⟩ := bnd_some h
   obtain ⟨ad3, cs3, hA3, hr3, hq3⟩ := hI.clat (.s (.s (.s (.s .z)))) hx8
   obtain ⟨a8, c13, a9, c14, rfl, hf5, hf6⟩ := hr3
   have hI := hI.add (c := Cl.sl (cInt .i64) a8 c13 e3.Dims) hf5
   have hI := hI.add (c := Cl.sl cGVal a9 c14 e3.Vals) hf6
   refine a_q rfl gn rfl (fun w' => y_indexAddr rfl u25 size_41 et ev_const (lat_bd hx8) hA3) ?_
   refine a_q rfl gn rfl (fun w' => y_fieldAddr rfl et u41 rfl size_22 rfl) ?_
   refine a_read rfl gn rfl (fun w' hw' => (y_load1 (v := (vs a8 e3.Dims.length c13)) rfl et u22 rfl ((CA.part hq3 rfl).at_ (SX.any rfl hw')))) (by kernel_rfl) ?_
   obtain ⟨r3, hx9, h⟩ := bnd_some h
   refine la_call rfl gn rfl (r_callF (vs := [vs a4 e1.Dims.length c7, vs a8 e3.Dims.length c13]) rfl ok_76 ⟨et, ⟨et, trivial⟩⟩) (Calls.mono (c_shape_Same (Dj F c10) w9 hI.lt e1.Dims e3.Dims a4 c7 a8 c13 ⟨(hI.get (.s (.s (.s (.s (.s .z)))))), (hI.get (.s .z)), trivial⟩ r3 hx9) ?_)
   rintro _ w10 ⟨rfl, hx10, hl3⟩
   refine ⟨_, rfl, hx10, ?_⟩
   replace hI := (hI.ext hx10)
   refine a_q rfl gn rfl (fun w' => y_not rfl et) ?_
   refine a_nil ?_
   refine k_same (cif h et (fun hb h => ?_) (fun hb h => ?_))
   ·refine sr (sac ?_)
    refine nk (c_ret ?_)
    obtain rfl := some_inj h
    exact q_ret (vs := [vi 15]) Tryz.results43 ⟨ev_tmp rfl rfl, trivial⟩ (fq hI trivial)
   refine c_skip (k_same (c_region rfl ?_))
   refine sq (y_add rfl et ev_const) ?_
   refine sm ?_
   refine s_nil ?_
   exact k_loop (fuel1, wi64 (i1 + 1)) ⟨rfl, rfl, rfl, rfl, trivial⟩ ⟨_, hI.arr .n ⟨(.s (.s (.s (.s (.s (.s .z)))))), (.s (.s (.s (.s (.s (.s (.s .z))))))), trivial⟩, h⟩ (Nat.lt_succ_self _)
  refine c_exit ?_
  refine k_in ?_
  refine k_same (sr (sac ?_))
  refine nk (c_ret ?_)
  obtain rfl := some_inj h
  exact q_ret (vs := [vi 0]) Tryz.results43 ⟨ev_tmp rfl rfl, trivial⟩ (fq hI trivial)
 refine sr (sm ?_)
 refine sq (y_lenl rfl u25 et) ?_
 refine sq (y_move rfl ev_const) ?_
 refine nk (c_block (c_loop (α := Nat × Int) (fun x => fun w => ∃ C, Bun noM F w0 C w [] [Cl.sl cGTensor a2 c2 l1] ∧ m_collective_check_l2 l1 (x.1) (x.2) = some r) (fun x _ => x.1) (fun x => [(1, vs a2 l1.length c2), (21, vs a2 l1.length c2), (22, vi (l1.length : Int)), (23, vi (x.2))]) (fu, 0) ⟨_, hI.arr .n ⟨(.s (.s .z)), trivial⟩, h⟩ ⟨rfl, rfl, rfl, rfl, trivial⟩ ?_))
 clear h hI; rintro ⟨fuel2, i2⟩ w11 ⟨c15, hI, h⟩
 dsimp only at hI h
 rcases fuel2 with _ | fuel2
 ·rw [m_collective_check_l2] at h; cases h
 rw [m_collective_check_l2] at h
 refine c_sub (e := [(1, vs a2 l1.length c2), (21, vs a2 l1.length c2), (22, vi (l1.length : Int)), (23, vi i2)]) ⟨rfl, rfl, rfl, rfl, trivial⟩ ?_
 refine sr (sq (y_lss rfl et et) ?_)
 refine nk (c_seq (cif h et (fun hb h => ?_) (fun hb h => ?_)))
 ·refine c_skip (k_same (c_seq (c_block (sr ?_))))
  obtain ⟨e4, hx11, h⟩ := bnd_some h
  obtain ⟨ad4, cs4, hA4, hr4, hq4⟩ := hI.clat .z hx11
  obtain ⟨a10, c16, a11, c17, rfl, hf7, hf8⟩ := hr4
  have hI := hI.add (c := Cl.sl (cInt .i64) a10 c16 e4.Dims) hf7
  have hI := hI.add (c := Cl.sl cGVal a11 c17 e4.Vals) hf8
  refine sq (y_indexAddr rfl u25 size_41 et et (lat_bd hx11) hA4) ?_
  refine sq (y_loadN (l := (lTensor e4 a10 c16 a11 c17)) rfl et u41 rfl size_41 hq4.1) ?_
  refine l_alloc (cs := ZTensor) hI gn rfl rfl zero_41 rfl ?_
  clear hI; intro b3 c18 w12 hI
  refine l_store (new := (lTensor e4 a10 c16 a11 c17)) (cs' := (ATensor e4 a10 c16 a11 c17)) hI .z gn rfl rfl et et rfl size_41 rfl rfl rfl ?_
  clear hI; intro c19 w13 hI
  refine nk (sr (sq (y_loadN (l := (lTensor e4 a10 c16 a11 c17)) rfl et u41 rfl size_41 (CellsAt.of_blk (hI.blk .z) rfl)) ?_))
  obtain ⟨r4, hx12, h⟩ := bnd_some h
  refine s_call gn rfl (r_callF (vs := [(Value.agg (ATensor e4 a10 c16 a11 c17))]) rfl ok_71 ⟨et, trivial⟩) (Calls.mono (c_tensor_Validate (Dj F c19) w13 hI.lt e4 a10 c16 a11 c17 ⟨(hI.get (.s .z)), (hI.get .z), trivial⟩ r4 hx12) ?_)
  rintro _ w14 ⟨rfl, hx13, hl4⟩
  refine ⟨_, rfl, ?_⟩
  replace hI := (hI.ext hx13)
  refine sa ?_
  refine nk (sr (sm ?_))
  refine sq (y_neq rfl et ev_const) ?_
  refine nk (cif h et (fun hb h => ?_) (fun hb h => ?_))
  ·refine sr (sm ?_)
   refine sa ?_
   refine nk (c_ret ?_)
   obtain rfl := some_inj h
   exact q_ret (vs := [vi r4]) Tryz.results43 ⟨ev_tmp rfl rfl, trivial⟩ (fq hI trivial)
  refine c_skip (k_same (c_region rfl ?_))
  refine sq (y_add rfl et ev_const) ?_
  refine sm ?_
  refine s_nil ?_
  exact k_loop (fuel2, wi64 (i2 + 1)) ⟨rfl, rfl, rfl, rfl, trivial⟩ ⟨_, hI.arr .n ⟨(.s (.s .z)), trivial⟩, h⟩ (Nat.lt_succ_self _)
 refine c_exit ?_
 refine k_in ?_
 exact k_join () ⟨rfl, trivial⟩ ⟨_, hI.arr .n ⟨.z, trivial⟩, h⟩ rfl
theorem c_collective_hasAxis (F : NP) (w0 : World) (hF : ∀ k, F k → k < w0.heap.size) (m1 : GMesh) (axis1 : Int) (a1 : Option Addr) (c1 : Nat) (hc : AllCl [Cl.sl (cInt .i64) a1 c1 m1.Dims] F w0) (r : Bool)
  (h : m_collective_hasAxis m1 axis1 = some r) :
  Calls Tryz.prog 44 #[(Value.agg #[vs a1 m1.Dims.length c1]), vi axis1] w0 fun e w => e = .returned (vb r) ∧ Ext w0 w ∧ AllCl [] F w := by
 refine enterK Tryz.func44 rfl Tryz.ntmps44 rfl ?_
 have hI := Bun.start hF hc
 clear hc
 rw [m_collective_hasAxis] at h
 refine sr (l_box (v := (Value.agg #[vs a1 m1.Dims.length c1])) (cs := #[vs a1 m1.Dims.length c1]) hI gn rfl rfl et rfl ?_)
 clear hI; intro b1 c2 w1 hI
 obtain ⟨c3, hI⟩ := hI.relBox .z
 refine sac ?_
 refine nk (sr (sm ?_))
 refine sq (y_geq rfl et ev_const) ?_
 refine sm ?_
 refine s_gval (g_true rfl rfl rfl rfl) rfl (fun hc => y_move rfl et) ?_
 refine s_gval (g_true rfl rfl rfl rfl) rfl (fun hc => y_fieldAddr rfl et u24 rfl size_22 rfl) ?_
 refine s_gval (g_true rfl rfl rfl rfl) rfl (fun hc => (y_load1 (v := (vs a1 m1.Dims.length c1)) rfl (ev_gv et hc) u22 rfl (hI.kblk (l := [vs a1 m1.Dims.length c1]) .z rfl).1)) ?_
 refine s_gval (g_true rfl rfl rfl rfl) rfl (fun hc => y_lenl rfl u22 (ev_gv et hc)) ?_
 refine s_gval (g_true rfl rfl rfl rfl) rfl (fun hc => y_lss rfl (ev_gv et hc) (ev_gv et hc)) ?_
 refine sq (y_and rfl et et) ?_
 refine sa ?_
 refine nk (c_ret ?_)
 obtain rfl := some_inj h
 exact q_ret (vs := [(vb ((decide (0 ≤ axis1)) && (decide (axis1 < (m1.Dims.length : Int)))))]) Tryz.results44 ⟨ev_tmp rfl rfl, trivial⟩ (fq hI trivial)
theorem c_collective_checkAxes (F : NP) (w0 : World) (hF : ∀ k, F k → k < w0.heap.size) (m1 : GMesh) (l1 : List GTensor) (axis1 : Int) (along1 : Int) (a1 : Option Addr) (c1 : Nat) (a2 : Option Addr) (c2 : Nat) (hc : AllCl [Cl.sl (cInt .i64) a1 c1 m1.Dims, Cl.sl cGTensor a2 c2 l1] F w0) (r : Int)
  (h : m_collective_checkAxes m1 l1 axis1 along1 = some r) :
  Calls Tryz.prog 31 #[(Value.agg #[vs a1 m1.Dims.length c1]), vs a2 l1.length c2, vi axis1, vi along1] w0 fun e w => e = .returned (vi r) ∧ Ext w0 w ∧ AllCl [] F w := by
 refine enterK Tryz.func31 rfl Tryz.ntmps31 rfl ?_
 have hI := Bun.start hF hc
 clear hc
 rw [m_collective_checkAxes] at h
 refine sr (l_box (v := (Value.agg #[vs a1 m1.Dims.length c1])) (cs := #[vs a1 m1.Dims.length c1]) hI gn rfl rfl et rfl ?_)
 clear hI; intro b1 c3 w1 hI
 obtain ⟨c4, hI⟩ := hI.relBox .z
 refine sac ?_
 refine nk (c_seq (sr (sq (y_loadN (l := [vs a1 m1.Dims.length c1]) rfl et u24 rfl size_24 (hI.kblk (l := [vs a1 m1.Dims.length c1]) .z rfl).1) ?_)))
 refine sm ?_
 obtain ⟨r1, hx1, h⟩ := bnd_some h
 refine s_call gn rfl (r_callF (vs := [(Value.agg #[vs a1 m1.Dims.length c1]), vs a2 l1.length c2]) rfl ok_43 ⟨et, ⟨et, trivial⟩⟩) (Calls.mono (c_collective_check (Dj F c4) w1 hI.lt m1 l1 a1 c1 a2 c2 ⟨(hI.get (.s .z)), (hI.get (.s (.s .z))), trivial⟩ r1 hx1) ?_)
 rintro _ w2 ⟨rfl, hx2, hl1⟩
 refine ⟨_, rfl, ?_⟩
 replace hI := (hI.ext hx2)
 refine sa ?_
 refine nk (sr (sm ?_))
 refine sq (y_neq rfl et ev_const) ?_
 refine nk (cif h et (fun hb h => ?_) (fun hb h => ?_))
 ·refine sr (sm ?_)
  refine sa ?_
  refine nk (c_ret ?_)
  obtain rfl := some_inj h
  exact q_ret (vs := [vi r1]) Tryz.results31 ⟨ev_tmp rfl rfl, trivial⟩ (fq hI trivial)
 refine c_skip (k_same (c_seq (sr (sq (y_loadN (l := [vs a1 m1.Dims.length c1]) rfl et u24 rfl size_24 (hI.kblk (l := [vs a1 m1.Dims.length c1]) .z rfl).1) ?_))))
 refine sm ?_
 obtain ⟨r2, hx3, h⟩ := bnd_some h
 refine s_call gn rfl (r_callF (vs := [(Value.agg #[vs a1 m1.Dims.length c1]), vi axis1]) rfl ok_44 ⟨et, ⟨et, trivial⟩⟩) (Calls.mono (c_collective_hasAxis (Dj F c4) w2 hI.lt m1 axis1 a1 c1 ⟨(hI.get (.s .z)), trivial⟩ r2 hx3) ?_)
 rintro _ w3 ⟨rfl, hx4, hl2⟩
 refine ⟨_, rfl, ?_⟩
 replace hI := (hI.ext hx4)
 refine sq (y_not rfl et) ?_
 refine nk (cif h et (fun hb h => ?_) (fun hb h => ?_))
 ·refine sr (sac ?_)
  refine nk (c_ret ?_)
  obtain rfl := some_inj h
  exact q_ret (vs := [vi 23]) Tryz.results31 ⟨ev_tmp rfl rfl, trivial⟩ (fq hI trivial)
 refine c_skip (k_same (c_seq (sr (sm ?_))))
 refine sq (y_lss rfl et ev_const) ?_
 refine sm ?_
 refine s_gval (g_false rfl rfl rfl rfl) rfl (fun hc => y_move rfl et) ?_
 refine s_gval (g_false rfl rfl rfl rfl) rfl (fun hc => y_move rfl et) ?_
 obtain ⟨e1, hx5, h⟩ := bnd_some h
 replace hx5 := gd_some hx5
 obtain ⟨ad1, cs1, hq1⟩ := hI.gclat (.s (.s .z)) hx5
 obtain ⟨a3, c5, a4, c6, hq2⟩ : ∃ (a3 : Option Addr) (c5 : Nat) (a4 : Option Addr) (c6 : Nat), (!(decide (along1 < 0))) = true → (a2 = some ad1 ∧ cs1 = (lTensor e1 a3 c5 a4 c6) ∧ CA (Dj F c4) w3 (ad1.add (Int.toNat 0 * 7)) cs1 ∧ SlC (cInt .i64) (Dj F c4) w3 a3 c5 e1.Dims ∧ SlC cGVal (Dj F c4) w3 a4 c6 e1.Vals) := by
  by_cases hc : (!(decide (along1 < 0))) = true
  ·obtain ⟨k1, k2, k3⟩ := hq1 hc; obtain ⟨a3, c5, a4, c6, rfl, hf1, hf2⟩ := k2; exact ⟨a3, c5, a4, c6, fun _ => ⟨k1, rfl, k3, hf1, hf2⟩⟩
  exact ⟨default, default, default, default, fun k => absurd k hc⟩
 clear hq1
 have hI := hI.add (c := Cl.gsl (!(decide (along1 < 0))) (cInt .i64) a3 c5 e1.Dims) (fun hc => (hq2 hc).2.2.2.1)
 have hI := hI.add (c := Cl.gsl (!(decide (along1 < 0))) cGVal a4 c6 e1.Vals) (fun hc => (hq2 hc).2.2.2.2)
 have hq3 : (!(decide (along1 < 0))) = true → CA (Dj F c4) w3 (ad1.add (Int.toNat 0 * 7)) (lTensor e1 a3 c5 a4 c6) := fun hc => by have k := hq2 hc; have e : cs1 = _ := k.2.1; rw [← e]; exact k.2.2.1
 refine s_gval (g_false rfl rfl rfl rfl) rfl (fun hc => (y_indexAddr rfl u25 size_41 (ev_gv et hc) ev_const (lat_bd (hx5 hc)) (hq2 hc).1)) ?_
 refine s_gval (g_false rfl rfl rfl rfl) rfl (fun hc => y_fieldAddr rfl (ev_gv et hc) u41 rfl size_22 rfl) ?_
 refine s_gval (g_false rfl rfl rfl rfl) rfl (fun hc => (y_load1 (v := (vs a3 e1.Dims.length c5)) rfl (ev_gv et hc) u22 rfl (CA.part (hq3 hc) rfl).1)) ?_
 refine s_gval (g_false rfl rfl rfl rfl) rfl (fun hc => y_lenl rfl u22 (ev_gv et hc)) ?_
 refine s_gval (g_false rfl rfl rfl rfl) rfl (fun hc => y_geq rfl (ev_gv et hc) (ev_gv et hc)) ?_
 refine sq (y_or rfl et et) ?_
 refine s_nil ?_
 refine k_next (e := [(30, (vb ((decide (along1 < 0)) || (decide ((e1.Dims.length : Int) ≤ along1)))))]) ⟨rfl, trivial⟩ ?_
 refine cif h et (fun hb h => ?_) (fun hb h => ?_)
 ·refine sr (sac ?_)
  refine nk (c_ret ?_)
  obtain rfl := some_inj h
  exact q_ret (vs := [vi 11]) Tryz.results31 ⟨ev_tmp rfl rfl, trivial⟩ (fq hI trivial)
 refine c_skip (k_same (sr (sac ?_)))
 refine nk (c_ret ?_)
 obtain rfl := some_inj h
 exact q_ret (vs := [vi 0]) Tryz.results31 ⟨ev_tmp rfl rfl, trivial⟩ (fq hI trivial)
theorem c_tensor_joinable (F : NP) (w0 : World) (hF : ∀ k, F k → k < w0.heap.size) (axis1 : Int) (l1 : List GTensor) (a1 : Option Addr) (c1 : Nat) (hc : AllCl [Cl.sl cGTensor a1 c1 l1] F w0) (r : Int)
  (h : m_tensor_joinable axis1 l1 = some r) :
  Calls Tryz.prog 63 #[vi axis1, vs a1 l1.length c1] w0 fun e w => e = .returned (vi r) ∧ Ext w0 w ∧ AllCl [] F w := by
 refine enterK Tryz.func63 rfl Tryz.ntmps63 rfl ?_
 have hI := Bun.start hF hc
 clear hc
 rw [m_tensor_joinable] at h
 refine sr (sac ?_)
 refine nk (c_seq (sr (sm ?_)))
 refine sq (y_lenl rfl u25 et) ?_
 refine sq (y_eql rfl et ev_const) ?_
 refine nk (cif h et (fun hb h => ?_) (fun hb h => ?_))
 ·refine sr (sac ?_)
  refine nk (c_ret ?_)
  obtain rfl := some_inj h
  exact q_ret (vs := [vi 1]) Tryz.results63 ⟨ev_tmp rfl rfl, trivial⟩ (fq hI trivial)
 refine c_skip (k_same (c_join (α := Unit) (fun _ => ⟨91, []⟩) (fun _ => [(0, vi axis1), (1, vs a1 l1.length c1)]) (fun _ => fun w => ∃ C, Bun noM F w0 C w [] [Cl.sl cGTensor a1 c1 l1] ∧ m_tensor_joinable_j1 l1 axis1 = some r) ?_ ?_))
 ·clear h hI; rintro _ w1 ⟨c2, hI, h⟩
  try dsimp only at hI h
  rw [m_tensor_joinable_j1] at h
  refine c_sub (e := [(0, vi axis1), (1, vs a1 l1.length c1)]) ⟨rfl, rfl, trivial⟩ ?_
  refine sr (sm ?_)
  obtain ⟨e1, hx1, h⟩ := bnd_some h
  obtain ⟨ad1, cs1, hA1, hr1, hq1⟩ := hI.clat .z hx1
  obtain ⟨a2, c3, a3, c4, rfl, hf1, hf2⟩ := hr1
  have hI := hI.add (c := Cl.sl (cInt .i64) a2 c3 e1.Dims) hf1
  have hI := hI.add (c := Cl.sl cGVal a3 c4 e1.Vals) hf2
  refine sq (y_indexAddr rfl u25 size_41 et ev_const (lat_bd hx1) hA1) ?_
  refine sq (y_loadN (l := (lTensor e1 a2 c3 a3 c4)) rfl et u41 rfl size_41 hq1.1) ?_
  refine l_alloc (cs := ZTensor) hI gn rfl rfl zero_41 rfl ?_
  clear hI; intro b1 c5 w2 hI
  refine l_store (new := (lTensor e1 a2 c3 a3 c4)) (cs' := (ATensor e1 a2 c3 a3 c4)) hI .z gn rfl rfl et et rfl size_41 rfl rfl rfl ?_
  clear hI; intro c6 w3 hI
  refine nk (c_join (α := Unit) (fun _ => ⟨91, []⟩) (fun _ => [(0, vi axis1), (1, vs a1 l1.length c1), (8, vp b1 0)]) (fun _ => fun w => ∃ C, Bun noM F w0 C w [MO.box b1 41 (ATensor e1 a2 c3 a3 c4)] [Cl.sl cGTensor a1 c1 l1, Cl.sl (cInt .i64) a2 c3 e1.Dims, Cl.sl cGVal a3 c4 e1.Vals] ∧ m_tensor_joinable_j2 axis1 e1 l1 = some r) ?_ ?_)
  ·clear h hI; rintro _ w4 ⟨c7, hI, h⟩
   try dsimp only at hI h
   rw [m_tensor_joinable_j2] at h
   refine c_sub (e := [(0, vi axis1), (1, vs a1 l1.length c1), (8, vp b1 0)]) ⟨rfl, rfl, rfl, trivial⟩ ?_
   refine c_seq (sr (sm ?_))
   refine sq (y_lss rfl et ev_const) ?_
   refine sm ?_
   refine s_gval (g_false rfl rfl rfl rfl) rfl (fun hc => y_move rfl et) ?_
   refine s_gval (g_false rfl rfl rfl rfl) rfl (fun hc => y_fieldAddr rfl et u41 rfl size_22 rfl) ?_
   refine s_gval (g_false rfl rfl rfl rfl) rfl (fun hc => (y_load1 (v := (vs a2 e1.Dims.length c3)) rfl (ev_gv et hc) u22 rfl (CellsAt.of_blk (hI.blk .z) rfl))) ?_
   refine s_gval (g_false rfl rfl rfl rfl) rfl (fun hc => y_lenl rfl u22 (ev_gv et hc)) ?_
   refine s_gval (g_false rfl rfl rfl rfl) rfl (fun hc => y_geq rfl (ev_gv et hc) (ev_gv et hc)) ?_
   refine sq (y_or rfl et et) ?_
   refine nk (cif h et (fun hb h => ?_) (fun hb h => ?_))
   ·refine sr (sac ?_)
    refine nk (c_ret ?_)
    obtain rfl := some_inj h
    exact q_ret (vs := [vi 11]) Tryz.results63 ⟨ev_tmp rfl rfl, trivial⟩ (fq hI trivial)
   refine c_skip (k_same (c_seq (sr (sm ?_))))
   obtain ⟨zs1, hx2, h⟩ := bnd_some h
   obtain ⟨a4, hB1⟩ : ∃ B : Option Addr, B = (if c1 = Int.toNat 1 then a1 else Option.map (·.add (Int.toNat 1 * 7)) a1) := ⟨_, rfl⟩
   refine sq (y_lfrom rfl u25 size_41 et ev_const hx2 hB1) ?_
   replace hI := hI.from_ .z hx2 hB1
   refine sq (y_lenl rfl u25 et) ?_
   refine sq (y_move rfl ev_const) ?_
   refine nk (c_block (c_loop (α := Nat × Int) (fun x => fun w => ∃ C, Bun noM F w0 C w [MO.box b1 41 (ATensor e1 a2 c3 a3 c4)] [Cl.sl (cInt .i64) a2 c3 e1.Dims, Cl.sl cGVal a3 c4 e1.Vals, Cl.sl cGTensor a4 (c1 - Int.toNat 1) zs1] ∧ m_tensor_joinable_l1 zs1 axis1 e1 (x.1) (x.2) = some r) (fun x _ => x.1) (fun x => [(0, vi axis1), (8, vp b1 0), (63, vs a4 zs1.length (c1 - Int.toNat 1)), (64, vi (zs1.length : Int)), (65, vi (x.2))]) (fu, 0) ⟨_, hI.arr (.c .z .n) ⟨(.s (.s .z)), (.s (.s (.s .z))), .z, trivial⟩, h⟩ ⟨rfl, rfl, rfl, rfl, rfl, trivial⟩ ?_))
   clear h hI; rintro ⟨fuel1, i1⟩ w5 ⟨c8, hI, h⟩
   dsimp only at hI h
   rcases fuel1 with _ | fuel1
   ·rw [m_tensor_joinable_l1] at h; cases h
   rw [m_tensor_joinable_l1] at h
   refine c_sub (e := [(0, vi axis1), (8, vp b1 0), (63, vs a4 zs1.length (c1 - Int.toNat 1)), (64, vi (zs1.length : Int)), (65, vi i1)]) ⟨rfl, rfl, rfl, rfl, rfl, trivial⟩ ?_
   refine sr (sq (y_lss rfl et et) ?_)
   refine nk (c_seq (cif h et (fun hb h => ?_) (fun hb h => ?_)))
   ·refine c_skip (k_same (c_join (α := Unit) (fun _ => ⟨91, []⟩) (fun _ => [(0, vi axis1), (8, vp b1 0), (63, vs a4 zs1.length (c1 - Int.toNat 1)), (64, vi (zs1.length : Int)), (65, vi i1)]) (fun _ => fun w => ∃ C, Bun noM F w0 C w [MO.box b1 41 (ATensor e1 a2 c3 a3 c4)] [Cl.sl (cInt .i64) a2 c3 e1.Dims, Cl.sl cGVal a3 c4 e1.Vals, Cl.sl cGTensor a4 (c1 - Int.toNat 1) zs1] ∧ m_tensor_joinable_j3 (m_tensor_joinable_l1 zs1 axis1 e1 fuel1) i1 = some r) ?_ ?_))
    ·clear h hI; rintro _ w6 ⟨c9, hI, h⟩
     try dsimp only at hI h
     rw [m_tensor_joinable_j3] at h
     refine c_sub (e := [(0, vi axis1), (8, vp b1 0), (63, vs a4 zs1.length (c1 - Int.toNat 1)), (64, vi (zs1.length : Int)), (65, vi i1)]) ⟨rfl, rfl, rfl, rfl, rfl, trivial⟩ ?_
     refine c_region rfl ?_
     refine sq (y_add rfl et ev_const) ?_
     refine sm ?_
     refine s_nil ?_
     exact k_loop (fuel1, wi64 (i1 + 1)) ⟨rfl, rfl, rfl, rfl, rfl, trivial⟩ ⟨_, hI.arr (.c .z .n) ⟨.z, (.s .z), (.s (.s .z)), trivial⟩, h⟩ (Nat.lt_succ_self _)
    refine c_block (sr ?_)
    obtain ⟨e2, hx3, h⟩ := bnd_some h
    obtain ⟨ad2, cs2, hA2, hr2, hq2⟩ := hI.clat (.s (.s .z)) hx3
    obtain ⟨a5, c10, a6, c11, rfl, hf3, hf4⟩ := hr2
    have hI := hI.add (c := Cl.sl (cInt .i64) a5 c10 e2.Dims) hf3
    have hI := hI.add (c := Cl.sl cGVal a6 c11 e2.Vals) hf4
    refine sq (y_indexAddr rfl u25 size_41 et et (lat_bd hx3) hA2) ?_
    refine sq (y_loadN (l := (lTensor e2 a5 c10 a6 c11)) rfl et u41 rfl size_41 hq2.1) ?_
    refine l_alloc (cs := ZTensor) hI gn rfl rfl zero_41 rfl ?_
    clear hI; intro b2 c12 w7 hI
    refine l_store (new := (lTensor e2 a5 c10 a6 c11)) (cs' := (ATensor e2 a5 c10 a6 c11)) hI .z gn rfl rfl et et rfl size_41 rfl rfl rfl ?_
    clear hI; intro c13 w8 hI
    refine nk (sr (sq (y_fieldAddr rfl et u41 rfl size_22 rfl) ?_))
    refine sq (y_load1 (v := (vs a5 e2.Dims.length c10)) rfl et u22 rfl (CellsAt.of_blk (hI.blk .z) rfl)) ?_
    refine sq (y_lenl rfl u22 et) ?_
    refine sq (y_move rfl ev_const) ?_
    refine nk (c_block (c_loop (α := Nat × Int) (fun x => fun w => ∃ C, Bun noM F w0 C w [MO.box b1 41 (ATensor e1 a2 c3 a3 c4)] [Cl.sl (cInt .i64) a2 c3 e1.Dims, Cl.sl cGVal a3 c4 e1.Vals, Cl.sl cGTensor a4 (c1 - Int.toNat 1) zs1, Cl.sl (cInt .i64) a5 c10 e2.Dims] ∧ m_tensor_joinable_l2 e2 axis1 e1 (m_tensor_joinable_l1 zs1 axis1 e1 fuel1) i1 (x.1) (x.2) = some r) (fun x _ => x.1) (fun x => [(0, vi axis1), (8, vp b1 0), (63, vs a4 zs1.length (c1 - Int.toNat 1)), (64, vi (zs1.length : Int)), (65, vi i1), (70, vs a5 e2.Dims.length c10), (71, vi (e2.Dims.length : Int)), (72, vi (x.2))]) (fu, 0) ⟨_, hI.arr (.c (.s .z) .n) ⟨(.s (.s .z)), (.s (.s (.s .z))), (.s (.s (.s (.s .z)))), (.s .z), trivial⟩, h⟩ ⟨rfl, rfl, rfl, rfl, rfl, rfl, rfl, rfl, trivial⟩ ?_))
    clear h hI; rintro ⟨fuel2, i2⟩ w9 ⟨c14, hI, h⟩
    dsimp only at hI h
    rcases fuel2 with _ | fuel2
    ·rw [m_tensor_joinable_l2] at h; cases h
    rw [m_tensor_joinable_l2] at h
    refine c_sub (e := [(0, vi axis1), (8, vp b1 0), (63, vs a4 zs1.length (c1 - Int.toNat 1)), (64, vi (zs1.length : Int)), (65, vi i1), (70, vs a5 e2.Dims.length c10), (71, vi (e2.Dims.length : Int)), (72, vi i2)]) ⟨rfl, rfl, rfl, rfl, rfl, rfl, rfl, rfl, trivial⟩ ?_
    refine sr (sq (y_lss rfl et et) ?_)
    refine nk (c_seq (cif h et (fun hb h => ?_) (fun hb h => ?_)))
    ·refine c_skip (k_same (c_seq (c_block (sr (sm ?_)))))
     obtain ⟨e3, hx4, h⟩ := bnd_some h
     obtain ⟨ad3, cs3, hA3, hr3, hq3⟩ := hI.clat (.s (.s (.s .z))) hx4
     obtain rfl : cs3 = [vi e3] := hr3
     refine sq (y_indexAddr rfl u22 size_3 et et (lat_bd hx4) hA3) ?_
     refine sq (y_load1 (v := (vi e3)) rfl et u3 rfl hq3.1) ?_
     refine sa ?_
     refine sa ?_
     refine nk (sr (sm ?_))
     refine sm ?_
     refine sq (y_neq rfl et et) ?_
     refine sm ?_
     refine s_gval (g_true rfl rfl rfl rfl) rfl (fun hc => y_move rfl et) ?_
     refine s_gval (g_true rfl rfl rfl rfl) rfl (fun hc => y_fieldAddr rfl et u41 rfl size_22 rfl) ?_
     refine s_gval (g_true rfl rfl rfl rfl) rfl (fun hc => (y_load1 (v := (vs a2 e1.Dims.length c3)) rfl (ev_gv et hc) u22 rfl (CellsAt.of_blk (hI.blk .z) rfl))) ?_
     refine s_gval (g_true rfl rfl rfl rfl) rfl (fun hc => y_move rfl et) ?_
     obtain ⟨e4, hx5, h⟩ := bnd_some h
     replace hx5 := gd_some hx5
     obtain ⟨ad4, cs4, hq4⟩ := hI.gclat .z hx5
     have hq5 : (!decide (i2 = axis1)) = true → CA (Dj F c14) w9 (ad4.add (Int.toNat i2 * 1)) [vi e4] := fun hc => by have k := hq4 hc; have e : cs4 = _ := k.2.1; rw [← e]; exact k.2.2
     refine s_gval (g_true rfl rfl rfl rfl) rfl (fun hc => (y_indexAddr rfl u22 size_3 (ev_gv et hc) (ev_gv et hc) (lat_bd (hx5 hc)) (hq4 hc).1)) ?_
     refine s_gval (g_true rfl rfl rfl rfl) rfl (fun hc => (y_load1 (v := (vi e4)) rfl (ev_gv et hc) u3 rfl (hq5 hc).1)) ?_
     refine s_gval (g_true rfl rfl rfl rfl) rfl (fun hc => y_neq rfl (ev_gv et hc) (ev_gv et hc)) ?_
     refine sq (y_and rfl et et) ?_
     refine nk (cif h et (fun hb h => ?_) (fun hb h => ?_))
     ·refine sr (sac ?_)
      refine s_nil ?_
      refine k_next (e := [(4, vi 15)]) ⟨rfl, trivial⟩ ?_
      refine c_ret ?_
      obtain rfl := some_inj h
      exact q_ret (vs := [vi 15]) Tryz.results63 ⟨ev_tmp rfl rfl, trivial⟩ (fq hI trivial)
     refine c_skip (k_same (c_region rfl ?_))
     refine sq (y_add rfl et ev_const) ?_
     refine sm ?_
     refine s_nil ?_
     exact k_loop (fuel2, wi64 (i2 + 1)) ⟨rfl, rfl, rfl, rfl, rfl, rfl, rfl, rfl, trivial⟩ ⟨_, hI.arr (.c .z .n) ⟨.z, (.s .z), (.s (.s .z)), (.s (.s (.s .z))), trivial⟩, h⟩ (Nat.lt_succ_self _)
    refine c_exit ?_
    refine k_in ?_
    exact k_join () ⟨rfl, rfl, rfl, rfl, rfl, trivial⟩ ⟨_, hI.arr (.c .z .n) ⟨.z, (.s .z), (.s (.s .z)), trivial⟩, h⟩ rfl
   refine c_exit ?_
   refine k_in ?_
   refine k_same (sr (sac ?_))
   refine nk (c_ret ?_)
   obtain rfl := some_inj h
   exact q_ret (vs := [vi 0]) Tryz.results63 ⟨ev_tmp rfl rfl, trivial⟩ (fq hI trivial)
  refine sr (sm ?_)
  obtain ⟨zs2, hx6, h⟩ := bnd_some h
  obtain ⟨a7, hB2⟩ : ∃ B : Option Addr, B = (if c1 = Int.toNat 1 then a1 else Option.map (·.add (Int.toNat 1 * 7)) a1) := ⟨_, rfl⟩
  refine sq (y_lfrom rfl u25 size_41 et ev_const hx6 hB2) ?_
  replace hI := hI.from_ (.s (.s .z)) hx6 hB2
  refine sq (y_lenl rfl u25 et) ?_
  refine sq (y_move rfl ev_const) ?_
  refine nk (c_block (c_loop (α := Nat × Int) (fun x => fun w => ∃ C, Bun noM F w0 C w [MO.box b1 41 (ATensor e1 a2 c3 a3 c4)] [Cl.sl cGTensor a1 c1 l1, Cl.sl (cInt .i64) a2 c3 e1.Dims, Cl.sl cGVal a3 c4 e1.Vals, Cl.sl cGTensor a7 (c1 - Int.toNat 1) zs2] ∧ m_tensor_joinable_l3 zs2 e1 axis1 l1 (x.1) (x.2) = some r) (fun x _ => x.1) (fun x => [(0, vi axis1), (1, vs a1 l1.length c1), (8, vp b1 0), (34, vs a7 zs2.length (c1 - Int.toNat 1)), (35, vi (zs2.length : Int)), (36, vi (x.2))]) (fu, 0) ⟨_, hI.arr (.c .z .n) ⟨(.s (.s (.s .z))), (.s (.s .z)), (.s .z), .z, trivial⟩, h⟩ ⟨rfl, rfl, rfl, rfl, rfl, rfl, trivial⟩ ?_))
  clear h hI; rintro ⟨fuel3, i3⟩ w10 ⟨c15, hI, h⟩
  dsimp only at hI h
  rcases fuel3 with _ | fuel3
  ·rw [m_tensor_joinable_l3] at h; cases h
  rw [m_tensor_joinable_l3] at h
  refine c_sub (e := [(0, vi axis1), (1, vs a1 l1.length c1), (8, vp b1 0), (34, vs a7 zs2.length (c1 - Int.toNat 1)), (35, vi (zs2.length : Int)), (36, vi i3)]) ⟨rfl, rfl, rfl, rfl, rfl, rfl, trivial⟩ ?_
  refine sr (sq (y_lss rfl et et) ?_)
  refine nk (c_seq (cif h et (fun hb h => ?_) (fun hb h => ?_)))
  ·refine c_skip (k_same (c_seq (c_block (sr ?_))))
   obtain ⟨e5, hx7, h⟩ := bnd_some h
   obtain ⟨ad5, cs5, hA5, hr5, hq6⟩ := hI.clat (.s (.s (.s .z))) hx7
   obtain ⟨a8, c16, a9, c17, rfl, hf5, hf6⟩ := hr5
   have hI := hI.add (c := Cl.sl (cInt .i64) a8 c16 e5.Dims) hf5
   have hI := hI.add (c := Cl.sl cGVal a9 c17 e5.Vals) hf6
   refine sq (y_indexAddr rfl u25 size_41 et et (lat_bd hx7) hA5) ?_
   refine sq (y_loadN (l := (lTensor e5 a8 c16 a9 c17)) rfl et u41 rfl size_41 hq6.1) ?_
   refine l_alloc (cs := ZTensor) hI gn rfl rfl zero_41 rfl ?_
   clear hI; intro b3 c18 w11 hI
   refine l_store (new := (lTensor e5 a8 c16 a9 c17)) (cs' := (ATensor e5 a8 c16 a9 c17)) hI .z gn rfl rfl et et rfl size_41 rfl rfl rfl ?_
   clear hI; intro c19 w12 hI
   refine nk (c_seq (sr (sq (y_fieldAddr rfl et u41 rfl size_38 rfl) ?_)))
   refine sq (y_loadN (l := (lType e5.Type_)) rfl et u38 rfl size_38 (CellsAt.of_blk (hI.blk .z) rfl)) ?_
   refine sq (y_fieldAddr rfl et u41 rfl size_38 rfl) ?_
   refine sq (y_loadN (l := (lType e1.Type_)) rfl et u38 rfl size_38 (CellsAt.of_blk (hI.blk (.s .z)) rfl)) ?_
   refine sq (y_bin rfl et et (eqstruct_38n ..) (eqguard_38 ..)) ?_
   refine nk (cif h et (fun hb h => ?_) (fun hb h => ?_))
   ·refine sr (sac ?_)
    refine nk (c_ret ?_)
    obtain rfl := some_inj h
    exact q_ret (vs := [vi 10]) Tryz.results63 ⟨ev_tmp rfl rfl, trivial⟩ (fq hI trivial)
   refine c_skip (k_same (sr (sq (y_fieldAddr rfl et u41 rfl size_22 rfl) ?_)))
   refine sq (y_load1 (v := (vs a8 e5.Dims.length c16)) rfl et u22 rfl (CellsAt.of_blk (hI.blk .z) rfl)) ?_
   refine sq (y_lenl rfl u22 et) ?_
   refine sq (y_fieldAddr rfl et u41 rfl size_22 rfl) ?_
   refine sq (y_load1 (v := (vs a2 e1.Dims.length c3)) rfl et u22 rfl (CellsAt.of_blk (hI.blk (.s .z)) rfl)) ?_
   refine sq (y_lenl rfl u22 et) ?_
   refine sq (y_neq rfl et et) ?_
   refine nk (cif h et (fun hb h => ?_) (fun hb h => ?_))
   ·refine sr (sac ?_)
    refine nk (c_ret ?_)
    obtain rfl := some_inj h
    exact q_ret (vs := [vi 11]) Tryz.results63 ⟨ev_tmp rfl rfl, trivial⟩ (fq hI trivial)
   refine c_skip (k_same (c_region rfl ?_))
   refine sq (y_add rfl et ev_const) ?_
   refine sm ?_
   refine s_nil ?_
   exact k_loop (fuel3, wi64 (i3 + 1)) ⟨rfl, rfl, rfl, rfl, rfl, rfl, trivial⟩ ⟨_, hI.arr (.c (.s .z) .n) ⟨(.s (.s .z)), (.s (.s (.s .z))), (.s (.s (.s (.s .z)))), (.s (.s (.s (.s (.s .z))))), trivial⟩, h⟩ (Nat.lt_succ_self _)
  refine c_exit ?_
  refine k_in ?_
  exact k_join () ⟨rfl, rfl, rfl, trivial⟩ ⟨_, hI.arr (.c .z .n) ⟨.z, (.s .z), (.s (.s .z)), trivial⟩, h⟩ rfl
 refine sr (sm ?_)
 refine sq (y_lenl rfl u25 et) ?_
 refine sq (y_move rfl ev_const) ?_
 refine nk (c_block (c_loop (α := Nat × Int) (fun x => fun w => ∃ C, Bun noM F w0 C w [] [Cl.sl cGTensor a1 c1 l1] ∧ m_tensor_joinable_l4 l1 axis1 (x.1) (x.2) = some r) (fun x _ => x.1) (fun x => [(0, vi axis1), (1, vs a1 l1.length c1), (18, vs a1 l1.length c1), (19, vi (l1.length : Int)), (20, vi (x.2))]) (fu, 0) ⟨_, hI.arr .n ⟨.z, trivial⟩, h⟩ ⟨rfl, rfl, rfl, rfl, rfl, trivial⟩ ?_))
 clear h hI; rintro ⟨fuel4, i4⟩ w13 ⟨c20, hI, h⟩
 dsimp only at hI h
 rcases fuel4 with _ | fuel4
 ·rw [m_tensor_joinable_l4] at h; cases h
 rw [m_tensor_joinable_l4] at h
 refine c_sub (e := [(0, vi axis1), (1, vs a1 l1.length c1), (18, vs a1 l1.length c1), (19, vi (l1.length : Int)), (20, vi i4)]) ⟨rfl, rfl, rfl, rfl, rfl, trivial⟩ ?_
 refine sr (sq (y_lss rfl et et) ?_)
 refine nk (c_seq (cif h et (fun hb h => ?_) (fun hb h => ?_)))
 ·refine c_skip (k_same (c_seq (c_block (sr ?_))))
  obtain ⟨e6, hx8, h⟩ := bnd_some h
  obtain ⟨ad6, cs6, hA6, hr6, hq7⟩ := hI.clat .z hx8
  obtain ⟨a10, c21, a11, c22, rfl, hf7, hf8⟩ := hr6
  have hI := hI.add (c := Cl.sl (cInt .i64) a10 c21 e6.Dims) hf7
  have hI := hI.add (c := Cl.sl cGVal a11 c22 e6.Vals) hf8
  refine sq (y_indexAddr rfl u25 size_41 et et (lat_bd hx8) hA6) ?_
  refine sq (y_loadN (l := (lTensor e6 a10 c21 a11 c22)) rfl et u41 rfl size_41 hq7.1) ?_
  refine l_alloc (cs := ZTensor) hI gn rfl rfl zero_41 rfl ?_
  clear hI; intro b4 c23 w14 hI
  refine l_store (new := (lTensor e6 a10 c21 a11 c22)) (cs' := (ATensor e6 a10 c21 a11 c22)) hI .z gn rfl rfl et et rfl size_41 rfl rfl rfl ?_
  clear hI; intro c24 w15 hI
  refine nk (sr (sq (y_loadN (l := (lTensor e6 a10 c21 a11 c22)) rfl et u41 rfl size_41 (CellsAt.of_blk (hI.blk .z) rfl)) ?_))
  obtain ⟨r1, hx9, h⟩ := bnd_some h
  refine s_call gn rfl (r_callF (vs := [(Value.agg (ATensor e6 a10 c21 a11 c22))]) rfl ok_71 ⟨et, trivial⟩) (Calls.mono (c_tensor_Validate (Dj F c24) w15 hI.lt e6 a10 c21 a11 c22 ⟨(hI.get (.s .z)), (hI.get .z), trivial⟩ r1 hx9) ?_)
  rintro _ w16 ⟨rfl, hx10, hl1⟩
  refine ⟨_, rfl, ?_⟩
  replace hI := (hI.ext hx10)
  refine sa ?_
  refine nk (sr (sm ?_))
  refine sq (y_neq rfl et ev_const) ?_
  refine nk (cif h et (fun hb h => ?_) (fun hb h => ?_))
  ·refine sr (sm ?_)
   refine sa ?_
   refine nk (c_ret ?_)
   obtain rfl := some_inj h
   exact q_ret (vs := [vi r1]) Tryz.results63 ⟨ev_tmp rfl rfl, trivial⟩ (fq hI trivial)
  refine c_skip (k_same (c_region rfl ?_))
  refine sq (y_add rfl et ev_const) ?_
  refine sm ?_
  refine s_nil ?_
  exact k_loop (fuel4, wi64 (i4 + 1)) ⟨rfl, rfl, rfl, rfl, rfl, trivial⟩ ⟨_, hI.arr .n ⟨(.s (.s .z)), trivial⟩, h⟩ (Nat.lt_succ_self _)
 refine c_exit ?_
 refine k_in ?_
 exact k_join () ⟨rfl, rfl, trivial⟩ ⟨_, hI.arr .n ⟨.z, trivial⟩, h⟩ rfl
theorem c_tensor_split (F : NP) (w0 : World) (hF : ∀ k, F k → k < w0.heap.size) (d1 : List Int) (axis1 : Int) (a1 : Option Addr) (c1 : Nat) (hc : AllCl [Cl.sl (cInt .i64) a1 c1 d1] F w0) (r : Int × Int × Int)
  (h : m_tensor_split d1 axis1 = some r) :
  Calls Tryz.prog 64 #[vs a1 d1.length c1, vi axis1] w0 fun e w => e = .returned (Value.tuple #[vi r.1, vi r.2.1, vi r.2.2]) ∧ Ext w0 w ∧ AllCl [] F w := by
 refine enterK Tryz.func64 rfl Tryz.ntmps64 rfl ?_
 have hI := Bun.start hF hc
 clear hc
 rw [m_tensor_split] at h
 refine sr (sac ?_)
 refine sac ?_
 refine sac ?_
 refine nk (c_seq (c_drawX [] false (.c (0, .q) (.c (1, .q) (.c (2, .q) (.c (4, .q) (.c (5, .q) (.c (6, .q) (.c (7, .q) (.c (8, .q) (.c (9, .q) (.c (10, .q) (.c (11, .q) (.c (3, .s) (.c (12, .s) (.c (13, .q) (.c (14, .q) (.c (15, .q) .n)))))))))))))))) hI (by kernel_rfl) (by kernel_rfl) ?_))
 clear hI; intro w1 hI
 refine a_q rfl gn rfl (fun w' => y_move rfl et) ?_
 refine a_q rfl gn rfl (fun w' => y_move rfl et) ?_
 obtain ⟨zs1, hx1, h⟩ := bnd_some h
 refine a_q rfl gn rfl (fun w' => y_lupto rfl u22 size_3 et et hx1 (hI.cap_ .z)) ?_
 replace hI := hI.upto .z hx1
 refine a_q rfl gn rfl (fun w' => y_move rfl et) ?_
 refine a_q rfl gn rfl (fun w' => y_move rfl et) ?_
 obtain ⟨e1, hx2, h⟩ := bnd_some h
 obtain ⟨ad1, cs1, hA1, hr1, hq1⟩ := hI.clat (.s .z) hx2
 obtain rfl : cs1 = [vi e1] := hr1
 refine a_q rfl gn rfl (fun w' => y_indexAddr rfl u22 size_3 et et (lat_bd hx2) hA1) ?_
 refine a_read rfl gn rfl (fun w' hw' => (y_load1 (v := (vi e1)) rfl et u3 rfl (hq1.at_ (SX.any rfl hw')))) (by kernel_rfl) ?_
 refine a_q rfl gn rfl (fun w' => y_move rfl et) ?_
 refine a_q rfl gn rfl (fun w' => y_move rfl et) ?_
 refine a_q rfl gn rfl (fun w' => y_add rfl et ev_const) ?_
 obtain ⟨zs2, hx3, h⟩ := bnd_some h
 obtain ⟨a2, hB1⟩ : ∃ B : Option Addr, B = (if c1 = Int.toNat (wi64 (axis1 + 1)) then a1 else Option.map (·.add (Int.toNat (wi64 (axis1 + 1)) * 1)) a1) := ⟨_, rfl⟩
 refine a_q rfl gn rfl (fun w' => y_lfrom rfl u22 size_3 et et hx3 hB1) ?_
 replace hI := hI.from_ (.s .z) hx3 hB1
 obtain ⟨r1, hx4, h⟩ := bnd_some h
 refine la_call rfl gn rfl (r_callF (vs := [vs a1 zs1.length c1]) rfl ok_84 ⟨et, trivial⟩) (Calls.mono (c_shape_Size (Dj F noM) w1 hI.lt zs1 a1 c1 ⟨(hI.get (.s .z)), trivial⟩ r1 hx4) ?_)
 rintro _ w2 ⟨rfl, hx5, hl1⟩
 refine ⟨_, rfl, hx5, ?_⟩
 replace hI := (hI.ext hx5)
 obtain ⟨r2, hx6, h⟩ := bnd_some h
 refine la_call rfl gn rfl (r_callF (vs := [(vs a2 zs2.length (c1 - Int.toNat (wi64 (axis1 + 1))))]) rfl ok_84 ⟨et, trivial⟩) (Calls.mono (c_shape_Size (Dj F noM) w2 hI.lt zs2 a2 (c1 - Int.toNat (wi64 (axis1 + 1))) ⟨(hI.get .z), trivial⟩ r2 hx6) ?_)
 rintro _ w3 ⟨rfl, hx7, hl2⟩
 refine ⟨_, rfl, hx7, ?_⟩
 replace hI := (hI.ext hx7)
 refine a_q rfl gn rfl (fun w' => y_assign rfl et) ?_
 refine a_q rfl gn rfl (fun w' => y_assign rfl et) ?_
 refine a_q rfl gn rfl (fun w' => y_assign rfl et) ?_
 refine a_nil ?_
 refine k_same (c_ret ?_)
 obtain rfl := some_inj h
 exact q_ret (vs := [vi r1, vi e1, vi r2]) Tryz.results64 ⟨ev_tmp rfl rfl, ⟨ev_tmp rfl rfl, ⟨ev_tmp rfl rfl, trivial⟩⟩⟩ (fq hI trivial)
def tr_tensor_Concat_1_0 : Tr := (.c (11, .s) .n)
theorem c_tensor_Concat (F : NP) (w0 : World) (hF : ∀ k, F k → k < w0.heap.size) (axis1 : Int) (l1 : List GTensor) (a1 : Option Addr) (c1 : Nat) (hc : AllCl [Cl.sl cGTensor a1 c1 l1] F w0) (r : GTensor × Int)
  (h : m_tensor_Concat axis1 l1 = some r) :
  Calls Tryz.prog 33 #[vi axis1, vs a1 l1.length c1] w0 fun e w => ∃ (a2 : Option Addr) (c2 : Nat) (a3 : Option Addr) (c3 : Nat), e = .returned (Value.tuple #[(Value.agg (ATensor r.1 a2 c2 a3 c3)), vi r.2]) ∧ Ext w0 w ∧ AllCl [Cl.sl (cInt .i64) a2 c2 r.1.Dims, Cl.sl cGVal a3 c3 r.1.Vals] F w := by
 refine enterK Tryz.func33 rfl Tryz.ntmps33 rfl ?_
 have hI := Bun.start hF hc
 clear hc
 rw [m_tensor_Concat] at h
 refine sr (l_alloc (cs := ZTensor) hI gn rfl rfl zero_41 rfl ?_)
 clear hI; intro b1 c4 w1 hI
 refine sac ?_
 refine nk (c_seq (sr (sm ?_)))
 refine sm ?_
 obtain ⟨r1, hx1, h⟩ := bnd_some h
 refine s_call gn rfl (r_callF (vs := [vi axis1, vs a1 l1.length c1]) rfl ok_63 ⟨et, ⟨et, trivial⟩⟩) (Calls.mono (c_tensor_joinable (Dj F c4) w1 hI.lt axis1 l1 a1 c1 ⟨(hI.get .z), trivial⟩ r1 hx1) ?_)
 rintro _ w2 ⟨rfl, hx2, hl1⟩
 refine ⟨_, rfl, ?_⟩
 replace hI := (hI.ext hx2)
 refine sa ?_
 refine nk (sr (sm ?_))
 refine sq (y_neq rfl et ev_const) ?_
 refine nk (cif h et (fun hb h => ?_) (fun hb h => ?_))
 ·refine sr (sq (y_build (vs := []) (cs := ZTensor) rfl trivial (by kernel_rfl)) ?_)
  refine sm ?_
  refine l_store (new := zTensor) (cs' := ZTensor) hI .z gn rfl rfl et et rfl size_41 rfl rfl rfl ?_
  clear hI; intro c5 w3 hI
  refine sa ?_
  refine nk (c_ret ?_)
  have hI := hI.add (c := Cl.sl (cInt .i64) none 0 ([] : List Int)) SlC.nil
  have hI := hI.add (c := Cl.sl cGVal none 0 ([] : List GVal)) SlC.nil
  obtain rfl := some_inj h
  exact q_ret (vs := [(Value.agg ZTensor), vi r1]) Tryz.results33 ⟨⟨_, ev_tmp rfl rfl, load_agg (l := zTensor) u41 rfl size_41 (CellsAt.of_blk (hI.blk .z) rfl)⟩, ⟨ev_tmp rfl rfl, trivial⟩⟩ ⟨none, 0, none, 0, rfl, hI.ext0, hI.fin ⟨(.s .z), .z, trivial⟩⟩
 refine c_skip (k_same (sr (sac ?_)))
 refine nk (c_join (α := Unit) (fun _ => ⟨116, []⟩) (fun _ => [(0, vi axis1), (1, vs a1 l1.length c1), (4, vp b1 0)]) (fun _ => fun w => ∃ C, Bun noM F w0 C w [MO.box b1 41 ZTensor] [Cl.sl cGTensor a1 c1 l1] ∧ m_tensor_Concat_j1 l1 axis1 = some r) ?_ ?_)
 ·clear h hI; rintro _ w4 ⟨c6, hI, h⟩
  try dsimp only at hI h
  rw [m_tensor_Concat_j1] at h
  refine c_sub (e := [(0, vi axis1), (1, vs a1 l1.length c1), (4, vp b1 0)]) ⟨rfl, rfl, rfl, trivial⟩ ?_
  refine c_seq ?_
  obtain ⟨e1, hx3, h⟩ := bnd_some h
  obtain ⟨e2, hx4, h⟩ := bnd_some h
  obtain ⟨zs1, hx5, h⟩ := bnd_some h
  refine c_drawX [11] false (.c (0, .q) (.c (1, .q) (.c (2, .q) (.c (3, .q) (.c (4, .q) (.c (5, .q) (.c (6, .q) (.c (7, .q) (.two 8 (.c (9, .q) (.c (10, .s) tr_tensor_Concat_1_0)) 10 (.c (8, .s) (.c (9, .q) tr_tensor_Concat_1_0))))))))))) hI (by kernel_rfl) (by kernel_rfl) ?_
  clear hI; intro w9 hI
  refine a_join (α := (Option Addr) × Nat × (Option Addr) × Nat × (Option Addr) × Nat × (Option Addr) × Nat × (Option Addr) × Nat × Nat × NP) (T := tr_tensor_Concat_1_0) (fun x => [(0, vi axis1), (1, vs a1 l1.length c1), (4, vp b1 0), (10, (Value.pointer (some ⟨(x.2.2.2.2.2.2.2.2.2.2.1), 0, none⟩))), (42, vs a1 l1.length c1), (45, (Value.agg (AType e1.Type_))), (46, vs a1 l1.length c1), (49, vs (x.2.2.2.2.1) e2.Dims.length (x.2.2.2.2.2.1)), (50, vs (x.2.2.2.2.2.2.2.2.1) zs1.length (x.2.2.2.2.2.2.2.2.2.1)), (51, (Value.agg #[vi e1.Type_.Kind, vi e1.Type_.Bits, vi e1.Type_.Frac, vi e1.Type_.Round, vi e1.Type_.Over, vs (x.2.2.2.2.2.2.2.2.1) zs1.length (x.2.2.2.2.2.2.2.2.2.1), vs none 0 0]))]) (fun x w => Bun noM F w0 (x.2.2.2.2.2.2.2.2.2.2.2) w [MO.row (cInt .i64) 3 (x.2.2.2.2.2.2.2.2.1) (x.2.2.2.2.2.2.2.2.2.1) zs1, MO.box (x.2.2.2.2.2.2.2.2.2.2.1) 41 ZTensor, MO.box b1 41 ZTensor] [Cl.sl cGVal (x.2.2.2.2.2.2.1) (x.2.2.2.2.2.2.2.1) e2.Vals, Cl.sl (cInt .i64) (x.2.2.2.2.1) (x.2.2.2.2.2.1) e2.Dims, Cl.sl cGVal (x.2.2.1) (x.2.2.2.1) e1.Vals, Cl.sl (cInt .i64) (x.1) (x.2.1) e1.Dims, Cl.sl cGTensor a1 c1 l1]) (fun x w => SN [11] (DM false F (x.2.2.2.2.2.2.2.2.2.2.2)) w) ?_ ?_
  ·clear hI; rintro ⟨a4, c7, a5, c8, a6, c9, a7, c10, a8, c11, b2, c15⟩ w8 hI
   try dsimp only at hI ⊢
   unfold tr_tensor_Concat_1_0
   refine a_turn (F := F) (C := c15) rfl rfl ?_
   refine la_store (new := [vi e1.Type_.Kind, vi e1.Type_.Bits, vi e1.Type_.Frac, vi e1.Type_.Round, vi e1.Type_.Over, vs a8 zs1.length c11, vs none 0 0]) (cs' := #[vi e1.Type_.Kind, vi e1.Type_.Bits, vi e1.Type_.Frac, vi e1.Type_.Round, vi e1.Type_.Over, vs a8 zs1.length c11, vs none 0 0]) hI (.s .z) rfl gn rfl rfl et et rfl size_41 rfl rfl rfl ?_
   clear hI; intro c14 w7 hI
   refine a_nil ?_
   refine k_same (c_join (α := GTensor × (Option Addr) × Nat × (Option Addr) × Nat) (fun _ => ⟨116, []⟩) (fun x => [(0, vi axis1), (1, vs a1 l1.length c1), (4, vp b1 0), (10, vp b2 0)]) (fun x => fun w => ∃ C, Bun noM F w0 C w [MO.row (cInt .i64) 3 (x.2.1) (x.2.2.1) (x.1).Dims, MO.row cGVal 68 (x.2.2.2.1) (x.2.2.2.2) (x.1).Vals, MO.box b1 41 ZTensor, MO.box b2 41 (ATensor (x.1) (x.2.1) (x.2.2.1) (x.2.2.2.1) (x.2.2.2.2))] [Cl.sl cGTensor a1 c1 l1] ∧ m_tensor_Concat_j2 l1 axis1 (x.1) = some r) ?_ ?_)
   ·clear h hI; rintro ⟨out1, a9, c16, a10, c17⟩ w10 ⟨c18, hI, h⟩
    try dsimp only at hI h
    rw [m_tensor_Concat_j2] at h
    refine c_sub (e := [(0, vi axis1), (1, vs a1 l1.length c1), (4, vp b1 0), (10, vp b2 0)]) ⟨rfl, rfl, rfl, rfl, trivial⟩ ?_
    refine sr (sm ?_)
    obtain ⟨e3, hx6, h⟩ := bnd_some h
    obtain ⟨ad3, cs3, hA3, hr3, hq3⟩ := hI.clat .z hx6
    obtain ⟨a11, c19, a12, c20, rfl, hf5, hf6⟩ := hr3
    have hI := hI.add (c := Cl.sl (cInt .i64) a11 c19 e3.Dims) hf5
    have hI := hI.add (c := Cl.sl cGVal a12 c20 e3.Vals) hf6
    refine sq (y_indexAddr rfl u25 size_41 et ev_const (lat_bd hx6) hA3) ?_
    refine sq (y_fieldAddr rfl et u41 rfl size_22 rfl) ?_
    refine sq (y_load1 (v := (vs a11 e3.Dims.length c19)) rfl et u22 rfl (CA.part hq3 rfl).1) ?_
    refine sm ?_
    obtain ⟨r2, hx7, h⟩ := bnd_some h
    refine s_call gn rfl (r_callF (vs := [vs a11 e3.Dims.length c19, vi axis1]) rfl ok_64 ⟨et, ⟨et, trivial⟩⟩) (Calls.mono (c_tensor_split (Dj F c18) w10 hI.lt e3.Dims axis1 a11 c19 ⟨(hI.get (.s .z)), trivial⟩ r2 hx7) ?_)
    rintro _ w11 ⟨rfl, hx8, hl2⟩
    refine ⟨_, rfl, ?_⟩
    replace hI := (hI.ext hx8)
    refine sm ?_
    refine sq (y_extract rfl et rfl) ?_
    refine sq (y_extract rfl et rfl) ?_
    refine sq (y_extract rfl et rfl) ?_
    refine sa ?_
    refine sa ?_
    refine sa ?_
    refine nk (c_seq (sr (sm ?_)))
    refine sq (y_move rfl ev_const) ?_
    refine nk (c_block (c_loop (α := Nat × Int × GTensor × (Option Addr) × Nat × (Option Addr) × Nat) (fun x => fun w => ∃ C, Bun noM F w0 C w [MO.row (cInt .i64) 3 (x.2.2.2.1) (x.2.2.2.2.1) (x.2.2.1).Dims, MO.row cGVal 68 (x.2.2.2.2.2.1) (x.2.2.2.2.2.2) (x.2.2.1).Vals, MO.box b1 41 ZTensor, MO.box b2 41 (ATensor (x.2.2.1) (x.2.2.2.1) (x.2.2.2.2.1) (x.2.2.2.2.2.1) (x.2.2.2.2.2.2))] [Cl.sl cGTensor a1 c1 l1] ∧ m_tensor_Concat_l1 r2 l1 axis1 (x.1) (x.2.1) (x.2.2.1) = some r) (fun x _ => x.1) (fun x => [(0, vi axis1), (1, vs a1 l1.length c1), (4, vp b1 0), (10, vp b2 0), (15, vi r2.2.2), (82, vi r2.1), (83, vi (x.2.1))]) (fu, 0, out1, a9, c16, a10, c17) ⟨_, hI.arr (.c .z (.c .z (.c .z (.c .z .n)))) ⟨(.s (.s .z)), trivial⟩, h⟩ ⟨rfl, rfl, rfl, rfl, rfl, rfl, rfl, trivial⟩ ?_))
    clear h hI; rintro ⟨fuel1, i1, out2, a13, c21, a14, c22⟩ w12 ⟨c23, hI, h⟩
    dsimp only at hI h
    rcases fuel1 with _ | fuel1
    ·rw [m_tensor_Concat_l1] at h; cases h
    rw [m_tensor_Concat_l1] at h
    refine c_sub (e := [(0, vi axis1), (1, vs a1 l1.length c1), (4, vp b1 0), (10, vp b2 0), (15, vi r2.2.2), (82, vi r2.1), (83, vi i1)]) ⟨rfl, rfl, rfl, rfl, rfl, rfl, rfl, trivial⟩ ?_
    refine sr (sq (y_lss rfl et et) ?_)
    refine nk (c_seq (cif h et (fun hb h => ?_) (fun hb h => ?_)))
    ·refine c_skip (k_same (c_join (α := GTensor × (Option Addr) × Nat × (Option Addr) × Nat) (fun _ => ⟨116, []⟩) (fun x => [(0, vi axis1), (1, vs a1 l1.length c1), (4, vp b1 0), (10, vp b2 0), (15, vi r2.2.2), (82, vi r2.1), (83, vi i1)]) (fun x => fun w => ∃ C, Bun noM F w0 C w [MO.row (cInt .i64) 3 (x.2.1) (x.2.2.1) (x.1).Dims, MO.row cGVal 68 (x.2.2.2.1) (x.2.2.2.2) (x.1).Vals, MO.box b1 41 ZTensor, MO.box b2 41 (ATensor (x.1) (x.2.1) (x.2.2.1) (x.2.2.2.1) (x.2.2.2.2))] [Cl.sl cGTensor a1 c1 l1] ∧ m_tensor_Concat_j3 (m_tensor_Concat_l1 r2 l1 axis1 fuel1) i1 (x.1) = some r) ?_ ?_))
     ·clear h hI; rintro ⟨out3, a15, c24, a16, c25⟩ w13 ⟨c26, hI, h⟩
      try dsimp only at hI h
      rw [m_tensor_Concat_j3] at h
      refine c_sub (e := [(0, vi axis1), (1, vs a1 l1.length c1), (4, vp b1 0), (10, vp b2 0), (15, vi r2.2.2), (82, vi r2.1), (83, vi i1)]) ⟨rfl, rfl, rfl, rfl, rfl, rfl, rfl, trivial⟩ ?_
      refine c_region rfl ?_
      refine sq (y_add rfl et ev_const) ?_
      refine sm ?_
      refine s_nil ?_
      exact k_loop (fuel1, wi64 (i1 + 1), out3, a15, c24, a16, c25) ⟨rfl, rfl, rfl, rfl, rfl, rfl, rfl, trivial⟩ ⟨_, hI.arr (.c .z (.c .z (.c .z (.c .z .n)))) ⟨.z, trivial⟩, h⟩ (Nat.lt_succ_self _)
     refine c_block (sr (sm ?_))
     refine sa ?_
     refine nk (sr (sm ?_))
     refine sq (y_lenl rfl u25 et) ?_
     refine sq (y_move rfl ev_const) ?_
     refine nk (c_block (c_loop (α := Nat × Int × GTensor × (Option Addr) × Nat × (Option Addr) × Nat) (fun x => fun w => ∃ C, Bun noM F w0 C w [MO.row (cInt .i64) 3 (x.2.2.2.1) (x.2.2.2.2.1) (x.2.2.1).Dims, MO.row cGVal 68 (x.2.2.2.2.2.1) (x.2.2.2.2.2.2) (x.2.2.1).Vals, MO.box b1 41 ZTensor, MO.box b2 41 (ATensor (x.2.2.1) (x.2.2.2.1) (x.2.2.2.2.1) (x.2.2.2.2.2.1) (x.2.2.2.2.2.2))] [Cl.sl cGTensor a1 c1 l1] ∧ m_tensor_Concat_l2 l1 axis1 i1 r2 (m_tensor_Concat_l1 r2 l1 axis1 fuel1) (x.1) (x.2.1) (x.2.2.1) = some r) (fun x _ => x.1) (fun x => [(0, vi axis1), (1, vs a1 l1.length c1), (4, vp b1 0), (10, vp b2 0), (15, vi r2.2.2), (82, vi r2.1), (83, vi i1), (16, vi i1), (86, vs a1 l1.length c1), (87, vi (l1.length : Int)), (88, vi (x.2.1))]) (fu, 0, out2, a13, c21, a14, c22) ⟨_, hI.arr (.c .z (.c .z (.c .z (.c .z .n)))) ⟨.z, trivial⟩, h⟩ ⟨rfl, rfl, rfl, rfl, rfl, rfl, rfl, rfl, rfl, rfl, rfl, trivial⟩ ?_))
     clear h hI; rintro ⟨fuel2, i2, out4, a17, c27, a18, c28⟩ w14 ⟨c29, hI, h⟩
     dsimp only at hI h
     rcases fuel2 with _ | fuel2
     ·rw [m_tensor_Concat_l2] at h; cases h
     rw [m_tensor_Concat_l2] at h
     refine c_sub (e := [(0, vi axis1), (1, vs a1 l1.length c1), (4, vp b1 0), (10, vp b2 0), (15, vi r2.2.2), (82, vi r2.1), (83, vi i1), (16, vi i1), (86, vs a1 l1.length c1), (87, vi (l1.length : Int)), (88, vi i2)]) ⟨rfl, rfl, rfl, rfl, rfl, rfl, rfl, rfl, rfl, rfl, rfl, trivial⟩ ?_
     refine sr (sq (y_lss rfl et et) ?_)
     refine nk (c_seq (cif h et (fun hb h => ?_) (fun hb h => ?_)))
     ·refine c_skip (k_same (c_seq (c_block (sr ?_))))
      obtain ⟨e4, hx9, h⟩ := bnd_some h
      obtain ⟨ad4, cs4, hA4, hr4, hq4⟩ := hI.clat .z hx9
      obtain ⟨a19, c30, a20, c31, rfl, hf7, hf8⟩ := hr4
      have hI := hI.add (c := Cl.sl (cInt .i64) a19 c30 e4.Dims) hf7
      have hI := hI.add (c := Cl.sl cGVal a20 c31 e4.Vals) hf8
      refine sq (y_indexAddr rfl u25 size_41 et et (lat_bd hx9) hA4) ?_
      refine sq (y_loadN (l := (lTensor e4 a19 c30 a20 c31)) rfl et u41 rfl size_41 hq4.1) ?_
      refine l_alloc (cs := ZTensor) hI gn rfl rfl zero_41 rfl ?_
      clear hI; intro b3 c32 w15 hI
      refine l_store (new := (lTensor e4 a19 c30 a20 c31)) (cs' := (ATensor e4 a19 c30 a20 c31)) hI .z gn rfl rfl et et rfl size_41 rfl rfl rfl ?_
      clear hI; intro c33 w16 hI
      refine nk (sr (sq (y_fieldAddr rfl et u41 rfl size_22 rfl) ?_))
      refine sq (y_load1 (v := (vs a19 e4.Dims.length c30)) rfl et u22 rfl (CellsAt.of_blk (hI.blk .z) rfl)) ?_
      refine sm ?_
      obtain ⟨e5, hx10, h⟩ := bnd_some h
      obtain ⟨ad5, cs5, hA5, hr5, hq5⟩ := hI.clat (.s .z) hx10
      obtain rfl : cs5 = [vi e5] := hr5
      refine sq (y_indexAddr rfl u22 size_3 et et (lat_bd hx10) hA5) ?_
      refine sq (y_load1 (v := (vi e5)) rfl et u3 rfl hq5.1) ?_
      refine sm ?_
      refine sq (y_mul rfl et et) ?_
      refine sa ?_
      refine nk (c_drawX [12, 14] false (.c (0, .q) (.c (1, .q) (.c (2, .q) (.c (3, .q) (.c (4, .q) (.c (5, .q) (.c (6, .q) (.c (7, .q) (.c (8, .q) (.c (9, .q) (.c (10, .q) (.c (11, .q) (.c (12, .s) (.c (13, .q) (.c (14, .s) .n))))))))))))))) hI (by kernel_rfl) (by kernel_rfl) ?_)
      clear hI; intro w17 hI
      refine a_q rfl gn rfl (fun w' => y_fieldAddr rfl et u41 rfl size_39 rfl) ?_
      refine a_read rfl gn rfl (fun w' hw' => (y_load1 (v := (vs a18 out4.Vals.length c28)) rfl et u39 rfl ((CA.blk (hI.blk (.s (.s (.s (.s .z))))) rfl).at_ (SX.any rfl hw')))) (by kernel_rfl) ?_
      refine a_q rfl gn rfl (fun w' => y_fieldAddr rfl et u41 rfl size_39 rfl) ?_
      refine a_read rfl gn rfl (fun w' hw' => (y_load1 (v := (vs a20 e4.Vals.length c31)) rfl et u39 rfl ((CA.blk (hI.blk .z) rfl).at_ (SX.any rfl hw')))) (by kernel_rfl) ?_
      refine a_q rfl gn rfl (fun w' => y_move rfl et) ?_
      refine a_q rfl gn rfl (fun w' => y_move rfl et) ?_
      refine a_q rfl gn rfl (fun w' => y_mul rfl et et) ?_
      refine a_q rfl gn rfl (fun w' => y_move rfl et) ?_
      refine a_q rfl gn rfl (fun w' => y_add rfl et ev_const) ?_
      refine a_q rfl gn rfl (fun w' => y_move rfl et) ?_
      refine a_q rfl gn rfl (fun w' => y_mul rfl et et) ?_
      obtain ⟨zs2, hx11, h⟩ := bnd_some h
      obtain ⟨a21, hB1⟩ : ∃ B : Option Addr, B = (if c31 = Int.toNat (wi64 (i1 * (wi64 (e5 * r2.2.2)))) then a20 else Option.map (·.add (Int.toNat (wi64 (i1 * (wi64 (e5 * r2.2.2)))) * 2)) a20) := ⟨_, rfl⟩
      refine a_q rfl gn rfl (fun w' => y_lsub rfl u39 size_68 et et et hx11 (hI.cap_ .z) hB1) ?_
      replace hI := hI.sub .z hx11 hB1
      refine a_turn (F := F) (C := c33) rfl rfl ?_
      obtain ⟨zs3, hx12, h⟩ := bnd_some h
      refine la_append (xs := out4.Vals) (ys := zs2) hI (.s (.s .z)) (hI.crd .z) hx12 rfl gn rfl rfl u39 info_68 rfl rfl et et ?_
      clear hI; intro a22 c34 c35 w18 hI
      refine a_q rfl gn rfl (fun w' => y_fieldAddr rfl et u41 rfl size_39 rfl) ?_
      refine la_store (new := [vs a22 zs3.length c34]) (cs' := #[vi out4.Type_.Kind, vi out4.Type_.Bits, vi out4.Type_.Frac, vi out4.Type_.Round, vi out4.Type_.Over, vs a17 out4.Dims.length c27, vs a22 zs3.length c34]) hI (.s (.s (.s (.s .z)))) rfl gn rfl rfl et et rfl size_39 rfl rfl rfl ?_
      clear hI; intro c36 w19 hI
      refine a_nil ?_
      refine k_next (e := [(0, vi axis1), (1, vs a1 l1.length c1), (4, vp b1 0), (10, vp b2 0), (15, vi r2.2.2), (82, vi r2.1), (83, vi i1), (16, vi i1), (86, vs a1 l1.length c1), (87, vi (l1.length : Int)), (88, vi i2)]) ⟨rfl, rfl, rfl, rfl, rfl, rfl, rfl, rfl, rfl, rfl, rfl, trivial⟩ ?_
      refine c_region rfl ?_
      refine sq (y_add rfl et ev_const) ?_
      refine sm ?_
      refine s_nil ?_
      exact k_loop (fuel2, wi64 (i2 + 1), (⟨out4.Type_, out4.Dims, zs3⟩ : GTensor), a17, c27, a22, c34) ⟨rfl, rfl, rfl, rfl, rfl, rfl, rfl, rfl, rfl, rfl, rfl, trivial⟩ ⟨_, hI.arr (.c (.s .z) (.c (.s .z) (.c (.s .z) (.c (.s .z) .n)))) ⟨(.s (.s (.s .z))), trivial⟩, h⟩ (Nat.lt_succ_self _)
     refine c_exit ?_
     refine k_in ?_
     exact k_join (out4, a17, c27, a18, c28) ⟨rfl, rfl, rfl, rfl, rfl, rfl, rfl, trivial⟩ ⟨_, hI.arr (.c .z (.c .z (.c .z (.c .z .n)))) ⟨.z, trivial⟩, h⟩ rfl
    refine c_exit ?_
    refine k_in ?_
    refine k_same (sr (sq (y_loadN (l := (lTensor out2 a13 c21 a14 c22)) rfl et u41 rfl size_41 (CellsAt.of_blk (hI.blk (.s (.s (.s .z)))) rfl)) ?_))
    refine l_store (new := (lTensor out2 a13 c21 a14 c22)) (cs' := (ATensor out2 a13 c21 a14 c22)) hI (.s (.s .z)) gn rfl rfl et et rfl size_41 rfl rfl rfl ?_
    clear hI; intro c37 w20 hI
    refine sac ?_
    refine nk (c_ret ?_)
    obtain ⟨c38, hI⟩ := hI.release .z
    obtain ⟨c39, hI⟩ := hI.release .z
    obtain rfl := some_inj h
    exact q_ret (vs := [(Value.agg (ATensor out2 a13 c21 a14 c22)), vi 0]) Tryz.results33 ⟨⟨_, ev_tmp rfl rfl, load_agg (l := (lTensor out2 a13 c21 a14 c22)) u41 rfl size_41 (CellsAt.of_blk (hI.blk .z) rfl)⟩, ⟨ev_tmp rfl rfl, trivial⟩⟩ ⟨a13, c21, a14, c22, rfl, hI.ext0, hI.fin ⟨(.s .z), .z, trivial⟩⟩
   refine sr (sm ?_)
   obtain ⟨zs4, hx13, h⟩ := bnd_some h
   obtain ⟨a23, hB2⟩ : ∃ B : Option Addr, B = (if c1 = Int.toNat 1 then a1 else Option.map (·.add (Int.toNat 1 * 7)) a1) := ⟨_, rfl⟩
   refine sq (y_lfrom rfl u25 size_41 et ev_const hx13 hB2) ?_
   replace hI := hI.from_ (.s (.s (.s (.s .z)))) hx13 hB2
   refine sq (y_lenl rfl u25 et) ?_
   refine sq (y_move rfl ev_const) ?_
   refine nk (c_block ?_)
   have hI := hI.nil cGVal 68 none
   refine c_loop (α := Nat × Int × GTensor × (Option Addr) × Nat × (Option Addr) × Nat) (fun x => fun w => ∃ C, Bun noM F w0 C w [MO.row (cInt .i64) 3 (x.2.2.2.1) (x.2.2.2.2.1) (x.2.2.1).Dims, MO.row cGVal 68 (x.2.2.2.2.2.1) (x.2.2.2.2.2.2) (x.2.2.1).Vals, MO.box b1 41 ZTensor, MO.box b2 41 (ATensor (x.2.2.1) (x.2.2.2.1) (x.2.2.2.2.1) (x.2.2.2.2.2.1) (x.2.2.2.2.2.2))] [Cl.sl cGTensor a1 c1 l1, Cl.sl cGTensor a23 (c1 - Int.toNat 1) zs4] ∧ m_tensor_Concat_l3 zs4 axis1 l1 (x.1) (x.2.1) (x.2.2.1) = some r) (fun x _ => x.1) (fun x => [(0, vi axis1), (1, vs a1 l1.length c1), (4, vp b1 0), (10, vp b2 0), (53, vs a23 zs4.length (c1 - Int.toNat 1)), (54, vi (zs4.length : Int)), (55, vi (x.2.1))]) (fu, 0, (⟨e1.Type_, zs1, ([] : List GVal)⟩ : GTensor), a8, c11, none, 0) ⟨_, hI.arr (.c (.s .z) (.c .z (.c (.s .z) (.c .z .n)))) ⟨(.s (.s (.s (.s (.s .z))))), .z, trivial⟩, h⟩ ⟨rfl, rfl, rfl, rfl, rfl, rfl, rfl, trivial⟩ ?_
   clear h hI; rintro ⟨fuel3, i3, out5, a24, c40, a25, c41⟩ w21 ⟨c42, hI, h⟩
   dsimp only at hI h
   rcases fuel3 with _ | fuel3
   ·rw [m_tensor_Concat_l3] at h; cases h
   rw [m_tensor_Concat_l3] at h
   refine c_sub (e := [(0, vi axis1), (1, vs a1 l1.length c1), (4, vp b1 0), (10, vp b2 0), (53, vs a23 zs4.length (c1 - Int.toNat 1)), (54, vi (zs4.length : Int)), (55, vi i3)]) ⟨rfl, rfl, rfl, rfl, rfl, rfl, rfl, trivial⟩ ?_
   refine sr (sq (y_lss rfl et et) ?_)
   refine nk (c_seq (cif h et (fun hb h => ?_) (fun hb h => ?_)))
   ·refine c_skip (k_same (c_seq (c_block (sr ?_))))
    obtain ⟨e6, hx14, h⟩ := bnd_some h
    obtain ⟨ad6, cs6, hA6, hr6, hq6⟩ := hI.clat (.s .z) hx14
    obtain ⟨a26, c43, a27, c44, rfl, hf9, hf10⟩ := hr6
    have hI := hI.add (c := Cl.sl (cInt .i64) a26 c43 e6.Dims) hf9
    have hI := hI.add (c := Cl.sl cGVal a27 c44 e6.Vals) hf10
    refine sq (y_indexAddr rfl u25 size_41 et et (lat_bd hx14) hA6) ?_
    refine sq (y_loadN (l := (lTensor e6 a26 c43 a27 c44)) rfl et u41 rfl size_41 hq6.1) ?_
    refine l_alloc (cs := ZTensor) hI gn rfl rfl zero_41 rfl ?_
    clear hI; intro b4 c45 w22 hI
    refine l_store (new := (lTensor e6 a26 c43 a27 c44)) (cs' := (ATensor e6 a26 c43 a27 c44)) hI .z gn rfl rfl et et rfl size_41 rfl rfl rfl ?_
    clear hI; intro c46 w23 hI
    refine nk (c_drawX [12] false (.c (0, .q) (.c (1, .q) (.c (2, .q) (.c (3, .q) (.c (4, .q) (.c (5, .q) (.c (6, .q) (.c (7, .q) (.c (8, .q) (.c (9, .q) (.c (10, .q) (.c (11, .q) (.c (12, .s) .n))))))))))))) hI (by kernel_rfl) (by kernel_rfl) ?_)
    clear hI; intro w24 hI
    refine a_q rfl gn rfl (fun w' => y_fieldAddr rfl et u41 rfl size_22 rfl) ?_
    refine a_read rfl gn rfl (fun w' hw' => (y_load1 (v := (vs a24 out5.Dims.length c40)) rfl et u22 rfl ((CA.blk (hI.blk (.s (.s (.s (.s .z))))) rfl).at_ (SX.any rfl hw')))) (by kernel_rfl) ?_
    refine a_q rfl gn rfl (fun w' => y_move rfl et) ?_
    obtain ⟨e7, hx15, h⟩ := bnd_some h
    obtain ⟨ad7, cs7, hA7, hr7, hq7⟩ := hI.olat (.s .z) hx15
    obtain rfl : cs7 = [vi e7] := hr7
    refine a_q rfl gn rfl (fun w' => y_indexAddr rfl u22 size_3 et et (lat_bd hx15) hA7) ?_
    refine a_read rfl gn rfl (fun w' hw' => (y_load1 (v := (vi e7)) rfl et u3 rfl (hq7.at_ (SX.any rfl hw')))) (by kernel_rfl) ?_
    refine a_q rfl gn rfl (fun w' => y_fieldAddr rfl et u41 rfl size_22 rfl) ?_
    refine a_read rfl gn rfl (fun w' hw' => (y_load1 (v := (vs a26 e6.Dims.length c43)) rfl et u22 rfl ((CA.blk (hI.blk .z) rfl).at_ (SX.any rfl hw')))) (by kernel_rfl) ?_
    refine a_q rfl gn rfl (fun w' => y_move rfl et) ?_
    obtain ⟨e8, hx16, h⟩ := bnd_some h
    obtain ⟨ad8, cs8, hA8, hr8, hq8⟩ := hI.clat (.s .z) hx16
    obtain rfl : cs8 = [vi e8] := hr8
    refine a_q rfl gn rfl (fun w' => y_indexAddr rfl u22 size_3 et et (lat_bd hx16) hA8) ?_
    refine a_read rfl gn rfl (fun w' hw' => (y_load1 (v := (vi e8)) rfl et u3 rfl (hq8.at_ (SX.any rfl hw')))) (by kernel_rfl) ?_
    refine a_q rfl gn rfl (fun w' => y_add rfl et et) ?_
    obtain ⟨ho1, h⟩ := chk_some h
    obtain ⟨ad9, hA9⟩ := hI.addr (.s .z) ho1
    refine a_q rfl gn rfl (fun w' => y_indexAddr rfl u22 size_3 et et ho1 hA9) ?_
    refine a_turn (F := F) (C := c46) rfl rfl ?_
    refine la_storeRow (p := Int.toNat axis1) (new := [(vi (wi64 (e7 + e8)))]) (off := 0) (x' := wi64 (e7 + e8)) hI (.s .z) rfl gn rfl rfl (by have := ho1; omega) hA9 rfl et et rfl size_3 rfl (by show 0 + 1 ≤ 1; omega) (fun _ cs0 _ hr0 => by rw [spl_full (by have e := Cod.len _ hr0; exact e)]; exact rfl) ?_
    clear hI; intro c47 w25 hI
    refine a_nil ?_
    replace hI : Bun noM F w0 c47 w25 [MO.box b4 41 (ATensor e6 a26 c43 a27 c44), MO.row (cInt .i64) 3 a24 c40 (out5.Dims.set (Int.toNat axis1) (wi64 (e7 + e8))), MO.row cGVal 68 a25 c41 out5.Vals, MO.box b1 41 ZTensor, MO.box b2 41 #[vi out5.Type_.Kind, vi out5.Type_.Bits, vi out5.Type_.Frac, vi out5.Type_.Round, vi out5.Type_.Over, (vs a24 (out5.Dims.set (Int.toNat axis1) (wi64 (e7 + e8))).length c40), vs a25 out5.Vals.length c41]] [Cl.sl cGVal a27 c44 e6.Vals, Cl.sl (cInt .i64) a26 c43 e6.Dims, Cl.sl cGTensor a1 c1 l1, Cl.sl cGTensor a23 (c1 - Int.toNat 1) zs4] := by simpa only [List.length_set, List.cons_append, List.nil_append] using hI
    refine k_next (e := [(0, vi axis1), (1, vs a1 l1.length c1), (4, vp b1 0), (10, vp b2 0), (53, vs a23 zs4.length (c1 - Int.toNat 1)), (54, vi (zs4.length : Int)), (55, vi i3)]) ⟨rfl, rfl, rfl, rfl, rfl, rfl, rfl, trivial⟩ ?_
    refine c_region rfl ?_
    refine sq (y_add rfl et ev_const) ?_
    refine sm ?_
    refine s_nil ?_
    exact k_loop (fuel3, wi64 (i3 + 1), (⟨out5.Type_, out5.Dims.set (Int.toNat axis1) (wi64 (e7 + e8)), out5.Vals⟩ : GTensor), a24, c40, a25, c41) ⟨rfl, rfl, rfl, rfl, rfl, rfl, rfl, trivial⟩ ⟨_, hI.arr (.c (.s .z) (.c (.s .z) (.c (.s .z) (.c (.s .z) .n)))) ⟨(.s (.s .z)), (.s (.s (.s .z))), trivial⟩, h⟩ (Nat.lt_succ_self _)
   refine c_exit ?_
   refine k_in ?_
   exact k_join (out5, a24, c40, a25, c41) ⟨rfl, rfl, rfl, rfl, trivial⟩ ⟨_, hI.arr (.c .z (.c .z (.c .z (.c .z .n)))) ⟨.z, trivial⟩, h⟩ rfl
  intro hk_tr_tensor_Concat_1_0
  refine a_q rfl gn rfl (fun w' => y_move rfl et) ?_
  obtain ⟨ad1, cs1, hA1, hr1, hq1⟩ := hI.clat .z hx3
  obtain ⟨a4, c7, a5, c8, rfl, hf1, hf2⟩ := hr1
  have hI := hI.add (c := Cl.sl (cInt .i64) a4 c7 e1.Dims) hf1
  have hI := hI.add (c := Cl.sl cGVal a5 c8 e1.Vals) hf2
  refine a_q rfl gn rfl (fun w' => y_indexAddr rfl u25 size_41 et ev_const (lat_bd hx3) hA1) ?_
  refine a_q rfl gn rfl (fun w' => y_fieldAddr rfl et u41 rfl size_38 rfl) ?_
  refine a_read rfl gn rfl (fun w' hw' => (y_loadN (l := (lType e1.Type_)) rfl et u38 rfl size_38 ((CA.part hq1 rfl).at_ (SX.any rfl hw')))) (by kernel_rfl) ?_
  refine a_q rfl gn rfl (fun w' => y_move rfl et) ?_
  obtain ⟨ad2, cs2, hA2, hr2, hq2⟩ := hI.clat (.s (.s .z)) hx4
  obtain ⟨a6, c9, a7, c10, rfl, hf3, hf4⟩ := hr2
  have hI := hI.add (c := Cl.sl (cInt .i64) a6 c9 e2.Dims) hf3
  have hI := hI.add (c := Cl.sl cGVal a7 c10 e2.Vals) hf4
  refine a_q rfl gn rfl (fun w' => y_indexAddr rfl u25 size_41 et ev_const (lat_bd hx4) hA2) ?_
  refine a_q rfl gn rfl (fun w' => y_fieldAddr rfl et u41 rfl size_22 rfl) ?_
  refine a_read rfl gn rfl (fun w' hw' => (y_load1 (v := (vs a6 e2.Dims.length c9)) rfl et u22 rfl ((CA.part hq2 rfl).at_ (SX.any rfl hw')))) (by kernel_rfl) ?_
  refine a_two ?_ ?_
  ·skip
   replace hI := hI.nil (cInt .i64) 3 none
   refine la_appendX (ys := e2.Dims) hI .z (hI.crd (.s .z)) hx5 rfl gn rfl rfl u22 info_3 rfl rfl ev_const et ?_
   clear hI; intro a8 c11 c12 w5 hI
   refine a_q rfl gn rfl (fun w' => (y_build (vs := [(0, (Value.agg (AType e1.Type_))), (1, vs a8 zs1.length c11)]) (cs := #[vi e1.Type_.Kind, vi e1.Type_.Bits, vi e1.Type_.Frac, vi e1.Type_.Round, vi e1.Type_.Over, vs a8 zs1.length c11, vs none 0 0]) rfl ⟨rfl, et, ⟨rfl, et, trivial⟩⟩ (by kernel_rfl))) ?_
   refine la_alloc (cs := ZTensor) hI rfl gn rfl rfl zero_41 rfl ?_
   clear hI; intro b2 c13 w6 hI
   exact a_sub (hk_tr_tensor_Concat_1_0 (a4, c7, a5, c8, a6, c9, a7, c10, a8, c11, b2, c13) _ (hI.arr (.c (.s .z) (.c .z (.c .z .n))) ⟨.z, (.s .z), (.s (.s .z)), (.s (.s (.s .z))), (.s (.s (.s (.s .z)))), trivial⟩)) ⟨rfl, rfl, rfl, rfl, rfl, rfl, rfl, rfl, rfl, rfl, trivial⟩
  refine la_alloc (cs := ZTensor) hI rfl gn rfl rfl zero_41 rfl ?_
  clear hI; intro b2 c13 w6 hI
  replace hI := hI.nil (cInt .i64) 3 none
  refine la_appendX (ys := e2.Dims) hI .z (hI.crd (.s .z)) hx5 rfl gn rfl rfl u22 info_3 rfl rfl ev_const et ?_
  clear hI; intro a8 c11 c12 w5 hI
  refine a_q rfl gn rfl (fun w' => (y_build (vs := [(0, (Value.agg (AType e1.Type_))), (1, vs a8 zs1.length c11)]) (cs := #[vi e1.Type_.Kind, vi e1.Type_.Bits, vi e1.Type_.Frac, vi e1.Type_.Round, vi e1.Type_.Over, vs a8 zs1.length c11, vs none 0 0]) rfl ⟨rfl, et, ⟨rfl, et, trivial⟩⟩ (by kernel_rfl))) ?_
  exact a_sub (hk_tr_tensor_Concat_1_0 (a4, c7, a5, c8, a6, c9, a7, c10, a8, c11, b2, c12) _ (hI.arr (.c .z (.c .z (.c .z .n))) ⟨.z, (.s .z), (.s (.s .z)), (.s (.s (.s .z))), (.s (.s (.s (.s .z)))), trivial⟩)) ⟨rfl, rfl, rfl, rfl, rfl, rfl, rfl, rfl, rfl, rfl, trivial⟩
 refine sr (sm ?_)
 refine sq (y_lenl rfl u25 et) ?_
 refine sq (y_move rfl ev_const) ?_
 refine nk (c_block (c_loop (α := Nat × Int × Int) (fun x => fun w => ∃ C, Bun noM F w0 C w [MO.box b1 41 ZTensor] [Cl.sl cGTensor a1 c1 l1] ∧ m_tensor_Concat_l4 l1 axis1 (x.1) (x.2.1) (x.2.2) = some r) (fun x _ => x.1) (fun x => [(0, vi axis1), (1, vs a1 l1.length c1), (4, vp b1 0), (7, vi (x.2.1)), (27, vs a1 l1.length c1), (28, vi (l1.length : Int)), (29, vi (x.2.2))]) (fu, 0, 0) ⟨_, hI.arr (.c .z .n) ⟨.z, trivial⟩, h⟩ ⟨rfl, rfl, rfl, rfl, rfl, rfl, rfl, trivial⟩ ?_))
 clear h hI; rintro ⟨fuel4, size1, i4⟩ w26 ⟨c48, hI, h⟩
 dsimp only at hI h
 rcases fuel4 with _ | fuel4
 ·rw [m_tensor_Concat_l4] at h; cases h
 rw [m_tensor_Concat_l4] at h
 refine c_sub (e := [(0, vi axis1), (1, vs a1 l1.length c1), (4, vp b1 0), (7, vi size1), (27, vs a1 l1.length c1), (28, vi (l1.length : Int)), (29, vi i4)]) ⟨rfl, rfl, rfl, rfl, rfl, rfl, rfl, trivial⟩ ?_
 refine sr (sq (y_lss rfl et et) ?_)
 refine nk (c_seq (cif h et (fun hb h => ?_) (fun hb h => ?_)))
 ·refine c_skip (k_same (c_seq (c_block (sr ?_))))
  obtain ⟨e9, hx17, h⟩ := bnd_some h
  obtain ⟨ad10, cs9, hA10, hr9, hq9⟩ := hI.clat .z hx17
  obtain ⟨a28, c49, a29, c50, rfl, hf11, hf12⟩ := hr9
  have hI := hI.add (c := Cl.sl (cInt .i64) a28 c49 e9.Dims) hf11
  have hI := hI.add (c := Cl.sl cGVal a29 c50 e9.Vals) hf12
  refine sq (y_indexAddr rfl u25 size_41 et et (lat_bd hx17) hA10) ?_
  refine sq (y_loadN (l := (lTensor e9 a28 c49 a29 c50)) rfl et u41 rfl size_41 hq9.1) ?_
  refine l_alloc (cs := ZTensor) hI gn rfl rfl zero_41 rfl ?_
  clear hI; intro b5 c51 w27 hI
  refine l_store (new := (lTensor e9 a28 c49 a29 c50)) (cs' := (ATensor e9 a28 c49 a29 c50)) hI .z gn rfl rfl et et rfl size_41 rfl rfl rfl ?_
  clear hI; intro c52 w28 hI
  refine nk (sr (sm ?_))
  refine sq (y_fieldAddr rfl et u41 rfl size_39 rfl) ?_
  refine sq (y_load1 (v := (vs a29 e9.Vals.length c50)) rfl et u39 rfl (CellsAt.of_blk (hI.blk .z) rfl)) ?_
  refine sq (y_lenl rfl u39 et) ?_
  refine sq (y_add rfl et et) ?_
  obtain ⟨size2, hx18, h⟩ := bnd_some h
  refine sq (binU (y_assign rfl et) (congrArg (Value.int .i64) (some_inj hx18))) ?_
  refine nk (sr (sm ?_))
  refine sq (y_gtr rfl et ev_const) ?_
  refine nk (cif h et (fun hb h => ?_) (fun hb h => ?_))
  ·refine sr (sq (y_build (vs := []) (cs := ZTensor) rfl trivial (by kernel_rfl)) ?_)
   refine l_store (new := zTensor) (cs' := ZTensor) hI (.s .z) gn rfl rfl et et rfl size_41 rfl rfl rfl ?_
   clear hI; intro c53 w29 hI
   refine sac ?_
   refine nk (c_ret ?_)
   have hI := hI.add (c := Cl.sl (cInt .i64) none 0 ([] : List Int)) SlC.nil
   have hI := hI.add (c := Cl.sl cGVal none 0 ([] : List GVal)) SlC.nil
   obtain rfl := some_inj h
   exact q_ret (vs := [(Value.agg ZTensor), vi 2]) Tryz.results33 ⟨⟨_, ev_tmp rfl rfl, load_agg (l := zTensor) u41 rfl size_41 (CellsAt.of_blk (hI.blk (.s .z)) rfl)⟩, ⟨ev_tmp rfl rfl, trivial⟩⟩ ⟨none, 0, none, 0, rfl, hI.ext0, hI.fin ⟨(.s .z), .z, trivial⟩⟩
  refine c_skip (k_same (c_region rfl ?_))
  refine sq (y_add rfl et ev_const) ?_
  refine sm ?_
  refine s_nil ?_
  exact k_loop (fuel4, size2, wi64 (i4 + 1)) ⟨rfl, rfl, rfl, rfl, rfl, rfl, rfl, trivial⟩ ⟨_, hI.arr (.c (.s .z) .n) ⟨(.s (.s .z)), trivial⟩, h⟩ (Nat.lt_succ_self _)
 refine c_exit ?_
 refine k_in ?_
 exact k_join () ⟨rfl, rfl, rfl, trivial⟩ ⟨_, hI.arr (.c .z .n) ⟨.z, trivial⟩, h⟩ rfl
theorem c_collective_AllGather_1 (F : NP) (w0 : World) (hF : ∀ k, F k → k < w0.heap.size) (a1 : Int) (group1 : List GTensor) (a3 : Int) (a2 : Option Addr) (c1 : Nat) (b1 : Nat) (hc : AllCl [Cl.sl cGTensor a2 c1 group1, Cl.blk b1 3 #[vi a3]] F w0) (r : GTensor × Int)
  (h : m_collective_AllGather_1 a1 group1 a3 = some r) :
  Calls Tryz.prog 32 #[vi a1, vs a2 group1.length c1, vp b1 0] w0 fun e w => ∃ (a4 : Option Addr) (c2 : Nat) (a5 : Option Addr) (c3 : Nat), e = .returned (Value.tuple #[(Value.agg (ATensor r.1 a4 c2 a5 c3)), vi r.2]) ∧ Ext w0 w ∧ AllCl [Cl.sl (cInt .i64) a4 c2 r.1.Dims, Cl.sl cGVal a5 c3 r.1.Vals] F w := by
 refine enterK Tryz.func32 rfl Tryz.ntmps32 rfl ?_
 have hI := Bun.start hF hc
 clear hc
 rw [m_collective_AllGather_1] at h
 refine sr (l_alloc (cs := ZTensor) hI gn rfl rfl zero_41 rfl ?_)
 clear hI; intro b2 c4 w1 hI
 refine sac ?_
 refine nk (sr (sq (y_load1 (v := (vi a3)) rfl et u3 rfl (hI.kblk (l := [vi a3]) (.s .z) rfl).1) ?_))
 refine sm ?_
 obtain ⟨r1, hx1, h⟩ := bnd_some h
 refine s_call gn rfl (r_callF (vs := [vi a3, vs a2 group1.length c1]) rfl ok_33 ⟨et, ⟨et, trivial⟩⟩) (Calls.mono (c_tensor_Concat (Dj F c4) w1 hI.lt a3 group1 a2 c1 ⟨(hI.get .z), trivial⟩ r1 hx1) ?_)
 rintro _ w2 ⟨a6, c5, a7, c6, rfl, hx2, hl1⟩
 refine ⟨_, rfl, ?_⟩
 replace hI := (hI.ext hx2).adds hl1
 refine sq (y_extract rfl et rfl) ?_
 refine sq (y_extract rfl et rfl) ?_
 refine l_store (new := (lTensor r1.1 a6 c5 a7 c6)) (cs' := (ATensor r1.1 a6 c5 a7 c6)) hI .z gn rfl rfl et et rfl size_41 rfl rfl rfl ?_
 clear hI; intro c7 w3 hI
 refine sa ?_
 refine nk (c_ret ?_)
 obtain rfl := some_inj h
 exact q_ret (vs := [(Value.agg (ATensor r1.1 a6 c5 a7 c6)), vi r1.2]) Tryz.results32 ⟨⟨_, ev_tmp rfl rfl, load_agg (l := (lTensor r1.1 a6 c5 a7 c6)) u41 rfl size_41 (CellsAt.of_blk (hI.blk .z) rfl)⟩, ⟨ev_tmp rfl rfl, trivial⟩⟩ ⟨a6, c5, a7, c6, rfl, hI.ext0, hI.fin ⟨.z, (.s .z), trivial⟩⟩
theorem c_box_Point (F : NP) (w0 : World) (hF : ∀ k, F k → k < w0.heap.size) (ext1 : List Int) (at1 : Int) (a1 : Option Addr) (c1 : Nat) (hc : AllCl [Cl.sl (cInt .i64) a1 c1 ext1] F w0) (r : List Int × Bool)
  (h : m_box_Point ext1 at1 = some r) :
  Calls Tryz.prog 70 #[vs a1 ext1.length c1, vi at1] w0 fun e w => ∃ (a2 : Option Addr) (c2 : Nat), e = .returned (Value.tuple #[vs a2 r.1.length c2, vb r.2]) ∧ Ext w0 w ∧ AllCl [Cl.sl (cInt .i64) a2 c2 r.1] F w := by
 refine enterK Tryz.func70 rfl Tryz.ntmps70 rfl ?_
 have hI := Bun.start hF hc
 clear hc
 rw [m_box_Point] at h
 refine sr (sac ?_)
 refine sac ?_
 refine nk (c_seq (sr (sm ?_)))
 refine sq (y_lss rfl et ev_const) ?_
 refine sm ?_
 refine s_gval (g_false rfl rfl rfl rfl) rfl (fun hc => y_move rfl et) ?_
 refine s_gval (g_false rfl rfl rfl rfl) rfl (fun hc => y_move rfl et) ?_
 obtain ⟨r1, hx1, h⟩ := bnd_some h
 replace hx1 := gd_some hx1
 refine s_gcallU (v := (vi r1)) (g_false rfl rfl rfl rfl) rfl (fun hc => (r_callF (vs := [vs a1 ext1.length c1]) rfl ok_87 ⟨(ev_gv et hc), trivial⟩)) (fun hc => (c_box_Count (Dj F noM) w0 hI.lt ext1 a1 c1 ⟨(hI.get .z), trivial⟩ r1 (hx1 hc)).mono fun _ _ k => ⟨k.1, k.2.1⟩) ?_
 intro w1 hx2; replace hI := hI.ext hx2
 refine s_gval (g_false rfl rfl rfl rfl) rfl (fun hc => y_geq rfl (ev_gv et hc) (ev_gv et hc)) ?_
 refine sq (y_or rfl et et) ?_
 refine nk (cif h et (fun hb h => ?_) (fun hb h => ?_))
 ·refine sr (sac ?_)
  refine sac ?_
  refine nk (c_ret ?_)
  have hI := hI.add (c := Cl.sl (cInt .i64) none 0 ([] : List Int)) SlC.nil
  obtain rfl := some_inj h
  exact q_ret (vs := [vs none 0 0, vb false]) Tryz.results70 ⟨ev_tmp rfl rfl, ⟨ev_tmp rfl rfl, trivial⟩⟩ ⟨none, 0, rfl, hI.ext0, hI.fin ⟨.z, trivial⟩⟩
 refine c_skip (k_same (sr (sm ?_)))
 refine sq (y_lenl rfl u22 et) ?_
 obtain ⟨zs1, hx3, h⟩ := bnd_some h
 refine l_make (c := (cInt .i64)) hI hx3 gn  rfl rfl u22 info_3 rfl rfl et et rfl ?_
 clear hI; intro b1 c3 w2 hI
 refine sa ?_
 refine nk (c_seq (sr (sm ?_)))
 refine sq (y_lenl rfl u22 et) ?_
 refine sq (y_sub rfl et ev_const) ?_
 obtain ⟨i1, hx4, h⟩ := bnd_some h
 refine sq (binU (y_assign rfl et) (congrArg (Value.int .i64) (some_inj hx4))) ?_
 refine nk (c_block (c_loop (α := Nat × Int × (List Int) × Int × (Option Addr) × Nat) (fun x => fun w => ∃ C, Bun noM F w0 C w [MO.row (cInt .i64) 3 (x.2.2.2.2.1) (x.2.2.2.2.2) (x.2.2.1)] [Cl.sl (cInt .i64) a1 c1 ext1] ∧ m_box_Point_l1 ext1 (x.1) (x.2.1) (x.2.2.1) (x.2.2.2.1) = some r) (fun x _ => x.1) (fun x => [(0, vs a1 ext1.length c1), (1, vi (x.2.1)), (6, vs (x.2.2.2.2.1) (x.2.2.1).length (x.2.2.2.2.2)), (7, vi (x.2.2.2.1))]) (fu, at1, zs1, i1, some ⟨b1, 0, none⟩, ((ext1.length : Int)).toNat) ⟨_, hI.arr (.c .z .n) ⟨.z, trivial⟩, h⟩ ⟨rfl, rfl, rfl, rfl, trivial⟩ ?_))
 clear h hI; rintro ⟨fuel1, at2, p1, i2, a3, c4⟩ w3 ⟨c5, hI, h⟩
 dsimp only at hI h
 rcases fuel1 with _ | fuel1
 ·rw [m_box_Point_l1] at h; cases h
 rw [m_box_Point_l1] at h
 refine c_sub (e := [(0, vs a1 ext1.length c1), (1, vi at2), (6, vs a3 p1.length c4), (7, vi i2)]) ⟨rfl, rfl, rfl, rfl, trivial⟩ ?_
 refine c_seq (sr (sm ?_))
 refine sq (y_geq rfl et ev_const) ?_
 refine nk (cif h et (fun hb h => ?_) (fun hb h => ?_))
 ·refine c_skip (k_same (c_seq (c_block (sr (sm ?_)))))
  refine sm ?_
  refine sm ?_
  refine sm ?_
  refine sm ?_
  obtain ⟨e1, hx5, h⟩ := bnd_some h
  obtain ⟨ad1, cs1, hA1, hr1, hq1⟩ := hI.clat .z hx5
  obtain rfl : cs1 = [vi e1] := hr1
  refine sq (y_indexAddr rfl u22 size_3 et et (lat_bd hx5) hA1) ?_
  refine sq (y_load1 (v := (vi e1)) rfl et u3 rfl hq1.1) ?_
  obtain ⟨ho1, h⟩ := chk_some h
  refine sq (y_rem rfl et et ho1) ?_
  obtain ⟨ho2, h⟩ := chk_some h
  obtain ⟨ad2, hA2⟩ := hI.addr .z ho2
  refine sq (y_indexAddr rfl u22 size_3 et et ho2 hA2) ?_
  refine l_storeRow (p := Int.toNat i2) (new := [vi (Int.tmod at2 e1)]) (off := 0) (x' := Int.tmod at2 e1) hI .z gn rfl rfl (by have := ho2; omega) hA2 rfl et et rfl size_3 rfl (by show 0 + 1 ≤ 1; omega) (fun _ cs0 _ hr0 => by rw [spl_full (by have e := Cod.len _ hr0; exact e)]; exact rfl) ?_
  clear hI; intro c6 w4 hI
  refine s_nil ?_
  refine k_next (e := [(0, vs a1 ext1.length c1), (1, vi at2), (6, (vs a3 (p1.set (Int.toNat i2) (Int.tmod at2 e1)).length c4)), (7, vi i2)]) ⟨rfl, rfl, (lookset rfl), rfl, trivial⟩ ?_
  refine c_region rfl ?_
  refine sm ?_
  refine sm ?_
  refine sm ?_
  obtain ⟨e2, hx6, h⟩ := bnd_some h
  obtain ⟨ad3, cs2, hA3, hr2, hq2⟩ := hI.clat .z hx6
  obtain rfl : cs2 = [vi e2] := hr2
  refine sq (y_indexAddr rfl u22 size_3 et et (lat_bd hx6) hA3) ?_
  refine sq (y_load1 (v := (vi e2)) rfl et u3 rfl hq2.1) ?_
  obtain ⟨ho3, h⟩ := chk_some h
  refine sq (y_quo rfl et et ho3) ?_
  refine sa ?_
  refine nk (c_region rfl ?_)
  refine sm ?_
  refine sq (y_sub rfl et ev_const) ?_
  refine sa ?_
  refine s_nil ?_
  exact k_loop (fuel1, wi64 (Int.tdiv at2 e2), p1.set (Int.toNat i2) (Int.tmod at2 e1), wi64 (i2 - 1), a3, c4) ⟨rfl, rfl, rfl, rfl, trivial⟩ ⟨_, hI.arr (.c .z .n) ⟨.z, trivial⟩, h⟩ (Nat.lt_succ_self _)
 refine c_exit ?_
 refine k_in ?_
 refine k_same (sr (sm ?_))
 refine sa ?_
 refine sac ?_
 refine nk (c_ret ?_)
 obtain ⟨c7, hI⟩ := hI.release .z
 obtain rfl := some_inj h
 exact q_ret (vs := [vs a3 p1.length c4, vb true]) Tryz.results70 ⟨ev_tmp rfl rfl, ⟨ev_tmp rfl rfl, trivial⟩⟩ ⟨a3, c4, rfl, hI.ext0, hI.fin ⟨.z, trivial⟩⟩
theorem c_mesh_Coordinates (F : NP) (w0 : World) (hF : ∀ k, F k → k < w0.heap.size) (m1 : GMesh) (dev1 : Int) (a1 : Option Addr) (c1 : Nat) (hc : AllCl [Cl.sl (cInt .i64) a1 c1 m1.Dims] F w0) (r : List Int × Bool)
  (h : m_mesh_Coordinates m1 dev1 = some r) :
  Calls Tryz.prog 39 #[(Value.agg #[vs a1 m1.Dims.length c1]), vi dev1] w0 fun e w => ∃ (a2 : Option Addr) (c2 : Nat), e = .returned (Value.tuple #[vs a2 r.1.length c2, vb r.2]) ∧ Ext w0 w ∧ AllCl [Cl.sl (cInt .i64) a2 c2 r.1] F w := by
 refine enterK Tryz.func39 rfl Tryz.ntmps39 rfl ?_
 have hI := Bun.start hF hc
 clear hc
 rw [m_mesh_Coordinates] at h
 refine sr (l_box (v := (Value.agg #[vs a1 m1.Dims.length c1])) (cs := #[vs a1 m1.Dims.length c1]) hI gn rfl rfl et rfl ?_)
 clear hI; intro b1 c3 w1 hI
 obtain ⟨c4, hI⟩ := hI.relBox .z
 refine sac ?_
 refine sac ?_
 refine nk (c_seq (sr (sq (y_loadN (l := [vs a1 m1.Dims.length c1]) rfl et u24 rfl size_24 (hI.kblk (l := [vs a1 m1.Dims.length c1]) .z rfl).1) ?_)))
 obtain ⟨r1, hx1, h⟩ := bnd_some h
 refine s_call gn rfl (r_callF (vs := [(Value.agg #[vs a1 m1.Dims.length c1])]) rfl ok_69 ⟨et, trivial⟩) (Calls.mono (c_mesh_Validate (Dj F c4) w1 hI.lt m1 a1 c1 ⟨(hI.get (.s .z)), trivial⟩ r1 hx1) ?_)
 rintro _ w2 ⟨rfl, hx2, hl1⟩
 refine ⟨_, rfl, ?_⟩
 replace hI := (hI.ext hx2)
 refine sq (y_neq rfl et ev_const) ?_
 refine nk (cif h et (fun hb h => ?_) (fun hb h => ?_))
 ·refine sr (sac ?_)
  refine sac ?_
  refine nk (c_ret ?_)
  have hI := hI.add (c := Cl.sl (cInt .i64) none 0 ([] : List Int)) SlC.nil
  obtain rfl := some_inj h
  exact q_ret (vs := [vs none 0 0, vb false]) Tryz.results39 ⟨ev_tmp rfl rfl, ⟨ev_tmp rfl rfl, trivial⟩⟩ ⟨none, 0, rfl, hI.ext0, hI.fin ⟨.z, trivial⟩⟩
 refine c_skip (k_same (sr (sq (y_fieldAddr rfl et u24 rfl size_22 rfl) ?_)))
 refine sq (y_load1 (v := (vs a1 m1.Dims.length c1)) rfl et u22 rfl (hI.kblk (l := [vs a1 m1.Dims.length c1]) .z rfl).1) ?_
 refine sm ?_
 obtain ⟨r2, hx3, h⟩ := bnd_some h
 refine s_call gn rfl (r_callF (vs := [vs a1 m1.Dims.length c1, vi dev1]) rfl ok_70 ⟨et, ⟨et, trivial⟩⟩) (Calls.mono (c_box_Point (Dj F c4) w2 hI.lt m1.Dims dev1 a1 c1 ⟨(hI.get (.s .z)), trivial⟩ r2 hx3) ?_)
 rintro _ w3 ⟨a3, c5, rfl, hx4, hl2⟩
 refine ⟨_, rfl, ?_⟩
 replace hI := (hI.ext hx4).adds hl2
 refine sq (y_extract rfl et rfl) ?_
 refine sq (y_extract rfl et rfl) ?_
 refine sa ?_
 refine sa ?_
 refine nk (c_ret ?_)
 obtain rfl := some_inj h
 exact q_ret (vs := [vs a3 r2.1.length c5, vb r2.2]) Tryz.results39 ⟨ev_tmp rfl rfl, ⟨ev_tmp rfl rfl, trivial⟩⟩ ⟨a3, c5, rfl, hI.ext0, hI.fin ⟨.z, trivial⟩⟩
theorem c_box_inside (F : NP) (w0 : World) (hF : ∀ k, F k → k < w0.heap.size) (ext1 : List Int) (p1 : List Int) (a1 : Option Addr) (c1 : Nat) (a2 : Option Addr) (c2 : Nat) (hc : AllCl [Cl.sl (cInt .i64) a1 c1 ext1, Cl.sl (cInt .i64) a2 c2 p1] F w0) (r : Bool)
  (h : m_box_inside ext1 p1 = some r) :
  Calls Tryz.prog 126 #[vs a1 ext1.length c1, vs a2 p1.length c2] w0 fun e w => e = .returned (vb r) ∧ Ext w0 w ∧ AllCl [] F w := by
 refine enterK Tryz.func126 rfl Tryz.ntmps126 rfl ?_
 have hI := Bun.start hF hc
 clear hc
 rw [m_box_inside] at h
 refine sr (sac ?_)
 refine nk (c_seq (sr (sm ?_)))
 obtain ⟨r1, hx1, h⟩ := bnd_some h
 refine s_call gn rfl (r_callF (vs := [vs a1 ext1.length c1]) rfl ok_107 ⟨et, trivial⟩) (Calls.mono (c_box_Validate (Dj F noM) w0 hI.lt ext1 a1 c1 ⟨(hI.get .z), trivial⟩ r1 hx1) ?_)
 rintro _ w1 ⟨rfl, hx2, hl1⟩
 refine ⟨_, rfl, ?_⟩
 replace hI := (hI.ext hx2)
 refine sq (y_neq rfl et ev_const) ?_
 refine sm ?_
 refine s_gval (g_false rfl rfl rfl rfl) rfl (fun hc => y_move rfl et) ?_
 refine s_gval (g_false rfl rfl rfl rfl) rfl (fun hc => y_lenl rfl u22 (ev_gv et hc)) ?_
 refine s_gval (g_false rfl rfl rfl rfl) rfl (fun hc => y_move rfl et) ?_
 refine s_gval (g_false rfl rfl rfl rfl) rfl (fun hc => y_lenl rfl u22 (ev_gv et hc)) ?_
 refine s_gval (g_false rfl rfl rfl rfl) rfl (fun hc => y_neq rfl (ev_gv et hc) (ev_gv et hc)) ?_
 refine sq (y_or rfl et et) ?_
 refine nk (cif h et (fun hb h => ?_) (fun hb h => ?_))
 ·refine sr (sac ?_)
  refine nk (c_ret ?_)
  obtain rfl := some_inj h
  exact q_ret (vs := [vb false]) Tryz.results126 ⟨ev_tmp rfl rfl, trivial⟩ (fq hI trivial)
 refine c_skip (k_same (c_seq (sr (sm ?_))))
 refine sq (y_lenl rfl u22 et) ?_
 refine sq (y_move rfl ev_const) ?_
 refine nk (c_block (c_loop (α := Nat × Int) (fun x => fun w => ∃ C, Bun noM F w0 C w [] [Cl.sl (cInt .i64) a2 c2 p1, Cl.sl (cInt .i64) a1 c1 ext1] ∧ m_box_inside_l1 ext1 p1 (x.1) (x.2) = some r) (fun x _ => x.1) (fun x => [(1, vs a2 p1.length c2), (17, vs a1 ext1.length c1), (18, vi (ext1.length : Int)), (19, vi (x.2))]) (fu, 0) ⟨_, hI.arr .n ⟨(.s .z), .z, trivial⟩, h⟩ ⟨rfl, rfl, rfl, rfl, trivial⟩ ?_))
 clear h hI; rintro ⟨fuel1, i1⟩ w2 ⟨c3, hI, h⟩
 dsimp only at hI h
 rcases fuel1 with _ | fuel1
 ·rw [m_box_inside_l1] at h; cases h
 rw [m_box_inside_l1] at h
 refine c_sub (e := [(1, vs a2 p1.length c2), (17, vs a1 ext1.length c1), (18, vi (ext1.length : Int)), (19, vi i1)]) ⟨rfl, rfl, rfl, rfl, trivial⟩ ?_
 refine sr (sq (y_lss rfl et et) ?_)
 refine nk (c_seq (cif h et (fun hb h => ?_) (fun hb h => ?_)))
 ·refine c_skip (k_same (c_seq (c_block (sr (sm ?_)))))
  obtain ⟨e1, hx3, h⟩ := bnd_some h
  obtain ⟨ad1, cs1, hA1, hr1, hq1⟩ := hI.clat (.s .z) hx3
  obtain rfl : cs1 = [vi e1] := hr1
  refine sq (y_indexAddr rfl u22 size_3 et et (lat_bd hx3) hA1) ?_
  refine sq (y_load1 (v := (vi e1)) rfl et u3 rfl hq1.1) ?_
  refine sa ?_
  refine sa ?_
  refine nk (sr (sm ?_))
  refine sm ?_
  obtain ⟨e2, hx4, h⟩ := bnd_some h
  obtain ⟨ad2, cs2, hA2, hr2, hq2⟩ := hI.clat .z hx4
  obtain rfl : cs2 = [vi e2] := hr2
  refine sq (y_indexAddr rfl u22 size_3 et et (lat_bd hx4) hA2) ?_
  refine sq (y_load1 (v := (vi e2)) rfl et u3 rfl hq2.1) ?_
  refine sq (y_lss rfl et ev_const) ?_
  refine sm ?_
  refine s_gval (g_false rfl rfl rfl rfl) rfl (fun hc => y_move rfl et) ?_
  refine s_gval (g_false rfl rfl rfl rfl) rfl (fun hc => y_move rfl et) ?_
  obtain ⟨e3, hx5, h⟩ := bnd_some h
  replace hx5 := gd_some hx5
  obtain ⟨ad3, cs3, hq3⟩ := hI.gclat .z hx5
  have hq4 : (!(decide (e2 < 0))) = true → CA (Dj F c3) w2 (ad3.add (Int.toNat i1 * 1)) [vi e3] := fun hc => by have k := hq3 hc; have e : cs3 = _ := k.2.1; rw [← e]; exact k.2.2
  refine s_gval (g_false rfl rfl rfl rfl) rfl (fun hc => (y_indexAddr rfl u22 size_3 (ev_gv et hc) (ev_gv et hc) (lat_bd (hx5 hc)) (hq3 hc).1)) ?_
  refine s_gval (g_false rfl rfl rfl rfl) rfl (fun hc => (y_load1 (v := (vi e3)) rfl (ev_gv et hc) u3 rfl (hq4 hc).1)) ?_
  refine s_gval (g_false rfl rfl rfl rfl) rfl (fun hc => y_move rfl et) ?_
  refine s_gval (g_false rfl rfl rfl rfl) rfl (fun hc => y_geq rfl (ev_gv et hc) (ev_gv et hc)) ?_
  refine sq (y_or rfl et et) ?_
  refine nk (cif h et (fun hb h => ?_) (fun hb h => ?_))
  ·refine sr (sac ?_)
   refine nk (c_ret ?_)
   obtain rfl := some_inj h
   exact q_ret (vs := [vb false]) Tryz.results126 ⟨ev_tmp rfl rfl, trivial⟩ (fq hI trivial)
  refine c_skip (k_same (c_region rfl ?_))
  refine sq (y_add rfl et ev_const) ?_
  refine sm ?_
  refine s_nil ?_
  exact k_loop (fuel1, wi64 (i1 + 1)) ⟨rfl, rfl, rfl, rfl, trivial⟩ ⟨_, hI.arr .n ⟨.z, (.s .z), trivial⟩, h⟩ (Nat.lt_succ_self _)
 refine c_exit ?_
 refine k_in ?_
 refine k_same (sr (sac ?_))
 refine nk (c_ret ?_)
 obtain rfl := some_inj h
 exact q_ret (vs := [vb true]) Tryz.results126 ⟨ev_tmp rfl rfl, trivial⟩ (fq hI trivial)
theorem c_box_Rank (F : NP) (w0 : World) (hF : ∀ k, F k → k < w0.heap.size) (ext1 : List Int) (p1 : List Int) (a1 : Option Addr) (c1 : Nat) (a2 : Option Addr) (c2 : Nat) (hc : AllCl [Cl.sl (cInt .i64) a1 c1 ext1, Cl.sl (cInt .i64) a2 c2 p1] F w0) (r : Int × Bool)
  (h : m_box_Rank ext1 p1 = some r) :
  Calls Tryz.prog 106 #[vs a1 ext1.length c1, vs a2 p1.length c2] w0 fun e w => e = .returned (Value.tuple #[vi r.1, vb r.2]) ∧ Ext w0 w ∧ AllCl [] F w := by
 refine enterK Tryz.func106 rfl Tryz.ntmps106 rfl ?_
 have hI := Bun.start hF hc
 clear hc
 rw [m_box_Rank] at h
 refine sr (sac ?_)
 refine sac ?_
 refine nk (c_seq (sr (sm ?_)))
 refine sm ?_
 obtain ⟨r1, hx1, h⟩ := bnd_some h
 refine s_call gn rfl (r_callF (vs := [vs a1 ext1.length c1, vs a2 p1.length c2]) rfl ok_126 ⟨et, ⟨et, trivial⟩⟩) (Calls.mono (c_box_inside (Dj F noM) w0 hI.lt ext1 p1 a1 c1 a2 c2 ⟨(hI.get .z), (hI.get (.s .z)), trivial⟩ r1 hx1) ?_)
 rintro _ w1 ⟨rfl, hx2, hl1⟩
 refine ⟨_, rfl, ?_⟩
 replace hI := (hI.ext hx2)
 refine sq (y_not rfl et) ?_
 refine nk (cif h et (fun hb h => ?_) (fun hb h => ?_))
 ·refine sr (sac ?_)
  refine sac ?_
  refine nk (c_ret ?_)
  obtain rfl := some_inj h
  exact q_ret (vs := [vi 0, vb false]) Tryz.results106 ⟨ev_tmp rfl rfl, ⟨ev_tmp rfl rfl, trivial⟩⟩ (fq hI trivial)
 refine c_skip (k_same (sr (sac ?_)))
 refine nk (c_seq (sr (sm ?_)))
 refine sq (y_lenl rfl u22 et) ?_
 refine sq (y_move rfl ev_const) ?_
 refine nk (c_block (c_loop (α := Nat × Int × Int) (fun x => fun w => ∃ C, Bun noM F w0 C w [] [Cl.sl (cInt .i64) a2 c2 p1, Cl.sl (cInt .i64) a1 c1 ext1] ∧ m_box_Rank_l1 ext1 p1 (x.1) (x.2.1) (x.2.2) = some r) (fun x _ => x.1) (fun x => [(1, vs a2 p1.length c2), (6, vi (x.2.1)), (13, vs a1 ext1.length c1), (14, vi (ext1.length : Int)), (15, vi (x.2.2))]) (fu, 0, 0) ⟨_, hI.arr .n ⟨(.s .z), .z, trivial⟩, h⟩ ⟨rfl, rfl, rfl, rfl, rfl, trivial⟩ ?_))
 clear h hI; rintro ⟨fuel1, at1, i1⟩ w2 ⟨c3, hI, h⟩
 dsimp only at hI h
 rcases fuel1 with _ | fuel1
 ·rw [m_box_Rank_l1] at h; cases h
 rw [m_box_Rank_l1] at h
 refine c_sub (e := [(1, vs a2 p1.length c2), (6, vi at1), (13, vs a1 ext1.length c1), (14, vi (ext1.length : Int)), (15, vi i1)]) ⟨rfl, rfl, rfl, rfl, rfl, trivial⟩ ?_
 refine sr (sq (y_lss rfl et et) ?_)
 refine nk (c_seq (cif h et (fun hb h => ?_) (fun hb h => ?_)))
 ·refine c_skip (k_same (c_seq (c_block (sr (sm ?_)))))
  obtain ⟨e1, hx3, h⟩ := bnd_some h
  obtain ⟨ad1, cs1, hA1, hr1, hq1⟩ := hI.clat (.s .z) hx3
  obtain rfl : cs1 = [vi e1] := hr1
  refine sq (y_indexAddr rfl u22 size_3 et et (lat_bd hx3) hA1) ?_
  refine sq (y_load1 (v := (vi e1)) rfl et u3 rfl hq1.1) ?_
  refine sa ?_
  refine sa ?_
  refine nk (c_region rfl ?_)
  refine sm ?_
  refine sm ?_
  refine sq (y_mul rfl et et) ?_
  refine sm ?_
  refine sm ?_
  obtain ⟨e2, hx4, h⟩ := bnd_some h
  obtain ⟨ad2, cs2, hA2, hr2, hq2⟩ := hI.clat .z hx4
  obtain rfl : cs2 = [vi e2] := hr2
  refine sq (y_indexAddr rfl u22 size_3 et et (lat_bd hx4) hA2) ?_
  refine sq (y_load1 (v := (vi e2)) rfl et u3 rfl hq2.1) ?_
  refine sq (y_add rfl et et) ?_
  obtain ⟨at2, hx5, h⟩ := bnd_some h
  refine sq (binU (y_assign rfl et) (congrArg (Value.int .i64) (some_inj hx5))) ?_
  refine nk (c_region rfl ?_)
  refine sq (y_add rfl et ev_const) ?_
  refine sm ?_
  refine s_nil ?_
  exact k_loop (fuel1, at2, wi64 (i1 + 1)) ⟨rfl, rfl, rfl, rfl, rfl, trivial⟩ ⟨_, hI.arr .n ⟨.z, (.s .z), trivial⟩, h⟩ (Nat.lt_succ_self _)
 refine c_exit ?_
 refine k_in ?_
 refine k_same (sr (sm ?_))
 refine sa ?_
 refine sac ?_
 refine nk (c_ret ?_)
 obtain rfl := some_inj h
 exact q_ret (vs := [vi at1, vb true]) Tryz.results106 ⟨ev_tmp rfl rfl, ⟨ev_tmp rfl rfl, trivial⟩⟩ (fq hI trivial)
theorem c_mesh_Device (F : NP) (w0 : World) (hF : ∀ k, F k → k < w0.heap.size) (m1 : GMesh) (p1 : List Int) (a1 : Option Addr) (c1 : Nat) (a2 : Option Addr) (c2 : Nat) (hc : AllCl [Cl.sl (cInt .i64) a1 c1 m1.Dims, Cl.sl (cInt .i64) a2 c2 p1] F w0) (r : Int × Bool)
  (h : m_mesh_Device m1 p1 = some r) :
  Calls Tryz.prog 86 #[(Value.agg #[vs a1 m1.Dims.length c1]), vs a2 p1.length c2] w0 fun e w => e = .returned (Value.tuple #[vi r.1, vb r.2]) ∧ Ext w0 w ∧ AllCl [] F w := by
 refine enterK Tryz.func86 rfl Tryz.ntmps86 rfl ?_
 have hI := Bun.start hF hc
 clear hc
 rw [m_mesh_Device] at h
 refine sr (l_box (v := (Value.agg #[vs a1 m1.Dims.length c1])) (cs := #[vs a1 m1.Dims.length c1]) hI gn rfl rfl et rfl ?_)
 clear hI; intro b1 c3 w1 hI
 obtain ⟨c4, hI⟩ := hI.relBox .z
 refine sac ?_
 refine sac ?_
 refine nk (c_seq (sr (sq (y_loadN (l := [vs a1 m1.Dims.length c1]) rfl et u24 rfl size_24 (hI.kblk (l := [vs a1 m1.Dims.length c1]) .z rfl).1) ?_)))
 obtain ⟨r1, hx1, h⟩ := bnd_some h
 refine s_call gn rfl (r_callF (vs := [(Value.agg #[vs a1 m1.Dims.length c1])]) rfl ok_69 ⟨et, trivial⟩) (Calls.mono (c_mesh_Validate (Dj F c4) w1 hI.lt m1 a1 c1 ⟨(hI.get (.s .z)), trivial⟩ r1 hx1) ?_)
 rintro _ w2 ⟨rfl, hx2, hl1⟩
 refine ⟨_, rfl, ?_⟩
 replace hI := (hI.ext hx2)
 refine sq (y_neq rfl et ev_const) ?_
 refine nk (cif h et (fun hb h => ?_) (fun hb h => ?_))
 ·refine sr (sac ?_)
  refine sac ?_
  refine nk (c_ret ?_)
  obtain rfl := some_inj h
  exact q_ret (vs := [vi 0, vb false]) Tryz.results86 ⟨ev_tmp rfl rfl, ⟨ev_tmp rfl rfl, trivial⟩⟩ (fq hI trivial)
 refine c_skip (k_same (sr (sq (y_fieldAddr rfl et u24 rfl size_22 rfl) ?_)))
 refine sq (y_load1 (v := (vs a1 m1.Dims.length c1)) rfl et u22 rfl (hI.kblk (l := [vs a1 m1.Dims.length c1]) .z rfl).1) ?_
 refine sm ?_
 obtain ⟨r2, hx3, h⟩ := bnd_some h
 refine s_call gn rfl (r_callF (vs := [vs a1 m1.Dims.length c1, vs a2 p1.length c2]) rfl ok_106 ⟨et, ⟨et, trivial⟩⟩) (Calls.mono (c_box_Rank (Dj F c4) w2 hI.lt m1.Dims p1 a1 c1 a2 c2 ⟨(hI.get (.s .z)), (hI.get (.s (.s .z))), trivial⟩ r2 hx3) ?_)
 rintro _ w3 ⟨rfl, hx4, hl2⟩
 refine ⟨_, rfl, ?_⟩
 replace hI := (hI.ext hx4)
 refine sq (y_extract rfl et rfl) ?_
 refine sq (y_extract rfl et rfl) ?_
 refine sa ?_
 refine sa ?_
 refine nk (c_ret ?_)
 obtain rfl := some_inj h
 exact q_ret (vs := [vi r2.1, vb r2.2]) Tryz.results86 ⟨ev_tmp rfl rfl, ⟨ev_tmp rfl rfl, trivial⟩⟩ (fq hI trivial)
theorem c_slices_Clone_int_int_o (C0 F : NP) (w0 : World) (s1 : List Int) (a1 : Option Addr) (c1 : Nat) (hI : Bun C0 F w0 C0 w0 [] [Cl.sl (cInt .i64) a1 c1 s1]) (r : List Int)
  (h : m_slices_Clone_int_int_o s1 = some r) :
  Calls Tryz.prog 85 #[vs a1 s1.length c1] w0 fun e w => ∃ (a2 : Option Addr) (c2 : Nat) (C : NP), e = .returned (vs a2 r.length c2) ∧ Bun C0 F w0 C w [MO.row (cInt .i64) 3 a2 c2 r] [] := by
 refine enterK Tryz.func85 rfl Tryz.ntmps85 rfl ?_
 rw [m_slices_Clone_int_int_o] at h
 refine sr (sac ?_)
 refine nk (c_seq (sr (sm ?_)))
 refine sq (y_eqnil rfl et ev_const u22) ?_
 refine nk (c_cond (b := Option.isNone a1) et (fun hb => ?_) (fun hb => ?_))
 ·have hn_ := hI.nilEmpty .z hb
  replace h : some (([] : List Int)) = some r := by rw [hn_] at h; simpa [lapp] using h
  refine sr (sac ?_)
  refine nk (c_ret ?_)
  have hI := hI.nil (cInt .i64) 3 none
  obtain rfl := some_inj h
  exact q_ret (vs := [vs none ([] : List Int).length 0]) Tryz.results85 ⟨ev_tmp rfl rfl, trivial⟩ ⟨none, 0, _, rfl, hI.arr (.c .z .n) trivial⟩
 refine c_skip (k_same (sr (l_lit (c := (cInt .i64)) (xs := ([] : List Int)) (vs := []) (cs := #[]) (css := []) hI gn rfl rfl u22 info_3 rfl trivial (by kernel_rfl) trivial rfl rfl rfl ?_)))
 clear hI; intro b1 c3 w1 hI
 refine sm ?_
 obtain ⟨zs1, hx1, h⟩ := bnd_some h
 refine l_append (xs := ([] : List Int)) (ys := s1) hI .z (hI.crd .z) hx1 gn rfl rfl u22 info_3 rfl rfl et et ?_
 clear hI; intro a3 c4 c5 w2 hI
 refine sa ?_
 refine nk (c_ret ?_)
 obtain rfl := some_inj h
 exact q_ret (vs := [vs a3 zs1.length c4]) Tryz.results85 ⟨ev_tmp rfl rfl, trivial⟩ ⟨a3, c4, _, rfl, hI.arr (.c .z .n) trivial⟩
theorem c_mesh_Group (F : NP) (w0 : World) (hF : ∀ k, F k → k < w0.heap.size) (m1 : GMesh) (axis1 : Int) (dev1 : Int) (a1 : Option Addr) (c1 : Nat) (hc : AllCl [Cl.sl (cInt .i64) a1 c1 m1.Dims] F w0) (r : List Int)
  (h : m_mesh_Group m1 axis1 dev1 = some r) :
  Calls Tryz.prog 65 #[(Value.agg #[vs a1 m1.Dims.length c1]), vi axis1, vi dev1] w0 fun e w => ∃ (a2 : Option Addr) (c2 : Nat), e = .returned (vs a2 r.length c2) ∧ Ext w0 w ∧ AllCl [Cl.sl (cInt .i64) a2 c2 r] F w := by
 refine enterK Tryz.func65 rfl Tryz.ntmps65 rfl ?_
 have hI := Bun.start hF hc
 clear hc
 rw [m_mesh_Group] at h
 refine sr (l_box (v := (Value.agg #[vs a1 m1.Dims.length c1])) (cs := #[vs a1 m1.Dims.length c1]) hI gn rfl rfl et rfl ?_)
 clear hI; intro b1 c3 w1 hI
 obtain ⟨c4, hI⟩ := hI.relBox .z
 refine sac ?_
 refine nk (sr (sq (y_loadN (l := [vs a1 m1.Dims.length c1]) rfl et u24 rfl size_24 (hI.kblk (l := [vs a1 m1.Dims.length c1]) .z rfl).1) ?_))
 refine sm ?_
 obtain ⟨r1, hx1, h⟩ := bnd_some h
 refine s_call gn rfl (r_callF (vs := [(Value.agg #[vs a1 m1.Dims.length c1]), vi dev1]) rfl ok_39 ⟨et, ⟨et, trivial⟩⟩) (Calls.mono (c_mesh_Coordinates (Dj F c4) w1 hI.lt m1 dev1 a1 c1 ⟨(hI.get (.s .z)), trivial⟩ r1 hx1) ?_)
 rintro _ w2 ⟨a3, c5, rfl, hx2, hl1⟩
 refine ⟨_, rfl, ?_⟩
 replace hI := (hI.ext hx2).adds hl1
 refine sm ?_
 refine sq (y_extract rfl et rfl) ?_
 refine sq (y_extract rfl et rfl) ?_
 refine sa ?_
 refine sa ?_
 refine nk (c_seq (sr (sm ?_)))
 refine sq (y_not rfl et) ?_
 refine sm ?_
 refine s_gval (g_false rfl rfl rfl rfl) rfl (fun hc => y_move rfl et) ?_
 refine s_gval (g_false rfl rfl rfl rfl) rfl (fun hc => y_lss rfl (ev_gv et hc) ev_const) ?_
 refine sq (y_or rfl et et) ?_
 refine sm ?_
 refine s_gval (g_false rfl rfl rfl rfl) rfl (fun hc => y_move rfl et) ?_
 refine s_gval (g_false rfl rfl rfl rfl) rfl (fun hc => y_fieldAddr rfl et u24 rfl size_22 rfl) ?_
 refine s_gval (g_false rfl rfl rfl rfl) rfl (fun hc => (y_load1 (v := (vs a1 m1.Dims.length c1)) rfl (ev_gv et hc) u22 rfl (hI.kblk (l := [vs a1 m1.Dims.length c1]) (.s .z) rfl).1)) ?_
 refine s_gval (g_false rfl rfl rfl rfl) rfl (fun hc => y_lenl rfl u22 (ev_gv et hc)) ?_
 refine s_gval (g_false rfl rfl rfl rfl) rfl (fun hc => y_geq rfl (ev_gv et hc) (ev_gv et hc)) ?_
 refine sq (y_or rfl et et) ?_
 refine nk (cif h et (fun hb h => ?_) (fun hb h => ?_))
 ·refine sr (sac ?_)
  refine s_nil ?_
  refine k_next (e := [(6, vs none 0 0)]) ⟨rfl, trivial⟩ ?_
  refine c_ret ?_
  have hI := hI.add (c := Cl.sl (cInt .i64) none 0 ([] : List Int)) SlC.nil
  obtain rfl := some_inj h
  exact q_ret (vs := [vs none 0 0]) Tryz.results65 ⟨ev_tmp rfl rfl, trivial⟩ ⟨none, 0, rfl, hI.ext0, hI.fin ⟨.z, trivial⟩⟩
 refine c_skip (k_same (sr (sac ?_)))
 refine nk (c_seq (sr (sq (y_fieldAddr rfl et u24 rfl size_22 rfl) ?_)))
 refine sq (y_load1 (v := (vs a1 m1.Dims.length c1)) rfl et u22 rfl (hI.kblk (l := [vs a1 m1.Dims.length c1]) (.s .z) rfl).1) ?_
 refine sm ?_
 obtain ⟨e1, hx3, h⟩ := bnd_some h
 obtain ⟨ad1, cs1, hA1, hr1, hq1⟩ := hI.clat (.s (.s .z)) hx3
 obtain rfl : cs1 = [vi e1] := hr1
 refine sq (y_indexAddr rfl u22 size_3 et et (lat_bd hx3) hA1) ?_
 refine sq (y_load1 (v := (vi e1)) rfl et u3 rfl hq1.1) ?_
 refine sq (y_move rfl ev_const) ?_
 refine s_nil ?_
 refine k_next (e := [(1, vi axis1), (3, vp b1 0), (7, vs a3 r1.1.length c5), (9, vs none 0 0), (37, vi e1), (38, vi 0)]) ⟨rfl, rfl, rfl, rfl, rfl, rfl, trivial⟩ ?_
 refine c_block ?_
 have hI := hI.nil (cInt .i64) 3 none
 refine c_loop (α := Nat × (List Int) × Int × (Option Addr) × Nat) (fun x => fun w => ∃ C, Bun noM F w0 C w [MO.row (cInt .i64) 3 (x.2.2.2.1) (x.2.2.2.2) (x.2.1)] [Cl.blk b1 24 #[vs a1 m1.Dims.length c1], Cl.sl (cInt .i64) a1 c1 m1.Dims, Cl.sl (cInt .i64) a3 c5 r1.1] ∧ m_mesh_Group_l1 e1 r1 axis1 m1 (x.1) (x.2.1) (x.2.2.1) = some r) (fun x _ => x.1) (fun x => [(1, vi axis1), (3, vp b1 0), (7, vs a3 r1.1.length c5), (9, vs (x.2.2.2.1) (x.2.1).length (x.2.2.2.2)), (37, vi e1), (38, vi (x.2.2.1))]) (fu, ([] : List Int), 0, none, 0) ⟨_, hI.arr (.c .z .n) ⟨(.s .z), (.s (.s .z)), .z, trivial⟩, h⟩ ⟨rfl, rfl, rfl, rfl, rfl, rfl, trivial⟩ ?_
 clear h hI; rintro ⟨fuel1, out1, i1, a4, c6⟩ w3 ⟨c7, hI, h⟩
 dsimp only at hI h
 rcases fuel1 with _ | fuel1
 ·rw [m_mesh_Group_l1] at h; cases h
 rw [m_mesh_Group_l1] at h
 refine c_sub (e := [(1, vi axis1), (3, vp b1 0), (7, vs a3 r1.1.length c5), (9, vs a4 out1.length c6), (37, vi e1), (38, vi i1)]) ⟨rfl, rfl, rfl, rfl, rfl, rfl, trivial⟩ ?_
 refine sr (sq (y_lss rfl et et) ?_)
 refine nk (c_seq (cif h et (fun hb h => ?_) (fun hb h => ?_)))
 ·refine c_skip (k_same (c_seq (c_block (sr (sm ?_)))))
  refine sa ?_
  refine nk (sr (sm ?_))
  obtain ⟨c8, f1, hB, hl2, hk1⟩ := hI.hands (.r .n)
  obtain ⟨r2, hx4, h⟩ := bnd_some h
  try dsimp only at h
  refine s_call gn rfl (r_callF (vs := [vs a3 r1.1.length c5]) rfl ok_85 ⟨et, trivial⟩) (Calls.mono (c_slices_Clone_int_int_o c8 f1 w3 r1.1 a3 c5 (hB.subs ⟨(.s (.s .z)), trivial⟩) _ hx4) ?_)
  rintro _ w4 ⟨a5, c9, c10, rfl, hB2⟩
  obtain ⟨c11, hs1, hI⟩ := hk1 _ _ _ _ hB2
  replace hI : Bun noM F w0 c11 w4 [MO.row (cInt .i64) 3 a5 c9 r2, MO.row (cInt .i64) 3 a4 c6 out1] [Cl.blk b1 24 #[vs a1 m1.Dims.length c1], Cl.sl (cInt .i64) a1 c1 m1.Dims, Cl.sl (cInt .i64) a3 c5 r1.1] := hI
  refine ⟨_, rfl, ?_⟩
  refine sa ?_
  refine nk (sr (sm ?_))
  refine sm ?_
  refine sm ?_
  obtain ⟨ho1, h⟩ := chk_some h
  obtain ⟨ad2, hA2⟩ := hI.addr .z ho1
  refine sq (y_indexAddr rfl u22 size_3 et et ho1 hA2) ?_
  refine l_storeRow (p := Int.toNat axis1) (new := [vi i1]) (off := 0) (x' := i1) hI .z gn rfl rfl (by have := ho1; omega) hA2 rfl et et rfl size_3 rfl (by show 0 + 1 ≤ 1; omega) (fun _ cs0 _ hr0 => by rw [spl_full (by have e := Cod.len _ hr0; exact e)]; exact rfl) ?_
  clear hI; intro c12 w5 hI
  refine s_nil ?_
  refine k_next (e := [(1, vi axis1), (3, vp b1 0), (7, vs a3 r1.1.length c5), (9, vs a4 out1.length c6), (37, vi e1), (38, vi i1), (11, (vs a5 (r2.set (Int.toNat axis1) i1).length c9))]) ⟨rfl, rfl, rfl, rfl, rfl, rfl, (lookset rfl), trivial⟩ ?_
  refine sr (sq (y_loadN (l := [vs a1 m1.Dims.length c1]) rfl et u24 rfl size_24 (hI.kblk (l := [vs a1 m1.Dims.length c1]) .z rfl).1) ?_)
  refine sm ?_
  obtain ⟨r3, hx5, h⟩ := bnd_some h
  refine s_call gn rfl (r_callF (vs := [(Value.agg #[vs a1 m1.Dims.length c1]), (vs a5 (r2.set (Int.toNat axis1) i1).length c9)]) rfl ok_86 ⟨et, ⟨et, trivial⟩⟩) (Calls.mono (c_mesh_Device noM w5 (fun _ k => k.elim) m1 (r2.set (Int.toNat axis1) i1) a1 c1 a5 c9 ⟨(hI.get0 (.s .z)), hI.lend .z, trivial⟩ r3 hx5) ?_)
  rintro _ w6 ⟨rfl, hx6, hl3⟩
  refine ⟨_, rfl, ?_⟩
  replace hI := (hI.ext hx6)
  refine sm ?_
  refine sq (y_extract rfl et rfl) ?_
  refine sq (y_extract rfl et rfl) ?_
  refine sa ?_
  refine sa ?_
  refine nk (c_region rfl ?_)
  refine sm ?_
  refine sm ?_
  refine l_lit (c := (cInt .i64)) (xs := ([r3.1] : List Int)) (vs := [(0, vi r3.1)]) (cs := #[vi r3.1]) (css := [[vi r3.1]]) hI gn rfl rfl u22 info_3 rfl ⟨rfl, et, trivial⟩ (by kernel_rfl) ⟨rfl, trivial⟩ rfl rfl rfl ?_
  clear hI; intro b2 c13 w7 hI
  obtain ⟨zs1, hx7, h⟩ := bnd_some h
  refine l_append (xs := out1) (ys := ([r3.1] : List Int)) hI (.s (.s .z)) (hI.rd .z) hx7 gn rfl rfl u22 info_3 rfl rfl et et ?_
  clear hI; intro a6 c14 c15 w8 hI
  refine sa ?_
  refine nk (c_region rfl ?_)
  refine sq (y_add rfl et ev_const) ?_
  refine sm ?_
  refine s_nil ?_
  exact k_loop (fuel1, zs1, wi64 (i1 + 1), a6, c14) ⟨rfl, rfl, rfl, rfl, rfl, rfl, trivial⟩ ⟨_, hI.arr (.c (.s (.s .z)) .n) ⟨.z, (.s .z), (.s (.s .z)), trivial⟩, h⟩ (Nat.lt_succ_self _)
 refine c_exit ?_
 refine k_in ?_
 refine k_same (sr (sm ?_))
 refine sa ?_
 refine nk (c_ret ?_)
 obtain ⟨c16, hI⟩ := hI.release .z
 obtain rfl := some_inj h
 exact q_ret (vs := [vs a4 out1.length c6]) Tryz.results65 ⟨ev_tmp rfl rfl, trivial⟩ ⟨a4, c6, rfl, hI.ext0, hI.fin ⟨.z, trivial⟩⟩
theorem c_collective_operation_apply (F : NP) (w0 : World) (hF : ∀ k, F k → k < w0.heap.size) (op1 : Gcollective_operation) (m1 : GMesh) (l1 : List GTensor) (axis1 : Int) (fv1 : Value) (a1 : Option Addr) (c1 : Nat) (a2 : Option Addr) (c2 : Nat) (hc : AllCl [clFn_k1 fv1 op1.local_, Cl.sl (cInt .i64) a1 c1 m1.Dims, Cl.sl cGTensor a2 c2 l1] F w0) (r : List GTensor × Int)
  (h : m_collective_operation_apply op1 m1 l1 axis1 = some r) :
  Calls Tryz.prog 34 #[(Value.agg #[fv1]), (Value.agg #[vs a1 m1.Dims.length c1]), vs a2 l1.length c2, vi axis1] w0 fun e w => ∃ (a3 : Option Addr) (c3 : Nat), e = .returned (Value.tuple #[vs a3 r.1.length c3, vi r.2]) ∧ Ext w0 w ∧ AllCl [Cl.sl cGTensor a3 c3 r.1] F w := by
 refine enterK Tryz.func34 rfl Tryz.ntmps34 rfl ?_
 have hI := Bun.start hF hc
 clear hc
 rw [m_collective_operation_apply] at h
 refine sr (l_box (v := (Value.agg #[fv1])) (cs := #[fv1]) hI gn rfl rfl et rfl ?_)
 clear hI; intro b1 c4 w1 hI
 obtain ⟨c5, hI⟩ := hI.relBox .z
 refine l_box (v := (Value.agg #[vs a1 m1.Dims.length c1])) (cs := #[vs a1 m1.Dims.length c1]) hI gn rfl rfl et rfl ?_
 clear hI; intro b2 c6 w2 hI
 obtain ⟨c7, hI⟩ := hI.relBox .z
 refine sac ?_
 refine sac ?_
 refine nk (sr (sac ?_))
 refine nk (c_seq (sr (sm ?_)))
 refine sq (y_lenl rfl u25 et) ?_
 refine sq (y_move rfl ev_const) ?_
 refine nk (c_block ?_)
 have hI := hI.nil cGTensor 41 none
 refine c_loop (α := Nat × (List GTensor) × Int × (Option Addr) × Nat) (fun x => fun w => ∃ C, Bun noM F w0 C w [MO.row cGTensor 41 (x.2.2.2.1) (x.2.2.2.2) (x.2.1)] [Cl.sl cGTensor a2 c2 l1, Cl.blk b1 60 #[fv1], clFn_k1 fv1 op1.local_, Cl.blk b2 24 #[vs a1 m1.Dims.length c1], Cl.sl (cInt .i64) a1 c1 m1.Dims] ∧ m_collective_operation_apply_l1 l1 m1 axis1 op1 (x.1) (x.2.1) (x.2.2.1) = some r) (fun x _ => x.1) (fun x => [(2, vs a2 l1.length c2), (3, vi axis1), (4, vp b1 0), (5, vp b2 0), (10, vs (x.2.2.2.1) (x.2.1).length (x.2.2.2.2)), (18, vi (l1.length : Int)), (19, vi (x.2.2.1))]) (fu, ([] : List GTensor), 0, none, 0) ⟨_, hI.arr (.c .z .n) ⟨(.s (.s (.s (.s .z)))), (.s .z), (.s (.s .z)), .z, (.s (.s (.s .z))), trivial⟩, h⟩ ⟨rfl, rfl, rfl, rfl, rfl, rfl, rfl, trivial⟩ ?_
 clear h hI; rintro ⟨fuel1, out1, i1, a4, c8⟩ w3 ⟨c9, hI, h⟩
 dsimp only at hI h
 rcases fuel1 with _ | fuel1
 ·rw [m_collective_operation_apply_l1] at h; cases h
 rw [m_collective_operation_apply_l1] at h
 refine c_sub (e := [(2, vs a2 l1.length c2), (3, vi axis1), (4, vp b1 0), (5, vp b2 0), (10, vs a4 out1.length c8), (18, vi (l1.length : Int)), (19, vi i1)]) ⟨rfl, rfl, rfl, rfl, rfl, rfl, rfl, trivial⟩ ?_
 refine sr (sq (y_lss rfl et et) ?_)
 refine nk (c_seq (cif h et (fun hb h => ?_) (fun hb h => ?_)))
 ·refine c_skip (k_same (c_join (α := (List GTensor) × (Option Addr) × Nat) (fun _ => ⟨56, []⟩) (fun x => [(2, vs a2 l1.length c2), (3, vi axis1), (4, vp b1 0), (5, vp b2 0), (10, vs (x.2.1) (x.1).length (x.2.2)), (18, vi (l1.length : Int)), (19, vi i1)]) (fun x => fun w => ∃ C, Bun noM F w0 C w [MO.row cGTensor 41 (x.2.1) (x.2.2) (x.1)] [Cl.sl cGTensor a2 c2 l1, Cl.blk b1 60 #[fv1], clFn_k1 fv1 op1.local_, Cl.blk b2 24 #[vs a1 m1.Dims.length c1], Cl.sl (cInt .i64) a1 c1 m1.Dims] ∧ m_collective_operation_apply_j1 (m_collective_operation_apply_l1 l1 m1 axis1 op1 fuel1) i1 (x.1) = some r) ?_ ?_))
  ·clear h hI; rintro ⟨out2, a5, c10⟩ w4 ⟨c11, hI, h⟩
   try dsimp only at hI h
   rw [m_collective_operation_apply_j1] at h
   refine c_sub (e := [(2, vs a2 l1.length c2), (3, vi axis1), (4, vp b1 0), (5, vp b2 0), (10, vs a5 out2.length c10), (18, vi (l1.length : Int)), (19, vi i1)]) ⟨rfl, rfl, rfl, rfl, rfl, rfl, rfl, trivial⟩ ?_
   refine c_region rfl ?_
   refine sq (y_add rfl et ev_const) ?_
   refine sm ?_
   refine s_nil ?_
   exact k_loop (fuel1, out2, wi64 (i1 + 1), a5, c10) ⟨rfl, rfl, rfl, rfl, rfl, rfl, rfl, trivial⟩ ⟨_, hI.arr (.c .z .n) ⟨.z, (.s .z), (.s (.s .z)), (.s (.s (.s .z))), (.s (.s (.s (.s .z)))), trivial⟩, h⟩ (Nat.lt_succ_self _)
  refine c_block (sr (sm ?_))
  refine sa ?_
  refine nk (sr (sac ?_))
  refine nk (c_join (α := (List GTensor) × (Option Addr) × Nat) (fun _ => ⟨56, []⟩) (fun x => [(2, vs a2 l1.length c2), (3, vi axis1), (4, vp b1 0), (5, vp b2 0), (10, vs a4 out1.length c8), (18, vi (l1.length : Int)), (19, vi i1), (11, vi i1), (12, vs (x.2.1) (x.1).length (x.2.2))]) (fun x => fun w => ∃ C, Bun noM F w0 C w [MO.row cGTensor 41 (x.2.1) (x.2.2) (x.1), MO.row cGTensor 41 a4 c8 out1] [Cl.sl cGTensor a2 c2 l1, Cl.blk b1 60 #[fv1], clFn_k1 fv1 op1.local_, Cl.blk b2 24 #[vs a1 m1.Dims.length c1], Cl.sl (cInt .i64) a1 c1 m1.Dims] ∧ m_collective_operation_apply_j2 op1 i1 out1 (m_collective_operation_apply_l1 l1 m1 axis1 op1 fuel1) (x.1) = some r) ?_ ?_)
  ·clear h hI; rintro ⟨group1, a6, c12⟩ w5 ⟨c13, hI, h⟩
   try dsimp only at hI h
   rw [m_collective_operation_apply_j2] at h
   refine c_sub (e := [(2, vs a2 l1.length c2), (3, vi axis1), (4, vp b1 0), (5, vp b2 0), (10, vs a4 out1.length c8), (18, vi (l1.length : Int)), (19, vi i1), (11, vi i1), (12, vs a6 group1.length c12)]) ⟨rfl, rfl, rfl, rfl, rfl, rfl, rfl, rfl, rfl, trivial⟩ ?_
   refine sr (sq (y_fieldAddr rfl et u60 rfl size_58 rfl) ?_)
   refine sq (y_load1 (v := fv1) rfl et u58 rfl (hI.kblk (l := [fv1]) (.s .z) rfl).1) ?_
   refine sm ?_
   refine sm ?_
   obtain ⟨c14, hI⟩ := hI.release .z
   obtain ⟨r1, hx1, h⟩ := bnd_some h
   refine s_callV (args := [vi i1, vs a6 group1.length c12]) gn rfl rfl et ⟨et, ⟨et, trivial⟩⟩ (CallV.mono ((hI.get (.s (.s (.s .z)))).2 (Dj F c14) w5 (Sp.of_ext .rfl') hI.lt i1 group1 a6 c12 r1 ⟨(hI.get .z), trivial⟩ hx1) ?_)
   rintro _ w6 ⟨a7, c15, a8, c16, rfl, hx2, hl1⟩
   refine ⟨_, rfl, ?_⟩
   replace hI := (hI.ext hx2).adds hl1
   refine sm ?_
   refine sq (y_extract rfl et rfl) ?_
   refine sq (y_extract rfl et rfl) ?_
   refine l_alloc (cs := ZTensor) hI gn rfl rfl zero_41 rfl ?_
   clear hI; intro b3 c17 w7 hI
   refine l_store (new := (lTensor r1.1 a7 c15 a8 c16)) (cs' := (ATensor r1.1 a7 c15 a8 c16)) hI .z gn rfl rfl et et rfl size_41 rfl rfl rfl ?_
   clear hI; intro c18 w8 hI
   refine sa ?_
   refine nk (c_seq (sr (sm ?_)))
   refine sq (y_neq rfl et ev_const) ?_
   refine nk (cif h et (fun hb h => ?_) (fun hb h => ?_))
   ·refine sr (sm ?_)
    refine sac ?_
    refine sa ?_
    refine nk (c_ret ?_)
    have hI := hI.add (c := Cl.sl cGTensor none 0 ([] : List GTensor)) SlC.nil
    obtain rfl := some_inj h
    exact q_ret (vs := [vs none 0 0, vi r1.2]) Tryz.results34 ⟨ev_tmp rfl rfl, ⟨ev_tmp rfl rfl, trivial⟩⟩ ⟨none, 0, rfl, hI.ext0, hI.fin ⟨.z, trivial⟩⟩
   refine c_skip (k_same (c_region rfl ?_))
   refine sm ?_
   refine sq (y_loadN (l := (lTensor r1.1 a7 c15 a8 c16)) rfl et u41 rfl size_41 (CellsAt.of_blk (hI.blk .z) rfl)) ?_
   refine l_lit (c := cGTensor) (xs := ([r1.1] : List GTensor)) (vs := [(0, (Value.agg (ATensor r1.1 a7 c15 a8 c16)))]) (cs := (ATensor r1.1 a7 c15 a8 c16)) (css := [(lTensor r1.1 a7 c15 a8 c16)]) hI gn rfl rfl u25 info_41 rfl ⟨rfl, et, trivial⟩ (by kernel_rfl) ⟨⟨a7, c15, a8, c16, rfl, hI.get .z, hI.get (.s .z)⟩, trivial⟩ rfl rfl rfl ?_
   clear hI; intro b4 c19 w9 hI
   obtain ⟨zs1, hx3, h⟩ := bnd_some h
   refine l_append (xs := out1) (ys := ([r1.1] : List GTensor)) hI (.s (.s .z)) (hI.rd .z) hx3 gn rfl rfl u25 info_41 rfl rfl et et ?_
   clear hI; intro a9 c20 c21 w10 hI
   refine sa ?_
   refine s_nil ?_
   exact k_join (zs1, a9, c20) ⟨rfl, rfl, rfl, rfl, rfl, rfl, rfl, trivial⟩ ⟨_, hI.arr (.c (.s (.s .z)) .n) ⟨(.s (.s (.s .z))), (.s (.s (.s (.s .z)))), (.s (.s (.s (.s (.s .z))))), (.s (.s (.s (.s (.s (.s .z)))))), (.s (.s (.s (.s (.s (.s (.s .z))))))), trivial⟩, h⟩ rfl
  refine sr (sq (y_loadN (l := [vs a1 m1.Dims.length c1]) rfl et u24 rfl size_24 (hI.kblk (l := [vs a1 m1.Dims.length c1]) (.s (.s (.s .z))) rfl).1) ?_)
  refine sm ?_
  refine sm ?_
  obtain ⟨r2, hx4, h⟩ := bnd_some h
  refine s_call gn rfl (r_callF (vs := [(Value.agg #[vs a1 m1.Dims.length c1]), vi axis1, vi i1]) rfl ok_65 ⟨et, ⟨et, ⟨et, trivial⟩⟩⟩) (Calls.mono (c_mesh_Group (Dj F c9) w3 hI.lt m1 axis1 i1 a1 c1 ⟨(hI.get (.s (.s (.s (.s .z))))), trivial⟩ r2 hx4) ?_)
  rintro _ w11 ⟨a10, c22, rfl, hx5, hl2⟩
  refine ⟨_, rfl, ?_⟩
  replace hI := (hI.ext hx5).adds hl2
  refine sq (y_lenl rfl u22 et) ?_
  refine sq (y_move rfl ev_const) ?_
  refine nk (c_block ?_)
  have hI := hI.nil cGTensor 41 none
  refine c_loop (α := Nat × (List GTensor) × Int × (Option Addr) × Nat) (fun x => fun w => ∃ C, Bun noM F w0 C w [MO.row cGTensor 41 (x.2.2.2.1) (x.2.2.2.2) (x.2.1), MO.row cGTensor 41 a4 c8 out1] [Cl.sl cGTensor a2 c2 l1, Cl.blk b1 60 #[fv1], clFn_k1 fv1 op1.local_, Cl.blk b2 24 #[vs a1 m1.Dims.length c1], Cl.sl (cInt .i64) a1 c1 m1.Dims, Cl.sl (cInt .i64) a10 c22 r2] ∧ m_collective_operation_apply_l2 r2 l1 op1 i1 out1 (m_collective_operation_apply_l1 l1 m1 axis1 op1 fuel1) (x.1) (x.2.1) (x.2.2.1) = some r) (fun x _ => x.1) (fun x => [(2, vs a2 l1.length c2), (3, vi axis1), (4, vp b1 0), (5, vp b2 0), (10, vs a4 out1.length c8), (18, vi (l1.length : Int)), (19, vi i1), (11, vi i1), (12, vs (x.2.2.2.1) (x.2.1).length (x.2.2.2.2)), (25, vs a10 r2.length c22), (26, vi (r2.length : Int)), (27, vi (x.2.2.1))]) (fu, ([] : List GTensor), 0, none, 0) ⟨_, hI.arr (.c .z (.c .z .n)) ⟨(.s .z), (.s (.s .z)), (.s (.s (.s .z))), (.s (.s (.s (.s .z)))), (.s (.s (.s (.s (.s .z))))), .z, trivial⟩, h⟩ ⟨rfl, rfl, rfl, rfl, rfl, rfl, rfl, rfl, rfl, rfl, rfl, rfl, trivial⟩ ?_
  clear h hI; rintro ⟨fuel2, group2, i2, a11, c23⟩ w12 ⟨c24, hI, h⟩
  dsimp only at hI h
  rcases fuel2 with _ | fuel2
  ·rw [m_collective_operation_apply_l2] at h; cases h
  rw [m_collective_operation_apply_l2] at h
  refine c_sub (e := [(2, vs a2 l1.length c2), (3, vi axis1), (4, vp b1 0), (5, vp b2 0), (10, vs a4 out1.length c8), (18, vi (l1.length : Int)), (19, vi i1), (11, vi i1), (12, vs a11 group2.length c23), (25, vs a10 r2.length c22), (26, vi (r2.length : Int)), (27, vi i2)]) ⟨rfl, rfl, rfl, rfl, rfl, rfl, rfl, rfl, rfl, rfl, rfl, rfl, trivial⟩ ?_
  refine sr (sq (y_lss rfl et et) ?_)
  refine nk (c_seq (cif h et (fun hb h => ?_) (fun hb h => ?_)))
  ·refine c_skip (k_same (c_seq (c_block (sr ?_))))
   obtain ⟨e1, hx6, h⟩ := bnd_some h
   obtain ⟨ad1, cs1, hA1, hr1, hq1⟩ := hI.clat (.s (.s (.s (.s (.s .z))))) hx6
   obtain rfl : cs1 = [vi e1] := hr1
   refine sq (y_indexAddr rfl u22 size_3 et et (lat_bd hx6) hA1) ?_
   refine sq (y_load1 (v := (vi e1)) rfl et u3 rfl hq1.1) ?_
   refine sa ?_
   refine nk (c_region rfl ?_)
   refine sm ?_
   refine sm ?_
   refine sm ?_
   obtain ⟨e2, hx7, h⟩ := bnd_some h
   obtain ⟨ad2, cs2, hA2, hr2, hq2⟩ := hI.clat .z hx7
   obtain ⟨a12, c25, a13, c26, rfl, hf1, hf2⟩ := hr2
   have hI := hI.add (c := Cl.sl (cInt .i64) a12 c25 e2.Dims) hf1
   have hI := hI.add (c := Cl.sl cGVal a13 c26 e2.Vals) hf2
   refine sq (y_indexAddr rfl u25 size_41 et et (lat_bd hx7) hA2) ?_
   refine sq (y_loadN (l := (lTensor e2 a12 c25 a13 c26)) rfl et u41 rfl size_41 hq2.1) ?_
   refine l_lit (c := cGTensor) (xs := ([e2] : List GTensor)) (vs := [(0, (Value.agg (ATensor e2 a12 c25 a13 c26)))]) (cs := (ATensor e2 a12 c25 a13 c26)) (css := [(lTensor e2 a12 c25 a13 c26)]) hI gn rfl rfl u25 info_41 rfl ⟨rfl, et, trivial⟩ (by kernel_rfl) ⟨⟨a12, c25, a13, c26, rfl, hI.get (.s .z), hI.get .z⟩, trivial⟩ rfl rfl rfl ?_
   clear hI; intro b5 c27 w13 hI
   obtain ⟨zs2, hx8, h⟩ := bnd_some h
   refine l_append (xs := group2) (ys := ([e2] : List GTensor)) hI (.s .z) (hI.rd .z) hx8 gn rfl rfl u25 info_41 rfl rfl et et ?_
   clear hI; intro a14 c28 c29 w14 hI
   refine sa ?_
   refine nk (c_region rfl ?_)
   refine sq (y_add rfl et ev_const) ?_
   refine sm ?_
   refine s_nil ?_
   exact k_loop (fuel2, zs2, wi64 (i2 + 1), a14, c28) ⟨rfl, rfl, rfl, rfl, rfl, rfl, rfl, rfl, rfl, rfl, rfl, rfl, trivial⟩ ⟨_, hI.arr (.c (.s .z) (.c (.s .z) .n)) ⟨(.s (.s .z)), (.s (.s (.s .z))), (.s (.s (.s (.s .z)))), (.s (.s (.s (.s (.s .z))))), (.s (.s (.s (.s (.s (.s .z)))))), (.s (.s (.s (.s (.s (.s (.s .z))))))), trivial⟩, h⟩ (Nat.lt_succ_self _)
  refine c_exit ?_
  refine k_in ?_
  exact k_join (group2, a11, c23) ⟨rfl, rfl, rfl, rfl, rfl, rfl, rfl, rfl, rfl, trivial⟩ ⟨_, hI.arr (.c .z (.c .z .n)) ⟨.z, (.s .z), (.s (.s .z)), (.s (.s (.s .z))), (.s (.s (.s (.s .z)))), trivial⟩, h⟩ rfl
 refine c_exit ?_
 refine k_in ?_
 refine k_same (sr (sm ?_))
 refine sa ?_
 refine sac ?_
 refine nk (c_ret ?_)
 obtain ⟨c30, hI⟩ := hI.release .z
 obtain rfl := some_inj h
 exact q_ret (vs := [vs a4 out1.length c8, vi 0]) Tryz.results34 ⟨ev_tmp rfl rfl, ⟨ev_tmp rfl rfl, trivial⟩⟩ ⟨a4, c8, rfl, hI.ext0, hI.fin ⟨.z, trivial⟩⟩
theorem c_collective_AllGather (F : NP) (w0 : World) (hF : ∀ k, F k → k < w0.heap.size) (m1 : GMesh) (l1 : List GTensor) (axis1 : Int) (along1 : Int) (a1 : Option Addr) (c1 : Nat) (a2 : Option Addr) (c2 : Nat) (hc : AllCl [Cl.sl (cInt .i64) a1 c1 m1.Dims, Cl.sl cGTensor a2 c2 l1] F w0) (r : List GTensor × Int)
  (h : m_collective_AllGather m1 l1 axis1 along1 = some r) :
  Calls Tryz.prog 11 #[(Value.agg #[vs a1 m1.Dims.length c1]), vs a2 l1.length c2, vi axis1, vi along1] w0 fun e w => ∃ (a3 : Option Addr) (c3 : Nat), e = .returned (Value.tuple #[vs a3 r.1.length c3, vi r.2]) ∧ Ext w0 w ∧ AllCl [Cl.sl cGTensor a3 c3 r.1] F w := by
 refine enterK Tryz.func11 rfl Tryz.ntmps11 rfl ?_
 have hI := Bun.start hF hc
 clear hc
 rw [m_collective_AllGather] at h
 refine sr (l_box (v := (Value.agg #[vs a1 m1.Dims.length c1])) (cs := #[vs a1 m1.Dims.length c1]) hI gn rfl rfl et rfl ?_)
 clear hI; intro b1 c4 w1 hI
 obtain ⟨c5, hI⟩ := hI.relBox .z
 refine l_box (v := (vi along1)) (cs := #[vi along1]) hI gn rfl rfl et rfl ?_
 clear hI; intro b2 c6 w2 hI
 obtain ⟨c7, hI⟩ := hI.relBox .z
 refine sac ?_
 refine sac ?_
 refine nk (c_seq (sr (sq (y_loadN (l := [vs a1 m1.Dims.length c1]) rfl et u24 rfl size_24 (hI.kblk (l := [vs a1 m1.Dims.length c1]) (.s .z) rfl).1) ?_)))
 refine sm ?_
 refine sm ?_
 refine sq (y_load1 (v := (vi along1)) rfl et u3 rfl (hI.kblk (l := [vi along1]) .z rfl).1) ?_
 obtain ⟨r1, hx1, h⟩ := bnd_some h
 refine s_call gn rfl (r_callF (vs := [(Value.agg #[vs a1 m1.Dims.length c1]), vs a2 l1.length c2, vi axis1, vi along1]) rfl ok_31 ⟨et, ⟨et, ⟨et, ⟨et, trivial⟩⟩⟩⟩) (Calls.mono (c_collective_checkAxes (Dj F c7) w2 hI.lt m1 l1 axis1 along1 a1 c1 a2 c2 ⟨(hI.get (.s (.s .z))), (hI.get (.s (.s (.s .z)))), trivial⟩ r1 hx1) ?_)
 rintro _ w3 ⟨rfl, hx2, hl1⟩
 refine ⟨_, rfl, ?_⟩
 replace hI := (hI.ext hx2)
 refine sa ?_
 refine nk (sr (sm ?_))
 refine sq (y_neq rfl et ev_const) ?_
 refine nk (cif h et (fun hb h => ?_) (fun hb h => ?_))
 ·refine sr (sm ?_)
  refine sac ?_
  refine sa ?_
  refine nk (c_ret ?_)
  have hI := hI.add (c := Cl.sl cGTensor none 0 ([] : List GTensor)) SlC.nil
  obtain rfl := some_inj h
  exact q_ret (vs := [vs none 0 0, vi r1]) Tryz.results11 ⟨ev_tmp rfl rfl, ⟨ev_tmp rfl rfl, trivial⟩⟩ ⟨none, 0, rfl, hI.ext0, hI.fin ⟨.z, trivial⟩⟩
 refine c_skip (k_same (sr (sq (y_makeFunc (vs := []) (cap := [vp b2 0]) rfl rfl ⟨et, trivial⟩) ?_)))
 refine sq (y_build (vs := [(0, (Value.func (.func 32) #[] #[vp b2 0]))]) (cs := #[(Value.func (.func 32) #[] #[vp b2 0])]) rfl ⟨rfl, et, trivial⟩ (by kernel_rfl)) ?_
 refine l_alloc (cs := #[Value.nilFunc]) hI gn rfl rfl zero_60 rfl ?_
 clear hI; intro b3 c8 w4 hI
 refine l_store (new := [(Value.func (.func 32) #[] #[vp b2 0])]) (cs' := #[(Value.func (.func 32) #[] #[vp b2 0])]) hI .z gn rfl rfl et et rfl size_60 rfl rfl rfl ?_
 clear hI; intro c9 w5 hI
 refine nk (sr (sq (y_loadN (l := [(Value.func (.func 32) #[] #[vp b2 0])]) rfl et u60 rfl size_60 (CellsAt.of_blk (hI.blk .z) rfl)) ?_))
 refine sq (y_loadN (l := [vs a1 m1.Dims.length c1]) rfl et u24 rfl size_24 (hI.kblk (l := [vs a1 m1.Dims.length c1]) (.s .z) rfl).1) ?_
 refine sm ?_
 refine sm ?_
 have hI := hI.add (c := clFn_k1 (Value.func (.func 32) #[] #[vp b2 0]) (fun y_1 y_2 => m_collective_AllGather_1 y_1 y_2 along1)) ⟨rfl, fun D' w' hs hl x_1 x_2 A_3 c_4 r k h => CallV.fn (cap := [vp b2 0]) ok_32 (c_collective_AllGather_1 D' w' hl x_1 x_2 along1 A_3 c_4 b2 ⟨k.1, (Cl.sp _ hs (hI.get .z)), trivial⟩ r h)⟩
 obtain ⟨r2, hx3, h⟩ := bnd_some h
 refine s_call gn rfl (r_callF (vs := [(Value.agg #[(Value.func (.func 32) #[] #[vp b2 0])]), (Value.agg #[vs a1 m1.Dims.length c1]), vs a2 l1.length c2, vi axis1]) rfl ok_34 ⟨et, ⟨et, ⟨et, ⟨et, trivial⟩⟩⟩⟩) (Calls.mono (c_collective_operation_apply (Dj F c9) w5 hI.lt (⟨(fun y_1 y_2 => m_collective_AllGather_1 y_1 y_2 along1)⟩ : Gcollective_operation) m1 l1 axis1 (Value.func (.func 32) #[] #[vp b2 0]) a1 c1 a2 c2 ⟨(hI.get .z), (hI.get (.s (.s (.s .z)))), (hI.get (.s (.s (.s (.s .z))))), trivial⟩ r2 hx3) ?_)
 rintro _ w6 ⟨a4, c10, rfl, hx4, hl2⟩
 refine ⟨_, rfl, ?_⟩
 replace hI := (hI.ext hx4).adds hl2
 refine sq (y_extract rfl et rfl) ?_
 refine sq (y_extract rfl et rfl) ?_
 refine sa ?_
 refine sa ?_
 refine s_nil ?_
 refine k_next (e := [(8, vs a4 r2.1.length c10), (9, vi r2.2)]) ⟨rfl, rfl, trivial⟩ ?_
 refine c_ret ?_
 obtain rfl := some_inj h
 exact q_ret (vs := [vs a4 r2.1.length c10, vi r2.2]) Tryz.results11 ⟨ev_tmp rfl rfl, ⟨ev_tmp rfl rfl, trivial⟩⟩ ⟨a4, c10, rfl, hI.ext0, hI.fin ⟨.z, trivial⟩⟩
theorem c_value_operator (F : NP) (w0 : World) (hF : ∀ k, F k → k < w0.heap.size) (fold1 : Int) (hc : AllCl [] F w0) (r : Int × Bool)
  (h : m_value_operator fold1 = some r) :
  Calls Tryz.prog 93 #[vi fold1] w0 fun e w => e = .returned (Value.tuple #[vi r.1, vb r.2]) ∧ Ext w0 w ∧ AllCl [] F w := by
 refine enterK Tryz.func93 rfl Tryz.ntmps93 rfl ?_
 have hI := Bun.start hF hc
 clear hc
 rw [m_value_operator] at h
 refine sr (sac ?_)
 refine sac ?_
 refine nk (c_seq (sr (sm ?_)))
 refine nk (c_block (c_join (α := Bool) (fun _ => ⟨14, []⟩) (fun x => [(4, vi fold1), (5, vb x)]) (fun x => fun w => ∃ C, Bun noM F w0 C w [] [] ∧ m_value_operator_j1 fold1 x = some r) ?_ ?_))
 ·clear h hI; rintro i1 w1 ⟨c1, hI, h⟩
  try dsimp only at hI h
  rw [m_value_operator_j1] at h
  refine c_sub (e := [(4, vi fold1), (5, vb i1)]) ⟨rfl, rfl, trivial⟩ ?_
  refine cif h et (fun hb h => ?_) (fun hb h => ?_)
  ·refine sr (sac ?_)
   refine sac ?_
   refine nk (c_ret ?_)
   obtain rfl := some_inj h
   exact q_ret (vs := [vi 4, vb true]) Tryz.results93 ⟨ev_tmp rfl rfl, ⟨ev_tmp rfl rfl, trivial⟩⟩ (fq hI trivial)
  refine sr (sq (y_eql rfl et ev_const) ?_)
  refine sa ?_
  refine nk (cif h et (fun hb h => ?_) (fun hb h => ?_))
  ·refine sr (sac ?_)
   refine sac ?_
   refine nk (c_ret ?_)
   obtain rfl := some_inj h
   exact q_ret (vs := [vi 6, vb true]) Tryz.results93 ⟨ev_tmp rfl rfl, ⟨ev_tmp rfl rfl, trivial⟩⟩ (fq hI trivial)
  refine sr (sq (y_eql rfl et ev_const) ?_)
  refine sa ?_
  refine nk (cif h et (fun hb h => ?_) (fun hb h => ?_))
  ·refine sr (sac ?_)
   refine sac ?_
   refine nk (c_ret ?_)
   obtain rfl := some_inj h
   exact q_ret (vs := [vi 9, vb true]) Tryz.results93 ⟨ev_tmp rfl rfl, ⟨ev_tmp rfl rfl, trivial⟩⟩ (fq hI trivial)
  refine sr (sq (y_eql rfl et ev_const) ?_)
  refine sa ?_
  refine nk (cif h et (fun hb h => ?_) (fun hb h => ?_))
  ·refine sr (sac ?_)
   refine sac ?_
   refine nk (c_ret ?_)
   obtain rfl := some_inj h
   exact q_ret (vs := [vi 10, vb true]) Tryz.results93 ⟨ev_tmp rfl rfl, ⟨ev_tmp rfl rfl, trivial⟩⟩ (fq hI trivial)
  refine c_skip (k_same (sr (sac ?_)))
  refine sac ?_
  refine nk (c_ret ?_)
  obtain rfl := some_inj h
  exact q_ret (vs := [vi 0, vb false]) Tryz.results93 ⟨ev_tmp rfl rfl, ⟨ev_tmp rfl rfl, trivial⟩⟩ (fq hI trivial)
 refine sr (sq (y_eql rfl et ev_const) ?_)
 refine sa ?_
 refine nk (cif h et (fun hb h => ?_) (fun hb h => ?_))
 ·exact c_skip (k_join (decide (fold1 = 1)) ⟨rfl, rfl, trivial⟩ ⟨_, hI.arr .n trivial, h⟩ rfl)
 refine c_region rfl ?_
 refine sq (y_eql rfl et ev_const) ?_
 refine sa ?_
 refine s_nil ?_
 exact k_join (decide (fold1 = 5)) ⟨rfl, rfl, trivial⟩ ⟨_, hI.arr .n trivial, h⟩ rfl
end Go.Proofs.YtpedfojbfbccaaaGreat
