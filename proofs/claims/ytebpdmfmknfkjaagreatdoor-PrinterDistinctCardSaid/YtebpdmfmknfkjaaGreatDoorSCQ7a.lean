import Derived.Test.YtebpdmfmknfkjaaGreatDoorSXc
namespace Go.Proofs.YtebpdmfmknfkjaaGreatDoor
open Go Go.RowKit Go.Vc
set_option maxRecDepth 100000
set_option maxHeartbeats 4000000
set_option linter.unusedVariables false
set_option linter.unusedSimpArgs false
theorem cif {P : Program} {ro : Option Nat} {n : Fr} {Kn : Act → World → Prop} {Ke : Nat → Act → World → Prop} {Kr : Act → World → Prop} {env : Env} {w : World} {c : Operand} {x y : Code} {b : Bool} {β : Type} {p q : Option β} {r : β} (h : (if b = true then p else q) = some r) (hc : Ev n env c (.bool b)) (ht : b = true → p = some r → CodeW P ro n x Kn Ke Kr env w) (hf : b = false → q = some r → CodeW P ro n y Kn Ke Kr env w) : CodeW P ro n (.cond c x y) Kn Ke Kr env w := c_cond hc (fun hb => ht hb (ite_t hb h)) (fun hb => hf hb (ite_f hb h))
theorem fq {F C : NP} {w0 w : World} {os : List MO} {cl cl' : List Cl} {e : Ending} (h : Bun noM F w0 C w os cl) (hs : Subs cl cl') : e = e ∧ Ext w0 w ∧ AllCl cl' F w := ⟨rfl, h.ext0, h.fin hs⟩
abbrev lType (x : GType) : List Value := [vi x.Kind, vi x.Bits, vi x.Frac, vi x.Round, vi x.Over]
abbrev AType (x : GType) : Array Value := #[vi x.Kind, vi x.Bits, vi x.Frac, vi x.Round, vi x.Over]
abbrev ZType : Array Value := #[vi 0, vi 0, vi 0, vi 0, vi 0]
abbrev lVal (x : GVal) : List Value := [vi x.N, vi x.D]
abbrev AVal (x : GVal) : Array Value := #[vi x.N, vi x.D]
abbrev lLin (x : GLin) (A1 : Option Addr) (C1 : Nat) : List Value := [vi x.K, vs A1 x.L.length C1]
abbrev ALin (x : GLin) (A1 : Option Addr) (C1 : Nat) : Array Value := #[vi x.K, vs A1 x.L.length C1]
abbrev u2 := @Tryz.underlying2
abbrev u3 := @Tryz.underlying3
abbrev u4 := @Tryz.underlying4
abbrev u5 := @Tryz.underlying5
abbrev u9 := @Tryz.underlying9
abbrev u21 := @Tryz.underlying21
abbrev u23 := @Tryz.underlying23
abbrev u27 := @Tryz.underlying27
abbrev u29 := @Tryz.underlying29
abbrev u30 := @Tryz.underlying30
abbrev u32 := @Tryz.underlying32
abbrev u34 := @Tryz.underlying34
abbrev u36 := @Tryz.underlying36
abbrev u37 := @Tryz.underlying37
abbrev u39 := @Tryz.underlying39
abbrev u44 := @Tryz.underlying44
abbrev u55 := @Tryz.underlying55
abbrev u68 := @Tryz.underlying68
abbrev u82 := @Tryz.underlying82
abbrev u109 := @Tryz.underlying109
abbrev u112 := @Tryz.underlying112
abbrev u126 := @Tryz.underlying126
abbrev u166 := @Tryz.underlying166
abbrev u181 := @Tryz.underlying181
theorem bldT_80 : BldT Tryz.prog 80 := bldT_mk (by kernel_rfl) (by decide)
theorem bldT_82 : BldT Tryz.prog 82 := bldT_mk (by kernel_rfl) (by decide)
theorem stood_112 : Tryz.prog.stoodInHeld 112 = false := by kernel_rfl
theorem eqstruct_112n (a0 b0 : List UInt8) (a1 b1 : Int) (w : World) : (binOp .neq 112 (.agg #[(str a0), (Value.int .i64 a1)]) (.agg #[(str b0), (Value.int .i64 b1)])).run Tryz.prog w = .ok (.bool (!((decide (a0 = b0)) && (decide (a1 = b1))))) w := by
  simp [go_sem, stood_112, Tryz.underlying112, eq_dec_int, eq_dec_str]
  all_goals (by_cases h0 : a0 = b0 <;> by_cases h1 : a1 = b1 <;> simp [h0, h1])
theorem eqguard_112 (op : BinOp) (x y : Operand) (xs ys : Array Value) (w : World) : (eqGuard op 112 x y (.agg xs) (.agg ys)).run Tryz.prog w = .ok () w := run_eqGuard_agg w op 112 x y xs ys (by kernel_rfl)
theorem stood_23 : Tryz.prog.stoodInHeld 23 = false := by kernel_rfl
theorem eqstruct_23 (a0 b0 : Int) (a1 b1 : Int) (a2 b2 : Int) (a3 b3 : Int) (a4 b4 : Int) (w : World) : (binOp .eql 23 (.agg #[(Value.int .i64 a0), (Value.int .i64 a1), (Value.int .i64 a2), (Value.int .i64 a3), (Value.int .i64 a4)]) (.agg #[(Value.int .i64 b0), (Value.int .i64 b1), (Value.int .i64 b2), (Value.int .i64 b3), (Value.int .i64 b4)])).run Tryz.prog w = .ok (.bool ((decide (a0 = b0)) && (decide (a1 = b1)) && (decide (a2 = b2)) && (decide (a3 = b3)) && (decide (a4 = b4)))) w := by
  simp [go_sem, stood_23, Tryz.underlying23, eq_dec_int, eq_dec_str]
  all_goals (by_cases h0 : a0 = b0 <;> by_cases h1 : a1 = b1 <;> by_cases h2 : a2 = b2 <;> by_cases h3 : a3 = b3 <;> by_cases h4 : a4 = b4 <;> simp [h0, h1, h2, h3, h4])
theorem eqstruct_23n (a0 b0 : Int) (a1 b1 : Int) (a2 b2 : Int) (a3 b3 : Int) (a4 b4 : Int) (w : World) : (binOp .neq 23 (.agg #[(Value.int .i64 a0), (Value.int .i64 a1), (Value.int .i64 a2), (Value.int .i64 a3), (Value.int .i64 a4)]) (.agg #[(Value.int .i64 b0), (Value.int .i64 b1), (Value.int .i64 b2), (Value.int .i64 b3), (Value.int .i64 b4)])).run Tryz.prog w = .ok (.bool (!((decide (a0 = b0)) && (decide (a1 = b1)) && (decide (a2 = b2)) && (decide (a3 = b3)) && (decide (a4 = b4))))) w := by
  simp [go_sem, stood_23, Tryz.underlying23, eq_dec_int, eq_dec_str]
  all_goals (by_cases h0 : a0 = b0 <;> by_cases h1 : a1 = b1 <;> by_cases h2 : a2 = b2 <;> by_cases h3 : a3 = b3 <;> by_cases h4 : a4 = b4 <;> simp [h0, h1, h2, h3, h4])
theorem eqguard_23 (op : BinOp) (x y : Operand) (xs ys : Array Value) (w : World) : (eqGuard op 23 x y (.agg xs) (.agg ys)).run Tryz.prog w = .ok () w := run_eqGuard_agg w op 23 x y xs ys (by kernel_rfl)
theorem stood_36 : Tryz.prog.stoodInHeld 36 = false := by kernel_rfl
theorem eqstruct_36 (a0 b0 : Int) (a1 b1 : Int) (w : World) : (binOp .eql 36 (.agg #[(Value.int .i64 a0), (Value.int .i64 a1)]) (.agg #[(Value.int .i64 b0), (Value.int .i64 b1)])).run Tryz.prog w = .ok (.bool ((decide (a0 = b0)) && (decide (a1 = b1)))) w := by
  simp [go_sem, stood_36, Tryz.underlying36, eq_dec_int, eq_dec_str]
  all_goals (by_cases h0 : a0 = b0 <;> by_cases h1 : a1 = b1 <;> simp [h0, h1])
theorem eqstruct_36n (a0 b0 : Int) (a1 b1 : Int) (w : World) : (binOp .neq 36 (.agg #[(Value.int .i64 a0), (Value.int .i64 a1)]) (.agg #[(Value.int .i64 b0), (Value.int .i64 b1)])).run Tryz.prog w = .ok (.bool (!((decide (a0 = b0)) && (decide (a1 = b1))))) w := by
  simp [go_sem, stood_36, Tryz.underlying36, eq_dec_int, eq_dec_str]
  all_goals (by_cases h0 : a0 = b0 <;> by_cases h1 : a1 = b1 <;> simp [h0, h1])
theorem eqguard_36 (op : BinOp) (x y : Operand) (xs ys : Array Value) (w : World) : (eqGuard op 36 x y (.agg xs) (.agg ys)).run Tryz.prog w = .ok () w := run_eqGuard_agg w op 36 x y xs ys (by kernel_rfl)
theorem info_36 : Info Tryz.prog 36 2 16 (Value.agg #[(Value.int .i64 0), (Value.int .i64 0)]) := info_mk (by kernel_rfl) rfl
theorem info_9 : Info Tryz.prog 9 1 16 (str ([] : List UInt8)) := info_mk (by kernel_rfl) rfl
theorem ok_10 : FnOK Tryz.prog 10 := ⟨_, Tryz.func10, by kernel_rfl, by kernel_rfl⟩
theorem ok_100 : FnOK Tryz.prog 100 := ⟨_, Tryz.func100, by kernel_rfl, by kernel_rfl⟩
theorem ok_105 : FnOK Tryz.prog 105 := ⟨_, Tryz.func105, by kernel_rfl, by kernel_rfl⟩
theorem ok_106 : FnOK Tryz.prog 106 := ⟨_, Tryz.func106, by kernel_rfl, by kernel_rfl⟩
theorem ok_107 : FnOK Tryz.prog 107 := ⟨_, Tryz.func107, by kernel_rfl, by kernel_rfl⟩
theorem ok_108 : FnOK Tryz.prog 108 := ⟨_, Tryz.func108, by kernel_rfl, by kernel_rfl⟩
theorem ok_109 : FnOK Tryz.prog 109 := ⟨_, Tryz.func109, by kernel_rfl, by kernel_rfl⟩
theorem ok_110 : FnOK Tryz.prog 110 := ⟨_, Tryz.func110, by kernel_rfl, by kernel_rfl⟩
theorem ok_111 : FnOK Tryz.prog 111 := ⟨_, Tryz.func111, by kernel_rfl, by kernel_rfl⟩
theorem ok_112 : FnOK Tryz.prog 112 := ⟨_, Tryz.func112, by kernel_rfl, by kernel_rfl⟩
theorem ok_115 : FnOK Tryz.prog 115 := ⟨_, Tryz.func115, by kernel_rfl, by kernel_rfl⟩
theorem ok_12 : FnOK Tryz.prog 12 := ⟨_, Tryz.func12, by kernel_rfl, by kernel_rfl⟩
theorem ok_120 : FnOK Tryz.prog 120 := ⟨_, Tryz.func120, by kernel_rfl, by kernel_rfl⟩
theorem ok_121 : FnOK Tryz.prog 121 := ⟨_, Tryz.func121, by kernel_rfl, by kernel_rfl⟩
theorem ok_122 : FnOK Tryz.prog 122 := ⟨_, Tryz.func122, by kernel_rfl, by kernel_rfl⟩
theorem ok_123 : FnOK Tryz.prog 123 := ⟨_, Tryz.func123, by kernel_rfl, by kernel_rfl⟩
theorem ok_124 : FnOK Tryz.prog 124 := ⟨_, Tryz.func124, by kernel_rfl, by kernel_rfl⟩
theorem ok_125 : FnOK Tryz.prog 125 := ⟨_, Tryz.func125, by kernel_rfl, by kernel_rfl⟩
theorem ok_126 : FnOK Tryz.prog 126 := ⟨_, Tryz.func126, by kernel_rfl, by kernel_rfl⟩
theorem ok_127 : FnOK Tryz.prog 127 := ⟨_, Tryz.func127, by kernel_rfl, by kernel_rfl⟩
theorem ok_128 : FnOK Tryz.prog 128 := ⟨_, Tryz.func128, by kernel_rfl, by kernel_rfl⟩
theorem ok_129 : FnOK Tryz.prog 129 := ⟨_, Tryz.func129, by kernel_rfl, by kernel_rfl⟩
theorem ok_13 : FnOK Tryz.prog 13 := ⟨_, Tryz.func13, by kernel_rfl, by kernel_rfl⟩
theorem ok_130 : FnOK Tryz.prog 130 := ⟨_, Tryz.func130, by kernel_rfl, by kernel_rfl⟩
theorem ok_131 : FnOK Tryz.prog 131 := ⟨_, Tryz.func131, by kernel_rfl, by kernel_rfl⟩
theorem ok_132 : FnOK Tryz.prog 132 := ⟨_, Tryz.func132, by kernel_rfl, by kernel_rfl⟩
theorem ok_133 : FnOK Tryz.prog 133 := ⟨_, Tryz.func133, by kernel_rfl, by kernel_rfl⟩
theorem ok_134 : FnOK Tryz.prog 134 := ⟨_, Tryz.func134, by kernel_rfl, by kernel_rfl⟩
theorem ok_135 : FnOK Tryz.prog 135 := ⟨_, Tryz.func135, by kernel_rfl, by kernel_rfl⟩
theorem ok_139 : FnOK Tryz.prog 139 := ⟨_, Tryz.func139, by kernel_rfl, by kernel_rfl⟩
theorem ok_14 : FnOK Tryz.prog 14 := ⟨_, Tryz.func14, by kernel_rfl, by kernel_rfl⟩
theorem ok_140 : FnOK Tryz.prog 140 := ⟨_, Tryz.func140, by kernel_rfl, by kernel_rfl⟩
theorem ok_141 : FnOK Tryz.prog 141 := ⟨_, Tryz.func141, by kernel_rfl, by kernel_rfl⟩
theorem ok_142 : FnOK Tryz.prog 142 := ⟨_, Tryz.func142, by kernel_rfl, by kernel_rfl⟩
theorem ok_143 : FnOK Tryz.prog 143 := ⟨_, Tryz.func143, by kernel_rfl, by kernel_rfl⟩
theorem ok_149 : FnOK Tryz.prog 149 := ⟨_, Tryz.func149, by kernel_rfl, by kernel_rfl⟩
theorem ok_150 : FnOK Tryz.prog 150 := ⟨_, Tryz.func150, by kernel_rfl, by kernel_rfl⟩
theorem ok_151 : FnOK Tryz.prog 151 := ⟨_, Tryz.func151, by kernel_rfl, by kernel_rfl⟩
theorem ok_152 : FnOK Tryz.prog 152 := ⟨_, Tryz.func152, by kernel_rfl, by kernel_rfl⟩
theorem ok_153 : FnOK Tryz.prog 153 := ⟨_, Tryz.func153, by kernel_rfl, by kernel_rfl⟩
theorem ok_154 : FnOK Tryz.prog 154 := ⟨_, Tryz.func154, by kernel_rfl, by kernel_rfl⟩
theorem ok_155 : FnOK Tryz.prog 155 := ⟨_, Tryz.func155, by kernel_rfl, by kernel_rfl⟩
theorem ok_156 : FnOK Tryz.prog 156 := ⟨_, Tryz.func156, by kernel_rfl, by kernel_rfl⟩
theorem ok_157 : FnOK Tryz.prog 157 := ⟨_, Tryz.func157, by kernel_rfl, by kernel_rfl⟩
theorem ok_158 : FnOK Tryz.prog 158 := ⟨_, Tryz.func158, by kernel_rfl, by kernel_rfl⟩
theorem ok_159 : FnOK Tryz.prog 159 := ⟨_, Tryz.func159, by kernel_rfl, by kernel_rfl⟩
theorem ok_16 : FnOK Tryz.prog 16 := ⟨_, Tryz.func16, by kernel_rfl, by kernel_rfl⟩
theorem ok_160 : FnOK Tryz.prog 160 := ⟨_, Tryz.func160, by kernel_rfl, by kernel_rfl⟩
theorem ok_161 : FnOK Tryz.prog 161 := ⟨_, Tryz.func161, by kernel_rfl, by kernel_rfl⟩
theorem ok_162 : FnOK Tryz.prog 162 := ⟨_, Tryz.func162, by kernel_rfl, by kernel_rfl⟩
theorem ok_163 : FnOK Tryz.prog 163 := ⟨_, Tryz.func163, by kernel_rfl, by kernel_rfl⟩
theorem ok_164 : FnOK Tryz.prog 164 := ⟨_, Tryz.func164, by kernel_rfl, by kernel_rfl⟩
theorem ok_165 : FnOK Tryz.prog 165 := ⟨_, Tryz.func165, by kernel_rfl, by kernel_rfl⟩
theorem ok_169 : FnOK Tryz.prog 169 := ⟨_, Tryz.func169, by kernel_rfl, by kernel_rfl⟩
theorem ok_17 : FnOK Tryz.prog 17 := ⟨_, Tryz.func17, by kernel_rfl, by kernel_rfl⟩
theorem ok_177 : FnOK Tryz.prog 177 := ⟨_, Tryz.func177, by kernel_rfl, by kernel_rfl⟩
theorem ok_178 : FnOK Tryz.prog 178 := ⟨_, Tryz.func178, by kernel_rfl, by kernel_rfl⟩
theorem ok_179 : FnOK Tryz.prog 179 := ⟨_, Tryz.func179, by kernel_rfl, by kernel_rfl⟩
theorem ok_180 : FnOK Tryz.prog 180 := ⟨_, Tryz.func180, by kernel_rfl, by kernel_rfl⟩
theorem ok_181 : FnOK Tryz.prog 181 := ⟨_, Tryz.func181, by kernel_rfl, by kernel_rfl⟩
theorem ok_182 : FnOK Tryz.prog 182 := ⟨_, Tryz.func182, by kernel_rfl, by kernel_rfl⟩
theorem ok_183 : FnOK Tryz.prog 183 := ⟨_, Tryz.func183, by kernel_rfl, by kernel_rfl⟩
theorem ok_184 : FnOK Tryz.prog 184 := ⟨_, Tryz.func184, by kernel_rfl, by kernel_rfl⟩
theorem ok_189 : FnOK Tryz.prog 189 := ⟨_, Tryz.func189, by kernel_rfl, by kernel_rfl⟩
theorem ok_19 : FnOK Tryz.prog 19 := ⟨_, Tryz.func19, by kernel_rfl, by kernel_rfl⟩
theorem ok_20 : FnOK Tryz.prog 20 := ⟨_, Tryz.func20, by kernel_rfl, by kernel_rfl⟩
theorem ok_28 : FnOK Tryz.prog 28 := ⟨_, Tryz.func28, by kernel_rfl, by kernel_rfl⟩
theorem ok_29 : FnOK Tryz.prog 29 := ⟨_, Tryz.func29, by kernel_rfl, by kernel_rfl⟩
theorem ok_30 : FnOK Tryz.prog 30 := ⟨_, Tryz.func30, by kernel_rfl, by kernel_rfl⟩
theorem ok_31 : FnOK Tryz.prog 31 := ⟨_, Tryz.func31, by kernel_rfl, by kernel_rfl⟩
theorem ok_34 : FnOK Tryz.prog 34 := ⟨_, Tryz.func34, by kernel_rfl, by kernel_rfl⟩
theorem ok_35 : FnOK Tryz.prog 35 := ⟨_, Tryz.func35, by kernel_rfl, by kernel_rfl⟩
theorem ok_36 : FnOK Tryz.prog 36 := ⟨_, Tryz.func36, by kernel_rfl, by kernel_rfl⟩
theorem ok_37 : FnOK Tryz.prog 37 := ⟨_, Tryz.func37, by kernel_rfl, by kernel_rfl⟩
theorem ok_38 : FnOK Tryz.prog 38 := ⟨_, Tryz.func38, by kernel_rfl, by kernel_rfl⟩
theorem ok_39 : FnOK Tryz.prog 39 := ⟨_, Tryz.func39, by kernel_rfl, by kernel_rfl⟩
theorem ok_40 : FnOK Tryz.prog 40 := ⟨_, Tryz.func40, by kernel_rfl, by kernel_rfl⟩
theorem ok_43 : FnOK Tryz.prog 43 := ⟨_, Tryz.func43, by kernel_rfl, by kernel_rfl⟩
theorem ok_45 : FnOK Tryz.prog 45 := ⟨_, Tryz.func45, by kernel_rfl, by kernel_rfl⟩
theorem ok_46 : FnOK Tryz.prog 46 := ⟨_, Tryz.func46, by kernel_rfl, by kernel_rfl⟩
theorem ok_47 : FnOK Tryz.prog 47 := ⟨_, Tryz.func47, by kernel_rfl, by kernel_rfl⟩
theorem ok_49 : FnOK Tryz.prog 49 := ⟨_, Tryz.func49, by kernel_rfl, by kernel_rfl⟩
theorem ok_50 : FnOK Tryz.prog 50 := ⟨_, Tryz.func50, by kernel_rfl, by kernel_rfl⟩
theorem ok_51 : FnOK Tryz.prog 51 := ⟨_, Tryz.func51, by kernel_rfl, by kernel_rfl⟩
theorem ok_52 : FnOK Tryz.prog 52 := ⟨_, Tryz.func52, by kernel_rfl, by kernel_rfl⟩
theorem ok_53 : FnOK Tryz.prog 53 := ⟨_, Tryz.func53, by kernel_rfl, by kernel_rfl⟩
theorem ok_54 : FnOK Tryz.prog 54 := ⟨_, Tryz.func54, by kernel_rfl, by kernel_rfl⟩
theorem ok_66 : FnOK Tryz.prog 66 := ⟨_, Tryz.func66, by kernel_rfl, by kernel_rfl⟩
theorem ok_71 : FnOK Tryz.prog 71 := ⟨_, Tryz.func71, by kernel_rfl, by kernel_rfl⟩
theorem ok_72 : FnOK Tryz.prog 72 := ⟨_, Tryz.func72, by kernel_rfl, by kernel_rfl⟩
theorem ok_73 : FnOK Tryz.prog 73 := ⟨_, Tryz.func73, by kernel_rfl, by kernel_rfl⟩
theorem ok_76 : FnOK Tryz.prog 76 := ⟨_, Tryz.func76, by kernel_rfl, by kernel_rfl⟩
theorem ok_77 : FnOK Tryz.prog 77 := ⟨_, Tryz.func77, by kernel_rfl, by kernel_rfl⟩
theorem ok_78 : FnOK Tryz.prog 78 := ⟨_, Tryz.func78, by kernel_rfl, by kernel_rfl⟩
theorem ok_79 : FnOK Tryz.prog 79 := ⟨_, Tryz.func79, by kernel_rfl, by kernel_rfl⟩
theorem ok_80 : FnOK Tryz.prog 80 := ⟨_, Tryz.func80, by kernel_rfl, by kernel_rfl⟩
theorem ok_81 : FnOK Tryz.prog 81 := ⟨_, Tryz.func81, by kernel_rfl, by kernel_rfl⟩
theorem ok_82 : FnOK Tryz.prog 82 := ⟨_, Tryz.func82, by kernel_rfl, by kernel_rfl⟩
theorem ok_83 : FnOK Tryz.prog 83 := ⟨_, Tryz.func83, by kernel_rfl, by kernel_rfl⟩
theorem ok_84 : FnOK Tryz.prog 84 := ⟨_, Tryz.func84, by kernel_rfl, by kernel_rfl⟩
theorem ok_89 : FnOK Tryz.prog 89 := ⟨_, Tryz.func89, by kernel_rfl, by kernel_rfl⟩
theorem ok_90 : FnOK Tryz.prog 90 := ⟨_, Tryz.func90, by kernel_rfl, by kernel_rfl⟩
theorem ok_91 : FnOK Tryz.prog 91 := ⟨_, Tryz.func91, by kernel_rfl, by kernel_rfl⟩
theorem ok_92 : FnOK Tryz.prog 92 := ⟨_, Tryz.func92, by kernel_rfl, by kernel_rfl⟩
theorem ok_93 : FnOK Tryz.prog 93 := ⟨_, Tryz.func93, by kernel_rfl, by kernel_rfl⟩
theorem ok_94 : FnOK Tryz.prog 94 := ⟨_, Tryz.func94, by kernel_rfl, by kernel_rfl⟩
theorem ok_95 : FnOK Tryz.prog 95 := ⟨_, Tryz.func95, by kernel_rfl, by kernel_rfl⟩
theorem ok_96 : FnOK Tryz.prog 96 := ⟨_, Tryz.func96, by kernel_rfl, by kernel_rfl⟩
theorem ok_97 : FnOK Tryz.prog 97 := ⟨_, Tryz.func97, by kernel_rfl, by kernel_rfl⟩
theorem ok_98 : FnOK Tryz.prog 98 := ⟨_, Tryz.func98, by kernel_rfl, by kernel_rfl⟩
theorem ok_99 : FnOK Tryz.prog 99 := ⟨_, Tryz.func99, by kernel_rfl, by kernel_rfl⟩
theorem size_112 : (Tryz.prog.info? 112).map (·.size) = some 2 := by kernel_rfl
theorem size_2 : (Tryz.prog.info? 2).map (·.size) = some 1 := by kernel_rfl
theorem size_23 : (Tryz.prog.info? 23).map (·.size) = some 5 := by kernel_rfl
theorem size_27 : (Tryz.prog.info? 27).map (·.size) = some 1 := by kernel_rfl
theorem size_29 : (Tryz.prog.info? 29).map (·.size) = some 2 := by kernel_rfl
theorem size_3 : (Tryz.prog.info? 3).map (·.size) = some 1 := by kernel_rfl
theorem size_30 : (Tryz.prog.info? 30).map (·.size) = some 1 := by kernel_rfl
theorem size_32 : (Tryz.prog.info? 32).map (·.size) = some 4 := by kernel_rfl
theorem size_34 : (Tryz.prog.info? 34).map (·.size) = some 1 := by kernel_rfl
theorem size_36 : (Tryz.prog.info? 36).map (·.size) = some 2 := by kernel_rfl
theorem size_37 : (Tryz.prog.info? 37).map (·.size) = some 1 := by kernel_rfl
theorem size_39 : (Tryz.prog.info? 39).map (·.size) = some 13 := by kernel_rfl
theorem size_44 : (Tryz.prog.info? 44).map (·.size) = some 1 := by kernel_rfl
theorem size_80 : (Tryz.prog.info? 80).map (·.size) = some 2 := by kernel_rfl
theorem size_9 : (Tryz.prog.info? 9).map (·.size) = some 1 := by kernel_rfl
theorem zero_112 : (Tryz.prog.info? 112).bind (·.zero) = some (Value.agg #[(str ([] : List UInt8)), (Value.int .i64 0)]) := by kernel_rfl
theorem zero_29 : (Tryz.prog.info? 29).bind (·.zero) = some (Value.agg #[(Value.int .i64 0), (Value.slice none 0 0)]) := by kernel_rfl
theorem zero_3 : (Tryz.prog.info? 3).bind (·.zero) = some (Value.int .i64 0) := by kernel_rfl
theorem zero_32 : (Tryz.prog.info? 32).bind (·.zero) = some (Value.agg #[(Value.int .i64 0), (Value.slice none 0 0), (str ([] : List UInt8)), (Value.slice none 0 0)]) := by kernel_rfl
theorem zero_36 : (Tryz.prog.info? 36).bind (·.zero) = some (Value.agg #[(Value.int .i64 0), (Value.int .i64 0)]) := by kernel_rfl
theorem zero_39 : (Tryz.prog.info? 39).bind (·.zero) = some (Value.agg #[(Value.int .i64 0), (str ([] : List UInt8)), (Value.int .i64 0), (Value.int .i64 0), (Value.int .i64 0), (Value.int .i64 0), (Value.int .i64 0), (Value.int .i64 0), (Value.int .i64 0), (Value.int .i64 0), (Value.slice none 0 0), (Value.slice none 0 0), (Value.slice none 0 0)]) := by kernel_rfl
theorem zero_44 : (Tryz.prog.info? 44).bind (·.zero) = some (Value.int .i64 0) := by kernel_rfl
theorem zero_80 : (Tryz.prog.info? 80).bind (·.zero) = some (Value.agg #[(Value.pointer none), (Value.slice none 0 0)]) := by kernel_rfl
theorem c_value_plain (F : NP) (w0 : World) (hF : ∀ k, F k → k < w0.heap.size) (t1 : GType) (hc : AllCl [] F w0) (r : Bool)
  (h : m_value_plain t1 = some r) :
  Calls Tryz.prog 71 #[(Value.agg (AType t1))] w0 fun e w => e = .returned (vb r) ∧ Ext w0 w ∧ AllCl [] F w := by
 refine enterK Tryz.func71 rfl Tryz.ntmps71 rfl ?_
 have hI := Bun.start hF hc
 clear hc
 rw [m_value_plain] at h
 refine sr (l_box (v := (Value.agg (AType t1))) (cs := (AType t1)) hI gn rfl rfl et rfl ?_)
 clear hI; intro b1 c1 w1 hI
 obtain ⟨c2, hI⟩ := hI.relBox .z
 refine sac ?_
 refine nk (sr (sq (y_loadN (l := (lType t1)) rfl et u23 rfl size_23 (hI.kblk (l := (lType t1)) .z rfl).1) ?_))
 refine sq (y_fieldAddr rfl et u23 rfl size_3 rfl) ?_
 refine sq (y_load1 (v := (vi t1.Kind)) rfl et u3 rfl (hI.kblk (l := [vi t1.Kind]) .z rfl).1) ?_
 refine sq (y_build (vs := [(0, vi t1.Kind)]) (cs := #[vi t1.Kind, vi 0, vi 0, vi 0, vi 0]) rfl ⟨rfl, et, trivial⟩ (by kernel_rfl)) ?_
 refine sq (y_bin rfl et et (eqstruct_23 ..) (eqguard_23 ..)) ?_
 refine sa ?_
 refine nk (c_ret ?_)
 obtain rfl := some_inj h
 exact q_ret (vs := [(vb ((decide (t1.Kind = t1.Kind)) && (decide (t1.Bits = 0)) && (decide (t1.Frac = 0)) && (decide (t1.Round = 0)) && (decide (t1.Over = 0))))]) Tryz.results71 ⟨ev_tmp rfl rfl, trivial⟩ (fq hI trivial)
theorem c_fixed_ValidateType (F : NP) (w0 : World) (hF : ∀ k, F k → k < w0.heap.size) (t1 : GType) (hc : AllCl [] F w0) (r : Int)
  (h : m_fixed_ValidateType t1 = some r) :
  Calls Tryz.prog 72 #[(Value.agg (AType t1))] w0 fun e w => e = .returned (vi r) ∧ Ext w0 w ∧ AllCl [] F w := by
 refine enterK Tryz.func72 rfl Tryz.ntmps72 rfl ?_
 have hI := Bun.start hF hc
 clear hc
 rw [m_fixed_ValidateType] at h
 refine sr (l_box (v := (Value.agg (AType t1))) (cs := (AType t1)) hI gn rfl rfl et rfl ?_)
 clear hI; intro b1 c1 w1 hI
 obtain ⟨c2, hI⟩ := hI.relBox .z
 refine sac ?_
 refine nk (sr (sq (y_fieldAddr rfl et u23 rfl size_3 rfl) ?_))
 refine sq (y_load1 (v := (vi t1.Round)) rfl et u3 rfl (hI.kblk (l := [vi t1.Round]) .z rfl).1) ?_
 refine sq (y_geq rfl et ev_const) ?_
 refine sm ?_
 refine s_gval (g_true rfl rfl rfl rfl) rfl (fun hc => y_fieldAddr rfl et u23 rfl size_3 rfl) ?_
 refine s_gval (g_true rfl rfl rfl rfl) rfl (fun hc => (y_load1 (v := (vi t1.Round)) rfl (ev_gv et hc) u3 rfl (hI.kblk (l := [vi t1.Round]) .z rfl).1)) ?_
 refine s_gval (g_true rfl rfl rfl rfl) rfl (fun hc => y_leq rfl (ev_gv et hc) ev_const) ?_
 refine sq (y_and rfl et et) ?_
 refine sm ?_
 refine s_gval (g_true rfl rfl rfl rfl) rfl (fun hc => y_fieldAddr rfl et u23 rfl size_3 rfl) ?_
 refine s_gval (g_true rfl rfl rfl rfl) rfl (fun hc => (y_load1 (v := (vi t1.Over)) rfl (ev_gv et hc) u3 rfl (hI.kblk (l := [vi t1.Over]) .z rfl).1)) ?_
 refine s_gval (g_true rfl rfl rfl rfl) rfl (fun hc => y_eql rfl (ev_gv et hc) ev_const) ?_
 refine s_gval (g_true rfl rfl rfl rfl) rfl (fun hc => y_move rfl (ev_gv et hc)) ?_
 refine s_gval (g_false2 rfl rfl rfl rfl) rfl (fun hc => y_fieldAddr rfl et u23 rfl size_3 rfl) ?_
 refine s_gval (g_false2 rfl rfl rfl rfl) rfl (fun hc => (y_load1 (v := (vi t1.Over)) rfl (ev_gv et hc) u3 rfl (hI.kblk (l := [vi t1.Over]) .z rfl).1)) ?_
 refine s_gval (g_false2 rfl rfl rfl rfl) rfl (fun hc => y_eql rfl (ev_gv et hc) ev_const) ?_
 refine s_gval (g_true rfl rfl rfl rfl) rfl (fun hc => y_or2 rfl hc et et) ?_
 refine sq (y_and rfl et et) ?_
 obtain ⟨modes1, hx1, h⟩ := bnd_some h
 refine sq (binU (y_assign rfl et) (congrArg Value.bool (some_inj hx1))) ?_
 refine nk (c_seq (sr (sq (y_fieldAddr rfl et u23 rfl size_3 rfl) ?_)))
 refine sq (y_load1 (v := (vi t1.Kind)) rfl et u3 rfl (hI.kblk (l := [vi t1.Kind]) .z rfl).1) ?_
 refine sq (y_neq rfl et ev_const) ?_
 refine sm ?_
 refine s_gval (g_false rfl rfl rfl rfl) rfl (fun hc => y_fieldAddr rfl et u23 rfl size_3 rfl) ?_
 refine s_gval (g_false rfl rfl rfl rfl) rfl (fun hc => (y_load1 (v := (vi t1.Bits)) rfl (ev_gv et hc) u3 rfl (hI.kblk (l := [vi t1.Bits]) .z rfl).1)) ?_
 refine s_gval (g_false rfl rfl rfl rfl) rfl (fun hc => y_lss rfl (ev_gv et hc) ev_const) ?_
 refine sq (y_or rfl et et) ?_
 refine sm ?_
 refine s_gval (g_false rfl rfl rfl rfl) rfl (fun hc => y_fieldAddr rfl et u23 rfl size_3 rfl) ?_
 refine s_gval (g_false rfl rfl rfl rfl) rfl (fun hc => (y_load1 (v := (vi t1.Bits)) rfl (ev_gv et hc) u3 rfl (hI.kblk (l := [vi t1.Bits]) .z rfl).1)) ?_
 refine s_gval (g_false rfl rfl rfl rfl) rfl (fun hc => y_gtr rfl (ev_gv et hc) ev_const) ?_
 refine sq (y_or rfl et et) ?_
 refine sm ?_
 refine s_gval (g_false rfl rfl rfl rfl) rfl (fun hc => y_fieldAddr rfl et u23 rfl size_3 rfl) ?_
 refine s_gval (g_false rfl rfl rfl rfl) rfl (fun hc => (y_load1 (v := (vi t1.Frac)) rfl (ev_gv et hc) u3 rfl (hI.kblk (l := [vi t1.Frac]) .z rfl).1)) ?_
 refine s_gval (g_false rfl rfl rfl rfl) rfl (fun hc => y_lss rfl (ev_gv et hc) ev_const) ?_
 refine sq (y_or rfl et et) ?_
 refine sm ?_
 refine s_gval (g_false rfl rfl rfl rfl) rfl (fun hc => y_fieldAddr rfl et u23 rfl size_3 rfl) ?_
 refine s_gval (g_false rfl rfl rfl rfl) rfl (fun hc => (y_load1 (v := (vi t1.Frac)) rfl (ev_gv et hc) u3 rfl (hI.kblk (l := [vi t1.Frac]) .z rfl).1)) ?_
 refine s_gval (g_false rfl rfl rfl rfl) rfl (fun hc => y_gtr rfl (ev_gv et hc) ev_const) ?_
 refine sq (y_or rfl et et) ?_
 refine sm ?_
 refine s_gval (g_false rfl rfl rfl rfl) rfl (fun hc => y_move rfl et) ?_
 refine s_gval (g_false rfl rfl rfl rfl) rfl (fun hc => y_not rfl (ev_gv et hc)) ?_
 refine sq (y_or rfl et et) ?_
 refine s_nil ?_
 refine k_next (e := [(48, (vb ((((((!decide (t1.Kind = 2)) || (decide (t1.Bits < 2))) || (decide (31 < t1.Bits))) || (decide (t1.Frac < 0))) || (decide (30 < t1.Frac))) || (!modes1))))]) ⟨rfl, trivial⟩ ?_
 refine cif h et (fun hb h => ?_) (fun hb h => ?_)
 ·refine sr (sac ?_)
  refine nk (c_ret ?_)
  obtain rfl := some_inj h
  exact q_ret (vs := [vi 10]) Tryz.results72 ⟨ev_tmp rfl rfl, trivial⟩ (fq hI trivial)
 refine c_skip (k_same (sr (sac ?_)))
 refine nk (c_ret ?_)
 obtain rfl := some_inj h
 exact q_ret (vs := [vi 0]) Tryz.results72 ⟨ev_tmp rfl rfl, trivial⟩ (fq hI trivial)
theorem c_value_ValidateType (F : NP) (w0 : World) (hF : ∀ k, F k → k < w0.heap.size) (t1 : GType) (hc : AllCl [] F w0) (r : Int)
  (h : m_value_ValidateType t1 = some r) :
  Calls Tryz.prog 28 #[(Value.agg (AType t1))] w0 fun e w => e = .returned (vi r) ∧ Ext w0 w ∧ AllCl [] F w := by
 refine enterK Tryz.func28 rfl Tryz.ntmps28 rfl ?_
 have hI := Bun.start hF hc
 clear hc
 rw [m_value_ValidateType] at h
 refine sr (l_box (v := (Value.agg (AType t1))) (cs := (AType t1)) hI gn rfl rfl et rfl ?_)
 clear hI; intro b1 c1 w1 hI
 obtain ⟨c2, hI⟩ := hI.relBox .z
 refine sac ?_
 refine nk (c_seq (sr (sq (y_fieldAddr rfl et u23 rfl size_3 rfl) ?_)))
 refine sq (y_load1 (v := (vi t1.Kind)) rfl et u3 rfl (hI.kblk (l := [vi t1.Kind]) .z rfl).1) ?_
 refine nk (c_block (c_join (α := Bool) (fun _ => ⟨15, []⟩) (fun x => [(1, vp b1 0), (4, vi t1.Kind), (5, vb x)]) (fun x => fun w => ∃ C, Bun noM F w0 C w [] [Cl.blk b1 23 (AType t1)] ∧ m_value_ValidateType_j1 t1 x = some r) ?_ ?_))
 ·clear h hI; rintro i1 w2 ⟨c3, hI, h⟩
  try dsimp only at hI h
  rw [m_value_ValidateType_j1] at h
  refine c_sub (e := [(1, vp b1 0), (4, vi t1.Kind), (5, vb i1)]) ⟨rfl, rfl, rfl, trivial⟩ ?_
  refine cif h et (fun hb h => ?_) (fun hb h => ?_)
  ·refine sr (sq (y_loadN (l := (lType t1)) rfl et u23 rfl size_23 (hI.kblk (l := (lType t1)) .z rfl).1) ?_)
   obtain ⟨r1, hx1, h⟩ := bnd_some h
   refine s_call gn rfl (r_callF (vs := [(Value.agg (AType t1))]) rfl ok_71 ⟨et, trivial⟩) (Calls.mono (c_value_plain (Dj F c3) w2 hI.lt t1 trivial r1 hx1) ?_)
   rintro _ w3 ⟨rfl, hx2, hl1⟩
   refine ⟨_, rfl, ?_⟩
   replace hI := (hI.ext hx2)
   refine nk (cif h et (fun hb h => ?_) (fun hb h => ?_))
   ·refine sr (sac ?_)
    refine nk (c_ret ?_)
    obtain rfl := some_inj h
    exact q_ret (vs := [vi 0]) Tryz.results28 ⟨ev_tmp rfl rfl, trivial⟩ (fq hI trivial)
   refine c_skip (k_same (sr (sac ?_)))
   refine nk (c_ret ?_)
   obtain rfl := some_inj h
   exact q_ret (vs := [vi 10]) Tryz.results28 ⟨ev_tmp rfl rfl, trivial⟩ (fq hI trivial)
  refine sr (sq (y_eql rfl et ev_const) ?_)
  refine sa ?_
  refine nk (cif h et (fun hb h => ?_) (fun hb h => ?_))
  ·refine sr (sq (y_loadN (l := (lType t1)) rfl et u23 rfl size_23 (hI.kblk (l := (lType t1)) .z rfl).1) ?_)
   obtain ⟨r2, hx3, h⟩ := bnd_some h
   refine s_call gn rfl (r_callF (vs := [(Value.agg (AType t1))]) rfl ok_72 ⟨et, trivial⟩) (Calls.mono (c_fixed_ValidateType (Dj F c3) w2 hI.lt t1 trivial r2 hx3) ?_)
   rintro _ w4 ⟨rfl, hx4, hl2⟩
   refine ⟨_, rfl, ?_⟩
   replace hI := (hI.ext hx4)
   refine sq (y_eql rfl et ev_const) ?_
   refine nk (cif h et (fun hb h => ?_) (fun hb h => ?_))
   ·refine sr (sac ?_)
    refine nk (c_ret ?_)
    obtain rfl := some_inj h
    exact q_ret (vs := [vi 0]) Tryz.results28 ⟨ev_tmp rfl rfl, trivial⟩ (fq hI trivial)
   refine c_skip (k_same (sr (sac ?_)))
   refine nk (c_ret ?_)
   obtain rfl := some_inj h
   exact q_ret (vs := [vi 10]) Tryz.results28 ⟨ev_tmp rfl rfl, trivial⟩ (fq hI trivial)
  refine c_skip (k_same (sr (sac ?_)))
  refine nk (c_ret ?_)
  obtain rfl := some_inj h
  exact q_ret (vs := [vi 10]) Tryz.results28 ⟨ev_tmp rfl rfl, trivial⟩ (fq hI trivial)
 refine sr (sq (y_eql rfl et ev_const) ?_)
 refine sa ?_
 refine nk (cif h et (fun hb h => ?_) (fun hb h => ?_))
 ·exact c_skip (k_join (decide (t1.Kind = 1)) ⟨rfl, rfl, rfl, trivial⟩ ⟨_, hI.arr .n ⟨.z, trivial⟩, h⟩ rfl)
 refine c_region rfl ?_
 refine sq (y_eql rfl et ev_const) ?_
 refine sa ?_
 refine s_nil ?_
 exact k_join (decide (t1.Kind = 3)) ⟨rfl, rfl, rfl, trivial⟩ ⟨_, hI.arr .n ⟨.z, trivial⟩, h⟩ rfl
theorem c_internal_strconv_Itoa (F : NP) (w0 : World) (hF : ∀ k, F k → k < w0.heap.size) (i1 : Int) (hc : AllCl [clPow10] F w0) (r : List UInt8)
  (h : m_internal_strconv_Itoa i1 = some r) :
  Calls Tryz.prog 73 #[vi i1] w0 fun e w => e = .returned (str r) ∧ Ext w0 w ∧ AllCl [] F w := by
 refine enterK Tryz.func73 rfl Tryz.ntmps73 rfl ?_
 have hI := Bun.start hF hc
 clear hc
 rw [m_internal_strconv_Itoa] at h
 refine sr (sac ?_)
 refine nk (sr (sm ?_))
 obtain ⟨r1, hx1, h⟩ := bnd_some h
 refine s_call gn rfl (r_callF (vs := [vi i1, vi 10]) rfl ok_120 ⟨et, ⟨ev_const, trivial⟩⟩) (Calls.mono (c_internal_strconv_FormatInt (Dj F noM) w0 hI.lt i1 10 ⟨(hI.get .z), trivial⟩ r1 hx1) ?_)
 rintro _ w1 ⟨rfl, hx2, hl1⟩
 refine ⟨_, rfl, ?_⟩
 replace hI := (hI.ext hx2)
 refine sa ?_
 refine nk (c_ret ?_)
 obtain rfl := some_inj h
 exact q_ret (vs := [(str r1)]) Tryz.results73 ⟨ev_tmp rfl rfl, trivial⟩ (fq hI trivial)
theorem c_strconv_Itoa (F : NP) (w0 : World) (hF : ∀ k, F k → k < w0.heap.size) (i1 : Int) (hc : AllCl [clPow10] F w0) (r : List UInt8)
  (h : m_strconv_Itoa i1 = some r) :
  Calls Tryz.prog 29 #[vi i1] w0 fun e w => e = .returned (str r) ∧ Ext w0 w ∧ AllCl [] F w := by
 refine enterK Tryz.func29 rfl Tryz.ntmps29 rfl ?_
 have hI := Bun.start hF hc
 clear hc
 rw [m_strconv_Itoa] at h
 refine sr (sac ?_)
 refine nk (sr (sm ?_))
 obtain ⟨r1, hx1, h⟩ := bnd_some h
 refine s_call gn rfl (r_callF (vs := [vi i1]) rfl ok_73 ⟨et, trivial⟩) (Calls.mono (c_internal_strconv_Itoa (Dj F noM) w0 hI.lt i1 ⟨(hI.get .z), trivial⟩ r1 hx1) ?_)
 rintro _ w1 ⟨rfl, hx2, hl1⟩
 refine ⟨_, rfl, ?_⟩
 replace hI := (hI.ext hx2)
 refine sa ?_
 refine nk (c_ret ?_)
 obtain rfl := some_inj h
 exact q_ret (vs := [(str r1)]) Tryz.results29 ⟨ev_tmp rfl rfl, trivial⟩ (fq hI trivial)
theorem c_printer_mode (F : NP) (w0 : World) (hF : ∀ k, F k → k < w0.heap.size) (round1 : Int) (hc : AllCl [] F w0) (r : List UInt8)
  (h : m_printer_mode round1 = some r) :
  Calls Tryz.prog 30 #[vi round1] w0 fun e w => e = .returned (str r) ∧ Ext w0 w ∧ AllCl [] F w := by
 refine enterK Tryz.func30 rfl Tryz.ntmps30 rfl ?_
 have hI := Bun.start hF hc
 clear hc
 rw [m_printer_mode] at h
 refine sr (sac ?_)
 refine nk (c_seq (sr (sm ?_)))
 refine nk (c_block (sr (sq (y_eql rfl et ev_const) ?_)))
 refine sa ?_
 refine nk (cif h et (fun hb h => ?_) (fun hb h => ?_))
 ·refine sr (sac ?_)
  refine nk (c_ret ?_)
  obtain rfl := some_inj h
  exact q_ret (vs := [(str ([102, 108, 111, 111, 114] : List UInt8))]) Tryz.results30 ⟨ev_tmp rfl rfl, trivial⟩ (fq hI trivial)
 refine sr (sq (y_eql rfl et ev_const) ?_)
 refine sa ?_
 refine nk (cif h et (fun hb h => ?_) (fun hb h => ?_))
 ·refine sr (sac ?_)
  refine nk (c_ret ?_)
  obtain rfl := some_inj h
  exact q_ret (vs := [(str ([99, 101, 105, 108] : List UInt8))]) Tryz.results30 ⟨ev_tmp rfl rfl, trivial⟩ (fq hI trivial)
 refine sr (sq (y_eql rfl et ev_const) ?_)
 refine sa ?_
 refine nk (cif h et (fun hb h => ?_) (fun hb h => ?_))
 ·refine sr (sac ?_)
  refine nk (c_ret ?_)
  obtain rfl := some_inj h
  exact q_ret (vs := [(str ([122, 101, 114, 111] : List UInt8))]) Tryz.results30 ⟨ev_tmp rfl rfl, trivial⟩ (fq hI trivial)
 refine c_skip (k_same (sr (sac ?_)))
 refine nk (c_ret ?_)
 obtain rfl := some_inj h
 exact q_ret (vs := [(str ([101, 118, 101, 110] : List UInt8))]) Tryz.results30 ⟨ev_tmp rfl rfl, trivial⟩ (fq hI trivial)
theorem c_printer_Type (F : NP) (w0 : World) (hF : ∀ k, F k → k < w0.heap.size) (t1 : GType) (hc : AllCl [clPow10] F w0) (r : List UInt8)
  (h : m_printer_Type t1 = some r) :
  Calls Tryz.prog 10 #[(Value.agg (AType t1))] w0 fun e w => e = .returned (str r) ∧ Ext w0 w ∧ AllCl [] F w := by
 refine enterK Tryz.func10 rfl Tryz.ntmps10 rfl ?_
 have hI := Bun.start hF hc
 clear hc
 rw [m_printer_Type] at h
 refine sr (l_box (v := (Value.agg (AType t1))) (cs := (AType t1)) hI gn rfl rfl et rfl ?_)
 clear hI; intro b1 c1 w1 hI
 obtain ⟨c2, hI⟩ := hI.relBox .z
 refine sac ?_
 refine nk (c_seq (sr (sq (y_loadN (l := (lType t1)) rfl et u23 rfl size_23 (hI.kblk (l := (lType t1)) .z rfl).1) ?_)))
 obtain ⟨r1, hx1, h⟩ := bnd_some h
 refine s_call gn rfl (r_callF (vs := [(Value.agg (AType t1))]) rfl ok_28 ⟨et, trivial⟩) (Calls.mono (c_value_ValidateType (Dj F c2) w1 hI.lt t1 trivial r1 hx1) ?_)
 rintro _ w2 ⟨rfl, hx2, hl1⟩
 refine ⟨_, rfl, ?_⟩
 replace hI := (hI.ext hx2)
 refine sq (y_neq rfl et ev_const) ?_
 refine nk (cif h et (fun hb h => ?_) (fun hb h => ?_))
 ·refine sr (sac ?_)
  refine nk (c_ret ?_)
  obtain rfl := some_inj h
  exact q_ret (vs := [(str ([] : List UInt8))]) Tryz.results10 ⟨ev_tmp rfl rfl, trivial⟩ (fq hI trivial)
 refine c_skip (k_same (c_seq (sr (sq (y_fieldAddr rfl et u23 rfl size_3 rfl) ?_))))
 refine sq (y_load1 (v := (vi t1.Kind)) rfl et u3 rfl (hI.kblk (l := [vi t1.Kind]) .z rfl).1) ?_
 refine nk (c_block (sr (sq (y_eql rfl et ev_const) ?_)))
 refine sa ?_
 refine nk (cif h et (fun hb h => ?_) (fun hb h => ?_))
 ·refine sr (sac ?_)
  refine nk (c_ret ?_)
  obtain rfl := some_inj h
  exact q_ret (vs := [(str ([102, 114, 97, 99] : List UInt8))]) Tryz.results10 ⟨ev_tmp rfl rfl, trivial⟩ (fq hI trivial)
 refine sr (sq (y_eql rfl et ev_const) ?_)
 refine sa ?_
 refine nk (cif h et (fun hb h => ?_) (fun hb h => ?_))
 ·refine sr (sac ?_)
  refine nk (c_ret ?_)
  obtain rfl := some_inj h
  exact q_ret (vs := [(str ([105, 110, 116] : List UInt8))]) Tryz.results10 ⟨ev_tmp rfl rfl, trivial⟩ (fq hI trivial)
 refine c_skip (k_same (sr ?_))
 obtain ⟨over1, hx3, h⟩ := bnd_some h
 refine sq (binU (y_assign rfl ev_const) (congrArg (fun l => str l) (some_inj hx3))) ?_
 refine nk (c_join (α := (List UInt8)) (fun _ => ⟨34, []⟩) (fun x => [(1, vp b1 0), (3, (str x))]) (fun x => fun w => ∃ C, Bun noM F w0 C w [] [Cl.blk b1 23 (AType t1), clPow10] ∧ m_printer_Type_j1 t1 x = some r) ?_ ?_)
 ·clear h hI; rintro over2 w3 ⟨c3, hI, h⟩
  try dsimp only at hI h
  rw [m_printer_Type_j1] at h
  refine c_sub (e := [(1, vp b1 0), (3, (str over2))]) ⟨rfl, rfl, trivial⟩ ?_
  refine c_seq (c_drawX [] false (.c (0, .q) (.c (1, .q) (.c (5, .q) (.c (6, .q) (.c (10, .q) (.c (11, .q) (.c (15, .q) (.c (2, .s) (.c (3, .q) (.c (4, .q) (.c (7, .s) (.c (8, .q) (.c (9, .q) (.c (12, .s) (.c (13, .q) (.c (14, .q) (.c (16, .q) (.c (17, .q) (.c (18, .q) .n))))))))))))))))))) hI (by kernel_rfl) (by kernel_rfl) ?_)
  clear hI; intro w4 hI
  refine a_q rfl gn rfl (fun w' => y_fieldAddr rfl et u23 rfl size_3 rfl) ?_
  refine a_read rfl gn rfl (fun w' hw' => (y_load1 (v := (vi t1.Bits)) rfl et u3 rfl ((hI.kblk (l := [vi t1.Bits]) .z rfl).at_ (SX.any rfl hw')))) (by kernel_rfl) ?_
  refine a_q rfl gn rfl (fun w' => y_fieldAddr rfl et u23 rfl size_3 rfl) ?_
  refine a_read rfl gn rfl (fun w' hw' => (y_load1 (v := (vi t1.Frac)) rfl et u3 rfl ((hI.kblk (l := [vi t1.Frac]) .z rfl).at_ (SX.any rfl hw')))) (by kernel_rfl) ?_
  refine a_q rfl gn rfl (fun w' => y_fieldAddr rfl et u23 rfl size_3 rfl) ?_
  refine a_read rfl gn rfl (fun w' hw' => (y_load1 (v := (vi t1.Round)) rfl et u3 rfl ((hI.kblk (l := [vi t1.Round]) .z rfl).at_ (SX.any rfl hw')))) (by kernel_rfl) ?_
  refine a_q rfl gn rfl (fun w' => y_move rfl et) ?_
  obtain ⟨r2, hx4, h⟩ := bnd_some h
  refine la_call rfl gn rfl (r_callF (vs := [vi t1.Bits]) rfl ok_29 ⟨et, trivial⟩) (Calls.mono (c_strconv_Itoa (Dj F c3) w4 hI.lt t1.Bits ⟨(hI.get (.s .z)), trivial⟩ r2 hx4) ?_)
  rintro _ w5 ⟨rfl, hx5, hl2⟩
  refine ⟨_, rfl, hx5, ?_⟩
  replace hI := (hI.ext hx5)
  obtain ⟨s1, hx6, h⟩ := bnd_some h
  refine a_q rfl gn rfl (fun w' => y_catl rfl ev_const et hx6) ?_
  obtain ⟨s2, hx7, h⟩ := bnd_some h
  refine a_q rfl gn rfl (fun w' => y_catl rfl et ev_const hx7) ?_
  obtain ⟨r3, hx8, h⟩ := bnd_some h
  refine la_call rfl gn rfl (r_callF (vs := [vi t1.Frac]) rfl ok_29 ⟨et, trivial⟩) (Calls.mono (c_strconv_Itoa (Dj F c3) w5 hI.lt t1.Frac ⟨(hI.get (.s .z)), trivial⟩ r3 hx8) ?_)
  rintro _ w6 ⟨rfl, hx9, hl3⟩
  refine ⟨_, rfl, hx9, ?_⟩
  replace hI := (hI.ext hx9)
  obtain ⟨s3, hx10, h⟩ := bnd_some h
  refine a_q rfl gn rfl (fun w' => y_catl rfl et et hx10) ?_
  obtain ⟨s4, hx11, h⟩ := bnd_some h
  refine a_q rfl gn rfl (fun w' => y_catl rfl et ev_const hx11) ?_
  obtain ⟨r4, hx12, h⟩ := bnd_some h
  refine la_call rfl gn rfl (r_callF (vs := [vi t1.Round]) rfl ok_30 ⟨et, trivial⟩) (Calls.mono (c_printer_mode (Dj F c3) w6 hI.lt t1.Round trivial r4 hx12) ?_)
  rintro _ w7 ⟨rfl, hx13, hl4⟩
  refine ⟨_, rfl, hx13, ?_⟩
  replace hI := (hI.ext hx13)
  obtain ⟨s5, hx14, h⟩ := bnd_some h
  refine a_q rfl gn rfl (fun w' => y_catl rfl et et hx14) ?_
  obtain ⟨s6, hx15, h⟩ := bnd_some h
  refine a_q rfl gn rfl (fun w' => y_catl rfl et ev_const hx15) ?_
  obtain ⟨s7, hx16, h⟩ := bnd_some h
  refine a_q rfl gn rfl (fun w' => y_catl rfl et et hx16) ?_
  obtain ⟨s8, hx17, h⟩ := bnd_some h
  refine a_q rfl gn rfl (fun w' => y_catl rfl et ev_const hx17) ?_
  refine a_q rfl gn rfl (fun w' => y_assign rfl et) ?_
  refine a_nil ?_
  refine k_same (c_ret ?_)
  obtain rfl := some_inj h
  exact q_ret (vs := [(str s8)]) Tryz.results10 ⟨ev_tmp rfl rfl, trivial⟩ (fq hI trivial)
 refine sr (sq (y_fieldAddr rfl et u23 rfl size_3 rfl) ?_)
 refine sq (y_load1 (v := (vi t1.Over)) rfl et u3 rfl (hI.kblk (l := [vi t1.Over]) .z rfl).1) ?_
 refine sq (y_eql rfl et ev_const) ?_
 refine nk (cif h et (fun hb h => ?_) (fun hb h => ?_))
 ·refine c_region rfl ?_
  obtain ⟨over3, hx18, h⟩ := bnd_some h
  refine sq (binU (y_assign rfl ev_const) (congrArg (fun l => str l) (some_inj hx18))) ?_
  refine s_nil ?_
  exact k_join over3 ⟨rfl, rfl, trivial⟩ ⟨_, hI.arr .n ⟨.z, (.s .z), trivial⟩, h⟩ rfl
 exact c_skip (k_join over1 ⟨rfl, rfl, trivial⟩ ⟨_, hI.arr .n ⟨.z, (.s .z), trivial⟩, h⟩ rfl)
theorem c_base_Type (F : NP) (w0 : World) (hF : ∀ k, F k → k < w0.heap.size) (t1 : GType) (hc : AllCl [] F w0) (r : Bool)
  (h : m_base_Type t1 = some r) :
  Calls Tryz.prog 31 #[(Value.agg (AType t1))] w0 fun e w => e = .returned (vb r) ∧ Ext w0 w ∧ AllCl [] F w := by
 refine enterK Tryz.func31 rfl Tryz.ntmps31 rfl ?_
 have hI := Bun.start hF hc
 clear hc
 rw [m_base_Type] at h
 refine sr (l_box (v := (Value.agg (AType t1))) (cs := (AType t1)) hI gn rfl rfl et rfl ?_)
 clear hI; intro b1 c1 w1 hI
 obtain ⟨c2, hI⟩ := hI.relBox .z
 refine sac ?_
 refine nk (c_seq (sr (sq (y_fieldAddr rfl et u23 rfl size_3 rfl) ?_)))
 refine sq (y_load1 (v := (vi t1.Kind)) rfl et u3 rfl (hI.kblk (l := [vi t1.Kind]) .z rfl).1) ?_
 refine sq (y_eql rfl et ev_const) ?_
 refine sm ?_
 refine s_gval (g_false rfl rfl rfl rfl) rfl (fun hc => y_fieldAddr rfl et u23 rfl size_3 rfl) ?_
 refine s_gval (g_false rfl rfl rfl rfl) rfl (fun hc => (y_load1 (v := (vi t1.Kind)) rfl (ev_gv et hc) u3 rfl (hI.kblk (l := [vi t1.Kind]) .z rfl).1)) ?_
 refine s_gval (g_false rfl rfl rfl rfl) rfl (fun hc => y_eql rfl (ev_gv et hc) ev_const) ?_
 refine sq (y_or rfl et et) ?_
 refine nk (cif h et (fun hb h => ?_) (fun hb h => ?_))
 ·refine sr (sq (y_fieldAddr rfl et u23 rfl size_3 rfl) ?_)
  refine sq (y_load1 (v := (vi t1.Bits)) rfl et u3 rfl (hI.kblk (l := [vi t1.Bits]) .z rfl).1) ?_
  refine sq (y_eql rfl et ev_const) ?_
  refine sm ?_
  refine s_gval (g_true rfl rfl rfl rfl) rfl (fun hc => y_fieldAddr rfl et u23 rfl size_3 rfl) ?_
  refine s_gval (g_true rfl rfl rfl rfl) rfl (fun hc => (y_load1 (v := (vi t1.Frac)) rfl (ev_gv et hc) u3 rfl (hI.kblk (l := [vi t1.Frac]) .z rfl).1)) ?_
  refine s_gval (g_true rfl rfl rfl rfl) rfl (fun hc => y_eql rfl (ev_gv et hc) ev_const) ?_
  refine sq (y_and rfl et et) ?_
  refine sm ?_
  refine s_gval (g_true rfl rfl rfl rfl) rfl (fun hc => y_fieldAddr rfl et u23 rfl size_3 rfl) ?_
  refine s_gval (g_true rfl rfl rfl rfl) rfl (fun hc => (y_load1 (v := (vi t1.Round)) rfl (ev_gv et hc) u3 rfl (hI.kblk (l := [vi t1.Round]) .z rfl).1)) ?_
  refine s_gval (g_true rfl rfl rfl rfl) rfl (fun hc => y_eql rfl (ev_gv et hc) ev_const) ?_
  refine sq (y_and rfl et et) ?_
  refine sm ?_
  refine s_gval (g_true rfl rfl rfl rfl) rfl (fun hc => y_fieldAddr rfl et u23 rfl size_3 rfl) ?_
  refine s_gval (g_true rfl rfl rfl rfl) rfl (fun hc => (y_load1 (v := (vi t1.Over)) rfl (ev_gv et hc) u3 rfl (hI.kblk (l := [vi t1.Over]) .z rfl).1)) ?_
  refine s_gval (g_true rfl rfl rfl rfl) rfl (fun hc => y_eql rfl (ev_gv et hc) ev_const) ?_
  refine sq (y_and rfl et et) ?_
  refine sa ?_
  refine s_nil ?_
  refine k_next (e := [(2, (vb ((((decide (t1.Bits = 0)) && (decide (t1.Frac = 0))) && (decide (t1.Round = 0))) && (decide (t1.Over = 0)))))]) ⟨rfl, trivial⟩ ?_
  refine c_ret ?_
  obtain rfl := some_inj h
  exact q_ret (vs := [(vb ((((decide (t1.Bits = 0)) && (decide (t1.Frac = 0))) && (decide (t1.Round = 0))) && (decide (t1.Over = 0))))]) Tryz.results31 ⟨ev_tmp rfl rfl, trivial⟩ (fq hI trivial)
 refine c_skip (k_same (sr (sq (y_fieldAddr rfl et u23 rfl size_3 rfl) ?_)))
 refine sq (y_load1 (v := (vi t1.Kind)) rfl et u3 rfl (hI.kblk (l := [vi t1.Kind]) .z rfl).1) ?_
 refine sq (y_eql rfl et ev_const) ?_
 refine sm ?_
 refine s_gval (g_true rfl rfl rfl rfl) rfl (fun hc => y_fieldAddr rfl et u23 rfl size_3 rfl) ?_
 refine s_gval (g_true rfl rfl rfl rfl) rfl (fun hc => (y_load1 (v := (vi t1.Bits)) rfl (ev_gv et hc) u3 rfl (hI.kblk (l := [vi t1.Bits]) .z rfl).1)) ?_
 refine s_gval (g_true rfl rfl rfl rfl) rfl (fun hc => y_geq rfl (ev_gv et hc) ev_const) ?_
 refine sq (y_and rfl et et) ?_
 refine sm ?_
 refine s_gval (g_true rfl rfl rfl rfl) rfl (fun hc => y_fieldAddr rfl et u23 rfl size_3 rfl) ?_
 refine s_gval (g_true rfl rfl rfl rfl) rfl (fun hc => (y_load1 (v := (vi t1.Bits)) rfl (ev_gv et hc) u3 rfl (hI.kblk (l := [vi t1.Bits]) .z rfl).1)) ?_
 refine s_gval (g_true rfl rfl rfl rfl) rfl (fun hc => y_leq rfl (ev_gv et hc) ev_const) ?_
 refine sq (y_and rfl et et) ?_
 refine sm ?_
 refine s_gval (g_true rfl rfl rfl rfl) rfl (fun hc => y_fieldAddr rfl et u23 rfl size_3 rfl) ?_
 refine s_gval (g_true rfl rfl rfl rfl) rfl (fun hc => (y_load1 (v := (vi t1.Frac)) rfl (ev_gv et hc) u3 rfl (hI.kblk (l := [vi t1.Frac]) .z rfl).1)) ?_
 refine s_gval (g_true rfl rfl rfl rfl) rfl (fun hc => y_geq rfl (ev_gv et hc) ev_const) ?_
 refine sq (y_and rfl et et) ?_
 refine sm ?_
 refine s_gval (g_true rfl rfl rfl rfl) rfl (fun hc => y_fieldAddr rfl et u23 rfl size_3 rfl) ?_
 refine s_gval (g_true rfl rfl rfl rfl) rfl (fun hc => (y_load1 (v := (vi t1.Frac)) rfl (ev_gv et hc) u3 rfl (hI.kblk (l := [vi t1.Frac]) .z rfl).1)) ?_
 refine s_gval (g_true rfl rfl rfl rfl) rfl (fun hc => y_leq rfl (ev_gv et hc) ev_const) ?_
 refine sq (y_and rfl et et) ?_
 refine sm ?_
 refine s_gval (g_true rfl rfl rfl rfl) rfl (fun hc => y_fieldAddr rfl et u23 rfl size_3 rfl) ?_
 refine s_gval (g_true rfl rfl rfl rfl) rfl (fun hc => (y_load1 (v := (vi t1.Round)) rfl (ev_gv et hc) u3 rfl (hI.kblk (l := [vi t1.Round]) .z rfl).1)) ?_
 refine s_gval (g_true rfl rfl rfl rfl) rfl (fun hc => y_geq rfl (ev_gv et hc) ev_const) ?_
 refine sq (y_and rfl et et) ?_
 refine sm ?_
 refine s_gval (g_true rfl rfl rfl rfl) rfl (fun hc => y_fieldAddr rfl et u23 rfl size_3 rfl) ?_
 refine s_gval (g_true rfl rfl rfl rfl) rfl (fun hc => (y_load1 (v := (vi t1.Round)) rfl (ev_gv et hc) u3 rfl (hI.kblk (l := [vi t1.Round]) .z rfl).1)) ?_
 refine s_gval (g_true rfl rfl rfl rfl) rfl (fun hc => y_leq rfl (ev_gv et hc) ev_const) ?_
 refine sq (y_and rfl et et) ?_
 refine sm ?_
 refine s_gval (g_true rfl rfl rfl rfl) rfl (fun hc => y_fieldAddr rfl et u23 rfl size_3 rfl) ?_
 refine s_gval (g_true rfl rfl rfl rfl) rfl (fun hc => (y_load1 (v := (vi t1.Over)) rfl (ev_gv et hc) u3 rfl (hI.kblk (l := [vi t1.Over]) .z rfl).1)) ?_
 refine s_gval (g_true rfl rfl rfl rfl) rfl (fun hc => y_eql rfl (ev_gv et hc) ev_const) ?_
 refine s_gval (g_true rfl rfl rfl rfl) rfl (fun hc => y_move rfl (ev_gv et hc)) ?_
 refine s_gval (g_false2 rfl rfl rfl rfl) rfl (fun hc => y_fieldAddr rfl et u23 rfl size_3 rfl) ?_
 refine s_gval (g_false2 rfl rfl rfl rfl) rfl (fun hc => (y_load1 (v := (vi t1.Over)) rfl (ev_gv et hc) u3 rfl (hI.kblk (l := [vi t1.Over]) .z rfl).1)) ?_
 refine s_gval (g_false2 rfl rfl rfl rfl) rfl (fun hc => y_eql rfl (ev_gv et hc) ev_const) ?_
 refine s_gval (g_true rfl rfl rfl rfl) rfl (fun hc => y_or2 rfl hc et et) ?_
 refine sq (y_and rfl et et) ?_
 refine sa ?_
 refine s_nil ?_
 refine k_next (e := [(2, (vb ((((((((decide (t1.Kind = 2)) && (decide (2 ≤ t1.Bits))) && (decide (t1.Bits ≤ 31))) && (decide (0 ≤ t1.Frac))) && (decide (t1.Frac ≤ 30))) && (decide (1 ≤ t1.Round))) && (decide (t1.Round ≤ 4))) && ((decide (t1.Over = 1)) || (decide (t1.Over = 2))))))]) ⟨rfl, trivial⟩ ?_
 refine c_ret ?_
 obtain rfl := some_inj h
 exact q_ret (vs := [(vb ((((((((decide (t1.Kind = 2)) && (decide (2 ≤ t1.Bits))) && (decide (t1.Bits ≤ 31))) && (decide (0 ≤ t1.Frac))) && (decide (t1.Frac ≤ 30))) && (decide (1 ≤ t1.Round))) && (decide (t1.Round ≤ 4))) && ((decide (t1.Over = 1)) || (decide (t1.Over = 2)))))]) Tryz.results31 ⟨ev_tmp rfl rfl, trivial⟩ (fq hI trivial)
theorem c_expr_depth_b (rec_ : (GExpr → Int → Option Int)) (hrec : ∀ (F : NP) (w0 : World) (hF : ∀ k, F k → k < w0.heap.size) (e1 : GExpr) (limit1 : Int) (a1 : Option Addr) (c1 : Nat) (a2 : Option Addr) (c2 : Nat) (a3 : Option Addr) (c3 : Nat) (hc : AllCl [Cl.sl cGMono a1 c1 e1.Lin.L, Cl.sl cGIndex a2 c2 e1.Idx, Cl.sl cGExpr a3 c3 e1.Args] F w0) (r : Int) (h : rec_ e1 limit1 = some r), Calls Tryz.prog 125 #[(Value.agg #[vi e1.Op, (str e1.Name), vi e1.Val.N, vi e1.Val.D, vi e1.Type_.Kind, vi e1.Type_.Bits, vi e1.Type_.Frac, vi e1.Type_.Round, vi e1.Type_.Over, vi e1.Lin.K, vs a1 e1.Lin.L.length c1, vs a2 e1.Idx.length c2, vs a3 e1.Args.length c3]), vi limit1] w0 fun e w => e = .returned (vi r) ∧ Ext w0 w ∧ AllCl [] F w)
  (F : NP) (w0 : World) (hF : ∀ k, F k → k < w0.heap.size) (e1 : GExpr) (limit1 : Int) (a1 : Option Addr) (c1 : Nat) (a2 : Option Addr) (c2 : Nat) (a3 : Option Addr) (c3 : Nat) (hc : AllCl [Cl.sl cGMono a1 c1 e1.Lin.L, Cl.sl cGIndex a2 c2 e1.Idx, Cl.sl cGExpr a3 c3 e1.Args] F w0) (r : Int) (h : m_expr_depth_b rec_ e1 limit1 = some r) : Calls Tryz.prog 125 #[(Value.agg #[vi e1.Op, (str e1.Name), vi e1.Val.N, vi e1.Val.D, vi e1.Type_.Kind, vi e1.Type_.Bits, vi e1.Type_.Frac, vi e1.Type_.Round, vi e1.Type_.Over, vi e1.Lin.K, vs a1 e1.Lin.L.length c1, vs a2 e1.Idx.length c2, vs a3 e1.Args.length c3]), vi limit1] w0 fun e w => e = .returned (vi r) ∧ Ext w0 w ∧ AllCl [] F w := by
 refine enterK Tryz.func125 rfl Tryz.ntmps125 rfl ?_
 have hI := Bun.start hF hc
 clear hc
 rw [m_expr_depth_b] at h
 refine sr (l_box (v := (Value.agg #[vi e1.Op, (str e1.Name), vi e1.Val.N, vi e1.Val.D, vi e1.Type_.Kind, vi e1.Type_.Bits, vi e1.Type_.Frac, vi e1.Type_.Round, vi e1.Type_.Over, vi e1.Lin.K, vs a1 e1.Lin.L.length c1, vs a2 e1.Idx.length c2, vs a3 e1.Args.length c3])) (cs := #[vi e1.Op, (str e1.Name), vi e1.Val.N, vi e1.Val.D, vi e1.Type_.Kind, vi e1.Type_.Bits, vi e1.Type_.Frac, vi e1.Type_.Round, vi e1.Type_.Over, vi e1.Lin.K, vs a1 e1.Lin.L.length c1, vs a2 e1.Idx.length c2, vs a3 e1.Args.length c3]) hI gn rfl rfl et rfl ?_)
 clear hI; intro b1 c4 w1 hI
 obtain ⟨c5, hI⟩ := hI.relBox .z
 refine sac ?_
 refine nk (c_seq (sr (sm ?_)))
 refine sq (y_leq rfl et ev_const) ?_
 refine nk (cif h et (fun hb h => ?_) (fun hb h => ?_))
 ·refine sr (sm ?_)
  refine sa ?_
  refine nk (c_ret ?_)
  obtain rfl := some_inj h
  exact q_ret (vs := [vi limit1]) Tryz.results125 ⟨ev_tmp rfl rfl, trivial⟩ (fq hI trivial)
 refine c_skip (k_same (sr (sac ?_)))
 refine nk (c_seq (sr (sq (y_fieldAddr rfl et u39 rfl size_37 rfl) ?_)))
 refine sq (y_load1 (v := (vs a3 e1.Args.length c3)) rfl et u37 rfl (hI.kblk (l := [vs a3 e1.Args.length c3]) .z rfl).1) ?_
 refine sq (y_lenl rfl u37 et) ?_
 refine sq (y_move rfl ev_const) ?_
 refine nk (c_block (c_loop (α := Nat × Int × Int) (fun x => fun w => ∃ C, Bun noM F w0 C w [] [Cl.sl cGExpr a3 c3 e1.Args] ∧ m_expr_depth_l1 e1 rec_ limit1 (x.1) (x.2.1) (x.2.2) = some r) (fun x _ => x.1) (fun x => [(1, vi limit1), (5, vi (x.2.1)), (12, vs a3 e1.Args.length c3), (13, vi (e1.Args.length : Int)), (14, vi (x.2.2))]) (fu, 1, 0) ⟨_, hI.arr .n ⟨(.s (.s (.s .z))), trivial⟩, h⟩ ⟨rfl, rfl, rfl, rfl, rfl, trivial⟩ ?_))
 clear h hI; rintro ⟨fuel1, d1, i1⟩ w2 ⟨c6, hI, h⟩
 dsimp only at hI h
 rcases fuel1 with _ | fuel1
 ·rw [m_expr_depth_l1] at h; cases h
 rw [m_expr_depth_l1] at h
 refine c_sub (e := [(1, vi limit1), (5, vi d1), (12, vs a3 e1.Args.length c3), (13, vi (e1.Args.length : Int)), (14, vi i1)]) ⟨rfl, rfl, rfl, rfl, rfl, trivial⟩ ?_
 refine sr (sq (y_lss rfl et et) ?_)
 refine nk (c_seq (cif h et (fun hb h => ?_) (fun hb h => ?_)))
 ·refine c_skip (k_same (c_seq (c_block (sr ?_))))
  obtain ⟨e2, hx1, h⟩ := bnd_some h
  obtain ⟨ad1, cs1, hA1, hr1, hq1⟩ := hI.clat .z hx1
  obtain ⟨a4, c7, a5, c8, a6, c9, rfl, hf1, hf2, hf3⟩ := cGExpr_out hr1
  have hI := hI.add (c := Cl.sl cGMono a4 c7 e2.Lin.L) hf1
  have hI := hI.add (c := Cl.sl cGIndex a5 c8 e2.Idx) hf2
  have hI := hI.add (c := Cl.sl cGExpr a6 c9 e2.Args) hf3
  refine sq (y_indexAddr rfl u37 size_39 et et (lat_bd hx1) hA1) ?_
  refine sq (y_loadN (l := [vi e2.Op, (str e2.Name), vi e2.Val.N, vi e2.Val.D, vi e2.Type_.Kind, vi e2.Type_.Bits, vi e2.Type_.Frac, vi e2.Type_.Round, vi e2.Type_.Over, vi e2.Lin.K, vs a4 e2.Lin.L.length c7, vs a5 e2.Idx.length c8, vs a6 e2.Args.length c9]) rfl et u39 rfl size_39 hq1.1) ?_
  refine l_alloc (cs := #[vi 0, (str ([] : List UInt8)), vi 0, vi 0, vi 0, vi 0, vi 0, vi 0, vi 0, vi 0, vs none 0 0, vs none 0 0, vs none 0 0]) hI gn rfl rfl zero_39 rfl ?_
  clear hI; intro b2 c10 w3 hI
  refine l_store (new := [vi e2.Op, (str e2.Name), vi e2.Val.N, vi e2.Val.D, vi e2.Type_.Kind, vi e2.Type_.Bits, vi e2.Type_.Frac, vi e2.Type_.Round, vi e2.Type_.Over, vi e2.Lin.K, vs a4 e2.Lin.L.length c7, vs a5 e2.Idx.length c8, vs a6 e2.Args.length c9]) (cs' := #[vi e2.Op, (str e2.Name), vi e2.Val.N, vi e2.Val.D, vi e2.Type_.Kind, vi e2.Type_.Bits, vi e2.Type_.Frac, vi e2.Type_.Round, vi e2.Type_.Over, vi e2.Lin.K, vs a4 e2.Lin.L.length c7, vs a5 e2.Idx.length c8, vs a6 e2.Args.length c9]) hI .z gn rfl rfl et et rfl size_39 rfl rfl rfl ?_
  clear hI; intro c11 w4 hI
  refine nk (c_region rfl ?_)
  refine sm ?_
  refine sq (y_loadN (l := [vi e2.Op, (str e2.Name), vi e2.Val.N, vi e2.Val.D, vi e2.Type_.Kind, vi e2.Type_.Bits, vi e2.Type_.Frac, vi e2.Type_.Round, vi e2.Type_.Over, vi e2.Lin.K, vs a4 e2.Lin.L.length c7, vs a5 e2.Idx.length c8, vs a6 e2.Args.length c9]) rfl et u39 rfl size_39 (CellsAt.of_blk (hI.blk .z) rfl)) ?_
  refine sm ?_
  refine sq (y_sub rfl et ev_const) ?_
  obtain ⟨r1, hx2, h⟩ := bnd_some h
  refine s_call gn rfl (r_callF (vs := [(Value.agg #[vi e2.Op, (str e2.Name), vi e2.Val.N, vi e2.Val.D, vi e2.Type_.Kind, vi e2.Type_.Bits, vi e2.Type_.Frac, vi e2.Type_.Round, vi e2.Type_.Over, vi e2.Lin.K, vs a4 e2.Lin.L.length c7, vs a5 e2.Idx.length c8, vs a6 e2.Args.length c9]), (vi (wi64 (limit1 - 1)))]) rfl ok_125 ⟨et, ⟨et, trivial⟩⟩) (Calls.mono (hrec (Dj F c11) w4 hI.lt e2 (wi64 (limit1 - 1)) a4 c7 a5 c8 a6 c9 ⟨(hI.get (.s (.s .z))), (hI.get (.s .z)), (hI.get .z), trivial⟩ r1 hx2) ?_)
  rintro _ w5 ⟨rfl, hx3, hl1⟩
  refine ⟨_, rfl, ?_⟩
  replace hI := (hI.ext hx3)
  refine sq (y_add rfl ev_const et) ?_
  refine sq (y_max rfl et et) ?_
  refine sa ?_
  refine nk (c_region rfl ?_)
  refine sq (y_add rfl et ev_const) ?_
  refine sm ?_
  refine s_nil ?_
  exact k_loop (fuel1, max d1 (wi64 (1 + r1)), wi64 (i1 + 1)) ⟨rfl, rfl, rfl, rfl, rfl, trivial⟩ ⟨_, hI.arr .n ⟨(.s (.s (.s .z))), trivial⟩, h⟩ (Nat.lt_succ_self _)
 refine c_exit ?_
 refine k_in ?_
 refine k_same (sr (sm ?_))
 refine sa ?_
 refine nk (c_ret ?_)
 obtain rfl := some_inj h
 exact q_ret (vs := [vi d1]) Tryz.results125 ⟨ev_tmp rfl rfl, trivial⟩ (fq hI trivial)
theorem c_expr_depth_r (n : Nat) : ∀ (F : NP) (w0 : World) (hF : ∀ k, F k → k < w0.heap.size) (e1 : GExpr) (limit1 : Int) (a1 : Option Addr) (c1 : Nat) (a2 : Option Addr) (c2 : Nat) (a3 : Option Addr) (c3 : Nat) (hc : AllCl [Cl.sl cGMono a1 c1 e1.Lin.L, Cl.sl cGIndex a2 c2 e1.Idx, Cl.sl cGExpr a3 c3 e1.Args] F w0) (r : Int) (h : m_expr_depth_r n e1 limit1 = some r), Calls Tryz.prog 125 #[(Value.agg #[vi e1.Op, (str e1.Name), vi e1.Val.N, vi e1.Val.D, vi e1.Type_.Kind, vi e1.Type_.Bits, vi e1.Type_.Frac, vi e1.Type_.Round, vi e1.Type_.Over, vi e1.Lin.K, vs a1 e1.Lin.L.length c1, vs a2 e1.Idx.length c2, vs a3 e1.Args.length c3]), vi limit1] w0 fun e w => e = .returned (vi r) ∧ Ext w0 w ∧ AllCl [] F w := by
 induction n with
 | zero => intro F w0 hF e1 limit1 a1 c1 a2 c2 a3 c3 hc r h; cases h
 | succ n ih => intro F w0 hF e1 limit1 a1 c1 a2 c2 a3 c3 hc r h; exact c_expr_depth_b (m_expr_depth_r n) ih F w0 hF e1 limit1 a1 c1 a2 c2 a3 c3 hc r h
theorem c_expr_depth (F : NP) (w0 : World) (hF : ∀ k, F k → k < w0.heap.size) (e1 : GExpr) (limit1 : Int) (a1 : Option Addr) (c1 : Nat) (a2 : Option Addr) (c2 : Nat) (a3 : Option Addr) (c3 : Nat) (hc : AllCl [Cl.sl cGMono a1 c1 e1.Lin.L, Cl.sl cGIndex a2 c2 e1.Idx, Cl.sl cGExpr a3 c3 e1.Args] F w0) (r : Int) (h : m_expr_depth e1 limit1 = some r) : Calls Tryz.prog 125 #[(Value.agg #[vi e1.Op, (str e1.Name), vi e1.Val.N, vi e1.Val.D, vi e1.Type_.Kind, vi e1.Type_.Bits, vi e1.Type_.Frac, vi e1.Type_.Round, vi e1.Type_.Over, vi e1.Lin.K, vs a1 e1.Lin.L.length c1, vs a2 e1.Idx.length c2, vs a3 e1.Args.length c3]), vi limit1] w0 fun e w => e = .returned (vi r) ∧ Ext w0 w ∧ AllCl [] F w := c_expr_depth_r fu F w0 hF e1 limit1 a1 c1 a2 c2 a3 c3 hc r h
theorem c_expr_Depth (F : NP) (w0 : World) (hF : ∀ k, F k → k < w0.heap.size) (e1 : GExpr) (a1 : Option Addr) (c1 : Nat) (a2 : Option Addr) (c2 : Nat) (a3 : Option Addr) (c3 : Nat) (hc : AllCl [Cl.sl cGMono a1 c1 e1.Lin.L, Cl.sl cGIndex a2 c2 e1.Idx, Cl.sl cGExpr a3 c3 e1.Args] F w0) (r : Int)
  (h : m_expr_Depth e1 = some r) :
  Calls Tryz.prog 91 #[(Value.agg #[vi e1.Op, (str e1.Name), vi e1.Val.N, vi e1.Val.D, vi e1.Type_.Kind, vi e1.Type_.Bits, vi e1.Type_.Frac, vi e1.Type_.Round, vi e1.Type_.Over, vi e1.Lin.K, vs a1 e1.Lin.L.length c1, vs a2 e1.Idx.length c2, vs a3 e1.Args.length c3])] w0 fun e w => e = .returned (vi r) ∧ Ext w0 w ∧ AllCl [] F w := by
 refine enterK Tryz.func91 rfl Tryz.ntmps91 rfl ?_
 have hI := Bun.start hF hc
 clear hc
 rw [m_expr_Depth] at h
 refine sr (l_box (v := (Value.agg #[vi e1.Op, (str e1.Name), vi e1.Val.N, vi e1.Val.D, vi e1.Type_.Kind, vi e1.Type_.Bits, vi e1.Type_.Frac, vi e1.Type_.Round, vi e1.Type_.Over, vi e1.Lin.K, vs a1 e1.Lin.L.length c1, vs a2 e1.Idx.length c2, vs a3 e1.Args.length c3])) (cs := #[vi e1.Op, (str e1.Name), vi e1.Val.N, vi e1.Val.D, vi e1.Type_.Kind, vi e1.Type_.Bits, vi e1.Type_.Frac, vi e1.Type_.Round, vi e1.Type_.Over, vi e1.Lin.K, vs a1 e1.Lin.L.length c1, vs a2 e1.Idx.length c2, vs a3 e1.Args.length c3]) hI gn rfl rfl et rfl ?_)
 clear hI; intro b1 c4 w1 hI
 obtain ⟨c5, hI⟩ := hI.relBox .z
 refine sac ?_
 refine nk (sr (sq (y_loadN (l := [vi e1.Op, (str e1.Name), vi e1.Val.N, vi e1.Val.D, vi e1.Type_.Kind, vi e1.Type_.Bits, vi e1.Type_.Frac, vi e1.Type_.Round, vi e1.Type_.Over, vi e1.Lin.K, vs a1 e1.Lin.L.length c1, vs a2 e1.Idx.length c2, vs a3 e1.Args.length c3]) rfl et u39 rfl size_39 (hI.kblk (l := [vi e1.Op, (str e1.Name), vi e1.Val.N, vi e1.Val.D, vi e1.Type_.Kind, vi e1.Type_.Bits, vi e1.Type_.Frac, vi e1.Type_.Round, vi e1.Type_.Over, vi e1.Lin.K, vs a1 e1.Lin.L.length c1, vs a2 e1.Idx.length c2, vs a3 e1.Args.length c3]) .z rfl).1) ?_))
 obtain ⟨r1, hx1, h⟩ := bnd_some h
 refine s_call gn rfl (r_callF (vs := [(Value.agg #[vi e1.Op, (str e1.Name), vi e1.Val.N, vi e1.Val.D, vi e1.Type_.Kind, vi e1.Type_.Bits, vi e1.Type_.Frac, vi e1.Type_.Round, vi e1.Type_.Over, vi e1.Lin.K, vs a1 e1.Lin.L.length c1, vs a2 e1.Idx.length c2, vs a3 e1.Args.length c3]), vi 41]) rfl ok_125 ⟨et, ⟨ev_const, trivial⟩⟩) (Calls.mono (c_expr_depth (Dj F c5) w1 hI.lt e1 41 a1 c1 a2 c2 a3 c3 ⟨(hI.get (.s .z)), (hI.get (.s (.s .z))), (hI.get (.s (.s (.s .z)))), trivial⟩ r1 hx1) ?_)
 rintro _ w2 ⟨rfl, hx2, hl1⟩
 refine ⟨_, rfl, ?_⟩
 replace hI := (hI.ext hx2)
 refine sa ?_
 refine nk (c_ret ?_)
 obtain rfl := some_inj h
 exact q_ret (vs := [vi r1]) Tryz.results91 ⟨ev_tmp rfl rfl, trivial⟩ (fq hI trivial)
theorem c_expr_Walk (F : NP) (w0 : World) (hF : ∀ k, F k → k < w0.heap.size) (e1 : GExpr) (a1 : Option Addr) (c1 : Nat) (a2 : Option Addr) (c2 : Nat) (a3 : Option Addr) (c3 : Nat) (hc : AllCl [Cl.sl cGMono a1 c1 e1.Lin.L, Cl.sl cGIndex a2 c2 e1.Idx, Cl.sl cGExpr a3 c3 e1.Args] F w0) (r : GExpr)
  (h : m_expr_Walk e1 = some r) :
  Calls Tryz.prog 93 #[(Value.agg #[vi e1.Op, (str e1.Name), vi e1.Val.N, vi e1.Val.D, vi e1.Type_.Kind, vi e1.Type_.Bits, vi e1.Type_.Frac, vi e1.Type_.Round, vi e1.Type_.Over, vi e1.Lin.K, vs a1 e1.Lin.L.length c1, vs a2 e1.Idx.length c2, vs a3 e1.Args.length c3])] w0 fun e w => ∃ (b1 : Nat) (a4 : Option Addr) (c4 : Nat) (a5 : Option Addr) (c5 : Nat) (a6 : Option Addr) (c6 : Nat), e = .returned (Value.func (.func 126) #[] #[vp b1 0]) ∧ Ext w0 w ∧ AllCl [Cl.sl cGMono a4 c4 r.Lin.L, Cl.sl cGIndex a5 c5 r.Idx, Cl.sl cGExpr a6 c6 r.Args, Cl.blk b1 39 #[vi r.Op, (str r.Name), vi r.Val.N, vi r.Val.D, vi r.Type_.Kind, vi r.Type_.Bits, vi r.Type_.Frac, vi r.Type_.Round, vi r.Type_.Over, vi r.Lin.K, vs a4 r.Lin.L.length c4, vs a5 r.Idx.length c5, vs a6 r.Args.length c6]] F w := by
 refine enterK Tryz.func93 rfl Tryz.ntmps93 rfl ?_
 have hI := Bun.start hF hc
 clear hc
 rw [m_expr_Walk] at h
 refine sr (l_box (v := (Value.agg #[vi e1.Op, (str e1.Name), vi e1.Val.N, vi e1.Val.D, vi e1.Type_.Kind, vi e1.Type_.Bits, vi e1.Type_.Frac, vi e1.Type_.Round, vi e1.Type_.Over, vi e1.Lin.K, vs a1 e1.Lin.L.length c1, vs a2 e1.Idx.length c2, vs a3 e1.Args.length c3])) (cs := #[vi e1.Op, (str e1.Name), vi e1.Val.N, vi e1.Val.D, vi e1.Type_.Kind, vi e1.Type_.Bits, vi e1.Type_.Frac, vi e1.Type_.Round, vi e1.Type_.Over, vi e1.Lin.K, vs a1 e1.Lin.L.length c1, vs a2 e1.Idx.length c2, vs a3 e1.Args.length c3]) hI gn rfl rfl et rfl ?_)
 clear hI; intro b2 c7 w1 hI
 obtain ⟨c8, hI⟩ := hI.relBox .z
 refine sac ?_
 refine nk (sr (sq (y_makeFunc (vs := []) (cap := [vp b2 0]) rfl rfl ⟨et, trivial⟩) ?_))
 refine sa ?_
 refine nk (c_ret ?_)
 obtain rfl := some_inj h
 exact q_ret (vs := [(Value.func (.func 126) #[] #[vp b2 0])]) Tryz.results93 ⟨ev_tmp rfl rfl, trivial⟩ ⟨b2, a1, c1, a2, c2, a3, c3, rfl, hI.ext0, hI.fin ⟨(.s .z), (.s (.s .z)), (.s (.s (.s .z))), .z, trivial⟩⟩
theorem c_expr_walk_s_b {σ : Type} (I : StI σ) (rec_ : (GExpr → (GExpr → σ → Option (Bool × σ)) → σ → Option (Bool × σ))) (hrec : ∀ (C0 F : NP) (w0 : World) (e1 : GExpr) (yield1 : (GExpr → σ → Option (Bool × σ))) (s1 : σ) (a1 : Option Addr) (c1 : Nat) (a2 : Option Addr) (c2 : Nat) (a3 : Option Addr) (c3 : Nat) (fv1 : Value) (hI : Bun C0 F w0 C0 w0 [MO.st I s1] [Cl.sl cGMono a1 c1 e1.Lin.L, Cl.sl cGIndex a2 c2 e1.Idx, Cl.sl cGExpr a3 c3 e1.Args, clFnS_k1 I fv1 yield1]) (r : Bool × σ) (h : rec_ e1 yield1 s1 = some r), Calls Tryz.prog 127 #[(Value.agg #[vi e1.Op, (str e1.Name), vi e1.Val.N, vi e1.Val.D, vi e1.Type_.Kind, vi e1.Type_.Bits, vi e1.Type_.Frac, vi e1.Type_.Round, vi e1.Type_.Over, vi e1.Lin.K, vs a1 e1.Lin.L.length c1, vs a2 e1.Idx.length c2, vs a3 e1.Args.length c3]), fv1] w0 fun e w => ∃ (C : NP), e = .returned (vb r.1) ∧ Bun C0 F w0 C w [MO.st I r.2] [])
  (C0 F : NP) (w0 : World) (e1 : GExpr) (yield1 : (GExpr → σ → Option (Bool × σ))) (s1 : σ) (a1 : Option Addr) (c1 : Nat) (a2 : Option Addr) (c2 : Nat) (a3 : Option Addr) (c3 : Nat) (fv1 : Value) (hI : Bun C0 F w0 C0 w0 [MO.st I s1] [Cl.sl cGMono a1 c1 e1.Lin.L, Cl.sl cGIndex a2 c2 e1.Idx, Cl.sl cGExpr a3 c3 e1.Args, clFnS_k1 I fv1 yield1]) (r : Bool × σ) (h : m_expr_walk_s_b rec_ e1 yield1 s1 = some r) : Calls Tryz.prog 127 #[(Value.agg #[vi e1.Op, (str e1.Name), vi e1.Val.N, vi e1.Val.D, vi e1.Type_.Kind, vi e1.Type_.Bits, vi e1.Type_.Frac, vi e1.Type_.Round, vi e1.Type_.Over, vi e1.Lin.K, vs a1 e1.Lin.L.length c1, vs a2 e1.Idx.length c2, vs a3 e1.Args.length c3]), fv1] w0 fun e w => ∃ (C : NP), e = .returned (vb r.1) ∧ Bun C0 F w0 C w [MO.st I r.2] [] := by
 refine enterK Tryz.func127 rfl Tryz.ntmps127 rfl ?_
 rw [m_expr_walk_s_b] at h
 refine sr (l_box (v := (Value.agg #[vi e1.Op, (str e1.Name), vi e1.Val.N, vi e1.Val.D, vi e1.Type_.Kind, vi e1.Type_.Bits, vi e1.Type_.Frac, vi e1.Type_.Round, vi e1.Type_.Over, vi e1.Lin.K, vs a1 e1.Lin.L.length c1, vs a2 e1.Idx.length c2, vs a3 e1.Args.length c3])) (cs := #[vi e1.Op, (str e1.Name), vi e1.Val.N, vi e1.Val.D, vi e1.Type_.Kind, vi e1.Type_.Bits, vi e1.Type_.Frac, vi e1.Type_.Round, vi e1.Type_.Over, vi e1.Lin.K, vs a1 e1.Lin.L.length c1, vs a2 e1.Idx.length c2, vs a3 e1.Args.length c3]) hI gn rfl rfl et rfl ?_)
 clear hI; intro b1 c4 w1 hI
 obtain ⟨c5, hI⟩ := hI.relBox .z
 refine sac ?_
 refine nk (c_seq (sr (sm ?_)))
 refine sq (y_loadN (l := [vi e1.Op, (str e1.Name), vi e1.Val.N, vi e1.Val.D, vi e1.Type_.Kind, vi e1.Type_.Bits, vi e1.Type_.Frac, vi e1.Type_.Round, vi e1.Type_.Over, vi e1.Lin.K, vs a1 e1.Lin.L.length c1, vs a2 e1.Idx.length c2, vs a3 e1.Args.length c3]) rfl et u39 rfl size_39 (hI.kblk (l := [vi e1.Op, (str e1.Name), vi e1.Val.N, vi e1.Val.D, vi e1.Type_.Kind, vi e1.Type_.Bits, vi e1.Type_.Frac, vi e1.Type_.Round, vi e1.Type_.Over, vi e1.Lin.K, vs a1 e1.Lin.L.length c1, vs a2 e1.Idx.length c2, vs a3 e1.Args.length c3]) .z rfl).1) ?_
 obtain ⟨⟨r1, s2⟩, hx1, h⟩ := bnd_some h
 try dsimp only at h
 obtain ⟨c6, f1, hB, hl1, hk1⟩ := hI.hands (.l .n)
 refine s_callV (args := [(Value.agg #[vi e1.Op, (str e1.Name), vi e1.Val.N, vi e1.Val.D, vi e1.Type_.Kind, vi e1.Type_.Bits, vi e1.Type_.Frac, vi e1.Type_.Round, vi e1.Type_.Over, vi e1.Lin.K, vs a1 e1.Lin.L.length c1, vs a2 e1.Idx.length c2, vs a3 e1.Args.length c3])]) gn rfl rfl et ⟨et, trivial⟩ (CallV.mono ((hI.get (.s (.s (.s (.s .z))))).2 c6 f1 w1 (Sp.less hl1) e1 a1 c1 a2 c2 a3 c3 s1 _ (hB.subs ⟨(.s .z), (.s (.s .z)), (.s (.s (.s .z))), trivial⟩) hx1) ?_)
 rintro _ w2 ⟨c7, rfl, hB2⟩
 obtain ⟨c8, hs1, hI⟩ := hk1 _ _ _ _ hB2
 replace hI : Bun C0 F w0 c8 w2 [MO.st I s2] [Cl.blk b1 39 #[vi e1.Op, (str e1.Name), vi e1.Val.N, vi e1.Val.D, vi e1.Type_.Kind, vi e1.Type_.Bits, vi e1.Type_.Frac, vi e1.Type_.Round, vi e1.Type_.Over, vi e1.Lin.K, vs a1 e1.Lin.L.length c1, vs a2 e1.Idx.length c2, vs a3 e1.Args.length c3], Cl.sl cGMono a1 c1 e1.Lin.L, Cl.sl cGIndex a2 c2 e1.Idx, Cl.sl cGExpr a3 c3 e1.Args, clFnS_k1 I fv1 yield1] := hI
 refine ⟨_, rfl, ?_⟩
 refine sq (y_not rfl et) ?_
 refine nk (cif h et (fun hb h => ?_) (fun hb h => ?_))
 ·refine sr (sac ?_)
  refine nk (c_ret ?_)
  obtain rfl := some_inj h
  exact q_ret (vs := [vb false]) Tryz.results127 ⟨ev_tmp rfl rfl, trivial⟩ ⟨_, rfl, hI.arr (.c .z .n) trivial⟩
 refine c_skip (k_same (c_seq (sr (sq (y_fieldAddr rfl et u39 rfl size_37 rfl) ?_))))
 refine sq (y_load1 (v := (vs a3 e1.Args.length c3)) rfl et u37 rfl (hI.kblk (l := [vs a3 e1.Args.length c3]) .z rfl).1) ?_
 refine sq (y_lenl rfl u37 et) ?_
 refine sq (y_move rfl ev_const) ?_
 refine nk (c_block (c_loop (α := Nat × Int × σ) (fun x => fun w => ∃ C, Bun C0 F w0 C w [MO.st I (x.2.2)] [clFnS_k1 I fv1 yield1, Cl.sl cGExpr a3 c3 e1.Args] ∧ m_expr_walk_s_l1 e1 rec_ yield1 (x.1) (x.2.1) (x.2.2) = some r) (fun x _ => x.1) (fun x => [(1, fv1), (12, vs a3 e1.Args.length c3), (13, vi (e1.Args.length : Int)), (14, vi (x.2.1))]) (fu, 0, s2) ⟨_, hI.arr (.c .z .n) ⟨(.s (.s (.s (.s .z)))), (.s (.s (.s .z))), trivial⟩, h⟩ ⟨rfl, rfl, rfl, rfl, trivial⟩ ?_))
 clear h hI; rintro ⟨fuel1, i1, s3⟩ w3 ⟨c9, hI, h⟩
 dsimp only at hI h
 rcases fuel1 with _ | fuel1
 ·rw [m_expr_walk_s_l1] at h; cases h
 rw [m_expr_walk_s_l1] at h
 refine c_sub (e := [(1, fv1), (12, vs a3 e1.Args.length c3), (13, vi (e1.Args.length : Int)), (14, vi i1)]) ⟨rfl, rfl, rfl, rfl, trivial⟩ ?_
 refine sr (sq (y_lss rfl et et) ?_)
 refine nk (c_seq (cif h et (fun hb h => ?_) (fun hb h => ?_)))
 ·refine c_skip (k_same (c_seq (c_block (sr ?_))))
  obtain ⟨e2, hx2, h⟩ := bnd_some h
  obtain ⟨ad1, cs1, hA1, hr1, hq1⟩ := hI.clat (.s .z) hx2
  obtain ⟨a4, c10, a5, c11, a6, c12, rfl, hf1, hf2, hf3⟩ := cGExpr_out hr1
  have hI := hI.add (c := Cl.sl cGMono a4 c10 e2.Lin.L) hf1
  have hI := hI.add (c := Cl.sl cGIndex a5 c11 e2.Idx) hf2
  have hI := hI.add (c := Cl.sl cGExpr a6 c12 e2.Args) hf3
  refine sq (y_indexAddr rfl u37 size_39 et et (lat_bd hx2) hA1) ?_
  refine sq (y_loadN (l := [vi e2.Op, (str e2.Name), vi e2.Val.N, vi e2.Val.D, vi e2.Type_.Kind, vi e2.Type_.Bits, vi e2.Type_.Frac, vi e2.Type_.Round, vi e2.Type_.Over, vi e2.Lin.K, vs a4 e2.Lin.L.length c10, vs a5 e2.Idx.length c11, vs a6 e2.Args.length c12]) rfl et u39 rfl size_39 hq1.1) ?_
  refine l_alloc (cs := #[vi 0, (str ([] : List UInt8)), vi 0, vi 0, vi 0, vi 0, vi 0, vi 0, vi 0, vi 0, vs none 0 0, vs none 0 0, vs none 0 0]) hI gn rfl rfl zero_39 rfl ?_
  clear hI; intro b2 c13 w4 hI
  refine l_store (new := [vi e2.Op, (str e2.Name), vi e2.Val.N, vi e2.Val.D, vi e2.Type_.Kind, vi e2.Type_.Bits, vi e2.Type_.Frac, vi e2.Type_.Round, vi e2.Type_.Over, vi e2.Lin.K, vs a4 e2.Lin.L.length c10, vs a5 e2.Idx.length c11, vs a6 e2.Args.length c12]) (cs' := #[vi e2.Op, (str e2.Name), vi e2.Val.N, vi e2.Val.D, vi e2.Type_.Kind, vi e2.Type_.Bits, vi e2.Type_.Frac, vi e2.Type_.Round, vi e2.Type_.Over, vi e2.Lin.K, vs a4 e2.Lin.L.length c10, vs a5 e2.Idx.length c11, vs a6 e2.Args.length c12]) hI .z gn rfl rfl et et rfl size_39 rfl rfl rfl ?_
  clear hI; intro c14 w5 hI
  refine nk (sr (sq (y_loadN (l := [vi e2.Op, (str e2.Name), vi e2.Val.N, vi e2.Val.D, vi e2.Type_.Kind, vi e2.Type_.Bits, vi e2.Type_.Frac, vi e2.Type_.Round, vi e2.Type_.Over, vi e2.Lin.K, vs a4 e2.Lin.L.length c10, vs a5 e2.Idx.length c11, vs a6 e2.Args.length c12]) rfl et u39 rfl size_39 (CellsAt.of_blk (hI.blk .z) rfl)) ?_))
  refine sm ?_
  obtain ⟨c15, f2, hB, hl2, hk2⟩ := hI.hands (.r (.l .n))
  obtain ⟨⟨r2, s4⟩, hx3, h⟩ := bnd_some h
  try dsimp only at h
  refine s_call gn rfl (r_callF (vs := [(Value.agg #[vi e2.Op, (str e2.Name), vi e2.Val.N, vi e2.Val.D, vi e2.Type_.Kind, vi e2.Type_.Bits, vi e2.Type_.Frac, vi e2.Type_.Round, vi e2.Type_.Over, vi e2.Lin.K, vs a4 e2.Lin.L.length c10, vs a5 e2.Idx.length c11, vs a6 e2.Args.length c12]), fv1]) rfl ok_127 ⟨et, ⟨et, trivial⟩⟩) (Calls.mono (hrec c15 f2 w5 e2 yield1 s3 a4 c10 a5 c11 a6 c12 fv1 (hB.subs ⟨(.s (.s .z)), (.s .z), .z, (.s (.s (.s .z))), trivial⟩) _ hx3) ?_)
  rintro _ w6 ⟨c16, rfl, hB2⟩
  obtain ⟨c17, hs2, hI⟩ := hk2 _ _ _ _ hB2
  replace hI : Bun C0 F w0 c17 w6 [MO.st I s4, MO.box b2 39 #[vi e2.Op, (str e2.Name), vi e2.Val.N, vi e2.Val.D, vi e2.Type_.Kind, vi e2.Type_.Bits, vi e2.Type_.Frac, vi e2.Type_.Round, vi e2.Type_.Over, vi e2.Lin.K, vs a4 e2.Lin.L.length c10, vs a5 e2.Idx.length c11, vs a6 e2.Args.length c12]] [Cl.sl cGExpr a6 c12 e2.Args, Cl.sl cGIndex a5 c11 e2.Idx, Cl.sl cGMono a4 c10 e2.Lin.L, clFnS_k1 I fv1 yield1, Cl.sl cGExpr a3 c3 e1.Args] := hI
  refine ⟨_, rfl, ?_⟩
  refine sq (y_not rfl et) ?_
  refine nk (cif h et (fun hb h => ?_) (fun hb h => ?_))
  ·refine sr (sac ?_)
   refine nk (c_ret ?_)
   obtain rfl := some_inj h
   exact q_ret (vs := [vb false]) Tryz.results127 ⟨ev_tmp rfl rfl, trivial⟩ ⟨_, rfl, hI.arr (.c .z .n) trivial⟩
  refine c_skip (k_same (c_region rfl ?_))
  refine sq (y_add rfl et ev_const) ?_
  refine sm ?_
  refine s_nil ?_
  exact k_loop (fuel1, wi64 (i1 + 1), s4) ⟨rfl, rfl, rfl, rfl, trivial⟩ ⟨_, hI.arr (.c .z .n) ⟨(.s (.s (.s .z))), (.s (.s (.s (.s .z)))), trivial⟩, h⟩ (Nat.lt_succ_self _)
 refine c_exit ?_
 refine k_in ?_
 refine k_same (sr (sac ?_))
 refine nk (c_ret ?_)
 obtain rfl := some_inj h
 exact q_ret (vs := [vb true]) Tryz.results127 ⟨ev_tmp rfl rfl, trivial⟩ ⟨_, rfl, hI.arr (.c .z .n) trivial⟩
theorem c_expr_walk_s_r {σ : Type} (I : StI σ) (n : Nat) : ∀ (C0 F : NP) (w0 : World) (e1 : GExpr) (yield1 : (GExpr → σ → Option (Bool × σ))) (s1 : σ) (a1 : Option Addr) (c1 : Nat) (a2 : Option Addr) (c2 : Nat) (a3 : Option Addr) (c3 : Nat) (fv1 : Value) (hI : Bun C0 F w0 C0 w0 [MO.st I s1] [Cl.sl cGMono a1 c1 e1.Lin.L, Cl.sl cGIndex a2 c2 e1.Idx, Cl.sl cGExpr a3 c3 e1.Args, clFnS_k1 I fv1 yield1]) (r : Bool × σ) (h : m_expr_walk_s_r n e1 yield1 s1 = some r), Calls Tryz.prog 127 #[(Value.agg #[vi e1.Op, (str e1.Name), vi e1.Val.N, vi e1.Val.D, vi e1.Type_.Kind, vi e1.Type_.Bits, vi e1.Type_.Frac, vi e1.Type_.Round, vi e1.Type_.Over, vi e1.Lin.K, vs a1 e1.Lin.L.length c1, vs a2 e1.Idx.length c2, vs a3 e1.Args.length c3]), fv1] w0 fun e w => ∃ (C : NP), e = .returned (vb r.1) ∧ Bun C0 F w0 C w [MO.st I r.2] [] := by
 induction n with
 | zero => intro C0 F w0 e1 yield1 s1 a1 c1 a2 c2 a3 c3 fv1 hI r h; cases h
 | succ n ih => intro C0 F w0 e1 yield1 s1 a1 c1 a2 c2 a3 c3 fv1 hI r h; exact c_expr_walk_s_b I (m_expr_walk_s_r n) ih C0 F w0 e1 yield1 s1 a1 c1 a2 c2 a3 c3 fv1 hI r h
theorem c_expr_walk_s {σ : Type} (I : StI σ) (C0 F : NP) (w0 : World) (e1 : GExpr) (yield1 : (GExpr → σ → Option (Bool × σ))) (s1 : σ) (a1 : Option Addr) (c1 : Nat) (a2 : Option Addr) (c2 : Nat) (a3 : Option Addr) (c3 : Nat) (fv1 : Value) (hI : Bun C0 F w0 C0 w0 [MO.st I s1] [Cl.sl cGMono a1 c1 e1.Lin.L, Cl.sl cGIndex a2 c2 e1.Idx, Cl.sl cGExpr a3 c3 e1.Args, clFnS_k1 I fv1 yield1]) (r : Bool × σ) (h : m_expr_walk_s e1 yield1 s1 = some r) : Calls Tryz.prog 127 #[(Value.agg #[vi e1.Op, (str e1.Name), vi e1.Val.N, vi e1.Val.D, vi e1.Type_.Kind, vi e1.Type_.Bits, vi e1.Type_.Frac, vi e1.Type_.Round, vi e1.Type_.Over, vi e1.Lin.K, vs a1 e1.Lin.L.length c1, vs a2 e1.Idx.length c2, vs a3 e1.Args.length c3]), fv1] w0 fun e w => ∃ (C : NP), e = .returned (vb r.1) ∧ Bun C0 F w0 C w [MO.st I r.2] [] := c_expr_walk_s_r I fu C0 F w0 e1 yield1 s1 a1 c1 a2 c2 a3 c3 fv1 hI r h
theorem c_expr_Walk_1_s {σ : Type} (I : StI σ) (C0 F : NP) (w0 : World) (yield1 : (GExpr → σ → Option (Bool × σ))) (a1 : GExpr) (s1 : σ) (fv1 : Value) (b1 : Nat) (a2 : Option Addr) (c1 : Nat) (a3 : Option Addr) (c2 : Nat) (a4 : Option Addr) (c3 : Nat) (hI : Bun C0 F w0 C0 w0 [MO.st I s1] [clFnS_k1 I fv1 yield1, Cl.sl cGMono a2 c1 a1.Lin.L, Cl.sl cGIndex a3 c2 a1.Idx, Cl.sl cGExpr a4 c3 a1.Args, Cl.blk b1 39 #[vi a1.Op, (str a1.Name), vi a1.Val.N, vi a1.Val.D, vi a1.Type_.Kind, vi a1.Type_.Bits, vi a1.Type_.Frac, vi a1.Type_.Round, vi a1.Type_.Over, vi a1.Lin.K, vs a2 a1.Lin.L.length c1, vs a3 a1.Idx.length c2, vs a4 a1.Args.length c3]]) (r : Unit × σ)
  (h : m_expr_Walk_1_s yield1 a1 s1 = some r) :
  Calls Tryz.prog 126 #[fv1, vp b1 0] w0 fun e w => ∃ (C : NP), e = .returned (Value.tuple #[]) ∧ Bun C0 F w0 C w [MO.st I r.2] [] := by
 refine enterK Tryz.func126 rfl Tryz.ntmps126 rfl ?_
 rw [m_expr_Walk_1_s] at h
 refine c_region rfl ?_
 refine sq (y_loadN (l := [vi a1.Op, (str a1.Name), vi a1.Val.N, vi a1.Val.D, vi a1.Type_.Kind, vi a1.Type_.Bits, vi a1.Type_.Frac, vi a1.Type_.Round, vi a1.Type_.Over, vi a1.Lin.K, vs a2 a1.Lin.L.length c1, vs a3 a1.Idx.length c2, vs a4 a1.Args.length c3]) rfl et u39 rfl size_39 (hI.kblk (l := [vi a1.Op, (str a1.Name), vi a1.Val.N, vi a1.Val.D, vi a1.Type_.Kind, vi a1.Type_.Bits, vi a1.Type_.Frac, vi a1.Type_.Round, vi a1.Type_.Over, vi a1.Lin.K, vs a2 a1.Lin.L.length c1, vs a3 a1.Idx.length c2, vs a4 a1.Args.length c3]) (.s (.s (.s (.s .z)))) rfl).1) ?_
 refine sm ?_
 obtain ⟨c4, f1, hB, hl1, hk1⟩ := hI.hands (.l .n)
 obtain ⟨⟨r1, s2⟩, hx1, h⟩ := bnd_some h
 try dsimp only at h
 refine s_call gn rfl (r_callF (vs := [(Value.agg #[vi a1.Op, (str a1.Name), vi a1.Val.N, vi a1.Val.D, vi a1.Type_.Kind, vi a1.Type_.Bits, vi a1.Type_.Frac, vi a1.Type_.Round, vi a1.Type_.Over, vi a1.Lin.K, vs a2 a1.Lin.L.length c1, vs a3 a1.Idx.length c2, vs a4 a1.Args.length c3]), fv1]) rfl ok_127 ⟨et, ⟨et, trivial⟩⟩) (Calls.mono (c_expr_walk_s I c4 f1 w0 a1 yield1 s1 a2 c1 a3 c2 a4 c3 fv1 (hB.subs ⟨(.s .z), (.s (.s .z)), (.s (.s (.s .z))), .z, trivial⟩) _ hx1) ?_)
 rintro _ w1 ⟨c5, rfl, hB2⟩
 obtain ⟨c6, hs1, hI⟩ := hk1 _ _ _ _ hB2
 replace hI : Bun C0 F w0 c6 w1 [MO.st I s2] [clFnS_k1 I fv1 yield1, Cl.sl cGMono a2 c1 a1.Lin.L, Cl.sl cGIndex a3 c2 a1.Idx, Cl.sl cGExpr a4 c3 a1.Args, Cl.blk b1 39 #[vi a1.Op, (str a1.Name), vi a1.Val.N, vi a1.Val.D, vi a1.Type_.Kind, vi a1.Type_.Bits, vi a1.Type_.Frac, vi a1.Type_.Round, vi a1.Type_.Over, vi a1.Lin.K, vs a2 a1.Lin.L.length c1, vs a3 a1.Idx.length c2, vs a4 a1.Args.length c3]] := hI
 refine ⟨_, rfl, ?_⟩
 refine s_nil ?_
 obtain rfl := some_inj h
 exact q_ret (vs := []) Tryz.results126 trivial ⟨_, rfl, hI.arr (.c .z .n) trivial⟩
theorem c_expr_Size (F : NP) (w0 : World) (hF : ∀ k, F k → k < w0.heap.size) (e1 : GExpr) (a1 : Option Addr) (c1 : Nat) (a2 : Option Addr) (c2 : Nat) (a3 : Option Addr) (c3 : Nat) (hc : AllCl [Cl.sl cGMono a1 c1 e1.Lin.L, Cl.sl cGIndex a2 c2 e1.Idx, Cl.sl cGExpr a3 c3 e1.Args] F w0) (r : Int)
  (h : m_expr_Size e1 = some r) :
  Calls Tryz.prog 92 #[(Value.agg #[vi e1.Op, (str e1.Name), vi e1.Val.N, vi e1.Val.D, vi e1.Type_.Kind, vi e1.Type_.Bits, vi e1.Type_.Frac, vi e1.Type_.Round, vi e1.Type_.Over, vi e1.Lin.K, vs a1 e1.Lin.L.length c1, vs a2 e1.Idx.length c2, vs a3 e1.Args.length c3])] w0 fun e w => e = .returned (vi r) ∧ Ext w0 w ∧ AllCl [] F w := by
 refine enterK Tryz.func92 rfl Tryz.ntmps92 rfl ?_
 have hI := Bun.start hF hc
 clear hc
 rw [m_expr_Size] at h
 refine sr (l_box (v := (Value.agg #[vi e1.Op, (str e1.Name), vi e1.Val.N, vi e1.Val.D, vi e1.Type_.Kind, vi e1.Type_.Bits, vi e1.Type_.Frac, vi e1.Type_.Round, vi e1.Type_.Over, vi e1.Lin.K, vs a1 e1.Lin.L.length c1, vs a2 e1.Idx.length c2, vs a3 e1.Args.length c3])) (cs := #[vi e1.Op, (str e1.Name), vi e1.Val.N, vi e1.Val.D, vi e1.Type_.Kind, vi e1.Type_.Bits, vi e1.Type_.Frac, vi e1.Type_.Round, vi e1.Type_.Over, vi e1.Lin.K, vs a1 e1.Lin.L.length c1, vs a2 e1.Idx.length c2, vs a3 e1.Args.length c3]) hI gn rfl rfl et rfl ?_)
 clear hI; intro b1 c4 w1 hI
 obtain ⟨c5, hI⟩ := hI.relBox .z
 refine sac ?_
 refine nk (sr (l_alloc (cs := #[vi 0]) hI gn rfl rfl zero_3 rfl ?_))
 clear hI; intro b2 c6 w2 hI
 refine l_store (new := [vi 0]) (cs' := #[vi 0]) hI .z gn rfl rfl et ev_const rfl size_3 rfl rfl rfl ?_
 clear hI; intro c7 w3 hI
 refine nk (c_seq (sr (sq (y_loadN (l := [vi e1.Op, (str e1.Name), vi e1.Val.N, vi e1.Val.D, vi e1.Type_.Kind, vi e1.Type_.Bits, vi e1.Type_.Frac, vi e1.Type_.Round, vi e1.Type_.Over, vi e1.Lin.K, vs a1 e1.Lin.L.length c1, vs a2 e1.Idx.length c2, vs a3 e1.Args.length c3]) rfl et u39 rfl size_39 (hI.kblk (l := [vi e1.Op, (str e1.Name), vi e1.Val.N, vi e1.Val.D, vi e1.Type_.Kind, vi e1.Type_.Bits, vi e1.Type_.Frac, vi e1.Type_.Round, vi e1.Type_.Over, vi e1.Lin.K, vs a1 e1.Lin.L.length c1, vs a2 e1.Idx.length c2, vs a3 e1.Args.length c3]) .z rfl).1) ?_)))
 obtain ⟨r1, hx1, h⟩ := bnd_some h
 refine s_call gn rfl (r_callF (vs := [(Value.agg #[vi e1.Op, (str e1.Name), vi e1.Val.N, vi e1.Val.D, vi e1.Type_.Kind, vi e1.Type_.Bits, vi e1.Type_.Frac, vi e1.Type_.Round, vi e1.Type_.Over, vi e1.Lin.K, vs a1 e1.Lin.L.length c1, vs a2 e1.Idx.length c2, vs a3 e1.Args.length c3])]) rfl ok_93 ⟨et, trivial⟩) (Calls.mono (c_expr_Walk (Dj F c7) w3 hI.lt e1 a1 c1 a2 c2 a3 c3 ⟨(hI.get (.s .z)), (hI.get (.s (.s .z))), (hI.get (.s (.s (.s .z)))), trivial⟩ r1 hx1) ?_)
 rintro _ w4 ⟨b3, a4, c8, a5, c9, a6, c10, rfl, hx2, hl1⟩
 refine ⟨_, rfl, ?_⟩
 replace hI := (hI.ext hx2).adds hl1
 refine nk (c_block (c_rangeFunc [Code.exit 0] hI et ok_126 (fun l1 q1 fn1 tm1 rc1 hrc1 c12 w6 hE1 hI => ?_)))
 obtain ⟨c13, f1, hB, hl2, hk1⟩ := hI.hands (.l (.r (.l .n)))
 have hB : Bun c13 f1 w6 c13 w6 [MO.st (StI.loop l1 rc1 (fun (s : Int) (b : Unit) => [MO.box b2 3 #[vi s]]) (fun (s : Int) (b : Unit) => [Cl.blk b3 39 #[vi r1.Op, (str r1.Name), vi r1.Val.N, vi r1.Val.D, vi r1.Type_.Kind, vi r1.Type_.Bits, vi r1.Type_.Frac, vi r1.Type_.Round, vi r1.Type_.Over, vi r1.Lin.K, vs a4 r1.Lin.L.length c8, vs a5 r1.Idx.length c9, vs a6 r1.Args.length c10], Cl.sl cGMono a4 c8 r1.Lin.L, Cl.sl cGIndex a5 c9 r1.Idx, Cl.sl cGExpr a6 c10 r1.Args])) (0, 0)] _ := Bun.mkst (b := ()) hB ⟨(.s (.s (.s .z))), .z, (.s .z), (.s (.s .z)), trivial⟩
 have hY1 : fnS_k1 (StI.loop l1 rc1 (fun (s : Int) (b : Unit) => [MO.box b2 3 #[vi s]]) (fun (s : Int) (b : Unit) => [Cl.blk b3 39 #[vi r1.Op, (str r1.Name), vi r1.Val.N, vi r1.Val.D, vi r1.Type_.Kind, vi r1.Type_.Bits, vi r1.Type_.Frac, vi r1.Type_.Round, vi r1.Type_.Over, vi r1.Lin.K, vs a4 r1.Lin.L.length c8, vs a5 r1.Idx.length c9, vs a6 r1.Args.length c10], Cl.sl cGMono a4 c8 r1.Lin.L, Cl.sl cGIndex a5 c9 r1.Idx, Cl.sl cGExpr a6 c10 r1.Args])) (Value.func (.yield l1) #[] #[]) (fun k_0 q => if q.1 = 0 then m_expr_Size_b1 k_0 q.2 else none) (Dj f1 c13) w6 := by
  refine ⟨rfl, fun C0 F w0 _ => ?_⟩
  rintro y1 a7 c14 a8 c15 a9 c16 ⟨o_, n1⟩ r hB h
  replace h : o_ = 0 ∧ m_expr_Size_b1 y1 n1 = some r := chk_some h
  have ho_ := h.1; subst ho_; replace h := h.2
  rw [m_expr_Size_b1] at h
  obtain ⟨_, hI⟩ := Bun.unst hB
  subst hrc1
  replace hI : Bun C0 F w0 C0 w0 [MO.loop l1 (lrec fn1 tm1 _ _ _ q1 [Code.exit 0] 0), MO.box b2 3 #[vi n1]] [Cl.blk b3 39 #[vi r1.Op, (str r1.Name), vi r1.Val.N, vi r1.Val.D, vi r1.Type_.Kind, vi r1.Type_.Bits, vi r1.Type_.Frac, vi r1.Type_.Round, vi r1.Type_.Over, vi r1.Lin.K, vs a4 r1.Lin.L.length c8, vs a5 r1.Idx.length c9, vs a6 r1.Args.length c10], Cl.sl cGMono a4 c8 r1.Lin.L, Cl.sl cGIndex a5 c9 r1.Idx, Cl.sl cGExpr a6 c10 r1.Args, Cl.sl cGMono a7 c14 y1.Lin.L, Cl.sl cGIndex a8 c15 y1.Idx, Cl.sl cGExpr a9 c16 y1.Args] := hI
  clear hB
  refine callV_yield hI rfl (has_round1 (hE1 ⟨12, []⟩ rfl rfl)) ?_
  refine c_skip (k_begin hI .z (fun c17 w7 hI => ?_))
  refine c_block (sr (sq (y_load1 (v := (vi n1)) rfl et u3 rfl (CellsAt.of_blk (hI.blk (.s .z)) rfl)) ?_))
  refine sq (y_add rfl et ev_const) ?_
  refine l_store (new := [(vi (wi64 (n1 + 1)))]) (cs' := #[(vi (wi64 (n1 + 1)))]) hI (.s .z) gn rfl rfl et et rfl size_3 rfl rfl rfl ?_
  clear hI; intro c18 w8 hI
  refine nk (sr (sq (y_load1 (v := (vi (wi64 (n1 + 1)))) rfl et u3 rfl (CellsAt.of_blk (hI.blk (.s .z)) rfl)) ?_))
  refine sq (y_gtr rfl et ev_const) ?_
  refine nk (cif h et (fun hb h => ?_) (fun hb h => ?_))
  ·refine c_exit ?_
   refine k_out rfl ?_
   obtain rfl := some_inj h
   exact fun _ _ => k_round (js := [Code.exit 0]) (oS := (fun (s : Int) (b : Unit) => [MO.box b2 3 #[vi s]])) (cS := (fun (s : Int) (b : Unit) => [Cl.blk b3 39 #[vi r1.Op, (str r1.Name), vi r1.Val.N, vi r1.Val.D, vi r1.Type_.Kind, vi r1.Type_.Bits, vi r1.Type_.Frac, vi r1.Type_.Round, vi r1.Type_.Over, vi r1.Lin.K, vs a4 r1.Lin.L.length c8, vs a5 r1.Idx.length c9, vs a6 r1.Args.length c10], Cl.sl cGMono a4 c8 r1.Lin.L, Cl.sl cGIndex a5 c9 r1.Idx, Cl.sl cGExpr a6 c10 r1.Args])) (out := 1) (s := (wi64 (n1 + 1))) (b := ()) (hI.arr (.c .z (.c .z .n)) ⟨.z, (.s .z), (.s (.s .z)), (.s (.s (.s .z))), trivial⟩) rfl (fun C w hB => ⟨C, rfl, hB⟩)
  refine c_skip ?_
  obtain rfl := some_inj h
  exact fun _ _ => k_round (js := [Code.exit 0]) (oS := (fun (s : Int) (b : Unit) => [MO.box b2 3 #[vi s]])) (cS := (fun (s : Int) (b : Unit) => [Cl.blk b3 39 #[vi r1.Op, (str r1.Name), vi r1.Val.N, vi r1.Val.D, vi r1.Type_.Kind, vi r1.Type_.Bits, vi r1.Type_.Frac, vi r1.Type_.Round, vi r1.Type_.Over, vi r1.Lin.K, vs a4 r1.Lin.L.length c8, vs a5 r1.Idx.length c9, vs a6 r1.Args.length c10], Cl.sl cGMono a4 c8 r1.Lin.L, Cl.sl cGIndex a5 c9 r1.Idx, Cl.sl cGExpr a6 c10 r1.Args])) (out := 0) (s := (wi64 (n1 + 1))) (b := ()) (hI.arr (.c .z (.c .z .n)) ⟨.z, (.s .z), (.s (.s .z)), (.s (.s (.s .z))), trivial⟩) rfl (fun C w hB => ⟨C, rfl, hB⟩)
 obtain ⟨⟨u1, o1, n2⟩, hx3, h⟩ := bnd_some h
 try dsimp only at h
 refine Calls.mono (c_expr_Walk_1_s (StI.loop l1 rc1 (fun (s : Int) (b : Unit) => [MO.box b2 3 #[vi s]]) (fun (s : Int) (b : Unit) => [Cl.blk b3 39 #[vi r1.Op, (str r1.Name), vi r1.Val.N, vi r1.Val.D, vi r1.Type_.Kind, vi r1.Type_.Bits, vi r1.Type_.Frac, vi r1.Type_.Round, vi r1.Type_.Over, vi r1.Lin.K, vs a4 r1.Lin.L.length c8, vs a5 r1.Idx.length c9, vs a6 r1.Args.length c10], Cl.sl cGMono a4 c8 r1.Lin.L, Cl.sl cGIndex a5 c9 r1.Idx, Cl.sl cGExpr a6 c10 r1.Args])) c13 f1 w6 (fun k_0 q => if q.1 = 0 then m_expr_Size_b1 k_0 q.2 else none) r1 (0, 0) (Value.func (.yield l1) #[] #[]) b3 a4 c8 a5 c9 a6 c10 ((hB.add (c := clFnS_k1 (StI.loop l1 rc1 (fun (s : Int) (b : Unit) => [MO.box b2 3 #[vi s]]) (fun (s : Int) (b : Unit) => [Cl.blk b3 39 #[vi r1.Op, (str r1.Name), vi r1.Val.N, vi r1.Val.D, vi r1.Type_.Kind, vi r1.Type_.Bits, vi r1.Type_.Frac, vi r1.Type_.Round, vi r1.Type_.Over, vi r1.Lin.K, vs a4 r1.Lin.L.length c8, vs a5 r1.Idx.length c9, vs a6 r1.Args.length c10], Cl.sl cGMono a4 c8 r1.Lin.L, Cl.sl cGIndex a5 c9 r1.Idx, Cl.sl cGExpr a6 c10 r1.Args])) (Value.func (.yield l1) #[] #[]) (fun k_0 q => if q.1 = 0 then m_expr_Size_b1 k_0 q.2 else none)) hY1).subs ⟨.z, (.s .z), (.s (.s .z)), (.s (.s (.s .z))), (.s (.s (.s (.s .z)))), trivial⟩) _ hx3) ?_
 rintro _ w10 ⟨c20, rfl, hB2⟩
 obtain ⟨_, hB2⟩ := Bun.unst hB2
 subst hrc1
 obtain ⟨c21, hs1, hI⟩ := hk1 _ _ _ _ hB2
 replace hI : Bun noM F w0 c21 w10 [MO.loop l1 (lrec fn1 tm1 _ _ _ q1 [Code.exit 0] o1), MO.box b2 3 #[vi n2], MO.dfr q1] [Cl.blk b3 39 #[vi r1.Op, (str r1.Name), vi r1.Val.N, vi r1.Val.D, vi r1.Type_.Kind, vi r1.Type_.Bits, vi r1.Type_.Frac, vi r1.Type_.Round, vi r1.Type_.Over, vi r1.Lin.K, vs a4 r1.Lin.L.length c8, vs a5 r1.Idx.length c9, vs a6 r1.Args.length c10], Cl.sl cGMono a4 c8 r1.Lin.L, Cl.sl cGIndex a5 c9 r1.Idx, Cl.sl cGExpr a6 c10 r1.Args, Cl.sl cGMono a4 c8 r1.Lin.L, Cl.sl cGIndex a5 c9 r1.Idx, Cl.sl cGExpr a6 c10 r1.Args, Cl.blk b3 39 #[vi r1.Op, (str r1.Name), vi r1.Val.N, vi r1.Val.D, vi r1.Type_.Kind, vi r1.Type_.Bits, vi r1.Type_.Frac, vi r1.Type_.Round, vi r1.Type_.Over, vi r1.Lin.K, vs a4 r1.Lin.L.length c8, vs a5 r1.Idx.length c9, vs a6 r1.Args.length c10], Cl.blk b1 39 #[vi e1.Op, (str e1.Name), vi e1.Val.N, vi e1.Val.D, vi e1.Type_.Kind, vi e1.Type_.Bits, vi e1.Type_.Frac, vi e1.Type_.Round, vi e1.Type_.Over, vi e1.Lin.K, vs a1 e1.Lin.L.length c1, vs a2 e1.Idx.length c2, vs a3 e1.Args.length c3], Cl.sl cGMono a1 c1 e1.Lin.L, Cl.sl cGIndex a2 c2 e1.Idx, Cl.sl cGExpr a3 c3 e1.Args] := hI
 refine ⟨_, rfl, k_endLoop hI .z (fun c22 w11 hI => ?_)⟩
 by_cases hz1 : o1 = 0
 ·subst hz1; rw [if_pos rfl] at h
  refine k_same (sr (sq (y_load1 (v := (vi n2)) rfl et u3 rfl (CellsAt.of_blk (hI.blk (.s .z)) rfl)) ?_))
  refine sa ?_
  refine nk (c_ret ?_)
  obtain ⟨w12, hs2, c23, hI⟩ : ∃ w2, Shuts Tryz.prog [q1] w11 w2 ∧ ∃ C, Bun noM F w0 C w2 [MO.obj l1 _, MO.box b2 3 #[vi n2], MO.obj q1 (.deferred none)] [Cl.blk b3 39 #[vi r1.Op, (str r1.Name), vi r1.Val.N, vi r1.Val.D, vi r1.Type_.Kind, vi r1.Type_.Bits, vi r1.Type_.Frac, vi r1.Type_.Round, vi r1.Type_.Over, vi r1.Lin.K, vs a4 r1.Lin.L.length c8, vs a5 r1.Idx.length c9, vs a6 r1.Args.length c10], Cl.sl cGMono a4 c8 r1.Lin.L, Cl.sl cGIndex a5 c9 r1.Idx, Cl.sl cGExpr a6 c10 r1.Args, Cl.sl cGMono a4 c8 r1.Lin.L, Cl.sl cGIndex a5 c9 r1.Idx, Cl.sl cGExpr a6 c10 r1.Args, Cl.blk b3 39 #[vi r1.Op, (str r1.Name), vi r1.Val.N, vi r1.Val.D, vi r1.Type_.Kind, vi r1.Type_.Bits, vi r1.Type_.Frac, vi r1.Type_.Round, vi r1.Type_.Over, vi r1.Lin.K, vs a4 r1.Lin.L.length c8, vs a5 r1.Idx.length c9, vs a6 r1.Args.length c10], Cl.blk b1 39 #[vi e1.Op, (str e1.Name), vi e1.Val.N, vi e1.Val.D, vi e1.Type_.Kind, vi e1.Type_.Bits, vi e1.Type_.Frac, vi e1.Type_.Round, vi e1.Type_.Over, vi e1.Lin.K, vs a1 e1.Lin.L.length c1, vs a2 e1.Idx.length c2, vs a3 e1.Args.length c3], Cl.sl cGMono a1 c1 e1.Lin.L, Cl.sl cGIndex a2 c2 e1.Idx, Cl.sl cGExpr a3 c3 e1.Args] := hI.shut (.s (.s .z)) fun C w hI => shut_nil ⟨_, hI⟩
  obtain rfl := some_inj h
  exact q_retS (vs := [vi n2]) hs2 Tryz.results92 ⟨ev_tmp rfl rfl, trivial⟩ (fq hI trivial)
 rw [if_neg hz1] at h
 by_cases hz2 : o1 = 1
 ·subst hz2; rw [if_pos rfl] at h
  refine c_exit ?_
  refine k_in ?_
  refine k_same (sr (sq (y_load1 (v := (vi n2)) rfl et u3 rfl (CellsAt.of_blk (hI.blk (.s .z)) rfl)) ?_))
  refine sa ?_
  refine nk (c_ret ?_)
  obtain ⟨w13, hs3, c24, hI⟩ : ∃ w2, Shuts Tryz.prog [q1] w11 w2 ∧ ∃ C, Bun noM F w0 C w2 [MO.obj l1 _, MO.box b2 3 #[vi n2], MO.obj q1 (.deferred none)] [Cl.blk b3 39 #[vi r1.Op, (str r1.Name), vi r1.Val.N, vi r1.Val.D, vi r1.Type_.Kind, vi r1.Type_.Bits, vi r1.Type_.Frac, vi r1.Type_.Round, vi r1.Type_.Over, vi r1.Lin.K, vs a4 r1.Lin.L.length c8, vs a5 r1.Idx.length c9, vs a6 r1.Args.length c10], Cl.sl cGMono a4 c8 r1.Lin.L, Cl.sl cGIndex a5 c9 r1.Idx, Cl.sl cGExpr a6 c10 r1.Args, Cl.sl cGMono a4 c8 r1.Lin.L, Cl.sl cGIndex a5 c9 r1.Idx, Cl.sl cGExpr a6 c10 r1.Args, Cl.blk b3 39 #[vi r1.Op, (str r1.Name), vi r1.Val.N, vi r1.Val.D, vi r1.Type_.Kind, vi r1.Type_.Bits, vi r1.Type_.Frac, vi r1.Type_.Round, vi r1.Type_.Over, vi r1.Lin.K, vs a4 r1.Lin.L.length c8, vs a5 r1.Idx.length c9, vs a6 r1.Args.length c10], Cl.blk b1 39 #[vi e1.Op, (str e1.Name), vi e1.Val.N, vi e1.Val.D, vi e1.Type_.Kind, vi e1.Type_.Bits, vi e1.Type_.Frac, vi e1.Type_.Round, vi e1.Type_.Over, vi e1.Lin.K, vs a1 e1.Lin.L.length c1, vs a2 e1.Idx.length c2, vs a3 e1.Args.length c3], Cl.sl cGMono a1 c1 e1.Lin.L, Cl.sl cGIndex a2 c2 e1.Idx, Cl.sl cGExpr a3 c3 e1.Args] := hI.shut (.s (.s .z)) fun C w hI => shut_nil ⟨_, hI⟩
  obtain rfl := some_inj h
  exact q_retS (vs := [vi n2]) hs3 Tryz.results92 ⟨ev_tmp rfl rfl, trivial⟩ (fq hI trivial)
 rw [if_neg hz2] at h
 cases h
theorem c_expr_isZero (F : NP) (w0 : World) (hF : ∀ k, F k → k < w0.heap.size) (l1 : GLin) (a1 : Option Addr) (c1 : Nat) (hc : AllCl [Cl.sl cGMono a1 c1 l1.L] F w0) (r : Bool)
  (h : m_expr_isZero l1 = some r) :
  Calls Tryz.prog 151 #[(Value.agg (ALin l1 a1 c1))] w0 fun e w => e = .returned (vb r) ∧ Ext w0 w ∧ AllCl [] F w := by
 refine enterK Tryz.func151 rfl Tryz.ntmps151 rfl ?_
 have hI := Bun.start hF hc
 clear hc
 rw [m_expr_isZero] at h
 refine sr (l_box (v := (Value.agg (ALin l1 a1 c1))) (cs := (ALin l1 a1 c1)) hI gn rfl rfl et rfl ?_)
 clear hI; intro b1 c2 w1 hI
 obtain ⟨c3, hI⟩ := hI.relBox .z
 refine sac ?_
 refine nk (sr (sq (y_fieldAddr rfl et u29 rfl size_2 rfl) ?_))
 refine sq (y_load1 (v := (vi l1.K)) rfl et u2 rfl (hI.kblk (l := [vi l1.K]) .z rfl).1) ?_
 refine sq (y_eql rfl et ev_const) ?_
 refine sm ?_
 refine s_gval (g_true rfl rfl rfl rfl) rfl (fun hc => y_fieldAddr rfl et u29 rfl size_27 rfl) ?_
 refine s_gval (g_true rfl rfl rfl rfl) rfl (fun hc => (y_load1 (v := (vs a1 l1.L.length c1)) rfl (ev_gv et hc) u27 rfl (hI.kblk (l := [vs a1 l1.L.length c1]) .z rfl).1)) ?_
 refine s_gval (g_true rfl rfl rfl rfl) rfl (fun hc => y_lenl rfl u27 (ev_gv et hc)) ?_
 refine s_gval (g_true rfl rfl rfl rfl) rfl (fun hc => y_eql rfl (ev_gv et hc) ev_const) ?_
 refine sq (y_and rfl et et) ?_
 refine sa ?_
 refine nk (c_ret ?_)
 obtain rfl := some_inj h
 exact q_ret (vs := [(vb ((decide (l1.K = 0)) && (decide ((l1.L.length : Int) = 0))))]) Tryz.results151 ⟨ev_tmp rfl rfl, trivial⟩ (fq hI trivial)
theorem c_slices_IndexFunc_api_Index_api_Index (F : NP) (w0 : World) (hF : ∀ k, F k → k < w0.heap.size) (s1 : List GIndex) (f1 : (GIndex → Option Bool)) (a1 : Option Addr) (c1 : Nat) (fv1 : Value) (hc : AllCl [Cl.sl cGIndex a1 c1 s1, clFn_k2 fv1 f1] F w0) (r : Int)
  (h : m_slices_IndexFunc_api_Index_api_Index s1 f1 = some r) :
  Calls Tryz.prog 177 #[vs a1 s1.length c1, fv1] w0 fun e w => e = .returned (vi r) ∧ Ext w0 w ∧ AllCl [] F w := by
 refine enterK Tryz.func177 rfl Tryz.ntmps177 rfl ?_
 have hI := Bun.start hF hc
 clear hc
 rw [m_slices_IndexFunc_api_Index_api_Index] at h
 refine sr (sac ?_)
 refine nk (c_seq (sr (sm ?_)))
 refine sq (y_lenl rfl u34 et) ?_
 refine sq (y_move rfl ev_const) ?_
 refine nk (c_block (c_loop (α := Nat × Int) (fun x => fun w => ∃ C, Bun noM F w0 C w [] [Cl.sl cGIndex a1 c1 s1, clFn_k2 fv1 f1] ∧ m_slices_IndexFunc_api_Index_api_Index_l1 s1 f1 (x.1) (x.2) = some r) (fun x _ => x.1) (fun x => [(0, vs a1 s1.length c1), (1, fv1), (7, vi (s1.length : Int)), (8, vi (x.2))]) (fu, 0) ⟨_, hI.arr .n ⟨.z, (.s .z), trivial⟩, h⟩ ⟨rfl, rfl, rfl, rfl, trivial⟩ ?_))
 clear h hI; rintro ⟨fuel1, i1⟩ w1 ⟨c2, hI, h⟩
 dsimp only at hI h
 rcases fuel1 with _ | fuel1
 ·rw [m_slices_IndexFunc_api_Index_api_Index_l1] at h; cases h
 rw [m_slices_IndexFunc_api_Index_api_Index_l1] at h
 refine c_sub (e := [(0, vs a1 s1.length c1), (1, fv1), (7, vi (s1.length : Int)), (8, vi i1)]) ⟨rfl, rfl, rfl, rfl, trivial⟩ ?_
 refine sr (sq (y_lss rfl et et) ?_)
 refine nk (c_seq (cif h et (fun hb h => ?_) (fun hb h => ?_)))
 ·refine c_skip (k_same (c_seq (c_block (sr (sm ?_)))))
  refine sa ?_
  refine nk (sr (sm ?_))
  refine sm ?_
  refine sm ?_
  obtain ⟨e1, hx1, h⟩ := bnd_some h
  obtain ⟨ad1, cs1, hA1, hr1, hq1⟩ := hI.clat .z hx1
  obtain ⟨a2, c3, a3, c4, rfl, hf1, hf2⟩ := hr1
  have hI := hI.add (c := Cl.sl cGMono a2 c3 e1.Lin.L) hf1
  have hI := hI.add (c := Cl.sl cGLin a3 c4 e1.At) hf2
  refine sq (y_indexAddr rfl u34 size_32 et et (lat_bd hx1) hA1) ?_
  refine sq (y_loadN (l := [vi e1.Lin.K, vs a2 e1.Lin.L.length c3, (str e1.From), vs a3 e1.At.length c4]) rfl et u32 rfl size_32 hq1.1) ?_
  obtain ⟨r1, hx2, h⟩ := bnd_some h
  refine s_callV (args := [(Value.agg #[vi e1.Lin.K, vs a2 e1.Lin.L.length c3, (str e1.From), vs a3 e1.At.length c4])]) gn rfl rfl et ⟨et, trivial⟩ (CallV.mono ((hI.get (.s (.s (.s .z)))).2 (Dj F c2) w1 (Sp.of_ext .rfl') hI.lt e1 a2 c3 a3 c4 r1 ⟨(hI.get (.s .z)), (hI.get .z), trivial⟩ hx2) ?_)
  rintro _ w2 ⟨rfl, hx3, hl1⟩
  refine ⟨_, rfl, ?_⟩
  replace hI := (hI.ext hx3)
  refine nk (cif h et (fun hb h => ?_) (fun hb h => ?_))
  ·refine sr (sm ?_)
   refine sa ?_
   refine nk (c_ret ?_)
   obtain rfl := some_inj h
   exact q_ret (vs := [vi i1]) Tryz.results177 ⟨ev_tmp rfl rfl, trivial⟩ (fq hI trivial)
  refine c_skip (k_same (c_region rfl ?_))
  refine sq (y_add rfl et ev_const) ?_
  refine sm ?_
  refine s_nil ?_
  exact k_loop (fuel1, wi64 (i1 + 1)) ⟨rfl, rfl, rfl, rfl, trivial⟩ ⟨_, hI.arr .n ⟨(.s (.s .z)), (.s (.s (.s .z))), trivial⟩, h⟩ (Nat.lt_succ_self _)
 refine c_exit ?_
 refine k_in ?_
 refine k_same (sr (sac ?_))
 refine nk (c_ret ?_)
 obtain rfl := some_inj h
 exact q_ret (vs := [vi (-1)]) Tryz.results177 ⟨ev_tmp rfl rfl, trivial⟩ (fq hI trivial)
theorem c_slices_ContainsFunc_api_Index_api_Index (F : NP) (w0 : World) (hF : ∀ k, F k → k < w0.heap.size) (s1 : List GIndex) (f1 : (GIndex → Option Bool)) (a1 : Option Addr) (c1 : Nat) (fv1 : Value) (hc : AllCl [Cl.sl cGIndex a1 c1 s1, clFn_k2 fv1 f1] F w0) (r : Bool)
  (h : m_slices_ContainsFunc_api_Index_api_Index s1 f1 = some r) :
  Calls Tryz.prog 152 #[vs a1 s1.length c1, fv1] w0 fun e w => e = .returned (vb r) ∧ Ext w0 w ∧ AllCl [] F w := by
 refine enterK Tryz.func152 rfl Tryz.ntmps152 rfl ?_
 have hI := Bun.start hF hc
 clear hc
 rw [m_slices_ContainsFunc_api_Index_api_Index] at h
 refine sr (sac ?_)
 refine nk (sr (sm ?_))
 refine sm ?_
 obtain ⟨r1, hx1, h⟩ := bnd_some h
 refine s_call gn rfl (r_callF (vs := [vs a1 s1.length c1, fv1]) rfl ok_177 ⟨et, ⟨et, trivial⟩⟩) (Calls.mono (c_slices_IndexFunc_api_Index_api_Index (Dj F noM) w0 hI.lt s1 f1 a1 c1 fv1 ⟨(hI.get .z), (hI.get (.s .z)), trivial⟩ r1 hx1) ?_)
 rintro _ w1 ⟨rfl, hx2, hl1⟩
 refine ⟨_, rfl, ?_⟩
 replace hI := (hI.ext hx2)
 refine sq (y_geq rfl et ev_const) ?_
 refine sa ?_
 refine nk (c_ret ?_)
 obtain rfl := some_inj h
 exact q_ret (vs := [(vb (decide (0 ≤ r1)))]) Tryz.results152 ⟨ev_tmp rfl rfl, trivial⟩ (fq hI trivial)
theorem c_expr_wellFormed (F : NP) (w0 : World) (hF : ∀ k, F k → k < w0.heap.size) (x1 : GIndex) (a1 : Option Addr) (c1 : Nat) (a2 : Option Addr) (c2 : Nat) (hc : AllCl [Cl.sl cGMono a1 c1 x1.Lin.L, Cl.sl cGLin a2 c2 x1.At] F w0) (r : Bool)
  (h : m_expr_wellFormed x1 = some r) :
  Calls Tryz.prog 154 #[(Value.agg #[vi x1.Lin.K, vs a1 x1.Lin.L.length c1, (str x1.From), vs a2 x1.At.length c2])] w0 fun e w => e = .returned (vb r) ∧ Ext w0 w ∧ AllCl [] F w := by
 refine enterK Tryz.func154 rfl Tryz.ntmps154 rfl ?_
 have hI := Bun.start hF hc
 clear hc
 rw [m_expr_wellFormed] at h
 refine sr (l_box (v := (Value.agg #[vi x1.Lin.K, vs a1 x1.Lin.L.length c1, (str x1.From), vs a2 x1.At.length c2])) (cs := #[vi x1.Lin.K, vs a1 x1.Lin.L.length c1, (str x1.From), vs a2 x1.At.length c2]) hI gn rfl rfl et rfl ?_)
 clear hI; intro b1 c3 w1 hI
 obtain ⟨c4, hI⟩ := hI.relBox .z
 refine sac ?_
 refine nk (c_seq (sr (sq (y_fieldAddr rfl et u32 rfl size_9 rfl) ?_)))
 refine sq (y_load1 (v := (str x1.From)) rfl et u9 rfl (hI.kblk (l := [(str x1.From)]) .z rfl).1) ?_
 refine sq (y_eqs rfl et ev_const) ?_
 refine nk (cif h et (fun hb h => ?_) (fun hb h => ?_))
 ·refine sr (sq (y_fieldAddr rfl et u32 rfl size_30 rfl) ?_)
  refine sq (y_load1 (v := (vs a2 x1.At.length c2)) rfl et u30 rfl (hI.kblk (l := [vs a2 x1.At.length c2]) .z rfl).1) ?_
  refine sq (y_lenl rfl u30 et) ?_
  refine sq (y_eql rfl et ev_const) ?_
  refine sa ?_
  refine nk (c_ret ?_)
  obtain rfl := some_inj h
  exact q_ret (vs := [(vb (decide ((x1.At.length : Int) = 0)))]) Tryz.results154 ⟨ev_tmp rfl rfl, trivial⟩ (fq hI trivial)
 refine c_skip (k_same (sr (sq (y_fieldAddr rfl et u32 rfl size_29 rfl) ?_)))
 refine sq (y_loadN (l := (lLin x1.Lin a1 c1)) rfl et u29 rfl size_29 (hI.kblk (l := (lLin x1.Lin a1 c1)) .z rfl).1) ?_
 obtain ⟨r1, hx1, h⟩ := bnd_some h
 refine s_call gn rfl (r_callF (vs := [(Value.agg (ALin x1.Lin a1 c1))]) rfl ok_151 ⟨et, trivial⟩) (Calls.mono (c_expr_isZero (Dj F c4) w1 hI.lt x1.Lin a1 c1 ⟨(hI.get (.s .z)), trivial⟩ r1 hx1) ?_)
 rintro _ w2 ⟨rfl, hx2, hl1⟩
 refine ⟨_, rfl, ?_⟩
 replace hI := (hI.ext hx2)
 refine sa ?_
 refine nk (c_ret ?_)
 obtain rfl := some_inj h
 exact q_ret (vs := [vb r1]) Tryz.results154 ⟨ev_tmp rfl rfl, trivial⟩ (fq hI trivial)
theorem c_expr_syntax_1 (F : NP) (w0 : World) (hF : ∀ k, F k → k < w0.heap.size) (x1 : GIndex) (a1 : Option Addr) (c1 : Nat) (a2 : Option Addr) (c2 : Nat) (hc : AllCl [Cl.sl cGMono a1 c1 x1.Lin.L, Cl.sl cGLin a2 c2 x1.At] F w0) (r : Bool)
  (h : m_expr_syntax_1 x1 = some r) :
  Calls Tryz.prog 153 #[(Value.agg #[vi x1.Lin.K, vs a1 x1.Lin.L.length c1, (str x1.From), vs a2 x1.At.length c2])] w0 fun e w => e = .returned (vb r) ∧ Ext w0 w ∧ AllCl [] F w := by
 refine enterK Tryz.func153 rfl Tryz.ntmps153 rfl ?_
 have hI := Bun.start hF hc
 clear hc
 rw [m_expr_syntax_1] at h
 refine sr (l_box (v := (Value.agg #[vi x1.Lin.K, vs a1 x1.Lin.L.length c1, (str x1.From), vs a2 x1.At.length c2])) (cs := #[vi x1.Lin.K, vs a1 x1.Lin.L.length c1, (str x1.From), vs a2 x1.At.length c2]) hI gn rfl rfl et rfl ?_)
 clear hI; intro b1 c3 w1 hI
 obtain ⟨c4, hI⟩ := hI.relBox .z
 refine sac ?_
 refine nk (sr (sq (y_loadN (l := [vi x1.Lin.K, vs a1 x1.Lin.L.length c1, (str x1.From), vs a2 x1.At.length c2]) rfl et u32 rfl size_32 (hI.kblk (l := [vi x1.Lin.K, vs a1 x1.Lin.L.length c1, (str x1.From), vs a2 x1.At.length c2]) .z rfl).1) ?_))
 obtain ⟨r1, hx1, h⟩ := bnd_some h
 refine s_call gn rfl (r_callF (vs := [(Value.agg #[vi x1.Lin.K, vs a1 x1.Lin.L.length c1, (str x1.From), vs a2 x1.At.length c2])]) rfl ok_154 ⟨et, trivial⟩) (Calls.mono (c_expr_wellFormed (Dj F c4) w1 hI.lt x1 a1 c1 a2 c2 ⟨(hI.get (.s .z)), (hI.get (.s (.s .z))), trivial⟩ r1 hx1) ?_)
 rintro _ w2 ⟨rfl, hx2, hl1⟩
 refine ⟨_, rfl, ?_⟩
 replace hI := (hI.ext hx2)
 refine sq (y_not rfl et) ?_
 refine sa ?_
 refine nk (c_ret ?_)
 obtain rfl := some_inj h
 exact q_ret (vs := [vb (!r1)]) Tryz.results153 ⟨ev_tmp rfl rfl, trivial⟩ (fq hI trivial)
theorem c_expr_syntax (F : NP) (w0 : World) (hF : ∀ k, F k → k < w0.heap.size) (e1 : GExpr) (a1 : Option Addr) (c1 : Nat) (a2 : Option Addr) (c2 : Nat) (a3 : Option Addr) (c3 : Nat) (hc : AllCl [Cl.sl cGMono a1 c1 e1.Lin.L, Cl.sl cGIndex a2 c2 e1.Idx, Cl.sl cGExpr a3 c3 e1.Args] F w0) (r : Bool)
  (h : m_expr_syntax e1 = some r) :
  Calls Tryz.prog 128 #[(Value.agg #[vi e1.Op, (str e1.Name), vi e1.Val.N, vi e1.Val.D, vi e1.Type_.Kind, vi e1.Type_.Bits, vi e1.Type_.Frac, vi e1.Type_.Round, vi e1.Type_.Over, vi e1.Lin.K, vs a1 e1.Lin.L.length c1, vs a2 e1.Idx.length c2, vs a3 e1.Args.length c3])] w0 fun e w => e = .returned (vb r) ∧ Ext w0 w ∧ AllCl [] F w := by
 refine enterK Tryz.func128 rfl Tryz.ntmps128 rfl ?_
 have hI := Bun.start hF hc
 clear hc
 rw [m_expr_syntax] at h
 refine sr (l_box (v := (Value.agg #[vi e1.Op, (str e1.Name), vi e1.Val.N, vi e1.Val.D, vi e1.Type_.Kind, vi e1.Type_.Bits, vi e1.Type_.Frac, vi e1.Type_.Round, vi e1.Type_.Over, vi e1.Lin.K, vs a1 e1.Lin.L.length c1, vs a2 e1.Idx.length c2, vs a3 e1.Args.length c3])) (cs := #[vi e1.Op, (str e1.Name), vi e1.Val.N, vi e1.Val.D, vi e1.Type_.Kind, vi e1.Type_.Bits, vi e1.Type_.Frac, vi e1.Type_.Round, vi e1.Type_.Over, vi e1.Lin.K, vs a1 e1.Lin.L.length c1, vs a2 e1.Idx.length c2, vs a3 e1.Args.length c3]) hI gn rfl rfl et rfl ?_)
 clear hI; intro b1 c4 w1 hI
 obtain ⟨c5, hI⟩ := hI.relBox .z
 refine sac ?_
 refine nk (c_seq (c_drawX [] false (.c (0, .q) (.c (1, .q) (.c (2, .q) (.c (3, .q) (.c (4, .q) (.c (5, .q) (.c (6, .q) (.c (7, .q) (.c (8, .q) (.c (9, .q) (.c (10, .q) (.c (11, .q) (.c (12, .q) .n))))))))))))) hI (by kernel_rfl) (by kernel_rfl) ?_))
 clear hI; intro w2 hI
 refine a_q rfl gn rfl (fun w' => y_fieldAddr rfl et u39 rfl size_3 rfl) ?_
 refine a_read rfl gn rfl (fun w' hw' => (y_load1 (v := (vi e1.Op)) rfl et u3 rfl ((hI.kblk (l := [vi e1.Op]) .z rfl).at_ (SX.any rfl hw')))) (by kernel_rfl) ?_
 refine a_q rfl gn rfl (fun w' => y_eql rfl et ev_const) ?_
 refine a_q rfl gn rfl (fun w' => y_fieldAddr rfl et u39 rfl size_3 rfl) ?_
 refine a_read rfl gn rfl (fun w' hw' => (y_load1 (v := (vi e1.Op)) rfl et u3 rfl ((hI.kblk (l := [vi e1.Op]) .z rfl).at_ (SX.any rfl hw')))) (by kernel_rfl) ?_
 refine a_q rfl gn rfl (fun w' => y_eql rfl et ev_const) ?_
 refine a_q rfl gn rfl (fun w' => y_move rfl et) ?_
 refine a_gval rfl (g_false rfl rfl rfl rfl) rfl (fun hc => fun w' => (y_fieldAddr rfl et u39 rfl size_3 rfl)) ?_
 refine a_gread rfl (g_false rfl rfl rfl rfl) rfl (fun hc => fun w' hw' => (y_load1 (v := (vi e1.Op)) rfl (ev_gv et hc) u3 rfl ((hI.kblk (l := [vi e1.Op]) .z rfl).at_ (SX.any rfl hw')))) (by kernel_rfl) ?_
 refine a_gval rfl (g_false rfl rfl rfl rfl) rfl (fun hc => fun w' => (y_eql rfl (ev_gv et hc) ev_const)) ?_
 refine a_q rfl gn rfl (fun w' => y_or rfl et et) ?_
 refine a_q rfl gn rfl (fun w' => y_assign rfl et) ?_
 refine a_q rfl gn rfl (fun w' => y_assign rfl et) ?_
 refine a_nil ?_
 refine k_same (c_seq (c_drawX [] false (.c (0, .q) (.c (1, .q) (.c (2, .q) (.c (3, .q) (.c (4, .q) (.c (5, .q) (.c (6, .q) (.c (7, .q) .n)))))))) hI (by kernel_rfl) (by kernel_rfl) ?_))
 clear hI; intro w3 hI
 refine a_q rfl gn rfl (fun w' => y_fieldAddr rfl et u39 rfl size_3 rfl) ?_
 refine a_read rfl gn rfl (fun w' hw' => (y_load1 (v := (vi e1.Op)) rfl et u3 rfl ((hI.kblk (l := [vi e1.Op]) .z rfl).at_ (SX.any rfl hw')))) (by kernel_rfl) ?_
 refine a_q rfl gn rfl (fun w' => y_eql rfl et ev_const) ?_
 refine a_q rfl gn rfl (fun w' => y_fieldAddr rfl et u39 rfl size_3 rfl) ?_
 refine a_read rfl gn rfl (fun w' hw' => (y_load1 (v := (vi e1.Op)) rfl et u3 rfl ((hI.kblk (l := [vi e1.Op]) .z rfl).at_ (SX.any rfl hw')))) (by kernel_rfl) ?_
 refine a_q rfl gn rfl (fun w' => y_eql rfl et ev_const) ?_
 refine a_q rfl gn rfl (fun w' => y_assign rfl et) ?_
 refine a_q rfl gn rfl (fun w' => y_assign rfl et) ?_
 refine a_nil ?_
 refine k_same (c_seq (c_block (sr (sq (y_fieldAddr rfl et u39 rfl size_3 rfl) ?_))))
 refine sq (y_load1 (v := (vi e1.Op)) rfl et u3 rfl (hI.kblk (l := [vi e1.Op]) .z rfl).1) ?_
 refine sq (y_lss rfl et ev_const) ?_
 refine sm ?_
 refine s_gval (g_false rfl rfl rfl rfl) rfl (fun hc => y_fieldAddr rfl et u39 rfl size_3 rfl) ?_
 refine s_gval (g_false rfl rfl rfl rfl) rfl (fun hc => (y_load1 (v := (vi e1.Op)) rfl (ev_gv et hc) u3 rfl (hI.kblk (l := [vi e1.Op]) .z rfl).1)) ?_
 refine s_gval (g_false rfl rfl rfl rfl) rfl (fun hc => y_gtr rfl (ev_gv et hc) ev_const) ?_
 refine sq (y_or rfl et et) ?_
 refine sa ?_
 refine s_nil ?_
 refine k_next (e := [(1, vp b1 0), (3, (vb (decide (e1.Op = 1)))), (4, (vb ((decide (e1.Op = 1)) || (decide (e1.Op = 12))))), (5, (vb (decide (e1.Op = 2)))), (6, (vb (decide (e1.Op = 3)))), (24, (vb ((decide (e1.Op < 1)) || (decide (18 < e1.Op)))))]) ⟨rfl, rfl, rfl, rfl, rfl, rfl, trivial⟩ ?_
 refine cif h et (fun hb h => ?_) (fun hb h => ?_)
 ·refine sr (sac ?_)
  refine nk (c_ret ?_)
  obtain rfl := some_inj h
  exact q_ret (vs := [vb false]) Tryz.results128 ⟨ev_tmp rfl rfl, trivial⟩ (fq hI trivial)
 refine sr (sm ?_)
 refine sq (y_not rfl et) ?_
 refine sm ?_
 refine s_gval (g_true rfl rfl rfl rfl) rfl (fun hc => y_fieldAddr rfl et u39 rfl size_36 rfl) ?_
 refine s_gval (g_true rfl rfl rfl rfl) rfl (fun hc => (y_loadN (l := (lVal e1.Val)) rfl (ev_gv et hc) u36 rfl size_36 (hI.kblk (l := (lVal e1.Val)) .z rfl).1)) ?_
 refine s_gval (g_true rfl rfl rfl rfl) rfl (fun hc => y_build (vs := []) (cs := #[vi 0, vi 0]) rfl trivial (by kernel_rfl)) ?_
 refine s_gval (g_true rfl rfl rfl rfl) rfl (fun hc => y_bin rfl (ev_gv et hc) (ev_gv et hc) (eqstruct_36n ..) (eqguard_36 ..)) ?_
 refine sq (y_and rfl et et) ?_
 refine sa ?_
 refine nk (cif h et (fun hb h => ?_) (fun hb h => ?_))
 ·refine sr (sac ?_)
  refine nk (c_ret ?_)
  obtain rfl := some_inj h
  exact q_ret (vs := [vb false]) Tryz.results128 ⟨ev_tmp rfl rfl, trivial⟩ (fq hI trivial)
 refine sr (sm ?_)
 refine sq (y_not rfl et) ?_
 refine sm ?_
 refine s_gval (g_true rfl rfl rfl rfl) rfl (fun hc => y_fieldAddr rfl et u39 rfl size_23 rfl) ?_
 refine s_gval (g_true rfl rfl rfl rfl) rfl (fun hc => (y_loadN (l := (lType e1.Type_)) rfl (ev_gv et hc) u23 rfl size_23 (hI.kblk (l := (lType e1.Type_)) .z rfl).1)) ?_
 refine s_gval (g_true rfl rfl rfl rfl) rfl (fun hc => y_build (vs := []) (cs := ZType) rfl trivial (by kernel_rfl)) ?_
 refine s_gval (g_true rfl rfl rfl rfl) rfl (fun hc => y_bin rfl (ev_gv et hc) (ev_gv et hc) (eqstruct_23n ..) (eqguard_23 ..)) ?_
 refine sq (y_and rfl et et) ?_
 refine sa ?_
 refine nk (cif h et (fun hb h => ?_) (fun hb h => ?_))
 ·refine sr (sac ?_)
  refine s_nil ?_
  refine k_next (e := [(2, vb false)]) ⟨rfl, trivial⟩ ?_
  refine c_ret ?_
  obtain rfl := some_inj h
  exact q_ret (vs := [vb false]) Tryz.results128 ⟨ev_tmp rfl rfl, trivial⟩ (fq hI trivial)
 refine sr (sm ?_)
 refine sq (y_not rfl et) ?_
 refine sm ?_
 refine s_gval (g_true rfl rfl rfl rfl) rfl (fun hc => y_fieldAddr rfl et u39 rfl size_29 rfl) ?_
 refine s_gval (g_true rfl rfl rfl rfl) rfl (fun hc => (y_loadN (l := (lLin e1.Lin a1 c1)) rfl (ev_gv et hc) u29 rfl size_29 (hI.kblk (l := (lLin e1.Lin a1 c1)) .z rfl).1)) ?_
 obtain ⟨r1, hx1, h⟩ := bnd_some h
 replace hx1 := gd_some hx1
 refine s_gcallU (v := (vb r1)) (g_true rfl rfl rfl rfl) rfl (fun hc => (r_callF (vs := [(Value.agg (ALin e1.Lin a1 c1))]) rfl ok_151 ⟨(ev_gv et hc), trivial⟩)) (fun hc => (c_expr_isZero (Dj F c5) w3 hI.lt e1.Lin a1 c1 ⟨(hI.get (.s .z)), trivial⟩ r1 (hx1 hc)).mono fun _ _ k => ⟨k.1, k.2.1⟩) ?_
 intro w4 hx2; replace hI := hI.ext hx2
 refine s_gval (g_true rfl rfl rfl rfl) rfl (fun hc => y_not rfl (ev_gv et hc)) ?_
 refine sq (y_and rfl et et) ?_
 refine sa ?_
 refine s_nil ?_
 refine k_next (e := [(1, vp b1 0), (6, (vb (decide (e1.Op = 3)))), (51, (vb ((!(decide (e1.Op = 2))) && (!r1))))]) ⟨rfl, rfl, rfl, trivial⟩ ?_
 refine cif h et (fun hb h => ?_) (fun hb h => ?_)
 ·refine sr (sac ?_)
  refine nk (c_ret ?_)
  obtain rfl := some_inj h
  exact q_ret (vs := [vb false]) Tryz.results128 ⟨ev_tmp rfl rfl, trivial⟩ (fq hI trivial)
 refine sr (sm ?_)
 refine sq (y_not rfl et) ?_
 refine sm ?_
 refine s_gval (g_true rfl rfl rfl rfl) rfl (fun hc => y_fieldAddr rfl et u39 rfl size_9 rfl) ?_
 refine s_gval (g_true rfl rfl rfl rfl) rfl (fun hc => (y_load1 (v := (str e1.Name)) rfl (ev_gv et hc) u9 rfl (hI.kblk (l := [(str e1.Name)]) .z rfl).1)) ?_
 refine s_gval (g_true rfl rfl rfl rfl) rfl (fun hc => y_nes rfl (ev_gv et hc) ev_const) ?_
 refine s_gval (g_true rfl rfl rfl rfl) rfl (fun hc => y_move rfl (ev_gv et hc)) ?_
 refine s_gval (g_false2 rfl rfl rfl rfl) rfl (fun hc => y_fieldAddr rfl et u39 rfl size_34 rfl) ?_
 refine s_gval (g_false2 rfl rfl rfl rfl) rfl (fun hc => (y_load1 (v := (vs a2 e1.Idx.length c2)) rfl (ev_gv et hc) u34 rfl (hI.kblk (l := [vs a2 e1.Idx.length c2]) .z rfl).1)) ?_
 refine s_gval (g_false2 rfl rfl rfl rfl) rfl (fun hc => y_lenl rfl u34 (ev_gv et hc)) ?_
 refine s_gval (g_false2 rfl rfl rfl rfl) rfl (fun hc => y_gtr rfl (ev_gv et hc) ev_const) ?_
 refine s_gval (g_true rfl rfl rfl rfl) rfl (fun hc => y_or2 rfl hc et et) ?_
 refine sq (y_and rfl et et) ?_
 refine sa ?_
 refine nk (cif h et (fun hb h => ?_) (fun hb h => ?_))
 ·refine sr (sac ?_)
  refine nk (c_ret ?_)
  obtain rfl := some_inj h
  exact q_ret (vs := [vb false]) Tryz.results128 ⟨ev_tmp rfl rfl, trivial⟩ (fq hI trivial)
 refine c_skip (k_same (sr (sq (y_fieldAddr rfl et u39 rfl size_34 rfl) ?_)))
 refine sq (y_load1 (v := (vs a2 e1.Idx.length c2)) rfl et u34 rfl (hI.kblk (l := [vs a2 e1.Idx.length c2]) .z rfl).1) ?_
 have hI := hI.add (c := clFn_k2 (Value.func (.func 153) #[] #[]) m_expr_syntax_1) ⟨rfl, fun D' w' hs hl x_1 A_2 c_3 A_4 c_5 r k h => CallV.fn (cap := []) ok_153 (c_expr_syntax_1 D' w' hl x_1 A_2 c_3 A_4 c_5 ⟨k.1, k.2.1, trivial⟩ r h)⟩
 obtain ⟨r2, hx3, h⟩ := bnd_some h
 refine s_call gn rfl (r_callF (vs := [vs a2 e1.Idx.length c2, (Value.func (.func 153) #[] #[])]) rfl ok_152 ⟨et, ⟨ev_func, trivial⟩⟩) (Calls.mono (c_slices_ContainsFunc_api_Index_api_Index (Dj F c5) w4 hI.lt e1.Idx m_expr_syntax_1 a2 c2 (Value.func (.func 153) #[] #[]) ⟨(hI.get (.s (.s (.s .z)))), (hI.get .z), trivial⟩ r2 hx3) ?_)
 rintro _ w5 ⟨rfl, hx4, hl2⟩
 refine ⟨_, rfl, ?_⟩
 replace hI := (hI.ext hx4)
 refine sq (y_not rfl et) ?_
 refine sa ?_
 refine nk (c_ret ?_)
 obtain rfl := some_inj h
 exact q_ret (vs := [vb (!r2)]) Tryz.results128 ⟨ev_tmp rfl rfl, trivial⟩ (fq hI trivial)
theorem c_lexer_letter (F : NP) (w0 : World) (hF : ∀ k, F k → k < w0.heap.size) (r1 : Int) (hc : AllCl [] F w0) (r : Bool)
  (h : m_lexer_letter r1 = some r) :
  Calls Tryz.prog 81 #[(Value.int .i32 r1)] w0 fun e w => e = .returned (vb r) ∧ Ext w0 w ∧ AllCl [] F w := by
 refine enterK Tryz.func81 rfl Tryz.ntmps81 rfl ?_
 have hI := Bun.start hF hc
 clear hc
 rw [m_lexer_letter] at h
 refine sr (sac ?_)
 refine nk (sr (sm ?_))
 refine sq (y_geq rfl et ev_const) ?_
 refine sm ?_
 refine s_gval (g_true rfl rfl rfl rfl) rfl (fun hc => y_move rfl et) ?_
 refine s_gval (g_true rfl rfl rfl rfl) rfl (fun hc => y_leq rfl (ev_gv et hc) ev_const) ?_
 refine sq (y_and rfl et et) ?_
 refine sa ?_
 refine nk (c_ret ?_)
 obtain rfl := some_inj h
 exact q_ret (vs := [(vb ((decide (97 ≤ r1)) && (decide (r1 ≤ 122))))]) Tryz.results81 ⟨ev_tmp rfl rfl, trivial⟩ (fq hI trivial)
theorem c_lexer_span (F : NP) (w0 : World) (hF : ∀ k, F k → k < w0.heap.size) (s1 : List UInt8) (ok1 : (Int → Option Bool)) (fv1 : Value) (hc : AllCl [clFn_k3 fv1 ok1] F w0) (r : Int)
  (h : m_lexer_span s1 ok1 = some r) :
  Calls Tryz.prog 82 #[(str s1), fv1] w0 fun e w => e = .returned (vi r) ∧ Ext w0 w ∧ AllCl [] F w := by
 refine enterK Tryz.func82 rfl Tryz.ntmps82 rfl ?_
 have hI := Bun.start hF hc
 clear hc
 rw [m_lexer_span] at h
 refine sr (sac ?_)
 refine nk (sr (sac ?_))
 refine nk (c_seq (c_block (c_loop (α := Nat × Int) (fun x => fun w => ∃ C, Bun noM F w0 C w [] [clFn_k3 fv1 ok1] ∧ m_lexer_span_l1 s1 ok1 (x.1) (x.2) = some r) (fun x _ => x.1) (fun x => [(0, (str s1)), (1, fv1), (5, vi (x.2))]) (fu, 0) ⟨_, hI.arr .n ⟨.z, trivial⟩, h⟩ ⟨rfl, rfl, rfl, trivial⟩ ?_)))
 clear h hI; rintro ⟨fuel1, n1⟩ w1 ⟨c1, hI, h⟩
 dsimp only at hI h
 rcases fuel1 with _ | fuel1
 ·rw [m_lexer_span_l1] at h; cases h
 rw [m_lexer_span_l1] at h
 refine c_sub (e := [(0, (str s1)), (1, fv1), (5, vi n1)]) ⟨rfl, rfl, rfl, trivial⟩ ?_
 refine c_seq (sr (sm ?_))
 refine sm ?_
 refine sq (y_lens rfl u9 et) ?_
 refine sq (y_lss rfl et et) ?_
 refine sm ?_
 refine s_gval (g_true rfl rfl rfl rfl) rfl (fun hc => y_move rfl et) ?_
 refine s_gval (g_true rfl rfl rfl rfl) rfl (fun hc => y_move rfl et) ?_
 refine s_gval (g_true rfl rfl rfl rfl) rfl (fun hc => y_move rfl et) ?_
 obtain ⟨b1, hx1, h⟩ := bnd_some h
 replace hx1 := gd_some hx1
 refine s_gval (g_true rfl rfl rfl rfl) rfl (fun hc => y_satl rfl u9 (ev_gv et hc) (ev_gv et hc) (hx1 hc)) ?_
 refine s_gval (g_true rfl rfl rfl rfl) rfl (fun hc => y_conv rfl (by rw [u5]; rfl) u21 (ev_gv et hc)) ?_
 obtain ⟨r1, hx2, h⟩ := bnd_some h
 replace hx2 := gd_some hx2
 refine s_gcallV (u := (vb r1)) (args := [(Value.int .i32 (wi32 b1))]) (g_true rfl rfl rfl rfl) rfl rfl (fun hc => (ev_gv et hc)) (fun hc => ⟨(ev_gv et hc), trivial⟩) (fun hc => CallV.mono ((hI.get .z).2 (Dj F c1) w1 (Sp.of_ext .rfl') hI.lt (wi32 b1) r1 trivial (hx2 hc)) fun _ _ k => ⟨k.1, k.2.1⟩) ?_
 intro w2 hx3; replace hI := hI.ext hx3
 refine sq (y_and rfl et et) ?_
 refine nk (cif h et (fun hb h => ?_) (fun hb h => ?_))
 ·refine c_skip (k_same (c_block (c_region rfl ?_)))
  refine sm ?_
  refine sq (y_add rfl et ev_const) ?_
  refine sa ?_
  refine s_nil ?_
  exact k_loop (fuel1, wi64 (n1 + 1)) ⟨rfl, rfl, rfl, trivial⟩ ⟨_, hI.arr .n ⟨.z, trivial⟩, h⟩ (Nat.lt_succ_self _)
 refine c_exit ?_
 refine k_in ?_
 refine k_same (sr (sm ?_))
 refine sa ?_
 refine nk (c_ret ?_)
 obtain rfl := some_inj h
 exact q_ret (vs := [vi n1]) Tryz.results82 ⟨ev_tmp rfl rfl, trivial⟩ (fq hI trivial)
theorem c_lexer_digit (F : NP) (w0 : World) (hF : ∀ k, F k → k < w0.heap.size) (r1 : Int) (hc : AllCl [] F w0) (r : Bool)
  (h : m_lexer_digit r1 = some r) :
  Calls Tryz.prog 115 #[(Value.int .i32 r1)] w0 fun e w => e = .returned (vb r) ∧ Ext w0 w ∧ AllCl [] F w := by
 refine enterK Tryz.func115 rfl Tryz.ntmps115 rfl ?_
 have hI := Bun.start hF hc
 clear hc
 rw [m_lexer_digit] at h
 refine sr (sac ?_)
 refine nk (sr (sm ?_))
 refine sq (y_geq rfl et ev_const) ?_
 refine sm ?_
 refine s_gval (g_true rfl rfl rfl rfl) rfl (fun hc => y_move rfl et) ?_
 refine s_gval (g_true rfl rfl rfl rfl) rfl (fun hc => y_leq rfl (ev_gv et hc) ev_const) ?_
 refine sq (y_and rfl et et) ?_
 refine sa ?_
 refine nk (c_ret ?_)
 obtain rfl := some_inj h
 exact q_ret (vs := [(vb ((decide (48 ≤ r1)) && (decide (r1 ≤ 57))))]) Tryz.results115 ⟨ev_tmp rfl rfl, trivial⟩ (fq hI trivial)
theorem c_lexer_inWord (F : NP) (w0 : World) (hF : ∀ k, F k → k < w0.heap.size) (r1 : Int) (hc : AllCl [] F w0) (r : Bool)
  (h : m_lexer_inWord r1 = some r) :
  Calls Tryz.prog 83 #[(Value.int .i32 r1)] w0 fun e w => e = .returned (vb r) ∧ Ext w0 w ∧ AllCl [] F w := by
 refine enterK Tryz.func83 rfl Tryz.ntmps83 rfl ?_
 have hI := Bun.start hF hc
 clear hc
 rw [m_lexer_inWord] at h
 refine sr (sac ?_)
 refine nk (sr (sm ?_))
 obtain ⟨r2, hx1, h⟩ := bnd_some h
 refine s_call gn rfl (r_callF (vs := [(Value.int .i32 r1)]) rfl ok_81 ⟨et, trivial⟩) (Calls.mono (c_lexer_letter (Dj F noM) w0 hI.lt r1 trivial r2 hx1) ?_)
 rintro _ w1 ⟨rfl, hx2, hl1⟩
 refine ⟨_, rfl, ?_⟩
 replace hI := (hI.ext hx2)
 refine sm ?_
 refine s_gval (g_false rfl rfl rfl rfl) rfl (fun hc => y_move rfl et) ?_
 obtain ⟨r3, hx3, h⟩ := bnd_some h
 replace hx3 := gd_some hx3
 refine s_gcallU (v := (vb r3)) (g_false rfl rfl rfl rfl) rfl (fun hc => (r_callF (vs := [(Value.int .i32 r1)]) rfl ok_115 ⟨(ev_gv et hc), trivial⟩)) (fun hc => (c_lexer_digit (Dj F noM) w1 hI.lt r1 trivial r3 (hx3 hc)).mono fun _ _ k => ⟨k.1, k.2.1⟩) ?_
 intro w2 hx4; replace hI := hI.ext hx4
 refine sq (y_or rfl et et) ?_
 refine sm ?_
 refine s_gval (g_false rfl rfl rfl rfl) rfl (fun hc => y_move rfl et) ?_
 refine s_gval (g_false rfl rfl rfl rfl) rfl (fun hc => y_eql rfl (ev_gv et hc) ev_const) ?_
 refine sq (y_or rfl et et) ?_
 refine sa ?_
 refine nk (c_ret ?_)
 obtain rfl := some_inj h
 exact q_ret (vs := [(vb ((r2 || r3) || (decide (r1 = 95))))]) Tryz.results83 ⟨ev_tmp rfl rfl, trivial⟩ (fq hI trivial)
theorem c_lexer_keywords (F : NP) (w0 : World) (hF : ∀ k, F k → k < w0.heap.size) (hc : AllCl [clSpace] F w0) (r : List (List UInt8))
  (h : m_lexer_keywords = some r) :
  Calls Tryz.prog 124 #[] w0 fun e w => ∃ (a1 : Option Addr) (c1 : Nat), e = .returned (vs a1 r.length c1) ∧ Ext w0 w ∧ AllCl [Cl.sl cStr a1 c1 r] F w := by
 refine enterK Tryz.func124 rfl Tryz.ntmps124 rfl ?_
 have hI := Bun.start hF hc
 clear hc
 rw [m_lexer_keywords] at h
 refine sr (sac ?_)
 refine nk (sr ?_)
 obtain ⟨r1, hx1, h⟩ := bnd_some h
 refine s_call gn rfl (r_callF (vs := [(str ([115, 105, 122, 101, 32, 119, 104, 101, 114, 101, 32, 105, 110, 32, 100, 101, 102, 32, 111, 117, 116, 32, 115, 117, 109, 32, 112, 114, 111, 100, 32, 109, 105, 110, 32, 109, 97, 120, 32, 115, 99, 97, 110, 32, 111, 118, 101, 114, 32, 105, 102, 32, 99, 97, 115, 116, 32, 102, 114, 97, 99, 32, 105, 110, 116, 32, 102, 105, 120, 32, 99, 101, 105, 108, 32, 102, 108, 111, 111, 114, 32, 122, 101, 114, 111, 32, 101, 118, 101, 110, 32, 115, 97, 116, 32, 119, 114, 97, 112] : List UInt8))]) rfl ok_150 ⟨ev_const, trivial⟩) (Calls.mono (c_strings_Fields (Dj F noM) w0 hI.lt ([115, 105, 122, 101, 32, 119, 104, 101, 114, 101, 32, 105, 110, 32, 100, 101, 102, 32, 111, 117, 116, 32, 115, 117, 109, 32, 112, 114, 111, 100, 32, 109, 105, 110, 32, 109, 97, 120, 32, 115, 99, 97, 110, 32, 111, 118, 101, 114, 32, 105, 102, 32, 99, 97, 115, 116, 32, 102, 114, 97, 99, 32, 105, 110, 116, 32, 102, 105, 120, 32, 99, 101, 105, 108, 32, 102, 108, 111, 111, 114, 32, 122, 101, 114, 111, 32, 101, 118, 101, 110, 32, 115, 97, 116, 32, 119, 114, 97, 112] : List UInt8) ⟨(hI.get .z), trivial⟩ r1 hx1) ?_)
 rintro _ w1 ⟨a2, c2, rfl, hx2, hl1⟩
 refine ⟨_, rfl, ?_⟩
 replace hI := (hI.ext hx2).adds hl1
 refine sa ?_
 refine nk (c_ret ?_)
 obtain rfl := some_inj h
 exact q_ret (vs := [vs a2 r1.length c2]) Tryz.results124 ⟨ev_tmp rfl rfl, trivial⟩ ⟨a2, c2, rfl, hI.ext0, hI.fin ⟨.z, trivial⟩⟩
theorem c_slices_Index_string_string (F : NP) (w0 : World) (hF : ∀ k, F k → k < w0.heap.size) (s1 : List (List UInt8)) (v1 : List UInt8) (a1 : Option Addr) (c1 : Nat) (hc : AllCl [Cl.sl cStr a1 c1 s1] F w0) (r : Int)
  (h : m_slices_Index_string_string s1 v1 = some r) :
  Calls Tryz.prog 149 #[vs a1 s1.length c1, (str v1)] w0 fun e w => e = .returned (vi r) ∧ Ext w0 w ∧ AllCl [] F w := by
 refine enterK Tryz.func149 rfl Tryz.ntmps149 rfl ?_
 have hI := Bun.start hF hc
 clear hc
 rw [m_slices_Index_string_string] at h
 refine sr (sac ?_)
 refine nk (c_seq (sr (sm ?_)))
 refine sq (y_lenl rfl u55 et) ?_
 refine sq (y_move rfl ev_const) ?_
 refine nk (c_block (c_loop (α := Nat × Int) (fun x => fun w => ∃ C, Bun noM F w0 C w [] [Cl.sl cStr a1 c1 s1] ∧ m_slices_Index_string_string_l1 s1 v1 (x.1) (x.2) = some r) (fun x _ => x.1) (fun x => [(0, vs a1 s1.length c1), (1, (str v1)), (7, vi (s1.length : Int)), (8, vi (x.2))]) (fu, 0) ⟨_, hI.arr .n ⟨.z, trivial⟩, h⟩ ⟨rfl, rfl, rfl, rfl, trivial⟩ ?_))
 clear h hI; rintro ⟨fuel1, i1⟩ w1 ⟨c2, hI, h⟩
 dsimp only at hI h
 rcases fuel1 with _ | fuel1
 ·rw [m_slices_Index_string_string_l1] at h; cases h
 rw [m_slices_Index_string_string_l1] at h
 refine c_sub (e := [(0, vs a1 s1.length c1), (1, (str v1)), (7, vi (s1.length : Int)), (8, vi i1)]) ⟨rfl, rfl, rfl, rfl, trivial⟩ ?_
 refine sr (sq (y_lss rfl et et) ?_)
 refine nk (c_seq (cif h et (fun hb h => ?_) (fun hb h => ?_)))
 ·refine c_skip (k_same (c_seq (c_block (sr (sm ?_)))))
  refine sa ?_
  refine nk (sr (sm ?_))
  refine sm ?_
  refine sm ?_
  obtain ⟨e1, hx1, h⟩ := bnd_some h
  obtain ⟨ad1, cs1, hA1, hr1, hq1⟩ := hI.clat .z hx1
  obtain rfl : cs1 = [(str e1)] := hr1
  refine sq (y_indexAddr rfl u55 size_9 et et (lat_bd hx1) hA1) ?_
  refine sq (y_load1 (v := (str e1)) rfl et u9 rfl hq1.1) ?_
  refine sq (y_eqs rfl et et) ?_
  refine nk (cif h et (fun hb h => ?_) (fun hb h => ?_))
  ·refine sr (sm ?_)
   refine sa ?_
   refine nk (c_ret ?_)
   obtain rfl := some_inj h
   exact q_ret (vs := [vi i1]) Tryz.results149 ⟨ev_tmp rfl rfl, trivial⟩ (fq hI trivial)
  refine c_skip (k_same (c_region rfl ?_))
  refine sq (y_add rfl et ev_const) ?_
  refine sm ?_
  refine s_nil ?_
  exact k_loop (fuel1, wi64 (i1 + 1)) ⟨rfl, rfl, rfl, rfl, trivial⟩ ⟨_, hI.arr .n ⟨.z, trivial⟩, h⟩ (Nat.lt_succ_self _)
 refine c_exit ?_
 refine k_in ?_
 refine k_same (sr (sac ?_))
 refine nk (c_ret ?_)
 obtain rfl := some_inj h
 exact q_ret (vs := [vi (-1)]) Tryz.results149 ⟨ev_tmp rfl rfl, trivial⟩ (fq hI trivial)
theorem c_slices_Contains_string_string (F : NP) (w0 : World) (hF : ∀ k, F k → k < w0.heap.size) (s1 : List (List UInt8)) (v1 : List UInt8) (a1 : Option Addr) (c1 : Nat) (hc : AllCl [Cl.sl cStr a1 c1 s1] F w0) (r : Bool)
  (h : m_slices_Contains_string_string s1 v1 = some r) :
  Calls Tryz.prog 123 #[vs a1 s1.length c1, (str v1)] w0 fun e w => e = .returned (vb r) ∧ Ext w0 w ∧ AllCl [] F w := by
 refine enterK Tryz.func123 rfl Tryz.ntmps123 rfl ?_
 have hI := Bun.start hF hc
 clear hc
 rw [m_slices_Contains_string_string] at h
 refine sr (sac ?_)
 refine nk (sr (sm ?_))
 refine sm ?_
 obtain ⟨r1, hx1, h⟩ := bnd_some h
 refine s_call gn rfl (r_callF (vs := [vs a1 s1.length c1, (str v1)]) rfl ok_149 ⟨et, ⟨et, trivial⟩⟩) (Calls.mono (c_slices_Index_string_string (Dj F noM) w0 hI.lt s1 v1 a1 c1 ⟨(hI.get .z), trivial⟩ r1 hx1) ?_)
 rintro _ w1 ⟨rfl, hx2, hl1⟩
 refine ⟨_, rfl, ?_⟩
 replace hI := (hI.ext hx2)
 refine sq (y_geq rfl et ev_const) ?_
 refine sa ?_
 refine nk (c_ret ?_)
 obtain rfl := some_inj h
 exact q_ret (vs := [(vb (decide (0 ≤ r1)))]) Tryz.results123 ⟨ev_tmp rfl rfl, trivial⟩ (fq hI trivial)
theorem c_lexer_IsKeyword (F : NP) (w0 : World) (hF : ∀ k, F k → k < w0.heap.size) (s1 : List UInt8) (hc : AllCl [clSpace] F w0) (r : Bool)
  (h : m_lexer_IsKeyword s1 = some r) :
  Calls Tryz.prog 84 #[(str s1)] w0 fun e w => e = .returned (vb r) ∧ Ext w0 w ∧ AllCl [] F w := by
 refine enterK Tryz.func84 rfl Tryz.ntmps84 rfl ?_
 have hI := Bun.start hF hc
 clear hc
 rw [m_lexer_IsKeyword] at h
 refine sr (sac ?_)
 refine nk (sr ?_)
 obtain ⟨r1, hx1, h⟩ := bnd_some h
 refine s_call gn rfl (r_callF (vs := []) rfl ok_124 trivial) (Calls.mono (c_lexer_keywords (Dj F noM) w0 hI.lt ⟨(hI.get .z), trivial⟩ r1 hx1) ?_)
 rintro _ w1 ⟨a1, c1, rfl, hx2, hl1⟩
 refine ⟨_, rfl, ?_⟩
 replace hI := (hI.ext hx2).adds hl1
 refine sm ?_
 obtain ⟨r2, hx3, h⟩ := bnd_some h
 refine s_call gn rfl (r_callF (vs := [vs a1 r1.length c1, (str s1)]) rfl ok_123 ⟨et, ⟨et, trivial⟩⟩) (Calls.mono (c_slices_Contains_string_string (Dj F noM) w1 hI.lt r1 s1 a1 c1 ⟨(hI.get .z), trivial⟩ r2 hx3) ?_)
 rintro _ w2 ⟨rfl, hx4, hl2⟩
 refine ⟨_, rfl, ?_⟩
 replace hI := (hI.ext hx4)
 refine sa ?_
 refine nk (c_ret ?_)
 obtain rfl := some_inj h
 exact q_ret (vs := [vb r2]) Tryz.results84 ⟨ev_tmp rfl rfl, trivial⟩ (fq hI trivial)
theorem c_lexer_IsName (F : NP) (w0 : World) (hF : ∀ k, F k → k < w0.heap.size) (s1 : List UInt8) (hc : AllCl [clSpace] F w0) (r : Bool)
  (h : m_lexer_IsName s1 = some r) :
  Calls Tryz.prog 37 #[(str s1)] w0 fun e w => e = .returned (vb r) ∧ Ext w0 w ∧ AllCl [] F w := by
 refine enterK Tryz.func37 rfl Tryz.ntmps37 rfl ?_
 have hI := Bun.start hF hc
 clear hc
 rw [m_lexer_IsName] at h
 refine sr (sac ?_)
 refine nk (sr (sm ?_))
 refine sq (y_nes rfl et ev_const) ?_
 refine sm ?_
 refine s_gval (g_true rfl rfl rfl rfl) rfl (fun hc => y_move rfl et) ?_
 refine s_gval (g_true rfl rfl rfl rfl) rfl (fun hc => y_lens rfl u9 (ev_gv et hc)) ?_
 refine s_gval (g_true rfl rfl rfl rfl) rfl (fun hc => y_leq rfl (ev_gv et hc) ev_const) ?_
 refine sq (y_and rfl et et) ?_
 refine sm ?_
 refine s_gval (g_true rfl rfl rfl rfl) rfl (fun hc => y_move rfl et) ?_
 obtain ⟨b1, hx1, h⟩ := bnd_some h
 replace hx1 := gd_some hx1
 refine s_gval (g_true rfl rfl rfl rfl) rfl (fun hc => y_satl rfl u9 (ev_gv et hc) ev_const (hx1 hc)) ?_
 refine s_gval (g_true rfl rfl rfl rfl) rfl (fun hc => y_conv rfl (by rw [u5]; rfl) u21 (ev_gv et hc)) ?_
 obtain ⟨r1, hx2, h⟩ := bnd_some h
 replace hx2 := gd_some hx2
 refine s_gcallU (v := (vb r1)) (g_true rfl rfl rfl rfl) rfl (fun hc => (r_callF (vs := [(Value.int .i32 (wi32 b1))]) rfl ok_81 ⟨(ev_gv et hc), trivial⟩)) (fun hc => (c_lexer_letter (Dj F noM) w0 hI.lt (wi32 b1) trivial r1 (hx2 hc)).mono fun _ _ k => ⟨k.1, k.2.1⟩) ?_
 intro w1 hx3; replace hI := hI.ext hx3
 refine sq (y_and rfl et et) ?_
 refine sm ?_
 refine s_gval (g_true rfl rfl rfl rfl) rfl (fun hc => y_move rfl et) ?_
 have hI := hI.add (c := clFn_k3 (Value.func (.func 83) #[] #[]) m_lexer_inWord) ⟨rfl, fun D' w' hs hl x_1 r k h => CallV.fn (cap := []) ok_83 (c_lexer_inWord D' w' hl x_1 trivial r h)⟩
 obtain ⟨r2, hx4, h⟩ := bnd_some h
 replace hx4 := gd_some hx4
 refine s_gcallU (v := (vi r2)) (g_true rfl rfl rfl rfl) rfl (fun hc => (r_callF (vs := [(str s1), (Value.func (.func 83) #[] #[])]) rfl ok_82 ⟨(ev_gv et hc), ⟨ev_func, trivial⟩⟩)) (fun hc => (c_lexer_span (Dj F noM) w1 hI.lt s1 m_lexer_inWord (Value.func (.func 83) #[] #[]) ⟨(hI.get .z), trivial⟩ r2 (hx4 hc)).mono fun _ _ k => ⟨k.1, k.2.1⟩) ?_
 intro w2 hx5; replace hI := hI.ext hx5
 refine s_gval (g_true rfl rfl rfl rfl) rfl (fun hc => y_move rfl et) ?_
 refine s_gval (g_true rfl rfl rfl rfl) rfl (fun hc => y_lens rfl u9 (ev_gv et hc)) ?_
 refine s_gval (g_true rfl rfl rfl rfl) rfl (fun hc => y_eql rfl (ev_gv et hc) (ev_gv et hc)) ?_
 refine sq (y_and rfl et et) ?_
 refine sm ?_
 refine s_gval (g_true rfl rfl rfl rfl) rfl (fun hc => y_move rfl et) ?_
 obtain ⟨r3, hx6, h⟩ := bnd_some h
 replace hx6 := gd_some hx6
 refine s_gcallU (v := (vb r3)) (g_true rfl rfl rfl rfl) rfl (fun hc => (r_callF (vs := [(str s1)]) rfl ok_84 ⟨(ev_gv et hc), trivial⟩)) (fun hc => (c_lexer_IsKeyword (Dj F noM) w2 hI.lt s1 ⟨(hI.get (.s .z)), trivial⟩ r3 (hx6 hc)).mono fun _ _ k => ⟨k.1, k.2.1⟩) ?_
 intro w3 hx7; replace hI := hI.ext hx7
 refine s_gval (g_true rfl rfl rfl rfl) rfl (fun hc => y_not rfl (ev_gv et hc)) ?_
 refine sq (y_and rfl et et) ?_
 refine sa ?_
 refine s_nil ?_
 refine k_next (e := [(2, (vb (((((!decide (s1 = ([] : List UInt8))) && (decide ((s1.length : Int) ≤ 16))) && r1) && (decide (r2 = (s1.length : Int)))) && (!r3))))]) ⟨rfl, trivial⟩ ?_
 refine c_ret ?_
 obtain rfl := some_inj h
 exact q_ret (vs := [(vb (((((!decide (s1 = ([] : List UInt8))) && (decide ((s1.length : Int) ≤ 16))) && r1) && (decide (r2 = (s1.length : Int)))) && (!r3)))]) Tryz.results37 ⟨ev_tmp rfl rfl, trivial⟩ (fq hI trivial)
theorem c_expr_names_1 (F : NP) (w0 : World) (hF : ∀ k, F k → k < w0.heap.size) (x1 : GIndex) (a1 : Option Addr) (c1 : Nat) (a2 : Option Addr) (c2 : Nat) (hc : AllCl [Cl.sl cGMono a1 c1 x1.Lin.L, Cl.sl cGLin a2 c2 x1.At, clSpace] F w0) (r : Bool)
  (h : m_expr_names_1 x1 = some r) :
  Calls Tryz.prog 155 #[(Value.agg #[vi x1.Lin.K, vs a1 x1.Lin.L.length c1, (str x1.From), vs a2 x1.At.length c2])] w0 fun e w => e = .returned (vb r) ∧ Ext w0 w ∧ AllCl [] F w := by
 refine enterK Tryz.func155 rfl Tryz.ntmps155 rfl ?_
 have hI := Bun.start hF hc
 clear hc
 rw [m_expr_names_1] at h
 refine sr (l_box (v := (Value.agg #[vi x1.Lin.K, vs a1 x1.Lin.L.length c1, (str x1.From), vs a2 x1.At.length c2])) (cs := #[vi x1.Lin.K, vs a1 x1.Lin.L.length c1, (str x1.From), vs a2 x1.At.length c2]) hI gn rfl rfl et rfl ?_)
 clear hI; intro b1 c3 w1 hI
 obtain ⟨c4, hI⟩ := hI.relBox .z
 refine sac ?_
 refine nk (sr (sq (y_fieldAddr rfl et u32 rfl size_9 rfl) ?_))
 refine sq (y_load1 (v := (str x1.From)) rfl et u9 rfl (hI.kblk (l := [(str x1.From)]) .z rfl).1) ?_
 refine sq (y_nes rfl et ev_const) ?_
 refine sm ?_
 refine s_gval (g_true rfl rfl rfl rfl) rfl (fun hc => y_fieldAddr rfl et u32 rfl size_9 rfl) ?_
 refine s_gval (g_true rfl rfl rfl rfl) rfl (fun hc => (y_load1 (v := (str x1.From)) rfl (ev_gv et hc) u9 rfl (hI.kblk (l := [(str x1.From)]) .z rfl).1)) ?_
 obtain ⟨r1, hx1, h⟩ := bnd_some h
 replace hx1 := gd_some hx1
 refine s_gcallU (v := (vb r1)) (g_true rfl rfl rfl rfl) rfl (fun hc => (r_callF (vs := [(str x1.From)]) rfl ok_37 ⟨(ev_gv et hc), trivial⟩)) (fun hc => (c_lexer_IsName (Dj F c4) w1 hI.lt x1.From ⟨(hI.get (.s (.s (.s .z)))), trivial⟩ r1 (hx1 hc)).mono fun _ _ k => ⟨k.1, k.2.1⟩) ?_
 intro w2 hx2; replace hI := hI.ext hx2
 refine s_gval (g_true rfl rfl rfl rfl) rfl (fun hc => y_not rfl (ev_gv et hc)) ?_
 refine sq (y_and rfl et et) ?_
 refine sa ?_
 refine nk (c_ret ?_)
 obtain rfl := some_inj h
 exact q_ret (vs := [(vb ((!decide (x1.From = ([] : List UInt8))) && (!r1)))]) Tryz.results155 ⟨ev_tmp rfl rfl, trivial⟩ (fq hI trivial)
theorem c_expr_names (F : NP) (w0 : World) (hF : ∀ k, F k → k < w0.heap.size) (e1 : GExpr) (a1 : Option Addr) (c1 : Nat) (a2 : Option Addr) (c2 : Nat) (a3 : Option Addr) (c3 : Nat) (hc : AllCl [Cl.sl cGMono a1 c1 e1.Lin.L, Cl.sl cGIndex a2 c2 e1.Idx, Cl.sl cGExpr a3 c3 e1.Args, clSpace] F w0) (r : Bool)
  (h : m_expr_names e1 = some r) :
  Calls Tryz.prog 129 #[(Value.agg #[vi e1.Op, (str e1.Name), vi e1.Val.N, vi e1.Val.D, vi e1.Type_.Kind, vi e1.Type_.Bits, vi e1.Type_.Frac, vi e1.Type_.Round, vi e1.Type_.Over, vi e1.Lin.K, vs a1 e1.Lin.L.length c1, vs a2 e1.Idx.length c2, vs a3 e1.Args.length c3])] w0 fun e w => e = .returned (vb r) ∧ Ext w0 w ∧ AllCl [] F w := by
 refine enterK Tryz.func129 rfl Tryz.ntmps129 rfl ?_
 have hI := Bun.start hF hc
 clear hc
 rw [m_expr_names] at h
 refine sr (l_box (v := (Value.agg #[vi e1.Op, (str e1.Name), vi e1.Val.N, vi e1.Val.D, vi e1.Type_.Kind, vi e1.Type_.Bits, vi e1.Type_.Frac, vi e1.Type_.Round, vi e1.Type_.Over, vi e1.Lin.K, vs a1 e1.Lin.L.length c1, vs a2 e1.Idx.length c2, vs a3 e1.Args.length c3])) (cs := #[vi e1.Op, (str e1.Name), vi e1.Val.N, vi e1.Val.D, vi e1.Type_.Kind, vi e1.Type_.Bits, vi e1.Type_.Frac, vi e1.Type_.Round, vi e1.Type_.Over, vi e1.Lin.K, vs a1 e1.Lin.L.length c1, vs a2 e1.Idx.length c2, vs a3 e1.Args.length c3]) hI gn rfl rfl et rfl ?_)
 clear hI; intro b1 c4 w1 hI
 obtain ⟨c5, hI⟩ := hI.relBox .z
 refine sac ?_
 refine nk (c_seq (sr (sq (y_fieldAddr rfl et u39 rfl size_3 rfl) ?_)))
 refine sq (y_load1 (v := (vi e1.Op)) rfl et u3 rfl (hI.kblk (l := [vi e1.Op]) .z rfl).1) ?_
 refine sq (y_eql rfl et ev_const) ?_
 refine sm ?_
 refine s_gval (g_true rfl rfl rfl rfl) rfl (fun hc => y_fieldAddr rfl et u39 rfl size_9 rfl) ?_
 refine s_gval (g_true rfl rfl rfl rfl) rfl (fun hc => (y_load1 (v := (str e1.Name)) rfl (ev_gv et hc) u9 rfl (hI.kblk (l := [(str e1.Name)]) .z rfl).1)) ?_
 obtain ⟨r1, hx1, h⟩ := bnd_some h
 replace hx1 := gd_some hx1
 refine s_gcallU (v := (vb r1)) (g_true rfl rfl rfl rfl) rfl (fun hc => (r_callF (vs := [(str e1.Name)]) rfl ok_37 ⟨(ev_gv et hc), trivial⟩)) (fun hc => (c_lexer_IsName (Dj F c5) w1 hI.lt e1.Name ⟨(hI.get (.s (.s (.s (.s .z))))), trivial⟩ r1 (hx1 hc)).mono fun _ _ k => ⟨k.1, k.2.1⟩) ?_
 intro w2 hx2; replace hI := hI.ext hx2
 refine s_gval (g_true rfl rfl rfl rfl) rfl (fun hc => y_not rfl (ev_gv et hc)) ?_
 refine sq (y_and rfl et et) ?_
 refine nk (cif h et (fun hb h => ?_) (fun hb h => ?_))
 ·refine sr (sac ?_)
  refine nk (c_ret ?_)
  obtain rfl := some_inj h
  exact q_ret (vs := [vb false]) Tryz.results129 ⟨ev_tmp rfl rfl, trivial⟩ (fq hI trivial)
 refine c_skip (k_same (sr (sq (y_fieldAddr rfl et u39 rfl size_34 rfl) ?_)))
 refine sq (y_load1 (v := (vs a2 e1.Idx.length c2)) rfl et u34 rfl (hI.kblk (l := [vs a2 e1.Idx.length c2]) .z rfl).1) ?_
 have hI := hI.add (c := clFn_k2 (Value.func (.func 155) #[] #[]) m_expr_names_1) ⟨rfl, fun D' w' hs hl x_1 A_2 c_3 A_4 c_5 r k h => CallV.fn (cap := []) ok_155 (c_expr_names_1 D' w' hl x_1 A_2 c_3 A_4 c_5 ⟨k.1, k.2.1, (Cl.sp _ hs (hI.get (.s (.s (.s (.s .z)))))), trivial⟩ r h)⟩
 obtain ⟨r2, hx3, h⟩ := bnd_some h
 refine s_call gn rfl (r_callF (vs := [vs a2 e1.Idx.length c2, (Value.func (.func 155) #[] #[])]) rfl ok_152 ⟨et, ⟨ev_func, trivial⟩⟩) (Calls.mono (c_slices_ContainsFunc_api_Index_api_Index (Dj F c5) w2 hI.lt e1.Idx m_expr_names_1 a2 c2 (Value.func (.func 155) #[] #[]) ⟨(hI.get (.s (.s (.s .z)))), (hI.get .z), trivial⟩ r2 hx3) ?_)
 rintro _ w3 ⟨rfl, hx4, hl2⟩
 refine ⟨_, rfl, ?_⟩
 replace hI := (hI.ext hx4)
 refine sq (y_not rfl et) ?_
 refine sa ?_
 refine nk (c_ret ?_)
 obtain rfl := some_inj h
 exact q_ret (vs := [vb (!r2)]) Tryz.results129 ⟨ev_tmp rfl rfl, trivial⟩ (fq hI trivial)
theorem c_expr_operands (F : NP) (w0 : World) (hF : ∀ k, F k → k < w0.heap.size) (op1 : Int) (hc : AllCl [] F w0) (r : Int)
  (h : m_expr_operands op1 = some r) :
  Calls Tryz.prog 156 #[vi op1] w0 fun e w => e = .returned (vi r) ∧ Ext w0 w ∧ AllCl [] F w := by
 refine enterK Tryz.func156 rfl Tryz.ntmps156 rfl ?_
 have hI := Bun.start hF hc
 clear hc
 rw [m_expr_operands] at h
 refine sr (sac ?_)
 refine nk (c_seq (sr (sm ?_)))
 refine nk (c_block (c_join (α := Bool) (fun _ => ⟨14, []⟩) (fun x => [(3, vi op1), (4, vb x)]) (fun x => fun w => ∃ C, Bun noM F w0 C w [] [] ∧ m_expr_operands_j1 op1 x = some r) ?_ ?_))
 ·clear h hI; rintro i1 w1 ⟨c1, hI, h⟩
  try dsimp only at hI h
  rw [m_expr_operands_j1] at h
  refine c_sub (e := [(3, vi op1), (4, vb i1)]) ⟨rfl, rfl, trivial⟩ ?_
  refine cif h et (fun hb h => ?_) (fun hb h => ?_)
  ·refine sr (sac ?_)
   refine nk (c_ret ?_)
   obtain rfl := some_inj h
   exact q_ret (vs := [vi 0]) Tryz.results156 ⟨ev_tmp rfl rfl, trivial⟩ (fq hI trivial)
  refine c_join (α := Bool) (fun _ => ⟨14, []⟩) (fun x => [(3, vi op1), (8, vb x)]) (fun x => fun w => ∃ C, Bun noM F w0 C w [] [] ∧ m_expr_operands_j2 op1 x = some r) ?_ ?_
  ·clear h hI; rintro i2 w2 ⟨c2, hI, h⟩
   try dsimp only at hI h
   rw [m_expr_operands_j2] at h
   refine c_sub (e := [(3, vi op1), (8, vb i2)]) ⟨rfl, rfl, trivial⟩ ?_
   refine cif h et (fun hb h => ?_) (fun hb h => ?_)
   ·refine sr (sac ?_)
    refine nk (c_ret ?_)
    obtain rfl := some_inj h
    exact q_ret (vs := [vi 1]) Tryz.results156 ⟨ev_tmp rfl rfl, trivial⟩ (fq hI trivial)
   refine sr (sq (y_eql rfl et ev_const) ?_)
   refine sa ?_
   refine nk (cif h et (fun hb h => ?_) (fun hb h => ?_))
   ·refine sr (sac ?_)
    refine nk (c_ret ?_)
    obtain rfl := some_inj h
    exact q_ret (vs := [vi 3]) Tryz.results156 ⟨ev_tmp rfl rfl, trivial⟩ (fq hI trivial)
   refine c_skip (k_same (sr (sac ?_)))
   refine nk (c_ret ?_)
   obtain rfl := some_inj h
   exact q_ret (vs := [vi 2]) Tryz.results156 ⟨ev_tmp rfl rfl, trivial⟩ (fq hI trivial)
  refine sr (sq (y_eql rfl et ev_const) ?_)
  refine sa ?_
  refine nk (cif h et (fun hb h => ?_) (fun hb h => ?_))
  ·exact c_skip (k_join (decide (op1 = 8)) ⟨rfl, rfl, trivial⟩ ⟨_, hI.arr .n trivial, h⟩ rfl)
  refine sr (sq (y_eql rfl et ev_const) ?_)
  refine sa ?_
  refine nk (cif h et (fun hb h => ?_) (fun hb h => ?_))
  ·exact c_skip (k_join (decide (op1 = 12)) ⟨rfl, rfl, trivial⟩ ⟨_, hI.arr .n trivial, h⟩ rfl)
  refine c_region rfl ?_
  refine sq (y_eql rfl et ev_const) ?_
  refine sa ?_
  refine s_nil ?_
  exact k_join (decide (op1 = 18)) ⟨rfl, rfl, trivial⟩ ⟨_, hI.arr .n trivial, h⟩ rfl
 refine sr (sq (y_eql rfl et ev_const) ?_)
 refine sa ?_
 refine nk (cif h et (fun hb h => ?_) (fun hb h => ?_))
 ·exact c_skip (k_join (decide (op1 = 1)) ⟨rfl, rfl, trivial⟩ ⟨_, hI.arr .n trivial, h⟩ rfl)
 refine sr (sq (y_eql rfl et ev_const) ?_)
 refine sa ?_
 refine nk (cif h et (fun hb h => ?_) (fun hb h => ?_))
 ·exact c_skip (k_join (decide (op1 = 2)) ⟨rfl, rfl, trivial⟩ ⟨_, hI.arr .n trivial, h⟩ rfl)
 refine c_region rfl ?_
 refine sq (y_eql rfl et ev_const) ?_
 refine sa ?_
 refine s_nil ?_
 exact k_join (decide (op1 = 3)) ⟨rfl, rfl, trivial⟩ ⟨_, hI.arr .n trivial, h⟩ rfl
theorem c_expr_rank_1 (F : NP) (w0 : World) (hF : ∀ k, F k → k < w0.heap.size) (x1 : GIndex) (a1 : Option Addr) (c1 : Nat) (a2 : Option Addr) (c2 : Nat) (hc : AllCl [Cl.sl cGMono a1 c1 x1.Lin.L, Cl.sl cGLin a2 c2 x1.At] F w0) (r : Bool)
  (h : m_expr_rank_1 x1 = some r) :
  Calls Tryz.prog 157 #[(Value.agg #[vi x1.Lin.K, vs a1 x1.Lin.L.length c1, (str x1.From), vs a2 x1.At.length c2])] w0 fun e w => e = .returned (vb r) ∧ Ext w0 w ∧ AllCl [] F w := by
 refine enterK Tryz.func157 rfl Tryz.ntmps157 rfl ?_
 have hI := Bun.start hF hc
 clear hc
 rw [m_expr_rank_1] at h
 refine sr (l_box (v := (Value.agg #[vi x1.Lin.K, vs a1 x1.Lin.L.length c1, (str x1.From), vs a2 x1.At.length c2])) (cs := #[vi x1.Lin.K, vs a1 x1.Lin.L.length c1, (str x1.From), vs a2 x1.At.length c2]) hI gn rfl rfl et rfl ?_)
 clear hI; intro b1 c3 w1 hI
 obtain ⟨c4, hI⟩ := hI.relBox .z
 refine sac ?_
 refine nk (sr (sq (y_fieldAddr rfl et u32 rfl size_30 rfl) ?_))
 refine sq (y_load1 (v := (vs a2 x1.At.length c2)) rfl et u30 rfl (hI.kblk (l := [vs a2 x1.At.length c2]) .z rfl).1) ?_
 refine sq (y_lenl rfl u30 et) ?_
 refine sq (y_gtr rfl et ev_const) ?_
 refine sa ?_
 refine nk (c_ret ?_)
 obtain rfl := some_inj h
 exact q_ret (vs := [(vb (decide (6 < (x1.At.length : Int))))]) Tryz.results157 ⟨ev_tmp rfl rfl, trivial⟩ (fq hI trivial)
theorem c_expr_rank (F : NP) (w0 : World) (hF : ∀ k, F k → k < w0.heap.size) (e1 : GExpr) (a1 : Option Addr) (c1 : Nat) (a2 : Option Addr) (c2 : Nat) (a3 : Option Addr) (c3 : Nat) (hc : AllCl [Cl.sl cGMono a1 c1 e1.Lin.L, Cl.sl cGIndex a2 c2 e1.Idx, Cl.sl cGExpr a3 c3 e1.Args] F w0) (r : Bool)
  (h : m_expr_rank e1 = some r) :
  Calls Tryz.prog 130 #[(Value.agg #[vi e1.Op, (str e1.Name), vi e1.Val.N, vi e1.Val.D, vi e1.Type_.Kind, vi e1.Type_.Bits, vi e1.Type_.Frac, vi e1.Type_.Round, vi e1.Type_.Over, vi e1.Lin.K, vs a1 e1.Lin.L.length c1, vs a2 e1.Idx.length c2, vs a3 e1.Args.length c3])] w0 fun e w => e = .returned (vb r) ∧ Ext w0 w ∧ AllCl [] F w := by
 refine enterK Tryz.func130 rfl Tryz.ntmps130 rfl ?_
 have hI := Bun.start hF hc
 clear hc
 rw [m_expr_rank] at h
 refine sr (l_box (v := (Value.agg #[vi e1.Op, (str e1.Name), vi e1.Val.N, vi e1.Val.D, vi e1.Type_.Kind, vi e1.Type_.Bits, vi e1.Type_.Frac, vi e1.Type_.Round, vi e1.Type_.Over, vi e1.Lin.K, vs a1 e1.Lin.L.length c1, vs a2 e1.Idx.length c2, vs a3 e1.Args.length c3])) (cs := #[vi e1.Op, (str e1.Name), vi e1.Val.N, vi e1.Val.D, vi e1.Type_.Kind, vi e1.Type_.Bits, vi e1.Type_.Frac, vi e1.Type_.Round, vi e1.Type_.Over, vi e1.Lin.K, vs a1 e1.Lin.L.length c1, vs a2 e1.Idx.length c2, vs a3 e1.Args.length c3]) hI gn rfl rfl et rfl ?_)
 clear hI; intro b1 c4 w1 hI
 obtain ⟨c5, hI⟩ := hI.relBox .z
 refine sac ?_
 refine nk (c_seq (c_seq (c_drawX [] false (.c (0, .q) (.c (1, .q) (.c (2, .q) (.c (3, .q) (.c (4, .q) (.c (5, .s) (.c (6, .q) (.c (7, .q) (.c (8, .q) (.c (9, .q) (.c (10, .q) (.c (11, .q) (.c (12, .q) .n))))))))))))) hI (by kernel_rfl) (by kernel_rfl) ?_)))
 clear hI; intro w2 hI
 refine a_q rfl gn rfl (fun w' => y_fieldAddr rfl et u39 rfl size_37 rfl) ?_
 refine a_read rfl gn rfl (fun w' hw' => (y_load1 (v := (vs a3 e1.Args.length c3)) rfl et u37 rfl ((hI.kblk (l := [vs a3 e1.Args.length c3]) .z rfl).at_ (SX.any rfl hw')))) (by kernel_rfl) ?_
 refine a_q rfl gn rfl (fun w' => y_lenl rfl u37 et) ?_
 refine a_q rfl gn rfl (fun w' => y_fieldAddr rfl et u39 rfl size_3 rfl) ?_
 refine a_read rfl gn rfl (fun w' hw' => (y_load1 (v := (vi e1.Op)) rfl et u3 rfl ((hI.kblk (l := [vi e1.Op]) .z rfl).at_ (SX.any rfl hw')))) (by kernel_rfl) ?_
 obtain ⟨r1, hx1, h⟩ := bnd_some h
 refine la_call rfl gn rfl (r_callF (vs := [vi e1.Op]) rfl ok_156 ⟨et, trivial⟩) (Calls.mono (c_expr_operands (Dj F c5) w2 hI.lt e1.Op trivial r1 hx1) ?_)
 rintro _ w3 ⟨rfl, hx2, hl1⟩
 refine ⟨_, rfl, hx2, ?_⟩
 replace hI := (hI.ext hx2)
 refine a_q rfl gn rfl (fun w' => y_neq rfl et et) ?_
 refine a_q rfl gn rfl (fun w' => y_move rfl et) ?_
 refine a_gval rfl (g_false rfl rfl rfl rfl) rfl (fun hc => fun w' => (y_fieldAddr rfl et u39 rfl size_34 rfl)) ?_
 refine a_gread rfl (g_false rfl rfl rfl rfl) rfl (fun hc => fun w' hw' => (y_load1 (v := (vs a2 e1.Idx.length c2)) rfl (ev_gv et hc) u34 rfl ((hI.kblk (l := [vs a2 e1.Idx.length c2]) .z rfl).at_ (SX.any rfl hw')))) (by kernel_rfl) ?_
 refine a_gval rfl (g_false rfl rfl rfl rfl) rfl (fun hc => fun w' => (y_lenl rfl u34 (ev_gv et hc))) ?_
 refine a_gval rfl (g_false rfl rfl rfl rfl) rfl (fun hc => fun w' => (y_gtr rfl (ev_gv et hc) ev_const)) ?_
 refine a_q rfl gn rfl (fun w' => y_or rfl et et) ?_
 refine a_nil ?_
 refine k_same (cif h et (fun hb h => ?_) (fun hb h => ?_))
 ·refine sr (sac ?_)
  refine nk (c_ret ?_)
  obtain rfl := some_inj h
  exact q_ret (vs := [vb false]) Tryz.results130 ⟨ev_tmp rfl rfl, trivial⟩ (fq hI trivial)
 refine c_skip (k_same (sr (sq (y_fieldAddr rfl et u39 rfl size_34 rfl) ?_)))
 refine sq (y_load1 (v := (vs a2 e1.Idx.length c2)) rfl et u34 rfl (hI.kblk (l := [vs a2 e1.Idx.length c2]) .z rfl).1) ?_
 have hI := hI.add (c := clFn_k2 (Value.func (.func 157) #[] #[]) m_expr_rank_1) ⟨rfl, fun D' w' hs hl x_1 A_2 c_3 A_4 c_5 r k h => CallV.fn (cap := []) ok_157 (c_expr_rank_1 D' w' hl x_1 A_2 c_3 A_4 c_5 ⟨k.1, k.2.1, trivial⟩ r h)⟩
 obtain ⟨r2, hx3, h⟩ := bnd_some h
 refine s_call gn rfl (r_callF (vs := [vs a2 e1.Idx.length c2, (Value.func (.func 157) #[] #[])]) rfl ok_152 ⟨et, ⟨ev_func, trivial⟩⟩) (Calls.mono (c_slices_ContainsFunc_api_Index_api_Index (Dj F c5) w3 hI.lt e1.Idx m_expr_rank_1 a2 c2 (Value.func (.func 157) #[] #[]) ⟨(hI.get (.s (.s (.s .z)))), (hI.get .z), trivial⟩ r2 hx3) ?_)
 rintro _ w4 ⟨rfl, hx4, hl2⟩
 refine ⟨_, rfl, ?_⟩
 replace hI := (hI.ext hx4)
 refine sq (y_not rfl et) ?_
 refine sa ?_
 refine nk (c_ret ?_)
 obtain rfl := some_inj h
 exact q_ret (vs := [vb (!r2)]) Tryz.results130 ⟨ev_tmp rfl rfl, trivial⟩ (fq hI trivial)
theorem c_expr_IsCondition (F : NP) (w0 : World) (hF : ∀ k, F k → k < w0.heap.size) (e1 : GExpr) (a1 : Option Addr) (c1 : Nat) (a2 : Option Addr) (c2 : Nat) (a3 : Option Addr) (c3 : Nat) (hc : AllCl [Cl.sl cGMono a1 c1 e1.Lin.L, Cl.sl cGIndex a2 c2 e1.Idx, Cl.sl cGExpr a3 c3 e1.Args] F w0) (r : Bool)
  (h : m_expr_IsCondition e1 = some r) :
  Calls Tryz.prog 158 #[(Value.agg #[vi e1.Op, (str e1.Name), vi e1.Val.N, vi e1.Val.D, vi e1.Type_.Kind, vi e1.Type_.Bits, vi e1.Type_.Frac, vi e1.Type_.Round, vi e1.Type_.Over, vi e1.Lin.K, vs a1 e1.Lin.L.length c1, vs a2 e1.Idx.length c2, vs a3 e1.Args.length c3])] w0 fun e w => e = .returned (vb r) ∧ Ext w0 w ∧ AllCl [] F w := by
 refine enterK Tryz.func158 rfl Tryz.ntmps158 rfl ?_
 have hI := Bun.start hF hc
 clear hc
 rw [m_expr_IsCondition] at h
 refine sr (l_box (v := (Value.agg #[vi e1.Op, (str e1.Name), vi e1.Val.N, vi e1.Val.D, vi e1.Type_.Kind, vi e1.Type_.Bits, vi e1.Type_.Frac, vi e1.Type_.Round, vi e1.Type_.Over, vi e1.Lin.K, vs a1 e1.Lin.L.length c1, vs a2 e1.Idx.length c2, vs a3 e1.Args.length c3])) (cs := #[vi e1.Op, (str e1.Name), vi e1.Val.N, vi e1.Val.D, vi e1.Type_.Kind, vi e1.Type_.Bits, vi e1.Type_.Frac, vi e1.Type_.Round, vi e1.Type_.Over, vi e1.Lin.K, vs a1 e1.Lin.L.length c1, vs a2 e1.Idx.length c2, vs a3 e1.Args.length c3]) hI gn rfl rfl et rfl ?_)
 clear hI; intro b1 c4 w1 hI
 obtain ⟨c5, hI⟩ := hI.relBox .z
 refine sac ?_
 refine nk (sr (sq (y_fieldAddr rfl et u39 rfl size_3 rfl) ?_))
 refine sq (y_load1 (v := (vi e1.Op)) rfl et u3 rfl (hI.kblk (l := [vi e1.Op]) .z rfl).1) ?_
 refine sq (y_leq rfl ev_const et) ?_
 refine sm ?_
 refine s_gval (g_true rfl rfl rfl rfl) rfl (fun hc => y_fieldAddr rfl et u39 rfl size_3 rfl) ?_
 refine s_gval (g_true rfl rfl rfl rfl) rfl (fun hc => (y_load1 (v := (vi e1.Op)) rfl (ev_gv et hc) u3 rfl (hI.kblk (l := [vi e1.Op]) .z rfl).1)) ?_
 refine s_gval (g_true rfl rfl rfl rfl) rfl (fun hc => y_leq rfl (ev_gv et hc) ev_const) ?_
 refine sq (y_and rfl et et) ?_
 refine sa ?_
 refine nk (c_ret ?_)
 obtain rfl := some_inj h
 exact q_ret (vs := [(vb ((decide (13 ≤ e1.Op)) && (decide (e1.Op ≤ 18))))]) Tryz.results158 ⟨ev_tmp rfl rfl, trivial⟩ (fq hI trivial)
theorem c_expr_requiresCondition (F : NP) (w0 : World) (hF : ∀ k, F k → k < w0.heap.size) (op1 : Int) (i1 : Int) (hc : AllCl [] F w0) (r : Bool)
  (h : m_expr_requiresCondition op1 i1 = some r) :
  Calls Tryz.prog 159 #[vi op1, vi i1] w0 fun e w => e = .returned (vb r) ∧ Ext w0 w ∧ AllCl [] F w := by
 refine enterK Tryz.func159 rfl Tryz.ntmps159 rfl ?_
 have hI := Bun.start hF hc
 clear hc
 rw [m_expr_requiresCondition] at h
 refine sr (sac ?_)
 refine nk (c_seq (sr (sm ?_)))
 refine nk (c_block (c_seq (sr (sq (y_eql rfl et ev_const) ?_))))
 refine sa ?_
 refine nk (cif h et (fun hb h => ?_) (fun hb h => ?_))
 ·refine c_skip (k_same (cif h et (fun hb h => ?_) (fun hb h => ?_)))
  ·refine sr (sac ?_)
   refine nk (c_ret ?_)
   obtain rfl := some_inj h
   exact q_ret (vs := [vb true]) Tryz.results159 ⟨ev_tmp rfl rfl, trivial⟩ (fq hI trivial)
  refine c_skip (k_same (sr (sm ?_)))
  refine sq (y_eql rfl et ev_const) ?_
  refine sm ?_
  refine s_gval (g_true rfl rfl rfl rfl) rfl (fun hc => y_move rfl et) ?_
  refine s_gval (g_true rfl rfl rfl rfl) rfl (fun hc => y_eql rfl (ev_gv et hc) ev_const) ?_
  refine sq (y_and rfl et et) ?_
  refine sa ?_
  refine nk (c_ret ?_)
  obtain rfl := some_inj h
  exact q_ret (vs := [(vb ((decide (op1 = 11)) && (decide (i1 = 0))))]) Tryz.results159 ⟨ev_tmp rfl rfl, trivial⟩ (fq hI trivial)
 refine sr (sq (y_eql rfl et ev_const) ?_)
 refine sa ?_
 refine nk (cif h et (fun hb h => ?_) (fun hb h => ?_))
 ·refine c_skip (k_same (cif h et (fun hb h => ?_) (fun hb h => ?_)))
  ·refine sr (sac ?_)
   refine nk (c_ret ?_)
   obtain rfl := some_inj h
   exact q_ret (vs := [vb true]) Tryz.results159 ⟨ev_tmp rfl rfl, trivial⟩ (fq hI trivial)
  refine c_skip (k_same (sr (sm ?_)))
  refine sq (y_eql rfl et ev_const) ?_
  refine sm ?_
  refine s_gval (g_true rfl rfl rfl rfl) rfl (fun hc => y_move rfl et) ?_
  refine s_gval (g_true rfl rfl rfl rfl) rfl (fun hc => y_eql rfl (ev_gv et hc) ev_const) ?_
  refine sq (y_and rfl et et) ?_
  refine sa ?_
  refine nk (c_ret ?_)
  obtain rfl := some_inj h
  exact q_ret (vs := [(vb ((decide (op1 = 11)) && (decide (i1 = 0))))]) Tryz.results159 ⟨ev_tmp rfl rfl, trivial⟩ (fq hI trivial)
 refine c_region rfl ?_
 refine sq (y_eql rfl et ev_const) ?_
 refine sa ?_
 refine nk (cif h et (fun hb h => ?_) (fun hb h => ?_))
 ·refine sr (sac ?_)
  refine nk (c_ret ?_)
  obtain rfl := some_inj h
  exact q_ret (vs := [vb true]) Tryz.results159 ⟨ev_tmp rfl rfl, trivial⟩ (fq hI trivial)
 refine c_skip (k_same (sr (sm ?_)))
 refine sq (y_eql rfl et ev_const) ?_
 refine sm ?_
 refine s_gval (g_true rfl rfl rfl rfl) rfl (fun hc => y_move rfl et) ?_
 refine s_gval (g_true rfl rfl rfl rfl) rfl (fun hc => y_eql rfl (ev_gv et hc) ev_const) ?_
 refine sq (y_and rfl et et) ?_
 refine sa ?_
 refine nk (c_ret ?_)
 obtain rfl := some_inj h
 exact q_ret (vs := [(vb ((decide (op1 = 11)) && (decide (i1 = 0))))]) Tryz.results159 ⟨ev_tmp rfl rfl, trivial⟩ (fq hI trivial)
theorem c_expr_types (F : NP) (w0 : World) (hF : ∀ k, F k → k < w0.heap.size) (e1 : GExpr) (a1 : Option Addr) (c1 : Nat) (a2 : Option Addr) (c2 : Nat) (a3 : Option Addr) (c3 : Nat) (hc : AllCl [Cl.sl cGMono a1 c1 e1.Lin.L, Cl.sl cGIndex a2 c2 e1.Idx, Cl.sl cGExpr a3 c3 e1.Args] F w0) (r : Bool)
  (h : m_expr_types e1 = some r) :
  Calls Tryz.prog 131 #[(Value.agg #[vi e1.Op, (str e1.Name), vi e1.Val.N, vi e1.Val.D, vi e1.Type_.Kind, vi e1.Type_.Bits, vi e1.Type_.Frac, vi e1.Type_.Round, vi e1.Type_.Over, vi e1.Lin.K, vs a1 e1.Lin.L.length c1, vs a2 e1.Idx.length c2, vs a3 e1.Args.length c3])] w0 fun e w => e = .returned (vb r) ∧ Ext w0 w ∧ AllCl [] F w := by
 refine enterK Tryz.func131 rfl Tryz.ntmps131 rfl ?_
 have hI := Bun.start hF hc
 clear hc
 rw [m_expr_types] at h
 refine sr (l_box (v := (Value.agg #[vi e1.Op, (str e1.Name), vi e1.Val.N, vi e1.Val.D, vi e1.Type_.Kind, vi e1.Type_.Bits, vi e1.Type_.Frac, vi e1.Type_.Round, vi e1.Type_.Over, vi e1.Lin.K, vs a1 e1.Lin.L.length c1, vs a2 e1.Idx.length c2, vs a3 e1.Args.length c3])) (cs := #[vi e1.Op, (str e1.Name), vi e1.Val.N, vi e1.Val.D, vi e1.Type_.Kind, vi e1.Type_.Bits, vi e1.Type_.Frac, vi e1.Type_.Round, vi e1.Type_.Over, vi e1.Lin.K, vs a1 e1.Lin.L.length c1, vs a2 e1.Idx.length c2, vs a3 e1.Args.length c3]) hI gn rfl rfl et rfl ?_)
 clear hI; intro b1 c4 w1 hI
 obtain ⟨c5, hI⟩ := hI.relBox .z
 refine sac ?_
 refine nk (c_seq (sr (sq (y_fieldAddr rfl et u39 rfl size_3 rfl) ?_)))
 refine sq (y_load1 (v := (vi e1.Op)) rfl et u3 rfl (hI.kblk (l := [vi e1.Op]) .z rfl).1) ?_
 refine sq (y_eql rfl et ev_const) ?_
 refine sm ?_
 refine s_gval (g_false rfl rfl rfl rfl) rfl (fun hc => y_fieldAddr rfl et u39 rfl size_3 rfl) ?_
 refine s_gval (g_false rfl rfl rfl rfl) rfl (fun hc => (y_load1 (v := (vi e1.Op)) rfl (ev_gv et hc) u3 rfl (hI.kblk (l := [vi e1.Op]) .z rfl).1)) ?_
 refine s_gval (g_false rfl rfl rfl rfl) rfl (fun hc => y_eql rfl (ev_gv et hc) ev_const) ?_
 refine sq (y_or rfl et et) ?_
 refine sm ?_
 refine s_gval (g_true rfl rfl rfl rfl) rfl (fun hc => y_fieldAddr rfl et u39 rfl size_23 rfl) ?_
 refine s_gval (g_true rfl rfl rfl rfl) rfl (fun hc => (y_loadN (l := (lType e1.Type_)) rfl (ev_gv et hc) u23 rfl size_23 (hI.kblk (l := (lType e1.Type_)) .z rfl).1)) ?_
 obtain ⟨r1, hx1, h⟩ := bnd_some h
 replace hx1 := gd_some hx1
 refine s_gcallU (v := (vi r1)) (g_true rfl rfl rfl rfl) rfl (fun hc => (r_callF (vs := [(Value.agg (AType e1.Type_))]) rfl ok_28 ⟨(ev_gv et hc), trivial⟩)) (fun hc => (c_value_ValidateType (Dj F c5) w1 hI.lt e1.Type_ trivial r1 (hx1 hc)).mono fun _ _ k => ⟨k.1, k.2.1⟩) ?_
 intro w2 hx2; replace hI := hI.ext hx2
 refine s_gval (g_true rfl rfl rfl rfl) rfl (fun hc => y_neq rfl (ev_gv et hc) ev_const) ?_
 refine sq (y_and rfl et et) ?_
 refine nk (cif h et (fun hb h => ?_) (fun hb h => ?_))
 ·refine sr (sac ?_)
  refine nk (c_ret ?_)
  obtain rfl := some_inj h
  exact q_ret (vs := [vb false]) Tryz.results131 ⟨ev_tmp rfl rfl, trivial⟩ (fq hI trivial)
 refine c_skip (k_same (c_seq (sr (sq (y_fieldAddr rfl et u39 rfl size_37 rfl) ?_))))
 refine sq (y_load1 (v := (vs a3 e1.Args.length c3)) rfl et u37 rfl (hI.kblk (l := [vs a3 e1.Args.length c3]) .z rfl).1) ?_
 refine sq (y_lenl rfl u37 et) ?_
 refine sq (y_move rfl ev_const) ?_
 refine nk (c_block (c_loop (α := Nat × Int) (fun x => fun w => ∃ C, Bun noM F w0 C w [] [Cl.blk b1 39 #[vi e1.Op, (str e1.Name), vi e1.Val.N, vi e1.Val.D, vi e1.Type_.Kind, vi e1.Type_.Bits, vi e1.Type_.Frac, vi e1.Type_.Round, vi e1.Type_.Over, vi e1.Lin.K, vs a1 e1.Lin.L.length c1, vs a2 e1.Idx.length c2, vs a3 e1.Args.length c3], Cl.sl cGMono a1 c1 e1.Lin.L, Cl.sl cGIndex a2 c2 e1.Idx, Cl.sl cGExpr a3 c3 e1.Args] ∧ m_expr_types_l1 e1 (x.1) (x.2) = some r) (fun x _ => x.1) (fun x => [(1, vp b1 0), (20, vs a3 e1.Args.length c3), (21, vi (e1.Args.length : Int)), (22, vi (x.2))]) (fu, 0) ⟨_, hI.arr .n ⟨.z, (.s .z), (.s (.s .z)), (.s (.s (.s .z))), trivial⟩, h⟩ ⟨rfl, rfl, rfl, rfl, trivial⟩ ?_))
 clear h hI; rintro ⟨fuel1, i1⟩ w3 ⟨c6, hI, h⟩
 dsimp only at hI h
 rcases fuel1 with _ | fuel1
 ·rw [m_expr_types_l1] at h; cases h
 rw [m_expr_types_l1] at h
 refine c_sub (e := [(1, vp b1 0), (20, vs a3 e1.Args.length c3), (21, vi (e1.Args.length : Int)), (22, vi i1)]) ⟨rfl, rfl, rfl, rfl, trivial⟩ ?_
 refine sr (sq (y_lss rfl et et) ?_)
 refine nk (c_seq (cif h et (fun hb h => ?_) (fun hb h => ?_)))
 ·refine c_skip (k_same (c_seq (c_block (sr (sm ?_)))))
  obtain ⟨e2, hx3, h⟩ := bnd_some h
  obtain ⟨ad1, cs1, hA1, hr1, hq1⟩ := hI.clat (.s (.s (.s .z))) hx3
  obtain ⟨a4, c7, a5, c8, a6, c9, rfl, hf1, hf2, hf3⟩ := cGExpr_out hr1
  have hI := hI.add (c := Cl.sl cGMono a4 c7 e2.Lin.L) hf1
  have hI := hI.add (c := Cl.sl cGIndex a5 c8 e2.Idx) hf2
  have hI := hI.add (c := Cl.sl cGExpr a6 c9 e2.Args) hf3
  refine sq (y_indexAddr rfl u37 size_39 et et (lat_bd hx3) hA1) ?_
  refine sq (y_loadN (l := [vi e2.Op, (str e2.Name), vi e2.Val.N, vi e2.Val.D, vi e2.Type_.Kind, vi e2.Type_.Bits, vi e2.Type_.Frac, vi e2.Type_.Round, vi e2.Type_.Over, vi e2.Lin.K, vs a4 e2.Lin.L.length c7, vs a5 e2.Idx.length c8, vs a6 e2.Args.length c9]) rfl et u39 rfl size_39 hq1.1) ?_
  refine l_alloc (cs := #[vi 0, (str ([] : List UInt8)), vi 0, vi 0, vi 0, vi 0, vi 0, vi 0, vi 0, vi 0, vs none 0 0, vs none 0 0, vs none 0 0]) hI gn rfl rfl zero_39 rfl ?_
  clear hI; intro b2 c10 w4 hI
  refine sa ?_
  refine l_store (new := [vi e2.Op, (str e2.Name), vi e2.Val.N, vi e2.Val.D, vi e2.Type_.Kind, vi e2.Type_.Bits, vi e2.Type_.Frac, vi e2.Type_.Round, vi e2.Type_.Over, vi e2.Lin.K, vs a4 e2.Lin.L.length c7, vs a5 e2.Idx.length c8, vs a6 e2.Args.length c9]) (cs' := #[vi e2.Op, (str e2.Name), vi e2.Val.N, vi e2.Val.D, vi e2.Type_.Kind, vi e2.Type_.Bits, vi e2.Type_.Frac, vi e2.Type_.Round, vi e2.Type_.Over, vi e2.Lin.K, vs a4 e2.Lin.L.length c7, vs a5 e2.Idx.length c8, vs a6 e2.Args.length c9]) hI .z gn rfl rfl et et rfl size_39 rfl rfl rfl ?_
  clear hI; intro c11 w5 hI
  refine nk (c_seq (c_drawX [] false (.c (0, .q) (.c (2, .q) (.c (3, .q) (.c (4, .q) (.c (1, .s) (.c (5, .s) (.c (6, .q) .n))))))) hI (by kernel_rfl) (by kernel_rfl) ?_))
  clear hI; intro w6 hI
  refine a_read rfl gn rfl (fun w' hw' => (y_loadN (l := [vi e2.Op, (str e2.Name), vi e2.Val.N, vi e2.Val.D, vi e2.Type_.Kind, vi e2.Type_.Bits, vi e2.Type_.Frac, vi e2.Type_.Round, vi e2.Type_.Over, vi e2.Lin.K, vs a4 e2.Lin.L.length c7, vs a5 e2.Idx.length c8, vs a6 e2.Args.length c9]) rfl et u39 rfl size_39 ((CA.blk (hI.blk .z) rfl).at_ (SX.any rfl hw')))) (by kernel_rfl) ?_
  refine a_q rfl gn rfl (fun w' => y_fieldAddr rfl et u39 rfl size_3 rfl) ?_
  refine a_read rfl gn rfl (fun w' hw' => (y_load1 (v := (vi e1.Op)) rfl et u3 rfl ((hI.kblk (l := [vi e1.Op]) (.s (.s (.s .z))) rfl).at_ (SX.any rfl hw')))) (by kernel_rfl) ?_
  refine a_q rfl gn rfl (fun w' => y_move rfl et) ?_
  obtain ⟨r2, hx4, h⟩ := bnd_some h
  refine la_call rfl gn rfl (r_callF (vs := [(Value.agg #[vi e2.Op, (str e2.Name), vi e2.Val.N, vi e2.Val.D, vi e2.Type_.Kind, vi e2.Type_.Bits, vi e2.Type_.Frac, vi e2.Type_.Round, vi e2.Type_.Over, vi e2.Lin.K, vs a4 e2.Lin.L.length c7, vs a5 e2.Idx.length c8, vs a6 e2.Args.length c9])]) rfl ok_158 ⟨et, trivial⟩) (Calls.mono (c_expr_IsCondition (Dj F c11) w6 hI.lt e2 a4 c7 a5 c8 a6 c9 ⟨(hI.get (.s (.s .z))), (hI.get (.s .z)), (hI.get .z), trivial⟩ r2 hx4) ?_)
  rintro _ w7 ⟨rfl, hx5, hl2⟩
  refine ⟨_, rfl, hx5, ?_⟩
  replace hI := (hI.ext hx5)
  obtain ⟨r3, hx6, h⟩ := bnd_some h
  refine la_call rfl gn rfl (r_callF (vs := [vi e1.Op, vi i1]) rfl ok_159 ⟨et, ⟨et, trivial⟩⟩) (Calls.mono (c_expr_requiresCondition (Dj F c11) w7 hI.lt e1.Op i1 trivial r3 hx6) ?_)
  rintro _ w8 ⟨rfl, hx7, hl3⟩
  refine ⟨_, rfl, hx7, ?_⟩
  replace hI := (hI.ext hx7)
  refine a_q rfl gn rfl (fun w' => y_neb rfl u4 et et) ?_
  refine a_nil ?_
  refine k_same (cif h et (fun hb h => ?_) (fun hb h => ?_))
  ·refine sr (sac ?_)
   refine nk (c_ret ?_)
   obtain rfl := some_inj h
   exact q_ret (vs := [vb false]) Tryz.results131 ⟨ev_tmp rfl rfl, trivial⟩ (fq hI trivial)
  refine c_skip (k_same (c_region rfl ?_))
  refine sq (y_add rfl et ev_const) ?_
  refine sm ?_
  refine s_nil ?_
  exact k_loop (fuel1, wi64 (i1 + 1)) ⟨rfl, rfl, rfl, rfl, trivial⟩ ⟨_, hI.arr .n ⟨(.s (.s (.s .z))), (.s (.s (.s (.s .z)))), (.s (.s (.s (.s (.s .z))))), (.s (.s (.s (.s (.s (.s .z)))))), trivial⟩, h⟩ (Nat.lt_succ_self _)
 refine c_exit ?_
 refine k_in ?_
 refine k_same (sr (sac ?_))
 refine nk (c_ret ?_)
 obtain rfl := some_inj h
 exact q_ret (vs := [vb true]) Tryz.results131 ⟨ev_tmp rfl rfl, trivial⟩ (fq hI trivial)
theorem c_round_valid (F : NP) (w0 : World) (hF : ∀ k, F k → k < w0.heap.size) (bits1 : Int) (hc : AllCl [] F w0) (r : Bool)
  (h : m_round_valid bits1 = some r) :
  Calls Tryz.prog 189 #[vi bits1] w0 fun e w => e = .returned (vb r) ∧ Ext w0 w ∧ AllCl [] F w := by
 refine enterK Tryz.func189 rfl Tryz.ntmps189 rfl ?_
 have hI := Bun.start hF hc
 clear hc
 rw [m_round_valid] at h
 refine sr (sac ?_)
 refine nk (sr (sm ?_))
 refine sq (y_geq rfl et ev_const) ?_
 refine sm ?_
 refine s_gval (g_true rfl rfl rfl rfl) rfl (fun hc => y_move rfl et) ?_
 refine s_gval (g_true rfl rfl rfl rfl) rfl (fun hc => y_leq rfl (ev_gv et hc) ev_const) ?_
 refine sq (y_and rfl et et) ?_
 refine sa ?_
 refine nk (c_ret ?_)
 obtain rfl := some_inj h
 exact q_ret (vs := [(vb ((decide (2 ≤ bits1)) && (decide (bits1 ≤ 31))))]) Tryz.results189 ⟨ev_tmp rfl rfl, trivial⟩ (fq hI trivial)
theorem c_round_MinInt (F : NP) (w0 : World) (hF : ∀ k, F k → k < w0.heap.size) (bits1 : Int) (hc : AllCl [] F w0) (r : Int)
  (h : m_round_MinInt bits1 = some r) :
  Calls Tryz.prog 178 #[vi bits1] w0 fun e w => e = .returned (vi r) ∧ Ext w0 w ∧ AllCl [] F w := by
 refine enterK Tryz.func178 rfl Tryz.ntmps178 rfl ?_
 have hI := Bun.start hF hc
 clear hc
 rw [m_round_MinInt] at h
 refine sr (sac ?_)
 refine nk (c_seq (sr (sm ?_)))
 obtain ⟨r1, hx1, h⟩ := bnd_some h
 refine s_call gn rfl (r_callF (vs := [vi bits1]) rfl ok_189 ⟨et, trivial⟩) (Calls.mono (c_round_valid (Dj F noM) w0 hI.lt bits1 trivial r1 hx1) ?_)
 rintro _ w1 ⟨rfl, hx2, hl1⟩
 refine ⟨_, rfl, ?_⟩
 replace hI := (hI.ext hx2)
 refine sq (y_not rfl et) ?_
 refine nk (cif h et (fun hb h => ?_) (fun hb h => ?_))
 ·refine sr (sac ?_)
  refine nk (c_ret ?_)
  obtain rfl := some_inj h
  exact q_ret (vs := [vi 0]) Tryz.results178 ⟨ev_tmp rfl rfl, trivial⟩ (fq hI trivial)
 refine c_skip (k_same (sr (sm ?_)))
 refine sq (y_sub rfl et ev_const) ?_
 refine sq (y_conv rfl (by rw [u3]; rfl) u166 et) ?_
 obtain ⟨ho1, h⟩ := chk_some h
 refine sq (y_shl rfl ev_const et ho1) ?_
 refine sq (y_neg rfl et) ?_
 refine sa ?_
 refine nk (c_ret ?_)
 obtain rfl := some_inj h
 exact q_ret (vs := [(vi (wi64 (-(wi64 (1 * 2 ^ (min (Int.toNat (wu64 (wi64 (bits1 - 1)))) 64))))))]) Tryz.results178 ⟨ev_tmp rfl rfl, trivial⟩ (fq hI trivial)
theorem c_round_MaxInt (F : NP) (w0 : World) (hF : ∀ k, F k → k < w0.heap.size) (bits1 : Int) (hc : AllCl [] F w0) (r : Int)
  (h : m_round_MaxInt bits1 = some r) :
  Calls Tryz.prog 179 #[vi bits1] w0 fun e w => e = .returned (vi r) ∧ Ext w0 w ∧ AllCl [] F w := by
 refine enterK Tryz.func179 rfl Tryz.ntmps179 rfl ?_
 have hI := Bun.start hF hc
 clear hc
 rw [m_round_MaxInt] at h
 refine sr (sac ?_)
 refine nk (c_seq (sr (sm ?_)))
 obtain ⟨r1, hx1, h⟩ := bnd_some h
 refine s_call gn rfl (r_callF (vs := [vi bits1]) rfl ok_189 ⟨et, trivial⟩) (Calls.mono (c_round_valid (Dj F noM) w0 hI.lt bits1 trivial r1 hx1) ?_)
 rintro _ w1 ⟨rfl, hx2, hl1⟩
 refine ⟨_, rfl, ?_⟩
 replace hI := (hI.ext hx2)
 refine sq (y_not rfl et) ?_
 refine nk (cif h et (fun hb h => ?_) (fun hb h => ?_))
 ·refine sr (sac ?_)
  refine nk (c_ret ?_)
  obtain rfl := some_inj h
  exact q_ret (vs := [vi 0]) Tryz.results179 ⟨ev_tmp rfl rfl, trivial⟩ (fq hI trivial)
 refine c_skip (k_same (sr (sm ?_)))
 refine sq (y_sub rfl et ev_const) ?_
 refine sq (y_conv rfl (by rw [u3]; rfl) u166 et) ?_
 obtain ⟨ho1, h⟩ := chk_some h
 refine sq (y_shl rfl ev_const et ho1) ?_
 refine sq (y_sub rfl et ev_const) ?_
 refine sa ?_
 refine nk (c_ret ?_)
 obtain rfl := some_inj h
 exact q_ret (vs := [(vi (wi64 ((wi64 (1 * 2 ^ (min (Int.toNat (wu64 (wi64 (bits1 - 1)))) 64))) - 1)))]) Tryz.results179 ⟨ev_tmp rfl rfl, trivial⟩ (fq hI trivial)
theorem c_fixed_Valid (F : NP) (w0 : World) (hF : ∀ k, F k → k < w0.heap.size) (t1 : GType) (v1 : GVal) (hc : AllCl [] F w0) (r : Bool)
  (h : m_fixed_Valid t1 v1 = some r) :
  Calls Tryz.prog 160 #[(Value.agg (AType t1)), (Value.agg (AVal v1))] w0 fun e w => e = .returned (vb r) ∧ Ext w0 w ∧ AllCl [] F w := by
 refine enterK Tryz.func160 rfl Tryz.ntmps160 rfl ?_
 have hI := Bun.start hF hc
 clear hc
 rw [m_fixed_Valid] at h
 refine sr (l_box (v := (Value.agg (AType t1))) (cs := (AType t1)) hI gn rfl rfl et rfl ?_)
 clear hI; intro b1 c1 w1 hI
 obtain ⟨c2, hI⟩ := hI.relBox .z
 refine l_box (v := (Value.agg (AVal v1))) (cs := (AVal v1)) hI gn rfl rfl et rfl ?_
 clear hI; intro b2 c3 w2 hI
 obtain ⟨c4, hI⟩ := hI.relBox .z
 refine sac ?_
 refine nk (c_seq (c_drawX [] false (.c (0, .q) (.c (1, .s) (.c (2, .q) (.c (3, .q) (.c (4, .q) (.c (5, .q) (.c (6, .q) (.c (7, .q) (.c (8, .q) (.c (9, .q) (.c (10, .q) (.c (11, .q) (.c (12, .q) (.c (13, .s) (.c (14, .q) (.c (15, .q) (.c (16, .q) (.c (17, .q) (.c (18, .q) (.c (19, .q) (.c (20, .q) (.c (21, .s) (.c (22, .q) (.c (23, .q) (.c (24, .q) .n))))))))))))))))))))))))) hI (by kernel_rfl) (by kernel_rfl) ?_))
 clear hI; intro w3 hI
 refine a_read rfl gn rfl (fun w' hw' => (y_loadN (l := (lType t1)) rfl et u23 rfl size_23 ((hI.kblk (l := (lType t1)) (.s .z) rfl).at_ (SX.any rfl hw')))) (by kernel_rfl) ?_
 obtain ⟨r1, hx1, h⟩ := bnd_some h
 refine la_call rfl gn rfl (r_callF (vs := [(Value.agg (AType t1))]) rfl ok_72 ⟨et, trivial⟩) (Calls.mono (c_fixed_ValidateType (Dj F c4) w3 hI.lt t1 trivial r1 hx1) ?_)
 rintro _ w4 ⟨rfl, hx2, hl1⟩
 refine ⟨_, rfl, hx2, ?_⟩
 replace hI := (hI.ext hx2)
 refine a_q rfl gn rfl (fun w' => y_eql rfl et ev_const) ?_
 refine a_q rfl gn rfl (fun w' => y_move rfl et) ?_
 refine a_gval rfl (g_true rfl rfl rfl rfl) rfl (fun hc => fun w' => (y_fieldAddr rfl et u36 rfl size_2 rfl)) ?_
 refine a_gread rfl (g_true rfl rfl rfl rfl) rfl (fun hc => fun w' hw' => (y_load1 (v := (vi v1.D)) rfl (ev_gv et hc) u2 rfl ((hI.kblk (l := [vi v1.D]) .z rfl).at_ (SX.any rfl hw')))) (by kernel_rfl) ?_
 refine a_gval rfl (g_true rfl rfl rfl rfl) rfl (fun hc => fun w' => (y_eql rfl (ev_gv et hc) ev_const)) ?_
 refine a_q rfl gn rfl (fun w' => y_and rfl et et) ?_
 refine a_q rfl gn rfl (fun w' => y_move rfl et) ?_
 refine a_gval rfl (g_true rfl rfl rfl rfl) rfl (fun hc => fun w' => (y_fieldAddr rfl et u36 rfl size_2 rfl)) ?_
 refine a_gread rfl (g_true rfl rfl rfl rfl) rfl (fun hc => fun w' hw' => (y_load1 (v := (vi v1.N)) rfl (ev_gv et hc) u2 rfl ((hI.kblk (l := [vi v1.N]) .z rfl).at_ (SX.any rfl hw')))) (by kernel_rfl) ?_
 refine a_gval rfl (g_true rfl rfl rfl rfl) rfl (fun hc => fun w' => (y_fieldAddr rfl et u23 rfl size_3 rfl)) ?_
 refine a_gread rfl (g_true rfl rfl rfl rfl) rfl (fun hc => fun w' hw' => (y_load1 (v := (vi t1.Bits)) rfl (ev_gv et hc) u3 rfl ((hI.kblk (l := [vi t1.Bits]) (.s .z) rfl).at_ (SX.any rfl hw')))) (by kernel_rfl) ?_
 obtain ⟨r2, hx3, h⟩ := bnd_some h
 replace hx3 := gd_some hx3
 refine la_gcallU (v := (vi r2)) rfl (g_true rfl rfl rfl rfl) rfl (fun hc => (r_callF (vs := [vi t1.Bits]) rfl ok_178 ⟨(ev_gv et hc), trivial⟩)) (fun hc => (c_round_MinInt (Dj F c4) w4 hI.lt t1.Bits trivial r2 (hx3 hc)).mono fun _ _ k => ⟨k.1, k.2.1⟩) ?_
 intro w5 hx4; replace hI := hI.ext hx4
 refine a_gval rfl (g_true rfl rfl rfl rfl) rfl (fun hc => fun w' => (y_geq rfl (ev_gv et hc) (ev_gv et hc))) ?_
 refine a_q rfl gn rfl (fun w' => y_and rfl et et) ?_
 refine a_q rfl gn rfl (fun w' => y_move rfl et) ?_
 refine a_gval rfl (g_true rfl rfl rfl rfl) rfl (fun hc => fun w' => (y_fieldAddr rfl et u36 rfl size_2 rfl)) ?_
 refine a_gread rfl (g_true rfl rfl rfl rfl) rfl (fun hc => fun w' hw' => (y_load1 (v := (vi v1.N)) rfl (ev_gv et hc) u2 rfl ((hI.kblk (l := [vi v1.N]) .z rfl).at_ (SX.any rfl hw')))) (by kernel_rfl) ?_
 refine a_gval rfl (g_true rfl rfl rfl rfl) rfl (fun hc => fun w' => (y_fieldAddr rfl et u23 rfl size_3 rfl)) ?_
 refine a_gread rfl (g_true rfl rfl rfl rfl) rfl (fun hc => fun w' hw' => (y_load1 (v := (vi t1.Bits)) rfl (ev_gv et hc) u3 rfl ((hI.kblk (l := [vi t1.Bits]) (.s .z) rfl).at_ (SX.any rfl hw')))) (by kernel_rfl) ?_
 obtain ⟨r3, hx5, h⟩ := bnd_some h
 replace hx5 := gd_some hx5
 refine la_gcallU (v := (vi r3)) rfl (g_true rfl rfl rfl rfl) rfl (fun hc => (r_callF (vs := [vi t1.Bits]) rfl ok_179 ⟨(ev_gv et hc), trivial⟩)) (fun hc => (c_round_MaxInt (Dj F c4) w5 hI.lt t1.Bits trivial r3 (hx5 hc)).mono fun _ _ k => ⟨k.1, k.2.1⟩) ?_
 intro w6 hx6; replace hI := hI.ext hx6
 refine a_gval rfl (g_true rfl rfl rfl rfl) rfl (fun hc => fun w' => (y_leq rfl (ev_gv et hc) (ev_gv et hc))) ?_
 refine a_q rfl gn rfl (fun w' => y_and rfl et et) ?_
 refine a_q rfl gn rfl (fun w' => y_assign rfl et) ?_
 refine a_nil ?_
 refine k_next (e := [(4, (vb ((((decide (r1 = 0)) && (decide (v1.D = 1))) && (decide (r2 ≤ v1.N))) && (decide (v1.N ≤ r3)))))]) ⟨rfl, trivial⟩ ?_
 refine c_ret ?_
 obtain rfl := some_inj h
 exact q_ret (vs := [(vb ((((decide (r1 = 0)) && (decide (v1.D = 1))) && (decide (r2 ≤ v1.N))) && (decide (v1.N ≤ r3))))]) Tryz.results160 ⟨ev_tmp rfl rfl, trivial⟩ (fq hI trivial)
theorem c_value_whole (F : NP) (w0 : World) (hF : ∀ k, F k → k < w0.heap.size) (n1 : Int) (hc : AllCl [] F w0) (r : Bool)
  (h : m_value_whole n1 = some r) :
  Calls Tryz.prog 161 #[vi n1] w0 fun e w => e = .returned (vb r) ∧ Ext w0 w ∧ AllCl [] F w := by
 refine enterK Tryz.func161 rfl Tryz.ntmps161 rfl ?_
 have hI := Bun.start hF hc
 clear hc
 rw [m_value_whole] at h
 refine sr (sac ?_)
 refine nk (sr (sm ?_))
 refine sq (y_geq rfl et ev_const) ?_
 refine sm ?_
 refine s_gval (g_true rfl rfl rfl rfl) rfl (fun hc => y_move rfl et) ?_
 refine s_gval (g_true rfl rfl rfl rfl) rfl (fun hc => y_leq rfl (ev_gv et hc) ev_const) ?_
 refine sq (y_and rfl et et) ?_
 refine sa ?_
 refine nk (c_ret ?_)
 obtain rfl := some_inj h
 exact q_ret (vs := [(vb ((decide ((-2147483647) ≤ n1)) && (decide (n1 ≤ 2147483647))))]) Tryz.results161 ⟨ev_tmp rfl rfl, trivial⟩ (fq hI trivial)
theorem c_frac_inRange (F : NP) (w0 : World) (hF : ∀ k, F k → k < w0.heap.size) (n1 : Int) (hc : AllCl [] F w0) (r : Bool)
  (h : m_frac_inRange n1 = some r) :
  Calls Tryz.prog 180 #[vi n1] w0 fun e w => e = .returned (vb r) ∧ Ext w0 w ∧ AllCl [] F w := by
 refine enterK Tryz.func180 rfl Tryz.ntmps180 rfl ?_
 have hI := Bun.start hF hc
 clear hc
 rw [m_frac_inRange] at h
 refine sr (sac ?_)
 refine nk (sr (sm ?_))
 refine sq (y_geq rfl et ev_const) ?_
 refine sm ?_
 refine s_gval (g_true rfl rfl rfl rfl) rfl (fun hc => y_move rfl et) ?_
 refine s_gval (g_true rfl rfl rfl rfl) rfl (fun hc => y_leq rfl (ev_gv et hc) ev_const) ?_
 refine sq (y_and rfl et et) ?_
 refine sa ?_
 refine nk (c_ret ?_)
 obtain rfl := some_inj h
 exact q_ret (vs := [(vb ((decide ((-2147483647) ≤ n1)) && (decide (n1 ≤ 2147483647))))]) Tryz.results180 ⟨ev_tmp rfl rfl, trivial⟩ (fq hI trivial)
theorem c_frac_magnitude (F : NP) (w0 : World) (hF : ∀ k, F k → k < w0.heap.size) (n1 : Int) (hc : AllCl [] F w0) (r : Int)
  (h : m_frac_magnitude n1 = some r) :
  Calls Tryz.prog 182 #[vi n1] w0 fun e w => e = .returned (Value.int .u64 r) ∧ Ext w0 w ∧ AllCl [] F w := by
 refine enterK Tryz.func182 rfl Tryz.ntmps182 rfl ?_
 have hI := Bun.start hF hc
 clear hc
 rw [m_frac_magnitude] at h
 refine sr (sac ?_)
 refine nk (c_seq (sr (sm ?_)))
 refine sq (y_lss rfl et ev_const) ?_
 refine nk (cif h et (fun hb h => ?_) (fun hb h => ?_))
 ·refine sr (sm ?_)
  refine sq (y_conv rfl (by rw [u2]; rfl) u109 et) ?_
  refine sq (y_neg rfl et) ?_
  refine sa ?_
  refine nk (c_ret ?_)
  obtain rfl := some_inj h
  exact q_ret (vs := [(Value.int .u64 (wu64 (-(wu64 n1))))]) Tryz.results182 ⟨ev_tmp rfl rfl, trivial⟩ (fq hI trivial)
 refine c_skip (k_same (sr (sm ?_)))
 refine sq (y_conv rfl (by rw [u2]; rfl) u109 et) ?_
 refine sa ?_
 refine nk (c_ret ?_)
 obtain rfl := some_inj h
 exact q_ret (vs := [(Value.int .u64 (wu64 n1))]) Tryz.results182 ⟨ev_tmp rfl rfl, trivial⟩ (fq hI trivial)
theorem c_frac_gcd (F : NP) (w0 : World) (hF : ∀ k, F k → k < w0.heap.size) (a1 : Int) (b1 : Int) (hc : AllCl [] F w0) (r : Int)
  (h : m_frac_gcd a1 b1 = some r) :
  Calls Tryz.prog 181 #[(Value.int .u64 a1), (Value.int .u64 b1)] w0 fun e w => e = .returned (Value.int .u64 r) ∧ Ext w0 w ∧ AllCl [] F w := by
 refine enterK Tryz.func181 rfl Tryz.ntmps181 rfl ?_
 have hI := Bun.start hF hc
 clear hc
 rw [m_frac_gcd] at h
 refine sr (sac ?_)
 refine nk (c_seq (c_block (c_loop (α := Nat × Int × Int) (fun x => fun w => ∃ C, Bun noM F w0 C w [] [] ∧ m_frac_gcd_l1 (x.1) (x.2.1) (x.2.2) = some r) (fun x _ => x.1) (fun x => [(0, (Value.int .u64 (x.2.1))), (1, (Value.int .u64 (x.2.2)))]) (fu, a1, b1) ⟨_, hI.arr .n trivial, h⟩ ⟨rfl, rfl, trivial⟩ ?_)))
 clear h hI; rintro ⟨fuel1, a2, b2⟩ w1 ⟨c1, hI, h⟩
 dsimp only at hI h
 rcases fuel1 with _ | fuel1
 ·rw [m_frac_gcd_l1] at h; cases h
 rw [m_frac_gcd_l1] at h
 refine c_sub (e := [(0, (Value.int .u64 a2)), (1, (Value.int .u64 b2))]) ⟨rfl, rfl, trivial⟩ ?_
 refine c_seq (sr (sm ?_))
 refine sq (y_neq rfl et ev_const) ?_
 refine nk (cif h et (fun hb h => ?_) (fun hb h => ?_))
 ·refine c_skip (k_same (c_block (c_drawX [] false (.c (0, .q) (.c (1, .q) (.c (2, .q) (.c (3, .q) (.c (4, .q) (.c (5, .q) .n)))))) hI (by kernel_rfl) (by kernel_rfl) ?_)))
  clear hI; intro w2 hI
  refine a_q rfl gn rfl (fun w' => y_move rfl et) ?_
  refine a_q rfl gn rfl (fun w' => y_move rfl et) ?_
  refine a_q rfl gn rfl (fun w' => y_move rfl et) ?_
  obtain ⟨ho1, h⟩ := chk_some h
  refine a_q rfl gn rfl (fun w' => y_rem rfl et et ho1) ?_
  refine a_q rfl gn rfl (fun w' => y_assign rfl et) ?_
  refine a_q rfl gn rfl (fun w' => y_assign rfl et) ?_
  refine a_nil ?_
  exact k_loop (fuel1, b2, Int.tmod a2 b2) ⟨rfl, rfl, trivial⟩ ⟨_, hI.arr .n trivial, h⟩ (Nat.lt_succ_self _)
 refine c_exit ?_
 refine k_in ?_
 refine k_same (sr (sm ?_))
 refine sa ?_
 refine nk (c_ret ?_)
 obtain rfl := some_inj h
 exact q_ret (vs := [(Value.int .u64 a2)]) Tryz.results181 ⟨ev_tmp rfl rfl, trivial⟩ (fq hI trivial)
theorem c_frac_Valid (F : NP) (w0 : World) (hF : ∀ k, F k → k < w0.heap.size) (v1 : GVal) (hc : AllCl [] F w0) (r : Bool)
  (h : m_frac_Valid v1 = some r) :
  Calls Tryz.prog 162 #[(Value.agg (AVal v1))] w0 fun e w => e = .returned (vb r) ∧ Ext w0 w ∧ AllCl [] F w := by
 refine enterK Tryz.func162 rfl Tryz.ntmps162 rfl ?_
 have hI := Bun.start hF hc
 clear hc
 rw [m_frac_Valid] at h
 refine sr (l_box (v := (Value.agg (AVal v1))) (cs := (AVal v1)) hI gn rfl rfl et rfl ?_)
 clear hI; intro b1 c1 w1 hI
 obtain ⟨c2, hI⟩ := hI.relBox .z
 refine sac ?_
 refine nk (c_seq (c_drawX [] false (.c (0, .q) (.c (1, .q) (.c (2, .q) (.c (3, .q) (.c (4, .q) (.c (5, .q) (.c (6, .q) (.c (7, .q) (.c (8, .q) (.c (9, .q) (.c (10, .q) (.c (11, .s) (.c (12, .q) (.c (13, .q) (.c (14, .q) (.c (15, .q) (.c (17, .q) (.c (18, .q) (.c (19, .q) (.c (16, .s) (.c (20, .s) (.c (21, .q) (.c (22, .q) (.c (23, .q) .n)))))))))))))))))))))))) hI (by kernel_rfl) (by kernel_rfl) ?_))
 clear hI; intro w2 hI
 refine a_q rfl gn rfl (fun w' => y_fieldAddr rfl et u36 rfl size_2 rfl) ?_
 refine a_read rfl gn rfl (fun w' hw' => (y_load1 (v := (vi v1.D)) rfl et u2 rfl ((hI.kblk (l := [vi v1.D]) .z rfl).at_ (SX.any rfl hw')))) (by kernel_rfl) ?_
 refine a_q rfl gn rfl (fun w' => y_geq rfl et ev_const) ?_
 refine a_q rfl gn rfl (fun w' => y_move rfl et) ?_
 refine a_gval rfl (g_true rfl rfl rfl rfl) rfl (fun hc => fun w' => (y_fieldAddr rfl et u36 rfl size_2 rfl)) ?_
 refine a_gread rfl (g_true rfl rfl rfl rfl) rfl (fun hc => fun w' hw' => (y_load1 (v := (vi v1.D)) rfl (ev_gv et hc) u2 rfl ((hI.kblk (l := [vi v1.D]) .z rfl).at_ (SX.any rfl hw')))) (by kernel_rfl) ?_
 refine a_gval rfl (g_true rfl rfl rfl rfl) rfl (fun hc => fun w' => (y_leq rfl (ev_gv et hc) ev_const)) ?_
 refine a_q rfl gn rfl (fun w' => y_and rfl et et) ?_
 refine a_q rfl gn rfl (fun w' => y_move rfl et) ?_
 refine a_gval rfl (g_true rfl rfl rfl rfl) rfl (fun hc => fun w' => (y_fieldAddr rfl et u36 rfl size_2 rfl)) ?_
 refine a_gread rfl (g_true rfl rfl rfl rfl) rfl (fun hc => fun w' hw' => (y_load1 (v := (vi v1.N)) rfl (ev_gv et hc) u2 rfl ((hI.kblk (l := [vi v1.N]) .z rfl).at_ (SX.any rfl hw')))) (by kernel_rfl) ?_
 obtain ⟨r1, hx1, h⟩ := bnd_some h
 replace hx1 := gd_some hx1
 refine la_gcallU (v := (vb r1)) rfl (g_true rfl rfl rfl rfl) rfl (fun hc => (r_callF (vs := [vi v1.N]) rfl ok_180 ⟨(ev_gv et hc), trivial⟩)) (fun hc => (c_frac_inRange (Dj F c2) w2 hI.lt v1.N trivial r1 (hx1 hc)).mono fun _ _ k => ⟨k.1, k.2.1⟩) ?_
 intro w3 hx2; replace hI := hI.ext hx2
 refine a_q rfl gn rfl (fun w' => y_and rfl et et) ?_
 refine a_q rfl gn rfl (fun w' => y_move rfl et) ?_
 refine a_gval rfl (g_true rfl rfl rfl rfl) rfl (fun hc => fun w' => (y_fieldAddr rfl et u36 rfl size_2 rfl)) ?_
 refine a_gread rfl (g_true rfl rfl rfl rfl) rfl (fun hc => fun w' hw' => (y_load1 (v := (vi v1.N)) rfl (ev_gv et hc) u2 rfl ((hI.kblk (l := [vi v1.N]) .z rfl).at_ (SX.any rfl hw')))) (by kernel_rfl) ?_
 refine a_gval rfl (g_true rfl rfl rfl rfl) rfl (fun hc => fun w' => (y_fieldAddr rfl et u36 rfl size_2 rfl)) ?_
 refine a_gread rfl (g_true rfl rfl rfl rfl) rfl (fun hc => fun w' hw' => (y_load1 (v := (vi v1.D)) rfl (ev_gv et hc) u2 rfl ((hI.kblk (l := [vi v1.D]) .z rfl).at_ (SX.any rfl hw')))) (by kernel_rfl) ?_
 refine a_gval rfl (g_true rfl rfl rfl rfl) rfl (fun hc => fun w' => (y_conv rfl (by rw [u2]; rfl) u109 (ev_gv et hc))) ?_
 obtain ⟨r2, hx3, h⟩ := bnd_some h
 replace hx3 := gd_some hx3
 refine la_gcallU (v := (Value.int .u64 r2)) rfl (g_true rfl rfl rfl rfl) rfl (fun hc => (r_callF (vs := [vi v1.N]) rfl ok_182 ⟨(ev_gv et hc), trivial⟩)) (fun hc => (c_frac_magnitude (Dj F c2) w3 hI.lt v1.N trivial r2 (hx3 hc)).mono fun _ _ k => ⟨k.1, k.2.1⟩) ?_
 intro w4 hx4; replace hI := hI.ext hx4
 obtain ⟨r3, hx5, h⟩ := bnd_some h
 replace hx5 := gd_some hx5
 refine la_gcallU (v := (Value.int .u64 r3)) rfl (g_true rfl rfl rfl rfl) rfl (fun hc => (r_callF (vs := [(Value.int .u64 r2), (Value.int .u64 (wu64 v1.D))]) rfl ok_181 ⟨(ev_gv et hc), ⟨(ev_gv et hc), trivial⟩⟩)) (fun hc => (c_frac_gcd (Dj F c2) w4 hI.lt r2 (wu64 v1.D) trivial r3 (hx5 hc)).mono fun _ _ k => ⟨k.1, k.2.1⟩) ?_
 intro w5 hx6; replace hI := hI.ext hx6
 refine a_gval rfl (g_true rfl rfl rfl rfl) rfl (fun hc => fun w' => (y_eql rfl (ev_gv et hc) ev_const)) ?_
 refine a_q rfl gn rfl (fun w' => y_and rfl et et) ?_
 refine a_q rfl gn rfl (fun w' => y_assign rfl et) ?_
 refine a_nil ?_
 refine k_next (e := [(2, (vb ((((decide (1 ≤ v1.D)) && (decide (v1.D ≤ 2147483647))) && r1) && (decide (r3 = 1)))))]) ⟨rfl, trivial⟩ ?_
 refine c_ret ?_
 obtain rfl := some_inj h
 exact q_ret (vs := [(vb ((((decide (1 ≤ v1.D)) && (decide (v1.D ≤ 2147483647))) && r1) && (decide (r3 = 1))))]) Tryz.results162 ⟨ev_tmp rfl rfl, trivial⟩ (fq hI trivial)
theorem c_value_Valid (F : NP) (w0 : World) (hF : ∀ k, F k → k < w0.heap.size) (t1 : GType) (v1 : GVal) (hc : AllCl [] F w0) (r : Bool)
  (h : m_value_Valid t1 v1 = some r) :
  Calls Tryz.prog 132 #[(Value.agg (AType t1)), (Value.agg (AVal v1))] w0 fun e w => e = .returned (vb r) ∧ Ext w0 w ∧ AllCl [] F w := by
 refine enterK Tryz.func132 rfl Tryz.ntmps132 rfl ?_
 have hI := Bun.start hF hc
 clear hc
 rw [m_value_Valid] at h
 refine sr (l_box (v := (Value.agg (AType t1))) (cs := (AType t1)) hI gn rfl rfl et rfl ?_)
 clear hI; intro b1 c1 w1 hI
 obtain ⟨c2, hI⟩ := hI.relBox .z
 refine l_box (v := (Value.agg (AVal v1))) (cs := (AVal v1)) hI gn rfl rfl et rfl ?_
 clear hI; intro b2 c3 w2 hI
 obtain ⟨c4, hI⟩ := hI.relBox .z
 refine sac ?_
 refine nk (c_seq (sr (sq (y_loadN (l := (lType t1)) rfl et u23 rfl size_23 (hI.kblk (l := (lType t1)) (.s .z) rfl).1) ?_)))
 obtain ⟨r1, hx1, h⟩ := bnd_some h
 refine s_call gn rfl (r_callF (vs := [(Value.agg (AType t1))]) rfl ok_28 ⟨et, trivial⟩) (Calls.mono (c_value_ValidateType (Dj F c4) w2 hI.lt t1 trivial r1 hx1) ?_)
 rintro _ w3 ⟨rfl, hx2, hl1⟩
 refine ⟨_, rfl, ?_⟩
 replace hI := (hI.ext hx2)
 refine sq (y_neq rfl et ev_const) ?_
 refine nk (cif h et (fun hb h => ?_) (fun hb h => ?_))
 ·refine sr (sac ?_)
  refine nk (c_ret ?_)
  obtain rfl := some_inj h
  exact q_ret (vs := [vb false]) Tryz.results132 ⟨ev_tmp rfl rfl, trivial⟩ (fq hI trivial)
 refine c_skip (k_same (c_seq (sr (sq (y_fieldAddr rfl et u23 rfl size_3 rfl) ?_))))
 refine sq (y_load1 (v := (vi t1.Kind)) rfl et u3 rfl (hI.kblk (l := [vi t1.Kind]) (.s .z) rfl).1) ?_
 refine nk (c_block (sr (sq (y_eql rfl et ev_const) ?_)))
 refine sa ?_
 refine nk (cif h et (fun hb h => ?_) (fun hb h => ?_))
 ·refine sr (sq (y_loadN (l := (lType t1)) rfl et u23 rfl size_23 (hI.kblk (l := (lType t1)) (.s .z) rfl).1) ?_)
  refine sq (y_loadN (l := (lVal v1)) rfl et u36 rfl size_36 (hI.kblk (l := (lVal v1)) .z rfl).1) ?_
  obtain ⟨r2, hx3, h⟩ := bnd_some h
  refine s_call gn rfl (r_callF (vs := [(Value.agg (AType t1)), (Value.agg (AVal v1))]) rfl ok_160 ⟨et, ⟨et, trivial⟩⟩) (Calls.mono (c_fixed_Valid (Dj F c4) w3 hI.lt t1 v1 trivial r2 hx3) ?_)
  rintro _ w4 ⟨rfl, hx4, hl2⟩
  refine ⟨_, rfl, ?_⟩
  replace hI := (hI.ext hx4)
  refine sa ?_
  refine nk (c_ret ?_)
  obtain rfl := some_inj h
  exact q_ret (vs := [vb r2]) Tryz.results132 ⟨ev_tmp rfl rfl, trivial⟩ (fq hI trivial)
 refine sr (sq (y_eql rfl et ev_const) ?_)
 refine sa ?_
 refine nk (cif h et (fun hb h => ?_) (fun hb h => ?_))
 ·refine sr (sq (y_fieldAddr rfl et u36 rfl size_2 rfl) ?_)
  refine sq (y_load1 (v := (vi v1.D)) rfl et u2 rfl (hI.kblk (l := [vi v1.D]) .z rfl).1) ?_
  refine sq (y_eql rfl et ev_const) ?_
  refine sm ?_
  refine s_gval (g_true rfl rfl rfl rfl) rfl (fun hc => y_fieldAddr rfl et u36 rfl size_2 rfl) ?_
  refine s_gval (g_true rfl rfl rfl rfl) rfl (fun hc => (y_load1 (v := (vi v1.N)) rfl (ev_gv et hc) u2 rfl (hI.kblk (l := [vi v1.N]) .z rfl).1)) ?_
  obtain ⟨r3, hx5, h⟩ := bnd_some h
  replace hx5 := gd_some hx5
  refine s_gcallU (v := (vb r3)) (g_true rfl rfl rfl rfl) rfl (fun hc => (r_callF (vs := [vi v1.N]) rfl ok_161 ⟨(ev_gv et hc), trivial⟩)) (fun hc => (c_value_whole (Dj F c4) w3 hI.lt v1.N trivial r3 (hx5 hc)).mono fun _ _ k => ⟨k.1, k.2.1⟩) ?_
  intro w5 hx6; replace hI := hI.ext hx6
  refine sq (y_and rfl et et) ?_
  refine sa ?_
  refine nk (c_ret ?_)
  obtain rfl := some_inj h
  exact q_ret (vs := [(vb ((decide (v1.D = 1)) && r3))]) Tryz.results132 ⟨ev_tmp rfl rfl, trivial⟩ (fq hI trivial)
 refine c_skip (k_same (sr (sq (y_loadN (l := (lVal v1)) rfl et u36 rfl size_36 (hI.kblk (l := (lVal v1)) .z rfl).1) ?_)))
 obtain ⟨r4, hx7, h⟩ := bnd_some h
 refine s_call gn rfl (r_callF (vs := [(Value.agg (AVal v1))]) rfl ok_162 ⟨et, trivial⟩) (Calls.mono (c_frac_Valid (Dj F c4) w3 hI.lt v1 trivial r4 hx7) ?_)
 rintro _ w6 ⟨rfl, hx8, hl4⟩
 refine ⟨_, rfl, ?_⟩
 replace hI := (hI.ext hx8)
 refine sa ?_
 refine nk (c_ret ?_)
 obtain rfl := some_inj h
 exact q_ret (vs := [vb r4]) Tryz.results132 ⟨ev_tmp rfl rfl, trivial⟩ (fq hI trivial)
theorem c_expr_forms (F : NP) (w0 : World) (hF : ∀ k, F k → k < w0.heap.size) (e1 : GExpr) (a1 : Option Addr) (c1 : Nat) (a2 : Option Addr) (c2 : Nat) (a3 : Option Addr) (c3 : Nat) (hc : AllCl [Cl.sl cGMono a1 c1 e1.Lin.L, Cl.sl cGIndex a2 c2 e1.Idx, Cl.sl cGExpr a3 c3 e1.Args] F w0) (r : GExpr)
  (h : m_expr_forms e1 = some r) :
  Calls Tryz.prog 133 #[(Value.agg #[vi e1.Op, (str e1.Name), vi e1.Val.N, vi e1.Val.D, vi e1.Type_.Kind, vi e1.Type_.Bits, vi e1.Type_.Frac, vi e1.Type_.Round, vi e1.Type_.Over, vi e1.Lin.K, vs a1 e1.Lin.L.length c1, vs a2 e1.Idx.length c2, vs a3 e1.Args.length c3])] w0 fun e w => ∃ (b1 : Nat) (a4 : Option Addr) (c4 : Nat) (a5 : Option Addr) (c5 : Nat) (a6 : Option Addr) (c6 : Nat), e = .returned (Value.func (.func 163) #[] #[vp b1 0]) ∧ Ext w0 w ∧ AllCl [Cl.sl cGMono a4 c4 r.Lin.L, Cl.sl cGIndex a5 c5 r.Idx, Cl.sl cGExpr a6 c6 r.Args, Cl.blk b1 39 #[vi r.Op, (str r.Name), vi r.Val.N, vi r.Val.D, vi r.Type_.Kind, vi r.Type_.Bits, vi r.Type_.Frac, vi r.Type_.Round, vi r.Type_.Over, vi r.Lin.K, vs a4 r.Lin.L.length c4, vs a5 r.Idx.length c5, vs a6 r.Args.length c6]] F w := by
 refine enterK Tryz.func133 rfl Tryz.ntmps133 rfl ?_
 have hI := Bun.start hF hc
 clear hc
 rw [m_expr_forms] at h
 refine sr (l_box (v := (Value.agg #[vi e1.Op, (str e1.Name), vi e1.Val.N, vi e1.Val.D, vi e1.Type_.Kind, vi e1.Type_.Bits, vi e1.Type_.Frac, vi e1.Type_.Round, vi e1.Type_.Over, vi e1.Lin.K, vs a1 e1.Lin.L.length c1, vs a2 e1.Idx.length c2, vs a3 e1.Args.length c3])) (cs := #[vi e1.Op, (str e1.Name), vi e1.Val.N, vi e1.Val.D, vi e1.Type_.Kind, vi e1.Type_.Bits, vi e1.Type_.Frac, vi e1.Type_.Round, vi e1.Type_.Over, vi e1.Lin.K, vs a1 e1.Lin.L.length c1, vs a2 e1.Idx.length c2, vs a3 e1.Args.length c3]) hI gn rfl rfl et rfl ?_)
 clear hI; intro b2 c7 w1 hI
 obtain ⟨c8, hI⟩ := hI.relBox .z
 refine sac ?_
 refine nk (sr (sq (y_makeFunc (vs := []) (cap := [vp b2 0]) rfl rfl ⟨et, trivial⟩) ?_))
 refine sa ?_
 refine nk (c_ret ?_)
 obtain rfl := some_inj h
 exact q_ret (vs := [(Value.func (.func 163) #[] #[vp b2 0])]) Tryz.results133 ⟨ev_tmp rfl rfl, trivial⟩ ⟨b2, a1, c1, a2, c2, a3, c3, rfl, hI.ext0, hI.fin ⟨(.s .z), (.s (.s .z)), (.s (.s (.s .z))), .z, trivial⟩⟩
theorem c_lin_reserved (F : NP) (w0 : World) (hF : ∀ k, F k → k < w0.heap.size) (s1 : List UInt8) (hc : AllCl [] F w0) (r : Bool)
  (h : m_lin_reserved s1 = some r) :
  Calls Tryz.prog 121 #[(str s1)] w0 fun e w => e = .returned (vb r) ∧ Ext w0 w ∧ AllCl [] F w := by
 refine enterK Tryz.func121 rfl Tryz.ntmps121 rfl ?_
 have hI := Bun.start hF hc
 clear hc
 rw [m_lin_reserved] at h
 refine sr (sac ?_)
 refine nk (c_seq (sr (sm ?_)))
 refine nk (c_block (c_seq (sr (sq (y_eqs rfl et ev_const) ?_))))
 refine sa ?_
 refine nk (cif h et (fun hb h => ?_) (fun hb h => ?_))
 ·refine c_skip (k_same (cif h et (fun hb h => ?_) (fun hb h => ?_)))
  ·refine sr (sac ?_)
   refine nk (c_ret ?_)
   obtain rfl := some_inj h
   exact q_ret (vs := [vb true]) Tryz.results121 ⟨ev_tmp rfl rfl, trivial⟩ (fq hI trivial)
  refine c_skip (k_same (sr (sac ?_)))
  refine nk (c_ret ?_)
  obtain rfl := some_inj h
  exact q_ret (vs := [vb false]) Tryz.results121 ⟨ev_tmp rfl rfl, trivial⟩ (fq hI trivial)
 refine sr (sq (y_eqs rfl et ev_const) ?_)
 refine sa ?_
 refine nk (cif h et (fun hb h => ?_) (fun hb h => ?_))
 ·refine c_skip (k_same (cif h et (fun hb h => ?_) (fun hb h => ?_)))
  ·refine sr (sac ?_)
   refine nk (c_ret ?_)
   obtain rfl := some_inj h
   exact q_ret (vs := [vb true]) Tryz.results121 ⟨ev_tmp rfl rfl, trivial⟩ (fq hI trivial)
  refine c_skip (k_same (sr (sac ?_)))
  refine nk (c_ret ?_)
  obtain rfl := some_inj h
  exact q_ret (vs := [vb false]) Tryz.results121 ⟨ev_tmp rfl rfl, trivial⟩ (fq hI trivial)
 refine sr (sq (y_eqs rfl et ev_const) ?_)
 refine sa ?_
 refine nk (cif h et (fun hb h => ?_) (fun hb h => ?_))
 ·refine c_skip (k_same (cif h et (fun hb h => ?_) (fun hb h => ?_)))
  ·refine sr (sac ?_)
   refine nk (c_ret ?_)
   obtain rfl := some_inj h
   exact q_ret (vs := [vb true]) Tryz.results121 ⟨ev_tmp rfl rfl, trivial⟩ (fq hI trivial)
  refine c_skip (k_same (sr (sac ?_)))
  refine nk (c_ret ?_)
  obtain rfl := some_inj h
  exact q_ret (vs := [vb false]) Tryz.results121 ⟨ev_tmp rfl rfl, trivial⟩ (fq hI trivial)
 refine sr (sq (y_eqs rfl et ev_const) ?_)
 refine sa ?_
 refine nk (cif h et (fun hb h => ?_) (fun hb h => ?_))
 ·refine c_skip (k_same (cif h et (fun hb h => ?_) (fun hb h => ?_)))
  ·refine sr (sac ?_)
   refine nk (c_ret ?_)
   obtain rfl := some_inj h
   exact q_ret (vs := [vb true]) Tryz.results121 ⟨ev_tmp rfl rfl, trivial⟩ (fq hI trivial)
  refine c_skip (k_same (sr (sac ?_)))
  refine nk (c_ret ?_)
  obtain rfl := some_inj h
  exact q_ret (vs := [vb false]) Tryz.results121 ⟨ev_tmp rfl rfl, trivial⟩ (fq hI trivial)
 refine sr (sq (y_eqs rfl et ev_const) ?_)
 refine sa ?_
 refine nk (cif h et (fun hb h => ?_) (fun hb h => ?_))
 ·refine c_skip (k_same (cif h et (fun hb h => ?_) (fun hb h => ?_)))
  ·refine sr (sac ?_)
   refine nk (c_ret ?_)
   obtain rfl := some_inj h
   exact q_ret (vs := [vb true]) Tryz.results121 ⟨ev_tmp rfl rfl, trivial⟩ (fq hI trivial)
  refine c_skip (k_same (sr (sac ?_)))
  refine nk (c_ret ?_)
  obtain rfl := some_inj h
  exact q_ret (vs := [vb false]) Tryz.results121 ⟨ev_tmp rfl rfl, trivial⟩ (fq hI trivial)
 refine sr (sq (y_eqs rfl et ev_const) ?_)
 refine sa ?_
 refine nk (cif h et (fun hb h => ?_) (fun hb h => ?_))
 ·refine c_skip (k_same (cif h et (fun hb h => ?_) (fun hb h => ?_)))
  ·refine sr (sac ?_)
   refine nk (c_ret ?_)
   obtain rfl := some_inj h
   exact q_ret (vs := [vb true]) Tryz.results121 ⟨ev_tmp rfl rfl, trivial⟩ (fq hI trivial)
  refine c_skip (k_same (sr (sac ?_)))
  refine nk (c_ret ?_)
  obtain rfl := some_inj h
  exact q_ret (vs := [vb false]) Tryz.results121 ⟨ev_tmp rfl rfl, trivial⟩ (fq hI trivial)
 refine sr (sq (y_eqs rfl et ev_const) ?_)
 refine sa ?_
 refine nk (cif h et (fun hb h => ?_) (fun hb h => ?_))
 ·refine c_skip (k_same (cif h et (fun hb h => ?_) (fun hb h => ?_)))
  ·refine sr (sac ?_)
   refine nk (c_ret ?_)
   obtain rfl := some_inj h
   exact q_ret (vs := [vb true]) Tryz.results121 ⟨ev_tmp rfl rfl, trivial⟩ (fq hI trivial)
  refine c_skip (k_same (sr (sac ?_)))
  refine nk (c_ret ?_)
  obtain rfl := some_inj h
  exact q_ret (vs := [vb false]) Tryz.results121 ⟨ev_tmp rfl rfl, trivial⟩ (fq hI trivial)
 refine sr (sq (y_eqs rfl et ev_const) ?_)
 refine sa ?_
 refine nk (cif h et (fun hb h => ?_) (fun hb h => ?_))
 ·refine c_skip (k_same (cif h et (fun hb h => ?_) (fun hb h => ?_)))
  ·refine sr (sac ?_)
   refine nk (c_ret ?_)
   obtain rfl := some_inj h
   exact q_ret (vs := [vb true]) Tryz.results121 ⟨ev_tmp rfl rfl, trivial⟩ (fq hI trivial)
  refine c_skip (k_same (sr (sac ?_)))
  refine nk (c_ret ?_)
  obtain rfl := some_inj h
  exact q_ret (vs := [vb false]) Tryz.results121 ⟨ev_tmp rfl rfl, trivial⟩ (fq hI trivial)
 refine sr (sq (y_eqs rfl et ev_const) ?_)
 refine sa ?_
 refine nk (cif h et (fun hb h => ?_) (fun hb h => ?_))
 ·refine c_skip (k_same (cif h et (fun hb h => ?_) (fun hb h => ?_)))
  ·refine sr (sac ?_)
   refine nk (c_ret ?_)
   obtain rfl := some_inj h
   exact q_ret (vs := [vb true]) Tryz.results121 ⟨ev_tmp rfl rfl, trivial⟩ (fq hI trivial)
  refine c_skip (k_same (sr (sac ?_)))
  refine nk (c_ret ?_)
  obtain rfl := some_inj h
  exact q_ret (vs := [vb false]) Tryz.results121 ⟨ev_tmp rfl rfl, trivial⟩ (fq hI trivial)
 refine sr (sq (y_eqs rfl et ev_const) ?_)
 refine sa ?_
 refine nk (cif h et (fun hb h => ?_) (fun hb h => ?_))
 ·refine c_skip (k_same (cif h et (fun hb h => ?_) (fun hb h => ?_)))
  ·refine sr (sac ?_)
   refine nk (c_ret ?_)
   obtain rfl := some_inj h
   exact q_ret (vs := [vb true]) Tryz.results121 ⟨ev_tmp rfl rfl, trivial⟩ (fq hI trivial)
  refine c_skip (k_same (sr (sac ?_)))
  refine nk (c_ret ?_)
  obtain rfl := some_inj h
  exact q_ret (vs := [vb false]) Tryz.results121 ⟨ev_tmp rfl rfl, trivial⟩ (fq hI trivial)
 refine sr (sq (y_eqs rfl et ev_const) ?_)
 refine sa ?_
 refine nk (cif h et (fun hb h => ?_) (fun hb h => ?_))
 ·refine c_skip (k_same (cif h et (fun hb h => ?_) (fun hb h => ?_)))
  ·refine sr (sac ?_)
   refine nk (c_ret ?_)
   obtain rfl := some_inj h
   exact q_ret (vs := [vb true]) Tryz.results121 ⟨ev_tmp rfl rfl, trivial⟩ (fq hI trivial)
  refine c_skip (k_same (sr (sac ?_)))
  refine nk (c_ret ?_)
  obtain rfl := some_inj h
  exact q_ret (vs := [vb false]) Tryz.results121 ⟨ev_tmp rfl rfl, trivial⟩ (fq hI trivial)
 refine sr (sq (y_eqs rfl et ev_const) ?_)
 refine sa ?_
 refine nk (cif h et (fun hb h => ?_) (fun hb h => ?_))
 ·refine c_skip (k_same (cif h et (fun hb h => ?_) (fun hb h => ?_)))
  ·refine sr (sac ?_)
   refine nk (c_ret ?_)
   obtain rfl := some_inj h
   exact q_ret (vs := [vb true]) Tryz.results121 ⟨ev_tmp rfl rfl, trivial⟩ (fq hI trivial)
  refine c_skip (k_same (sr (sac ?_)))
  refine nk (c_ret ?_)
  obtain rfl := some_inj h
  exact q_ret (vs := [vb false]) Tryz.results121 ⟨ev_tmp rfl rfl, trivial⟩ (fq hI trivial)
 refine sr (sq (y_eqs rfl et ev_const) ?_)
 refine sa ?_
 refine nk (cif h et (fun hb h => ?_) (fun hb h => ?_))
 ·refine c_skip (k_same (cif h et (fun hb h => ?_) (fun hb h => ?_)))
  ·refine sr (sac ?_)
   refine nk (c_ret ?_)
   obtain rfl := some_inj h
   exact q_ret (vs := [vb true]) Tryz.results121 ⟨ev_tmp rfl rfl, trivial⟩ (fq hI trivial)
  refine c_skip (k_same (sr (sac ?_)))
  refine nk (c_ret ?_)
  obtain rfl := some_inj h
  exact q_ret (vs := [vb false]) Tryz.results121 ⟨ev_tmp rfl rfl, trivial⟩ (fq hI trivial)
 refine sr (sq (y_eqs rfl et ev_const) ?_)
 refine sa ?_
 refine nk (cif h et (fun hb h => ?_) (fun hb h => ?_))
 ·refine c_skip (k_same (cif h et (fun hb h => ?_) (fun hb h => ?_)))
  ·refine sr (sac ?_)
   refine nk (c_ret ?_)
   obtain rfl := some_inj h
   exact q_ret (vs := [vb true]) Tryz.results121 ⟨ev_tmp rfl rfl, trivial⟩ (fq hI trivial)
  refine c_skip (k_same (sr (sac ?_)))
  refine nk (c_ret ?_)
  obtain rfl := some_inj h
  exact q_ret (vs := [vb false]) Tryz.results121 ⟨ev_tmp rfl rfl, trivial⟩ (fq hI trivial)
 refine sr (sq (y_eqs rfl et ev_const) ?_)
 refine sa ?_
 refine nk (cif h et (fun hb h => ?_) (fun hb h => ?_))
 ·refine c_skip (k_same (cif h et (fun hb h => ?_) (fun hb h => ?_)))
  ·refine sr (sac ?_)
   refine nk (c_ret ?_)
   obtain rfl := some_inj h
   exact q_ret (vs := [vb true]) Tryz.results121 ⟨ev_tmp rfl rfl, trivial⟩ (fq hI trivial)
  refine c_skip (k_same (sr (sac ?_)))
  refine nk (c_ret ?_)
  obtain rfl := some_inj h
  exact q_ret (vs := [vb false]) Tryz.results121 ⟨ev_tmp rfl rfl, trivial⟩ (fq hI trivial)
 refine sr (sq (y_eqs rfl et ev_const) ?_)
 refine sa ?_
 refine nk (cif h et (fun hb h => ?_) (fun hb h => ?_))
 ·refine c_skip (k_same (cif h et (fun hb h => ?_) (fun hb h => ?_)))
  ·refine sr (sac ?_)
   refine nk (c_ret ?_)
   obtain rfl := some_inj h
   exact q_ret (vs := [vb true]) Tryz.results121 ⟨ev_tmp rfl rfl, trivial⟩ (fq hI trivial)
  refine c_skip (k_same (sr (sac ?_)))
  refine nk (c_ret ?_)
  obtain rfl := some_inj h
  exact q_ret (vs := [vb false]) Tryz.results121 ⟨ev_tmp rfl rfl, trivial⟩ (fq hI trivial)
 refine sr (sq (y_eqs rfl et ev_const) ?_)
 refine sa ?_
 refine nk (cif h et (fun hb h => ?_) (fun hb h => ?_))
 ·refine c_skip (k_same (cif h et (fun hb h => ?_) (fun hb h => ?_)))
  ·refine sr (sac ?_)
   refine nk (c_ret ?_)
   obtain rfl := some_inj h
   exact q_ret (vs := [vb true]) Tryz.results121 ⟨ev_tmp rfl rfl, trivial⟩ (fq hI trivial)
  refine c_skip (k_same (sr (sac ?_)))
  refine nk (c_ret ?_)
  obtain rfl := some_inj h
  exact q_ret (vs := [vb false]) Tryz.results121 ⟨ev_tmp rfl rfl, trivial⟩ (fq hI trivial)
 refine sr (sq (y_eqs rfl et ev_const) ?_)
 refine sa ?_
 refine nk (cif h et (fun hb h => ?_) (fun hb h => ?_))
 ·refine c_skip (k_same (cif h et (fun hb h => ?_) (fun hb h => ?_)))
  ·refine sr (sac ?_)
   refine nk (c_ret ?_)
   obtain rfl := some_inj h
   exact q_ret (vs := [vb true]) Tryz.results121 ⟨ev_tmp rfl rfl, trivial⟩ (fq hI trivial)
  refine c_skip (k_same (sr (sac ?_)))
  refine nk (c_ret ?_)
  obtain rfl := some_inj h
  exact q_ret (vs := [vb false]) Tryz.results121 ⟨ev_tmp rfl rfl, trivial⟩ (fq hI trivial)
 refine sr (sq (y_eqs rfl et ev_const) ?_)
 refine sa ?_
 refine nk (cif h et (fun hb h => ?_) (fun hb h => ?_))
 ·refine c_skip (k_same (cif h et (fun hb h => ?_) (fun hb h => ?_)))
  ·refine sr (sac ?_)
   refine nk (c_ret ?_)
   obtain rfl := some_inj h
   exact q_ret (vs := [vb true]) Tryz.results121 ⟨ev_tmp rfl rfl, trivial⟩ (fq hI trivial)
  refine c_skip (k_same (sr (sac ?_)))
  refine nk (c_ret ?_)
  obtain rfl := some_inj h
  exact q_ret (vs := [vb false]) Tryz.results121 ⟨ev_tmp rfl rfl, trivial⟩ (fq hI trivial)
 refine sr (sq (y_eqs rfl et ev_const) ?_)
 refine sa ?_
 refine nk (cif h et (fun hb h => ?_) (fun hb h => ?_))
 ·refine c_skip (k_same (cif h et (fun hb h => ?_) (fun hb h => ?_)))
  ·refine sr (sac ?_)
   refine nk (c_ret ?_)
   obtain rfl := some_inj h
   exact q_ret (vs := [vb true]) Tryz.results121 ⟨ev_tmp rfl rfl, trivial⟩ (fq hI trivial)
  refine c_skip (k_next (e := []) trivial ?_)
  refine sr (sac ?_)
  refine nk (c_ret ?_)
  obtain rfl := some_inj h
  exact q_ret (vs := [vb false]) Tryz.results121 ⟨ev_tmp rfl rfl, trivial⟩ (fq hI trivial)
 refine sr (sq (y_eqs rfl et ev_const) ?_)
 refine sa ?_
 refine nk (cif h et (fun hb h => ?_) (fun hb h => ?_))
 ·refine c_skip (k_next (e := [(4, (vb (decide (s1 = ([115, 97, 116] : List UInt8)))))]) ⟨rfl, trivial⟩ ?_)
  refine cif h et (fun hb h => ?_) (fun hb h => ?_)
  ·refine sr (sac ?_)
   refine nk (c_ret ?_)
   obtain rfl := some_inj h
   exact q_ret (vs := [vb true]) Tryz.results121 ⟨ev_tmp rfl rfl, trivial⟩ (fq hI trivial)
  refine c_skip (k_same (sr (sac ?_)))
  refine nk (c_ret ?_)
  obtain rfl := some_inj h
  exact q_ret (vs := [vb false]) Tryz.results121 ⟨ev_tmp rfl rfl, trivial⟩ (fq hI trivial)
 refine c_region rfl ?_
 refine sq (y_eqs rfl et ev_const) ?_
 refine sa ?_
 refine s_nil ?_
 refine k_next (e := [(4, (vb (decide (s1 = ([119, 114, 97, 112] : List UInt8)))))]) ⟨rfl, trivial⟩ ?_
 refine cif h et (fun hb h => ?_) (fun hb h => ?_)
 ·refine sr (sac ?_)
  refine nk (c_ret ?_)
  obtain rfl := some_inj h
  exact q_ret (vs := [vb true]) Tryz.results121 ⟨ev_tmp rfl rfl, trivial⟩ (fq hI trivial)
 refine c_skip (k_same (sr (sac ?_)))
 refine nk (c_ret ?_)
 obtain rfl := some_inj h
 exact q_ret (vs := [vb false]) Tryz.results121 ⟨ev_tmp rfl rfl, trivial⟩ (fq hI trivial)
theorem c_lin_identifier (F : NP) (w0 : World) (hF : ∀ k, F k → k < w0.heap.size) (s1 : List UInt8) (hc : AllCl [] F w0) (r : Bool)
  (h : m_lin_identifier s1 = some r) :
  Calls Tryz.prog 76 #[(str s1)] w0 fun e w => e = .returned (vb r) ∧ Ext w0 w ∧ AllCl [] F w := by
 refine enterK Tryz.func76 rfl Tryz.ntmps76 rfl ?_
 have hI := Bun.start hF hc
 clear hc
 rw [m_lin_identifier] at h
 refine sr (sac ?_)
 refine nk (c_seq (sr (sm ?_)))
 refine sq (y_lens rfl u9 et) ?_
 refine sq (y_lss rfl et ev_const) ?_
 refine sm ?_
 refine s_gval (g_false rfl rfl rfl rfl) rfl (fun hc => y_move rfl et) ?_
 refine s_gval (g_false rfl rfl rfl rfl) rfl (fun hc => y_lens rfl u9 (ev_gv et hc)) ?_
 refine s_gval (g_false rfl rfl rfl rfl) rfl (fun hc => y_gtr rfl (ev_gv et hc) ev_const) ?_
 refine sq (y_or rfl et et) ?_
 refine sm ?_
 refine s_gval (g_false rfl rfl rfl rfl) rfl (fun hc => y_move rfl et) ?_
 obtain ⟨r1, hx1, h⟩ := bnd_some h
 replace hx1 := gd_some hx1
 refine s_gcallU (v := (vb r1)) (g_false rfl rfl rfl rfl) rfl (fun hc => (r_callF (vs := [(str s1)]) rfl ok_121 ⟨(ev_gv et hc), trivial⟩)) (fun hc => (c_lin_reserved (Dj F noM) w0 hI.lt s1 trivial r1 (hx1 hc)).mono fun _ _ k => ⟨k.1, k.2.1⟩) ?_
 intro w1 hx2; replace hI := hI.ext hx2
 refine sq (y_or rfl et et) ?_
 refine sm ?_
 refine s_gval (g_false rfl rfl rfl rfl) rfl (fun hc => y_move rfl et) ?_
 obtain ⟨b1, hx3, h⟩ := bnd_some h
 replace hx3 := gd_some hx3
 refine s_gval (g_false rfl rfl rfl rfl) rfl (fun hc => y_satl rfl u9 (ev_gv et hc) ev_const (hx3 hc)) ?_
 refine s_gval (g_false rfl rfl rfl rfl) rfl (fun hc => y_lss rfl (ev_gv et hc) ev_const) ?_
 refine sq (y_or rfl et et) ?_
 refine sm ?_
 refine s_gval (g_false rfl rfl rfl rfl) rfl (fun hc => y_move rfl et) ?_
 obtain ⟨b2, hx4, h⟩ := bnd_some h
 replace hx4 := gd_some hx4
 refine s_gval (g_false rfl rfl rfl rfl) rfl (fun hc => y_satl rfl u9 (ev_gv et hc) ev_const (hx4 hc)) ?_
 refine s_gval (g_false rfl rfl rfl rfl) rfl (fun hc => y_gtr rfl (ev_gv et hc) ev_const) ?_
 refine sq (y_or rfl et et) ?_
 refine nk (cif h et (fun hb h => ?_) (fun hb h => ?_))
 ·refine sr (sac ?_)
  refine nk (c_ret ?_)
  obtain rfl := some_inj h
  exact q_ret (vs := [vb false]) Tryz.results76 ⟨ev_tmp rfl rfl, trivial⟩ (fq hI trivial)
 refine c_skip (k_same (c_seq (sr (sm ?_))))
 refine sq (y_lens rfl u9 et) ?_
 refine sq (y_move rfl ev_const) ?_
 refine s_nil ?_
 refine k_next (e := [(0, (str s1)), (28, vi (s1.length : Int)), (29, vi 0)]) ⟨rfl, rfl, rfl, trivial⟩ ?_
 refine c_block (c_loop (α := Nat × Int) (fun x => fun w => ∃ C, Bun noM F w0 C w [] [] ∧ m_lin_identifier_l1 s1 (x.1) (x.2) = some r) (fun x _ => x.1) (fun x => [(0, (str s1)), (28, vi (s1.length : Int)), (29, vi (x.2))]) (fu, 0) ⟨_, hI.arr .n trivial, h⟩ ⟨rfl, rfl, rfl, trivial⟩ ?_)
 clear h hI; rintro ⟨fuel1, i1⟩ w2 ⟨c1, hI, h⟩
 dsimp only at hI h
 rcases fuel1 with _ | fuel1
 ·rw [m_lin_identifier_l1] at h; cases h
 rw [m_lin_identifier_l1] at h
 refine c_sub (e := [(0, (str s1)), (28, vi (s1.length : Int)), (29, vi i1)]) ⟨rfl, rfl, rfl, trivial⟩ ?_
 refine sr (sq (y_lss rfl et et) ?_)
 refine nk (c_seq (cif h et (fun hb h => ?_) (fun hb h => ?_)))
 ·refine c_skip (k_same (c_seq (c_block (sr (sm ?_)))))
  refine sa ?_
  refine nk (sr (sm ?_))
  refine sm ?_
  obtain ⟨b3, hx5, h⟩ := bnd_some h
  refine sq (y_satl rfl u9 et et hx5) ?_
  refine sa ?_
  refine nk (sr (sm ?_))
  refine sq (y_lss rfl et ev_const) ?_
  refine sm ?_
  refine s_gval (g_false rfl rfl rfl rfl) rfl (fun hc => y_move rfl et) ?_
  refine s_gval (g_false rfl rfl rfl rfl) rfl (fun hc => y_gtr rfl (ev_gv et hc) ev_const) ?_
  refine sq (y_or rfl et et) ?_
  refine sm ?_
  refine s_gval (g_true rfl rfl rfl rfl) rfl (fun hc => y_move rfl et) ?_
  refine s_gval (g_true rfl rfl rfl rfl) rfl (fun hc => y_lss rfl (ev_gv et hc) ev_const) ?_
  refine s_gval (g_true rfl rfl rfl rfl) rfl (fun hc => y_move rfl (ev_gv et hc)) ?_
  refine s_gval (g_false2 rfl rfl rfl rfl) rfl (fun hc => y_move rfl et) ?_
  refine s_gval (g_false2 rfl rfl rfl rfl) rfl (fun hc => y_gtr rfl (ev_gv et hc) ev_const) ?_
  refine s_gval (g_true rfl rfl rfl rfl) rfl (fun hc => y_or2 rfl hc et et) ?_
  refine sq (y_and rfl et et) ?_
  refine sm ?_
  refine s_gval (g_true rfl rfl rfl rfl) rfl (fun hc => y_move rfl et) ?_
  refine s_gval (g_true rfl rfl rfl rfl) rfl (fun hc => y_neq rfl (ev_gv et hc) ev_const) ?_
  refine sq (y_and rfl et et) ?_
  refine s_nil ?_
  refine k_next (e := [(0, (str s1)), (28, vi (s1.length : Int)), (29, vi i1), (52, (vb ((((decide (b3 < 97)) || (decide (122 < b3))) && ((decide (b3 < 48)) || (decide (57 < b3)))) && (!decide (b3 = 95)))))]) ⟨rfl, rfl, rfl, rfl, trivial⟩ ?_
  refine cif h et (fun hb h => ?_) (fun hb h => ?_)
  ·refine sr (sac ?_)
   refine nk (c_ret ?_)
   obtain rfl := some_inj h
   exact q_ret (vs := [vb false]) Tryz.results76 ⟨ev_tmp rfl rfl, trivial⟩ (fq hI trivial)
  refine c_skip (k_same (c_region rfl ?_))
  refine sq (y_add rfl et ev_const) ?_
  refine sm ?_
  refine s_nil ?_
  exact k_loop (fuel1, wi64 (i1 + 1)) ⟨rfl, rfl, rfl, trivial⟩ ⟨_, hI.arr .n trivial, h⟩ (Nat.lt_succ_self _)
 refine c_exit ?_
 refine k_in ?_
 refine k_same (sr (sac ?_))
 refine nk (c_ret ?_)
 obtain rfl := some_inj h
 exact q_ret (vs := [vb true]) Tryz.results76 ⟨ev_tmp rfl rfl, trivial⟩ (fq hI trivial)
theorem c_lin_Validate (F : NP) (w0 : World) (hF : ∀ k, F k → k < w0.heap.size) (l1 : GLin) (a1 : Option Addr) (c1 : Nat) (hc : AllCl [Cl.sl cGMono a1 c1 l1.L] F w0) (r : Int)
  (h : m_lin_Validate l1 = some r) :
  Calls Tryz.prog 34 #[(Value.agg (ALin l1 a1 c1))] w0 fun e w => e = .returned (vi r) ∧ Ext w0 w ∧ AllCl [] F w := by
 refine enterK Tryz.func34 rfl Tryz.ntmps34 rfl ?_
 have hI := Bun.start hF hc
 clear hc
 rw [m_lin_Validate] at h
 refine sr (l_box (v := (Value.agg (ALin l1 a1 c1))) (cs := (ALin l1 a1 c1)) hI gn rfl rfl et rfl ?_)
 clear hI; intro b1 c2 w1 hI
 obtain ⟨c3, hI⟩ := hI.relBox .z
 refine sac ?_
 refine nk (c_seq (sr (sq (y_fieldAddr rfl et u29 rfl size_27 rfl) ?_)))
 refine sq (y_load1 (v := (vs a1 l1.L.length c1)) rfl et u27 rfl (hI.kblk (l := [vs a1 l1.L.length c1]) .z rfl).1) ?_
 refine sq (y_lenl rfl u27 et) ?_
 refine sq (y_move rfl ev_const) ?_
 refine nk (c_block (c_loop (α := Nat × Int) (fun x => fun w => ∃ C, Bun noM F w0 C w [] [Cl.blk b1 29 (ALin l1 a1 c1), Cl.sl cGMono a1 c1 l1.L] ∧ m_lin_Validate_l1 l1 (x.1) (x.2) = some r) (fun x _ => x.1) (fun x => [(1, vp b1 0), (6, vs a1 l1.L.length c1), (7, vi (l1.L.length : Int)), (8, vi (x.2))]) (fu, 0) ⟨_, hI.arr .n ⟨.z, (.s .z), trivial⟩, h⟩ ⟨rfl, rfl, rfl, rfl, trivial⟩ ?_))
 clear h hI; rintro ⟨fuel1, i1⟩ w2 ⟨c4, hI, h⟩
 dsimp only at hI h
 rcases fuel1 with _ | fuel1
 ·rw [m_lin_Validate_l1] at h; cases h
 rw [m_lin_Validate_l1] at h
 refine c_sub (e := [(1, vp b1 0), (6, vs a1 l1.L.length c1), (7, vi (l1.L.length : Int)), (8, vi i1)]) ⟨rfl, rfl, rfl, rfl, trivial⟩ ?_
 refine sr (sq (y_lss rfl et et) ?_)
 refine nk (c_seq (cif h et (fun hb h => ?_) (fun hb h => ?_)))
 ·refine c_skip (k_same (c_seq (c_block (sr (sm ?_)))))
  obtain ⟨e1, hx1, h⟩ := bnd_some h
  obtain ⟨ad1, cs1, hA1, hr1, hq1⟩ := hI.clat (.s .z) hx1
  obtain rfl : cs1 = [(str e1.Name), vi e1.By] := hr1
  refine sq (y_indexAddr rfl u27 size_112 et et (lat_bd hx1) hA1) ?_
  refine sq (y_loadN (l := [(str e1.Name), vi e1.By]) rfl et u112 rfl size_112 hq1.1) ?_
  refine l_alloc (cs := #[(str ([] : List UInt8)), vi 0]) hI gn rfl rfl zero_112 rfl ?_
  clear hI; intro b2 c5 w3 hI
  refine sa ?_
  refine l_store (new := [(str e1.Name), vi e1.By]) (cs' := #[(str e1.Name), vi e1.By]) hI .z gn rfl rfl et et rfl size_112 rfl rfl rfl ?_
  clear hI; intro c6 w4 hI
  refine nk (c_seq (c_drawX [] false (.c (0, .q) (.c (1, .q) (.c (2, .s) (.c (3, .q) (.c (4, .q) (.c (5, .q) (.c (6, .q) (.c (7, .q) (.c (8, .q) (.c (9, .q) (.c (10, .q) (.c (11, .q) (.c (12, .q) (.c (13, .q) (.c (14, .q) (.c (15, .q) (.c (16, .q) (.c (17, .q) (.c (18, .q) (.c (19, .q) (.c (20, .q) (.c (21, .q) (.c (22, .q) (.c (23, .q) (.c (24, .q) .n))))))))))))))))))))))))) hI (by kernel_rfl) (by kernel_rfl) ?_))
  clear hI; intro w5 hI
  refine a_q rfl gn rfl (fun w' => y_fieldAddr rfl et u112 rfl size_9 rfl) ?_
  refine a_read rfl gn rfl (fun w' hw' => (y_load1 (v := (str e1.Name)) rfl et u9 rfl ((CA.blk (hI.blk .z) rfl).at_ (SX.any rfl hw')))) (by kernel_rfl) ?_
  obtain ⟨r1, hx2, h⟩ := bnd_some h
  refine la_call rfl gn rfl (r_callF (vs := [(str e1.Name)]) rfl ok_76 ⟨et, trivial⟩) (Calls.mono (c_lin_identifier (Dj F c6) w5 hI.lt e1.Name trivial r1 hx2) ?_)
  rintro _ w6 ⟨rfl, hx3, hl1⟩
  refine ⟨_, rfl, hx3, ?_⟩
  replace hI := (hI.ext hx3)
  refine a_q rfl gn rfl (fun w' => y_not rfl et) ?_
  refine a_q rfl gn rfl (fun w' => y_move rfl et) ?_
  refine a_gval rfl (g_false rfl rfl rfl rfl) rfl (fun hc => fun w' => (y_fieldAddr rfl et u112 rfl size_2 rfl)) ?_
  refine a_gread rfl (g_false rfl rfl rfl rfl) rfl (fun hc => fun w' hw' => (y_load1 (v := (vi e1.By)) rfl (ev_gv et hc) u2 rfl ((CA.blk (hI.blk .z) rfl).at_ (SX.any rfl hw')))) (by kernel_rfl) ?_
  refine a_gval rfl (g_false rfl rfl rfl rfl) rfl (fun hc => fun w' => (y_eql rfl (ev_gv et hc) ev_const)) ?_
  refine a_q rfl gn rfl (fun w' => y_or rfl et et) ?_
  refine a_q rfl gn rfl (fun w' => y_move rfl et) ?_
  refine a_gval rfl (g_false rfl rfl rfl rfl) rfl (fun hc => fun w' => (y_move rfl et)) ?_
  refine a_gval rfl (g_false rfl rfl rfl rfl) rfl (fun hc => fun w' => (y_gtr rfl (ev_gv et hc) ev_const)) ?_
  refine a_gval rfl (g_false rfl rfl rfl rfl) rfl (fun hc => fun w' => (y_move rfl (ev_gv et hc))) ?_
  refine a_gval rfl (g_true2 rfl rfl rfl rfl) rfl (fun hc => fun w' => (y_fieldAddr rfl et u29 rfl size_27 rfl)) ?_
  refine a_gread rfl (g_true2 rfl rfl rfl rfl) rfl (fun hc => fun w' hw' => (y_load1 (v := (vs a1 l1.L.length c1)) rfl (ev_gv et hc) u27 rfl ((hI.kblk (l := [vs a1 l1.L.length c1]) .z rfl).at_ (SX.any rfl hw')))) (by kernel_rfl) ?_
  refine a_gval rfl (g_true2 rfl rfl rfl rfl) rfl (fun hc => fun w' => (y_move rfl et)) ?_
  refine a_gval rfl (g_true2 rfl rfl rfl rfl) rfl (fun hc => fun w' => (y_sub rfl (ev_gv et hc) ev_const)) ?_
  obtain ⟨e2, hx4, h⟩ := bnd_some h
  replace hx4 := gd_some hx4
  obtain ⟨ad2, cs2, hq2⟩ := hI.gclat (.s .z) hx4
  have hq3 : ((!((!r1) || (decide (e1.By = 0)))) && (decide (0 < i1))) = true → CA (Dj F c6) w6 (ad2.add (Int.toNat (wi64 (i1 - 1)) * 2)) [(str e2.Name), vi e2.By] := fun hc => by have k := hq2 hc; have e : cs2 = _ := k.2.1; rw [← e]; exact k.2.2
  refine a_gval rfl (g_true2 rfl rfl rfl rfl) rfl (fun hc => fun w' => (y_indexAddr rfl u27 size_112 (ev_gv et hc) (ev_gv et hc) (lat_bd (hx4 hc)) (hq2 hc).1)) ?_
  refine a_gval rfl (g_true2 rfl rfl rfl rfl) rfl (fun hc => fun w' => (y_fieldAddr rfl (ev_gv et hc) u112 rfl size_9 rfl)) ?_
  refine a_gread rfl (g_true2 rfl rfl rfl rfl) rfl (fun hc => fun w' hw' => (y_load1 (v := (str e2.Name)) rfl (ev_gv et hc) u9 rfl ((CA.part (hq3 hc) rfl).at_ (SX.any rfl hw')))) (by kernel_rfl) ?_
  refine a_gval rfl (g_true2 rfl rfl rfl rfl) rfl (fun hc => fun w' => (y_fieldAddr rfl et u112 rfl size_9 rfl)) ?_
  refine a_gread rfl (g_true2 rfl rfl rfl rfl) rfl (fun hc => fun w' hw' => (y_load1 (v := (str e1.Name)) rfl (ev_gv et hc) u9 rfl ((CA.blk (hI.blk .z) rfl).at_ (SX.any rfl hw')))) (by kernel_rfl) ?_
  refine a_gval rfl (g_true2 rfl rfl rfl rfl) rfl (fun hc => fun w' => (y_ges rfl (ev_gv et hc) (ev_gv et hc))) ?_
  refine a_gval rfl (g_false rfl rfl rfl rfl) rfl (fun hc => fun w' => (y_and2 rfl hc et et)) ?_
  refine a_q rfl gn rfl (fun w' => y_or rfl et et) ?_
  refine a_nil ?_
  refine k_next (e := [(1, vp b1 0), (6, vs a1 l1.L.length c1), (7, vi (l1.L.length : Int)), (8, vi i1), (37, (vb (((!r1) || (decide (e1.By = 0))) || ((decide (0 < i1)) && (!Op.bytesLess e2.Name e1.Name)))))]) ⟨rfl, rfl, rfl, rfl, rfl, trivial⟩ ?_
  refine cif h et (fun hb h => ?_) (fun hb h => ?_)
  ·refine sr (sac ?_)
   refine nk (c_ret ?_)
   obtain rfl := some_inj h
   exact q_ret (vs := [vi 1]) Tryz.results34 ⟨ev_tmp rfl rfl, trivial⟩ (fq hI trivial)
  refine c_skip (k_same (c_region rfl ?_))
  refine sq (y_add rfl et ev_const) ?_
  refine sm ?_
  refine s_nil ?_
  exact k_loop (fuel1, wi64 (i1 + 1)) ⟨rfl, rfl, rfl, rfl, trivial⟩ ⟨_, hI.arr .n ⟨.z, (.s .z), trivial⟩, h⟩ (Nat.lt_succ_self _)
 refine c_exit ?_
 refine k_in ?_
 refine k_same (sr (sac ?_))
 refine nk (c_ret ?_)
 obtain rfl := some_inj h
 exact q_ret (vs := [vi 0]) Tryz.results34 ⟨ev_tmp rfl rfl, trivial⟩ (fq hI trivial)
theorem c_expr_forms_1_s {σ : Type} (I : StI σ) (C0 F : NP) (w0 : World) (yield1 : (GLin → σ → Option (Bool × σ))) (a1 : GExpr) (s1 : σ) (fv1 : Value) (b1 : Nat) (a2 : Option Addr) (c1 : Nat) (a3 : Option Addr) (c2 : Nat) (a4 : Option Addr) (c3 : Nat) (hI : Bun C0 F w0 C0 w0 [MO.st I s1] [clFnS_k4 I fv1 yield1, Cl.sl cGMono a2 c1 a1.Lin.L, Cl.sl cGIndex a3 c2 a1.Idx, Cl.sl cGExpr a4 c3 a1.Args, Cl.blk b1 39 #[vi a1.Op, (str a1.Name), vi a1.Val.N, vi a1.Val.D, vi a1.Type_.Kind, vi a1.Type_.Bits, vi a1.Type_.Frac, vi a1.Type_.Round, vi a1.Type_.Over, vi a1.Lin.K, vs a2 a1.Lin.L.length c1, vs a3 a1.Idx.length c2, vs a4 a1.Args.length c3]]) (r : Unit × σ)
  (h : m_expr_forms_1_s yield1 a1 s1 = some r) :
  Calls Tryz.prog 163 #[fv1, vp b1 0] w0 fun e w => ∃ (C : NP), e = .returned (Value.tuple #[]) ∧ Bun C0 F w0 C w [MO.st I r.2] [] := by
 refine enterK Tryz.func163 rfl Tryz.ntmps163 rfl ?_
 rw [m_expr_forms_1_s] at h
 refine c_seq (sr (sm ?_))
 refine sq (y_fieldAddr rfl et u39 rfl size_29 rfl) ?_
 refine sq (y_loadN (l := (lLin a1.Lin a2 c1)) rfl et u29 rfl size_29 (hI.kblk (l := (lLin a1.Lin a2 c1)) (.s (.s (.s (.s .z)))) rfl).1) ?_
 obtain ⟨⟨r1, s2⟩, hx1, h⟩ := bnd_some h
 try dsimp only at h
 obtain ⟨c4, f1, hB, hl1, hk1⟩ := hI.hands (.l .n)
 refine s_callV (args := [(Value.agg (ALin a1.Lin a2 c1))]) gn rfl rfl et ⟨et, trivial⟩ (CallV.mono ((hI.get .z).2 c4 f1 w0 (Sp.less hl1) a1.Lin a2 c1 s1 _ (hB.subs ⟨(.s .z), trivial⟩) hx1) ?_)
 rintro _ w1 ⟨c5, rfl, hB2⟩
 obtain ⟨c6, hs1, hI⟩ := hk1 _ _ _ _ hB2
 replace hI : Bun C0 F w0 c6 w1 [MO.st I s2] [clFnS_k4 I fv1 yield1, Cl.sl cGMono a2 c1 a1.Lin.L, Cl.sl cGIndex a3 c2 a1.Idx, Cl.sl cGExpr a4 c3 a1.Args, Cl.blk b1 39 #[vi a1.Op, (str a1.Name), vi a1.Val.N, vi a1.Val.D, vi a1.Type_.Kind, vi a1.Type_.Bits, vi a1.Type_.Frac, vi a1.Type_.Round, vi a1.Type_.Over, vi a1.Lin.K, vs a2 a1.Lin.L.length c1, vs a3 a1.Idx.length c2, vs a4 a1.Args.length c3]] := hI
 refine ⟨_, rfl, ?_⟩
 refine sq (y_not rfl et) ?_
 refine nk (cif h et (fun hb h => ?_) (fun hb h => ?_))
 ·refine c_ret ?_
  obtain rfl := some_inj h
  exact q_ret (vs := []) Tryz.results163 trivial ⟨_, rfl, hI.arr (.c .z .n) trivial⟩
 refine c_skip (k_same (sr (sq (y_fieldAddr rfl et u39 rfl size_34 rfl) ?_)))
 refine sq (y_load1 (v := (vs a3 a1.Idx.length c2)) rfl et u34 rfl (hI.kblk (l := [vs a3 a1.Idx.length c2]) (.s (.s (.s (.s .z)))) rfl).1) ?_
 refine sq (y_lenl rfl u34 et) ?_
 refine sq (y_move rfl ev_const) ?_
 refine nk (c_block (c_loop (α := Nat × Int × σ) (fun x => fun w => ∃ C, Bun C0 F w0 C w [MO.st I (x.2.2)] [clFnS_k4 I fv1 yield1, Cl.sl cGIndex a3 c2 a1.Idx] ∧ m_expr_forms_1_s_l1 a1 yield1 (x.1) (x.2.1) (x.2.2) = some r) (fun x _ => x.1) (fun x => [(0, fv1), (13, vs a3 a1.Idx.length c2), (14, vi (a1.Idx.length : Int)), (15, vi (x.2.1))]) (fu, 0, s2) ⟨_, hI.arr (.c .z .n) ⟨.z, (.s (.s .z)), trivial⟩, h⟩ ⟨rfl, rfl, rfl, rfl, trivial⟩ ?_))
 clear h hI; rintro ⟨fuel1, i1, s3⟩ w2 ⟨c7, hI, h⟩
 dsimp only at hI h
 rcases fuel1 with _ | fuel1
 ·rw [m_expr_forms_1_s_l1] at h; cases h
 rw [m_expr_forms_1_s_l1] at h
 refine c_sub (e := [(0, fv1), (13, vs a3 a1.Idx.length c2), (14, vi (a1.Idx.length : Int)), (15, vi i1)]) ⟨rfl, rfl, rfl, rfl, trivial⟩ ?_
 refine sr (sq (y_lss rfl et et) ?_)
 refine nk (c_seq (cif h et (fun hb h => ?_) (fun hb h => ?_)))
 ·refine c_skip (k_same (c_join (α := σ) (fun _ => ⟨37, []⟩) (fun x => [(0, fv1), (13, vs a3 a1.Idx.length c2), (14, vi (a1.Idx.length : Int)), (15, vi i1)]) (fun x => fun w => ∃ C, Bun C0 F w0 C w [MO.st I x] [clFnS_k4 I fv1 yield1, Cl.sl cGIndex a3 c2 a1.Idx] ∧ m_expr_forms_1_s_j1 (m_expr_forms_1_s_l1 a1 yield1 fuel1) i1 x = some r) ?_ ?_))
  ·clear h hI; rintro s4 w3 ⟨c8, hI, h⟩
   try dsimp only at hI h
   rw [m_expr_forms_1_s_j1] at h
   refine c_sub (e := [(0, fv1), (13, vs a3 a1.Idx.length c2), (14, vi (a1.Idx.length : Int)), (15, vi i1)]) ⟨rfl, rfl, rfl, rfl, trivial⟩ ?_
   refine c_region rfl ?_
   refine sq (y_add rfl et ev_const) ?_
   refine sm ?_
   refine s_nil ?_
   exact k_loop (fuel1, wi64 (i1 + 1), s4) ⟨rfl, rfl, rfl, rfl, trivial⟩ ⟨_, hI.arr (.c .z .n) ⟨.z, (.s .z), trivial⟩, h⟩ (Nat.lt_succ_self _)
  refine c_block (sr ?_)
  obtain ⟨e1, hx2, h⟩ := bnd_some h
  obtain ⟨ad1, cs1, hA1, hr1, hq1⟩ := hI.clat (.s .z) hx2
  obtain ⟨a5, c9, a6, c10, rfl, hf1, hf2⟩ := hr1
  have hI := hI.add (c := Cl.sl cGMono a5 c9 e1.Lin.L) hf1
  have hI := hI.add (c := Cl.sl cGLin a6 c10 e1.At) hf2
  refine sq (y_indexAddr rfl u34 size_32 et et (lat_bd hx2) hA1) ?_
  refine sq (y_loadN (l := [vi e1.Lin.K, vs a5 e1.Lin.L.length c9, (str e1.From), vs a6 e1.At.length c10]) rfl et u32 rfl size_32 hq1.1) ?_
  refine l_alloc (cs := #[vi 0, vs none 0 0, (str ([] : List UInt8)), vs none 0 0]) hI gn rfl rfl zero_32 rfl ?_
  clear hI; intro b2 c11 w4 hI
  refine l_store (new := [vi e1.Lin.K, vs a5 e1.Lin.L.length c9, (str e1.From), vs a6 e1.At.length c10]) (cs' := #[vi e1.Lin.K, vs a5 e1.Lin.L.length c9, (str e1.From), vs a6 e1.At.length c10]) hI .z gn rfl rfl et et rfl size_32 rfl rfl rfl ?_
  clear hI; intro c12 w5 hI
  refine nk (c_seq (sr (sm ?_)))
  refine sq (y_fieldAddr rfl et u32 rfl size_29 rfl) ?_
  refine sq (y_loadN (l := (lLin e1.Lin a5 c9)) rfl et u29 rfl size_29 (CellsAt.of_blk (hI.blk .z) rfl)) ?_
  obtain ⟨⟨r2, s5⟩, hx3, h⟩ := bnd_some h
  try dsimp only at h
  obtain ⟨c13, f2, hB, hl2, hk2⟩ := hI.hands (.r (.l .n))
  refine s_callV (args := [(Value.agg (ALin e1.Lin a5 c9))]) gn rfl rfl et ⟨et, trivial⟩ (CallV.mono ((hI.get (.s (.s .z))).2 c13 f2 w5 (Sp.less hl2) e1.Lin a5 c9 s3 _ (hB.subs ⟨(.s .z), trivial⟩) hx3) ?_)
  rintro _ w6 ⟨c14, rfl, hB2⟩
  obtain ⟨c15, hs2, hI⟩ := hk2 _ _ _ _ hB2
  replace hI : Bun C0 F w0 c15 w6 [MO.st I s5, MO.box b2 32 #[vi e1.Lin.K, vs a5 e1.Lin.L.length c9, (str e1.From), vs a6 e1.At.length c10]] [Cl.sl cGLin a6 c10 e1.At, Cl.sl cGMono a5 c9 e1.Lin.L, clFnS_k4 I fv1 yield1, Cl.sl cGIndex a3 c2 a1.Idx] := hI
  refine ⟨_, rfl, ?_⟩
  refine sq (y_not rfl et) ?_
  refine nk (cif h et (fun hb h => ?_) (fun hb h => ?_))
  ·refine c_ret ?_
   obtain rfl := some_inj h
   exact q_ret (vs := []) Tryz.results163 trivial ⟨_, rfl, hI.arr (.c .z .n) trivial⟩
  refine c_skip (k_same (sr (sq (y_fieldAddr rfl et u32 rfl size_30 rfl) ?_)))
  refine sq (y_load1 (v := (vs a6 e1.At.length c10)) rfl et u30 rfl (CellsAt.of_blk (hI.blk (.s .z)) rfl)) ?_
  refine sq (y_lenl rfl u30 et) ?_
  refine sq (y_move rfl ev_const) ?_
  refine nk (c_block (c_loop (α := Nat × Int × σ) (fun x => fun w => ∃ C, Bun C0 F w0 C w [MO.st I (x.2.2)] [clFnS_k4 I fv1 yield1, Cl.sl cGIndex a3 c2 a1.Idx, Cl.sl cGLin a6 c10 e1.At] ∧ m_expr_forms_1_s_l2 e1 yield1 (m_expr_forms_1_s_l1 a1 yield1 fuel1) i1 (x.1) (x.2.1) (x.2.2) = some r) (fun x _ => x.1) (fun x => [(0, fv1), (13, vs a3 a1.Idx.length c2), (14, vi (a1.Idx.length : Int)), (15, vi i1), (25, vs a6 e1.At.length c10), (26, vi (e1.At.length : Int)), (27, vi (x.2.1))]) (fu, 0, s5) ⟨_, hI.arr (.c .z .n) ⟨(.s (.s .z)), (.s (.s (.s .z))), .z, trivial⟩, h⟩ ⟨rfl, rfl, rfl, rfl, rfl, rfl, rfl, trivial⟩ ?_))
  clear h hI; rintro ⟨fuel2, i2, s6⟩ w7 ⟨c16, hI, h⟩
  dsimp only at hI h
  rcases fuel2 with _ | fuel2
  ·rw [m_expr_forms_1_s_l2] at h; cases h
  rw [m_expr_forms_1_s_l2] at h
  refine c_sub (e := [(0, fv1), (13, vs a3 a1.Idx.length c2), (14, vi (a1.Idx.length : Int)), (15, vi i1), (25, vs a6 e1.At.length c10), (26, vi (e1.At.length : Int)), (27, vi i2)]) ⟨rfl, rfl, rfl, rfl, rfl, rfl, rfl, trivial⟩ ?_
  refine sr (sq (y_lss rfl et et) ?_)
  refine nk (c_seq (cif h et (fun hb h => ?_) (fun hb h => ?_)))
  ·refine c_skip (k_same (c_seq (c_block (sr ?_))))
   obtain ⟨e2, hx4, h⟩ := bnd_some h
   obtain ⟨ad2, cs2, hA2, hr2, hq2⟩ := hI.clat (.s (.s .z)) hx4
   obtain ⟨a7, c17, rfl, hf3⟩ := hr2
   have hI := hI.add (c := Cl.sl cGMono a7 c17 e2.L) hf3
   refine sq (y_indexAddr rfl u30 size_29 et et (lat_bd hx4) hA2) ?_
   refine sq (y_loadN (l := (lLin e2 a7 c17)) rfl et u29 rfl size_29 hq2.1) ?_
   refine l_alloc (cs := #[vi 0, vs none 0 0]) hI gn rfl rfl zero_29 rfl ?_
   clear hI; intro b3 c18 w8 hI
   refine l_store (new := (lLin e2 a7 c17)) (cs' := (ALin e2 a7 c17)) hI .z gn rfl rfl et et rfl size_29 rfl rfl rfl ?_
   clear hI; intro c19 w9 hI
   refine nk (sr (sm ?_))
   refine sq (y_loadN (l := (lLin e2 a7 c17)) rfl et u29 rfl size_29 (CellsAt.of_blk (hI.blk .z) rfl)) ?_
   obtain ⟨⟨r3, s7⟩, hx5, h⟩ := bnd_some h
   try dsimp only at h
   obtain ⟨c20, f3, hB, hl3, hk3⟩ := hI.hands (.r (.l .n))
   refine s_callV (args := [(Value.agg (ALin e2 a7 c17))]) gn rfl rfl et ⟨et, trivial⟩ (CallV.mono ((hI.get (.s .z)).2 c20 f3 w9 (Sp.less hl3) e2 a7 c17 s6 _ (hB.subs ⟨.z, trivial⟩) hx5) ?_)
   rintro _ w10 ⟨c21, rfl, hB2⟩
   obtain ⟨c22, hs3, hI⟩ := hk3 _ _ _ _ hB2
   replace hI : Bun C0 F w0 c22 w10 [MO.st I s7, MO.box b3 29 (ALin e2 a7 c17)] [Cl.sl cGMono a7 c17 e2.L, clFnS_k4 I fv1 yield1, Cl.sl cGIndex a3 c2 a1.Idx, Cl.sl cGLin a6 c10 e1.At] := hI
   refine ⟨_, rfl, ?_⟩
   refine sq (y_not rfl et) ?_
   refine nk (cif h et (fun hb h => ?_) (fun hb h => ?_))
   ·refine c_ret ?_
    obtain rfl := some_inj h
    exact q_ret (vs := []) Tryz.results163 trivial ⟨_, rfl, hI.arr (.c .z .n) trivial⟩
   refine c_skip (k_same (c_region rfl ?_))
   refine sq (y_add rfl et ev_const) ?_
   refine sm ?_
   refine s_nil ?_
   exact k_loop (fuel2, wi64 (i2 + 1), s7) ⟨rfl, rfl, rfl, rfl, rfl, rfl, rfl, trivial⟩ ⟨_, hI.arr (.c .z .n) ⟨(.s .z), (.s (.s .z)), (.s (.s (.s .z))), trivial⟩, h⟩ (Nat.lt_succ_self _)
  refine c_exit ?_
  refine k_in ?_
  exact k_join s6 ⟨rfl, rfl, rfl, rfl, trivial⟩ ⟨_, hI.arr (.c .z .n) ⟨.z, (.s .z), trivial⟩, h⟩ rfl
 refine c_exit ?_
 refine k_in ?_
 obtain rfl := some_inj h
 exact q_ret (vs := []) Tryz.results163 trivial ⟨_, rfl, hI.arr (.c .z .n) trivial⟩
end Go.Proofs.YtebpdmfmknfkjaaGreatDoor
