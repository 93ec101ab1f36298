import Derived.Test.YtlakfanockhngaaGreatDoorSXc
namespace Go.Proofs.YtlakfanockhngaaGreatDoor
open Go Go.RowKit Go.Vc
set_option maxRecDepth 100000
set_option maxHeartbeats 4000000
set_option linter.unusedVariables false
set_option linter.unusedSimpArgs false
theorem cif {P : Program} {ro : Option Nat} {n : Fr} {Kn : Act → World → Prop} {Ke : Nat → Act → World → Prop} {Kr : Act → World → Prop} {env : Env} {w : World} {c : Operand} {x y : Code} {b : Bool} {β : Type} {p q : Option β} {r : β} (h : (if b = true then p else q) = some r) (hc : Ev n env c (.bool b)) (ht : b = true → p = some r → CodeW P ro n x Kn Ke Kr env w) (hf : b = false → q = some r → CodeW P ro n y Kn Ke Kr env w) : CodeW P ro n (.cond c x y) Kn Ke Kr env w := c_cond hc (fun hb => ht hb (ite_t hb h)) (fun hb => hf hb (ite_f hb h))
theorem fq {F C : NP} {w0 w : World} {os : List MO} {cl cl' : List Cl} {e : Ending} (h : Bun noM F w0 C w os cl) (hs : Subs cl cl') : e = e ∧ Ext w0 w ∧ AllCl cl' F w := ⟨rfl, h.ext0, h.fin hs⟩
abbrev lType (x : GType) : List Value := [vi x.Kind, vi x.Bits, vi x.Frac, vi x.Round, vi x.Over]
abbrev AType (x : GType) : Array Value := #[vi x.Kind, vi x.Bits, vi x.Frac, vi x.Round, vi x.Over]
abbrev lVal (x : GVal) : List Value := [vi x.N, vi x.D]
abbrev AVal (x : GVal) : Array Value := #[vi x.N, vi x.D]
abbrev lTensor (x : GTensor) (A1 : Option Addr) (C1 : Nat) (A2 : Option Addr) (C2 : Nat) : List Value := [vi x.Type_.Kind, vi x.Type_.Bits, vi x.Type_.Frac, vi x.Type_.Round, vi x.Type_.Over, vs A1 x.Dims.length C1, vs A2 x.Vals.length C2]
abbrev ATensor (x : GTensor) (A1 : Option Addr) (C1 : Nat) (A2 : Option Addr) (C2 : Nat) : Array Value := #[vi x.Type_.Kind, vi x.Type_.Bits, vi x.Type_.Frac, vi x.Type_.Round, vi x.Type_.Over, vs A1 x.Dims.length C1, vs A2 x.Vals.length C2]
abbrev zTensor : List Value := [vi 0, vi 0, vi 0, vi 0, vi 0, vs none 0 0, vs none 0 0]
abbrev ZTensor : Array Value := #[vi 0, vi 0, vi 0, vi 0, vi 0, vs none 0 0, vs none 0 0]
abbrev u2 := @Tryz.underlying2
abbrev u3 := @Tryz.underlying3
abbrev u4 := @Tryz.underlying4
abbrev u23 := @Tryz.underlying23
abbrev u24 := @Tryz.underlying24
abbrev u25 := @Tryz.underlying25
abbrev u27 := @Tryz.underlying27
abbrev u36 := @Tryz.underlying36
abbrev u108 := @Tryz.underlying108
abbrev u120 := @Tryz.underlying120
abbrev u125 := @Tryz.underlying125
abbrev u128 := @Tryz.underlying128
abbrev u134 := @Tryz.underlying134
abbrev u136 := @Tryz.underlying136
theorem stood_23 : Tryz.prog.stoodInHeld 23 = false := by kernel_rfl
theorem eqstruct_23 (a0 b0 : Int) (a1 b1 : Int) (a2 b2 : Int) (a3 b3 : Int) (a4 b4 : Int) (w : World) : (binOp .eql 23 (.agg #[(Value.int .i64 a0), (Value.int .i64 a1), (Value.int .i64 a2), (Value.int .i64 a3), (Value.int .i64 a4)]) (.agg #[(Value.int .i64 b0), (Value.int .i64 b1), (Value.int .i64 b2), (Value.int .i64 b3), (Value.int .i64 b4)])).run Tryz.prog w = .ok (.bool ((decide (a0 = b0)) && (decide (a1 = b1)) && (decide (a2 = b2)) && (decide (a3 = b3)) && (decide (a4 = b4)))) w := by
  simp [go_sem, stood_23, Tryz.underlying23, eq_dec_int, eq_dec_str]
  all_goals (by_cases h0 : a0 = b0 <;> by_cases h1 : a1 = b1 <;> by_cases h2 : a2 = b2 <;> by_cases h3 : a3 = b3 <;> by_cases h4 : a4 = b4 <;> simp [h0, h1, h2, h3, h4])
theorem eqguard_23 (op : BinOp) (x y : Operand) (xs ys : Array Value) (w : World) : (eqGuard op 23 x y (.agg xs) (.agg ys)).run Tryz.prog w = .ok () w := run_eqGuard_agg w op 23 x y xs ys (by kernel_rfl)
theorem stood_36 : Tryz.prog.stoodInHeld 36 = false := by kernel_rfl
theorem eqstruct_36n (a0 b0 : Int) (a1 b1 : Int) (w : World) : (binOp .neq 36 (.agg #[(Value.int .i64 a0), (Value.int .i64 a1)]) (.agg #[(Value.int .i64 b0), (Value.int .i64 b1)])).run Tryz.prog w = .ok (.bool (!((decide (a0 = b0)) && (decide (a1 = b1))))) w := by
  simp [go_sem, stood_36, Tryz.underlying36, eq_dec_int, eq_dec_str]
  all_goals (by_cases h0 : a0 = b0 <;> by_cases h1 : a1 = b1 <;> simp [h0, h1])
theorem eqguard_36 (op : BinOp) (x y : Operand) (xs ys : Array Value) (w : World) : (eqGuard op 36 x y (.agg xs) (.agg ys)).run Tryz.prog w = .ok () w := run_eqGuard_agg w op 36 x y xs ys (by kernel_rfl)
theorem info_3 : Info Tryz.prog 3 1 8 (Value.int .i64 0) := info_mk (by kernel_rfl) rfl
theorem info_36 : Info Tryz.prog 36 2 16 (Value.agg #[(Value.int .i64 0), (Value.int .i64 0)]) := info_mk (by kernel_rfl) rfl
theorem ok_100 : FnOK Tryz.prog 100 := ⟨_, Tryz.func100, by kernel_rfl, by kernel_rfl⟩
theorem ok_101 : FnOK Tryz.prog 101 := ⟨_, Tryz.func101, by kernel_rfl, by kernel_rfl⟩
theorem ok_102 : FnOK Tryz.prog 102 := ⟨_, Tryz.func102, by kernel_rfl, by kernel_rfl⟩
theorem ok_103 : FnOK Tryz.prog 103 := ⟨_, Tryz.func103, by kernel_rfl, by kernel_rfl⟩
theorem ok_104 : FnOK Tryz.prog 104 := ⟨_, Tryz.func104, by kernel_rfl, by kernel_rfl⟩
theorem ok_115 : FnOK Tryz.prog 115 := ⟨_, Tryz.func115, by kernel_rfl, by kernel_rfl⟩
theorem ok_116 : FnOK Tryz.prog 116 := ⟨_, Tryz.func116, by kernel_rfl, by kernel_rfl⟩
theorem ok_117 : FnOK Tryz.prog 117 := ⟨_, Tryz.func117, by kernel_rfl, by kernel_rfl⟩
theorem ok_118 : FnOK Tryz.prog 118 := ⟨_, Tryz.func118, by kernel_rfl, by kernel_rfl⟩
theorem ok_119 : FnOK Tryz.prog 119 := ⟨_, Tryz.func119, by kernel_rfl, by kernel_rfl⟩
theorem ok_12 : FnOK Tryz.prog 12 := ⟨_, Tryz.func12, by kernel_rfl, by kernel_rfl⟩
theorem ok_120 : FnOK Tryz.prog 120 := ⟨_, Tryz.func120, by kernel_rfl, by kernel_rfl⟩
theorem ok_121 : FnOK Tryz.prog 121 := ⟨_, Tryz.func121, by kernel_rfl, by kernel_rfl⟩
theorem ok_124 : FnOK Tryz.prog 124 := ⟨_, Tryz.func124, by kernel_rfl, by kernel_rfl⟩
theorem ok_125 : FnOK Tryz.prog 125 := ⟨_, Tryz.func125, by kernel_rfl, by kernel_rfl⟩
theorem ok_126 : FnOK Tryz.prog 126 := ⟨_, Tryz.func126, by kernel_rfl, by kernel_rfl⟩
theorem ok_127 : FnOK Tryz.prog 127 := ⟨_, Tryz.func127, by kernel_rfl, by kernel_rfl⟩
theorem ok_128 : FnOK Tryz.prog 128 := ⟨_, Tryz.func128, by kernel_rfl, by kernel_rfl⟩
theorem ok_129 : FnOK Tryz.prog 129 := ⟨_, Tryz.func129, by kernel_rfl, by kernel_rfl⟩
theorem ok_13 : FnOK Tryz.prog 13 := ⟨_, Tryz.func13, by kernel_rfl, by kernel_rfl⟩
theorem ok_130 : FnOK Tryz.prog 130 := ⟨_, Tryz.func130, by kernel_rfl, by kernel_rfl⟩
theorem ok_131 : FnOK Tryz.prog 131 := ⟨_, Tryz.func131, by kernel_rfl, by kernel_rfl⟩
theorem ok_132 : FnOK Tryz.prog 132 := ⟨_, Tryz.func132, by kernel_rfl, by kernel_rfl⟩
theorem ok_133 : FnOK Tryz.prog 133 := ⟨_, Tryz.func133, by kernel_rfl, by kernel_rfl⟩
theorem ok_134 : FnOK Tryz.prog 134 := ⟨_, Tryz.func134, by kernel_rfl, by kernel_rfl⟩
theorem ok_138 : FnOK Tryz.prog 138 := ⟨_, Tryz.func138, by kernel_rfl, by kernel_rfl⟩
theorem ok_139 : FnOK Tryz.prog 139 := ⟨_, Tryz.func139, by kernel_rfl, by kernel_rfl⟩
theorem ok_14 : FnOK Tryz.prog 14 := ⟨_, Tryz.func14, by kernel_rfl, by kernel_rfl⟩
theorem ok_140 : FnOK Tryz.prog 140 := ⟨_, Tryz.func140, by kernel_rfl, by kernel_rfl⟩
theorem ok_142 : FnOK Tryz.prog 142 := ⟨_, Tryz.func142, by kernel_rfl, by kernel_rfl⟩
theorem ok_143 : FnOK Tryz.prog 143 := ⟨_, Tryz.func143, by kernel_rfl, by kernel_rfl⟩
theorem ok_144 : FnOK Tryz.prog 144 := ⟨_, Tryz.func144, by kernel_rfl, by kernel_rfl⟩
theorem ok_145 : FnOK Tryz.prog 145 := ⟨_, Tryz.func145, by kernel_rfl, by kernel_rfl⟩
theorem ok_146 : FnOK Tryz.prog 146 := ⟨_, Tryz.func146, by kernel_rfl, by kernel_rfl⟩
theorem ok_147 : FnOK Tryz.prog 147 := ⟨_, Tryz.func147, by kernel_rfl, by kernel_rfl⟩
theorem ok_148 : FnOK Tryz.prog 148 := ⟨_, Tryz.func148, by kernel_rfl, by kernel_rfl⟩
theorem ok_149 : FnOK Tryz.prog 149 := ⟨_, Tryz.func149, by kernel_rfl, by kernel_rfl⟩
theorem ok_150 : FnOK Tryz.prog 150 := ⟨_, Tryz.func150, by kernel_rfl, by kernel_rfl⟩
theorem ok_152 : FnOK Tryz.prog 152 := ⟨_, Tryz.func152, by kernel_rfl, by kernel_rfl⟩
theorem ok_153 : FnOK Tryz.prog 153 := ⟨_, Tryz.func153, by kernel_rfl, by kernel_rfl⟩
theorem ok_155 : FnOK Tryz.prog 155 := ⟨_, Tryz.func155, by kernel_rfl, by kernel_rfl⟩
theorem ok_156 : FnOK Tryz.prog 156 := ⟨_, Tryz.func156, by kernel_rfl, by kernel_rfl⟩
theorem ok_157 : FnOK Tryz.prog 157 := ⟨_, Tryz.func157, by kernel_rfl, by kernel_rfl⟩
theorem ok_158 : FnOK Tryz.prog 158 := ⟨_, Tryz.func158, by kernel_rfl, by kernel_rfl⟩
theorem ok_16 : FnOK Tryz.prog 16 := ⟨_, Tryz.func16, by kernel_rfl, by kernel_rfl⟩
theorem ok_163 : FnOK Tryz.prog 163 := ⟨_, Tryz.func163, by kernel_rfl, by kernel_rfl⟩
theorem ok_17 : FnOK Tryz.prog 17 := ⟨_, Tryz.func17, by kernel_rfl, by kernel_rfl⟩
theorem ok_19 : FnOK Tryz.prog 19 := ⟨_, Tryz.func19, by kernel_rfl, by kernel_rfl⟩
theorem ok_21 : FnOK Tryz.prog 21 := ⟨_, Tryz.func21, by kernel_rfl, by kernel_rfl⟩
theorem ok_23 : FnOK Tryz.prog 23 := ⟨_, Tryz.func23, by kernel_rfl, by kernel_rfl⟩
theorem ok_25 : FnOK Tryz.prog 25 := ⟨_, Tryz.func25, by kernel_rfl, by kernel_rfl⟩
theorem ok_26 : FnOK Tryz.prog 26 := ⟨_, Tryz.func26, by kernel_rfl, by kernel_rfl⟩
theorem ok_27 : FnOK Tryz.prog 27 := ⟨_, Tryz.func27, by kernel_rfl, by kernel_rfl⟩
theorem ok_30 : FnOK Tryz.prog 30 := ⟨_, Tryz.func30, by kernel_rfl, by kernel_rfl⟩
theorem ok_40 : FnOK Tryz.prog 40 := ⟨_, Tryz.func40, by kernel_rfl, by kernel_rfl⟩
theorem ok_41 : FnOK Tryz.prog 41 := ⟨_, Tryz.func41, by kernel_rfl, by kernel_rfl⟩
theorem ok_42 : FnOK Tryz.prog 42 := ⟨_, Tryz.func42, by kernel_rfl, by kernel_rfl⟩
theorem ok_43 : FnOK Tryz.prog 43 := ⟨_, Tryz.func43, by kernel_rfl, by kernel_rfl⟩
theorem ok_44 : FnOK Tryz.prog 44 := ⟨_, Tryz.func44, by kernel_rfl, by kernel_rfl⟩
theorem ok_50 : FnOK Tryz.prog 50 := ⟨_, Tryz.func50, by kernel_rfl, by kernel_rfl⟩
theorem ok_51 : FnOK Tryz.prog 51 := ⟨_, Tryz.func51, by kernel_rfl, by kernel_rfl⟩
theorem ok_52 : FnOK Tryz.prog 52 := ⟨_, Tryz.func52, by kernel_rfl, by kernel_rfl⟩
theorem ok_54 : FnOK Tryz.prog 54 := ⟨_, Tryz.func54, by kernel_rfl, by kernel_rfl⟩
theorem ok_55 : FnOK Tryz.prog 55 := ⟨_, Tryz.func55, by kernel_rfl, by kernel_rfl⟩
theorem ok_56 : FnOK Tryz.prog 56 := ⟨_, Tryz.func56, by kernel_rfl, by kernel_rfl⟩
theorem ok_57 : FnOK Tryz.prog 57 := ⟨_, Tryz.func57, by kernel_rfl, by kernel_rfl⟩
theorem ok_58 : FnOK Tryz.prog 58 := ⟨_, Tryz.func58, by kernel_rfl, by kernel_rfl⟩
theorem ok_59 : FnOK Tryz.prog 59 := ⟨_, Tryz.func59, by kernel_rfl, by kernel_rfl⟩
theorem ok_60 : FnOK Tryz.prog 60 := ⟨_, Tryz.func60, by kernel_rfl, by kernel_rfl⟩
theorem ok_61 : FnOK Tryz.prog 61 := ⟨_, Tryz.func61, by kernel_rfl, by kernel_rfl⟩
theorem ok_62 : FnOK Tryz.prog 62 := ⟨_, Tryz.func62, by kernel_rfl, by kernel_rfl⟩
theorem ok_65 : FnOK Tryz.prog 65 := ⟨_, Tryz.func65, by kernel_rfl, by kernel_rfl⟩
theorem ok_66 : FnOK Tryz.prog 66 := ⟨_, Tryz.func66, by kernel_rfl, by kernel_rfl⟩
theorem ok_67 : FnOK Tryz.prog 67 := ⟨_, Tryz.func67, by kernel_rfl, by kernel_rfl⟩
theorem ok_72 : FnOK Tryz.prog 72 := ⟨_, Tryz.func72, by kernel_rfl, by kernel_rfl⟩
theorem ok_74 : FnOK Tryz.prog 74 := ⟨_, Tryz.func74, by kernel_rfl, by kernel_rfl⟩
theorem ok_75 : FnOK Tryz.prog 75 := ⟨_, Tryz.func75, by kernel_rfl, by kernel_rfl⟩
theorem ok_76 : FnOK Tryz.prog 76 := ⟨_, Tryz.func76, by kernel_rfl, by kernel_rfl⟩
theorem ok_77 : FnOK Tryz.prog 77 := ⟨_, Tryz.func77, by kernel_rfl, by kernel_rfl⟩
theorem ok_88 : FnOK Tryz.prog 88 := ⟨_, Tryz.func88, by kernel_rfl, by kernel_rfl⟩
theorem ok_89 : FnOK Tryz.prog 89 := ⟨_, Tryz.func89, by kernel_rfl, by kernel_rfl⟩
theorem ok_90 : FnOK Tryz.prog 90 := ⟨_, Tryz.func90, by kernel_rfl, by kernel_rfl⟩
theorem ok_91 : FnOK Tryz.prog 91 := ⟨_, Tryz.func91, by kernel_rfl, by kernel_rfl⟩
theorem ok_92 : FnOK Tryz.prog 92 := ⟨_, Tryz.func92, by kernel_rfl, by kernel_rfl⟩
theorem ok_93 : FnOK Tryz.prog 93 := ⟨_, Tryz.func93, by kernel_rfl, by kernel_rfl⟩
theorem ok_94 : FnOK Tryz.prog 94 := ⟨_, Tryz.func94, by kernel_rfl, by kernel_rfl⟩
theorem ok_95 : FnOK Tryz.prog 95 := ⟨_, Tryz.func95, by kernel_rfl, by kernel_rfl⟩
theorem ok_98 : FnOK Tryz.prog 98 := ⟨_, Tryz.func98, by kernel_rfl, by kernel_rfl⟩
theorem ok_99 : FnOK Tryz.prog 99 := ⟨_, Tryz.func99, by kernel_rfl, by kernel_rfl⟩
theorem size_134 : (Tryz.prog.info? 134).map (·.size) = some 1 := by kernel_rfl
theorem size_2 : (Tryz.prog.info? 2).map (·.size) = some 1 := by kernel_rfl
theorem size_23 : (Tryz.prog.info? 23).map (·.size) = some 5 := by kernel_rfl
theorem size_24 : (Tryz.prog.info? 24).map (·.size) = some 1 := by kernel_rfl
theorem size_25 : (Tryz.prog.info? 25).map (·.size) = some 1 := by kernel_rfl
theorem size_27 : (Tryz.prog.info? 27).map (·.size) = some 7 := by kernel_rfl
theorem size_3 : (Tryz.prog.info? 3).map (·.size) = some 1 := by kernel_rfl
theorem size_36 : (Tryz.prog.info? 36).map (·.size) = some 2 := by kernel_rfl
theorem size_4 : (Tryz.prog.info? 4).map (·.size) = some 1 := by kernel_rfl
theorem zero_108 : (Tryz.prog.info? 108).bind (·.zero) = some (Value.agg #[(Value.bool false), (Value.bool false), (Value.bool false), (Value.bool false), (Value.bool false), (Value.bool false)]) := by kernel_rfl
theorem zero_125 : (Tryz.prog.info? 125).bind (·.zero) = some (Value.agg #[(Value.int .i64 0), (Value.int .i64 0), (Value.int .i64 0), (Value.int .i64 0), (Value.int .i64 0), (Value.int .i64 0)]) := by kernel_rfl
theorem zero_27 : (Tryz.prog.info? 27).bind (·.zero) = some (Value.agg #[(Value.int .i64 0), (Value.int .i64 0), (Value.int .i64 0), (Value.int .i64 0), (Value.int .i64 0), (Value.slice none 0 0), (Value.slice none 0 0)]) := by kernel_rfl
theorem zero_36 : (Tryz.prog.info? 36).bind (·.zero) = some (Value.agg #[(Value.int .i64 0), (Value.int .i64 0)]) := by kernel_rfl
theorem c_law12_Small (F : NP) (w0 : World) (hF : ∀ k, F k → k < w0.heap.size) (t1 : GTensor) (most1 : Int) (a1 : Option Addr) (c1 : Nat) (a2 : Option Addr) (c2 : Nat) (hc : AllCl [Cl.sl (cInt .i64) a1 c1 t1.Dims, Cl.sl cGVal a2 c2 t1.Vals] F w0) (r : Bool)
  (h : m_law12_Small t1 most1 = some r) :
  Calls Tryz.prog 12 #[(Value.agg (ATensor t1 a1 c1 a2 c2)), vi most1] w0 fun e w => e = .returned (vb r) ∧ Ext w0 w ∧ AllCl [] F w := by
 refine enterK Tryz.func12 rfl Tryz.ntmps12 rfl ?_
 have hI := Bun.start hF hc
 clear hc
 rw [m_law12_Small] at h
 refine sr (l_box (v := (Value.agg (ATensor t1 a1 c1 a2 c2))) (cs := (ATensor t1 a1 c1 a2 c2)) hI gn rfl rfl et rfl ?_)
 clear hI; intro b1 c3 w1 hI
 obtain ⟨c4, hI⟩ := hI.relBox .z
 refine sac ?_
 refine nk (sr (sq (y_fieldAddr rfl et u27 rfl size_25 rfl) ?_))
 refine sq (y_load1 (v := (vs a2 t1.Vals.length c2)) rfl et u25 rfl (hI.kblk (l := [vs a2 t1.Vals.length c2]) .z rfl).1) ?_
 refine sq (y_lenl rfl u25 et) ?_
 refine sm ?_
 refine sq (y_leq rfl et et) ?_
 refine sm ?_
 refine s_gval (g_true rfl rfl rfl rfl) rfl (fun hc => y_fieldAddr rfl et u27 rfl size_24 rfl) ?_
 refine s_gval (g_true rfl rfl rfl rfl) rfl (fun hc => (y_load1 (v := (vs a1 t1.Dims.length c1)) rfl (ev_gv et hc) u24 rfl (hI.kblk (l := [vs a1 t1.Dims.length c1]) .z rfl).1)) ?_
 refine s_gval (g_true rfl rfl rfl rfl) rfl (fun hc => y_lenl rfl u24 (ev_gv et hc)) ?_
 refine s_gval (g_true rfl rfl rfl rfl) rfl (fun hc => y_leq rfl (ev_gv et hc) ev_const) ?_
 refine sq (y_and rfl et et) ?_
 refine sa ?_
 refine nk (c_ret ?_)
 obtain rfl := some_inj h
 exact q_ret (vs := [(vb ((decide ((t1.Vals.length : Int) ≤ most1)) && (decide ((t1.Dims.length : Int) ≤ 20))))]) Tryz.results12 ⟨ev_tmp rfl rfl, trivial⟩ (fq hI trivial)
theorem c_value_plain (F : NP) (w0 : World) (hF : ∀ k, F k → k < w0.heap.size) (t1 : GType) (hc : AllCl [] F w0) (r : Bool)
  (h : m_value_plain t1 = some r) :
  Calls Tryz.prog 93 #[(Value.agg (AType t1))] w0 fun e w => e = .returned (vb r) ∧ Ext w0 w ∧ AllCl [] F w := by
 refine enterK Tryz.func93 rfl Tryz.ntmps93 rfl ?_
 have hI := Bun.start hF hc
 clear hc
 rw [m_value_plain] at h
 refine sr (l_box (v := (Value.agg (AType t1))) (cs := (AType t1)) hI gn rfl rfl et rfl ?_)
 clear hI; intro b1 c1 w1 hI
 obtain ⟨c2, hI⟩ := hI.relBox .z
 refine sac ?_
 refine nk (sr (sq (y_loadN (l := (lType t1)) rfl et u23 rfl size_23 (hI.kblk (l := (lType t1)) .z rfl).1) ?_))
 refine sq (y_fieldAddr rfl et u23 rfl size_3 rfl) ?_
 refine sq (y_load1 (v := (vi t1.Kind)) rfl et u3 rfl (hI.kblk (l := [vi t1.Kind]) .z rfl).1) ?_
 refine sq (y_build (vs := [(0, vi t1.Kind)]) (cs := #[vi t1.Kind, vi 0, vi 0, vi 0, vi 0]) rfl ⟨rfl, et, trivial⟩ (by kernel_rfl)) ?_
 refine sq (y_bin rfl et et (eqstruct_23 ..) (eqguard_23 ..)) ?_
 refine sa ?_
 refine nk (c_ret ?_)
 obtain rfl := some_inj h
 exact q_ret (vs := [(vb ((decide (t1.Kind = t1.Kind)) && (decide (t1.Bits = 0)) && (decide (t1.Frac = 0)) && (decide (t1.Round = 0)) && (decide (t1.Over = 0))))]) Tryz.results93 ⟨ev_tmp rfl rfl, trivial⟩ (fq hI trivial)
theorem c_fixed_ValidateType (F : NP) (w0 : World) (hF : ∀ k, F k → k < w0.heap.size) (t1 : GType) (hc : AllCl [] F w0) (r : Int)
  (h : m_fixed_ValidateType t1 = some r) :
  Calls Tryz.prog 94 #[(Value.agg (AType t1))] w0 fun e w => e = .returned (vi r) ∧ Ext w0 w ∧ AllCl [] F w := by
 refine enterK Tryz.func94 rfl Tryz.ntmps94 rfl ?_
 have hI := Bun.start hF hc
 clear hc
 rw [m_fixed_ValidateType] at h
 refine sr (l_box (v := (Value.agg (AType t1))) (cs := (AType t1)) hI gn rfl rfl et rfl ?_)
 clear hI; intro b1 c1 w1 hI
 obtain ⟨c2, hI⟩ := hI.relBox .z
 refine sac ?_
 refine nk (sr (sq (y_fieldAddr rfl et u23 rfl size_3 rfl) ?_))
 refine sq (y_load1 (v := (vi t1.Round)) rfl et u3 rfl (hI.kblk (l := [vi t1.Round]) .z rfl).1) ?_
 refine sq (y_geq rfl et ev_const) ?_
 refine sm ?_
 refine s_gval (g_true rfl rfl rfl rfl) rfl (fun hc => y_fieldAddr rfl et u23 rfl size_3 rfl) ?_
 refine s_gval (g_true rfl rfl rfl rfl) rfl (fun hc => (y_load1 (v := (vi t1.Round)) rfl (ev_gv et hc) u3 rfl (hI.kblk (l := [vi t1.Round]) .z rfl).1)) ?_
 refine s_gval (g_true rfl rfl rfl rfl) rfl (fun hc => y_leq rfl (ev_gv et hc) ev_const) ?_
 refine sq (y_and rfl et et) ?_
 refine sm ?_
 refine s_gval (g_true rfl rfl rfl rfl) rfl (fun hc => y_fieldAddr rfl et u23 rfl size_3 rfl) ?_
 refine s_gval (g_true rfl rfl rfl rfl) rfl (fun hc => (y_load1 (v := (vi t1.Over)) rfl (ev_gv et hc) u3 rfl (hI.kblk (l := [vi t1.Over]) .z rfl).1)) ?_
 refine s_gval (g_true rfl rfl rfl rfl) rfl (fun hc => y_eql rfl (ev_gv et hc) ev_const) ?_
 refine s_gval (g_true rfl rfl rfl rfl) rfl (fun hc => y_move rfl (ev_gv et hc)) ?_
 refine s_gval (g_false2 rfl rfl rfl rfl) rfl (fun hc => y_fieldAddr rfl et u23 rfl size_3 rfl) ?_
 refine s_gval (g_false2 rfl rfl rfl rfl) rfl (fun hc => (y_load1 (v := (vi t1.Over)) rfl (ev_gv et hc) u3 rfl (hI.kblk (l := [vi t1.Over]) .z rfl).1)) ?_
 refine s_gval (g_false2 rfl rfl rfl rfl) rfl (fun hc => y_eql rfl (ev_gv et hc) ev_const) ?_
 refine s_gval (g_true rfl rfl rfl rfl) rfl (fun hc => y_or2 rfl hc et et) ?_
 refine sq (y_and rfl et et) ?_
 obtain ⟨modes1, hx1, h⟩ := bnd_some h
 refine sq (binU (y_assign rfl et) (congrArg Value.bool (some_inj hx1))) ?_
 refine nk (c_seq (sr (sq (y_fieldAddr rfl et u23 rfl size_3 rfl) ?_)))
 refine sq (y_load1 (v := (vi t1.Kind)) rfl et u3 rfl (hI.kblk (l := [vi t1.Kind]) .z rfl).1) ?_
 refine sq (y_neq rfl et ev_const) ?_
 refine sm ?_
 refine s_gval (g_false rfl rfl rfl rfl) rfl (fun hc => y_fieldAddr rfl et u23 rfl size_3 rfl) ?_
 refine s_gval (g_false rfl rfl rfl rfl) rfl (fun hc => (y_load1 (v := (vi t1.Bits)) rfl (ev_gv et hc) u3 rfl (hI.kblk (l := [vi t1.Bits]) .z rfl).1)) ?_
 refine s_gval (g_false rfl rfl rfl rfl) rfl (fun hc => y_lss rfl (ev_gv et hc) ev_const) ?_
 refine sq (y_or rfl et et) ?_
 refine sm ?_
 refine s_gval (g_false rfl rfl rfl rfl) rfl (fun hc => y_fieldAddr rfl et u23 rfl size_3 rfl) ?_
 refine s_gval (g_false rfl rfl rfl rfl) rfl (fun hc => (y_load1 (v := (vi t1.Bits)) rfl (ev_gv et hc) u3 rfl (hI.kblk (l := [vi t1.Bits]) .z rfl).1)) ?_
 refine s_gval (g_false rfl rfl rfl rfl) rfl (fun hc => y_gtr rfl (ev_gv et hc) ev_const) ?_
 refine sq (y_or rfl et et) ?_
 refine sm ?_
 refine s_gval (g_false rfl rfl rfl rfl) rfl (fun hc => y_fieldAddr rfl et u23 rfl size_3 rfl) ?_
 refine s_gval (g_false rfl rfl rfl rfl) rfl (fun hc => (y_load1 (v := (vi t1.Frac)) rfl (ev_gv et hc) u3 rfl (hI.kblk (l := [vi t1.Frac]) .z rfl).1)) ?_
 refine s_gval (g_false rfl rfl rfl rfl) rfl (fun hc => y_lss rfl (ev_gv et hc) ev_const) ?_
 refine sq (y_or rfl et et) ?_
 refine sm ?_
 refine s_gval (g_false rfl rfl rfl rfl) rfl (fun hc => y_fieldAddr rfl et u23 rfl size_3 rfl) ?_
 refine s_gval (g_false rfl rfl rfl rfl) rfl (fun hc => (y_load1 (v := (vi t1.Frac)) rfl (ev_gv et hc) u3 rfl (hI.kblk (l := [vi t1.Frac]) .z rfl).1)) ?_
 refine s_gval (g_false rfl rfl rfl rfl) rfl (fun hc => y_gtr rfl (ev_gv et hc) ev_const) ?_
 refine sq (y_or rfl et et) ?_
 refine sm ?_
 refine s_gval (g_false rfl rfl rfl rfl) rfl (fun hc => y_move rfl et) ?_
 refine s_gval (g_false rfl rfl rfl rfl) rfl (fun hc => y_not rfl (ev_gv et hc)) ?_
 refine sq (y_or rfl et et) ?_
 refine s_nil ?_
 refine k_next (e := [(48, (vb ((((((!decide (t1.Kind = 2)) || (decide (t1.Bits < 2))) || (decide (31 < t1.Bits))) || (decide (t1.Frac < 0))) || (decide (30 < t1.Frac))) || (!modes1))))]) ⟨rfl, trivial⟩ ?_
 refine cif h et (fun hb h => ?_) (fun hb h => ?_)
 ·refine sr (sac ?_)
  refine nk (c_ret ?_)
  obtain rfl := some_inj h
  exact q_ret (vs := [vi 10]) Tryz.results94 ⟨ev_tmp rfl rfl, trivial⟩ (fq hI trivial)
 refine c_skip (k_same (sr (sac ?_)))
 refine nk (c_ret ?_)
 obtain rfl := some_inj h
 exact q_ret (vs := [vi 0]) Tryz.results94 ⟨ev_tmp rfl rfl, trivial⟩ (fq hI trivial)
theorem c_value_ValidateType (F : NP) (w0 : World) (hF : ∀ k, F k → k < w0.heap.size) (t1 : GType) (hc : AllCl [] F w0) (r : Int)
  (h : m_value_ValidateType t1 = some r) :
  Calls Tryz.prog 57 #[(Value.agg (AType t1))] w0 fun e w => e = .returned (vi r) ∧ Ext w0 w ∧ AllCl [] F w := by
 refine enterK Tryz.func57 rfl Tryz.ntmps57 rfl ?_
 have hI := Bun.start hF hc
 clear hc
 rw [m_value_ValidateType] at h
 refine sr (l_box (v := (Value.agg (AType t1))) (cs := (AType t1)) hI gn rfl rfl et rfl ?_)
 clear hI; intro b1 c1 w1 hI
 obtain ⟨c2, hI⟩ := hI.relBox .z
 refine sac ?_
 refine nk (c_seq (sr (sq (y_fieldAddr rfl et u23 rfl size_3 rfl) ?_)))
 refine sq (y_load1 (v := (vi t1.Kind)) rfl et u3 rfl (hI.kblk (l := [vi t1.Kind]) .z rfl).1) ?_
 refine nk (c_block (c_join (α := Bool) (fun _ => ⟨15, []⟩) (fun x => [(1, vp b1 0), (4, vi t1.Kind), (5, vb x)]) (fun x => fun w => ∃ C, Bun noM F w0 C w [] [Cl.blk b1 23 (AType t1)] ∧ m_value_ValidateType_j1 t1 x = some r) ?_ ?_))
 ·clear h hI; rintro i1 w2 ⟨c3, hI, h⟩
  try dsimp only at hI h
  rw [m_value_ValidateType_j1] at h
  refine c_sub (e := [(1, vp b1 0), (4, vi t1.Kind), (5, vb i1)]) ⟨rfl, rfl, rfl, trivial⟩ ?_
  refine cif h et (fun hb h => ?_) (fun hb h => ?_)
  ·refine sr (sq (y_loadN (l := (lType t1)) rfl et u23 rfl size_23 (hI.kblk (l := (lType t1)) .z rfl).1) ?_)
   obtain ⟨r1, hx1, h⟩ := bnd_some h
   refine s_call gn rfl (r_callF (vs := [(Value.agg (AType t1))]) rfl ok_93 ⟨et, trivial⟩) (Calls.mono (c_value_plain (Dj F c3) w2 hI.lt t1 trivial r1 hx1) ?_)
   rintro _ w3 ⟨rfl, hx2, hl1⟩
   refine ⟨_, rfl, ?_⟩
   replace hI := (hI.ext hx2)
   refine nk (cif h et (fun hb h => ?_) (fun hb h => ?_))
   ·refine sr (sac ?_)
    refine nk (c_ret ?_)
    obtain rfl := some_inj h
    exact q_ret (vs := [vi 0]) Tryz.results57 ⟨ev_tmp rfl rfl, trivial⟩ (fq hI trivial)
   refine c_skip (k_same (sr (sac ?_)))
   refine nk (c_ret ?_)
   obtain rfl := some_inj h
   exact q_ret (vs := [vi 10]) Tryz.results57 ⟨ev_tmp rfl rfl, trivial⟩ (fq hI trivial)
  refine sr (sq (y_eql rfl et ev_const) ?_)
  refine sa ?_
  refine nk (cif h et (fun hb h => ?_) (fun hb h => ?_))
  ·refine sr (sq (y_loadN (l := (lType t1)) rfl et u23 rfl size_23 (hI.kblk (l := (lType t1)) .z rfl).1) ?_)
   obtain ⟨r2, hx3, h⟩ := bnd_some h
   refine s_call gn rfl (r_callF (vs := [(Value.agg (AType t1))]) rfl ok_94 ⟨et, trivial⟩) (Calls.mono (c_fixed_ValidateType (Dj F c3) w2 hI.lt t1 trivial r2 hx3) ?_)
   rintro _ w4 ⟨rfl, hx4, hl2⟩
   refine ⟨_, rfl, ?_⟩
   replace hI := (hI.ext hx4)
   refine sq (y_eql rfl et ev_const) ?_
   refine nk (cif h et (fun hb h => ?_) (fun hb h => ?_))
   ·refine sr (sac ?_)
    refine nk (c_ret ?_)
    obtain rfl := some_inj h
    exact q_ret (vs := [vi 0]) Tryz.results57 ⟨ev_tmp rfl rfl, trivial⟩ (fq hI trivial)
   refine c_skip (k_same (sr (sac ?_)))
   refine nk (c_ret ?_)
   obtain rfl := some_inj h
   exact q_ret (vs := [vi 10]) Tryz.results57 ⟨ev_tmp rfl rfl, trivial⟩ (fq hI trivial)
  refine c_skip (k_same (sr (sac ?_)))
  refine nk (c_ret ?_)
  obtain rfl := some_inj h
  exact q_ret (vs := [vi 10]) Tryz.results57 ⟨ev_tmp rfl rfl, trivial⟩ (fq hI trivial)
 refine sr (sq (y_eql rfl et ev_const) ?_)
 refine sa ?_
 refine nk (cif h et (fun hb h => ?_) (fun hb h => ?_))
 ·exact c_skip (k_join (decide (t1.Kind = 1)) ⟨rfl, rfl, rfl, trivial⟩ ⟨_, hI.arr .n ⟨.z, trivial⟩, h⟩ rfl)
 refine c_region rfl ?_
 refine sq (y_eql rfl et ev_const) ?_
 refine sa ?_
 refine s_nil ?_
 exact k_join (decide (t1.Kind = 3)) ⟨rfl, rfl, rfl, trivial⟩ ⟨_, hI.arr .n ⟨.z, trivial⟩, h⟩ rfl
theorem c_shape_Validate (F : NP) (w0 : World) (hF : ∀ k, F k → k < w0.heap.size) (d1 : List Int) (a1 : Option Addr) (c1 : Nat) (hc : AllCl [Cl.sl (cInt .i64) a1 c1 d1] F w0) (r : Int)
  (h : m_shape_Validate d1 = some r) :
  Calls Tryz.prog 58 #[vs a1 d1.length c1] w0 fun e w => e = .returned (vi r) ∧ Ext w0 w ∧ AllCl [] F w := by
 refine enterK Tryz.func58 rfl Tryz.ntmps58 rfl ?_
 have hI := Bun.start hF hc
 clear hc
 rw [m_shape_Validate] at h
 refine sr (sac ?_)
 refine nk (c_seq (sr (sm ?_)))
 refine sq (y_lenl rfl u24 et) ?_
 refine sq (y_gtr rfl et ev_const) ?_
 refine nk (cif h et (fun hb h => ?_) (fun hb h => ?_))
 ·refine sr (sac ?_)
  refine nk (c_ret ?_)
  obtain rfl := some_inj h
  exact q_ret (vs := [vi 2]) Tryz.results58 ⟨ev_tmp rfl rfl, trivial⟩ (fq hI trivial)
 refine c_skip (k_same (c_join (α := Unit) (fun _ => ⟨34, []⟩) (fun _ => [(0, vs a1 d1.length c1)]) (fun _ => fun w => ∃ C, Bun noM F w0 C w [] [Cl.sl (cInt .i64) a1 c1 d1] ∧ m_shape_Validate_j1 d1 = some r) ?_ ?_))
 ·clear h hI; rintro _ w1 ⟨c2, hI, h⟩
  try dsimp only at hI h
  rw [m_shape_Validate_j1] at h
  refine c_sub (e := [(0, vs a1 d1.length c1)]) ⟨rfl, trivial⟩ ?_
  refine sr (sac ?_)
  refine nk (c_seq (sr (sm ?_)))
  refine sq (y_lenl rfl u24 et) ?_
  refine sq (y_move rfl ev_const) ?_
  refine nk (c_block (c_loop (α := Nat × Int × Int) (fun x => fun w => ∃ C, Bun noM F w0 C w [] [Cl.sl (cInt .i64) a1 c1 d1] ∧ m_shape_Validate_l1 d1 (x.1) (x.2.1) (x.2.2) = some r) (fun x _ => x.1) (fun x => [(5, vi (x.2.1)), (20, vs a1 d1.length c1), (21, vi (d1.length : Int)), (22, vi (x.2.2))]) (fu, 1, 0) ⟨_, hI.arr .n ⟨.z, trivial⟩, h⟩ ⟨rfl, rfl, rfl, rfl, trivial⟩ ?_))
  clear h hI; rintro ⟨fuel1, size1, i1⟩ w2 ⟨c3, hI, h⟩
  dsimp only at hI h
  rcases fuel1 with _ | fuel1
  ·rw [m_shape_Validate_l1] at h; cases h
  rw [m_shape_Validate_l1] at h
  refine c_sub (e := [(5, vi size1), (20, vs a1 d1.length c1), (21, vi (d1.length : Int)), (22, vi i1)]) ⟨rfl, rfl, rfl, rfl, trivial⟩ ?_
  refine sr (sq (y_lss rfl et et) ?_)
  refine nk (c_seq (cif h et (fun hb h => ?_) (fun hb h => ?_)))
  ·refine c_skip (k_same (c_seq (c_block (sr ?_))))
   obtain ⟨e1, hx1, h⟩ := bnd_some h
   obtain ⟨ad1, cs1, hA1, hr1, hq1⟩ := hI.clat .z hx1
   obtain rfl : cs1 = [vi e1] := hr1
   refine sq (y_indexAddr rfl u24 size_3 et et (lat_bd hx1) hA1) ?_
   refine sq (y_load1 (v := (vi e1)) rfl et u3 rfl hq1.1) ?_
   refine sa ?_
   refine nk (c_seq (sr (sm ?_)))
   refine sm ?_
   obtain ⟨ho1, h⟩ := chk_some h
   refine sq (y_quo rfl ev_const et ho1) ?_
   refine sq (y_gtr rfl et et) ?_
   refine nk (cif h et (fun hb h => ?_) (fun hb h => ?_))
   ·refine sr (sac ?_)
    refine nk (c_ret ?_)
    obtain rfl := some_inj h
    exact q_ret (vs := [vi 2]) Tryz.results58 ⟨ev_tmp rfl rfl, trivial⟩ (fq hI trivial)
   refine c_skip (k_same (c_region rfl ?_))
   refine sm ?_
   refine sm ?_
   refine sq (y_mul rfl et et) ?_
   refine sa ?_
   refine nk (c_region rfl ?_)
   refine sq (y_add rfl et ev_const) ?_
   refine sm ?_
   refine s_nil ?_
   exact k_loop (fuel1, wi64 (size1 * e1), wi64 (i1 + 1)) ⟨rfl, rfl, rfl, rfl, trivial⟩ ⟨_, hI.arr .n ⟨.z, trivial⟩, h⟩ (Nat.lt_succ_self _)
  refine c_exit ?_
  refine k_in ?_
  refine k_same (sr (sac ?_))
  refine nk (c_ret ?_)
  obtain rfl := some_inj h
  exact q_ret (vs := [vi 0]) Tryz.results58 ⟨ev_tmp rfl rfl, trivial⟩ (fq hI trivial)
 refine sr (sm ?_)
 refine sq (y_lenl rfl u24 et) ?_
 refine sq (y_move rfl ev_const) ?_
 refine nk (c_block (c_loop (α := Nat × Int) (fun x => fun w => ∃ C, Bun noM F w0 C w [] [Cl.sl (cInt .i64) a1 c1 d1] ∧ m_shape_Validate_l2 d1 (x.1) (x.2) = some r) (fun x _ => x.1) (fun x => [(0, vs a1 d1.length c1), (11, vs a1 d1.length c1), (12, vi (d1.length : Int)), (13, vi (x.2))]) (fu, 0) ⟨_, hI.arr .n ⟨.z, trivial⟩, h⟩ ⟨rfl, rfl, rfl, rfl, trivial⟩ ?_))
 clear h hI; rintro ⟨fuel2, i2⟩ w3 ⟨c4, hI, h⟩
 dsimp only at hI h
 rcases fuel2 with _ | fuel2
 ·rw [m_shape_Validate_l2] at h; cases h
 rw [m_shape_Validate_l2] at h
 refine c_sub (e := [(0, vs a1 d1.length c1), (11, vs a1 d1.length c1), (12, vi (d1.length : Int)), (13, vi i2)]) ⟨rfl, rfl, rfl, rfl, trivial⟩ ?_
 refine sr (sq (y_lss rfl et et) ?_)
 refine nk (c_seq (cif h et (fun hb h => ?_) (fun hb h => ?_)))
 ·refine c_skip (k_same (c_seq (c_block (sr ?_))))
  obtain ⟨e2, hx2, h⟩ := bnd_some h
  obtain ⟨ad2, cs2, hA2, hr2, hq2⟩ := hI.clat .z hx2
  obtain rfl : cs2 = [vi e2] := hr2
  refine sq (y_indexAddr rfl u24 size_3 et et (lat_bd hx2) hA2) ?_
  refine sq (y_load1 (v := (vi e2)) rfl et u3 rfl hq2.1) ?_
  refine sa ?_
  refine nk (sr (sm ?_))
  refine sq (y_lss rfl et ev_const) ?_
  refine nk (cif h et (fun hb h => ?_) (fun hb h => ?_))
  ·refine sr (sac ?_)
   refine nk (c_ret ?_)
   obtain rfl := some_inj h
   exact q_ret (vs := [vi 1]) Tryz.results58 ⟨ev_tmp rfl rfl, trivial⟩ (fq hI trivial)
  refine c_skip (k_same (c_region rfl ?_))
  refine sq (y_add rfl et ev_const) ?_
  refine sm ?_
  refine s_nil ?_
  exact k_loop (fuel2, wi64 (i2 + 1)) ⟨rfl, rfl, rfl, rfl, trivial⟩ ⟨_, hI.arr .n ⟨.z, trivial⟩, h⟩ (Nat.lt_succ_self _)
 refine c_exit ?_
 refine k_in ?_
 exact k_join () ⟨rfl, trivial⟩ ⟨_, hI.arr .n ⟨.z, trivial⟩, h⟩ rfl
theorem c_shape_Size (F : NP) (w0 : World) (hF : ∀ k, F k → k < w0.heap.size) (d1 : List Int) (a1 : Option Addr) (c1 : Nat) (hc : AllCl [Cl.sl (cInt .i64) a1 c1 d1] F w0) (r : Int)
  (h : m_shape_Size d1 = some r) :
  Calls Tryz.prog 59 #[vs a1 d1.length c1] w0 fun e w => e = .returned (vi r) ∧ Ext w0 w ∧ AllCl [] F w := by
 refine enterK Tryz.func59 rfl Tryz.ntmps59 rfl ?_
 have hI := Bun.start hF hc
 clear hc
 rw [m_shape_Size] at h
 refine sr (sac ?_)
 refine nk (c_seq (sr (sm ?_)))
 obtain ⟨r1, hx1, h⟩ := bnd_some h
 refine s_call gn rfl (r_callF (vs := [vs a1 d1.length c1]) rfl ok_58 ⟨et, trivial⟩) (Calls.mono (c_shape_Validate (Dj F noM) w0 hI.lt d1 a1 c1 ⟨(hI.get .z), trivial⟩ r1 hx1) ?_)
 rintro _ w1 ⟨rfl, hx2, hl1⟩
 refine ⟨_, rfl, ?_⟩
 replace hI := (hI.ext hx2)
 refine sq (y_neq rfl et ev_const) ?_
 refine nk (cif h et (fun hb h => ?_) (fun hb h => ?_))
 ·refine sr (sac ?_)
  refine nk (c_ret ?_)
  obtain rfl := some_inj h
  exact q_ret (vs := [vi 0]) Tryz.results59 ⟨ev_tmp rfl rfl, trivial⟩ (fq hI trivial)
 refine c_skip (k_same (sr (sac ?_)))
 refine nk (c_seq (sr (sm ?_)))
 refine sq (y_lenl rfl u24 et) ?_
 refine sq (y_move rfl ev_const) ?_
 refine nk (c_block (c_loop (α := Nat × Int × Int) (fun x => fun w => ∃ C, Bun noM F w0 C w [] [Cl.sl (cInt .i64) a1 c1 d1] ∧ m_shape_Size_l1 d1 (x.1) (x.2.1) (x.2.2) = some r) (fun x _ => x.1) (fun x => [(3, vi (x.2.1)), (9, vs a1 d1.length c1), (10, vi (d1.length : Int)), (11, vi (x.2.2))]) (fu, 1, 0) ⟨_, hI.arr .n ⟨.z, trivial⟩, h⟩ ⟨rfl, rfl, rfl, rfl, trivial⟩ ?_))
 clear h hI; rintro ⟨fuel1, size1, i1⟩ w2 ⟨c2, hI, h⟩
 dsimp only at hI h
 rcases fuel1 with _ | fuel1
 ·rw [m_shape_Size_l1] at h; cases h
 rw [m_shape_Size_l1] at h
 refine c_sub (e := [(3, vi size1), (9, vs a1 d1.length c1), (10, vi (d1.length : Int)), (11, vi i1)]) ⟨rfl, rfl, rfl, rfl, trivial⟩ ?_
 refine sr (sq (y_lss rfl et et) ?_)
 refine nk (c_seq (cif h et (fun hb h => ?_) (fun hb h => ?_)))
 ·refine c_skip (k_same (c_seq (c_block (sr ?_))))
  obtain ⟨e1, hx3, h⟩ := bnd_some h
  obtain ⟨ad1, cs1, hA1, hr1, hq1⟩ := hI.clat .z hx3
  obtain rfl : cs1 = [vi e1] := hr1
  refine sq (y_indexAddr rfl u24 size_3 et et (lat_bd hx3) hA1) ?_
  refine sq (y_load1 (v := (vi e1)) rfl et u3 rfl hq1.1) ?_
  refine sa ?_
  refine nk (c_region rfl ?_)
  refine sm ?_
  refine sm ?_
  refine sq (y_mul rfl et et) ?_
  refine sa ?_
  refine nk (c_region rfl ?_)
  refine sq (y_add rfl et ev_const) ?_
  refine sm ?_
  refine s_nil ?_
  exact k_loop (fuel1, wi64 (size1 * e1), wi64 (i1 + 1)) ⟨rfl, rfl, rfl, rfl, trivial⟩ ⟨_, hI.arr .n ⟨.z, trivial⟩, h⟩ (Nat.lt_succ_self _)
 refine c_exit ?_
 refine k_in ?_
 refine k_same (sr (sm ?_))
 refine sa ?_
 refine nk (c_ret ?_)
 obtain rfl := some_inj h
 exact q_ret (vs := [vi size1]) Tryz.results59 ⟨ev_tmp rfl rfl, trivial⟩ (fq hI trivial)
theorem c_round_valid (F : NP) (w0 : World) (hF : ∀ k, F k → k < w0.heap.size) (bits1 : Int) (hc : AllCl [] F w0) (r : Bool)
  (h : m_round_valid bits1 = some r) :
  Calls Tryz.prog 138 #[vi bits1] w0 fun e w => e = .returned (vb r) ∧ Ext w0 w ∧ AllCl [] F w := by
 refine enterK Tryz.func138 rfl Tryz.ntmps138 rfl ?_
 have hI := Bun.start hF hc
 clear hc
 rw [m_round_valid] at h
 refine sr (sac ?_)
 refine nk (sr (sm ?_))
 refine sq (y_geq rfl et ev_const) ?_
 refine sm ?_
 refine s_gval (g_true rfl rfl rfl rfl) rfl (fun hc => y_move rfl et) ?_
 refine s_gval (g_true rfl rfl rfl rfl) rfl (fun hc => y_leq rfl (ev_gv et hc) ev_const) ?_
 refine sq (y_and rfl et et) ?_
 refine sa ?_
 refine nk (c_ret ?_)
 obtain rfl := some_inj h
 exact q_ret (vs := [(vb ((decide (2 ≤ bits1)) && (decide (bits1 ≤ 31))))]) Tryz.results138 ⟨ev_tmp rfl rfl, trivial⟩ (fq hI trivial)
theorem c_round_MinInt (F : NP) (w0 : World) (hF : ∀ k, F k → k < w0.heap.size) (bits1 : Int) (hc : AllCl [] F w0) (r : Int)
  (h : m_round_MinInt bits1 = some r) :
  Calls Tryz.prog 115 #[vi bits1] w0 fun e w => e = .returned (vi r) ∧ Ext w0 w ∧ AllCl [] F w := by
 refine enterK Tryz.func115 rfl Tryz.ntmps115 rfl ?_
 have hI := Bun.start hF hc
 clear hc
 rw [m_round_MinInt] at h
 refine sr (sac ?_)
 refine nk (c_seq (sr (sm ?_)))
 obtain ⟨r1, hx1, h⟩ := bnd_some h
 refine s_call gn rfl (r_callF (vs := [vi bits1]) rfl ok_138 ⟨et, trivial⟩) (Calls.mono (c_round_valid (Dj F noM) w0 hI.lt bits1 trivial r1 hx1) ?_)
 rintro _ w1 ⟨rfl, hx2, hl1⟩
 refine ⟨_, rfl, ?_⟩
 replace hI := (hI.ext hx2)
 refine sq (y_not rfl et) ?_
 refine nk (cif h et (fun hb h => ?_) (fun hb h => ?_))
 ·refine sr (sac ?_)
  refine nk (c_ret ?_)
  obtain rfl := some_inj h
  exact q_ret (vs := [vi 0]) Tryz.results115 ⟨ev_tmp rfl rfl, trivial⟩ (fq hI trivial)
 refine c_skip (k_same (sr (sm ?_)))
 refine sq (y_sub rfl et ev_const) ?_
 refine sq (y_conv rfl (by rw [u3]; rfl) u128 et) ?_
 obtain ⟨ho1, h⟩ := chk_some h
 refine sq (y_shl rfl ev_const et ho1) ?_
 refine sq (y_neg rfl et) ?_
 refine sa ?_
 refine nk (c_ret ?_)
 obtain rfl := some_inj h
 exact q_ret (vs := [(vi (wi64 (-(wi64 (1 * 2 ^ (min (Int.toNat (wu64 (wi64 (bits1 - 1)))) 64))))))]) Tryz.results115 ⟨ev_tmp rfl rfl, trivial⟩ (fq hI trivial)
theorem c_round_MaxInt (F : NP) (w0 : World) (hF : ∀ k, F k → k < w0.heap.size) (bits1 : Int) (hc : AllCl [] F w0) (r : Int)
  (h : m_round_MaxInt bits1 = some r) :
  Calls Tryz.prog 116 #[vi bits1] w0 fun e w => e = .returned (vi r) ∧ Ext w0 w ∧ AllCl [] F w := by
 refine enterK Tryz.func116 rfl Tryz.ntmps116 rfl ?_
 have hI := Bun.start hF hc
 clear hc
 rw [m_round_MaxInt] at h
 refine sr (sac ?_)
 refine nk (c_seq (sr (sm ?_)))
 obtain ⟨r1, hx1, h⟩ := bnd_some h
 refine s_call gn rfl (r_callF (vs := [vi bits1]) rfl ok_138 ⟨et, trivial⟩) (Calls.mono (c_round_valid (Dj F noM) w0 hI.lt bits1 trivial r1 hx1) ?_)
 rintro _ w1 ⟨rfl, hx2, hl1⟩
 refine ⟨_, rfl, ?_⟩
 replace hI := (hI.ext hx2)
 refine sq (y_not rfl et) ?_
 refine nk (cif h et (fun hb h => ?_) (fun hb h => ?_))
 ·refine sr (sac ?_)
  refine nk (c_ret ?_)
  obtain rfl := some_inj h
  exact q_ret (vs := [vi 0]) Tryz.results116 ⟨ev_tmp rfl rfl, trivial⟩ (fq hI trivial)
 refine c_skip (k_same (sr (sm ?_)))
 refine sq (y_sub rfl et ev_const) ?_
 refine sq (y_conv rfl (by rw [u3]; rfl) u128 et) ?_
 obtain ⟨ho1, h⟩ := chk_some h
 refine sq (y_shl rfl ev_const et ho1) ?_
 refine sq (y_sub rfl et ev_const) ?_
 refine sa ?_
 refine nk (c_ret ?_)
 obtain rfl := some_inj h
 exact q_ret (vs := [(vi (wi64 ((wi64 (1 * 2 ^ (min (Int.toNat (wu64 (wi64 (bits1 - 1)))) 64))) - 1)))]) Tryz.results116 ⟨ev_tmp rfl rfl, trivial⟩ (fq hI trivial)
theorem c_fixed_Valid (F : NP) (w0 : World) (hF : ∀ k, F k → k < w0.heap.size) (t1 : GType) (v1 : GVal) (hc : AllCl [] F w0) (r : Bool)
  (h : m_fixed_Valid t1 v1 = some r) :
  Calls Tryz.prog 89 #[(Value.agg (AType t1)), (Value.agg (AVal v1))] w0 fun e w => e = .returned (vb r) ∧ Ext w0 w ∧ AllCl [] F w := by
 refine enterK Tryz.func89 rfl Tryz.ntmps89 rfl ?_
 have hI := Bun.start hF hc
 clear hc
 rw [m_fixed_Valid] at h
 refine sr (l_box (v := (Value.agg (AType t1))) (cs := (AType t1)) hI gn rfl rfl et rfl ?_)
 clear hI; intro b1 c1 w1 hI
 obtain ⟨c2, hI⟩ := hI.relBox .z
 refine l_box (v := (Value.agg (AVal v1))) (cs := (AVal v1)) hI gn rfl rfl et rfl ?_
 clear hI; intro b2 c3 w2 hI
 obtain ⟨c4, hI⟩ := hI.relBox .z
 refine sac ?_
 refine nk (c_seq (c_drawX [] false (.c (0, .q) (.c (1, .s) (.c (2, .q) (.c (3, .q) (.c (4, .q) (.c (5, .q) (.c (6, .q) (.c (7, .q) (.c (8, .q) (.c (9, .q) (.c (10, .q) (.c (11, .q) (.c (12, .q) (.c (13, .s) (.c (14, .q) (.c (15, .q) (.c (16, .q) (.c (17, .q) (.c (18, .q) (.c (19, .q) (.c (20, .q) (.c (21, .s) (.c (22, .q) (.c (23, .q) (.c (24, .q) .n))))))))))))))))))))))))) hI (by kernel_rfl) (by kernel_rfl) ?_))
 clear hI; intro w3 hI
 refine a_read rfl gn rfl (fun w' hw' => (y_loadN (l := (lType t1)) rfl et u23 rfl size_23 ((hI.kblk (l := (lType t1)) (.s .z) rfl).at_ (SX.any rfl hw')))) (by kernel_rfl) ?_
 obtain ⟨r1, hx1, h⟩ := bnd_some h
 refine la_call rfl gn rfl (r_callF (vs := [(Value.agg (AType t1))]) rfl ok_94 ⟨et, trivial⟩) (Calls.mono (c_fixed_ValidateType (Dj F c4) w3 hI.lt t1 trivial r1 hx1) ?_)
 rintro _ w4 ⟨rfl, hx2, hl1⟩
 refine ⟨_, rfl, hx2, ?_⟩
 replace hI := (hI.ext hx2)
 refine a_q rfl gn rfl (fun w' => y_eql rfl et ev_const) ?_
 refine a_q rfl gn rfl (fun w' => y_move rfl et) ?_
 refine a_gval rfl (g_true rfl rfl rfl rfl) rfl (fun hc => fun w' => (y_fieldAddr rfl et u36 rfl size_2 rfl)) ?_
 refine a_gread rfl (g_true rfl rfl rfl rfl) rfl (fun hc => fun w' hw' => (y_load1 (v := (vi v1.D)) rfl (ev_gv et hc) u2 rfl ((hI.kblk (l := [vi v1.D]) .z rfl).at_ (SX.any rfl hw')))) (by kernel_rfl) ?_
 refine a_gval rfl (g_true rfl rfl rfl rfl) rfl (fun hc => fun w' => (y_eql rfl (ev_gv et hc) ev_const)) ?_
 refine a_q rfl gn rfl (fun w' => y_and rfl et et) ?_
 refine a_q rfl gn rfl (fun w' => y_move rfl et) ?_
 refine a_gval rfl (g_true rfl rfl rfl rfl) rfl (fun hc => fun w' => (y_fieldAddr rfl et u36 rfl size_2 rfl)) ?_
 refine a_gread rfl (g_true rfl rfl rfl rfl) rfl (fun hc => fun w' hw' => (y_load1 (v := (vi v1.N)) rfl (ev_gv et hc) u2 rfl ((hI.kblk (l := [vi v1.N]) .z rfl).at_ (SX.any rfl hw')))) (by kernel_rfl) ?_
 refine a_gval rfl (g_true rfl rfl rfl rfl) rfl (fun hc => fun w' => (y_fieldAddr rfl et u23 rfl size_3 rfl)) ?_
 refine a_gread rfl (g_true rfl rfl rfl rfl) rfl (fun hc => fun w' hw' => (y_load1 (v := (vi t1.Bits)) rfl (ev_gv et hc) u3 rfl ((hI.kblk (l := [vi t1.Bits]) (.s .z) rfl).at_ (SX.any rfl hw')))) (by kernel_rfl) ?_
 obtain ⟨r2, hx3, h⟩ := bnd_some h
 replace hx3 := gd_some hx3
 refine la_gcallU (v := (vi r2)) rfl (g_true rfl rfl rfl rfl) rfl (fun hc => (r_callF (vs := [vi t1.Bits]) rfl ok_115 ⟨(ev_gv et hc), trivial⟩)) (fun hc => (c_round_MinInt (Dj F c4) w4 hI.lt t1.Bits trivial r2 (hx3 hc)).mono fun _ _ k => ⟨k.1, k.2.1⟩) ?_
 intro w5 hx4; replace hI := hI.ext hx4
 refine a_gval rfl (g_true rfl rfl rfl rfl) rfl (fun hc => fun w' => (y_geq rfl (ev_gv et hc) (ev_gv et hc))) ?_
 refine a_q rfl gn rfl (fun w' => y_and rfl et et) ?_
 refine a_q rfl gn rfl (fun w' => y_move rfl et) ?_
 refine a_gval rfl (g_true rfl rfl rfl rfl) rfl (fun hc => fun w' => (y_fieldAddr rfl et u36 rfl size_2 rfl)) ?_
 refine a_gread rfl (g_true rfl rfl rfl rfl) rfl (fun hc => fun w' hw' => (y_load1 (v := (vi v1.N)) rfl (ev_gv et hc) u2 rfl ((hI.kblk (l := [vi v1.N]) .z rfl).at_ (SX.any rfl hw')))) (by kernel_rfl) ?_
 refine a_gval rfl (g_true rfl rfl rfl rfl) rfl (fun hc => fun w' => (y_fieldAddr rfl et u23 rfl size_3 rfl)) ?_
 refine a_gread rfl (g_true rfl rfl rfl rfl) rfl (fun hc => fun w' hw' => (y_load1 (v := (vi t1.Bits)) rfl (ev_gv et hc) u3 rfl ((hI.kblk (l := [vi t1.Bits]) (.s .z) rfl).at_ (SX.any rfl hw')))) (by kernel_rfl) ?_
 obtain ⟨r3, hx5, h⟩ := bnd_some h
 replace hx5 := gd_some hx5
 refine la_gcallU (v := (vi r3)) rfl (g_true rfl rfl rfl rfl) rfl (fun hc => (r_callF (vs := [vi t1.Bits]) rfl ok_116 ⟨(ev_gv et hc), trivial⟩)) (fun hc => (c_round_MaxInt (Dj F c4) w5 hI.lt t1.Bits trivial r3 (hx5 hc)).mono fun _ _ k => ⟨k.1, k.2.1⟩) ?_
 intro w6 hx6; replace hI := hI.ext hx6
 refine a_gval rfl (g_true rfl rfl rfl rfl) rfl (fun hc => fun w' => (y_leq rfl (ev_gv et hc) (ev_gv et hc))) ?_
 refine a_q rfl gn rfl (fun w' => y_and rfl et et) ?_
 refine a_q rfl gn rfl (fun w' => y_assign rfl et) ?_
 refine a_nil ?_
 refine k_next (e := [(4, (vb ((((decide (r1 = 0)) && (decide (v1.D = 1))) && (decide (r2 ≤ v1.N))) && (decide (v1.N ≤ r3)))))]) ⟨rfl, trivial⟩ ?_
 refine c_ret ?_
 obtain rfl := some_inj h
 exact q_ret (vs := [(vb ((((decide (r1 = 0)) && (decide (v1.D = 1))) && (decide (r2 ≤ v1.N))) && (decide (v1.N ≤ r3))))]) Tryz.results89 ⟨ev_tmp rfl rfl, trivial⟩ (fq hI trivial)
theorem c_value_whole (F : NP) (w0 : World) (hF : ∀ k, F k → k < w0.heap.size) (n1 : Int) (hc : AllCl [] F w0) (r : Bool)
  (h : m_value_whole n1 = some r) :
  Calls Tryz.prog 90 #[vi n1] w0 fun e w => e = .returned (vb r) ∧ Ext w0 w ∧ AllCl [] F w := by
 refine enterK Tryz.func90 rfl Tryz.ntmps90 rfl ?_
 have hI := Bun.start hF hc
 clear hc
 rw [m_value_whole] at h
 refine sr (sac ?_)
 refine nk (sr (sm ?_))
 refine sq (y_geq rfl et ev_const) ?_
 refine sm ?_
 refine s_gval (g_true rfl rfl rfl rfl) rfl (fun hc => y_move rfl et) ?_
 refine s_gval (g_true rfl rfl rfl rfl) rfl (fun hc => y_leq rfl (ev_gv et hc) ev_const) ?_
 refine sq (y_and rfl et et) ?_
 refine sa ?_
 refine nk (c_ret ?_)
 obtain rfl := some_inj h
 exact q_ret (vs := [(vb ((decide ((-2147483647) ≤ n1)) && (decide (n1 ≤ 2147483647))))]) Tryz.results90 ⟨ev_tmp rfl rfl, trivial⟩ (fq hI trivial)
theorem c_frac_inRange (F : NP) (w0 : World) (hF : ∀ k, F k → k < w0.heap.size) (n1 : Int) (hc : AllCl [] F w0) (r : Bool)
  (h : m_frac_inRange n1 = some r) :
  Calls Tryz.prog 117 #[vi n1] w0 fun e w => e = .returned (vb r) ∧ Ext w0 w ∧ AllCl [] F w := by
 refine enterK Tryz.func117 rfl Tryz.ntmps117 rfl ?_
 have hI := Bun.start hF hc
 clear hc
 rw [m_frac_inRange] at h
 refine sr (sac ?_)
 refine nk (sr (sm ?_))
 refine sq (y_geq rfl et ev_const) ?_
 refine sm ?_
 refine s_gval (g_true rfl rfl rfl rfl) rfl (fun hc => y_move rfl et) ?_
 refine s_gval (g_true rfl rfl rfl rfl) rfl (fun hc => y_leq rfl (ev_gv et hc) ev_const) ?_
 refine sq (y_and rfl et et) ?_
 refine sa ?_
 refine nk (c_ret ?_)
 obtain rfl := some_inj h
 exact q_ret (vs := [(vb ((decide ((-2147483647) ≤ n1)) && (decide (n1 ≤ 2147483647))))]) Tryz.results117 ⟨ev_tmp rfl rfl, trivial⟩ (fq hI trivial)
theorem c_frac_magnitude (F : NP) (w0 : World) (hF : ∀ k, F k → k < w0.heap.size) (n1 : Int) (hc : AllCl [] F w0) (r : Int)
  (h : m_frac_magnitude n1 = some r) :
  Calls Tryz.prog 119 #[vi n1] w0 fun e w => e = .returned (Value.int .u64 r) ∧ Ext w0 w ∧ AllCl [] F w := by
 refine enterK Tryz.func119 rfl Tryz.ntmps119 rfl ?_
 have hI := Bun.start hF hc
 clear hc
 rw [m_frac_magnitude] at h
 refine sr (sac ?_)
 refine nk (c_seq (sr (sm ?_)))
 refine sq (y_lss rfl et ev_const) ?_
 refine nk (cif h et (fun hb h => ?_) (fun hb h => ?_))
 ·refine sr (sm ?_)
  refine sq (y_conv rfl (by rw [u2]; rfl) u120 et) ?_
  refine sq (y_neg rfl et) ?_
  refine sa ?_
  refine nk (c_ret ?_)
  obtain rfl := some_inj h
  exact q_ret (vs := [(Value.int .u64 (wu64 (-(wu64 n1))))]) Tryz.results119 ⟨ev_tmp rfl rfl, trivial⟩ (fq hI trivial)
 refine c_skip (k_same (sr (sm ?_)))
 refine sq (y_conv rfl (by rw [u2]; rfl) u120 et) ?_
 refine sa ?_
 refine nk (c_ret ?_)
 obtain rfl := some_inj h
 exact q_ret (vs := [(Value.int .u64 (wu64 n1))]) Tryz.results119 ⟨ev_tmp rfl rfl, trivial⟩ (fq hI trivial)
theorem c_frac_gcd (F : NP) (w0 : World) (hF : ∀ k, F k → k < w0.heap.size) (a1 : Int) (b1 : Int) (hc : AllCl [] F w0) (r : Int)
  (h : m_frac_gcd a1 b1 = some r) :
  Calls Tryz.prog 118 #[(Value.int .u64 a1), (Value.int .u64 b1)] w0 fun e w => e = .returned (Value.int .u64 r) ∧ Ext w0 w ∧ AllCl [] F w := by
 refine enterK Tryz.func118 rfl Tryz.ntmps118 rfl ?_
 have hI := Bun.start hF hc
 clear hc
 rw [m_frac_gcd] at h
 refine sr (sac ?_)
 refine nk (c_seq (c_block (c_loop (α := Nat × Int × Int) (fun x => fun w => ∃ C, Bun noM F w0 C w [] [] ∧ m_frac_gcd_l1 (x.1) (x.2.1) (x.2.2) = some r) (fun x _ => x.1) (fun x => [(0, (Value.int .u64 (x.2.1))), (1, (Value.int .u64 (x.2.2)))]) (fu, a1, b1) ⟨_, hI.arr .n trivial, h⟩ ⟨rfl, rfl, trivial⟩ ?_)))
 clear h hI; rintro ⟨fuel1, a2, b2⟩ w1 ⟨c1, hI, h⟩
 dsimp only at hI h
 rcases fuel1 with _ | fuel1
 ·rw [m_frac_gcd_l1] at h; cases h
 rw [m_frac_gcd_l1] at h
 refine c_sub (e := [(0, (Value.int .u64 a2)), (1, (Value.int .u64 b2))]) ⟨rfl, rfl, trivial⟩ ?_
 refine c_seq (sr (sm ?_))
 refine sq (y_neq rfl et ev_const) ?_
 refine nk (cif h et (fun hb h => ?_) (fun hb h => ?_))
 ·refine c_skip (k_same (c_block (c_drawX [] false (.c (0, .q) (.c (1, .q) (.c (2, .q) (.c (3, .q) (.c (4, .q) (.c (5, .q) .n)))))) hI (by kernel_rfl) (by kernel_rfl) ?_)))
  clear hI; intro w2 hI
  refine a_q rfl gn rfl (fun w' => y_move rfl et) ?_
  refine a_q rfl gn rfl (fun w' => y_move rfl et) ?_
  refine a_q rfl gn rfl (fun w' => y_move rfl et) ?_
  obtain ⟨ho1, h⟩ := chk_some h
  refine a_q rfl gn rfl (fun w' => y_rem rfl et et ho1) ?_
  refine a_q rfl gn rfl (fun w' => y_assign rfl et) ?_
  refine a_q rfl gn rfl (fun w' => y_assign rfl et) ?_
  refine a_nil ?_
  exact k_loop (fuel1, b2, Int.tmod a2 b2) ⟨rfl, rfl, trivial⟩ ⟨_, hI.arr .n trivial, h⟩ (Nat.lt_succ_self _)
 refine c_exit ?_
 refine k_in ?_
 refine k_same (sr (sm ?_))
 refine sa ?_
 refine nk (c_ret ?_)
 obtain rfl := some_inj h
 exact q_ret (vs := [(Value.int .u64 a2)]) Tryz.results118 ⟨ev_tmp rfl rfl, trivial⟩ (fq hI trivial)
theorem c_frac_Valid (F : NP) (w0 : World) (hF : ∀ k, F k → k < w0.heap.size) (v1 : GVal) (hc : AllCl [] F w0) (r : Bool)
  (h : m_frac_Valid v1 = some r) :
  Calls Tryz.prog 91 #[(Value.agg (AVal v1))] w0 fun e w => e = .returned (vb r) ∧ Ext w0 w ∧ AllCl [] F w := by
 refine enterK Tryz.func91 rfl Tryz.ntmps91 rfl ?_
 have hI := Bun.start hF hc
 clear hc
 rw [m_frac_Valid] at h
 refine sr (l_box (v := (Value.agg (AVal v1))) (cs := (AVal v1)) hI gn rfl rfl et rfl ?_)
 clear hI; intro b1 c1 w1 hI
 obtain ⟨c2, hI⟩ := hI.relBox .z
 refine sac ?_
 refine nk (c_seq (c_drawX [] false (.c (0, .q) (.c (1, .q) (.c (2, .q) (.c (3, .q) (.c (4, .q) (.c (5, .q) (.c (6, .q) (.c (7, .q) (.c (8, .q) (.c (9, .q) (.c (10, .q) (.c (11, .s) (.c (12, .q) (.c (13, .q) (.c (14, .q) (.c (15, .q) (.c (17, .q) (.c (18, .q) (.c (19, .q) (.c (16, .s) (.c (20, .s) (.c (21, .q) (.c (22, .q) (.c (23, .q) .n)))))))))))))))))))))))) hI (by kernel_rfl) (by kernel_rfl) ?_))
 clear hI; intro w2 hI
 refine a_q rfl gn rfl (fun w' => y_fieldAddr rfl et u36 rfl size_2 rfl) ?_
 refine a_read rfl gn rfl (fun w' hw' => (y_load1 (v := (vi v1.D)) rfl et u2 rfl ((hI.kblk (l := [vi v1.D]) .z rfl).at_ (SX.any rfl hw')))) (by kernel_rfl) ?_
 refine a_q rfl gn rfl (fun w' => y_geq rfl et ev_const) ?_
 refine a_q rfl gn rfl (fun w' => y_move rfl et) ?_
 refine a_gval rfl (g_true rfl rfl rfl rfl) rfl (fun hc => fun w' => (y_fieldAddr rfl et u36 rfl size_2 rfl)) ?_
 refine a_gread rfl (g_true rfl rfl rfl rfl) rfl (fun hc => fun w' hw' => (y_load1 (v := (vi v1.D)) rfl (ev_gv et hc) u2 rfl ((hI.kblk (l := [vi v1.D]) .z rfl).at_ (SX.any rfl hw')))) (by kernel_rfl) ?_
 refine a_gval rfl (g_true rfl rfl rfl rfl) rfl (fun hc => fun w' => (y_leq rfl (ev_gv et hc) ev_const)) ?_
 refine a_q rfl gn rfl (fun w' => y_and rfl et et) ?_
 refine a_q rfl gn rfl (fun w' => y_move rfl et) ?_
 refine a_gval rfl (g_true rfl rfl rfl rfl) rfl (fun hc => fun w' => (y_fieldAddr rfl et u36 rfl size_2 rfl)) ?_
 refine a_gread rfl (g_true rfl rfl rfl rfl) rfl (fun hc => fun w' hw' => (y_load1 (v := (vi v1.N)) rfl (ev_gv et hc) u2 rfl ((hI.kblk (l := [vi v1.N]) .z rfl).at_ (SX.any rfl hw')))) (by kernel_rfl) ?_
 obtain ⟨r1, hx1, h⟩ := bnd_some h
 replace hx1 := gd_some hx1
 refine la_gcallU (v := (vb r1)) rfl (g_true rfl rfl rfl rfl) rfl (fun hc => (r_callF (vs := [vi v1.N]) rfl ok_117 ⟨(ev_gv et hc), trivial⟩)) (fun hc => (c_frac_inRange (Dj F c2) w2 hI.lt v1.N trivial r1 (hx1 hc)).mono fun _ _ k => ⟨k.1, k.2.1⟩) ?_
 intro w3 hx2; replace hI := hI.ext hx2
 refine a_q rfl gn rfl (fun w' => y_and rfl et et) ?_
 refine a_q rfl gn rfl (fun w' => y_move rfl et) ?_
 refine a_gval rfl (g_true rfl rfl rfl rfl) rfl (fun hc => fun w' => (y_fieldAddr rfl et u36 rfl size_2 rfl)) ?_
 refine a_gread rfl (g_true rfl rfl rfl rfl) rfl (fun hc => fun w' hw' => (y_load1 (v := (vi v1.N)) rfl (ev_gv et hc) u2 rfl ((hI.kblk (l := [vi v1.N]) .z rfl).at_ (SX.any rfl hw')))) (by kernel_rfl) ?_
 refine a_gval rfl (g_true rfl rfl rfl rfl) rfl (fun hc => fun w' => (y_fieldAddr rfl et u36 rfl size_2 rfl)) ?_
 refine a_gread rfl (g_true rfl rfl rfl rfl) rfl (fun hc => fun w' hw' => (y_load1 (v := (vi v1.D)) rfl (ev_gv et hc) u2 rfl ((hI.kblk (l := [vi v1.D]) .z rfl).at_ (SX.any rfl hw')))) (by kernel_rfl) ?_
 refine a_gval rfl (g_true rfl rfl rfl rfl) rfl (fun hc => fun w' => (y_conv rfl (by rw [u2]; rfl) u120 (ev_gv et hc))) ?_
 obtain ⟨r2, hx3, h⟩ := bnd_some h
 replace hx3 := gd_some hx3
 refine la_gcallU (v := (Value.int .u64 r2)) rfl (g_true rfl rfl rfl rfl) rfl (fun hc => (r_callF (vs := [vi v1.N]) rfl ok_119 ⟨(ev_gv et hc), trivial⟩)) (fun hc => (c_frac_magnitude (Dj F c2) w3 hI.lt v1.N trivial r2 (hx3 hc)).mono fun _ _ k => ⟨k.1, k.2.1⟩) ?_
 intro w4 hx4; replace hI := hI.ext hx4
 obtain ⟨r3, hx5, h⟩ := bnd_some h
 replace hx5 := gd_some hx5
 refine la_gcallU (v := (Value.int .u64 r3)) rfl (g_true rfl rfl rfl rfl) rfl (fun hc => (r_callF (vs := [(Value.int .u64 r2), (Value.int .u64 (wu64 v1.D))]) rfl ok_118 ⟨(ev_gv et hc), ⟨(ev_gv et hc), trivial⟩⟩)) (fun hc => (c_frac_gcd (Dj F c2) w4 hI.lt r2 (wu64 v1.D) trivial r3 (hx5 hc)).mono fun _ _ k => ⟨k.1, k.2.1⟩) ?_
 intro w5 hx6; replace hI := hI.ext hx6
 refine a_gval rfl (g_true rfl rfl rfl rfl) rfl (fun hc => fun w' => (y_eql rfl (ev_gv et hc) ev_const)) ?_
 refine a_q rfl gn rfl (fun w' => y_and rfl et et) ?_
 refine a_q rfl gn rfl (fun w' => y_assign rfl et) ?_
 refine a_nil ?_
 refine k_next (e := [(2, (vb ((((decide (1 ≤ v1.D)) && (decide (v1.D ≤ 2147483647))) && r1) && (decide (r3 = 1)))))]) ⟨rfl, trivial⟩ ?_
 refine c_ret ?_
 obtain rfl := some_inj h
 exact q_ret (vs := [(vb ((((decide (1 ≤ v1.D)) && (decide (v1.D ≤ 2147483647))) && r1) && (decide (r3 = 1))))]) Tryz.results91 ⟨ev_tmp rfl rfl, trivial⟩ (fq hI trivial)
theorem c_value_Valid (F : NP) (w0 : World) (hF : ∀ k, F k → k < w0.heap.size) (t1 : GType) (v1 : GVal) (hc : AllCl [] F w0) (r : Bool)
  (h : m_value_Valid t1 v1 = some r) :
  Calls Tryz.prog 54 #[(Value.agg (AType t1)), (Value.agg (AVal v1))] w0 fun e w => e = .returned (vb r) ∧ Ext w0 w ∧ AllCl [] F w := by
 refine enterK Tryz.func54 rfl Tryz.ntmps54 rfl ?_
 have hI := Bun.start hF hc
 clear hc
 rw [m_value_Valid] at h
 refine sr (l_box (v := (Value.agg (AType t1))) (cs := (AType t1)) hI gn rfl rfl et rfl ?_)
 clear hI; intro b1 c1 w1 hI
 obtain ⟨c2, hI⟩ := hI.relBox .z
 refine l_box (v := (Value.agg (AVal v1))) (cs := (AVal v1)) hI gn rfl rfl et rfl ?_
 clear hI; intro b2 c3 w2 hI
 obtain ⟨c4, hI⟩ := hI.relBox .z
 refine sac ?_
 refine nk (c_seq (sr (sq (y_loadN (l := (lType t1)) rfl et u23 rfl size_23 (hI.kblk (l := (lType t1)) (.s .z) rfl).1) ?_)))
 obtain ⟨r1, hx1, h⟩ := bnd_some h
 refine s_call gn rfl (r_callF (vs := [(Value.agg (AType t1))]) rfl ok_57 ⟨et, trivial⟩) (Calls.mono (c_value_ValidateType (Dj F c4) w2 hI.lt t1 trivial r1 hx1) ?_)
 rintro _ w3 ⟨rfl, hx2, hl1⟩
 refine ⟨_, rfl, ?_⟩
 replace hI := (hI.ext hx2)
 refine sq (y_neq rfl et ev_const) ?_
 refine nk (cif h et (fun hb h => ?_) (fun hb h => ?_))
 ·refine sr (sac ?_)
  refine nk (c_ret ?_)
  obtain rfl := some_inj h
  exact q_ret (vs := [vb false]) Tryz.results54 ⟨ev_tmp rfl rfl, trivial⟩ (fq hI trivial)
 refine c_skip (k_same (c_seq (sr (sq (y_fieldAddr rfl et u23 rfl size_3 rfl) ?_))))
 refine sq (y_load1 (v := (vi t1.Kind)) rfl et u3 rfl (hI.kblk (l := [vi t1.Kind]) (.s .z) rfl).1) ?_
 refine nk (c_block (sr (sq (y_eql rfl et ev_const) ?_)))
 refine sa ?_
 refine nk (cif h et (fun hb h => ?_) (fun hb h => ?_))
 ·refine sr (sq (y_loadN (l := (lType t1)) rfl et u23 rfl size_23 (hI.kblk (l := (lType t1)) (.s .z) rfl).1) ?_)
  refine sq (y_loadN (l := (lVal v1)) rfl et u36 rfl size_36 (hI.kblk (l := (lVal v1)) .z rfl).1) ?_
  obtain ⟨r2, hx3, h⟩ := bnd_some h
  refine s_call gn rfl (r_callF (vs := [(Value.agg (AType t1)), (Value.agg (AVal v1))]) rfl ok_89 ⟨et, ⟨et, trivial⟩⟩) (Calls.mono (c_fixed_Valid (Dj F c4) w3 hI.lt t1 v1 trivial r2 hx3) ?_)
  rintro _ w4 ⟨rfl, hx4, hl2⟩
  refine ⟨_, rfl, ?_⟩
  replace hI := (hI.ext hx4)
  refine sa ?_
  refine nk (c_ret ?_)
  obtain rfl := some_inj h
  exact q_ret (vs := [vb r2]) Tryz.results54 ⟨ev_tmp rfl rfl, trivial⟩ (fq hI trivial)
 refine sr (sq (y_eql rfl et ev_const) ?_)
 refine sa ?_
 refine nk (cif h et (fun hb h => ?_) (fun hb h => ?_))
 ·refine sr (sq (y_fieldAddr rfl et u36 rfl size_2 rfl) ?_)
  refine sq (y_load1 (v := (vi v1.D)) rfl et u2 rfl (hI.kblk (l := [vi v1.D]) .z rfl).1) ?_
  refine sq (y_eql rfl et ev_const) ?_
  refine sm ?_
  refine s_gval (g_true rfl rfl rfl rfl) rfl (fun hc => y_fieldAddr rfl et u36 rfl size_2 rfl) ?_
  refine s_gval (g_true rfl rfl rfl rfl) rfl (fun hc => (y_load1 (v := (vi v1.N)) rfl (ev_gv et hc) u2 rfl (hI.kblk (l := [vi v1.N]) .z rfl).1)) ?_
  obtain ⟨r3, hx5, h⟩ := bnd_some h
  replace hx5 := gd_some hx5
  refine s_gcallU (v := (vb r3)) (g_true rfl rfl rfl rfl) rfl (fun hc => (r_callF (vs := [vi v1.N]) rfl ok_90 ⟨(ev_gv et hc), trivial⟩)) (fun hc => (c_value_whole (Dj F c4) w3 hI.lt v1.N trivial r3 (hx5 hc)).mono fun _ _ k => ⟨k.1, k.2.1⟩) ?_
  intro w5 hx6; replace hI := hI.ext hx6
  refine sq (y_and rfl et et) ?_
  refine sa ?_
  refine nk (c_ret ?_)
  obtain rfl := some_inj h
  exact q_ret (vs := [(vb ((decide (v1.D = 1)) && r3))]) Tryz.results54 ⟨ev_tmp rfl rfl, trivial⟩ (fq hI trivial)
 refine c_skip (k_same (sr (sq (y_loadN (l := (lVal v1)) rfl et u36 rfl size_36 (hI.kblk (l := (lVal v1)) .z rfl).1) ?_)))
 obtain ⟨r4, hx7, h⟩ := bnd_some h
 refine s_call gn rfl (r_callF (vs := [(Value.agg (AVal v1))]) rfl ok_91 ⟨et, trivial⟩) (Calls.mono (c_frac_Valid (Dj F c4) w3 hI.lt v1 trivial r4 hx7) ?_)
 rintro _ w6 ⟨rfl, hx8, hl4⟩
 refine ⟨_, rfl, ?_⟩
 replace hI := (hI.ext hx8)
 refine sa ?_
 refine nk (c_ret ?_)
 obtain rfl := some_inj h
 exact q_ret (vs := [vb r4]) Tryz.results54 ⟨ev_tmp rfl rfl, trivial⟩ (fq hI trivial)
theorem c_tensor_Validate (F : NP) (w0 : World) (hF : ∀ k, F k → k < w0.heap.size) (t1 : GTensor) (a1 : Option Addr) (c1 : Nat) (a2 : Option Addr) (c2 : Nat) (hc : AllCl [Cl.sl (cInt .i64) a1 c1 t1.Dims, Cl.sl cGVal a2 c2 t1.Vals] F w0) (r : Int)
  (h : m_tensor_Validate t1 = some r) :
  Calls Tryz.prog 25 #[(Value.agg (ATensor t1 a1 c1 a2 c2))] w0 fun e w => e = .returned (vi r) ∧ Ext w0 w ∧ AllCl [] F w := by
 refine enterK Tryz.func25 rfl Tryz.ntmps25 rfl ?_
 have hI := Bun.start hF hc
 clear hc
 rw [m_tensor_Validate] at h
 refine sr (l_box (v := (Value.agg (ATensor t1 a1 c1 a2 c2))) (cs := (ATensor t1 a1 c1 a2 c2)) hI gn rfl rfl et rfl ?_)
 clear hI; intro b1 c3 w1 hI
 obtain ⟨c4, hI⟩ := hI.relBox .z
 refine sac ?_
 refine nk (c_seq (sr (sq (y_fieldAddr rfl et u27 rfl size_23 rfl) ?_)))
 refine sq (y_loadN (l := (lType t1.Type_)) rfl et u23 rfl size_23 (hI.kblk (l := (lType t1.Type_)) .z rfl).1) ?_
 obtain ⟨r1, hx1, h⟩ := bnd_some h
 refine s_call gn rfl (r_callF (vs := [(Value.agg (AType t1.Type_))]) rfl ok_57 ⟨et, trivial⟩) (Calls.mono (c_value_ValidateType (Dj F c4) w1 hI.lt t1.Type_ trivial r1 hx1) ?_)
 rintro _ w2 ⟨rfl, hx2, hl1⟩
 refine ⟨_, rfl, ?_⟩
 replace hI := (hI.ext hx2)
 refine sa ?_
 refine nk (sr (sm ?_))
 refine sq (y_neq rfl et ev_const) ?_
 refine nk (cif h et (fun hb h => ?_) (fun hb h => ?_))
 ·refine sr (sm ?_)
  refine sa ?_
  refine nk (c_ret ?_)
  obtain rfl := some_inj h
  exact q_ret (vs := [vi r1]) Tryz.results25 ⟨ev_tmp rfl rfl, trivial⟩ (fq hI trivial)
 refine c_skip (k_same (c_seq (sr (sq (y_fieldAddr rfl et u27 rfl size_24 rfl) ?_))))
 refine sq (y_load1 (v := (vs a1 t1.Dims.length c1)) rfl et u24 rfl (hI.kblk (l := [vs a1 t1.Dims.length c1]) .z rfl).1) ?_
 obtain ⟨r2, hx3, h⟩ := bnd_some h
 refine s_call gn rfl (r_callF (vs := [vs a1 t1.Dims.length c1]) rfl ok_58 ⟨et, trivial⟩) (Calls.mono (c_shape_Validate (Dj F c4) w2 hI.lt t1.Dims a1 c1 ⟨(hI.get (.s .z)), trivial⟩ r2 hx3) ?_)
 rintro _ w3 ⟨rfl, hx4, hl2⟩
 refine ⟨_, rfl, ?_⟩
 replace hI := (hI.ext hx4)
 refine sa ?_
 refine nk (sr (sm ?_))
 refine sq (y_neq rfl et ev_const) ?_
 refine nk (cif h et (fun hb h => ?_) (fun hb h => ?_))
 ·refine sr (sm ?_)
  refine sa ?_
  refine nk (c_ret ?_)
  obtain rfl := some_inj h
  exact q_ret (vs := [vi r2]) Tryz.results25 ⟨ev_tmp rfl rfl, trivial⟩ (fq hI trivial)
 refine c_skip (k_same (c_seq (c_seq (c_drawX [] false (.c (0, .q) (.c (1, .q) (.c (2, .q) (.c (3, .q) (.c (4, .q) (.c (5, .s) (.c (6, .q) .n))))))) hI (by kernel_rfl) (by kernel_rfl) ?_))))
 clear hI; intro w4 hI
 refine a_q rfl gn rfl (fun w' => y_fieldAddr rfl et u27 rfl size_25 rfl) ?_
 refine a_read rfl gn rfl (fun w' hw' => (y_load1 (v := (vs a2 t1.Vals.length c2)) rfl et u25 rfl ((hI.kblk (l := [vs a2 t1.Vals.length c2]) .z rfl).at_ (SX.any rfl hw')))) (by kernel_rfl) ?_
 refine a_q rfl gn rfl (fun w' => y_lenl rfl u25 et) ?_
 refine a_q rfl gn rfl (fun w' => y_fieldAddr rfl et u27 rfl size_24 rfl) ?_
 refine a_read rfl gn rfl (fun w' hw' => (y_load1 (v := (vs a1 t1.Dims.length c1)) rfl et u24 rfl ((hI.kblk (l := [vs a1 t1.Dims.length c1]) .z rfl).at_ (SX.any rfl hw')))) (by kernel_rfl) ?_
 obtain ⟨r3, hx5, h⟩ := bnd_some h
 refine la_call rfl gn rfl (r_callF (vs := [vs a1 t1.Dims.length c1]) rfl ok_59 ⟨et, trivial⟩) (Calls.mono (c_shape_Size (Dj F c4) w4 hI.lt t1.Dims a1 c1 ⟨(hI.get (.s .z)), trivial⟩ r3 hx5) ?_)
 rintro _ w5 ⟨rfl, hx6, hl3⟩
 refine ⟨_, rfl, hx6, ?_⟩
 replace hI := (hI.ext hx6)
 refine a_q rfl gn rfl (fun w' => y_neq rfl et et) ?_
 refine a_nil ?_
 refine k_same (cif h et (fun hb h => ?_) (fun hb h => ?_))
 ·refine sr (sac ?_)
  refine nk (c_ret ?_)
  obtain rfl := some_inj h
  exact q_ret (vs := [vi 1]) Tryz.results25 ⟨ev_tmp rfl rfl, trivial⟩ (fq hI trivial)
 refine c_skip (k_same (c_seq (sr (sq (y_fieldAddr rfl et u27 rfl size_25 rfl) ?_))))
 refine sq (y_load1 (v := (vs a2 t1.Vals.length c2)) rfl et u25 rfl (hI.kblk (l := [vs a2 t1.Vals.length c2]) .z rfl).1) ?_
 refine sq (y_lenl rfl u25 et) ?_
 refine sq (y_move rfl ev_const) ?_
 refine nk (c_block (c_loop (α := Nat × Int) (fun x => fun w => ∃ C, Bun noM F w0 C w [] [Cl.blk b1 27 (ATensor t1 a1 c1 a2 c2), Cl.sl (cInt .i64) a1 c1 t1.Dims, Cl.sl cGVal a2 c2 t1.Vals] ∧ m_tensor_Validate_l1 t1 (x.1) (x.2) = some r) (fun x _ => x.1) (fun x => [(1, vp b1 0), (27, vs a2 t1.Vals.length c2), (28, vi (t1.Vals.length : Int)), (29, vi (x.2))]) (fu, 0) ⟨_, hI.arr .n ⟨.z, (.s .z), (.s (.s .z)), trivial⟩, h⟩ ⟨rfl, rfl, rfl, rfl, trivial⟩ ?_))
 clear h hI; rintro ⟨fuel1, i1⟩ w6 ⟨c5, hI, h⟩
 dsimp only at hI h
 rcases fuel1 with _ | fuel1
 ·rw [m_tensor_Validate_l1] at h; cases h
 rw [m_tensor_Validate_l1] at h
 refine c_sub (e := [(1, vp b1 0), (27, vs a2 t1.Vals.length c2), (28, vi (t1.Vals.length : Int)), (29, vi i1)]) ⟨rfl, rfl, rfl, rfl, trivial⟩ ?_
 refine sr (sq (y_lss rfl et et) ?_)
 refine nk (c_seq (cif h et (fun hb h => ?_) (fun hb h => ?_)))
 ·refine c_skip (k_same (c_seq (c_block (sr ?_))))
  obtain ⟨e1, hx7, h⟩ := bnd_some h
  obtain ⟨ad1, cs1, hA1, hr1, hq1⟩ := hI.clat (.s (.s .z)) hx7
  obtain rfl : cs1 = (lVal e1) := hr1
  refine sq (y_indexAddr rfl u25 size_36 et et (lat_bd hx7) hA1) ?_
  refine sq (y_loadN (l := (lVal e1)) rfl et u36 rfl size_36 hq1.1) ?_
  refine l_alloc (cs := #[vi 0, vi 0]) hI gn rfl rfl zero_36 rfl ?_
  clear hI; intro b2 c6 w7 hI
  refine l_store (new := (lVal e1)) (cs' := (AVal e1)) hI .z gn rfl rfl et et rfl size_36 rfl rfl rfl ?_
  clear hI; intro c7 w8 hI
  refine nk (sr (sq (y_fieldAddr rfl et u27 rfl size_23 rfl) ?_))
  refine sq (y_loadN (l := (lType t1.Type_)) rfl et u23 rfl size_23 (hI.kblk (l := (lType t1.Type_)) .z rfl).1) ?_
  refine sq (y_loadN (l := (lVal e1)) rfl et u36 rfl size_36 (CellsAt.of_blk (hI.blk .z) rfl)) ?_
  obtain ⟨r4, hx8, h⟩ := bnd_some h
  refine s_call gn rfl (r_callF (vs := [(Value.agg (AType t1.Type_)), (Value.agg (AVal e1))]) rfl ok_54 ⟨et, ⟨et, trivial⟩⟩) (Calls.mono (c_value_Valid (Dj F c7) w8 hI.lt t1.Type_ e1 trivial r4 hx8) ?_)
  rintro _ w9 ⟨rfl, hx9, hl4⟩
  refine ⟨_, rfl, ?_⟩
  replace hI := (hI.ext hx9)
  refine sq (y_not rfl et) ?_
  refine nk (cif h et (fun hb h => ?_) (fun hb h => ?_))
  ·refine sr (sac ?_)
   refine nk (c_ret ?_)
   obtain rfl := some_inj h
   exact q_ret (vs := [vi 1]) Tryz.results25 ⟨ev_tmp rfl rfl, trivial⟩ (fq hI trivial)
  refine c_skip (k_same (c_region rfl ?_))
  refine sq (y_add rfl et ev_const) ?_
  refine sm ?_
  refine s_nil ?_
  exact k_loop (fuel1, wi64 (i1 + 1)) ⟨rfl, rfl, rfl, rfl, trivial⟩ ⟨_, hI.arr .n ⟨.z, (.s .z), (.s (.s .z)), trivial⟩, h⟩ (Nat.lt_succ_self _)
 refine c_exit ?_
 refine k_in ?_
 refine k_same (sr (sac ?_))
 refine nk (c_ret ?_)
 obtain rfl := some_inj h
 exact q_ret (vs := [vi 0]) Tryz.results25 ⟨ev_tmp rfl rfl, trivial⟩ (fq hI trivial)
def tr_tensor_New_1_1 : Tr := (.c (7, .s) .n)
def tr_tensor_New_1_0 : Tr := (.c (4, .s) (.c (5, .q) tr_tensor_New_1_1))
theorem c_tensor_New (F : NP) (w0 : World) (hF : ∀ k, F k → k < w0.heap.size) (t1 : GType) (dims1 : List Int) (vals1 : List GVal) (a1 : Option Addr) (c1 : Nat) (a2 : Option Addr) (c2 : Nat) (hc : AllCl [Cl.sl (cInt .i64) a1 c1 dims1, Cl.sl cGVal a2 c2 vals1] F w0) (r : GTensor × Int)
  (h : m_tensor_New t1 dims1 vals1 = some r) :
  Calls Tryz.prog 21 #[(Value.agg (AType t1)), vs a1 dims1.length c1, vs a2 vals1.length c2] w0 fun e w => ∃ (a3 : Option Addr) (c3 : Nat) (a4 : Option Addr) (c4 : Nat), e = .returned (Value.tuple #[(Value.agg (ATensor r.1 a3 c3 a4 c4)), vi r.2]) ∧ Ext w0 w ∧ AllCl [Cl.sl (cInt .i64) a3 c3 r.1.Dims, Cl.sl cGVal a4 c4 r.1.Vals] F w := by
 refine enterK Tryz.func21 rfl Tryz.ntmps21 rfl ?_
 have hI := Bun.start hF hc
 clear hc
 rw [m_tensor_New] at h
 refine sr (l_box (v := (Value.agg (AType t1))) (cs := (AType t1)) hI gn rfl rfl et rfl ?_)
 clear hI; intro b1 c5 w1 hI
 obtain ⟨c6, hI⟩ := hI.relBox .z
 refine l_alloc (cs := ZTensor) hI gn rfl rfl zero_27 rfl ?_
 clear hI; intro b2 c7 w2 hI
 refine sac ?_
 refine nk (c_seq ?_)
 obtain ⟨zs1, hx1, h⟩ := bnd_some h
 obtain ⟨zs2, hx2, h⟩ := bnd_some h
 refine c_drawX [7] false (.c (0, .q) (.c (1, .q) (.c (3, .q) (.two 2 (.two 4 (.c (5, .q) (.c (6, .s) tr_tensor_New_1_1)) 6 tr_tensor_New_1_0) 6 (.c (2, .s) tr_tensor_New_1_0))))) hI (by kernel_rfl) (by kernel_rfl) ?_
 clear hI; intro w9 hI
 refine a_join (α := (Option Addr) × Nat × (Option Addr) × Nat × Nat × NP) (T := tr_tensor_New_1_1) (fun x => [(0, (Value.agg (AType t1))), (1, vs a1 dims1.length c1), (2, vs a2 vals1.length c2), (3, vp b1 0), (6, vp b2 0), (7, vi 0), (8, (Value.pointer (some ⟨(x.2.2.2.2.1), 0, none⟩))), (10, (Value.agg (AType t1))), (11, vs a1 dims1.length c1), (12, vs (x.1) zs1.length (x.2.1)), (13, vs a2 vals1.length c2), (14, vs (x.2.2.1) zs2.length (x.2.2.2.1)), (15, (Value.agg #[vi t1.Kind, vi t1.Bits, vi t1.Frac, vi t1.Round, vi t1.Over, vs (x.1) zs1.length (x.2.1), vs (x.2.2.1) zs2.length (x.2.2.2.1)]))]) (fun x w => Bun noM F w0 (x.2.2.2.2.2) w [MO.row cGVal 36 (x.2.2.1) (x.2.2.2.1) zs2, MO.box (x.2.2.2.2.1) 27 ZTensor, MO.row (cInt .i64) 3 (x.1) (x.2.1) zs1, MO.box b2 27 ZTensor] [Cl.blk b1 23 (AType t1), Cl.sl (cInt .i64) a1 c1 dims1, Cl.sl cGVal a2 c2 vals1]) (fun x w => SN [7] (DM false F (x.2.2.2.2.2)) w) ?_ ?_
 ·clear hI; rintro ⟨a5, c8, a6, c10, b3, c15⟩ w8 hI
  try dsimp only at hI ⊢
  unfold tr_tensor_New_1_1
  refine a_turn (F := F) (C := c15) rfl rfl ?_
  refine la_store (new := [vi t1.Kind, vi t1.Bits, vi t1.Frac, vi t1.Round, vi t1.Over, vs a5 zs1.length c8, vs a6 zs2.length c10]) (cs' := #[vi t1.Kind, vi t1.Bits, vi t1.Frac, vi t1.Round, vi t1.Over, vs a5 zs1.length c8, vs a6 zs2.length c10]) hI (.s .z) rfl gn rfl rfl et et rfl size_27 rfl rfl rfl ?_
  clear hI; intro c13 w6 hI
  refine a_nil ?_
  refine k_same (c_seq (sr (sq (y_loadN (l := [vi t1.Kind, vi t1.Bits, vi t1.Frac, vi t1.Round, vi t1.Over, vs a5 zs1.length c8, vs a6 zs2.length c10]) rfl et u27 rfl size_27 (CellsAt.of_blk (hI.blk (.s .z)) rfl)) ?_)))
  obtain ⟨r1, hx3, h⟩ := bnd_some h
  refine s_call gn rfl (r_callF (vs := [(Value.agg #[vi t1.Kind, vi t1.Bits, vi t1.Frac, vi t1.Round, vi t1.Over, vs a5 zs1.length c8, vs a6 zs2.length c10])]) rfl ok_25 ⟨et, trivial⟩) (Calls.mono (c_tensor_Validate noM w6 (fun _ k => k.elim) (⟨t1, zs1, zs2⟩ : GTensor) a5 c8 a6 c10 ⟨hI.lend (.s (.s .z)), hI.lend .z, trivial⟩ r1 hx3) ?_)
  rintro _ w10 ⟨rfl, hx4, hl1⟩
  refine ⟨_, rfl, ?_⟩
  replace hI := (hI.ext hx4)
  refine sa ?_
  refine nk (sr (sm ?_))
  refine sq (y_neq rfl et ev_const) ?_
  refine nk (cif h et (fun hb h => ?_) (fun hb h => ?_))
  ·refine sr (sq (y_build (vs := []) (cs := ZTensor) rfl trivial (by kernel_rfl)) ?_)
   refine sm ?_
   refine l_store (new := zTensor) (cs' := ZTensor) hI (.s (.s (.s .z))) gn rfl rfl et et rfl size_27 rfl rfl rfl ?_
   clear hI; intro c16 w11 hI
   refine sa ?_
   refine nk (c_ret ?_)
   have hI := hI.add (c := Cl.sl (cInt .i64) none 0 ([] : List Int)) SlC.nil
   have hI := hI.add (c := Cl.sl cGVal none 0 ([] : List GVal)) SlC.nil
   obtain rfl := some_inj h
   exact q_ret (vs := [(Value.agg ZTensor), vi r1]) Tryz.results21 ⟨⟨_, ev_tmp rfl rfl, load_agg (l := zTensor) u27 rfl size_27 (CellsAt.of_blk (hI.blk (.s (.s (.s .z)))) rfl)⟩, ⟨ev_tmp rfl rfl, trivial⟩⟩ ⟨none, 0, none, 0, rfl, hI.ext0, hI.fin ⟨(.s .z), .z, trivial⟩⟩
  refine c_skip (k_same (sr (sq (y_loadN (l := [vi t1.Kind, vi t1.Bits, vi t1.Frac, vi t1.Round, vi t1.Over, vs a5 zs1.length c8, vs a6 zs2.length c10]) rfl et u27 rfl size_27 (CellsAt.of_blk (hI.blk (.s .z)) rfl)) ?_)))
  refine l_store (new := [vi t1.Kind, vi t1.Bits, vi t1.Frac, vi t1.Round, vi t1.Over, vs a5 zs1.length c8, vs a6 zs2.length c10]) (cs' := #[vi t1.Kind, vi t1.Bits, vi t1.Frac, vi t1.Round, vi t1.Over, vs a5 zs1.length c8, vs a6 zs2.length c10]) hI (.s (.s (.s .z))) gn rfl rfl et et rfl size_27 rfl rfl rfl ?_
  clear hI; intro c17 w12 hI
  refine sac ?_
  refine nk (c_ret ?_)
  obtain ⟨c18, hI⟩ := hI.release (.s (.s .z))
  obtain ⟨c19, hI⟩ := hI.release .z
  obtain rfl := some_inj h
  exact q_ret (vs := [(Value.agg #[vi t1.Kind, vi t1.Bits, vi t1.Frac, vi t1.Round, vi t1.Over, vs a5 zs1.length c8, vs a6 zs2.length c10]), vi 0]) Tryz.results21 ⟨⟨_, ev_tmp rfl rfl, load_agg (l := [vi t1.Kind, vi t1.Bits, vi t1.Frac, vi t1.Round, vi t1.Over, vs a5 zs1.length c8, vs a6 zs2.length c10]) u27 rfl size_27 (CellsAt.of_blk (hI.blk (.s .z)) rfl)⟩, ⟨ev_tmp rfl rfl, trivial⟩⟩ ⟨a5, c8, a6, c10, rfl, hI.ext0, hI.fin ⟨(.s .z), .z, trivial⟩⟩
 intro hk_tr_tensor_New_1_1
 refine a_join (α := (Option Addr) × Nat × Nat × NP) (T := tr_tensor_New_1_0) (fun x => [(0, (Value.agg (AType t1))), (1, vs a1 dims1.length c1), (2, vs a2 vals1.length c2), (3, vp b1 0), (6, vp b2 0), (7, vi 0), (8, (Value.pointer (some ⟨(x.2.2.1), 0, none⟩))), (10, (Value.agg (AType t1))), (11, vs a1 dims1.length c1), (12, vs (x.1) zs1.length (x.2.1)), (13, vs a2 vals1.length c2)]) (fun x w => Bun noM F w0 (x.2.2.2) w [MO.box (x.2.2.1) 27 ZTensor, MO.row (cInt .i64) 3 (x.1) (x.2.1) zs1, MO.box b2 27 ZTensor] [Cl.blk b1 23 (AType t1), Cl.sl (cInt .i64) a1 c1 dims1, Cl.sl cGVal a2 c2 vals1]) (fun x w => SN [7] (DM false F (x.2.2.2)) w) ?_ ?_
 ·clear hI; rintro ⟨a5, c8, b3, c14⟩ w7 hI
  try dsimp only at hI ⊢
  unfold tr_tensor_New_1_0
  replace hI := hI.nil cGVal 36 none
  refine la_appendX (ys := vals1) hI .z (hI.crd (.s (.s .z))) hx2 rfl gn rfl rfl u25 info_36 rfl rfl ev_const et ?_
  clear hI; intro a6 c10 c11 w4 hI
  refine a_q rfl gn rfl (fun w' => (y_build (vs := [(0, (Value.agg (AType t1))), (1, vs a5 zs1.length c8), (2, vs a6 zs2.length c10)]) (cs := #[vi t1.Kind, vi t1.Bits, vi t1.Frac, vi t1.Round, vi t1.Over, vs a5 zs1.length c8, vs a6 zs2.length c10]) rfl ⟨rfl, et, ⟨rfl, et, ⟨rfl, et, trivial⟩⟩⟩ (by kernel_rfl))) ?_
  exact a_sub (hk_tr_tensor_New_1_1 (a5, c8, a6, c10, b3, c11) _ (hI.arr (.c .z (.c .z (.c .z (.c .z .n)))) ⟨.z, (.s .z), (.s (.s .z)), trivial⟩)) ⟨rfl, rfl, rfl, rfl, rfl, rfl, rfl, rfl, rfl, rfl, rfl, rfl, rfl, trivial⟩
 intro hk_tr_tensor_New_1_0
 refine a_read rfl gn rfl (fun w' hw' => (y_loadN (l := (lType t1)) rfl et u23 rfl size_23 ((hI.kblk (l := (lType t1)) .z rfl).at_ (SX.any rfl hw')))) (by kernel_rfl) ?_
 refine a_q rfl gn rfl (fun w' => y_move rfl et) ?_
 refine a_q rfl gn rfl (fun w' => y_move rfl et) ?_
 refine a_two ?_ ?_
 ·skip
  replace hI := hI.nil (cInt .i64) 3 none
  refine la_appendX (ys := dims1) hI .z (hI.crd (.s .z)) hx1 rfl gn rfl rfl u24 info_3 rfl rfl ev_const et ?_
  clear hI; intro a5 c8 c9 w3 hI
  refine a_two ?_ ?_
  ·skip
   replace hI := hI.nil cGVal 36 none
   refine la_appendX (ys := vals1) hI .z (hI.crd (.s (.s .z))) hx2 rfl gn rfl rfl u25 info_36 rfl rfl ev_const et ?_
   clear hI; intro a6 c10 c11 w4 hI
   refine a_q rfl gn rfl (fun w' => (y_build (vs := [(0, (Value.agg (AType t1))), (1, vs a5 zs1.length c8), (2, vs a6 zs2.length c10)]) (cs := #[vi t1.Kind, vi t1.Bits, vi t1.Frac, vi t1.Round, vi t1.Over, vs a5 zs1.length c8, vs a6 zs2.length c10]) rfl ⟨rfl, et, ⟨rfl, et, ⟨rfl, et, trivial⟩⟩⟩ (by kernel_rfl))) ?_
   refine la_alloc (cs := ZTensor) hI rfl gn rfl rfl zero_27 rfl ?_
   clear hI; intro b3 c12 w5 hI
   exact a_sub (hk_tr_tensor_New_1_1 (a5, c8, a6, c10, b3, c12) _ (hI.arr (.c (.s .z) (.c .z (.c .z (.c .z .n)))) ⟨.z, (.s .z), (.s (.s .z)), trivial⟩)) ⟨rfl, rfl, rfl, rfl, rfl, rfl, rfl, rfl, rfl, rfl, rfl, rfl, rfl, trivial⟩
  refine la_alloc (cs := ZTensor) hI rfl gn rfl rfl zero_27 rfl ?_
  clear hI; intro b3 c12 w5 hI
  exact a_sub (hk_tr_tensor_New_1_0 (a5, c8, b3, c12) _ (hI.arr (.c .z (.c .z (.c .z .n))) ⟨.z, (.s .z), (.s (.s .z)), trivial⟩)) ⟨rfl, rfl, rfl, rfl, rfl, rfl, rfl, rfl, rfl, rfl, rfl, trivial⟩
 refine la_alloc (cs := ZTensor) hI rfl gn rfl rfl zero_27 rfl ?_
 clear hI; intro b3 c12 w5 hI
 replace hI := hI.nil (cInt .i64) 3 none
 refine la_appendX (ys := dims1) hI .z (hI.crd (.s .z)) hx1 rfl gn rfl rfl u24 info_3 rfl rfl ev_const et ?_
 clear hI; intro a5 c8 c9 w3 hI
 exact a_sub (hk_tr_tensor_New_1_0 (a5, c8, b3, c9) _ (hI.arr (.c (.s .z) (.c .z (.c .z .n))) ⟨.z, (.s .z), (.s (.s .z)), trivial⟩)) ⟨rfl, rfl, rfl, rfl, rfl, rfl, rfl, rfl, rfl, rfl, rfl, trivial⟩
theorem c_fixed_Neg_1 (F : NP) (w0 : World) (hF : ∀ k, F k → k < w0.heap.size) (a1 : GType) (x1 : Int) (a2 : Int) (hc : AllCl [] F w0) (r : Int × Int)
  (h : m_fixed_Neg_1 a1 x1 a2 = some r) :
  Calls Tryz.prog 143 #[(Value.agg (AType a1)), vi x1, vi a2] w0 fun e w => e = .returned (Value.tuple #[vi r.1, vi r.2]) ∧ Ext w0 w ∧ AllCl [] F w := by
 refine enterK Tryz.func143 rfl Tryz.ntmps143 rfl ?_
 have hI := Bun.start hF hc
 clear hc
 rw [m_fixed_Neg_1] at h
 refine sr (l_box (v := (Value.agg (AType a1))) (cs := (AType a1)) hI gn rfl rfl et rfl ?_)
 clear hI; intro b1 c1 w1 hI
 obtain ⟨c2, hI⟩ := hI.relBox .z
 refine sac ?_
 refine sac ?_
 refine nk (sr (sm ?_))
 refine sq (y_neg rfl et) ?_
 refine sa ?_
 refine sac ?_
 refine nk (c_ret ?_)
 obtain rfl := some_inj h
 exact q_ret (vs := [(vi (wi64 (-x1))), vi 0]) Tryz.results143 ⟨ev_tmp rfl rfl, ⟨ev_tmp rfl rfl, trivial⟩⟩ (fq hI trivial)
theorem c_fixed_check (F : NP) (w0 : World) (hF : ∀ k, F k → k < w0.heap.size) (t1 : GType) (operands1 : List GVal) (a1 : Option Addr) (c1 : Nat) (hc : AllCl [Cl.sl cGVal a1 c1 operands1] F w0) (r : Int)
  (h : m_fixed_check t1 operands1 = some r) :
  Calls Tryz.prog 153 #[(Value.agg (AType t1)), vs a1 operands1.length c1] w0 fun e w => e = .returned (vi r) ∧ Ext w0 w ∧ AllCl [] F w := by
 refine enterK Tryz.func153 rfl Tryz.ntmps153 rfl ?_
 have hI := Bun.start hF hc
 clear hc
 rw [m_fixed_check] at h
 refine sr (l_box (v := (Value.agg (AType t1))) (cs := (AType t1)) hI gn rfl rfl et rfl ?_)
 clear hI; intro b1 c2 w1 hI
 obtain ⟨c3, hI⟩ := hI.relBox .z
 refine sac ?_
 refine nk (c_seq (sr (sq (y_loadN (l := (lType t1)) rfl et u23 rfl size_23 (hI.kblk (l := (lType t1)) .z rfl).1) ?_)))
 obtain ⟨r1, hx1, h⟩ := bnd_some h
 refine s_call gn rfl (r_callF (vs := [(Value.agg (AType t1))]) rfl ok_94 ⟨et, trivial⟩) (Calls.mono (c_fixed_ValidateType (Dj F c3) w1 hI.lt t1 trivial r1 hx1) ?_)
 rintro _ w2 ⟨rfl, hx2, hl1⟩
 refine ⟨_, rfl, ?_⟩
 replace hI := (hI.ext hx2)
 refine sa ?_
 refine nk (sr (sm ?_))
 refine sq (y_neq rfl et ev_const) ?_
 refine nk (cif h et (fun hb h => ?_) (fun hb h => ?_))
 ·refine sr (sm ?_)
  refine sa ?_
  refine nk (c_ret ?_)
  obtain rfl := some_inj h
  exact q_ret (vs := [vi r1]) Tryz.results153 ⟨ev_tmp rfl rfl, trivial⟩ (fq hI trivial)
 refine c_skip (k_same (c_seq (sr (sm ?_))))
 refine sq (y_lenl rfl u25 et) ?_
 refine sq (y_move rfl ev_const) ?_
 refine nk (c_block (c_loop (α := Nat × Int) (fun x => fun w => ∃ C, Bun noM F w0 C w [] [Cl.blk b1 23 (AType t1), Cl.sl cGVal a1 c1 operands1] ∧ m_fixed_check_l1 operands1 t1 (x.1) (x.2) = some r) (fun x _ => x.1) (fun x => [(2, vp b1 0), (13, vs a1 operands1.length c1), (14, vi (operands1.length : Int)), (15, vi (x.2))]) (fu, 0) ⟨_, hI.arr .n ⟨.z, (.s .z), trivial⟩, h⟩ ⟨rfl, rfl, rfl, rfl, trivial⟩ ?_))
 clear h hI; rintro ⟨fuel1, i1⟩ w3 ⟨c4, hI, h⟩
 dsimp only at hI h
 rcases fuel1 with _ | fuel1
 ·rw [m_fixed_check_l1] at h; cases h
 rw [m_fixed_check_l1] at h
 refine c_sub (e := [(2, vp b1 0), (13, vs a1 operands1.length c1), (14, vi (operands1.length : Int)), (15, vi i1)]) ⟨rfl, rfl, rfl, rfl, trivial⟩ ?_
 refine sr (sq (y_lss rfl et et) ?_)
 refine nk (c_seq (cif h et (fun hb h => ?_) (fun hb h => ?_)))
 ·refine c_skip (k_same (c_seq (c_block (sr ?_))))
  obtain ⟨e1, hx3, h⟩ := bnd_some h
  obtain ⟨ad1, cs1, hA1, hr1, hq1⟩ := hI.clat (.s .z) hx3
  obtain rfl : cs1 = (lVal e1) := hr1
  refine sq (y_indexAddr rfl u25 size_36 et et (lat_bd hx3) hA1) ?_
  refine sq (y_loadN (l := (lVal e1)) rfl et u36 rfl size_36 hq1.1) ?_
  refine l_alloc (cs := #[vi 0, vi 0]) hI gn rfl rfl zero_36 rfl ?_
  clear hI; intro b2 c5 w4 hI
  refine l_store (new := (lVal e1)) (cs' := (AVal e1)) hI .z gn rfl rfl et et rfl size_36 rfl rfl rfl ?_
  clear hI; intro c6 w5 hI
  refine nk (sr (sq (y_loadN (l := (lType t1)) rfl et u23 rfl size_23 (hI.kblk (l := (lType t1)) .z rfl).1) ?_))
  refine sq (y_loadN (l := (lVal e1)) rfl et u36 rfl size_36 (CellsAt.of_blk (hI.blk .z) rfl)) ?_
  obtain ⟨r2, hx4, h⟩ := bnd_some h
  refine s_call gn rfl (r_callF (vs := [(Value.agg (AType t1)), (Value.agg (AVal e1))]) rfl ok_89 ⟨et, ⟨et, trivial⟩⟩) (Calls.mono (c_fixed_Valid (Dj F c6) w5 hI.lt t1 e1 trivial r2 hx4) ?_)
  rintro _ w6 ⟨rfl, hx5, hl2⟩
  refine ⟨_, rfl, ?_⟩
  replace hI := (hI.ext hx5)
  refine sq (y_not rfl et) ?_
  refine nk (cif h et (fun hb h => ?_) (fun hb h => ?_))
  ·refine sr (sac ?_)
   refine nk (c_ret ?_)
   obtain rfl := some_inj h
   exact q_ret (vs := [vi 1]) Tryz.results153 ⟨ev_tmp rfl rfl, trivial⟩ (fq hI trivial)
  refine c_skip (k_same (c_region rfl ?_))
  refine sq (y_add rfl et ev_const) ?_
  refine sm ?_
  refine s_nil ?_
  exact k_loop (fuel1, wi64 (i1 + 1)) ⟨rfl, rfl, rfl, rfl, trivial⟩ ⟨_, hI.arr .n ⟨.z, (.s .z), trivial⟩, h⟩ (Nat.lt_succ_self _)
 refine c_exit ?_
 refine k_in ?_
 refine k_same (sr (sac ?_))
 refine nk (c_ret ?_)
 obtain rfl := some_inj h
 exact q_ret (vs := [vi 0]) Tryz.results153 ⟨ev_tmp rfl rfl, trivial⟩ (fq hI trivial)
theorem c_round_Narrow (F : NP) (w0 : World) (hF : ∀ k, F k → k < w0.heap.size) (n1 : Int) (bits1 : Int) (over1 : Int) (hc : AllCl [] F w0) (r : Int × Bool)
  (h : m_round_Narrow n1 bits1 over1 = some r) :
  Calls Tryz.prog 163 #[vi n1, vi bits1, vi over1] w0 fun e w => e = .returned (Value.tuple #[vi r.1, vb r.2]) ∧ Ext w0 w ∧ AllCl [] F w := by
 refine enterK Tryz.func163 rfl Tryz.ntmps163 rfl ?_
 have hI := Bun.start hF hc
 clear hc
 rw [m_round_Narrow] at h
 refine sr (sac ?_)
 refine sac ?_
 refine nk (c_seq (sr (sm ?_)))
 obtain ⟨r1, hx1, h⟩ := bnd_some h
 refine s_call gn rfl (r_callF (vs := [vi bits1]) rfl ok_138 ⟨et, trivial⟩) (Calls.mono (c_round_valid (Dj F noM) w0 hI.lt bits1 trivial r1 hx1) ?_)
 rintro _ w1 ⟨rfl, hx2, hl1⟩
 refine ⟨_, rfl, ?_⟩
 replace hI := (hI.ext hx2)
 refine sq (y_not rfl et) ?_
 refine sm ?_
 refine s_gval (g_false rfl rfl rfl rfl) rfl (fun hc => y_move rfl et) ?_
 refine s_gval (g_false rfl rfl rfl rfl) rfl (fun hc => y_neq rfl (ev_gv et hc) ev_const) ?_
 refine s_gval (g_false rfl rfl rfl rfl) rfl (fun hc => y_move rfl (ev_gv et hc)) ?_
 refine s_gval (g_true2 rfl rfl rfl rfl) rfl (fun hc => y_move rfl et) ?_
 refine s_gval (g_true2 rfl rfl rfl rfl) rfl (fun hc => y_neq rfl (ev_gv et hc) ev_const) ?_
 refine s_gval (g_false rfl rfl rfl rfl) rfl (fun hc => y_and2 rfl hc et et) ?_
 refine sq (y_or rfl et et) ?_
 refine nk (cif h et (fun hb h => ?_) (fun hb h => ?_))
 ·refine sr (sac ?_)
  refine sac ?_
  refine nk (c_ret ?_)
  obtain rfl := some_inj h
  exact q_ret (vs := [vi 0, vb false]) Tryz.results163 ⟨ev_tmp rfl rfl, ⟨ev_tmp rfl rfl, trivial⟩⟩ (fq hI trivial)
 refine c_skip (k_same (sr (sm ?_)))
 obtain ⟨r2, hx3, h⟩ := bnd_some h
 refine s_call gn rfl (r_callF (vs := [vi bits1]) rfl ok_115 ⟨et, trivial⟩) (Calls.mono (c_round_MinInt (Dj F noM) w1 hI.lt bits1 trivial r2 hx3) ?_)
 rintro _ w2 ⟨rfl, hx4, hl2⟩
 refine ⟨_, rfl, ?_⟩
 replace hI := (hI.ext hx4)
 refine sm ?_
 obtain ⟨r3, hx5, h⟩ := bnd_some h
 refine s_call gn rfl (r_callF (vs := [vi bits1]) rfl ok_116 ⟨et, trivial⟩) (Calls.mono (c_round_MaxInt (Dj F noM) w2 hI.lt bits1 trivial r3 hx5) ?_)
 rintro _ w3 ⟨rfl, hx6, hl3⟩
 refine ⟨_, rfl, ?_⟩
 replace hI := (hI.ext hx6)
 refine sa ?_
 refine sa ?_
 refine nk (c_seq (c_block (sr (sm ?_))))
 refine sm ?_
 refine sq (y_geq rfl et et) ?_
 refine sm ?_
 refine s_gval (g_true rfl rfl rfl rfl) rfl (fun hc => y_move rfl et) ?_
 refine s_gval (g_true rfl rfl rfl rfl) rfl (fun hc => y_move rfl et) ?_
 refine s_gval (g_true rfl rfl rfl rfl) rfl (fun hc => y_leq rfl (ev_gv et hc) (ev_gv et hc)) ?_
 refine sq (y_and rfl et et) ?_
 refine sa ?_
 refine s_nil ?_
 refine k_next (e := [(0, vi n1), (1, vi bits1), (2, vi over1), (8, vi r2), (9, vi r3), (26, (vb ((decide (r2 ≤ n1)) && (decide (n1 ≤ r3)))))]) ⟨rfl, rfl, rfl, rfl, rfl, rfl, trivial⟩ ?_
 refine cif h et (fun hb h => ?_) (fun hb h => ?_)
 ·refine sr (sm ?_)
  refine sa ?_
  refine sac ?_
  refine nk (c_ret ?_)
  obtain rfl := some_inj h
  exact q_ret (vs := [vi n1, vb false]) Tryz.results163 ⟨ev_tmp rfl rfl, ⟨ev_tmp rfl rfl, trivial⟩⟩ (fq hI trivial)
 refine sr (sm ?_)
 refine sq (y_eql rfl et ev_const) ?_
 refine sm ?_
 refine s_gval (g_true rfl rfl rfl rfl) rfl (fun hc => y_move rfl et) ?_
 refine s_gval (g_true rfl rfl rfl rfl) rfl (fun hc => y_move rfl et) ?_
 refine s_gval (g_true rfl rfl rfl rfl) rfl (fun hc => y_lss rfl (ev_gv et hc) (ev_gv et hc)) ?_
 refine sq (y_and rfl et et) ?_
 refine sa ?_
 refine nk (cif h et (fun hb h => ?_) (fun hb h => ?_))
 ·refine sr (sm ?_)
  refine sa ?_
  refine sac ?_
  refine nk (c_ret ?_)
  obtain rfl := some_inj h
  exact q_ret (vs := [vi r2, vb true]) Tryz.results163 ⟨ev_tmp rfl rfl, ⟨ev_tmp rfl rfl, trivial⟩⟩ (fq hI trivial)
 refine sr (sm ?_)
 refine sq (y_eql rfl et ev_const) ?_
 refine sa ?_
 refine nk (cif h et (fun hb h => ?_) (fun hb h => ?_))
 ·refine sr (sm ?_)
  refine sa ?_
  refine sac ?_
  refine nk (c_ret ?_)
  obtain rfl := some_inj h
  exact q_ret (vs := [vi r3, vb true]) Tryz.results163 ⟨ev_tmp rfl rfl, ⟨ev_tmp rfl rfl, trivial⟩⟩ (fq hI trivial)
 refine c_skip (k_same (sr (sm ?_)))
 refine sq (y_sub rfl ev_const et) ?_
 refine sq (y_conv rfl (by rw [u3]; rfl) u128 et) ?_
 refine sa ?_
 refine nk (sr (sm ?_))
 refine sq (y_conv rfl (by rw [u2]; rfl) u120 et) ?_
 refine sm ?_
 obtain ⟨ho1, h⟩ := chk_some h
 refine sq (y_shl rfl et et ho1) ?_
 refine sq (y_conv rfl (by rw [u120]; rfl) u2 et) ?_
 refine sm ?_
 refine sq (y_shr rfl et et ho1) ?_
 refine sa ?_
 refine sac ?_
 refine s_nil ?_
 refine k_next (e := [(6, (vi (Int.fdiv (wi64 (wu64 ((wu64 n1) * 2 ^ (min (Int.toNat (wu64 (wi64 (64 - bits1)))) 64)))) (2 ^ (min (Int.toNat (wu64 (wi64 (64 - bits1)))) 64))))), (7, vb true)]) ⟨rfl, rfl, trivial⟩ ?_
 refine c_ret ?_
 obtain rfl := some_inj h
 exact q_ret (vs := [(vi (Int.fdiv (wi64 (wu64 ((wu64 n1) * 2 ^ (min (Int.toNat (wu64 (wi64 (64 - bits1)))) 64)))) (2 ^ (min (Int.toNat (wu64 (wi64 (64 - bits1)))) 64)))), vb true]) Tryz.results163 ⟨ev_tmp rfl rfl, ⟨ev_tmp rfl rfl, trivial⟩⟩ (fq hI trivial)
theorem c_fixed_narrow (F : NP) (w0 : World) (hF : ∀ k, F k → k < w0.heap.size) (t1 : GType) (n1 : Int) (hc : AllCl [] F w0) (r : GVal)
  (h : m_fixed_narrow t1 n1 = some r) :
  Calls Tryz.prog 155 #[(Value.agg (AType t1)), vi n1] w0 fun e w => e = .returned (Value.agg (AVal r)) ∧ Ext w0 w ∧ AllCl [] F w := by
 refine enterK Tryz.func155 rfl Tryz.ntmps155 rfl ?_
 have hI := Bun.start hF hc
 clear hc
 rw [m_fixed_narrow] at h
 refine sr (l_box (v := (Value.agg (AType t1))) (cs := (AType t1)) hI gn rfl rfl et rfl ?_)
 clear hI; intro b1 c1 w1 hI
 obtain ⟨c2, hI⟩ := hI.relBox .z
 refine l_alloc (cs := #[vi 0, vi 0]) hI gn rfl rfl zero_36 rfl ?_
 clear hI; intro b2 c3 w2 hI
 refine nk (sr (sm ?_))
 refine sq (y_fieldAddr rfl et u23 rfl size_3 rfl) ?_
 refine sq (y_load1 (v := (vi t1.Bits)) rfl et u3 rfl (hI.kblk (l := [vi t1.Bits]) .z rfl).1) ?_
 refine sq (y_fieldAddr rfl et u23 rfl size_3 rfl) ?_
 refine sq (y_load1 (v := (vi t1.Over)) rfl et u3 rfl (hI.kblk (l := [vi t1.Over]) .z rfl).1) ?_
 obtain ⟨r1, hx1, h⟩ := bnd_some h
 refine s_call gn rfl (r_callF (vs := [vi n1, vi t1.Bits, vi t1.Over]) rfl ok_163 ⟨et, ⟨et, ⟨et, trivial⟩⟩⟩) (Calls.mono (c_round_Narrow (Dj F c3) w2 hI.lt n1 t1.Bits t1.Over trivial r1 hx1) ?_)
 rintro _ w3 ⟨rfl, hx2, hl1⟩
 refine ⟨_, rfl, ?_⟩
 replace hI := (hI.ext hx2)
 refine sm ?_
 refine sq (y_extract rfl et rfl) ?_
 refine sq (y_extract rfl et rfl) ?_
 refine sa ?_
 refine sa ?_
 refine nk (sr (sm ?_))
 refine sq (y_build (vs := [(0, vi r1.1), (1, vi 1)]) (cs := #[vi r1.1, vi 1]) rfl ⟨rfl, et, ⟨rfl, ev_const, trivial⟩⟩ (by kernel_rfl)) ?_
 refine l_store (new := [vi r1.1, vi 1]) (cs' := #[vi r1.1, vi 1]) hI .z gn rfl rfl et et rfl size_36 rfl rfl rfl ?_
 clear hI; intro c4 w4 hI
 refine nk (c_ret ?_)
 obtain rfl := some_inj h
 exact q_ret (vs := [(Value.agg #[vi r1.1, vi 1])]) Tryz.results155 ⟨⟨_, ev_tmp rfl rfl, load_agg (l := [vi r1.1, vi 1]) u36 rfl size_36 (CellsAt.of_blk (hI.blk .z) rfl)⟩, trivial⟩ (fq hI trivial)
theorem c_fixed_apply (F : NP) (w0 : World) (hF : ∀ k, F k → k < w0.heap.size) (op1 : Gfixed_operation) (t1 : GType) (a1 : GVal) (b1 : GVal) (fv1 : Value) (hc : AllCl [clFn_k1 fv1 op1.run] F w0) (r : GVal × Int)
  (h : m_fixed_apply op1 t1 a1 b1 = some r) :
  Calls Tryz.prog 142 #[(Value.agg #[fv1]), (Value.agg (AType t1)), (Value.agg (AVal a1)), (Value.agg (AVal b1))] w0 fun e w => e = .returned (Value.tuple #[(Value.agg (AVal r.1)), vi r.2]) ∧ Ext w0 w ∧ AllCl [] F w := by
 refine enterK Tryz.func142 rfl Tryz.ntmps142 rfl ?_
 have hI := Bun.start hF hc
 clear hc
 rw [m_fixed_apply] at h
 refine sr (l_box (v := (Value.agg #[fv1])) (cs := #[fv1]) hI gn rfl rfl et rfl ?_)
 clear hI; intro b2 c1 w1 hI
 obtain ⟨c2, hI⟩ := hI.relBox .z
 refine l_box (v := (Value.agg (AType t1))) (cs := (AType t1)) hI gn rfl rfl et rfl ?_
 clear hI; intro b3 c3 w2 hI
 obtain ⟨c4, hI⟩ := hI.relBox .z
 refine l_box (v := (Value.agg (AVal a1))) (cs := (AVal a1)) hI gn rfl rfl et rfl ?_
 clear hI; intro b4 c5 w3 hI
 obtain ⟨c6, hI⟩ := hI.relBox .z
 refine l_box (v := (Value.agg (AVal b1))) (cs := (AVal b1)) hI gn rfl rfl et rfl ?_
 clear hI; intro b5 c7 w4 hI
 obtain ⟨c8, hI⟩ := hI.relBox .z
 refine l_alloc (cs := #[vi 0, vi 0]) hI gn rfl rfl zero_36 rfl ?_
 clear hI; intro b6 c9 w5 hI
 refine sac ?_
 refine nk (c_seq (sr (sq (y_loadN (l := (lType t1)) rfl et u23 rfl size_23 (hI.kblk (l := (lType t1)) (.s (.s .z)) rfl).1) ?_)))
 refine sq (y_loadN (l := (lVal a1)) rfl et u36 rfl size_36 (hI.kblk (l := (lVal a1)) (.s .z) rfl).1) ?_
 refine sq (y_loadN (l := (lVal b1)) rfl et u36 rfl size_36 (hI.kblk (l := (lVal b1)) .z rfl).1) ?_
 refine l_lit (c := cGVal) (xs := ([a1, b1] : List GVal)) (vs := [(0, (Value.agg (AVal a1))), (1, (Value.agg (AVal b1)))]) (cs := #[vi a1.N, vi a1.D, vi b1.N, vi b1.D]) (css := [(lVal a1), (lVal b1)]) hI gn rfl rfl u25 info_36 rfl ⟨rfl, et, ⟨rfl, et, trivial⟩⟩ (by kernel_rfl) ⟨rfl, ⟨rfl, trivial⟩⟩ rfl rfl rfl ?_
 clear hI; intro b7 c10 w6 hI
 obtain ⟨r1, hx1, h⟩ := bnd_some h
 refine s_call gn rfl (r_callF (vs := [(Value.agg (AType t1)), vs (some ⟨b7, 0, none⟩) ([a1, b1] : List GVal).length 2]) rfl ok_153 ⟨et, ⟨et, trivial⟩⟩) (Calls.mono (c_fixed_check noM w6 (fun _ k => k.elim) t1 ([a1, b1] : List GVal) (some ⟨b7, 0, none⟩) 2 ⟨hI.lend .z, trivial⟩ r1 hx1) ?_)
 rintro _ w7 ⟨rfl, hx2, hl1⟩
 refine ⟨_, rfl, ?_⟩
 replace hI := (hI.ext hx2)
 refine sa ?_
 refine nk (sr (sm ?_))
 refine sq (y_neq rfl et ev_const) ?_
 refine nk (cif h et (fun hb h => ?_) (fun hb h => ?_))
 ·refine sr (sq (y_build (vs := []) (cs := #[vi 0, vi 0]) rfl trivial (by kernel_rfl)) ?_)
  refine sm ?_
  refine l_store (new := [vi 0, vi 0]) (cs' := #[vi 0, vi 0]) hI (.s .z) gn rfl rfl et et rfl size_36 rfl rfl rfl ?_
  clear hI; intro c11 w8 hI
  refine sa ?_
  refine nk (c_ret ?_)
  obtain rfl := some_inj h
  exact q_ret (vs := [(Value.agg #[vi 0, vi 0]), vi r1]) Tryz.results142 ⟨⟨_, ev_tmp rfl rfl, load_agg (l := [vi 0, vi 0]) u36 rfl size_36 (CellsAt.of_blk (hI.blk (.s .z)) rfl)⟩, ⟨ev_tmp rfl rfl, trivial⟩⟩ (fq hI trivial)
 refine c_skip (k_same (sr (sq (y_fieldAddr rfl et u136 rfl size_134 rfl) ?_)))
 refine sq (y_load1 (v := fv1) rfl et u134 rfl (hI.kblk (l := [fv1]) (.s (.s (.s .z))) rfl).1) ?_
 refine sq (y_loadN (l := (lType t1)) rfl et u23 rfl size_23 (hI.kblk (l := (lType t1)) (.s (.s .z)) rfl).1) ?_
 refine sq (y_fieldAddr rfl et u36 rfl size_2 rfl) ?_
 refine sq (y_load1 (v := (vi a1.N)) rfl et u2 rfl (hI.kblk (l := [vi a1.N]) (.s .z) rfl).1) ?_
 refine sq (y_fieldAddr rfl et u36 rfl size_2 rfl) ?_
 refine sq (y_load1 (v := (vi b1.N)) rfl et u2 rfl (hI.kblk (l := [vi b1.N]) .z rfl).1) ?_
 obtain ⟨r2, hx3, h⟩ := bnd_some h
 refine s_callV (args := [(Value.agg (AType t1)), vi a1.N, vi b1.N]) gn rfl rfl et ⟨et, ⟨et, ⟨et, trivial⟩⟩⟩ (CallV.mono ((hI.get (.s (.s (.s (.s .z))))).2 (Dj F c10) w7 (Sp.of_ext .rfl') hI.lt t1 a1.N b1.N r2 trivial hx3) ?_)
 rintro _ w9 ⟨rfl, hx4, hl2⟩
 refine ⟨_, rfl, ?_⟩
 replace hI := (hI.ext hx4)
 refine sm ?_
 refine sq (y_extract rfl et rfl) ?_
 refine sq (y_extract rfl et rfl) ?_
 refine sa ?_
 refine sa ?_
 refine s_nil ?_
 refine k_next (e := [(5, vp b3 0), (8, vp b6 0), (11, vi r2.1), (12, vi r2.2)]) ⟨rfl, rfl, rfl, rfl, trivial⟩ ?_
 refine c_seq (sr (sm ?_))
 refine sq (y_neq rfl et ev_const) ?_
 refine nk (cif h et (fun hb h => ?_) (fun hb h => ?_))
 ·refine sr (sq (y_build (vs := []) (cs := #[vi 0, vi 0]) rfl trivial (by kernel_rfl)) ?_)
  refine sm ?_
  refine l_store (new := [vi 0, vi 0]) (cs' := #[vi 0, vi 0]) hI (.s .z) gn rfl rfl et et rfl size_36 rfl rfl rfl ?_
  clear hI; intro c12 w10 hI
  refine sa ?_
  refine nk (c_ret ?_)
  obtain rfl := some_inj h
  exact q_ret (vs := [(Value.agg #[vi 0, vi 0]), vi r2.2]) Tryz.results142 ⟨⟨_, ev_tmp rfl rfl, load_agg (l := [vi 0, vi 0]) u36 rfl size_36 (CellsAt.of_blk (hI.blk (.s .z)) rfl)⟩, ⟨ev_tmp rfl rfl, trivial⟩⟩ (fq hI trivial)
 refine c_skip (k_same (sr (sq (y_loadN (l := (lType t1)) rfl et u23 rfl size_23 (hI.kblk (l := (lType t1)) (.s (.s .z)) rfl).1) ?_)))
 refine sm ?_
 obtain ⟨r3, hx5, h⟩ := bnd_some h
 refine s_call gn rfl (r_callF (vs := [(Value.agg (AType t1)), vi r2.1]) rfl ok_155 ⟨et, ⟨et, trivial⟩⟩) (Calls.mono (c_fixed_narrow (Dj F c10) w9 hI.lt t1 r2.1 trivial r3 hx5) ?_)
 rintro _ w11 ⟨rfl, hx6, hl3⟩
 refine ⟨_, rfl, ?_⟩
 replace hI := (hI.ext hx6)
 refine l_store (new := (lVal r3)) (cs' := (AVal r3)) hI (.s .z) gn rfl rfl et et rfl size_36 rfl rfl rfl ?_
 clear hI; intro c13 w12 hI
 refine sac ?_
 refine nk (c_ret ?_)
 obtain rfl := some_inj h
 exact q_ret (vs := [(Value.agg (AVal r3)), vi 0]) Tryz.results142 ⟨⟨_, ev_tmp rfl rfl, load_agg (l := (lVal r3)) u36 rfl size_36 (CellsAt.of_blk (hI.blk (.s .z)) rfl)⟩, ⟨ev_tmp rfl rfl, trivial⟩⟩ (fq hI trivial)
theorem c_fixed_Neg (F : NP) (w0 : World) (hF : ∀ k, F k → k < w0.heap.size) (t1 : GType) (a1 : GVal) (hc : AllCl [] F w0) (r : GVal × Int)
  (h : m_fixed_Neg t1 a1 = some r) :
  Calls Tryz.prog 124 #[(Value.agg (AType t1)), (Value.agg (AVal a1))] w0 fun e w => e = .returned (Value.tuple #[(Value.agg (AVal r.1)), vi r.2]) ∧ Ext w0 w ∧ AllCl [] F w := by
 refine enterK Tryz.func124 rfl Tryz.ntmps124 rfl ?_
 have hI := Bun.start hF hc
 clear hc
 rw [m_fixed_Neg] at h
 refine sr (l_box (v := (Value.agg (AType t1))) (cs := (AType t1)) hI gn rfl rfl et rfl ?_)
 clear hI; intro b1 c1 w1 hI
 obtain ⟨c2, hI⟩ := hI.relBox .z
 refine l_box (v := (Value.agg (AVal a1))) (cs := (AVal a1)) hI gn rfl rfl et rfl ?_
 clear hI; intro b2 c3 w2 hI
 obtain ⟨c4, hI⟩ := hI.relBox .z
 refine l_alloc (cs := #[vi 0, vi 0]) hI gn rfl rfl zero_36 rfl ?_
 clear hI; intro b3 c5 w3 hI
 refine sac ?_
 refine nk (sr (sq (y_build (vs := [(0, (Value.func (.func 143) #[] #[]))]) (cs := #[(Value.func (.func 143) #[] #[])]) rfl ⟨rfl, ev_func, trivial⟩ (by kernel_rfl)) ?_))
 refine sq (y_loadN (l := (lType t1)) rfl et u23 rfl size_23 (hI.kblk (l := (lType t1)) (.s .z) rfl).1) ?_
 refine sq (y_loadN (l := (lVal a1)) rfl et u36 rfl size_36 (hI.kblk (l := (lVal a1)) .z rfl).1) ?_
 refine sq (y_loadN (l := (lVal a1)) rfl et u36 rfl size_36 (hI.kblk (l := (lVal a1)) .z rfl).1) ?_
 have hI := hI.add (c := clFn_k1 (Value.func (.func 143) #[] #[]) m_fixed_Neg_1) ⟨rfl, fun D' w' hs hl x_1 x_2 x_3 r k h => CallV.fn (cap := []) ok_143 (c_fixed_Neg_1 D' w' hl x_1 x_2 x_3 trivial r h)⟩
 obtain ⟨r1, hx1, h⟩ := bnd_some h
 refine s_call gn rfl (r_callF (vs := [(Value.agg #[(Value.func (.func 143) #[] #[])]), (Value.agg (AType t1)), (Value.agg (AVal a1)), (Value.agg (AVal a1))]) rfl ok_142 ⟨et, ⟨et, ⟨et, ⟨et, trivial⟩⟩⟩⟩) (Calls.mono (c_fixed_apply (Dj F c5) w3 hI.lt (⟨m_fixed_Neg_1⟩ : Gfixed_operation) t1 a1 a1 (Value.func (.func 143) #[] #[]) ⟨(hI.get .z), trivial⟩ r1 hx1) ?_)
 rintro _ w4 ⟨rfl, hx2, hl1⟩
 refine ⟨_, rfl, ?_⟩
 replace hI := (hI.ext hx2)
 refine sq (y_extract rfl et rfl) ?_
 refine sq (y_extract rfl et rfl) ?_
 refine l_store (new := (lVal r1.1)) (cs' := (AVal r1.1)) hI .z gn rfl rfl et et rfl size_36 rfl rfl rfl ?_
 clear hI; intro c6 w5 hI
 refine sa ?_
 refine nk (c_ret ?_)
 obtain rfl := some_inj h
 exact q_ret (vs := [(Value.agg (AVal r1.1)), vi r1.2]) Tryz.results124 ⟨⟨_, ev_tmp rfl rfl, load_agg (l := (lVal r1.1)) u36 rfl size_36 (CellsAt.of_blk (hI.blk .z) rfl)⟩, ⟨ev_tmp rfl rfl, trivial⟩⟩ (fq hI trivial)
theorem c_value_negate (F : NP) (w0 : World) (hF : ∀ k, F k → k < w0.heap.size) (t1 : GType) (a1 : GVal) (hc : AllCl [] F w0) (r : GVal × Int)
  (h : m_value_negate t1 a1 = some r) :
  Calls Tryz.prog 100 #[(Value.agg (AType t1)), (Value.agg (AVal a1))] w0 fun e w => e = .returned (Value.tuple #[(Value.agg (AVal r.1)), vi r.2]) ∧ Ext w0 w ∧ AllCl [] F w := by
 refine enterK Tryz.func100 rfl Tryz.ntmps100 rfl ?_
 have hI := Bun.start hF hc
 clear hc
 rw [m_value_negate] at h
 refine sr (l_box (v := (Value.agg (AType t1))) (cs := (AType t1)) hI gn rfl rfl et rfl ?_)
 clear hI; intro b1 c1 w1 hI
 obtain ⟨c2, hI⟩ := hI.relBox .z
 refine l_box (v := (Value.agg (AVal a1))) (cs := (AVal a1)) hI gn rfl rfl et rfl ?_
 clear hI; intro b2 c3 w2 hI
 obtain ⟨c4, hI⟩ := hI.relBox .z
 refine l_alloc (cs := #[vi 0, vi 0]) hI gn rfl rfl zero_36 rfl ?_
 clear hI; intro b3 c5 w3 hI
 refine sac ?_
 refine nk (c_seq (sr (sq (y_fieldAddr rfl et u23 rfl size_3 rfl) ?_)))
 refine sq (y_load1 (v := (vi t1.Kind)) rfl et u3 rfl (hI.kblk (l := [vi t1.Kind]) (.s .z) rfl).1) ?_
 refine sq (y_eql rfl et ev_const) ?_
 refine nk (cif h et (fun hb h => ?_) (fun hb h => ?_))
 ·refine sr (sq (y_loadN (l := (lType t1)) rfl et u23 rfl size_23 (hI.kblk (l := (lType t1)) (.s .z) rfl).1) ?_)
  refine sq (y_loadN (l := (lVal a1)) rfl et u36 rfl size_36 (hI.kblk (l := (lVal a1)) .z rfl).1) ?_
  obtain ⟨r1, hx1, h⟩ := bnd_some h
  refine s_call gn rfl (r_callF (vs := [(Value.agg (AType t1)), (Value.agg (AVal a1))]) rfl ok_124 ⟨et, ⟨et, trivial⟩⟩) (Calls.mono (c_fixed_Neg (Dj F c5) w3 hI.lt t1 a1 trivial r1 hx1) ?_)
  rintro _ w4 ⟨rfl, hx2, hl1⟩
  refine ⟨_, rfl, ?_⟩
  replace hI := (hI.ext hx2)
  refine sq (y_extract rfl et rfl) ?_
  refine sq (y_extract rfl et rfl) ?_
  refine l_store (new := (lVal r1.1)) (cs' := (AVal r1.1)) hI .z gn rfl rfl et et rfl size_36 rfl rfl rfl ?_
  clear hI; intro c6 w5 hI
  refine sa ?_
  refine nk (c_ret ?_)
  obtain rfl := some_inj h
  exact q_ret (vs := [(Value.agg (AVal r1.1)), vi r1.2]) Tryz.results100 ⟨⟨_, ev_tmp rfl rfl, load_agg (l := (lVal r1.1)) u36 rfl size_36 (CellsAt.of_blk (hI.blk .z) rfl)⟩, ⟨ev_tmp rfl rfl, trivial⟩⟩ (fq hI trivial)
 refine c_skip (k_same (sr (sq (y_fieldAddr rfl et u36 rfl size_2 rfl) ?_)))
 refine sq (y_load1 (v := (vi a1.N)) rfl et u2 rfl (hI.kblk (l := [vi a1.N]) .z rfl).1) ?_
 refine sq (y_neg rfl et) ?_
 refine sq (y_fieldAddr rfl et u36 rfl size_2 rfl) ?_
 refine sq (y_load1 (v := (vi a1.D)) rfl et u2 rfl (hI.kblk (l := [vi a1.D]) .z rfl).1) ?_
 refine sq (y_build (vs := [(0, (vi (wi64 (-a1.N)))), (1, vi a1.D)]) (cs := #[(vi (wi64 (-a1.N))), vi a1.D]) rfl ⟨rfl, et, ⟨rfl, et, trivial⟩⟩ (by kernel_rfl)) ?_
 refine l_store (new := [(vi (wi64 (-a1.N))), vi a1.D]) (cs' := #[(vi (wi64 (-a1.N))), vi a1.D]) hI .z gn rfl rfl et et rfl size_36 rfl rfl rfl ?_
 clear hI; intro c7 w6 hI
 refine sac ?_
 refine nk (c_ret ?_)
 obtain rfl := some_inj h
 exact q_ret (vs := [(Value.agg #[(vi (wi64 (-a1.N))), vi a1.D]), vi 0]) Tryz.results100 ⟨⟨_, ev_tmp rfl rfl, load_agg (l := [(vi (wi64 (-a1.N))), vi a1.D]) u36 rfl size_36 (CellsAt.of_blk (hI.blk .z) rfl)⟩, ⟨ev_tmp rfl rfl, trivial⟩⟩ (fq hI trivial)
theorem c_frac_order (F : NP) (w0 : World) (hF : ∀ k, F k → k < w0.heap.size) (a1 : Int) (b1 : Int) (hc : AllCl [] F w0) (r : Int)
  (h : m_frac_order a1 b1 = some r) :
  Calls Tryz.prog 144 #[vi a1, vi b1] w0 fun e w => e = .returned (vi r) ∧ Ext w0 w ∧ AllCl [] F w := by
 refine enterK Tryz.func144 rfl Tryz.ntmps144 rfl ?_
 have hI := Bun.start hF hc
 clear hc
 rw [m_frac_order] at h
 refine sr (sac ?_)
 refine nk (c_seq (c_block (sr (sm ?_))))
 refine sm ?_
 refine sq (y_lss rfl et et) ?_
 refine sa ?_
 refine nk (cif h et (fun hb h => ?_) (fun hb h => ?_))
 ·refine sr (sac ?_)
  refine nk (c_ret ?_)
  obtain rfl := some_inj h
  exact q_ret (vs := [vi (-1)]) Tryz.results144 ⟨ev_tmp rfl rfl, trivial⟩ (fq hI trivial)
 refine sr (sm ?_)
 refine sm ?_
 refine sq (y_gtr rfl et et) ?_
 refine sa ?_
 refine nk (cif h et (fun hb h => ?_) (fun hb h => ?_))
 ·refine sr (sac ?_)
  refine nk (c_ret ?_)
  obtain rfl := some_inj h
  exact q_ret (vs := [vi 1]) Tryz.results144 ⟨ev_tmp rfl rfl, trivial⟩ (fq hI trivial)
 refine c_skip (k_same (sr (sac ?_)))
 refine nk (c_ret ?_)
 obtain rfl := some_inj h
 exact q_ret (vs := [vi 0]) Tryz.results144 ⟨ev_tmp rfl rfl, trivial⟩ (fq hI trivial)
theorem c_frac_Compare (F : NP) (w0 : World) (hF : ∀ k, F k → k < w0.heap.size) (a1 : GVal) (b1 : GVal) (hc : AllCl [] F w0) (r : Int)
  (h : m_frac_Compare a1 b1 = some r) :
  Calls Tryz.prog 125 #[(Value.agg (AVal a1)), (Value.agg (AVal b1))] w0 fun e w => e = .returned (vi r) ∧ Ext w0 w ∧ AllCl [] F w := by
 refine enterK Tryz.func125 rfl Tryz.ntmps125 rfl ?_
 have hI := Bun.start hF hc
 clear hc
 rw [m_frac_Compare] at h
 refine sr (l_box (v := (Value.agg (AVal a1))) (cs := (AVal a1)) hI gn rfl rfl et rfl ?_)
 clear hI; intro b2 c1 w1 hI
 obtain ⟨c2, hI⟩ := hI.relBox .z
 refine l_box (v := (Value.agg (AVal b1))) (cs := (AVal b1)) hI gn rfl rfl et rfl ?_
 clear hI; intro b3 c3 w2 hI
 obtain ⟨c4, hI⟩ := hI.relBox .z
 refine sac ?_
 refine nk (c_seq (sr (sq (y_loadN (l := (lVal a1)) rfl et u36 rfl size_36 (hI.kblk (l := (lVal a1)) (.s .z) rfl).1) ?_)))
 obtain ⟨r1, hx1, h⟩ := bnd_some h
 refine s_call gn rfl (r_callF (vs := [(Value.agg (AVal a1))]) rfl ok_91 ⟨et, trivial⟩) (Calls.mono (c_frac_Valid (Dj F c4) w2 hI.lt a1 trivial r1 hx1) ?_)
 rintro _ w3 ⟨rfl, hx2, hl1⟩
 refine ⟨_, rfl, ?_⟩
 replace hI := (hI.ext hx2)
 refine sm ?_
 refine s_gval (g_true rfl rfl rfl rfl) rfl (fun hc => (y_loadN (l := (lVal b1)) rfl et u36 rfl size_36 (hI.kblk (l := (lVal b1)) .z rfl).1)) ?_
 obtain ⟨r2, hx3, h⟩ := bnd_some h
 replace hx3 := gd_some hx3
 refine s_gcallU (v := (vb r2)) (g_true rfl rfl rfl rfl) rfl (fun hc => (r_callF (vs := [(Value.agg (AVal b1))]) rfl ok_91 ⟨(ev_gv et hc), trivial⟩)) (fun hc => (c_frac_Valid (Dj F c4) w3 hI.lt b1 trivial r2 (hx3 hc)).mono fun _ _ k => ⟨k.1, k.2.1⟩) ?_
 intro w4 hx4; replace hI := hI.ext hx4
 refine sq (y_and rfl et et) ?_
 refine nk (cif h et (fun hb h => ?_) (fun hb h => ?_))
 ·refine sr (sq (y_fieldAddr rfl et u36 rfl size_2 rfl) ?_)
  refine sq (y_load1 (v := (vi a1.N)) rfl et u2 rfl (hI.kblk (l := [vi a1.N]) (.s .z) rfl).1) ?_
  refine sq (y_fieldAddr rfl et u36 rfl size_2 rfl) ?_
  refine sq (y_load1 (v := (vi b1.D)) rfl et u2 rfl (hI.kblk (l := [vi b1.D]) .z rfl).1) ?_
  refine sq (y_mul rfl et et) ?_
  refine sq (y_fieldAddr rfl et u36 rfl size_2 rfl) ?_
  refine sq (y_load1 (v := (vi b1.N)) rfl et u2 rfl (hI.kblk (l := [vi b1.N]) .z rfl).1) ?_
  refine sq (y_fieldAddr rfl et u36 rfl size_2 rfl) ?_
  refine sq (y_load1 (v := (vi a1.D)) rfl et u2 rfl (hI.kblk (l := [vi a1.D]) (.s .z) rfl).1) ?_
  refine sq (y_mul rfl et et) ?_
  obtain ⟨r3, hx5, h⟩ := bnd_some h
  refine s_call gn rfl (r_callF (vs := [(vi (wi64 (a1.N * b1.D))), (vi (wi64 (b1.N * a1.D)))]) rfl ok_144 ⟨et, ⟨et, trivial⟩⟩) (Calls.mono (c_frac_order (Dj F c4) w4 hI.lt (wi64 (a1.N * b1.D)) (wi64 (b1.N * a1.D)) trivial r3 hx5) ?_)
  rintro _ w5 ⟨rfl, hx6, hl3⟩
  refine ⟨_, rfl, ?_⟩
  replace hI := (hI.ext hx6)
  refine sa ?_
  refine nk (c_ret ?_)
  obtain rfl := some_inj h
  exact q_ret (vs := [vi r3]) Tryz.results125 ⟨ev_tmp rfl rfl, trivial⟩ (fq hI trivial)
 refine c_skip (k_same (c_seq (sr (sq (y_fieldAddr rfl et u36 rfl size_2 rfl) ?_))))
 refine sq (y_load1 (v := (vi a1.N)) rfl et u2 rfl (hI.kblk (l := [vi a1.N]) (.s .z) rfl).1) ?_
 refine sq (y_fieldAddr rfl et u36 rfl size_2 rfl) ?_
 refine sq (y_load1 (v := (vi b1.N)) rfl et u2 rfl (hI.kblk (l := [vi b1.N]) .z rfl).1) ?_
 obtain ⟨r4, hx7, h⟩ := bnd_some h
 refine s_call gn rfl (r_callF (vs := [vi a1.N, vi b1.N]) rfl ok_144 ⟨et, ⟨et, trivial⟩⟩) (Calls.mono (c_frac_order (Dj F c4) w4 hI.lt a1.N b1.N trivial r4 hx7) ?_)
 rintro _ w6 ⟨rfl, hx8, hl4⟩
 refine ⟨_, rfl, ?_⟩
 replace hI := (hI.ext hx8)
 refine sa ?_
 refine nk (sr (sm ?_))
 refine sq (y_neq rfl et ev_const) ?_
 refine nk (cif h et (fun hb h => ?_) (fun hb h => ?_))
 ·refine sr (sm ?_)
  refine sa ?_
  refine nk (c_ret ?_)
  obtain rfl := some_inj h
  exact q_ret (vs := [vi r4]) Tryz.results125 ⟨ev_tmp rfl rfl, trivial⟩ (fq hI trivial)
 refine c_skip (k_same (sr (sq (y_fieldAddr rfl et u36 rfl size_2 rfl) ?_)))
 refine sq (y_load1 (v := (vi a1.D)) rfl et u2 rfl (hI.kblk (l := [vi a1.D]) (.s .z) rfl).1) ?_
 refine sq (y_fieldAddr rfl et u36 rfl size_2 rfl) ?_
 refine sq (y_load1 (v := (vi b1.D)) rfl et u2 rfl (hI.kblk (l := [vi b1.D]) .z rfl).1) ?_
 obtain ⟨r5, hx9, h⟩ := bnd_some h
 refine s_call gn rfl (r_callF (vs := [vi a1.D, vi b1.D]) rfl ok_144 ⟨et, ⟨et, trivial⟩⟩) (Calls.mono (c_frac_order (Dj F c4) w6 hI.lt a1.D b1.D trivial r5 hx9) ?_)
 rintro _ w7 ⟨rfl, hx10, hl5⟩
 refine ⟨_, rfl, ?_⟩
 replace hI := (hI.ext hx10)
 refine sa ?_
 refine nk (c_ret ?_)
 obtain rfl := some_inj h
 exact q_ret (vs := [vi r5]) Tryz.results125 ⟨ev_tmp rfl rfl, trivial⟩ (fq hI trivial)
theorem c_value_Compare (F : NP) (w0 : World) (hF : ∀ k, F k → k < w0.heap.size) (t1 : GType) (a1 : GVal) (b1 : GVal) (hc : AllCl [] F w0) (r : Int)
  (h : m_value_Compare t1 a1 b1 = some r) :
  Calls Tryz.prog 101 #[(Value.agg (AType t1)), (Value.agg (AVal a1)), (Value.agg (AVal b1))] w0 fun e w => e = .returned (vi r) ∧ Ext w0 w ∧ AllCl [] F w := by
 refine enterK Tryz.func101 rfl Tryz.ntmps101 rfl ?_
 have hI := Bun.start hF hc
 clear hc
 rw [m_value_Compare] at h
 refine sr (l_box (v := (Value.agg (AType t1))) (cs := (AType t1)) hI gn rfl rfl et rfl ?_)
 clear hI; intro b2 c1 w1 hI
 obtain ⟨c2, hI⟩ := hI.relBox .z
 refine l_box (v := (Value.agg (AVal a1))) (cs := (AVal a1)) hI gn rfl rfl et rfl ?_
 clear hI; intro b3 c3 w2 hI
 obtain ⟨c4, hI⟩ := hI.relBox .z
 refine l_box (v := (Value.agg (AVal b1))) (cs := (AVal b1)) hI gn rfl rfl et rfl ?_
 clear hI; intro b4 c5 w3 hI
 obtain ⟨c6, hI⟩ := hI.relBox .z
 refine sac ?_
 refine nk (c_seq (c_block (sr (sq (y_loadN (l := (lType t1)) rfl et u23 rfl size_23 (hI.kblk (l := (lType t1)) (.s (.s .z)) rfl).1) ?_))))
 refine sq (y_loadN (l := (lVal a1)) rfl et u36 rfl size_36 (hI.kblk (l := (lVal a1)) (.s .z) rfl).1) ?_
 obtain ⟨r1, hx1, h⟩ := bnd_some h
 refine s_call gn rfl (r_callF (vs := [(Value.agg (AType t1)), (Value.agg (AVal a1))]) rfl ok_54 ⟨et, ⟨et, trivial⟩⟩) (Calls.mono (c_value_Valid (Dj F c6) w3 hI.lt t1 a1 trivial r1 hx1) ?_)
 rintro _ w4 ⟨rfl, hx2, hl1⟩
 refine ⟨_, rfl, ?_⟩
 replace hI := (hI.ext hx2)
 refine sq (y_not rfl et) ?_
 refine sm ?_
 refine s_gval (g_false rfl rfl rfl rfl) rfl (fun hc => (y_loadN (l := (lType t1)) rfl et u23 rfl size_23 (hI.kblk (l := (lType t1)) (.s (.s .z)) rfl).1)) ?_
 refine s_gval (g_false rfl rfl rfl rfl) rfl (fun hc => (y_loadN (l := (lVal b1)) rfl et u36 rfl size_36 (hI.kblk (l := (lVal b1)) .z rfl).1)) ?_
 obtain ⟨r2, hx3, h⟩ := bnd_some h
 replace hx3 := gd_some hx3
 refine s_gcallU (v := (vb r2)) (g_false rfl rfl rfl rfl) rfl (fun hc => (r_callF (vs := [(Value.agg (AType t1)), (Value.agg (AVal b1))]) rfl ok_54 ⟨(ev_gv et hc), ⟨(ev_gv et hc), trivial⟩⟩)) (fun hc => (c_value_Valid (Dj F c6) w4 hI.lt t1 b1 trivial r2 (hx3 hc)).mono fun _ _ k => ⟨k.1, k.2.1⟩) ?_
 intro w5 hx4; replace hI := hI.ext hx4
 refine s_gval (g_false rfl rfl rfl rfl) rfl (fun hc => y_not rfl (ev_gv et hc)) ?_
 refine sq (y_or rfl et et) ?_
 refine sa ?_
 refine nk (cif h et (fun hb h => ?_) (fun hb h => ?_))
 ·refine sr (sac ?_)
  refine nk (c_ret ?_)
  obtain rfl := some_inj h
  exact q_ret (vs := [vi 0]) Tryz.results101 ⟨ev_tmp rfl rfl, trivial⟩ (fq hI trivial)
 refine sr (sq (y_fieldAddr rfl et u23 rfl size_3 rfl) ?_)
 refine sq (y_load1 (v := (vi t1.Kind)) rfl et u3 rfl (hI.kblk (l := [vi t1.Kind]) (.s (.s .z)) rfl).1) ?_
 refine sq (y_eql rfl et ev_const) ?_
 refine sa ?_
 refine nk (cif h et (fun hb h => ?_) (fun hb h => ?_))
 ·refine sr (sq (y_loadN (l := (lVal a1)) rfl et u36 rfl size_36 (hI.kblk (l := (lVal a1)) (.s .z) rfl).1) ?_)
  refine sq (y_loadN (l := (lVal b1)) rfl et u36 rfl size_36 (hI.kblk (l := (lVal b1)) .z rfl).1) ?_
  obtain ⟨r3, hx5, h⟩ := bnd_some h
  refine s_call gn rfl (r_callF (vs := [(Value.agg (AVal a1)), (Value.agg (AVal b1))]) rfl ok_125 ⟨et, ⟨et, trivial⟩⟩) (Calls.mono (c_frac_Compare (Dj F c6) w5 hI.lt a1 b1 trivial r3 hx5) ?_)
  rintro _ w6 ⟨rfl, hx6, hl3⟩
  refine ⟨_, rfl, ?_⟩
  replace hI := (hI.ext hx6)
  refine sa ?_
  refine s_nil ?_
  refine k_next (e := [(6, vi r3)]) ⟨rfl, trivial⟩ ?_
  refine c_ret ?_
  obtain rfl := some_inj h
  exact q_ret (vs := [vi r3]) Tryz.results101 ⟨ev_tmp rfl rfl, trivial⟩ (fq hI trivial)
 refine sr (sq (y_fieldAddr rfl et u36 rfl size_2 rfl) ?_)
 refine sq (y_load1 (v := (vi a1.N)) rfl et u2 rfl (hI.kblk (l := [vi a1.N]) (.s .z) rfl).1) ?_
 refine sq (y_fieldAddr rfl et u36 rfl size_2 rfl) ?_
 refine sq (y_load1 (v := (vi b1.N)) rfl et u2 rfl (hI.kblk (l := [vi b1.N]) .z rfl).1) ?_
 refine sq (y_lss rfl et et) ?_
 refine sa ?_
 refine s_nil ?_
 refine k_next (e := [(4, vp b3 0), (5, vp b4 0), (25, (vb (decide (a1.N < b1.N))))]) ⟨rfl, rfl, rfl, trivial⟩ ?_
 refine cif h et (fun hb h => ?_) (fun hb h => ?_)
 ·refine sr (sac ?_)
  refine nk (c_ret ?_)
  obtain rfl := some_inj h
  exact q_ret (vs := [vi (-1)]) Tryz.results101 ⟨ev_tmp rfl rfl, trivial⟩ (fq hI trivial)
 refine sr (sq (y_fieldAddr rfl et u36 rfl size_2 rfl) ?_)
 refine sq (y_load1 (v := (vi a1.N)) rfl et u2 rfl (hI.kblk (l := [vi a1.N]) (.s .z) rfl).1) ?_
 refine sq (y_fieldAddr rfl et u36 rfl size_2 rfl) ?_
 refine sq (y_load1 (v := (vi b1.N)) rfl et u2 rfl (hI.kblk (l := [vi b1.N]) .z rfl).1) ?_
 refine sq (y_gtr rfl et et) ?_
 refine sa ?_
 refine nk (cif h et (fun hb h => ?_) (fun hb h => ?_))
 ·refine sr (sac ?_)
  refine nk (c_ret ?_)
  obtain rfl := some_inj h
  exact q_ret (vs := [vi 1]) Tryz.results101 ⟨ev_tmp rfl rfl, trivial⟩ (fq hI trivial)
 refine c_skip (k_same (sr (sac ?_)))
 refine nk (c_ret ?_)
 obtain rfl := some_inj h
 exact q_ret (vs := [vi 0]) Tryz.results101 ⟨ev_tmp rfl rfl, trivial⟩ (fq hI trivial)
theorem c_value_integer (F : NP) (w0 : World) (hF : ∀ k, F k → k < w0.heap.size) (op1 : Int) (a1 : Int) (b1 : Int) (hc : AllCl [] F w0) (r : GVal × Int)
  (h : m_value_integer op1 a1 b1 = some r) :
  Calls Tryz.prog 126 #[vi op1, vi a1, vi b1] w0 fun e w => e = .returned (Value.tuple #[(Value.agg (AVal r.1)), vi r.2]) ∧ Ext w0 w ∧ AllCl [] F w := by
 refine enterK Tryz.func126 rfl Tryz.ntmps126 rfl ?_
 have hI := Bun.start hF hc
 clear hc
 rw [m_value_integer] at h
 refine sr (l_alloc (cs := #[vi 0, vi 0]) hI gn rfl rfl zero_36 rfl ?_)
 clear hI; intro b2 c1 w1 hI
 refine sac ?_
 refine nk (sr (sac ?_))
 refine nk (c_join (α := Int) (fun _ => ⟨50, []⟩) (fun x => [(6, vp b2 0), (8, vi x)]) (fun x => fun w => ∃ C, Bun noM F w0 C w [MO.box b2 36 #[vi 0, vi 0]] [] ∧ m_value_integer_j1 x = some r) ?_ ?_)
 ·clear h hI; rintro n1 w2 ⟨c2, hI, h⟩
  try dsimp only at hI h
  rw [m_value_integer_j1] at h
  refine c_sub (e := [(6, vp b2 0), (8, vi n1)]) ⟨rfl, rfl, trivial⟩ ?_
  refine c_seq (sr (sm ?_))
  obtain ⟨r1, hx1, h⟩ := bnd_some h
  refine s_call gn rfl (r_callF (vs := [vi n1]) rfl ok_90 ⟨et, trivial⟩) (Calls.mono (c_value_whole (Dj F c2) w2 hI.lt n1 trivial r1 hx1) ?_)
  rintro _ w3 ⟨rfl, hx2, hl1⟩
  refine ⟨_, rfl, ?_⟩
  replace hI := (hI.ext hx2)
  refine sq (y_not rfl et) ?_
  refine nk (cif h et (fun hb h => ?_) (fun hb h => ?_))
  ·refine sr (sq (y_build (vs := []) (cs := #[vi 0, vi 0]) rfl trivial (by kernel_rfl)) ?_)
   refine l_store (new := [vi 0, vi 0]) (cs' := #[vi 0, vi 0]) hI .z gn rfl rfl et et rfl size_36 rfl rfl rfl ?_
   clear hI; intro c3 w4 hI
   refine sac ?_
   refine nk (c_ret ?_)
   obtain rfl := some_inj h
   exact q_ret (vs := [(Value.agg #[vi 0, vi 0]), vi 3]) Tryz.results126 ⟨⟨_, ev_tmp rfl rfl, load_agg (l := [vi 0, vi 0]) u36 rfl size_36 (CellsAt.of_blk (hI.blk .z) rfl)⟩, ⟨ev_tmp rfl rfl, trivial⟩⟩ (fq hI trivial)
  refine c_skip (k_same (sr (sm ?_)))
  refine sq (y_build (vs := [(0, vi n1), (1, vi 1)]) (cs := #[vi n1, vi 1]) rfl ⟨rfl, et, ⟨rfl, ev_const, trivial⟩⟩ (by kernel_rfl)) ?_
  refine l_store (new := [vi n1, vi 1]) (cs' := #[vi n1, vi 1]) hI .z gn rfl rfl et et rfl size_36 rfl rfl rfl ?_
  clear hI; intro c4 w5 hI
  refine sac ?_
  refine nk (c_ret ?_)
  obtain rfl := some_inj h
  exact q_ret (vs := [(Value.agg #[vi n1, vi 1]), vi 0]) Tryz.results126 ⟨⟨_, ev_tmp rfl rfl, load_agg (l := [vi n1, vi 1]) u36 rfl size_36 (CellsAt.of_blk (hI.blk .z) rfl)⟩, ⟨ev_tmp rfl rfl, trivial⟩⟩ (fq hI trivial)
 refine sr (sm ?_)
 refine nk (c_block (sr (sq (y_eql rfl et ev_const) ?_)))
 refine sa ?_
 refine nk (cif h et (fun hb h => ?_) (fun hb h => ?_))
 ·refine c_region rfl ?_
  refine sm ?_
  refine sm ?_
  refine sq (y_add rfl et et) ?_
  refine sa ?_
  refine s_nil ?_
  exact k_join (wi64 (a1 + b1)) ⟨rfl, rfl, trivial⟩ ⟨_, hI.arr (.c .z .n) trivial, h⟩ rfl
 refine sr (sq (y_eql rfl et ev_const) ?_)
 refine sa ?_
 refine nk (cif h et (fun hb h => ?_) (fun hb h => ?_))
 ·refine c_region rfl ?_
  refine sm ?_
  refine sm ?_
  refine sq (y_sub rfl et et) ?_
  refine sa ?_
  refine s_nil ?_
  exact k_join (wi64 (a1 - b1)) ⟨rfl, rfl, trivial⟩ ⟨_, hI.arr (.c .z .n) trivial, h⟩ rfl
 refine sr (sq (y_eql rfl et ev_const) ?_)
 refine sa ?_
 refine nk (cif h et (fun hb h => ?_) (fun hb h => ?_))
 ·refine c_region rfl ?_
  refine sm ?_
  refine sm ?_
  refine sq (y_mul rfl et et) ?_
  refine sa ?_
  refine s_nil ?_
  exact k_join (wi64 (a1 * b1)) ⟨rfl, rfl, trivial⟩ ⟨_, hI.arr (.c .z .n) trivial, h⟩ rfl
 refine c_seq (sr (sm ?_))
 refine sq (y_eql rfl et ev_const) ?_
 refine nk (cif h et (fun hb h => ?_) (fun hb h => ?_))
 ·refine sr (sq (y_build (vs := []) (cs := #[vi 0, vi 0]) rfl trivial (by kernel_rfl)) ?_)
  refine l_store (new := [vi 0, vi 0]) (cs' := #[vi 0, vi 0]) hI .z gn rfl rfl et et rfl size_36 rfl rfl rfl ?_
  clear hI; intro c5 w6 hI
  refine sac ?_
  refine nk (c_ret ?_)
  obtain rfl := some_inj h
  exact q_ret (vs := [(Value.agg #[vi 0, vi 0]), vi 4]) Tryz.results126 ⟨⟨_, ev_tmp rfl rfl, load_agg (l := [vi 0, vi 0]) u36 rfl size_36 (CellsAt.of_blk (hI.blk .z) rfl)⟩, ⟨ev_tmp rfl rfl, trivial⟩⟩ (fq hI trivial)
 refine c_skip (k_same (sr (sm ?_)))
 refine sm ?_
 obtain ⟨ho1, h⟩ := chk_some h
 refine sq (y_quo rfl et et ho1) ?_
 refine sa ?_
 refine nk (sr (sm ?_))
 refine sm ?_
 refine sq (y_rem rfl et et ho1) ?_
 refine sq (y_neq rfl et ev_const) ?_
 refine sm ?_
 refine s_gval (g_true rfl rfl rfl rfl) rfl (fun hc => y_move rfl et) ?_
 refine s_gval (g_true rfl rfl rfl rfl) rfl (fun hc => y_lss rfl (ev_gv et hc) ev_const) ?_
 refine s_gval (g_true rfl rfl rfl rfl) rfl (fun hc => y_move rfl et) ?_
 refine s_gval (g_true rfl rfl rfl rfl) rfl (fun hc => y_lss rfl (ev_gv et hc) ev_const) ?_
 refine s_gval (g_true rfl rfl rfl rfl) rfl (fun hc => y_neb rfl u4 (ev_gv et hc) (ev_gv et hc)) ?_
 refine sq (y_and rfl et et) ?_
 refine s_nil ?_
 refine k_next (e := [(6, vp b2 0), (8, (vi (wi64 (Int.tdiv a1 b1)))), (26, (vb ((!decide (Int.tmod a1 b1 = 0)) && ((decide (a1 < 0)) != (decide (b1 < 0))))))]) ⟨rfl, rfl, rfl, trivial⟩ ?_
 refine cif h et (fun hb h => ?_) (fun hb h => ?_)
 ·refine c_region rfl ?_
  refine sm ?_
  refine sq (y_sub rfl et ev_const) ?_
  obtain ⟨n2, hx3, h⟩ := bnd_some h
  refine sq (binU (y_assign rfl et) (congrArg (Value.int .i64) (some_inj hx3))) ?_
  refine s_nil ?_
  exact k_join n2 ⟨rfl, rfl, trivial⟩ ⟨_, hI.arr (.c .z .n) trivial, h⟩ rfl
 exact c_skip (k_join (wi64 (Int.tdiv a1 b1)) ⟨rfl, rfl, trivial⟩ ⟨_, hI.arr (.c .z .n) trivial, h⟩ rfl)
theorem c_fixed_Add_1 (F : NP) (w0 : World) (hF : ∀ k, F k → k < w0.heap.size) (a1 : GType) (x1 : Int) (y1 : Int) (hc : AllCl [] F w0) (r : Int × Int)
  (h : m_fixed_Add_1 a1 x1 y1 = some r) :
  Calls Tryz.prog 145 #[(Value.agg (AType a1)), vi x1, vi y1] w0 fun e w => e = .returned (Value.tuple #[vi r.1, vi r.2]) ∧ Ext w0 w ∧ AllCl [] F w := by
 refine enterK Tryz.func145 rfl Tryz.ntmps145 rfl ?_
 have hI := Bun.start hF hc
 clear hc
 rw [m_fixed_Add_1] at h
 refine sr (l_box (v := (Value.agg (AType a1))) (cs := (AType a1)) hI gn rfl rfl et rfl ?_)
 clear hI; intro b1 c1 w1 hI
 obtain ⟨c2, hI⟩ := hI.relBox .z
 refine sac ?_
 refine sac ?_
 refine nk (sr (sm ?_))
 refine sm ?_
 refine sq (y_add rfl et et) ?_
 refine sa ?_
 refine sac ?_
 refine nk (c_ret ?_)
 obtain rfl := some_inj h
 exact q_ret (vs := [(vi (wi64 (x1 + y1))), vi 0]) Tryz.results145 ⟨ev_tmp rfl rfl, ⟨ev_tmp rfl rfl, trivial⟩⟩ (fq hI trivial)
theorem c_fixed_Add (F : NP) (w0 : World) (hF : ∀ k, F k → k < w0.heap.size) (t1 : GType) (a1 : GVal) (b1 : GVal) (hc : AllCl [] F w0) (r : GVal × Int)
  (h : m_fixed_Add t1 a1 b1 = some r) :
  Calls Tryz.prog 127 #[(Value.agg (AType t1)), (Value.agg (AVal a1)), (Value.agg (AVal b1))] w0 fun e w => e = .returned (Value.tuple #[(Value.agg (AVal r.1)), vi r.2]) ∧ Ext w0 w ∧ AllCl [] F w := by
 refine enterK Tryz.func127 rfl Tryz.ntmps127 rfl ?_
 have hI := Bun.start hF hc
 clear hc
 rw [m_fixed_Add] at h
 refine sr (l_box (v := (Value.agg (AType t1))) (cs := (AType t1)) hI gn rfl rfl et rfl ?_)
 clear hI; intro b2 c1 w1 hI
 obtain ⟨c2, hI⟩ := hI.relBox .z
 refine l_box (v := (Value.agg (AVal a1))) (cs := (AVal a1)) hI gn rfl rfl et rfl ?_
 clear hI; intro b3 c3 w2 hI
 obtain ⟨c4, hI⟩ := hI.relBox .z
 refine l_box (v := (Value.agg (AVal b1))) (cs := (AVal b1)) hI gn rfl rfl et rfl ?_
 clear hI; intro b4 c5 w3 hI
 obtain ⟨c6, hI⟩ := hI.relBox .z
 refine l_alloc (cs := #[vi 0, vi 0]) hI gn rfl rfl zero_36 rfl ?_
 clear hI; intro b5 c7 w4 hI
 refine sac ?_
 refine nk (sr (sq (y_build (vs := [(0, (Value.func (.func 145) #[] #[]))]) (cs := #[(Value.func (.func 145) #[] #[])]) rfl ⟨rfl, ev_func, trivial⟩ (by kernel_rfl)) ?_))
 refine sq (y_loadN (l := (lType t1)) rfl et u23 rfl size_23 (hI.kblk (l := (lType t1)) (.s (.s .z)) rfl).1) ?_
 refine sq (y_loadN (l := (lVal a1)) rfl et u36 rfl size_36 (hI.kblk (l := (lVal a1)) (.s .z) rfl).1) ?_
 refine sq (y_loadN (l := (lVal b1)) rfl et u36 rfl size_36 (hI.kblk (l := (lVal b1)) .z rfl).1) ?_
 have hI := hI.add (c := clFn_k1 (Value.func (.func 145) #[] #[]) m_fixed_Add_1) ⟨rfl, fun D' w' hs hl x_1 x_2 x_3 r k h => CallV.fn (cap := []) ok_145 (c_fixed_Add_1 D' w' hl x_1 x_2 x_3 trivial r h)⟩
 obtain ⟨r1, hx1, h⟩ := bnd_some h
 refine s_call gn rfl (r_callF (vs := [(Value.agg #[(Value.func (.func 145) #[] #[])]), (Value.agg (AType t1)), (Value.agg (AVal a1)), (Value.agg (AVal b1))]) rfl ok_142 ⟨et, ⟨et, ⟨et, ⟨et, trivial⟩⟩⟩⟩) (Calls.mono (c_fixed_apply (Dj F c7) w4 hI.lt (⟨m_fixed_Add_1⟩ : Gfixed_operation) t1 a1 b1 (Value.func (.func 145) #[] #[]) ⟨(hI.get .z), trivial⟩ r1 hx1) ?_)
 rintro _ w5 ⟨rfl, hx2, hl1⟩
 refine ⟨_, rfl, ?_⟩
 replace hI := (hI.ext hx2)
 refine sq (y_extract rfl et rfl) ?_
 refine sq (y_extract rfl et rfl) ?_
 refine l_store (new := (lVal r1.1)) (cs' := (AVal r1.1)) hI .z gn rfl rfl et et rfl size_36 rfl rfl rfl ?_
 clear hI; intro c8 w6 hI
 refine sa ?_
 refine nk (c_ret ?_)
 obtain rfl := some_inj h
 exact q_ret (vs := [(Value.agg (AVal r1.1)), vi r1.2]) Tryz.results127 ⟨⟨_, ev_tmp rfl rfl, load_agg (l := (lVal r1.1)) u36 rfl size_36 (CellsAt.of_blk (hI.blk .z) rfl)⟩, ⟨ev_tmp rfl rfl, trivial⟩⟩ (fq hI trivial)
theorem c_fixed_Sub_1 (F : NP) (w0 : World) (hF : ∀ k, F k → k < w0.heap.size) (a1 : GType) (x1 : Int) (y1 : Int) (hc : AllCl [] F w0) (r : Int × Int)
  (h : m_fixed_Sub_1 a1 x1 y1 = some r) :
  Calls Tryz.prog 146 #[(Value.agg (AType a1)), vi x1, vi y1] w0 fun e w => e = .returned (Value.tuple #[vi r.1, vi r.2]) ∧ Ext w0 w ∧ AllCl [] F w := by
 refine enterK Tryz.func146 rfl Tryz.ntmps146 rfl ?_
 have hI := Bun.start hF hc
 clear hc
 rw [m_fixed_Sub_1] at h
 refine sr (l_box (v := (Value.agg (AType a1))) (cs := (AType a1)) hI gn rfl rfl et rfl ?_)
 clear hI; intro b1 c1 w1 hI
 obtain ⟨c2, hI⟩ := hI.relBox .z
 refine sac ?_
 refine sac ?_
 refine nk (sr (sm ?_))
 refine sm ?_
 refine sq (y_sub rfl et et) ?_
 refine sa ?_
 refine sac ?_
 refine nk (c_ret ?_)
 obtain rfl := some_inj h
 exact q_ret (vs := [(vi (wi64 (x1 - y1))), vi 0]) Tryz.results146 ⟨ev_tmp rfl rfl, ⟨ev_tmp rfl rfl, trivial⟩⟩ (fq hI trivial)
theorem c_fixed_Sub (F : NP) (w0 : World) (hF : ∀ k, F k → k < w0.heap.size) (t1 : GType) (a1 : GVal) (b1 : GVal) (hc : AllCl [] F w0) (r : GVal × Int)
  (h : m_fixed_Sub t1 a1 b1 = some r) :
  Calls Tryz.prog 128 #[(Value.agg (AType t1)), (Value.agg (AVal a1)), (Value.agg (AVal b1))] w0 fun e w => e = .returned (Value.tuple #[(Value.agg (AVal r.1)), vi r.2]) ∧ Ext w0 w ∧ AllCl [] F w := by
 refine enterK Tryz.func128 rfl Tryz.ntmps128 rfl ?_
 have hI := Bun.start hF hc
 clear hc
 rw [m_fixed_Sub] at h
 refine sr (l_box (v := (Value.agg (AType t1))) (cs := (AType t1)) hI gn rfl rfl et rfl ?_)
 clear hI; intro b2 c1 w1 hI
 obtain ⟨c2, hI⟩ := hI.relBox .z
 refine l_box (v := (Value.agg (AVal a1))) (cs := (AVal a1)) hI gn rfl rfl et rfl ?_
 clear hI; intro b3 c3 w2 hI
 obtain ⟨c4, hI⟩ := hI.relBox .z
 refine l_box (v := (Value.agg (AVal b1))) (cs := (AVal b1)) hI gn rfl rfl et rfl ?_
 clear hI; intro b4 c5 w3 hI
 obtain ⟨c6, hI⟩ := hI.relBox .z
 refine l_alloc (cs := #[vi 0, vi 0]) hI gn rfl rfl zero_36 rfl ?_
 clear hI; intro b5 c7 w4 hI
 refine sac ?_
 refine nk (sr (sq (y_build (vs := [(0, (Value.func (.func 146) #[] #[]))]) (cs := #[(Value.func (.func 146) #[] #[])]) rfl ⟨rfl, ev_func, trivial⟩ (by kernel_rfl)) ?_))
 refine sq (y_loadN (l := (lType t1)) rfl et u23 rfl size_23 (hI.kblk (l := (lType t1)) (.s (.s .z)) rfl).1) ?_
 refine sq (y_loadN (l := (lVal a1)) rfl et u36 rfl size_36 (hI.kblk (l := (lVal a1)) (.s .z) rfl).1) ?_
 refine sq (y_loadN (l := (lVal b1)) rfl et u36 rfl size_36 (hI.kblk (l := (lVal b1)) .z rfl).1) ?_
 have hI := hI.add (c := clFn_k1 (Value.func (.func 146) #[] #[]) m_fixed_Sub_1) ⟨rfl, fun D' w' hs hl x_1 x_2 x_3 r k h => CallV.fn (cap := []) ok_146 (c_fixed_Sub_1 D' w' hl x_1 x_2 x_3 trivial r h)⟩
 obtain ⟨r1, hx1, h⟩ := bnd_some h
 refine s_call gn rfl (r_callF (vs := [(Value.agg #[(Value.func (.func 146) #[] #[])]), (Value.agg (AType t1)), (Value.agg (AVal a1)), (Value.agg (AVal b1))]) rfl ok_142 ⟨et, ⟨et, ⟨et, ⟨et, trivial⟩⟩⟩⟩) (Calls.mono (c_fixed_apply (Dj F c7) w4 hI.lt (⟨m_fixed_Sub_1⟩ : Gfixed_operation) t1 a1 b1 (Value.func (.func 146) #[] #[]) ⟨(hI.get .z), trivial⟩ r1 hx1) ?_)
 rintro _ w5 ⟨rfl, hx2, hl1⟩
 refine ⟨_, rfl, ?_⟩
 replace hI := (hI.ext hx2)
 refine sq (y_extract rfl et rfl) ?_
 refine sq (y_extract rfl et rfl) ?_
 refine l_store (new := (lVal r1.1)) (cs' := (AVal r1.1)) hI .z gn rfl rfl et et rfl size_36 rfl rfl rfl ?_
 clear hI; intro c8 w6 hI
 refine sa ?_
 refine nk (c_ret ?_)
 obtain rfl := some_inj h
 exact q_ret (vs := [(Value.agg (AVal r1.1)), vi r1.2]) Tryz.results128 ⟨⟨_, ev_tmp rfl rfl, load_agg (l := (lVal r1.1)) u36 rfl size_36 (CellsAt.of_blk (hI.blk .z) rfl)⟩, ⟨ev_tmp rfl rfl, trivial⟩⟩ (fq hI trivial)
theorem c_round_mode (F : NP) (w0 : World) (hF : ∀ k, F k → k < w0.heap.size) (how1 : Int) (hc : AllCl [] F w0) (r : Bool)
  (h : m_round_mode how1 = some r) :
  Calls Tryz.prog 156 #[vi how1] w0 fun e w => e = .returned (vb r) ∧ Ext w0 w ∧ AllCl [] F w := by
 refine enterK Tryz.func156 rfl Tryz.ntmps156 rfl ?_
 have hI := Bun.start hF hc
 clear hc
 rw [m_round_mode] at h
 refine sr (sac ?_)
 refine nk (sr (sm ?_))
 refine sq (y_geq rfl et ev_const) ?_
 refine sm ?_
 refine s_gval (g_true rfl rfl rfl rfl) rfl (fun hc => y_move rfl et) ?_
 refine s_gval (g_true rfl rfl rfl rfl) rfl (fun hc => y_leq rfl (ev_gv et hc) ev_const) ?_
 refine sq (y_and rfl et et) ?_
 refine sa ?_
 refine nk (c_ret ?_)
 obtain rfl := some_inj h
 exact q_ret (vs := [(vb ((decide (1 ≤ how1)) && (decide (how1 ≤ 4))))]) Tryz.results156 ⟨ev_tmp rfl rfl, trivial⟩ (fq hI trivial)
theorem c_round_magnitude (F : NP) (w0 : World) (hF : ∀ k, F k → k < w0.heap.size) (n1 : Int) (hc : AllCl [] F w0) (r : Int)
  (h : m_round_magnitude n1 = some r) :
  Calls Tryz.prog 158 #[vi n1] w0 fun e w => e = .returned (Value.int .u64 r) ∧ Ext w0 w ∧ AllCl [] F w := by
 refine enterK Tryz.func158 rfl Tryz.ntmps158 rfl ?_
 have hI := Bun.start hF hc
 clear hc
 rw [m_round_magnitude] at h
 refine sr (sac ?_)
 refine nk (c_seq (sr (sm ?_)))
 refine sq (y_lss rfl et ev_const) ?_
 refine nk (cif h et (fun hb h => ?_) (fun hb h => ?_))
 ·refine sr (sm ?_)
  refine sq (y_conv rfl (by rw [u2]; rfl) u120 et) ?_
  refine sq (y_neg rfl et) ?_
  refine sa ?_
  refine nk (c_ret ?_)
  obtain rfl := some_inj h
  exact q_ret (vs := [(Value.int .u64 (wu64 (-(wu64 n1))))]) Tryz.results158 ⟨ev_tmp rfl rfl, trivial⟩ (fq hI trivial)
 refine c_skip (k_same (sr (sm ?_)))
 refine sq (y_conv rfl (by rw [u2]; rfl) u120 et) ?_
 refine sa ?_
 refine nk (c_ret ?_)
 obtain rfl := some_inj h
 exact q_ret (vs := [(Value.int .u64 (wu64 n1))]) Tryz.results158 ⟨ev_tmp rfl rfl, trivial⟩ (fq hI trivial)
theorem c_round_rounded (F : NP) (w0 : World) (hF : ∀ k, F k → k < w0.heap.size) (a1 : Int) (b1 : Int) (negative1 : Bool) (how1 : Int) (hc : AllCl [] F w0) (r : Int)
  (h : m_round_rounded a1 b1 negative1 how1 = some r) :
  Calls Tryz.prog 157 #[(Value.int .u64 a1), (Value.int .u64 b1), vb negative1, vi how1] w0 fun e w => e = .returned (Value.int .u64 r) ∧ Ext w0 w ∧ AllCl [] F w := by
 refine enterK Tryz.func157 rfl Tryz.ntmps157 rfl ?_
 have hI := Bun.start hF hc
 clear hc
 rw [m_round_rounded] at h
 refine sr (sac ?_)
 refine nk (c_scope ?_)
 refine c_seq (c_drawX [] false (.c (0, .q) (.c (1, .q) (.c (2, .q) (.c (3, .q) (.c (4, .q) (.c (5, .q) (.c (6, .q) (.c (7, .q) .n)))))))) hI (by kernel_rfl) (by kernel_rfl) ?_)
 clear hI; intro w1 hI
 refine a_q rfl gn rfl (fun w' => y_move rfl et) ?_
 refine a_q rfl gn rfl (fun w' => y_move rfl et) ?_
 obtain ⟨ho1, h⟩ := chk_some h
 refine a_q rfl gn rfl (fun w' => y_quo rfl et et ho1) ?_
 refine a_q rfl gn rfl (fun w' => y_move rfl et) ?_
 refine a_q rfl gn rfl (fun w' => y_move rfl et) ?_
 refine a_q rfl gn rfl (fun w' => y_rem rfl et et ho1) ?_
 refine a_q rfl gn rfl (fun w' => y_assign rfl et) ?_
 refine a_q rfl gn rfl (fun w' => y_assign rfl et) ?_
 refine a_nil ?_
 refine k_same (sr (sm ?_))
 refine sa ?_
 refine nk (c_seq (c_label ?_))
 refine k_same (c_seq (sr (sm ?_)))
 refine sm ?_
 refine sq (y_add rfl et ev_const) ?_
 refine sq (y_build (vs := [(0, (Value.int .u64 (wu64 (Int.tdiv a1 b1)))), (1, (Value.int .u64 (wu64 ((wu64 (Int.tdiv a1 b1)) + 1))))]) (cs := #[(Value.int .u64 (wu64 (Int.tdiv a1 b1))), (Value.int .u64 (wu64 ((wu64 (Int.tdiv a1 b1)) + 1)))]) rfl ⟨rfl, et, ⟨rfl, et, trivial⟩⟩ (by kernel_rfl)) ?_
 refine sq (y_move rfl ev_const) ?_
 refine nk (c_block (c_loop (α := Nat × Int × Int) (fun x => fun w => ∃ C, Bun noM F w0 C w [] [] ∧ m_round_rounded_l1 a1 b1 how1 negative1 (x.1) (x.2.1) (x.2.2) = some r) (fun x _ => x.1) (fun x => [(1, (Value.int .u64 b1)), (2, vb negative1), (3, vi how1), (9, (Value.int .u64 (wu64 (Int.tdiv a1 b1)))), (10, (Value.int .u64 (Int.tmod a1 b1))), (11, (Value.int .u64 (x.2.1))), (22, (Value.agg #[(Value.int .u64 (wu64 (Int.tdiv a1 b1))), (Value.int .u64 (wu64 ((wu64 (Int.tdiv a1 b1)) + 1)))])), (23, vi (x.2.2))]) (fu, wu64 (Int.tdiv a1 b1), 0) ⟨_, hI.arr .n trivial, h⟩ ⟨rfl, rfl, rfl, rfl, rfl, rfl, rfl, rfl, trivial⟩ ?_))
 clear h hI; rintro ⟨fuel1, m1, i1⟩ w2 ⟨c1, hI, h⟩
 dsimp only at hI h
 rcases fuel1 with _ | fuel1
 ·rw [m_round_rounded_l1] at h; cases h
 rw [m_round_rounded_l1] at h
 refine c_sub (e := [(1, (Value.int .u64 b1)), (2, vb negative1), (3, vi how1), (9, (Value.int .u64 (wu64 (Int.tdiv a1 b1)))), (10, (Value.int .u64 (Int.tmod a1 b1))), (11, (Value.int .u64 m1)), (22, (Value.agg #[(Value.int .u64 (wu64 (Int.tdiv a1 b1))), (Value.int .u64 (wu64 ((wu64 (Int.tdiv a1 b1)) + 1)))])), (23, vi i1)]) ⟨rfl, rfl, rfl, rfl, rfl, rfl, rfl, rfl, trivial⟩ ?_
 refine sr (sq (y_lss rfl et ev_const) ?_)
 refine nk (c_seq (cif h et (fun hb h => ?_) (fun hb h => ?_)))
 ·refine c_skip (k_same (c_seq (c_block (sr ?_))))
  obtain ⟨e1, hx1, h⟩ := bnd_some h
  refine sq (y_indexA (fun x => (Value.int .u64 x)) rfl et et hx1 ⟨fun _ => by kernel_rfl, fun _ => by kernel_rfl, trivial⟩) ?_
  refine sa ?_
  refine nk (c_block (sr (sm ?_)))
  refine sq (y_eql rfl et ev_const) ?_
  refine sm ?_
  refine s_gval (g_false rfl rfl rfl rfl) rfl (fun hc => y_move rfl et) ?_
  refine s_gval (g_false rfl rfl rfl rfl) rfl (fun hc => y_eql rfl (ev_gv et hc) ev_const) ?_
  refine sq (y_or rfl et et) ?_
  refine sa ?_
  refine nk (cif h et (fun hb h => ?_) (fun hb h => ?_))
  ·refine c_exit ?_
   refine k_out rfl ?_
   refine k_out rfl ?_
   refine k_in ?_
   refine k_same (sr (sm ?_))
   refine sa ?_
   refine nk (c_ret ?_)
   obtain rfl := some_inj h
   exact q_ret (vs := [(Value.int .u64 e1)]) Tryz.results157 ⟨ev_tmp rfl rfl, trivial⟩ (fq hI trivial)
  refine c_join (α := Bool) (fun _ => ⟨67, []⟩) (fun x => [(1, (Value.int .u64 b1)), (2, vb negative1), (3, vi how1), (9, (Value.int .u64 (wu64 (Int.tdiv a1 b1)))), (10, (Value.int .u64 (Int.tmod a1 b1))), (11, (Value.int .u64 e1)), (22, (Value.agg #[(Value.int .u64 (wu64 (Int.tdiv a1 b1))), (Value.int .u64 (wu64 ((wu64 (Int.tdiv a1 b1)) + 1)))])), (23, vi i1), (33, vb x)]) (fun x => fun w => ∃ C, Bun noM F w0 C w [] [] ∧ m_round_rounded_j1 e1 how1 a1 b1 (m_round_rounded_l1 a1 b1 how1 negative1 fuel1) i1 x = some r) ?_ ?_
  ·clear h hI; rintro i2 w3 ⟨c2, hI, h⟩
   try dsimp only at hI h
   rw [m_round_rounded_j1] at h
   refine c_sub (e := [(1, (Value.int .u64 b1)), (2, vb negative1), (3, vi how1), (9, (Value.int .u64 (wu64 (Int.tdiv a1 b1)))), (10, (Value.int .u64 (Int.tmod a1 b1))), (11, (Value.int .u64 e1)), (22, (Value.agg #[(Value.int .u64 (wu64 (Int.tdiv a1 b1))), (Value.int .u64 (wu64 ((wu64 (Int.tdiv a1 b1)) + 1)))])), (23, vi i1), (33, vb i2)]) ⟨rfl, rfl, rfl, rfl, rfl, rfl, rfl, rfl, rfl, trivial⟩ ?_
   refine cif h et (fun hb h => ?_) (fun hb h => ?_)
   ·refine c_exit ?_
    refine k_out rfl ?_
    refine k_out rfl ?_
    refine k_in ?_
    refine k_same (sr (sm ?_))
    refine sa ?_
    refine nk (c_ret ?_)
    obtain rfl := some_inj h
    exact q_ret (vs := [(Value.int .u64 e1)]) Tryz.results157 ⟨ev_tmp rfl rfl, trivial⟩ (fq hI trivial)
   refine sr (sm ?_)
   refine sq (y_eql rfl et ev_const) ?_
   refine sm ?_
   refine s_gval (g_true rfl rfl rfl rfl) rfl (fun hc => y_move rfl et) ?_
   refine s_gval (g_true rfl rfl rfl rfl) rfl (fun hc => y_mul rfl ev_const (ev_gv et hc)) ?_
   refine s_gval (g_true rfl rfl rfl rfl) rfl (fun hc => y_move rfl et) ?_
   refine s_gval (g_true rfl rfl rfl rfl) rfl (fun hc => y_lss rfl (ev_gv et hc) (ev_gv et hc)) ?_
   refine s_gval (g_true rfl rfl rfl rfl) rfl (fun hc => y_move rfl (ev_gv et hc)) ?_
   refine s_gval (g_false2 rfl rfl rfl rfl) rfl (fun hc => y_move rfl et) ?_
   refine s_gval (g_false2 rfl rfl rfl rfl) rfl (fun hc => y_mul rfl ev_const (ev_gv et hc)) ?_
   refine s_gval (g_false2 rfl rfl rfl rfl) rfl (fun hc => y_move rfl et) ?_
   refine s_gval (g_false2 rfl rfl rfl rfl) rfl (fun hc => y_eql rfl (ev_gv et hc) (ev_gv et hc)) ?_
   refine s_gval (g_false2 rfl rfl rfl rfl) rfl (fun hc => y_move rfl (ev_gv et hc)) ?_
   refine s_gval (g_true2 rfl rfl rfl rfl) rfl (fun hc => y_move rfl et) ?_
   refine s_gval (g_true2 rfl rfl rfl rfl) rfl (fun hc => y_rem rfl (ev_gv et hc) ev_const (by decide)) ?_
   refine s_gval (g_true2 rfl rfl rfl rfl) rfl (fun hc => y_eql rfl (ev_gv et hc) ev_const) ?_
   refine s_gval (g_false2 rfl rfl rfl rfl) rfl (fun hc => y_and2 rfl hc et et) ?_
   refine s_gval (g_true rfl rfl rfl rfl) rfl (fun hc => y_or2 rfl hc et et) ?_
   refine sq (y_and rfl et et) ?_
   refine sa ?_
   refine nk (cif h et (fun hb h => ?_) (fun hb h => ?_))
   ·refine c_exit ?_
    refine k_out rfl ?_
    refine k_out rfl ?_
    refine k_in ?_
    refine k_next (e := [(11, (Value.int .u64 e1))]) ⟨rfl, trivial⟩ ?_
    refine sr (sm ?_)
    refine sa ?_
    refine nk (c_ret ?_)
    obtain rfl := some_inj h
    exact q_ret (vs := [(Value.int .u64 e1)]) Tryz.results157 ⟨ev_tmp rfl rfl, trivial⟩ (fq hI trivial)
   refine c_skip (k_same (c_region rfl ?_))
   refine sq (y_add rfl et ev_const) ?_
   refine sm ?_
   refine s_nil ?_
   exact k_loop (fuel1, e1, wi64 (i1 + 1)) ⟨rfl, rfl, rfl, rfl, rfl, rfl, rfl, rfl, trivial⟩ ⟨_, hI.arr .n trivial, h⟩ (Nat.lt_succ_self _)
  refine sr (sm ?_)
  refine sq (y_eql rfl et ev_const) ?_
  refine sm ?_
  refine s_gval (g_true rfl rfl rfl rfl) rfl (fun hc => y_move rfl et) ?_
  refine s_gval (g_true rfl rfl rfl rfl) rfl (fun hc => y_not rfl (ev_gv et hc)) ?_
  refine sq (y_and rfl et et) ?_
  refine sa ?_
  refine nk (cif h et (fun hb h => ?_) (fun hb h => ?_))
  ·exact c_skip (k_join ((decide (how1 = 1)) && (!negative1)) ⟨rfl, rfl, rfl, rfl, rfl, rfl, rfl, rfl, rfl, trivial⟩ ⟨_, hI.arr .n trivial, h⟩ rfl)
  refine c_region rfl ?_
  refine sm ?_
  refine sq (y_eql rfl et ev_const) ?_
  refine sm ?_
  refine s_gval (g_true rfl rfl rfl rfl) rfl (fun hc => y_move rfl et) ?_
  refine sq (y_and rfl et et) ?_
  refine sa ?_
  refine s_nil ?_
  exact k_join ((decide (how1 = 2)) && negative1) ⟨rfl, rfl, rfl, rfl, rfl, rfl, rfl, rfl, rfl, trivial⟩ ⟨_, hI.arr .n trivial, h⟩ rfl
 refine c_exit ?_
 refine k_in ?_
 refine k_same (sr (sm ?_))
 refine sa ?_
 refine nk (c_ret ?_)
 obtain rfl := some_inj h
 exact q_ret (vs := [(Value.int .u64 m1)]) Tryz.results157 ⟨ev_tmp rfl rfl, trivial⟩ (fq hI trivial)
theorem c_round_Divide (F : NP) (w0 : World) (hF : ∀ k, F k → k < w0.heap.size) (n1 : Int) (d1 : Int) (how1 : Int) (hc : AllCl [] F w0) (r : Int × Int)
  (h : m_round_Divide n1 d1 how1 = some r) :
  Calls Tryz.prog 148 #[vi n1, vi d1, vi how1] w0 fun e w => e = .returned (Value.tuple #[vi r.1, vi r.2]) ∧ Ext w0 w ∧ AllCl [] F w := by
 refine enterK Tryz.func148 rfl Tryz.ntmps148 rfl ?_
 have hI := Bun.start hF hc
 clear hc
 rw [m_round_Divide] at h
 refine sr (sac ?_)
 refine sac ?_
 refine nk (c_seq (sr (sm ?_)))
 obtain ⟨r1, hx1, h⟩ := bnd_some h
 refine s_call gn rfl (r_callF (vs := [vi how1]) rfl ok_156 ⟨et, trivial⟩) (Calls.mono (c_round_mode (Dj F noM) w0 hI.lt how1 trivial r1 hx1) ?_)
 rintro _ w1 ⟨rfl, hx2, hl1⟩
 refine ⟨_, rfl, ?_⟩
 replace hI := (hI.ext hx2)
 refine sq (y_not rfl et) ?_
 refine nk (cif h et (fun hb h => ?_) (fun hb h => ?_))
 ·refine sr (sac ?_)
  refine sac ?_
  refine nk (c_ret ?_)
  obtain rfl := some_inj h
  exact q_ret (vs := [vi 0, vi 1]) Tryz.results148 ⟨ev_tmp rfl rfl, ⟨ev_tmp rfl rfl, trivial⟩⟩ (fq hI trivial)
 refine c_skip (k_same (c_seq (sr (sm ?_))))
 refine sq (y_eql rfl et ev_const) ?_
 refine nk (cif h et (fun hb h => ?_) (fun hb h => ?_))
 ·refine sr (sac ?_)
  refine sac ?_
  refine nk (c_ret ?_)
  obtain rfl := some_inj h
  exact q_ret (vs := [vi 0, vi 4]) Tryz.results148 ⟨ev_tmp rfl rfl, ⟨ev_tmp rfl rfl, trivial⟩⟩ (fq hI trivial)
 refine c_skip (k_same (sr (sm ?_)))
 refine sq (y_lss rfl et ev_const) ?_
 refine sm ?_
 refine sq (y_lss rfl et ev_const) ?_
 refine sq (y_neb rfl u4 et et) ?_
 obtain ⟨negative1, hx3, h⟩ := bnd_some h
 refine sq (binU (y_assign rfl et) (congrArg Value.bool (some_inj hx3))) ?_
 refine nk (sr (sm ?_))
 obtain ⟨r2, hx4, h⟩ := bnd_some h
 refine s_call gn rfl (r_callF (vs := [vi n1]) rfl ok_158 ⟨et, trivial⟩) (Calls.mono (c_round_magnitude (Dj F noM) w1 hI.lt n1 trivial r2 hx4) ?_)
 rintro _ w2 ⟨rfl, hx5, hl2⟩
 refine ⟨_, rfl, ?_⟩
 replace hI := (hI.ext hx5)
 refine sm ?_
 obtain ⟨r3, hx6, h⟩ := bnd_some h
 refine s_call gn rfl (r_callF (vs := [vi d1]) rfl ok_158 ⟨et, trivial⟩) (Calls.mono (c_round_magnitude (Dj F noM) w2 hI.lt d1 trivial r3 hx6) ?_)
 rintro _ w3 ⟨rfl, hx7, hl3⟩
 refine ⟨_, rfl, ?_⟩
 replace hI := (hI.ext hx7)
 refine sm ?_
 refine sm ?_
 obtain ⟨r4, hx8, h⟩ := bnd_some h
 refine s_call gn rfl (r_callF (vs := [(Value.int .u64 r2), (Value.int .u64 r3), vb negative1, vi how1]) rfl ok_157 ⟨et, ⟨et, ⟨et, ⟨et, trivial⟩⟩⟩⟩) (Calls.mono (c_round_rounded (Dj F noM) w3 hI.lt r2 r3 negative1 how1 trivial r4 hx8) ?_)
 rintro _ w4 ⟨rfl, hx9, hl4⟩
 refine ⟨_, rfl, ?_⟩
 replace hI := (hI.ext hx9)
 refine sa ?_
 refine nk (c_seq (sr (sm ?_)))
 refine nk (cif h et (fun hb h => ?_) (fun hb h => ?_))
 ·refine sr (sm ?_)
  refine sq (y_neg rfl et) ?_
  refine sq (y_conv rfl (by rw [u120]; rfl) u2 et) ?_
  refine sa ?_
  refine sac ?_
  refine s_nil ?_
  refine k_next (e := [(6, (vi (wi64 (wu64 (-r4))))), (7, vi 0)]) ⟨rfl, rfl, trivial⟩ ?_
  refine c_ret ?_
  obtain rfl := some_inj h
  exact q_ret (vs := [(vi (wi64 (wu64 (-r4)))), vi 0]) Tryz.results148 ⟨ev_tmp rfl rfl, ⟨ev_tmp rfl rfl, trivial⟩⟩ (fq hI trivial)
 refine c_skip (k_next (e := [(9, (Value.int .u64 r4))]) ⟨rfl, trivial⟩ ?_)
 refine c_seq (sr (sm ?_))
 refine sq (y_geq rfl et ev_const) ?_
 refine nk (cif h et (fun hb h => ?_) (fun hb h => ?_))
 ·refine sr (sac ?_)
  refine sac ?_
  refine nk (c_ret ?_)
  obtain rfl := some_inj h
  exact q_ret (vs := [vi 0, vi 3]) Tryz.results148 ⟨ev_tmp rfl rfl, ⟨ev_tmp rfl rfl, trivial⟩⟩ (fq hI trivial)
 refine c_skip (k_same (sr (sm ?_)))
 refine sq (y_conv rfl (by rw [u120]; rfl) u2 et) ?_
 refine sa ?_
 refine sac ?_
 refine nk (c_ret ?_)
 obtain rfl := some_inj h
 exact q_ret (vs := [vi (wi64 r4), vi 0]) Tryz.results148 ⟨ev_tmp rfl rfl, ⟨ev_tmp rfl rfl, trivial⟩⟩ (fq hI trivial)
theorem c_fixed_Mul_1 (F : NP) (w0 : World) (hF : ∀ k, F k → k < w0.heap.size) (t1 : GType) (x1 : Int) (y1 : Int) (hc : AllCl [] F w0) (r : Int × Int)
  (h : m_fixed_Mul_1 t1 x1 y1 = some r) :
  Calls Tryz.prog 147 #[(Value.agg (AType t1)), vi x1, vi y1] w0 fun e w => e = .returned (Value.tuple #[vi r.1, vi r.2]) ∧ Ext w0 w ∧ AllCl [] F w := by
 refine enterK Tryz.func147 rfl Tryz.ntmps147 rfl ?_
 have hI := Bun.start hF hc
 clear hc
 rw [m_fixed_Mul_1] at h
 refine sr (l_box (v := (Value.agg (AType t1))) (cs := (AType t1)) hI gn rfl rfl et rfl ?_)
 clear hI; intro b1 c1 w1 hI
 obtain ⟨c2, hI⟩ := hI.relBox .z
 refine sac ?_
 refine sac ?_
 refine nk (c_seq (c_drawX [] false (.c (0, .q) (.c (1, .q) (.c (2, .q) (.c (3, .q) (.c (4, .q) (.c (5, .q) (.c (6, .q) (.c (7, .q) (.c (8, .s) (.c (9, .q) (.c (10, .q) (.c (11, .q) (.c (12, .q) .n))))))))))))) hI (by kernel_rfl) (by kernel_rfl) ?_))
 clear hI; intro w2 hI
 refine a_q rfl gn rfl (fun w' => y_move rfl et) ?_
 refine a_q rfl gn rfl (fun w' => y_move rfl et) ?_
 refine a_q rfl gn rfl (fun w' => y_mul rfl et et) ?_
 refine a_q rfl gn rfl (fun w' => y_fieldAddr rfl et u23 rfl size_3 rfl) ?_
 refine a_read rfl gn rfl (fun w' hw' => (y_load1 (v := (vi t1.Frac)) rfl et u3 rfl ((hI.kblk (l := [vi t1.Frac]) .z rfl).at_ (SX.any rfl hw')))) (by kernel_rfl) ?_
 obtain ⟨ho1, h⟩ := chk_some h
 refine a_q rfl gn rfl (fun w' => y_shl rfl ev_const et ho1) ?_
 refine a_q rfl gn rfl (fun w' => y_fieldAddr rfl et u23 rfl size_3 rfl) ?_
 refine a_read rfl gn rfl (fun w' hw' => (y_load1 (v := (vi t1.Round)) rfl et u3 rfl ((hI.kblk (l := [vi t1.Round]) .z rfl).at_ (SX.any rfl hw')))) (by kernel_rfl) ?_
 obtain ⟨r1, hx1, h⟩ := bnd_some h
 refine la_call rfl gn rfl (r_callF (vs := [(vi (wi64 (x1 * y1))), (vi (wi64 (1 * 2 ^ (min (Int.toNat t1.Frac) 64)))), vi t1.Round]) rfl ok_148 ⟨et, ⟨et, ⟨et, trivial⟩⟩⟩) (Calls.mono (c_round_Divide (Dj F c2) w2 hI.lt (wi64 (x1 * y1)) (wi64 (1 * 2 ^ (min (Int.toNat t1.Frac) 64))) t1.Round trivial r1 hx1) ?_)
 rintro _ w3 ⟨rfl, hx2, hl1⟩
 refine ⟨_, rfl, hx2, ?_⟩
 replace hI := (hI.ext hx2)
 refine a_q rfl gn rfl (fun w' => y_extract rfl et rfl) ?_
 refine a_q rfl gn rfl (fun w' => y_extract rfl et rfl) ?_
 refine a_q rfl gn rfl (fun w' => y_assign rfl et) ?_
 refine a_q rfl gn rfl (fun w' => y_assign rfl et) ?_
 refine a_nil ?_
 refine k_same (c_ret ?_)
 obtain rfl := some_inj h
 exact q_ret (vs := [vi r1.1, vi r1.2]) Tryz.results147 ⟨ev_tmp rfl rfl, ⟨ev_tmp rfl rfl, trivial⟩⟩ (fq hI trivial)
theorem c_fixed_Mul (F : NP) (w0 : World) (hF : ∀ k, F k → k < w0.heap.size) (t1 : GType) (a1 : GVal) (b1 : GVal) (hc : AllCl [] F w0) (r : GVal × Int)
  (h : m_fixed_Mul t1 a1 b1 = some r) :
  Calls Tryz.prog 129 #[(Value.agg (AType t1)), (Value.agg (AVal a1)), (Value.agg (AVal b1))] w0 fun e w => e = .returned (Value.tuple #[(Value.agg (AVal r.1)), vi r.2]) ∧ Ext w0 w ∧ AllCl [] F w := by
 refine enterK Tryz.func129 rfl Tryz.ntmps129 rfl ?_
 have hI := Bun.start hF hc
 clear hc
 rw [m_fixed_Mul] at h
 refine sr (l_box (v := (Value.agg (AType t1))) (cs := (AType t1)) hI gn rfl rfl et rfl ?_)
 clear hI; intro b2 c1 w1 hI
 obtain ⟨c2, hI⟩ := hI.relBox .z
 refine l_box (v := (Value.agg (AVal a1))) (cs := (AVal a1)) hI gn rfl rfl et rfl ?_
 clear hI; intro b3 c3 w2 hI
 obtain ⟨c4, hI⟩ := hI.relBox .z
 refine l_box (v := (Value.agg (AVal b1))) (cs := (AVal b1)) hI gn rfl rfl et rfl ?_
 clear hI; intro b4 c5 w3 hI
 obtain ⟨c6, hI⟩ := hI.relBox .z
 refine l_alloc (cs := #[vi 0, vi 0]) hI gn rfl rfl zero_36 rfl ?_
 clear hI; intro b5 c7 w4 hI
 refine sac ?_
 refine nk (sr (sq (y_build (vs := [(0, (Value.func (.func 147) #[] #[]))]) (cs := #[(Value.func (.func 147) #[] #[])]) rfl ⟨rfl, ev_func, trivial⟩ (by kernel_rfl)) ?_))
 refine sq (y_loadN (l := (lType t1)) rfl et u23 rfl size_23 (hI.kblk (l := (lType t1)) (.s (.s .z)) rfl).1) ?_
 refine sq (y_loadN (l := (lVal a1)) rfl et u36 rfl size_36 (hI.kblk (l := (lVal a1)) (.s .z) rfl).1) ?_
 refine sq (y_loadN (l := (lVal b1)) rfl et u36 rfl size_36 (hI.kblk (l := (lVal b1)) .z rfl).1) ?_
 have hI := hI.add (c := clFn_k1 (Value.func (.func 147) #[] #[]) m_fixed_Mul_1) ⟨rfl, fun D' w' hs hl x_1 x_2 x_3 r k h => CallV.fn (cap := []) ok_147 (c_fixed_Mul_1 D' w' hl x_1 x_2 x_3 trivial r h)⟩
 obtain ⟨r1, hx1, h⟩ := bnd_some h
 refine s_call gn rfl (r_callF (vs := [(Value.agg #[(Value.func (.func 147) #[] #[])]), (Value.agg (AType t1)), (Value.agg (AVal a1)), (Value.agg (AVal b1))]) rfl ok_142 ⟨et, ⟨et, ⟨et, ⟨et, trivial⟩⟩⟩⟩) (Calls.mono (c_fixed_apply (Dj F c7) w4 hI.lt (⟨m_fixed_Mul_1⟩ : Gfixed_operation) t1 a1 b1 (Value.func (.func 147) #[] #[]) ⟨(hI.get .z), trivial⟩ r1 hx1) ?_)
 rintro _ w5 ⟨rfl, hx2, hl1⟩
 refine ⟨_, rfl, ?_⟩
 replace hI := (hI.ext hx2)
 refine sq (y_extract rfl et rfl) ?_
 refine sq (y_extract rfl et rfl) ?_
 refine l_store (new := (lVal r1.1)) (cs' := (AVal r1.1)) hI .z gn rfl rfl et et rfl size_36 rfl rfl rfl ?_
 clear hI; intro c8 w6 hI
 refine sa ?_
 refine nk (c_ret ?_)
 obtain rfl := some_inj h
 exact q_ret (vs := [(Value.agg (AVal r1.1)), vi r1.2]) Tryz.results129 ⟨⟨_, ev_tmp rfl rfl, load_agg (l := (lVal r1.1)) u36 rfl size_36 (CellsAt.of_blk (hI.blk .z) rfl)⟩, ⟨ev_tmp rfl rfl, trivial⟩⟩ (fq hI trivial)
theorem c_fixed_Div_1 (F : NP) (w0 : World) (hF : ∀ k, F k → k < w0.heap.size) (t1 : GType) (x1 : Int) (y1 : Int) (hc : AllCl [] F w0) (r : Int × Int)
  (h : m_fixed_Div_1 t1 x1 y1 = some r) :
  Calls Tryz.prog 149 #[(Value.agg (AType t1)), vi x1, vi y1] w0 fun e w => e = .returned (Value.tuple #[vi r.1, vi r.2]) ∧ Ext w0 w ∧ AllCl [] F w := by
 refine enterK Tryz.func149 rfl Tryz.ntmps149 rfl ?_
 have hI := Bun.start hF hc
 clear hc
 rw [m_fixed_Div_1] at h
 refine sr (l_box (v := (Value.agg (AType t1))) (cs := (AType t1)) hI gn rfl rfl et rfl ?_)
 clear hI; intro b1 c1 w1 hI
 obtain ⟨c2, hI⟩ := hI.relBox .z
 refine sac ?_
 refine sac ?_
 refine nk (c_seq (c_drawX [] false (.c (0, .q) (.c (1, .q) (.c (2, .q) (.c (3, .q) (.c (4, .q) (.c (5, .q) (.c (6, .q) (.c (7, .s) (.c (8, .q) (.c (9, .q) (.c (10, .q) (.c (11, .q) .n)))))))))))) hI (by kernel_rfl) (by kernel_rfl) ?_))
 clear hI; intro w2 hI
 refine a_q rfl gn rfl (fun w' => y_move rfl et) ?_
 refine a_q rfl gn rfl (fun w' => y_fieldAddr rfl et u23 rfl size_3 rfl) ?_
 refine a_read rfl gn rfl (fun w' hw' => (y_load1 (v := (vi t1.Frac)) rfl et u3 rfl ((hI.kblk (l := [vi t1.Frac]) .z rfl).at_ (SX.any rfl hw')))) (by kernel_rfl) ?_
 obtain ⟨ho1, h⟩ := chk_some h
 refine a_q rfl gn rfl (fun w' => y_shl rfl et et ho1) ?_
 refine a_q rfl gn rfl (fun w' => y_move rfl et) ?_
 refine a_q rfl gn rfl (fun w' => y_fieldAddr rfl et u23 rfl size_3 rfl) ?_
 refine a_read rfl gn rfl (fun w' hw' => (y_load1 (v := (vi t1.Round)) rfl et u3 rfl ((hI.kblk (l := [vi t1.Round]) .z rfl).at_ (SX.any rfl hw')))) (by kernel_rfl) ?_
 obtain ⟨r1, hx1, h⟩ := bnd_some h
 refine la_call rfl gn rfl (r_callF (vs := [(vi (wi64 (x1 * 2 ^ (min (Int.toNat t1.Frac) 64)))), vi y1, vi t1.Round]) rfl ok_148 ⟨et, ⟨et, ⟨et, trivial⟩⟩⟩) (Calls.mono (c_round_Divide (Dj F c2) w2 hI.lt (wi64 (x1 * 2 ^ (min (Int.toNat t1.Frac) 64))) y1 t1.Round trivial r1 hx1) ?_)
 rintro _ w3 ⟨rfl, hx2, hl1⟩
 refine ⟨_, rfl, hx2, ?_⟩
 replace hI := (hI.ext hx2)
 refine a_q rfl gn rfl (fun w' => y_extract rfl et rfl) ?_
 refine a_q rfl gn rfl (fun w' => y_extract rfl et rfl) ?_
 refine a_q rfl gn rfl (fun w' => y_assign rfl et) ?_
 refine a_q rfl gn rfl (fun w' => y_assign rfl et) ?_
 refine a_nil ?_
 refine k_same (c_ret ?_)
 obtain rfl := some_inj h
 exact q_ret (vs := [vi r1.1, vi r1.2]) Tryz.results149 ⟨ev_tmp rfl rfl, ⟨ev_tmp rfl rfl, trivial⟩⟩ (fq hI trivial)
theorem c_fixed_Div (F : NP) (w0 : World) (hF : ∀ k, F k → k < w0.heap.size) (t1 : GType) (a1 : GVal) (b1 : GVal) (hc : AllCl [] F w0) (r : GVal × Int)
  (h : m_fixed_Div t1 a1 b1 = some r) :
  Calls Tryz.prog 130 #[(Value.agg (AType t1)), (Value.agg (AVal a1)), (Value.agg (AVal b1))] w0 fun e w => e = .returned (Value.tuple #[(Value.agg (AVal r.1)), vi r.2]) ∧ Ext w0 w ∧ AllCl [] F w := by
 refine enterK Tryz.func130 rfl Tryz.ntmps130 rfl ?_
 have hI := Bun.start hF hc
 clear hc
 rw [m_fixed_Div] at h
 refine sr (l_box (v := (Value.agg (AType t1))) (cs := (AType t1)) hI gn rfl rfl et rfl ?_)
 clear hI; intro b2 c1 w1 hI
 obtain ⟨c2, hI⟩ := hI.relBox .z
 refine l_box (v := (Value.agg (AVal a1))) (cs := (AVal a1)) hI gn rfl rfl et rfl ?_
 clear hI; intro b3 c3 w2 hI
 obtain ⟨c4, hI⟩ := hI.relBox .z
 refine l_box (v := (Value.agg (AVal b1))) (cs := (AVal b1)) hI gn rfl rfl et rfl ?_
 clear hI; intro b4 c5 w3 hI
 obtain ⟨c6, hI⟩ := hI.relBox .z
 refine l_alloc (cs := #[vi 0, vi 0]) hI gn rfl rfl zero_36 rfl ?_
 clear hI; intro b5 c7 w4 hI
 refine sac ?_
 refine nk (sr (sq (y_build (vs := [(0, (Value.func (.func 149) #[] #[]))]) (cs := #[(Value.func (.func 149) #[] #[])]) rfl ⟨rfl, ev_func, trivial⟩ (by kernel_rfl)) ?_))
 refine sq (y_loadN (l := (lType t1)) rfl et u23 rfl size_23 (hI.kblk (l := (lType t1)) (.s (.s .z)) rfl).1) ?_
 refine sq (y_loadN (l := (lVal a1)) rfl et u36 rfl size_36 (hI.kblk (l := (lVal a1)) (.s .z) rfl).1) ?_
 refine sq (y_loadN (l := (lVal b1)) rfl et u36 rfl size_36 (hI.kblk (l := (lVal b1)) .z rfl).1) ?_
 have hI := hI.add (c := clFn_k1 (Value.func (.func 149) #[] #[]) m_fixed_Div_1) ⟨rfl, fun D' w' hs hl x_1 x_2 x_3 r k h => CallV.fn (cap := []) ok_149 (c_fixed_Div_1 D' w' hl x_1 x_2 x_3 trivial r h)⟩
 obtain ⟨r1, hx1, h⟩ := bnd_some h
 refine s_call gn rfl (r_callF (vs := [(Value.agg #[(Value.func (.func 149) #[] #[])]), (Value.agg (AType t1)), (Value.agg (AVal a1)), (Value.agg (AVal b1))]) rfl ok_142 ⟨et, ⟨et, ⟨et, ⟨et, trivial⟩⟩⟩⟩) (Calls.mono (c_fixed_apply (Dj F c7) w4 hI.lt (⟨m_fixed_Div_1⟩ : Gfixed_operation) t1 a1 b1 (Value.func (.func 149) #[] #[]) ⟨(hI.get .z), trivial⟩ r1 hx1) ?_)
 rintro _ w5 ⟨rfl, hx2, hl1⟩
 refine ⟨_, rfl, ?_⟩
 replace hI := (hI.ext hx2)
 refine sq (y_extract rfl et rfl) ?_
 refine sq (y_extract rfl et rfl) ?_
 refine l_store (new := (lVal r1.1)) (cs' := (AVal r1.1)) hI .z gn rfl rfl et et rfl size_36 rfl rfl rfl ?_
 clear hI; intro c8 w6 hI
 refine sa ?_
 refine nk (c_ret ?_)
 obtain rfl := some_inj h
 exact q_ret (vs := [(Value.agg (AVal r1.1)), vi r1.2]) Tryz.results130 ⟨⟨_, ev_tmp rfl rfl, load_agg (l := (lVal r1.1)) u36 rfl size_36 (CellsAt.of_blk (hI.blk .z) rfl)⟩, ⟨ev_tmp rfl rfl, trivial⟩⟩ (fq hI trivial)
theorem c_frac_New (F : NP) (w0 : World) (hF : ∀ k, F k → k < w0.heap.size) (n1 : Int) (d1 : Int) (hc : AllCl [] F w0) (r : GVal × Int)
  (h : m_frac_New n1 d1 = some r) :
  Calls Tryz.prog 150 #[vi n1, vi d1] w0 fun e w => e = .returned (Value.tuple #[(Value.agg (AVal r.1)), vi r.2]) ∧ Ext w0 w ∧ AllCl [] F w := by
 refine enterK Tryz.func150 rfl Tryz.ntmps150 rfl ?_
 have hI := Bun.start hF hc
 clear hc
 rw [m_frac_New] at h
 refine sr (l_alloc (cs := #[vi 0, vi 0]) hI gn rfl rfl zero_36 rfl ?_)
 clear hI; intro b1 c1 w1 hI
 refine sac ?_
 refine nk (c_seq (sr (sm ?_)))
 refine sq (y_eql rfl et ev_const) ?_
 refine nk (cif h et (fun hb h => ?_) (fun hb h => ?_))
 ·refine sr (sq (y_build (vs := []) (cs := #[vi 0, vi 0]) rfl trivial (by kernel_rfl)) ?_)
  refine l_store (new := [vi 0, vi 0]) (cs' := #[vi 0, vi 0]) hI .z gn rfl rfl et et rfl size_36 rfl rfl rfl ?_
  clear hI; intro c2 w2 hI
  refine sac ?_
  refine nk (c_ret ?_)
  obtain rfl := some_inj h
  exact q_ret (vs := [(Value.agg #[vi 0, vi 0]), vi 4]) Tryz.results150 ⟨⟨_, ev_tmp rfl rfl, load_agg (l := [vi 0, vi 0]) u36 rfl size_36 (CellsAt.of_blk (hI.blk .z) rfl)⟩, ⟨ev_tmp rfl rfl, trivial⟩⟩ (fq hI trivial)
 refine c_skip (k_same (sr (sm ?_)))
 refine sq (y_lss rfl et ev_const) ?_
 refine sm ?_
 refine sq (y_lss rfl et ev_const) ?_
 refine sq (y_neb rfl u4 et et) ?_
 obtain ⟨negative1, hx1, h⟩ := bnd_some h
 refine sq (binU (y_assign rfl et) (congrArg Value.bool (some_inj hx1))) ?_
 refine nk (sr (sm ?_))
 obtain ⟨r1, hx2, h⟩ := bnd_some h
 refine s_call gn rfl (r_callF (vs := [vi n1]) rfl ok_119 ⟨et, trivial⟩) (Calls.mono (c_frac_magnitude (Dj F c1) w1 hI.lt n1 trivial r1 hx2) ?_)
 rintro _ w3 ⟨rfl, hx3, hl1⟩
 refine ⟨_, rfl, ?_⟩
 replace hI := (hI.ext hx3)
 refine sm ?_
 obtain ⟨r2, hx4, h⟩ := bnd_some h
 refine s_call gn rfl (r_callF (vs := [vi d1]) rfl ok_119 ⟨et, trivial⟩) (Calls.mono (c_frac_magnitude (Dj F c1) w3 hI.lt d1 trivial r2 hx4) ?_)
 rintro _ w4 ⟨rfl, hx5, hl2⟩
 refine ⟨_, rfl, ?_⟩
 replace hI := (hI.ext hx5)
 refine sa ?_
 refine sa ?_
 refine nk (sr (sm ?_))
 refine sm ?_
 obtain ⟨r3, hx6, h⟩ := bnd_some h
 refine s_call gn rfl (r_callF (vs := [(Value.int .u64 r1), (Value.int .u64 r2)]) rfl ok_118 ⟨et, ⟨et, trivial⟩⟩) (Calls.mono (c_frac_gcd (Dj F c1) w4 hI.lt r1 r2 trivial r3 hx6) ?_)
 rintro _ w5 ⟨rfl, hx7, hl3⟩
 refine ⟨_, rfl, ?_⟩
 replace hI := (hI.ext hx7)
 refine sa ?_
 refine nk (c_seq (c_drawX [] false (.c (0, .q) (.c (1, .q) (.c (2, .q) (.c (3, .q) (.c (4, .q) (.c (5, .q) (.c (6, .q) (.c (7, .q) .n)))))))) hI (by kernel_rfl) (by kernel_rfl) ?_))
 clear hI; intro w6 hI
 refine a_q rfl gn rfl (fun w' => y_move rfl et) ?_
 refine a_q rfl gn rfl (fun w' => y_move rfl et) ?_
 obtain ⟨ho1, h⟩ := chk_some h
 refine a_q rfl gn rfl (fun w' => y_quo rfl et et ho1) ?_
 refine a_q rfl gn rfl (fun w' => y_move rfl et) ?_
 refine a_q rfl gn rfl (fun w' => y_move rfl et) ?_
 refine a_q rfl gn rfl (fun w' => y_quo rfl et et ho1) ?_
 refine a_q rfl gn rfl (fun w' => y_assign rfl et) ?_
 refine a_q rfl gn rfl (fun w' => y_assign rfl et) ?_
 refine a_nil ?_
 refine k_next (e := [(4, vp b1 0), (6, vb negative1), (7, (Value.int .u64 (wu64 (Int.tdiv r1 r3)))), (8, (Value.int .u64 (wu64 (Int.tdiv r2 r3))))]) ⟨rfl, rfl, rfl, rfl, trivial⟩ ?_
 refine c_seq (sr (sm ?_))
 refine sq (y_gtr rfl et ev_const) ?_
 refine sm ?_
 refine s_gval (g_false rfl rfl rfl rfl) rfl (fun hc => y_move rfl et) ?_
 refine s_gval (g_false rfl rfl rfl rfl) rfl (fun hc => y_gtr rfl (ev_gv et hc) ev_const) ?_
 refine sq (y_or rfl et et) ?_
 refine nk (cif h et (fun hb h => ?_) (fun hb h => ?_))
 ·refine sr (sq (y_build (vs := []) (cs := #[vi 0, vi 0]) rfl trivial (by kernel_rfl)) ?_)
  refine l_store (new := [vi 0, vi 0]) (cs' := #[vi 0, vi 0]) hI .z gn rfl rfl et et rfl size_36 rfl rfl rfl ?_
  clear hI; intro c3 w7 hI
  refine sac ?_
  refine nk (c_ret ?_)
  obtain rfl := some_inj h
  exact q_ret (vs := [(Value.agg #[vi 0, vi 0]), vi 3]) Tryz.results150 ⟨⟨_, ev_tmp rfl rfl, load_agg (l := [vi 0, vi 0]) u36 rfl size_36 (CellsAt.of_blk (hI.blk .z) rfl)⟩, ⟨ev_tmp rfl rfl, trivial⟩⟩ (fq hI trivial)
 refine c_skip (k_same (c_seq (sr (sm ?_))))
 refine nk (cif h et (fun hb h => ?_) (fun hb h => ?_))
 ·refine sr (sm ?_)
  refine sq (y_conv rfl (by rw [u120]; rfl) u2 et) ?_
  refine sq (y_neg rfl et) ?_
  refine sm ?_
  refine sq (y_conv rfl (by rw [u120]; rfl) u2 et) ?_
  refine sq (y_build (vs := [(0, (vi (wi64 (-(wi64 (wu64 (Int.tdiv r1 r3))))))), (1, (vi (wi64 (wu64 (Int.tdiv r2 r3)))))]) (cs := #[(vi (wi64 (-(wi64 (wu64 (Int.tdiv r1 r3)))))), (vi (wi64 (wu64 (Int.tdiv r2 r3))))]) rfl ⟨rfl, et, ⟨rfl, et, trivial⟩⟩ (by kernel_rfl)) ?_
  refine l_store (new := [(vi (wi64 (-(wi64 (wu64 (Int.tdiv r1 r3)))))), (vi (wi64 (wu64 (Int.tdiv r2 r3))))]) (cs' := #[(vi (wi64 (-(wi64 (wu64 (Int.tdiv r1 r3)))))), (vi (wi64 (wu64 (Int.tdiv r2 r3))))]) hI .z gn rfl rfl et et rfl size_36 rfl rfl rfl ?_
  clear hI; intro c4 w8 hI
  refine sac ?_
  refine nk (c_ret ?_)
  obtain rfl := some_inj h
  exact q_ret (vs := [(Value.agg #[(vi (wi64 (-(wi64 (wu64 (Int.tdiv r1 r3)))))), (vi (wi64 (wu64 (Int.tdiv r2 r3))))]), vi 0]) Tryz.results150 ⟨⟨_, ev_tmp rfl rfl, load_agg (l := [(vi (wi64 (-(wi64 (wu64 (Int.tdiv r1 r3)))))), (vi (wi64 (wu64 (Int.tdiv r2 r3))))]) u36 rfl size_36 (CellsAt.of_blk (hI.blk .z) rfl)⟩, ⟨ev_tmp rfl rfl, trivial⟩⟩ (fq hI trivial)
 refine c_skip (k_same (sr (sm ?_)))
 refine sq (y_conv rfl (by rw [u120]; rfl) u2 et) ?_
 refine sm ?_
 refine sq (y_conv rfl (by rw [u120]; rfl) u2 et) ?_
 refine sq (y_build (vs := [(0, (vi (wi64 (wu64 (Int.tdiv r1 r3))))), (1, (vi (wi64 (wu64 (Int.tdiv r2 r3)))))]) (cs := #[(vi (wi64 (wu64 (Int.tdiv r1 r3)))), (vi (wi64 (wu64 (Int.tdiv r2 r3))))]) rfl ⟨rfl, et, ⟨rfl, et, trivial⟩⟩ (by kernel_rfl)) ?_
 refine l_store (new := [(vi (wi64 (wu64 (Int.tdiv r1 r3)))), (vi (wi64 (wu64 (Int.tdiv r2 r3))))]) (cs' := #[(vi (wi64 (wu64 (Int.tdiv r1 r3)))), (vi (wi64 (wu64 (Int.tdiv r2 r3))))]) hI .z gn rfl rfl et et rfl size_36 rfl rfl rfl ?_
 clear hI; intro c5 w9 hI
 refine sac ?_
 refine nk (c_ret ?_)
 obtain rfl := some_inj h
 exact q_ret (vs := [(Value.agg #[(vi (wi64 (wu64 (Int.tdiv r1 r3)))), (vi (wi64 (wu64 (Int.tdiv r2 r3))))]), vi 0]) Tryz.results150 ⟨⟨_, ev_tmp rfl rfl, load_agg (l := [(vi (wi64 (wu64 (Int.tdiv r1 r3)))), (vi (wi64 (wu64 (Int.tdiv r2 r3))))]) u36 rfl size_36 (CellsAt.of_blk (hI.blk .z) rfl)⟩, ⟨ev_tmp rfl rfl, trivial⟩⟩ (fq hI trivial)
theorem c_frac_Add (F : NP) (w0 : World) (hF : ∀ k, F k → k < w0.heap.size) (a1 : GVal) (b1 : GVal) (hc : AllCl [] F w0) (r : GVal × Int)
  (h : m_frac_Add a1 b1 = some r) :
  Calls Tryz.prog 131 #[(Value.agg (AVal a1)), (Value.agg (AVal b1))] w0 fun e w => e = .returned (Value.tuple #[(Value.agg (AVal r.1)), vi r.2]) ∧ Ext w0 w ∧ AllCl [] F w := by
 refine enterK Tryz.func131 rfl Tryz.ntmps131 rfl ?_
 have hI := Bun.start hF hc
 clear hc
 rw [m_frac_Add] at h
 refine sr (l_box (v := (Value.agg (AVal a1))) (cs := (AVal a1)) hI gn rfl rfl et rfl ?_)
 clear hI; intro b2 c1 w1 hI
 obtain ⟨c2, hI⟩ := hI.relBox .z
 refine l_box (v := (Value.agg (AVal b1))) (cs := (AVal b1)) hI gn rfl rfl et rfl ?_
 clear hI; intro b3 c3 w2 hI
 obtain ⟨c4, hI⟩ := hI.relBox .z
 refine l_alloc (cs := #[vi 0, vi 0]) hI gn rfl rfl zero_36 rfl ?_
 clear hI; intro b4 c5 w3 hI
 refine sac ?_
 refine nk (c_seq (sr (sq (y_loadN (l := (lVal a1)) rfl et u36 rfl size_36 (hI.kblk (l := (lVal a1)) (.s .z) rfl).1) ?_)))
 obtain ⟨r1, hx1, h⟩ := bnd_some h
 refine s_call gn rfl (r_callF (vs := [(Value.agg (AVal a1))]) rfl ok_91 ⟨et, trivial⟩) (Calls.mono (c_frac_Valid (Dj F c5) w3 hI.lt a1 trivial r1 hx1) ?_)
 rintro _ w4 ⟨rfl, hx2, hl1⟩
 refine ⟨_, rfl, ?_⟩
 replace hI := (hI.ext hx2)
 refine sq (y_not rfl et) ?_
 refine sm ?_
 refine s_gval (g_false rfl rfl rfl rfl) rfl (fun hc => (y_loadN (l := (lVal b1)) rfl et u36 rfl size_36 (hI.kblk (l := (lVal b1)) .z rfl).1)) ?_
 obtain ⟨r2, hx3, h⟩ := bnd_some h
 replace hx3 := gd_some hx3
 refine s_gcallU (v := (vb r2)) (g_false rfl rfl rfl rfl) rfl (fun hc => (r_callF (vs := [(Value.agg (AVal b1))]) rfl ok_91 ⟨(ev_gv et hc), trivial⟩)) (fun hc => (c_frac_Valid (Dj F c5) w4 hI.lt b1 trivial r2 (hx3 hc)).mono fun _ _ k => ⟨k.1, k.2.1⟩) ?_
 intro w5 hx4; replace hI := hI.ext hx4
 refine s_gval (g_false rfl rfl rfl rfl) rfl (fun hc => y_not rfl (ev_gv et hc)) ?_
 refine sq (y_or rfl et et) ?_
 refine nk (cif h et (fun hb h => ?_) (fun hb h => ?_))
 ·refine sr (sq (y_build (vs := []) (cs := #[vi 0, vi 0]) rfl trivial (by kernel_rfl)) ?_)
  refine l_store (new := [vi 0, vi 0]) (cs' := #[vi 0, vi 0]) hI .z gn rfl rfl et et rfl size_36 rfl rfl rfl ?_
  clear hI; intro c6 w6 hI
  refine sac ?_
  refine nk (c_ret ?_)
  obtain rfl := some_inj h
  exact q_ret (vs := [(Value.agg #[vi 0, vi 0]), vi 1]) Tryz.results131 ⟨⟨_, ev_tmp rfl rfl, load_agg (l := [vi 0, vi 0]) u36 rfl size_36 (CellsAt.of_blk (hI.blk .z) rfl)⟩, ⟨ev_tmp rfl rfl, trivial⟩⟩ (fq hI trivial)
 refine c_skip (k_same (sr (sq (y_fieldAddr rfl et u36 rfl size_2 rfl) ?_)))
 refine sq (y_load1 (v := (vi a1.N)) rfl et u2 rfl (hI.kblk (l := [vi a1.N]) (.s .z) rfl).1) ?_
 refine sq (y_fieldAddr rfl et u36 rfl size_2 rfl) ?_
 refine sq (y_load1 (v := (vi b1.D)) rfl et u2 rfl (hI.kblk (l := [vi b1.D]) .z rfl).1) ?_
 refine sq (y_mul rfl et et) ?_
 refine sq (y_fieldAddr rfl et u36 rfl size_2 rfl) ?_
 refine sq (y_load1 (v := (vi b1.N)) rfl et u2 rfl (hI.kblk (l := [vi b1.N]) .z rfl).1) ?_
 refine sq (y_fieldAddr rfl et u36 rfl size_2 rfl) ?_
 refine sq (y_load1 (v := (vi a1.D)) rfl et u2 rfl (hI.kblk (l := [vi a1.D]) (.s .z) rfl).1) ?_
 refine sq (y_mul rfl et et) ?_
 refine sq (y_add rfl et et) ?_
 refine sq (y_fieldAddr rfl et u36 rfl size_2 rfl) ?_
 refine sq (y_load1 (v := (vi a1.D)) rfl et u2 rfl (hI.kblk (l := [vi a1.D]) (.s .z) rfl).1) ?_
 refine sq (y_fieldAddr rfl et u36 rfl size_2 rfl) ?_
 refine sq (y_load1 (v := (vi b1.D)) rfl et u2 rfl (hI.kblk (l := [vi b1.D]) .z rfl).1) ?_
 refine sq (y_mul rfl et et) ?_
 obtain ⟨r3, hx5, h⟩ := bnd_some h
 refine s_call gn rfl (r_callF (vs := [(vi (wi64 ((wi64 (a1.N * b1.D)) + (wi64 (b1.N * a1.D))))), (vi (wi64 (a1.D * b1.D)))]) rfl ok_150 ⟨et, ⟨et, trivial⟩⟩) (Calls.mono (c_frac_New (Dj F c5) w5 hI.lt (wi64 ((wi64 (a1.N * b1.D)) + (wi64 (b1.N * a1.D)))) (wi64 (a1.D * b1.D)) trivial r3 hx5) ?_)
 rintro _ w7 ⟨rfl, hx6, hl3⟩
 refine ⟨_, rfl, ?_⟩
 replace hI := (hI.ext hx6)
 refine sq (y_extract rfl et rfl) ?_
 refine sq (y_extract rfl et rfl) ?_
 refine l_store (new := (lVal r3.1)) (cs' := (AVal r3.1)) hI .z gn rfl rfl et et rfl size_36 rfl rfl rfl ?_
 clear hI; intro c7 w8 hI
 refine sa ?_
 refine s_nil ?_
 refine k_next (e := [(4, vp b4 0), (5, vi r3.2)]) ⟨rfl, rfl, trivial⟩ ?_
 refine c_ret ?_
 obtain rfl := some_inj h
 exact q_ret (vs := [(Value.agg (AVal r3.1)), vi r3.2]) Tryz.results131 ⟨⟨_, ev_tmp rfl rfl, load_agg (l := (lVal r3.1)) u36 rfl size_36 (CellsAt.of_blk (hI.blk .z) rfl)⟩, ⟨ev_tmp rfl rfl, trivial⟩⟩ (fq hI trivial)
theorem c_frac_Sub (F : NP) (w0 : World) (hF : ∀ k, F k → k < w0.heap.size) (a1 : GVal) (b1 : GVal) (hc : AllCl [] F w0) (r : GVal × Int)
  (h : m_frac_Sub a1 b1 = some r) :
  Calls Tryz.prog 132 #[(Value.agg (AVal a1)), (Value.agg (AVal b1))] w0 fun e w => e = .returned (Value.tuple #[(Value.agg (AVal r.1)), vi r.2]) ∧ Ext w0 w ∧ AllCl [] F w := by
 refine enterK Tryz.func132 rfl Tryz.ntmps132 rfl ?_
 have hI := Bun.start hF hc
 clear hc
 rw [m_frac_Sub] at h
 refine sr (l_box (v := (Value.agg (AVal a1))) (cs := (AVal a1)) hI gn rfl rfl et rfl ?_)
 clear hI; intro b2 c1 w1 hI
 obtain ⟨c2, hI⟩ := hI.relBox .z
 refine l_box (v := (Value.agg (AVal b1))) (cs := (AVal b1)) hI gn rfl rfl et rfl ?_
 clear hI; intro b3 c3 w2 hI
 obtain ⟨c4, hI⟩ := hI.relBox .z
 refine l_alloc (cs := #[vi 0, vi 0]) hI gn rfl rfl zero_36 rfl ?_
 clear hI; intro b4 c5 w3 hI
 refine sac ?_
 refine nk (c_seq (sr (sq (y_loadN (l := (lVal a1)) rfl et u36 rfl size_36 (hI.kblk (l := (lVal a1)) (.s .z) rfl).1) ?_)))
 obtain ⟨r1, hx1, h⟩ := bnd_some h
 refine s_call gn rfl (r_callF (vs := [(Value.agg (AVal a1))]) rfl ok_91 ⟨et, trivial⟩) (Calls.mono (c_frac_Valid (Dj F c5) w3 hI.lt a1 trivial r1 hx1) ?_)
 rintro _ w4 ⟨rfl, hx2, hl1⟩
 refine ⟨_, rfl, ?_⟩
 replace hI := (hI.ext hx2)
 refine sq (y_not rfl et) ?_
 refine sm ?_
 refine s_gval (g_false rfl rfl rfl rfl) rfl (fun hc => (y_loadN (l := (lVal b1)) rfl et u36 rfl size_36 (hI.kblk (l := (lVal b1)) .z rfl).1)) ?_
 obtain ⟨r2, hx3, h⟩ := bnd_some h
 replace hx3 := gd_some hx3
 refine s_gcallU (v := (vb r2)) (g_false rfl rfl rfl rfl) rfl (fun hc => (r_callF (vs := [(Value.agg (AVal b1))]) rfl ok_91 ⟨(ev_gv et hc), trivial⟩)) (fun hc => (c_frac_Valid (Dj F c5) w4 hI.lt b1 trivial r2 (hx3 hc)).mono fun _ _ k => ⟨k.1, k.2.1⟩) ?_
 intro w5 hx4; replace hI := hI.ext hx4
 refine s_gval (g_false rfl rfl rfl rfl) rfl (fun hc => y_not rfl (ev_gv et hc)) ?_
 refine sq (y_or rfl et et) ?_
 refine nk (cif h et (fun hb h => ?_) (fun hb h => ?_))
 ·refine sr (sq (y_build (vs := []) (cs := #[vi 0, vi 0]) rfl trivial (by kernel_rfl)) ?_)
  refine l_store (new := [vi 0, vi 0]) (cs' := #[vi 0, vi 0]) hI .z gn rfl rfl et et rfl size_36 rfl rfl rfl ?_
  clear hI; intro c6 w6 hI
  refine sac ?_
  refine nk (c_ret ?_)
  obtain rfl := some_inj h
  exact q_ret (vs := [(Value.agg #[vi 0, vi 0]), vi 1]) Tryz.results132 ⟨⟨_, ev_tmp rfl rfl, load_agg (l := [vi 0, vi 0]) u36 rfl size_36 (CellsAt.of_blk (hI.blk .z) rfl)⟩, ⟨ev_tmp rfl rfl, trivial⟩⟩ (fq hI trivial)
 refine c_skip (k_same (sr (sq (y_fieldAddr rfl et u36 rfl size_2 rfl) ?_)))
 refine sq (y_load1 (v := (vi a1.N)) rfl et u2 rfl (hI.kblk (l := [vi a1.N]) (.s .z) rfl).1) ?_
 refine sq (y_fieldAddr rfl et u36 rfl size_2 rfl) ?_
 refine sq (y_load1 (v := (vi b1.D)) rfl et u2 rfl (hI.kblk (l := [vi b1.D]) .z rfl).1) ?_
 refine sq (y_mul rfl et et) ?_
 refine sq (y_fieldAddr rfl et u36 rfl size_2 rfl) ?_
 refine sq (y_load1 (v := (vi b1.N)) rfl et u2 rfl (hI.kblk (l := [vi b1.N]) .z rfl).1) ?_
 refine sq (y_fieldAddr rfl et u36 rfl size_2 rfl) ?_
 refine sq (y_load1 (v := (vi a1.D)) rfl et u2 rfl (hI.kblk (l := [vi a1.D]) (.s .z) rfl).1) ?_
 refine sq (y_mul rfl et et) ?_
 refine sq (y_sub rfl et et) ?_
 refine sq (y_fieldAddr rfl et u36 rfl size_2 rfl) ?_
 refine sq (y_load1 (v := (vi a1.D)) rfl et u2 rfl (hI.kblk (l := [vi a1.D]) (.s .z) rfl).1) ?_
 refine sq (y_fieldAddr rfl et u36 rfl size_2 rfl) ?_
 refine sq (y_load1 (v := (vi b1.D)) rfl et u2 rfl (hI.kblk (l := [vi b1.D]) .z rfl).1) ?_
 refine sq (y_mul rfl et et) ?_
 obtain ⟨r3, hx5, h⟩ := bnd_some h
 refine s_call gn rfl (r_callF (vs := [(vi (wi64 ((wi64 (a1.N * b1.D)) - (wi64 (b1.N * a1.D))))), (vi (wi64 (a1.D * b1.D)))]) rfl ok_150 ⟨et, ⟨et, trivial⟩⟩) (Calls.mono (c_frac_New (Dj F c5) w5 hI.lt (wi64 ((wi64 (a1.N * b1.D)) - (wi64 (b1.N * a1.D)))) (wi64 (a1.D * b1.D)) trivial r3 hx5) ?_)
 rintro _ w7 ⟨rfl, hx6, hl3⟩
 refine ⟨_, rfl, ?_⟩
 replace hI := (hI.ext hx6)
 refine sq (y_extract rfl et rfl) ?_
 refine sq (y_extract rfl et rfl) ?_
 refine l_store (new := (lVal r3.1)) (cs' := (AVal r3.1)) hI .z gn rfl rfl et et rfl size_36 rfl rfl rfl ?_
 clear hI; intro c7 w8 hI
 refine sa ?_
 refine s_nil ?_
 refine k_next (e := [(4, vp b4 0), (5, vi r3.2)]) ⟨rfl, rfl, trivial⟩ ?_
 refine c_ret ?_
 obtain rfl := some_inj h
 exact q_ret (vs := [(Value.agg (AVal r3.1)), vi r3.2]) Tryz.results132 ⟨⟨_, ev_tmp rfl rfl, load_agg (l := (lVal r3.1)) u36 rfl size_36 (CellsAt.of_blk (hI.blk .z) rfl)⟩, ⟨ev_tmp rfl rfl, trivial⟩⟩ (fq hI trivial)
theorem c_frac_Mul (F : NP) (w0 : World) (hF : ∀ k, F k → k < w0.heap.size) (a1 : GVal) (b1 : GVal) (hc : AllCl [] F w0) (r : GVal × Int)
  (h : m_frac_Mul a1 b1 = some r) :
  Calls Tryz.prog 133 #[(Value.agg (AVal a1)), (Value.agg (AVal b1))] w0 fun e w => e = .returned (Value.tuple #[(Value.agg (AVal r.1)), vi r.2]) ∧ Ext w0 w ∧ AllCl [] F w := by
 refine enterK Tryz.func133 rfl Tryz.ntmps133 rfl ?_
 have hI := Bun.start hF hc
 clear hc
 rw [m_frac_Mul] at h
 refine sr (l_box (v := (Value.agg (AVal a1))) (cs := (AVal a1)) hI gn rfl rfl et rfl ?_)
 clear hI; intro b2 c1 w1 hI
 obtain ⟨c2, hI⟩ := hI.relBox .z
 refine l_box (v := (Value.agg (AVal b1))) (cs := (AVal b1)) hI gn rfl rfl et rfl ?_
 clear hI; intro b3 c3 w2 hI
 obtain ⟨c4, hI⟩ := hI.relBox .z
 refine l_alloc (cs := #[vi 0, vi 0]) hI gn rfl rfl zero_36 rfl ?_
 clear hI; intro b4 c5 w3 hI
 refine sac ?_
 refine nk (c_seq (sr (sq (y_loadN (l := (lVal a1)) rfl et u36 rfl size_36 (hI.kblk (l := (lVal a1)) (.s .z) rfl).1) ?_)))
 obtain ⟨r1, hx1, h⟩ := bnd_some h
 refine s_call gn rfl (r_callF (vs := [(Value.agg (AVal a1))]) rfl ok_91 ⟨et, trivial⟩) (Calls.mono (c_frac_Valid (Dj F c5) w3 hI.lt a1 trivial r1 hx1) ?_)
 rintro _ w4 ⟨rfl, hx2, hl1⟩
 refine ⟨_, rfl, ?_⟩
 replace hI := (hI.ext hx2)
 refine sq (y_not rfl et) ?_
 refine sm ?_
 refine s_gval (g_false rfl rfl rfl rfl) rfl (fun hc => (y_loadN (l := (lVal b1)) rfl et u36 rfl size_36 (hI.kblk (l := (lVal b1)) .z rfl).1)) ?_
 obtain ⟨r2, hx3, h⟩ := bnd_some h
 replace hx3 := gd_some hx3
 refine s_gcallU (v := (vb r2)) (g_false rfl rfl rfl rfl) rfl (fun hc => (r_callF (vs := [(Value.agg (AVal b1))]) rfl ok_91 ⟨(ev_gv et hc), trivial⟩)) (fun hc => (c_frac_Valid (Dj F c5) w4 hI.lt b1 trivial r2 (hx3 hc)).mono fun _ _ k => ⟨k.1, k.2.1⟩) ?_
 intro w5 hx4; replace hI := hI.ext hx4
 refine s_gval (g_false rfl rfl rfl rfl) rfl (fun hc => y_not rfl (ev_gv et hc)) ?_
 refine sq (y_or rfl et et) ?_
 refine nk (cif h et (fun hb h => ?_) (fun hb h => ?_))
 ·refine sr (sq (y_build (vs := []) (cs := #[vi 0, vi 0]) rfl trivial (by kernel_rfl)) ?_)
  refine l_store (new := [vi 0, vi 0]) (cs' := #[vi 0, vi 0]) hI .z gn rfl rfl et et rfl size_36 rfl rfl rfl ?_
  clear hI; intro c6 w6 hI
  refine sac ?_
  refine nk (c_ret ?_)
  obtain rfl := some_inj h
  exact q_ret (vs := [(Value.agg #[vi 0, vi 0]), vi 1]) Tryz.results133 ⟨⟨_, ev_tmp rfl rfl, load_agg (l := [vi 0, vi 0]) u36 rfl size_36 (CellsAt.of_blk (hI.blk .z) rfl)⟩, ⟨ev_tmp rfl rfl, trivial⟩⟩ (fq hI trivial)
 refine c_skip (k_same (sr (sq (y_fieldAddr rfl et u36 rfl size_2 rfl) ?_)))
 refine sq (y_load1 (v := (vi a1.N)) rfl et u2 rfl (hI.kblk (l := [vi a1.N]) (.s .z) rfl).1) ?_
 refine sq (y_fieldAddr rfl et u36 rfl size_2 rfl) ?_
 refine sq (y_load1 (v := (vi b1.N)) rfl et u2 rfl (hI.kblk (l := [vi b1.N]) .z rfl).1) ?_
 refine sq (y_mul rfl et et) ?_
 refine sq (y_fieldAddr rfl et u36 rfl size_2 rfl) ?_
 refine sq (y_load1 (v := (vi a1.D)) rfl et u2 rfl (hI.kblk (l := [vi a1.D]) (.s .z) rfl).1) ?_
 refine sq (y_fieldAddr rfl et u36 rfl size_2 rfl) ?_
 refine sq (y_load1 (v := (vi b1.D)) rfl et u2 rfl (hI.kblk (l := [vi b1.D]) .z rfl).1) ?_
 refine sq (y_mul rfl et et) ?_
 obtain ⟨r3, hx5, h⟩ := bnd_some h
 refine s_call gn rfl (r_callF (vs := [(vi (wi64 (a1.N * b1.N))), (vi (wi64 (a1.D * b1.D)))]) rfl ok_150 ⟨et, ⟨et, trivial⟩⟩) (Calls.mono (c_frac_New (Dj F c5) w5 hI.lt (wi64 (a1.N * b1.N)) (wi64 (a1.D * b1.D)) trivial r3 hx5) ?_)
 rintro _ w7 ⟨rfl, hx6, hl3⟩
 refine ⟨_, rfl, ?_⟩
 replace hI := (hI.ext hx6)
 refine sq (y_extract rfl et rfl) ?_
 refine sq (y_extract rfl et rfl) ?_
 refine l_store (new := (lVal r3.1)) (cs' := (AVal r3.1)) hI .z gn rfl rfl et et rfl size_36 rfl rfl rfl ?_
 clear hI; intro c7 w8 hI
 refine sa ?_
 refine s_nil ?_
 refine k_next (e := [(4, vp b4 0), (5, vi r3.2)]) ⟨rfl, rfl, trivial⟩ ?_
 refine c_ret ?_
 obtain rfl := some_inj h
 exact q_ret (vs := [(Value.agg (AVal r3.1)), vi r3.2]) Tryz.results133 ⟨⟨_, ev_tmp rfl rfl, load_agg (l := (lVal r3.1)) u36 rfl size_36 (CellsAt.of_blk (hI.blk .z) rfl)⟩, ⟨ev_tmp rfl rfl, trivial⟩⟩ (fq hI trivial)
theorem c_frac_Div (F : NP) (w0 : World) (hF : ∀ k, F k → k < w0.heap.size) (a1 : GVal) (b1 : GVal) (hc : AllCl [] F w0) (r : GVal × Int)
  (h : m_frac_Div a1 b1 = some r) :
  Calls Tryz.prog 134 #[(Value.agg (AVal a1)), (Value.agg (AVal b1))] w0 fun e w => e = .returned (Value.tuple #[(Value.agg (AVal r.1)), vi r.2]) ∧ Ext w0 w ∧ AllCl [] F w := by
 refine enterK Tryz.func134 rfl Tryz.ntmps134 rfl ?_
 have hI := Bun.start hF hc
 clear hc
 rw [m_frac_Div] at h
 refine sr (l_box (v := (Value.agg (AVal a1))) (cs := (AVal a1)) hI gn rfl rfl et rfl ?_)
 clear hI; intro b2 c1 w1 hI
 obtain ⟨c2, hI⟩ := hI.relBox .z
 refine l_box (v := (Value.agg (AVal b1))) (cs := (AVal b1)) hI gn rfl rfl et rfl ?_
 clear hI; intro b3 c3 w2 hI
 obtain ⟨c4, hI⟩ := hI.relBox .z
 refine l_alloc (cs := #[vi 0, vi 0]) hI gn rfl rfl zero_36 rfl ?_
 clear hI; intro b4 c5 w3 hI
 refine sac ?_
 refine nk (c_seq (sr (sq (y_loadN (l := (lVal a1)) rfl et u36 rfl size_36 (hI.kblk (l := (lVal a1)) (.s .z) rfl).1) ?_)))
 obtain ⟨r1, hx1, h⟩ := bnd_some h
 refine s_call gn rfl (r_callF (vs := [(Value.agg (AVal a1))]) rfl ok_91 ⟨et, trivial⟩) (Calls.mono (c_frac_Valid (Dj F c5) w3 hI.lt a1 trivial r1 hx1) ?_)
 rintro _ w4 ⟨rfl, hx2, hl1⟩
 refine ⟨_, rfl, ?_⟩
 replace hI := (hI.ext hx2)
 refine sq (y_not rfl et) ?_
 refine sm ?_
 refine s_gval (g_false rfl rfl rfl rfl) rfl (fun hc => (y_loadN (l := (lVal b1)) rfl et u36 rfl size_36 (hI.kblk (l := (lVal b1)) .z rfl).1)) ?_
 obtain ⟨r2, hx3, h⟩ := bnd_some h
 replace hx3 := gd_some hx3
 refine s_gcallU (v := (vb r2)) (g_false rfl rfl rfl rfl) rfl (fun hc => (r_callF (vs := [(Value.agg (AVal b1))]) rfl ok_91 ⟨(ev_gv et hc), trivial⟩)) (fun hc => (c_frac_Valid (Dj F c5) w4 hI.lt b1 trivial r2 (hx3 hc)).mono fun _ _ k => ⟨k.1, k.2.1⟩) ?_
 intro w5 hx4; replace hI := hI.ext hx4
 refine s_gval (g_false rfl rfl rfl rfl) rfl (fun hc => y_not rfl (ev_gv et hc)) ?_
 refine sq (y_or rfl et et) ?_
 refine nk (cif h et (fun hb h => ?_) (fun hb h => ?_))
 ·refine sr (sq (y_build (vs := []) (cs := #[vi 0, vi 0]) rfl trivial (by kernel_rfl)) ?_)
  refine l_store (new := [vi 0, vi 0]) (cs' := #[vi 0, vi 0]) hI .z gn rfl rfl et et rfl size_36 rfl rfl rfl ?_
  clear hI; intro c6 w6 hI
  refine sac ?_
  refine nk (c_ret ?_)
  obtain rfl := some_inj h
  exact q_ret (vs := [(Value.agg #[vi 0, vi 0]), vi 1]) Tryz.results134 ⟨⟨_, ev_tmp rfl rfl, load_agg (l := [vi 0, vi 0]) u36 rfl size_36 (CellsAt.of_blk (hI.blk .z) rfl)⟩, ⟨ev_tmp rfl rfl, trivial⟩⟩ (fq hI trivial)
 refine c_skip (k_same (sr (sq (y_fieldAddr rfl et u36 rfl size_2 rfl) ?_)))
 refine sq (y_load1 (v := (vi a1.N)) rfl et u2 rfl (hI.kblk (l := [vi a1.N]) (.s .z) rfl).1) ?_
 refine sq (y_fieldAddr rfl et u36 rfl size_2 rfl) ?_
 refine sq (y_load1 (v := (vi b1.D)) rfl et u2 rfl (hI.kblk (l := [vi b1.D]) .z rfl).1) ?_
 refine sq (y_mul rfl et et) ?_
 refine sq (y_fieldAddr rfl et u36 rfl size_2 rfl) ?_
 refine sq (y_load1 (v := (vi a1.D)) rfl et u2 rfl (hI.kblk (l := [vi a1.D]) (.s .z) rfl).1) ?_
 refine sq (y_fieldAddr rfl et u36 rfl size_2 rfl) ?_
 refine sq (y_load1 (v := (vi b1.N)) rfl et u2 rfl (hI.kblk (l := [vi b1.N]) .z rfl).1) ?_
 refine sq (y_mul rfl et et) ?_
 obtain ⟨r3, hx5, h⟩ := bnd_some h
 refine s_call gn rfl (r_callF (vs := [(vi (wi64 (a1.N * b1.D))), (vi (wi64 (a1.D * b1.N)))]) rfl ok_150 ⟨et, ⟨et, trivial⟩⟩) (Calls.mono (c_frac_New (Dj F c5) w5 hI.lt (wi64 (a1.N * b1.D)) (wi64 (a1.D * b1.N)) trivial r3 hx5) ?_)
 rintro _ w7 ⟨rfl, hx6, hl3⟩
 refine ⟨_, rfl, ?_⟩
 replace hI := (hI.ext hx6)
 refine sq (y_extract rfl et rfl) ?_
 refine sq (y_extract rfl et rfl) ?_
 refine l_store (new := (lVal r3.1)) (cs' := (AVal r3.1)) hI .z gn rfl rfl et et rfl size_36 rfl rfl rfl ?_
 clear hI; intro c7 w8 hI
 refine sa ?_
 refine s_nil ?_
 refine k_next (e := [(4, vp b4 0), (5, vi r3.2)]) ⟨rfl, rfl, trivial⟩ ?_
 refine c_ret ?_
 obtain rfl := some_inj h
 exact q_ret (vs := [(Value.agg (AVal r3.1)), vi r3.2]) Tryz.results134 ⟨⟨_, ev_tmp rfl rfl, load_agg (l := (lVal r3.1)) u36 rfl size_36 (CellsAt.of_blk (hI.blk .z) rfl)⟩, ⟨ev_tmp rfl rfl, trivial⟩⟩ (fq hI trivial)
theorem c_value_arithmetic (F : NP) (w0 : World) (hF : ∀ k, F k → k < w0.heap.size) (op1 : Int) (t1 : GType) (a1 : GVal) (b1 : GVal) (hc : AllCl [] F w0) (r : GVal × Int)
  (h : m_value_arithmetic op1 t1 a1 b1 = some r) :
  Calls Tryz.prog 102 #[vi op1, (Value.agg (AType t1)), (Value.agg (AVal a1)), (Value.agg (AVal b1))] w0 fun e w => e = .returned (Value.tuple #[(Value.agg (AVal r.1)), vi r.2]) ∧ Ext w0 w ∧ AllCl [] F w := by
 refine enterK Tryz.func102 rfl Tryz.ntmps102 rfl ?_
 have hI := Bun.start hF hc
 clear hc
 rw [m_value_arithmetic] at h
 refine sr (l_box (v := (Value.agg (AType t1))) (cs := (AType t1)) hI gn rfl rfl et rfl ?_)
 clear hI; intro b2 c1 w1 hI
 obtain ⟨c2, hI⟩ := hI.relBox .z
 refine l_box (v := (Value.agg (AVal a1))) (cs := (AVal a1)) hI gn rfl rfl et rfl ?_
 clear hI; intro b3 c3 w2 hI
 obtain ⟨c4, hI⟩ := hI.relBox .z
 refine l_box (v := (Value.agg (AVal b1))) (cs := (AVal b1)) hI gn rfl rfl et rfl ?_
 clear hI; intro b4 c5 w3 hI
 obtain ⟨c6, hI⟩ := hI.relBox .z
 refine l_alloc (cs := #[vi 0, vi 0]) hI gn rfl rfl zero_36 rfl ?_
 clear hI; intro b5 c7 w4 hI
 refine sac ?_
 refine nk (sr (sq (y_fieldAddr rfl et u23 rfl size_3 rfl) ?_))
 refine sq (y_load1 (v := (vi t1.Kind)) rfl et u3 rfl (hI.kblk (l := [vi t1.Kind]) (.s (.s .z)) rfl).1) ?_
 refine sq (y_eql rfl et ev_const) ?_
 refine sa ?_
 refine nk (c_seq (c_block (sr (sq (y_fieldAddr rfl et u23 rfl size_3 rfl) ?_))))
 refine sq (y_load1 (v := (vi t1.Kind)) rfl et u3 rfl (hI.kblk (l := [vi t1.Kind]) (.s (.s .z)) rfl).1) ?_
 refine sq (y_eql rfl et ev_const) ?_
 refine sa ?_
 refine nk (cif h et (fun hb h => ?_) (fun hb h => ?_))
 ·refine sr (sm ?_)
  refine sq (y_fieldAddr rfl et u36 rfl size_2 rfl) ?_
  refine sq (y_load1 (v := (vi a1.N)) rfl et u2 rfl (hI.kblk (l := [vi a1.N]) (.s .z) rfl).1) ?_
  refine sq (y_fieldAddr rfl et u36 rfl size_2 rfl) ?_
  refine sq (y_load1 (v := (vi b1.N)) rfl et u2 rfl (hI.kblk (l := [vi b1.N]) .z rfl).1) ?_
  obtain ⟨r1, hx1, h⟩ := bnd_some h
  refine s_call gn rfl (r_callF (vs := [vi op1, vi a1.N, vi b1.N]) rfl ok_126 ⟨et, ⟨et, ⟨et, trivial⟩⟩⟩) (Calls.mono (c_value_integer (Dj F c7) w4 hI.lt op1 a1.N b1.N trivial r1 hx1) ?_)
  rintro _ w5 ⟨rfl, hx2, hl1⟩
  refine ⟨_, rfl, ?_⟩
  replace hI := (hI.ext hx2)
  refine sq (y_extract rfl et rfl) ?_
  refine sq (y_extract rfl et rfl) ?_
  refine l_store (new := (lVal r1.1)) (cs' := (AVal r1.1)) hI .z gn rfl rfl et et rfl size_36 rfl rfl rfl ?_
  clear hI; intro c8 w6 hI
  refine sa ?_
  refine nk (c_ret ?_)
  obtain rfl := some_inj h
  exact q_ret (vs := [(Value.agg (AVal r1.1)), vi r1.2]) Tryz.results102 ⟨⟨_, ev_tmp rfl rfl, load_agg (l := (lVal r1.1)) u36 rfl size_36 (CellsAt.of_blk (hI.blk .z) rfl)⟩, ⟨ev_tmp rfl rfl, trivial⟩⟩ (fq hI trivial)
 refine sr (sm ?_)
 refine sq (y_eql rfl et ev_const) ?_
 refine sm ?_
 refine s_gval (g_true rfl rfl rfl rfl) rfl (fun hc => y_move rfl et) ?_
 refine sq (y_and rfl et et) ?_
 refine sa ?_
 refine nk (cif h et (fun hb h => ?_) (fun hb h => ?_))
 ·refine sr (sq (y_loadN (l := (lType t1)) rfl et u23 rfl size_23 (hI.kblk (l := (lType t1)) (.s (.s .z)) rfl).1) ?_)
  refine sq (y_loadN (l := (lVal a1)) rfl et u36 rfl size_36 (hI.kblk (l := (lVal a1)) (.s .z) rfl).1) ?_
  refine sq (y_loadN (l := (lVal b1)) rfl et u36 rfl size_36 (hI.kblk (l := (lVal b1)) .z rfl).1) ?_
  obtain ⟨r2, hx3, h⟩ := bnd_some h
  refine s_call gn rfl (r_callF (vs := [(Value.agg (AType t1)), (Value.agg (AVal a1)), (Value.agg (AVal b1))]) rfl ok_127 ⟨et, ⟨et, ⟨et, trivial⟩⟩⟩) (Calls.mono (c_fixed_Add (Dj F c7) w4 hI.lt t1 a1 b1 trivial r2 hx3) ?_)
  rintro _ w7 ⟨rfl, hx4, hl2⟩
  refine ⟨_, rfl, ?_⟩
  replace hI := (hI.ext hx4)
  refine sq (y_extract rfl et rfl) ?_
  refine sq (y_extract rfl et rfl) ?_
  refine l_store (new := (lVal r2.1)) (cs' := (AVal r2.1)) hI .z gn rfl rfl et et rfl size_36 rfl rfl rfl ?_
  clear hI; intro c9 w8 hI
  refine sa ?_
  refine s_nil ?_
  refine k_next (e := [(8, vp b5 0), (9, vi r2.2)]) ⟨rfl, rfl, trivial⟩ ?_
  refine c_ret ?_
  obtain rfl := some_inj h
  exact q_ret (vs := [(Value.agg (AVal r2.1)), vi r2.2]) Tryz.results102 ⟨⟨_, ev_tmp rfl rfl, load_agg (l := (lVal r2.1)) u36 rfl size_36 (CellsAt.of_blk (hI.blk .z) rfl)⟩, ⟨ev_tmp rfl rfl, trivial⟩⟩ (fq hI trivial)
 refine sr (sm ?_)
 refine sq (y_eql rfl et ev_const) ?_
 refine sm ?_
 refine s_gval (g_true rfl rfl rfl rfl) rfl (fun hc => y_move rfl et) ?_
 refine sq (y_and rfl et et) ?_
 refine sa ?_
 refine nk (cif h et (fun hb h => ?_) (fun hb h => ?_))
 ·refine sr (sq (y_loadN (l := (lType t1)) rfl et u23 rfl size_23 (hI.kblk (l := (lType t1)) (.s (.s .z)) rfl).1) ?_)
  refine sq (y_loadN (l := (lVal a1)) rfl et u36 rfl size_36 (hI.kblk (l := (lVal a1)) (.s .z) rfl).1) ?_
  refine sq (y_loadN (l := (lVal b1)) rfl et u36 rfl size_36 (hI.kblk (l := (lVal b1)) .z rfl).1) ?_
  obtain ⟨r3, hx5, h⟩ := bnd_some h
  refine s_call gn rfl (r_callF (vs := [(Value.agg (AType t1)), (Value.agg (AVal a1)), (Value.agg (AVal b1))]) rfl ok_128 ⟨et, ⟨et, ⟨et, trivial⟩⟩⟩) (Calls.mono (c_fixed_Sub (Dj F c7) w4 hI.lt t1 a1 b1 trivial r3 hx5) ?_)
  rintro _ w9 ⟨rfl, hx6, hl3⟩
  refine ⟨_, rfl, ?_⟩
  replace hI := (hI.ext hx6)
  refine sq (y_extract rfl et rfl) ?_
  refine sq (y_extract rfl et rfl) ?_
  refine l_store (new := (lVal r3.1)) (cs' := (AVal r3.1)) hI .z gn rfl rfl et et rfl size_36 rfl rfl rfl ?_
  clear hI; intro c10 w10 hI
  refine sa ?_
  refine s_nil ?_
  refine k_next (e := [(8, vp b5 0), (9, vi r3.2)]) ⟨rfl, rfl, trivial⟩ ?_
  refine c_ret ?_
  obtain rfl := some_inj h
  exact q_ret (vs := [(Value.agg (AVal r3.1)), vi r3.2]) Tryz.results102 ⟨⟨_, ev_tmp rfl rfl, load_agg (l := (lVal r3.1)) u36 rfl size_36 (CellsAt.of_blk (hI.blk .z) rfl)⟩, ⟨ev_tmp rfl rfl, trivial⟩⟩ (fq hI trivial)
 refine sr (sm ?_)
 refine sq (y_eql rfl et ev_const) ?_
 refine sm ?_
 refine s_gval (g_true rfl rfl rfl rfl) rfl (fun hc => y_move rfl et) ?_
 refine sq (y_and rfl et et) ?_
 refine sa ?_
 refine s_nil ?_
 refine k_next (e := [(0, vi op1), (5, vp b2 0), (6, vp b3 0), (7, vp b4 0), (8, vp b5 0), (10, (vb (decide (t1.Kind = 2)))), (50, (vb ((decide (op1 = 6)) && (decide (t1.Kind = 2)))))]) ⟨rfl, rfl, rfl, rfl, rfl, rfl, rfl, trivial⟩ ?_
 refine cif h et (fun hb h => ?_) (fun hb h => ?_)
 ·refine sr (sq (y_loadN (l := (lType t1)) rfl et u23 rfl size_23 (hI.kblk (l := (lType t1)) (.s (.s .z)) rfl).1) ?_)
  refine sq (y_loadN (l := (lVal a1)) rfl et u36 rfl size_36 (hI.kblk (l := (lVal a1)) (.s .z) rfl).1) ?_
  refine sq (y_loadN (l := (lVal b1)) rfl et u36 rfl size_36 (hI.kblk (l := (lVal b1)) .z rfl).1) ?_
  obtain ⟨r4, hx7, h⟩ := bnd_some h
  refine s_call gn rfl (r_callF (vs := [(Value.agg (AType t1)), (Value.agg (AVal a1)), (Value.agg (AVal b1))]) rfl ok_129 ⟨et, ⟨et, ⟨et, trivial⟩⟩⟩) (Calls.mono (c_fixed_Mul (Dj F c7) w4 hI.lt t1 a1 b1 trivial r4 hx7) ?_)
  rintro _ w11 ⟨rfl, hx8, hl4⟩
  refine ⟨_, rfl, ?_⟩
  replace hI := (hI.ext hx8)
  refine sq (y_extract rfl et rfl) ?_
  refine sq (y_extract rfl et rfl) ?_
  refine l_store (new := (lVal r4.1)) (cs' := (AVal r4.1)) hI .z gn rfl rfl et et rfl size_36 rfl rfl rfl ?_
  clear hI; intro c11 w12 hI
  refine sa ?_
  refine nk (c_ret ?_)
  obtain rfl := some_inj h
  exact q_ret (vs := [(Value.agg (AVal r4.1)), vi r4.2]) Tryz.results102 ⟨⟨_, ev_tmp rfl rfl, load_agg (l := (lVal r4.1)) u36 rfl size_36 (CellsAt.of_blk (hI.blk .z) rfl)⟩, ⟨ev_tmp rfl rfl, trivial⟩⟩ (fq hI trivial)
 refine sr (sm ?_)
 refine sa ?_
 refine nk (cif h et (fun hb h => ?_) (fun hb h => ?_))
 ·refine sr (sq (y_loadN (l := (lType t1)) rfl et u23 rfl size_23 (hI.kblk (l := (lType t1)) (.s (.s .z)) rfl).1) ?_)
  refine sq (y_loadN (l := (lVal a1)) rfl et u36 rfl size_36 (hI.kblk (l := (lVal a1)) (.s .z) rfl).1) ?_
  refine sq (y_loadN (l := (lVal b1)) rfl et u36 rfl size_36 (hI.kblk (l := (lVal b1)) .z rfl).1) ?_
  obtain ⟨r5, hx9, h⟩ := bnd_some h
  refine s_call gn rfl (r_callF (vs := [(Value.agg (AType t1)), (Value.agg (AVal a1)), (Value.agg (AVal b1))]) rfl ok_130 ⟨et, ⟨et, ⟨et, trivial⟩⟩⟩) (Calls.mono (c_fixed_Div (Dj F c7) w4 hI.lt t1 a1 b1 trivial r5 hx9) ?_)
  rintro _ w13 ⟨rfl, hx10, hl5⟩
  refine ⟨_, rfl, ?_⟩
  replace hI := (hI.ext hx10)
  refine sq (y_extract rfl et rfl) ?_
  refine sq (y_extract rfl et rfl) ?_
  refine l_store (new := (lVal r5.1)) (cs' := (AVal r5.1)) hI .z gn rfl rfl et et rfl size_36 rfl rfl rfl ?_
  clear hI; intro c12 w14 hI
  refine sa ?_
  refine nk (c_ret ?_)
  obtain rfl := some_inj h
  exact q_ret (vs := [(Value.agg (AVal r5.1)), vi r5.2]) Tryz.results102 ⟨⟨_, ev_tmp rfl rfl, load_agg (l := (lVal r5.1)) u36 rfl size_36 (CellsAt.of_blk (hI.blk .z) rfl)⟩, ⟨ev_tmp rfl rfl, trivial⟩⟩ (fq hI trivial)
 refine sr (sm ?_)
 refine sq (y_eql rfl et ev_const) ?_
 refine sa ?_
 refine nk (cif h et (fun hb h => ?_) (fun hb h => ?_))
 ·refine sr (sq (y_loadN (l := (lVal a1)) rfl et u36 rfl size_36 (hI.kblk (l := (lVal a1)) (.s .z) rfl).1) ?_)
  refine sq (y_loadN (l := (lVal b1)) rfl et u36 rfl size_36 (hI.kblk (l := (lVal b1)) .z rfl).1) ?_
  obtain ⟨r6, hx11, h⟩ := bnd_some h
  refine s_call gn rfl (r_callF (vs := [(Value.agg (AVal a1)), (Value.agg (AVal b1))]) rfl ok_131 ⟨et, ⟨et, trivial⟩⟩) (Calls.mono (c_frac_Add (Dj F c7) w4 hI.lt a1 b1 trivial r6 hx11) ?_)
  rintro _ w15 ⟨rfl, hx12, hl6⟩
  refine ⟨_, rfl, ?_⟩
  replace hI := (hI.ext hx12)
  refine sq (y_extract rfl et rfl) ?_
  refine sq (y_extract rfl et rfl) ?_
  refine l_store (new := (lVal r6.1)) (cs' := (AVal r6.1)) hI .z gn rfl rfl et et rfl size_36 rfl rfl rfl ?_
  clear hI; intro c13 w16 hI
  refine sa ?_
  refine nk (c_ret ?_)
  obtain rfl := some_inj h
  exact q_ret (vs := [(Value.agg (AVal r6.1)), vi r6.2]) Tryz.results102 ⟨⟨_, ev_tmp rfl rfl, load_agg (l := (lVal r6.1)) u36 rfl size_36 (CellsAt.of_blk (hI.blk .z) rfl)⟩, ⟨ev_tmp rfl rfl, trivial⟩⟩ (fq hI trivial)
 refine sr (sm ?_)
 refine sq (y_eql rfl et ev_const) ?_
 refine sa ?_
 refine nk (cif h et (fun hb h => ?_) (fun hb h => ?_))
 ·refine sr (sq (y_loadN (l := (lVal a1)) rfl et u36 rfl size_36 (hI.kblk (l := (lVal a1)) (.s .z) rfl).1) ?_)
  refine sq (y_loadN (l := (lVal b1)) rfl et u36 rfl size_36 (hI.kblk (l := (lVal b1)) .z rfl).1) ?_
  obtain ⟨r7, hx13, h⟩ := bnd_some h
  refine s_call gn rfl (r_callF (vs := [(Value.agg (AVal a1)), (Value.agg (AVal b1))]) rfl ok_132 ⟨et, ⟨et, trivial⟩⟩) (Calls.mono (c_frac_Sub (Dj F c7) w4 hI.lt a1 b1 trivial r7 hx13) ?_)
  rintro _ w17 ⟨rfl, hx14, hl7⟩
  refine ⟨_, rfl, ?_⟩
  replace hI := (hI.ext hx14)
  refine sq (y_extract rfl et rfl) ?_
  refine sq (y_extract rfl et rfl) ?_
  refine l_store (new := (lVal r7.1)) (cs' := (AVal r7.1)) hI .z gn rfl rfl et et rfl size_36 rfl rfl rfl ?_
  clear hI; intro c14 w18 hI
  refine sa ?_
  refine nk (c_ret ?_)
  obtain rfl := some_inj h
  exact q_ret (vs := [(Value.agg (AVal r7.1)), vi r7.2]) Tryz.results102 ⟨⟨_, ev_tmp rfl rfl, load_agg (l := (lVal r7.1)) u36 rfl size_36 (CellsAt.of_blk (hI.blk .z) rfl)⟩, ⟨ev_tmp rfl rfl, trivial⟩⟩ (fq hI trivial)
 refine sr (sm ?_)
 refine sq (y_eql rfl et ev_const) ?_
 refine sa ?_
 refine nk (cif h et (fun hb h => ?_) (fun hb h => ?_))
 ·refine sr (sq (y_loadN (l := (lVal a1)) rfl et u36 rfl size_36 (hI.kblk (l := (lVal a1)) (.s .z) rfl).1) ?_)
  refine sq (y_loadN (l := (lVal b1)) rfl et u36 rfl size_36 (hI.kblk (l := (lVal b1)) .z rfl).1) ?_
  obtain ⟨r8, hx15, h⟩ := bnd_some h
  refine s_call gn rfl (r_callF (vs := [(Value.agg (AVal a1)), (Value.agg (AVal b1))]) rfl ok_133 ⟨et, ⟨et, trivial⟩⟩) (Calls.mono (c_frac_Mul (Dj F c7) w4 hI.lt a1 b1 trivial r8 hx15) ?_)
  rintro _ w19 ⟨rfl, hx16, hl8⟩
  refine ⟨_, rfl, ?_⟩
  replace hI := (hI.ext hx16)
  refine sq (y_extract rfl et rfl) ?_
  refine sq (y_extract rfl et rfl) ?_
  refine l_store (new := (lVal r8.1)) (cs' := (AVal r8.1)) hI .z gn rfl rfl et et rfl size_36 rfl rfl rfl ?_
  clear hI; intro c15 w20 hI
  refine sa ?_
  refine nk (c_ret ?_)
  obtain rfl := some_inj h
  exact q_ret (vs := [(Value.agg (AVal r8.1)), vi r8.2]) Tryz.results102 ⟨⟨_, ev_tmp rfl rfl, load_agg (l := (lVal r8.1)) u36 rfl size_36 (CellsAt.of_blk (hI.blk .z) rfl)⟩, ⟨ev_tmp rfl rfl, trivial⟩⟩ (fq hI trivial)
 refine c_skip (k_same (sr (sq (y_loadN (l := (lVal a1)) rfl et u36 rfl size_36 (hI.kblk (l := (lVal a1)) (.s .z) rfl).1) ?_)))
 refine sq (y_loadN (l := (lVal b1)) rfl et u36 rfl size_36 (hI.kblk (l := (lVal b1)) .z rfl).1) ?_
 obtain ⟨r9, hx17, h⟩ := bnd_some h
 refine s_call gn rfl (r_callF (vs := [(Value.agg (AVal a1)), (Value.agg (AVal b1))]) rfl ok_134 ⟨et, ⟨et, trivial⟩⟩) (Calls.mono (c_frac_Div (Dj F c7) w4 hI.lt a1 b1 trivial r9 hx17) ?_)
 rintro _ w21 ⟨rfl, hx18, hl9⟩
 refine ⟨_, rfl, ?_⟩
 replace hI := (hI.ext hx18)
 refine sq (y_extract rfl et rfl) ?_
 refine sq (y_extract rfl et rfl) ?_
 refine l_store (new := (lVal r9.1)) (cs' := (AVal r9.1)) hI .z gn rfl rfl et et rfl size_36 rfl rfl rfl ?_
 clear hI; intro c16 w22 hI
 refine sa ?_
 refine nk (c_ret ?_)
 obtain rfl := some_inj h
 exact q_ret (vs := [(Value.agg (AVal r9.1)), vi r9.2]) Tryz.results102 ⟨⟨_, ev_tmp rfl rfl, load_agg (l := (lVal r9.1)) u36 rfl size_36 (CellsAt.of_blk (hI.blk .z) rfl)⟩, ⟨ev_tmp rfl rfl, trivial⟩⟩ (fq hI trivial)
theorem c_value_Apply (F : NP) (w0 : World) (hF : ∀ k, F k → k < w0.heap.size) (op1 : Int) (t1 : GType) (a1 : GVal) (b1 : GVal) (hc : AllCl [] F w0) (r : GVal × Int)
  (h : m_value_Apply op1 t1 a1 b1 = some r) :
  Calls Tryz.prog 75 #[vi op1, (Value.agg (AType t1)), (Value.agg (AVal a1)), (Value.agg (AVal b1))] w0 fun e w => e = .returned (Value.tuple #[(Value.agg (AVal r.1)), vi r.2]) ∧ Ext w0 w ∧ AllCl [] F w := by
 refine enterK Tryz.func75 rfl Tryz.ntmps75 rfl ?_
 have hI := Bun.start hF hc
 clear hc
 rw [m_value_Apply] at h
 refine sr (l_box (v := (Value.agg (AType t1))) (cs := (AType t1)) hI gn rfl rfl et rfl ?_)
 clear hI; intro b2 c1 w1 hI
 obtain ⟨c2, hI⟩ := hI.relBox .z
 refine l_box (v := (Value.agg (AVal a1))) (cs := (AVal a1)) hI gn rfl rfl et rfl ?_
 clear hI; intro b3 c3 w2 hI
 obtain ⟨c4, hI⟩ := hI.relBox .z
 refine l_box (v := (Value.agg (AVal b1))) (cs := (AVal b1)) hI gn rfl rfl et rfl ?_
 clear hI; intro b4 c5 w3 hI
 obtain ⟨c6, hI⟩ := hI.relBox .z
 refine l_alloc (cs := #[vi 0, vi 0]) hI gn rfl rfl zero_36 rfl ?_
 clear hI; intro b5 c7 w4 hI
 refine sac ?_
 refine nk (c_seq (c_block (sr (sm ?_))))
 refine sq (y_lss rfl et ev_const) ?_
 refine sm ?_
 refine s_gval (g_false rfl rfl rfl rfl) rfl (fun hc => y_move rfl et) ?_
 refine s_gval (g_false rfl rfl rfl rfl) rfl (fun hc => y_gtr rfl (ev_gv et hc) ev_const) ?_
 refine sq (y_or rfl et et) ?_
 refine sa ?_
 refine nk (cif h et (fun hb h => ?_) (fun hb h => ?_))
 ·refine sr (sq (y_build (vs := []) (cs := #[vi 0, vi 0]) rfl trivial (by kernel_rfl)) ?_)
  refine l_store (new := [vi 0, vi 0]) (cs' := #[vi 0, vi 0]) hI .z gn rfl rfl et et rfl size_36 rfl rfl rfl ?_
  clear hI; intro c8 w5 hI
  refine sac ?_
  refine nk (c_ret ?_)
  obtain rfl := some_inj h
  exact q_ret (vs := [(Value.agg #[vi 0, vi 0]), vi 1]) Tryz.results75 ⟨⟨_, ev_tmp rfl rfl, load_agg (l := [vi 0, vi 0]) u36 rfl size_36 (CellsAt.of_blk (hI.blk .z) rfl)⟩, ⟨ev_tmp rfl rfl, trivial⟩⟩ (fq hI trivial)
 refine sr (sq (y_loadN (l := (lType t1)) rfl et u23 rfl size_23 (hI.kblk (l := (lType t1)) (.s (.s .z)) rfl).1) ?_)
 obtain ⟨r1, hx1, h⟩ := bnd_some h
 refine s_call gn rfl (r_callF (vs := [(Value.agg (AType t1))]) rfl ok_57 ⟨et, trivial⟩) (Calls.mono (c_value_ValidateType (Dj F c7) w4 hI.lt t1 trivial r1 hx1) ?_)
 rintro _ w6 ⟨rfl, hx2, hl1⟩
 refine ⟨_, rfl, ?_⟩
 replace hI := (hI.ext hx2)
 refine sq (y_neq rfl et ev_const) ?_
 refine sa ?_
 refine nk (cif h et (fun hb h => ?_) (fun hb h => ?_))
 ·refine sr (sq (y_build (vs := []) (cs := #[vi 0, vi 0]) rfl trivial (by kernel_rfl)) ?_)
  refine l_store (new := [vi 0, vi 0]) (cs' := #[vi 0, vi 0]) hI .z gn rfl rfl et et rfl size_36 rfl rfl rfl ?_
  clear hI; intro c9 w7 hI
  refine sac ?_
  refine nk (c_ret ?_)
  obtain rfl := some_inj h
  exact q_ret (vs := [(Value.agg #[vi 0, vi 0]), vi 10]) Tryz.results75 ⟨⟨_, ev_tmp rfl rfl, load_agg (l := [vi 0, vi 0]) u36 rfl size_36 (CellsAt.of_blk (hI.blk .z) rfl)⟩, ⟨ev_tmp rfl rfl, trivial⟩⟩ (fq hI trivial)
 refine sr (sq (y_loadN (l := (lType t1)) rfl et u23 rfl size_23 (hI.kblk (l := (lType t1)) (.s (.s .z)) rfl).1) ?_)
 refine sq (y_loadN (l := (lVal a1)) rfl et u36 rfl size_36 (hI.kblk (l := (lVal a1)) (.s .z) rfl).1) ?_
 obtain ⟨r2, hx3, h⟩ := bnd_some h
 refine s_call gn rfl (r_callF (vs := [(Value.agg (AType t1)), (Value.agg (AVal a1))]) rfl ok_54 ⟨et, ⟨et, trivial⟩⟩) (Calls.mono (c_value_Valid (Dj F c7) w6 hI.lt t1 a1 trivial r2 hx3) ?_)
 rintro _ w8 ⟨rfl, hx4, hl2⟩
 refine ⟨_, rfl, ?_⟩
 replace hI := (hI.ext hx4)
 refine sq (y_not rfl et) ?_
 refine sm ?_
 refine s_gval (g_false rfl rfl rfl rfl) rfl (fun hc => y_move rfl et) ?_
 refine s_gval (g_false rfl rfl rfl rfl) rfl (fun hc => y_neq rfl (ev_gv et hc) ev_const) ?_
 refine s_gval (g_false rfl rfl rfl rfl) rfl (fun hc => y_move rfl (ev_gv et hc)) ?_
 refine s_gval (g_true2 rfl rfl rfl rfl) rfl (fun hc => (y_loadN (l := (lType t1)) rfl et u23 rfl size_23 (hI.kblk (l := (lType t1)) (.s (.s .z)) rfl).1)) ?_
 refine s_gval (g_true2 rfl rfl rfl rfl) rfl (fun hc => (y_loadN (l := (lVal b1)) rfl et u36 rfl size_36 (hI.kblk (l := (lVal b1)) .z rfl).1)) ?_
 obtain ⟨r3, hx5, h⟩ := bnd_some h
 replace hx5 := gd_some hx5
 refine s_gcallU (v := (vb r3)) (g_true2 rfl rfl rfl rfl) rfl (fun hc => (r_callF (vs := [(Value.agg (AType t1)), (Value.agg (AVal b1))]) rfl ok_54 ⟨(ev_gv et hc), ⟨(ev_gv et hc), trivial⟩⟩)) (fun hc => (c_value_Valid (Dj F c7) w8 hI.lt t1 b1 trivial r3 (hx5 hc)).mono fun _ _ k => ⟨k.1, k.2.1⟩) ?_
 intro w9 hx6; replace hI := hI.ext hx6
 refine s_gval (g_true2 rfl rfl rfl rfl) rfl (fun hc => y_not rfl (ev_gv et hc)) ?_
 refine s_gval (g_false rfl rfl rfl rfl) rfl (fun hc => y_and2 rfl hc et et) ?_
 refine sq (y_or rfl et et) ?_
 refine sa ?_
 refine s_nil ?_
 refine k_next (e := [(0, vi op1), (5, vp b2 0), (6, vp b3 0), (7, vp b4 0), (8, vp b5 0), (24, (vb ((!r2) || ((!decide (op1 = 8)) && (!r3)))))]) ⟨rfl, rfl, rfl, rfl, rfl, rfl, trivial⟩ ?_
 refine cif h et (fun hb h => ?_) (fun hb h => ?_)
 ·refine sr (sq (y_build (vs := []) (cs := #[vi 0, vi 0]) rfl trivial (by kernel_rfl)) ?_)
  refine l_store (new := [vi 0, vi 0]) (cs' := #[vi 0, vi 0]) hI .z gn rfl rfl et et rfl size_36 rfl rfl rfl ?_
  clear hI; intro c10 w10 hI
  refine sac ?_
  refine nk (c_ret ?_)
  obtain rfl := some_inj h
  exact q_ret (vs := [(Value.agg #[vi 0, vi 0]), vi 1]) Tryz.results75 ⟨⟨_, ev_tmp rfl rfl, load_agg (l := [vi 0, vi 0]) u36 rfl size_36 (CellsAt.of_blk (hI.blk .z) rfl)⟩, ⟨ev_tmp rfl rfl, trivial⟩⟩ (fq hI trivial)
 refine c_skip (k_same (c_seq (sr (sm ?_))))
 refine nk (c_block (sr (sq (y_eql rfl et ev_const) ?_)))
 refine sa ?_
 refine nk (cif h et (fun hb h => ?_) (fun hb h => ?_))
 ·refine sr (sq (y_loadN (l := (lType t1)) rfl et u23 rfl size_23 (hI.kblk (l := (lType t1)) (.s (.s .z)) rfl).1) ?_)
  refine sq (y_loadN (l := (lVal a1)) rfl et u36 rfl size_36 (hI.kblk (l := (lVal a1)) (.s .z) rfl).1) ?_
  obtain ⟨r4, hx7, h⟩ := bnd_some h
  refine s_call gn rfl (r_callF (vs := [(Value.agg (AType t1)), (Value.agg (AVal a1))]) rfl ok_100 ⟨et, ⟨et, trivial⟩⟩) (Calls.mono (c_value_negate (Dj F c7) w9 hI.lt t1 a1 trivial r4 hx7) ?_)
  rintro _ w11 ⟨rfl, hx8, hl4⟩
  refine ⟨_, rfl, ?_⟩
  replace hI := (hI.ext hx8)
  refine sq (y_extract rfl et rfl) ?_
  refine sq (y_extract rfl et rfl) ?_
  refine l_store (new := (lVal r4.1)) (cs' := (AVal r4.1)) hI .z gn rfl rfl et et rfl size_36 rfl rfl rfl ?_
  clear hI; intro c11 w12 hI
  refine sa ?_
  refine nk (c_ret ?_)
  obtain rfl := some_inj h
  exact q_ret (vs := [(Value.agg (AVal r4.1)), vi r4.2]) Tryz.results75 ⟨⟨_, ev_tmp rfl rfl, load_agg (l := (lVal r4.1)) u36 rfl size_36 (CellsAt.of_blk (hI.blk .z) rfl)⟩, ⟨ev_tmp rfl rfl, trivial⟩⟩ (fq hI trivial)
 refine c_join (α := Bool) (fun _ => ⟨73, []⟩) (fun x => [(0, vi op1), (5, vp b2 0), (6, vp b3 0), (7, vp b4 0), (8, vp b5 0), (48, vb x)]) (fun x => fun w => ∃ C, Bun noM F w0 C w [MO.box b5 36 #[vi 0, vi 0]] [Cl.blk b2 23 (AType t1), Cl.blk b3 36 (AVal a1), Cl.blk b4 36 (AVal b1)] ∧ m_value_Apply_j1 t1 a1 b1 op1 x = some r) ?_ ?_
 ·clear h hI; rintro i1 w13 ⟨c12, hI, h⟩
  try dsimp only at hI h
  rw [m_value_Apply_j1] at h
  refine c_sub (e := [(0, vi op1), (5, vp b2 0), (6, vp b3 0), (7, vp b4 0), (8, vp b5 0), (48, vb i1)]) ⟨rfl, rfl, rfl, rfl, rfl, rfl, trivial⟩ ?_
  refine cif h et (fun hb h => ?_) (fun hb h => ?_)
  ·refine c_seq (sr (sq (y_loadN (l := (lType t1)) rfl et u23 rfl size_23 (hI.kblk (l := (lType t1)) .z rfl).1) ?_))
   refine sq (y_loadN (l := (lVal a1)) rfl et u36 rfl size_36 (hI.kblk (l := (lVal a1)) (.s .z) rfl).1) ?_
   refine sq (y_loadN (l := (lVal b1)) rfl et u36 rfl size_36 (hI.kblk (l := (lVal b1)) (.s (.s .z)) rfl).1) ?_
   obtain ⟨r5, hx9, h⟩ := bnd_some h
   refine s_call gn rfl (r_callF (vs := [(Value.agg (AType t1)), (Value.agg (AVal a1)), (Value.agg (AVal b1))]) rfl ok_101 ⟨et, ⟨et, ⟨et, trivial⟩⟩⟩) (Calls.mono (c_value_Compare (Dj F c12) w13 hI.lt t1 a1 b1 trivial r5 hx9) ?_)
   rintro _ w14 ⟨rfl, hx10, hl5⟩
   refine ⟨_, rfl, ?_⟩
   replace hI := (hI.ext hx10)
   refine sa ?_
   refine nk (sr (sm ?_))
   refine sq (y_gtr rfl et ev_const) ?_
   refine sm ?_
   refine sq (y_eql rfl et ev_const) ?_
   refine sq (y_eqb rfl u4 et et) ?_
   refine sm ?_
   refine s_gval (g_true rfl rfl rfl rfl) rfl (fun hc => y_move rfl et) ?_
   refine s_gval (g_true rfl rfl rfl rfl) rfl (fun hc => y_neq rfl (ev_gv et hc) ev_const) ?_
   refine sq (y_and rfl et et) ?_
   refine nk (cif h et (fun hb h => ?_) (fun hb h => ?_))
   ·refine sr (sq (y_loadN (l := (lVal b1)) rfl et u36 rfl size_36 (hI.kblk (l := (lVal b1)) (.s (.s .z)) rfl).1) ?_)
    refine l_store (new := (lVal b1)) (cs' := (AVal b1)) hI .z gn rfl rfl et et rfl size_36 rfl rfl rfl ?_
    clear hI; intro c13 w15 hI
    refine sac ?_
    refine nk (c_ret ?_)
    obtain rfl := some_inj h
    exact q_ret (vs := [(Value.agg (AVal b1)), vi 0]) Tryz.results75 ⟨⟨_, ev_tmp rfl rfl, load_agg (l := (lVal b1)) u36 rfl size_36 (CellsAt.of_blk (hI.blk .z) rfl)⟩, ⟨ev_tmp rfl rfl, trivial⟩⟩ (fq hI trivial)
   refine c_skip (k_same (sr (sq (y_loadN (l := (lVal a1)) rfl et u36 rfl size_36 (hI.kblk (l := (lVal a1)) (.s .z) rfl).1) ?_)))
   refine l_store (new := (lVal a1)) (cs' := (AVal a1)) hI .z gn rfl rfl et et rfl size_36 rfl rfl rfl ?_
   clear hI; intro c14 w16 hI
   refine sac ?_
   refine nk (c_ret ?_)
   obtain rfl := some_inj h
   exact q_ret (vs := [(Value.agg (AVal a1)), vi 0]) Tryz.results75 ⟨⟨_, ev_tmp rfl rfl, load_agg (l := (lVal a1)) u36 rfl size_36 (CellsAt.of_blk (hI.blk .z) rfl)⟩, ⟨ev_tmp rfl rfl, trivial⟩⟩ (fq hI trivial)
  refine c_skip (k_same (sr (sm ?_)))
  refine sq (y_loadN (l := (lType t1)) rfl et u23 rfl size_23 (hI.kblk (l := (lType t1)) .z rfl).1) ?_
  refine sq (y_loadN (l := (lVal a1)) rfl et u36 rfl size_36 (hI.kblk (l := (lVal a1)) (.s .z) rfl).1) ?_
  refine sq (y_loadN (l := (lVal b1)) rfl et u36 rfl size_36 (hI.kblk (l := (lVal b1)) (.s (.s .z)) rfl).1) ?_
  obtain ⟨r6, hx11, h⟩ := bnd_some h
  refine s_call gn rfl (r_callF (vs := [vi op1, (Value.agg (AType t1)), (Value.agg (AVal a1)), (Value.agg (AVal b1))]) rfl ok_102 ⟨et, ⟨et, ⟨et, ⟨et, trivial⟩⟩⟩⟩) (Calls.mono (c_value_arithmetic (Dj F c12) w13 hI.lt op1 t1 a1 b1 trivial r6 hx11) ?_)
  rintro _ w17 ⟨rfl, hx12, hl6⟩
  refine ⟨_, rfl, ?_⟩
  replace hI := (hI.ext hx12)
  refine sq (y_extract rfl et rfl) ?_
  refine sq (y_extract rfl et rfl) ?_
  refine l_store (new := (lVal r6.1)) (cs' := (AVal r6.1)) hI .z gn rfl rfl et et rfl size_36 rfl rfl rfl ?_
  clear hI; intro c15 w18 hI
  refine sa ?_
  refine nk (c_ret ?_)
  obtain rfl := some_inj h
  exact q_ret (vs := [(Value.agg (AVal r6.1)), vi r6.2]) Tryz.results75 ⟨⟨_, ev_tmp rfl rfl, load_agg (l := (lVal r6.1)) u36 rfl size_36 (CellsAt.of_blk (hI.blk .z) rfl)⟩, ⟨ev_tmp rfl rfl, trivial⟩⟩ (fq hI trivial)
 refine sr (sq (y_eql rfl et ev_const) ?_)
 refine sa ?_
 refine nk (cif h et (fun hb h => ?_) (fun hb h => ?_))
 ·exact c_skip (k_join (decide (op1 = 9)) ⟨rfl, rfl, rfl, rfl, rfl, rfl, trivial⟩ ⟨_, hI.arr (.c .z .n) ⟨(.s (.s .z)), (.s .z), .z, trivial⟩, h⟩ rfl)
 refine c_region rfl ?_
 refine sq (y_eql rfl et ev_const) ?_
 refine sa ?_
 refine s_nil ?_
 exact k_join (decide (op1 = 10)) ⟨rfl, rfl, rfl, rfl, rfl, rfl, trivial⟩ ⟨_, hI.arr (.c .z .n) ⟨(.s (.s .z)), (.s .z), .z, trivial⟩, h⟩ rfl
theorem c_tensor_split (F : NP) (w0 : World) (hF : ∀ k, F k → k < w0.heap.size) (d1 : List Int) (axis1 : Int) (a1 : Option Addr) (c1 : Nat) (hc : AllCl [Cl.sl (cInt .i64) a1 c1 d1] F w0) (r : Int × Int × Int)
  (h : m_tensor_split d1 axis1 = some r) :
  Calls Tryz.prog 72 #[vs a1 d1.length c1, vi axis1] w0 fun e w => e = .returned (Value.tuple #[vi r.1, vi r.2.1, vi r.2.2]) ∧ Ext w0 w ∧ AllCl [] F w := by
 refine enterK Tryz.func72 rfl Tryz.ntmps72 rfl ?_
 have hI := Bun.start hF hc
 clear hc
 rw [m_tensor_split] at h
 refine sr (sac ?_)
 refine sac ?_
 refine sac ?_
 refine nk (c_seq (c_drawX [] false (.c (0, .q) (.c (1, .q) (.c (2, .q) (.c (4, .q) (.c (5, .q) (.c (6, .q) (.c (7, .q) (.c (8, .q) (.c (9, .q) (.c (10, .q) (.c (11, .q) (.c (3, .s) (.c (12, .s) (.c (13, .q) (.c (14, .q) (.c (15, .q) .n)))))))))))))))) hI (by kernel_rfl) (by kernel_rfl) ?_))
 clear hI; intro w1 hI
 refine a_q rfl gn rfl (fun w' => y_move rfl et) ?_
 refine a_q rfl gn rfl (fun w' => y_move rfl et) ?_
 obtain ⟨zs1, hx1, h⟩ := bnd_some h
 refine a_q rfl gn rfl (fun w' => y_lupto rfl u24 size_3 et et hx1 (hI.cap_ .z)) ?_
 replace hI := hI.upto .z hx1
 refine a_q rfl gn rfl (fun w' => y_move rfl et) ?_
 refine a_q rfl gn rfl (fun w' => y_move rfl et) ?_
 obtain ⟨e1, hx2, h⟩ := bnd_some h
 obtain ⟨ad1, cs1, hA1, hr1, hq1⟩ := hI.clat (.s .z) hx2
 obtain rfl : cs1 = [vi e1] := hr1
 refine a_q rfl gn rfl (fun w' => y_indexAddr rfl u24 size_3 et et (lat_bd hx2) hA1) ?_
 refine a_read rfl gn rfl (fun w' hw' => (y_load1 (v := (vi e1)) rfl et u3 rfl (hq1.at_ (SX.any rfl hw')))) (by kernel_rfl) ?_
 refine a_q rfl gn rfl (fun w' => y_move rfl et) ?_
 refine a_q rfl gn rfl (fun w' => y_move rfl et) ?_
 refine a_q rfl gn rfl (fun w' => y_add rfl et ev_const) ?_
 obtain ⟨zs2, hx3, h⟩ := bnd_some h
 obtain ⟨a2, hB1⟩ : ∃ B : Option Addr, B = (if c1 = Int.toNat (wi64 (axis1 + 1)) then a1 else Option.map (·.add (Int.toNat (wi64 (axis1 + 1)) * 1)) a1) := ⟨_, rfl⟩
 refine a_q rfl gn rfl (fun w' => y_lfrom rfl u24 size_3 et et hx3 hB1) ?_
 replace hI := hI.from_ (.s .z) hx3 hB1
 obtain ⟨r1, hx4, h⟩ := bnd_some h
 refine la_call rfl gn rfl (r_callF (vs := [vs a1 zs1.length c1]) rfl ok_59 ⟨et, trivial⟩) (Calls.mono (c_shape_Size (Dj F noM) w1 hI.lt zs1 a1 c1 ⟨(hI.get (.s .z)), trivial⟩ r1 hx4) ?_)
 rintro _ w2 ⟨rfl, hx5, hl1⟩
 refine ⟨_, rfl, hx5, ?_⟩
 replace hI := (hI.ext hx5)
 obtain ⟨r2, hx6, h⟩ := bnd_some h
 refine la_call rfl gn rfl (r_callF (vs := [(vs a2 zs2.length (c1 - Int.toNat (wi64 (axis1 + 1))))]) rfl ok_59 ⟨et, trivial⟩) (Calls.mono (c_shape_Size (Dj F noM) w2 hI.lt zs2 a2 (c1 - Int.toNat (wi64 (axis1 + 1))) ⟨(hI.get .z), trivial⟩ r2 hx6) ?_)
 rintro _ w3 ⟨rfl, hx7, hl2⟩
 refine ⟨_, rfl, hx7, ?_⟩
 replace hI := (hI.ext hx7)
 refine a_q rfl gn rfl (fun w' => y_assign rfl et) ?_
 refine a_q rfl gn rfl (fun w' => y_assign rfl et) ?_
 refine a_q rfl gn rfl (fun w' => y_assign rfl et) ?_
 refine a_nil ?_
 refine k_same (c_ret ?_)
 obtain rfl := some_inj h
 exact q_ret (vs := [vi r1, vi e1, vi r2]) Tryz.results72 ⟨ev_tmp rfl rfl, ⟨ev_tmp rfl rfl, ⟨ev_tmp rfl rfl, trivial⟩⟩⟩ (fq hI trivial)
theorem c_tensor_clone_o (C0 F : NP) (w0 : World) (t1 : GTensor) (a1 : Option Addr) (c1 : Nat) (a2 : Option Addr) (c2 : Nat) (hI : Bun C0 F w0 C0 w0 [] [Cl.sl (cInt .i64) a1 c1 t1.Dims, Cl.sl cGVal a2 c2 t1.Vals]) (r : GTensor)
  (h : m_tensor_clone_o t1 = some r) :
  Calls Tryz.prog 55 #[(Value.agg (ATensor t1 a1 c1 a2 c2))] w0 fun e w => ∃ (a3 : Option Addr) (c3 : Nat) (a4 : Option Addr) (c4 : Nat) (C : NP), e = .returned (Value.agg (ATensor r a3 c3 a4 c4)) ∧ Bun C0 F w0 C w [MO.row (cInt .i64) 3 a3 c3 r.Dims, MO.row cGVal 36 a4 c4 r.Vals] [] := by
 refine enterK Tryz.func55 rfl Tryz.ntmps55 rfl ?_
 rw [m_tensor_clone_o] at h
 refine sr (l_box (v := (Value.agg (ATensor t1 a1 c1 a2 c2))) (cs := (ATensor t1 a1 c1 a2 c2)) hI gn rfl rfl et rfl ?_)
 clear hI; intro b1 c5 w1 hI
 refine l_alloc (cs := ZTensor) hI gn rfl rfl zero_27 rfl ?_
 clear hI; intro b2 c6 w2 hI
 refine nk (sr (sq (y_fieldAddr rfl et u27 rfl size_24 rfl) ?_))
 refine sq (y_load1 (v := (vs a1 t1.Dims.length c1)) rfl et u24 rfl (CellsAt.of_blk (hI.blk (.s .z)) rfl)) ?_
 obtain ⟨zs1, hx1, h⟩ := bnd_some h
 replace hI := hI.nil (cInt .i64) 3 none
 refine l_append (xs := ([] : List Int)) (ys := t1.Dims) hI .z (hI.crd .z) hx1 gn rfl rfl u24 info_3 rfl rfl ev_const et ?_
 clear hI; intro a5 c7 c8 w3 hI
 refine sq (y_fieldAddr rfl et u27 rfl size_24 rfl) ?_
 refine l_store (new := [vs a5 zs1.length c7]) (cs' := #[vi t1.Type_.Kind, vi t1.Type_.Bits, vi t1.Type_.Frac, vi t1.Type_.Round, vi t1.Type_.Over, vs a5 zs1.length c7, vs a2 t1.Vals.length c2]) hI (.s (.s .z)) gn rfl rfl et et rfl size_24 rfl rfl rfl ?_
 clear hI; intro c9 w4 hI
 refine nk (sr (sq (y_fieldAddr rfl et u27 rfl size_25 rfl) ?_))
 refine sq (y_load1 (v := (vs a2 t1.Vals.length c2)) rfl et u25 rfl (CellsAt.of_blk (hI.blk (.s (.s .z))) rfl)) ?_
 obtain ⟨zs2, hx2, h⟩ := bnd_some h
 replace hI := hI.nil cGVal 36 none
 refine l_append (xs := ([] : List GVal)) (ys := t1.Vals) hI .z (hI.crd (.s .z)) hx2 gn rfl rfl u25 info_36 rfl rfl ev_const et ?_
 clear hI; intro a6 c10 c11 w5 hI
 refine sq (y_fieldAddr rfl et u27 rfl size_25 rfl) ?_
 refine l_store (new := [vs a6 zs2.length c10]) (cs' := #[vi t1.Type_.Kind, vi t1.Type_.Bits, vi t1.Type_.Frac, vi t1.Type_.Round, vi t1.Type_.Over, vs a5 zs1.length c7, vs a6 zs2.length c10]) hI (.s (.s (.s .z))) gn rfl rfl et et rfl size_25 rfl rfl rfl ?_
 clear hI; intro c12 w6 hI
 refine nk (sr (sq (y_loadN (l := [vi t1.Type_.Kind, vi t1.Type_.Bits, vi t1.Type_.Frac, vi t1.Type_.Round, vi t1.Type_.Over, vs a5 zs1.length c7, vs a6 zs2.length c10]) rfl et u27 rfl size_27 (CellsAt.of_blk (hI.blk (.s (.s (.s .z)))) rfl)) ?_))
 refine l_store (new := [vi t1.Type_.Kind, vi t1.Type_.Bits, vi t1.Type_.Frac, vi t1.Type_.Round, vi t1.Type_.Over, vs a5 zs1.length c7, vs a6 zs2.length c10]) (cs' := #[vi t1.Type_.Kind, vi t1.Type_.Bits, vi t1.Type_.Frac, vi t1.Type_.Round, vi t1.Type_.Over, vs a5 zs1.length c7, vs a6 zs2.length c10]) hI (.s (.s .z)) gn rfl rfl et et rfl size_27 rfl rfl rfl ?_
 clear hI; intro c13 w7 hI
 refine nk (c_ret ?_)
 obtain rfl := some_inj h
 exact q_ret (vs := [(Value.agg #[vi t1.Type_.Kind, vi t1.Type_.Bits, vi t1.Type_.Frac, vi t1.Type_.Round, vi t1.Type_.Over, vs a5 zs1.length c7, vs a6 zs2.length c10])]) Tryz.results55 ⟨⟨_, ev_tmp rfl rfl, load_agg (l := [vi t1.Type_.Kind, vi t1.Type_.Bits, vi t1.Type_.Frac, vi t1.Type_.Round, vi t1.Type_.Over, vs a5 zs1.length c7, vs a6 zs2.length c10]) u27 rfl size_27 (CellsAt.of_blk (hI.blk (.s (.s .z))) rfl)⟩, trivial⟩ ⟨a5, c7, a6, c10, _, rfl, hI.arr (.c (.s .z) (.c .z .n)) trivial⟩
theorem c_tensor_lines_s {σ : Type} (I : StI σ) (C0 F : NP) (w0 : World) (d1 : List Int) (axis1 : Int) (f1 : (Int → Int → σ → Option (Int × σ))) (s1 : σ) (a1 : Option Addr) (c1 : Nat) (fv1 : Value) (hI : Bun C0 F w0 C0 w0 [MO.st I s1] [Cl.sl (cInt .i64) a1 c1 d1, clFnS_k2 I fv1 f1]) (r : Int × σ)
  (h : m_tensor_lines_s d1 axis1 f1 s1 = some r) :
  Calls Tryz.prog 41 #[vs a1 d1.length c1, vi axis1, fv1] w0 fun e w => ∃ (C : NP), e = .returned (vi r.1) ∧ Bun C0 F w0 C w [MO.st I r.2] [] := by
 refine enterK Tryz.func41 rfl Tryz.ntmps41 rfl ?_
 rw [m_tensor_lines_s] at h
 refine sr (sac ?_)
 refine nk (sr (sm ?_))
 refine sm ?_
 obtain ⟨r1, hx1, h⟩ := bnd_some h
 refine s_call gn rfl (r_callF (vs := [vs a1 d1.length c1, vi axis1]) rfl ok_72 ⟨et, ⟨et, trivial⟩⟩) (Calls.mono (c_tensor_split (Dj F C0) w0 hI.lt d1 axis1 a1 c1 ⟨(hI.get .z), trivial⟩ r1 hx1) ?_)
 rintro _ w1 ⟨rfl, hx2, hl1⟩
 refine ⟨_, rfl, ?_⟩
 replace hI := (hI.ext hx2)
 refine sm ?_
 refine sq (y_extract rfl et rfl) ?_
 refine sq (y_extract rfl et rfl) ?_
 refine sq (y_extract rfl et rfl) ?_
 refine sa ?_
 refine sa ?_
 refine sa ?_
 refine nk (c_seq (sr (sm ?_)))
 refine sq (y_move rfl ev_const) ?_
 refine nk (c_block (c_loop (α := Nat × Int × σ) (fun x => fun w => ∃ C, Bun C0 F w0 C w [MO.st I (x.2.2)] [clFnS_k2 I fv1 f1] ∧ m_tensor_lines_s_l1 r1 f1 (x.1) (x.2.1) (x.2.2) = some r) (fun x _ => x.1) (fun x => [(2, fv1), (8, vi r1.2.1), (9, vi r1.2.2), (20, vi r1.1), (21, vi (x.2.1))]) (fu, 0, s1) ⟨_, hI.arr (.c .z .n) ⟨(.s .z), trivial⟩, h⟩ ⟨rfl, rfl, rfl, rfl, rfl, trivial⟩ ?_))
 clear h hI; rintro ⟨fuel1, i1, s2⟩ w2 ⟨c2, hI, h⟩
 dsimp only at hI h
 rcases fuel1 with _ | fuel1
 ·rw [m_tensor_lines_s_l1] at h; cases h
 rw [m_tensor_lines_s_l1] at h
 refine c_sub (e := [(2, fv1), (8, vi r1.2.1), (9, vi r1.2.2), (20, vi r1.1), (21, vi i1)]) ⟨rfl, rfl, rfl, rfl, rfl, trivial⟩ ?_
 refine sr (sq (y_lss rfl et et) ?_)
 refine nk (c_seq (cif h et (fun hb h => ?_) (fun hb h => ?_)))
 ·refine c_skip (k_same (c_join (α := σ) (fun _ => ⟨43, []⟩) (fun x => [(2, fv1), (8, vi r1.2.1), (9, vi r1.2.2), (20, vi r1.1), (21, vi i1)]) (fun x => fun w => ∃ C, Bun C0 F w0 C w [MO.st I x] [clFnS_k2 I fv1 f1] ∧ m_tensor_lines_s_j1 (m_tensor_lines_s_l1 r1 f1 fuel1) i1 x = some r) ?_ ?_))
  ·clear h hI; rintro s3 w3 ⟨c3, hI, h⟩
   try dsimp only at hI h
   rw [m_tensor_lines_s_j1] at h
   refine c_sub (e := [(2, fv1), (8, vi r1.2.1), (9, vi r1.2.2), (20, vi r1.1), (21, vi i1)]) ⟨rfl, rfl, rfl, rfl, rfl, trivial⟩ ?_
   refine c_region rfl ?_
   refine sq (y_add rfl et ev_const) ?_
   refine sm ?_
   refine s_nil ?_
   exact k_loop (fuel1, wi64 (i1 + 1), s3) ⟨rfl, rfl, rfl, rfl, rfl, trivial⟩ ⟨_, hI.arr (.c .z .n) ⟨.z, trivial⟩, h⟩ (Nat.lt_succ_self _)
  refine c_block (sr (sm ?_))
  refine sa ?_
  refine nk (sr (sm ?_))
  refine sq (y_move rfl ev_const) ?_
  refine nk (c_block (c_loop (α := Nat × Int × σ) (fun x => fun w => ∃ C, Bun C0 F w0 C w [MO.st I (x.2.2)] [clFnS_k2 I fv1 f1] ∧ m_tensor_lines_s_l2 r1 f1 i1 (m_tensor_lines_s_l1 r1 f1 fuel1) (x.1) (x.2.1) (x.2.2) = some r) (fun x _ => x.1) (fun x => [(2, fv1), (8, vi r1.2.1), (9, vi r1.2.2), (20, vi r1.1), (21, vi i1), (10, vi i1), (24, vi r1.2.2), (25, vi (x.2.1))]) (fu, 0, s2) ⟨_, hI.arr (.c .z .n) ⟨.z, trivial⟩, h⟩ ⟨rfl, rfl, rfl, rfl, rfl, rfl, rfl, rfl, trivial⟩ ?_))
  clear h hI; rintro ⟨fuel2, i2, s4⟩ w4 ⟨c4, hI, h⟩
  dsimp only at hI h
  rcases fuel2 with _ | fuel2
  ·rw [m_tensor_lines_s_l2] at h; cases h
  rw [m_tensor_lines_s_l2] at h
  refine c_sub (e := [(2, fv1), (8, vi r1.2.1), (9, vi r1.2.2), (20, vi r1.1), (21, vi i1), (10, vi i1), (24, vi r1.2.2), (25, vi i2)]) ⟨rfl, rfl, rfl, rfl, rfl, rfl, rfl, rfl, trivial⟩ ?_
  refine sr (sq (y_lss rfl et et) ?_)
  refine nk (c_seq (cif h et (fun hb h => ?_) (fun hb h => ?_)))
  ·refine c_skip (k_same (c_seq (c_block (sr (sm ?_)))))
   refine sa ?_
   refine nk (sr (sm ?_))
   refine sm ?_
   refine sm ?_
   refine sq (y_mul rfl et et) ?_
   refine sm ?_
   refine sq (y_mul rfl et et) ?_
   refine sm ?_
   refine sq (y_add rfl et et) ?_
   refine sm ?_
   obtain ⟨⟨r2, s5⟩, hx3, h⟩ := bnd_some h
   try dsimp only at h
   obtain ⟨c5, f2, hB, hl2, hk1⟩ := hI.hands (.l .n)
   refine s_callV (args := [(vi (wi64 ((wi64 ((wi64 (i1 * r1.2.1)) * r1.2.2)) + i2))), vi r1.2.2]) gn rfl rfl et ⟨et, ⟨et, trivial⟩⟩ (CallV.mono ((hI.get .z).2 c5 f2 w4 (Sp.less hl2) (wi64 ((wi64 ((wi64 (i1 * r1.2.1)) * r1.2.2)) + i2)) r1.2.2 s4 _ (hB.subs trivial) hx3) ?_)
   rintro _ w5 ⟨c6, rfl, hB2⟩
   obtain ⟨c7, hs1, hI⟩ := hk1 _ _ _ _ hB2
   replace hI : Bun C0 F w0 c7 w5 [MO.st I s5] [clFnS_k2 I fv1 f1] := hI
   refine ⟨_, rfl, ?_⟩
   refine sa ?_
   refine nk (sr (sm ?_))
   refine sq (y_neq rfl et ev_const) ?_
   refine nk (cif h et (fun hb h => ?_) (fun hb h => ?_))
   ·refine sr (sm ?_)
    refine sa ?_
    refine s_nil ?_
    refine k_next (e := [(6, vi r2)]) ⟨rfl, trivial⟩ ?_
    refine c_ret ?_
    obtain rfl := some_inj h
    exact q_ret (vs := [vi r2]) Tryz.results41 ⟨ev_tmp rfl rfl, trivial⟩ ⟨_, rfl, hI.arr (.c .z .n) trivial⟩
   refine c_skip (k_same (c_region rfl ?_))
   refine sq (y_add rfl et ev_const) ?_
   refine sm ?_
   refine s_nil ?_
   exact k_loop (fuel2, wi64 (i2 + 1), s5) ⟨rfl, rfl, rfl, rfl, rfl, rfl, rfl, rfl, trivial⟩ ⟨_, hI.arr (.c .z .n) ⟨.z, trivial⟩, h⟩ (Nat.lt_succ_self _)
  refine c_exit ?_
  refine k_in ?_
  exact k_join s4 ⟨rfl, rfl, rfl, rfl, rfl, trivial⟩ ⟨_, hI.arr (.c .z .n) ⟨.z, trivial⟩, h⟩ rfl
 refine c_exit ?_
 refine k_in ?_
 refine k_same (sr (sac ?_))
 refine nk (c_ret ?_)
 obtain rfl := some_inj h
 exact q_ret (vs := [vi 0]) Tryz.results41 ⟨ev_tmp rfl rfl, trivial⟩ ⟨_, rfl, hI.arr (.c .z .n) trivial⟩
end Go.Proofs.YtlakfanockhngaaGreatDoor
