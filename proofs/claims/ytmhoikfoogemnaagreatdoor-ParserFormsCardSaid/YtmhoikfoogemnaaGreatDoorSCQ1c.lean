import Derived.Test.YtmhoikfoogemnaaGreatDoorSCQ1b
import Derived.Test.YtmhoikfoogemnaaGreatDoorSLfW
namespace Go.Proofs.YtmhoikfoogemnaaGreatDoor
open Go Go.RowKit Go.Vc
set_option maxRecDepth 100000
set_option maxHeartbeats 4000000
set_option linter.unusedVariables false
set_option linter.unusedSimpArgs false
theorem c_expr_operands (F : NP) (w0 : World) (hF : ∀ k, F k → k < w0.heap.size) (op1 : Int) (hc : AllCl [] F w0) (r : Int)
  (h : m_expr_operands op1 = some r) :
  Calls Tryz.prog 200 #[vi op1] w0 fun e w => e = .returned (vi r) ∧ Ext w0 w ∧ AllCl [] F w := by
 refine enterK Tryz.func200 rfl Tryz.ntmps200 rfl ?_
 have hI := Bun.start hF hc
 clear hc
 rw [m_expr_operands] at h
 refine T ?_
 refine c_seq (T ?_)
 refine c_join (α := Bool) (fun _ => ⟨14, []⟩) (fun x => [(3, vi op1), (4, vb x)]) (fun x => fun w => ∃ C, Bun noM F w0 C w [] [] ∧ m_expr_operands_j1 op1 x = some r) ?_ ?_
 ·clear h hI; rintro i1 w1 ⟨c1, hI, h⟩
  try dsimp only at hI h
  rw [m_expr_operands_j1] at h
  refine c_sub (e := [(3, vi op1), (4, vb i1)]) SB ?_
  refine cif h et (fun hb h => ?_) (fun hb h => ?_)
  ·refine T ?_
   refine c_ret ?_
   obtain rfl := some_inj h
   exact QF hI
  refine c_join (α := Bool) (fun _ => ⟨14, []⟩) (fun x => [(3, vi op1), (8, vb x)]) (fun x => fun w => ∃ C, Bun noM F w0 C w [] [] ∧ m_expr_operands_j2 op1 x = some r) ?_ ?_
  ·clear h hI; rintro i2 w2 ⟨c2, hI, h⟩
   try dsimp only at hI h
   rw [m_expr_operands_j2] at h
   refine c_sub (e := [(3, vi op1), (8, vb i2)]) SB ?_
   refine cif h et (fun hb h => ?_) (fun hb h => ?_)
   ·refine T ?_
    refine c_ret ?_
    obtain rfl := some_inj h
    exact QF hI
   refine T ?_
   refine cif h et (fun hb h => ?_) (fun hb h => ?_)
   ·refine T ?_
    refine c_ret ?_
    obtain rfl := some_inj h
    exact QF hI
   refine T ?_
   refine c_ret ?_
   obtain rfl := some_inj h
   exact QF hI
  refine T ?_
  refine cif h et (fun hb h => ?_) (fun hb h => ?_)
  ·exact c_skip (k_join (decide (op1 = 8)) SB ⟨_, hI.arr GO SU, h⟩ rfl)
  refine T ?_
  refine cif h et (fun hb h => ?_) (fun hb h => ?_)
  ·exact c_skip (k_join (decide (op1 = 12)) SB ⟨_, hI.arr GO SU, h⟩ rfl)
  refine T ?_
  refine s_nil ?_
  exact k_join (decide (op1 = 18)) SB ⟨_, hI.arr GO SU, h⟩ rfl
 refine T ?_
 refine cif h et (fun hb h => ?_) (fun hb h => ?_)
 ·exact c_skip (k_join (decide (op1 = 1)) SB ⟨_, hI.arr GO SU, h⟩ rfl)
 refine T ?_
 refine cif h et (fun hb h => ?_) (fun hb h => ?_)
 ·exact c_skip (k_join (decide (op1 = 2)) SB ⟨_, hI.arr GO SU, h⟩ rfl)
 refine T ?_
 refine s_nil ?_
 exact k_join (decide (op1 = 3)) SB ⟨_, hI.arr GO SU, h⟩ rfl
theorem c_expr_rank_1 (F : NP) (w0 : World) (hF : ∀ k, F k → k < w0.heap.size) (x1 : GIndex) (a1 : Option Addr) (c1 : Nat) (a2 : Option Addr) (c2 : Nat) (hc : AllCl [Cl.sl cGMono a1 c1 x1.Lin.L, Cl.sl cGLin a2 c2 x1.At] F w0) (r : Bool)
  (h : m_expr_rank_1 x1 = some r) :
  Calls Tryz.prog 201 #[(Value.agg (AIndex x1 a1 c1 a2 c2))] w0 fun e w => e = .returned (vb r) ∧ Ext w0 w ∧ AllCl [] F w := by
 refine enterK Tryz.func201 rfl Tryz.ntmps201 rfl ?_
 have hI := Bun.start hF hc
 clear hc
 rw [m_expr_rank_1] at h
 refine sr (l_box (v := (Value.agg (AIndex x1 a1 c1 a2 c2))) (cs := (AIndex x1 a1 c1 a2 c2)) hI gn rfl rfl et rfl ?_)
 clear hI; intro b1 c3 w1 hI
 obtain ⟨c4, hI⟩ := hI.relBox .z
 refine T ?_
 refine c_ret ?_
 obtain rfl := some_inj h
 exact QF hI
theorem c_expr_rank (F : NP) (w0 : World) (hF : ∀ k, F k → k < w0.heap.size) (e1 : GExpr) (a1 : Option Addr) (c1 : Nat) (a2 : Option Addr) (c2 : Nat) (a3 : Option Addr) (c3 : Nat) (hc : AllCl [Cl.sl cGMono a1 c1 e1.Lin.L, Cl.sl cGIndex a2 c2 e1.Idx, Cl.sl cGExpr a3 c3 e1.Args] F w0) (r : Bool)
  (h : m_expr_rank e1 = some r) :
  Calls Tryz.prog 146 #[(Value.agg (AExpr e1 a1 c1 a2 c2 a3 c3))] w0 fun e w => e = .returned (vb r) ∧ Ext w0 w ∧ AllCl [] F w := by
 refine enterK Tryz.func146 rfl Tryz.ntmps146 rfl ?_
 have hI := Bun.start hF hc
 clear hc
 rw [m_expr_rank] at h
 refine sr (l_box (v := (Value.agg (AExpr e1 a1 c1 a2 c2 a3 c3))) (cs := (AExpr e1 a1 c1 a2 c2 a3 c3)) hI gn rfl rfl et rfl ?_)
 clear hI; intro b1 c4 w1 hI
 obtain ⟨c5, hI⟩ := hI.relBox .z
 refine T ?_
 refine c_seq (c_seq (c_drawX [] false (.c (0, .q) (.c (1, .q) (.c (2, .q) (.c (3, .q) (.c (4, .q) (.c (5, .s) (.c (6, .q) (.c (7, .q) (.c (8, .q) (.c (9, .q) (.c (10, .q) (.c (11, .q) (.c (12, .q) .n))))))))))))) hI (by kernel_rfl) (by kernel_rfl) ?_))
 clear hI; intro w2 hI
 refine V ?_
 obtain ⟨r1, hx1, h⟩ := bnd_some h
 refine la_call rfl gn rfl (r_callF (vs := [vi e1.Op]) rfl ok_200 ⟨et, trivial⟩) (Calls.mono (c_expr_operands (Dj F c5) w2 hI.lt e1.Op trivial r1 hx1) ?_)
 rintro _ w3 ⟨rfl, hx2, hl1⟩
 refine ⟨_, rfl, hx2, ?_⟩
 replace hI := (hI.ext hx2)
 refine V ?_
 refine cif h et (fun hb h => ?_) (fun hb h => ?_)
 ·refine T ?_
  refine c_ret ?_
  obtain rfl := some_inj h
  exact QF hI
 refine T ?_
 have hI := hI.add (c := clFn_k6 (Value.func (.func 201) #[] #[]) m_expr_rank_1) ⟨rfl, fun D' w' hs hl x_1 A_2 c_3 A_4 c_5 r k h => CallV.fn (cap := []) ok_201 (c_expr_rank_1 D' w' hl x_1 A_2 c_3 A_4 c_5 ⟨k.1, k.2.1, trivial⟩ r h)⟩
 obtain ⟨r2, hx3, h⟩ := bnd_some h
 refine s_call gn rfl (r_callF (vs := [vs a2 e1.Idx.length c2, (Value.func (.func 201) #[] #[])]) rfl ok_196 ⟨et, ⟨ev_func, trivial⟩⟩) (Calls.mono (c_slices_ContainsFunc_api_Index_api_Index (Dj F c5) w3 hI.lt e1.Idx m_expr_rank_1 a2 c2 (Value.func (.func 201) #[] #[]) ⟨(hI.get (.s (.s (.s .z)))), (hI.get .z), trivial⟩ r2 hx3) ?_)
 rintro _ w4 ⟨rfl, hx4, hl2⟩
 refine ⟨_, rfl, ?_⟩
 replace hI := (hI.ext hx4)
 refine T ?_
 refine c_ret ?_
 obtain rfl := some_inj h
 exact QF hI
theorem c_expr_IsCondition (F : NP) (w0 : World) (hF : ∀ k, F k → k < w0.heap.size) (e1 : GExpr) (a1 : Option Addr) (c1 : Nat) (a2 : Option Addr) (c2 : Nat) (a3 : Option Addr) (c3 : Nat) (hc : AllCl [Cl.sl cGMono a1 c1 e1.Lin.L, Cl.sl cGIndex a2 c2 e1.Idx, Cl.sl cGExpr a3 c3 e1.Args] F w0) (r : Bool)
  (h : m_expr_IsCondition e1 = some r) :
  Calls Tryz.prog 203 #[(Value.agg (AExpr e1 a1 c1 a2 c2 a3 c3))] w0 fun e w => e = .returned (vb r) ∧ Ext w0 w ∧ AllCl [] F w := by
 refine enterK Tryz.func203 rfl Tryz.ntmps203 rfl ?_
 have hI := Bun.start hF hc
 clear hc
 rw [m_expr_IsCondition] at h
 refine sr (l_box (v := (Value.agg (AExpr e1 a1 c1 a2 c2 a3 c3))) (cs := (AExpr e1 a1 c1 a2 c2 a3 c3)) hI gn rfl rfl et rfl ?_)
 clear hI; intro b1 c4 w1 hI
 obtain ⟨c5, hI⟩ := hI.relBox .z
 refine T ?_
 refine c_ret ?_
 obtain rfl := some_inj h
 exact QF hI
theorem c_expr_requiresCondition (F : NP) (w0 : World) (hF : ∀ k, F k → k < w0.heap.size) (op1 : Int) (i1 : Int) (hc : AllCl [] F w0) (r : Bool)
  (h : m_expr_requiresCondition op1 i1 = some r) :
  Calls Tryz.prog 204 #[vi op1, vi i1] w0 fun e w => e = .returned (vb r) ∧ Ext w0 w ∧ AllCl [] F w := by
 refine enterK Tryz.func204 rfl Tryz.ntmps204 rfl ?_
 have hI := Bun.start hF hc
 clear hc
 rw [m_expr_requiresCondition] at h
 refine T ?_
 refine c_seq (T ?_)
 refine c_seq (T ?_)
 refine cif h et (fun hb h => ?_) (fun hb h => ?_)
 ·refine T ?_
  refine cif h et (fun hb h => ?_) (fun hb h => ?_)
  ·refine T ?_
   refine c_ret ?_
   obtain rfl := some_inj h
   exact QF hI
  refine T ?_
  refine c_ret ?_
  obtain rfl := some_inj h
  exact QF hI
 refine T ?_
 refine cif h et (fun hb h => ?_) (fun hb h => ?_)
 ·refine T ?_
  refine cif h et (fun hb h => ?_) (fun hb h => ?_)
  ·refine T ?_
   refine c_ret ?_
   obtain rfl := some_inj h
   exact QF hI
  refine T ?_
  refine c_ret ?_
  obtain rfl := some_inj h
  exact QF hI
 refine T ?_
 refine cif h et (fun hb h => ?_) (fun hb h => ?_)
 ·refine T ?_
  refine c_ret ?_
  obtain rfl := some_inj h
  exact QF hI
 refine T ?_
 refine c_ret ?_
 obtain rfl := some_inj h
 exact QF hI
theorem c_expr_types (F : NP) (w0 : World) (hF : ∀ k, F k → k < w0.heap.size) (e1 : GExpr) (a1 : Option Addr) (c1 : Nat) (a2 : Option Addr) (c2 : Nat) (a3 : Option Addr) (c3 : Nat) (hc : AllCl [Cl.sl cGMono a1 c1 e1.Lin.L, Cl.sl cGIndex a2 c2 e1.Idx, Cl.sl cGExpr a3 c3 e1.Args] F w0) (r : Bool)
  (h : m_expr_types e1 = some r) :
  Calls Tryz.prog 147 #[(Value.agg (AExpr e1 a1 c1 a2 c2 a3 c3))] w0 fun e w => e = .returned (vb r) ∧ Ext w0 w ∧ AllCl [] F w := by
 refine enterK Tryz.func147 rfl Tryz.ntmps147 rfl ?_
 have hI := Bun.start hF hc
 clear hc
 rw [m_expr_types] at h
 refine sr (l_box (v := (Value.agg (AExpr e1 a1 c1 a2 c2 a3 c3))) (cs := (AExpr e1 a1 c1 a2 c2 a3 c3)) hI gn rfl rfl et rfl ?_)
 clear hI; intro b1 c4 w1 hI
 obtain ⟨c5, hI⟩ := hI.relBox .z
 refine T ?_
 refine c_seq (T ?_)
 refine s_gval (g_true rfl rfl rfl rfl) rfl (fun hc => (y_loadN (l := (lType e1.Type_)) rfl (ev_gv et hc) u35 rfl size_35 (hI.kblk (l := (lType e1.Type_)) .z rfl).1)) ?_
 obtain ⟨r1, hx1, h⟩ := bnd_some h
 replace hx1 := gd_some hx1
 refine s_gcallU (v := (vi r1)) (g_true rfl rfl rfl rfl) rfl (fun hc => (r_callF (vs := [(Value.agg (AType e1.Type_))]) rfl ok_202 ⟨(ev_gv et hc), trivial⟩)) (fun hc => (c_value_ValidateType (Dj F c5) w1 hI.lt e1.Type_ trivial r1 (hx1 hc)).mono fun _ _ k => ⟨k.1, k.2.1⟩) ?_
 intro w2 hx2; replace hI := hI.ext hx2
 refine T ?_
 refine cif h et (fun hb h => ?_) (fun hb h => ?_)
 ·refine T ?_
  refine c_ret ?_
  obtain rfl := some_inj h
  exact QF hI
 refine T ?_
 refine c_seq (T ?_)
 refine c_loop (α := Nat × Int) (fun x => fun w => ∃ C, Bun noM F w0 C w [] [Cl.blk b1 39 (AExpr e1 a1 c1 a2 c2 a3 c3), Cl.sl cGMono a1 c1 e1.Lin.L, Cl.sl cGIndex a2 c2 e1.Idx, Cl.sl cGExpr a3 c3 e1.Args] ∧ m_expr_types_l1 e1 (x.1) (x.2) = some r) (fun x _ => x.1) (fun x => [(1, vp b1 0), (20, vs a3 e1.Args.length c3), (21, vi (e1.Args.length : Int)), (22, vi (x.2))]) (fu, 0) ⟨_, hI.arr .n ⟨.z, (.s .z), (.s (.s .z)), (.s (.s (.s .z))), trivial⟩, h⟩ SB ?_
 clear h hI; rintro ⟨fuel1, i1⟩ w3 ⟨c6, hI, h⟩
 dsimp only at hI h
 rcases fuel1 with _ | fuel1
 ·rw [m_expr_types_l1] at h; cases h
 rw [m_expr_types_l1] at h
 refine c_sub (e := [(1, vp b1 0), (20, vs a3 e1.Args.length c3), (21, vi (e1.Args.length : Int)), (22, vi i1)]) SB ?_
 refine T ?_
 refine c_seq (cif h et (fun hb h => ?_) (fun hb h => ?_))
 ·refine T ?_
  refine c_seq (T ?_)
  obtain ⟨e2, hx3, h⟩ := bnd_some h
  obtain ⟨ad1, cs1, hA1, hr1, hq1⟩ := hI.clat (.s (.s (.s .z))) hx3
  obtain ⟨a4, c7, a5, c8, a6, c9, rfl, hf1, hf2, hf3⟩ := cGExpr_out hr1
  have hI := hI.add (c := Cl.sl cGMono a4 c7 e2.Lin.L) hf1
  have hI := hI.add (c := Cl.sl cGIndex a5 c8 e2.Idx) hf2
  have hI := hI.add (c := Cl.sl cGExpr a6 c9 e2.Args) hf3
  refine sI ?_
  refine T ?_
  refine l_alloc (cs := #[vi 0, (str ([] : List UInt8)), vi 0, vi 0, vi 0, vi 0, vi 0, vi 0, vi 0, vi 0, vs none 0 0, vs none 0 0, vs none 0 0]) hI gn rfl rfl zero_39 rfl ?_
  clear hI; intro b2 c10 w4 hI
  refine sa ?_
  refine l_store (new := (lExpr e2 a4 c7 a5 c8 a6 c9)) (cs' := (AExpr e2 a4 c7 a5 c8 a6 c9)) hI .z gn rfl rfl et et rfl size_39 rfl rfl rfl ?_
  clear hI; intro c11 w5 hI
  refine nk (c_seq (c_drawX [] false (.c (0, .q) (.c (2, .q) (.c (3, .q) (.c (4, .q) (.c (1, .s) (.c (5, .s) (.c (6, .q) .n))))))) hI (by kernel_rfl) (by kernel_rfl) ?_))
  clear hI; intro w6 hI
  refine a_read rfl gn rfl (fun w' hw' => (y_loadN (l := (lExpr e2 a4 c7 a5 c8 a6 c9)) rfl et u39 rfl size_39 ((CA.blk (hI.blk .z) rfl).at_ (SX.any rfl hw')))) (by kernel_rfl) ?_
  refine V ?_
  obtain ⟨r2, hx4, h⟩ := bnd_some h
  refine la_call rfl gn rfl (r_callF (vs := [(Value.agg (AExpr e2 a4 c7 a5 c8 a6 c9))]) rfl ok_203 ⟨et, trivial⟩) (Calls.mono (c_expr_IsCondition (Dj F c11) w6 hI.lt e2 a4 c7 a5 c8 a6 c9 ⟨(hI.get (.s (.s .z))), (hI.get (.s .z)), (hI.get .z), trivial⟩ r2 hx4) ?_)
  rintro _ w7 ⟨rfl, hx5, hl2⟩
  refine ⟨_, rfl, hx5, ?_⟩
  replace hI := (hI.ext hx5)
  obtain ⟨r3, hx6, h⟩ := bnd_some h
  refine la_call rfl gn rfl (r_callF (vs := [vi e1.Op, vi i1]) rfl ok_204 ⟨et, ⟨et, trivial⟩⟩) (Calls.mono (c_expr_requiresCondition (Dj F c11) w7 hI.lt e1.Op i1 trivial r3 hx6) ?_)
  rintro _ w8 ⟨rfl, hx7, hl3⟩
  refine ⟨_, rfl, hx7, ?_⟩
  replace hI := (hI.ext hx7)
  refine a_q rfl gn rfl (fun w' => y_neb rfl u4 et et) ?_
  refine V ?_
  refine cif h et (fun hb h => ?_) (fun hb h => ?_)
  ·refine T ?_
   refine c_ret ?_
   obtain rfl := some_inj h
   exact QF hI
  refine T ?_
  refine s_nil ?_
  exact k_loop (fuel1, wi64 (i1 + 1)) SB ⟨_, hI.arr GO SU, h⟩ (Nat.lt_succ_self _)
 refine c_exit ?_
 refine k_in ?_
 refine k_same ?_
 refine T ?_
 refine c_ret ?_
 obtain rfl := some_inj h
 exact QF hI
theorem c_value_whole (F : NP) (w0 : World) (hF : ∀ k, F k → k < w0.heap.size) (n1 : Int) (hc : AllCl [] F w0) (r : Bool)
  (h : m_value_whole n1 = some r) :
  Calls Tryz.prog 206 #[vi n1] w0 fun e w => e = .returned (vb r) ∧ Ext w0 w ∧ AllCl [] F w := by
 refine enterK Tryz.func206 rfl Tryz.ntmps206 rfl ?_
 have hI := Bun.start hF hc
 clear hc
 rw [m_value_whole] at h
 refine T ?_
 refine c_ret ?_
 obtain rfl := some_inj h
 exact QF hI
theorem c_value_Valid (F : NP) (w0 : World) (hF : ∀ k, F k → k < w0.heap.size) (t1 : GType) (v1 : GVal) (hc : AllCl [] F w0) (r : Bool)
  (h : m_value_Valid t1 v1 = some r) :
  Calls Tryz.prog 148 #[(Value.agg (AType t1)), (Value.agg (AVal v1))] w0 fun e w => e = .returned (vb r) ∧ Ext w0 w ∧ AllCl [] F w := by
 refine enterK Tryz.func148 rfl Tryz.ntmps148 rfl ?_
 have hI := Bun.start hF hc
 clear hc
 rw [m_value_Valid] at h
 refine sr (l_box (v := (Value.agg (AType t1))) (cs := (AType t1)) hI gn rfl rfl et rfl ?_)
 clear hI; intro b1 c1 w1 hI
 obtain ⟨c2, hI⟩ := hI.relBox .z
 refine l_box (v := (Value.agg (AVal v1))) (cs := (AVal v1)) hI gn rfl rfl et rfl ?_
 clear hI; intro b2 c3 w2 hI
 obtain ⟨c4, hI⟩ := hI.relBox .z
 refine T ?_
 refine c_seq (sr (sq (y_loadN (l := (lType t1)) rfl et u35 rfl size_35 (hI.kblk (l := (lType t1)) (.s .z) rfl).1) ?_))
 obtain ⟨r1, hx1, h⟩ := bnd_some h
 refine s_call gn rfl (r_callF (vs := [(Value.agg (AType t1))]) rfl ok_202 ⟨et, trivial⟩) (Calls.mono (c_value_ValidateType (Dj F c4) w2 hI.lt t1 trivial r1 hx1) ?_)
 rintro _ w3 ⟨rfl, hx2, hl1⟩
 refine ⟨_, rfl, ?_⟩
 replace hI := (hI.ext hx2)
 refine T ?_
 refine cif h et (fun hb h => ?_) (fun hb h => ?_)
 ·refine T ?_
  refine c_ret ?_
  obtain rfl := some_inj h
  exact QF hI
 refine T ?_
 refine c_seq (T ?_)
 refine cif h et (fun hb h => ?_) (fun hb h => ?_)
 ·refine sr (sq (y_loadN (l := (lType t1)) rfl et u35 rfl size_35 (hI.kblk (l := (lType t1)) (.s .z) rfl).1) ?_)
  refine sq (y_loadN (l := (lVal v1)) rfl et u33 rfl size_33 (hI.kblk (l := (lVal v1)) .z rfl).1) ?_
  obtain ⟨r2, hx3, h⟩ := bnd_some h
  refine s_call gn rfl (r_callF (vs := [(Value.agg (AType t1)), (Value.agg (AVal v1))]) rfl ok_205 ⟨et, ⟨et, trivial⟩⟩) (Calls.mono (c_fixed_Valid (Dj F c4) w3 hI.lt t1 v1 trivial r2 hx3) ?_)
  rintro _ w4 ⟨rfl, hx4, hl2⟩
  refine ⟨_, rfl, ?_⟩
  replace hI := (hI.ext hx4)
  refine T ?_
  refine c_ret ?_
  obtain rfl := some_inj h
  exact QF hI
 refine T ?_
 refine cif h et (fun hb h => ?_) (fun hb h => ?_)
 ·refine T ?_
  obtain ⟨r3, hx5, h⟩ := bnd_some h
  replace hx5 := gd_some hx5
  refine s_gcallU (v := (vb r3)) (g_true rfl rfl rfl rfl) rfl (fun hc => (r_callF (vs := [vi v1.N]) rfl ok_206 ⟨(ev_gv et hc), trivial⟩)) (fun hc => (c_value_whole (Dj F c4) w3 hI.lt v1.N trivial r3 (hx5 hc)).mono fun _ _ k => ⟨k.1, k.2.1⟩) ?_
  intro w5 hx6; replace hI := hI.ext hx6
  refine T ?_
  refine c_ret ?_
  obtain rfl := some_inj h
  exact QF hI
 refine T ?_
 refine sq (y_loadN (l := (lVal v1)) rfl et u33 rfl size_33 (hI.kblk (l := (lVal v1)) .z rfl).1) ?_
 obtain ⟨r4, hx7, h⟩ := bnd_some h
 refine s_call gn rfl (r_callF (vs := [(Value.agg (AVal v1))]) rfl ok_207 ⟨et, trivial⟩) (Calls.mono (c_frac_Valid (Dj F c4) w3 hI.lt v1 trivial r4 hx7) ?_)
 rintro _ w6 ⟨rfl, hx8, hl4⟩
 refine ⟨_, rfl, ?_⟩
 replace hI := (hI.ext hx8)
 refine T ?_
 refine c_ret ?_
 obtain rfl := some_inj h
 exact QF hI
theorem c_expr_forms (F : NP) (w0 : World) (hF : ∀ k, F k → k < w0.heap.size) (e1 : GExpr) (a1 : Option Addr) (c1 : Nat) (a2 : Option Addr) (c2 : Nat) (a3 : Option Addr) (c3 : Nat) (hc : AllCl [Cl.sl cGMono a1 c1 e1.Lin.L, Cl.sl cGIndex a2 c2 e1.Idx, Cl.sl cGExpr a3 c3 e1.Args] F w0) (r : GExpr)
  (h : m_expr_forms e1 = some r) :
  Calls Tryz.prog 149 #[(Value.agg (AExpr e1 a1 c1 a2 c2 a3 c3))] w0 fun e w => ∃ (b1 : Nat) (a4 : Option Addr) (c4 : Nat) (a5 : Option Addr) (c5 : Nat) (a6 : Option Addr) (c6 : Nat), e = .returned (Value.func (.func 208) #[] #[vp b1 0]) ∧ Ext w0 w ∧ AllCl [Cl.sl cGMono a4 c4 r.Lin.L, Cl.sl cGIndex a5 c5 r.Idx, Cl.sl cGExpr a6 c6 r.Args, Cl.blk b1 39 (AExpr r a4 c4 a5 c5 a6 c6)] F w := by
 refine enterK Tryz.func149 rfl Tryz.ntmps149 rfl ?_
 have hI := Bun.start hF hc
 clear hc
 rw [m_expr_forms] at h
 refine sr (l_box (v := (Value.agg (AExpr e1 a1 c1 a2 c2 a3 c3))) (cs := (AExpr e1 a1 c1 a2 c2 a3 c3)) hI gn rfl rfl et rfl ?_)
 clear hI; intro b2 c7 w1 hI
 obtain ⟨c8, hI⟩ := hI.relBox .z
 refine T ?_
 refine sq (y_makeFunc (vs := []) (cap := [vp b2 0]) rfl rfl ⟨et, trivial⟩) ?_
 refine T ?_
 refine c_ret ?_
 obtain rfl := some_inj h
 refine QG ?_
 exact ⟨b2, a1, c1, a2, c2, a3, c3, rfl, hI.ext0, hI.fin ⟨(.s .z), (.s (.s .z)), (.s (.s (.s .z))), .z, trivial⟩⟩
theorem c_expr_forms_1_s {σ : Type} (I : StI σ) (C0 F : NP) (w0 : World) (yield1 : (GLin → σ → Option (Bool × σ))) (a1 : GExpr) (s1 : σ) (fv1 : Value) (b1 : Nat) (a2 : Option Addr) (c1 : Nat) (a3 : Option Addr) (c2 : Nat) (a4 : Option Addr) (c3 : Nat) (hI : Bun C0 F w0 C0 w0 [MO.st I s1] [clFnS_k7 I fv1 yield1, Cl.sl cGMono a2 c1 a1.Lin.L, Cl.sl cGIndex a3 c2 a1.Idx, Cl.sl cGExpr a4 c3 a1.Args, Cl.blk b1 39 (AExpr a1 a2 c1 a3 c2 a4 c3)]) (r : Unit × σ)
  (h : m_expr_forms_1_s yield1 a1 s1 = some r) :
  Calls Tryz.prog 208 #[fv1, vp b1 0] w0 fun e w => ∃ (C : NP), e = .returned (Value.tuple #[]) ∧ Bun C0 F w0 C w [MO.st I r.2] [] := by
 refine enterK Tryz.func208 rfl Tryz.ntmps208 rfl ?_
 rw [m_expr_forms_1_s] at h
 refine c_seq (sr (sm ?_))
 refine sq (y_fieldAddr rfl et u39 rfl size_27 rfl) ?_
 refine sq (y_loadN (l := (lLin a1.Lin a2 c1)) rfl et u27 rfl size_27 (hI.kblk (l := (lLin a1.Lin a2 c1)) (.s (.s (.s (.s .z)))) rfl).1) ?_
 obtain ⟨⟨r1, s2⟩, hx1, h⟩ := bnd_some h
 try dsimp only at h
 obtain ⟨c4, f1, hB, hl1, hk1⟩ := hI.hands (.l .n)
 refine s_callV (args := [(Value.agg (ALin a1.Lin a2 c1))]) gn rfl rfl et ⟨et, trivial⟩ (CallV.mono ((hI.get .z).2 c4 f1 w0 (Sp.less hl1) a1.Lin a2 c1 s1 _ (hB.subs ⟨(.s .z), trivial⟩) hx1) ?_)
 rintro _ w1 ⟨c5, rfl, hB2⟩
 obtain ⟨c6, hs1, hI⟩ := hk1 _ _ _ _ hB2
 replace hI : Bun C0 F w0 c6 w1 [MO.st I s2] [clFnS_k7 I fv1 yield1, Cl.sl cGMono a2 c1 a1.Lin.L, Cl.sl cGIndex a3 c2 a1.Idx, Cl.sl cGExpr a4 c3 a1.Args, Cl.blk b1 39 (AExpr a1 a2 c1 a3 c2 a4 c3)] := hI
 refine ⟨_, rfl, ?_⟩
 refine sq (y_not rfl et) ?_
 refine nk (cif h et (fun hb h => ?_) (fun hb h => ?_))
 ·refine c_ret ?_
  obtain rfl := some_inj h
  exact q_ret (vs := []) Tryz.results208 trivial ⟨_, rfl, hI.arr (.c .z .n) trivial⟩
 refine c_skip (k_same (sr (sq (y_fieldAddr rfl et u39 rfl size_36 rfl) ?_)))
 refine sq (y_load1 (v := (vs a3 a1.Idx.length c2)) rfl et u36 rfl (hI.kblk (l := [vs a3 a1.Idx.length c2]) (.s (.s (.s (.s .z)))) rfl).1) ?_
 refine sq (y_lenl rfl u36 et) ?_
 refine sq (y_move rfl ev_const) ?_
 refine nk (c_block (c_loop (α := Nat × Int × σ) (fun x => fun w => ∃ C, Bun C0 F w0 C w [MO.st I (x.2.2)] [clFnS_k7 I fv1 yield1, Cl.sl cGIndex a3 c2 a1.Idx] ∧ m_expr_forms_1_s_l1 a1 yield1 (x.1) (x.2.1) (x.2.2) = some r) (fun x _ => x.1) (fun x => [(0, fv1), (13, vs a3 a1.Idx.length c2), (14, vi (a1.Idx.length : Int)), (15, vi (x.2.1))]) (fu, 0, s2) ⟨_, hI.arr (.c .z .n) ⟨.z, (.s (.s .z)), trivial⟩, h⟩ ⟨rfl, rfl, rfl, rfl, trivial⟩ ?_))
 clear h hI; rintro ⟨fuel1, i1, s3⟩ w2 ⟨c7, hI, h⟩
 dsimp only at hI h
 rcases fuel1 with _ | fuel1
 ·rw [m_expr_forms_1_s_l1] at h; cases h
 rw [m_expr_forms_1_s_l1] at h
 refine c_sub (e := [(0, fv1), (13, vs a3 a1.Idx.length c2), (14, vi (a1.Idx.length : Int)), (15, vi i1)]) ⟨rfl, rfl, rfl, rfl, trivial⟩ ?_
 refine sr (sq (y_lss rfl et et) ?_)
 refine nk (c_seq (cif h et (fun hb h => ?_) (fun hb h => ?_)))
 ·refine c_skip (k_same (c_join (α := σ) (fun _ => ⟨37, []⟩) (fun x => [(0, fv1), (13, vs a3 a1.Idx.length c2), (14, vi (a1.Idx.length : Int)), (15, vi i1)]) (fun x => fun w => ∃ C, Bun C0 F w0 C w [MO.st I x] [clFnS_k7 I fv1 yield1, Cl.sl cGIndex a3 c2 a1.Idx] ∧ m_expr_forms_1_s_j1 (m_expr_forms_1_s_l1 a1 yield1 fuel1) i1 x = some r) ?_ ?_))
  ·clear h hI; rintro s4 w3 ⟨c8, hI, h⟩
   try dsimp only at hI h
   rw [m_expr_forms_1_s_j1] at h
   refine c_sub (e := [(0, fv1), (13, vs a3 a1.Idx.length c2), (14, vi (a1.Idx.length : Int)), (15, vi i1)]) ⟨rfl, rfl, rfl, rfl, trivial⟩ ?_
   refine c_region rfl ?_
   refine sq (y_add rfl et ev_const) ?_
   refine sm ?_
   refine s_nil ?_
   exact k_loop (fuel1, wi64 (i1 + 1), s4) ⟨rfl, rfl, rfl, rfl, trivial⟩ ⟨_, hI.arr (.c .z .n) ⟨.z, (.s .z), trivial⟩, h⟩ (Nat.lt_succ_self _)
  refine c_block (sr ?_)
  obtain ⟨e1, hx2, h⟩ := bnd_some h
  obtain ⟨ad1, cs1, hA1, hr1, hq1⟩ := hI.clat (.s .z) hx2
  obtain ⟨a5, c9, a6, c10, rfl, hf1, hf2⟩ := hr1
  have hI := hI.add (c := Cl.sl cGMono a5 c9 e1.Lin.L) hf1
  have hI := hI.add (c := Cl.sl cGLin a6 c10 e1.At) hf2
  refine sq (y_indexAddr rfl u36 size_132 et et (lat_bd hx2) hA1) ?_
  refine sq (y_loadN (l := (lIndex e1 a5 c9 a6 c10)) rfl et u132 rfl size_132 hq1.1) ?_
  refine l_alloc (cs := #[vi 0, vs none 0 0, (str ([] : List UInt8)), vs none 0 0]) hI gn rfl rfl zero_132 rfl ?_
  clear hI; intro b2 c11 w4 hI
  refine l_store (new := (lIndex e1 a5 c9 a6 c10)) (cs' := (AIndex e1 a5 c9 a6 c10)) hI .z gn rfl rfl et et rfl size_132 rfl rfl rfl ?_
  clear hI; intro c12 w5 hI
  refine nk (c_seq (sr (sm ?_)))
  refine sq (y_fieldAddr rfl et u132 rfl size_27 rfl) ?_
  refine sq (y_loadN (l := (lLin e1.Lin a5 c9)) rfl et u27 rfl size_27 (CellsAt.of_blk (hI.blk .z) rfl)) ?_
  obtain ⟨⟨r2, s5⟩, hx3, h⟩ := bnd_some h
  try dsimp only at h
  obtain ⟨c13, f2, hB, hl2, hk2⟩ := hI.hands (.r (.l .n))
  refine s_callV (args := [(Value.agg (ALin e1.Lin a5 c9))]) gn rfl rfl et ⟨et, trivial⟩ (CallV.mono ((hI.get (.s (.s .z))).2 c13 f2 w5 (Sp.less hl2) e1.Lin a5 c9 s3 _ (hB.subs ⟨(.s .z), trivial⟩) hx3) ?_)
  rintro _ w6 ⟨c14, rfl, hB2⟩
  obtain ⟨c15, hs2, hI⟩ := hk2 _ _ _ _ hB2
  replace hI : Bun C0 F w0 c15 w6 [MO.st I s5, MO.box b2 132 (AIndex e1 a5 c9 a6 c10)] [Cl.sl cGLin a6 c10 e1.At, Cl.sl cGMono a5 c9 e1.Lin.L, clFnS_k7 I fv1 yield1, Cl.sl cGIndex a3 c2 a1.Idx] := hI
  refine ⟨_, rfl, ?_⟩
  refine sq (y_not rfl et) ?_
  refine nk (cif h et (fun hb h => ?_) (fun hb h => ?_))
  ·refine c_ret ?_
   obtain rfl := some_inj h
   exact q_ret (vs := []) Tryz.results208 trivial ⟨_, rfl, hI.arr (.c .z .n) trivial⟩
  refine c_skip (k_same (sr (sq (y_fieldAddr rfl et u132 rfl size_93 rfl) ?_)))
  refine sq (y_load1 (v := (vs a6 e1.At.length c10)) rfl et u93 rfl (CellsAt.of_blk (hI.blk (.s .z)) rfl)) ?_
  refine sq (y_lenl rfl u93 et) ?_
  refine sq (y_move rfl ev_const) ?_
  refine nk (c_block (c_loop (α := Nat × Int × σ) (fun x => fun w => ∃ C, Bun C0 F w0 C w [MO.st I (x.2.2)] [clFnS_k7 I fv1 yield1, Cl.sl cGIndex a3 c2 a1.Idx, Cl.sl cGLin a6 c10 e1.At] ∧ m_expr_forms_1_s_l2 e1 yield1 (m_expr_forms_1_s_l1 a1 yield1 fuel1) i1 (x.1) (x.2.1) (x.2.2) = some r) (fun x _ => x.1) (fun x => [(0, fv1), (13, vs a3 a1.Idx.length c2), (14, vi (a1.Idx.length : Int)), (15, vi i1), (25, vs a6 e1.At.length c10), (26, vi (e1.At.length : Int)), (27, vi (x.2.1))]) (fu, 0, s5) ⟨_, hI.arr (.c .z .n) ⟨(.s (.s .z)), (.s (.s (.s .z))), .z, trivial⟩, h⟩ ⟨rfl, rfl, rfl, rfl, rfl, rfl, rfl, trivial⟩ ?_))
  clear h hI; rintro ⟨fuel2, i2, s6⟩ w7 ⟨c16, hI, h⟩
  dsimp only at hI h
  rcases fuel2 with _ | fuel2
  ·rw [m_expr_forms_1_s_l2] at h; cases h
  rw [m_expr_forms_1_s_l2] at h
  refine c_sub (e := [(0, fv1), (13, vs a3 a1.Idx.length c2), (14, vi (a1.Idx.length : Int)), (15, vi i1), (25, vs a6 e1.At.length c10), (26, vi (e1.At.length : Int)), (27, vi i2)]) ⟨rfl, rfl, rfl, rfl, rfl, rfl, rfl, trivial⟩ ?_
  refine sr (sq (y_lss rfl et et) ?_)
  refine nk (c_seq (cif h et (fun hb h => ?_) (fun hb h => ?_)))
  ·refine c_skip (k_same (c_seq (c_block (sr ?_))))
   obtain ⟨e2, hx4, h⟩ := bnd_some h
   obtain ⟨ad2, cs2, hA2, hr2, hq2⟩ := hI.clat (.s (.s .z)) hx4
   obtain ⟨a7, c17, rfl, hf3⟩ := hr2
   have hI := hI.add (c := Cl.sl cGMono a7 c17 e2.L) hf3
   refine sq (y_indexAddr rfl u93 size_27 et et (lat_bd hx4) hA2) ?_
   refine sq (y_loadN (l := (lLin e2 a7 c17)) rfl et u27 rfl size_27 hq2.1) ?_
   refine l_alloc (cs := #[vi 0, vs none 0 0]) hI gn rfl rfl zero_27 rfl ?_
   clear hI; intro b3 c18 w8 hI
   refine l_store (new := (lLin e2 a7 c17)) (cs' := (ALin e2 a7 c17)) hI .z gn rfl rfl et et rfl size_27 rfl rfl rfl ?_
   clear hI; intro c19 w9 hI
   refine nk (sr (sm ?_))
   refine sq (y_loadN (l := (lLin e2 a7 c17)) rfl et u27 rfl size_27 (CellsAt.of_blk (hI.blk .z) rfl)) ?_
   obtain ⟨⟨r3, s7⟩, hx5, h⟩ := bnd_some h
   try dsimp only at h
   obtain ⟨c20, f3, hB, hl3, hk3⟩ := hI.hands (.r (.l .n))
   refine s_callV (args := [(Value.agg (ALin e2 a7 c17))]) gn rfl rfl et ⟨et, trivial⟩ (CallV.mono ((hI.get (.s .z)).2 c20 f3 w9 (Sp.less hl3) e2 a7 c17 s6 _ (hB.subs ⟨.z, trivial⟩) hx5) ?_)
   rintro _ w10 ⟨c21, rfl, hB2⟩
   obtain ⟨c22, hs3, hI⟩ := hk3 _ _ _ _ hB2
   replace hI : Bun C0 F w0 c22 w10 [MO.st I s7, MO.box b3 27 (ALin e2 a7 c17)] [Cl.sl cGMono a7 c17 e2.L, clFnS_k7 I fv1 yield1, Cl.sl cGIndex a3 c2 a1.Idx, Cl.sl cGLin a6 c10 e1.At] := hI
   refine ⟨_, rfl, ?_⟩
   refine sq (y_not rfl et) ?_
   refine nk (cif h et (fun hb h => ?_) (fun hb h => ?_))
   ·refine c_ret ?_
    obtain rfl := some_inj h
    exact q_ret (vs := []) Tryz.results208 trivial ⟨_, rfl, hI.arr (.c .z .n) trivial⟩
   refine c_skip (k_same (c_region rfl ?_))
   refine sq (y_add rfl et ev_const) ?_
   refine sm ?_
   refine s_nil ?_
   exact k_loop (fuel2, wi64 (i2 + 1), s7) ⟨rfl, rfl, rfl, rfl, rfl, rfl, rfl, trivial⟩ ⟨_, hI.arr (.c .z .n) ⟨(.s .z), (.s (.s .z)), (.s (.s (.s .z))), trivial⟩, h⟩ (Nat.lt_succ_self _)
  refine c_exit ?_
  refine k_in ?_
  exact k_join s6 ⟨rfl, rfl, rfl, rfl, trivial⟩ ⟨_, hI.arr (.c .z .n) ⟨.z, (.s .z), trivial⟩, h⟩ rfl
 refine c_exit ?_
 refine k_in ?_
 obtain rfl := some_inj h
 exact q_ret (vs := []) Tryz.results208 trivial ⟨_, rfl, hI.arr (.c .z .n) trivial⟩
theorem c_expr_validNode (F : NP) (w0 : World) (hF : ∀ k, F k → k < w0.heap.size) (e1 : GExpr) (a1 : Option Addr) (c1 : Nat) (a2 : Option Addr) (c2 : Nat) (a3 : Option Addr) (c3 : Nat) (hc : AllCl [Cl.sl cGMono a1 c1 e1.Lin.L, Cl.sl cGIndex a2 c2 e1.Idx, Cl.sl cGExpr a3 c3 e1.Args, clSpace] F w0) (r : Int)
  (h : m_expr_validNode e1 = some r) :
  Calls Tryz.prog 79 #[(Value.agg (AExpr e1 a1 c1 a2 c2 a3 c3))] w0 fun e w => e = .returned (vi r) ∧ Ext w0 w ∧ AllCl [] F w := by
 refine enterK Tryz.func79 rfl Tryz.ntmps79 rfl ?_
 have hI := Bun.start hF hc
 clear hc
 rw [m_expr_validNode] at h
 refine sr (l_box (v := (Value.agg (AExpr e1 a1 c1 a2 c2 a3 c3))) (cs := (AExpr e1 a1 c1 a2 c2 a3 c3)) hI gn rfl rfl et rfl ?_)
 clear hI; intro b1 c4 w1 hI
 obtain ⟨c5, hI⟩ := hI.relBox .z
 refine l_alloc (cs := #[vi 0]) hI gn rfl rfl zero_28 rfl ?_
 clear hI; intro b2 c6 w2 hI
 refine nk (c_seq (T ?_))
 refine sq (y_loadN (l := (lExpr e1 a1 c1 a2 c2 a3 c3)) rfl et u39 rfl size_39 (hI.kblk (l := (lExpr e1 a1 c1 a2 c2 a3 c3)) .z rfl).1) ?_
 obtain ⟨r1, hx1, h⟩ := bnd_some h
 refine s_call gn rfl (r_callF (vs := [(Value.agg (AExpr e1 a1 c1 a2 c2 a3 c3))]) rfl ok_144 ⟨et, trivial⟩) (Calls.mono (c_expr_syntax (Dj F c6) w2 hI.lt e1 a1 c1 a2 c2 a3 c3 ⟨(hI.get (.s .z)), (hI.get (.s (.s .z))), (hI.get (.s (.s (.s .z)))), trivial⟩ r1 hx1) ?_)
 rintro _ w3 ⟨rfl, hx2, hl1⟩
 refine ⟨_, rfl, ?_⟩
 replace hI := (hI.ext hx2)
 refine T ?_
 refine cif h et (fun hb h => ?_) (fun hb h => ?_)
 ·refine sr (l_store (new := [vi 5]) (cs' := #[vi 5]) hI .z gn rfl rfl et ev_const rfl size_28 rfl rfl rfl ?_)
  clear hI; intro c7 w4 hI
  refine nk (c_ret ?_)
  obtain rfl := some_inj h
  exact q_ret (vs := [vi 5]) Tryz.results79 ⟨⟨_, ev_tmp rfl rfl, load_one (v := (vi 5)) u28 rfl (CellsAt.of_blk (hI.blk .z) rfl)⟩, trivial⟩ (fq hI trivial)
 refine sr (sq (y_loadN (l := (lExpr e1 a1 c1 a2 c2 a3 c3)) rfl et u39 rfl size_39 (hI.kblk (l := (lExpr e1 a1 c1 a2 c2 a3 c3)) .z rfl).1) ?_)
 obtain ⟨r2, hx3, h⟩ := bnd_some h
 refine s_call gn rfl (r_callF (vs := [(Value.agg (AExpr e1 a1 c1 a2 c2 a3 c3))]) rfl ok_145 ⟨et, trivial⟩) (Calls.mono (c_expr_names (Dj F c6) w3 hI.lt e1 a1 c1 a2 c2 a3 c3 ⟨(hI.get (.s .z)), (hI.get (.s (.s .z))), (hI.get (.s (.s (.s .z)))), (hI.get (.s (.s (.s (.s .z))))), trivial⟩ r2 hx3) ?_)
 rintro _ w5 ⟨rfl, hx4, hl2⟩
 refine ⟨_, rfl, ?_⟩
 replace hI := (hI.ext hx4)
 refine T ?_
 refine cif h et (fun hb h => ?_) (fun hb h => ?_)
 ·refine sr (l_store (new := [vi 7]) (cs' := #[vi 7]) hI .z gn rfl rfl et ev_const rfl size_28 rfl rfl rfl ?_)
  clear hI; intro c8 w6 hI
  refine nk (c_ret ?_)
  obtain rfl := some_inj h
  exact q_ret (vs := [vi 7]) Tryz.results79 ⟨⟨_, ev_tmp rfl rfl, load_one (v := (vi 7)) u28 rfl (CellsAt.of_blk (hI.blk .z) rfl)⟩, trivial⟩ (fq hI trivial)
 refine sr (sq (y_loadN (l := (lExpr e1 a1 c1 a2 c2 a3 c3)) rfl et u39 rfl size_39 (hI.kblk (l := (lExpr e1 a1 c1 a2 c2 a3 c3)) .z rfl).1) ?_)
 obtain ⟨r3, hx5, h⟩ := bnd_some h
 refine s_call gn rfl (r_callF (vs := [(Value.agg (AExpr e1 a1 c1 a2 c2 a3 c3))]) rfl ok_146 ⟨et, trivial⟩) (Calls.mono (c_expr_rank (Dj F c6) w5 hI.lt e1 a1 c1 a2 c2 a3 c3 ⟨(hI.get (.s .z)), (hI.get (.s (.s .z))), (hI.get (.s (.s (.s .z)))), trivial⟩ r3 hx5) ?_)
 rintro _ w7 ⟨rfl, hx6, hl3⟩
 refine ⟨_, rfl, ?_⟩
 replace hI := (hI.ext hx6)
 refine T ?_
 refine cif h et (fun hb h => ?_) (fun hb h => ?_)
 ·refine sr (l_store (new := [vi 11]) (cs' := #[vi 11]) hI .z gn rfl rfl et ev_const rfl size_28 rfl rfl rfl ?_)
  clear hI; intro c9 w8 hI
  refine nk (c_ret ?_)
  obtain rfl := some_inj h
  exact q_ret (vs := [vi 11]) Tryz.results79 ⟨⟨_, ev_tmp rfl rfl, load_one (v := (vi 11)) u28 rfl (CellsAt.of_blk (hI.blk .z) rfl)⟩, trivial⟩ (fq hI trivial)
 refine sr (sq (y_loadN (l := (lExpr e1 a1 c1 a2 c2 a3 c3)) rfl et u39 rfl size_39 (hI.kblk (l := (lExpr e1 a1 c1 a2 c2 a3 c3)) .z rfl).1) ?_)
 obtain ⟨r4, hx7, h⟩ := bnd_some h
 refine s_call gn rfl (r_callF (vs := [(Value.agg (AExpr e1 a1 c1 a2 c2 a3 c3))]) rfl ok_147 ⟨et, trivial⟩) (Calls.mono (c_expr_types (Dj F c6) w7 hI.lt e1 a1 c1 a2 c2 a3 c3 ⟨(hI.get (.s .z)), (hI.get (.s (.s .z))), (hI.get (.s (.s (.s .z)))), trivial⟩ r4 hx7) ?_)
 rintro _ w9 ⟨rfl, hx8, hl4⟩
 refine ⟨_, rfl, ?_⟩
 replace hI := (hI.ext hx8)
 refine T ?_
 refine cif h et (fun hb h => ?_) (fun hb h => ?_)
 ·refine sr (l_store (new := [vi 10]) (cs' := #[vi 10]) hI .z gn rfl rfl et ev_const rfl size_28 rfl rfl rfl ?_)
  clear hI; intro c10 w10 hI
  refine nk (c_ret ?_)
  obtain rfl := some_inj h
  exact q_ret (vs := [vi 10]) Tryz.results79 ⟨⟨_, ev_tmp rfl rfl, load_one (v := (vi 10)) u28 rfl (CellsAt.of_blk (hI.blk .z) rfl)⟩, trivial⟩ (fq hI trivial)
 refine T ?_
 refine s_gval (g_true rfl rfl rfl rfl) rfl (fun hc => (y_loadN (l := (lType e1.Type_)) rfl (ev_gv et hc) u35 rfl size_35 (hI.kblk (l := (lType e1.Type_)) .z rfl).1)) ?_
 refine T ?_
 refine s_gval (g_true rfl rfl rfl rfl) rfl (fun hc => (y_loadN (l := (lVal e1.Val)) rfl (ev_gv et hc) u33 rfl size_33 (hI.kblk (l := (lVal e1.Val)) .z rfl).1)) ?_
 obtain ⟨r5, hx9, h⟩ := bnd_some h
 replace hx9 := gd_some hx9
 refine s_gcallU (v := (vb r5)) (g_true rfl rfl rfl rfl) rfl (fun hc => (r_callF (vs := [(Value.agg (AType e1.Type_)), (Value.agg (AVal e1.Val))]) rfl ok_148 ⟨(ev_gv et hc), ⟨(ev_gv et hc), trivial⟩⟩)) (fun hc => (c_value_Valid (Dj F c6) w9 hI.lt e1.Type_ e1.Val trivial r5 (hx9 hc)).mono fun _ _ k => ⟨k.1, k.2.1⟩) ?_
 intro w11 hx10; replace hI := hI.ext hx10
 refine T ?_
 refine cif h et (fun hb h => ?_) (fun hb h => ?_)
 ·refine sr (l_store (new := [vi 1]) (cs' := #[vi 1]) hI .z gn rfl rfl et ev_const rfl size_28 rfl rfl rfl ?_)
  clear hI; intro c11 w12 hI
  refine nk (c_ret ?_)
  obtain rfl := some_inj h
  exact q_ret (vs := [vi 1]) Tryz.results79 ⟨⟨_, ev_tmp rfl rfl, load_one (v := (vi 1)) u28 rfl (CellsAt.of_blk (hI.blk .z) rfl)⟩, trivial⟩ (fq hI trivial)
 refine T ?_
 refine c_seq (sr (sq (y_loadN (l := (lExpr e1 a1 c1 a2 c2 a3 c3)) rfl et u39 rfl size_39 (hI.kblk (l := (lExpr e1 a1 c1 a2 c2 a3 c3)) .z rfl).1) ?_))
 obtain ⟨r6, hx11, h⟩ := bnd_some h
 refine s_call gn rfl (r_callF (vs := [(Value.agg (AExpr e1 a1 c1 a2 c2 a3 c3))]) rfl ok_149 ⟨et, trivial⟩) (Calls.mono (c_expr_forms (Dj F c6) w11 hI.lt e1 a1 c1 a2 c2 a3 c3 ⟨(hI.get (.s .z)), (hI.get (.s (.s .z))), (hI.get (.s (.s (.s .z)))), trivial⟩ r6 hx11) ?_)
 rintro _ w13 ⟨b3, a4, c12, a5, c13, a6, c14, rfl, hx12, hl6⟩
 refine ⟨_, rfl, ?_⟩
 replace hI := (hI.ext hx12).adds hl6; dsimp only [ca, na] at hI
 refine T ?_
 refine c_rangeFunc [Code.ret] hI et ok_208 (fun l1 q1 fn1 tm1 rc1 hrc1 c16 w15 hE1 hI => ?_)
 obtain ⟨c17, f1, hB, hl7, hk1⟩ := hI.hands (.l (.r (.l .n)))
 have hB : Bun c17 f1 w15 c17 w15 [MO.st (StI.loop l1 rc1 (fun (s : Int) (b : Unit) => [MO.box b2 28 #[vi s]]) (fun (s : Int) (b : Unit) => [Cl.blk b3 39 (AExpr r6 a4 c12 a5 c13 a6 c14), Cl.sl cGMono a4 c12 r6.Lin.L, Cl.sl cGIndex a5 c13 r6.Idx, Cl.sl cGExpr a6 c14 r6.Args, clSpace])) (0, 0)] _ := Bun.mkst (b := ()) hB ⟨(.s (.s (.s .z))), .z, (.s .z), (.s (.s .z)), (.s (.s (.s (.s (.s (.s (.s (.s .z)))))))), trivial⟩
 have hY1 : fnS_k7 (StI.loop l1 rc1 (fun (s : Int) (b : Unit) => [MO.box b2 28 #[vi s]]) (fun (s : Int) (b : Unit) => [Cl.blk b3 39 (AExpr r6 a4 c12 a5 c13 a6 c14), Cl.sl cGMono a4 c12 r6.Lin.L, Cl.sl cGIndex a5 c13 r6.Idx, Cl.sl cGExpr a6 c14 r6.Args, clSpace])) (Value.func (.yield l1) #[] #[]) (fun k_0 q => if q.1 = 0 then m_expr_validNode_b1 k_0 q.2 else none) (Dj f1 c17) w15 := by
  refine ⟨rfl, fun C0 F w0 _ => ?_⟩
  rintro y1 a7 c18 ⟨o_, v1⟩ r hB h
  replace h : o_ = 0 ∧ m_expr_validNode_b1 y1 v1 = some r := chk_some h
  have ho_ := h.1; subst ho_; replace h := h.2
  rw [m_expr_validNode_b1] at h
  obtain ⟨_, hI⟩ := Bun.unst hB
  subst hrc1
  dsimp only [ca, na] at hI
  clear hB
  refine callV_yield hI rfl (has_round1 (hE1 ⟨38, []⟩ rfl rfl)) ?_
  refine T ?_
  refine l_alloc (cs := #[vi 0, vs none 0 0]) hI gn rfl rfl zero_27 rfl ?_
  clear hI; intro b4 c19 w16 hI
  refine l_store (new := (lLin y1 a7 c18)) (cs' := (ALin y1 a7 c18)) hI .z gn rfl rfl et et rfl size_27 rfl rfl rfl ?_
  clear hI; intro c20 w17 hI
  refine s_nil (k_begin hI (.s .z) (fun c21 w18 hI => ?_))
  refine T ?_
  obtain ⟨r7, hx13, h⟩ := bnd_some h
  refine s_call gn rfl (r_callF (vs := [(Value.agg (ALin y1 a7 c18))]) rfl ok_122 ⟨et, trivial⟩) (Calls.mono (c_lin_Validate (Dj F c21) w18 hI.lt y1 a7 c18 ⟨(hI.get (.s (.s (.s (.s (.s .z)))))), trivial⟩ r7 hx13) ?_)
  rintro _ w19 ⟨rfl, hx14, hl8⟩
  refine ⟨_, rfl, ?_⟩
  replace hI := (hI.ext hx14)
  refine T ?_
  refine cif h et (fun hb h => ?_) (fun hb h => ?_)
  ·refine sr (l_store (new := [vi 1]) (cs' := #[vi 1]) hI (.s (.s .z)) gn rfl rfl et ev_const rfl size_28 rfl rfl rfl ?_)
   clear hI; intro c22 w20 hI
   refine nk (c_ret ?_)
   obtain rfl := some_inj h
   exact fun _ _ => k_round (js := [Code.ret]) (oS := (fun (s : Int) (b : Unit) => [MO.box b2 28 #[vi s]])) (cS := (fun (s : Int) (b : Unit) => [Cl.blk b3 39 (AExpr r6 a4 c12 a5 c13 a6 c14), Cl.sl cGMono a4 c12 r6.Lin.L, Cl.sl cGIndex a5 c13 r6.Idx, Cl.sl cGExpr a6 c14 r6.Args, clSpace])) (out := 1) (s := 1) (b := ()) (hI.arr (.c (.s .z) (.c (.s .z) .n)) ⟨.z, (.s .z), (.s (.s .z)), (.s (.s (.s .z))), (.s (.s (.s (.s .z)))), trivial⟩) rfl (fun C w hB => ⟨C, rfl, hB⟩)
  refine c_skip ?_
  obtain rfl := some_inj h
  exact fun _ _ => k_round (js := [Code.ret]) (oS := (fun (s : Int) (b : Unit) => [MO.box b2 28 #[vi s]])) (cS := (fun (s : Int) (b : Unit) => [Cl.blk b3 39 (AExpr r6 a4 c12 a5 c13 a6 c14), Cl.sl cGMono a4 c12 r6.Lin.L, Cl.sl cGIndex a5 c13 r6.Idx, Cl.sl cGExpr a6 c14 r6.Args, clSpace])) (out := 0) (s := v1) (b := ()) (hI.arr (.c (.s .z) (.c (.s .z) .n)) ⟨.z, (.s .z), (.s (.s .z)), (.s (.s (.s .z))), (.s (.s (.s (.s .z)))), trivial⟩) rfl (fun C w hB => ⟨C, rfl, hB⟩)
 obtain ⟨⟨u1, o1, v2⟩, hx15, h⟩ := bnd_some h
 try dsimp only at h
 refine Calls.mono (c_expr_forms_1_s (StI.loop l1 rc1 (fun (s : Int) (b : Unit) => [MO.box b2 28 #[vi s]]) (fun (s : Int) (b : Unit) => [Cl.blk b3 39 (AExpr r6 a4 c12 a5 c13 a6 c14), Cl.sl cGMono a4 c12 r6.Lin.L, Cl.sl cGIndex a5 c13 r6.Idx, Cl.sl cGExpr a6 c14 r6.Args, clSpace])) c17 f1 w15 (fun k_0 q => if q.1 = 0 then m_expr_validNode_b1 k_0 q.2 else none) r6 (0, 0) (Value.func (.yield l1) #[] #[]) b3 a4 c12 a5 c13 a6 c14 ((hB.add (c := clFnS_k7 (StI.loop l1 rc1 (fun (s : Int) (b : Unit) => [MO.box b2 28 #[vi s]]) (fun (s : Int) (b : Unit) => [Cl.blk b3 39 (AExpr r6 a4 c12 a5 c13 a6 c14), Cl.sl cGMono a4 c12 r6.Lin.L, Cl.sl cGIndex a5 c13 r6.Idx, Cl.sl cGExpr a6 c14 r6.Args, clSpace])) (Value.func (.yield l1) #[] #[]) (fun k_0 q => if q.1 = 0 then m_expr_validNode_b1 k_0 q.2 else none)) hY1).subs ⟨.z, (.s .z), (.s (.s .z)), (.s (.s (.s .z))), (.s (.s (.s (.s .z)))), trivial⟩) _ hx15) ?_
 rintro _ w22 ⟨c24, rfl, hB2⟩
 obtain ⟨_, hB2⟩ := Bun.unst hB2
 subst hrc1
 obtain ⟨c25, hs1, hI⟩ := hk1 _ _ _ _ hB2
 dsimp only [ca, na] at hI
 refine ⟨_, rfl, k_endLoop hI .z (fun c26 w23 hI => ?_)⟩
 by_cases hz1 : o1 = 0
 ·subst hz1; rw [if_pos rfl] at h
  refine k_same (sr (l_store (new := [vi 0]) (cs' := #[vi 0]) hI (.s .z) gn rfl rfl et ev_const rfl size_28 rfl rfl rfl ?_))
  clear hI; intro c27 w24 hI
  refine nk (c_ret ?_)
  obtain ⟨w25, hs2, c28, hI⟩ : ∃ w2, Shuts Tryz.prog [q1] w24 w2 ∧ ∃ C, Bun noM F w0 C w2 [MO.obj l1 _, MO.box b2 28 #[vi 0], MO.obj q1 (.deferred none)] [Cl.blk b3 39 (AExpr r6 a4 c12 a5 c13 a6 c14), Cl.sl cGMono a4 c12 r6.Lin.L, Cl.sl cGIndex a5 c13 r6.Idx, Cl.sl cGExpr a6 c14 r6.Args, clSpace, Cl.sl cGMono a4 c12 r6.Lin.L, Cl.sl cGIndex a5 c13 r6.Idx, Cl.sl cGExpr a6 c14 r6.Args, Cl.blk b3 39 (AExpr r6 a4 c12 a5 c13 a6 c14), Cl.blk b1 39 (AExpr e1 a1 c1 a2 c2 a3 c3), Cl.sl cGMono a1 c1 e1.Lin.L, Cl.sl cGIndex a2 c2 e1.Idx, Cl.sl cGExpr a3 c3 e1.Args, clSpace] := hI.shut (.s (.s .z)) fun C w hI => shut_nil ⟨_, hI⟩
  obtain rfl := some_inj h
  exact q_retS (vs := [vi 0]) hs2 Tryz.results79 ⟨⟨_, ev_tmp rfl rfl, load_one (v := (vi 0)) u28 rfl (CellsAt.of_blk (hI.blk (.s .z)) rfl)⟩, trivial⟩ (fq hI trivial)
 rw [if_neg hz1] at h
 by_cases hz2 : o1 = 1
 ·subst hz2; rw [if_pos rfl] at h
  refine c_ret ?_
  obtain ⟨w26, hs3, c29, hI⟩ : ∃ w2, Shuts Tryz.prog [q1] w23 w2 ∧ ∃ C, Bun noM F w0 C w2 [MO.obj l1 _, MO.box b2 28 #[vi v2], MO.obj q1 (.deferred none)] [Cl.blk b3 39 (AExpr r6 a4 c12 a5 c13 a6 c14), Cl.sl cGMono a4 c12 r6.Lin.L, Cl.sl cGIndex a5 c13 r6.Idx, Cl.sl cGExpr a6 c14 r6.Args, clSpace, Cl.sl cGMono a4 c12 r6.Lin.L, Cl.sl cGIndex a5 c13 r6.Idx, Cl.sl cGExpr a6 c14 r6.Args, Cl.blk b3 39 (AExpr r6 a4 c12 a5 c13 a6 c14), Cl.blk b1 39 (AExpr e1 a1 c1 a2 c2 a3 c3), Cl.sl cGMono a1 c1 e1.Lin.L, Cl.sl cGIndex a2 c2 e1.Idx, Cl.sl cGExpr a3 c3 e1.Args, clSpace] := hI.shut (.s (.s .z)) fun C w hI => shut_nil ⟨_, hI⟩
  obtain rfl := some_inj h
  exact q_retS (vs := [vi v2]) hs3 Tryz.results79 ⟨⟨_, ev_tmp rfl rfl, load_one (v := (vi v2)) u28 rfl (CellsAt.of_blk (hI.blk (.s .z)) rfl)⟩, trivial⟩ (fq hI trivial)
 rw [if_neg hz2] at h
 cases h
theorem c_expr_Validate (F : NP) (w0 : World) (hF : ∀ k, F k → k < w0.heap.size) (e1 : GExpr) (a1 : Option Addr) (c1 : Nat) (a2 : Option Addr) (c2 : Nat) (a3 : Option Addr) (c3 : Nat) (hc : AllCl [Cl.sl cGMono a1 c1 e1.Lin.L, Cl.sl cGIndex a2 c2 e1.Idx, Cl.sl cGExpr a3 c3 e1.Args, clSpace] F w0) (r : Int)
  (h : m_expr_Validate e1 = some r) :
  Calls Tryz.prog 35 #[(Value.agg (AExpr e1 a1 c1 a2 c2 a3 c3))] w0 fun e w => e = .returned (vi r) ∧ Ext w0 w ∧ AllCl [] F w := by
 refine enterK Tryz.func35 rfl Tryz.ntmps35 rfl ?_
 have hI := Bun.start hF hc
 clear hc
 rw [m_expr_Validate] at h
 refine sr (l_box (v := (Value.agg (AExpr e1 a1 c1 a2 c2 a3 c3))) (cs := (AExpr e1 a1 c1 a2 c2 a3 c3)) hI gn rfl rfl et rfl ?_)
 clear hI; intro b1 c4 w1 hI
 obtain ⟨c5, hI⟩ := hI.relBox .z
 refine l_alloc (cs := #[vi 0]) hI gn rfl rfl zero_28 rfl ?_
 clear hI; intro b2 c6 w2 hI
 refine nk (c_seq (sr (sq (y_loadN (l := (lExpr e1 a1 c1 a2 c2 a3 c3)) rfl et u39 rfl size_39 (hI.kblk (l := (lExpr e1 a1 c1 a2 c2 a3 c3)) .z rfl).1) ?_)))
 obtain ⟨r1, hx1, h⟩ := bnd_some h
 refine s_call gn rfl (r_callF (vs := [(Value.agg (AExpr e1 a1 c1 a2 c2 a3 c3))]) rfl ok_76 ⟨et, trivial⟩) (Calls.mono (c_expr_Depth (Dj F c6) w2 hI.lt e1 a1 c1 a2 c2 a3 c3 ⟨(hI.get (.s .z)), (hI.get (.s (.s .z))), (hI.get (.s (.s (.s .z)))), trivial⟩ r1 hx1) ?_)
 rintro _ w3 ⟨rfl, hx2, hl1⟩
 refine ⟨_, rfl, ?_⟩
 replace hI := (hI.ext hx2)
 refine T ?_
 refine cif h et (fun hb h => ?_) (fun hb h => ?_)
 ·refine sr (l_store (new := [vi 13]) (cs' := #[vi 13]) hI .z gn rfl rfl et ev_const rfl size_28 rfl rfl rfl ?_)
  clear hI; intro c7 w4 hI
  refine nk (c_ret ?_)
  obtain rfl := some_inj h
  exact q_ret (vs := [vi 13]) Tryz.results35 ⟨⟨_, ev_tmp rfl rfl, load_one (v := (vi 13)) u28 rfl (CellsAt.of_blk (hI.blk .z) rfl)⟩, trivial⟩ (fq hI trivial)
 refine T ?_
 refine c_seq (sr (sq (y_loadN (l := (lExpr e1 a1 c1 a2 c2 a3 c3)) rfl et u39 rfl size_39 (hI.kblk (l := (lExpr e1 a1 c1 a2 c2 a3 c3)) .z rfl).1) ?_))
 obtain ⟨r2, hx3, h⟩ := bnd_some h
 refine s_call gn rfl (r_callF (vs := [(Value.agg (AExpr e1 a1 c1 a2 c2 a3 c3))]) rfl ok_77 ⟨et, trivial⟩) (Calls.mono (c_expr_Size (Dj F c6) w3 hI.lt e1 a1 c1 a2 c2 a3 c3 ⟨(hI.get (.s .z)), (hI.get (.s (.s .z))), (hI.get (.s (.s (.s .z)))), trivial⟩ r2 hx3) ?_)
 rintro _ w5 ⟨rfl, hx4, hl2⟩
 refine ⟨_, rfl, ?_⟩
 replace hI := (hI.ext hx4)
 refine T ?_
 refine cif h et (fun hb h => ?_) (fun hb h => ?_)
 ·refine sr (l_store (new := [vi 2]) (cs' := #[vi 2]) hI .z gn rfl rfl et ev_const rfl size_28 rfl rfl rfl ?_)
  clear hI; intro c8 w6 hI
  refine nk (c_ret ?_)
  obtain rfl := some_inj h
  exact q_ret (vs := [vi 2]) Tryz.results35 ⟨⟨_, ev_tmp rfl rfl, load_one (v := (vi 2)) u28 rfl (CellsAt.of_blk (hI.blk .z) rfl)⟩, trivial⟩ (fq hI trivial)
 refine T ?_
 refine c_seq (sr (sq (y_loadN (l := (lExpr e1 a1 c1 a2 c2 a3 c3)) rfl et u39 rfl size_39 (hI.kblk (l := (lExpr e1 a1 c1 a2 c2 a3 c3)) .z rfl).1) ?_))
 obtain ⟨r3, hx5, h⟩ := bnd_some h
 refine s_call gn rfl (r_callF (vs := [(Value.agg (AExpr e1 a1 c1 a2 c2 a3 c3))]) rfl ok_78 ⟨et, trivial⟩) (Calls.mono (c_expr_Walk (Dj F c6) w5 hI.lt e1 a1 c1 a2 c2 a3 c3 ⟨(hI.get (.s .z)), (hI.get (.s (.s .z))), (hI.get (.s (.s (.s .z)))), trivial⟩ r3 hx5) ?_)
 rintro _ w7 ⟨b3, a4, c9, a5, c10, a6, c11, rfl, hx6, hl3⟩
 refine ⟨_, rfl, ?_⟩
 replace hI := (hI.ext hx6).adds hl3; dsimp only [ca, na] at hI
 refine T ?_
 refine c_rangeFunc [Code.ret] hI et ok_142 (fun l1 q1 fn1 tm1 rc1 hrc1 c13 w9 hE1 hI => ?_)
 obtain ⟨c14, f1, hB, hl4, hk1⟩ := hI.hands (.l (.r (.l .n)))
 have hB : Bun c14 f1 w9 c14 w9 [MO.st (StI.loop l1 rc1 (fun (s : Int) (b : Unit) => [MO.box b2 28 #[vi s]]) (fun (s : Int) (b : Unit) => [Cl.blk b3 39 (AExpr r3 a4 c9 a5 c10 a6 c11), Cl.sl cGMono a4 c9 r3.Lin.L, Cl.sl cGIndex a5 c10 r3.Idx, Cl.sl cGExpr a6 c11 r3.Args, clSpace])) (0, 0)] _ := Bun.mkst (b := ()) hB ⟨(.s (.s (.s .z))), .z, (.s .z), (.s (.s .z)), (.s (.s (.s (.s (.s (.s (.s (.s .z)))))))), trivial⟩
 have hY1 : fnS_k5 (StI.loop l1 rc1 (fun (s : Int) (b : Unit) => [MO.box b2 28 #[vi s]]) (fun (s : Int) (b : Unit) => [Cl.blk b3 39 (AExpr r3 a4 c9 a5 c10 a6 c11), Cl.sl cGMono a4 c9 r3.Lin.L, Cl.sl cGIndex a5 c10 r3.Idx, Cl.sl cGExpr a6 c11 r3.Args, clSpace])) (Value.func (.yield l1) #[] #[]) (fun k_0 q => if q.1 = 0 then m_expr_Validate_b1 k_0 q.2 else none) (Dj f1 c14) w9 := by
  refine ⟨rfl, fun C0 F w0 _ => ?_⟩
  rintro y1 a7 c15 a8 c16 a9 c17 ⟨o_, v1⟩ r hB h
  replace h : o_ = 0 ∧ m_expr_Validate_b1 y1 v1 = some r := chk_some h
  have ho_ := h.1; subst ho_; replace h := h.2
  rw [m_expr_Validate_b1] at h
  obtain ⟨_, hI⟩ := Bun.unst hB
  subst hrc1
  dsimp only [ca, na] at hI
  clear hB
  refine callV_yield hI rfl (has_round1 (hE1 ⟨19, []⟩ rfl rfl)) ?_
  refine T ?_
  refine l_alloc (cs := #[vi 0, (str ([] : List UInt8)), vi 0, vi 0, vi 0, vi 0, vi 0, vi 0, vi 0, vi 0, vs none 0 0, vs none 0 0, vs none 0 0]) hI gn rfl rfl zero_39 rfl ?_
  clear hI; intro b4 c18 w10 hI
  refine l_store (new := (lExpr y1 a7 c15 a8 c16 a9 c17)) (cs' := (AExpr y1 a7 c15 a8 c16 a9 c17)) hI .z gn rfl rfl et et rfl size_39 rfl rfl rfl ?_
  clear hI; intro c19 w11 hI
  refine s_nil (k_begin hI (.s .z) (fun c20 w12 hI => ?_))
  refine T ?_
  obtain ⟨r4, hx7, h⟩ := bnd_some h
  refine s_call gn rfl (r_callF (vs := [(Value.agg (AExpr y1 a7 c15 a8 c16 a9 c17))]) rfl ok_79 ⟨et, trivial⟩) (Calls.mono (c_expr_validNode (Dj F c20) w12 hI.lt y1 a7 c15 a8 c16 a9 c17 ⟨(hI.get (.s (.s (.s (.s (.s .z)))))), (hI.get (.s (.s (.s (.s (.s (.s .z))))))), (hI.get (.s (.s (.s (.s (.s (.s (.s .z)))))))), (hI.get (.s (.s (.s (.s .z))))), trivial⟩ r4 hx7) ?_)
  rintro _ w13 ⟨rfl, hx8, hl5⟩
  refine ⟨_, rfl, ?_⟩
  replace hI := (hI.ext hx8)
  refine T ?_
  refine cif h et (fun hb h => ?_) (fun hb h => ?_)
  ·refine T ?_
   refine l_store (new := [vi r4]) (cs' := #[vi r4]) hI (.s (.s .z)) gn rfl rfl et et rfl size_28 rfl rfl rfl ?_
   clear hI; intro c21 w14 hI
   refine nk (c_ret ?_)
   obtain rfl := some_inj h
   exact fun _ _ => k_round (js := [Code.ret]) (oS := (fun (s : Int) (b : Unit) => [MO.box b2 28 #[vi s]])) (cS := (fun (s : Int) (b : Unit) => [Cl.blk b3 39 (AExpr r3 a4 c9 a5 c10 a6 c11), Cl.sl cGMono a4 c9 r3.Lin.L, Cl.sl cGIndex a5 c10 r3.Idx, Cl.sl cGExpr a6 c11 r3.Args, clSpace])) (out := 1) (s := r4) (b := ()) (hI.arr (.c (.s .z) (.c (.s .z) .n)) ⟨.z, (.s .z), (.s (.s .z)), (.s (.s (.s .z))), (.s (.s (.s (.s .z)))), trivial⟩) rfl (fun C w hB => ⟨C, rfl, hB⟩)
  refine c_skip ?_
  obtain rfl := some_inj h
  exact fun _ _ => k_round (js := [Code.ret]) (oS := (fun (s : Int) (b : Unit) => [MO.box b2 28 #[vi s]])) (cS := (fun (s : Int) (b : Unit) => [Cl.blk b3 39 (AExpr r3 a4 c9 a5 c10 a6 c11), Cl.sl cGMono a4 c9 r3.Lin.L, Cl.sl cGIndex a5 c10 r3.Idx, Cl.sl cGExpr a6 c11 r3.Args, clSpace])) (out := 0) (s := v1) (b := ()) (hI.arr (.c (.s .z) (.c (.s .z) .n)) ⟨.z, (.s .z), (.s (.s .z)), (.s (.s (.s .z))), (.s (.s (.s (.s .z)))), trivial⟩) rfl (fun C w hB => ⟨C, rfl, hB⟩)
 obtain ⟨⟨u1, o1, v2⟩, hx9, h⟩ := bnd_some h
 try dsimp only at h
 refine Calls.mono (c_expr_Walk_1_s (StI.loop l1 rc1 (fun (s : Int) (b : Unit) => [MO.box b2 28 #[vi s]]) (fun (s : Int) (b : Unit) => [Cl.blk b3 39 (AExpr r3 a4 c9 a5 c10 a6 c11), Cl.sl cGMono a4 c9 r3.Lin.L, Cl.sl cGIndex a5 c10 r3.Idx, Cl.sl cGExpr a6 c11 r3.Args, clSpace])) c14 f1 w9 (fun k_0 q => if q.1 = 0 then m_expr_Validate_b1 k_0 q.2 else none) r3 (0, 0) (Value.func (.yield l1) #[] #[]) b3 a4 c9 a5 c10 a6 c11 ((hB.add (c := clFnS_k5 (StI.loop l1 rc1 (fun (s : Int) (b : Unit) => [MO.box b2 28 #[vi s]]) (fun (s : Int) (b : Unit) => [Cl.blk b3 39 (AExpr r3 a4 c9 a5 c10 a6 c11), Cl.sl cGMono a4 c9 r3.Lin.L, Cl.sl cGIndex a5 c10 r3.Idx, Cl.sl cGExpr a6 c11 r3.Args, clSpace])) (Value.func (.yield l1) #[] #[]) (fun k_0 q => if q.1 = 0 then m_expr_Validate_b1 k_0 q.2 else none)) hY1).subs ⟨.z, (.s .z), (.s (.s .z)), (.s (.s (.s .z))), (.s (.s (.s (.s .z)))), trivial⟩) _ hx9) ?_
 rintro _ w16 ⟨c23, rfl, hB2⟩
 obtain ⟨_, hB2⟩ := Bun.unst hB2
 subst hrc1
 obtain ⟨c24, hs1, hI⟩ := hk1 _ _ _ _ hB2
 dsimp only [ca, na] at hI
 refine ⟨_, rfl, k_endLoop hI .z (fun c25 w17 hI => ?_)⟩
 by_cases hz1 : o1 = 0
 ·subst hz1; rw [if_pos rfl] at h
  refine k_same (sr (l_store (new := [vi 0]) (cs' := #[vi 0]) hI (.s .z) gn rfl rfl et ev_const rfl size_28 rfl rfl rfl ?_))
  clear hI; intro c26 w18 hI
  refine nk (c_ret ?_)
  obtain ⟨w19, hs2, c27, hI⟩ : ∃ w2, Shuts Tryz.prog [q1] w18 w2 ∧ ∃ C, Bun noM F w0 C w2 [MO.obj l1 _, MO.box b2 28 #[vi 0], MO.obj q1 (.deferred none)] [Cl.blk b3 39 (AExpr r3 a4 c9 a5 c10 a6 c11), Cl.sl cGMono a4 c9 r3.Lin.L, Cl.sl cGIndex a5 c10 r3.Idx, Cl.sl cGExpr a6 c11 r3.Args, clSpace, Cl.sl cGMono a4 c9 r3.Lin.L, Cl.sl cGIndex a5 c10 r3.Idx, Cl.sl cGExpr a6 c11 r3.Args, Cl.blk b3 39 (AExpr r3 a4 c9 a5 c10 a6 c11), Cl.blk b1 39 (AExpr e1 a1 c1 a2 c2 a3 c3), Cl.sl cGMono a1 c1 e1.Lin.L, Cl.sl cGIndex a2 c2 e1.Idx, Cl.sl cGExpr a3 c3 e1.Args, clSpace] := hI.shut (.s (.s .z)) fun C w hI => shut_nil ⟨_, hI⟩
  obtain rfl := some_inj h
  exact q_retS (vs := [vi 0]) hs2 Tryz.results35 ⟨⟨_, ev_tmp rfl rfl, load_one (v := (vi 0)) u28 rfl (CellsAt.of_blk (hI.blk (.s .z)) rfl)⟩, trivial⟩ (fq hI trivial)
 rw [if_neg hz1] at h
 by_cases hz2 : o1 = 1
 ·subst hz2; rw [if_pos rfl] at h
  refine c_ret ?_
  obtain ⟨w20, hs3, c28, hI⟩ : ∃ w2, Shuts Tryz.prog [q1] w17 w2 ∧ ∃ C, Bun noM F w0 C w2 [MO.obj l1 _, MO.box b2 28 #[vi v2], MO.obj q1 (.deferred none)] [Cl.blk b3 39 (AExpr r3 a4 c9 a5 c10 a6 c11), Cl.sl cGMono a4 c9 r3.Lin.L, Cl.sl cGIndex a5 c10 r3.Idx, Cl.sl cGExpr a6 c11 r3.Args, clSpace, Cl.sl cGMono a4 c9 r3.Lin.L, Cl.sl cGIndex a5 c10 r3.Idx, Cl.sl cGExpr a6 c11 r3.Args, Cl.blk b3 39 (AExpr r3 a4 c9 a5 c10 a6 c11), Cl.blk b1 39 (AExpr e1 a1 c1 a2 c2 a3 c3), Cl.sl cGMono a1 c1 e1.Lin.L, Cl.sl cGIndex a2 c2 e1.Idx, Cl.sl cGExpr a3 c3 e1.Args, clSpace] := hI.shut (.s (.s .z)) fun C w hI => shut_nil ⟨_, hI⟩
  obtain rfl := some_inj h
  exact q_retS (vs := [vi v2]) hs3 Tryz.results35 ⟨⟨_, ev_tmp rfl rfl, load_one (v := (vi v2)) u28 rfl (CellsAt.of_blk (hI.blk (.s .z)) rfl)⟩, trivial⟩ (fq hI trivial)
 rw [if_neg hz2] at h
 cases h
theorem c_parser_reader_enter_w (C0 F : NP) (w0 : World) (r1 : Gparser_reader) (b1 : Nat) (a1 : Option Addr) (c1 : Nat) (hI : Bun C0 F w0 C0 w0 [MO.box b1 67 (Aparser_reader r1 a1 c1)] [Cl.sl cGToken a1 c1 r1.l]) (r : Pan (Unit × Gparser_reader))
  (h : m_parser_reader_enter_w r1 = some r) :
  Calls Tryz.prog 194 #[vp b1 0] w0 fun e w => (∃ rx : Unit × Gparser_reader, r = .ret rx ∧ ∃ (a2 : Option Addr) (c2 : Nat) (C : NP), e = .returned (Value.tuple #[]) ∧ Bun C0 F w0 C w [MO.box b1 67 (Aparser_reader rx.2 a2 c2)] [Cl.sl cGToken a2 c2 rx.2.l]) ∨ ∃ (pa pn : Int), r = .pan pa pn ∧ e = .panicked [pe 114 pa pn] ∧ ∃ C : NP, Bun C0 F w0 C w [] [] := by
 refine enterP (l := [vp b1 0]) Tryz.func194 rfl Tryz.ntmps194 rfl ?_
 rw [m_parser_reader_enter_w] at h
 refine c_join (α := Unit) (fun _ => ⟨27, []⟩) (fun _ => [(0, vp b1 0)]) (fun _ => fun w => ∃ C, Bun C0 F w0 C w [MO.box b1 67 (Aparser_reader r1 a1 c1)] [Cl.sl cGToken a1 c1 r1.l] ∧ m_parser_reader_enter_w_j1 r1 = some r) ?_ ?_
 ·clear h hI; rintro _ w1 ⟨c3, hI, h⟩
  try dsimp only at hI h
  rw [m_parser_reader_enter_w_j1] at h
  refine c_sub (e := [(0, vp b1 0)]) ⟨rfl, trivial⟩ ?_
  refine T ?_
  refine l_store (new := [(vi (wi64 (r1.deep + 1)))]) (cs' := #[vs a1 r1.l.length c1, vi r1.at_, (vi (wi64 (r1.deep + 1)))]) hI .z gn rfl rfl et et rfl size_3 rfl rfl rfl ?_
  clear hI; intro c4 w2 hI
  refine T ?_
  refine l_store (new := [(vi (wi64 (r1.at_ + 1)))]) (cs' := #[vs a1 r1.l.length c1, (vi (wi64 (r1.at_ + 1))), (vi (wi64 (r1.deep + 1)))]) hI .z gn rfl rfl et et rfl size_3 rfl rfl rfl ?_
  clear hI; intro c5 w3 hI
  refine s_nil ?_
  obtain rfl := some_inj h
  refine QG ?_
  exact .inl ⟨_, rfl, a1, c1, _, rfl, hI.arr GO SU⟩
 refine T ?_
 refine cif h et (fun hb h => ?_) (fun hb h => ?_)
 ·refine T ?_
  rcases pb_some h with ⟨r2, hx1, h⟩ | ⟨pa_, pn_, hx1, hp_⟩
  rotate_left
  ·subst hp_
   refine s_callP gn rfl (r_callF (vs := [vp b1 0, vi r1.at_, vi 13]) rfl ok_71 ⟨et, ⟨et, ⟨ev_const, trivial⟩⟩⟩) (Calls.mono (c_parser_reader_fail noM w0 (fun _ k => k.elim) r1 r1.at_ 13 b1 a1 c1 ⟨(hI.get0 .z), hI.lendBox .z, trivial⟩ (.pan pa_ pn_) hx1) ?_)
   intro e_ w_ hq_; obtain ⟨rfl, hx_⟩ := pan_of hq_; have hI_ := hI.ext hx_; exact .inr ⟨_, rfl, kp_of (.inr ⟨_, _, rfl, rfl, ⟨_, hI_.arr .n trivial⟩⟩)⟩
  try dsimp only at h
  refine s_call gn rfl (r_callF (vs := [vp b1 0, vi r1.at_, vi 13]) rfl ok_71 ⟨et, ⟨et, ⟨ev_const, trivial⟩⟩⟩) (Calls.mono (c_parser_reader_fail noM w0 (fun _ k => k.elim) r1 r1.at_ 13 b1 a1 c1 ⟨(hI.get0 .z), hI.lendBox .z, trivial⟩ (.ret r2) hx1) ?_)
  intro e_ w4 hq_; obtain ⟨rfl, hx2, hl1⟩ := ret_of hq_
  refine ⟨_, rfl, ?_⟩
  replace hI := (hI.ext hx2)
  refine s_nil ?_
  exact k_join () ⟨rfl, trivial⟩ ⟨_, hI.arr GO SU, h⟩ rfl
 exact c_skip (k_join () ⟨rfl, trivial⟩ ⟨_, hI.arr GO SU, h⟩ rfl)
theorem c_parser_reader_open_w (C0 F : NP) (w0 : World) (r1 : Gparser_reader) (b1 : Nat) (a1 : Option Addr) (c1 : Nat) (hI : Bun C0 F w0 C0 w0 [MO.box b1 67 (Aparser_reader r1 a1 c1)] [Cl.sl cGToken a1 c1 r1.l]) (r : Pan (Unit × Gparser_reader))
  (h : m_parser_reader_open_w r1 = some r) :
  Calls Tryz.prog 253 #[vp b1 0] w0 fun e w => (∃ rx : Unit × Gparser_reader, r = .ret rx ∧ ∃ (a2 : Option Addr) (c2 : Nat) (C : NP), e = .returned (Value.tuple #[]) ∧ Bun C0 F w0 C w [MO.box b1 67 (Aparser_reader rx.2 a2 c2)] [Cl.sl cGToken a2 c2 rx.2.l]) ∨ ∃ (pa pn : Int), r = .pan pa pn ∧ e = .panicked [pe 114 pa pn] ∧ ∃ C : NP, Bun C0 F w0 C w [] [] := by
 refine enterP (l := [vp b1 0]) Tryz.func253 rfl Tryz.ntmps253 rfl ?_
 rw [m_parser_reader_open_w] at h
 refine c_seq (T ?_)
 obtain ⟨r2, hx1, h⟩ := bnd_some h
 refine s_call gn rfl (r_callF (vs := [vp b1 0, vi 3, (str ([40] : List UInt8))]) rfl ok_121 ⟨et, ⟨ev_const, ⟨ev_const, trivial⟩⟩⟩) (Calls.mono (c_parser_reader_is noM w0 (fun _ k => k.elim) r1 3 ([40] : List UInt8) b1 a1 c1 ⟨(hI.get0 .z), hI.lendBox .z, trivial⟩ r2 hx1) ?_)
 rintro _ w1 ⟨rfl, hx2, hl1⟩
 refine ⟨_, rfl, ?_⟩
 replace hI := (hI.ext hx2)
 refine T ?_
 refine cif h et (fun hb h => ?_) (fun hb h => ?_)
 ·refine T ?_
  obtain ⟨c3, f1, hB, hl2, hk1⟩ := hI.hands (.l .n)
  refine s_pb h (fun _ hx3 => c_parser_reader_wrong_w c3 f1 w1 r1 b1 a1 c1 (hB.subs ⟨.z, trivial⟩) _ hx3) (pnb hk1) (r_callF rfl ok_103 ⟨et, trivial⟩) ?_
  rintro ⟨r3, s1⟩ hx3 h _ w2 ⟨a3, c4, c5, rfl, hB2⟩
  try dsimp only at h
  obtain ⟨c6, hs1, hI⟩ := hk1 _ _ _ _ hB2
  dsimp only [ca, na] at hI
  refine ⟨_, rfl, ?_⟩
  refine T ?_
  obtain ⟨c7, f2, hB, hl3, hk2⟩ := hI.hands (.l .n)
  refine s_pb h (fun _ hx4 => c_parser_reader_enter_w c7 f2 w2 s1 b1 a3 c4 (hB.subs ⟨.z, trivial⟩) _ hx4) (pnb hk2) (r_callF rfl ok_194 ⟨et, trivial⟩) ?_
  rintro ⟨r4, s2⟩ hx4 h _ w3 ⟨a4, c8, c9, rfl, hB2⟩
  try dsimp only at h
  obtain ⟨c10, hs2, hI⟩ := hk2 _ _ _ _ hB2
  dsimp only [ca, na] at hI
  refine ⟨_, rfl, ?_⟩
  refine s_nil ?_
  obtain rfl := some_inj h
  refine QG ?_
  exact .inl ⟨_, rfl, a4, c8, _, rfl, hI.arr GO SU⟩
 refine T ?_
 obtain ⟨c11, f3, hB, hl4, hk3⟩ := hI.hands (.l .n)
 refine s_pb h (fun _ hx5 => c_parser_reader_enter_w c11 f3 w1 r1 b1 a1 c1 (hB.subs ⟨.z, trivial⟩) _ hx5) (pnb hk3) (r_callF rfl ok_194 ⟨et, trivial⟩) ?_
 rintro ⟨r5, s3⟩ hx5 h _ w4 ⟨a5, c12, c13, rfl, hB2⟩
 try dsimp only at h
 obtain ⟨c14, hs3, hI⟩ := hk3 _ _ _ _ hB2
 dsimp only [ca, na] at hI
 refine ⟨_, rfl, ?_⟩
 refine s_nil ?_
 obtain rfl := some_inj h
 refine QG ?_
 exact .inl ⟨_, rfl, a5, c12, _, rfl, hI.arr GO SU⟩
theorem c_parser_reader_expect_w (C0 F : NP) (w0 : World) (r1 : Gparser_reader) (s1 : List UInt8) (b1 : Nat) (a1 : Option Addr) (c1 : Nat) (hI : Bun C0 F w0 C0 w0 [MO.box b1 67 (Aparser_reader r1 a1 c1)] [Cl.sl cGToken a1 c1 r1.l]) (r : Pan (Unit × Gparser_reader))
  (h : m_parser_reader_expect_w r1 s1 = some r) :
  Calls Tryz.prog 104 #[vp b1 0, (str s1)] w0 fun e w => (∃ rx : Unit × Gparser_reader, r = .ret rx ∧ ∃ (a2 : Option Addr) (c2 : Nat) (C : NP), e = .returned (Value.tuple #[]) ∧ Bun C0 F w0 C w [MO.box b1 67 (Aparser_reader rx.2 a2 c2)] [Cl.sl cGToken a2 c2 rx.2.l]) ∨ ∃ (pa pn : Int), r = .pan pa pn ∧ e = .panicked [pe 114 pa pn] ∧ ∃ C : NP, Bun C0 F w0 C w [] [] := by
 refine enterP (l := [vp b1 0, (str s1)]) Tryz.func104 rfl Tryz.ntmps104 rfl ?_
 rw [m_parser_reader_expect_w] at h
 refine T ?_
 obtain ⟨c3, f1, hB, hl1, hk1⟩ := hI.hands (.l .n)
 obtain ⟨⟨r2, s2⟩, hx1, h⟩ := bnd_some h
 try dsimp only at h
 refine s_call gn rfl (r_callF (vs := [vp b1 0, (str s1)]) rfl ok_68 ⟨et, ⟨et, trivial⟩⟩) (Calls.mono (c_parser_reader_accept_w c3 f1 w0 r1 s1 b1 a1 c1 (hB.subs ⟨.z, trivial⟩) _ hx1) ?_)
 rintro _ w1 ⟨a3, c4, c5, rfl, hB2⟩
 obtain ⟨c6, hs1, hI⟩ := hk1 _ _ _ _ hB2
 dsimp only [ca, na] at hI
 refine ⟨_, rfl, ?_⟩
 refine T ?_
 refine cif h et (fun hb h => ?_) (fun hb h => ?_)
 ·refine T ?_
  obtain ⟨c7, f2, hB, hl2, hk2⟩ := hI.hands (.l .n)
  refine s_pb h (fun _ hx2 => c_parser_reader_wrong_w c7 f2 w1 s2 b1 a3 c4 (hB.subs ⟨.z, trivial⟩) _ hx2) (pnb hk2) (r_callF rfl ok_103 ⟨et, trivial⟩) ?_
  rintro ⟨r3, s3⟩ hx2 h _ w2 ⟨a4, c8, c9, rfl, hB2⟩
  try dsimp only at h
  obtain ⟨c10, hs2, hI⟩ := hk2 _ _ _ _ hB2
  dsimp only [ca, na] at hI
  refine ⟨_, rfl, ?_⟩
  refine s_nil ?_
  obtain rfl := some_inj h
  refine QG ?_
  exact .inl ⟨_, rfl, a4, c8, _, rfl, hI.arr GO SU⟩
 refine c_skip ?_
 obtain rfl := some_inj h
 refine QG ?_
 exact .inl ⟨_, rfl, a3, c4, _, rfl, hI.arr GO SU⟩
theorem c_parser_reader_close_w (C0 F : NP) (w0 : World) (r1 : Gparser_reader) (b1 : Nat) (a1 : Option Addr) (c1 : Nat) (hI : Bun C0 F w0 C0 w0 [MO.box b1 67 (Aparser_reader r1 a1 c1)] [Cl.sl cGToken a1 c1 r1.l]) (r : Pan (Unit × Gparser_reader))
  (h : m_parser_reader_close_w r1 = some r) :
  Calls Tryz.prog 254 #[vp b1 0] w0 fun e w => (∃ rx : Unit × Gparser_reader, r = .ret rx ∧ ∃ (a2 : Option Addr) (c2 : Nat) (C : NP), e = .returned (Value.tuple #[]) ∧ Bun C0 F w0 C w [MO.box b1 67 (Aparser_reader rx.2 a2 c2)] [Cl.sl cGToken a2 c2 rx.2.l]) ∨ ∃ (pa pn : Int), r = .pan pa pn ∧ e = .panicked [pe 114 pa pn] ∧ ∃ C : NP, Bun C0 F w0 C w [] [] := by
 refine enterP (l := [vp b1 0]) Tryz.func254 rfl Tryz.ntmps254 rfl ?_
 rw [m_parser_reader_close_w] at h
 refine T ?_
 obtain ⟨c3, f1, hB, hl1, hk1⟩ := hI.hands (.l .n)
 refine s_pb h (fun _ hx1 => c_parser_reader_expect_w c3 f1 w0 r1 ([41] : List UInt8) b1 a1 c1 (hB.subs ⟨.z, trivial⟩) _ hx1) (pnb hk1) (r_callF rfl ok_104 ⟨et, ⟨ev_const, trivial⟩⟩) ?_
 rintro ⟨r2, s1⟩ hx1 h _ w1 ⟨a3, c4, c5, rfl, hB2⟩
 try dsimp only at h
 obtain ⟨c6, hs1, hI⟩ := hk1 _ _ _ _ hB2
 dsimp only [ca, na] at hI
 refine ⟨_, rfl, ?_⟩
 refine T ?_
 refine l_store (new := [(vi (wi64 (s1.deep - 1)))]) (cs' := #[vs a3 s1.l.length c4, vi s1.at_, (vi (wi64 (s1.deep - 1)))]) hI .z gn rfl rfl et et rfl size_3 rfl rfl rfl ?_
 clear hI; intro c7 w2 hI
 refine s_nil ?_
 obtain rfl := some_inj h
 refine QG ?_
 exact .inl ⟨_, rfl, a3, c4, _, rfl, hI.arr GO SU⟩
theorem c_parser_reader_word_w (C0 F : NP) (w0 : World) (r1 : Gparser_reader) (l1 : List (List UInt8)) (b1 : Nat) (a1 : Option Addr) (c1 : Nat) (a2 : Option Addr) (c2 : Nat) (hI : Bun C0 F w0 C0 w0 [MO.box b1 67 (Aparser_reader r1 a1 c1)] [Cl.sl cGToken a1 c1 r1.l, Cl.sl cStr a2 c2 l1]) (r : Int × Gparser_reader)
  (h : m_parser_reader_word_w r1 l1 = some r) :
  Calls Tryz.prog 98 #[vp b1 0, vs a2 l1.length c2] w0 fun e w => ∃ (a3 : Option Addr) (c3 : Nat) (C : NP), e = .returned (vi r.1) ∧ Bun C0 F w0 C w [MO.box b1 67 (Aparser_reader r.2 a3 c3)] [Cl.sl cGToken a3 c3 r.2.l] := by
 refine enterK Tryz.func98 rfl Tryz.ntmps98 rfl ?_
 rw [m_parser_reader_word_w] at h
 refine T ?_
 refine c_seq (T ?_)
 refine c_loop (α := Nat × Int) (fun x => fun w => ∃ C, Bun C0 F w0 C w [MO.box b1 67 (Aparser_reader r1 a1 c1)] [Cl.sl cGToken a1 c1 r1.l, Cl.sl cStr a2 c2 l1] ∧ m_parser_reader_word_w_l1 l1 r1 (x.1) (x.2) = some r) (fun x _ => x.1) (fun x => [(0, vp b1 0), (7, vs a2 l1.length c2), (8, vi (l1.length : Int)), (9, vi (x.2))]) (fu, 0) ⟨_, hI.arr (.c .z .n) ⟨.z, (.s .z), trivial⟩, h⟩ SB ?_
 clear h hI; rintro ⟨fuel1, i1⟩ w1 ⟨c4, hI, h⟩
 dsimp only at hI h
 rcases fuel1 with _ | fuel1
 ·rw [m_parser_reader_word_w_l1] at h; cases h
 rw [m_parser_reader_word_w_l1] at h
 refine c_sub (e := [(0, vp b1 0), (7, vs a2 l1.length c2), (8, vi (l1.length : Int)), (9, vi i1)]) SB ?_
 refine T ?_
 refine c_seq (cif h et (fun hb h => ?_) (fun hb h => ?_))
 ·refine T ?_
  refine c_seq (T ?_)
  obtain ⟨e1, hx1, h⟩ := bnd_some h
  obtain ⟨ad1, cs1, hA1, hr1, hq1⟩ := hI.clat (.s .z) hx1
  obtain rfl : cs1 = [(str e1)] := hr1
  refine sI ?_
  refine T ?_
  obtain ⟨r2, hx2, h⟩ := bnd_some h
  refine s_call gn rfl (r_callF (vs := [vp b1 0, vi 1, (str e1)]) rfl ok_121 ⟨et, ⟨ev_const, ⟨et, trivial⟩⟩⟩) (Calls.mono (c_parser_reader_is noM w1 (fun _ k => k.elim) r1 1 e1 b1 a1 c1 ⟨(hI.get0 .z), hI.lendBox .z, trivial⟩ r2 hx2) ?_)
  rintro _ w2 ⟨rfl, hx3, hl1⟩
  refine ⟨_, rfl, ?_⟩
  replace hI := (hI.ext hx3)
  refine nk (cif h et (fun hb h => ?_) (fun hb h => ?_))
  ·refine T ?_
   refine l_store (new := [(vi (wi64 (r1.at_ + 1)))]) (cs' := #[vs a1 r1.l.length c1, (vi (wi64 (r1.at_ + 1))), vi r1.deep]) hI .z gn rfl rfl et et rfl size_3 rfl rfl rfl ?_
   clear hI; intro c5 w3 hI
   refine T ?_
   refine c_ret ?_
   obtain rfl := some_inj h
   refine QG ?_
   exact ⟨a1, c1, _, rfl, hI.arr GO SU⟩
  refine T ?_
  refine s_nil ?_
  exact k_loop (fuel1, wi64 (i1 + 1)) SB ⟨_, hI.arr GO SU, h⟩ (Nat.lt_succ_self _)
 refine c_exit ?_
 refine k_in ?_
 refine k_same ?_
 refine T ?_
 refine c_ret ?_
 obtain rfl := some_inj h
 refine QG ?_
 exact ⟨a1, c1, _, rfl, hI.arr GO SU⟩
theorem c_parser_reader_small_w (C0 F : NP) (w0 : World) (r1 : Gparser_reader) (b1 : Nat) (a1 : Option Addr) (c1 : Nat) (hI : Bun C0 F w0 C0 w0 [MO.box b1 67 (Aparser_reader r1 a1 c1)] [Cl.sl cGToken a1 c1 r1.l]) (r : Pan (Int × Gparser_reader))
  (h : m_parser_reader_small_w r1 = some r) :
  Calls Tryz.prog 219 #[vp b1 0] w0 fun e w => (∃ rx : Int × Gparser_reader, r = .ret rx ∧ ∃ (a2 : Option Addr) (c2 : Nat) (C : NP), e = .returned (vi rx.1) ∧ Bun C0 F w0 C w [MO.box b1 67 (Aparser_reader rx.2 a2 c2)] [Cl.sl cGToken a2 c2 rx.2.l]) ∨ ∃ (pa pn : Int), r = .pan pa pn ∧ e = .panicked [pe 114 pa pn] ∧ ∃ C : NP, Bun C0 F w0 C w [] [] := by
 refine enterP (l := [vp b1 0]) Tryz.func219 rfl Tryz.ntmps219 rfl ?_
 rw [m_parser_reader_small_w] at h
 refine T ?_
 obtain ⟨c3, f1, hB, hl1, hk1⟩ := hI.hands (.l .n)
 refine s_pb h (fun _ hx1 => c_parser_reader_number_w c3 f1 w0 r1 b1 a1 c1 (hB.subs ⟨.z, trivial⟩) _ hx1) (pnb hk1) (r_callF rfl ok_130 ⟨et, trivial⟩) ?_
 rintro ⟨r2, s1⟩ hx1 h _ w1 ⟨a3, c4, c5, rfl, hB2⟩
 try dsimp only at h
 obtain ⟨c6, hs1, hI⟩ := hk1 _ _ _ _ hB2
 dsimp only [ca, na] at hI
 refine ⟨_, rfl, ?_⟩
 obtain ⟨r3, hx2, h⟩ := bnd_some h
 refine s_call gn rfl (r_callF (vs := [(str r2), vb false]) rfl ok_131 ⟨et, ⟨ev_const, trivial⟩⟩) (Calls.mono (c_parser_signed (Dj F c6) w1 hI.lt r2 false trivial r3 hx2) ?_)
 rintro _ w2 ⟨rfl, hx3, hl2⟩
 refine ⟨_, rfl, ?_⟩
 replace hI := (hI.ext hx3)
 refine T ?_
 refine c_seq (T ?_)
 refine cif h et (fun hb h => ?_) (fun hb h => ?_)
 ·refine T ?_
  rcases pb_some h with ⟨r4, hx4, h⟩ | ⟨pa_, pn_, hx4, hp_⟩
  rotate_left
  ·subst hp_
   refine s_callP gn rfl (r_callF (vs := [vp b1 0, vi r1.at_, vi 3]) rfl ok_71 ⟨et, ⟨et, ⟨ev_const, trivial⟩⟩⟩) (Calls.mono (c_parser_reader_fail noM w2 (fun _ k => k.elim) s1 r1.at_ 3 b1 a3 c4 ⟨(hI.get0 .z), hI.lendBox .z, trivial⟩ (.pan pa_ pn_) hx4) ?_)
   intro e_ w_ hq_; obtain ⟨rfl, hx_⟩ := pan_of hq_; have hI_ := hI.ext hx_; exact .inr ⟨_, rfl, kp_of (.inr ⟨_, _, rfl, rfl, ⟨_, hI_.arr .n trivial⟩⟩)⟩
  try dsimp only at h
  refine s_call gn rfl (r_callF (vs := [vp b1 0, vi r1.at_, vi 3]) rfl ok_71 ⟨et, ⟨et, ⟨ev_const, trivial⟩⟩⟩) (Calls.mono (c_parser_reader_fail noM w2 (fun _ k => k.elim) s1 r1.at_ 3 b1 a3 c4 ⟨(hI.get0 .z), hI.lendBox .z, trivial⟩ (.ret r4) hx4) ?_)
  intro e_ w3 hq_; obtain ⟨rfl, hx5, hl3⟩ := ret_of hq_
  refine ⟨_, rfl, ?_⟩
  replace hI := (hI.ext hx5)
  refine T ?_
  refine c_ret ?_
  obtain rfl := some_inj h
  refine QG ?_
  exact .inl ⟨_, rfl, a3, c4, _, rfl, hI.arr GO SU⟩
 refine T ?_
 refine c_ret ?_
 obtain rfl := some_inj h
 refine QG ?_
 exact .inl ⟨_, rfl, a3, c4, _, rfl, hI.arr GO SU⟩
theorem c_parser_reader_typ_w (C0 F : NP) (w0 : World) (r1 : Gparser_reader) (b1 : Nat) (a1 : Option Addr) (c1 : Nat) (hI : Bun C0 F w0 C0 w0 [MO.box b1 67 (Aparser_reader r1 a1 c1)] [Cl.sl cGToken a1 c1 r1.l]) (r : Pan (GType × Gparser_reader))
  (h : m_parser_reader_typ_w r1 = some r) :
  Calls Tryz.prog 174 #[vp b1 0] w0 fun e w => (∃ rx : GType × Gparser_reader, r = .ret rx ∧ ∃ (a2 : Option Addr) (c2 : Nat) (C : NP), e = .returned (Value.agg (AType rx.1)) ∧ Bun C0 F w0 C w [MO.box b1 67 (Aparser_reader rx.2 a2 c2)] [Cl.sl cGToken a2 c2 rx.2.l]) ∨ ∃ (pa pn : Int), r = .pan pa pn ∧ e = .panicked [pe 114 pa pn] ∧ ∃ C : NP, Bun C0 F w0 C w [] [] := by
 refine enterP (l := [vp b1 0]) Tryz.func174 rfl Tryz.ntmps174 rfl ?_
 rw [m_parser_reader_typ_w] at h
 refine sr (l_alloc (cs := ZType) hI gn rfl rfl zero_35 rfl ?_)
 clear hI; intro b2 c3 w1 hI
 refine T ?_
 refine c_join (α := Gparser_reader × (Option Addr) × Nat) (fun _ => ⟨66, []⟩) (fun x => [(0, vp b1 0), (2, vp b2 0), (3, vi r1.at_)]) (fun x => fun w => ∃ C, Bun C0 F w0 C w [MO.box b1 67 (Aparser_reader (x.1) (x.2.1) (x.2.2)), MO.box b2 35 ZType] [Cl.sl cGToken (x.2.1) (x.2.2) (x.1).l] ∧ m_parser_reader_typ_w_j1 r1 (x.1) = some r) ?_ ?_
 ·clear h hI; rintro ⟨r2, a3, c4⟩ w2 ⟨c5, hI, h⟩
  try dsimp only at hI h
  rw [m_parser_reader_typ_w_j1] at h
  refine c_sub (e := [(0, vp b1 0), (2, vp b2 0), (3, vi r1.at_)]) SB ?_
  refine sr (sq (y_build (vs := [(0, vi 2)]) (cs := #[vi 2, vi 0, vi 0, vi 0, vi 0]) rfl ⟨rfl, ev_const, trivial⟩ (by kernel_rfl)) ?_)
  refine l_alloc (cs := ZType) hI gn rfl rfl zero_35 rfl ?_
  clear hI; intro b3 c6 w3 hI
  refine l_store (new := [vi 2, vi 0, vi 0, vi 0, vi 0]) (cs' := #[vi 2, vi 0, vi 0, vi 0, vi 0]) hI .z gn rfl rfl et et rfl size_35 rfl rfl rfl ?_
  clear hI; intro c7 w4 hI
  refine T ?_
  obtain ⟨c8, f1, hB, hl1, hk1⟩ := hI.hands (.r (.l (.r .n)))
  refine s_pb h (fun _ hx1 => c_parser_reader_expect_w c8 f1 w4 r2 ([40] : List UInt8) b1 a3 c4 (hB.subs ⟨.z, trivial⟩) _ hx1) (pnb hk1) (r_callF rfl ok_104 ⟨et, ⟨ev_const, trivial⟩⟩) ?_
  rintro ⟨r3, s1⟩ hx1 h _ w5 ⟨a4, c9, c10, rfl, hB2⟩
  try dsimp only at h
  obtain ⟨c11, hs1, hI⟩ := hk1 _ _ _ _ hB2
  dsimp only [ca, na] at hI
  refine ⟨_, rfl, ?_⟩
  refine T ?_
  obtain ⟨c12, f2, hB, hl2, hk2⟩ := hI.hands (.l (.r (.r .n)))
  refine s_pb h (fun _ hx2 => c_parser_reader_small_w c12 f2 w5 s1 b1 a4 c9 (hB.subs ⟨.z, trivial⟩) _ hx2) (pnb hk2) (r_callF rfl ok_219 ⟨et, trivial⟩) ?_
  rintro ⟨r4, s2⟩ hx2 h _ w6 ⟨a5, c13, c14, rfl, hB2⟩
  try dsimp only at h
  obtain ⟨c15, hs2, hI⟩ := hk2 _ _ _ _ hB2
  dsimp only [ca, na] at hI
  refine ⟨_, rfl, ?_⟩
  refine T ?_
  refine l_store (new := [vi r4]) (cs' := #[vi 2, vi r4, vi 0, vi 0, vi 0]) hI (.s .z) gn rfl rfl et et rfl size_3 rfl rfl rfl ?_
  clear hI; intro c16 w7 hI
  refine T ?_
  obtain ⟨c17, f3, hB, hl3, hk3⟩ := hI.hands (.l (.r (.r .n)))
  refine s_pb h (fun _ hx3 => c_parser_reader_expect_w c17 f3 w7 s2 ([44] : List UInt8) b1 a5 c13 (hB.subs ⟨.z, trivial⟩) _ hx3) (pnb hk3) (r_callF rfl ok_104 ⟨et, ⟨ev_const, trivial⟩⟩) ?_
  rintro ⟨r5, s3⟩ hx3 h _ w8 ⟨a6, c18, c19, rfl, hB2⟩
  try dsimp only at h
  obtain ⟨c20, hs3, hI⟩ := hk3 _ _ _ _ hB2
  dsimp only [ca, na] at hI
  refine ⟨_, rfl, ?_⟩
  refine T ?_
  obtain ⟨c21, f4, hB, hl4, hk4⟩ := hI.hands (.l (.r (.r .n)))
  refine s_pb h (fun _ hx4 => c_parser_reader_small_w c21 f4 w8 s3 b1 a6 c18 (hB.subs ⟨.z, trivial⟩) _ hx4) (pnb hk4) (r_callF rfl ok_219 ⟨et, trivial⟩) ?_
  rintro ⟨r6, s4⟩ hx4 h _ w9 ⟨a7, c22, c23, rfl, hB2⟩
  try dsimp only at h
  obtain ⟨c24, hs4, hI⟩ := hk4 _ _ _ _ hB2
  dsimp only [ca, na] at hI
  refine ⟨_, rfl, ?_⟩
  refine T ?_
  refine l_store (new := [vi r6]) (cs' := #[vi 2, vi r4, vi r6, vi 0, vi 0]) hI (.s .z) gn rfl rfl et et rfl size_3 rfl rfl rfl ?_
  clear hI; intro c25 w10 hI
  refine T ?_
  obtain ⟨c26, f5, hB, hl5, hk5⟩ := hI.hands (.l (.r (.r .n)))
  refine s_pb h (fun _ hx5 => c_parser_reader_expect_w c26 f5 w10 s4 ([44] : List UInt8) b1 a7 c22 (hB.subs ⟨.z, trivial⟩) _ hx5) (pnb hk5) (r_callF rfl ok_104 ⟨et, ⟨ev_const, trivial⟩⟩) ?_
  rintro ⟨r7, s5⟩ hx5 h _ w11 ⟨a8, c27, c28, rfl, hB2⟩
  try dsimp only at h
  obtain ⟨c29, hs5, hI⟩ := hk5 _ _ _ _ hB2
  dsimp only [ca, na] at hI
  refine ⟨_, rfl, ?_⟩
  refine T ?_
  refine l_lit (c := cStr) (xs := ([([102, 108, 111, 111, 114] : List UInt8), ([99, 101, 105, 108] : List UInt8), ([122, 101, 114, 111] : List UInt8), ([101, 118, 101, 110] : List UInt8)] : List (List UInt8))) (vs := [(0, (str ([102, 108, 111, 111, 114] : List UInt8))), (1, (str ([99, 101, 105, 108] : List UInt8))), (2, (str ([122, 101, 114, 111] : List UInt8))), (3, (str ([101, 118, 101, 110] : List UInt8)))]) (cs := #[(str ([102, 108, 111, 111, 114] : List UInt8)), (str ([99, 101, 105, 108] : List UInt8)), (str ([122, 101, 114, 111] : List UInt8)), (str ([101, 118, 101, 110] : List UInt8))]) (css := [[(str ([102, 108, 111, 111, 114] : List UInt8))], [(str ([99, 101, 105, 108] : List UInt8))], [(str ([122, 101, 114, 111] : List UInt8))], [(str ([101, 118, 101, 110] : List UInt8))]]) hI gn rfl rfl u50 info_9 rfl ⟨rfl, ev_const, ⟨rfl, ev_const, ⟨rfl, ev_const, ⟨rfl, ev_const, trivial⟩⟩⟩⟩ (by kernel_rfl) ⟨rfl, ⟨rfl, ⟨rfl, ⟨rfl, trivial⟩⟩⟩⟩ rfl rfl rfl ?_
  clear hI; intro b4 c30 w12 hI
  obtain ⟨c31, hI⟩ := hI.release .z
  obtain ⟨c32, f6, hB, hl6, hk6⟩ := hI.hands (.l (.r (.r .n)))
  obtain ⟨⟨r8, s6⟩, hx6, h⟩ := bnd_some h
  try dsimp only at h
  refine s_call gn rfl (r_callF (vs := [vp b1 0, (vs (some ⟨b4, 0, none⟩) ([([102, 108, 111, 111, 114] : List UInt8), ([99, 101, 105, 108] : List UInt8), ([122, 101, 114, 111] : List UInt8), ([101, 118, 101, 110] : List UInt8)] : List (List UInt8)).length 4)]) rfl ok_98 ⟨et, ⟨et, trivial⟩⟩) (Calls.mono (c_parser_reader_word_w c32 f6 w12 s5 ([([102, 108, 111, 111, 114] : List UInt8), ([99, 101, 105, 108] : List UInt8), ([122, 101, 114, 111] : List UInt8), ([101, 118, 101, 110] : List UInt8)] : List (List UInt8)) b1 a8 c27 (some ⟨b4, 0, none⟩) 4 (hB.subs ⟨(.s .z), .z, trivial⟩) _ hx6) ?_)
  rintro _ w13 ⟨a9, c33, c34, rfl, hB2⟩
  obtain ⟨c35, hs6, hI⟩ := hk6 _ _ _ _ hB2
  dsimp only [ca, na] at hI
  refine ⟨_, rfl, ?_⟩
  refine T ?_
  refine l_store (new := [(vi (wi64 (r8 + 1)))]) (cs' := #[vi 2, vi r4, vi r6, (vi (wi64 (r8 + 1))), vi 0]) hI (.s .z) gn rfl rfl et et rfl size_3 rfl rfl rfl ?_
  clear hI; intro c36 w14 hI
  refine nk (c_join (α := Gparser_reader × (Option Addr) × Nat) (fun _ => ⟨66, []⟩) (fun x => [(0, vp b1 0), (2, vp b2 0), (3, vi r1.at_), (4, vp b3 0)]) (fun x => fun w => ∃ C, Bun C0 F w0 C w [MO.box b1 67 (Aparser_reader (x.1) (x.2.1) (x.2.2)), MO.box b2 35 ZType, MO.box b3 35 #[vi 2, vi r4, vi r6, (vi (wi64 (r8 + 1))), vi 0]] [Cl.sl cGToken (x.2.1) (x.2.2) (x.1).l] ∧ m_parser_reader_typ_w_j2 r4 r6 r8 r1 (x.1) = some r) ?_ ?_)
  ·clear h hI; rintro ⟨r9, a10, c37⟩ w15 ⟨c38, hI, h⟩
   try dsimp only at hI h
   rw [m_parser_reader_typ_w_j2] at h
   refine c_sub (e := [(0, vp b1 0), (2, vp b2 0), (3, vi r1.at_), (4, vp b3 0)]) SB ?_
   refine T ?_
   obtain ⟨c39, f7, hB, hl7, hk7⟩ := hI.hands (.l (.r (.r .n)))
   refine s_pb h (fun _ hx7 => c_parser_reader_expect_w c39 f7 w15 r9 ([44] : List UInt8) b1 a10 c37 (hB.subs ⟨.z, trivial⟩) _ hx7) (pnb hk7) (r_callF rfl ok_104 ⟨et, ⟨ev_const, trivial⟩⟩) ?_
   rintro ⟨r10, s7⟩ hx7 h _ w16 ⟨a11, c40, c41, rfl, hB2⟩
   try dsimp only at h
   obtain ⟨c42, hs7, hI⟩ := hk7 _ _ _ _ hB2
   dsimp only [ca, na] at hI
   refine ⟨_, rfl, ?_⟩
   refine T ?_
   refine l_lit (c := cStr) (xs := ([([115, 97, 116] : List UInt8), ([119, 114, 97, 112] : List UInt8)] : List (List UInt8))) (vs := [(0, (str ([115, 97, 116] : List UInt8))), (1, (str ([119, 114, 97, 112] : List UInt8)))]) (cs := #[(str ([115, 97, 116] : List UInt8)), (str ([119, 114, 97, 112] : List UInt8))]) (css := [[(str ([115, 97, 116] : List UInt8))], [(str ([119, 114, 97, 112] : List UInt8))]]) hI gn rfl rfl u50 info_9 rfl ⟨rfl, ev_const, ⟨rfl, ev_const, trivial⟩⟩ (by kernel_rfl) ⟨rfl, ⟨rfl, trivial⟩⟩ rfl rfl rfl ?_
   clear hI; intro b5 c43 w17 hI
   obtain ⟨c44, hI⟩ := hI.release .z
   obtain ⟨c45, f8, hB, hl8, hk8⟩ := hI.hands (.l (.r (.r .n)))
   obtain ⟨⟨r11, s8⟩, hx8, h⟩ := bnd_some h
   try dsimp only at h
   refine s_call gn rfl (r_callF (vs := [vp b1 0, (vs (some ⟨b5, 0, none⟩) ([([115, 97, 116] : List UInt8), ([119, 114, 97, 112] : List UInt8)] : List (List UInt8)).length 2)]) rfl ok_98 ⟨et, ⟨et, trivial⟩⟩) (Calls.mono (c_parser_reader_word_w c45 f8 w17 s7 ([([115, 97, 116] : List UInt8), ([119, 114, 97, 112] : List UInt8)] : List (List UInt8)) b1 a11 c40 (some ⟨b5, 0, none⟩) 2 (hB.subs ⟨(.s .z), .z, trivial⟩) _ hx8) ?_)
   rintro _ w18 ⟨a12, c46, c47, rfl, hB2⟩
   obtain ⟨c48, hs8, hI⟩ := hk8 _ _ _ _ hB2
   dsimp only [ca, na] at hI
   refine ⟨_, rfl, ?_⟩
   refine T ?_
   refine l_store (new := [(vi (wi64 (r11 + 1)))]) (cs' := #[vi 2, vi r4, vi r6, (vi (wi64 (r8 + 1))), (vi (wi64 (r11 + 1)))]) hI (.s (.s .z)) gn rfl rfl et et rfl size_3 rfl rfl rfl ?_
   clear hI; intro c49 w19 hI
   refine nk (c_join (α := Gparser_reader × (Option Addr) × Nat) (fun _ => ⟨66, []⟩) (fun x => [(0, vp b1 0), (2, vp b2 0), (3, vi r1.at_), (4, vp b3 0)]) (fun x => fun w => ∃ C, Bun C0 F w0 C w [MO.box b1 67 (Aparser_reader (x.1) (x.2.1) (x.2.2)), MO.box b2 35 ZType, MO.box b3 35 #[vi 2, vi r4, vi r6, (vi (wi64 (r8 + 1))), (vi (wi64 (r11 + 1)))]] [Cl.sl cGToken (x.2.1) (x.2.2) (x.1).l] ∧ m_parser_reader_typ_w_j3 r4 r6 r8 r11 r1 (x.1) = some r) ?_ ?_)
   ·clear h hI; rintro ⟨r12, a13, c50⟩ w20 ⟨c51, hI, h⟩
    try dsimp only at hI h
    rw [m_parser_reader_typ_w_j3] at h
    refine c_sub (e := [(0, vp b1 0), (2, vp b2 0), (3, vi r1.at_), (4, vp b3 0)]) SB ?_
    refine T ?_
    obtain ⟨c52, f9, hB, hl9, hk9⟩ := hI.hands (.l (.r (.r .n)))
    refine s_pb h (fun _ hx9 => c_parser_reader_expect_w c52 f9 w20 r12 ([41] : List UInt8) b1 a13 c50 (hB.subs ⟨.z, trivial⟩) _ hx9) (pnb hk9) (r_callF rfl ok_104 ⟨et, ⟨ev_const, trivial⟩⟩) ?_
    rintro ⟨r13, s9⟩ hx9 h _ w21 ⟨a14, c53, c54, rfl, hB2⟩
    try dsimp only at h
    obtain ⟨c55, hs9, hI⟩ := hk9 _ _ _ _ hB2
    dsimp only [ca, na] at hI
    refine ⟨_, rfl, ?_⟩
    refine nk (c_seq (T ?_))
    obtain ⟨r14, hx10, h⟩ := bnd_some h
    refine s_call gn rfl (r_callF (vs := [(Value.agg #[vi 2, vi r4, vi r6, (vi (wi64 (r8 + 1))), (vi (wi64 (r11 + 1)))])]) rfl ok_202 ⟨et, trivial⟩) (Calls.mono (c_value_ValidateType (Dj F c55) w21 hI.lt (⟨2, r4, r6, wi64 (r8 + 1), wi64 (r11 + 1)⟩ : GType) trivial r14 hx10) ?_)
    rintro _ w22 ⟨rfl, hx11, hl10⟩
    refine ⟨_, rfl, ?_⟩
    replace hI := (hI.ext hx11)
    refine T ?_
    refine cif h et (fun hb h => ?_) (fun hb h => ?_)
    ·refine T ?_
     rcases pb_some h with ⟨r15, hx12, h⟩ | ⟨pa_, pn_, hx12, hp_⟩
     rotate_left
     ·subst hp_
      refine s_callP gn rfl (r_callF (vs := [vp b1 0, vi r1.at_, vi 10]) rfl ok_71 ⟨et, ⟨et, ⟨ev_const, trivial⟩⟩⟩) (Calls.mono (c_parser_reader_fail noM w22 (fun _ k => k.elim) s9 r1.at_ 10 b1 a14 c53 ⟨(hI.get0 .z), hI.lendBox .z, trivial⟩ (.pan pa_ pn_) hx12) ?_)
      intro e_ w_ hq_; obtain ⟨rfl, hx_⟩ := pan_of hq_; have hI_ := hI.ext hx_; exact .inr ⟨_, rfl, kp_of (.inr ⟨_, _, rfl, rfl, ⟨_, hI_.arr .n trivial⟩⟩)⟩
     try dsimp only at h
     refine s_call gn rfl (r_callF (vs := [vp b1 0, vi r1.at_, vi 10]) rfl ok_71 ⟨et, ⟨et, ⟨ev_const, trivial⟩⟩⟩) (Calls.mono (c_parser_reader_fail noM w22 (fun _ k => k.elim) s9 r1.at_ 10 b1 a14 c53 ⟨(hI.get0 .z), hI.lendBox .z, trivial⟩ (.ret r15) hx12) ?_)
     intro e_ w23 hq_; obtain ⟨rfl, hx13, hl11⟩ := ret_of hq_
     refine ⟨_, rfl, ?_⟩
     replace hI := (hI.ext hx13)
     refine T ?_
     refine l_store (new := [vi 2, vi r4, vi r6, (vi (wi64 (r8 + 1))), (vi (wi64 (r11 + 1)))]) (cs' := #[vi 2, vi r4, vi r6, (vi (wi64 (r8 + 1))), (vi (wi64 (r11 + 1)))]) hI (.s .z) gn rfl rfl et et rfl size_35 rfl rfl rfl ?_
     clear hI; intro c56 w24 hI
     refine nk (c_ret ?_)
     obtain rfl := some_inj h
     refine QG ?_
     exact .inl ⟨_, rfl, a14, c53, _, rfl, hI.arr GO SU⟩
    refine T ?_
    refine l_store (new := [vi 2, vi r4, vi r6, (vi (wi64 (r8 + 1))), (vi (wi64 (r11 + 1)))]) (cs' := #[vi 2, vi r4, vi r6, (vi (wi64 (r8 + 1))), (vi (wi64 (r11 + 1)))]) hI (.s .z) gn rfl rfl et et rfl size_35 rfl rfl rfl ?_
    clear hI; intro c57 w25 hI
    refine nk (c_ret ?_)
    obtain rfl := some_inj h
    refine QG ?_
    exact .inl ⟨_, rfl, a14, c53, _, rfl, hI.arr GO SU⟩
   refine T ?_
   refine cif h et (fun hb h => ?_) (fun hb h => ?_)
   ·refine T ?_
    obtain ⟨c58, f10, hB, hl12, hk10⟩ := hI.hands (.l (.r (.r .n)))
    refine s_pb h (fun _ hx14 => c_parser_reader_wrong_w c58 f10 w19 s8 b1 a12 c46 (hB.subs ⟨.z, trivial⟩) _ hx14) (pnb hk10) (r_callF rfl ok_103 ⟨et, trivial⟩) ?_
    rintro ⟨r16, s10⟩ hx14 h _ w26 ⟨a15, c59, c60, rfl, hB2⟩
    try dsimp only at h
    obtain ⟨c61, hs10, hI⟩ := hk10 _ _ _ _ hB2
    dsimp only [ca, na] at hI
    refine ⟨_, rfl, ?_⟩
    refine s_nil ?_
    exact k_join (s10, a15, c59) SB ⟨_, hI.arr GO SU, h⟩ rfl
   exact c_skip (k_join (s8, a12, c46) SB ⟨_, hI.arr GO SU, h⟩ rfl)
  refine T ?_
  refine cif h et (fun hb h => ?_) (fun hb h => ?_)
  ·refine T ?_
   obtain ⟨c62, f11, hB, hl13, hk11⟩ := hI.hands (.l (.r (.r .n)))
   refine s_pb h (fun _ hx15 => c_parser_reader_wrong_w c62 f11 w14 s6 b1 a9 c33 (hB.subs ⟨.z, trivial⟩) _ hx15) (pnb hk11) (r_callF rfl ok_103 ⟨et, trivial⟩) ?_
   rintro ⟨r17, s11⟩ hx15 h _ w27 ⟨a16, c63, c64, rfl, hB2⟩
   try dsimp only at h
   obtain ⟨c65, hs11, hI⟩ := hk11 _ _ _ _ hB2
   dsimp only [ca, na] at hI
   refine ⟨_, rfl, ?_⟩
   refine s_nil ?_
   exact k_join (s11, a16, c63) SB ⟨_, hI.arr GO SU, h⟩ rfl
  exact c_skip (k_join (s6, a9, c33) SB ⟨_, hI.arr GO SU, h⟩ rfl)
 refine T ?_
 refine l_lit (c := cStr) (xs := ([([102, 114, 97, 99] : List UInt8), ([105, 110, 116] : List UInt8), ([102, 105, 120] : List UInt8)] : List (List UInt8))) (vs := [(0, (str ([102, 114, 97, 99] : List UInt8))), (1, (str ([105, 110, 116] : List UInt8))), (2, (str ([102, 105, 120] : List UInt8)))]) (cs := #[(str ([102, 114, 97, 99] : List UInt8)), (str ([105, 110, 116] : List UInt8)), (str ([102, 105, 120] : List UInt8))]) (css := [[(str ([102, 114, 97, 99] : List UInt8))], [(str ([105, 110, 116] : List UInt8))], [(str ([102, 105, 120] : List UInt8))]]) hI gn rfl rfl u50 info_9 rfl ⟨rfl, ev_const, ⟨rfl, ev_const, ⟨rfl, ev_const, trivial⟩⟩⟩ (by kernel_rfl) ⟨rfl, ⟨rfl, ⟨rfl, trivial⟩⟩⟩ rfl rfl rfl ?_
 clear hI; intro b6 c66 w28 hI
 obtain ⟨c67, hI⟩ := hI.release .z
 obtain ⟨c68, f12, hB, hl14, hk12⟩ := hI.hands (.r (.l .n))
 obtain ⟨⟨r18, s12⟩, hx16, h⟩ := bnd_some h
 try dsimp only at h
 refine s_call gn rfl (r_callF (vs := [vp b1 0, (vs (some ⟨b6, 0, none⟩) ([([102, 114, 97, 99] : List UInt8), ([105, 110, 116] : List UInt8), ([102, 105, 120] : List UInt8)] : List (List UInt8)).length 3)]) rfl ok_98 ⟨et, ⟨et, trivial⟩⟩) (Calls.mono (c_parser_reader_word_w c68 f12 w28 r1 ([([102, 114, 97, 99] : List UInt8), ([105, 110, 116] : List UInt8), ([102, 105, 120] : List UInt8)] : List (List UInt8)) b1 a1 c1 (some ⟨b6, 0, none⟩) 3 (hB.subs ⟨(.s .z), .z, trivial⟩) _ hx16) ?_)
 rintro _ w29 ⟨a17, c69, c70, rfl, hB2⟩
 obtain ⟨c71, hs12, hI⟩ := hk12 _ _ _ _ hB2
 dsimp only [ca, na] at hI
 refine ⟨_, rfl, ?_⟩
 refine T ?_
 refine cif h et (fun hb h => ?_) (fun hb h => ?_)
 ·refine sr (sq (y_build (vs := [(0, vi 1)]) (cs := #[vi 1, vi 0, vi 0, vi 0, vi 0]) rfl ⟨rfl, ev_const, trivial⟩ (by kernel_rfl)) ?_)
  refine l_store (new := [vi 1, vi 0, vi 0, vi 0, vi 0]) (cs' := #[vi 1, vi 0, vi 0, vi 0, vi 0]) hI (.s .z) gn rfl rfl et et rfl size_35 rfl rfl rfl ?_
  clear hI; intro c72 w30 hI
  refine nk (c_ret ?_)
  obtain rfl := some_inj h
  refine QG ?_
  exact .inl ⟨_, rfl, a17, c69, _, rfl, hI.arr GO SU⟩
 refine T ?_
 refine cif h et (fun hb h => ?_) (fun hb h => ?_)
 ·refine sr (sq (y_build (vs := [(0, vi 3)]) (cs := #[vi 3, vi 0, vi 0, vi 0, vi 0]) rfl ⟨rfl, ev_const, trivial⟩ (by kernel_rfl)) ?_)
  refine l_store (new := [vi 3, vi 0, vi 0, vi 0, vi 0]) (cs' := #[vi 3, vi 0, vi 0, vi 0, vi 0]) hI (.s .z) gn rfl rfl et et rfl size_35 rfl rfl rfl ?_
  clear hI; intro c73 w31 hI
  refine nk (c_ret ?_)
  obtain rfl := some_inj h
  refine QG ?_
  exact .inl ⟨_, rfl, a17, c69, _, rfl, hI.arr GO SU⟩
 refine T ?_
 refine cif h et (fun hb h => ?_) (fun hb h => ?_)
 ·refine T ?_
  obtain ⟨c74, f13, hB, hl15, hk13⟩ := hI.hands (.l (.r .n))
  refine s_pb h (fun _ hx17 => c_parser_reader_wrong_w c74 f13 w29 s12 b1 a17 c69 (hB.subs ⟨.z, trivial⟩) _ hx17) (pnb hk13) (r_callF rfl ok_103 ⟨et, trivial⟩) ?_
  rintro ⟨r19, s13⟩ hx17 h _ w32 ⟨a18, c75, c76, rfl, hB2⟩
  try dsimp only at h
  obtain ⟨c77, hs13, hI⟩ := hk13 _ _ _ _ hB2
  dsimp only [ca, na] at hI
  refine ⟨_, rfl, ?_⟩
  refine s_nil ?_
  exact k_join (s13, a18, c75) SB ⟨_, hI.arr GO SU, h⟩ rfl
 exact c_skip (k_join (s12, a17, c69) SB ⟨_, hI.arr GO SU, h⟩ rfl)
theorem c_parser_reader_constant_w (C0 F : NP) (w0 : World) (r1 : Gparser_reader) (b1 : Nat) (a1 : Option Addr) (c1 : Nat) (hI : Bun C0 F w0 C0 w0 [MO.box b1 67 (Aparser_reader r1 a1 c1)] [Cl.sl cGToken a1 c1 r1.l]) (r : Pan (GExpr × Gparser_reader))
  (h : m_parser_reader_constant_w r1 = some r) :
  Calls Tryz.prog 255 #[vp b1 0] w0 fun e w => (∃ rx : GExpr × Gparser_reader, r = .ret rx ∧ ∃ (a2 : Option Addr) (c2 : Nat) (a3 : Option Addr) (c3 : Nat) (a4 : Option Addr) (c4 : Nat) (a5 : Option Addr) (c5 : Nat) (C : NP), e = .returned (Value.agg (AExpr rx.1 a2 c2 a3 c3 a4 c4)) ∧ Bun C0 F w0 C w [MO.box b1 67 (Aparser_reader rx.2 a5 c5)] [Cl.sl cGMono a2 c2 rx.1.Lin.L, Cl.sl cGIndex a3 c3 rx.1.Idx, Cl.sl cGExpr a4 c4 rx.1.Args, Cl.sl cGToken a5 c5 rx.2.l]) ∨ ∃ (pa pn : Int), r = .pan pa pn ∧ e = .panicked [pe 114 pa pn] ∧ ∃ C : NP, Bun C0 F w0 C w [] [] := by
 refine enterP (l := [vp b1 0]) Tryz.func255 rfl Tryz.ntmps255 rfl ?_
 rw [m_parser_reader_constant_w] at h
 refine sr (l_alloc (cs := #[vi 0, (str ([] : List UInt8)), vi 0, vi 0, vi 0, vi 0, vi 0, vi 0, vi 0, vi 0, vs none 0 0, vs none 0 0, vs none 0 0]) hI gn rfl rfl zero_39 rfl ?_)
 clear hI; intro b2 c6 w1 hI
 refine T ?_
 obtain ⟨c7, f1, hB, hl1, hk1⟩ := hI.hands (.r (.l .n))
 refine s_pb h (fun _ hx1 => c_parser_reader_typ_w c7 f1 w1 r1 b1 a1 c1 (hB.subs ⟨.z, trivial⟩) _ hx1) (pnb hk1) (r_callF rfl ok_174 ⟨et, trivial⟩) ?_
 rintro ⟨r2, s1⟩ hx1 h _ w2 ⟨a6, c8, c9, rfl, hB2⟩
 try dsimp only at h
 obtain ⟨c10, hs1, hI⟩ := hk1 _ _ _ _ hB2
 dsimp only [ca, na] at hI
 refine ⟨_, rfl, ?_⟩
 refine l_alloc (cs := ZType) hI gn rfl rfl zero_35 rfl ?_
 clear hI; intro b3 c11 w3 hI
 refine l_store (new := (lType r2)) (cs' := (AType r2)) hI .z gn rfl rfl et et rfl size_35 rfl rfl rfl ?_
 clear hI; intro c12 w4 hI
 refine T ?_
 obtain ⟨c13, f2, hB, hl2, hk2⟩ := hI.hands (.r (.l (.r .n)))
 refine s_pb h (fun _ hx2 => c_parser_reader_expect_w c13 f2 w4 s1 ([40] : List UInt8) b1 a6 c8 (hB.subs ⟨.z, trivial⟩) _ hx2) (pnb hk2) (r_callF rfl ok_104 ⟨et, ⟨ev_const, trivial⟩⟩) ?_
 rintro ⟨r3, s2⟩ hx2 h _ w5 ⟨a7, c14, c15, rfl, hB2⟩
 try dsimp only at h
 obtain ⟨c16, hs2, hI⟩ := hk2 _ _ _ _ hB2
 dsimp only [ca, na] at hI
 refine ⟨_, rfl, ?_⟩
 refine T ?_
 refine c_join (α := (List UInt8) × Gparser_reader × (Option Addr) × Nat) (fun _ => ⟨46, []⟩) (fun x => [(0, vp b1 0), (2, vp b2 0), (3, vp b3 0), (4, vi s2.at_), (5, (str (x.1)))]) (fun x => fun w => ∃ C, Bun C0 F w0 C w [MO.box b1 67 (Aparser_reader (x.2.1) (x.2.2.1) (x.2.2.2)), MO.box b2 39 #[vi 0, (str ([] : List UInt8)), vi 0, vi 0, vi 0, vi 0, vi 0, vi 0, vi 0, vi 0, vs none 0 0, vs none 0 0, vs none 0 0], MO.box b3 35 (AType r2)] [Cl.sl cGToken (x.2.2.1) (x.2.2.2) (x.2.1).l] ∧ m_parser_reader_constant_w_j1 r2 s2 (x.1) (x.2.1) = some r) ?_ ?_
 ·clear h hI; rintro ⟨text1, r4, a8, c17⟩ w6 ⟨c18, hI, h⟩
  try dsimp only at hI h
  rw [m_parser_reader_constant_w_j1] at h
  refine c_sub (e := [(0, vp b1 0), (2, vp b2 0), (3, vp b3 0), (4, vi s2.at_), (5, (str text1))]) SB ?_
  refine T ?_
  obtain ⟨c19, f3, hB, hl3, hk3⟩ := hI.hands (.l (.r (.r .n)))
  refine s_pb h (fun _ hx3 => c_parser_reader_number_w c19 f3 w6 r4 b1 a8 c17 (hB.subs ⟨.z, trivial⟩) _ hx3) (pnb hk3) (r_callF rfl ok_130 ⟨et, trivial⟩) ?_
  rintro ⟨r5, s3⟩ hx3 h _ w7 ⟨a9, c20, c21, rfl, hB2⟩
  try dsimp only at h
  obtain ⟨c22, hs3, hI⟩ := hk3 _ _ _ _ hB2
  dsimp only [ca, na] at hI
  refine ⟨_, rfl, ?_⟩
  obtain ⟨s4, hx4, h⟩ := bnd_some h
  refine sq (y_catl rfl et et hx4) ?_
  refine T ?_
  refine c_join (α := (List UInt8) × Gparser_reader × (Option Addr) × Nat) (fun _ => ⟨46, []⟩) (fun x => [(0, vp b1 0), (2, vp b2 0), (3, vp b3 0), (4, vi s2.at_), (5, (str (x.1)))]) (fun x => fun w => ∃ C, Bun C0 F w0 C w [MO.box b1 67 (Aparser_reader (x.2.1) (x.2.2.1) (x.2.2.2)), MO.box b2 39 #[vi 0, (str ([] : List UInt8)), vi 0, vi 0, vi 0, vi 0, vi 0, vi 0, vi 0, vi 0, vs none 0 0, vs none 0 0, vs none 0 0], MO.box b3 35 (AType r2)] [Cl.sl cGToken (x.2.2.1) (x.2.2.2) (x.2.1).l] ∧ m_parser_reader_constant_w_j2 r2 s2 (x.1) (x.2.1) = some r) ?_ ?_
  ·clear h hI; rintro ⟨text2, r6, a10, c23⟩ w8 ⟨c24, hI, h⟩
   try dsimp only at hI h
   rw [m_parser_reader_constant_w_j2] at h
   refine c_sub (e := [(0, vp b1 0), (2, vp b2 0), (3, vp b3 0), (4, vi s2.at_), (5, (str text2))]) SB ?_
   refine T ?_
   obtain ⟨r7, hx5, h⟩ := bnd_some h
   refine s_call gn rfl (r_callF (vs := [(Value.agg (AType r2)), (str text2)]) rfl ok_260 ⟨et, ⟨et, trivial⟩⟩) (Calls.mono (c_value_Parse (Dj F c24) w8 hI.lt r2 text2 trivial r7 hx5) ?_)
   rintro _ w9 ⟨rfl, hx6, hl4⟩
   refine ⟨_, rfl, ?_⟩
   replace hI := (hI.ext hx6)
   refine T ?_
   refine l_alloc (cs := #[vi 0, vi 0]) hI gn rfl rfl zero_33 rfl ?_
   clear hI; intro b4 c25 w10 hI
   refine l_store (new := (lVal r7.1)) (cs' := (AVal r7.1)) hI .z gn rfl rfl et et rfl size_33 rfl rfl rfl ?_
   clear hI; intro c26 w11 hI
   refine T ?_
   refine c_join (α := Unit) (fun _ => ⟨46, []⟩) (fun _ => [(0, vp b1 0), (2, vp b2 0), (3, vp b3 0), (6, vp b4 0)]) (fun _ => fun w => ∃ C, Bun C0 F w0 C w [MO.box b1 67 (Aparser_reader r6 a10 c23), MO.box b2 39 #[vi 0, (str ([] : List UInt8)), vi 0, vi 0, vi 0, vi 0, vi 0, vi 0, vi 0, vi 0, vs none 0 0, vs none 0 0, vs none 0 0], MO.box b3 35 (AType r2), MO.box b4 33 (AVal r7.1)] [Cl.sl cGToken a10 c23 r6.l] ∧ m_parser_reader_constant_w_j3 r6 r7 r2 = some r) ?_ ?_
   ·clear h hI; rintro _ w12 ⟨c27, hI, h⟩
    try dsimp only at hI h
    rw [m_parser_reader_constant_w_j3] at h
    refine c_sub (e := [(0, vp b1 0), (2, vp b2 0), (3, vp b3 0), (6, vp b4 0)]) SB ?_
    refine T ?_
    obtain ⟨c28, f4, hB, hl5, hk4⟩ := hI.hands (.l (.r (.r (.r .n))))
    refine s_pb h (fun _ hx7 => c_parser_reader_expect_w c28 f4 w12 r6 ([41] : List UInt8) b1 a10 c23 (hB.subs ⟨.z, trivial⟩) _ hx7) (pnb hk4) (r_callF rfl ok_104 ⟨et, ⟨ev_const, trivial⟩⟩) ?_
    rintro ⟨r8, s5⟩ hx7 h _ w13 ⟨a11, c29, c30, rfl, hB2⟩
    try dsimp only at h
    obtain ⟨c31, hs4, hI⟩ := hk4 _ _ _ _ hB2
    dsimp only [ca, na] at hI
    refine ⟨_, rfl, ?_⟩
    refine T ?_
    refine sq (y_build (vs := [(0, vi 1), (3, (Value.agg (AType r2))), (2, (Value.agg (AVal r7.1)))]) (cs := #[vi 1, (str ([] : List UInt8)), vi r7.1.N, vi r7.1.D, vi r2.Kind, vi r2.Bits, vi r2.Frac, vi r2.Round, vi r2.Over, vi 0, vs none 0 0, vs none 0 0, vs none 0 0]) rfl ⟨rfl, ev_const, ⟨rfl, et, ⟨rfl, et, trivial⟩⟩⟩ (by kernel_rfl)) ?_
    refine l_store (new := [vi 1, (str ([] : List UInt8)), vi r7.1.N, vi r7.1.D, vi r2.Kind, vi r2.Bits, vi r2.Frac, vi r2.Round, vi r2.Over, vi 0, vs none 0 0, vs none 0 0, vs none 0 0]) (cs' := #[vi 1, (str ([] : List UInt8)), vi r7.1.N, vi r7.1.D, vi r2.Kind, vi r2.Bits, vi r2.Frac, vi r2.Round, vi r2.Over, vi 0, vs none 0 0, vs none 0 0, vs none 0 0]) hI (.s .z) gn rfl rfl et et rfl size_39 rfl rfl rfl ?_
    clear hI; intro c32 w14 hI
    refine nk (c_ret ?_)
    have hI := hI.add (c := Cl.sl cGMono none 0 ([] : List GMono)) SlC.nil
    have hI := hI.add (c := Cl.sl cGIndex none 0 ([] : List GIndex)) SlC.nil
    have hI := hI.add (c := Cl.sl cGExpr none 0 ([] : List GExpr)) SlC.nil
    obtain rfl := some_inj h
    refine QG ?_
    exact .inl ⟨_, rfl, none, 0, none, 0, none, 0, a11, c29, _, rfl, hI.arr GO SU⟩
   refine T ?_
   refine cif h et (fun hb h => ?_) (fun hb h => ?_)
   ·refine T ?_
    rcases pb_some h with ⟨r9, hx8, h⟩ | ⟨pa_, pn_, hx8, hp_⟩
    rotate_left
    ·subst hp_
     refine s_callP gn rfl (r_callF (vs := [vp b1 0, vi s2.at_, vi r7.2]) rfl ok_71 ⟨et, ⟨et, ⟨et, trivial⟩⟩⟩) (Calls.mono (c_parser_reader_fail noM w11 (fun _ k => k.elim) r6 s2.at_ r7.2 b1 a10 c23 ⟨(hI.get0 .z), hI.lendBox (.s .z), trivial⟩ (.pan pa_ pn_) hx8) ?_)
     intro e_ w_ hq_; obtain ⟨rfl, hx_⟩ := pan_of hq_; have hI_ := hI.ext hx_; exact .inr ⟨_, rfl, kp_of (.inr ⟨_, _, rfl, rfl, ⟨_, hI_.arr .n trivial⟩⟩)⟩
    try dsimp only at h
    refine s_call gn rfl (r_callF (vs := [vp b1 0, vi s2.at_, vi r7.2]) rfl ok_71 ⟨et, ⟨et, ⟨et, trivial⟩⟩⟩) (Calls.mono (c_parser_reader_fail noM w11 (fun _ k => k.elim) r6 s2.at_ r7.2 b1 a10 c23 ⟨(hI.get0 .z), hI.lendBox (.s .z), trivial⟩ (.ret r9) hx8) ?_)
    intro e_ w15 hq_; obtain ⟨rfl, hx9, hl6⟩ := ret_of hq_
    refine ⟨_, rfl, ?_⟩
    replace hI := (hI.ext hx9)
    refine s_nil ?_
    exact k_join () SB ⟨_, hI.arr GO SU, h⟩ rfl
   exact c_skip (k_join () SB ⟨_, hI.arr GO SU, h⟩ rfl)
  refine T ?_
  obtain ⟨c33, f5, hB, hl7, hk5⟩ := hI.hands (.l (.r (.r .n)))
  obtain ⟨⟨r10, s6⟩, hx10, h⟩ := bnd_some h
  try dsimp only at h
  refine s_call gn rfl (r_callF (vs := [vp b1 0, (str ([47] : List UInt8))]) rfl ok_68 ⟨et, ⟨ev_const, trivial⟩⟩) (Calls.mono (c_parser_reader_accept_w c33 f5 w7 s3 ([47] : List UInt8) b1 a9 c20 (hB.subs ⟨.z, trivial⟩) _ hx10) ?_)
  rintro _ w16 ⟨a12, c34, c35, rfl, hB2⟩
  obtain ⟨c36, hs5, hI⟩ := hk5 _ _ _ _ hB2
  dsimp only [ca, na] at hI
  refine ⟨_, rfl, ?_⟩
  refine nk (cif h et (fun hb h => ?_) (fun hb h => ?_))
  ·refine T ?_
   obtain ⟨c37, f6, hB, hl8, hk6⟩ := hI.hands (.l (.r (.r .n)))
   refine s_pb h (fun _ hx11 => c_parser_reader_number_w c37 f6 w16 s6 b1 a12 c34 (hB.subs ⟨.z, trivial⟩) _ hx11) (pnb hk6) (r_callF rfl ok_130 ⟨et, trivial⟩) ?_
   rintro ⟨r11, s7⟩ hx11 h _ w17 ⟨a13, c38, c39, rfl, hB2⟩
   try dsimp only at h
   obtain ⟨c40, hs6, hI⟩ := hk6 _ _ _ _ hB2
   dsimp only [ca, na] at hI
   refine ⟨_, rfl, ?_⟩
   obtain ⟨s8, hx12, h⟩ := bnd_some h
   refine sq (y_catl rfl ev_const et hx12) ?_
   obtain ⟨s9, hx13, h⟩ := bnd_some h
   refine sq (y_catl rfl et et hx13) ?_
   refine sa ?_
   refine s_nil ?_
   exact k_join (s9, s7, a13, c38) SB ⟨_, hI.arr GO SU, h⟩ rfl
  exact c_skip (k_join (s4, s6, a12, c34) SB ⟨_, hI.arr GO SU, h⟩ rfl)
 refine T ?_
 obtain ⟨c41, f7, hB, hl9, hk7⟩ := hI.hands (.l (.r (.r .n)))
 obtain ⟨⟨r12, s10⟩, hx14, h⟩ := bnd_some h
 try dsimp only at h
 refine s_call gn rfl (r_callF (vs := [vp b1 0, (str ([45] : List UInt8))]) rfl ok_68 ⟨et, ⟨ev_const, trivial⟩⟩) (Calls.mono (c_parser_reader_accept_w c41 f7 w5 s2 ([45] : List UInt8) b1 a7 c14 (hB.subs ⟨.z, trivial⟩) _ hx14) ?_)
 rintro _ w18 ⟨a14, c42, c43, rfl, hB2⟩
 obtain ⟨c44, hs7, hI⟩ := hk7 _ _ _ _ hB2
 dsimp only [ca, na] at hI
 refine ⟨_, rfl, ?_⟩
 refine nk (cif h et (fun hb h => ?_) (fun hb h => ?_))
 ·refine T ?_
  refine s_nil ?_
  exact k_join (([45] : List UInt8), s10, a14, c42) SB ⟨_, hI.arr GO SU, h⟩ rfl
 exact c_skip (k_join (([] : List UInt8), s10, a14, c42) SB ⟨_, hI.arr GO SU, h⟩ rfl)
def tr_parser_reader_call_w_3_1 : Tr := (.c (5, .s) (.c (6, .q) (.c (7, .s) .n)))
def tr_parser_reader_call_w_3_0 : Tr := (.c (4, .s) tr_parser_reader_call_w_3_1)
theorem c_parser_reader_call_w (rec_ : (Gparser_reader → Option (Pan (GExpr × Gparser_reader)))) (hrec : ∀ (C0 F : NP) (w0 : World) (r1 : Gparser_reader) (b1 : Nat) (a1 : Option Addr) (c1 : Nat) (hI : Bun C0 F w0 C0 w0 [MO.box b1 67 (Aparser_reader r1 a1 c1)] [Cl.sl cGToken a1 c1 r1.l, clSpace]) (r : Pan (GExpr × Gparser_reader)) (h : rec_ r1 = some r), Calls Tryz.prog 34 #[vp b1 0] w0 fun e w => (∃ rx : GExpr × Gparser_reader, r = .ret rx ∧ ∃ (a2 : Option Addr) (c2 : Nat) (a3 : Option Addr) (c3 : Nat) (a4 : Option Addr) (c4 : Nat) (a5 : Option Addr) (c5 : Nat) (C : NP), e = .returned (Value.agg (AExpr rx.1 a2 c2 a3 c3 a4 c4)) ∧ Bun C0 F w0 C w [MO.box b1 67 (Aparser_reader rx.2 a5 c5)] [Cl.sl cGMono a2 c2 rx.1.Lin.L, Cl.sl cGIndex a3 c3 rx.1.Idx, Cl.sl cGExpr a4 c4 rx.1.Args, Cl.sl cGToken a5 c5 rx.2.l]) ∨ ∃ (pa pn : Int), r = .pan pa pn ∧ e = .panicked [pe 114 pa pn] ∧ ∃ C : NP, Bun C0 F w0 C w [] []) (C0 F : NP) (w0 : World) (r1 : Gparser_reader) (op1 : Int) (many1 : Int) (b1 : Nat) (a1 : Option Addr) (c1 : Nat) (hI : Bun C0 F w0 C0 w0 [MO.box b1 67 (Aparser_reader r1 a1 c1)] [Cl.sl cGToken a1 c1 r1.l, clSpace]) (r : Pan (GExpr × Gparser_reader))
  (h : m_parser_reader_call_w rec_ r1 op1 many1 = some r) :
  Calls Tryz.prog 256 #[vp b1 0, vi op1, vi many1] w0 fun e w => (∃ rx : GExpr × Gparser_reader, r = .ret rx ∧ ∃ (a2 : Option Addr) (c2 : Nat) (a3 : Option Addr) (c3 : Nat) (a4 : Option Addr) (c4 : Nat) (a5 : Option Addr) (c5 : Nat) (C : NP), e = .returned (Value.agg (AExpr rx.1 a2 c2 a3 c3 a4 c4)) ∧ Bun C0 F w0 C w [MO.box b1 67 (Aparser_reader rx.2 a5 c5)] [Cl.sl cGMono a2 c2 rx.1.Lin.L, Cl.sl cGIndex a3 c3 rx.1.Idx, Cl.sl cGExpr a4 c4 rx.1.Args, Cl.sl cGToken a5 c5 rx.2.l]) ∨ ∃ (pa pn : Int), r = .pan pa pn ∧ e = .panicked [pe 114 pa pn] ∧ ∃ C : NP, Bun C0 F w0 C w [] [] := by
 refine enterP (l := [vp b1 0, vi op1, vi many1]) Tryz.func256 rfl Tryz.ntmps256 rfl ?_
 rw [m_parser_reader_call_w] at h
 refine sr (l_alloc (cs := #[vi 0, (str ([] : List UInt8)), vi 0, vi 0, vi 0, vi 0, vi 0, vi 0, vi 0, vi 0, vs none 0 0, vs none 0 0, vs none 0 0]) hI gn rfl rfl zero_39 rfl ?_)
 clear hI; intro b2 c6 w1 hI
 refine T ?_
 refine sq (y_build (vs := [(0, vi op1)]) (cs := #[vi op1, (str ([] : List UInt8)), vi 0, vi 0, vi 0, vi 0, vi 0, vi 0, vi 0, vi 0, vs none 0 0, vs none 0 0, vs none 0 0]) rfl ⟨rfl, et, trivial⟩ (by kernel_rfl)) ?_
 refine l_alloc (cs := #[vi 0, (str ([] : List UInt8)), vi 0, vi 0, vi 0, vi 0, vi 0, vi 0, vi 0, vi 0, vs none 0 0, vs none 0 0, vs none 0 0]) hI gn rfl rfl zero_39 rfl ?_
 clear hI; intro b3 c7 w2 hI
 refine l_store (new := [vi op1, (str ([] : List UInt8)), vi 0, vi 0, vi 0, vi 0, vi 0, vi 0, vi 0, vi 0, vs none 0 0, vs none 0 0, vs none 0 0]) (cs' := #[vi op1, (str ([] : List UInt8)), vi 0, vi 0, vi 0, vi 0, vi 0, vi 0, vi 0, vi 0, vs none 0 0, vs none 0 0, vs none 0 0]) hI .z gn rfl rfl et et rfl size_39 rfl rfl rfl ?_
 clear hI; intro c8 w3 hI
 refine T ?_
 obtain ⟨c9, f1, hB, hl1, hk1⟩ := hI.hands (.r (.r (.l .n)))
 refine s_pb h (fun _ hx1 => c_parser_reader_open_w c9 f1 w3 r1 b1 a1 c1 (hB.subs ⟨.z, trivial⟩) _ hx1) (pnb hk1) (r_callF rfl ok_253 ⟨et, trivial⟩) ?_
 rintro ⟨r2, s1⟩ hx1 h _ w4 ⟨a6, c10, c11, rfl, hB2⟩
 try dsimp only at h
 obtain ⟨c12, hs1, hI⟩ := hk1 _ _ _ _ hB2
 dsimp only [ca, na] at hI
 refine ⟨_, rfl, ?_⟩
 refine nk (c_seq (T ?_))
 have hI := hI.nil cGMono 64 none
 have hI := hI.nil cGIndex 132 none
 have hI := hI.nil cGExpr 39 none
 refine c_loop (α := Nat × Int × Gparser_reader × GExpr × (Option Addr) × Nat × (Option Addr) × Nat × (Option Addr) × Nat × (Option Addr) × Nat) (fun x => fun w => ∃ C, Bun C0 F w0 C w [MO.row cGMono 64 (x.2.2.2.2.2.2.1) (x.2.2.2.2.2.2.2.1) (x.2.2.2.1).Lin.L, MO.row cGIndex 132 (x.2.2.2.2.2.2.2.2.1) (x.2.2.2.2.2.2.2.2.2.1) (x.2.2.2.1).Idx, MO.row cGExpr 39 (x.2.2.2.2.2.2.2.2.2.2.1) (x.2.2.2.2.2.2.2.2.2.2.2) (x.2.2.2.1).Args, MO.box b1 67 (Aparser_reader (x.2.2.1) (x.2.2.2.2.1) (x.2.2.2.2.2.1)), MO.box b2 39 #[vi 0, (str ([] : List UInt8)), vi 0, vi 0, vi 0, vi 0, vi 0, vi 0, vi 0, vi 0, vs none 0 0, vs none 0 0, vs none 0 0], MO.box b3 39 (AExpr (x.2.2.2.1) (x.2.2.2.2.2.2.1) (x.2.2.2.2.2.2.2.1) (x.2.2.2.2.2.2.2.2.1) (x.2.2.2.2.2.2.2.2.2.1) (x.2.2.2.2.2.2.2.2.2.2.1) (x.2.2.2.2.2.2.2.2.2.2.2))] [Cl.sl cGToken (x.2.2.2.2.1) (x.2.2.2.2.2.1) (x.2.2.1).l, clSpace] ∧ m_parser_reader_call_w_l1 many1 rec_ (x.1) (x.2.1) (x.2.2.1) (x.2.2.2.1) = some r) (fun x _ => x.1) (fun x => [(0, vp b1 0), (6, vp b2 0), (7, vp b3 0), (13, vi many1), (14, vi (x.2.1))]) (fu, 0, s1, (⟨op1, ([] : List UInt8), (⟨0, 0⟩ : GVal), (⟨0, 0, 0, 0, 0⟩ : GType), (⟨0, ([] : List GMono)⟩ : GLin), ([] : List GIndex), ([] : List GExpr)⟩ : GExpr), a6, c10, none, 0, none, 0, none, 0) ⟨_, hI.arr (.c (.s (.s .z)) (.c (.s .z) (.c .z (.c .z (.c (.s .z) (.c .z .n)))))) ⟨.z, (.s (.s .z)), trivial⟩, h⟩ SB ?_
 clear h hI; rintro ⟨fuel1, i1, r3, e1, a7, c13, a8, c14, a9, c15, a10, c16⟩ w5 ⟨c17, hI, h⟩
 dsimp only at hI h
 rcases fuel1 with _ | fuel1
 ·rw [m_parser_reader_call_w_l1] at h; cases h
 rw [m_parser_reader_call_w_l1] at h
 refine c_sub (e := [(0, vp b1 0), (6, vp b2 0), (7, vp b3 0), (13, vi many1), (14, vi i1)]) SB ?_
 refine T ?_
 refine c_seq (cif h et (fun hb h => ?_) (fun hb h => ?_))
 ·refine T ?_
  refine c_seq (T ?_)
  refine c_join (α := Gparser_reader × (Option Addr) × Nat) (fun _ => ⟨32, []⟩) (fun x => [(0, vp b1 0), (6, vp b2 0), (7, vp b3 0), (13, vi many1), (14, vi i1)]) (fun x => fun w => ∃ C, Bun C0 F w0 C w [MO.box b1 67 (Aparser_reader (x.1) (x.2.1) (x.2.2)), MO.box b2 39 #[vi 0, (str ([] : List UInt8)), vi 0, vi 0, vi 0, vi 0, vi 0, vi 0, vi 0, vi 0, vs none 0 0, vs none 0 0, vs none 0 0], MO.box b3 39 (AExpr e1 a8 c14 a9 c15 a10 c16), MO.row cGMono 64 a8 c14 e1.Lin.L, MO.row cGIndex 132 a9 c15 e1.Idx, MO.row cGExpr 39 a10 c16 e1.Args] [Cl.sl cGToken (x.2.1) (x.2.2) (x.1).l, clSpace] ∧ m_parser_reader_call_w_j1 rec_ e1 (m_parser_reader_call_w_l1 many1 rec_ fuel1) i1 (x.1) = some r) ?_ ?_
  ·clear h hI; rintro ⟨r4, a11, c18⟩ w6 ⟨c19, hI, h⟩
   try dsimp only at hI h
   rw [m_parser_reader_call_w_j1] at h
   refine c_sub (e := [(0, vp b1 0), (6, vp b2 0), (7, vp b3 0), (13, vi many1), (14, vi i1)]) SB ?_
   rcases pb_some h with ⟨⟨r5, s2⟩, hx2, h⟩ | ⟨pa_, pn_, hx2, hp_⟩
   rotate_left
   ·subst hp_
    refine c_drawX [3, 5, 7] false (.c (0, .q) (.c (2, .q) (.two 1 (.c (3, .s) tr_parser_reader_call_w_3_0) 3 (.two 1 tr_parser_reader_call_w_3_0 4 (.c (1, .s) tr_parser_reader_call_w_3_1))))) hI (by kernel_rfl) (by kernel_rfl) ?_
    clear hI; intro w13 hI
    refine V ?_
    refine a_two ?_ ?_
    ·skip
     refine a_val rfl gn rfl (y_load1 (v := (vs a10 e1.Args.length c16)) rfl et u37 rfl (CellsAt.of_blk (hI.blk (.s (.s .z))) rfl)) SX.self ?_
     refine a_turn (F := F) (C := c19) rfl rfl ?_
     obtain ⟨c20, f2, hB, hl2, hk2⟩ := hI.hands (.l (.r (.r (.r (.r (.r .n))))))
     refine la_callP rfl gn rfl (r_callF (vs := [vp b1 0]) rfl ok_34 ⟨et, trivial⟩) (Calls.mono (hrec c20 f2 w13 r4 b1 a11 c18 (hB.subs ⟨.z, (.s .z), trivial⟩) _ hx2) ?_)
     intro e_ w_ hq_; obtain ⟨rfl, C_, hB_⟩ := pan_of hq_; obtain ⟨C9_, -, hI_⟩ := hk2 _ _ _ _ hB_; exact .inr ⟨_, rfl, kp_of (.inr ⟨_, _, rfl, rfl, ⟨_, hI_.arr .n trivial⟩⟩)⟩
    refine a_turnT (F := F) (C := c19) rfl rfl ?_
    obtain ⟨c20, f2, hB, hl2, hk2⟩ := hI.hands (.l (.r (.r (.r (.r (.r .n))))))
    refine la_callP rfl gn rfl (r_callF (vs := [vp b1 0]) rfl ok_34 ⟨et, trivial⟩) (Calls.mono (hrec c20 f2 w13 r4 b1 a11 c18 (hB.subs ⟨.z, (.s .z), trivial⟩) _ hx2) ?_)
    intro e_ w_ hq_; obtain ⟨rfl, C_, hB_⟩ := pan_of hq_; obtain ⟨C9_, -, hI_⟩ := hk2 _ _ _ _ hB_; exact .inr ⟨_, rfl, kp_of (.inr ⟨_, _, rfl, rfl, ⟨_, hI_.arr .n trivial⟩⟩)⟩
   try dsimp only at h
   obtain ⟨zs1, hx3, h⟩ := bnd_some h
   refine c_drawX [3, 5, 7] false (.c (0, .q) (.c (2, .q) (.two 1 (.c (3, .s) tr_parser_reader_call_w_3_0) 3 (.two 1 tr_parser_reader_call_w_3_0 4 (.c (1, .s) tr_parser_reader_call_w_3_1))))) hI (by kernel_rfl) (by kernel_rfl) ?_
   clear hI; intro w14 hI
   refine a_join (α := (Option Addr) × Nat × (Option Addr) × Nat × (Option Addr) × Nat × (Option Addr) × Nat × Nat × NP) (T := tr_parser_reader_call_w_3_1) (fun x => [(0, vp b1 0), (6, vp b2 0), (7, vp b3 0), (13, vi many1), (14, vi i1), (21, vp b3 12), (22, vs a10 e1.Args.length c16), (23, vp b1 0), (24, (Value.agg (AExpr r5 (x.1) (x.2.1) (x.2.2.1) (x.2.2.2.1) (x.2.2.2.2.1) (x.2.2.2.2.2.1)))), (25, (vs (some ⟨(x.2.2.2.2.2.2.2.2.1), 0, none⟩) ([r5] : List GExpr).length 1))]) (fun x w => Bun C0 F w0 (x.2.2.2.2.2.2.2.2.2) w [MO.row cGExpr 39 (some ⟨(x.2.2.2.2.2.2.2.2.1), 0, none⟩) 1 ([r5] : List GExpr), MO.box b1 67 (Aparser_reader s2 (x.2.2.2.2.2.2.1) (x.2.2.2.2.2.2.2.1)), MO.box b2 39 #[vi 0, (str ([] : List UInt8)), vi 0, vi 0, vi 0, vi 0, vi 0, vi 0, vi 0, vi 0, vs none 0 0, vs none 0 0, vs none 0 0], MO.box b3 39 (AExpr e1 a8 c14 a9 c15 a10 c16), MO.row cGMono 64 a8 c14 e1.Lin.L, MO.row cGIndex 132 a9 c15 e1.Idx, MO.row cGExpr 39 a10 c16 e1.Args] [Cl.sl cGMono (x.1) (x.2.1) r5.Lin.L, Cl.sl cGIndex (x.2.2.1) (x.2.2.2.1) r5.Idx, Cl.sl cGExpr (x.2.2.2.2.1) (x.2.2.2.2.2.1) r5.Args, Cl.sl cGToken (x.2.2.2.2.2.2.1) (x.2.2.2.2.2.2.2.1) s2.l, Cl.sl cGToken a11 c18 r4.l, clSpace]) (fun x w => SN [] (DM true F (x.2.2.2.2.2.2.2.2.2)) w) ?_ ?_
   ·clear hI; rintro ⟨a12, c21, a13, c22, a14, c23, a15, c24, b4, c32⟩ w12 hI
    try dsimp only at hI ⊢
    unfold tr_parser_reader_call_w_3_1
    refine la_append (xs := e1.Args) (ys := ([r5] : List GExpr)) hI (.s (.s (.s (.s (.s (.s .z)))))) (hI.rd .z) hx3 rfl gn rfl rfl u37 info_39 rfl rfl et et ?_
    clear hI; intro a16 c28 c29 w9 hI
    refine V ?_
    refine la_store (new := [vs a16 zs1.length c28]) (cs' := #[vi e1.Op, (str e1.Name), vi e1.Val.N, vi e1.Val.D, vi e1.Type_.Kind, vi e1.Type_.Bits, vi e1.Type_.Frac, vi e1.Type_.Round, vi e1.Type_.Over, vi e1.Lin.K, vs a8 e1.Lin.L.length c14, vs a9 e1.Idx.length c15, vs a16 zs1.length c28]) hI (.s (.s (.s .z))) rfl gn rfl rfl et et rfl size_37 rfl rfl rfl ?_
    clear hI; intro c30 w10 hI
    refine V ?_
    refine T ?_
    refine s_nil ?_
    exact k_loop (fuel1, wi64 (i1 + 1), s2, (⟨e1.Op, e1.Name, e1.Val, e1.Type_, e1.Lin, e1.Idx, zs1⟩ : GExpr), a15, c24, a8, c14, a9, c15, a16, c28) SB ⟨_, hI.arr GO SU, h⟩ (Nat.lt_succ_self _)
   intro hk_tr_parser_reader_call_w_3_1
   refine a_join (α := (Option Addr) × Nat × (Option Addr) × Nat × (Option Addr) × Nat × (Option Addr) × Nat × NP) (T := tr_parser_reader_call_w_3_0) (fun x => [(0, vp b1 0), (6, vp b2 0), (7, vp b3 0), (13, vi many1), (14, vi i1), (21, vp b3 12), (22, vs a10 e1.Args.length c16), (23, vp b1 0), (24, (Value.agg (AExpr r5 (x.1) (x.2.1) (x.2.2.1) (x.2.2.2.1) (x.2.2.2.2.1) (x.2.2.2.2.2.1))))]) (fun x w => Bun C0 F w0 (x.2.2.2.2.2.2.2.2) w [MO.box b1 67 (Aparser_reader s2 (x.2.2.2.2.2.2.1) (x.2.2.2.2.2.2.2.1)), MO.box b2 39 #[vi 0, (str ([] : List UInt8)), vi 0, vi 0, vi 0, vi 0, vi 0, vi 0, vi 0, vi 0, vs none 0 0, vs none 0 0, vs none 0 0], MO.box b3 39 (AExpr e1 a8 c14 a9 c15 a10 c16), MO.row cGMono 64 a8 c14 e1.Lin.L, MO.row cGIndex 132 a9 c15 e1.Idx, MO.row cGExpr 39 a10 c16 e1.Args] [Cl.sl cGMono (x.1) (x.2.1) r5.Lin.L, Cl.sl cGIndex (x.2.2.1) (x.2.2.2.1) r5.Idx, Cl.sl cGExpr (x.2.2.2.2.1) (x.2.2.2.2.2.1) r5.Args, Cl.sl cGToken (x.2.2.2.2.2.2.1) (x.2.2.2.2.2.2.2.1) s2.l, Cl.sl cGToken a11 c18 r4.l, clSpace]) (fun x w => SN [] (DM true F (x.2.2.2.2.2.2.2.2)) w) ?_ ?_
   ·clear hI; rintro ⟨a12, c21, a13, c22, a14, c23, a15, c24, c31⟩ w11 hI
    try dsimp only at hI ⊢
    unfold tr_parser_reader_call_w_3_0
    refine la_lit (c := cGExpr) (xs := ([r5] : List GExpr)) (vs := [(0, (Value.agg (AExpr r5 a12 c21 a13 c22 a14 c23)))]) (cs := (AExpr r5 a12 c21 a13 c22 a14 c23)) (css := [(lExpr r5 a12 c21 a13 c22 a14 c23)]) hI rfl gn rfl rfl u37 info_39 rfl ⟨rfl, et, trivial⟩ (by kernel_rfl) ⟨(cGExpr_in ⟨a12, c21, a13, c22, a14, c23, rfl, hI.get .z, hI.get (.s .z), hI.get (.s (.s .z))⟩), trivial⟩ rfl rfl rfl ?_
    clear hI; intro b4 c27 w8 hI
    exact a_sub (hk_tr_parser_reader_call_w_3_1 (a12, c21, a13, c22, a14, c23, a15, c24, b4, c27) _ (hI.arr GO SU)) SB
   intro hk_tr_parser_reader_call_w_3_0
   refine V ?_
   refine a_two ?_ ?_
   ·skip
    refine a_val rfl gn rfl (y_load1 (v := (vs a10 e1.Args.length c16)) rfl et u37 rfl (CellsAt.of_blk (hI.blk (.s (.s .z))) rfl)) SX.self ?_
    refine a_turn (F := F) (C := c19) rfl rfl ?_
    obtain ⟨c20, f2, hB, hl2, hk2⟩ := hI.hands (.l (.r (.r (.r (.r (.r .n))))))
    refine la_callX rfl gn rfl (r_callF (vs := [vp b1 0]) rfl ok_34 ⟨et, trivial⟩) (Calls.mono (hrec c20 f2 w14 r4 b1 a11 c18 (hB.subs ⟨.z, (.s .z), trivial⟩) _ hx2) ?_)
    intro e_ w7 hq_; obtain ⟨a12, c21, a13, c22, a14, c23, a15, c24, c25, rfl, hB2⟩ := ret_of hq_
    obtain ⟨c26, hs2, hI⟩ := hk2 _ _ _ _ hB2
    dsimp only [ca, na] at hI
    refine ⟨_, rfl, DM true F c26, hs2, ?_⟩
    exact a_sub (hk_tr_parser_reader_call_w_3_0 (a12, c21, a13, c22, a14, c23, a15, c24, c26) _ (hI.arr GO SU)) SB
   refine a_turnT (F := F) (C := c19) rfl rfl ?_
   obtain ⟨c20, f2, hB, hl2, hk2⟩ := hI.hands (.l (.r (.r (.r (.r (.r .n))))))
   refine la_callX rfl gn rfl (r_callF (vs := [vp b1 0]) rfl ok_34 ⟨et, trivial⟩) (Calls.mono (hrec c20 f2 w14 r4 b1 a11 c18 (hB.subs ⟨.z, (.s .z), trivial⟩) _ hx2) ?_)
   intro e_ w7 hq_; obtain ⟨a12, c21, a13, c22, a14, c23, a15, c24, c25, rfl, hB2⟩ := ret_of hq_
   obtain ⟨c26, hs2, hI⟩ := hk2 _ _ _ _ hB2
   dsimp only [ca, na] at hI
   refine ⟨_, rfl, DM true F c26, hs2, ?_⟩
   refine a_two ?_ ?_
   ·skip
    refine a_val rfl gn rfl (y_load1 (v := (vs a10 e1.Args.length c16)) rfl et u37 rfl (CellsAt.of_blk (hI.blk (.s (.s .z))) rfl)) SX.self ?_
    exact a_sub (hk_tr_parser_reader_call_w_3_0 (a12, c21, a13, c22, a14, c23, a15, c24, c26) _ (hI.arr GO SU)) SB
   refine la_lit (c := cGExpr) (xs := ([r5] : List GExpr)) (vs := [(0, (Value.agg (AExpr r5 a12 c21 a13 c22 a14 c23)))]) (cs := (AExpr r5 a12 c21 a13 c22 a14 c23)) (css := [(lExpr r5 a12 c21 a13 c22 a14 c23)]) hI rfl gn rfl rfl u37 info_39 rfl ⟨rfl, et, trivial⟩ (by kernel_rfl) ⟨(cGExpr_in ⟨a12, c21, a13, c22, a14, c23, rfl, hI.get .z, hI.get (.s .z), hI.get (.s (.s .z))⟩), trivial⟩ rfl rfl rfl ?_
   clear hI; intro b4 c27 w8 hI
   refine a_val rfl gn rfl (y_load1 (v := (vs a10 e1.Args.length c16)) rfl et u37 rfl (CellsAt.of_blk (hI.blk (.s (.s (.s .z)))) rfl)) SX.self ?_
   exact a_sub (hk_tr_parser_reader_call_w_3_1 (a12, c21, a13, c22, a14, c23, a15, c24, b4, c27) _ (hI.arr GO SU)) SB
  refine T ?_
  refine cif h et (fun hb h => ?_) (fun hb h => ?_)
  ·refine T ?_
   obtain ⟨c33, f3, hB, hl3, hk3⟩ := hI.hands (.r (.r (.r (.l (.r (.r .n))))))
   refine s_pb h (fun _ hx4 => c_parser_reader_expect_w c33 f3 w5 r3 ([44] : List UInt8) b1 a7 c13 (hB.subs ⟨.z, trivial⟩) _ hx4) (pnb hk3) (r_callF rfl ok_104 ⟨et, ⟨ev_const, trivial⟩⟩) ?_
   rintro ⟨r6, s3⟩ hx4 h _ w15 ⟨a17, c34, c35, rfl, hB2⟩
   try dsimp only at h
   obtain ⟨c36, hs3, hI⟩ := hk3 _ _ _ _ hB2
   dsimp only [ca, na] at hI
   refine ⟨_, rfl, ?_⟩
   refine s_nil ?_
   exact k_join (s3, a17, c34) SB ⟨_, hI.arr GO SU, h⟩ rfl
  exact c_skip (k_join (r3, a7, c13) SB ⟨_, hI.arr GO SU, h⟩ rfl)
 refine c_exit ?_
 refine k_in ?_
 refine k_same ?_
 refine T ?_
 obtain ⟨c37, f4, hB, hl4, hk4⟩ := hI.hands (.r (.r (.r (.l (.r (.r .n))))))
 refine s_pb h (fun _ hx5 => c_parser_reader_close_w c37 f4 w5 r3 b1 a7 c13 (hB.subs ⟨.z, trivial⟩) _ hx5) (pnb hk4) (r_callF rfl ok_254 ⟨et, trivial⟩) ?_
 rintro ⟨r7, s4⟩ hx5 h _ w16 ⟨a18, c38, c39, rfl, hB2⟩
 try dsimp only at h
 obtain ⟨c40, hs4, hI⟩ := hk4 _ _ _ _ hB2
 dsimp only [ca, na] at hI
 refine ⟨_, rfl, ?_⟩
 refine T ?_
 refine l_store (new := (lExpr e1 a8 c14 a9 c15 a10 c16)) (cs' := (AExpr e1 a8 c14 a9 c15 a10 c16)) hI (.s (.s (.s (.s .z)))) gn rfl rfl et et rfl size_39 rfl rfl rfl ?_
 clear hI; intro c41 w17 hI
 refine nk (c_ret ?_)
 obtain ⟨c42, hI⟩ := hI.release (.s .z)
 obtain ⟨c43, hI⟩ := hI.release (.s .z)
 obtain ⟨c44, hI⟩ := hI.release (.s .z)
 obtain rfl := some_inj h
 refine QG ?_
 exact .inl ⟨_, rfl, a8, c14, a9, c15, a10, c16, a18, c38, _, rfl, hI.arr GO SU⟩
def tr_parser_reader_cast_w_1_6 : Tr := (.c (6, .s) .n)
def tr_parser_reader_cast_w_1_5 : Tr := (.c (5, .s) tr_parser_reader_cast_w_1_6)
def tr_parser_reader_cast_w_1_4 : Tr := (.c (0, .s) (.c (4, .q) tr_parser_reader_cast_w_1_6))
def tr_parser_reader_cast_w_1_3 : Tr := (.c (3, .s) (.c (4, .q) tr_parser_reader_cast_w_1_6))
def tr_parser_reader_cast_w_1_2 : Tr := (.two 0 tr_parser_reader_cast_w_1_3 3 tr_parser_reader_cast_w_1_4)
def tr_parser_reader_cast_w_1_1 : Tr := (.c (2, .s) tr_parser_reader_cast_w_1_3)
def tr_parser_reader_cast_w_1_0 : Tr := (.two 3 (.c (4, .q) tr_parser_reader_cast_w_1_5) 5 tr_parser_reader_cast_w_1_3)
theorem c_parser_reader_cast_w (rec_ : (Gparser_reader → Option (Pan (GExpr × Gparser_reader)))) (hrec : ∀ (C0 F : NP) (w0 : World) (r1 : Gparser_reader) (b1 : Nat) (a1 : Option Addr) (c1 : Nat) (hI : Bun C0 F w0 C0 w0 [MO.box b1 67 (Aparser_reader r1 a1 c1)] [Cl.sl cGToken a1 c1 r1.l, clSpace]) (r : Pan (GExpr × Gparser_reader)) (h : rec_ r1 = some r), Calls Tryz.prog 34 #[vp b1 0] w0 fun e w => (∃ rx : GExpr × Gparser_reader, r = .ret rx ∧ ∃ (a2 : Option Addr) (c2 : Nat) (a3 : Option Addr) (c3 : Nat) (a4 : Option Addr) (c4 : Nat) (a5 : Option Addr) (c5 : Nat) (C : NP), e = .returned (Value.agg (AExpr rx.1 a2 c2 a3 c3 a4 c4)) ∧ Bun C0 F w0 C w [MO.box b1 67 (Aparser_reader rx.2 a5 c5)] [Cl.sl cGMono a2 c2 rx.1.Lin.L, Cl.sl cGIndex a3 c3 rx.1.Idx, Cl.sl cGExpr a4 c4 rx.1.Args, Cl.sl cGToken a5 c5 rx.2.l]) ∨ ∃ (pa pn : Int), r = .pan pa pn ∧ e = .panicked [pe 114 pa pn] ∧ ∃ C : NP, Bun C0 F w0 C w [] []) (C0 F : NP) (w0 : World) (r1 : Gparser_reader) (b1 : Nat) (a1 : Option Addr) (c1 : Nat) (hI : Bun C0 F w0 C0 w0 [MO.box b1 67 (Aparser_reader r1 a1 c1)] [Cl.sl cGToken a1 c1 r1.l, clSpace]) (r : Pan (GExpr × Gparser_reader))
  (h : m_parser_reader_cast_w rec_ r1 = some r) :
  Calls Tryz.prog 257 #[vp b1 0] w0 fun e w => (∃ rx : GExpr × Gparser_reader, r = .ret rx ∧ ∃ (a2 : Option Addr) (c2 : Nat) (a3 : Option Addr) (c3 : Nat) (a4 : Option Addr) (c4 : Nat) (a5 : Option Addr) (c5 : Nat) (C : NP), e = .returned (Value.agg (AExpr rx.1 a2 c2 a3 c3 a4 c4)) ∧ Bun C0 F w0 C w [MO.box b1 67 (Aparser_reader rx.2 a5 c5)] [Cl.sl cGMono a2 c2 rx.1.Lin.L, Cl.sl cGIndex a3 c3 rx.1.Idx, Cl.sl cGExpr a4 c4 rx.1.Args, Cl.sl cGToken a5 c5 rx.2.l]) ∨ ∃ (pa pn : Int), r = .pan pa pn ∧ e = .panicked [pe 114 pa pn] ∧ ∃ C : NP, Bun C0 F w0 C w [] [] := by
 refine enterP (l := [vp b1 0]) Tryz.func257 rfl Tryz.ntmps257 rfl ?_
 rw [m_parser_reader_cast_w] at h
 refine sr (l_alloc (cs := #[vi 0, (str ([] : List UInt8)), vi 0, vi 0, vi 0, vi 0, vi 0, vi 0, vi 0, vi 0, vs none 0 0, vs none 0 0, vs none 0 0]) hI gn rfl rfl zero_39 rfl ?_)
 clear hI; intro b2 c6 w1 hI
 refine T ?_
 obtain ⟨c7, f1, hB, hl1, hk1⟩ := hI.hands (.r (.l .n))
 refine s_pb h (fun _ hx1 => c_parser_reader_open_w c7 f1 w1 r1 b1 a1 c1 (hB.subs ⟨.z, trivial⟩) _ hx1) (pnb hk1) (r_callF rfl ok_253 ⟨et, trivial⟩) ?_
 rintro ⟨r2, s1⟩ hx1 h _ w2 ⟨a6, c8, c9, rfl, hB2⟩
 try dsimp only at h
 obtain ⟨c10, hs1, hI⟩ := hk1 _ _ _ _ hB2
 dsimp only [ca, na] at hI
 refine ⟨_, rfl, ?_⟩
 refine T ?_
 obtain ⟨c11, f2, hB, hl2, hk2⟩ := hI.hands (.l (.r .n))
 refine s_pb h (fun _ hx2 => c_parser_reader_typ_w c11 f2 w2 s1 b1 a6 c8 (hB.subs ⟨.z, trivial⟩) _ hx2) (pnb hk2) (r_callF rfl ok_174 ⟨et, trivial⟩) ?_
 rintro ⟨r3, s2⟩ hx2 h _ w3 ⟨a7, c12, c13, rfl, hB2⟩
 try dsimp only at h
 obtain ⟨c14, hs2, hI⟩ := hk2 _ _ _ _ hB2
 dsimp only [ca, na] at hI
 refine ⟨_, rfl, ?_⟩
 refine l_alloc (cs := ZType) hI gn rfl rfl zero_35 rfl ?_
 clear hI; intro b3 c15 w4 hI
 refine l_store (new := (lType r3)) (cs' := (AType r3)) hI .z gn rfl rfl et et rfl size_35 rfl rfl rfl ?_
 clear hI; intro c16 w5 hI
 refine T ?_
 obtain ⟨c17, f3, hB, hl3, hk3⟩ := hI.hands (.r (.l (.r .n)))
 refine s_pb h (fun _ hx3 => c_parser_reader_expect_w c17 f3 w5 s2 ([44] : List UInt8) b1 a7 c12 (hB.subs ⟨.z, trivial⟩) _ hx3) (pnb hk3) (r_callF rfl ok_104 ⟨et, ⟨ev_const, trivial⟩⟩) ?_
 rintro ⟨r4, s3⟩ hx3 h _ w6 ⟨a8, c18, c19, rfl, hB2⟩
 try dsimp only at h
 obtain ⟨c20, hs3, hI⟩ := hk3 _ _ _ _ hB2
 dsimp only [ca, na] at hI
 refine ⟨_, rfl, ?_⟩
 refine nk (c_seq ?_)
 rcases pb_some h with ⟨⟨r5, s4⟩, hx4, h⟩ | ⟨pa_, pn_, hx4, hp_⟩
 rotate_left
 ·subst hp_
  refine c_drawX [2, 6] false (.c (1, .q) (.three 0 (.two 2 tr_parser_reader_cast_w_1_0 5 tr_parser_reader_cast_w_1_1) 2 (.three 0 tr_parser_reader_cast_w_1_0 3 (.two 0 (.c (4, .q) tr_parser_reader_cast_w_1_5) 5 tr_parser_reader_cast_w_1_4) 5 tr_parser_reader_cast_w_1_2) 5 (.two 0 tr_parser_reader_cast_w_1_1 2 tr_parser_reader_cast_w_1_2))) hI (by kernel_rfl) (by kernel_rfl) ?_
  clear hI; intro w18 hI
  refine a_join (α := Nat × NP) (T := tr_parser_reader_cast_w_1_1) (fun x => [(0, vp b1 0), (2, vp b2 0), (3, vp b3 0), (4, (Value.pointer (some ⟨(x.1), 0, none⟩))), (5, vp b1 0), (6, (Value.tuple #[])), (7, vp b1 0), (8, (Value.agg (AType r3))), (9, vp b1 0), (10, (Value.tuple #[])), (11, (Value.agg (AType r3))), (12, vp b1 0)]) (fun x w => Bun C0 F w0 (x.2) w [MO.box (x.1) 39 #[vi 0, (str ([] : List UInt8)), vi 0, vi 0, vi 0, vi 0, vi 0, vi 0, vi 0, vi 0, vs none 0 0, vs none 0 0, vs none 0 0], MO.box b1 67 (Aparser_reader s3 a8 c18), MO.box b3 35 (AType r3), MO.box b2 39 #[vi 0, (str ([] : List UInt8)), vi 0, vi 0, vi 0, vi 0, vi 0, vi 0, vi 0, vi 0, vs none 0 0, vs none 0 0, vs none 0 0]] [Cl.sl cGToken a8 c18 s3.l, Cl.sl cGToken a7 c12 s2.l, Cl.sl cGToken a6 c8 s1.l, Cl.sl cGToken a1 c1 r1.l, clSpace]) (fun x w => SN [2, 6] (DM false F (x.2)) w) ?_ ?_
  ·clear hI; rintro ⟨b5, c32⟩ w12 hI
   try dsimp only at hI ⊢
   unfold tr_parser_reader_cast_w_1_1
   refine a_turn (F := F) (C := c32) rfl rfl ?_
   obtain ⟨c21, f4, hB, hl4, hk4⟩ := hI.hands (.r (.l (.r (.r .n))))
   refine la_callP rfl gn rfl (r_callF (vs := [vp b1 0]) rfl ok_34 ⟨et, trivial⟩) (Calls.mono (hrec c21 f4 w12 s3 b1 a8 c18 (hB.subs ⟨.z, (.s (.s (.s (.s .z)))), trivial⟩) _ hx4) ?_)
   intro e_ w_ hq_; obtain ⟨rfl, C_, hB_⟩ := pan_of hq_; obtain ⟨C9_, -, hI_⟩ := hk4 _ _ _ _ hB_; exact .inr ⟨_, rfl, kp_of (.inr ⟨_, _, rfl, rfl, ⟨_, hI_.arr .n trivial⟩⟩)⟩
  intro hk_tr_parser_reader_cast_w_1_1
  refine V ?_
  refine a_three ?_ ?_ ?_
  ·skip
   refine a_val rfl gn rfl (y_loadN (l := (lType r3)) rfl et u35 rfl size_35 (CellsAt.of_blk (hI.blk (.s .z)) rfl)) SX.self ?_
   refine a_two ?_ ?_
   ·skip
    refine a_turnT (F := F) (C := c20) rfl rfl ?_
    obtain ⟨c21, f4, hB, hl4, hk4⟩ := hI.hands (.l (.r (.r .n)))
    refine la_callP rfl gn rfl (r_callF (vs := [vp b1 0]) rfl ok_34 ⟨et, trivial⟩) (Calls.mono (hrec c21 f4 w18 s3 b1 a8 c18 (hB.subs ⟨.z, (.s (.s (.s (.s .z)))), trivial⟩) _ hx4) ?_)
    intro e_ w_ hq_; obtain ⟨rfl, C_, hB_⟩ := pan_of hq_; obtain ⟨C9_, -, hI_⟩ := hk4 _ _ _ _ hB_; exact .inr ⟨_, rfl, kp_of (.inr ⟨_, _, rfl, rfl, ⟨_, hI_.arr .n trivial⟩⟩)⟩
   refine la_alloc (cs := #[vi 0, (str ([] : List UInt8)), vi 0, vi 0, vi 0, vi 0, vi 0, vi 0, vi 0, vi 0, vs none 0 0, vs none 0 0, vs none 0 0]) hI rfl gn rfl rfl zero_39 rfl ?_
   clear hI; intro b5 c29 w9 hI
   exact a_sub (hk_tr_parser_reader_cast_w_1_1 (b5, c29) _ (hI.arr GO SU)) SB
  ·skip
   refine a_turnT (F := F) (C := c20) rfl rfl ?_
   obtain ⟨c21, f4, hB, hl4, hk4⟩ := hI.hands (.l (.r (.r .n)))
   refine la_callP rfl gn rfl (r_callF (vs := [vp b1 0]) rfl ok_34 ⟨et, trivial⟩) (Calls.mono (hrec c21 f4 w18 s3 b1 a8 c18 (hB.subs ⟨.z, (.s (.s (.s (.s .z)))), trivial⟩) _ hx4) ?_)
   intro e_ w_ hq_; obtain ⟨rfl, C_, hB_⟩ := pan_of hq_; obtain ⟨C9_, -, hI_⟩ := hk4 _ _ _ _ hB_; exact .inr ⟨_, rfl, kp_of (.inr ⟨_, _, rfl, rfl, ⟨_, hI_.arr .n trivial⟩⟩)⟩
  refine la_alloc (cs := #[vi 0, (str ([] : List UInt8)), vi 0, vi 0, vi 0, vi 0, vi 0, vi 0, vi 0, vi 0, vs none 0 0, vs none 0 0, vs none 0 0]) hI rfl gn rfl rfl zero_39 rfl ?_
  clear hI; intro b5 c29 w9 hI
  refine a_two ?_ ?_
  ·skip
   refine a_val rfl gn rfl (y_loadN (l := (lType r3)) rfl et u35 rfl size_35 (CellsAt.of_blk (hI.blk (.s (.s .z))) rfl)) SX.self ?_
   exact a_sub (hk_tr_parser_reader_cast_w_1_1 (b5, c29) _ (hI.arr GO SU)) SB
  refine a_turnT (F := F) (C := c29) rfl rfl ?_
  obtain ⟨c21, f4, hB, hl4, hk4⟩ := hI.hands (.r (.l (.r (.r .n))))
  refine la_callP rfl gn rfl (r_callF (vs := [vp b1 0]) rfl ok_34 ⟨et, trivial⟩) (Calls.mono (hrec c21 f4 w9 s3 b1 a8 c18 (hB.subs ⟨.z, (.s (.s (.s (.s .z)))), trivial⟩) _ hx4) ?_)
  intro e_ w_ hq_; obtain ⟨rfl, C_, hB_⟩ := pan_of hq_; obtain ⟨C9_, -, hI_⟩ := hk4 _ _ _ _ hB_; exact .inr ⟨_, rfl, kp_of (.inr ⟨_, _, rfl, rfl, ⟨_, hI_.arr .n trivial⟩⟩)⟩
 try dsimp only at h
 refine c_drawX [2, 6] false (.c (1, .q) (.three 0 (.two 2 tr_parser_reader_cast_w_1_0 5 tr_parser_reader_cast_w_1_1) 2 (.three 0 tr_parser_reader_cast_w_1_0 3 (.two 0 (.c (4, .q) tr_parser_reader_cast_w_1_5) 5 tr_parser_reader_cast_w_1_4) 5 tr_parser_reader_cast_w_1_2) 5 (.two 0 tr_parser_reader_cast_w_1_1 2 tr_parser_reader_cast_w_1_2))) hI (by kernel_rfl) (by kernel_rfl) ?_
 clear hI; intro w19 hI
 refine a_join (α := (Option Addr) × Nat × (Option Addr) × Nat × (Option Addr) × Nat × (Option Addr) × Nat × Nat × Nat × NP) (T := tr_parser_reader_cast_w_1_6) (fun x => [(0, vp b1 0), (2, vp b2 0), (3, vp b3 0), (4, (Value.pointer (some ⟨(x.2.2.2.2.2.2.2.2.2.1), 0, none⟩))), (5, vp b1 0), (6, (Value.tuple #[])), (7, vp b1 0), (8, (Value.agg (AType r3))), (9, vp b1 0), (10, (Value.tuple #[])), (11, (Value.agg (AType r3))), (12, vp b1 0), (13, (Value.agg (AExpr r5 (x.1) (x.2.1) (x.2.2.1) (x.2.2.2.1) (x.2.2.2.2.1) (x.2.2.2.2.2.1)))), (14, (vs (some ⟨(x.2.2.2.2.2.2.2.2.1), 0, none⟩) ([r5] : List GExpr).length 1)), (15, (Value.agg #[vi 12, (str ([] : List UInt8)), vi 0, vi 0, vi r3.Kind, vi r3.Bits, vi r3.Frac, vi r3.Round, vi r3.Over, vi 0, vs none 0 0, vs none 0 0, (vs (some ⟨(x.2.2.2.2.2.2.2.2.1), 0, none⟩) ([r5] : List GExpr).length 1)]))]) (fun x w => Bun C0 F w0 (x.2.2.2.2.2.2.2.2.2.2) w [MO.row cGExpr 39 (some ⟨(x.2.2.2.2.2.2.2.2.1), 0, none⟩) 1 ([r5] : List GExpr), MO.box (x.2.2.2.2.2.2.2.2.2.1) 39 #[vi 0, (str ([] : List UInt8)), vi 0, vi 0, vi 0, vi 0, vi 0, vi 0, vi 0, vi 0, vs none 0 0, vs none 0 0, vs none 0 0], MO.box b1 67 (Aparser_reader s4 (x.2.2.2.2.2.2.1) (x.2.2.2.2.2.2.2.1)), MO.box b3 35 (AType r3), MO.box b2 39 #[vi 0, (str ([] : List UInt8)), vi 0, vi 0, vi 0, vi 0, vi 0, vi 0, vi 0, vi 0, vs none 0 0, vs none 0 0, vs none 0 0]] [Cl.sl cGMono (x.1) (x.2.1) r5.Lin.L, Cl.sl cGIndex (x.2.2.1) (x.2.2.2.1) r5.Idx, Cl.sl cGExpr (x.2.2.2.2.1) (x.2.2.2.2.2.1) r5.Args, Cl.sl cGToken (x.2.2.2.2.2.2.1) (x.2.2.2.2.2.2.2.1) s4.l, Cl.sl cGToken a8 c18 s3.l, Cl.sl cGToken a7 c12 s2.l, Cl.sl cGToken a6 c8 s1.l, Cl.sl cGToken a1 c1 r1.l, clSpace]) (fun x w => SN [] (DM true F (x.2.2.2.2.2.2.2.2.2.2)) w) ?_ ?_
 ·clear hI; rintro ⟨a9, c22, a10, c23, a11, c24, a12, c25, b4, b5, c37⟩ w17 hI
  try dsimp only at hI ⊢
  unfold tr_parser_reader_cast_w_1_6
  refine la_store (new := [vi 12, (str ([] : List UInt8)), vi 0, vi 0, vi r3.Kind, vi r3.Bits, vi r3.Frac, vi r3.Round, vi r3.Over, vi 0, vs none 0 0, vs none 0 0, vs (some ⟨b4, 0, none⟩) ([r5] : List GExpr).length 1]) (cs' := #[vi 12, (str ([] : List UInt8)), vi 0, vi 0, vi r3.Kind, vi r3.Bits, vi r3.Frac, vi r3.Round, vi r3.Over, vi 0, vs none 0 0, vs none 0 0, vs (some ⟨b4, 0, none⟩) ([r5] : List GExpr).length 1]) hI (.s .z) rfl gn rfl rfl et et rfl size_39 rfl rfl rfl ?_
  clear hI; intro c30 w10 hI
  refine V ?_
  refine T ?_
  obtain ⟨c38, f5, hB, hl5, hk5⟩ := hI.hands (.r (.r (.l (.r (.r .n)))))
  refine s_pb h (fun _ hx5 => c_parser_reader_close_w c38 f5 w10 s4 b1 a12 c25 (hB.subs ⟨(.s (.s (.s .z))), trivial⟩) _ hx5) (pnb hk5) (r_callF rfl ok_254 ⟨et, trivial⟩) ?_
  rintro ⟨r6, s5⟩ hx5 h _ w20 ⟨a13, c39, c40, rfl, hB2⟩
  try dsimp only at h
  obtain ⟨c41, hs5, hI⟩ := hk5 _ _ _ _ hB2
  dsimp only [ca, na] at hI
  refine ⟨_, rfl, ?_⟩
  refine T ?_
  refine l_store (new := [vi 12, (str ([] : List UInt8)), vi 0, vi 0, vi r3.Kind, vi r3.Bits, vi r3.Frac, vi r3.Round, vi r3.Over, vi 0, vs none 0 0, vs none 0 0, vs (some ⟨b4, 0, none⟩) ([r5] : List GExpr).length 1]) (cs' := #[vi 12, (str ([] : List UInt8)), vi 0, vi 0, vi r3.Kind, vi r3.Bits, vi r3.Frac, vi r3.Round, vi r3.Over, vi 0, vs none 0 0, vs none 0 0, vs (some ⟨b4, 0, none⟩) ([r5] : List GExpr).length 1]) hI (.s (.s (.s (.s .z)))) gn rfl rfl et et rfl size_39 rfl rfl rfl ?_
  clear hI; intro c42 w21 hI
  refine nk (c_ret ?_)
  obtain ⟨c43, hI⟩ := hI.release (.s .z)
  have hI := hI.add (c := Cl.sl cGMono none 0 ([] : List GMono)) SlC.nil
  have hI := hI.add (c := Cl.sl cGIndex none 0 ([] : List GIndex)) SlC.nil
  obtain rfl := some_inj h
  refine QG ?_
  exact .inl ⟨_, rfl, none, 0, none, 0, some ⟨b4, 0, none⟩, 1, a13, c39, _, rfl, hI.arr GO SU⟩
 intro hk_tr_parser_reader_cast_w_1_6
 refine a_join (α := (Option Addr) × Nat × (Option Addr) × Nat × (Option Addr) × Nat × (Option Addr) × Nat × Nat × NP) (T := tr_parser_reader_cast_w_1_5) (fun x => [(0, vp b1 0), (2, vp b2 0), (3, vp b3 0), (5, vp b1 0), (6, (Value.tuple #[])), (7, vp b1 0), (8, (Value.agg (AType r3))), (9, vp b1 0), (10, (Value.tuple #[])), (11, (Value.agg (AType r3))), (12, vp b1 0), (13, (Value.agg (AExpr r5 (x.1) (x.2.1) (x.2.2.1) (x.2.2.2.1) (x.2.2.2.2.1) (x.2.2.2.2.2.1)))), (14, (vs (some ⟨(x.2.2.2.2.2.2.2.2.1), 0, none⟩) ([r5] : List GExpr).length 1)), (15, (Value.agg #[vi 12, (str ([] : List UInt8)), vi 0, vi 0, vi r3.Kind, vi r3.Bits, vi r3.Frac, vi r3.Round, vi r3.Over, vi 0, vs none 0 0, vs none 0 0, (vs (some ⟨(x.2.2.2.2.2.2.2.2.1), 0, none⟩) ([r5] : List GExpr).length 1)]))]) (fun x w => Bun C0 F w0 (x.2.2.2.2.2.2.2.2.2) w [MO.row cGExpr 39 (some ⟨(x.2.2.2.2.2.2.2.2.1), 0, none⟩) 1 ([r5] : List GExpr), MO.box b1 67 (Aparser_reader s4 (x.2.2.2.2.2.2.1) (x.2.2.2.2.2.2.2.1)), MO.box b3 35 (AType r3), MO.box b2 39 #[vi 0, (str ([] : List UInt8)), vi 0, vi 0, vi 0, vi 0, vi 0, vi 0, vi 0, vi 0, vs none 0 0, vs none 0 0, vs none 0 0]] [Cl.sl cGMono (x.1) (x.2.1) r5.Lin.L, Cl.sl cGIndex (x.2.2.1) (x.2.2.2.1) r5.Idx, Cl.sl cGExpr (x.2.2.2.2.1) (x.2.2.2.2.2.1) r5.Args, Cl.sl cGToken (x.2.2.2.2.2.2.1) (x.2.2.2.2.2.2.2.1) s4.l, Cl.sl cGToken a8 c18 s3.l, Cl.sl cGToken a7 c12 s2.l, Cl.sl cGToken a6 c8 s1.l, Cl.sl cGToken a1 c1 r1.l, clSpace]) (fun x w => SN [] (DM true F (x.2.2.2.2.2.2.2.2.2)) w) ?_ ?_
 ·clear hI; rintro ⟨a9, c22, a10, c23, a11, c24, a12, c25, b4, c36⟩ w16 hI
  try dsimp only at hI ⊢
  unfold tr_parser_reader_cast_w_1_5
  refine la_alloc (cs := #[vi 0, (str ([] : List UInt8)), vi 0, vi 0, vi 0, vi 0, vi 0, vi 0, vi 0, vi 0, vs none 0 0, vs none 0 0, vs none 0 0]) hI rfl gn rfl rfl zero_39 rfl ?_
  clear hI; intro b5 c29 w9 hI
  exact a_sub (hk_tr_parser_reader_cast_w_1_6 (a9, c22, a10, c23, a11, c24, a12, c25, b4, b5, c29) _ (hI.arr GO SU)) SB
 intro hk_tr_parser_reader_cast_w_1_5
 refine a_join (α := (Option Addr) × Nat × (Option Addr) × Nat × (Option Addr) × Nat × (Option Addr) × Nat × Nat × Nat × NP) (T := tr_parser_reader_cast_w_1_4) (fun x => [(0, vp b1 0), (2, vp b2 0), (3, vp b3 0), (4, (Value.pointer (some ⟨(x.2.2.2.2.2.2.2.2.2.1), 0, none⟩))), (5, vp b1 0), (6, (Value.tuple #[])), (7, vp b1 0), (8, (Value.agg (AType r3))), (9, vp b1 0), (10, (Value.tuple #[])), (12, vp b1 0), (13, (Value.agg (AExpr r5 (x.1) (x.2.1) (x.2.2.1) (x.2.2.2.1) (x.2.2.2.2.1) (x.2.2.2.2.2.1)))), (14, (vs (some ⟨(x.2.2.2.2.2.2.2.2.1), 0, none⟩) ([r5] : List GExpr).length 1))]) (fun x w => Bun C0 F w0 (x.2.2.2.2.2.2.2.2.2.2) w [MO.box (x.2.2.2.2.2.2.2.2.2.1) 39 #[vi 0, (str ([] : List UInt8)), vi 0, vi 0, vi 0, vi 0, vi 0, vi 0, vi 0, vi 0, vs none 0 0, vs none 0 0, vs none 0 0], MO.row cGExpr 39 (some ⟨(x.2.2.2.2.2.2.2.2.1), 0, none⟩) 1 ([r5] : List GExpr), MO.box b1 67 (Aparser_reader s4 (x.2.2.2.2.2.2.1) (x.2.2.2.2.2.2.2.1)), MO.box b3 35 (AType r3), MO.box b2 39 #[vi 0, (str ([] : List UInt8)), vi 0, vi 0, vi 0, vi 0, vi 0, vi 0, vi 0, vi 0, vs none 0 0, vs none 0 0, vs none 0 0]] [Cl.sl cGMono (x.1) (x.2.1) r5.Lin.L, Cl.sl cGIndex (x.2.2.1) (x.2.2.2.1) r5.Idx, Cl.sl cGExpr (x.2.2.2.2.1) (x.2.2.2.2.2.1) r5.Args, Cl.sl cGToken (x.2.2.2.2.2.2.1) (x.2.2.2.2.2.2.2.1) s4.l, Cl.sl cGToken a8 c18 s3.l, Cl.sl cGToken a7 c12 s2.l, Cl.sl cGToken a6 c8 s1.l, Cl.sl cGToken a1 c1 r1.l, clSpace]) (fun x w => SN [] (DM true F (x.2.2.2.2.2.2.2.2.2.2)) w) ?_ ?_
 ·clear hI; rintro ⟨a9, c22, a10, c23, a11, c24, a12, c25, b4, b5, c35⟩ w15 hI
  try dsimp only at hI ⊢
  unfold tr_parser_reader_cast_w_1_4
  refine a_val rfl gn rfl (y_loadN (l := (lType r3)) rfl et u35 rfl size_35 (CellsAt.of_blk (hI.blk (.s (.s (.s .z)))) rfl)) SX.self ?_
  refine a_q rfl gn rfl (fun w' => (y_build (vs := [(0, vi 12), (3, (Value.agg (AType r3))), (6, vs (some ⟨b4, 0, none⟩) ([r5] : List GExpr).length 1)]) (cs := #[vi 12, (str ([] : List UInt8)), vi 0, vi 0, vi r3.Kind, vi r3.Bits, vi r3.Frac, vi r3.Round, vi r3.Over, vi 0, vs none 0 0, vs none 0 0, vs (some ⟨b4, 0, none⟩) ([r5] : List GExpr).length 1]) rfl ⟨rfl, ev_const, ⟨rfl, et, ⟨rfl, et, trivial⟩⟩⟩ (by kernel_rfl))) ?_
  exact a_sub (hk_tr_parser_reader_cast_w_1_6 (a9, c22, a10, c23, a11, c24, a12, c25, b4, b5, c35) _ (hI.arr GO SU)) SB
 intro hk_tr_parser_reader_cast_w_1_4
 refine a_join (α := (Option Addr) × Nat × (Option Addr) × Nat × (Option Addr) × Nat × (Option Addr) × Nat × Nat × NP) (T := tr_parser_reader_cast_w_1_3) (fun x => [(0, vp b1 0), (2, vp b2 0), (3, vp b3 0), (4, (Value.pointer (some ⟨(x.2.2.2.2.2.2.2.2.1), 0, none⟩))), (5, vp b1 0), (6, (Value.tuple #[])), (7, vp b1 0), (8, (Value.agg (AType r3))), (9, vp b1 0), (10, (Value.tuple #[])), (11, (Value.agg (AType r3))), (12, vp b1 0), (13, (Value.agg (AExpr r5 (x.1) (x.2.1) (x.2.2.1) (x.2.2.2.1) (x.2.2.2.2.1) (x.2.2.2.2.2.1))))]) (fun x w => Bun C0 F w0 (x.2.2.2.2.2.2.2.2.2) w [MO.box (x.2.2.2.2.2.2.2.2.1) 39 #[vi 0, (str ([] : List UInt8)), vi 0, vi 0, vi 0, vi 0, vi 0, vi 0, vi 0, vi 0, vs none 0 0, vs none 0 0, vs none 0 0], MO.box b1 67 (Aparser_reader s4 (x.2.2.2.2.2.2.1) (x.2.2.2.2.2.2.2.1)), MO.box b3 35 (AType r3), MO.box b2 39 #[vi 0, (str ([] : List UInt8)), vi 0, vi 0, vi 0, vi 0, vi 0, vi 0, vi 0, vi 0, vs none 0 0, vs none 0 0, vs none 0 0]] [Cl.sl cGMono (x.1) (x.2.1) r5.Lin.L, Cl.sl cGIndex (x.2.2.1) (x.2.2.2.1) r5.Idx, Cl.sl cGExpr (x.2.2.2.2.1) (x.2.2.2.2.2.1) r5.Args, Cl.sl cGToken (x.2.2.2.2.2.2.1) (x.2.2.2.2.2.2.2.1) s4.l, Cl.sl cGToken a8 c18 s3.l, Cl.sl cGToken a7 c12 s2.l, Cl.sl cGToken a6 c8 s1.l, Cl.sl cGToken a1 c1 r1.l, clSpace]) (fun x w => SN [] (DM true F (x.2.2.2.2.2.2.2.2.2)) w) ?_ ?_
 ·clear hI; rintro ⟨a9, c22, a10, c23, a11, c24, a12, c25, b5, c34⟩ w14 hI
  try dsimp only at hI ⊢
  unfold tr_parser_reader_cast_w_1_3
  refine la_lit (c := cGExpr) (xs := ([r5] : List GExpr)) (vs := [(0, (Value.agg (AExpr r5 a9 c22 a10 c23 a11 c24)))]) (cs := (AExpr r5 a9 c22 a10 c23 a11 c24)) (css := [(lExpr r5 a9 c22 a10 c23 a11 c24)]) hI rfl gn rfl rfl u37 info_39 rfl ⟨rfl, et, trivial⟩ (by kernel_rfl) ⟨(cGExpr_in ⟨a9, c22, a10, c23, a11, c24, rfl, hI.get .z, hI.get (.s .z), hI.get (.s (.s .z))⟩), trivial⟩ rfl rfl rfl ?_
  clear hI; intro b4 c28 w8 hI
  refine a_q rfl gn rfl (fun w' => (y_build (vs := [(0, vi 12), (3, (Value.agg (AType r3))), (6, vs (some ⟨b4, 0, none⟩) ([r5] : List GExpr).length 1)]) (cs := #[vi 12, (str ([] : List UInt8)), vi 0, vi 0, vi r3.Kind, vi r3.Bits, vi r3.Frac, vi r3.Round, vi r3.Over, vi 0, vs none 0 0, vs none 0 0, vs (some ⟨b4, 0, none⟩) ([r5] : List GExpr).length 1]) rfl ⟨rfl, ev_const, ⟨rfl, et, ⟨rfl, et, trivial⟩⟩⟩ (by kernel_rfl))) ?_
  exact a_sub (hk_tr_parser_reader_cast_w_1_6 (a9, c22, a10, c23, a11, c24, a12, c25, b4, b5, c28) _ (hI.arr GO SU)) SB
 intro hk_tr_parser_reader_cast_w_1_3
 refine a_join (α := (Option Addr) × Nat × (Option Addr) × Nat × (Option Addr) × Nat × (Option Addr) × Nat × Nat × NP) (T := tr_parser_reader_cast_w_1_2) (fun x => [(0, vp b1 0), (2, vp b2 0), (3, vp b3 0), (4, (Value.pointer (some ⟨(x.2.2.2.2.2.2.2.2.1), 0, none⟩))), (5, vp b1 0), (6, (Value.tuple #[])), (7, vp b1 0), (8, (Value.agg (AType r3))), (9, vp b1 0), (10, (Value.tuple #[])), (12, vp b1 0), (13, (Value.agg (AExpr r5 (x.1) (x.2.1) (x.2.2.1) (x.2.2.2.1) (x.2.2.2.2.1) (x.2.2.2.2.2.1))))]) (fun x w => Bun C0 F w0 (x.2.2.2.2.2.2.2.2.2) w [MO.box (x.2.2.2.2.2.2.2.2.1) 39 #[vi 0, (str ([] : List UInt8)), vi 0, vi 0, vi 0, vi 0, vi 0, vi 0, vi 0, vi 0, vs none 0 0, vs none 0 0, vs none 0 0], MO.box b1 67 (Aparser_reader s4 (x.2.2.2.2.2.2.1) (x.2.2.2.2.2.2.2.1)), MO.box b3 35 (AType r3), MO.box b2 39 #[vi 0, (str ([] : List UInt8)), vi 0, vi 0, vi 0, vi 0, vi 0, vi 0, vi 0, vi 0, vs none 0 0, vs none 0 0, vs none 0 0]] [Cl.sl cGMono (x.1) (x.2.1) r5.Lin.L, Cl.sl cGIndex (x.2.2.1) (x.2.2.2.1) r5.Idx, Cl.sl cGExpr (x.2.2.2.2.1) (x.2.2.2.2.2.1) r5.Args, Cl.sl cGToken (x.2.2.2.2.2.2.1) (x.2.2.2.2.2.2.2.1) s4.l, Cl.sl cGToken a8 c18 s3.l, Cl.sl cGToken a7 c12 s2.l, Cl.sl cGToken a6 c8 s1.l, Cl.sl cGToken a1 c1 r1.l, clSpace]) (fun x w => SN [] (DM true F (x.2.2.2.2.2.2.2.2.2)) w) ?_ ?_
 ·clear hI; rintro ⟨a9, c22, a10, c23, a11, c24, a12, c25, b5, c33⟩ w13 hI
  try dsimp only at hI ⊢
  unfold tr_parser_reader_cast_w_1_2
  refine a_two ?_ ?_
  ·skip
   refine a_val rfl gn rfl (y_loadN (l := (lType r3)) rfl et u35 rfl size_35 (CellsAt.of_blk (hI.blk (.s (.s .z))) rfl)) SX.self ?_
   exact a_sub (hk_tr_parser_reader_cast_w_1_3 (a9, c22, a10, c23, a11, c24, a12, c25, b5, c33) _ (hI.arr GO SU)) SB
  refine la_lit (c := cGExpr) (xs := ([r5] : List GExpr)) (vs := [(0, (Value.agg (AExpr r5 a9 c22 a10 c23 a11 c24)))]) (cs := (AExpr r5 a9 c22 a10 c23 a11 c24)) (css := [(lExpr r5 a9 c22 a10 c23 a11 c24)]) hI rfl gn rfl rfl u37 info_39 rfl ⟨rfl, et, trivial⟩ (by kernel_rfl) ⟨(cGExpr_in ⟨a9, c22, a10, c23, a11, c24, rfl, hI.get .z, hI.get (.s .z), hI.get (.s (.s .z))⟩), trivial⟩ rfl rfl rfl ?_
  clear hI; intro b4 c28 w8 hI
  exact a_sub (hk_tr_parser_reader_cast_w_1_4 (a9, c22, a10, c23, a11, c24, a12, c25, b4, b5, c28) _ (hI.arr GO SU)) SB
 intro hk_tr_parser_reader_cast_w_1_2
 refine a_join (α := Nat × NP) (T := tr_parser_reader_cast_w_1_1) (fun x => [(0, vp b1 0), (2, vp b2 0), (3, vp b3 0), (4, (Value.pointer (some ⟨(x.1), 0, none⟩))), (5, vp b1 0), (6, (Value.tuple #[])), (7, vp b1 0), (8, (Value.agg (AType r3))), (9, vp b1 0), (10, (Value.tuple #[])), (11, (Value.agg (AType r3))), (12, vp b1 0)]) (fun x w => Bun C0 F w0 (x.2) w [MO.box (x.1) 39 #[vi 0, (str ([] : List UInt8)), vi 0, vi 0, vi 0, vi 0, vi 0, vi 0, vi 0, vi 0, vs none 0 0, vs none 0 0, vs none 0 0], MO.box b1 67 (Aparser_reader s3 a8 c18), MO.box b3 35 (AType r3), MO.box b2 39 #[vi 0, (str ([] : List UInt8)), vi 0, vi 0, vi 0, vi 0, vi 0, vi 0, vi 0, vi 0, vs none 0 0, vs none 0 0, vs none 0 0]] [Cl.sl cGToken a8 c18 s3.l, Cl.sl cGToken a7 c12 s2.l, Cl.sl cGToken a6 c8 s1.l, Cl.sl cGToken a1 c1 r1.l, clSpace]) (fun x w => SN [2, 6] (DM false F (x.2)) w) ?_ ?_
 ·clear hI; rintro ⟨b5, c32⟩ w12 hI
  try dsimp only at hI ⊢
  unfold tr_parser_reader_cast_w_1_1
  refine a_turn (F := F) (C := c32) rfl rfl ?_
  obtain ⟨c21, f4, hB, hl4, hk4⟩ := hI.hands (.r (.l (.r (.r .n))))
  refine la_callX rfl gn rfl (r_callF (vs := [vp b1 0]) rfl ok_34 ⟨et, trivial⟩) (Calls.mono (hrec c21 f4 w12 s3 b1 a8 c18 (hB.subs ⟨.z, (.s (.s (.s (.s .z)))), trivial⟩) _ hx4) ?_)
  intro e_ w7 hq_; obtain ⟨a9, c22, a10, c23, a11, c24, a12, c25, c26, rfl, hB2⟩ := ret_of hq_
  obtain ⟨c27, hs4, hI⟩ := hk4 _ _ _ _ hB2
  dsimp only [ca, na] at hI
  refine ⟨_, rfl, DM true F c27, hs4, ?_⟩
  exact a_sub (hk_tr_parser_reader_cast_w_1_3 (a9, c22, a10, c23, a11, c24, a12, c25, b5, c27) _ (hI.arr GO SU)) SB
 intro hk_tr_parser_reader_cast_w_1_1
 refine a_join (α := (Option Addr) × Nat × (Option Addr) × Nat × (Option Addr) × Nat × (Option Addr) × Nat × NP) (T := tr_parser_reader_cast_w_1_0) (fun x => [(0, vp b1 0), (2, vp b2 0), (3, vp b3 0), (5, vp b1 0), (6, (Value.tuple #[])), (7, vp b1 0), (8, (Value.agg (AType r3))), (9, vp b1 0), (10, (Value.tuple #[])), (11, (Value.agg (AType r3))), (12, vp b1 0), (13, (Value.agg (AExpr r5 (x.1) (x.2.1) (x.2.2.1) (x.2.2.2.1) (x.2.2.2.2.1) (x.2.2.2.2.2.1))))]) (fun x w => Bun C0 F w0 (x.2.2.2.2.2.2.2.2) w [MO.box b1 67 (Aparser_reader s4 (x.2.2.2.2.2.2.1) (x.2.2.2.2.2.2.2.1)), MO.box b3 35 (AType r3), MO.box b2 39 #[vi 0, (str ([] : List UInt8)), vi 0, vi 0, vi 0, vi 0, vi 0, vi 0, vi 0, vi 0, vs none 0 0, vs none 0 0, vs none 0 0]] [Cl.sl cGMono (x.1) (x.2.1) r5.Lin.L, Cl.sl cGIndex (x.2.2.1) (x.2.2.2.1) r5.Idx, Cl.sl cGExpr (x.2.2.2.2.1) (x.2.2.2.2.2.1) r5.Args, Cl.sl cGToken (x.2.2.2.2.2.2.1) (x.2.2.2.2.2.2.2.1) s4.l, Cl.sl cGToken a8 c18 s3.l, Cl.sl cGToken a7 c12 s2.l, Cl.sl cGToken a6 c8 s1.l, Cl.sl cGToken a1 c1 r1.l, clSpace]) (fun x w => SN [] (DM true F (x.2.2.2.2.2.2.2.2)) w) ?_ ?_
 ·clear hI; rintro ⟨a9, c22, a10, c23, a11, c24, a12, c25, c31⟩ w11 hI
  try dsimp only at hI ⊢
  unfold tr_parser_reader_cast_w_1_0
  refine a_two ?_ ?_
  ·skip
   refine la_lit (c := cGExpr) (xs := ([r5] : List GExpr)) (vs := [(0, (Value.agg (AExpr r5 a9 c22 a10 c23 a11 c24)))]) (cs := (AExpr r5 a9 c22 a10 c23 a11 c24)) (css := [(lExpr r5 a9 c22 a10 c23 a11 c24)]) hI rfl gn rfl rfl u37 info_39 rfl ⟨rfl, et, trivial⟩ (by kernel_rfl) ⟨(cGExpr_in ⟨a9, c22, a10, c23, a11, c24, rfl, hI.get .z, hI.get (.s .z), hI.get (.s (.s .z))⟩), trivial⟩ rfl rfl rfl ?_
   clear hI; intro b4 c28 w8 hI
   refine a_q rfl gn rfl (fun w' => (y_build (vs := [(0, vi 12), (3, (Value.agg (AType r3))), (6, vs (some ⟨b4, 0, none⟩) ([r5] : List GExpr).length 1)]) (cs := #[vi 12, (str ([] : List UInt8)), vi 0, vi 0, vi r3.Kind, vi r3.Bits, vi r3.Frac, vi r3.Round, vi r3.Over, vi 0, vs none 0 0, vs none 0 0, vs (some ⟨b4, 0, none⟩) ([r5] : List GExpr).length 1]) rfl ⟨rfl, ev_const, ⟨rfl, et, ⟨rfl, et, trivial⟩⟩⟩ (by kernel_rfl))) ?_
   exact a_sub (hk_tr_parser_reader_cast_w_1_5 (a9, c22, a10, c23, a11, c24, a12, c25, b4, c28) _ (hI.arr GO SU)) SB
  refine la_alloc (cs := #[vi 0, (str ([] : List UInt8)), vi 0, vi 0, vi 0, vi 0, vi 0, vi 0, vi 0, vi 0, vs none 0 0, vs none 0 0, vs none 0 0]) hI rfl gn rfl rfl zero_39 rfl ?_
  clear hI; intro b5 c29 w9 hI
  exact a_sub (hk_tr_parser_reader_cast_w_1_3 (a9, c22, a10, c23, a11, c24, a12, c25, b5, c29) _ (hI.arr GO SU)) SB
 intro hk_tr_parser_reader_cast_w_1_0
 refine V ?_
 refine a_three ?_ ?_ ?_
 ·skip
  refine a_val rfl gn rfl (y_loadN (l := (lType r3)) rfl et u35 rfl size_35 (CellsAt.of_blk (hI.blk (.s .z)) rfl)) SX.self ?_
  refine a_two ?_ ?_
  ·skip
   refine a_turnT (F := F) (C := c20) rfl rfl ?_
   obtain ⟨c21, f4, hB, hl4, hk4⟩ := hI.hands (.l (.r (.r .n)))
   refine la_callX rfl gn rfl (r_callF (vs := [vp b1 0]) rfl ok_34 ⟨et, trivial⟩) (Calls.mono (hrec c21 f4 w19 s3 b1 a8 c18 (hB.subs ⟨.z, (.s (.s (.s (.s .z)))), trivial⟩) _ hx4) ?_)
   intro e_ w7 hq_; obtain ⟨a9, c22, a10, c23, a11, c24, a12, c25, c26, rfl, hB2⟩ := ret_of hq_
   obtain ⟨c27, hs4, hI⟩ := hk4 _ _ _ _ hB2
   dsimp only [ca, na] at hI
   refine ⟨_, rfl, DM true F c27, hs4, ?_⟩
   exact a_sub (hk_tr_parser_reader_cast_w_1_0 (a9, c22, a10, c23, a11, c24, a12, c25, c27) _ (hI.arr GO SU)) SB
  refine la_alloc (cs := #[vi 0, (str ([] : List UInt8)), vi 0, vi 0, vi 0, vi 0, vi 0, vi 0, vi 0, vi 0, vs none 0 0, vs none 0 0, vs none 0 0]) hI rfl gn rfl rfl zero_39 rfl ?_
  clear hI; intro b5 c29 w9 hI
  exact a_sub (hk_tr_parser_reader_cast_w_1_1 (b5, c29) _ (hI.arr GO SU)) SB
 ·skip
  refine a_turnT (F := F) (C := c20) rfl rfl ?_
  obtain ⟨c21, f4, hB, hl4, hk4⟩ := hI.hands (.l (.r (.r .n)))
  refine la_callX rfl gn rfl (r_callF (vs := [vp b1 0]) rfl ok_34 ⟨et, trivial⟩) (Calls.mono (hrec c21 f4 w19 s3 b1 a8 c18 (hB.subs ⟨.z, (.s (.s (.s (.s .z)))), trivial⟩) _ hx4) ?_)
  intro e_ w7 hq_; obtain ⟨a9, c22, a10, c23, a11, c24, a12, c25, c26, rfl, hB2⟩ := ret_of hq_
  obtain ⟨c27, hs4, hI⟩ := hk4 _ _ _ _ hB2
  dsimp only [ca, na] at hI
  refine ⟨_, rfl, DM true F c27, hs4, ?_⟩
  refine a_three ?_ ?_ ?_
  ·skip
   refine a_val rfl gn rfl (y_loadN (l := (lType r3)) rfl et u35 rfl size_35 (CellsAt.of_blk (hI.blk (.s .z)) rfl)) SX.self ?_
   exact a_sub (hk_tr_parser_reader_cast_w_1_0 (a9, c22, a10, c23, a11, c24, a12, c25, c27) _ (hI.arr GO SU)) SB
  ·skip
   refine la_lit (c := cGExpr) (xs := ([r5] : List GExpr)) (vs := [(0, (Value.agg (AExpr r5 a9 c22 a10 c23 a11 c24)))]) (cs := (AExpr r5 a9 c22 a10 c23 a11 c24)) (css := [(lExpr r5 a9 c22 a10 c23 a11 c24)]) hI rfl gn rfl rfl u37 info_39 rfl ⟨rfl, et, trivial⟩ (by kernel_rfl) ⟨(cGExpr_in ⟨a9, c22, a10, c23, a11, c24, rfl, hI.get .z, hI.get (.s .z), hI.get (.s (.s .z))⟩), trivial⟩ rfl rfl rfl ?_
   clear hI; intro b4 c28 w8 hI
   refine a_two ?_ ?_
   ·skip
    refine a_val rfl gn rfl (y_loadN (l := (lType r3)) rfl et u35 rfl size_35 (CellsAt.of_blk (hI.blk (.s (.s .z))) rfl)) SX.self ?_
    refine a_q rfl gn rfl (fun w' => (y_build (vs := [(0, vi 12), (3, (Value.agg (AType r3))), (6, vs (some ⟨b4, 0, none⟩) ([r5] : List GExpr).length 1)]) (cs := #[vi 12, (str ([] : List UInt8)), vi 0, vi 0, vi r3.Kind, vi r3.Bits, vi r3.Frac, vi r3.Round, vi r3.Over, vi 0, vs none 0 0, vs none 0 0, vs (some ⟨b4, 0, none⟩) ([r5] : List GExpr).length 1]) rfl ⟨rfl, ev_const, ⟨rfl, et, ⟨rfl, et, trivial⟩⟩⟩ (by kernel_rfl))) ?_
    exact a_sub (hk_tr_parser_reader_cast_w_1_5 (a9, c22, a10, c23, a11, c24, a12, c25, b4, c28) _ (hI.arr GO SU)) SB
   refine la_alloc (cs := #[vi 0, (str ([] : List UInt8)), vi 0, vi 0, vi 0, vi 0, vi 0, vi 0, vi 0, vi 0, vs none 0 0, vs none 0 0, vs none 0 0]) hI rfl gn rfl rfl zero_39 rfl ?_
   clear hI; intro b5 c29 w9 hI
   exact a_sub (hk_tr_parser_reader_cast_w_1_4 (a9, c22, a10, c23, a11, c24, a12, c25, b4, b5, c29) _ (hI.arr GO SU)) SB
  refine la_alloc (cs := #[vi 0, (str ([] : List UInt8)), vi 0, vi 0, vi 0, vi 0, vi 0, vi 0, vi 0, vi 0, vs none 0 0, vs none 0 0, vs none 0 0]) hI rfl gn rfl rfl zero_39 rfl ?_
  clear hI; intro b5 c29 w9 hI
  exact a_sub (hk_tr_parser_reader_cast_w_1_2 (a9, c22, a10, c23, a11, c24, a12, c25, b5, c29) _ (hI.arr GO SU)) SB
 refine la_alloc (cs := #[vi 0, (str ([] : List UInt8)), vi 0, vi 0, vi 0, vi 0, vi 0, vi 0, vi 0, vi 0, vs none 0 0, vs none 0 0, vs none 0 0]) hI rfl gn rfl rfl zero_39 rfl ?_
 clear hI; intro b5 c29 w9 hI
 refine a_two ?_ ?_
 ·skip
  refine a_val rfl gn rfl (y_loadN (l := (lType r3)) rfl et u35 rfl size_35 (CellsAt.of_blk (hI.blk (.s (.s .z))) rfl)) SX.self ?_
  exact a_sub (hk_tr_parser_reader_cast_w_1_1 (b5, c29) _ (hI.arr GO SU)) SB
 refine a_turnT (F := F) (C := c29) rfl rfl ?_
 obtain ⟨c21, f4, hB, hl4, hk4⟩ := hI.hands (.r (.l (.r (.r .n))))
 refine la_callX rfl gn rfl (r_callF (vs := [vp b1 0]) rfl ok_34 ⟨et, trivial⟩) (Calls.mono (hrec c21 f4 w9 s3 b1 a8 c18 (hB.subs ⟨.z, (.s (.s (.s (.s .z)))), trivial⟩) _ hx4) ?_)
 intro e_ w7 hq_; obtain ⟨a9, c22, a10, c23, a11, c24, a12, c25, c26, rfl, hB2⟩ := ret_of hq_
 obtain ⟨c27, hs4, hI⟩ := hk4 _ _ _ _ hB2
 dsimp only [ca, na] at hI
 refine ⟨_, rfl, DM true F c27, hs4, ?_⟩
 exact a_sub (hk_tr_parser_reader_cast_w_1_2 (a9, c22, a10, c23, a11, c24, a12, c25, b5, c27) _ (hI.arr GO SU)) SB
theorem c_parser_reader_forms_w (C0 F : NP) (w0 : World) (r1 : Gparser_reader) (b1 : Nat) (a1 : Option Addr) (c1 : Nat) (hI : Bun C0 F w0 C0 w0 [MO.box b1 67 (Aparser_reader r1 a1 c1)] [Cl.sl cGToken a1 c1 r1.l, clSpace]) (r : Pan (List GLin × Gparser_reader))
  (h : m_parser_reader_forms_w r1 = some r) :
  Calls Tryz.prog 175 #[vp b1 0] w0 fun e w => (∃ rx : List GLin × Gparser_reader, r = .ret rx ∧ ∃ (a2 : Option Addr) (c2 : Nat) (a3 : Option Addr) (c3 : Nat) (C : NP), e = .returned (vs a2 rx.1.length c2) ∧ Bun C0 F w0 C w [MO.box b1 67 (Aparser_reader rx.2 a3 c3)] [Cl.sl cGLin a2 c2 rx.1, Cl.sl cGToken a3 c3 rx.2.l]) ∨ ∃ (pa pn : Int), r = .pan pa pn ∧ e = .panicked [pe 114 pa pn] ∧ ∃ C : NP, Bun C0 F w0 C w [] [] := by
 refine enterP (l := [vp b1 0]) Tryz.func175 rfl Tryz.ntmps175 rfl ?_
 rw [m_parser_reader_forms_w] at h
 refine T ?_
 refine c_seq (T ?_)
 obtain ⟨c4, f1, hB, hl1, hk1⟩ := hI.hands (.l .n)
 obtain ⟨⟨r2, s1⟩, hx1, h⟩ := bnd_some h
 try dsimp only at h
 refine s_call gn rfl (r_callF (vs := [vp b1 0, (str ([93] : List UInt8))]) rfl ok_68 ⟨et, ⟨ev_const, trivial⟩⟩) (Calls.mono (c_parser_reader_accept_w c4 f1 w0 r1 ([93] : List UInt8) b1 a1 c1 (hB.subs ⟨.z, trivial⟩) _ hx1) ?_)
 rintro _ w1 ⟨a4, c5, c6, rfl, hB2⟩
 obtain ⟨c7, hs1, hI⟩ := hk1 _ _ _ _ hB2
 dsimp only [ca, na] at hI
 refine ⟨_, rfl, ?_⟩
 refine nk (cif h et (fun hb h => ?_) (fun hb h => ?_))
 ·refine T ?_
  refine c_ret ?_
  have hI := hI.add (c := Cl.sl cGLin none 0 ([] : List GLin)) SlC.nil
  obtain rfl := some_inj h
  refine QG ?_
  exact .inl ⟨_, rfl, none, 0, a4, c5, _, rfl, hI.arr GO SU⟩
 refine T ?_
 obtain ⟨c8, f2, hB, hl2, hk2⟩ := hI.hands (.l .n)
 refine s_pb h (fun _ hx2 => c_parser_reader_form_w c8 f2 w1 s1 b1 a4 c5 (hB.subs ⟨.z, (.s (.s .z)), trivial⟩) _ hx2) (pnb hk2) (r_callF rfl ok_31 ⟨et, trivial⟩) ?_
 rintro ⟨r3, s2⟩ hx2 h _ w2 ⟨a5, c9, a6, c10, c11, rfl, hB2⟩
 try dsimp only at h
 obtain ⟨c12, hs2, hI⟩ := hk2 _ _ _ _ hB2
 dsimp only [ca, na] at hI
 refine ⟨_, rfl, ?_⟩
 refine l_lit (c := cGLin) (xs := ([r3] : List GLin)) (vs := [(0, (Value.agg (ALin r3 a5 c9)))]) (cs := (ALin r3 a5 c9)) (css := [(lLin r3 a5 c9)]) hI gn rfl rfl u93 info_27 rfl ⟨rfl, et, trivial⟩ (by kernel_rfl) ⟨⟨a5, c9, rfl, hI.get .z⟩, trivial⟩ rfl rfl rfl ?_
 clear hI; intro b2 c13 w3 hI
 refine T ?_
 refine c_seq (T ?_)
 refine c_loop (α := Nat × (List GLin) × Gparser_reader × (Option Addr) × Nat × (Option Addr) × Nat) (fun x => fun w => ∃ C, Bun C0 F w0 C w [MO.row cGLin 27 (x.2.2.2.1) (x.2.2.2.2.1) (x.2.1), MO.box b1 67 (Aparser_reader (x.2.2.1) (x.2.2.2.2.2.1) (x.2.2.2.2.2.2))] [Cl.sl cGToken (x.2.2.2.2.2.1) (x.2.2.2.2.2.2) (x.2.2.1).l, clSpace] ∧ m_parser_reader_forms_w_l1 (x.1) (x.2.1) (x.2.2.1) = some r) (fun x _ => x.1) (fun x => [(0, vp b1 0), (3, vs (x.2.2.2.1) (x.2.1).length (x.2.2.2.2.1))]) (fu, ([r3] : List GLin), s2, some ⟨b2, 0, none⟩, 1, a6, c10) ⟨_, hI.arr (.c .z (.c .z .n)) ⟨(.s .z), (.s (.s (.s (.s .z)))), trivial⟩, h⟩ SB ?_
 clear h hI; rintro ⟨fuel1, out1, r4, a7, c14, a8, c15⟩ w4 ⟨c16, hI, h⟩
 dsimp only at hI h
 rcases fuel1 with _ | fuel1
 ·rw [m_parser_reader_forms_w_l1] at h; cases h
 rw [m_parser_reader_forms_w_l1] at h
 refine c_sub (e := [(0, vp b1 0), (3, vs a7 out1.length c14)]) SB ?_
 refine c_seq (T ?_)
 obtain ⟨c17, f3, hB, hl3, hk3⟩ := hI.hands (.r (.l .n))
 obtain ⟨⟨r5, s3⟩, hx3, h⟩ := bnd_some h
 try dsimp only at h
 refine s_call gn rfl (r_callF (vs := [vp b1 0, (str ([44] : List UInt8))]) rfl ok_68 ⟨et, ⟨ev_const, trivial⟩⟩) (Calls.mono (c_parser_reader_accept_w c17 f3 w4 r4 ([44] : List UInt8) b1 a8 c15 (hB.subs ⟨.z, trivial⟩) _ hx3) ?_)
 rintro _ w5 ⟨a9, c18, c19, rfl, hB2⟩
 obtain ⟨c20, hs3, hI⟩ := hk3 _ _ _ _ hB2
 dsimp only [ca, na] at hI
 refine ⟨_, rfl, ?_⟩
 refine nk (cif h et (fun hb h => ?_) (fun hb h => ?_))
 ·have hk4 := hb
  refine T ?_
  obtain ⟨c21, f4, hB, hl4, hk5⟩ := hI.hands (.l (.r .n))
  refine s_pb h (fun _ hx4 => c_parser_reader_form_w c21 f4 w5 s3 b1 a9 c18 (hB.subs ⟨.z, (.s (.s .z)), trivial⟩) _ hx4) (pnb hk5) (r_callF rfl ok_31 ⟨et, trivial⟩) ?_
  rintro ⟨r6, s4⟩ hx4 h _ w6 ⟨a10, c22, a11, c23, c24, rfl, hB2⟩
  try dsimp only at h
  obtain ⟨c25, hs4, hI⟩ := hk5 _ _ _ _ hB2
  dsimp only [ca, na] at hI
  refine ⟨_, rfl, ?_⟩
  refine l_lit (c := cGLin) (xs := ([r6] : List GLin)) (vs := [(0, (Value.agg (ALin r6 a10 c22)))]) (cs := (ALin r6 a10 c22)) (css := [(lLin r6 a10 c22)]) hI gn rfl rfl u93 info_27 rfl ⟨rfl, et, trivial⟩ (by kernel_rfl) ⟨⟨a10, c22, rfl, hI.get .z⟩, trivial⟩ rfl rfl rfl ?_
  clear hI; intro b3 c26 w7 hI
  obtain ⟨zs1, hx5, h⟩ := bnd_some h
  refine l_append (xs := out1) (ys := ([r6] : List GLin)) hI (.s (.s .z)) (hI.rd .z) hx5 gn rfl rfl u93 info_27 rfl rfl et et ?_
  clear hI; intro a12 c27 c28 w8 hI
  refine sa ?_
  refine s_nil ?_
  exact k_loop (fuel1, zs1, s4, a12, c27, a11, c23) SB ⟨_, hI.arr GO SU, h⟩ (Nat.lt_succ_self _)
 refine c_exit ?_
 refine k_in ?_
 refine k_same ?_
 refine T ?_
 obtain ⟨c29, f5, hB, hl5, hk6⟩ := hI.hands (.l (.r .n))
 refine s_pb h (fun _ hx6 => c_parser_reader_expect_w c29 f5 w5 s3 ([93] : List UInt8) b1 a9 c18 (hB.subs ⟨.z, trivial⟩) _ hx6) (pnb hk6) (r_callF rfl ok_104 ⟨et, ⟨ev_const, trivial⟩⟩) ?_
 rintro ⟨r7, s5⟩ hx6 h _ w9 ⟨a13, c30, c31, rfl, hB2⟩
 try dsimp only at h
 obtain ⟨c32, hs5, hI⟩ := hk6 _ _ _ _ hB2
 dsimp only [ca, na] at hI
 refine ⟨_, rfl, ?_⟩
 refine T ?_
 refine c_ret ?_
 obtain ⟨c33, hI⟩ := hI.release (.s .z)
 obtain rfl := some_inj h
 refine QG ?_
 exact .inl ⟨_, rfl, a7, c14, a13, c30, _, rfl, hI.arr GO SU⟩
end Go.Proofs.YtmhoikfoogemnaaGreatDoor
