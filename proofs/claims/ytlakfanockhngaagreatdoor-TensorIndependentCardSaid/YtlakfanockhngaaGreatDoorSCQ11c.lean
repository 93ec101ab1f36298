import Derived.Test.YtlakfanockhngaaGreatDoorSCQ11b
namespace Go.Proofs.YtlakfanockhngaaGreatDoor
open Go Go.RowKit Go.Vc
set_option maxRecDepth 100000
set_option maxHeartbeats 4000000
set_option linter.unusedVariables false
set_option linter.unusedSimpArgs false
theorem c_base_Ints (F : NP) (w0 : World) (hF : ∀ k, F k → k < w0.heap.size) (a1 : List Int) (b1 : List Int) (a2 : Option Addr) (c1 : Nat) (a3 : Option Addr) (c2 : Nat) (hc : AllCl [Cl.sl (cInt .i64) a2 c1 a1, Cl.sl (cInt .i64) a3 c2 b1] F w0) (r : Bool)
  (h : m_base_Ints a1 b1 = some r) :
  Calls Tryz.prog 50 #[vs a2 a1.length c1, vs a3 b1.length c2] w0 fun e w => e = .returned (vb r) ∧ Ext w0 w ∧ AllCl [] F w := by
 refine enterK Tryz.func50 rfl Tryz.ntmps50 rfl ?_
 have hI := Bun.start hF hc
 clear hc
 rw [m_base_Ints] at h
 refine sr (sac ?_)
 refine nk (c_seq (sr (sm ?_)))
 refine sq (y_lenl rfl u24 et) ?_
 refine sm ?_
 refine sq (y_lenl rfl u24 et) ?_
 refine sq (y_neq rfl et et) ?_
 refine nk (cif h et (fun hb h => ?_) (fun hb h => ?_))
 ·refine sr (sac ?_)
  refine nk (c_ret ?_)
  obtain rfl := some_inj h
  exact q_ret (vs := [vb false]) Tryz.results50 ⟨ev_tmp rfl rfl, trivial⟩ (fq hI trivial)
 refine c_skip (k_same (c_seq (sr (sac ?_))))
 refine nk (c_block (c_loop (α := Nat × Int) (fun x => fun w => ∃ C, Bun noM F w0 C w [] [Cl.sl (cInt .i64) a2 c1 a1, Cl.sl (cInt .i64) a3 c2 b1] ∧ m_base_Ints_l1 a1 b1 (x.1) (x.2) = some r) (fun x _ => x.1) (fun x => [(0, vs a2 a1.length c1), (1, vs a3 b1.length c2), (5, vi (x.2))]) (fu, 0) ⟨_, hI.arr .n ⟨.z, (.s .z), trivial⟩, h⟩ ⟨rfl, rfl, rfl, trivial⟩ ?_))
 clear h hI; rintro ⟨fuel1, i1⟩ w1 ⟨c3, hI, h⟩
 dsimp only at hI h
 rcases fuel1 with _ | fuel1
 ·rw [m_base_Ints_l1] at h; cases h
 rw [m_base_Ints_l1] at h
 refine c_sub (e := [(0, vs a2 a1.length c1), (1, vs a3 b1.length c2), (5, vi i1)]) ⟨rfl, rfl, rfl, trivial⟩ ?_
 refine c_seq (sr (sm ?_))
 refine sm ?_
 refine sq (y_lenl rfl u24 et) ?_
 refine sq (y_lss rfl et et) ?_
 refine nk (cif h et (fun hb h => ?_) (fun hb h => ?_))
 ·refine c_skip (k_same (c_seq (c_block (c_seq (c_drawX [] false (.c (0, .q) (.c (1, .q) (.c (2, .q) (.c (3, .q) (.c (4, .q) (.c (5, .q) (.c (6, .q) (.c (7, .q) (.c (8, .q) .n))))))))) hI (by kernel_rfl) (by kernel_rfl) ?_)))))
  clear hI; intro w2 hI
  refine a_q rfl gn rfl (fun w' => y_move rfl et) ?_
  refine a_q rfl gn rfl (fun w' => y_move rfl et) ?_
  obtain ⟨e1, hx1, h⟩ := bnd_some h
  obtain ⟨ad1, cs1, hA1, hr1, hq1⟩ := hI.clat .z hx1
  obtain rfl : cs1 = [vi e1] := hr1
  refine a_q rfl gn rfl (fun w' => y_indexAddr rfl u24 size_3 et et (lat_bd hx1) hA1) ?_
  refine a_read rfl gn rfl (fun w' hw' => (y_load1 (v := (vi e1)) rfl et u3 rfl (hq1.at_ (SX.any rfl hw')))) (by kernel_rfl) ?_
  refine a_q rfl gn rfl (fun w' => y_move rfl et) ?_
  refine a_q rfl gn rfl (fun w' => y_move rfl et) ?_
  obtain ⟨e2, hx2, h⟩ := bnd_some h
  obtain ⟨ad2, cs2, hA2, hr2, hq2⟩ := hI.clat (.s .z) hx2
  obtain rfl : cs2 = [vi e2] := hr2
  refine a_q rfl gn rfl (fun w' => y_indexAddr rfl u24 size_3 et et (lat_bd hx2) hA2) ?_
  refine a_read rfl gn rfl (fun w' hw' => (y_load1 (v := (vi e2)) rfl et u3 rfl (hq2.at_ (SX.any rfl hw')))) (by kernel_rfl) ?_
  refine a_q rfl gn rfl (fun w' => y_neq rfl et et) ?_
  refine a_nil ?_
  refine k_same (cif h et (fun hb h => ?_) (fun hb h => ?_))
  ·refine sr (sac ?_)
   refine nk (c_ret ?_)
   obtain rfl := some_inj h
   exact q_ret (vs := [vb false]) Tryz.results50 ⟨ev_tmp rfl rfl, trivial⟩ (fq hI trivial)
  refine c_skip (k_same (c_region rfl ?_))
  refine sm ?_
  refine sq (y_add rfl et ev_const) ?_
  refine sa ?_
  refine s_nil ?_
  exact k_loop (fuel1, wi64 (i1 + 1)) ⟨rfl, rfl, rfl, trivial⟩ ⟨_, hI.arr .n ⟨.z, (.s .z), trivial⟩, h⟩ (Nat.lt_succ_self _)
 refine c_exit ?_
 refine k_in ?_
 refine k_same (sr (sac ?_))
 refine nk (c_ret ?_)
 obtain rfl := some_inj h
 exact q_ret (vs := [vb true]) Tryz.results50 ⟨ev_tmp rfl rfl, trivial⟩ (fq hI trivial)
theorem c_base_Vals (F : NP) (w0 : World) (hF : ∀ k, F k → k < w0.heap.size) (a1 : List GVal) (b1 : List GVal) (a2 : Option Addr) (c1 : Nat) (a3 : Option Addr) (c2 : Nat) (hc : AllCl [Cl.sl cGVal a2 c1 a1, Cl.sl cGVal a3 c2 b1] F w0) (r : Bool)
  (h : m_base_Vals a1 b1 = some r) :
  Calls Tryz.prog 51 #[vs a2 a1.length c1, vs a3 b1.length c2] w0 fun e w => e = .returned (vb r) ∧ Ext w0 w ∧ AllCl [] F w := by
 refine enterK Tryz.func51 rfl Tryz.ntmps51 rfl ?_
 have hI := Bun.start hF hc
 clear hc
 rw [m_base_Vals] at h
 refine sr (sac ?_)
 refine nk (c_seq (sr (sm ?_)))
 refine sq (y_lenl rfl u25 et) ?_
 refine sm ?_
 refine sq (y_lenl rfl u25 et) ?_
 refine sq (y_neq rfl et et) ?_
 refine nk (cif h et (fun hb h => ?_) (fun hb h => ?_))
 ·refine sr (sac ?_)
  refine nk (c_ret ?_)
  obtain rfl := some_inj h
  exact q_ret (vs := [vb false]) Tryz.results51 ⟨ev_tmp rfl rfl, trivial⟩ (fq hI trivial)
 refine c_skip (k_same (c_seq (sr (sac ?_))))
 refine nk (c_block (c_loop (α := Nat × Int) (fun x => fun w => ∃ C, Bun noM F w0 C w [] [Cl.sl cGVal a2 c1 a1, Cl.sl cGVal a3 c2 b1] ∧ m_base_Vals_l1 a1 b1 (x.1) (x.2) = some r) (fun x _ => x.1) (fun x => [(0, vs a2 a1.length c1), (1, vs a3 b1.length c2), (5, vi (x.2))]) (fu, 0) ⟨_, hI.arr .n ⟨.z, (.s .z), trivial⟩, h⟩ ⟨rfl, rfl, rfl, trivial⟩ ?_))
 clear h hI; rintro ⟨fuel1, i1⟩ w1 ⟨c3, hI, h⟩
 dsimp only at hI h
 rcases fuel1 with _ | fuel1
 ·rw [m_base_Vals_l1] at h; cases h
 rw [m_base_Vals_l1] at h
 refine c_sub (e := [(0, vs a2 a1.length c1), (1, vs a3 b1.length c2), (5, vi i1)]) ⟨rfl, rfl, rfl, trivial⟩ ?_
 refine c_seq (sr (sm ?_))
 refine sm ?_
 refine sq (y_lenl rfl u25 et) ?_
 refine sq (y_lss rfl et et) ?_
 refine nk (cif h et (fun hb h => ?_) (fun hb h => ?_))
 ·refine c_skip (k_same (c_seq (c_block (c_seq (c_drawX [] false (.c (0, .q) (.c (1, .q) (.c (2, .q) (.c (3, .q) (.c (4, .q) (.c (5, .q) (.c (6, .q) (.c (7, .q) (.c (8, .q) .n))))))))) hI (by kernel_rfl) (by kernel_rfl) ?_)))))
  clear hI; intro w2 hI
  refine a_q rfl gn rfl (fun w' => y_move rfl et) ?_
  refine a_q rfl gn rfl (fun w' => y_move rfl et) ?_
  obtain ⟨e1, hx1, h⟩ := bnd_some h
  obtain ⟨ad1, cs1, hA1, hr1, hq1⟩ := hI.clat .z hx1
  obtain rfl : cs1 = (lVal e1) := hr1
  refine a_q rfl gn rfl (fun w' => y_indexAddr rfl u25 size_36 et et (lat_bd hx1) hA1) ?_
  refine a_read rfl gn rfl (fun w' hw' => (y_loadN (l := (lVal e1)) rfl et u36 rfl size_36 (hq1.at_ (SX.any rfl hw')))) (by kernel_rfl) ?_
  refine a_q rfl gn rfl (fun w' => y_move rfl et) ?_
  refine a_q rfl gn rfl (fun w' => y_move rfl et) ?_
  obtain ⟨e2, hx2, h⟩ := bnd_some h
  obtain ⟨ad2, cs2, hA2, hr2, hq2⟩ := hI.clat (.s .z) hx2
  obtain rfl : cs2 = (lVal e2) := hr2
  refine a_q rfl gn rfl (fun w' => y_indexAddr rfl u25 size_36 et et (lat_bd hx2) hA2) ?_
  refine a_read rfl gn rfl (fun w' hw' => (y_loadN (l := (lVal e2)) rfl et u36 rfl size_36 (hq2.at_ (SX.any rfl hw')))) (by kernel_rfl) ?_
  refine a_q rfl gn rfl (fun w' => y_bin rfl et et (eqstruct_36n ..) (eqguard_36 ..)) ?_
  refine a_nil ?_
  refine k_same (cif h et (fun hb h => ?_) (fun hb h => ?_))
  ·refine sr (sac ?_)
   refine nk (c_ret ?_)
   obtain rfl := some_inj h
   exact q_ret (vs := [vb false]) Tryz.results51 ⟨ev_tmp rfl rfl, trivial⟩ (fq hI trivial)
  refine c_skip (k_same (c_region rfl ?_))
  refine sm ?_
  refine sq (y_add rfl et ev_const) ?_
  refine sa ?_
  refine s_nil ?_
  exact k_loop (fuel1, wi64 (i1 + 1)) ⟨rfl, rfl, rfl, trivial⟩ ⟨_, hI.arr .n ⟨.z, (.s .z), trivial⟩, h⟩ (Nat.lt_succ_self _)
 refine c_exit ?_
 refine k_in ?_
 refine k_same (sr (sac ?_))
 refine nk (c_ret ?_)
 obtain rfl := some_inj h
 exact q_ret (vs := [vb true]) Tryz.results51 ⟨ev_tmp rfl rfl, trivial⟩ (fq hI trivial)
theorem c_base_Tensor (F : NP) (w0 : World) (hF : ∀ k, F k → k < w0.heap.size) (a1 : GTensor) (b1 : GTensor) (a2 : Option Addr) (c1 : Nat) (a3 : Option Addr) (c2 : Nat) (a4 : Option Addr) (c3 : Nat) (a5 : Option Addr) (c4 : Nat) (hc : AllCl [Cl.sl (cInt .i64) a2 c1 a1.Dims, Cl.sl cGVal a3 c2 a1.Vals, Cl.sl (cInt .i64) a4 c3 b1.Dims, Cl.sl cGVal a5 c4 b1.Vals] F w0) (r : Bool)
  (h : m_base_Tensor a1 b1 = some r) :
  Calls Tryz.prog 16 #[(Value.agg (ATensor a1 a2 c1 a3 c2)), (Value.agg (ATensor b1 a4 c3 a5 c4))] w0 fun e w => e = .returned (vb r) ∧ Ext w0 w ∧ AllCl [] F w := by
 refine enterK Tryz.func16 rfl Tryz.ntmps16 rfl ?_
 have hI := Bun.start hF hc
 clear hc
 rw [m_base_Tensor] at h
 refine sr (l_box (v := (Value.agg (ATensor a1 a2 c1 a3 c2))) (cs := (ATensor a1 a2 c1 a3 c2)) hI gn rfl rfl et rfl ?_)
 clear hI; intro b2 c5 w1 hI
 obtain ⟨c6, hI⟩ := hI.relBox .z
 refine l_box (v := (Value.agg (ATensor b1 a4 c3 a5 c4))) (cs := (ATensor b1 a4 c3 a5 c4)) hI gn rfl rfl et rfl ?_
 clear hI; intro b3 c7 w2 hI
 obtain ⟨c8, hI⟩ := hI.relBox .z
 refine sac ?_
 refine nk (sr (sq (y_fieldAddr rfl et u27 rfl size_23 rfl) ?_))
 refine sq (y_loadN (l := (lType a1.Type_)) rfl et u23 rfl size_23 (hI.kblk (l := (lType a1.Type_)) (.s .z) rfl).1) ?_
 refine sq (y_fieldAddr rfl et u27 rfl size_23 rfl) ?_
 refine sq (y_loadN (l := (lType b1.Type_)) rfl et u23 rfl size_23 (hI.kblk (l := (lType b1.Type_)) .z rfl).1) ?_
 refine sq (y_bin rfl et et (eqstruct_23 ..) (eqguard_23 ..)) ?_
 refine sm ?_
 refine s_gval (g_true rfl rfl rfl rfl) rfl (fun hc => y_fieldAddr rfl et u27 rfl size_24 rfl) ?_
 refine s_gval (g_true rfl rfl rfl rfl) rfl (fun hc => (y_load1 (v := (vs a2 a1.Dims.length c1)) rfl (ev_gv et hc) u24 rfl (hI.kblk (l := [vs a2 a1.Dims.length c1]) (.s .z) rfl).1)) ?_
 refine s_gval (g_true rfl rfl rfl rfl) rfl (fun hc => y_fieldAddr rfl et u27 rfl size_24 rfl) ?_
 refine s_gval (g_true rfl rfl rfl rfl) rfl (fun hc => (y_load1 (v := (vs a4 b1.Dims.length c3)) rfl (ev_gv et hc) u24 rfl (hI.kblk (l := [vs a4 b1.Dims.length c3]) .z rfl).1)) ?_
 obtain ⟨r1, hx1, h⟩ := bnd_some h
 replace hx1 := gd_some hx1
 refine s_gcallU (v := (vb r1)) (g_true rfl rfl rfl rfl) rfl (fun hc => (r_callF (vs := [vs a2 a1.Dims.length c1, vs a4 b1.Dims.length c3]) rfl ok_50 ⟨(ev_gv et hc), ⟨(ev_gv et hc), trivial⟩⟩)) (fun hc => (c_base_Ints (Dj F c8) w2 hI.lt a1.Dims b1.Dims a2 c1 a4 c3 ⟨(hI.get (.s (.s .z))), (hI.get (.s (.s (.s (.s .z))))), trivial⟩ r1 (hx1 hc)).mono fun _ _ k => ⟨k.1, k.2.1⟩) ?_
 intro w3 hx2; replace hI := hI.ext hx2
 refine sq (y_and rfl et et) ?_
 refine sm ?_
 refine s_gval (g_true rfl rfl rfl rfl) rfl (fun hc => y_fieldAddr rfl et u27 rfl size_25 rfl) ?_
 refine s_gval (g_true rfl rfl rfl rfl) rfl (fun hc => (y_load1 (v := (vs a3 a1.Vals.length c2)) rfl (ev_gv et hc) u25 rfl (hI.kblk (l := [vs a3 a1.Vals.length c2]) (.s .z) rfl).1)) ?_
 refine s_gval (g_true rfl rfl rfl rfl) rfl (fun hc => y_fieldAddr rfl et u27 rfl size_25 rfl) ?_
 refine s_gval (g_true rfl rfl rfl rfl) rfl (fun hc => (y_load1 (v := (vs a5 b1.Vals.length c4)) rfl (ev_gv et hc) u25 rfl (hI.kblk (l := [vs a5 b1.Vals.length c4]) .z rfl).1)) ?_
 obtain ⟨r2, hx3, h⟩ := bnd_some h
 replace hx3 := gd_some hx3
 refine s_gcallU (v := (vb r2)) (g_true rfl rfl rfl rfl) rfl (fun hc => (r_callF (vs := [vs a3 a1.Vals.length c2, vs a5 b1.Vals.length c4]) rfl ok_51 ⟨(ev_gv et hc), ⟨(ev_gv et hc), trivial⟩⟩)) (fun hc => (c_base_Vals (Dj F c8) w3 hI.lt a1.Vals b1.Vals a3 c2 a5 c4 ⟨(hI.get (.s (.s (.s .z)))), (hI.get (.s (.s (.s (.s (.s .z)))))), trivial⟩ r2 (hx3 hc)).mono fun _ _ k => ⟨k.1, k.2.1⟩) ?_
 intro w4 hx4; replace hI := hI.ext hx4
 refine sq (y_and rfl et et) ?_
 refine sa ?_
 refine nk (c_ret ?_)
 obtain rfl := some_inj h
 exact q_ret (vs := [(vb ((((decide (a1.Type_.Kind = b1.Type_.Kind)) && (decide (a1.Type_.Bits = b1.Type_.Bits)) && (decide (a1.Type_.Frac = b1.Type_.Frac)) && (decide (a1.Type_.Round = b1.Type_.Round)) && (decide (a1.Type_.Over = b1.Type_.Over))) && r1) && r2))]) Tryz.results16 ⟨ev_tmp rfl rfl, trivial⟩ (fq hI trivial)
theorem c_tensor_Set (F : NP) (w0 : World) (hF : ∀ k, F k → k < w0.heap.size) (t1 : GTensor) (v1 : GVal) (p1 : List Int) (a1 : Option Addr) (c1 : Nat) (a2 : Option Addr) (c2 : Nat) (a3 : Option Addr) (c3 : Nat) (hc : AllCl [Cl.sl (cInt .i64) a1 c1 t1.Dims, Cl.sl cGVal a2 c2 t1.Vals, Cl.sl (cInt .i64) a3 c3 p1] F w0) (r : GTensor × Int)
  (h : m_tensor_Set t1 v1 p1 = some r) :
  Calls Tryz.prog 19 #[(Value.agg (ATensor t1 a1 c1 a2 c2)), (Value.agg (AVal v1)), vs a3 p1.length c3] w0 fun e w => ∃ (a4 : Option Addr) (c4 : Nat) (a5 : Option Addr) (c5 : Nat), e = .returned (Value.tuple #[(Value.agg (ATensor r.1 a4 c4 a5 c5)), vi r.2]) ∧ Ext w0 w ∧ AllCl [Cl.sl (cInt .i64) a4 c4 r.1.Dims, Cl.sl cGVal a5 c5 r.1.Vals] F w := by
 refine enterK Tryz.func19 rfl Tryz.ntmps19 rfl ?_
 have hI := Bun.start hF hc
 clear hc
 rw [m_tensor_Set] at h
 refine sr (l_box (v := (Value.agg (ATensor t1 a1 c1 a2 c2))) (cs := (ATensor t1 a1 c1 a2 c2)) hI gn rfl rfl et rfl ?_)
 clear hI; intro b1 c6 w1 hI
 obtain ⟨c7, hI⟩ := hI.relBox .z
 refine l_box (v := (Value.agg (AVal v1))) (cs := (AVal v1)) hI gn rfl rfl et rfl ?_
 clear hI; intro b2 c8 w2 hI
 obtain ⟨c9, hI⟩ := hI.relBox .z
 refine l_alloc (cs := ZTensor) hI gn rfl rfl zero_27 rfl ?_
 clear hI; intro b3 c10 w3 hI
 refine sac ?_
 refine nk (sr (sq (y_loadN (l := (lTensor t1 a1 c1 a2 c2)) rfl et u27 rfl size_27 (hI.kblk (l := (lTensor t1 a1 c1 a2 c2)) (.s .z) rfl).1) ?_))
 refine sm ?_
 obtain ⟨r1, hx1, h⟩ := bnd_some h
 refine s_call gn rfl (r_callF (vs := [(Value.agg (ATensor t1 a1 c1 a2 c2)), vs a3 p1.length c3]) rfl ok_52 ⟨et, ⟨et, trivial⟩⟩) (Calls.mono (c_tensor_locate (Dj F c10) w3 hI.lt t1 p1 a1 c1 a2 c2 a3 c3 ⟨(hI.get (.s (.s .z))), (hI.get (.s (.s (.s .z)))), (hI.get (.s (.s (.s (.s .z))))), trivial⟩ r1 hx1) ?_)
 rintro _ w4 ⟨rfl, hx2, hl1⟩
 refine ⟨_, rfl, ?_⟩
 replace hI := (hI.ext hx2)
 refine sm ?_
 refine sq (y_extract rfl et rfl) ?_
 refine sq (y_extract rfl et rfl) ?_
 refine sa ?_
 refine sa ?_
 refine nk (c_seq (sr (sm ?_)))
 refine sq (y_neq rfl et ev_const) ?_
 refine nk (cif h et (fun hb h => ?_) (fun hb h => ?_))
 ·refine sr (sq (y_build (vs := []) (cs := ZTensor) rfl trivial (by kernel_rfl)) ?_)
  refine sm ?_
  refine l_store (new := zTensor) (cs' := ZTensor) hI .z gn rfl rfl et et rfl size_27 rfl rfl rfl ?_
  clear hI; intro c11 w5 hI
  refine sa ?_
  refine nk (c_ret ?_)
  have hI := hI.add (c := Cl.sl (cInt .i64) none 0 ([] : List Int)) SlC.nil
  have hI := hI.add (c := Cl.sl cGVal none 0 ([] : List GVal)) SlC.nil
  obtain rfl := some_inj h
  exact q_ret (vs := [(Value.agg ZTensor), vi r1.2]) Tryz.results19 ⟨⟨_, ev_tmp rfl rfl, load_agg (l := zTensor) u27 rfl size_27 (CellsAt.of_blk (hI.blk .z) rfl)⟩, ⟨ev_tmp rfl rfl, trivial⟩⟩ ⟨none, 0, none, 0, rfl, hI.ext0, hI.fin ⟨(.s .z), .z, trivial⟩⟩
 refine c_skip (k_same (c_seq (sr (sq (y_fieldAddr rfl et u27 rfl size_23 rfl) ?_))))
 refine sq (y_loadN (l := (lType t1.Type_)) rfl et u23 rfl size_23 (hI.kblk (l := (lType t1.Type_)) (.s .z) rfl).1) ?_
 refine sq (y_loadN (l := (lVal v1)) rfl et u36 rfl size_36 (hI.kblk (l := (lVal v1)) .z rfl).1) ?_
 obtain ⟨r2, hx3, h⟩ := bnd_some h
 refine s_call gn rfl (r_callF (vs := [(Value.agg (AType t1.Type_)), (Value.agg (AVal v1))]) rfl ok_54 ⟨et, ⟨et, trivial⟩⟩) (Calls.mono (c_value_Valid (Dj F c10) w4 hI.lt t1.Type_ v1 trivial r2 hx3) ?_)
 rintro _ w6 ⟨rfl, hx4, hl2⟩
 refine ⟨_, rfl, ?_⟩
 replace hI := (hI.ext hx4)
 refine sq (y_not rfl et) ?_
 refine nk (cif h et (fun hb h => ?_) (fun hb h => ?_))
 ·refine sr (sq (y_build (vs := []) (cs := ZTensor) rfl trivial (by kernel_rfl)) ?_)
  refine l_store (new := zTensor) (cs' := ZTensor) hI .z gn rfl rfl et et rfl size_27 rfl rfl rfl ?_
  clear hI; intro c12 w7 hI
  refine sac ?_
  refine nk (c_ret ?_)
  have hI := hI.add (c := Cl.sl (cInt .i64) none 0 ([] : List Int)) SlC.nil
  have hI := hI.add (c := Cl.sl cGVal none 0 ([] : List GVal)) SlC.nil
  obtain rfl := some_inj h
  exact q_ret (vs := [(Value.agg ZTensor), vi 1]) Tryz.results19 ⟨⟨_, ev_tmp rfl rfl, load_agg (l := zTensor) u27 rfl size_27 (CellsAt.of_blk (hI.blk .z) rfl)⟩, ⟨ev_tmp rfl rfl, trivial⟩⟩ ⟨none, 0, none, 0, rfl, hI.ext0, hI.fin ⟨(.s .z), .z, trivial⟩⟩
 refine c_skip (k_same (sr (sq (y_loadN (l := (lTensor t1 a1 c1 a2 c2)) rfl et u27 rfl size_27 (hI.kblk (l := (lTensor t1 a1 c1 a2 c2)) (.s .z) rfl).1) ?_)))
 obtain ⟨c13, f1, hB, hl3, hk1⟩ := hI.hands (.r .n)
 obtain ⟨r3, hx5, h⟩ := bnd_some h
 try dsimp only at h
 refine s_call gn rfl (r_callF (vs := [(Value.agg (ATensor t1 a1 c1 a2 c2))]) rfl ok_55 ⟨et, trivial⟩) (Calls.mono (c_tensor_clone_o c13 f1 w6 t1 a1 c1 a2 c2 (hB.subs ⟨(.s (.s .z)), (.s (.s (.s .z))), trivial⟩) _ hx5) ?_)
 rintro _ w8 ⟨a6, c14, a7, c15, c16, rfl, hB2⟩
 obtain ⟨c17, hs1, hI⟩ := hk1 _ _ _ _ hB2
 replace hI : Bun noM F w0 c17 w8 [MO.row (cInt .i64) 3 a6 c14 r3.Dims, MO.row cGVal 36 a7 c15 r3.Vals, MO.box b3 27 ZTensor] [Cl.blk b2 36 (AVal v1), Cl.blk b1 27 (ATensor t1 a1 c1 a2 c2), Cl.sl (cInt .i64) a1 c1 t1.Dims, Cl.sl cGVal a2 c2 t1.Vals, Cl.sl (cInt .i64) a3 c3 p1] := hI
 refine ⟨_, rfl, ?_⟩
 refine l_alloc (cs := ZTensor) hI gn rfl rfl zero_27 rfl ?_
 clear hI; intro b4 c18 w9 hI
 refine l_store (new := (lTensor r3 a6 c14 a7 c15)) (cs' := (ATensor r3 a6 c14 a7 c15)) hI .z gn rfl rfl et et rfl size_27 rfl rfl rfl ?_
 clear hI; intro c19 w10 hI
 refine nk (sr (sq (y_fieldAddr rfl et u27 rfl size_25 rfl) ?_))
 refine sq (y_load1 (v := (vs a7 r3.Vals.length c15)) rfl et u25 rfl (CellsAt.of_blk (hI.blk .z) rfl)) ?_
 refine sm ?_
 refine sq (y_loadN (l := (lVal v1)) rfl et u36 rfl size_36 (hI.kblk (l := (lVal v1)) .z rfl).1) ?_
 obtain ⟨ho1, h⟩ := chk_some h
 obtain ⟨ad1, hA1⟩ := hI.addr (.s (.s .z)) ho1
 refine sq (y_indexAddr rfl u25 size_36 et et ho1 hA1) ?_
 refine l_storeRow (p := Int.toNat r1.1) (new := (lVal v1)) (off := 0) (x' := v1) hI (.s (.s .z)) gn rfl rfl (by have := ho1; omega) hA1 rfl et et rfl size_36 rfl (by show 0 + 2 ≤ 2; omega) (fun _ cs0 _ hr0 => by rw [spl_full (by have e := Cod.len _ hr0; exact e)]; exact rfl) ?_
 clear hI; intro c20 w11 hI
 refine s_nil ?_
 replace hI : Bun noM F w0 c20 w11 [MO.box b4 27 #[vi r3.Type_.Kind, vi r3.Type_.Bits, vi r3.Type_.Frac, vi r3.Type_.Round, vi r3.Type_.Over, vs a6 r3.Dims.length c14, (vs a7 (r3.Vals.set (Int.toNat r1.1) v1).length c15)], MO.row (cInt .i64) 3 a6 c14 r3.Dims, MO.row cGVal 36 a7 c15 (r3.Vals.set (Int.toNat r1.1) v1), MO.box b3 27 ZTensor] [Cl.blk b2 36 (AVal v1), Cl.blk b1 27 (ATensor t1 a1 c1 a2 c2), Cl.sl (cInt .i64) a1 c1 t1.Dims, Cl.sl cGVal a2 c2 t1.Vals, Cl.sl (cInt .i64) a3 c3 p1] := by simpa only [List.length_set, List.cons_append, List.nil_append] using hI
 refine k_next (e := [(6, vp b3 0), (10, vp b4 0)]) ⟨rfl, rfl, trivial⟩ ?_
 refine sr (sq (y_loadN (l := [vi r3.Type_.Kind, vi r3.Type_.Bits, vi r3.Type_.Frac, vi r3.Type_.Round, vi r3.Type_.Over, vs a6 r3.Dims.length c14, (vs a7 (r3.Vals.set (Int.toNat r1.1) v1).length c15)]) rfl et u27 rfl size_27 (CellsAt.of_blk (hI.blk .z) rfl)) ?_)
 refine l_store (new := [vi r3.Type_.Kind, vi r3.Type_.Bits, vi r3.Type_.Frac, vi r3.Type_.Round, vi r3.Type_.Over, vs a6 r3.Dims.length c14, (vs a7 (r3.Vals.set (Int.toNat r1.1) v1).length c15)]) (cs' := #[vi r3.Type_.Kind, vi r3.Type_.Bits, vi r3.Type_.Frac, vi r3.Type_.Round, vi r3.Type_.Over, vs a6 r3.Dims.length c14, (vs a7 (r3.Vals.set (Int.toNat r1.1) v1).length c15)]) hI (.s (.s (.s .z))) gn rfl rfl et et rfl size_27 rfl rfl rfl ?_
 clear hI; intro c21 w12 hI
 refine sac ?_
 refine nk (c_ret ?_)
 obtain ⟨c22, hI⟩ := hI.release (.s .z)
 obtain ⟨c23, hI⟩ := hI.release (.s .z)
 obtain rfl := some_inj h
 exact q_ret (vs := [(Value.agg #[vi r3.Type_.Kind, vi r3.Type_.Bits, vi r3.Type_.Frac, vi r3.Type_.Round, vi r3.Type_.Over, vs a6 r3.Dims.length c14, (vs a7 (r3.Vals.set (Int.toNat r1.1) v1).length c15)]), vi 0]) Tryz.results19 ⟨⟨_, ev_tmp rfl rfl, load_agg (l := [vi r3.Type_.Kind, vi r3.Type_.Bits, vi r3.Type_.Frac, vi r3.Type_.Round, vi r3.Type_.Over, vs a6 r3.Dims.length c14, (vs a7 (r3.Vals.set (Int.toNat r1.1) v1).length c15)]) u27 rfl size_27 (CellsAt.of_blk (hI.blk (.s .z)) rfl)⟩, ⟨ev_tmp rfl rfl, trivial⟩⟩ ⟨a6, c14, a7, c15, rfl, hI.ext0, hI.fin ⟨(.s .z), .z, trivial⟩⟩
def tr_tensor_New_o_1_1 : Tr := (.c (7, .s) .n)
def tr_tensor_New_o_1_0 : Tr := (.c (4, .s) (.c (5, .q) tr_tensor_New_o_1_1))
theorem c_tensor_New_o (C0 F : NP) (w0 : World) (t1 : GType) (dims1 : List Int) (vals1 : List GVal) (a1 : Option Addr) (c1 : Nat) (a2 : Option Addr) (c2 : Nat) (hI : Bun C0 F w0 C0 w0 [] [Cl.sl (cInt .i64) a1 c1 dims1, Cl.sl cGVal a2 c2 vals1]) (r : (GTensor × Int))
  (h : m_tensor_New_o t1 dims1 vals1 = some r) :
  Calls Tryz.prog 21 #[(Value.agg (AType t1)), vs a1 dims1.length c1, vs a2 vals1.length c2] w0 fun e w => ∃ (a3 : Option Addr) (c3 : Nat) (a4 : Option Addr) (c4 : Nat) (C : NP), e = .returned (Value.tuple #[(Value.agg (ATensor r.1 a3 c3 a4 c4)), vi r.2]) ∧ Bun C0 F w0 C w [MO.row (cInt .i64) 3 a3 c3 r.1.Dims, MO.row cGVal 36 a4 c4 r.1.Vals] [] := by
 refine enterK Tryz.func21 rfl Tryz.ntmps21 rfl ?_
 rw [m_tensor_New_o] at h
 refine sr (l_box (v := (Value.agg (AType t1))) (cs := (AType t1)) hI gn rfl rfl et rfl ?_)
 clear hI; intro b1 c5 w1 hI
 obtain ⟨c6, hI⟩ := hI.relBox .z
 refine l_alloc (cs := ZTensor) hI gn rfl rfl zero_27 rfl ?_
 clear hI; intro b2 c7 w2 hI
 refine sac ?_
 refine nk (c_seq ?_)
 obtain ⟨zs1, hx1, h⟩ := bnd_some h
 obtain ⟨zs2, hx2, h⟩ := bnd_some h
 refine c_drawX [7] false (.c (0, .q) (.c (1, .q) (.c (3, .q) (.two 2 (.two 4 (.c (5, .q) (.c (6, .s) tr_tensor_New_o_1_1)) 6 tr_tensor_New_o_1_0) 6 (.c (2, .s) tr_tensor_New_o_1_0))))) hI (by kernel_rfl) (by kernel_rfl) ?_
 clear hI; intro w9 hI
 refine a_join (α := (Option Addr) × Nat × (Option Addr) × Nat × Nat × NP) (T := tr_tensor_New_o_1_1) (fun x => [(0, (Value.agg (AType t1))), (1, vs a1 dims1.length c1), (2, vs a2 vals1.length c2), (3, vp b1 0), (6, vp b2 0), (7, vi 0), (8, (Value.pointer (some ⟨(x.2.2.2.2.1), 0, none⟩))), (10, (Value.agg (AType t1))), (11, vs a1 dims1.length c1), (12, vs (x.1) zs1.length (x.2.1)), (13, vs a2 vals1.length c2), (14, vs (x.2.2.1) zs2.length (x.2.2.2.1)), (15, (Value.agg #[vi t1.Kind, vi t1.Bits, vi t1.Frac, vi t1.Round, vi t1.Over, vs (x.1) zs1.length (x.2.1), vs (x.2.2.1) zs2.length (x.2.2.2.1)]))]) (fun x w => Bun C0 F w0 (x.2.2.2.2.2) w [MO.row cGVal 36 (x.2.2.1) (x.2.2.2.1) zs2, MO.box (x.2.2.2.2.1) 27 ZTensor, MO.row (cInt .i64) 3 (x.1) (x.2.1) zs1, MO.box b2 27 ZTensor] [Cl.blk b1 23 (AType t1), Cl.sl (cInt .i64) a1 c1 dims1, Cl.sl cGVal a2 c2 vals1]) (fun x w => SN [7] (DM false F (x.2.2.2.2.2)) w) ?_ ?_
 ·clear hI; rintro ⟨a5, c8, a6, c10, b3, c15⟩ w8 hI
  try dsimp only at hI ⊢
  unfold tr_tensor_New_o_1_1
  refine a_turn (F := F) (C := c15) rfl rfl ?_
  refine la_store (new := [vi t1.Kind, vi t1.Bits, vi t1.Frac, vi t1.Round, vi t1.Over, vs a5 zs1.length c8, vs a6 zs2.length c10]) (cs' := #[vi t1.Kind, vi t1.Bits, vi t1.Frac, vi t1.Round, vi t1.Over, vs a5 zs1.length c8, vs a6 zs2.length c10]) hI (.s .z) rfl gn rfl rfl et et rfl size_27 rfl rfl rfl ?_
  clear hI; intro c13 w6 hI
  refine a_nil ?_
  refine k_same (c_seq (sr (sq (y_loadN (l := [vi t1.Kind, vi t1.Bits, vi t1.Frac, vi t1.Round, vi t1.Over, vs a5 zs1.length c8, vs a6 zs2.length c10]) rfl et u27 rfl size_27 (CellsAt.of_blk (hI.blk (.s .z)) rfl)) ?_)))
  obtain ⟨r1, hx3, h⟩ := bnd_some h
  refine s_call gn rfl (r_callF (vs := [(Value.agg #[vi t1.Kind, vi t1.Bits, vi t1.Frac, vi t1.Round, vi t1.Over, vs a5 zs1.length c8, vs a6 zs2.length c10])]) rfl ok_25 ⟨et, trivial⟩) (Calls.mono (c_tensor_Validate noM w6 (fun _ k => k.elim) (⟨t1, zs1, zs2⟩ : GTensor) a5 c8 a6 c10 ⟨hI.lend (.s (.s .z)), hI.lend .z, trivial⟩ r1 hx3) ?_)
  rintro _ w10 ⟨rfl, hx4, hl1⟩
  refine ⟨_, rfl, ?_⟩
  replace hI := (hI.ext hx4)
  refine sa ?_
  refine nk (sr (sm ?_))
  refine sq (y_neq rfl et ev_const) ?_
  refine nk (cif h et (fun hb h => ?_) (fun hb h => ?_))
  ·refine sr (sq (y_build (vs := []) (cs := ZTensor) rfl trivial (by kernel_rfl)) ?_)
   refine sm ?_
   refine l_store (new := zTensor) (cs' := ZTensor) hI (.s (.s (.s .z))) gn rfl rfl et et rfl size_27 rfl rfl rfl ?_
   clear hI; intro c16 w11 hI
   refine sa ?_
   refine nk (c_ret ?_)
   have hI := hI.nil (cInt .i64) 3 none
   have hI := hI.nil cGVal 36 none
   obtain rfl := some_inj h
   exact q_ret (vs := [(Value.agg #[vi 0, vi 0, vi 0, vi 0, vi 0, vs none ([] : List Int).length 0, vs none ([] : List GVal).length 0]), vi r1]) Tryz.results21 ⟨⟨_, ev_tmp rfl rfl, load_agg (l := zTensor) u27 rfl size_27 (CellsAt.of_blk (hI.blk (.s (.s (.s (.s (.s .z)))))) rfl)⟩, ⟨ev_tmp rfl rfl, trivial⟩⟩ ⟨none, 0, none, 0, _, rfl, hI.arr (.c (.s .z) (.c .z .n)) trivial⟩
  refine c_skip (k_same (sr (sq (y_loadN (l := [vi t1.Kind, vi t1.Bits, vi t1.Frac, vi t1.Round, vi t1.Over, vs a5 zs1.length c8, vs a6 zs2.length c10]) rfl et u27 rfl size_27 (CellsAt.of_blk (hI.blk (.s .z)) rfl)) ?_)))
  refine l_store (new := [vi t1.Kind, vi t1.Bits, vi t1.Frac, vi t1.Round, vi t1.Over, vs a5 zs1.length c8, vs a6 zs2.length c10]) (cs' := #[vi t1.Kind, vi t1.Bits, vi t1.Frac, vi t1.Round, vi t1.Over, vs a5 zs1.length c8, vs a6 zs2.length c10]) hI (.s (.s (.s .z))) gn rfl rfl et et rfl size_27 rfl rfl rfl ?_
  clear hI; intro c17 w12 hI
  refine sac ?_
  refine nk (c_ret ?_)
  obtain rfl := some_inj h
  exact q_ret (vs := [(Value.agg #[vi t1.Kind, vi t1.Bits, vi t1.Frac, vi t1.Round, vi t1.Over, vs a5 zs1.length c8, vs a6 zs2.length c10]), vi 0]) Tryz.results21 ⟨⟨_, ev_tmp rfl rfl, load_agg (l := [vi t1.Kind, vi t1.Bits, vi t1.Frac, vi t1.Round, vi t1.Over, vs a5 zs1.length c8, vs a6 zs2.length c10]) u27 rfl size_27 (CellsAt.of_blk (hI.blk (.s (.s (.s .z)))) rfl)⟩, ⟨ev_tmp rfl rfl, trivial⟩⟩ ⟨a5, c8, a6, c10, _, rfl, hI.arr (.c (.s (.s .z)) (.c .z .n)) trivial⟩
 intro hk_tr_tensor_New_o_1_1
 refine a_join (α := (Option Addr) × Nat × Nat × NP) (T := tr_tensor_New_o_1_0) (fun x => [(0, (Value.agg (AType t1))), (1, vs a1 dims1.length c1), (2, vs a2 vals1.length c2), (3, vp b1 0), (6, vp b2 0), (7, vi 0), (8, (Value.pointer (some ⟨(x.2.2.1), 0, none⟩))), (10, (Value.agg (AType t1))), (11, vs a1 dims1.length c1), (12, vs (x.1) zs1.length (x.2.1)), (13, vs a2 vals1.length c2)]) (fun x w => Bun C0 F w0 (x.2.2.2) w [MO.box (x.2.2.1) 27 ZTensor, MO.row (cInt .i64) 3 (x.1) (x.2.1) zs1, MO.box b2 27 ZTensor] [Cl.blk b1 23 (AType t1), Cl.sl (cInt .i64) a1 c1 dims1, Cl.sl cGVal a2 c2 vals1]) (fun x w => SN [7] (DM false F (x.2.2.2)) w) ?_ ?_
 ·clear hI; rintro ⟨a5, c8, b3, c14⟩ w7 hI
  try dsimp only at hI ⊢
  unfold tr_tensor_New_o_1_0
  replace hI := hI.nil cGVal 36 none
  refine la_appendX (ys := vals1) hI .z (hI.crd (.s (.s .z))) hx2 rfl gn rfl rfl u25 info_36 rfl rfl ev_const et ?_
  clear hI; intro a6 c10 c11 w4 hI
  refine a_q rfl gn rfl (fun w' => (y_build (vs := [(0, (Value.agg (AType t1))), (1, vs a5 zs1.length c8), (2, vs a6 zs2.length c10)]) (cs := #[vi t1.Kind, vi t1.Bits, vi t1.Frac, vi t1.Round, vi t1.Over, vs a5 zs1.length c8, vs a6 zs2.length c10]) rfl ⟨rfl, et, ⟨rfl, et, ⟨rfl, et, trivial⟩⟩⟩ (by kernel_rfl))) ?_
  exact a_sub (hk_tr_tensor_New_o_1_1 (a5, c8, a6, c10, b3, c11) _ (hI.arr (.c .z (.c .z (.c .z (.c .z .n)))) ⟨.z, (.s .z), (.s (.s .z)), trivial⟩)) ⟨rfl, rfl, rfl, rfl, rfl, rfl, rfl, rfl, rfl, rfl, rfl, rfl, rfl, trivial⟩
 intro hk_tr_tensor_New_o_1_0
 refine a_read rfl gn rfl (fun w' hw' => (y_loadN (l := (lType t1)) rfl et u23 rfl size_23 ((hI.kblk (l := (lType t1)) .z rfl).at_ (SX.any rfl hw')))) (by kernel_rfl) ?_
 refine a_q rfl gn rfl (fun w' => y_move rfl et) ?_
 refine a_q rfl gn rfl (fun w' => y_move rfl et) ?_
 refine a_two ?_ ?_
 ·skip
  replace hI := hI.nil (cInt .i64) 3 none
  refine la_appendX (ys := dims1) hI .z (hI.crd (.s .z)) hx1 rfl gn rfl rfl u24 info_3 rfl rfl ev_const et ?_
  clear hI; intro a5 c8 c9 w3 hI
  refine a_two ?_ ?_
  ·skip
   replace hI := hI.nil cGVal 36 none
   refine la_appendX (ys := vals1) hI .z (hI.crd (.s (.s .z))) hx2 rfl gn rfl rfl u25 info_36 rfl rfl ev_const et ?_
   clear hI; intro a6 c10 c11 w4 hI
   refine a_q rfl gn rfl (fun w' => (y_build (vs := [(0, (Value.agg (AType t1))), (1, vs a5 zs1.length c8), (2, vs a6 zs2.length c10)]) (cs := #[vi t1.Kind, vi t1.Bits, vi t1.Frac, vi t1.Round, vi t1.Over, vs a5 zs1.length c8, vs a6 zs2.length c10]) rfl ⟨rfl, et, ⟨rfl, et, ⟨rfl, et, trivial⟩⟩⟩ (by kernel_rfl))) ?_
   refine la_alloc (cs := ZTensor) hI rfl gn rfl rfl zero_27 rfl ?_
   clear hI; intro b3 c12 w5 hI
   exact a_sub (hk_tr_tensor_New_o_1_1 (a5, c8, a6, c10, b3, c12) _ (hI.arr (.c (.s .z) (.c .z (.c .z (.c .z .n)))) ⟨.z, (.s .z), (.s (.s .z)), trivial⟩)) ⟨rfl, rfl, rfl, rfl, rfl, rfl, rfl, rfl, rfl, rfl, rfl, rfl, rfl, trivial⟩
  refine la_alloc (cs := ZTensor) hI rfl gn rfl rfl zero_27 rfl ?_
  clear hI; intro b3 c12 w5 hI
  exact a_sub (hk_tr_tensor_New_o_1_0 (a5, c8, b3, c12) _ (hI.arr (.c .z (.c .z (.c .z .n))) ⟨.z, (.s .z), (.s (.s .z)), trivial⟩)) ⟨rfl, rfl, rfl, rfl, rfl, rfl, rfl, rfl, rfl, rfl, rfl, trivial⟩
 refine la_alloc (cs := ZTensor) hI rfl gn rfl rfl zero_27 rfl ?_
 clear hI; intro b3 c12 w5 hI
 replace hI := hI.nil (cInt .i64) 3 none
 refine la_appendX (ys := dims1) hI .z (hI.crd (.s .z)) hx1 rfl gn rfl rfl u24 info_3 rfl rfl ev_const et ?_
 clear hI; intro a5 c8 c9 w3 hI
 exact a_sub (hk_tr_tensor_New_o_1_0 (a5, c8, b3, c9) _ (hI.arr (.c (.s .z) (.c .z (.c .z .n))) ⟨.z, (.s .z), (.s (.s .z)), trivial⟩)) ⟨rfl, rfl, rfl, rfl, rfl, rfl, rfl, rfl, rfl, rfl, rfl, trivial⟩
def tr_tensor_Full_o_1_0 : Tr := (.c (5, .s) .n)
theorem c_tensor_Full_o (C0 F : NP) (w0 : World) (t1 : GType) (dims1 : List Int) (v1 : GVal) (a1 : Option Addr) (c1 : Nat) (hI : Bun C0 F w0 C0 w0 [] [Cl.sl (cInt .i64) a1 c1 dims1]) (r : (GTensor × Int))
  (h : m_tensor_Full_o t1 dims1 v1 = some r) :
  Calls Tryz.prog 23 #[(Value.agg (AType t1)), vs a1 dims1.length c1, (Value.agg (AVal v1))] w0 fun e w => ∃ (a2 : Option Addr) (c2 : Nat) (a3 : Option Addr) (c3 : Nat) (C : NP), e = .returned (Value.tuple #[(Value.agg (ATensor r.1 a2 c2 a3 c3)), vi r.2]) ∧ Bun C0 F w0 C w [MO.row (cInt .i64) 3 a2 c2 r.1.Dims, MO.row cGVal 36 a3 c3 r.1.Vals] [] := by
 refine enterK Tryz.func23 rfl Tryz.ntmps23 rfl ?_
 rw [m_tensor_Full_o] at h
 refine sr (l_box (v := (Value.agg (AType t1))) (cs := (AType t1)) hI gn rfl rfl et rfl ?_)
 clear hI; intro b1 c4 w1 hI
 obtain ⟨c5, hI⟩ := hI.relBox .z
 refine l_box (v := (Value.agg (AVal v1))) (cs := (AVal v1)) hI gn rfl rfl et rfl ?_
 clear hI; intro b2 c6 w2 hI
 obtain ⟨c7, hI⟩ := hI.relBox .z
 refine l_alloc (cs := ZTensor) hI gn rfl rfl zero_27 rfl ?_
 clear hI; intro b3 c8 w3 hI
 refine sac ?_
 refine nk (c_seq (sr (sq (y_loadN (l := (lType t1)) rfl et u23 rfl size_23 (hI.kblk (l := (lType t1)) (.s .z) rfl).1) ?_)))
 obtain ⟨r1, hx1, h⟩ := bnd_some h
 refine s_call gn rfl (r_callF (vs := [(Value.agg (AType t1))]) rfl ok_57 ⟨et, trivial⟩) (Calls.mono (c_value_ValidateType (Dj F c8) w3 hI.lt t1 trivial r1 hx1) ?_)
 rintro _ w4 ⟨rfl, hx2, hl1⟩
 refine ⟨_, rfl, ?_⟩
 replace hI := (hI.ext hx2)
 refine sa ?_
 refine nk (sr (sm ?_))
 refine sq (y_neq rfl et ev_const) ?_
 refine nk (cif h et (fun hb h => ?_) (fun hb h => ?_))
 ·refine sr (sq (y_build (vs := []) (cs := ZTensor) rfl trivial (by kernel_rfl)) ?_)
  refine sm ?_
  refine l_store (new := zTensor) (cs' := ZTensor) hI .z gn rfl rfl et et rfl size_27 rfl rfl rfl ?_
  clear hI; intro c9 w5 hI
  refine sa ?_
  refine nk (c_ret ?_)
  have hI := hI.nil (cInt .i64) 3 none
  have hI := hI.nil cGVal 36 none
  obtain rfl := some_inj h
  exact q_ret (vs := [(Value.agg #[vi 0, vi 0, vi 0, vi 0, vi 0, vs none ([] : List Int).length 0, vs none ([] : List GVal).length 0]), vi r1]) Tryz.results23 ⟨⟨_, ev_tmp rfl rfl, load_agg (l := zTensor) u27 rfl size_27 (CellsAt.of_blk (hI.blk (.s (.s .z))) rfl)⟩, ⟨ev_tmp rfl rfl, trivial⟩⟩ ⟨none, 0, none, 0, _, rfl, hI.arr (.c (.s .z) (.c .z .n)) trivial⟩
 refine c_skip (k_same (c_seq (sr (sm ?_))))
 obtain ⟨r2, hx3, h⟩ := bnd_some h
 refine s_call gn rfl (r_callF (vs := [vs a1 dims1.length c1]) rfl ok_58 ⟨et, trivial⟩) (Calls.mono (c_shape_Validate (Dj F c8) w4 hI.lt dims1 a1 c1 ⟨(hI.get (.s (.s .z))), trivial⟩ r2 hx3) ?_)
 rintro _ w6 ⟨rfl, hx4, hl2⟩
 refine ⟨_, rfl, ?_⟩
 replace hI := (hI.ext hx4)
 refine sa ?_
 refine nk (sr (sm ?_))
 refine sq (y_neq rfl et ev_const) ?_
 refine nk (cif h et (fun hb h => ?_) (fun hb h => ?_))
 ·refine sr (sq (y_build (vs := []) (cs := ZTensor) rfl trivial (by kernel_rfl)) ?_)
  refine sm ?_
  refine l_store (new := zTensor) (cs' := ZTensor) hI .z gn rfl rfl et et rfl size_27 rfl rfl rfl ?_
  clear hI; intro c10 w7 hI
  refine sa ?_
  refine nk (c_ret ?_)
  have hI := hI.nil (cInt .i64) 3 none
  have hI := hI.nil cGVal 36 none
  obtain rfl := some_inj h
  exact q_ret (vs := [(Value.agg #[vi 0, vi 0, vi 0, vi 0, vi 0, vs none ([] : List Int).length 0, vs none ([] : List GVal).length 0]), vi r2]) Tryz.results23 ⟨⟨_, ev_tmp rfl rfl, load_agg (l := zTensor) u27 rfl size_27 (CellsAt.of_blk (hI.blk (.s (.s .z))) rfl)⟩, ⟨ev_tmp rfl rfl, trivial⟩⟩ ⟨none, 0, none, 0, _, rfl, hI.arr (.c (.s .z) (.c .z .n)) trivial⟩
 refine c_skip (k_same (c_seq (sr (sq (y_loadN (l := (lType t1)) rfl et u23 rfl size_23 (hI.kblk (l := (lType t1)) (.s .z) rfl).1) ?_))))
 refine sq (y_loadN (l := (lVal v1)) rfl et u36 rfl size_36 (hI.kblk (l := (lVal v1)) .z rfl).1) ?_
 obtain ⟨r3, hx5, h⟩ := bnd_some h
 refine s_call gn rfl (r_callF (vs := [(Value.agg (AType t1)), (Value.agg (AVal v1))]) rfl ok_54 ⟨et, ⟨et, trivial⟩⟩) (Calls.mono (c_value_Valid (Dj F c8) w6 hI.lt t1 v1 trivial r3 hx5) ?_)
 rintro _ w8 ⟨rfl, hx6, hl3⟩
 refine ⟨_, rfl, ?_⟩
 replace hI := (hI.ext hx6)
 refine sq (y_not rfl et) ?_
 refine nk (cif h et (fun hb h => ?_) (fun hb h => ?_))
 ·refine sr (sq (y_build (vs := []) (cs := ZTensor) rfl trivial (by kernel_rfl)) ?_)
  refine l_store (new := zTensor) (cs' := ZTensor) hI .z gn rfl rfl et et rfl size_27 rfl rfl rfl ?_
  clear hI; intro c11 w9 hI
  refine sac ?_
  refine nk (c_ret ?_)
  have hI := hI.nil (cInt .i64) 3 none
  have hI := hI.nil cGVal 36 none
  obtain rfl := some_inj h
  exact q_ret (vs := [(Value.agg #[vi 0, vi 0, vi 0, vi 0, vi 0, vs none ([] : List Int).length 0, vs none ([] : List GVal).length 0]), vi 1]) Tryz.results23 ⟨⟨_, ev_tmp rfl rfl, load_agg (l := zTensor) u27 rfl size_27 (CellsAt.of_blk (hI.blk (.s (.s .z))) rfl)⟩, ⟨ev_tmp rfl rfl, trivial⟩⟩ ⟨none, 0, none, 0, _, rfl, hI.arr (.c (.s .z) (.c .z .n)) trivial⟩
 refine c_skip (k_same (c_seq ?_))
 obtain ⟨zs1, hx7, h⟩ := bnd_some h
 refine c_drawX [5] false (.c (0, .q) (.c (1, .q) (.two 2 (.c (3, .q) (.c (4, .s) tr_tensor_Full_o_1_0)) 4 (.c (2, .s) (.c (3, .q) tr_tensor_Full_o_1_0))))) hI (by kernel_rfl) (by kernel_rfl) ?_
 clear hI; intro w14 hI
 refine a_join (α := (Option Addr) × Nat × Nat × NP) (T := tr_tensor_Full_o_1_0) (fun x => [(0, (Value.agg (AType t1))), (1, vs a1 dims1.length c1), (2, (Value.agg (AVal v1))), (3, vp b1 0), (5, vp b2 0), (6, vp b3 0), (7, vi 0), (8, vi r1), (9, vi r2), (10, (Value.pointer (some ⟨(x.2.2.1), 0, none⟩))), (11, (Value.agg (AType t1))), (12, vi r1), (13, vi r1), (14, (vb (!decide (r1 = 0)))), (17, vs a1 dims1.length c1), (18, vi r2), (19, vi r2), (20, (vb (!decide (r2 = 0)))), (23, (Value.agg (AType t1))), (24, (Value.agg (AVal v1))), (25, vb r3), (26, vb (!r3)), (28, (Value.agg (AType t1))), (29, vs a1 dims1.length c1), (30, vs (x.1) zs1.length (x.2.1)), (31, (Value.agg #[vi t1.Kind, vi t1.Bits, vi t1.Frac, vi t1.Round, vi t1.Over, vs (x.1) zs1.length (x.2.1), vs none 0 0]))]) (fun x w => Bun C0 F w0 (x.2.2.2) w [MO.row (cInt .i64) 3 (x.1) (x.2.1) zs1, MO.box (x.2.2.1) 27 ZTensor, MO.box b3 27 ZTensor] [Cl.blk b2 36 (AVal v1), Cl.blk b1 23 (AType t1), Cl.sl (cInt .i64) a1 c1 dims1]) (fun x w => SN [5] (DM false F (x.2.2.2)) w) ?_ ?_
 ·clear hI; rintro ⟨a4, c12, b4, c16⟩ w13 hI
  try dsimp only at hI ⊢
  unfold tr_tensor_Full_o_1_0
  refine a_turn (F := F) (C := c16) rfl rfl ?_
  refine la_store (new := [vi t1.Kind, vi t1.Bits, vi t1.Frac, vi t1.Round, vi t1.Over, vs a4 zs1.length c12, vs none 0 0]) (cs' := #[vi t1.Kind, vi t1.Bits, vi t1.Frac, vi t1.Round, vi t1.Over, vs a4 zs1.length c12, vs none 0 0]) hI (.s .z) rfl gn rfl rfl et et rfl size_27 rfl rfl rfl ?_
  clear hI; intro c15 w12 hI
  refine a_nil ?_
  refine k_same (c_seq (sr (sm ?_)))
  obtain ⟨r4, hx8, h⟩ := bnd_some h
  refine s_call gn rfl (r_callF (vs := [vs a1 dims1.length c1]) rfl ok_59 ⟨et, trivial⟩) (Calls.mono (c_shape_Size (Dj F c15) w12 hI.lt dims1 a1 c1 ⟨(hI.get (.s (.s .z))), trivial⟩ r4 hx8) ?_)
  rintro _ w15 ⟨rfl, hx9, hl4⟩
  refine ⟨_, rfl, ?_⟩
  replace hI := (hI.ext hx9)
  refine sq (y_move rfl ev_const) ?_
  refine s_nil ?_
  refine k_next (e := [(5, vp b2 0), (6, vp b3 0), (10, vp b4 0), (33, vi r4), (34, vi 0)]) ⟨rfl, rfl, rfl, rfl, rfl, trivial⟩ ?_
  refine c_block ?_
  have hI := hI.nil cGVal 36 none
  refine c_loop (α := Nat × Int × GTensor × (Option Addr) × Nat × (Option Addr) × Nat) (fun x => fun w => ∃ C, Bun C0 F w0 C w [MO.row (cInt .i64) 3 (x.2.2.2.1) (x.2.2.2.2.1) (x.2.2.1).Dims, MO.row cGVal 36 (x.2.2.2.2.2.1) (x.2.2.2.2.2.2) (x.2.2.1).Vals, MO.box b3 27 ZTensor, MO.box b4 27 (ATensor (x.2.2.1) (x.2.2.2.1) (x.2.2.2.2.1) (x.2.2.2.2.2.1) (x.2.2.2.2.2.2))] [Cl.blk b2 36 (AVal v1)] ∧ m_tensor_Full_o_l1 r4 v1 (x.1) (x.2.1) (x.2.2.1) = some r) (fun x _ => x.1) (fun x => [(5, vp b2 0), (6, vp b3 0), (10, vp b4 0), (33, vi r4), (34, vi (x.2.1))]) (fu, 0, (⟨t1, zs1, ([] : List GVal)⟩ : GTensor), a4, c12, none, 0) ⟨_, hI.arr (.c (.s .z) (.c .z (.c (.s .z) (.c .z .n)))) ⟨.z, trivial⟩, h⟩ ⟨rfl, rfl, rfl, rfl, rfl, trivial⟩ ?_
  clear h hI; rintro ⟨fuel1, i1, out1, a5, c17, a6, c18⟩ w16 ⟨c19, hI, h⟩
  dsimp only at hI h
  rcases fuel1 with _ | fuel1
  ·rw [m_tensor_Full_o_l1] at h; cases h
  rw [m_tensor_Full_o_l1] at h
  refine c_sub (e := [(5, vp b2 0), (6, vp b3 0), (10, vp b4 0), (33, vi r4), (34, vi i1)]) ⟨rfl, rfl, rfl, rfl, rfl, trivial⟩ ?_
  refine sr (sq (y_lss rfl et et) ?_)
  refine nk (c_seq (cif h et (fun hb h => ?_) (fun hb h => ?_)))
  ·refine c_skip (k_same (c_seq (c_block (c_region rfl ?_))))
   refine sq (y_fieldAddr rfl et u27 rfl size_25 rfl) ?_
   refine sq (y_load1 (v := (vs a6 out1.Vals.length c18)) rfl et u25 rfl (CellsAt.of_blk (hI.blk (.s (.s (.s .z)))) rfl)) ?_
   refine sq (y_loadN (l := (lVal v1)) rfl et u36 rfl size_36 (hI.kblk (l := (lVal v1)) .z rfl).1) ?_
   refine l_lit (c := cGVal) (xs := ([v1] : List GVal)) (vs := [(0, (Value.agg (AVal v1)))]) (cs := (AVal v1)) (css := [(lVal v1)]) hI gn rfl rfl u25 info_36 rfl ⟨rfl, et, trivial⟩ (by kernel_rfl) ⟨rfl, trivial⟩ rfl rfl rfl ?_
   clear hI; intro b5 c20 w17 hI
   obtain ⟨zs2, hx10, h⟩ := bnd_some h
   refine l_append (xs := out1.Vals) (ys := ([v1] : List GVal)) hI (.s (.s .z)) (hI.rd .z) hx10 gn rfl rfl u25 info_36 rfl rfl et et ?_
   clear hI; intro a7 c21 c22 w18 hI
   refine sq (y_fieldAddr rfl et u27 rfl size_25 rfl) ?_
   refine l_store (new := [vs a7 zs2.length c21]) (cs' := #[vi out1.Type_.Kind, vi out1.Type_.Bits, vi out1.Type_.Frac, vi out1.Type_.Round, vi out1.Type_.Over, vs a5 out1.Dims.length c17, vs a7 zs2.length c21]) hI (.s (.s (.s (.s .z)))) gn rfl rfl et et rfl size_25 rfl rfl rfl ?_
   clear hI; intro c23 w19 hI
   refine nk (c_region rfl ?_)
   refine sq (y_add rfl et ev_const) ?_
   refine sm ?_
   refine s_nil ?_
   exact k_loop (fuel1, wi64 (i1 + 1), (⟨out1.Type_, out1.Dims, zs2⟩ : GTensor), a5, c17, a7, c21) ⟨rfl, rfl, rfl, rfl, rfl, trivial⟩ ⟨_, hI.arr (.c (.s .z) (.c (.s .z) (.c (.s .z) (.c (.s .z) .n)))) ⟨.z, trivial⟩, h⟩ (Nat.lt_succ_self _)
  refine c_exit ?_
  refine k_in ?_
  refine k_same (sr (sq (y_loadN (l := (lTensor out1 a5 c17 a6 c18)) rfl et u27 rfl size_27 (CellsAt.of_blk (hI.blk (.s (.s (.s .z)))) rfl)) ?_))
  refine l_store (new := (lTensor out1 a5 c17 a6 c18)) (cs' := (ATensor out1 a5 c17 a6 c18)) hI (.s (.s .z)) gn rfl rfl et et rfl size_27 rfl rfl rfl ?_
  clear hI; intro c24 w20 hI
  refine sac ?_
  refine nk (c_ret ?_)
  obtain rfl := some_inj h
  exact q_ret (vs := [(Value.agg (ATensor out1 a5 c17 a6 c18)), vi 0]) Tryz.results23 ⟨⟨_, ev_tmp rfl rfl, load_agg (l := (lTensor out1 a5 c17 a6 c18)) u27 rfl size_27 (CellsAt.of_blk (hI.blk (.s (.s .z))) rfl)⟩, ⟨ev_tmp rfl rfl, trivial⟩⟩ ⟨a5, c17, a6, c18, _, rfl, hI.arr (.c .z (.c .z .n)) trivial⟩
 intro hk_tr_tensor_Full_o_1_0
 refine a_read rfl gn rfl (fun w' hw' => (y_loadN (l := (lType t1)) rfl et u23 rfl size_23 ((hI.kblk (l := (lType t1)) (.s .z) rfl).at_ (SX.any rfl hw')))) (by kernel_rfl) ?_
 refine a_q rfl gn rfl (fun w' => y_move rfl et) ?_
 refine a_two ?_ ?_
 ·skip
  replace hI := hI.nil (cInt .i64) 3 none
  refine la_appendX (ys := dims1) hI .z (hI.crd (.s (.s .z))) hx7 rfl gn rfl rfl u24 info_3 rfl rfl ev_const et ?_
  clear hI; intro a4 c12 c13 w10 hI
  refine a_q rfl gn rfl (fun w' => (y_build (vs := [(0, (Value.agg (AType t1))), (1, vs a4 zs1.length c12)]) (cs := #[vi t1.Kind, vi t1.Bits, vi t1.Frac, vi t1.Round, vi t1.Over, vs a4 zs1.length c12, vs none 0 0]) rfl ⟨rfl, et, ⟨rfl, et, trivial⟩⟩ (by kernel_rfl))) ?_
  refine la_alloc (cs := ZTensor) hI rfl gn rfl rfl zero_27 rfl ?_
  clear hI; intro b4 c14 w11 hI
  exact a_sub (hk_tr_tensor_Full_o_1_0 (a4, c12, b4, c14) _ (hI.arr (.c (.s .z) (.c .z (.c .z .n))) ⟨.z, (.s .z), (.s (.s .z)), trivial⟩)) ⟨rfl, rfl, rfl, rfl, rfl, rfl, rfl, rfl, rfl, rfl, rfl, rfl, rfl, rfl, rfl, rfl, rfl, rfl, rfl, rfl, rfl, rfl, rfl, rfl, rfl, rfl, trivial⟩
 refine la_alloc (cs := ZTensor) hI rfl gn rfl rfl zero_27 rfl ?_
 clear hI; intro b4 c14 w11 hI
 replace hI := hI.nil (cInt .i64) 3 none
 refine la_appendX (ys := dims1) hI .z (hI.crd (.s (.s .z))) hx7 rfl gn rfl rfl u24 info_3 rfl rfl ev_const et ?_
 clear hI; intro a4 c12 c13 w10 hI
 refine a_q rfl gn rfl (fun w' => (y_build (vs := [(0, (Value.agg (AType t1))), (1, vs a4 zs1.length c12)]) (cs := #[vi t1.Kind, vi t1.Bits, vi t1.Frac, vi t1.Round, vi t1.Over, vs a4 zs1.length c12, vs none 0 0]) rfl ⟨rfl, et, ⟨rfl, et, trivial⟩⟩ (by kernel_rfl))) ?_
 exact a_sub (hk_tr_tensor_Full_o_1_0 (a4, c12, b4, c13) _ (hI.arr (.c .z (.c .z (.c .z .n))) ⟨.z, (.s .z), (.s (.s .z)), trivial⟩)) ⟨rfl, rfl, rfl, rfl, rfl, rfl, rfl, rfl, rfl, rfl, rfl, rfl, rfl, rfl, rfl, rfl, rfl, rfl, rfl, rfl, rfl, rfl, rfl, rfl, rfl, rfl, trivial⟩
theorem c_tensor_Set_o (C0 F : NP) (w0 : World) (t1 : GTensor) (v1 : GVal) (p1 : List Int) (a1 : Option Addr) (c1 : Nat) (a2 : Option Addr) (c2 : Nat) (a3 : Option Addr) (c3 : Nat) (hI : Bun C0 F w0 C0 w0 [] [Cl.sl (cInt .i64) a1 c1 t1.Dims, Cl.sl cGVal a2 c2 t1.Vals, Cl.sl (cInt .i64) a3 c3 p1]) (r : (GTensor × Int))
  (h : m_tensor_Set_o t1 v1 p1 = some r) :
  Calls Tryz.prog 19 #[(Value.agg (ATensor t1 a1 c1 a2 c2)), (Value.agg (AVal v1)), vs a3 p1.length c3] w0 fun e w => ∃ (a4 : Option Addr) (c4 : Nat) (a5 : Option Addr) (c5 : Nat) (C : NP), e = .returned (Value.tuple #[(Value.agg (ATensor r.1 a4 c4 a5 c5)), vi r.2]) ∧ Bun C0 F w0 C w [MO.row (cInt .i64) 3 a4 c4 r.1.Dims, MO.row cGVal 36 a5 c5 r.1.Vals] [] := by
 refine enterK Tryz.func19 rfl Tryz.ntmps19 rfl ?_
 rw [m_tensor_Set_o] at h
 refine sr (l_box (v := (Value.agg (ATensor t1 a1 c1 a2 c2))) (cs := (ATensor t1 a1 c1 a2 c2)) hI gn rfl rfl et rfl ?_)
 clear hI; intro b1 c6 w1 hI
 obtain ⟨c7, hI⟩ := hI.relBox .z
 refine l_box (v := (Value.agg (AVal v1))) (cs := (AVal v1)) hI gn rfl rfl et rfl ?_
 clear hI; intro b2 c8 w2 hI
 obtain ⟨c9, hI⟩ := hI.relBox .z
 refine l_alloc (cs := ZTensor) hI gn rfl rfl zero_27 rfl ?_
 clear hI; intro b3 c10 w3 hI
 refine sac ?_
 refine nk (sr (sq (y_loadN (l := (lTensor t1 a1 c1 a2 c2)) rfl et u27 rfl size_27 (hI.kblk (l := (lTensor t1 a1 c1 a2 c2)) (.s .z) rfl).1) ?_))
 refine sm ?_
 obtain ⟨r1, hx1, h⟩ := bnd_some h
 refine s_call gn rfl (r_callF (vs := [(Value.agg (ATensor t1 a1 c1 a2 c2)), vs a3 p1.length c3]) rfl ok_52 ⟨et, ⟨et, trivial⟩⟩) (Calls.mono (c_tensor_locate (Dj F c10) w3 hI.lt t1 p1 a1 c1 a2 c2 a3 c3 ⟨(hI.get (.s (.s .z))), (hI.get (.s (.s (.s .z)))), (hI.get (.s (.s (.s (.s .z))))), trivial⟩ r1 hx1) ?_)
 rintro _ w4 ⟨rfl, hx2, hl1⟩
 refine ⟨_, rfl, ?_⟩
 replace hI := (hI.ext hx2)
 refine sm ?_
 refine sq (y_extract rfl et rfl) ?_
 refine sq (y_extract rfl et rfl) ?_
 refine sa ?_
 refine sa ?_
 refine nk (c_seq (sr (sm ?_)))
 refine sq (y_neq rfl et ev_const) ?_
 refine nk (cif h et (fun hb h => ?_) (fun hb h => ?_))
 ·refine sr (sq (y_build (vs := []) (cs := ZTensor) rfl trivial (by kernel_rfl)) ?_)
  refine sm ?_
  refine l_store (new := zTensor) (cs' := ZTensor) hI .z gn rfl rfl et et rfl size_27 rfl rfl rfl ?_
  clear hI; intro c11 w5 hI
  refine sa ?_
  refine nk (c_ret ?_)
  have hI := hI.nil (cInt .i64) 3 none
  have hI := hI.nil cGVal 36 none
  obtain rfl := some_inj h
  exact q_ret (vs := [(Value.agg #[vi 0, vi 0, vi 0, vi 0, vi 0, vs none ([] : List Int).length 0, vs none ([] : List GVal).length 0]), vi r1.2]) Tryz.results19 ⟨⟨_, ev_tmp rfl rfl, load_agg (l := zTensor) u27 rfl size_27 (CellsAt.of_blk (hI.blk (.s (.s .z))) rfl)⟩, ⟨ev_tmp rfl rfl, trivial⟩⟩ ⟨none, 0, none, 0, _, rfl, hI.arr (.c (.s .z) (.c .z .n)) trivial⟩
 refine c_skip (k_same (c_seq (sr (sq (y_fieldAddr rfl et u27 rfl size_23 rfl) ?_))))
 refine sq (y_loadN (l := (lType t1.Type_)) rfl et u23 rfl size_23 (hI.kblk (l := (lType t1.Type_)) (.s .z) rfl).1) ?_
 refine sq (y_loadN (l := (lVal v1)) rfl et u36 rfl size_36 (hI.kblk (l := (lVal v1)) .z rfl).1) ?_
 obtain ⟨r2, hx3, h⟩ := bnd_some h
 refine s_call gn rfl (r_callF (vs := [(Value.agg (AType t1.Type_)), (Value.agg (AVal v1))]) rfl ok_54 ⟨et, ⟨et, trivial⟩⟩) (Calls.mono (c_value_Valid (Dj F c10) w4 hI.lt t1.Type_ v1 trivial r2 hx3) ?_)
 rintro _ w6 ⟨rfl, hx4, hl2⟩
 refine ⟨_, rfl, ?_⟩
 replace hI := (hI.ext hx4)
 refine sq (y_not rfl et) ?_
 refine nk (cif h et (fun hb h => ?_) (fun hb h => ?_))
 ·refine sr (sq (y_build (vs := []) (cs := ZTensor) rfl trivial (by kernel_rfl)) ?_)
  refine l_store (new := zTensor) (cs' := ZTensor) hI .z gn rfl rfl et et rfl size_27 rfl rfl rfl ?_
  clear hI; intro c12 w7 hI
  refine sac ?_
  refine nk (c_ret ?_)
  have hI := hI.nil (cInt .i64) 3 none
  have hI := hI.nil cGVal 36 none
  obtain rfl := some_inj h
  exact q_ret (vs := [(Value.agg #[vi 0, vi 0, vi 0, vi 0, vi 0, vs none ([] : List Int).length 0, vs none ([] : List GVal).length 0]), vi 1]) Tryz.results19 ⟨⟨_, ev_tmp rfl rfl, load_agg (l := zTensor) u27 rfl size_27 (CellsAt.of_blk (hI.blk (.s (.s .z))) rfl)⟩, ⟨ev_tmp rfl rfl, trivial⟩⟩ ⟨none, 0, none, 0, _, rfl, hI.arr (.c (.s .z) (.c .z .n)) trivial⟩
 refine c_skip (k_same (sr (sq (y_loadN (l := (lTensor t1 a1 c1 a2 c2)) rfl et u27 rfl size_27 (hI.kblk (l := (lTensor t1 a1 c1 a2 c2)) (.s .z) rfl).1) ?_)))
 obtain ⟨c13, f1, hB, hl3, hk1⟩ := hI.hands (.r .n)
 obtain ⟨r3, hx5, h⟩ := bnd_some h
 try dsimp only at h
 refine s_call gn rfl (r_callF (vs := [(Value.agg (ATensor t1 a1 c1 a2 c2))]) rfl ok_55 ⟨et, trivial⟩) (Calls.mono (c_tensor_clone_o c13 f1 w6 t1 a1 c1 a2 c2 (hB.subs ⟨(.s (.s .z)), (.s (.s (.s .z))), trivial⟩) _ hx5) ?_)
 rintro _ w8 ⟨a6, c14, a7, c15, c16, rfl, hB2⟩
 obtain ⟨c17, hs1, hI⟩ := hk1 _ _ _ _ hB2
 replace hI : Bun C0 F w0 c17 w8 [MO.row (cInt .i64) 3 a6 c14 r3.Dims, MO.row cGVal 36 a7 c15 r3.Vals, MO.box b3 27 ZTensor] [Cl.blk b2 36 (AVal v1), Cl.blk b1 27 (ATensor t1 a1 c1 a2 c2), Cl.sl (cInt .i64) a1 c1 t1.Dims, Cl.sl cGVal a2 c2 t1.Vals, Cl.sl (cInt .i64) a3 c3 p1] := hI
 refine ⟨_, rfl, ?_⟩
 refine l_alloc (cs := ZTensor) hI gn rfl rfl zero_27 rfl ?_
 clear hI; intro b4 c18 w9 hI
 refine l_store (new := (lTensor r3 a6 c14 a7 c15)) (cs' := (ATensor r3 a6 c14 a7 c15)) hI .z gn rfl rfl et et rfl size_27 rfl rfl rfl ?_
 clear hI; intro c19 w10 hI
 refine nk (sr (sq (y_fieldAddr rfl et u27 rfl size_25 rfl) ?_))
 refine sq (y_load1 (v := (vs a7 r3.Vals.length c15)) rfl et u25 rfl (CellsAt.of_blk (hI.blk .z) rfl)) ?_
 refine sm ?_
 refine sq (y_loadN (l := (lVal v1)) rfl et u36 rfl size_36 (hI.kblk (l := (lVal v1)) .z rfl).1) ?_
 obtain ⟨ho1, h⟩ := chk_some h
 obtain ⟨ad1, hA1⟩ := hI.addr (.s (.s .z)) ho1
 refine sq (y_indexAddr rfl u25 size_36 et et ho1 hA1) ?_
 refine l_storeRow (p := Int.toNat r1.1) (new := (lVal v1)) (off := 0) (x' := v1) hI (.s (.s .z)) gn rfl rfl (by have := ho1; omega) hA1 rfl et et rfl size_36 rfl (by show 0 + 2 ≤ 2; omega) (fun _ cs0 _ hr0 => by rw [spl_full (by have e := Cod.len _ hr0; exact e)]; exact rfl) ?_
 clear hI; intro c20 w11 hI
 refine s_nil ?_
 replace hI : Bun C0 F w0 c20 w11 [MO.box b4 27 #[vi r3.Type_.Kind, vi r3.Type_.Bits, vi r3.Type_.Frac, vi r3.Type_.Round, vi r3.Type_.Over, vs a6 r3.Dims.length c14, (vs a7 (r3.Vals.set (Int.toNat r1.1) v1).length c15)], MO.row (cInt .i64) 3 a6 c14 r3.Dims, MO.row cGVal 36 a7 c15 (r3.Vals.set (Int.toNat r1.1) v1), MO.box b3 27 ZTensor] [Cl.blk b2 36 (AVal v1), Cl.blk b1 27 (ATensor t1 a1 c1 a2 c2), Cl.sl (cInt .i64) a1 c1 t1.Dims, Cl.sl cGVal a2 c2 t1.Vals, Cl.sl (cInt .i64) a3 c3 p1] := by simpa only [List.length_set, List.cons_append, List.nil_append] using hI
 refine k_next (e := [(6, vp b3 0), (10, vp b4 0)]) ⟨rfl, rfl, trivial⟩ ?_
 refine sr (sq (y_loadN (l := [vi r3.Type_.Kind, vi r3.Type_.Bits, vi r3.Type_.Frac, vi r3.Type_.Round, vi r3.Type_.Over, vs a6 r3.Dims.length c14, (vs a7 (r3.Vals.set (Int.toNat r1.1) v1).length c15)]) rfl et u27 rfl size_27 (CellsAt.of_blk (hI.blk .z) rfl)) ?_)
 refine l_store (new := [vi r3.Type_.Kind, vi r3.Type_.Bits, vi r3.Type_.Frac, vi r3.Type_.Round, vi r3.Type_.Over, vs a6 r3.Dims.length c14, (vs a7 (r3.Vals.set (Int.toNat r1.1) v1).length c15)]) (cs' := #[vi r3.Type_.Kind, vi r3.Type_.Bits, vi r3.Type_.Frac, vi r3.Type_.Round, vi r3.Type_.Over, vs a6 r3.Dims.length c14, (vs a7 (r3.Vals.set (Int.toNat r1.1) v1).length c15)]) hI (.s (.s (.s .z))) gn rfl rfl et et rfl size_27 rfl rfl rfl ?_
 clear hI; intro c21 w12 hI
 refine sac ?_
 refine nk (c_ret ?_)
 obtain rfl := some_inj h
 exact q_ret (vs := [(Value.agg #[vi r3.Type_.Kind, vi r3.Type_.Bits, vi r3.Type_.Frac, vi r3.Type_.Round, vi r3.Type_.Over, vs a6 r3.Dims.length c14, (vs a7 (r3.Vals.set (Int.toNat r1.1) v1).length c15)]), vi 0]) Tryz.results19 ⟨⟨_, ev_tmp rfl rfl, load_agg (l := [vi r3.Type_.Kind, vi r3.Type_.Bits, vi r3.Type_.Frac, vi r3.Type_.Round, vi r3.Type_.Over, vs a6 r3.Dims.length c14, (vs a7 (r3.Vals.set (Int.toNat r1.1) v1).length c15)]) u27 rfl size_27 (CellsAt.of_blk (hI.blk (.s (.s (.s .z)))) rfl)⟩, ⟨ev_tmp rfl rfl, trivial⟩⟩ ⟨a6, c14, a7, c15, _, rfl, hI.arr (.c (.s .z) (.c (.s .z) .n)) trivial⟩
def tr_law12_TensorIndependent_1_0 : Tr := (.c (12, .s) (.c (13, .q) .n))
theorem c_law12_TensorIndependent (F : NP) (w0 : World) (hF : ∀ k, F k → k < w0.heap.size) (t1 : GTensor) (v1 : GVal) (p1 : List Int) (a1 : Option Addr) (c1 : Nat) (a2 : Option Addr) (c2 : Nat) (a3 : Option Addr) (c3 : Nat) (hc : AllCl [Cl.sl (cInt .i64) a1 c1 t1.Dims, Cl.sl cGVal a2 c2 t1.Vals, Cl.sl (cInt .i64) a3 c3 p1, clPow10] F w0) (r : Bool)
  (h : m_law12_TensorIndependent t1 v1 p1 = some r) :
  Calls Tryz.prog 7 #[(Value.agg (ATensor t1 a1 c1 a2 c2)), (Value.agg (AVal v1)), vs a3 p1.length c3] w0 fun e w => e = .returned (vb r) ∧ Ext w0 w ∧ AllCl [] F w := by
 refine enterK Tryz.func7 rfl Tryz.ntmps7 rfl ?_
 have hI := Bun.start hF hc
 clear hc
 rw [m_law12_TensorIndependent] at h
 refine sr (l_box (v := (Value.agg (ATensor t1 a1 c1 a2 c2))) (cs := (ATensor t1 a1 c1 a2 c2)) hI gn rfl rfl et rfl ?_)
 clear hI; intro b1 c4 w1 hI
 obtain ⟨c5, hI⟩ := hI.relBox .z
 refine l_box (v := (Value.agg (AVal v1))) (cs := (AVal v1)) hI gn rfl rfl et rfl ?_
 clear hI; intro b2 c6 w2 hI
 obtain ⟨c7, hI⟩ := hI.relBox .z
 refine sac ?_
 refine nk (c_seq (sr (sq (y_loadN (l := (lTensor t1 a1 c1 a2 c2)) rfl et u27 rfl size_27 (hI.kblk (l := (lTensor t1 a1 c1 a2 c2)) (.s .z) rfl).1) ?_)))
 obtain ⟨r1, hx1, h⟩ := bnd_some h
 refine s_call gn rfl (r_callF (vs := [(Value.agg (ATensor t1 a1 c1 a2 c2)), vi 500]) rfl ok_12 ⟨et, ⟨ev_const, trivial⟩⟩) (Calls.mono (c_law12_Small (Dj F c7) w2 hI.lt t1 500 a1 c1 a2 c2 ⟨(hI.get (.s (.s .z))), (hI.get (.s (.s (.s .z)))), trivial⟩ r1 hx1) ?_)
 rintro _ w3 ⟨rfl, hx2, hl1⟩
 refine ⟨_, rfl, ?_⟩
 replace hI := (hI.ext hx2)
 refine sq (y_not rfl et) ?_
 refine sm ?_
 refine s_gval (g_false rfl rfl rfl rfl) rfl (fun hc => y_move rfl et) ?_
 refine s_gval (g_false rfl rfl rfl rfl) rfl (fun hc => y_lenl rfl u24 (ev_gv et hc)) ?_
 refine s_gval (g_false rfl rfl rfl rfl) rfl (fun hc => y_gtr rfl (ev_gv et hc) ev_const) ?_
 refine sq (y_or rfl et et) ?_
 refine sm ?_
 refine s_gval (g_false rfl rfl rfl rfl) rfl (fun hc => (y_loadN (l := (lTensor t1 a1 c1 a2 c2)) rfl et u27 rfl size_27 (hI.kblk (l := (lTensor t1 a1 c1 a2 c2)) (.s .z) rfl).1)) ?_
 obtain ⟨r2, hx3, h⟩ := bnd_some h
 replace hx3 := gd_some hx3
 refine s_gcallU (v := (vi r2)) (g_false rfl rfl rfl rfl) rfl (fun hc => (r_callF (vs := [(Value.agg (ATensor t1 a1 c1 a2 c2))]) rfl ok_26 ⟨(ev_gv et hc), trivial⟩)) (fun hc => (c_ref12_Validate (Dj F c7) w3 hI.lt t1 a1 c1 a2 c2 ⟨(hI.get (.s (.s .z))), (hI.get (.s (.s (.s .z)))), trivial⟩ r2 (hx3 hc)).mono fun _ _ k => ⟨k.1, k.2.1⟩) ?_
 intro w4 hx4; replace hI := hI.ext hx4
 refine s_gval (g_false rfl rfl rfl rfl) rfl (fun hc => y_neq rfl (ev_gv et hc) ev_const) ?_
 refine sq (y_or rfl et et) ?_
 refine nk (cif h et (fun hb h => ?_) (fun hb h => ?_))
 ·refine sr ?_
  obtain ⟨r3, hx5, h⟩ := bnd_some h
  refine s_call gn rfl (r_callF (vs := []) rfl ok_13 trivial) (Calls.mono (c_law12_examples (Dj F c7) w4 hI.lt ⟨(hI.get (.s (.s (.s (.s (.s .z)))))), trivial⟩ r3 hx5) ?_)
  rintro _ w5 ⟨rfl, hx6, hl3⟩
  refine ⟨_, rfl, ?_⟩
  replace hI := (hI.ext hx6)
  refine sa ?_
  refine nk (c_ret ?_)
  obtain rfl := some_inj h
  exact q_ret (vs := [vb r3]) Tryz.results7 ⟨ev_tmp rfl rfl, trivial⟩ (fq hI trivial)
 refine c_skip (k_same (sr (l_lit (c := (cInt .i64)) (xs := ([] : List Int)) (vs := []) (cs := #[]) (css := []) hI gn rfl rfl u24 info_3 rfl trivial (by kernel_rfl) trivial rfl rfl rfl ?_)))
 clear hI; intro b3 c8 w6 hI
 refine sq (y_fieldAddr rfl et u27 rfl size_24 rfl) ?_
 refine sq (y_load1 (v := (vs a1 t1.Dims.length c1)) rfl et u24 rfl (hI.kblk (l := [vs a1 t1.Dims.length c1]) (.s .z) rfl).1) ?_
 obtain ⟨zs1, hx7, h⟩ := bnd_some h
 refine l_append (xs := ([] : List Int)) (ys := t1.Dims) hI .z (hI.crd (.s (.s .z))) hx7 gn rfl rfl u24 info_3 rfl rfl et et ?_
 clear hI; intro a4 c9 c10 w7 hI
 refine sa ?_
 refine nk (sr (l_lit (c := cGVal) (xs := ([] : List GVal)) (vs := []) (cs := #[]) (css := []) hI gn rfl rfl u25 info_36 rfl trivial (by kernel_rfl) trivial rfl rfl rfl ?_))
 clear hI; intro b4 c11 w8 hI
 refine sq (y_fieldAddr rfl et u27 rfl size_25 rfl) ?_
 refine sq (y_load1 (v := (vs a2 t1.Vals.length c2)) rfl et u25 rfl (hI.kblk (l := [vs a2 t1.Vals.length c2]) (.s .z) rfl).1) ?_
 obtain ⟨zs2, hx8, h⟩ := bnd_some h
 refine l_append (xs := ([] : List GVal)) (ys := t1.Vals) hI .z (hI.crd (.s (.s (.s .z)))) hx8 gn rfl rfl u25 info_36 rfl rfl et et ?_
 clear hI; intro a5 c12 c13 w9 hI
 refine sa ?_
 refine s_nil ?_
 refine k_next (e := [(2, vs a3 p1.length c3), (3, vp b1 0), (4, vp b2 0), (7, vs a4 zs1.length c9), (8, vs a5 zs2.length c12)]) ⟨rfl, rfl, rfl, rfl, rfl, trivial⟩ ?_
 refine sr (sq (y_fieldAddr rfl et u27 rfl size_23 rfl) ?_)
 refine sq (y_loadN (l := (lType t1.Type_)) rfl et u23 rfl size_23 (hI.kblk (l := (lType t1.Type_)) (.s .z) rfl).1) ?_
 refine sm ?_
 refine sm ?_
 obtain ⟨r4, hx9, h⟩ := bnd_some h
 try dsimp only at h
 refine s_call gn rfl (r_callF (vs := [(Value.agg (AType t1.Type_)), vs a4 zs1.length c9, vs a5 zs2.length c12]) rfl ok_21 ⟨et, ⟨et, ⟨et, trivial⟩⟩⟩) (Calls.mono (c_tensor_New_o noM noM w9 t1.Type_ zs1 zs2 a4 c9 a5 c12 (Bun.start (fun _ k => k.elim) ⟨hI.lend (.s .z), hI.lend .z, trivial⟩) _ hx9) ?_)
 rintro _ w10 ⟨a6, c14, a7, c15, c16, rfl, hB2⟩
 obtain ⟨c17, hs1, hI⟩ := hI.lendback (sl := [MO.row (cInt .i64) 3 a6 c14 r4.1.Dims, MO.row cGVal 36 a7 c15 r4.1.Vals]) ⟨row_flat (fun _ _ _ _ _ h => h), row_flat (fun _ _ _ _ _ h => h), trivial⟩ hB2
 replace hI : Bun noM F w0 c17 w10 [MO.row (cInt .i64) 3 a6 c14 r4.1.Dims, MO.row cGVal 36 a7 c15 r4.1.Vals, MO.row cGVal 36 a5 c12 zs2, MO.row (cInt .i64) 3 a4 c9 zs1] [Cl.blk b2 36 (AVal v1), Cl.blk b1 27 (ATensor t1 a1 c1 a2 c2), Cl.sl (cInt .i64) a1 c1 t1.Dims, Cl.sl cGVal a2 c2 t1.Vals, Cl.sl (cInt .i64) a3 c3 p1, clPow10] := hI
 refine ⟨_, rfl, ?_⟩
 refine sm ?_
 refine sq (y_extract rfl et rfl) ?_
 refine sq (y_extract rfl et rfl) ?_
 refine l_alloc (cs := ZTensor) hI gn rfl rfl zero_27 rfl ?_
 clear hI; intro b5 c18 w11 hI
 refine l_store (new := (lTensor r4.1 a6 c14 a7 c15)) (cs' := (ATensor r4.1 a6 c14 a7 c15)) hI .z gn rfl rfl et et rfl size_27 rfl rfl rfl ?_
 clear hI; intro c19 w12 hI
 refine sa ?_
 refine nk (c_seq ?_)
 obtain ⟨e1, hx10, h⟩ := bnd_some h
 obtain ⟨r5, hx11, h⟩ := bnd_some h
 refine c_drawX [7, 12] false (.c (0, .q) (.c (1, .q) (.c (2, .q) (.c (3, .q) (.c (4, .q) (.c (5, .q) (.c (6, .q) (.two 7 (.c (8, .q) (.c (9, .q) (.c (10, .q) (.c (11, .s) tr_law12_TensorIndependent_1_0)))) 11 (.c (7, .s) (.c (8, .q) (.c (9, .q) (.c (10, .q) tr_law12_TensorIndependent_1_0)))))))))))) hI (by kernel_rfl) (by kernel_rfl) ?_
 clear hI; intro w17 hI
 refine a_join (α := (Option Addr) × Nat × (Option Addr) × Nat × Nat × NP) (T := tr_law12_TensorIndependent_1_0) (fun x => [(2, vs a3 p1.length c3), (3, vp b1 0), (4, vp b2 0), (7, vs a4 zs1.length c9), (8, vs a5 zs2.length c12), (9, vp b5 0), (10, vi r4.2), (11, (Value.pointer (some ⟨(x.2.2.2.2.1), 0, none⟩))), (42, (Value.tuple #[(Value.agg (ATensor r4.1 a6 c14 a7 c15)), vi r4.2])), (43, vp b1 0), (44, (Value.agg (AType t1.Type_))), (45, vs a4 zs1.length c9), (46, vs a5 zs2.length c12), (47, (Value.tuple #[(Value.agg (ATensor r4.1 a6 c14 a7 c15)), vi r4.2])), (48, (Value.agg (ATensor r4.1 a6 c14 a7 c15))), (49, vi r4.2), (50, (Value.tuple #[(Value.agg (ATensor r5.1 (x.1) (x.2.1) (x.2.2.1) (x.2.2.2.1))), vi r5.2])), (51, vp b1 0), (52, (Value.agg (AType t1.Type_))), (53, vs a4 zs1.length c9), (54, vp b1 6), (55, vs a2 t1.Vals.length c2), (57, (Value.agg (AVal e1))), (58, (Value.tuple #[(Value.agg (ATensor r5.1 (x.1) (x.2.1) (x.2.2.1) (x.2.2.2.1))), vi r5.2])), (59, (Value.agg (ATensor r5.1 (x.1) (x.2.1) (x.2.2.1) (x.2.2.2.1)))), (60, vi r5.2)]) (fun x w => Bun noM F w0 (x.2.2.2.2.2) w [MO.row (cInt .i64) 3 (x.1) (x.2.1) r5.1.Dims, MO.row cGVal 36 (x.2.2.1) (x.2.2.2.1) r5.1.Vals, MO.box (x.2.2.2.2.1) 27 ZTensor, MO.box b5 27 (ATensor r4.1 a6 c14 a7 c15), MO.row (cInt .i64) 3 a6 c14 r4.1.Dims, MO.row cGVal 36 a7 c15 r4.1.Vals, MO.row cGVal 36 a5 c12 zs2, MO.row (cInt .i64) 3 a4 c9 zs1] [Cl.blk b2 36 (AVal v1), Cl.blk b1 27 (ATensor t1 a1 c1 a2 c2), Cl.sl (cInt .i64) a1 c1 t1.Dims, Cl.sl cGVal a2 c2 t1.Vals, Cl.sl (cInt .i64) a3 c3 p1, clPow10]) (fun x w => SN [] (DM true F (x.2.2.2.2.2)) w) ?_ ?_
 ·clear hI; rintro ⟨a8, c20, a9, c21, b6, c26⟩ w16 hI
  try dsimp only at hI ⊢
  unfold tr_law12_TensorIndependent_1_0
  refine la_store (new := (lTensor r5.1 a8 c20 a9 c21)) (cs' := (ATensor r5.1 a8 c20 a9 c21)) hI (.s (.s .z)) rfl gn rfl rfl et et rfl size_27 rfl rfl rfl ?_
  clear hI; intro c25 w15 hI
  refine a_q rfl gn rfl (fun w' => y_assign rfl et) ?_
  refine a_nil ?_
  refine k_same (sr (sq (y_loadN (l := (lTensor r4.1 a6 c14 a7 c15)) rfl et u27 rfl size_27 (CellsAt.of_blk (hI.blk (.s (.s (.s .z)))) rfl)) ?_))
  refine sq (y_loadN (l := (lVal v1)) rfl et u36 rfl size_36 (hI.kblk (l := (lVal v1)) .z rfl).1) ?_
  refine sm ?_
  obtain ⟨c27, hI⟩ := hI.release (.s (.s (.s (.s .z))))
  obtain ⟨c28, hI⟩ := hI.release (.s (.s (.s (.s .z))))
  obtain ⟨c29, f1, hB, hl4, hk1⟩ := hI.hands (.r (.r (.r (.r (.r (.r .n))))))
  obtain ⟨r6, hx12, h⟩ := bnd_some h
  try dsimp only at h
  refine s_call gn rfl (r_callF (vs := [(Value.agg (ATensor r4.1 a6 c14 a7 c15)), (Value.agg (AVal v1)), vs a3 p1.length c3]) rfl ok_19 ⟨et, ⟨et, ⟨et, trivial⟩⟩⟩) (Calls.mono (c_tensor_Set_o c29 f1 w15 r4.1 v1 p1 a6 c14 a7 c15 a3 c3 (hB.subs ⟨(.s .z), .z, (.s (.s (.s (.s (.s (.s .z)))))), trivial⟩) _ hx12) ?_)
  rintro _ w18 ⟨a10, c30, a11, c31, c32, rfl, hB2⟩
  obtain ⟨c33, hs3, hI⟩ := hk1 _ _ _ _ hB2
  replace hI : Bun noM F w0 c33 w18 [MO.row (cInt .i64) 3 a10 c30 r6.1.Dims, MO.row cGVal 36 a11 c31 r6.1.Vals, MO.row (cInt .i64) 3 a8 c20 r5.1.Dims, MO.row cGVal 36 a9 c21 r5.1.Vals, MO.box b6 27 (ATensor r5.1 a8 c20 a9 c21), MO.box b5 27 (ATensor r4.1 a6 c14 a7 c15), MO.row cGVal 36 a5 c12 zs2, MO.row (cInt .i64) 3 a4 c9 zs1] [Cl.sl cGVal a7 c15 r4.1.Vals, Cl.sl (cInt .i64) a6 c14 r4.1.Dims, Cl.blk b2 36 (AVal v1), Cl.blk b1 27 (ATensor t1 a1 c1 a2 c2), Cl.sl (cInt .i64) a1 c1 t1.Dims, Cl.sl cGVal a2 c2 t1.Vals, Cl.sl (cInt .i64) a3 c3 p1, clPow10] := hI
  refine ⟨_, rfl, ?_⟩
  refine sm ?_
  refine sq (y_extract rfl et rfl) ?_
  refine sq (y_extract rfl et rfl) ?_
  refine l_alloc (cs := ZTensor) hI gn rfl rfl zero_27 rfl ?_
  clear hI; intro b7 c34 w19 hI
  refine l_store (new := (lTensor r6.1 a10 c30 a11 c31)) (cs' := (ATensor r6.1 a10 c30 a11 c31)) hI .z gn rfl rfl et et rfl size_27 rfl rfl rfl ?_
  clear hI; intro c35 w20 hI
  refine sa ?_
  refine s_nil ?_
  refine k_next (e := [(3, vp b1 0), (7, vs a4 zs1.length c9), (8, vs a5 zs2.length c12), (9, vp b5 0), (10, vi r4.2), (11, vp b6 0), (13, vp b7 0)]) ⟨rfl, rfl, rfl, rfl, rfl, rfl, rfl, trivial⟩ ?_
  refine c_seq (sr (sm ?_))
  refine sq (y_neq rfl et ev_const) ?_
  refine nk (cif h et (fun hb h => ?_) (fun hb h => ?_))
  ·refine sr (sac ?_)
   refine nk (c_ret ?_)
   obtain rfl := some_inj h
   exact q_ret (vs := [vb false]) Tryz.results7 ⟨ev_tmp rfl rfl, trivial⟩ (fq hI trivial)
  refine c_skip (k_same (c_join (α := Unit) (fun _ => ⟨146, []⟩) (fun _ => [(3, vp b1 0), (8, vs a5 zs2.length c12), (9, vp b5 0), (11, vp b6 0), (13, vp b7 0)]) (fun _ => fun w => ∃ C, Bun noM F w0 C w [MO.row cGVal 36 a5 c12 zs2, MO.box b5 27 (ATensor r4.1 a6 c14 a7 c15), MO.box b6 27 (ATensor r5.1 a8 c20 a9 c21), MO.row (cInt .i64) 3 a8 c20 r5.1.Dims, MO.row cGVal 36 a9 c21 r5.1.Vals, MO.box b7 27 (ATensor r6.1 a10 c30 a11 c31), MO.row (cInt .i64) 3 a10 c30 r6.1.Dims, MO.row cGVal 36 a11 c31 r6.1.Vals] [Cl.blk b1 27 (ATensor t1 a1 c1 a2 c2), Cl.sl (cInt .i64) a1 c1 t1.Dims, Cl.sl cGVal a2 c2 t1.Vals, Cl.sl (cInt .i64) a6 c14 r4.1.Dims, Cl.sl cGVal a7 c15 r4.1.Vals, clPow10] ∧ m_law12_TensorIndependent_j1 r4 t1 r6 r5 zs2 = some r) ?_ ?_))
  ·clear h hI; rintro _ w21 ⟨c36, hI, h⟩
   try dsimp only at hI h
   rw [m_law12_TensorIndependent_j1] at h
   refine c_sub (e := [(3, vp b1 0), (8, vs a5 zs2.length c12), (9, vp b5 0), (11, vp b6 0), (13, vp b7 0)]) ⟨rfl, rfl, rfl, rfl, rfl, trivial⟩ ?_
   refine c_join (α := Unit) (fun _ => ⟨146, []⟩) (fun _ => [(3, vp b1 0), (9, vp b5 0), (11, vp b6 0), (13, vp b7 0)]) (fun _ => fun w => ∃ C, Bun noM F w0 C w [MO.box b5 27 (ATensor r4.1 a6 c14 a7 c15), MO.box b6 27 (ATensor r5.1 a8 c20 a9 c21), MO.row (cInt .i64) 3 a8 c20 r5.1.Dims, MO.row cGVal 36 a9 c21 r5.1.Vals, MO.box b7 27 (ATensor r6.1 a10 c30 a11 c31), MO.row (cInt .i64) 3 a10 c30 r6.1.Dims, MO.row cGVal 36 a11 c31 r6.1.Vals] [Cl.blk b1 27 (ATensor t1 a1 c1 a2 c2), Cl.sl (cInt .i64) a1 c1 t1.Dims, Cl.sl cGVal a2 c2 t1.Vals, Cl.sl (cInt .i64) a6 c14 r4.1.Dims, Cl.sl cGVal a7 c15 r4.1.Vals, clPow10] ∧ m_law12_TensorIndependent_j2 r4 t1 r6 r5 = some r) ?_ ?_
   ·clear h hI; rintro _ w22 ⟨c37, hI, h⟩
    try dsimp only at hI h
    rw [m_law12_TensorIndependent_j2] at h
    refine c_sub (e := [(3, vp b1 0), (9, vp b5 0), (11, vp b6 0), (13, vp b7 0)]) ⟨rfl, rfl, rfl, rfl, trivial⟩ ?_
    refine c_join (α := GTensor × (Option Addr) × Nat × (Option Addr) × Nat) (fun _ => ⟨146, []⟩) (fun x => [(3, vp b1 0), (9, vp b5 0), (13, vp b7 0)]) (fun x => fun w => ∃ C, Bun noM F w0 C w [MO.row (cInt .i64) 3 (x.2.1) (x.2.2.1) (x.1).Dims, MO.row cGVal 36 (x.2.2.2.1) (x.2.2.2.2) (x.1).Vals, MO.box b5 27 (ATensor r4.1 a6 c14 a7 c15), MO.box b7 27 (ATensor r6.1 a10 c30 a11 c31), MO.row (cInt .i64) 3 a10 c30 r6.1.Dims, MO.row cGVal 36 a11 c31 r6.1.Vals] [Cl.blk b1 27 (ATensor t1 a1 c1 a2 c2), Cl.sl (cInt .i64) a1 c1 t1.Dims, Cl.sl cGVal a2 c2 t1.Vals, Cl.sl (cInt .i64) a6 c14 r4.1.Dims, Cl.sl cGVal a7 c15 r4.1.Vals, clPow10] ∧ m_law12_TensorIndependent_j3 r4 t1 r6 (x.1) = some r) ?_ ?_
    ·clear h hI; rintro ⟨b8, a12, c38, a13, c39⟩ w23 ⟨c40, hI, h⟩
     try dsimp only at hI h
     rw [m_law12_TensorIndependent_j3] at h
     refine c_sub (e := [(3, vp b1 0), (9, vp b5 0), (13, vp b7 0)]) ⟨rfl, rfl, rfl, trivial⟩ ?_
     refine c_join (α := GTensor × (Option Addr) × Nat × (Option Addr) × Nat) (fun _ => ⟨146, []⟩) (fun x => [(3, vp b1 0), (9, vp b5 0), (13, vp b7 0)]) (fun x => fun w => ∃ C, Bun noM F w0 C w [MO.row (cInt .i64) 3 (x.2.1) (x.2.2.1) (x.1).Dims, MO.row cGVal 36 (x.2.2.2.1) (x.2.2.2.2) (x.1).Vals, MO.box b5 27 (ATensor r4.1 a6 c14 a7 c15), MO.box b7 27 (ATensor (x.1) (x.2.1) (x.2.2.1) (x.2.2.2.1) (x.2.2.2.2))] [Cl.blk b1 27 (ATensor t1 a1 c1 a2 c2), Cl.sl (cInt .i64) a1 c1 t1.Dims, Cl.sl cGVal a2 c2 t1.Vals, Cl.sl (cInt .i64) a6 c14 r4.1.Dims, Cl.sl cGVal a7 c15 r4.1.Vals, clPow10] ∧ m_law12_TensorIndependent_j4 r4 t1 (x.1) = some r) ?_ ?_
     ·clear h hI; rintro ⟨c41, a14, c42, a15, c43⟩ w24 ⟨c44, hI, h⟩
      try dsimp only at hI h
      rw [m_law12_TensorIndependent_j4] at h
      refine c_sub (e := [(3, vp b1 0), (9, vp b5 0), (13, vp b7 0)]) ⟨rfl, rfl, rfl, trivial⟩ ?_
      refine c_join (α := GTensor × (Option Addr) × Nat × (Option Addr) × Nat) (fun _ => ⟨146, []⟩) (fun x => [(3, vp b1 0), (9, vp b5 0)]) (fun x => fun w => ∃ C, Bun noM F w0 C w [MO.row (cInt .i64) 3 (x.2.1) (x.2.2.1) (x.1).Dims, MO.row cGVal 36 (x.2.2.2.1) (x.2.2.2.2) (x.1).Vals, MO.box b5 27 (ATensor r4.1 a6 c14 a7 c15)] [Cl.blk b1 27 (ATensor t1 a1 c1 a2 c2), Cl.sl (cInt .i64) a1 c1 t1.Dims, Cl.sl cGVal a2 c2 t1.Vals, Cl.sl (cInt .i64) a6 c14 r4.1.Dims, Cl.sl cGVal a7 c15 r4.1.Vals, clPow10] ∧ m_law12_TensorIndependent_j5 r4 t1 (x.1) = some r) ?_ ?_
      ·clear h hI; rintro ⟨c45, a16, c46, a17, c47⟩ w25 ⟨c48, hI, h⟩
       try dsimp only at hI h
       rw [m_law12_TensorIndependent_j5] at h
       refine c_sub (e := [(3, vp b1 0), (9, vp b5 0)]) ⟨rfl, rfl, trivial⟩ ?_
       refine sr (sq (y_loadN (l := (lTensor r4.1 a6 c14 a7 c15)) rfl et u27 rfl size_27 (CellsAt.of_blk (hI.blk (.s (.s .z))) rfl)) ?_)
       refine sq (y_loadN (l := (lTensor t1 a1 c1 a2 c2)) rfl et u27 rfl size_27 (hI.kblk (l := (lTensor t1 a1 c1 a2 c2)) .z rfl).1) ?_
       obtain ⟨r7, hx13, h⟩ := bnd_some h
       refine s_call gn rfl (r_callF (vs := [(Value.agg (ATensor r4.1 a6 c14 a7 c15)), (Value.agg (ATensor t1 a1 c1 a2 c2))]) rfl ok_16 ⟨et, ⟨et, trivial⟩⟩) (Calls.mono (c_base_Tensor (Dj F c48) w25 hI.lt r4.1 t1 a6 c14 a7 c15 a1 c1 a2 c2 ⟨(hI.get (.s (.s (.s .z)))), (hI.get (.s (.s (.s (.s .z))))), (hI.get (.s .z)), (hI.get (.s (.s .z))), trivial⟩ r7 hx13) ?_)
       rintro _ w26 ⟨rfl, hx14, hl5⟩
       refine ⟨_, rfl, ?_⟩
       replace hI := (hI.ext hx14)
       refine sm ?_
       obtain ⟨r8, hx15, h⟩ := bnd_some h
       replace hx15 := gd_some hx15
       refine s_gcallU (v := (vb r8)) (g_true rfl rfl rfl rfl) rfl (fun hc => (r_callF (vs := []) rfl ok_13 trivial)) (fun hc => (c_law12_examples (Dj F c48) w26 hI.lt ⟨(hI.get (.s (.s (.s (.s (.s .z)))))), trivial⟩ r8 (hx15 hc)).mono fun _ _ k => ⟨k.1, k.2.1⟩) ?_
       intro w27 hx16; replace hI := hI.ext hx16
       refine sq (y_and rfl et et) ?_
       refine sa ?_
       refine nk (c_ret ?_)
       obtain rfl := some_inj h
       exact q_ret (vs := [vb (r7 && r8)]) Tryz.results7 ⟨ev_tmp rfl rfl, trivial⟩ (fq hI trivial)
      refine sr (sac ?_)
      refine nk (c_block (c_loop (α := Nat × Int × GTensor × (Option Addr) × Nat × (Option Addr) × Nat) (fun x => fun w => ∃ C, Bun noM F w0 C w [MO.row (cInt .i64) 3 (x.2.2.2.1) (x.2.2.2.2.1) (x.2.2.1).Dims, MO.row cGVal 36 (x.2.2.2.2.2.1) (x.2.2.2.2.2.2) (x.2.2.1).Vals, MO.box b5 27 (ATensor r4.1 a6 c14 a7 c15), MO.box b7 27 (ATensor (x.2.2.1) (x.2.2.2.1) (x.2.2.2.2.1) (x.2.2.2.2.2.1) (x.2.2.2.2.2.2))] [Cl.blk b1 27 (ATensor t1 a1 c1 a2 c2), Cl.sl (cInt .i64) a1 c1 t1.Dims, Cl.sl cGVal a2 c2 t1.Vals, Cl.sl (cInt .i64) a6 c14 r4.1.Dims, Cl.sl cGVal a7 c15 r4.1.Vals, clPow10] ∧ m_law12_TensorIndependent_l1 r4 t1 (x.1) (x.2.1) (x.2.2.1) = some r) (fun x _ => x.1) (fun x => [(3, vp b1 0), (9, vp b5 0), (13, vp b7 0), (19, vi (x.2.1))]) (fu, 0, c41, a14, c42, a15, c43) ⟨_, hI.arr (.c .z (.c .z (.c .z (.c .z .n)))) ⟨.z, (.s .z), (.s (.s .z)), (.s (.s (.s .z))), (.s (.s (.s (.s .z)))), (.s (.s (.s (.s (.s .z))))), trivial⟩, h⟩ ⟨rfl, rfl, rfl, rfl, trivial⟩ ?_))
      clear h hI; rintro ⟨fuel1, i1, c49, a18, c50, a19, c51⟩ w28 ⟨c52, hI, h⟩
      dsimp only at hI h
      rcases fuel1 with _ | fuel1
      ·rw [m_law12_TensorIndependent_l1] at h; cases h
      rw [m_law12_TensorIndependent_l1] at h
      refine c_sub (e := [(3, vp b1 0), (9, vp b5 0), (13, vp b7 0), (19, vi i1)]) ⟨rfl, rfl, rfl, rfl, trivial⟩ ?_
      refine c_seq (sr (sm ?_))
      refine sq (y_fieldAddr rfl et u27 rfl size_24 rfl) ?_
      refine sq (y_load1 (v := (vs a18 c49.Dims.length c50)) rfl et u24 rfl (CellsAt.of_blk (hI.blk (.s (.s (.s .z)))) rfl)) ?_
      refine sq (y_lenl rfl u24 et) ?_
      refine sq (y_lss rfl et et) ?_
      refine nk (cif h et (fun hb h => ?_) (fun hb h => ?_))
      ·refine c_skip (k_same (c_seq (c_block (c_region rfl ?_))))
       refine sq (y_fieldAddr rfl et u27 rfl size_24 rfl) ?_
       refine sq (y_load1 (v := (vs a18 c49.Dims.length c50)) rfl et u24 rfl (CellsAt.of_blk (hI.blk (.s (.s (.s .z)))) rfl)) ?_
       refine sm ?_
       obtain ⟨e2, hx17, h⟩ := bnd_some h
       obtain ⟨ad2, cs2, hA2, hr2, hq2⟩ := hI.olat .z hx17
       obtain rfl : cs2 = [vi e2] := hr2
       refine sq (y_indexAddr rfl u24 size_3 et et (lat_bd hx17) hA2) ?_
       refine sq (y_load1 (v := (vi e2)) rfl et u3 rfl hq2.1) ?_
       refine sq (y_add rfl et ev_const) ?_
       obtain ⟨ho1, h⟩ := chk_some h
       obtain ⟨ad3, hA3⟩ := hI.addr .z ho1
       refine sq (y_indexAddr rfl u24 size_3 et et ho1 hA3) ?_
       refine l_storeRow (p := Int.toNat i1) (new := [(vi (wi64 (e2 + 1)))]) (off := 0) (x' := wi64 (e2 + 1)) hI .z gn rfl rfl (by have := ho1; omega) hA3 rfl et et rfl size_3 rfl (by show 0 + 1 ≤ 1; omega) (fun _ cs0 _ hr0 => by rw [spl_full (by have e := Cod.len _ hr0; exact e)]; exact rfl) ?_
       clear hI; intro c53 w29 hI
       refine s_nil ?_
       replace hI : Bun noM F w0 c53 w29 [MO.row (cInt .i64) 3 a18 c50 (c49.Dims.set (Int.toNat i1) (wi64 (e2 + 1))), MO.row cGVal 36 a19 c51 c49.Vals, MO.box b5 27 (ATensor r4.1 a6 c14 a7 c15), MO.box b7 27 #[vi c49.Type_.Kind, vi c49.Type_.Bits, vi c49.Type_.Frac, vi c49.Type_.Round, vi c49.Type_.Over, (vs a18 (c49.Dims.set (Int.toNat i1) (wi64 (e2 + 1))).length c50), vs a19 c49.Vals.length c51]] [Cl.blk b1 27 (ATensor t1 a1 c1 a2 c2), Cl.sl (cInt .i64) a1 c1 t1.Dims, Cl.sl cGVal a2 c2 t1.Vals, Cl.sl (cInt .i64) a6 c14 r4.1.Dims, Cl.sl cGVal a7 c15 r4.1.Vals, clPow10] := by simpa only [List.length_set, List.cons_append, List.nil_append] using hI
       refine k_next (e := [(3, vp b1 0), (9, vp b5 0), (13, vp b7 0), (19, vi i1)]) ⟨rfl, rfl, rfl, rfl, trivial⟩ ?_
       refine c_region rfl ?_
       refine sm ?_
       refine sq (y_add rfl et ev_const) ?_
       refine sa ?_
       refine s_nil ?_
       exact k_loop (fuel1, wi64 (i1 + 1), (⟨c49.Type_, c49.Dims.set (Int.toNat i1) (wi64 (e2 + 1)), c49.Vals⟩ : GTensor), a18, c50, a19, c51) ⟨rfl, rfl, rfl, rfl, trivial⟩ ⟨_, hI.arr (.c .z (.c .z (.c .z (.c .z .n)))) ⟨.z, (.s .z), (.s (.s .z)), (.s (.s (.s .z))), (.s (.s (.s (.s .z)))), (.s (.s (.s (.s (.s .z))))), trivial⟩, h⟩ (Nat.lt_succ_self _)
      refine c_exit ?_
      refine k_in ?_
      exact k_join (c49, a18, c50, a19, c51) ⟨rfl, rfl, trivial⟩ ⟨_, hI.arr (.c .z (.c .z (.c .z .n))) ⟨.z, (.s .z), (.s (.s .z)), (.s (.s (.s .z))), (.s (.s (.s (.s .z)))), (.s (.s (.s (.s (.s .z))))), trivial⟩, h⟩ rfl
     refine sr (sac ?_)
     refine nk (c_block (c_loop (α := Nat × Int × GTensor × (Option Addr) × Nat × (Option Addr) × Nat) (fun x => fun w => ∃ C, Bun noM F w0 C w [MO.row (cInt .i64) 3 (x.2.2.2.1) (x.2.2.2.2.1) (x.2.2.1).Dims, MO.row cGVal 36 (x.2.2.2.2.2.1) (x.2.2.2.2.2.2) (x.2.2.1).Vals, MO.box b5 27 (ATensor r4.1 a6 c14 a7 c15), MO.box b7 27 (ATensor (x.2.2.1) (x.2.2.2.1) (x.2.2.2.2.1) (x.2.2.2.2.2.1) (x.2.2.2.2.2.2))] [Cl.blk b1 27 (ATensor t1 a1 c1 a2 c2), Cl.sl (cInt .i64) a1 c1 t1.Dims, Cl.sl cGVal a2 c2 t1.Vals, Cl.sl (cInt .i64) a6 c14 r4.1.Dims, Cl.sl cGVal a7 c15 r4.1.Vals, clPow10] ∧ m_law12_TensorIndependent_l2 r4 t1 (x.1) (x.2.1) (x.2.2.1) = some r) (fun x _ => x.1) (fun x => [(3, vp b1 0), (9, vp b5 0), (13, vp b7 0), (18, vi (x.2.1))]) (fu, 0, r6.1, a10, c30, a11, c31) ⟨_, hI.arr (.c (.s (.s (.s (.s .z)))) (.c (.s (.s (.s (.s .z)))) (.c (.s (.s .z)) (.c (.s (.s .z)) .n)))) ⟨.z, (.s .z), (.s (.s .z)), (.s (.s (.s .z))), (.s (.s (.s (.s .z)))), (.s (.s (.s (.s (.s .z))))), trivial⟩, h⟩ ⟨rfl, rfl, rfl, rfl, trivial⟩ ?_))
     clear h hI; rintro ⟨fuel2, i2, c54, a20, c55, a21, c56⟩ w30 ⟨c57, hI, h⟩
     dsimp only at hI h
     rcases fuel2 with _ | fuel2
     ·rw [m_law12_TensorIndependent_l2] at h; cases h
     rw [m_law12_TensorIndependent_l2] at h
     refine c_sub (e := [(3, vp b1 0), (9, vp b5 0), (13, vp b7 0), (18, vi i2)]) ⟨rfl, rfl, rfl, rfl, trivial⟩ ?_
     refine c_seq (sr (sm ?_))
     refine sq (y_fieldAddr rfl et u27 rfl size_25 rfl) ?_
     refine sq (y_load1 (v := (vs a21 c54.Vals.length c56)) rfl et u25 rfl (CellsAt.of_blk (hI.blk (.s (.s (.s .z)))) rfl)) ?_
     refine sq (y_lenl rfl u25 et) ?_
     refine sq (y_lss rfl et et) ?_
     refine nk (cif h et (fun hb h => ?_) (fun hb h => ?_))
     ·refine c_skip (k_same (c_seq (c_block (c_region rfl ?_))))
      refine sq (y_fieldAddr rfl et u27 rfl size_25 rfl) ?_
      refine sq (y_load1 (v := (vs a21 c54.Vals.length c56)) rfl et u25 rfl (CellsAt.of_blk (hI.blk (.s (.s (.s .z)))) rfl)) ?_
      refine sm ?_
      obtain ⟨e3, hx18, h⟩ := bnd_some h
      obtain ⟨ad4, cs3, hA4, hr3, hq3⟩ := hI.olat (.s .z) hx18
      obtain rfl : cs3 = (lVal e3) := hr3
      refine sq (y_indexAddr rfl u25 size_36 et et (lat_bd hx18) hA4) ?_
      refine sq (y_fieldAddr rfl et u36 rfl size_2 rfl) ?_
      refine sq (y_load1 (v := (vi e3.N)) rfl et u2 rfl (CA.part hq3 rfl).1) ?_
      refine sq (y_add rfl et ev_const) ?_
      obtain ⟨ho2, h⟩ := chk_some h
      obtain ⟨ad5, hA5⟩ := hI.addr (.s .z) ho2
      refine sq (y_indexAddr rfl u25 size_36 et et ho2 hA5) ?_
      refine sq (y_fieldAddr rfl et u36 rfl size_2 rfl) ?_
      obtain ⟨e4, hx19, h⟩ := bnd_some h
      refine l_storeRow (p := Int.toNat i2) (new := [(vi (wi64 (e3.N + 1)))]) (off := 0) (x' := (⟨wi64 (e3.N + 1), e4.D⟩ : GVal)) hI (.s .z) gn rfl rfl (by have := lat_bd hx19; omega) hA5 Vc.add_add et et rfl size_2 rfl (by show 0 + 1 ≤ 2; omega) (fun x0 cs0 hx0 hr0 => by obtain rfl := some_inj ((lat_get hx19).symm.trans hx0); obtain rfl := hr0; exact rfl) ?_
      clear hI; intro c58 w31 hI
      refine s_nil ?_
      replace hI : Bun noM F w0 c58 w31 [MO.row (cInt .i64) 3 a20 c55 c54.Dims, MO.row cGVal 36 a21 c56 (c54.Vals.set (Int.toNat i2) (⟨wi64 (e3.N + 1), e4.D⟩ : GVal)), MO.box b5 27 (ATensor r4.1 a6 c14 a7 c15), MO.box b7 27 #[vi c54.Type_.Kind, vi c54.Type_.Bits, vi c54.Type_.Frac, vi c54.Type_.Round, vi c54.Type_.Over, vs a20 c54.Dims.length c55, (vs a21 (c54.Vals.set (Int.toNat i2) (⟨wi64 (e3.N + 1), e4.D⟩ : GVal)).length c56)]] [Cl.blk b1 27 (ATensor t1 a1 c1 a2 c2), Cl.sl (cInt .i64) a1 c1 t1.Dims, Cl.sl cGVal a2 c2 t1.Vals, Cl.sl (cInt .i64) a6 c14 r4.1.Dims, Cl.sl cGVal a7 c15 r4.1.Vals, clPow10] := by simpa only [List.length_set, List.cons_append, List.nil_append] using hI
      refine k_next (e := [(3, vp b1 0), (9, vp b5 0), (13, vp b7 0), (18, vi i2)]) ⟨rfl, rfl, rfl, rfl, trivial⟩ ?_
      refine c_region rfl ?_
      refine sm ?_
      refine sq (y_add rfl et ev_const) ?_
      refine sa ?_
      refine s_nil ?_
      exact k_loop (fuel2, wi64 (i2 + 1), (⟨c54.Type_, c54.Dims, c54.Vals.set (Int.toNat i2) (⟨wi64 (e3.N + 1), e4.D⟩ : GVal)⟩ : GTensor), a20, c55, a21, c56) ⟨rfl, rfl, rfl, rfl, trivial⟩ ⟨_, hI.arr (.c .z (.c .z (.c .z (.c .z .n)))) ⟨.z, (.s .z), (.s (.s .z)), (.s (.s (.s .z))), (.s (.s (.s (.s .z)))), (.s (.s (.s (.s (.s .z))))), trivial⟩, h⟩ (Nat.lt_succ_self _)
     refine c_exit ?_
     refine k_in ?_
     exact k_join (c54, a20, c55, a21, c56) ⟨rfl, rfl, rfl, trivial⟩ ⟨_, hI.arr (.c .z (.c .z (.c .z (.c .z .n)))) ⟨.z, (.s .z), (.s (.s .z)), (.s (.s (.s .z))), (.s (.s (.s (.s .z)))), (.s (.s (.s (.s (.s .z))))), trivial⟩, h⟩ rfl
    refine sr (sac ?_)
    refine nk (c_block (c_loop (α := Nat × Int × GTensor × (Option Addr) × Nat × (Option Addr) × Nat) (fun x => fun w => ∃ C, Bun noM F w0 C w [MO.row (cInt .i64) 3 (x.2.2.2.1) (x.2.2.2.2.1) (x.2.2.1).Dims, MO.row cGVal 36 (x.2.2.2.2.2.1) (x.2.2.2.2.2.2) (x.2.2.1).Vals, MO.box b5 27 (ATensor r4.1 a6 c14 a7 c15), MO.box b6 27 (ATensor (x.2.2.1) (x.2.2.2.1) (x.2.2.2.2.1) (x.2.2.2.2.2.1) (x.2.2.2.2.2.2)), MO.box b7 27 (ATensor r6.1 a10 c30 a11 c31), MO.row (cInt .i64) 3 a10 c30 r6.1.Dims, MO.row cGVal 36 a11 c31 r6.1.Vals] [Cl.blk b1 27 (ATensor t1 a1 c1 a2 c2), Cl.sl (cInt .i64) a1 c1 t1.Dims, Cl.sl cGVal a2 c2 t1.Vals, Cl.sl (cInt .i64) a6 c14 r4.1.Dims, Cl.sl cGVal a7 c15 r4.1.Vals, clPow10] ∧ m_law12_TensorIndependent_l3 r4 t1 r6 (x.1) (x.2.1) (x.2.2.1) = some r) (fun x _ => x.1) (fun x => [(3, vp b1 0), (9, vp b5 0), (11, vp b6 0), (13, vp b7 0), (17, vi (x.2.1))]) (fu, 0, r5.1, a8, c20, a9, c21) ⟨_, hI.arr (.c (.s (.s .z)) (.c (.s (.s .z)) (.c .z (.c .z (.c .z (.c .z (.c .z .n))))))) ⟨.z, (.s .z), (.s (.s .z)), (.s (.s (.s .z))), (.s (.s (.s (.s .z)))), (.s (.s (.s (.s (.s .z))))), trivial⟩, h⟩ ⟨rfl, rfl, rfl, rfl, rfl, trivial⟩ ?_))
    clear h hI; rintro ⟨fuel3, i3, b9, a22, c59, a23, c60⟩ w32 ⟨c61, hI, h⟩
    dsimp only at hI h
    rcases fuel3 with _ | fuel3
    ·rw [m_law12_TensorIndependent_l3] at h; cases h
    rw [m_law12_TensorIndependent_l3] at h
    refine c_sub (e := [(3, vp b1 0), (9, vp b5 0), (11, vp b6 0), (13, vp b7 0), (17, vi i3)]) ⟨rfl, rfl, rfl, rfl, rfl, trivial⟩ ?_
    refine c_seq (sr (sm ?_))
    refine sq (y_fieldAddr rfl et u27 rfl size_24 rfl) ?_
    refine sq (y_load1 (v := (vs a22 b9.Dims.length c59)) rfl et u24 rfl (CellsAt.of_blk (hI.blk (.s (.s (.s .z)))) rfl)) ?_
    refine sq (y_lenl rfl u24 et) ?_
    refine sq (y_lss rfl et et) ?_
    refine nk (cif h et (fun hb h => ?_) (fun hb h => ?_))
    ·refine c_skip (k_same (c_seq (c_block (c_region rfl ?_))))
     refine sq (y_fieldAddr rfl et u27 rfl size_24 rfl) ?_
     refine sq (y_load1 (v := (vs a22 b9.Dims.length c59)) rfl et u24 rfl (CellsAt.of_blk (hI.blk (.s (.s (.s .z)))) rfl)) ?_
     refine sm ?_
     obtain ⟨e5, hx20, h⟩ := bnd_some h
     obtain ⟨ad6, cs4, hA6, hr4, hq4⟩ := hI.olat .z hx20
     obtain rfl : cs4 = [vi e5] := hr4
     refine sq (y_indexAddr rfl u24 size_3 et et (lat_bd hx20) hA6) ?_
     refine sq (y_load1 (v := (vi e5)) rfl et u3 rfl hq4.1) ?_
     refine sq (y_add rfl et ev_const) ?_
     obtain ⟨ho3, h⟩ := chk_some h
     obtain ⟨ad7, hA7⟩ := hI.addr .z ho3
     refine sq (y_indexAddr rfl u24 size_3 et et ho3 hA7) ?_
     refine l_storeRow (p := Int.toNat i3) (new := [(vi (wi64 (e5 + 1)))]) (off := 0) (x' := wi64 (e5 + 1)) hI .z gn rfl rfl (by have := ho3; omega) hA7 rfl et et rfl size_3 rfl (by show 0 + 1 ≤ 1; omega) (fun _ cs0 _ hr0 => by rw [spl_full (by have e := Cod.len _ hr0; exact e)]; exact rfl) ?_
     clear hI; intro c62 w33 hI
     refine s_nil ?_
     replace hI : Bun noM F w0 c62 w33 [MO.row (cInt .i64) 3 a22 c59 (b9.Dims.set (Int.toNat i3) (wi64 (e5 + 1))), MO.row cGVal 36 a23 c60 b9.Vals, MO.box b5 27 (ATensor r4.1 a6 c14 a7 c15), MO.box b6 27 #[vi b9.Type_.Kind, vi b9.Type_.Bits, vi b9.Type_.Frac, vi b9.Type_.Round, vi b9.Type_.Over, (vs a22 (b9.Dims.set (Int.toNat i3) (wi64 (e5 + 1))).length c59), vs a23 b9.Vals.length c60], MO.box b7 27 (ATensor r6.1 a10 c30 a11 c31), MO.row (cInt .i64) 3 a10 c30 r6.1.Dims, MO.row cGVal 36 a11 c31 r6.1.Vals] [Cl.blk b1 27 (ATensor t1 a1 c1 a2 c2), Cl.sl (cInt .i64) a1 c1 t1.Dims, Cl.sl cGVal a2 c2 t1.Vals, Cl.sl (cInt .i64) a6 c14 r4.1.Dims, Cl.sl cGVal a7 c15 r4.1.Vals, clPow10] := by simpa only [List.length_set, List.cons_append, List.nil_append] using hI
     refine k_next (e := [(3, vp b1 0), (9, vp b5 0), (11, vp b6 0), (13, vp b7 0), (17, vi i3)]) ⟨rfl, rfl, rfl, rfl, rfl, trivial⟩ ?_
     refine c_region rfl ?_
     refine sm ?_
     refine sq (y_add rfl et ev_const) ?_
     refine sa ?_
     refine s_nil ?_
     exact k_loop (fuel3, wi64 (i3 + 1), (⟨b9.Type_, b9.Dims.set (Int.toNat i3) (wi64 (e5 + 1)), b9.Vals⟩ : GTensor), a22, c59, a23, c60) ⟨rfl, rfl, rfl, rfl, rfl, trivial⟩ ⟨_, hI.arr (.c .z (.c .z (.c .z (.c .z (.c .z (.c .z (.c .z .n))))))) ⟨.z, (.s .z), (.s (.s .z)), (.s (.s (.s .z))), (.s (.s (.s (.s .z)))), (.s (.s (.s (.s (.s .z))))), trivial⟩, h⟩ (Nat.lt_succ_self _)
    refine c_exit ?_
    refine k_in ?_
    exact k_join (b9, a22, c59, a23, c60) ⟨rfl, rfl, rfl, trivial⟩ ⟨_, hI.arr (.c .z (.c .z (.c .z (.c (.s .z) (.c (.s .z) (.c (.s .z) .n)))))) ⟨.z, (.s .z), (.s (.s .z)), (.s (.s (.s .z))), (.s (.s (.s (.s .z)))), (.s (.s (.s (.s (.s .z))))), trivial⟩, h⟩ rfl
   refine sr (sac ?_)
   refine nk (c_block (c_loop (α := Nat × (List GVal) × Int × (Option Addr) × Nat) (fun x => fun w => ∃ C, Bun noM F w0 C w [MO.row cGVal 36 (x.2.2.2.1) (x.2.2.2.2) (x.2.1), MO.box b5 27 (ATensor r4.1 a6 c14 a7 c15), MO.box b6 27 (ATensor r5.1 a8 c20 a9 c21), MO.row (cInt .i64) 3 a8 c20 r5.1.Dims, MO.row cGVal 36 a9 c21 r5.1.Vals, MO.box b7 27 (ATensor r6.1 a10 c30 a11 c31), MO.row (cInt .i64) 3 a10 c30 r6.1.Dims, MO.row cGVal 36 a11 c31 r6.1.Vals] [Cl.blk b1 27 (ATensor t1 a1 c1 a2 c2), Cl.sl (cInt .i64) a1 c1 t1.Dims, Cl.sl cGVal a2 c2 t1.Vals, Cl.sl (cInt .i64) a6 c14 r4.1.Dims, Cl.sl cGVal a7 c15 r4.1.Vals, clPow10] ∧ m_law12_TensorIndependent_l4 r4 t1 r6 r5 (x.1) (x.2.1) (x.2.2.1) = some r) (fun x _ => x.1) (fun x => [(3, vp b1 0), (8, vs (x.2.2.2.1) (x.2.1).length (x.2.2.2.2)), (9, vp b5 0), (11, vp b6 0), (13, vp b7 0), (16, vi (x.2.2.1))]) (fu, zs2, 0, a5, c12) ⟨_, hI.arr (.c .z (.c .z (.c .z (.c .z (.c .z (.c .z (.c .z (.c .z .n)))))))) ⟨.z, (.s .z), (.s (.s .z)), (.s (.s (.s .z))), (.s (.s (.s (.s .z)))), (.s (.s (.s (.s (.s .z))))), trivial⟩, h⟩ ⟨rfl, rfl, rfl, rfl, rfl, rfl, trivial⟩ ?_))
   clear h hI; rintro ⟨fuel4, vals1, i4, a24, c63⟩ w34 ⟨c64, hI, h⟩
   dsimp only at hI h
   rcases fuel4 with _ | fuel4
   ·rw [m_law12_TensorIndependent_l4] at h; cases h
   rw [m_law12_TensorIndependent_l4] at h
   refine c_sub (e := [(3, vp b1 0), (8, vs a24 vals1.length c63), (9, vp b5 0), (11, vp b6 0), (13, vp b7 0), (16, vi i4)]) ⟨rfl, rfl, rfl, rfl, rfl, rfl, trivial⟩ ?_
   refine c_seq (sr (sm ?_))
   refine sm ?_
   refine sq (y_lenl rfl u25 et) ?_
   refine sq (y_lss rfl et et) ?_
   refine nk (cif h et (fun hb h => ?_) (fun hb h => ?_))
   ·refine c_skip (k_same (c_seq (c_block (c_region rfl ?_))))
    refine sm ?_
    refine sm ?_
    obtain ⟨e6, hx21, h⟩ := bnd_some h
    obtain ⟨ad8, cs5, hA8, hr5, hq5⟩ := hI.olat .z hx21
    obtain rfl : cs5 = (lVal e6) := hr5
    refine sq (y_indexAddr rfl u25 size_36 et et (lat_bd hx21) hA8) ?_
    refine sq (y_fieldAddr rfl et u36 rfl size_2 rfl) ?_
    refine sq (y_load1 (v := (vi e6.N)) rfl et u2 rfl (CA.part hq5 rfl).1) ?_
    refine sq (y_add rfl et ev_const) ?_
    obtain ⟨ho4, h⟩ := chk_some h
    obtain ⟨ad9, hA9⟩ := hI.addr .z ho4
    refine sq (y_indexAddr rfl u25 size_36 et et ho4 hA9) ?_
    refine sq (y_fieldAddr rfl et u36 rfl size_2 rfl) ?_
    obtain ⟨e7, hx22, h⟩ := bnd_some h
    refine l_storeRow (p := Int.toNat i4) (new := [(vi (wi64 (e6.N + 1)))]) (off := 0) (x' := (⟨wi64 (e6.N + 1), e7.D⟩ : GVal)) hI .z gn rfl rfl (by have := lat_bd hx22; omega) hA9 Vc.add_add et et rfl size_2 rfl (by show 0 + 1 ≤ 2; omega) (fun x0 cs0 hx0 hr0 => by obtain rfl := some_inj ((lat_get hx22).symm.trans hx0); obtain rfl := hr0; exact rfl) ?_
    clear hI; intro c65 w35 hI
    refine s_nil ?_
    refine k_next (e := [(3, vp b1 0), (8, (vs a24 (vals1.set (Int.toNat i4) (⟨wi64 (e6.N + 1), e7.D⟩ : GVal)).length c63)), (9, vp b5 0), (11, vp b6 0), (13, vp b7 0), (16, vi i4)]) ⟨rfl, (lookset rfl), rfl, rfl, rfl, rfl, trivial⟩ ?_
    refine c_region rfl ?_
    refine sm ?_
    refine sq (y_add rfl et ev_const) ?_
    refine sa ?_
    refine s_nil ?_
    exact k_loop (fuel4, vals1.set (Int.toNat i4) (⟨wi64 (e6.N + 1), e7.D⟩ : GVal), wi64 (i4 + 1), a24, c63) ⟨rfl, rfl, rfl, rfl, rfl, rfl, trivial⟩ ⟨_, hI.arr (.c .z (.c .z (.c .z (.c .z (.c .z (.c .z (.c .z (.c .z .n)))))))) ⟨.z, (.s .z), (.s (.s .z)), (.s (.s (.s .z))), (.s (.s (.s (.s .z)))), (.s (.s (.s (.s (.s .z))))), trivial⟩, h⟩ (Nat.lt_succ_self _)
   refine c_exit ?_
   refine k_in ?_
   exact k_join () ⟨rfl, rfl, rfl, rfl, trivial⟩ ⟨_, hI.arr (.c (.s .z) (.c (.s .z) (.c (.s .z) (.c (.s .z) (.c (.s .z) (.c (.s .z) (.c (.s .z) .n))))))) ⟨.z, (.s .z), (.s (.s .z)), (.s (.s (.s .z))), (.s (.s (.s (.s .z)))), (.s (.s (.s (.s (.s .z))))), trivial⟩, h⟩ rfl
  refine sr (sac ?_)
  refine nk (c_block (c_loop (α := Nat × (List Int) × Int × (Option Addr) × Nat) (fun x => fun w => ∃ C, Bun noM F w0 C w [MO.row (cInt .i64) 3 (x.2.2.2.1) (x.2.2.2.2) (x.2.1), MO.row cGVal 36 a5 c12 zs2, MO.box b5 27 (ATensor r4.1 a6 c14 a7 c15), MO.box b6 27 (ATensor r5.1 a8 c20 a9 c21), MO.row (cInt .i64) 3 a8 c20 r5.1.Dims, MO.row cGVal 36 a9 c21 r5.1.Vals, MO.box b7 27 (ATensor r6.1 a10 c30 a11 c31), MO.row (cInt .i64) 3 a10 c30 r6.1.Dims, MO.row cGVal 36 a11 c31 r6.1.Vals] [Cl.blk b1 27 (ATensor t1 a1 c1 a2 c2), Cl.sl (cInt .i64) a1 c1 t1.Dims, Cl.sl cGVal a2 c2 t1.Vals, Cl.sl (cInt .i64) a6 c14 r4.1.Dims, Cl.sl cGVal a7 c15 r4.1.Vals, clPow10] ∧ m_law12_TensorIndependent_l5 r4 t1 r6 r5 zs2 (x.1) (x.2.1) (x.2.2.1) = some r) (fun x _ => x.1) (fun x => [(3, vp b1 0), (7, vs (x.2.2.2.1) (x.2.1).length (x.2.2.2.2)), (8, vs a5 zs2.length c12), (9, vp b5 0), (11, vp b6 0), (13, vp b7 0), (15, vi (x.2.2.1))]) (fu, zs1, 0, a4, c9) ⟨_, hI.arr (.c (.s (.s (.s (.s (.s (.s (.s (.s .z)))))))) (.c (.s (.s (.s (.s (.s (.s (.s .z))))))) (.c (.s (.s (.s (.s (.s (.s .z)))))) (.c (.s (.s (.s (.s (.s .z))))) (.c (.s (.s (.s .z))) (.c (.s (.s (.s .z))) (.c .z (.c .z (.c .z .n))))))))) ⟨(.s (.s (.s .z))), (.s (.s (.s (.s .z)))), (.s (.s (.s (.s (.s .z))))), (.s .z), .z, (.s (.s (.s (.s (.s (.s (.s .z))))))), trivial⟩, h⟩ ⟨rfl, rfl, rfl, rfl, rfl, rfl, rfl, trivial⟩ ?_))
  clear h hI; rintro ⟨fuel5, dims1, i5, a25, c66⟩ w36 ⟨c67, hI, h⟩
  dsimp only at hI h
  rcases fuel5 with _ | fuel5
  ·rw [m_law12_TensorIndependent_l5] at h; cases h
  rw [m_law12_TensorIndependent_l5] at h
  refine c_sub (e := [(3, vp b1 0), (7, vs a25 dims1.length c66), (8, vs a5 zs2.length c12), (9, vp b5 0), (11, vp b6 0), (13, vp b7 0), (15, vi i5)]) ⟨rfl, rfl, rfl, rfl, rfl, rfl, rfl, trivial⟩ ?_
  refine c_seq (sr (sm ?_))
  refine sm ?_
  refine sq (y_lenl rfl u24 et) ?_
  refine sq (y_lss rfl et et) ?_
  refine nk (cif h et (fun hb h => ?_) (fun hb h => ?_))
  ·refine c_skip (k_same (c_seq (c_block (c_region rfl ?_))))
   refine sm ?_
   refine sm ?_
   obtain ⟨e8, hx23, h⟩ := bnd_some h
   obtain ⟨ad10, cs6, hA10, hr6, hq6⟩ := hI.olat .z hx23
   obtain rfl : cs6 = [vi e8] := hr6
   refine sq (y_indexAddr rfl u24 size_3 et et (lat_bd hx23) hA10) ?_
   refine sq (y_load1 (v := (vi e8)) rfl et u3 rfl hq6.1) ?_
   refine sq (y_add rfl et ev_const) ?_
   obtain ⟨ho5, h⟩ := chk_some h
   obtain ⟨ad11, hA11⟩ := hI.addr .z ho5
   refine sq (y_indexAddr rfl u24 size_3 et et ho5 hA11) ?_
   refine l_storeRow (p := Int.toNat i5) (new := [(vi (wi64 (e8 + 1)))]) (off := 0) (x' := wi64 (e8 + 1)) hI .z gn rfl rfl (by have := ho5; omega) hA11 rfl et et rfl size_3 rfl (by show 0 + 1 ≤ 1; omega) (fun _ cs0 _ hr0 => by rw [spl_full (by have e := Cod.len _ hr0; exact e)]; exact rfl) ?_
   clear hI; intro c68 w37 hI
   refine s_nil ?_
   refine k_next (e := [(3, vp b1 0), (7, (vs a25 (dims1.set (Int.toNat i5) (wi64 (e8 + 1))).length c66)), (8, vs a5 zs2.length c12), (9, vp b5 0), (11, vp b6 0), (13, vp b7 0), (15, vi i5)]) ⟨rfl, (lookset rfl), rfl, rfl, rfl, rfl, rfl, trivial⟩ ?_
   refine c_region rfl ?_
   refine sm ?_
   refine sq (y_add rfl et ev_const) ?_
   refine sa ?_
   refine s_nil ?_
   exact k_loop (fuel5, dims1.set (Int.toNat i5) (wi64 (e8 + 1)), wi64 (i5 + 1), a25, c66) ⟨rfl, rfl, rfl, rfl, rfl, rfl, rfl, trivial⟩ ⟨_, hI.arr (.c .z (.c .z (.c .z (.c .z (.c .z (.c .z (.c .z (.c .z (.c .z .n))))))))) ⟨.z, (.s .z), (.s (.s .z)), (.s (.s (.s .z))), (.s (.s (.s (.s .z)))), (.s (.s (.s (.s (.s .z))))), trivial⟩, h⟩ (Nat.lt_succ_self _)
  refine c_exit ?_
  refine k_in ?_
  exact k_join () ⟨rfl, rfl, rfl, rfl, rfl, trivial⟩ ⟨_, hI.arr (.c (.s .z) (.c (.s .z) (.c (.s .z) (.c (.s .z) (.c (.s .z) (.c (.s .z) (.c (.s .z) (.c (.s .z) .n)))))))) ⟨.z, (.s .z), (.s (.s .z)), (.s (.s (.s .z))), (.s (.s (.s (.s .z)))), (.s (.s (.s (.s (.s .z))))), trivial⟩, h⟩ rfl
 intro hk_tr_law12_TensorIndependent_1_0
 refine a_q rfl gn rfl (fun w' => y_fieldAddr rfl et u27 rfl size_23 rfl) ?_
 refine a_read rfl gn rfl (fun w' hw' => (y_loadN (l := (lType t1.Type_)) rfl et u23 rfl size_23 ((hI.kblk (l := (lType t1.Type_)) (.s .z) rfl).at_ (SX.any rfl hw')))) (by kernel_rfl) ?_
 refine a_q rfl gn rfl (fun w' => y_move rfl et) ?_
 refine a_q rfl gn rfl (fun w' => y_fieldAddr rfl et u27 rfl size_25 rfl) ?_
 refine a_read rfl gn rfl (fun w' hw' => (y_load1 (v := (vs a2 t1.Vals.length c2)) rfl et u25 rfl ((hI.kblk (l := [vs a2 t1.Vals.length c2]) (.s .z) rfl).at_ (SX.any rfl hw')))) (by kernel_rfl) ?_
 obtain ⟨ad1, cs1, hA1, hr1, hq1⟩ := hI.clat (.s (.s (.s .z))) hx10
 obtain rfl : cs1 = (lVal e1) := hr1
 refine a_q rfl gn rfl (fun w' => y_indexAddr rfl u25 size_36 et ev_const (lat_bd hx10) hA1) ?_
 refine a_read rfl gn rfl (fun w' hw' => (y_loadN (l := (lVal e1)) rfl et u36 rfl size_36 (hq1.at_ (SX.any rfl hw')))) (by kernel_rfl) ?_
 refine a_two ?_ ?_
 ·skip
  refine a_turnT (F := F) (C := c19) rfl rfl ?_
  refine la_callX rfl gn rfl (r_callF (vs := [(Value.agg (AType t1.Type_)), vs a4 zs1.length c9, (Value.agg (AVal e1))]) rfl ok_23 ⟨et, ⟨et, ⟨et, trivial⟩⟩⟩) (Calls.mono (c_tensor_Full_o noM noM w17 t1.Type_ zs1 e1 a4 c9 (Bun.start (fun _ k => k.elim) ⟨hI.lend (.s (.s (.s (.s .z)))), trivial⟩) _ hx11) ?_)
  rintro _ w13 ⟨a8, c20, a9, c21, c22, rfl, hB2⟩
  obtain ⟨c23, hs2, hI⟩ := hI.lendback (sl := [MO.row (cInt .i64) 3 a8 c20 r5.1.Dims, MO.row cGVal 36 a9 c21 r5.1.Vals]) ⟨row_flat (fun _ _ _ _ _ h => h), row_flat (fun _ _ _ _ _ h => h), trivial⟩ hB2
  replace hI : Bun noM F w0 c23 w13 [MO.row (cInt .i64) 3 a8 c20 r5.1.Dims, MO.row cGVal 36 a9 c21 r5.1.Vals, MO.box b5 27 (ATensor r4.1 a6 c14 a7 c15), MO.row (cInt .i64) 3 a6 c14 r4.1.Dims, MO.row cGVal 36 a7 c15 r4.1.Vals, MO.row cGVal 36 a5 c12 zs2, MO.row (cInt .i64) 3 a4 c9 zs1] [Cl.blk b2 36 (AVal v1), Cl.blk b1 27 (ATensor t1 a1 c1 a2 c2), Cl.sl (cInt .i64) a1 c1 t1.Dims, Cl.sl cGVal a2 c2 t1.Vals, Cl.sl (cInt .i64) a3 c3 p1, clPow10] := hI
  refine ⟨_, rfl, DM true F c23, hs2, ?_⟩
  refine a_q rfl gn rfl (fun w' => y_move rfl et) ?_
  refine a_q rfl gn rfl (fun w' => y_extract rfl et rfl) ?_
  refine a_q rfl gn rfl (fun w' => y_extract rfl et rfl) ?_
  refine la_alloc (cs := ZTensor) hI rfl gn rfl rfl zero_27 rfl ?_
  clear hI; intro b6 c24 w14 hI
  exact a_sub (hk_tr_law12_TensorIndependent_1_0 (a8, c20, a9, c21, b6, c24) _ (hI.arr (.c (.s .z) (.c (.s .z) (.c .z (.c .z (.c .z (.c .z (.c .z (.c .z .n)))))))) ⟨.z, (.s .z), (.s (.s .z)), (.s (.s (.s .z))), (.s (.s (.s (.s .z)))), (.s (.s (.s (.s (.s .z))))), trivial⟩)) ⟨rfl, rfl, rfl, rfl, rfl, rfl, rfl, rfl, rfl, rfl, rfl, rfl, rfl, rfl, rfl, rfl, rfl, rfl, rfl, rfl, rfl, rfl, rfl, rfl, rfl, rfl, trivial⟩
 refine la_alloc (cs := ZTensor) hI rfl gn rfl rfl zero_27 rfl ?_
 clear hI; intro b6 c24 w14 hI
 refine a_turn (F := F) (C := c24) rfl rfl ?_
 refine la_callX rfl gn rfl (r_callF (vs := [(Value.agg (AType t1.Type_)), vs a4 zs1.length c9, (Value.agg (AVal e1))]) rfl ok_23 ⟨et, ⟨et, ⟨et, trivial⟩⟩⟩) (Calls.mono (c_tensor_Full_o noM noM w14 t1.Type_ zs1 e1 a4 c9 (Bun.start (fun _ k => k.elim) ⟨hI.lend (.s (.s (.s (.s (.s .z))))), trivial⟩) _ hx11) ?_)
 rintro _ w13 ⟨a8, c20, a9, c21, c22, rfl, hB2⟩
 obtain ⟨c23, hs2, hI⟩ := hI.lendback (sl := [MO.row (cInt .i64) 3 a8 c20 r5.1.Dims, MO.row cGVal 36 a9 c21 r5.1.Vals]) ⟨row_flat (fun _ _ _ _ _ h => h), row_flat (fun _ _ _ _ _ h => h), trivial⟩ hB2
 replace hI : Bun noM F w0 c23 w13 [MO.row (cInt .i64) 3 a8 c20 r5.1.Dims, MO.row cGVal 36 a9 c21 r5.1.Vals, MO.box b6 27 ZTensor, MO.box b5 27 (ATensor r4.1 a6 c14 a7 c15), MO.row (cInt .i64) 3 a6 c14 r4.1.Dims, MO.row cGVal 36 a7 c15 r4.1.Vals, MO.row cGVal 36 a5 c12 zs2, MO.row (cInt .i64) 3 a4 c9 zs1] [Cl.blk b2 36 (AVal v1), Cl.blk b1 27 (ATensor t1 a1 c1 a2 c2), Cl.sl (cInt .i64) a1 c1 t1.Dims, Cl.sl cGVal a2 c2 t1.Vals, Cl.sl (cInt .i64) a3 c3 p1, clPow10] := hI
 refine ⟨_, rfl, DM true F c23, hs2, ?_⟩
 refine a_q rfl gn rfl (fun w' => y_move rfl et) ?_
 refine a_q rfl gn rfl (fun w' => y_extract rfl et rfl) ?_
 refine a_q rfl gn rfl (fun w' => y_extract rfl et rfl) ?_
 exact a_sub (hk_tr_law12_TensorIndependent_1_0 (a8, c20, a9, c21, b6, c23) _ (hI.arr (.c .z (.c .z (.c .z (.c .z (.c .z (.c .z (.c .z (.c .z .n)))))))) ⟨.z, (.s .z), (.s (.s .z)), (.s (.s (.s .z))), (.s (.s (.s (.s .z)))), (.s (.s (.s (.s (.s .z))))), trivial⟩)) ⟨rfl, rfl, rfl, rfl, rfl, rfl, rfl, rfl, rfl, rfl, rfl, rfl, rfl, rfl, rfl, rfl, rfl, rfl, rfl, rfl, rfl, rfl, rfl, rfl, rfl, rfl, trivial⟩
end Go.Proofs.YtlakfanockhngaaGreatDoor
