import Derived.Test.YtpedfojbfbccaaaGreatSCQ7c
namespace Go.Proofs.YtpedfojbfbccaaaGreat
open Go Go.RowKit Go.Vc
set_option maxRecDepth 100000
set_option maxHeartbeats 4000000
set_option linter.unusedVariables false
set_option linter.unusedSimpArgs false
theorem c_ref53_Fits (F : NP) (w0 : World) (hF : ∀ k, F k → k < w0.heap.size) (m1 : GMesh) (dims1 : List Int) (s1 : List Int) (a1 : Option Addr) (c1 : Nat) (a2 : Option Addr) (c2 : Nat) (a3 : Option Addr) (c3 : Nat) (hc : AllCl [Cl.sl (cInt .i64) a1 c1 m1.Dims, Cl.sl (cInt .i64) a2 c2 dims1, Cl.sl (cInt .i64) a3 c3 s1] F w0) (r : Bool)
  (h : m_ref53_Fits m1 dims1 s1 = some r) :
  Calls Tryz.prog 27 #[(Value.agg #[vs a1 m1.Dims.length c1]), vs a2 dims1.length c2, vs a3 s1.length c3] w0 fun e w => e = .returned (vb r) ∧ Ext w0 w ∧ AllCl [] F w := by
 refine enterK Tryz.func27 rfl Tryz.ntmps27 rfl ?_
 have hI := Bun.start hF hc
 clear hc
 rw [m_ref53_Fits] at h
 refine sr (l_box (v := (Value.agg #[vs a1 m1.Dims.length c1])) (cs := #[vs a1 m1.Dims.length c1]) hI gn rfl rfl et rfl ?_)
 clear hI; intro b1 c4 w1 hI
 obtain ⟨c5, hI⟩ := hI.relBox .z
 refine sac ?_
 refine nk (c_seq (sr (sq (y_loadN (l := [vs a1 m1.Dims.length c1]) rfl et u24 rfl size_24 (hI.kblk (l := [vs a1 m1.Dims.length c1]) .z rfl).1) ?_)))
 obtain ⟨r1, hx1, h⟩ := bnd_some h
 refine s_call gn rfl (r_callF (vs := [(Value.agg #[vs a1 m1.Dims.length c1])]) rfl ok_48 ⟨et, trivial⟩) (Calls.mono (c_ref51_Validate (Dj F c5) w1 hI.lt m1 a1 c1 ⟨(hI.get (.s .z)), trivial⟩ r1 hx1) ?_)
 rintro _ w2 ⟨rfl, hx2, hl1⟩
 refine ⟨_, rfl, ?_⟩
 replace hI := (hI.ext hx2)
 refine sq (y_neq rfl et ev_const) ?_
 refine sm ?_
 refine s_gval (g_false rfl rfl rfl rfl) rfl (fun hc => y_move rfl et) ?_
 obtain ⟨r2, hx3, h⟩ := bnd_some h
 replace hx3 := gd_some hx3
 refine s_gcallU (v := (vi r2)) (g_false rfl rfl rfl rfl) rfl (fun hc => (r_callF (vs := [vs a2 dims1.length c2]) rfl ok_57 ⟨(ev_gv et hc), trivial⟩)) (fun hc => (c_ref12_Shape (Dj F c5) w2 hI.lt dims1 a2 c2 ⟨(hI.get (.s (.s .z))), trivial⟩ r2 (hx3 hc)).mono fun _ _ k => ⟨k.1, k.2.1⟩) ?_
 intro w3 hx4; replace hI := hI.ext hx4
 refine s_gval (g_false rfl rfl rfl rfl) rfl (fun hc => y_neq rfl (ev_gv et hc) ev_const) ?_
 refine sq (y_or rfl et et) ?_
 refine sm ?_
 refine s_gval (g_false rfl rfl rfl rfl) rfl (fun hc => y_move rfl et) ?_
 refine s_gval (g_false rfl rfl rfl rfl) rfl (fun hc => y_lenl rfl u42 (ev_gv et hc)) ?_
 refine s_gval (g_false rfl rfl rfl rfl) rfl (fun hc => y_move rfl et) ?_
 refine s_gval (g_false rfl rfl rfl rfl) rfl (fun hc => y_lenl rfl u22 (ev_gv et hc)) ?_
 refine s_gval (g_false rfl rfl rfl rfl) rfl (fun hc => y_neq rfl (ev_gv et hc) (ev_gv et hc)) ?_
 refine sq (y_or rfl et et) ?_
 refine sm ?_
 refine s_gval (g_false rfl rfl rfl rfl) rfl (fun hc => y_move rfl et) ?_
 obtain ⟨r3, hx5, h⟩ := bnd_some h
 replace hx5 := gd_some hx5
 refine s_gcallU (v := (vb r3)) (g_false rfl rfl rfl rfl) rfl (fun hc => (r_callF (vs := [vs a3 s1.length c3]) rfl ok_60 ⟨(ev_gv et hc), trivial⟩)) (fun hc => (c_ref53_Plain (Dj F c5) w3 hI.lt s1 a3 c3 ⟨(hI.get (.s (.s (.s .z)))), trivial⟩ r3 (hx5 hc)).mono fun _ _ k => ⟨k.1, k.2.1⟩) ?_
 intro w4 hx6; replace hI := hI.ext hx6
 refine s_gval (g_false rfl rfl rfl rfl) rfl (fun hc => y_not rfl (ev_gv et hc)) ?_
 refine sq (y_or rfl et et) ?_
 refine nk (cif h et (fun hb h => ?_) (fun hb h => ?_))
 ·refine sr (sac ?_)
  refine s_nil ?_
  refine k_next (e := [(6, vb false)]) ⟨rfl, trivial⟩ ?_
  refine c_ret ?_
  obtain rfl := some_inj h
  exact q_ret (vs := [vb false]) Tryz.results27 ⟨ev_tmp rfl rfl, trivial⟩ (fq hI trivial)
 refine c_skip (k_same (c_seq (sr (sac ?_))))
 refine nk (c_block (c_loop (α := Nat × Int) (fun x => fun w => ∃ C, Bun noM F w0 C w [] [Cl.sl (cInt .i64) a2 c2 dims1, Cl.sl (cInt .i64) a3 c3 s1, Cl.blk b1 24 #[vs a1 m1.Dims.length c1], Cl.sl (cInt .i64) a1 c1 m1.Dims] ∧ m_ref53_Fits_l1 s1 m1 dims1 (x.1) (x.2) = some r) (fun x _ => x.1) (fun x => [(1, vs a2 dims1.length c2), (2, vs a3 s1.length c3), (3, vp b1 0), (7, vi (x.2))]) (fu, 0) ⟨_, hI.arr .n ⟨(.s (.s .z)), (.s (.s (.s .z))), .z, (.s .z), trivial⟩, h⟩ ⟨rfl, rfl, rfl, rfl, trivial⟩ ?_))
 clear h hI; rintro ⟨fuel1, i1⟩ w5 ⟨c6, hI, h⟩
 dsimp only at hI h
 rcases fuel1 with _ | fuel1
 ·rw [m_ref53_Fits_l1] at h; cases h
 rw [m_ref53_Fits_l1] at h
 refine c_sub (e := [(1, vs a2 dims1.length c2), (2, vs a3 s1.length c3), (3, vp b1 0), (7, vi i1)]) ⟨rfl, rfl, rfl, rfl, trivial⟩ ?_
 refine c_seq (sr (sm ?_))
 refine sm ?_
 refine sq (y_lenl rfl u42 et) ?_
 refine sq (y_lss rfl et et) ?_
 refine nk (cif h et (fun hb h => ?_) (fun hb h => ?_))
 ·refine c_skip (k_same (c_seq (c_block (c_seq (c_drawX [] false (.c (0, .q) (.c (1, .q) (.c (2, .q) (.c (3, .q) (.c (4, .q) (.c (5, .q) (.c (6, .q) (.c (7, .q) (.c (8, .q) (.c (9, .q) (.c (10, .q) (.c (11, .q) (.c (12, .q) (.c (13, .q) (.c (14, .q) (.c (15, .q) (.c (16, .q) (.c (17, .q) (.c (18, .q) (.c (19, .q) (.c (20, .q) (.c (21, .q) (.c (22, .q) (.c (23, .q) (.c (24, .q) (.c (25, .q) (.c (26, .q) (.c (27, .q) (.c (28, .q) (.c (29, .q) (.c (30, .q) .n))))))))))))))))))))))))))))))) hI (by kernel_rfl) (by kernel_rfl) ?_)))))
  clear hI; intro w6 hI
  refine a_q rfl gn rfl (fun w' => y_move rfl et) ?_
  refine a_q rfl gn rfl (fun w' => y_move rfl et) ?_
  obtain ⟨e1, hx7, h⟩ := bnd_some h
  obtain ⟨ad1, cs1, hA1, hr1, hq1⟩ := hI.clat (.s .z) hx7
  obtain rfl : cs1 = [vi e1] := hr1
  refine a_q rfl gn rfl (fun w' => y_indexAddr rfl u42 size_3 et et (lat_bd hx7) hA1) ?_
  refine a_read rfl gn rfl (fun w' hw' => (y_load1 (v := (vi e1)) rfl et u3 rfl (hq1.at_ (SX.any rfl hw')))) (by kernel_rfl) ?_
  refine a_q rfl gn rfl (fun w' => y_fieldAddr rfl et u24 rfl size_22 rfl) ?_
  refine a_read rfl gn rfl (fun w' hw' => (y_load1 (v := (vs a1 m1.Dims.length c1)) rfl et u22 rfl ((hI.kblk (l := [vs a1 m1.Dims.length c1]) (.s (.s .z)) rfl).at_ (SX.any rfl hw')))) (by kernel_rfl) ?_
  refine a_q rfl gn rfl (fun w' => y_lenl rfl u22 et) ?_
  refine a_q rfl gn rfl (fun w' => y_geq rfl et et) ?_
  refine a_q rfl gn rfl (fun w' => y_move rfl et) ?_
  refine a_gval rfl (g_false rfl rfl rfl rfl) rfl (fun hc => fun w' => (y_move rfl et)) ?_
  refine a_gval rfl (g_false rfl rfl rfl rfl) rfl (fun hc => fun w' => (y_move rfl et)) ?_
  obtain ⟨e2, hx8, h⟩ := bnd_some h
  replace hx8 := gd_some hx8
  obtain ⟨ad2, cs2, hq2⟩ := hI.gclat (.s .z) hx8
  have hq3 : (!(decide ((m1.Dims.length : Int) ≤ e1))) = true → CA (Dj F c6) w6 (ad2.add (Int.toNat i1 * 1)) [vi e2] := fun hc => by have k := hq2 hc; have e : cs2 = _ := k.2.1; rw [← e]; exact k.2.2
  refine a_gval rfl (g_false rfl rfl rfl rfl) rfl (fun hc => fun w' => (y_indexAddr rfl u42 size_3 (ev_gv et hc) (ev_gv et hc) (lat_bd (hx8 hc)) (hq2 hc).1)) ?_
  refine a_gread rfl (g_false rfl rfl rfl rfl) rfl (fun hc => fun w' hw' => (y_load1 (v := (vi e2)) rfl (ev_gv et hc) u3 rfl ((hq3 hc).at_ (SX.any rfl hw')))) (by kernel_rfl) ?_
  refine a_gval rfl (g_false rfl rfl rfl rfl) rfl (fun hc => fun w' => (y_geq rfl (ev_gv et hc) ev_const)) ?_
  refine a_gval rfl (g_false rfl rfl rfl rfl) rfl (fun hc => fun w' => (y_move rfl (ev_gv et hc))) ?_
  refine a_gval rfl (g_true2 rfl rfl rfl rfl) rfl (fun hc => fun w' => (y_move rfl et)) ?_
  refine a_gval rfl (g_true2 rfl rfl rfl rfl) rfl (fun hc => fun w' => (y_move rfl et)) ?_
  obtain ⟨e3, hx9, h⟩ := bnd_some h
  replace hx9 := gd_some hx9
  obtain ⟨ad3, cs3, hq4⟩ := hI.gclat .z hx9
  have hq5 : ((!(decide ((m1.Dims.length : Int) ≤ e1))) && (decide (0 ≤ e2))) = true → CA (Dj F c6) w6 (ad3.add (Int.toNat i1 * 1)) [vi e3] := fun hc => by have k := hq4 hc; have e : cs3 = _ := k.2.1; rw [← e]; exact k.2.2
  refine a_gval rfl (g_true2 rfl rfl rfl rfl) rfl (fun hc => fun w' => (y_indexAddr rfl u22 size_3 (ev_gv et hc) (ev_gv et hc) (lat_bd (hx9 hc)) (hq4 hc).1)) ?_
  refine a_gread rfl (g_true2 rfl rfl rfl rfl) rfl (fun hc => fun w' hw' => (y_load1 (v := (vi e3)) rfl (ev_gv et hc) u3 rfl ((hq5 hc).at_ (SX.any rfl hw')))) (by kernel_rfl) ?_
  refine a_gval rfl (g_true2 rfl rfl rfl rfl) rfl (fun hc => fun w' => (y_fieldAddr rfl et u24 rfl size_22 rfl)) ?_
  refine a_gread rfl (g_true2 rfl rfl rfl rfl) rfl (fun hc => fun w' hw' => (y_load1 (v := (vs a1 m1.Dims.length c1)) rfl (ev_gv et hc) u22 rfl ((hI.kblk (l := [vs a1 m1.Dims.length c1]) (.s (.s .z)) rfl).at_ (SX.any rfl hw')))) (by kernel_rfl) ?_
  refine a_gval rfl (g_true2 rfl rfl rfl rfl) rfl (fun hc => fun w' => (y_move rfl et)) ?_
  refine a_gval rfl (g_true2 rfl rfl rfl rfl) rfl (fun hc => fun w' => (y_move rfl et)) ?_
  obtain ⟨e4, hx10, h⟩ := bnd_some h
  replace hx10 := gd_some hx10
  obtain ⟨ad4, cs4, hq6⟩ := hI.gclat (.s .z) hx10
  have hq7 : ((!(decide ((m1.Dims.length : Int) ≤ e1))) && (decide (0 ≤ e2))) = true → CA (Dj F c6) w6 (ad4.add (Int.toNat i1 * 1)) [vi e4] := fun hc => by have k := hq6 hc; have e : cs4 = _ := k.2.1; rw [← e]; exact k.2.2
  refine a_gval rfl (g_true2 rfl rfl rfl rfl) rfl (fun hc => fun w' => (y_indexAddr rfl u42 size_3 (ev_gv et hc) (ev_gv et hc) (lat_bd (hx10 hc)) (hq6 hc).1)) ?_
  refine a_gread rfl (g_true2 rfl rfl rfl rfl) rfl (fun hc => fun w' hw' => (y_load1 (v := (vi e4)) rfl (ev_gv et hc) u3 rfl ((hq7 hc).at_ (SX.any rfl hw')))) (by kernel_rfl) ?_
  obtain ⟨e5, hx11, h⟩ := bnd_some h
  replace hx11 := gd_some hx11
  obtain ⟨ad5, cs5, hq8⟩ := hI.gclat (.s (.s (.s .z))) hx11
  have hq9 : ((!(decide ((m1.Dims.length : Int) ≤ e1))) && (decide (0 ≤ e2))) = true → CA (Dj F c6) w6 (ad5.add (Int.toNat e4 * 1)) [vi e5] := fun hc => by have k := hq8 hc; have e : cs5 = _ := k.2.1; rw [← e]; exact k.2.2
  refine a_gval rfl (g_true2 rfl rfl rfl rfl) rfl (fun hc => fun w' => (y_indexAddr rfl u22 size_3 (ev_gv et hc) (ev_gv et hc) (lat_bd (hx11 hc)) (hq8 hc).1)) ?_
  refine a_gread rfl (g_true2 rfl rfl rfl rfl) rfl (fun hc => fun w' hw' => (y_load1 (v := (vi e5)) rfl (ev_gv et hc) u3 rfl ((hq9 hc).at_ (SX.any rfl hw')))) (by kernel_rfl) ?_
  obtain ⟨ho1, h⟩ := chk_some h
  refine a_gval rfl (g_true2 rfl rfl rfl rfl) rfl (fun hc => fun w' => (y_rem rfl (ev_gv et hc) (ev_gv et hc) (ho1 hc))) ?_
  refine a_gval rfl (g_true2 rfl rfl rfl rfl) rfl (fun hc => fun w' => (y_neq rfl (ev_gv et hc) ev_const)) ?_
  refine a_gval rfl (g_false rfl rfl rfl rfl) rfl (fun hc => fun w' => (y_and2 rfl hc et et)) ?_
  refine a_q rfl gn rfl (fun w' => y_or rfl et et) ?_
  refine a_nil ?_
  refine k_next (e := [(1, vs a2 dims1.length c2), (2, vs a3 s1.length c3), (3, vp b1 0), (7, vi i1), (64, (vb ((decide ((m1.Dims.length : Int) ≤ e1)) || ((decide (0 ≤ e2)) && (!decide (Int.tmod e3 e5 = 0))))))]) ⟨rfl, rfl, rfl, rfl, rfl, trivial⟩ ?_
  refine cif h et (fun hb h => ?_) (fun hb h => ?_)
  ·refine sr (sac ?_)
   refine nk (c_ret ?_)
   obtain rfl := some_inj h
   exact q_ret (vs := [vb false]) Tryz.results27 ⟨ev_tmp rfl rfl, trivial⟩ (fq hI trivial)
  refine c_skip (k_same (c_region rfl ?_))
  refine sm ?_
  refine sq (y_add rfl et ev_const) ?_
  refine sa ?_
  refine s_nil ?_
  exact k_loop (fuel1, wi64 (i1 + 1)) ⟨rfl, rfl, rfl, rfl, trivial⟩ ⟨_, hI.arr .n ⟨.z, (.s .z), (.s (.s .z)), (.s (.s (.s .z))), trivial⟩, h⟩ (Nat.lt_succ_self _)
 refine c_exit ?_
 refine k_in ?_
 refine k_same (sr (sac ?_))
 refine nk (c_ret ?_)
 obtain rfl := some_inj h
 exact q_ret (vs := [vb true]) Tryz.results27 ⟨ev_tmp rfl rfl, trivial⟩ (fq hI trivial)
theorem c_ref53_Blocks (F : NP) (w0 : World) (hF : ∀ k, F k → k < w0.heap.size) (m1 : GMesh) (t1 : GTensor) (s1 : List Int) (a1 : Option Addr) (c1 : Nat) (a2 : Option Addr) (c2 : Nat) (a3 : Option Addr) (c3 : Nat) (a4 : Option Addr) (c4 : Nat) (hc : AllCl [Cl.sl (cInt .i64) a1 c1 m1.Dims, Cl.sl (cInt .i64) a2 c2 t1.Dims, Cl.sl cGVal a3 c3 t1.Vals, Cl.sl (cInt .i64) a4 c4 s1] F w0) (r : List GTensor)
  (h : m_ref53_Blocks m1 t1 s1 = some r) :
  Calls Tryz.prog 28 #[(Value.agg #[vs a1 m1.Dims.length c1]), (Value.agg (ATensor t1 a2 c2 a3 c3)), vs a4 s1.length c4] w0 fun e w => ∃ (a5 : Option Addr) (c5 : Nat), e = .returned (vs a5 r.length c5) ∧ Ext w0 w ∧ AllCl [Cl.sl cGTensor a5 c5 r] F w := by
 refine enterK Tryz.func28 rfl Tryz.ntmps28 rfl ?_
 have hI := Bun.start hF hc
 clear hc
 rw [m_ref53_Blocks] at h
 refine sr (l_box (v := (Value.agg #[vs a1 m1.Dims.length c1])) (cs := #[vs a1 m1.Dims.length c1]) hI gn rfl rfl et rfl ?_)
 clear hI; intro b1 c6 w1 hI
 obtain ⟨c7, hI⟩ := hI.relBox .z
 refine l_box (v := (Value.agg (ATensor t1 a2 c2 a3 c3))) (cs := (ATensor t1 a2 c2 a3 c3)) hI gn rfl rfl et rfl ?_
 clear hI; intro b2 c8 w2 hI
 obtain ⟨c9, hI⟩ := hI.relBox .z
 refine sac ?_
 refine nk (sr (sac ?_))
 refine nk (c_seq (sr (sac ?_)))
 refine nk (c_block ?_)
 have hI := hI.nil cGTensor 41 none
 refine c_loop (α := Nat × (List GTensor) × Int × (Option Addr) × Nat) (fun x => fun w => ∃ C, Bun noM F w0 C w [MO.row cGTensor 41 (x.2.2.2.1) (x.2.2.2.2) (x.2.1)] [Cl.sl (cInt .i64) a4 c4 s1, Cl.blk b1 24 #[vs a1 m1.Dims.length c1], Cl.sl (cInt .i64) a1 c1 m1.Dims, Cl.blk b2 41 (ATensor t1 a2 c2 a3 c3), Cl.sl (cInt .i64) a2 c2 t1.Dims, Cl.sl cGVal a3 c3 t1.Vals] ∧ m_ref53_Blocks_l1 m1 s1 t1 (x.1) (x.2.1) (x.2.2.1) = some r) (fun x _ => x.1) (fun x => [(2, vs a4 s1.length c4), (3, vp b1 0), (4, vp b2 0), (7, vs (x.2.2.2.1) (x.2.1).length (x.2.2.2.2)), (8, vi (x.2.2.1))]) (fu, ([] : List GTensor), 0, none, 0) ⟨_, hI.arr (.c .z .n) ⟨(.s (.s (.s (.s (.s .z))))), (.s .z), (.s (.s .z)), .z, (.s (.s (.s .z))), (.s (.s (.s (.s .z)))), trivial⟩, h⟩ ⟨rfl, rfl, rfl, rfl, rfl, trivial⟩ ?_
 clear h hI; rintro ⟨fuel1, out1, i1, a6, c10⟩ w3 ⟨c11, hI, h⟩
 dsimp only at hI h
 rcases fuel1 with _ | fuel1
 ·rw [m_ref53_Blocks_l1] at h; cases h
 rw [m_ref53_Blocks_l1] at h
 refine c_sub (e := [(2, vs a4 s1.length c4), (3, vp b1 0), (4, vp b2 0), (7, vs a6 out1.length c10), (8, vi i1)]) ⟨rfl, rfl, rfl, rfl, rfl, trivial⟩ ?_
 refine c_seq (sr (sm ?_))
 refine sq (y_loadN (l := [vs a1 m1.Dims.length c1]) rfl et u24 rfl size_24 (hI.kblk (l := [vs a1 m1.Dims.length c1]) (.s .z) rfl).1) ?_
 obtain ⟨r1, hx1, h⟩ := bnd_some h
 refine s_call gn rfl (r_callF (vs := [(Value.agg #[vs a1 m1.Dims.length c1])]) rfl ok_49 ⟨et, trivial⟩) (Calls.mono (c_ref51_Devices (Dj F c11) w3 hI.lt m1 a1 c1 ⟨(hI.get (.s (.s .z))), trivial⟩ r1 hx1) ?_)
 rintro _ w4 ⟨rfl, hx2, hl1⟩
 refine ⟨_, rfl, ?_⟩
 replace hI := (hI.ext hx2)
 refine sq (y_lss rfl et et) ?_
 refine nk (cif h et (fun hb h => ?_) (fun hb h => ?_))
 ·refine c_skip (k_same (c_join (α := (List GTensor) × (Option Addr) × Nat) (fun _ => ⟨82, []⟩) (fun x => [(2, vs a4 s1.length c4), (3, vp b1 0), (4, vp b2 0), (7, vs (x.2.1) (x.1).length (x.2.2)), (8, vi i1)]) (fun x => fun w => ∃ C, Bun noM F w0 C w [MO.row cGTensor 41 (x.2.1) (x.2.2) (x.1)] [Cl.sl (cInt .i64) a4 c4 s1, Cl.blk b1 24 #[vs a1 m1.Dims.length c1], Cl.sl (cInt .i64) a1 c1 m1.Dims, Cl.blk b2 41 (ATensor t1 a2 c2 a3 c3), Cl.sl (cInt .i64) a2 c2 t1.Dims, Cl.sl cGVal a3 c3 t1.Vals] ∧ m_ref53_Blocks_j1 (m_ref53_Blocks_l1 m1 s1 t1 fuel1) i1 (x.1) = some r) ?_ ?_))
  ·clear h hI; rintro ⟨out2, a7, c12⟩ w5 ⟨c13, hI, h⟩
   try dsimp only at hI h
   rw [m_ref53_Blocks_j1] at h
   refine c_sub (e := [(2, vs a4 s1.length c4), (3, vp b1 0), (4, vp b2 0), (7, vs a7 out2.length c12), (8, vi i1)]) ⟨rfl, rfl, rfl, rfl, rfl, trivial⟩ ?_
   refine c_region rfl ?_
   refine sm ?_
   refine sq (y_add rfl et ev_const) ?_
   refine sa ?_
   refine s_nil ?_
   exact k_loop (fuel1, out2, wi64 (i1 + 1), a7, c12) ⟨rfl, rfl, rfl, rfl, rfl, trivial⟩ ⟨_, hI.arr (.c .z .n) ⟨.z, (.s .z), (.s (.s .z)), (.s (.s (.s .z))), (.s (.s (.s (.s .z)))), (.s (.s (.s (.s (.s .z))))), trivial⟩, h⟩ (Nat.lt_succ_self _)
  refine c_block (sr (sq (y_loadN (l := [vs a1 m1.Dims.length c1]) rfl et u24 rfl size_24 (hI.kblk (l := [vs a1 m1.Dims.length c1]) (.s .z) rfl).1) ?_))
  refine sm ?_
  obtain ⟨r2, hx3, h⟩ := bnd_some h
  refine s_call gn rfl (r_callF (vs := [(Value.agg #[vs a1 m1.Dims.length c1]), vi i1]) rfl ok_41 ⟨et, ⟨et, trivial⟩⟩) (Calls.mono (c_ref51_Coordinates (Dj F c11) w4 hI.lt m1 i1 a1 c1 ⟨(hI.get (.s (.s .z))), trivial⟩ r2 hx3) ?_)
  rintro _ w6 ⟨a8, c14, rfl, hx4, hl2⟩
  refine ⟨_, rfl, ?_⟩
  replace hI := (hI.ext hx4).adds hl2
  refine sm ?_
  refine sq (y_extract rfl et rfl) ?_
  refine sq (y_extract rfl et rfl) ?_
  refine sa ?_
  refine sa ?_
  refine nk (sr (sq (y_loadN (l := (lTensor t1 a2 c2 a3 c3)) rfl et u41 rfl size_41 (hI.kblk (l := (lTensor t1 a2 c2 a3 c3)) (.s (.s (.s (.s .z)))) rfl).1) ?_))
  refine l_alloc (cs := ZTensor) hI gn rfl rfl zero_41 rfl ?_
  clear hI; intro b3 c15 w7 hI
  refine l_store (new := (lTensor t1 a2 c2 a3 c3)) (cs' := (ATensor t1 a2 c2 a3 c3)) hI .z gn rfl rfl et et rfl size_41 rfl rfl rfl ?_
  clear hI; intro c16 w8 hI
  refine nk (c_join (α := GTensor × (Option Addr) × Nat × (Option Addr) × Nat) (fun _ => ⟨82, []⟩) (fun x => [(2, vs a4 s1.length c4), (3, vp b1 0), (4, vp b2 0), (7, vs a6 out1.length c10), (8, vi i1), (11, vp b3 0)]) (fun x => fun w => ∃ C, Bun noM F w0 C w [MO.row cGTensor 41 a6 c10 out1, MO.box b3 41 (ATensor (x.1) (x.2.1) (x.2.2.1) (x.2.2.2.1) (x.2.2.2.2))] [Cl.sl (cInt .i64) (x.2.1) (x.2.2.1) (x.1).Dims, Cl.sl cGVal (x.2.2.2.1) (x.2.2.2.2) (x.1).Vals, Cl.sl (cInt .i64) a4 c4 s1, Cl.blk b1 24 #[vs a1 m1.Dims.length c1], Cl.sl (cInt .i64) a1 c1 m1.Dims, Cl.blk b2 41 (ATensor t1 a2 c2 a3 c3), Cl.sl (cInt .i64) a2 c2 t1.Dims, Cl.sl cGVal a3 c3 t1.Vals] ∧ m_ref53_Blocks_j2 out1 (m_ref53_Blocks_l1 m1 s1 t1 fuel1) i1 (x.1) = some r) ?_ ?_)
  ·clear h hI; rintro ⟨b4, a9, c17, a10, c18⟩ w9 ⟨c19, hI, h⟩
   try dsimp only at hI h
   rw [m_ref53_Blocks_j2] at h
   refine c_sub (e := [(2, vs a4 s1.length c4), (3, vp b1 0), (4, vp b2 0), (7, vs a6 out1.length c10), (8, vi i1), (11, vp b3 0)]) ⟨rfl, rfl, rfl, rfl, rfl, rfl, trivial⟩ ?_
   refine c_region rfl ?_
   refine sm ?_
   refine sq (y_loadN (l := (lTensor b4 a9 c17 a10 c18)) rfl et u41 rfl size_41 (CellsAt.of_blk (hI.blk (.s .z)) rfl)) ?_
   refine l_lit (c := cGTensor) (xs := ([b4] : List GTensor)) (vs := [(0, (Value.agg (ATensor b4 a9 c17 a10 c18)))]) (cs := (ATensor b4 a9 c17 a10 c18)) (css := [(lTensor b4 a9 c17 a10 c18)]) hI gn rfl rfl u25 info_41 rfl ⟨rfl, et, trivial⟩ (by kernel_rfl) ⟨⟨a9, c17, a10, c18, rfl, hI.get .z, hI.get (.s .z)⟩, trivial⟩ rfl rfl rfl ?_
   clear hI; intro b5 c20 w10 hI
   obtain ⟨zs1, hx5, h⟩ := bnd_some h
   refine l_append (xs := out1) (ys := ([b4] : List GTensor)) hI (.s .z) (hI.rd .z) hx5 gn rfl rfl u25 info_41 rfl rfl et et ?_
   clear hI; intro a11 c21 c22 w11 hI
   refine sa ?_
   refine s_nil ?_
   exact k_join (zs1, a11, c21) ⟨rfl, rfl, rfl, rfl, rfl, trivial⟩ ⟨_, hI.arr (.c (.s .z) .n) ⟨(.s (.s .z)), (.s (.s (.s .z))), (.s (.s (.s (.s .z)))), (.s (.s (.s (.s (.s .z))))), (.s (.s (.s (.s (.s (.s .z)))))), (.s (.s (.s (.s (.s (.s (.s .z))))))), trivial⟩, h⟩ rfl
  refine sr (sac ?_)
  refine nk (c_block (c_loop (α := Nat × Int × GTensor × (Option Addr) × Nat × (Option Addr) × Nat) (fun x => fun w => ∃ C, Bun noM F w0 C w [MO.row cGTensor 41 a6 c10 out1, MO.box b3 41 (ATensor (x.2.2.1) (x.2.2.2.1) (x.2.2.2.2.1) (x.2.2.2.2.2.1) (x.2.2.2.2.2.2))] [Cl.sl (cInt .i64) (x.2.2.2.1) (x.2.2.2.2.1) (x.2.2.1).Dims, Cl.sl cGVal (x.2.2.2.2.2.1) (x.2.2.2.2.2.2) (x.2.2.1).Vals, Cl.sl (cInt .i64) a4 c4 s1, Cl.blk b1 24 #[vs a1 m1.Dims.length c1], Cl.sl (cInt .i64) a1 c1 m1.Dims, Cl.blk b2 41 (ATensor t1 a2 c2 a3 c3), Cl.sl (cInt .i64) a2 c2 t1.Dims, Cl.sl cGVal a3 c3 t1.Vals, Cl.sl (cInt .i64) a8 c14 r2.1] ∧ m_ref53_Blocks_l2 s1 t1 m1 r2 out1 (m_ref53_Blocks_l1 m1 s1 t1 fuel1) i1 (x.1) (x.2.1) (x.2.2.1) = some r) (fun x _ => x.1) (fun x => [(2, vs a4 s1.length c4), (3, vp b1 0), (4, vp b2 0), (7, vs a6 out1.length c10), (8, vi i1), (9, vs a8 r2.1.length c14), (11, vp b3 0), (12, vi (x.2.1))]) (fu, 0, t1, a2, c2, a3, c3) ⟨_, hI.arr (.c (.s .z) (.c .z .n)) ⟨(.s (.s (.s (.s (.s .z))))), (.s (.s (.s (.s (.s (.s .z)))))), (.s .z), (.s (.s .z)), (.s (.s (.s .z))), (.s (.s (.s (.s .z)))), (.s (.s (.s (.s (.s .z))))), (.s (.s (.s (.s (.s (.s .z)))))), .z, trivial⟩, h⟩ ⟨rfl, rfl, rfl, rfl, rfl, rfl, rfl, rfl, trivial⟩ ?_))
  clear h hI; rintro ⟨fuel2, k1, b6, a12, c23, a13, c24⟩ w12 ⟨c25, hI, h⟩
  dsimp only at hI h
  rcases fuel2 with _ | fuel2
  ·rw [m_ref53_Blocks_l2] at h; cases h
  rw [m_ref53_Blocks_l2] at h
  refine c_sub (e := [(2, vs a4 s1.length c4), (3, vp b1 0), (4, vp b2 0), (7, vs a6 out1.length c10), (8, vi i1), (9, vs a8 r2.1.length c14), (11, vp b3 0), (12, vi k1)]) ⟨rfl, rfl, rfl, rfl, rfl, rfl, rfl, rfl, trivial⟩ ?_
  refine c_seq (sr (sm ?_))
  refine sm ?_
  refine sq (y_lenl rfl u42 et) ?_
  refine sq (y_lss rfl et et) ?_
  refine nk (cif h et (fun hb h => ?_) (fun hb h => ?_))
  ·refine c_skip (k_same (c_join (α := GTensor × (Option Addr) × Nat × (Option Addr) × Nat) (fun _ => ⟨82, []⟩) (fun x => [(2, vs a4 s1.length c4), (3, vp b1 0), (4, vp b2 0), (7, vs a6 out1.length c10), (8, vi i1), (9, vs a8 r2.1.length c14), (11, vp b3 0), (12, vi k1)]) (fun x => fun w => ∃ C, Bun noM F w0 C w [MO.row cGTensor 41 a6 c10 out1, MO.box b3 41 (ATensor (x.1) (x.2.1) (x.2.2.1) (x.2.2.2.1) (x.2.2.2.2))] [Cl.sl (cInt .i64) (x.2.1) (x.2.2.1) (x.1).Dims, Cl.sl cGVal (x.2.2.2.1) (x.2.2.2.2) (x.1).Vals, Cl.sl (cInt .i64) a4 c4 s1, Cl.blk b1 24 #[vs a1 m1.Dims.length c1], Cl.sl (cInt .i64) a1 c1 m1.Dims, Cl.blk b2 41 (ATensor t1 a2 c2 a3 c3), Cl.sl (cInt .i64) a2 c2 t1.Dims, Cl.sl cGVal a3 c3 t1.Vals, Cl.sl (cInt .i64) a8 c14 r2.1] ∧ m_ref53_Blocks_j3 (m_ref53_Blocks_l2 s1 t1 m1 r2 out1 (m_ref53_Blocks_l1 m1 s1 t1 fuel1) i1 fuel2) k1 (x.1) = some r) ?_ ?_))
   ·clear h hI; rintro ⟨b7, a14, c26, a15, c27⟩ w13 ⟨c28, hI, h⟩
    try dsimp only at hI h
    rw [m_ref53_Blocks_j3] at h
    refine c_sub (e := [(2, vs a4 s1.length c4), (3, vp b1 0), (4, vp b2 0), (7, vs a6 out1.length c10), (8, vi i1), (9, vs a8 r2.1.length c14), (11, vp b3 0), (12, vi k1)]) ⟨rfl, rfl, rfl, rfl, rfl, rfl, rfl, rfl, trivial⟩ ?_
    refine c_region rfl ?_
    refine sm ?_
    refine sq (y_add rfl et ev_const) ?_
    refine sa ?_
    refine s_nil ?_
    exact k_loop (fuel2, wi64 (k1 + 1), b7, a14, c26, a15, c27) ⟨rfl, rfl, rfl, rfl, rfl, rfl, rfl, rfl, trivial⟩ ⟨_, hI.arr (.c .z (.c .z .n)) ⟨.z, (.s .z), (.s (.s .z)), (.s (.s (.s .z))), (.s (.s (.s (.s .z)))), (.s (.s (.s (.s (.s .z))))), (.s (.s (.s (.s (.s (.s .z)))))), (.s (.s (.s (.s (.s (.s (.s .z))))))), (.s (.s (.s (.s (.s (.s (.s (.s .z)))))))), trivial⟩, h⟩ (Nat.lt_succ_self _)
   refine c_block (sr (sm ?_))
   refine sm ?_
   obtain ⟨e1, hx6, h⟩ := bnd_some h
   obtain ⟨ad1, cs1, hA1, hr1, hq1⟩ := hI.clat (.s (.s .z)) hx6
   obtain rfl : cs1 = [vi e1] := hr1
   refine sq (y_indexAddr rfl u42 size_3 et et (lat_bd hx6) hA1) ?_
   refine sq (y_load1 (v := (vi e1)) rfl et u3 rfl hq1.1) ?_
   refine sq (y_geq rfl et ev_const) ?_
   refine nk (cif h et (fun hb h => ?_) (fun hb h => ?_))
   ·refine c_seq (c_drawX [] false (.c (0, .q) (.c (1, .q) (.c (2, .q) (.c (3, .q) (.c (4, .q) (.c (5, .q) (.c (6, .q) (.c (7, .q) (.c (8, .q) (.c (9, .q) (.c (10, .q) (.c (11, .q) (.c (12, .q) (.c (13, .q) (.c (14, .q) .n))))))))))))))) hI (by kernel_rfl) (by kernel_rfl) ?_)
    clear hI; intro w14 hI
    refine a_q rfl gn rfl (fun w' => y_fieldAddr rfl et u41 rfl size_22 rfl) ?_
    refine a_read rfl gn rfl (fun w' hw' => (y_load1 (v := (vs a2 t1.Dims.length c2)) rfl et u22 rfl ((hI.kblk (l := [vs a2 t1.Dims.length c2]) (.s (.s (.s (.s (.s .z))))) rfl).at_ (SX.any rfl hw')))) (by kernel_rfl) ?_
    refine a_q rfl gn rfl (fun w' => y_move rfl et) ?_
    obtain ⟨e2, hx7, h⟩ := bnd_some h
    obtain ⟨ad2, cs2, hA2, hr2, hq2⟩ := hI.clat (.s (.s (.s (.s (.s (.s .z)))))) hx7
    obtain rfl : cs2 = [vi e2] := hr2
    refine a_q rfl gn rfl (fun w' => y_indexAddr rfl u22 size_3 et et (lat_bd hx7) hA2) ?_
    refine a_read rfl gn rfl (fun w' hw' => (y_load1 (v := (vi e2)) rfl et u3 rfl (hq2.at_ (SX.any rfl hw')))) (by kernel_rfl) ?_
    refine a_q rfl gn rfl (fun w' => y_fieldAddr rfl et u24 rfl size_22 rfl) ?_
    refine a_read rfl gn rfl (fun w' hw' => (y_load1 (v := (vs a1 m1.Dims.length c1)) rfl et u22 rfl ((hI.kblk (l := [vs a1 m1.Dims.length c1]) (.s (.s (.s .z))) rfl).at_ (SX.any rfl hw')))) (by kernel_rfl) ?_
    refine a_q rfl gn rfl (fun w' => y_move rfl et) ?_
    refine a_q rfl gn rfl (fun w' => y_move rfl et) ?_
    obtain ⟨e3, hx8, h⟩ := bnd_some h
    obtain ⟨ad3, cs3, hA3, hr3, hq3⟩ := hI.clat (.s (.s .z)) hx8
    obtain rfl : cs3 = [vi e3] := hr3
    refine a_q rfl gn rfl (fun w' => y_indexAddr rfl u42 size_3 et et (lat_bd hx8) hA3) ?_
    refine a_read rfl gn rfl (fun w' hw' => (y_load1 (v := (vi e3)) rfl et u3 rfl (hq3.at_ (SX.any rfl hw')))) (by kernel_rfl) ?_
    obtain ⟨e4, hx9, h⟩ := bnd_some h
    obtain ⟨ad4, cs4, hA4, hr4, hq4⟩ := hI.clat (.s (.s (.s (.s .z)))) hx9
    obtain rfl : cs4 = [vi e4] := hr4
    refine a_q rfl gn rfl (fun w' => y_indexAddr rfl u22 size_3 et et (lat_bd hx9) hA4) ?_
    refine a_read rfl gn rfl (fun w' hw' => (y_load1 (v := (vi e4)) rfl et u3 rfl (hq4.at_ (SX.any rfl hw')))) (by kernel_rfl) ?_
    obtain ⟨ho1, h⟩ := chk_some h
    refine a_q rfl gn rfl (fun w' => y_quo rfl et et ho1) ?_
    refine a_q rfl gn rfl (fun w' => y_assign rfl et) ?_
    refine a_nil ?_
    refine k_same (c_drawX [25] false (.c (0, .q) (.c (1, .q) (.c (2, .q) (.c (3, .q) (.c (4, .q) (.c (5, .q) (.c (6, .q) (.c (7, .q) (.c (8, .q) (.c (9, .q) (.c (10, .q) (.c (11, .q) (.c (12, .q) (.c (13, .q) (.c (14, .q) (.c (15, .q) (.c (16, .q) (.c (17, .q) (.c (18, .q) (.c (19, .q) (.c (20, .q) (.c (21, .s) (.c (22, .q) (.c (23, .q) (.c (24, .q) (.c (25, .s) .n)))))))))))))))))))))))))) hI (by kernel_rfl) (by kernel_rfl) ?_)
    clear hI; intro w15 hI
    refine a_read rfl gn rfl (fun w' hw' => (y_loadN (l := (lTensor b6 a12 c23 a13 c24)) rfl et u41 rfl size_41 ((CA.blk (hI.blk (.s .z)) rfl).at_ (SX.any rfl hw')))) (by kernel_rfl) ?_
    refine a_q rfl gn rfl (fun w' => y_move rfl et) ?_
    refine a_q rfl gn rfl (fun w' => y_move rfl et) ?_
    refine a_q rfl gn rfl (fun w' => y_move rfl et) ?_
    refine a_q rfl gn rfl (fun w' => y_move rfl et) ?_
    obtain ⟨e5, hx10, h⟩ := bnd_some h
    obtain ⟨ad5, cs5, hA5, hr5, hq5⟩ := hI.clat (.s (.s .z)) hx10
    obtain rfl : cs5 = [vi e5] := hr5
    refine a_q rfl gn rfl (fun w' => y_indexAddr rfl u42 size_3 et et (lat_bd hx10) hA5) ?_
    refine a_read rfl gn rfl (fun w' hw' => (y_load1 (v := (vi e5)) rfl et u3 rfl (hq5.at_ (SX.any rfl hw')))) (by kernel_rfl) ?_
    obtain ⟨e6, hx11, h⟩ := bnd_some h
    obtain ⟨ad6, cs6, hA6, hr6, hq6⟩ := hI.clat (.s (.s (.s (.s (.s (.s (.s (.s .z)))))))) hx11
    obtain rfl : cs6 = [vi e6] := hr6
    refine a_q rfl gn rfl (fun w' => y_indexAddr rfl u22 size_3 et et (lat_bd hx11) hA6) ?_
    refine a_read rfl gn rfl (fun w' hw' => (y_load1 (v := (vi e6)) rfl et u3 rfl (hq6.at_ (SX.any rfl hw')))) (by kernel_rfl) ?_
    refine a_q rfl gn rfl (fun w' => y_move rfl et) ?_
    refine a_q rfl gn rfl (fun w' => y_mul rfl et et) ?_
    refine a_q rfl gn rfl (fun w' => y_move rfl et) ?_
    refine a_q rfl gn rfl (fun w' => y_move rfl et) ?_
    refine a_q rfl gn rfl (fun w' => y_move rfl et) ?_
    obtain ⟨e7, hx12, h⟩ := bnd_some h
    obtain ⟨ad7, cs7, hA7, hr7, hq7⟩ := hI.clat (.s (.s .z)) hx12
    obtain rfl : cs7 = [vi e7] := hr7
    refine a_q rfl gn rfl (fun w' => y_indexAddr rfl u42 size_3 et et (lat_bd hx12) hA7) ?_
    refine a_read rfl gn rfl (fun w' hw' => (y_load1 (v := (vi e7)) rfl et u3 rfl (hq7.at_ (SX.any rfl hw')))) (by kernel_rfl) ?_
    obtain ⟨e8, hx13, h⟩ := bnd_some h
    obtain ⟨ad8, cs8, hA8, hr8, hq8⟩ := hI.clat (.s (.s (.s (.s (.s (.s (.s (.s .z)))))))) hx13
    obtain rfl : cs8 = [vi e8] := hr8
    refine a_q rfl gn rfl (fun w' => y_indexAddr rfl u22 size_3 et et (lat_bd hx13) hA8) ?_
    refine a_read rfl gn rfl (fun w' hw' => (y_load1 (v := (vi e8)) rfl et u3 rfl (hq8.at_ (SX.any rfl hw')))) (by kernel_rfl) ?_
    refine a_q rfl gn rfl (fun w' => y_add rfl et ev_const) ?_
    refine a_q rfl gn rfl (fun w' => y_move rfl et) ?_
    refine a_q rfl gn rfl (fun w' => y_mul rfl et et) ?_
    obtain ⟨r3, hx14, h⟩ := bnd_some h
    refine la_call rfl gn rfl (r_callF (vs := [(Value.agg (ATensor b6 a12 c23 a13 c24)), vi k1, (vi (wi64 (e6 * (wi64 (Int.tdiv e2 e4))))), (vi (wi64 ((wi64 (e8 + 1)) * (wi64 (Int.tdiv e2 e4)))))]) rfl ok_42 ⟨et, ⟨et, ⟨et, ⟨et, trivial⟩⟩⟩⟩) (Calls.mono (c_ref12_Slice (Dj F c25) w15 hI.lt b6 k1 (wi64 (e6 * (wi64 (Int.tdiv e2 e4)))) (wi64 ((wi64 (e8 + 1)) * (wi64 (Int.tdiv e2 e4)))) a12 c23 a13 c24 ⟨(hI.get .z), (hI.get (.s .z)), trivial⟩ r3 hx14) ?_)
    rintro _ w16 ⟨a16, c29, a17, c30, rfl, hx15, hl3⟩
    refine ⟨_, rfl, hx15, ?_⟩
    replace hI := (hI.ext hx15).adds hl3
    refine a_q rfl gn rfl (fun w' => y_move rfl et) ?_
    refine a_q rfl gn rfl (fun w' => y_extract rfl et rfl) ?_
    refine a_q rfl gn rfl (fun w' => y_extract rfl et rfl) ?_
    refine a_turn (F := F) (C := c25) rfl rfl ?_
    refine la_store (new := (lTensor r3.1 a16 c29 a17 c30)) (cs' := (ATensor r3.1 a16 c29 a17 c30)) hI (.s .z) rfl gn rfl rfl et et rfl size_41 rfl rfl rfl ?_
    clear hI; intro c31 w17 hI
    refine a_nil ?_
    exact k_join (r3.1, a16, c29, a17, c30) ⟨rfl, rfl, rfl, rfl, rfl, rfl, rfl, rfl, trivial⟩ ⟨_, hI.arr (.c .z (.c .z .n)) ⟨.z, (.s .z), (.s (.s (.s (.s .z)))), (.s (.s (.s (.s (.s .z))))), (.s (.s (.s (.s (.s (.s .z)))))), (.s (.s (.s (.s (.s (.s (.s .z))))))), (.s (.s (.s (.s (.s (.s (.s (.s .z)))))))), (.s (.s (.s (.s (.s (.s (.s (.s (.s .z))))))))), (.s (.s (.s (.s (.s (.s (.s (.s (.s (.s .z)))))))))), trivial⟩, h⟩ rfl
   exact c_skip (k_join (b6, a12, c23, a13, c24) ⟨rfl, rfl, rfl, rfl, rfl, rfl, rfl, rfl, trivial⟩ ⟨_, hI.arr (.c .z (.c .z .n)) ⟨.z, (.s .z), (.s (.s .z)), (.s (.s (.s .z))), (.s (.s (.s (.s .z)))), (.s (.s (.s (.s (.s .z))))), (.s (.s (.s (.s (.s (.s .z)))))), (.s (.s (.s (.s (.s (.s (.s .z))))))), (.s (.s (.s (.s (.s (.s (.s (.s .z)))))))), trivial⟩, h⟩ rfl)
  refine c_exit ?_
  refine k_in ?_
  exact k_join (b6, a12, c23, a13, c24) ⟨rfl, rfl, rfl, rfl, rfl, rfl, trivial⟩ ⟨_, hI.arr (.c .z (.c .z .n)) ⟨.z, (.s .z), (.s (.s .z)), (.s (.s (.s .z))), (.s (.s (.s (.s .z)))), (.s (.s (.s (.s (.s .z))))), (.s (.s (.s (.s (.s (.s .z)))))), (.s (.s (.s (.s (.s (.s (.s .z))))))), trivial⟩, h⟩ rfl
 refine c_exit ?_
 refine k_in ?_
 refine k_same (sr (sm ?_))
 refine sa ?_
 refine nk (c_ret ?_)
 obtain ⟨c32, hI⟩ := hI.release .z
 obtain rfl := some_inj h
 exact q_ret (vs := [vs a6 out1.length c10]) Tryz.results28 ⟨ev_tmp rfl rfl, trivial⟩ ⟨a6, c10, rfl, hI.ext0, hI.fin ⟨.z, trivial⟩⟩
theorem c_law53_CollectiveReshardBlocks (F : NP) (w0 : World) (hF : ∀ k, F k → k < w0.heap.size) (m1 : GMesh) (t1 : GTensor) (from1 : List Int) (to1 : List Int) (a1 : Option Addr) (c1 : Nat) (a2 : Option Addr) (c2 : Nat) (a3 : Option Addr) (c3 : Nat) (a4 : Option Addr) (c4 : Nat) (a5 : Option Addr) (c5 : Nat) (hc : AllCl [Cl.sl (cInt .i64) a1 c1 m1.Dims, Cl.sl (cInt .i64) a2 c2 t1.Dims, Cl.sl cGVal a3 c3 t1.Vals, Cl.sl (cInt .i64) a4 c4 from1, Cl.sl (cInt .i64) a5 c5 to1] F w0) (r : Bool)
  (h : m_law53_CollectiveReshardBlocks m1 t1 from1 to1 = some r) :
  Calls Tryz.prog 8 #[(Value.agg #[vs a1 m1.Dims.length c1]), (Value.agg (ATensor t1 a2 c2 a3 c3)), vs a4 from1.length c4, vs a5 to1.length c5] w0 fun e w => e = .returned (vb r) ∧ Ext w0 w ∧ AllCl [] F w := by
 refine enterK Tryz.func8 rfl Tryz.ntmps8 rfl ?_
 have hI := Bun.start hF hc
 clear hc
 rw [m_law53_CollectiveReshardBlocks] at h
 refine sr (l_box (v := (Value.agg #[vs a1 m1.Dims.length c1])) (cs := #[vs a1 m1.Dims.length c1]) hI gn rfl rfl et rfl ?_)
 clear hI; intro b1 c6 w1 hI
 obtain ⟨c7, hI⟩ := hI.relBox .z
 refine l_box (v := (Value.agg (ATensor t1 a2 c2 a3 c3))) (cs := (ATensor t1 a2 c2 a3 c3)) hI gn rfl rfl et rfl ?_
 clear hI; intro b2 c8 w2 hI
 obtain ⟨c9, hI⟩ := hI.relBox .z
 refine sac ?_
 refine nk (c_seq (sr (sq (y_loadN (l := [vs a1 m1.Dims.length c1]) rfl et u24 rfl size_24 (hI.kblk (l := [vs a1 m1.Dims.length c1]) (.s .z) rfl).1) ?_)))
 refine sq (y_loadN (l := (lTensor t1 a2 c2 a3 c3)) rfl et u41 rfl size_41 (hI.kblk (l := (lTensor t1 a2 c2 a3 c3)) .z rfl).1) ?_
 refine l_lit (c := cGTensor) (xs := ([t1] : List GTensor)) (vs := [(0, (Value.agg (ATensor t1 a2 c2 a3 c3)))]) (cs := (ATensor t1 a2 c2 a3 c3)) (css := [(lTensor t1 a2 c2 a3 c3)]) hI gn rfl rfl u25 info_41 rfl ⟨rfl, et, trivial⟩ (by kernel_rfl) ⟨⟨a2, c2, a3, c3, rfl, hI.get (.s (.s (.s .z))), hI.get (.s (.s (.s (.s .z))))⟩, trivial⟩ rfl rfl rfl ?_
 clear hI; intro b3 c10 w3 hI
 obtain ⟨r1, hx1, h⟩ := bnd_some h
 refine s_call gn rfl (r_callF (vs := [(Value.agg #[vs a1 m1.Dims.length c1]), vs (some ⟨b3, 0, none⟩) ([t1] : List GTensor).length 1]) rfl ok_9 ⟨et, ⟨et, trivial⟩⟩) (Calls.mono (c_law53_small noM w3 (fun _ k => k.elim) m1 ([t1] : List GTensor) a1 c1 (some ⟨b3, 0, none⟩) 1 ⟨(hI.get0 (.s (.s .z))), hI.lend .z, trivial⟩ r1 hx1) ?_)
 rintro _ w4 ⟨rfl, hx2, hl1⟩
 refine ⟨_, rfl, ?_⟩
 replace hI := (hI.ext hx2)
 refine sq (y_not rfl et) ?_
 refine sm ?_
 refine s_gval (g_false rfl rfl rfl rfl) rfl (fun hc => y_move rfl et) ?_
 refine s_gval (g_false rfl rfl rfl rfl) rfl (fun hc => y_lenl rfl u42 (ev_gv et hc)) ?_
 refine s_gval (g_false rfl rfl rfl rfl) rfl (fun hc => y_gtr rfl (ev_gv et hc) ev_const) ?_
 refine sq (y_or rfl et et) ?_
 refine sm ?_
 refine s_gval (g_false rfl rfl rfl rfl) rfl (fun hc => y_move rfl et) ?_
 refine s_gval (g_false rfl rfl rfl rfl) rfl (fun hc => y_lenl rfl u42 (ev_gv et hc)) ?_
 refine s_gval (g_false rfl rfl rfl rfl) rfl (fun hc => y_gtr rfl (ev_gv et hc) ev_const) ?_
 refine sq (y_or rfl et et) ?_
 refine sm ?_
 refine s_gval (g_false rfl rfl rfl rfl) rfl (fun hc => (y_loadN (l := (lTensor t1 a2 c2 a3 c3)) rfl et u41 rfl size_41 (hI.kblk (l := (lTensor t1 a2 c2 a3 c3)) .z rfl).1)) ?_
 obtain ⟨r2, hx3, h⟩ := bnd_some h
 replace hx3 := gd_some hx3
 refine s_gcallU (v := (vi r2)) (g_false rfl rfl rfl rfl) rfl (fun hc => (r_callF (vs := [(Value.agg (ATensor t1 a2 c2 a3 c3))]) rfl ok_26 ⟨(ev_gv et hc), trivial⟩)) (fun hc => (c_ref12_Validate (Dj F c10) w4 hI.lt t1 a2 c2 a3 c3 ⟨(hI.get (.s (.s (.s .z)))), (hI.get (.s (.s (.s (.s .z))))), trivial⟩ r2 (hx3 hc)).mono fun _ _ k => ⟨k.1, k.2.1⟩) ?_
 intro w5 hx4; replace hI := hI.ext hx4
 refine s_gval (g_false rfl rfl rfl rfl) rfl (fun hc => y_neq rfl (ev_gv et hc) ev_const) ?_
 refine sq (y_or rfl et et) ?_
 refine nk (cif h et (fun hb h => ?_) (fun hb h => ?_))
 ·refine sr ?_
  obtain ⟨r3, hx5, h⟩ := bnd_some h
  refine s_call gn rfl (r_callF (vs := []) rfl ok_10 trivial) (Calls.mono (c_law53_examples (Dj F c10) w5 hI.lt trivial r3 hx5) ?_)
  rintro _ w6 ⟨rfl, hx6, hl3⟩
  refine ⟨_, rfl, ?_⟩
  replace hI := (hI.ext hx6)
  refine sa ?_
  refine s_nil ?_
  refine k_next (e := [(8, vb r3)]) ⟨rfl, trivial⟩ ?_
  refine c_ret ?_
  obtain rfl := some_inj h
  exact q_ret (vs := [vb r3]) Tryz.results8 ⟨ev_tmp rfl rfl, trivial⟩ (fq hI trivial)
 refine c_skip (k_same (c_seq (sr (sq (y_loadN (l := [vs a1 m1.Dims.length c1]) rfl et u24 rfl size_24 (hI.kblk (l := [vs a1 m1.Dims.length c1]) (.s .z) rfl).1) ?_))))
 refine sq (y_fieldAddr rfl et u41 rfl size_22 rfl) ?_
 refine sq (y_load1 (v := (vs a2 t1.Dims.length c2)) rfl et u22 rfl (hI.kblk (l := [vs a2 t1.Dims.length c2]) .z rfl).1) ?_
 refine sm ?_
 obtain ⟨r4, hx7, h⟩ := bnd_some h
 refine s_call gn rfl (r_callF (vs := [(Value.agg #[vs a1 m1.Dims.length c1]), vs a2 t1.Dims.length c2, vs a4 from1.length c4]) rfl ok_27 ⟨et, ⟨et, ⟨et, trivial⟩⟩⟩) (Calls.mono (c_ref53_Fits (Dj F c10) w5 hI.lt m1 t1.Dims from1 a1 c1 a2 c2 a4 c4 ⟨(hI.get (.s (.s .z))), (hI.get (.s (.s (.s .z)))), (hI.get (.s (.s (.s (.s (.s .z)))))), trivial⟩ r4 hx7) ?_)
 rintro _ w7 ⟨rfl, hx8, hl4⟩
 refine ⟨_, rfl, ?_⟩
 replace hI := (hI.ext hx8)
 refine sq (y_not rfl et) ?_
 refine sm ?_
 refine s_gval (g_false rfl rfl rfl rfl) rfl (fun hc => (y_loadN (l := [vs a1 m1.Dims.length c1]) rfl et u24 rfl size_24 (hI.kblk (l := [vs a1 m1.Dims.length c1]) (.s .z) rfl).1)) ?_
 refine s_gval (g_false rfl rfl rfl rfl) rfl (fun hc => y_fieldAddr rfl et u41 rfl size_22 rfl) ?_
 refine s_gval (g_false rfl rfl rfl rfl) rfl (fun hc => (y_load1 (v := (vs a2 t1.Dims.length c2)) rfl (ev_gv et hc) u22 rfl (hI.kblk (l := [vs a2 t1.Dims.length c2]) .z rfl).1)) ?_
 refine s_gval (g_false rfl rfl rfl rfl) rfl (fun hc => y_move rfl et) ?_
 obtain ⟨r5, hx9, h⟩ := bnd_some h
 replace hx9 := gd_some hx9
 refine s_gcallU (v := (vb r5)) (g_false rfl rfl rfl rfl) rfl (fun hc => (r_callF (vs := [(Value.agg #[vs a1 m1.Dims.length c1]), vs a2 t1.Dims.length c2, vs a5 to1.length c5]) rfl ok_27 ⟨(ev_gv et hc), ⟨(ev_gv et hc), ⟨(ev_gv et hc), trivial⟩⟩⟩)) (fun hc => (c_ref53_Fits (Dj F c10) w7 hI.lt m1 t1.Dims to1 a1 c1 a2 c2 a5 c5 ⟨(hI.get (.s (.s .z))), (hI.get (.s (.s (.s .z)))), (hI.get (.s (.s (.s (.s (.s (.s .z))))))), trivial⟩ r5 (hx9 hc)).mono fun _ _ k => ⟨k.1, k.2.1⟩) ?_
 intro w8 hx10; replace hI := hI.ext hx10
 refine s_gval (g_false rfl rfl rfl rfl) rfl (fun hc => y_not rfl (ev_gv et hc)) ?_
 refine sq (y_or rfl et et) ?_
 refine s_nil ?_
 refine k_next (e := [(2, vs a4 from1.length c4), (3, vs a5 to1.length c5), (4, vp b1 0), (5, vp b2 0), (46, (vb ((!r4) || (!r5))))]) ⟨rfl, rfl, rfl, rfl, rfl, trivial⟩ ?_
 refine cif h et (fun hb h => ?_) (fun hb h => ?_)
 ·refine sr ?_
  obtain ⟨r6, hx11, h⟩ := bnd_some h
  refine s_call gn rfl (r_callF (vs := []) rfl ok_10 trivial) (Calls.mono (c_law53_examples (Dj F c10) w8 hI.lt trivial r6 hx11) ?_)
  rintro _ w9 ⟨rfl, hx12, hl6⟩
  refine ⟨_, rfl, ?_⟩
  replace hI := (hI.ext hx12)
  refine sa ?_
  refine nk (c_ret ?_)
  obtain rfl := some_inj h
  exact q_ret (vs := [vb r6]) Tryz.results8 ⟨ev_tmp rfl rfl, trivial⟩ (fq hI trivial)
 refine c_skip (k_same (c_seq (c_drawX [] false (.c (0, .q) (.c (1, .q) (.c (2, .q) (.c (3, .q) (.c (5, .q) (.c (6, .q) (.c (4, .s) (.c (7, .s) (.c (8, .q) (.c (9, .q) (.c (10, .q) (.c (11, .q) (.c (12, .q) (.c (13, .q) (.c (14, .q) .n))))))))))))))) hI (by kernel_rfl) (by kernel_rfl) ?_)))
 clear hI; intro w10 hI
 refine a_read rfl gn rfl (fun w' hw' => (y_loadN (l := [vs a1 m1.Dims.length c1]) rfl et u24 rfl size_24 ((hI.kblk (l := [vs a1 m1.Dims.length c1]) (.s .z) rfl).at_ (SX.any rfl hw')))) (by kernel_rfl) ?_
 refine a_read rfl gn rfl (fun w' hw' => (y_loadN (l := [vs a1 m1.Dims.length c1]) rfl et u24 rfl size_24 ((hI.kblk (l := [vs a1 m1.Dims.length c1]) (.s .z) rfl).at_ (SX.any rfl hw')))) (by kernel_rfl) ?_
 refine a_read rfl gn rfl (fun w' hw' => (y_loadN (l := (lTensor t1 a2 c2 a3 c3)) rfl et u41 rfl size_41 ((hI.kblk (l := (lTensor t1 a2 c2 a3 c3)) .z rfl).at_ (SX.any rfl hw')))) (by kernel_rfl) ?_
 refine a_q rfl gn rfl (fun w' => y_move rfl et) ?_
 refine a_q rfl gn rfl (fun w' => y_move rfl et) ?_
 refine a_q rfl gn rfl (fun w' => y_move rfl et) ?_
 obtain ⟨r7, hx13, h⟩ := bnd_some h
 refine la_call rfl gn rfl (r_callF (vs := [(Value.agg #[vs a1 m1.Dims.length c1]), (Value.agg (ATensor t1 a2 c2 a3 c3)), vs a4 from1.length c4]) rfl ok_28 ⟨et, ⟨et, ⟨et, trivial⟩⟩⟩) (Calls.mono (c_ref53_Blocks (Dj F c10) w10 hI.lt m1 t1 from1 a1 c1 a2 c2 a3 c3 a4 c4 ⟨(hI.get (.s (.s .z))), (hI.get (.s (.s (.s .z)))), (hI.get (.s (.s (.s (.s .z))))), (hI.get (.s (.s (.s (.s (.s .z)))))), trivial⟩ r7 hx13) ?_)
 rintro _ w11 ⟨a6, c11, rfl, hx14, hl7⟩
 refine ⟨_, rfl, hx14, ?_⟩
 replace hI := (hI.ext hx14).adds hl7
 obtain ⟨r8, hx15, h⟩ := bnd_some h
 refine la_call rfl gn rfl (r_callF (vs := [(Value.agg #[vs a1 m1.Dims.length c1]), vs a6 r7.length c11, vs a4 from1.length c4, vs a5 to1.length c5]) rfl ok_24 ⟨et, ⟨et, ⟨et, ⟨et, trivial⟩⟩⟩⟩) (Calls.mono (c_collective_Reshard (Dj F c10) w11 hI.lt m1 r7 from1 to1 a1 c1 a6 c11 a4 c4 a5 c5 ⟨(hI.get (.s (.s (.s .z)))), (hI.get .z), (hI.get (.s (.s (.s (.s (.s (.s .z))))))), (hI.get (.s (.s (.s (.s (.s (.s (.s .z)))))))), trivial⟩ r8 hx15) ?_)
 rintro _ w12 ⟨a7, c12, rfl, hx16, hl8⟩
 refine ⟨_, rfl, hx16, ?_⟩
 replace hI := (hI.ext hx16).adds hl8
 refine a_q rfl gn rfl (fun w' => y_move rfl et) ?_
 refine a_q rfl gn rfl (fun w' => y_extract rfl et rfl) ?_
 refine a_q rfl gn rfl (fun w' => y_extract rfl et rfl) ?_
 refine a_q rfl gn rfl (fun w' => y_extract rfl et rfl) ?_
 refine a_q rfl gn rfl (fun w' => y_assign rfl et) ?_
 refine a_q rfl gn rfl (fun w' => y_assign rfl et) ?_
 refine a_q rfl gn rfl (fun w' => y_assign rfl et) ?_
 refine a_nil ?_
 refine k_same (sr (sm ?_))
 refine sq (y_eql rfl et ev_const) ?_
 refine sm ?_
 refine s_gval (g_true rfl rfl rfl rfl) rfl (fun hc => y_move rfl et) ?_
 refine s_gval (g_true rfl rfl rfl rfl) rfl (fun hc => (y_loadN (l := [vs a1 m1.Dims.length c1]) rfl et u24 rfl size_24 (hI.kblk (l := [vs a1 m1.Dims.length c1]) (.s (.s (.s .z))) rfl).1)) ?_
 refine s_gval (g_true rfl rfl rfl rfl) rfl (fun hc => (y_loadN (l := (lTensor t1 a2 c2 a3 c3)) rfl et u41 rfl size_41 (hI.kblk (l := (lTensor t1 a2 c2 a3 c3)) (.s (.s .z)) rfl).1)) ?_
 refine s_gval (g_true rfl rfl rfl rfl) rfl (fun hc => y_move rfl et) ?_
 obtain ⟨r9, hx17, h⟩ := bnd_some h
 replace hx17 := gd_some hx17
 refine s_gcallS (β := (Option Addr) × Nat) (fun x => (vs (x.1) r9.length (x.2))) (fun x w' => AllCl [Cl.sl cGTensor (x.1) (x.2) r9] (Dj F c10) w') (g_true rfl rfl rfl rfl) rfl (fun hc => (r_callF (vs := [(Value.agg #[vs a1 m1.Dims.length c1]), (Value.agg (ATensor t1 a2 c2 a3 c3)), vs a5 to1.length c5]) rfl ok_28 ⟨(ev_gv et hc), ⟨(ev_gv et hc), ⟨(ev_gv et hc), trivial⟩⟩⟩)) (fun hc => (c_ref53_Blocks (Dj F c10) w12 hI.lt m1 t1 to1 a1 c1 a2 c2 a3 c3 a5 c5 ⟨(hI.get (.s (.s (.s (.s .z))))), (hI.get (.s (.s (.s (.s (.s .z)))))), (hI.get (.s (.s (.s (.s (.s (.s .z))))))), (hI.get (.s (.s (.s (.s (.s (.s (.s (.s .z))))))))), trivial⟩ r9 (hx17 hc)).mono fun _ _ ⟨a8, c13, k1_, k2_, k3_⟩ => ⟨(a8, c13), k1_, k2_, k3_⟩) ?_
 rintro ⟨a8, c13⟩ w13 hx18 hl9; replace hI := hI.ext hx18
 have hI := hI.add (c := Cl.gsl (decide (r8.2.2 = 0)) cGTensor a8 c13 r9) (fun hc => (hl9 hc).1)
 obtain ⟨r10, hx19, h⟩ := bnd_some h
 replace hx19 := gd_some hx19
 refine s_gcallU (v := (vb r10)) (g_true rfl rfl rfl rfl) rfl (fun hc => (r_callF (vs := [vs a7 r8.1.length c12, vs a8 r9.length c13]) rfl ok_15 ⟨(ev_gv et hc), ⟨(ev_gv et hc), trivial⟩⟩)) (fun hc => (c_base_Tensors (Dj F c10) w13 hI.lt r8.1 r9 a7 c12 a8 c13 ⟨(hI.get (.s .z)), (hI.get .z hc), trivial⟩ r10 (hx19 hc)).mono fun _ _ k => ⟨k.1, k.2.1⟩) ?_
 intro w14 hx20; replace hI := hI.ext hx20
 refine sq (y_and rfl et et) ?_
 refine sm ?_
 obtain ⟨r11, hx21, h⟩ := bnd_some h
 replace hx21 := gd_some hx21
 refine s_gcallU (v := (vb r11)) (g_true rfl rfl rfl rfl) rfl (fun hc => (r_callF (vs := []) rfl ok_10 trivial)) (fun hc => (c_law53_examples (Dj F c10) w14 hI.lt trivial r11 (hx21 hc)).mono fun _ _ k => ⟨k.1, k.2.1⟩) ?_
 intro w15 hx22; replace hI := hI.ext hx22
 refine sq (y_and rfl et et) ?_
 refine sa ?_
 refine s_nil ?_
 refine k_next (e := [(8, (vb (((decide (r8.2.2 = 0)) && r10) && r11)))]) ⟨rfl, trivial⟩ ?_
 refine c_ret ?_
 obtain rfl := some_inj h
 exact q_ret (vs := [(vb (((decide (r8.2.2 = 0)) && r10) && r11))]) Tryz.results8 ⟨ev_tmp rfl rfl, trivial⟩ (fq hI trivial)
end Go.Proofs.YtpedfojbfbccaaaGreat
