import Derived.Test.YtpedfojbfbccaaaGreatSCQ7b
namespace Go.Proofs.YtpedfojbfbccaaaGreat
open Go Go.RowKit Go.Vc
set_option maxRecDepth 100000
set_option maxHeartbeats 4000000
set_option linter.unusedVariables false
set_option linter.unusedSimpArgs false
theorem c_collective_SliceLocal_1 (F : NP) (w0 : World) (hF : ∀ k, F k → k < w0.heap.size) (dev1 : Int) (a1 : List GTensor) (a3 : GMesh) (a5 : List GTensor) (a7 : Int) (a8 : Int) (a9 : Int) (a2 : Option Addr) (c1 : Nat) (b1 : Nat) (a4 : Option Addr) (c2 : Nat) (b2 : Nat) (a6 : Option Addr) (c3 : Nat) (b3 : Nat) (b4 : Nat) (b5 : Nat) (hc : AllCl [Cl.sl cGTensor a2 c1 a1, Cl.sl (cInt .i64) a4 c2 a3.Dims, Cl.blk b1 24 #[vs a4 a3.Dims.length c2], Cl.sl cGTensor a6 c3 a5, Cl.blk b2 25 #[vs a6 a5.length c3], Cl.blk b3 3 #[vi a7], Cl.blk b4 3 #[vi a8], Cl.blk b5 3 #[vi a9]] F w0) (r : GTensor × Int)
  (h : m_collective_SliceLocal_1 dev1 a1 a3 a5 a7 a8 a9 = some r) :
  Calls Tryz.prog 38 #[vi dev1, vs a2 a1.length c1, vp b1 0, vp b2 0, vp b3 0, vp b4 0, vp b5 0] w0 fun e w => ∃ (a10 : Option Addr) (c4 : Nat) (a11 : Option Addr) (c5 : Nat), e = .returned (Value.tuple #[(Value.agg (ATensor r.1 a10 c4 a11 c5)), vi r.2]) ∧ Ext w0 w ∧ AllCl [Cl.sl (cInt .i64) a10 c4 r.1.Dims, Cl.sl cGVal a11 c5 r.1.Vals] F w := by
 refine enterK Tryz.func38 rfl Tryz.ntmps38 rfl ?_
 have hI := Bun.start hF hc
 clear hc
 rw [m_collective_SliceLocal_1] at h
 refine sr (l_alloc (cs := ZTensor) hI gn rfl rfl zero_41 rfl ?_)
 clear hI; intro b6 c6 w1 hI
 refine sac ?_
 refine nk (sr (sq (y_loadN (l := [vs a4 a3.Dims.length c2]) rfl et u24 rfl size_24 (hI.kblk (l := [vs a4 a3.Dims.length c2]) (.s (.s .z)) rfl).1) ?_))
 refine sm ?_
 obtain ⟨r1, hx1, h⟩ := bnd_some h
 refine s_call gn rfl (r_callF (vs := [(Value.agg #[vs a4 a3.Dims.length c2]), vi dev1]) rfl ok_39 ⟨et, ⟨et, trivial⟩⟩) (Calls.mono (c_mesh_Coordinates (Dj F c6) w1 hI.lt a3 dev1 a4 c2 ⟨(hI.get (.s .z)), trivial⟩ r1 hx1) ?_)
 rintro _ w2 ⟨a12, c7, rfl, hx2, hl1⟩
 refine ⟨_, rfl, ?_⟩
 replace hI := (hI.ext hx2).adds hl1
 refine sm ?_
 refine sq (y_extract rfl et rfl) ?_
 refine sq (y_extract rfl et rfl) ?_
 refine sa ?_
 refine sa ?_
 refine nk (c_seq (c_drawX [21] false (.c (0, .q) (.c (1, .q) (.c (2, .q) (.c (3, .q) (.c (4, .q) (.c (5, .q) (.c (6, .q) (.c (7, .q) (.c (8, .q) (.c (9, .q) (.c (10, .q) (.c (11, .q) (.c (12, .q) (.c (13, .q) (.c (14, .q) (.c (15, .q) (.c (16, .q) (.c (17, .q) (.c (18, .s) (.c (19, .q) (.c (20, .q) (.c (21, .s) (.c (22, .q) .n))))))))))))))))))))))) hI (by kernel_rfl) (by kernel_rfl) ?_))
 clear hI; intro w3 hI
 refine a_read rfl gn rfl (fun w' hw' => (y_load1 (v := (vs a6 a5.length c3)) rfl et u25 rfl ((hI.kblk (l := [vs a6 a5.length c3]) (.s (.s (.s (.s (.s .z))))) rfl).at_ (SX.any rfl hw')))) (by kernel_rfl) ?_
 refine a_q rfl gn rfl (fun w' => y_move rfl et) ?_
 obtain ⟨e1, hx3, h⟩ := bnd_some h
 obtain ⟨ad1, cs1, hA1, hr1, hq1⟩ := hI.clat (.s (.s (.s (.s .z)))) hx3
 obtain ⟨a13, c8, a14, c9, rfl, hf1, hf2⟩ := hr1
 have hI := hI.add (c := Cl.sl (cInt .i64) a13 c8 e1.Dims) hf1
 have hI := hI.add (c := Cl.sl cGVal a14 c9 e1.Vals) hf2
 refine a_q rfl gn rfl (fun w' => y_indexAddr rfl u25 size_41 et et (lat_bd hx3) hA1) ?_
 refine a_read rfl gn rfl (fun w' hw' => (y_loadN (l := (lTensor e1 a13 c8 a14 c9)) rfl et u41 rfl size_41 (hq1.at_ (SX.any rfl hw')))) (by kernel_rfl) ?_
 refine a_read rfl gn rfl (fun w' hw' => (y_load1 (v := (vi a7)) rfl et u3 rfl ((hI.kblk (l := [vi a7]) (.s (.s (.s (.s (.s (.s (.s (.s .z)))))))) rfl).at_ (SX.any rfl hw')))) (by kernel_rfl) ?_
 refine a_q rfl gn rfl (fun w' => y_move rfl et) ?_
 refine a_read rfl gn rfl (fun w' hw' => (y_load1 (v := (vi a8)) rfl et u3 rfl ((hI.kblk (l := [vi a8]) (.s (.s (.s (.s (.s (.s (.s (.s (.s .z))))))))) rfl).at_ (SX.any rfl hw')))) (by kernel_rfl) ?_
 obtain ⟨e2, hx4, h⟩ := bnd_some h
 obtain ⟨ad2, cs2, hA2, hr2, hq2⟩ := hI.clat (.s (.s .z)) hx4
 obtain rfl : cs2 = [vi e2] := hr2
 refine a_q rfl gn rfl (fun w' => y_indexAddr rfl u22 size_3 et et (lat_bd hx4) hA2) ?_
 refine a_read rfl gn rfl (fun w' hw' => (y_load1 (v := (vi e2)) rfl et u3 rfl (hq2.at_ (SX.any rfl hw')))) (by kernel_rfl) ?_
 refine a_read rfl gn rfl (fun w' hw' => (y_load1 (v := (vi a9)) rfl et u3 rfl ((hI.kblk (l := [vi a9]) (.s (.s (.s (.s (.s (.s (.s (.s (.s (.s .z)))))))))) rfl).at_ (SX.any rfl hw')))) (by kernel_rfl) ?_
 refine a_q rfl gn rfl (fun w' => y_mul rfl et et) ?_
 refine a_q rfl gn rfl (fun w' => y_move rfl et) ?_
 refine a_read rfl gn rfl (fun w' hw' => (y_load1 (v := (vi a8)) rfl et u3 rfl ((hI.kblk (l := [vi a8]) (.s (.s (.s (.s (.s (.s (.s (.s (.s .z))))))))) rfl).at_ (SX.any rfl hw')))) (by kernel_rfl) ?_
 obtain ⟨e3, hx5, h⟩ := bnd_some h
 obtain ⟨ad3, cs3, hA3, hr3, hq3⟩ := hI.clat (.s (.s .z)) hx5
 obtain rfl : cs3 = [vi e3] := hr3
 refine a_q rfl gn rfl (fun w' => y_indexAddr rfl u22 size_3 et et (lat_bd hx5) hA3) ?_
 refine a_read rfl gn rfl (fun w' hw' => (y_load1 (v := (vi e3)) rfl et u3 rfl (hq3.at_ (SX.any rfl hw')))) (by kernel_rfl) ?_
 refine a_q rfl gn rfl (fun w' => y_add rfl et ev_const) ?_
 refine a_read rfl gn rfl (fun w' hw' => (y_load1 (v := (vi a9)) rfl et u3 rfl ((hI.kblk (l := [vi a9]) (.s (.s (.s (.s (.s (.s (.s (.s (.s (.s .z)))))))))) rfl).at_ (SX.any rfl hw')))) (by kernel_rfl) ?_
 refine a_q rfl gn rfl (fun w' => y_mul rfl et et) ?_
 obtain ⟨r2, hx6, h⟩ := bnd_some h
 refine la_call rfl gn rfl (r_callF (vs := [(Value.agg (ATensor e1 a13 c8 a14 c9)), vi a7, (vi (wi64 (e2 * a9))), (vi (wi64 ((wi64 (e3 + 1)) * a9)))]) rfl ok_40 ⟨et, ⟨et, ⟨et, ⟨et, trivial⟩⟩⟩⟩) (Calls.mono (c_tensor_Slice (Dj F c6) w3 hI.lt e1 a7 (wi64 (e2 * a9)) (wi64 ((wi64 (e3 + 1)) * a9)) a13 c8 a14 c9 ⟨(hI.get (.s .z)), (hI.get .z), trivial⟩ r2 hx6) ?_)
 rintro _ w4 ⟨a15, c10, a16, c11, rfl, hx7, hl2⟩
 refine ⟨_, rfl, hx7, ?_⟩
 replace hI := (hI.ext hx7).adds hl2
 refine a_q rfl gn rfl (fun w' => y_extract rfl et rfl) ?_
 refine a_q rfl gn rfl (fun w' => y_extract rfl et rfl) ?_
 refine a_turn (F := F) (C := c6) rfl rfl ?_
 refine la_store (new := (lTensor r2.1 a15 c10 a16 c11)) (cs' := (ATensor r2.1 a15 c10 a16 c11)) hI .z rfl gn rfl rfl et et rfl size_41 rfl rfl rfl ?_
 clear hI; intro c12 w5 hI
 refine a_q rfl gn rfl (fun w' => y_assign rfl et) ?_
 refine a_nil ?_
 refine k_next (e := [(9, vp b6 0), (10, vi r2.2)]) ⟨rfl, rfl, trivial⟩ ?_
 refine c_ret ?_
 obtain rfl := some_inj h
 exact q_ret (vs := [(Value.agg (ATensor r2.1 a15 c10 a16 c11)), vi r2.2]) Tryz.results38 ⟨⟨_, ev_tmp rfl rfl, load_agg (l := (lTensor r2.1 a15 c10 a16 c11)) u41 rfl size_41 (CellsAt.of_blk (hI.blk .z) rfl)⟩, ⟨ev_tmp rfl rfl, trivial⟩⟩ ⟨a15, c10, a16, c11, rfl, hI.ext0, hI.fin ⟨.z, (.s .z), trivial⟩⟩
theorem c_collective_SliceLocal (F : NP) (w0 : World) (hF : ∀ k, F k → k < w0.heap.size) (m1 : GMesh) (l1 : List GTensor) (axis1 : Int) (along1 : Int) (a1 : Option Addr) (c1 : Nat) (a2 : Option Addr) (c2 : Nat) (hc : AllCl [Cl.sl (cInt .i64) a1 c1 m1.Dims, Cl.sl cGTensor a2 c2 l1] F w0) (r : List GTensor × Int)
  (h : m_collective_SliceLocal m1 l1 axis1 along1 = some r) :
  Calls Tryz.prog 13 #[(Value.agg #[vs a1 m1.Dims.length c1]), vs a2 l1.length c2, vi axis1, vi along1] w0 fun e w => ∃ (a3 : Option Addr) (c3 : Nat), e = .returned (Value.tuple #[vs a3 r.1.length c3, vi r.2]) ∧ Ext w0 w ∧ AllCl [Cl.sl cGTensor a3 c3 r.1] F w := by
 refine enterK Tryz.func13 rfl Tryz.ntmps13 rfl ?_
 have hI := Bun.start hF hc
 clear hc
 rw [m_collective_SliceLocal] at h
 refine sr (l_box (v := (Value.agg #[vs a1 m1.Dims.length c1])) (cs := #[vs a1 m1.Dims.length c1]) hI gn rfl rfl et rfl ?_)
 clear hI; intro b1 c4 w1 hI
 obtain ⟨c5, hI⟩ := hI.relBox .z
 refine l_box (v := (vs a2 l1.length c2)) (cs := #[vs a2 l1.length c2]) hI gn rfl rfl et rfl ?_
 clear hI; intro b2 c6 w2 hI
 obtain ⟨c7, hI⟩ := hI.relBox .z
 refine l_box (v := (vi axis1)) (cs := #[vi axis1]) hI gn rfl rfl et rfl ?_
 clear hI; intro b3 c8 w3 hI
 obtain ⟨c9, hI⟩ := hI.relBox .z
 refine l_box (v := (vi along1)) (cs := #[vi along1]) hI gn rfl rfl et rfl ?_
 clear hI; intro b4 c10 w4 hI
 obtain ⟨c11, hI⟩ := hI.relBox .z
 refine sac ?_
 refine sac ?_
 refine nk (c_seq (sr (sq (y_loadN (l := [vs a1 m1.Dims.length c1]) rfl et u24 rfl size_24 (hI.kblk (l := [vs a1 m1.Dims.length c1]) (.s (.s (.s .z))) rfl).1) ?_)))
 refine sq (y_load1 (v := (vs a2 l1.length c2)) rfl et u25 rfl (hI.kblk (l := [vs a2 l1.length c2]) (.s (.s .z)) rfl).1) ?_
 refine sq (y_load1 (v := (vi axis1)) rfl et u3 rfl (hI.kblk (l := [vi axis1]) (.s .z) rfl).1) ?_
 refine sq (y_load1 (v := (vi along1)) rfl et u3 rfl (hI.kblk (l := [vi along1]) .z rfl).1) ?_
 obtain ⟨r1, hx1, h⟩ := bnd_some h
 refine s_call gn rfl (r_callF (vs := [(Value.agg #[vs a1 m1.Dims.length c1]), vs a2 l1.length c2, vi axis1, vi along1]) rfl ok_31 ⟨et, ⟨et, ⟨et, ⟨et, trivial⟩⟩⟩⟩) (Calls.mono (c_collective_checkAxes (Dj F c11) w4 hI.lt m1 l1 axis1 along1 a1 c1 a2 c2 ⟨(hI.get (.s (.s (.s (.s .z))))), (hI.get (.s (.s (.s (.s (.s .z)))))), trivial⟩ r1 hx1) ?_)
 rintro _ w5 ⟨rfl, hx2, hl1⟩
 refine ⟨_, rfl, ?_⟩
 replace hI := (hI.ext hx2)
 refine sa ?_
 refine nk (sr (sm ?_))
 refine sq (y_neq rfl et ev_const) ?_
 refine nk (cif h et (fun hb h => ?_) (fun hb h => ?_))
 ·refine sr (sm ?_)
  refine sac ?_
  refine sa ?_
  refine nk (c_ret ?_)
  have hI := hI.add (c := Cl.sl cGTensor none 0 ([] : List GTensor)) SlC.nil
  obtain rfl := some_inj h
  exact q_ret (vs := [vs none 0 0, vi r1]) Tryz.results13 ⟨ev_tmp rfl rfl, ⟨ev_tmp rfl rfl, trivial⟩⟩ ⟨none, 0, rfl, hI.ext0, hI.fin ⟨.z, trivial⟩⟩
 refine c_skip (k_same (sr (sq (y_fieldAddr rfl et u24 rfl size_22 rfl) ?_)))
 refine sq (y_load1 (v := (vs a1 m1.Dims.length c1)) rfl et u22 rfl (hI.kblk (l := [vs a1 m1.Dims.length c1]) (.s (.s (.s .z))) rfl).1) ?_
 refine sq (y_load1 (v := (vi axis1)) rfl et u3 rfl (hI.kblk (l := [vi axis1]) (.s .z) rfl).1) ?_
 obtain ⟨e1, hx3, h⟩ := bnd_some h
 obtain ⟨ad1, cs1, hA1, hr1, hq1⟩ := hI.clat (.s (.s (.s (.s .z)))) hx3
 obtain rfl : cs1 = [vi e1] := hr1
 refine sq (y_indexAddr rfl u22 size_3 et et (lat_bd hx3) hA1) ?_
 refine sq (y_load1 (v := (vi e1)) rfl et u3 rfl hq1.1) ?_
 refine sa ?_
 refine nk (c_seq (c_seq (c_drawX [] false (.c (0, .q) (.c (1, .q) (.c (2, .q) (.c (3, .q) (.c (4, .q) (.c (5, .q) (.c (6, .q) (.c (7, .q) (.c (8, .q) (.c (9, .q) .n)))))))))) hI (by kernel_rfl) (by kernel_rfl) ?_)))
 clear hI; intro w6 hI
 refine a_read rfl gn rfl (fun w' hw' => (y_load1 (v := (vs a2 l1.length c2)) rfl et u25 rfl ((hI.kblk (l := [vs a2 l1.length c2]) (.s (.s .z)) rfl).at_ (SX.any rfl hw')))) (by kernel_rfl) ?_
 obtain ⟨e2, hx4, h⟩ := bnd_some h
 obtain ⟨ad2, cs2, hA2, hr2, hq2⟩ := hI.clat (.s (.s (.s (.s (.s .z))))) hx4
 obtain ⟨a4, c12, a5, c13, rfl, hf1, hf2⟩ := hr2
 have hI := hI.add (c := Cl.sl (cInt .i64) a4 c12 e2.Dims) hf1
 have hI := hI.add (c := Cl.sl cGVal a5 c13 e2.Vals) hf2
 refine a_q rfl gn rfl (fun w' => y_indexAddr rfl u25 size_41 et ev_const (lat_bd hx4) hA2) ?_
 refine a_q rfl gn rfl (fun w' => y_fieldAddr rfl et u41 rfl size_22 rfl) ?_
 refine a_read rfl gn rfl (fun w' hw' => (y_load1 (v := (vs a4 e2.Dims.length c12)) rfl et u22 rfl ((CA.part hq2 rfl).at_ (SX.any rfl hw')))) (by kernel_rfl) ?_
 refine a_read rfl gn rfl (fun w' hw' => (y_load1 (v := (vi along1)) rfl et u3 rfl ((hI.kblk (l := [vi along1]) (.s (.s .z)) rfl).at_ (SX.any rfl hw')))) (by kernel_rfl) ?_
 obtain ⟨e3, hx5, h⟩ := bnd_some h
 obtain ⟨ad3, cs3, hA3, hr3, hq3⟩ := hI.clat (.s .z) hx5
 obtain rfl : cs3 = [vi e3] := hr3
 refine a_q rfl gn rfl (fun w' => y_indexAddr rfl u22 size_3 et et (lat_bd hx5) hA3) ?_
 refine a_read rfl gn rfl (fun w' hw' => (y_load1 (v := (vi e3)) rfl et u3 rfl (hq3.at_ (SX.any rfl hw')))) (by kernel_rfl) ?_
 refine a_q rfl gn rfl (fun w' => y_move rfl et) ?_
 obtain ⟨ho1, h⟩ := chk_some h
 refine a_q rfl gn rfl (fun w' => y_rem rfl et et ho1) ?_
 refine a_q rfl gn rfl (fun w' => y_neq rfl et ev_const) ?_
 refine a_nil ?_
 refine k_next (e := [(4, vp b1 0), (5, vp b2 0), (6, vp b3 0), (7, vp b4 0), (11, vi e1), (36, (vb (!decide (Int.tmod e3 e1 = 0))))]) ⟨rfl, rfl, rfl, rfl, rfl, rfl, trivial⟩ ?_
 refine cif h et (fun hb h => ?_) (fun hb h => ?_)
 ·refine sr (sac ?_)
  refine sac ?_
  refine nk (c_ret ?_)
  have hI := hI.add (c := Cl.sl cGTensor none 0 ([] : List GTensor)) SlC.nil
  obtain rfl := some_inj h
  exact q_ret (vs := [vs none 0 0, vi 15]) Tryz.results13 ⟨ev_tmp rfl rfl, ⟨ev_tmp rfl rfl, trivial⟩⟩ ⟨none, 0, rfl, hI.ext0, hI.fin ⟨.z, trivial⟩⟩
 refine c_skip (k_same (c_seq (c_drawX [10] false (.c (0, .q) (.c (1, .q) (.c (2, .q) (.c (3, .q) (.c (4, .q) (.c (5, .q) (.c (6, .q) (.c (7, .q) (.c (8, .q) (.c (9, .s) (.c (10, .s) .n))))))))))) hI (by kernel_rfl) (by kernel_rfl) ?_)))
 clear hI; intro w7 hI
 refine a_read rfl gn rfl (fun w' hw' => (y_load1 (v := (vs a2 l1.length c2)) rfl et u25 rfl ((hI.kblk (l := [vs a2 l1.length c2]) (.s (.s (.s (.s .z)))) rfl).at_ (SX.any rfl hw')))) (by kernel_rfl) ?_
 obtain ⟨e4, hx6, h⟩ := bnd_some h
 obtain ⟨ad4, cs4, hA4, hr4, hq4⟩ := hI.clat (.s (.s (.s (.s (.s (.s (.s .z))))))) hx6
 obtain ⟨a6, c14, a7, c15, rfl, hf3, hf4⟩ := hr4
 have hI := hI.add (c := Cl.sl (cInt .i64) a6 c14 e4.Dims) hf3
 have hI := hI.add (c := Cl.sl cGVal a7 c15 e4.Vals) hf4
 refine a_q rfl gn rfl (fun w' => y_indexAddr rfl u25 size_41 et ev_const (lat_bd hx6) hA4) ?_
 refine a_q rfl gn rfl (fun w' => y_fieldAddr rfl et u41 rfl size_22 rfl) ?_
 refine a_read rfl gn rfl (fun w' hw' => (y_load1 (v := (vs a6 e4.Dims.length c14)) rfl et u22 rfl ((CA.part hq4 rfl).at_ (SX.any rfl hw')))) (by kernel_rfl) ?_
 refine a_read rfl gn rfl (fun w' hw' => (y_load1 (v := (vi along1)) rfl et u3 rfl ((hI.kblk (l := [vi along1]) (.s (.s (.s (.s .z)))) rfl).at_ (SX.any rfl hw')))) (by kernel_rfl) ?_
 obtain ⟨e5, hx7, h⟩ := bnd_some h
 obtain ⟨ad5, cs5, hA5, hr5, hq5⟩ := hI.clat (.s .z) hx7
 obtain rfl : cs5 = [vi e5] := hr5
 refine a_q rfl gn rfl (fun w' => y_indexAddr rfl u22 size_3 et et (lat_bd hx7) hA5) ?_
 refine a_read rfl gn rfl (fun w' hw' => (y_load1 (v := (vi e5)) rfl et u3 rfl (hq5.at_ (SX.any rfl hw')))) (by kernel_rfl) ?_
 refine a_q rfl gn rfl (fun w' => y_move rfl et) ?_
 refine a_q rfl gn rfl (fun w' => y_quo rfl et et ho1) ?_
 refine la_alloc (cs := #[vi 0]) hI rfl gn rfl rfl zero_3 rfl ?_
 clear hI; intro b5 c16 w8 hI
 refine a_turn (F := F) (C := c16) rfl rfl ?_
 refine la_store (new := [(vi (wi64 (Int.tdiv e5 e1)))]) (cs' := #[(vi (wi64 (Int.tdiv e5 e1)))]) hI .z rfl gn rfl rfl et et rfl size_3 rfl rfl rfl ?_
 clear hI; intro c17 w9 hI
 refine a_nil ?_
 refine k_same (sr (sq (y_makeFunc (vs := []) (cap := [vp b1 0, vp b2 0, vp b4 0, vp b3 0, vp b5 0]) rfl rfl ⟨et, ⟨et, ⟨et, ⟨et, ⟨et, trivial⟩⟩⟩⟩⟩) ?_))
 refine sq (y_build (vs := [(0, (Value.func (.func 38) #[] #[vp b1 0, vp b2 0, vp b4 0, vp b3 0, vp b5 0]))]) (cs := #[(Value.func (.func 38) #[] #[vp b1 0, vp b2 0, vp b4 0, vp b3 0, vp b5 0])]) rfl ⟨rfl, et, trivial⟩ (by kernel_rfl)) ?_
 refine l_alloc (cs := #[Value.nilFunc]) hI gn rfl rfl zero_60 rfl ?_
 clear hI; intro b6 c18 w10 hI
 refine l_store (new := [(Value.func (.func 38) #[] #[vp b1 0, vp b2 0, vp b4 0, vp b3 0, vp b5 0])]) (cs' := #[(Value.func (.func 38) #[] #[vp b1 0, vp b2 0, vp b4 0, vp b3 0, vp b5 0])]) hI .z gn rfl rfl et et rfl size_60 rfl rfl rfl ?_
 clear hI; intro c19 w11 hI
 refine nk (sr (sq (y_loadN (l := [(Value.func (.func 38) #[] #[vp b1 0, vp b2 0, vp b4 0, vp b3 0, vp b5 0])]) rfl et u60 rfl size_60 (CellsAt.of_blk (hI.blk .z) rfl)) ?_))
 refine sq (y_loadN (l := [vs a1 m1.Dims.length c1]) rfl et u24 rfl size_24 (hI.kblk (l := [vs a1 m1.Dims.length c1]) (.s (.s (.s (.s (.s (.s (.s .z))))))) rfl).1) ?_
 refine sq (y_load1 (v := (vs a2 l1.length c2)) rfl et u25 rfl (hI.kblk (l := [vs a2 l1.length c2]) (.s (.s (.s (.s (.s (.s .z)))))) rfl).1) ?_
 refine sq (y_load1 (v := (vi axis1)) rfl et u3 rfl (hI.kblk (l := [vi axis1]) (.s (.s (.s (.s (.s .z))))) rfl).1) ?_
 obtain ⟨c20, hI⟩ := hI.relBox (.s .z)
 have hI := hI.add (c := clFn_k1 (Value.func (.func 38) #[] #[vp b1 0, vp b2 0, vp b4 0, vp b3 0, vp b5 0]) (fun y_1 y_2 => m_collective_SliceLocal_1 y_1 y_2 m1 l1 along1 axis1 (wi64 (Int.tdiv e5 e1)))) ⟨rfl, fun D' w' hs hl x_1 x_2 A_3 c_4 r k h => CallV.fn (cap := [vp b1 0, vp b2 0, vp b4 0, vp b3 0, vp b5 0]) ok_38 (c_collective_SliceLocal_1 D' w' hl x_1 x_2 m1 l1 along1 axis1 (wi64 (Int.tdiv e5 e1)) A_3 c_4 b1 a1 c1 b2 a2 c2 b4 b3 b5 ⟨k.1, (Cl.sp _ hs (hI.get (.s (.s (.s (.s (.s (.s (.s (.s (.s .z))))))))))), (Cl.sp _ hs (hI.get (.s (.s (.s (.s (.s (.s (.s (.s .z)))))))))), (Cl.sp _ hs (hI.get (.s (.s (.s (.s (.s (.s (.s (.s (.s (.s .z)))))))))))), (Cl.sp _ hs (hI.get (.s (.s (.s (.s (.s (.s (.s .z))))))))), (Cl.sp _ hs (hI.get (.s (.s (.s (.s (.s .z))))))), (Cl.sp _ hs (hI.get (.s (.s (.s (.s (.s (.s .z)))))))), (Cl.sp _ hs (hI.get .z)), trivial⟩ r h)⟩
 obtain ⟨r2, hx8, h⟩ := bnd_some h
 refine s_call gn rfl (r_callF (vs := [(Value.agg #[(Value.func (.func 38) #[] #[vp b1 0, vp b2 0, vp b4 0, vp b3 0, vp b5 0])]), (Value.agg #[vs a1 m1.Dims.length c1]), vs a2 l1.length c2, vi axis1]) rfl ok_34 ⟨et, ⟨et, ⟨et, ⟨et, trivial⟩⟩⟩⟩) (Calls.mono (c_collective_operation_apply (Dj F c20) w11 hI.lt (⟨(fun y_1 y_2 => m_collective_SliceLocal_1 y_1 y_2 m1 l1 along1 axis1 (wi64 (Int.tdiv e5 e1)))⟩ : Gcollective_operation) m1 l1 axis1 (Value.func (.func 38) #[] #[vp b1 0, vp b2 0, vp b4 0, vp b3 0, vp b5 0]) a1 c1 a2 c2 ⟨(hI.get .z), (hI.get (.s (.s (.s (.s (.s (.s (.s (.s (.s (.s .z))))))))))), (hI.get (.s (.s (.s (.s (.s (.s (.s (.s (.s (.s (.s .z)))))))))))), trivial⟩ r2 hx8) ?_)
 rintro _ w12 ⟨a8, c21, rfl, hx9, hl2⟩
 refine ⟨_, rfl, ?_⟩
 replace hI := (hI.ext hx9).adds hl2
 refine sq (y_extract rfl et rfl) ?_
 refine sq (y_extract rfl et rfl) ?_
 refine sa ?_
 refine sa ?_
 refine s_nil ?_
 refine k_next (e := [(8, vs a8 r2.1.length c21), (9, vi r2.2)]) ⟨rfl, rfl, trivial⟩ ?_
 refine c_ret ?_
 obtain rfl := some_inj h
 exact q_ret (vs := [vs a8 r2.1.length c21, vi r2.2]) Tryz.results13 ⟨ev_tmp rfl rfl, ⟨ev_tmp rfl rfl, trivial⟩⟩ ⟨a8, c21, rfl, hI.ext0, hI.fin ⟨.z, trivial⟩⟩
theorem c_collective_ReduceScatter (F : NP) (w0 : World) (hF : ∀ k, F k → k < w0.heap.size) (m1 : GMesh) (l1 : List GTensor) (axis1 : Int) (along1 : Int) (fold1 : Int) (a1 : Option Addr) (c1 : Nat) (a2 : Option Addr) (c2 : Nat) (hc : AllCl [Cl.sl (cInt .i64) a1 c1 m1.Dims, Cl.sl cGTensor a2 c2 l1] F w0) (r : List GTensor × Int)
  (h : m_collective_ReduceScatter m1 l1 axis1 along1 fold1 = some r) :
  Calls Tryz.prog 18 #[(Value.agg #[vs a1 m1.Dims.length c1]), vs a2 l1.length c2, vi axis1, vi along1, vi fold1] w0 fun e w => ∃ (a3 : Option Addr) (c3 : Nat), e = .returned (Value.tuple #[vs a3 r.1.length c3, vi r.2]) ∧ Ext w0 w ∧ AllCl [Cl.sl cGTensor a3 c3 r.1] F w := by
 refine enterK Tryz.func18 rfl Tryz.ntmps18 rfl ?_
 have hI := Bun.start hF hc
 clear hc
 rw [m_collective_ReduceScatter] at h
 refine sr (l_box (v := (Value.agg #[vs a1 m1.Dims.length c1])) (cs := #[vs a1 m1.Dims.length c1]) hI gn rfl rfl et rfl ?_)
 clear hI; intro b1 c4 w1 hI
 obtain ⟨c5, hI⟩ := hI.relBox .z
 refine sac ?_
 refine sac ?_
 refine nk (sr (sq (y_loadN (l := [vs a1 m1.Dims.length c1]) rfl et u24 rfl size_24 (hI.kblk (l := [vs a1 m1.Dims.length c1]) .z rfl).1) ?_))
 refine sm ?_
 refine sm ?_
 refine sm ?_
 obtain ⟨r1, hx1, h⟩ := bnd_some h
 refine s_call gn rfl (r_callF (vs := [(Value.agg #[vs a1 m1.Dims.length c1]), vs a2 l1.length c2, vi axis1, vi fold1]) rfl ok_16 ⟨et, ⟨et, ⟨et, ⟨et, trivial⟩⟩⟩⟩) (Calls.mono (c_collective_AllReduce (Dj F c5) w1 hI.lt m1 l1 axis1 fold1 a1 c1 a2 c2 ⟨(hI.get (.s .z)), (hI.get (.s (.s .z))), trivial⟩ r1 hx1) ?_)
 rintro _ w2 ⟨a4, c6, rfl, hx2, hl1⟩
 refine ⟨_, rfl, ?_⟩
 replace hI := (hI.ext hx2).adds hl1
 refine sm ?_
 refine sq (y_extract rfl et rfl) ?_
 refine sq (y_extract rfl et rfl) ?_
 refine sa ?_
 refine sa ?_
 refine nk (c_seq (sr (sm ?_)))
 refine sq (y_neq rfl et ev_const) ?_
 refine nk (cif h et (fun hb h => ?_) (fun hb h => ?_))
 ·refine sr (sm ?_)
  refine sac ?_
  refine sa ?_
  refine nk (c_ret ?_)
  have hI := hI.add (c := Cl.sl cGTensor none 0 ([] : List GTensor)) SlC.nil
  obtain rfl := some_inj h
  exact q_ret (vs := [vs none 0 0, vi r1.2]) Tryz.results18 ⟨ev_tmp rfl rfl, ⟨ev_tmp rfl rfl, trivial⟩⟩ ⟨none, 0, rfl, hI.ext0, hI.fin ⟨.z, trivial⟩⟩
 refine c_skip (k_same (sr (sq (y_loadN (l := [vs a1 m1.Dims.length c1]) rfl et u24 rfl size_24 (hI.kblk (l := [vs a1 m1.Dims.length c1]) (.s .z) rfl).1) ?_)))
 refine sm ?_
 refine sm ?_
 refine sm ?_
 obtain ⟨r2, hx3, h⟩ := bnd_some h
 refine s_call gn rfl (r_callF (vs := [(Value.agg #[vs a1 m1.Dims.length c1]), vs a4 r1.1.length c6, vi axis1, vi along1]) rfl ok_13 ⟨et, ⟨et, ⟨et, ⟨et, trivial⟩⟩⟩⟩) (Calls.mono (c_collective_SliceLocal (Dj F c5) w2 hI.lt m1 r1.1 axis1 along1 a1 c1 a4 c6 ⟨(hI.get (.s (.s .z))), (hI.get .z), trivial⟩ r2 hx3) ?_)
 rintro _ w3 ⟨a5, c7, rfl, hx4, hl2⟩
 refine ⟨_, rfl, ?_⟩
 replace hI := (hI.ext hx4).adds hl2
 refine sq (y_extract rfl et rfl) ?_
 refine sq (y_extract rfl et rfl) ?_
 refine sa ?_
 refine sa ?_
 refine s_nil ?_
 refine k_next (e := [(10, vs a5 r2.1.length c7), (11, vi r2.2)]) ⟨rfl, rfl, trivial⟩ ?_
 refine c_ret ?_
 obtain rfl := some_inj h
 exact q_ret (vs := [vs a5 r2.1.length c7, vi r2.2]) Tryz.results18 ⟨ev_tmp rfl rfl, ⟨ev_tmp rfl rfl, trivial⟩⟩ ⟨a5, c7, rfl, hI.ext0, hI.fin ⟨.z, trivial⟩⟩
theorem c_collective_plain (F : NP) (w0 : World) (hF : ∀ k, F k → k < w0.heap.size) (s1 : List Int) (a1 : Option Addr) (c1 : Nat) (hc : AllCl [Cl.sl (cInt .i64) a1 c1 s1] F w0) (r : Bool)
  (h : m_collective_plain s1 = some r) :
  Calls Tryz.prog 61 #[vs a1 s1.length c1] w0 fun e w => e = .returned (vb r) ∧ Ext w0 w ∧ AllCl [] F w := by
 refine enterK Tryz.func61 rfl Tryz.ntmps61 rfl ?_
 have hI := Bun.start hF hc
 clear hc
 rw [m_collective_plain] at h
 refine sr (sac ?_)
 refine nk (c_seq (sr (sm ?_)))
 refine sq (y_lenl rfl u42 et) ?_
 refine sq (y_move rfl ev_const) ?_
 refine nk (c_block (c_loop (α := Nat × Int) (fun x => fun w => ∃ C, Bun noM F w0 C w [] [Cl.sl (cInt .i64) a1 c1 s1] ∧ m_collective_plain_l1 s1 (x.1) (x.2) = some r) (fun x _ => x.1) (fun x => [(0, vs a1 s1.length c1), (7, vs a1 s1.length c1), (8, vi (s1.length : Int)), (9, vi (x.2))]) (fu, 0) ⟨_, hI.arr .n ⟨.z, trivial⟩, h⟩ ⟨rfl, rfl, rfl, rfl, trivial⟩ ?_))
 clear h hI; rintro ⟨fuel1, i1⟩ w1 ⟨c2, hI, h⟩
 dsimp only at hI h
 rcases fuel1 with _ | fuel1
 ·rw [m_collective_plain_l1] at h; cases h
 rw [m_collective_plain_l1] at h
 refine c_sub (e := [(0, vs a1 s1.length c1), (7, vs a1 s1.length c1), (8, vi (s1.length : Int)), (9, vi i1)]) ⟨rfl, rfl, rfl, rfl, trivial⟩ ?_
 refine sr (sq (y_lss rfl et et) ?_)
 refine nk (c_seq (cif h et (fun hb h => ?_) (fun hb h => ?_)))
 ·refine c_skip (k_same (c_join (α := Unit) (fun _ => ⟨33, []⟩) (fun _ => [(0, vs a1 s1.length c1), (7, vs a1 s1.length c1), (8, vi (s1.length : Int)), (9, vi i1)]) (fun _ => fun w => ∃ C, Bun noM F w0 C w [] [Cl.sl (cInt .i64) a1 c1 s1] ∧ m_collective_plain_j1 (m_collective_plain_l1 s1 fuel1) i1 = some r) ?_ ?_))
  ·clear h hI; rintro _ w2 ⟨c3, hI, h⟩
   try dsimp only at hI h
   rw [m_collective_plain_j1] at h
   refine c_sub (e := [(0, vs a1 s1.length c1), (7, vs a1 s1.length c1), (8, vi (s1.length : Int)), (9, vi i1)]) ⟨rfl, rfl, rfl, rfl, trivial⟩ ?_
   refine c_region rfl ?_
   refine sq (y_add rfl et ev_const) ?_
   refine sm ?_
   refine s_nil ?_
   exact k_loop (fuel1, wi64 (i1 + 1)) ⟨rfl, rfl, rfl, rfl, trivial⟩ ⟨_, hI.arr .n ⟨.z, trivial⟩, h⟩ (Nat.lt_succ_self _)
  refine c_block (sr (sm ?_))
  obtain ⟨e1, hx1, h⟩ := bnd_some h
  obtain ⟨ad1, cs1, hA1, hr1, hq1⟩ := hI.clat .z hx1
  obtain rfl : cs1 = [vi e1] := hr1
  refine sq (y_indexAddr rfl u42 size_3 et et (lat_bd hx1) hA1) ?_
  refine sq (y_load1 (v := (vi e1)) rfl et u3 rfl hq1.1) ?_
  refine sa ?_
  refine sa ?_
  refine nk (c_seq (sr (sm ?_)))
  refine sq (y_lss rfl et ev_const) ?_
  refine nk (cif h et (fun hb h => ?_) (fun hb h => ?_))
  ·refine sr (sac ?_)
   refine nk (c_ret ?_)
   obtain rfl := some_inj h
   exact q_ret (vs := [vb false]) Tryz.results61 ⟨ev_tmp rfl rfl, trivial⟩ (fq hI trivial)
  refine c_skip (k_same (sr (sm ?_)))
  refine sm ?_
  obtain ⟨zs1, hx2, h⟩ := bnd_some h
  refine sq (y_lupto rfl u42 size_3 et et hx2 (hI.cap_ .z)) ?_
  replace hI := hI.upto .z hx2
  refine sq (y_lenl rfl u42 et) ?_
  refine sq (y_move rfl ev_const) ?_
  refine nk (c_block (c_loop (α := Nat × Int) (fun x => fun w => ∃ C, Bun noM F w0 C w [] [Cl.sl (cInt .i64) a1 c1 s1, Cl.sl (cInt .i64) a1 c1 zs1] ∧ m_collective_plain_l2 zs1 e1 (m_collective_plain_l1 s1 fuel1) i1 (x.1) (x.2) = some r) (fun x _ => x.1) (fun x => [(0, vs a1 s1.length c1), (7, vs a1 s1.length c1), (8, vi (s1.length : Int)), (9, vi i1), (4, vi e1), (18, vs a1 zs1.length c1), (19, vi (zs1.length : Int)), (20, vi (x.2))]) (fu, 0) ⟨_, hI.arr .n ⟨(.s .z), .z, trivial⟩, h⟩ ⟨rfl, rfl, rfl, rfl, rfl, rfl, rfl, rfl, trivial⟩ ?_))
  clear h hI; rintro ⟨fuel2, i2⟩ w3 ⟨c4, hI, h⟩
  dsimp only at hI h
  rcases fuel2 with _ | fuel2
  ·rw [m_collective_plain_l2] at h; cases h
  rw [m_collective_plain_l2] at h
  refine c_sub (e := [(0, vs a1 s1.length c1), (7, vs a1 s1.length c1), (8, vi (s1.length : Int)), (9, vi i1), (4, vi e1), (18, vs a1 zs1.length c1), (19, vi (zs1.length : Int)), (20, vi i2)]) ⟨rfl, rfl, rfl, rfl, rfl, rfl, rfl, rfl, trivial⟩ ?_
  refine sr (sq (y_lss rfl et et) ?_)
  refine nk (c_seq (cif h et (fun hb h => ?_) (fun hb h => ?_)))
  ·refine c_skip (k_same (c_seq (c_block (sr ?_))))
   obtain ⟨e2, hx3, h⟩ := bnd_some h
   obtain ⟨ad2, cs2, hA2, hr2, hq2⟩ := hI.clat (.s .z) hx3
   obtain rfl : cs2 = [vi e2] := hr2
   refine sq (y_indexAddr rfl u42 size_3 et et (lat_bd hx3) hA2) ?_
   refine sq (y_load1 (v := (vi e2)) rfl et u3 rfl hq2.1) ?_
   refine sa ?_
   refine nk (sr (sm ?_))
   refine sq (y_geq rfl et ev_const) ?_
   refine sm ?_
   refine s_gval (g_true rfl rfl rfl rfl) rfl (fun hc => y_move rfl et) ?_
   refine s_gval (g_true rfl rfl rfl rfl) rfl (fun hc => y_move rfl et) ?_
   refine s_gval (g_true rfl rfl rfl rfl) rfl (fun hc => y_eql rfl (ev_gv et hc) (ev_gv et hc)) ?_
   refine sq (y_and rfl et et) ?_
   refine nk (cif h et (fun hb h => ?_) (fun hb h => ?_))
   ·refine sr (sac ?_)
    refine nk (c_ret ?_)
    obtain rfl := some_inj h
    exact q_ret (vs := [vb false]) Tryz.results61 ⟨ev_tmp rfl rfl, trivial⟩ (fq hI trivial)
   refine c_skip (k_same (c_region rfl ?_))
   refine sq (y_add rfl et ev_const) ?_
   refine sm ?_
   refine s_nil ?_
   exact k_loop (fuel2, wi64 (i2 + 1)) ⟨rfl, rfl, rfl, rfl, rfl, rfl, rfl, rfl, trivial⟩ ⟨_, hI.arr .n ⟨.z, (.s .z), trivial⟩, h⟩ (Nat.lt_succ_self _)
  refine c_exit ?_
  refine k_in ?_
  exact k_join () ⟨rfl, rfl, rfl, rfl, trivial⟩ ⟨_, hI.arr .n ⟨.z, trivial⟩, h⟩ rfl
 refine c_exit ?_
 refine k_in ?_
 refine k_same (sr (sac ?_))
 refine nk (c_ret ?_)
 obtain rfl := some_inj h
 exact q_ret (vs := [vb true]) Tryz.results61 ⟨ev_tmp rfl rfl, trivial⟩ (fq hI trivial)
theorem c_collective_receiver (F : NP) (w0 : World) (hF : ∀ k, F k → k < w0.heap.size) (from1 : List Int) (to1 : List Int) (x1 : Int) (a1 : Option Addr) (c1 : Nat) (a2 : Option Addr) (c2 : Nat) (hc : AllCl [Cl.sl (cInt .i64) a1 c1 from1, Cl.sl (cInt .i64) a2 c2 to1] F w0) (r : Int)
  (h : m_collective_receiver from1 to1 x1 = some r) :
  Calls Tryz.prog 62 #[vs a1 from1.length c1, vs a2 to1.length c2, vi x1] w0 fun e w => e = .returned (vi r) ∧ Ext w0 w ∧ AllCl [] F w := by
 refine enterK Tryz.func62 rfl Tryz.ntmps62 rfl ?_
 have hI := Bun.start hF hc
 clear hc
 rw [m_collective_receiver] at h
 refine sr (sac ?_)
 refine nk (c_seq (sr (sm ?_)))
 refine sq (y_lenl rfl u42 et) ?_
 refine sq (y_move rfl ev_const) ?_
 refine nk (c_block (c_loop (α := Nat × Int) (fun x => fun w => ∃ C, Bun noM F w0 C w [] [Cl.sl (cInt .i64) a1 c1 from1, Cl.sl (cInt .i64) a2 c2 to1] ∧ m_collective_receiver_l1 to1 x1 from1 (x.1) (x.2) = some r) (fun x _ => x.1) (fun x => [(0, vs a1 from1.length c1), (2, vi x1), (9, vs a2 to1.length c2), (10, vi (to1.length : Int)), (11, vi (x.2))]) (fu, 0) ⟨_, hI.arr .n ⟨.z, (.s .z), trivial⟩, h⟩ ⟨rfl, rfl, rfl, rfl, rfl, trivial⟩ ?_))
 clear h hI; rintro ⟨fuel1, i1⟩ w1 ⟨c3, hI, h⟩
 dsimp only at hI h
 rcases fuel1 with _ | fuel1
 ·rw [m_collective_receiver_l1] at h; cases h
 rw [m_collective_receiver_l1] at h
 refine c_sub (e := [(0, vs a1 from1.length c1), (2, vi x1), (9, vs a2 to1.length c2), (10, vi (to1.length : Int)), (11, vi i1)]) ⟨rfl, rfl, rfl, rfl, rfl, trivial⟩ ?_
 refine sr (sq (y_lss rfl et et) ?_)
 refine nk (c_seq (cif h et (fun hb h => ?_) (fun hb h => ?_)))
 ·refine c_skip (k_same (c_seq (c_block (sr (sm ?_)))))
  obtain ⟨e1, hx1, h⟩ := bnd_some h
  obtain ⟨ad1, cs1, hA1, hr1, hq1⟩ := hI.clat (.s .z) hx1
  obtain rfl : cs1 = [vi e1] := hr1
  refine sq (y_indexAddr rfl u42 size_3 et et (lat_bd hx1) hA1) ?_
  refine sq (y_load1 (v := (vi e1)) rfl et u3 rfl hq1.1) ?_
  refine sa ?_
  refine sa ?_
  refine nk (sr (sm ?_))
  refine sm ?_
  refine sq (y_eql rfl et et) ?_
  refine sm ?_
  refine s_gval (g_true rfl rfl rfl rfl) rfl (fun hc => y_move rfl et) ?_
  refine s_gval (g_true rfl rfl rfl rfl) rfl (fun hc => y_move rfl et) ?_
  obtain ⟨e2, hx2, h⟩ := bnd_some h
  replace hx2 := gd_some hx2
  obtain ⟨ad2, cs2, hq2⟩ := hI.gclat .z hx2
  have hq3 : (decide (e1 = x1)) = true → CA (Dj F c3) w1 (ad2.add (Int.toNat i1 * 1)) [vi e2] := fun hc => by have k := hq2 hc; have e : cs2 = _ := k.2.1; rw [← e]; exact k.2.2
  refine s_gval (g_true rfl rfl rfl rfl) rfl (fun hc => (y_indexAddr rfl u42 size_3 (ev_gv et hc) (ev_gv et hc) (lat_bd (hx2 hc)) (hq2 hc).1)) ?_
  refine s_gval (g_true rfl rfl rfl rfl) rfl (fun hc => (y_load1 (v := (vi e2)) rfl (ev_gv et hc) u3 rfl (hq3 hc).1)) ?_
  refine s_gval (g_true rfl rfl rfl rfl) rfl (fun hc => y_eql rfl (ev_gv et hc) ev_const) ?_
  refine sq (y_and rfl et et) ?_
  refine nk (cif h et (fun hb h => ?_) (fun hb h => ?_))
  ·refine sr (sm ?_)
   refine sa ?_
   refine nk (c_ret ?_)
   obtain rfl := some_inj h
   exact q_ret (vs := [vi i1]) Tryz.results62 ⟨ev_tmp rfl rfl, trivial⟩ (fq hI trivial)
  refine c_skip (k_same (c_region rfl ?_))
  refine sq (y_add rfl et ev_const) ?_
  refine sm ?_
  refine s_nil ?_
  exact k_loop (fuel1, wi64 (i1 + 1)) ⟨rfl, rfl, rfl, rfl, rfl, trivial⟩ ⟨_, hI.arr .n ⟨.z, (.s .z), trivial⟩, h⟩ (Nat.lt_succ_self _)
 refine c_exit ?_
 refine k_in ?_
 refine k_same (sr (sac ?_))
 refine nk (c_ret ?_)
 obtain rfl := some_inj h
 exact q_ret (vs := [vi (-1)]) Tryz.results62 ⟨ev_tmp rfl rfl, trivial⟩ (fq hI trivial)
theorem c_collective_Plan (F : NP) (w0 : World) (hF : ∀ k, F k → k < w0.heap.size) (from1 : List Int) (to1 : List Int) (a1 : Option Addr) (c1 : Nat) (a2 : Option Addr) (c2 : Nat) (hc : AllCl [Cl.sl (cInt .i64) a1 c1 from1, Cl.sl (cInt .i64) a2 c2 to1] F w0) (r : List GTransfer)
  (h : m_collective_Plan from1 to1 = some r) :
  Calls Tryz.prog 30 #[vs a1 from1.length c1, vs a2 to1.length c2] w0 fun e w => ∃ (a3 : Option Addr) (c3 : Nat), e = .returned (vs a3 r.length c3) ∧ Ext w0 w ∧ AllCl [Cl.sl cGTransfer a3 c3 r] F w := by
 refine enterK Tryz.func30 rfl Tryz.ntmps30 rfl ?_
 have hI := Bun.start hF hc
 clear hc
 rw [m_collective_Plan] at h
 refine sr (sac ?_)
 refine nk (c_seq (sr (sm ?_)))
 refine sq (y_lenl rfl u42 et) ?_
 refine sm ?_
 refine sq (y_lenl rfl u42 et) ?_
 refine sq (y_neq rfl et et) ?_
 refine sm ?_
 refine s_gval (g_false rfl rfl rfl rfl) rfl (fun hc => y_move rfl et) ?_
 obtain ⟨r1, hx1, h⟩ := bnd_some h
 replace hx1 := gd_some hx1
 refine s_gcallU (v := (vb r1)) (g_false rfl rfl rfl rfl) rfl (fun hc => (r_callF (vs := [vs a1 from1.length c1]) rfl ok_61 ⟨(ev_gv et hc), trivial⟩)) (fun hc => (c_collective_plain (Dj F noM) w0 hI.lt from1 a1 c1 ⟨(hI.get .z), trivial⟩ r1 (hx1 hc)).mono fun _ _ k => ⟨k.1, k.2.1⟩) ?_
 intro w1 hx2; replace hI := hI.ext hx2
 refine s_gval (g_false rfl rfl rfl rfl) rfl (fun hc => y_not rfl (ev_gv et hc)) ?_
 refine sq (y_or rfl et et) ?_
 refine sm ?_
 refine s_gval (g_false rfl rfl rfl rfl) rfl (fun hc => y_move rfl et) ?_
 obtain ⟨r2, hx3, h⟩ := bnd_some h
 replace hx3 := gd_some hx3
 refine s_gcallU (v := (vb r2)) (g_false rfl rfl rfl rfl) rfl (fun hc => (r_callF (vs := [vs a2 to1.length c2]) rfl ok_61 ⟨(ev_gv et hc), trivial⟩)) (fun hc => (c_collective_plain (Dj F noM) w1 hI.lt to1 a2 c2 ⟨(hI.get (.s .z)), trivial⟩ r2 (hx3 hc)).mono fun _ _ k => ⟨k.1, k.2.1⟩) ?_
 intro w2 hx4; replace hI := hI.ext hx4
 refine s_gval (g_false rfl rfl rfl rfl) rfl (fun hc => y_not rfl (ev_gv et hc)) ?_
 refine sq (y_or rfl et et) ?_
 refine nk (cif h et (fun hb h => ?_) (fun hb h => ?_))
 ·refine sr (sac ?_)
  refine nk (c_ret ?_)
  have hI := hI.add (c := Cl.sl cGTransfer none 0 ([] : List GTransfer)) SlC.nil
  obtain rfl := some_inj h
  exact q_ret (vs := [vs none 0 0]) Tryz.results30 ⟨ev_tmp rfl rfl, trivial⟩ ⟨none, 0, rfl, hI.ext0, hI.fin ⟨.z, trivial⟩⟩
 refine c_skip (k_same (sr (sac ?_)))
 refine nk (sr (l_makeMap (kInt .i64) Value.bool hI gn rfl rfl ?_))
 clear hI; intro b1 c4 w3 hI
 refine sa ?_
 refine nk (c_join (α := (List GTransfer) × (List (Int × Bool)) × (Option Addr) × Nat) (fun _ => ⟨100, []⟩) (fun x => [(0, vs a1 from1.length c1), (1, vs a2 to1.length c2), (5, vs (x.2.2.1) (x.1).length (x.2.2.2)), (6, (Value.map (some b1)))]) (fun x => fun w => ∃ C, Bun noM F w0 C w [MO.row cGTransfer 54 (x.2.2.1) (x.2.2.2) (x.1), MO.map (kInt .i64) Value.bool b1 (x.2.1)] [Cl.sl (cInt .i64) a1 c1 from1, Cl.sl (cInt .i64) a2 c2 to1] ∧ m_collective_Plan_j1 to1 from1 (x.1) (x.2.1) = some r) ?_ ?_)
 ·clear h hI; rintro ⟨out1, m1, a4, c5⟩ w4 ⟨c6, hI, h⟩
  try dsimp only at hI h
  rw [m_collective_Plan_j1] at h
  refine c_sub (e := [(0, vs a1 from1.length c1), (1, vs a2 to1.length c2), (5, vs a4 out1.length c5), (6, (Value.map (some b1)))]) ⟨rfl, rfl, rfl, rfl, trivial⟩ ?_
  refine c_seq (sr (sm ?_))
  refine sq (y_lenl rfl u42 et) ?_
  refine sq (y_move rfl ev_const) ?_
  refine nk (c_block (c_loop (α := Nat × (List GTransfer) × Int × (Option Addr) × Nat) (fun x => fun w => ∃ C, Bun noM F w0 C w [MO.row cGTransfer 54 (x.2.2.2.1) (x.2.2.2.2) (x.2.1), MO.map (kInt .i64) Value.bool b1 m1] [Cl.sl (cInt .i64) a1 c1 from1, Cl.sl (cInt .i64) a2 c2 to1] ∧ m_collective_Plan_l1 to1 from1 m1 (x.1) (x.2.1) (x.2.2.1) = some r) (fun x _ => x.1) (fun x => [(0, vs a1 from1.length c1), (5, vs (x.2.2.2.1) (x.2.1).length (x.2.2.2.2)), (6, (Value.map (some b1))), (68, vs a2 to1.length c2), (69, vi (to1.length : Int)), (70, vi (x.2.2.1))]) (fu, out1, 0, a4, c5) ⟨_, hI.arr (.c .z (.c .z .n)) ⟨.z, (.s .z), trivial⟩, h⟩ ⟨rfl, rfl, rfl, rfl, rfl, rfl, trivial⟩ ?_))
  clear h hI; rintro ⟨fuel1, out2, i1, a5, c7⟩ w5 ⟨c8, hI, h⟩
  dsimp only at hI h
  rcases fuel1 with _ | fuel1
  ·rw [m_collective_Plan_l1] at h; cases h
  rw [m_collective_Plan_l1] at h
  refine c_sub (e := [(0, vs a1 from1.length c1), (5, vs a5 out2.length c7), (6, (Value.map (some b1))), (68, vs a2 to1.length c2), (69, vi (to1.length : Int)), (70, vi i1)]) ⟨rfl, rfl, rfl, rfl, rfl, rfl, trivial⟩ ?_
  refine sr (sq (y_lss rfl et et) ?_)
  refine nk (c_seq (cif h et (fun hb h => ?_) (fun hb h => ?_)))
  ·refine c_skip (k_same (c_join (α := (List GTransfer) × (Option Addr) × Nat) (fun _ => ⟨100, []⟩) (fun x => [(0, vs a1 from1.length c1), (5, vs (x.2.1) (x.1).length (x.2.2)), (6, (Value.map (some b1))), (68, vs a2 to1.length c2), (69, vi (to1.length : Int)), (70, vi i1)]) (fun x => fun w => ∃ C, Bun noM F w0 C w [MO.row cGTransfer 54 (x.2.1) (x.2.2) (x.1), MO.map (kInt .i64) Value.bool b1 m1] [Cl.sl (cInt .i64) a1 c1 from1, Cl.sl (cInt .i64) a2 c2 to1] ∧ m_collective_Plan_j2 (m_collective_Plan_l1 to1 from1 m1 fuel1) i1 (x.1) = some r) ?_ ?_))
   ·clear h hI; rintro ⟨out3, a6, c9⟩ w6 ⟨c10, hI, h⟩
    try dsimp only at hI h
    rw [m_collective_Plan_j2] at h
    refine c_sub (e := [(0, vs a1 from1.length c1), (5, vs a6 out3.length c9), (6, (Value.map (some b1))), (68, vs a2 to1.length c2), (69, vi (to1.length : Int)), (70, vi i1)]) ⟨rfl, rfl, rfl, rfl, rfl, rfl, trivial⟩ ?_
    refine c_region rfl ?_
    refine sq (y_add rfl et ev_const) ?_
    refine sm ?_
    refine s_nil ?_
    exact k_loop (fuel1, out3, wi64 (i1 + 1), a6, c9) ⟨rfl, rfl, rfl, rfl, rfl, rfl, trivial⟩ ⟨_, hI.arr (.c .z (.c .z .n)) ⟨.z, (.s .z), trivial⟩, h⟩ (Nat.lt_succ_self _)
   refine c_block (sr (sm ?_))
   obtain ⟨e1, hx5, h⟩ := bnd_some h
   obtain ⟨ad1, cs1, hA1, hr1, hq1⟩ := hI.clat (.s .z) hx5
   obtain rfl : cs1 = [vi e1] := hr1
   refine sq (y_indexAddr rfl u42 size_3 et et (lat_bd hx5) hA1) ?_
   refine sq (y_load1 (v := (vi e1)) rfl et u3 rfl hq1.1) ?_
   refine sa ?_
   refine sa ?_
   refine nk (sr (sm ?_))
   refine sq (y_geq rfl et ev_const) ?_
   refine sm ?_
   refine s_gval (g_true rfl rfl rfl rfl) rfl (fun hc => y_move rfl et) ?_
   refine s_gval (g_true rfl rfl rfl rfl) rfl (fun hc => y_move rfl et) ?_
   obtain ⟨e2, hx6, h⟩ := bnd_some h
   replace hx6 := gd_some hx6
   obtain ⟨ad2, cs2, hq2⟩ := hI.gclat .z hx6
   have hq3 : (decide (0 ≤ e1)) = true → CA (Dj F c8) w5 (ad2.add (Int.toNat i1 * 1)) [vi e2] := fun hc => by have k := hq2 hc; have e : cs2 = _ := k.2.1; rw [← e]; exact k.2.2
   refine s_gval (g_true rfl rfl rfl rfl) rfl (fun hc => (y_indexAddr rfl u42 size_3 (ev_gv et hc) (ev_gv et hc) (lat_bd (hx6 hc)) (hq2 hc).1)) ?_
   refine s_gval (g_true rfl rfl rfl rfl) rfl (fun hc => (y_load1 (v := (vi e2)) rfl (ev_gv et hc) u3 rfl (hq3 hc).1)) ?_
   refine s_gval (g_true rfl rfl rfl rfl) rfl (fun hc => y_move rfl et) ?_
   refine s_gval (g_true rfl rfl rfl rfl) rfl (fun hc => y_neq rfl (ev_gv et hc) (ev_gv et hc)) ?_
   refine sq (y_and rfl et et) ?_
   refine sm ?_
   refine s_gval (g_true rfl rfl rfl rfl) rfl (fun hc => y_move rfl et) ?_
   refine s_gval (g_true rfl rfl rfl rfl) rfl (fun hc => y_move rfl et) ?_
   refine s_gval (g_true rfl rfl rfl rfl) rfl (fun hc => (y_lookup rfl (ev_gv et hc) (ev_gv et hc) (hI.mlk (.s .z) u84 u3 (z0 := false) zero_4 i1))) ?_
   refine s_gval (g_true rfl rfl rfl rfl) rfl (fun hc => y_not rfl (ev_gv et hc)) ?_
   refine sq (y_and rfl et et) ?_
   refine nk (cif h et (fun hb h => ?_) (fun hb h => ?_))
   ·refine c_region rfl ?_
    refine sm ?_
    refine sm ?_
    refine sm ?_
    refine sm ?_
    refine sq (y_build (vs := [(0, vi 4), (1, vi e1), (2, vi i1), (3, vi i1)]) (cs := #[vi 4, vi e1, vi i1, vi i1, (str ([] : List UInt8))]) rfl ⟨rfl, ev_const, ⟨rfl, et, ⟨rfl, et, ⟨rfl, et, trivial⟩⟩⟩⟩ (by kernel_rfl)) ?_
    refine l_lit (c := cGTransfer) (xs := ([(⟨4, e1, i1, i1, ([] : List UInt8)⟩ : GTransfer)] : List GTransfer)) (vs := [(0, (Value.agg #[vi 4, vi e1, vi i1, vi i1, (str ([] : List UInt8))]))]) (cs := #[vi 4, vi e1, vi i1, vi i1, (str ([] : List UInt8))]) (css := [[vi 4, vi e1, vi i1, vi i1, (str ([] : List UInt8))]]) hI gn rfl rfl u51 info_54 rfl ⟨rfl, et, trivial⟩ (by kernel_rfl) ⟨rfl, trivial⟩ rfl rfl rfl ?_
    clear hI; intro b2 c11 w7 hI
    obtain ⟨zs1, hx7, h⟩ := bnd_some h
    refine l_append (xs := out2) (ys := ([(⟨4, e1, i1, i1, ([] : List UInt8)⟩ : GTransfer)] : List GTransfer)) hI (.s .z) (hI.rd .z) hx7 gn rfl rfl u51 info_54 rfl rfl et et ?_
    clear hI; intro a7 c12 c13 w8 hI
    refine sa ?_
    refine s_nil ?_
    exact k_join (zs1, a7, c12) ⟨rfl, rfl, rfl, rfl, rfl, rfl, trivial⟩ ⟨_, hI.arr (.c (.s .z) (.c (.s .z) .n)) ⟨.z, (.s .z), trivial⟩, h⟩ rfl
   exact c_skip (k_join (out2, a5, c7) ⟨rfl, rfl, rfl, rfl, rfl, rfl, trivial⟩ ⟨_, hI.arr (.c .z (.c .z .n)) ⟨.z, (.s .z), trivial⟩, h⟩ rfl)
  refine c_exit ?_
  refine k_in ?_
  refine k_same (sr (sm ?_))
  refine sa ?_
  refine nk (c_ret ?_)
  obtain ⟨c14, hI⟩ := hI.release .z
  obtain rfl := some_inj h
  exact q_ret (vs := [vs a5 out2.length c7]) Tryz.results30 ⟨ev_tmp rfl rfl, trivial⟩ ⟨a5, c7, rfl, hI.ext0, hI.fin ⟨.z, trivial⟩⟩
 refine sr (sm ?_)
 refine sq (y_lenl rfl u42 et) ?_
 refine sq (y_move rfl ev_const) ?_
 refine nk (c_block ?_)
 have hI := hI.nil cGTransfer 54 none
 refine c_loop (α := Nat × (List GTransfer) × Int × (List (Int × Bool)) × (Option Addr) × Nat) (fun x => fun w => ∃ C, Bun noM F w0 C w [MO.row cGTransfer 54 (x.2.2.2.2.1) (x.2.2.2.2.2) (x.2.1), MO.map (kInt .i64) Value.bool b1 (x.2.2.2.1)] [Cl.sl (cInt .i64) a1 c1 from1, Cl.sl (cInt .i64) a2 c2 to1] ∧ m_collective_Plan_l2 from1 to1 (x.1) (x.2.1) (x.2.2.1) (x.2.2.2.1) = some r) (fun x _ => x.1) (fun x => [(0, vs a1 from1.length c1), (1, vs a2 to1.length c2), (5, vs (x.2.2.2.2.1) (x.2.1).length (x.2.2.2.2.2)), (6, (Value.map (some b1))), (28, vs a1 from1.length c1), (29, vi (from1.length : Int)), (30, vi (x.2.2.1))]) (fu, ([] : List GTransfer), 0, ([] : List (Int × Bool)), none, 0) ⟨_, hI.arr (.c .z (.c .z .n)) ⟨.z, (.s .z), trivial⟩, h⟩ ⟨rfl, rfl, rfl, rfl, rfl, rfl, rfl, trivial⟩ ?_
 clear h hI; rintro ⟨fuel2, out4, i2, m2, a8, c15⟩ w9 ⟨c16, hI, h⟩
 dsimp only at hI h
 rcases fuel2 with _ | fuel2
 ·rw [m_collective_Plan_l2] at h; cases h
 rw [m_collective_Plan_l2] at h
 refine c_sub (e := [(0, vs a1 from1.length c1), (1, vs a2 to1.length c2), (5, vs a8 out4.length c15), (6, (Value.map (some b1))), (28, vs a1 from1.length c1), (29, vi (from1.length : Int)), (30, vi i2)]) ⟨rfl, rfl, rfl, rfl, rfl, rfl, rfl, trivial⟩ ?_
 refine sr (sq (y_lss rfl et et) ?_)
 refine nk (c_seq (cif h et (fun hb h => ?_) (fun hb h => ?_)))
 ·refine c_skip (k_same (c_join (α := (List GTransfer) × (List (Int × Bool)) × (Option Addr) × Nat) (fun _ => ⟨100, []⟩) (fun x => [(0, vs a1 from1.length c1), (1, vs a2 to1.length c2), (5, vs (x.2.2.1) (x.1).length (x.2.2.2)), (6, (Value.map (some b1))), (28, vs a1 from1.length c1), (29, vi (from1.length : Int)), (30, vi i2)]) (fun x => fun w => ∃ C, Bun noM F w0 C w [MO.row cGTransfer 54 (x.2.2.1) (x.2.2.2) (x.1), MO.map (kInt .i64) Value.bool b1 (x.2.1)] [Cl.sl (cInt .i64) a1 c1 from1, Cl.sl (cInt .i64) a2 c2 to1] ∧ m_collective_Plan_j3 (m_collective_Plan_l2 from1 to1 fuel2) i2 (x.1) (x.2.1) = some r) ?_ ?_))
  ·clear h hI; rintro ⟨out5, m3, a9, c17⟩ w10 ⟨c18, hI, h⟩
   try dsimp only at hI h
   rw [m_collective_Plan_j3] at h
   refine c_sub (e := [(0, vs a1 from1.length c1), (1, vs a2 to1.length c2), (5, vs a9 out5.length c17), (6, (Value.map (some b1))), (28, vs a1 from1.length c1), (29, vi (from1.length : Int)), (30, vi i2)]) ⟨rfl, rfl, rfl, rfl, rfl, rfl, rfl, trivial⟩ ?_
   refine c_region rfl ?_
   refine sq (y_add rfl et ev_const) ?_
   refine sm ?_
   refine s_nil ?_
   exact k_loop (fuel2, out5, wi64 (i2 + 1), m3, a9, c17) ⟨rfl, rfl, rfl, rfl, rfl, rfl, rfl, trivial⟩ ⟨_, hI.arr (.c .z (.c .z .n)) ⟨.z, (.s .z), trivial⟩, h⟩ (Nat.lt_succ_self _)
  refine c_block (sr (sm ?_))
  obtain ⟨e3, hx8, h⟩ := bnd_some h
  obtain ⟨ad3, cs3, hA3, hr3, hq4⟩ := hI.clat .z hx8
  obtain rfl : cs3 = [vi e3] := hr3
  refine sq (y_indexAddr rfl u42 size_3 et et (lat_bd hx8) hA3) ?_
  refine sq (y_load1 (v := (vi e3)) rfl et u3 rfl hq4.1) ?_
  refine sa ?_
  refine sa ?_
  refine nk (c_seq (sr (sm ?_)))
  refine sq (y_lss rfl et ev_const) ?_
  refine sm ?_
  refine s_gval (g_false rfl rfl rfl rfl) rfl (fun hc => y_move rfl et) ?_
  refine s_gval (g_false rfl rfl rfl rfl) rfl (fun hc => y_move rfl et) ?_
  obtain ⟨e4, hx9, h⟩ := bnd_some h
  replace hx9 := gd_some hx9
  obtain ⟨ad4, cs4, hq5⟩ := hI.gclat (.s .z) hx9
  have hq6 : (!(decide (e3 < 0))) = true → CA (Dj F c16) w9 (ad4.add (Int.toNat i2 * 1)) [vi e4] := fun hc => by have k := hq5 hc; have e : cs4 = _ := k.2.1; rw [← e]; exact k.2.2
  refine s_gval (g_false rfl rfl rfl rfl) rfl (fun hc => (y_indexAddr rfl u42 size_3 (ev_gv et hc) (ev_gv et hc) (lat_bd (hx9 hc)) (hq5 hc).1)) ?_
  refine s_gval (g_false rfl rfl rfl rfl) rfl (fun hc => (y_load1 (v := (vi e4)) rfl (ev_gv et hc) u3 rfl (hq6 hc).1)) ?_
  refine s_gval (g_false rfl rfl rfl rfl) rfl (fun hc => y_move rfl et) ?_
  refine s_gval (g_false rfl rfl rfl rfl) rfl (fun hc => y_eql rfl (ev_gv et hc) (ev_gv et hc)) ?_
  refine sq (y_or rfl et et) ?_
  refine nk (cif h et (fun hb h => ?_) (fun hb h => ?_))
  ·refine c_exit ?_
   refine k_in ?_
   exact k_join (out4, m2, a8, c15) ⟨rfl, rfl, rfl, rfl, rfl, rfl, rfl, trivial⟩ ⟨_, hI.arr (.c .z (.c .z .n)) ⟨.z, (.s .z), trivial⟩, h⟩ rfl
  refine c_skip (k_same (sr (sm ?_)))
  refine sm ?_
  refine sm ?_
  obtain ⟨r3, hx10, h⟩ := bnd_some h
  refine s_call gn rfl (r_callF (vs := [vs a1 from1.length c1, vs a2 to1.length c2, vi e3]) rfl ok_62 ⟨et, ⟨et, ⟨et, trivial⟩⟩⟩) (Calls.mono (c_collective_receiver (Dj F c16) w9 hI.lt from1 to1 e3 a1 c1 a2 c2 ⟨(hI.get .z), (hI.get (.s .z)), trivial⟩ r3 hx10) ?_)
  rintro _ w11 ⟨rfl, hx11, hl3⟩
  refine ⟨_, rfl, ?_⟩
  replace hI := (hI.ext hx11)
  refine sa ?_
  refine nk (sr (sm ?_))
  refine sq (y_geq rfl et ev_const) ?_
  refine nk (cif h et (fun hb h => ?_) (fun hb h => ?_))
  ·refine sr (sm ?_)
   refine sm ?_
   refine l_mapUpdate (k := r3) (u := true) hI (.s .z) gn rfl rfl et et ev_const u84 u3 ?_
   clear hI; intro c19 w12 hI
   refine nk (c_region rfl ?_)
   refine sm ?_
   refine sm ?_
   refine sm ?_
   refine sm ?_
   refine sq (y_build (vs := [(0, vi 3), (1, vi e3), (2, vi i2), (3, vi r3)]) (cs := #[vi 3, vi e3, vi i2, vi r3, (str ([] : List UInt8))]) rfl ⟨rfl, ev_const, ⟨rfl, et, ⟨rfl, et, ⟨rfl, et, trivial⟩⟩⟩⟩ (by kernel_rfl)) ?_
   refine l_lit (c := cGTransfer) (xs := ([(⟨3, e3, i2, r3, ([] : List UInt8)⟩ : GTransfer)] : List GTransfer)) (vs := [(0, (Value.agg #[vi 3, vi e3, vi i2, vi r3, (str ([] : List UInt8))]))]) (cs := #[vi 3, vi e3, vi i2, vi r3, (str ([] : List UInt8))]) (css := [[vi 3, vi e3, vi i2, vi r3, (str ([] : List UInt8))]]) hI gn rfl rfl u51 info_54 rfl ⟨rfl, et, trivial⟩ (by kernel_rfl) ⟨rfl, trivial⟩ rfl rfl rfl ?_
   clear hI; intro b3 c20 w13 hI
   obtain ⟨zs2, hx12, h⟩ := bnd_some h
   refine l_append (xs := out4) (ys := ([(⟨3, e3, i2, r3, ([] : List UInt8)⟩ : GTransfer)] : List GTransfer)) hI (.s .z) (hI.rd .z) hx12 gn rfl rfl u51 info_54 rfl rfl et et ?_
   clear hI; intro a10 c21 c22 w14 hI
   refine sa ?_
   refine s_nil ?_
   exact k_join (zs2, mput m2 r3 true, a10, c21) ⟨rfl, rfl, rfl, rfl, rfl, rfl, rfl, trivial⟩ ⟨_, hI.arr (.c (.s .z) (.c (.s .z) .n)) ⟨.z, (.s .z), trivial⟩, h⟩ rfl
  refine c_region rfl ?_
  refine sm ?_
  refine sm ?_
  refine sm ?_
  refine sm ?_
  refine sq (y_build (vs := [(0, vi 1), (1, vi e3), (2, vi i2), (3, vi i2)]) (cs := #[vi 1, vi e3, vi i2, vi i2, (str ([] : List UInt8))]) rfl ⟨rfl, ev_const, ⟨rfl, et, ⟨rfl, et, ⟨rfl, et, trivial⟩⟩⟩⟩ (by kernel_rfl)) ?_
  refine l_lit (c := cGTransfer) (xs := ([(⟨1, e3, i2, i2, ([] : List UInt8)⟩ : GTransfer)] : List GTransfer)) (vs := [(0, (Value.agg #[vi 1, vi e3, vi i2, vi i2, (str ([] : List UInt8))]))]) (cs := #[vi 1, vi e3, vi i2, vi i2, (str ([] : List UInt8))]) (css := [[vi 1, vi e3, vi i2, vi i2, (str ([] : List UInt8))]]) hI gn rfl rfl u51 info_54 rfl ⟨rfl, et, trivial⟩ (by kernel_rfl) ⟨rfl, trivial⟩ rfl rfl rfl ?_
  clear hI; intro b4 c23 w15 hI
  obtain ⟨zs3, hx13, h⟩ := bnd_some h
  refine l_append (xs := out4) (ys := ([(⟨1, e3, i2, i2, ([] : List UInt8)⟩ : GTransfer)] : List GTransfer)) hI (.s .z) (hI.rd .z) hx13 gn rfl rfl u51 info_54 rfl rfl et et ?_
  clear hI; intro a11 c24 c25 w16 hI
  refine sa ?_
  refine s_nil ?_
  exact k_join (zs3, m2, a11, c24) ⟨rfl, rfl, rfl, rfl, rfl, rfl, rfl, trivial⟩ ⟨_, hI.arr (.c (.s .z) (.c (.s .z) .n)) ⟨.z, (.s .z), trivial⟩, h⟩ rfl
 refine c_exit ?_
 refine k_in ?_
 exact k_join (out4, m2, a8, c15) ⟨rfl, rfl, rfl, rfl, trivial⟩ ⟨_, hI.arr (.c .z (.c .z .n)) ⟨.z, (.s .z), trivial⟩, h⟩ rfl
theorem c_base_Ints (F : NP) (w0 : World) (hF : ∀ k, F k → k < w0.heap.size) (a1 : List Int) (b1 : List Int) (a2 : Option Addr) (c1 : Nat) (a3 : Option Addr) (c2 : Nat) (hc : AllCl [Cl.sl (cInt .i64) a2 c1 a1, Cl.sl (cInt .i64) a3 c2 b1] F w0) (r : Bool)
  (h : m_base_Ints a1 b1 = some r) :
  Calls Tryz.prog 50 #[vs a2 a1.length c1, vs a3 b1.length c2] w0 fun e w => e = .returned (vb r) ∧ Ext w0 w ∧ AllCl [] F w := by
 refine enterK Tryz.func50 rfl Tryz.ntmps50 rfl ?_
 have hI := Bun.start hF hc
 clear hc
 rw [m_base_Ints] at h
 refine sr (sac ?_)
 refine nk (c_seq (sr (sm ?_)))
 refine sq (y_lenl rfl u22 et) ?_
 refine sm ?_
 refine sq (y_lenl rfl u22 et) ?_
 refine sq (y_neq rfl et et) ?_
 refine nk (cif h et (fun hb h => ?_) (fun hb h => ?_))
 ·refine sr (sac ?_)
  refine nk (c_ret ?_)
  obtain rfl := some_inj h
  exact q_ret (vs := [vb false]) Tryz.results50 ⟨ev_tmp rfl rfl, trivial⟩ (fq hI trivial)
 refine c_skip (k_same (c_seq (sr (sac ?_))))
 refine nk (c_block (c_loop (α := Nat × Int) (fun x => fun w => ∃ C, Bun noM F w0 C w [] [Cl.sl (cInt .i64) a2 c1 a1, Cl.sl (cInt .i64) a3 c2 b1] ∧ m_base_Ints_l1 a1 b1 (x.1) (x.2) = some r) (fun x _ => x.1) (fun x => [(0, vs a2 a1.length c1), (1, vs a3 b1.length c2), (5, vi (x.2))]) (fu, 0) ⟨_, hI.arr .n ⟨.z, (.s .z), trivial⟩, h⟩ ⟨rfl, rfl, rfl, trivial⟩ ?_))
 clear h hI; rintro ⟨fuel1, i1⟩ w1 ⟨c3, hI, h⟩
 dsimp only at hI h
 rcases fuel1 with _ | fuel1
 ·rw [m_base_Ints_l1] at h; cases h
 rw [m_base_Ints_l1] at h
 refine c_sub (e := [(0, vs a2 a1.length c1), (1, vs a3 b1.length c2), (5, vi i1)]) ⟨rfl, rfl, rfl, trivial⟩ ?_
 refine c_seq (sr (sm ?_))
 refine sm ?_
 refine sq (y_lenl rfl u22 et) ?_
 refine sq (y_lss rfl et et) ?_
 refine nk (cif h et (fun hb h => ?_) (fun hb h => ?_))
 ·refine c_skip (k_same (c_seq (c_block (c_seq (c_drawX [] false (.c (0, .q) (.c (1, .q) (.c (2, .q) (.c (3, .q) (.c (4, .q) (.c (5, .q) (.c (6, .q) (.c (7, .q) (.c (8, .q) .n))))))))) hI (by kernel_rfl) (by kernel_rfl) ?_)))))
  clear hI; intro w2 hI
  refine a_q rfl gn rfl (fun w' => y_move rfl et) ?_
  refine a_q rfl gn rfl (fun w' => y_move rfl et) ?_
  obtain ⟨e1, hx1, h⟩ := bnd_some h
  obtain ⟨ad1, cs1, hA1, hr1, hq1⟩ := hI.clat .z hx1
  obtain rfl : cs1 = [vi e1] := hr1
  refine a_q rfl gn rfl (fun w' => y_indexAddr rfl u22 size_3 et et (lat_bd hx1) hA1) ?_
  refine a_read rfl gn rfl (fun w' hw' => (y_load1 (v := (vi e1)) rfl et u3 rfl (hq1.at_ (SX.any rfl hw')))) (by kernel_rfl) ?_
  refine a_q rfl gn rfl (fun w' => y_move rfl et) ?_
  refine a_q rfl gn rfl (fun w' => y_move rfl et) ?_
  obtain ⟨e2, hx2, h⟩ := bnd_some h
  obtain ⟨ad2, cs2, hA2, hr2, hq2⟩ := hI.clat (.s .z) hx2
  obtain rfl : cs2 = [vi e2] := hr2
  refine a_q rfl gn rfl (fun w' => y_indexAddr rfl u22 size_3 et et (lat_bd hx2) hA2) ?_
  refine a_read rfl gn rfl (fun w' hw' => (y_load1 (v := (vi e2)) rfl et u3 rfl (hq2.at_ (SX.any rfl hw')))) (by kernel_rfl) ?_
  refine a_q rfl gn rfl (fun w' => y_neq rfl et et) ?_
  refine a_nil ?_
  refine k_same (cif h et (fun hb h => ?_) (fun hb h => ?_))
  ·refine sr (sac ?_)
   refine nk (c_ret ?_)
   obtain rfl := some_inj h
   exact q_ret (vs := [vb false]) Tryz.results50 ⟨ev_tmp rfl rfl, trivial⟩ (fq hI trivial)
  refine c_skip (k_same (c_region rfl ?_))
  refine sm ?_
  refine sq (y_add rfl et ev_const) ?_
  refine sa ?_
  refine s_nil ?_
  exact k_loop (fuel1, wi64 (i1 + 1)) ⟨rfl, rfl, rfl, trivial⟩ ⟨_, hI.arr .n ⟨.z, (.s .z), trivial⟩, h⟩ (Nat.lt_succ_self _)
 refine c_exit ?_
 refine k_in ?_
 refine k_same (sr (sac ?_))
 refine nk (c_ret ?_)
 obtain rfl := some_inj h
 exact q_ret (vs := [vb true]) Tryz.results50 ⟨ev_tmp rfl rfl, trivial⟩ (fq hI trivial)
theorem c_base_Vals (F : NP) (w0 : World) (hF : ∀ k, F k → k < w0.heap.size) (a1 : List GVal) (b1 : List GVal) (a2 : Option Addr) (c1 : Nat) (a3 : Option Addr) (c2 : Nat) (hc : AllCl [Cl.sl cGVal a2 c1 a1, Cl.sl cGVal a3 c2 b1] F w0) (r : Bool)
  (h : m_base_Vals a1 b1 = some r) :
  Calls Tryz.prog 51 #[vs a2 a1.length c1, vs a3 b1.length c2] w0 fun e w => e = .returned (vb r) ∧ Ext w0 w ∧ AllCl [] F w := by
 refine enterK Tryz.func51 rfl Tryz.ntmps51 rfl ?_
 have hI := Bun.start hF hc
 clear hc
 rw [m_base_Vals] at h
 refine sr (sac ?_)
 refine nk (c_seq (sr (sm ?_)))
 refine sq (y_lenl rfl u39 et) ?_
 refine sm ?_
 refine sq (y_lenl rfl u39 et) ?_
 refine sq (y_neq rfl et et) ?_
 refine nk (cif h et (fun hb h => ?_) (fun hb h => ?_))
 ·refine sr (sac ?_)
  refine nk (c_ret ?_)
  obtain rfl := some_inj h
  exact q_ret (vs := [vb false]) Tryz.results51 ⟨ev_tmp rfl rfl, trivial⟩ (fq hI trivial)
 refine c_skip (k_same (c_seq (sr (sac ?_))))
 refine nk (c_block (c_loop (α := Nat × Int) (fun x => fun w => ∃ C, Bun noM F w0 C w [] [Cl.sl cGVal a2 c1 a1, Cl.sl cGVal a3 c2 b1] ∧ m_base_Vals_l1 a1 b1 (x.1) (x.2) = some r) (fun x _ => x.1) (fun x => [(0, vs a2 a1.length c1), (1, vs a3 b1.length c2), (5, vi (x.2))]) (fu, 0) ⟨_, hI.arr .n ⟨.z, (.s .z), trivial⟩, h⟩ ⟨rfl, rfl, rfl, trivial⟩ ?_))
 clear h hI; rintro ⟨fuel1, i1⟩ w1 ⟨c3, hI, h⟩
 dsimp only at hI h
 rcases fuel1 with _ | fuel1
 ·rw [m_base_Vals_l1] at h; cases h
 rw [m_base_Vals_l1] at h
 refine c_sub (e := [(0, vs a2 a1.length c1), (1, vs a3 b1.length c2), (5, vi i1)]) ⟨rfl, rfl, rfl, trivial⟩ ?_
 refine c_seq (sr (sm ?_))
 refine sm ?_
 refine sq (y_lenl rfl u39 et) ?_
 refine sq (y_lss rfl et et) ?_
 refine nk (cif h et (fun hb h => ?_) (fun hb h => ?_))
 ·refine c_skip (k_same (c_seq (c_block (c_seq (c_drawX [] false (.c (0, .q) (.c (1, .q) (.c (2, .q) (.c (3, .q) (.c (4, .q) (.c (5, .q) (.c (6, .q) (.c (7, .q) (.c (8, .q) .n))))))))) hI (by kernel_rfl) (by kernel_rfl) ?_)))))
  clear hI; intro w2 hI
  refine a_q rfl gn rfl (fun w' => y_move rfl et) ?_
  refine a_q rfl gn rfl (fun w' => y_move rfl et) ?_
  obtain ⟨e1, hx1, h⟩ := bnd_some h
  obtain ⟨ad1, cs1, hA1, hr1, hq1⟩ := hI.clat .z hx1
  obtain rfl : cs1 = (lVal e1) := hr1
  refine a_q rfl gn rfl (fun w' => y_indexAddr rfl u39 size_68 et et (lat_bd hx1) hA1) ?_
  refine a_read rfl gn rfl (fun w' hw' => (y_loadN (l := (lVal e1)) rfl et u68 rfl size_68 (hq1.at_ (SX.any rfl hw')))) (by kernel_rfl) ?_
  refine a_q rfl gn rfl (fun w' => y_move rfl et) ?_
  refine a_q rfl gn rfl (fun w' => y_move rfl et) ?_
  obtain ⟨e2, hx2, h⟩ := bnd_some h
  obtain ⟨ad2, cs2, hA2, hr2, hq2⟩ := hI.clat (.s .z) hx2
  obtain rfl : cs2 = (lVal e2) := hr2
  refine a_q rfl gn rfl (fun w' => y_indexAddr rfl u39 size_68 et et (lat_bd hx2) hA2) ?_
  refine a_read rfl gn rfl (fun w' hw' => (y_loadN (l := (lVal e2)) rfl et u68 rfl size_68 (hq2.at_ (SX.any rfl hw')))) (by kernel_rfl) ?_
  refine a_q rfl gn rfl (fun w' => y_bin rfl et et (eqstruct_68n ..) (eqguard_68 ..)) ?_
  refine a_nil ?_
  refine k_same (cif h et (fun hb h => ?_) (fun hb h => ?_))
  ·refine sr (sac ?_)
   refine nk (c_ret ?_)
   obtain rfl := some_inj h
   exact q_ret (vs := [vb false]) Tryz.results51 ⟨ev_tmp rfl rfl, trivial⟩ (fq hI trivial)
  refine c_skip (k_same (c_region rfl ?_))
  refine sm ?_
  refine sq (y_add rfl et ev_const) ?_
  refine sa ?_
  refine s_nil ?_
  exact k_loop (fuel1, wi64 (i1 + 1)) ⟨rfl, rfl, rfl, trivial⟩ ⟨_, hI.arr .n ⟨.z, (.s .z), trivial⟩, h⟩ (Nat.lt_succ_self _)
 refine c_exit ?_
 refine k_in ?_
 refine k_same (sr (sac ?_))
 refine nk (c_ret ?_)
 obtain rfl := some_inj h
 exact q_ret (vs := [vb true]) Tryz.results51 ⟨ev_tmp rfl rfl, trivial⟩ (fq hI trivial)
theorem c_base_Tensor (F : NP) (w0 : World) (hF : ∀ k, F k → k < w0.heap.size) (a1 : GTensor) (b1 : GTensor) (a2 : Option Addr) (c1 : Nat) (a3 : Option Addr) (c2 : Nat) (a4 : Option Addr) (c3 : Nat) (a5 : Option Addr) (c4 : Nat) (hc : AllCl [Cl.sl (cInt .i64) a2 c1 a1.Dims, Cl.sl cGVal a3 c2 a1.Vals, Cl.sl (cInt .i64) a4 c3 b1.Dims, Cl.sl cGVal a5 c4 b1.Vals] F w0) (r : Bool)
  (h : m_base_Tensor a1 b1 = some r) :
  Calls Tryz.prog 21 #[(Value.agg (ATensor a1 a2 c1 a3 c2)), (Value.agg (ATensor b1 a4 c3 a5 c4))] w0 fun e w => e = .returned (vb r) ∧ Ext w0 w ∧ AllCl [] F w := by
 refine enterK Tryz.func21 rfl Tryz.ntmps21 rfl ?_
 have hI := Bun.start hF hc
 clear hc
 rw [m_base_Tensor] at h
 refine sr (l_box (v := (Value.agg (ATensor a1 a2 c1 a3 c2))) (cs := (ATensor a1 a2 c1 a3 c2)) hI gn rfl rfl et rfl ?_)
 clear hI; intro b2 c5 w1 hI
 obtain ⟨c6, hI⟩ := hI.relBox .z
 refine l_box (v := (Value.agg (ATensor b1 a4 c3 a5 c4))) (cs := (ATensor b1 a4 c3 a5 c4)) hI gn rfl rfl et rfl ?_
 clear hI; intro b3 c7 w2 hI
 obtain ⟨c8, hI⟩ := hI.relBox .z
 refine sac ?_
 refine nk (sr (sq (y_fieldAddr rfl et u41 rfl size_38 rfl) ?_))
 refine sq (y_loadN (l := (lType a1.Type_)) rfl et u38 rfl size_38 (hI.kblk (l := (lType a1.Type_)) (.s .z) rfl).1) ?_
 refine sq (y_fieldAddr rfl et u41 rfl size_38 rfl) ?_
 refine sq (y_loadN (l := (lType b1.Type_)) rfl et u38 rfl size_38 (hI.kblk (l := (lType b1.Type_)) .z rfl).1) ?_
 refine sq (y_bin rfl et et (eqstruct_38 ..) (eqguard_38 ..)) ?_
 refine sm ?_
 refine s_gval (g_true rfl rfl rfl rfl) rfl (fun hc => y_fieldAddr rfl et u41 rfl size_22 rfl) ?_
 refine s_gval (g_true rfl rfl rfl rfl) rfl (fun hc => (y_load1 (v := (vs a2 a1.Dims.length c1)) rfl (ev_gv et hc) u22 rfl (hI.kblk (l := [vs a2 a1.Dims.length c1]) (.s .z) rfl).1)) ?_
 refine s_gval (g_true rfl rfl rfl rfl) rfl (fun hc => y_fieldAddr rfl et u41 rfl size_22 rfl) ?_
 refine s_gval (g_true rfl rfl rfl rfl) rfl (fun hc => (y_load1 (v := (vs a4 b1.Dims.length c3)) rfl (ev_gv et hc) u22 rfl (hI.kblk (l := [vs a4 b1.Dims.length c3]) .z rfl).1)) ?_
 obtain ⟨r1, hx1, h⟩ := bnd_some h
 replace hx1 := gd_some hx1
 refine s_gcallU (v := (vb r1)) (g_true rfl rfl rfl rfl) rfl (fun hc => (r_callF (vs := [vs a2 a1.Dims.length c1, vs a4 b1.Dims.length c3]) rfl ok_50 ⟨(ev_gv et hc), ⟨(ev_gv et hc), trivial⟩⟩)) (fun hc => (c_base_Ints (Dj F c8) w2 hI.lt a1.Dims b1.Dims a2 c1 a4 c3 ⟨(hI.get (.s (.s .z))), (hI.get (.s (.s (.s (.s .z))))), trivial⟩ r1 (hx1 hc)).mono fun _ _ k => ⟨k.1, k.2.1⟩) ?_
 intro w3 hx2; replace hI := hI.ext hx2
 refine sq (y_and rfl et et) ?_
 refine sm ?_
 refine s_gval (g_true rfl rfl rfl rfl) rfl (fun hc => y_fieldAddr rfl et u41 rfl size_39 rfl) ?_
 refine s_gval (g_true rfl rfl rfl rfl) rfl (fun hc => (y_load1 (v := (vs a3 a1.Vals.length c2)) rfl (ev_gv et hc) u39 rfl (hI.kblk (l := [vs a3 a1.Vals.length c2]) (.s .z) rfl).1)) ?_
 refine s_gval (g_true rfl rfl rfl rfl) rfl (fun hc => y_fieldAddr rfl et u41 rfl size_39 rfl) ?_
 refine s_gval (g_true rfl rfl rfl rfl) rfl (fun hc => (y_load1 (v := (vs a5 b1.Vals.length c4)) rfl (ev_gv et hc) u39 rfl (hI.kblk (l := [vs a5 b1.Vals.length c4]) .z rfl).1)) ?_
 obtain ⟨r2, hx3, h⟩ := bnd_some h
 replace hx3 := gd_some hx3
 refine s_gcallU (v := (vb r2)) (g_true rfl rfl rfl rfl) rfl (fun hc => (r_callF (vs := [vs a3 a1.Vals.length c2, vs a5 b1.Vals.length c4]) rfl ok_51 ⟨(ev_gv et hc), ⟨(ev_gv et hc), trivial⟩⟩)) (fun hc => (c_base_Vals (Dj F c8) w3 hI.lt a1.Vals b1.Vals a3 c2 a5 c4 ⟨(hI.get (.s (.s (.s .z)))), (hI.get (.s (.s (.s (.s (.s .z)))))), trivial⟩ r2 (hx3 hc)).mono fun _ _ k => ⟨k.1, k.2.1⟩) ?_
 intro w4 hx4; replace hI := hI.ext hx4
 refine sq (y_and rfl et et) ?_
 refine sa ?_
 refine nk (c_ret ?_)
 obtain rfl := some_inj h
 exact q_ret (vs := [(vb ((((decide (a1.Type_.Kind = b1.Type_.Kind)) && (decide (a1.Type_.Bits = b1.Type_.Bits)) && (decide (a1.Type_.Frac = b1.Type_.Frac)) && (decide (a1.Type_.Round = b1.Type_.Round)) && (decide (a1.Type_.Over = b1.Type_.Over))) && r1) && r2))]) Tryz.results21 ⟨ev_tmp rfl rfl, trivial⟩ (fq hI trivial)
theorem c_base_Tensors (F : NP) (w0 : World) (hF : ∀ k, F k → k < w0.heap.size) (a1 : List GTensor) (b1 : List GTensor) (a2 : Option Addr) (c1 : Nat) (a3 : Option Addr) (c2 : Nat) (hc : AllCl [Cl.sl cGTensor a2 c1 a1, Cl.sl cGTensor a3 c2 b1] F w0) (r : Bool)
  (h : m_base_Tensors a1 b1 = some r) :
  Calls Tryz.prog 15 #[vs a2 a1.length c1, vs a3 b1.length c2] w0 fun e w => e = .returned (vb r) ∧ Ext w0 w ∧ AllCl [] F w := by
 refine enterK Tryz.func15 rfl Tryz.ntmps15 rfl ?_
 have hI := Bun.start hF hc
 clear hc
 rw [m_base_Tensors] at h
 refine sr (sac ?_)
 refine nk (c_seq (sr (sm ?_)))
 refine sq (y_lenl rfl u25 et) ?_
 refine sm ?_
 refine sq (y_lenl rfl u25 et) ?_
 refine sq (y_neq rfl et et) ?_
 refine nk (cif h et (fun hb h => ?_) (fun hb h => ?_))
 ·refine sr (sac ?_)
  refine nk (c_ret ?_)
  obtain rfl := some_inj h
  exact q_ret (vs := [vb false]) Tryz.results15 ⟨ev_tmp rfl rfl, trivial⟩ (fq hI trivial)
 refine c_skip (k_same (c_seq (sr (sac ?_))))
 refine nk (c_block (c_loop (α := Nat × Int) (fun x => fun w => ∃ C, Bun noM F w0 C w [] [Cl.sl cGTensor a2 c1 a1, Cl.sl cGTensor a3 c2 b1] ∧ m_base_Tensors_l1 a1 b1 (x.1) (x.2) = some r) (fun x _ => x.1) (fun x => [(0, vs a2 a1.length c1), (1, vs a3 b1.length c2), (5, vi (x.2))]) (fu, 0) ⟨_, hI.arr .n ⟨.z, (.s .z), trivial⟩, h⟩ ⟨rfl, rfl, rfl, trivial⟩ ?_))
 clear h hI; rintro ⟨fuel1, i1⟩ w1 ⟨c3, hI, h⟩
 dsimp only at hI h
 rcases fuel1 with _ | fuel1
 ·rw [m_base_Tensors_l1] at h; cases h
 rw [m_base_Tensors_l1] at h
 refine c_sub (e := [(0, vs a2 a1.length c1), (1, vs a3 b1.length c2), (5, vi i1)]) ⟨rfl, rfl, rfl, trivial⟩ ?_
 refine c_seq (sr (sm ?_))
 refine sm ?_
 refine sq (y_lenl rfl u25 et) ?_
 refine sq (y_lss rfl et et) ?_
 refine nk (cif h et (fun hb h => ?_) (fun hb h => ?_))
 ·refine c_skip (k_same (c_seq (c_block (c_seq (c_drawX [] false (.c (0, .q) (.c (1, .q) (.c (2, .q) (.c (3, .q) (.c (4, .q) (.c (5, .q) (.c (6, .q) (.c (7, .q) (.c (8, .s) (.c (9, .q) .n)))))))))) hI (by kernel_rfl) (by kernel_rfl) ?_)))))
  clear hI; intro w2 hI
  refine a_q rfl gn rfl (fun w' => y_move rfl et) ?_
  refine a_q rfl gn rfl (fun w' => y_move rfl et) ?_
  obtain ⟨e1, hx1, h⟩ := bnd_some h
  obtain ⟨ad1, cs1, hA1, hr1, hq1⟩ := hI.clat .z hx1
  obtain ⟨a4, c4, a5, c5, rfl, hf1, hf2⟩ := hr1
  have hI := hI.add (c := Cl.sl (cInt .i64) a4 c4 e1.Dims) hf1
  have hI := hI.add (c := Cl.sl cGVal a5 c5 e1.Vals) hf2
  refine a_q rfl gn rfl (fun w' => y_indexAddr rfl u25 size_41 et et (lat_bd hx1) hA1) ?_
  refine a_read rfl gn rfl (fun w' hw' => (y_loadN (l := (lTensor e1 a4 c4 a5 c5)) rfl et u41 rfl size_41 (hq1.at_ (SX.any rfl hw')))) (by kernel_rfl) ?_
  refine a_q rfl gn rfl (fun w' => y_move rfl et) ?_
  refine a_q rfl gn rfl (fun w' => y_move rfl et) ?_
  obtain ⟨e2, hx2, h⟩ := bnd_some h
  obtain ⟨ad2, cs2, hA2, hr2, hq2⟩ := hI.clat (.s (.s (.s .z))) hx2
  obtain ⟨a6, c6, a7, c7, rfl, hf3, hf4⟩ := hr2
  have hI := hI.add (c := Cl.sl (cInt .i64) a6 c6 e2.Dims) hf3
  have hI := hI.add (c := Cl.sl cGVal a7 c7 e2.Vals) hf4
  refine a_q rfl gn rfl (fun w' => y_indexAddr rfl u25 size_41 et et (lat_bd hx2) hA2) ?_
  refine a_read rfl gn rfl (fun w' hw' => (y_loadN (l := (lTensor e2 a6 c6 a7 c7)) rfl et u41 rfl size_41 (hq2.at_ (SX.any rfl hw')))) (by kernel_rfl) ?_
  obtain ⟨r1, hx3, h⟩ := bnd_some h
  refine la_call rfl gn rfl (r_callF (vs := [(Value.agg (ATensor e1 a4 c4 a5 c5)), (Value.agg (ATensor e2 a6 c6 a7 c7))]) rfl ok_21 ⟨et, ⟨et, trivial⟩⟩) (Calls.mono (c_base_Tensor (Dj F c3) w2 hI.lt e1 e2 a4 c4 a5 c5 a6 c6 a7 c7 ⟨(hI.get (.s (.s (.s .z)))), (hI.get (.s (.s .z))), (hI.get (.s .z)), (hI.get .z), trivial⟩ r1 hx3) ?_)
  rintro _ w3 ⟨rfl, hx4, hl1⟩
  refine ⟨_, rfl, hx4, ?_⟩
  replace hI := (hI.ext hx4)
  refine a_q rfl gn rfl (fun w' => y_not rfl et) ?_
  refine a_nil ?_
  refine k_same (cif h et (fun hb h => ?_) (fun hb h => ?_))
  ·refine sr (sac ?_)
   refine nk (c_ret ?_)
   obtain rfl := some_inj h
   exact q_ret (vs := [vb false]) Tryz.results15 ⟨ev_tmp rfl rfl, trivial⟩ (fq hI trivial)
  refine c_skip (k_same (c_region rfl ?_))
  refine sm ?_
  refine sq (y_add rfl et ev_const) ?_
  refine sa ?_
  refine s_nil ?_
  exact k_loop (fuel1, wi64 (i1 + 1)) ⟨rfl, rfl, rfl, trivial⟩ ⟨_, hI.arr .n ⟨(.s (.s (.s (.s .z)))), (.s (.s (.s (.s (.s .z))))), trivial⟩, h⟩ (Nat.lt_succ_self _)
 refine c_exit ?_
 refine k_in ?_
 refine k_same (sr (sac ?_))
 refine nk (c_ret ?_)
 obtain rfl := some_inj h
 exact q_ret (vs := [vb true]) Tryz.results15 ⟨ev_tmp rfl rfl, trivial⟩ (fq hI trivial)
theorem c_law53_examples (F : NP) (w0 : World) (hF : ∀ k, F k → k < w0.heap.size) (hc : AllCl [] F w0) (r : Bool)
  (h : m_law53_examples = some r) :
  Calls Tryz.prog 10 #[] w0 fun e w => e = .returned (vb r) ∧ Ext w0 w ∧ AllCl [] F w := by
 refine enterK Tryz.func10 rfl Tryz.ntmps10 rfl ?_
 have hI := Bun.start hF hc
 clear hc
 rw [m_law53_examples] at h
 refine sr (sac ?_)
 refine nk (sr (l_lit (c := (cInt .i64)) (xs := ([2] : List Int)) (vs := [(0, vi 2)]) (cs := #[vi 2]) (css := [[vi 2]]) hI gn rfl rfl u22 info_3 rfl ⟨rfl, ev_const, trivial⟩ (by kernel_rfl) ⟨rfl, trivial⟩ rfl rfl rfl ?_))
 clear hI; intro b1 c1 w1 hI
 refine sq (y_build (vs := [(0, vs (some ⟨b1, 0, none⟩) ([2] : List Int).length 1)]) (cs := #[vs (some ⟨b1, 0, none⟩) ([2] : List Int).length 1]) rfl ⟨rfl, et, trivial⟩ (by kernel_rfl)) ?_
 refine l_alloc (cs := #[vs none 0 0]) hI gn rfl rfl zero_24 rfl ?_
 clear hI; intro b2 c2 w2 hI
 refine l_store (new := [vs (some ⟨b1, 0, none⟩) ([2] : List Int).length 1]) (cs' := #[vs (some ⟨b1, 0, none⟩) ([2] : List Int).length 1]) hI .z gn rfl rfl et et rfl size_24 rfl rfl rfl ?_
 clear hI; intro c3 w3 hI
 refine nk (sr (l_lit (c := (cInt .i64)) (xs := ([1, 2] : List Int)) (vs := [(0, vi 1), (1, vi 2)]) (cs := #[vi 1, vi 2]) (css := [[vi 1], [vi 2]]) hI gn rfl rfl u83 info_2 rfl ⟨rfl, ev_const, ⟨rfl, ev_const, trivial⟩⟩ (by kernel_rfl) ⟨rfl, ⟨rfl, trivial⟩⟩ rfl rfl rfl ?_))
 clear hI; intro b3 c4 w4 hI
 obtain ⟨c5, hI⟩ := hI.release .z
 obtain ⟨r1, hx1, h⟩ := bnd_some h
 refine s_call gn rfl (r_callF (vs := [vs (some ⟨b3, 0, none⟩) ([1, 2] : List Int).length 2]) rfl ok_29 ⟨et, trivial⟩) (Calls.mono (c_law53_vector (Dj F c5) w4 hI.lt ([1, 2] : List Int) (some ⟨b3, 0, none⟩) 2 ⟨(hI.get .z), trivial⟩ r1 hx1) ?_)
 rintro _ w5 ⟨a1, c6, a2, c7, rfl, hx2, hl1⟩
 refine ⟨_, rfl, ?_⟩
 replace hI := (hI.ext hx2).adds hl1
 refine l_lit (c := (cInt .i64)) (xs := ([3, 4] : List Int)) (vs := [(0, vi 3), (1, vi 4)]) (cs := #[vi 3, vi 4]) (css := [[vi 3], [vi 4]]) hI gn rfl rfl u83 info_2 rfl ⟨rfl, ev_const, ⟨rfl, ev_const, trivial⟩⟩ (by kernel_rfl) ⟨rfl, ⟨rfl, trivial⟩⟩ rfl rfl rfl ?_
 clear hI; intro b4 c8 w6 hI
 obtain ⟨c9, hI⟩ := hI.release .z
 obtain ⟨r2, hx3, h⟩ := bnd_some h
 refine s_call gn rfl (r_callF (vs := [vs (some ⟨b4, 0, none⟩) ([3, 4] : List Int).length 2]) rfl ok_29 ⟨et, trivial⟩) (Calls.mono (c_law53_vector (Dj F c9) w6 hI.lt ([3, 4] : List Int) (some ⟨b4, 0, none⟩) 2 ⟨(hI.get .z), trivial⟩ r2 hx3) ?_)
 rintro _ w7 ⟨a3, c10, a4, c11, rfl, hx4, hl2⟩
 refine ⟨_, rfl, ?_⟩
 replace hI := (hI.ext hx4).adds hl2
 refine l_lit (c := cGTensor) (xs := ([r1, r2] : List GTensor)) (vs := [(0, (Value.agg (ATensor r1 a1 c6 a2 c7))), (1, (Value.agg (ATensor r2 a3 c10 a4 c11)))]) (cs := #[vi r1.Type_.Kind, vi r1.Type_.Bits, vi r1.Type_.Frac, vi r1.Type_.Round, vi r1.Type_.Over, vs a1 r1.Dims.length c6, vs a2 r1.Vals.length c7, vi r2.Type_.Kind, vi r2.Type_.Bits, vi r2.Type_.Frac, vi r2.Type_.Round, vi r2.Type_.Over, vs a3 r2.Dims.length c10, vs a4 r2.Vals.length c11]) (css := [(lTensor r1 a1 c6 a2 c7), (lTensor r2 a3 c10 a4 c11)]) hI gn rfl rfl u25 info_41 rfl ⟨rfl, et, ⟨rfl, et, trivial⟩⟩ (by kernel_rfl) ⟨⟨a1, c6, a2, c7, rfl, hI.get (.s (.s (.s .z))), hI.get (.s (.s (.s (.s .z))))⟩, ⟨⟨a3, c10, a4, c11, rfl, hI.get .z, hI.get (.s .z)⟩, trivial⟩⟩ rfl rfl rfl ?_
 clear hI; intro b5 c12 w8 hI
 refine sa ?_
 refine nk (sr (sq (y_loadN (l := [vs (some ⟨b1, 0, none⟩) ([2] : List Int).length 1]) rfl et u24 rfl size_24 (CellsAt.of_blk (hI.blk (.s .z)) rfl)) ?_))
 refine sm ?_
 obtain ⟨c13, hI⟩ := hI.release (.s (.s .z))
 obtain ⟨c14, hI⟩ := hI.release .z
 obtain ⟨r3, hx5, h⟩ := bnd_some h
 refine s_call gn rfl (r_callF (vs := [(Value.agg #[vs (some ⟨b1, 0, none⟩) ([2] : List Int).length 1]), vs (some ⟨b5, 0, none⟩) ([r1, r2] : List GTensor).length 2, vi 0, vi 0]) rfl ok_11 ⟨et, ⟨et, ⟨ev_const, ⟨ev_const, trivial⟩⟩⟩⟩) (Calls.mono (c_collective_AllGather (Dj F c14) w8 hI.lt (⟨([2] : List Int)⟩ : GMesh) ([r1, r2] : List GTensor) 0 0 (some ⟨b1, 0, none⟩) 1 (some ⟨b5, 0, none⟩) 2 ⟨(hI.get (.s .z)), (hI.get .z), trivial⟩ r3 hx5) ?_)
 rintro _ w9 ⟨a5, c15, rfl, hx6, hl3⟩
 refine ⟨_, rfl, ?_⟩
 replace hI := (hI.ext hx6).adds hl3
 refine sm ?_
 refine sq (y_extract rfl et rfl) ?_
 refine sq (y_extract rfl et rfl) ?_
 refine sa ?_
 refine sa ?_
 refine nk (sr (sq (y_loadN (l := [vs (some ⟨b1, 0, none⟩) ([2] : List Int).length 1]) rfl et u24 rfl size_24 (CellsAt.of_blk (hI.blk .z) rfl)) ?_))
 refine sm ?_
 obtain ⟨r4, hx7, h⟩ := bnd_some h
 refine s_call gn rfl (r_callF (vs := [(Value.agg #[vs (some ⟨b1, 0, none⟩) ([2] : List Int).length 1]), vs (some ⟨b5, 0, none⟩) ([r1, r2] : List GTensor).length 2, vi 0, vi 1]) rfl ok_16 ⟨et, ⟨et, ⟨ev_const, ⟨ev_const, trivial⟩⟩⟩⟩) (Calls.mono (c_collective_AllReduce (Dj F c14) w9 hI.lt (⟨([2] : List Int)⟩ : GMesh) ([r1, r2] : List GTensor) 0 1 (some ⟨b1, 0, none⟩) 1 (some ⟨b5, 0, none⟩) 2 ⟨(hI.get (.s (.s .z))), (hI.get (.s .z)), trivial⟩ r4 hx7) ?_)
 rintro _ w10 ⟨a6, c16, rfl, hx8, hl4⟩
 refine ⟨_, rfl, ?_⟩
 replace hI := (hI.ext hx8).adds hl4
 refine sm ?_
 refine sq (y_extract rfl et rfl) ?_
 refine sq (y_extract rfl et rfl) ?_
 refine sa ?_
 refine sa ?_
 refine nk (sr (sq (y_loadN (l := [vs (some ⟨b1, 0, none⟩) ([2] : List Int).length 1]) rfl et u24 rfl size_24 (CellsAt.of_blk (hI.blk .z) rfl)) ?_))
 refine sm ?_
 obtain ⟨r5, hx9, h⟩ := bnd_some h
 refine s_call gn rfl (r_callF (vs := [(Value.agg #[vs (some ⟨b1, 0, none⟩) ([2] : List Int).length 1]), vs (some ⟨b5, 0, none⟩) ([r1, r2] : List GTensor).length 2, vi 0, vi 0, vi 1]) rfl ok_18 ⟨et, ⟨et, ⟨ev_const, ⟨ev_const, ⟨ev_const, trivial⟩⟩⟩⟩⟩) (Calls.mono (c_collective_ReduceScatter (Dj F c14) w10 hI.lt (⟨([2] : List Int)⟩ : GMesh) ([r1, r2] : List GTensor) 0 0 1 (some ⟨b1, 0, none⟩) 1 (some ⟨b5, 0, none⟩) 2 ⟨(hI.get (.s (.s (.s .z)))), (hI.get (.s (.s .z))), trivial⟩ r5 hx9) ?_)
 rintro _ w11 ⟨a7, c17, rfl, hx10, hl5⟩
 refine ⟨_, rfl, ?_⟩
 replace hI := (hI.ext hx10).adds hl5
 refine sm ?_
 refine sq (y_extract rfl et rfl) ?_
 refine sq (y_extract rfl et rfl) ?_
 refine sa ?_
 refine sa ?_
 refine s_nil ?_
 refine k_next (e := [(3, vs a5 r3.1.length c15), (4, vi r3.2), (5, vs a6 r4.1.length c16), (6, vi r4.2), (7, vs a7 r5.1.length c17), (8, vi r5.2)]) ⟨rfl, rfl, rfl, rfl, rfl, rfl, trivial⟩ ?_
 refine sr (l_lit (c := (cInt .i64)) (xs := ([0, (-1)] : List Int)) (vs := [(0, vi 0), (1, vi (-1))]) (cs := #[vi 0, vi (-1)]) (css := [[vi 0], [vi (-1)]]) hI gn rfl rfl u42 info_3 rfl ⟨rfl, ev_const, ⟨rfl, ev_const, trivial⟩⟩ (by kernel_rfl) ⟨rfl, ⟨rfl, trivial⟩⟩ rfl rfl rfl ?_)
 clear hI; intro b6 c18 w12 hI
 refine l_lit (c := (cInt .i64)) (xs := ([(-1), 0] : List Int)) (vs := [(0, vi (-1)), (1, vi 0)]) (cs := #[vi (-1), vi 0]) (css := [[vi (-1)], [vi 0]]) hI gn rfl rfl u42 info_3 rfl ⟨rfl, ev_const, ⟨rfl, ev_const, trivial⟩⟩ (by kernel_rfl) ⟨rfl, ⟨rfl, trivial⟩⟩ rfl rfl rfl ?_
 clear hI; intro b7 c19 w13 hI
 obtain ⟨c20, hI⟩ := hI.release (.s .z)
 obtain ⟨c21, hI⟩ := hI.release .z
 obtain ⟨r6, hx11, h⟩ := bnd_some h
 refine s_call gn rfl (r_callF (vs := [(vs (some ⟨b6, 0, none⟩) ([0, (-1)] : List Int).length 2), (vs (some ⟨b7, 0, none⟩) ([(-1), 0] : List Int).length 2)]) rfl ok_30 ⟨et, ⟨et, trivial⟩⟩) (Calls.mono (c_collective_Plan (Dj F c21) w13 hI.lt ([0, (-1)] : List Int) ([(-1), 0] : List Int) (some ⟨b6, 0, none⟩) 2 (some ⟨b7, 0, none⟩) 2 ⟨(hI.get (.s .z)), (hI.get .z), trivial⟩ r6 hx11) ?_)
 rintro _ w14 ⟨a8, c22, rfl, hx12, hl6⟩
 refine ⟨_, rfl, ?_⟩
 replace hI := (hI.ext hx12).adds hl6
 refine sa ?_
 refine nk (sr (sm ?_))
 refine sq (y_eql rfl et ev_const) ?_
 refine sm ?_
 refine s_gval (g_true rfl rfl rfl rfl) rfl (fun hc => y_move rfl et) ?_
 refine s_gval (g_true rfl rfl rfl rfl) rfl (fun hc => y_eql rfl (ev_gv et hc) ev_const) ?_
 refine sq (y_and rfl et et) ?_
 refine sm ?_
 refine s_gval (g_true rfl rfl rfl rfl) rfl (fun hc => y_move rfl et) ?_
 refine s_gval (g_true rfl rfl rfl rfl) rfl (fun hc => y_eql rfl (ev_gv et hc) ev_const) ?_
 refine sq (y_and rfl et et) ?_
 refine sm ?_
 refine s_gval (g_true rfl rfl rfl rfl) rfl (fun hc => y_move rfl et) ?_
 obtain ⟨ho1, h⟩ := chk_some h
 refine l_lit (c := (cInt .i64)) (xs := ([1, 2, 3, 4] : List Int)) (vs := [(0, vi 1), (1, vi 2), (2, vi 3), (3, vi 4)]) (cs := #[vi 1, vi 2, vi 3, vi 4]) (css := [[vi 1], [vi 2], [vi 3], [vi 4]]) hI (grd_as (g_true rfl rfl rfl rfl) ho1) rfl rfl u83 info_2 rfl ⟨rfl, ev_const, ⟨rfl, ev_const, ⟨rfl, ev_const, ⟨rfl, ev_const, trivial⟩⟩⟩⟩ (by kernel_rfl) ⟨rfl, ⟨rfl, ⟨rfl, ⟨rfl, trivial⟩⟩⟩⟩ rfl rfl rfl ?_
 clear hI; intro b8 c23 w15 hI
 obtain ⟨c24, hI⟩ := hI.release .z
 obtain ⟨r7, hx13, h⟩ := bnd_some h
 refine s_call (grd_as (g_true rfl rfl rfl rfl) ho1) rfl (r_callF (vs := [vs (some ⟨b8, 0, none⟩) ([1, 2, 3, 4] : List Int).length 4]) rfl ok_29 ⟨et, trivial⟩) (Calls.mono (c_law53_vector (Dj F c24) w15 hI.lt ([1, 2, 3, 4] : List Int) (some ⟨b8, 0, none⟩) 4 ⟨(hI.get .z), trivial⟩ r7 hx13) ?_)
 rintro _ w16 ⟨a9, c25, a10, c26, rfl, hx14, hl7⟩
 refine ⟨_, rfl, ?_⟩
 replace hI := (hI.ext hx14).adds hl7
 refine l_lit (c := (cInt .i64)) (xs := ([1, 2, 3, 4] : List Int)) (vs := [(0, vi 1), (1, vi 2), (2, vi 3), (3, vi 4)]) (cs := #[vi 1, vi 2, vi 3, vi 4]) (css := [[vi 1], [vi 2], [vi 3], [vi 4]]) hI (grd_as (g_true rfl rfl rfl rfl) ho1) rfl rfl u83 info_2 rfl ⟨rfl, ev_const, ⟨rfl, ev_const, ⟨rfl, ev_const, ⟨rfl, ev_const, trivial⟩⟩⟩⟩ (by kernel_rfl) ⟨rfl, ⟨rfl, ⟨rfl, ⟨rfl, trivial⟩⟩⟩⟩ rfl rfl rfl ?_
 clear hI; intro b9 c27 w17 hI
 obtain ⟨c28, hI⟩ := hI.release .z
 obtain ⟨r8, hx15, h⟩ := bnd_some h
 refine s_call (grd_as (g_true rfl rfl rfl rfl) ho1) rfl (r_callF (vs := [vs (some ⟨b9, 0, none⟩) ([1, 2, 3, 4] : List Int).length 4]) rfl ok_29 ⟨et, trivial⟩) (Calls.mono (c_law53_vector (Dj F c28) w17 hI.lt ([1, 2, 3, 4] : List Int) (some ⟨b9, 0, none⟩) 4 ⟨(hI.get .z), trivial⟩ r8 hx15) ?_)
 rintro _ w18 ⟨a11, c29, a12, c30, rfl, hx16, hl8⟩
 refine ⟨_, rfl, ?_⟩
 replace hI := (hI.ext hx16).adds hl8
 refine l_lit (c := cGTensor) (xs := ([r7, r8] : List GTensor)) (vs := [(0, (Value.agg (ATensor r7 a9 c25 a10 c26))), (1, (Value.agg (ATensor r8 a11 c29 a12 c30)))]) (cs := #[vi r7.Type_.Kind, vi r7.Type_.Bits, vi r7.Type_.Frac, vi r7.Type_.Round, vi r7.Type_.Over, vs a9 r7.Dims.length c25, vs a10 r7.Vals.length c26, vi r8.Type_.Kind, vi r8.Type_.Bits, vi r8.Type_.Frac, vi r8.Type_.Round, vi r8.Type_.Over, vs a11 r8.Dims.length c29, vs a12 r8.Vals.length c30]) (css := [(lTensor r7 a9 c25 a10 c26), (lTensor r8 a11 c29 a12 c30)]) hI (grd_as (g_true rfl rfl rfl rfl) ho1) rfl rfl u25 info_41 rfl ⟨rfl, et, ⟨rfl, et, trivial⟩⟩ (by kernel_rfl) ⟨⟨a9, c25, a10, c26, rfl, hI.get (.s (.s (.s .z))), hI.get (.s (.s (.s (.s .z))))⟩, ⟨⟨a11, c29, a12, c30, rfl, hI.get .z, hI.get (.s .z)⟩, trivial⟩⟩ rfl rfl rfl ?_
 clear hI; intro b10 c31 w19 hI
 obtain ⟨r9, hx17, h⟩ := bnd_some h
 refine s_call (grd_as (g_true rfl rfl rfl rfl) ho1) rfl (r_callF (vs := [vs a5 r3.1.length c15, vs (some ⟨b10, 0, none⟩) ([r7, r8] : List GTensor).length 2]) rfl ok_15 ⟨(ev_gv et ho1), ⟨et, trivial⟩⟩) (Calls.mono (c_base_Tensors noM w19 (fun _ k => k.elim) r3.1 ([r7, r8] : List GTensor) a5 c15 (some ⟨b10, 0, none⟩) 2 ⟨(hI.get0 (.s (.s (.s (.s (.s (.s (.s (.s (.s (.s (.s .z)))))))))))), hI.lend .z, trivial⟩ r9 hx17) ?_)
 rintro _ w20 ⟨rfl, hx18, hl9⟩
 refine ⟨_, rfl, ?_⟩
 replace hI := (hI.ext hx18)
 refine sq (y_andT rfl ho1 et et) ?_
 refine sm ?_
 refine s_gval (g_true rfl rfl rfl rfl) rfl (fun hc => y_move rfl et) ?_
 obtain ⟨ho2, h⟩ := chk_some h
 refine l_lit (c := (cInt .i64)) (xs := ([4, 6] : List Int)) (vs := [(0, vi 4), (1, vi 6)]) (cs := #[vi 4, vi 6]) (css := [[vi 4], [vi 6]]) hI (grd_as (g_true rfl rfl rfl rfl) ho2) rfl rfl u83 info_2 rfl ⟨rfl, ev_const, ⟨rfl, ev_const, trivial⟩⟩ (by kernel_rfl) ⟨rfl, ⟨rfl, trivial⟩⟩ rfl rfl rfl ?_
 clear hI; intro b11 c32 w21 hI
 obtain ⟨c33, hI⟩ := hI.release .z
 obtain ⟨r10, hx19, h⟩ := bnd_some h
 refine s_call (grd_as (g_true rfl rfl rfl rfl) ho2) rfl (r_callF (vs := [vs (some ⟨b11, 0, none⟩) ([4, 6] : List Int).length 2]) rfl ok_29 ⟨et, trivial⟩) (Calls.mono (c_law53_vector (Dj F c33) w21 hI.lt ([4, 6] : List Int) (some ⟨b11, 0, none⟩) 2 ⟨(hI.get .z), trivial⟩ r10 hx19) ?_)
 rintro _ w22 ⟨a13, c34, a14, c35, rfl, hx20, hl10⟩
 refine ⟨_, rfl, ?_⟩
 replace hI := (hI.ext hx20).adds hl10
 refine l_lit (c := (cInt .i64)) (xs := ([4, 6] : List Int)) (vs := [(0, vi 4), (1, vi 6)]) (cs := #[vi 4, vi 6]) (css := [[vi 4], [vi 6]]) hI (grd_as (g_true rfl rfl rfl rfl) ho2) rfl rfl u83 info_2 rfl ⟨rfl, ev_const, ⟨rfl, ev_const, trivial⟩⟩ (by kernel_rfl) ⟨rfl, ⟨rfl, trivial⟩⟩ rfl rfl rfl ?_
 clear hI; intro b12 c36 w23 hI
 obtain ⟨c37, hI⟩ := hI.release .z
 obtain ⟨r11, hx21, h⟩ := bnd_some h
 refine s_call (grd_as (g_true rfl rfl rfl rfl) ho2) rfl (r_callF (vs := [vs (some ⟨b12, 0, none⟩) ([4, 6] : List Int).length 2]) rfl ok_29 ⟨et, trivial⟩) (Calls.mono (c_law53_vector (Dj F c37) w23 hI.lt ([4, 6] : List Int) (some ⟨b12, 0, none⟩) 2 ⟨(hI.get .z), trivial⟩ r11 hx21) ?_)
 rintro _ w24 ⟨a15, c38, a16, c39, rfl, hx22, hl11⟩
 refine ⟨_, rfl, ?_⟩
 replace hI := (hI.ext hx22).adds hl11
 refine l_lit (c := cGTensor) (xs := ([r10, r11] : List GTensor)) (vs := [(0, (Value.agg (ATensor r10 a13 c34 a14 c35))), (1, (Value.agg (ATensor r11 a15 c38 a16 c39)))]) (cs := #[vi r10.Type_.Kind, vi r10.Type_.Bits, vi r10.Type_.Frac, vi r10.Type_.Round, vi r10.Type_.Over, vs a13 r10.Dims.length c34, vs a14 r10.Vals.length c35, vi r11.Type_.Kind, vi r11.Type_.Bits, vi r11.Type_.Frac, vi r11.Type_.Round, vi r11.Type_.Over, vs a15 r11.Dims.length c38, vs a16 r11.Vals.length c39]) (css := [(lTensor r10 a13 c34 a14 c35), (lTensor r11 a15 c38 a16 c39)]) hI (grd_as (g_true rfl rfl rfl rfl) ho2) rfl rfl u25 info_41 rfl ⟨rfl, et, ⟨rfl, et, trivial⟩⟩ (by kernel_rfl) ⟨⟨a13, c34, a14, c35, rfl, hI.get (.s (.s (.s .z))), hI.get (.s (.s (.s (.s .z))))⟩, ⟨⟨a15, c38, a16, c39, rfl, hI.get .z, hI.get (.s .z)⟩, trivial⟩⟩ rfl rfl rfl ?_
 clear hI; intro b13 c40 w25 hI
 obtain ⟨r12, hx23, h⟩ := bnd_some h
 refine s_call (grd_as (g_true rfl rfl rfl rfl) ho2) rfl (r_callF (vs := [vs a6 r4.1.length c16, vs (some ⟨b13, 0, none⟩) ([r10, r11] : List GTensor).length 2]) rfl ok_15 ⟨(ev_gv et ho2), ⟨et, trivial⟩⟩) (Calls.mono (c_base_Tensors noM w25 (fun _ k => k.elim) r4.1 ([r10, r11] : List GTensor) a6 c16 (some ⟨b13, 0, none⟩) 2 ⟨(hI.get0 (.s (.s (.s (.s (.s (.s (.s (.s (.s (.s (.s (.s (.s (.s (.s (.s .z))))))))))))))))), hI.lend .z, trivial⟩ r12 hx23) ?_)
 rintro _ w26 ⟨rfl, hx24, hl12⟩
 refine ⟨_, rfl, ?_⟩
 replace hI := (hI.ext hx24)
 refine sq (y_andT rfl ho2 et et) ?_
 refine sm ?_
 refine s_gval (g_true rfl rfl rfl rfl) rfl (fun hc => y_move rfl et) ?_
 obtain ⟨ho3, h⟩ := chk_some h
 refine l_lit (c := (cInt .i64)) (xs := ([4] : List Int)) (vs := [(0, vi 4)]) (cs := #[vi 4]) (css := [[vi 4]]) hI (grd_as (g_true rfl rfl rfl rfl) ho3) rfl rfl u83 info_2 rfl ⟨rfl, ev_const, trivial⟩ (by kernel_rfl) ⟨rfl, trivial⟩ rfl rfl rfl ?_
 clear hI; intro b14 c41 w27 hI
 obtain ⟨c42, hI⟩ := hI.release .z
 obtain ⟨r13, hx25, h⟩ := bnd_some h
 refine s_call (grd_as (g_true rfl rfl rfl rfl) ho3) rfl (r_callF (vs := [vs (some ⟨b14, 0, none⟩) ([4] : List Int).length 1]) rfl ok_29 ⟨et, trivial⟩) (Calls.mono (c_law53_vector (Dj F c42) w27 hI.lt ([4] : List Int) (some ⟨b14, 0, none⟩) 1 ⟨(hI.get .z), trivial⟩ r13 hx25) ?_)
 rintro _ w28 ⟨a17, c43, a18, c44, rfl, hx26, hl13⟩
 refine ⟨_, rfl, ?_⟩
 replace hI := (hI.ext hx26).adds hl13
 refine l_lit (c := (cInt .i64)) (xs := ([6] : List Int)) (vs := [(0, vi 6)]) (cs := #[vi 6]) (css := [[vi 6]]) hI (grd_as (g_true rfl rfl rfl rfl) ho3) rfl rfl u83 info_2 rfl ⟨rfl, ev_const, trivial⟩ (by kernel_rfl) ⟨rfl, trivial⟩ rfl rfl rfl ?_
 clear hI; intro b15 c45 w29 hI
 obtain ⟨c46, hI⟩ := hI.release .z
 obtain ⟨r14, hx27, h⟩ := bnd_some h
 refine s_call (grd_as (g_true rfl rfl rfl rfl) ho3) rfl (r_callF (vs := [vs (some ⟨b15, 0, none⟩) ([6] : List Int).length 1]) rfl ok_29 ⟨et, trivial⟩) (Calls.mono (c_law53_vector (Dj F c46) w29 hI.lt ([6] : List Int) (some ⟨b15, 0, none⟩) 1 ⟨(hI.get .z), trivial⟩ r14 hx27) ?_)
 rintro _ w30 ⟨a19, c47, a20, c48, rfl, hx28, hl14⟩
 refine ⟨_, rfl, ?_⟩
 replace hI := (hI.ext hx28).adds hl14
 refine l_lit (c := cGTensor) (xs := ([r13, r14] : List GTensor)) (vs := [(0, (Value.agg (ATensor r13 a17 c43 a18 c44))), (1, (Value.agg (ATensor r14 a19 c47 a20 c48)))]) (cs := #[vi r13.Type_.Kind, vi r13.Type_.Bits, vi r13.Type_.Frac, vi r13.Type_.Round, vi r13.Type_.Over, vs a17 r13.Dims.length c43, vs a18 r13.Vals.length c44, vi r14.Type_.Kind, vi r14.Type_.Bits, vi r14.Type_.Frac, vi r14.Type_.Round, vi r14.Type_.Over, vs a19 r14.Dims.length c47, vs a20 r14.Vals.length c48]) (css := [(lTensor r13 a17 c43 a18 c44), (lTensor r14 a19 c47 a20 c48)]) hI (grd_as (g_true rfl rfl rfl rfl) ho3) rfl rfl u25 info_41 rfl ⟨rfl, et, ⟨rfl, et, trivial⟩⟩ (by kernel_rfl) ⟨⟨a17, c43, a18, c44, rfl, hI.get (.s (.s (.s .z))), hI.get (.s (.s (.s (.s .z))))⟩, ⟨⟨a19, c47, a20, c48, rfl, hI.get .z, hI.get (.s .z)⟩, trivial⟩⟩ rfl rfl rfl ?_
 clear hI; intro b16 c49 w31 hI
 obtain ⟨r15, hx29, h⟩ := bnd_some h
 refine s_call (grd_as (g_true rfl rfl rfl rfl) ho3) rfl (r_callF (vs := [vs a7 r5.1.length c17, vs (some ⟨b16, 0, none⟩) ([r13, r14] : List GTensor).length 2]) rfl ok_15 ⟨(ev_gv et ho3), ⟨et, trivial⟩⟩) (Calls.mono (c_base_Tensors noM w31 (fun _ k => k.elim) r5.1 ([r13, r14] : List GTensor) a7 c17 (some ⟨b16, 0, none⟩) 2 ⟨(hI.get0 (.s (.s (.s (.s (.s (.s (.s (.s (.s (.s (.s (.s (.s (.s (.s (.s (.s (.s (.s (.s (.s .z)))))))))))))))))))))), hI.lend .z, trivial⟩ r15 hx29) ?_)
 rintro _ w32 ⟨rfl, hx30, hl15⟩
 refine ⟨_, rfl, ?_⟩
 replace hI := (hI.ext hx30)
 refine sq (y_andT rfl ho3 et et) ?_
 refine sm ?_
 refine s_gval (g_true rfl rfl rfl rfl) rfl (fun hc => y_move rfl et) ?_
 refine s_gval (g_true rfl rfl rfl rfl) rfl (fun hc => y_lenl rfl u51 (ev_gv et hc)) ?_
 refine s_gval (g_true rfl rfl rfl rfl) rfl (fun hc => y_eql rfl (ev_gv et hc) ev_const) ?_
 refine sq (y_and rfl et et) ?_
 refine sm ?_
 refine s_gval (g_true rfl rfl rfl rfl) rfl (fun hc => y_move rfl et) ?_
 obtain ⟨e1, hx31, h⟩ := bnd_some h
 replace hx31 := gd_some hx31
 obtain ⟨ad1, cs1, hq1⟩ := hI.gclat (.s (.s (.s (.s (.s (.s (.s (.s (.s (.s (.s (.s (.s (.s (.s (.s (.s (.s .z)))))))))))))))))) hx31
 have hq2 : (((((((decide (r3.2 = 0)) && (decide (r4.2 = 0))) && (decide (r5.2 = 0))) && r9) && r12) && r15) && (decide ((r6.length : Int) = 1))) = true → CA (Dj F c49) w32 (ad1.add (Int.toNat 0 * 5)) [vi e1.Op, vi e1.Mesh, vi e1.From, vi e1.To, (str e1.Name)] := fun hc => by have k := hq1 hc; have e : cs1 = _ := k.2.1; rw [← e]; exact k.2.2
 refine s_gval (g_true rfl rfl rfl rfl) rfl (fun hc => (y_indexAddr rfl u51 size_54 (ev_gv et hc) ev_const (lat_bd (hx31 hc)) (hq1 hc).1)) ?_
 refine s_gval (g_true rfl rfl rfl rfl) rfl (fun hc => (y_loadN (l := [vi e1.Op, vi e1.Mesh, vi e1.From, vi e1.To, (str e1.Name)]) rfl (ev_gv et hc) u54 rfl size_54 (hq2 hc).1)) ?_
 refine s_gval (g_true rfl rfl rfl rfl) rfl (fun hc => (y_build (vs := [(0, vi 3), (2, vi 0), (3, vi 1)]) (cs := #[vi 3, vi 0, vi 0, vi 1, (str ([] : List UInt8))]) rfl ⟨rfl, ev_const, ⟨rfl, ev_const, ⟨rfl, ev_const, trivial⟩⟩⟩ (by kernel_rfl))) ?_
 refine s_gval (g_true rfl rfl rfl rfl) rfl (fun hc => y_bin rfl (ev_gv et hc) (ev_gv et hc) (eqstruct_54 ..) (eqguard_54 ..)) ?_
 refine sq (y_and rfl et et) ?_
 refine sa ?_
 refine s_nil ?_
 refine k_next (e := [(0, (vb ((((((((decide (r3.2 = 0)) && (decide (r4.2 = 0))) && (decide (r5.2 = 0))) && r9) && r12) && r15) && (decide ((r6.length : Int) = 1))) && ((decide (e1.Op = 3)) && (decide (e1.Mesh = 0)) && (decide (e1.From = 0)) && (decide (e1.To = 1)) && (decide (e1.Name = ([] : List UInt8)))))))]) ⟨rfl, trivial⟩ ?_
 refine c_ret ?_
 obtain rfl := some_inj h
 exact q_ret (vs := [(vb ((((((((decide (r3.2 = 0)) && (decide (r4.2 = 0))) && (decide (r5.2 = 0))) && r9) && r12) && r15) && (decide ((r6.length : Int) = 1))) && ((decide (e1.Op = 3)) && (decide (e1.Mesh = 0)) && (decide (e1.From = 0)) && (decide (e1.To = 1)) && (decide (e1.Name = ([] : List UInt8))))))]) Tryz.results10 ⟨ev_tmp rfl rfl, trivial⟩ (fq hI trivial)
theorem c_ref51_Validate (F : NP) (w0 : World) (hF : ∀ k, F k → k < w0.heap.size) (m1 : GMesh) (a1 : Option Addr) (c1 : Nat) (hc : AllCl [Cl.sl (cInt .i64) a1 c1 m1.Dims] F w0) (r : Int)
  (h : m_ref51_Validate m1 = some r) :
  Calls Tryz.prog 48 #[(Value.agg #[vs a1 m1.Dims.length c1])] w0 fun e w => e = .returned (vi r) ∧ Ext w0 w ∧ AllCl [] F w := by
 refine enterK Tryz.func48 rfl Tryz.ntmps48 rfl ?_
 have hI := Bun.start hF hc
 clear hc
 rw [m_ref51_Validate] at h
 refine sr (l_box (v := (Value.agg #[vs a1 m1.Dims.length c1])) (cs := #[vs a1 m1.Dims.length c1]) hI gn rfl rfl et rfl ?_)
 clear hI; intro b1 c2 w1 hI
 obtain ⟨c3, hI⟩ := hI.relBox .z
 refine sac ?_
 refine nk (c_seq (sr (sq (y_fieldAddr rfl et u24 rfl size_22 rfl) ?_)))
 refine sq (y_load1 (v := (vs a1 m1.Dims.length c1)) rfl et u22 rfl (hI.kblk (l := [vs a1 m1.Dims.length c1]) .z rfl).1) ?_
 refine sq (y_lenl rfl u22 et) ?_
 refine sq (y_lss rfl et ev_const) ?_
 refine sm ?_
 refine s_gval (g_false rfl rfl rfl rfl) rfl (fun hc => y_fieldAddr rfl et u24 rfl size_22 rfl) ?_
 refine s_gval (g_false rfl rfl rfl rfl) rfl (fun hc => (y_load1 (v := (vs a1 m1.Dims.length c1)) rfl (ev_gv et hc) u22 rfl (hI.kblk (l := [vs a1 m1.Dims.length c1]) .z rfl).1)) ?_
 refine s_gval (g_false rfl rfl rfl rfl) rfl (fun hc => y_lenl rfl u22 (ev_gv et hc)) ?_
 refine s_gval (g_false rfl rfl rfl rfl) rfl (fun hc => y_gtr rfl (ev_gv et hc) ev_const) ?_
 refine sq (y_or rfl et et) ?_
 refine nk (cif h et (fun hb h => ?_) (fun hb h => ?_))
 ·refine sr (sac ?_)
  refine nk (c_ret ?_)
  obtain rfl := some_inj h
  exact q_ret (vs := [vi 23]) Tryz.results48 ⟨ev_tmp rfl rfl, trivial⟩ (fq hI trivial)
 refine c_skip (k_same (sr (sac ?_)))
 refine nk (c_seq (sr (sac ?_)))
 refine nk (c_block (c_loop (α := Nat × Int × Int) (fun x => fun w => ∃ C, Bun noM F w0 C w [] [Cl.blk b1 24 #[vs a1 m1.Dims.length c1], Cl.sl (cInt .i64) a1 c1 m1.Dims] ∧ m_ref51_Validate_l1 m1 (x.1) (x.2.1) (x.2.2) = some r) (fun x _ => x.1) (fun x => [(1, vp b1 0), (3, vi (x.2.1)), (4, vi (x.2.2))]) (fu, 1, 0) ⟨_, hI.arr .n ⟨.z, (.s .z), trivial⟩, h⟩ ⟨rfl, rfl, rfl, trivial⟩ ?_))
 clear h hI; rintro ⟨fuel1, n1, i1⟩ w2 ⟨c4, hI, h⟩
 dsimp only at hI h
 rcases fuel1 with _ | fuel1
 ·rw [m_ref51_Validate_l1] at h; cases h
 rw [m_ref51_Validate_l1] at h
 refine c_sub (e := [(1, vp b1 0), (3, vi n1), (4, vi i1)]) ⟨rfl, rfl, rfl, trivial⟩ ?_
 refine c_seq (sr (sm ?_))
 refine sq (y_fieldAddr rfl et u24 rfl size_22 rfl) ?_
 refine sq (y_load1 (v := (vs a1 m1.Dims.length c1)) rfl et u22 rfl (hI.kblk (l := [vs a1 m1.Dims.length c1]) .z rfl).1) ?_
 refine sq (y_lenl rfl u22 et) ?_
 refine sq (y_lss rfl et et) ?_
 refine nk (cif h et (fun hb h => ?_) (fun hb h => ?_))
 ·refine c_skip (k_same (c_seq (c_block (c_seq (sr (sq (y_fieldAddr rfl et u24 rfl size_22 rfl) ?_))))))
  refine sq (y_load1 (v := (vs a1 m1.Dims.length c1)) rfl et u22 rfl (hI.kblk (l := [vs a1 m1.Dims.length c1]) .z rfl).1) ?_
  refine sm ?_
  obtain ⟨e1, hx1, h⟩ := bnd_some h
  obtain ⟨ad1, cs1, hA1, hr1, hq1⟩ := hI.clat (.s .z) hx1
  obtain rfl : cs1 = [vi e1] := hr1
  refine sq (y_indexAddr rfl u22 size_3 et et (lat_bd hx1) hA1) ?_
  refine sq (y_load1 (v := (vi e1)) rfl et u3 rfl hq1.1) ?_
  refine sq (y_lss rfl et ev_const) ?_
  refine sm ?_
  refine s_gval (g_false rfl rfl rfl rfl) rfl (fun hc => y_fieldAddr rfl et u24 rfl size_22 rfl) ?_
  refine s_gval (g_false rfl rfl rfl rfl) rfl (fun hc => (y_load1 (v := (vs a1 m1.Dims.length c1)) rfl (ev_gv et hc) u22 rfl (hI.kblk (l := [vs a1 m1.Dims.length c1]) .z rfl).1)) ?_
  refine s_gval (g_false rfl rfl rfl rfl) rfl (fun hc => y_move rfl et) ?_
  obtain ⟨e2, hx2, h⟩ := bnd_some h
  replace hx2 := gd_some hx2
  obtain ⟨ad2, cs2, hq2⟩ := hI.gclat (.s .z) hx2
  have hq3 : (!(decide (e1 < 1))) = true → CA (Dj F c4) w2 (ad2.add (Int.toNat i1 * 1)) [vi e2] := fun hc => by have k := hq2 hc; have e : cs2 = _ := k.2.1; rw [← e]; exact k.2.2
  refine s_gval (g_false rfl rfl rfl rfl) rfl (fun hc => (y_indexAddr rfl u22 size_3 (ev_gv et hc) (ev_gv et hc) (lat_bd (hx2 hc)) (hq2 hc).1)) ?_
  refine s_gval (g_false rfl rfl rfl rfl) rfl (fun hc => (y_load1 (v := (vi e2)) rfl (ev_gv et hc) u3 rfl (hq3 hc).1)) ?_
  refine s_gval (g_false rfl rfl rfl rfl) rfl (fun hc => y_gtr rfl (ev_gv et hc) ev_const) ?_
  refine sq (y_or rfl et et) ?_
  refine nk (cif h et (fun hb h => ?_) (fun hb h => ?_))
  ·refine sr (sac ?_)
   refine nk (c_ret ?_)
   obtain rfl := some_inj h
   exact q_ret (vs := [vi 23]) Tryz.results48 ⟨ev_tmp rfl rfl, trivial⟩ (fq hI trivial)
  refine c_skip (k_same (c_region rfl ?_))
  refine sm ?_
  refine sq (y_fieldAddr rfl et u24 rfl size_22 rfl) ?_
  refine sq (y_load1 (v := (vs a1 m1.Dims.length c1)) rfl et u22 rfl (hI.kblk (l := [vs a1 m1.Dims.length c1]) .z rfl).1) ?_
  refine sm ?_
  obtain ⟨e3, hx3, h⟩ := bnd_some h
  obtain ⟨ad3, cs3, hA3, hr3, hq4⟩ := hI.clat (.s .z) hx3
  obtain rfl : cs3 = [vi e3] := hr3
  refine sq (y_indexAddr rfl u22 size_3 et et (lat_bd hx3) hA3) ?_
  refine sq (y_load1 (v := (vi e3)) rfl et u3 rfl hq4.1) ?_
  refine sq (y_mul rfl et et) ?_
  refine sa ?_
  refine s_nil ?_
  refine k_next (e := [(1, vp b1 0), (3, (vi (wi64 (n1 * e3)))), (4, vi i1)]) ⟨rfl, rfl, rfl, trivial⟩ ?_
  refine c_region rfl ?_
  refine sm ?_
  refine sq (y_add rfl et ev_const) ?_
  refine sa ?_
  refine s_nil ?_
  exact k_loop (fuel1, wi64 (n1 * e3), wi64 (i1 + 1)) ⟨rfl, rfl, rfl, trivial⟩ ⟨_, hI.arr .n ⟨.z, (.s .z), trivial⟩, h⟩ (Nat.lt_succ_self _)
 refine c_exit ?_
 refine k_in ?_
 refine k_same (c_seq (sr (sm ?_)))
 refine sq (y_gtr rfl et ev_const) ?_
 refine nk (cif h et (fun hb h => ?_) (fun hb h => ?_))
 ·refine sr (sac ?_)
  refine nk (c_ret ?_)
  obtain rfl := some_inj h
  exact q_ret (vs := [vi 23]) Tryz.results48 ⟨ev_tmp rfl rfl, trivial⟩ (fq hI trivial)
 refine c_skip (k_same (sr (sac ?_)))
 refine nk (c_ret ?_)
 obtain rfl := some_inj h
 exact q_ret (vs := [vi 0]) Tryz.results48 ⟨ev_tmp rfl rfl, trivial⟩ (fq hI trivial)
theorem c_ref51_Devices (F : NP) (w0 : World) (hF : ∀ k, F k → k < w0.heap.size) (m1 : GMesh) (a1 : Option Addr) (c1 : Nat) (hc : AllCl [Cl.sl (cInt .i64) a1 c1 m1.Dims] F w0) (r : Int)
  (h : m_ref51_Devices m1 = some r) :
  Calls Tryz.prog 49 #[(Value.agg #[vs a1 m1.Dims.length c1])] w0 fun e w => e = .returned (vi r) ∧ Ext w0 w ∧ AllCl [] F w := by
 refine enterK Tryz.func49 rfl Tryz.ntmps49 rfl ?_
 have hI := Bun.start hF hc
 clear hc
 rw [m_ref51_Devices] at h
 refine sr (l_box (v := (Value.agg #[vs a1 m1.Dims.length c1])) (cs := #[vs a1 m1.Dims.length c1]) hI gn rfl rfl et rfl ?_)
 clear hI; intro b1 c2 w1 hI
 obtain ⟨c3, hI⟩ := hI.relBox .z
 refine sac ?_
 refine nk (c_seq (sr (sq (y_loadN (l := [vs a1 m1.Dims.length c1]) rfl et u24 rfl size_24 (hI.kblk (l := [vs a1 m1.Dims.length c1]) .z rfl).1) ?_)))
 obtain ⟨r1, hx1, h⟩ := bnd_some h
 refine s_call gn rfl (r_callF (vs := [(Value.agg #[vs a1 m1.Dims.length c1])]) rfl ok_48 ⟨et, trivial⟩) (Calls.mono (c_ref51_Validate (Dj F c3) w1 hI.lt m1 a1 c1 ⟨(hI.get (.s .z)), trivial⟩ r1 hx1) ?_)
 rintro _ w2 ⟨rfl, hx2, hl1⟩
 refine ⟨_, rfl, ?_⟩
 replace hI := (hI.ext hx2)
 refine sq (y_neq rfl et ev_const) ?_
 refine nk (cif h et (fun hb h => ?_) (fun hb h => ?_))
 ·refine sr (sac ?_)
  refine nk (c_ret ?_)
  obtain rfl := some_inj h
  exact q_ret (vs := [vi 0]) Tryz.results49 ⟨ev_tmp rfl rfl, trivial⟩ (fq hI trivial)
 refine c_skip (k_same (sr (sac ?_)))
 refine nk (c_seq (sr (sac ?_)))
 refine nk (c_block (c_loop (α := Nat × Int × Int) (fun x => fun w => ∃ C, Bun noM F w0 C w [] [Cl.blk b1 24 #[vs a1 m1.Dims.length c1], Cl.sl (cInt .i64) a1 c1 m1.Dims] ∧ m_ref51_Devices_l1 m1 (x.1) (x.2.1) (x.2.2) = some r) (fun x _ => x.1) (fun x => [(1, vp b1 0), (3, vi (x.2.1)), (4, vi (x.2.2))]) (fu, 1, 0) ⟨_, hI.arr .n ⟨.z, (.s .z), trivial⟩, h⟩ ⟨rfl, rfl, rfl, trivial⟩ ?_))
 clear h hI; rintro ⟨fuel1, n1, i1⟩ w3 ⟨c4, hI, h⟩
 dsimp only at hI h
 rcases fuel1 with _ | fuel1
 ·rw [m_ref51_Devices_l1] at h; cases h
 rw [m_ref51_Devices_l1] at h
 refine c_sub (e := [(1, vp b1 0), (3, vi n1), (4, vi i1)]) ⟨rfl, rfl, rfl, trivial⟩ ?_
 refine c_seq (sr (sm ?_))
 refine sq (y_fieldAddr rfl et u24 rfl size_22 rfl) ?_
 refine sq (y_load1 (v := (vs a1 m1.Dims.length c1)) rfl et u22 rfl (hI.kblk (l := [vs a1 m1.Dims.length c1]) .z rfl).1) ?_
 refine sq (y_lenl rfl u22 et) ?_
 refine sq (y_lss rfl et et) ?_
 refine nk (cif h et (fun hb h => ?_) (fun hb h => ?_))
 ·refine c_skip (k_same (c_seq (c_block (c_region rfl ?_))))
  refine sm ?_
  refine sq (y_fieldAddr rfl et u24 rfl size_22 rfl) ?_
  refine sq (y_load1 (v := (vs a1 m1.Dims.length c1)) rfl et u22 rfl (hI.kblk (l := [vs a1 m1.Dims.length c1]) .z rfl).1) ?_
  refine sm ?_
  obtain ⟨e1, hx3, h⟩ := bnd_some h
  obtain ⟨ad1, cs1, hA1, hr1, hq1⟩ := hI.clat (.s .z) hx3
  obtain rfl : cs1 = [vi e1] := hr1
  refine sq (y_indexAddr rfl u22 size_3 et et (lat_bd hx3) hA1) ?_
  refine sq (y_load1 (v := (vi e1)) rfl et u3 rfl hq1.1) ?_
  refine sq (y_mul rfl et et) ?_
  refine sa ?_
  refine nk (c_region rfl ?_)
  refine sm ?_
  refine sq (y_add rfl et ev_const) ?_
  refine sa ?_
  refine s_nil ?_
  exact k_loop (fuel1, wi64 (n1 * e1), wi64 (i1 + 1)) ⟨rfl, rfl, rfl, trivial⟩ ⟨_, hI.arr .n ⟨.z, (.s .z), trivial⟩, h⟩ (Nat.lt_succ_self _)
 refine c_exit ?_
 refine k_in ?_
 refine k_same (sr (sm ?_))
 refine sa ?_
 refine nk (c_ret ?_)
 obtain rfl := some_inj h
 exact q_ret (vs := [vi n1]) Tryz.results49 ⟨ev_tmp rfl rfl, trivial⟩ (fq hI trivial)
theorem c_base_Type (F : NP) (w0 : World) (hF : ∀ k, F k → k < w0.heap.size) (t1 : GType) (hc : AllCl [] F w0) (r : Bool)
  (h : m_base_Type t1 = some r) :
  Calls Tryz.prog 56 #[(Value.agg (AType t1))] w0 fun e w => e = .returned (vb r) ∧ Ext w0 w ∧ AllCl [] F w := by
 refine enterK Tryz.func56 rfl Tryz.ntmps56 rfl ?_
 have hI := Bun.start hF hc
 clear hc
 rw [m_base_Type] at h
 refine sr (l_box (v := (Value.agg (AType t1))) (cs := (AType t1)) hI gn rfl rfl et rfl ?_)
 clear hI; intro b1 c1 w1 hI
 obtain ⟨c2, hI⟩ := hI.relBox .z
 refine sac ?_
 refine nk (c_seq (sr (sq (y_fieldAddr rfl et u38 rfl size_3 rfl) ?_)))
 refine sq (y_load1 (v := (vi t1.Kind)) rfl et u3 rfl (hI.kblk (l := [vi t1.Kind]) .z rfl).1) ?_
 refine sq (y_eql rfl et ev_const) ?_
 refine sm ?_
 refine s_gval (g_false rfl rfl rfl rfl) rfl (fun hc => y_fieldAddr rfl et u38 rfl size_3 rfl) ?_
 refine s_gval (g_false rfl rfl rfl rfl) rfl (fun hc => (y_load1 (v := (vi t1.Kind)) rfl (ev_gv et hc) u3 rfl (hI.kblk (l := [vi t1.Kind]) .z rfl).1)) ?_
 refine s_gval (g_false rfl rfl rfl rfl) rfl (fun hc => y_eql rfl (ev_gv et hc) ev_const) ?_
 refine sq (y_or rfl et et) ?_
 refine nk (cif h et (fun hb h => ?_) (fun hb h => ?_))
 ·refine sr (sq (y_fieldAddr rfl et u38 rfl size_3 rfl) ?_)
  refine sq (y_load1 (v := (vi t1.Bits)) rfl et u3 rfl (hI.kblk (l := [vi t1.Bits]) .z rfl).1) ?_
  refine sq (y_eql rfl et ev_const) ?_
  refine sm ?_
  refine s_gval (g_true rfl rfl rfl rfl) rfl (fun hc => y_fieldAddr rfl et u38 rfl size_3 rfl) ?_
  refine s_gval (g_true rfl rfl rfl rfl) rfl (fun hc => (y_load1 (v := (vi t1.Frac)) rfl (ev_gv et hc) u3 rfl (hI.kblk (l := [vi t1.Frac]) .z rfl).1)) ?_
  refine s_gval (g_true rfl rfl rfl rfl) rfl (fun hc => y_eql rfl (ev_gv et hc) ev_const) ?_
  refine sq (y_and rfl et et) ?_
  refine sm ?_
  refine s_gval (g_true rfl rfl rfl rfl) rfl (fun hc => y_fieldAddr rfl et u38 rfl size_3 rfl) ?_
  refine s_gval (g_true rfl rfl rfl rfl) rfl (fun hc => (y_load1 (v := (vi t1.Round)) rfl (ev_gv et hc) u3 rfl (hI.kblk (l := [vi t1.Round]) .z rfl).1)) ?_
  refine s_gval (g_true rfl rfl rfl rfl) rfl (fun hc => y_eql rfl (ev_gv et hc) ev_const) ?_
  refine sq (y_and rfl et et) ?_
  refine sm ?_
  refine s_gval (g_true rfl rfl rfl rfl) rfl (fun hc => y_fieldAddr rfl et u38 rfl size_3 rfl) ?_
  refine s_gval (g_true rfl rfl rfl rfl) rfl (fun hc => (y_load1 (v := (vi t1.Over)) rfl (ev_gv et hc) u3 rfl (hI.kblk (l := [vi t1.Over]) .z rfl).1)) ?_
  refine s_gval (g_true rfl rfl rfl rfl) rfl (fun hc => y_eql rfl (ev_gv et hc) ev_const) ?_
  refine sq (y_and rfl et et) ?_
  refine sa ?_
  refine s_nil ?_
  refine k_next (e := [(2, (vb ((((decide (t1.Bits = 0)) && (decide (t1.Frac = 0))) && (decide (t1.Round = 0))) && (decide (t1.Over = 0)))))]) ⟨rfl, trivial⟩ ?_
  refine c_ret ?_
  obtain rfl := some_inj h
  exact q_ret (vs := [(vb ((((decide (t1.Bits = 0)) && (decide (t1.Frac = 0))) && (decide (t1.Round = 0))) && (decide (t1.Over = 0))))]) Tryz.results56 ⟨ev_tmp rfl rfl, trivial⟩ (fq hI trivial)
 refine c_skip (k_same (sr (sq (y_fieldAddr rfl et u38 rfl size_3 rfl) ?_)))
 refine sq (y_load1 (v := (vi t1.Kind)) rfl et u3 rfl (hI.kblk (l := [vi t1.Kind]) .z rfl).1) ?_
 refine sq (y_eql rfl et ev_const) ?_
 refine sm ?_
 refine s_gval (g_true rfl rfl rfl rfl) rfl (fun hc => y_fieldAddr rfl et u38 rfl size_3 rfl) ?_
 refine s_gval (g_true rfl rfl rfl rfl) rfl (fun hc => (y_load1 (v := (vi t1.Bits)) rfl (ev_gv et hc) u3 rfl (hI.kblk (l := [vi t1.Bits]) .z rfl).1)) ?_
 refine s_gval (g_true rfl rfl rfl rfl) rfl (fun hc => y_geq rfl (ev_gv et hc) ev_const) ?_
 refine sq (y_and rfl et et) ?_
 refine sm ?_
 refine s_gval (g_true rfl rfl rfl rfl) rfl (fun hc => y_fieldAddr rfl et u38 rfl size_3 rfl) ?_
 refine s_gval (g_true rfl rfl rfl rfl) rfl (fun hc => (y_load1 (v := (vi t1.Bits)) rfl (ev_gv et hc) u3 rfl (hI.kblk (l := [vi t1.Bits]) .z rfl).1)) ?_
 refine s_gval (g_true rfl rfl rfl rfl) rfl (fun hc => y_leq rfl (ev_gv et hc) ev_const) ?_
 refine sq (y_and rfl et et) ?_
 refine sm ?_
 refine s_gval (g_true rfl rfl rfl rfl) rfl (fun hc => y_fieldAddr rfl et u38 rfl size_3 rfl) ?_
 refine s_gval (g_true rfl rfl rfl rfl) rfl (fun hc => (y_load1 (v := (vi t1.Frac)) rfl (ev_gv et hc) u3 rfl (hI.kblk (l := [vi t1.Frac]) .z rfl).1)) ?_
 refine s_gval (g_true rfl rfl rfl rfl) rfl (fun hc => y_geq rfl (ev_gv et hc) ev_const) ?_
 refine sq (y_and rfl et et) ?_
 refine sm ?_
 refine s_gval (g_true rfl rfl rfl rfl) rfl (fun hc => y_fieldAddr rfl et u38 rfl size_3 rfl) ?_
 refine s_gval (g_true rfl rfl rfl rfl) rfl (fun hc => (y_load1 (v := (vi t1.Frac)) rfl (ev_gv et hc) u3 rfl (hI.kblk (l := [vi t1.Frac]) .z rfl).1)) ?_
 refine s_gval (g_true rfl rfl rfl rfl) rfl (fun hc => y_leq rfl (ev_gv et hc) ev_const) ?_
 refine sq (y_and rfl et et) ?_
 refine sm ?_
 refine s_gval (g_true rfl rfl rfl rfl) rfl (fun hc => y_fieldAddr rfl et u38 rfl size_3 rfl) ?_
 refine s_gval (g_true rfl rfl rfl rfl) rfl (fun hc => (y_load1 (v := (vi t1.Round)) rfl (ev_gv et hc) u3 rfl (hI.kblk (l := [vi t1.Round]) .z rfl).1)) ?_
 refine s_gval (g_true rfl rfl rfl rfl) rfl (fun hc => y_geq rfl (ev_gv et hc) ev_const) ?_
 refine sq (y_and rfl et et) ?_
 refine sm ?_
 refine s_gval (g_true rfl rfl rfl rfl) rfl (fun hc => y_fieldAddr rfl et u38 rfl size_3 rfl) ?_
 refine s_gval (g_true rfl rfl rfl rfl) rfl (fun hc => (y_load1 (v := (vi t1.Round)) rfl (ev_gv et hc) u3 rfl (hI.kblk (l := [vi t1.Round]) .z rfl).1)) ?_
 refine s_gval (g_true rfl rfl rfl rfl) rfl (fun hc => y_leq rfl (ev_gv et hc) ev_const) ?_
 refine sq (y_and rfl et et) ?_
 refine sm ?_
 refine s_gval (g_true rfl rfl rfl rfl) rfl (fun hc => y_fieldAddr rfl et u38 rfl size_3 rfl) ?_
 refine s_gval (g_true rfl rfl rfl rfl) rfl (fun hc => (y_load1 (v := (vi t1.Over)) rfl (ev_gv et hc) u3 rfl (hI.kblk (l := [vi t1.Over]) .z rfl).1)) ?_
 refine s_gval (g_true rfl rfl rfl rfl) rfl (fun hc => y_eql rfl (ev_gv et hc) ev_const) ?_
 refine s_gval (g_true rfl rfl rfl rfl) rfl (fun hc => y_move rfl (ev_gv et hc)) ?_
 refine s_gval (g_false2 rfl rfl rfl rfl) rfl (fun hc => y_fieldAddr rfl et u38 rfl size_3 rfl) ?_
 refine s_gval (g_false2 rfl rfl rfl rfl) rfl (fun hc => (y_load1 (v := (vi t1.Over)) rfl (ev_gv et hc) u3 rfl (hI.kblk (l := [vi t1.Over]) .z rfl).1)) ?_
 refine s_gval (g_false2 rfl rfl rfl rfl) rfl (fun hc => y_eql rfl (ev_gv et hc) ev_const) ?_
 refine s_gval (g_true rfl rfl rfl rfl) rfl (fun hc => y_or2 rfl hc et et) ?_
 refine sq (y_and rfl et et) ?_
 refine sa ?_
 refine s_nil ?_
 refine k_next (e := [(2, (vb ((((((((decide (t1.Kind = 2)) && (decide (2 ≤ t1.Bits))) && (decide (t1.Bits ≤ 31))) && (decide (0 ≤ t1.Frac))) && (decide (t1.Frac ≤ 30))) && (decide (1 ≤ t1.Round))) && (decide (t1.Round ≤ 4))) && ((decide (t1.Over = 1)) || (decide (t1.Over = 2))))))]) ⟨rfl, trivial⟩ ?_
 refine c_ret ?_
 obtain rfl := some_inj h
 exact q_ret (vs := [(vb ((((((((decide (t1.Kind = 2)) && (decide (2 ≤ t1.Bits))) && (decide (t1.Bits ≤ 31))) && (decide (0 ≤ t1.Frac))) && (decide (t1.Frac ≤ 30))) && (decide (1 ≤ t1.Round))) && (decide (t1.Round ≤ 4))) && ((decide (t1.Over = 1)) || (decide (t1.Over = 2)))))]) Tryz.results56 ⟨ev_tmp rfl rfl, trivial⟩ (fq hI trivial)
theorem c_ref12_Shape (F : NP) (w0 : World) (hF : ∀ k, F k → k < w0.heap.size) (d1 : List Int) (a1 : Option Addr) (c1 : Nat) (hc : AllCl [Cl.sl (cInt .i64) a1 c1 d1] F w0) (r : Int)
  (h : m_ref12_Shape d1 = some r) :
  Calls Tryz.prog 57 #[vs a1 d1.length c1] w0 fun e w => e = .returned (vi r) ∧ Ext w0 w ∧ AllCl [] F w := by
 refine enterK Tryz.func57 rfl Tryz.ntmps57 rfl ?_
 have hI := Bun.start hF hc
 clear hc
 rw [m_ref12_Shape] at h
 refine sr (sac ?_)
 refine nk (c_seq (sr (sm ?_)))
 refine sq (y_lenl rfl u22 et) ?_
 refine sq (y_gtr rfl et ev_const) ?_
 refine nk (cif h et (fun hb h => ?_) (fun hb h => ?_))
 ·refine sr (sac ?_)
  refine nk (c_ret ?_)
  obtain rfl := some_inj h
  exact q_ret (vs := [vi 2]) Tryz.results57 ⟨ev_tmp rfl rfl, trivial⟩ (fq hI trivial)
 refine c_skip (k_same (c_join (α := Unit) (fun _ => ⟨39, []⟩) (fun _ => [(0, vs a1 d1.length c1)]) (fun _ => fun w => ∃ C, Bun noM F w0 C w [] [Cl.sl (cInt .i64) a1 c1 d1] ∧ m_ref12_Shape_j1 d1 = some r) ?_ ?_))
 ·clear h hI; rintro _ w1 ⟨c2, hI, h⟩
  try dsimp only at hI h
  rw [m_ref12_Shape_j1] at h
  refine c_sub (e := [(0, vs a1 d1.length c1)]) ⟨rfl, trivial⟩ ?_
  refine sr (sac ?_)
  refine nk (c_seq (sr (sac ?_)))
  refine nk (c_block (c_loop (α := Nat × Int × Int) (fun x => fun w => ∃ C, Bun noM F w0 C w [] [Cl.sl (cInt .i64) a1 c1 d1] ∧ m_ref12_Shape_l1 d1 (x.1) (x.2.1) (x.2.2) = some r) (fun x _ => x.1) (fun x => [(0, vs a1 d1.length c1), (4, vi (x.2.1)), (5, vi (x.2.2))]) (fu, 1, 0) ⟨_, hI.arr .n ⟨.z, trivial⟩, h⟩ ⟨rfl, rfl, rfl, trivial⟩ ?_))
  clear h hI; rintro ⟨fuel1, n1, i1⟩ w2 ⟨c3, hI, h⟩
  dsimp only at hI h
  rcases fuel1 with _ | fuel1
  ·rw [m_ref12_Shape_l1] at h; cases h
  rw [m_ref12_Shape_l1] at h
  refine c_sub (e := [(0, vs a1 d1.length c1), (4, vi n1), (5, vi i1)]) ⟨rfl, rfl, rfl, trivial⟩ ?_
  refine c_seq (sr (sm ?_))
  refine sm ?_
  refine sq (y_lenl rfl u22 et) ?_
  refine sq (y_lss rfl et et) ?_
  refine nk (cif h et (fun hb h => ?_) (fun hb h => ?_))
  ·refine c_skip (k_same (c_seq (c_block (c_seq (c_seq (c_drawX [] false (.c (0, .q) (.c (1, .q) (.c (2, .q) (.c (3, .q) (.c (4, .q) (.c (5, .q) (.c (6, .q) .n))))))) hI (by kernel_rfl) (by kernel_rfl) ?_))))))
   clear hI; intro w3 hI
   refine a_q rfl gn rfl (fun w' => y_move rfl et) ?_
   refine a_q rfl gn rfl (fun w' => y_move rfl et) ?_
   obtain ⟨e1, hx1, h⟩ := bnd_some h
   obtain ⟨ad1, cs1, hA1, hr1, hq1⟩ := hI.clat .z hx1
   obtain rfl : cs1 = [vi e1] := hr1
   refine a_q rfl gn rfl (fun w' => y_indexAddr rfl u22 size_3 et et (lat_bd hx1) hA1) ?_
   refine a_read rfl gn rfl (fun w' hw' => (y_load1 (v := (vi e1)) rfl et u3 rfl (hq1.at_ (SX.any rfl hw')))) (by kernel_rfl) ?_
   refine a_q rfl gn rfl (fun w' => y_move rfl et) ?_
   obtain ⟨ho1, h⟩ := chk_some h
   refine a_q rfl gn rfl (fun w' => y_quo rfl ev_const et ho1) ?_
   refine a_q rfl gn rfl (fun w' => y_gtr rfl et et) ?_
   refine a_nil ?_
   refine k_same (cif h et (fun hb h => ?_) (fun hb h => ?_))
   ·refine sr (sac ?_)
    refine nk (c_ret ?_)
    obtain rfl := some_inj h
    exact q_ret (vs := [vi 2]) Tryz.results57 ⟨ev_tmp rfl rfl, trivial⟩ (fq hI trivial)
   refine c_skip (k_same (c_region rfl ?_))
   refine sm ?_
   refine sm ?_
   refine sm ?_
   obtain ⟨e2, hx2, h⟩ := bnd_some h
   obtain ⟨ad2, cs2, hA2, hr2, hq2⟩ := hI.clat .z hx2
   obtain rfl : cs2 = [vi e2] := hr2
   refine sq (y_indexAddr rfl u22 size_3 et et (lat_bd hx2) hA2) ?_
   refine sq (y_load1 (v := (vi e2)) rfl et u3 rfl hq2.1) ?_
   refine sq (y_mul rfl et et) ?_
   refine sa ?_
   refine nk (c_region rfl ?_)
   refine sm ?_
   refine sq (y_add rfl et ev_const) ?_
   refine sa ?_
   refine s_nil ?_
   exact k_loop (fuel1, wi64 (n1 * e2), wi64 (i1 + 1)) ⟨rfl, rfl, rfl, trivial⟩ ⟨_, hI.arr .n ⟨.z, trivial⟩, h⟩ (Nat.lt_succ_self _)
  refine c_exit ?_
  refine k_in ?_
  refine k_same (sr (sac ?_))
  refine nk (c_ret ?_)
  obtain rfl := some_inj h
  exact q_ret (vs := [vi 0]) Tryz.results57 ⟨ev_tmp rfl rfl, trivial⟩ (fq hI trivial)
 refine sr (sac ?_)
 refine nk (c_block (c_loop (α := Nat × Int) (fun x => fun w => ∃ C, Bun noM F w0 C w [] [Cl.sl (cInt .i64) a1 c1 d1] ∧ m_ref12_Shape_l2 d1 (x.1) (x.2) = some r) (fun x _ => x.1) (fun x => [(0, vs a1 d1.length c1), (3, vi (x.2))]) (fu, 0) ⟨_, hI.arr .n ⟨.z, trivial⟩, h⟩ ⟨rfl, rfl, trivial⟩ ?_))
 clear h hI; rintro ⟨fuel2, i2⟩ w4 ⟨c4, hI, h⟩
 dsimp only at hI h
 rcases fuel2 with _ | fuel2
 ·rw [m_ref12_Shape_l2] at h; cases h
 rw [m_ref12_Shape_l2] at h
 refine c_sub (e := [(0, vs a1 d1.length c1), (3, vi i2)]) ⟨rfl, rfl, trivial⟩ ?_
 refine c_seq (sr (sm ?_))
 refine sm ?_
 refine sq (y_lenl rfl u22 et) ?_
 refine sq (y_lss rfl et et) ?_
 refine nk (cif h et (fun hb h => ?_) (fun hb h => ?_))
 ·refine c_skip (k_same (c_seq (c_block (sr (sm ?_)))))
  refine sm ?_
  obtain ⟨e3, hx3, h⟩ := bnd_some h
  obtain ⟨ad3, cs3, hA3, hr3, hq3⟩ := hI.clat .z hx3
  obtain rfl : cs3 = [vi e3] := hr3
  refine sq (y_indexAddr rfl u22 size_3 et et (lat_bd hx3) hA3) ?_
  refine sq (y_load1 (v := (vi e3)) rfl et u3 rfl hq3.1) ?_
  refine sq (y_lss rfl et ev_const) ?_
  refine nk (cif h et (fun hb h => ?_) (fun hb h => ?_))
  ·refine sr (sac ?_)
   refine nk (c_ret ?_)
   obtain rfl := some_inj h
   exact q_ret (vs := [vi 1]) Tryz.results57 ⟨ev_tmp rfl rfl, trivial⟩ (fq hI trivial)
  refine c_skip (k_same (c_region rfl ?_))
  refine sm ?_
  refine sq (y_add rfl et ev_const) ?_
  refine sa ?_
  refine s_nil ?_
  exact k_loop (fuel2, wi64 (i2 + 1)) ⟨rfl, rfl, trivial⟩ ⟨_, hI.arr .n ⟨.z, trivial⟩, h⟩ (Nat.lt_succ_self _)
 refine c_exit ?_
 refine k_in ?_
 exact k_join () ⟨rfl, trivial⟩ ⟨_, hI.arr .n ⟨.z, trivial⟩, h⟩ rfl
theorem c_ref12_Size (F : NP) (w0 : World) (hF : ∀ k, F k → k < w0.heap.size) (d1 : List Int) (a1 : Option Addr) (c1 : Nat) (hc : AllCl [Cl.sl (cInt .i64) a1 c1 d1] F w0) (r : Int)
  (h : m_ref12_Size d1 = some r) :
  Calls Tryz.prog 58 #[vs a1 d1.length c1] w0 fun e w => e = .returned (vi r) ∧ Ext w0 w ∧ AllCl [] F w := by
 refine enterK Tryz.func58 rfl Tryz.ntmps58 rfl ?_
 have hI := Bun.start hF hc
 clear hc
 rw [m_ref12_Size] at h
 refine sr (sac ?_)
 refine nk (sr (sac ?_))
 refine nk (c_seq (sr (sac ?_)))
 refine nk (c_block (c_loop (α := Nat × Int × Int) (fun x => fun w => ∃ C, Bun noM F w0 C w [] [Cl.sl (cInt .i64) a1 c1 d1] ∧ m_ref12_Size_l1 d1 (x.1) (x.2.1) (x.2.2) = some r) (fun x _ => x.1) (fun x => [(0, vs a1 d1.length c1), (3, vi (x.2.1)), (4, vi (x.2.2))]) (fu, 1, 0) ⟨_, hI.arr .n ⟨.z, trivial⟩, h⟩ ⟨rfl, rfl, rfl, trivial⟩ ?_))
 clear h hI; rintro ⟨fuel1, n1, i1⟩ w1 ⟨c2, hI, h⟩
 dsimp only at hI h
 rcases fuel1 with _ | fuel1
 ·rw [m_ref12_Size_l1] at h; cases h
 rw [m_ref12_Size_l1] at h
 refine c_sub (e := [(0, vs a1 d1.length c1), (3, vi n1), (4, vi i1)]) ⟨rfl, rfl, rfl, trivial⟩ ?_
 refine c_seq (sr (sm ?_))
 refine sm ?_
 refine sq (y_lenl rfl u22 et) ?_
 refine sq (y_lss rfl et et) ?_
 refine nk (cif h et (fun hb h => ?_) (fun hb h => ?_))
 ·refine c_skip (k_same (c_seq (c_block (c_region rfl ?_))))
  refine sm ?_
  refine sm ?_
  refine sm ?_
  obtain ⟨e1, hx1, h⟩ := bnd_some h
  obtain ⟨ad1, cs1, hA1, hr1, hq1⟩ := hI.clat .z hx1
  obtain rfl : cs1 = [vi e1] := hr1
  refine sq (y_indexAddr rfl u22 size_3 et et (lat_bd hx1) hA1) ?_
  refine sq (y_load1 (v := (vi e1)) rfl et u3 rfl hq1.1) ?_
  refine sq (y_mul rfl et et) ?_
  refine sa ?_
  refine nk (c_region rfl ?_)
  refine sm ?_
  refine sq (y_add rfl et ev_const) ?_
  refine sa ?_
  refine s_nil ?_
  exact k_loop (fuel1, wi64 (n1 * e1), wi64 (i1 + 1)) ⟨rfl, rfl, rfl, trivial⟩ ⟨_, hI.arr .n ⟨.z, trivial⟩, h⟩ (Nat.lt_succ_self _)
 refine c_exit ?_
 refine k_in ?_
 refine k_same (sr (sm ?_))
 refine sa ?_
 refine nk (c_ret ?_)
 obtain rfl := some_inj h
 exact q_ret (vs := [vi n1]) Tryz.results58 ⟨ev_tmp rfl rfl, trivial⟩ (fq hI trivial)
theorem c_base_gcd (F : NP) (w0 : World) (hF : ∀ k, F k → k < w0.heap.size) (a1 : Int) (b1 : Int) (hc : AllCl [] F w0) (r : Int)
  (h : m_base_gcd a1 b1 = some r) :
  Calls Tryz.prog 83 #[vi a1, vi b1] w0 fun e w => e = .returned (vi r) ∧ Ext w0 w ∧ AllCl [] F w := by
 refine enterK Tryz.func83 rfl Tryz.ntmps83 rfl ?_
 have hI := Bun.start hF hc
 clear hc
 rw [m_base_gcd] at h
 refine sr (sac ?_)
 refine nk (c_seq (c_block (c_loop (α := Nat × Int × Int) (fun x => fun w => ∃ C, Bun noM F w0 C w [] [] ∧ m_base_gcd_l1 (x.1) (x.2.1) (x.2.2) = some r) (fun x _ => x.1) (fun x => [(0, vi (x.2.1)), (1, vi (x.2.2))]) (fu, a1, b1) ⟨_, hI.arr .n trivial, h⟩ ⟨rfl, rfl, trivial⟩ ?_)))
 clear h hI; rintro ⟨fuel1, a2, b2⟩ w1 ⟨c1, hI, h⟩
 dsimp only at hI h
 rcases fuel1 with _ | fuel1
 ·rw [m_base_gcd_l1] at h; cases h
 rw [m_base_gcd_l1] at h
 refine c_sub (e := [(0, vi a2), (1, vi b2)]) ⟨rfl, rfl, trivial⟩ ?_
 refine c_seq (sr (sm ?_))
 refine sq (y_neq rfl et ev_const) ?_
 refine nk (cif h et (fun hb h => ?_) (fun hb h => ?_))
 ·refine c_skip (k_same (c_block (c_drawX [] false (.c (0, .q) (.c (1, .q) (.c (2, .q) (.c (3, .q) (.c (4, .q) (.c (5, .q) .n)))))) hI (by kernel_rfl) (by kernel_rfl) ?_)))
  clear hI; intro w2 hI
  refine a_q rfl gn rfl (fun w' => y_move rfl et) ?_
  refine a_q rfl gn rfl (fun w' => y_move rfl et) ?_
  refine a_q rfl gn rfl (fun w' => y_move rfl et) ?_
  obtain ⟨ho1, h⟩ := chk_some h
  refine a_q rfl gn rfl (fun w' => y_rem rfl et et ho1) ?_
  refine a_q rfl gn rfl (fun w' => y_assign rfl et) ?_
  refine a_q rfl gn rfl (fun w' => y_assign rfl et) ?_
  refine a_nil ?_
  exact k_loop (fuel1, b2, Int.tmod a2 b2) ⟨rfl, rfl, trivial⟩ ⟨_, hI.arr .n trivial, h⟩ (Nat.lt_succ_self _)
 refine c_exit ?_
 refine k_in ?_
 refine k_same (sr (sm ?_))
 refine sa ?_
 refine nk (c_ret ?_)
 obtain rfl := some_inj h
 exact q_ret (vs := [vi a2]) Tryz.results83 ⟨ev_tmp rfl rfl, trivial⟩ (fq hI trivial)
theorem c_base_Val (F : NP) (w0 : World) (hF : ∀ k, F k → k < w0.heap.size) (t1 : GType) (v1 : GVal) (hc : AllCl [] F w0) (r : Bool)
  (h : m_base_Val t1 v1 = some r) :
  Calls Tryz.prog 59 #[(Value.agg (AType t1)), (Value.agg (AVal v1))] w0 fun e w => e = .returned (vb r) ∧ Ext w0 w ∧ AllCl [] F w := by
 refine enterK Tryz.func59 rfl Tryz.ntmps59 rfl ?_
 have hI := Bun.start hF hc
 clear hc
 rw [m_base_Val] at h
 refine sr (l_box (v := (Value.agg (AType t1))) (cs := (AType t1)) hI gn rfl rfl et rfl ?_)
 clear hI; intro b1 c1 w1 hI
 obtain ⟨c2, hI⟩ := hI.relBox .z
 refine l_box (v := (Value.agg (AVal v1))) (cs := (AVal v1)) hI gn rfl rfl et rfl ?_
 clear hI; intro b2 c3 w2 hI
 obtain ⟨c4, hI⟩ := hI.relBox .z
 refine sac ?_
 refine nk (c_seq (sr (sq (y_fieldAddr rfl et u38 rfl size_3 rfl) ?_)))
 refine sq (y_load1 (v := (vi t1.Kind)) rfl et u3 rfl (hI.kblk (l := [vi t1.Kind]) (.s .z) rfl).1) ?_
 refine sq (y_eql rfl et ev_const) ?_
 refine nk (cif h et (fun hb h => ?_) (fun hb h => ?_))
 ·refine sr (sq (y_fieldAddr rfl et u38 rfl size_3 rfl) ?_)
  refine sq (y_load1 (v := (vi t1.Bits)) rfl et u3 rfl (hI.kblk (l := [vi t1.Bits]) (.s .z) rfl).1) ?_
  refine sq (y_sub rfl et ev_const) ?_
  obtain ⟨ho1, h⟩ := chk_some h
  refine sq (y_shl rfl ev_const et ho1) ?_
  obtain ⟨half1, hx1, h⟩ := bnd_some h
  refine sq (binU (y_assign rfl et) (congrArg (Value.int .i64) (some_inj hx1))) ?_
  refine nk (sr (sq (y_fieldAddr rfl et u68 rfl size_2 rfl) ?_))
  refine sq (y_load1 (v := (vi v1.D)) rfl et u2 rfl (hI.kblk (l := [vi v1.D]) .z rfl).1) ?_
  refine sq (y_eql rfl et ev_const) ?_
  refine sm ?_
  refine s_gval (g_true rfl rfl rfl rfl) rfl (fun hc => y_fieldAddr rfl et u68 rfl size_2 rfl) ?_
  refine s_gval (g_true rfl rfl rfl rfl) rfl (fun hc => (y_load1 (v := (vi v1.N)) rfl (ev_gv et hc) u2 rfl (hI.kblk (l := [vi v1.N]) .z rfl).1)) ?_
  refine s_gval (g_true rfl rfl rfl rfl) rfl (fun hc => y_move rfl et) ?_
  refine s_gval (g_true rfl rfl rfl rfl) rfl (fun hc => y_neg rfl (ev_gv et hc)) ?_
  refine s_gval (g_true rfl rfl rfl rfl) rfl (fun hc => y_geq rfl (ev_gv et hc) (ev_gv et hc)) ?_
  refine sq (y_and rfl et et) ?_
  refine sm ?_
  refine s_gval (g_true rfl rfl rfl rfl) rfl (fun hc => y_fieldAddr rfl et u68 rfl size_2 rfl) ?_
  refine s_gval (g_true rfl rfl rfl rfl) rfl (fun hc => (y_load1 (v := (vi v1.N)) rfl (ev_gv et hc) u2 rfl (hI.kblk (l := [vi v1.N]) .z rfl).1)) ?_
  refine s_gval (g_true rfl rfl rfl rfl) rfl (fun hc => y_move rfl et) ?_
  refine s_gval (g_true rfl rfl rfl rfl) rfl (fun hc => y_lss rfl (ev_gv et hc) (ev_gv et hc)) ?_
  refine sq (y_and rfl et et) ?_
  refine sa ?_
  refine s_nil ?_
  refine k_next (e := [(4, (vb (((decide (v1.D = 1)) && (decide (wi64 (-half1) ≤ v1.N))) && (decide (v1.N < half1)))))]) ⟨rfl, trivial⟩ ?_
  refine c_ret ?_
  obtain rfl := some_inj h
  exact q_ret (vs := [(vb (((decide (v1.D = 1)) && (decide (wi64 (-half1) ≤ v1.N))) && (decide (v1.N < half1))))]) Tryz.results59 ⟨ev_tmp rfl rfl, trivial⟩ (fq hI trivial)
 refine c_skip (k_same (c_seq (sr (sq (y_fieldAddr rfl et u68 rfl size_2 rfl) ?_))))
 refine sq (y_load1 (v := (vi v1.N)) rfl et u2 rfl (hI.kblk (l := [vi v1.N]) .z rfl).1) ?_
 refine sq (y_gtr rfl et ev_const) ?_
 refine sm ?_
 refine s_gval (g_false rfl rfl rfl rfl) rfl (fun hc => y_fieldAddr rfl et u68 rfl size_2 rfl) ?_
 refine s_gval (g_false rfl rfl rfl rfl) rfl (fun hc => (y_load1 (v := (vi v1.N)) rfl (ev_gv et hc) u2 rfl (hI.kblk (l := [vi v1.N]) .z rfl).1)) ?_
 refine s_gval (g_false rfl rfl rfl rfl) rfl (fun hc => y_lss rfl (ev_gv et hc) ev_const) ?_
 refine sq (y_or rfl et et) ?_
 refine sm ?_
 refine s_gval (g_false rfl rfl rfl rfl) rfl (fun hc => y_fieldAddr rfl et u68 rfl size_2 rfl) ?_
 refine s_gval (g_false rfl rfl rfl rfl) rfl (fun hc => (y_load1 (v := (vi v1.D)) rfl (ev_gv et hc) u2 rfl (hI.kblk (l := [vi v1.D]) .z rfl).1)) ?_
 refine s_gval (g_false rfl rfl rfl rfl) rfl (fun hc => y_lss rfl (ev_gv et hc) ev_const) ?_
 refine sq (y_or rfl et et) ?_
 refine sm ?_
 refine s_gval (g_false rfl rfl rfl rfl) rfl (fun hc => y_fieldAddr rfl et u68 rfl size_2 rfl) ?_
 refine s_gval (g_false rfl rfl rfl rfl) rfl (fun hc => (y_load1 (v := (vi v1.D)) rfl (ev_gv et hc) u2 rfl (hI.kblk (l := [vi v1.D]) .z rfl).1)) ?_
 refine s_gval (g_false rfl rfl rfl rfl) rfl (fun hc => y_gtr rfl (ev_gv et hc) ev_const) ?_
 refine sq (y_or rfl et et) ?_
 refine nk (cif h et (fun hb h => ?_) (fun hb h => ?_))
 ·refine sr (sac ?_)
  refine s_nil ?_
  refine k_next (e := [(4, vb false)]) ⟨rfl, trivial⟩ ?_
  refine c_ret ?_
  obtain rfl := some_inj h
  exact q_ret (vs := [vb false]) Tryz.results59 ⟨ev_tmp rfl rfl, trivial⟩ (fq hI trivial)
 refine c_skip (k_next (e := [(2, vp b1 0), (3, vp b2 0)]) ⟨rfl, rfl, trivial⟩ ?_)
 refine c_seq (sr (sq (y_fieldAddr rfl et u38 rfl size_3 rfl) ?_))
 refine sq (y_load1 (v := (vi t1.Kind)) rfl et u3 rfl (hI.kblk (l := [vi t1.Kind]) (.s .z) rfl).1) ?_
 refine sq (y_eql rfl et ev_const) ?_
 refine nk (cif h et (fun hb h => ?_) (fun hb h => ?_))
 ·refine sr (sq (y_fieldAddr rfl et u68 rfl size_2 rfl) ?_)
  refine sq (y_load1 (v := (vi v1.D)) rfl et u2 rfl (hI.kblk (l := [vi v1.D]) .z rfl).1) ?_
  refine sq (y_eql rfl et ev_const) ?_
  refine sa ?_
  refine nk (c_ret ?_)
  obtain rfl := some_inj h
  exact q_ret (vs := [(vb (decide (v1.D = 1)))]) Tryz.results59 ⟨ev_tmp rfl rfl, trivial⟩ (fq hI trivial)
 refine c_skip (k_same (sr (sq (y_fieldAddr rfl et u68 rfl size_2 rfl) ?_)))
 refine sq (y_load1 (v := (vi v1.N)) rfl et u2 rfl (hI.kblk (l := [vi v1.N]) .z rfl).1) ?_
 refine sq (y_fieldAddr rfl et u68 rfl size_2 rfl) ?_
 refine sq (y_load1 (v := (vi v1.N)) rfl et u2 rfl (hI.kblk (l := [vi v1.N]) .z rfl).1) ?_
 refine sq (y_neg rfl et) ?_
 refine sq (y_max rfl et et) ?_
 refine sq (y_fieldAddr rfl et u68 rfl size_2 rfl) ?_
 refine sq (y_load1 (v := (vi v1.D)) rfl et u2 rfl (hI.kblk (l := [vi v1.D]) .z rfl).1) ?_
 obtain ⟨r1, hx2, h⟩ := bnd_some h
 refine s_call gn rfl (r_callF (vs := [(vi (max v1.N (wi64 (-v1.N)))), vi v1.D]) rfl ok_83 ⟨et, ⟨et, trivial⟩⟩) (Calls.mono (c_base_gcd (Dj F c4) w2 hI.lt (max v1.N (wi64 (-v1.N))) v1.D trivial r1 hx2) ?_)
 rintro _ w3 ⟨rfl, hx3, hl1⟩
 refine ⟨_, rfl, ?_⟩
 replace hI := (hI.ext hx3)
 refine sq (y_eql rfl et ev_const) ?_
 refine sa ?_
 refine nk (c_ret ?_)
 obtain rfl := some_inj h
 exact q_ret (vs := [(vb (decide (r1 = 1)))]) Tryz.results59 ⟨ev_tmp rfl rfl, trivial⟩ (fq hI trivial)
theorem c_ref12_Validate (F : NP) (w0 : World) (hF : ∀ k, F k → k < w0.heap.size) (t1 : GTensor) (a1 : Option Addr) (c1 : Nat) (a2 : Option Addr) (c2 : Nat) (hc : AllCl [Cl.sl (cInt .i64) a1 c1 t1.Dims, Cl.sl cGVal a2 c2 t1.Vals] F w0) (r : Int)
  (h : m_ref12_Validate t1 = some r) :
  Calls Tryz.prog 26 #[(Value.agg (ATensor t1 a1 c1 a2 c2))] w0 fun e w => e = .returned (vi r) ∧ Ext w0 w ∧ AllCl [] F w := by
 refine enterK Tryz.func26 rfl Tryz.ntmps26 rfl ?_
 have hI := Bun.start hF hc
 clear hc
 rw [m_ref12_Validate] at h
 refine sr (l_box (v := (Value.agg (ATensor t1 a1 c1 a2 c2))) (cs := (ATensor t1 a1 c1 a2 c2)) hI gn rfl rfl et rfl ?_)
 clear hI; intro b1 c3 w1 hI
 obtain ⟨c4, hI⟩ := hI.relBox .z
 refine sac ?_
 refine nk (c_seq (sr (sq (y_fieldAddr rfl et u41 rfl size_38 rfl) ?_)))
 refine sq (y_loadN (l := (lType t1.Type_)) rfl et u38 rfl size_38 (hI.kblk (l := (lType t1.Type_)) .z rfl).1) ?_
 obtain ⟨r1, hx1, h⟩ := bnd_some h
 refine s_call gn rfl (r_callF (vs := [(Value.agg (AType t1.Type_))]) rfl ok_56 ⟨et, trivial⟩) (Calls.mono (c_base_Type (Dj F c4) w1 hI.lt t1.Type_ trivial r1 hx1) ?_)
 rintro _ w2 ⟨rfl, hx2, hl1⟩
 refine ⟨_, rfl, ?_⟩
 replace hI := (hI.ext hx2)
 refine sq (y_not rfl et) ?_
 refine nk (cif h et (fun hb h => ?_) (fun hb h => ?_))
 ·refine sr (sac ?_)
  refine nk (c_ret ?_)
  obtain rfl := some_inj h
  exact q_ret (vs := [vi 10]) Tryz.results26 ⟨ev_tmp rfl rfl, trivial⟩ (fq hI trivial)
 refine c_skip (k_same (c_seq (sr (sq (y_fieldAddr rfl et u41 rfl size_22 rfl) ?_))))
 refine sq (y_load1 (v := (vs a1 t1.Dims.length c1)) rfl et u22 rfl (hI.kblk (l := [vs a1 t1.Dims.length c1]) .z rfl).1) ?_
 obtain ⟨r2, hx3, h⟩ := bnd_some h
 refine s_call gn rfl (r_callF (vs := [vs a1 t1.Dims.length c1]) rfl ok_57 ⟨et, trivial⟩) (Calls.mono (c_ref12_Shape (Dj F c4) w2 hI.lt t1.Dims a1 c1 ⟨(hI.get (.s .z)), trivial⟩ r2 hx3) ?_)
 rintro _ w3 ⟨rfl, hx4, hl2⟩
 refine ⟨_, rfl, ?_⟩
 replace hI := (hI.ext hx4)
 refine sa ?_
 refine nk (sr (sm ?_))
 refine sq (y_neq rfl et ev_const) ?_
 refine nk (cif h et (fun hb h => ?_) (fun hb h => ?_))
 ·refine sr (sm ?_)
  refine sa ?_
  refine nk (c_ret ?_)
  obtain rfl := some_inj h
  exact q_ret (vs := [vi r2]) Tryz.results26 ⟨ev_tmp rfl rfl, trivial⟩ (fq hI trivial)
 refine c_skip (k_same (c_seq (c_seq (c_drawX [] false (.c (0, .q) (.c (1, .q) (.c (2, .q) (.c (3, .q) (.c (4, .q) (.c (5, .s) (.c (6, .q) .n))))))) hI (by kernel_rfl) (by kernel_rfl) ?_))))
 clear hI; intro w4 hI
 refine a_q rfl gn rfl (fun w' => y_fieldAddr rfl et u41 rfl size_39 rfl) ?_
 refine a_read rfl gn rfl (fun w' hw' => (y_load1 (v := (vs a2 t1.Vals.length c2)) rfl et u39 rfl ((hI.kblk (l := [vs a2 t1.Vals.length c2]) .z rfl).at_ (SX.any rfl hw')))) (by kernel_rfl) ?_
 refine a_q rfl gn rfl (fun w' => y_lenl rfl u39 et) ?_
 refine a_q rfl gn rfl (fun w' => y_fieldAddr rfl et u41 rfl size_22 rfl) ?_
 refine a_read rfl gn rfl (fun w' hw' => (y_load1 (v := (vs a1 t1.Dims.length c1)) rfl et u22 rfl ((hI.kblk (l := [vs a1 t1.Dims.length c1]) .z rfl).at_ (SX.any rfl hw')))) (by kernel_rfl) ?_
 obtain ⟨r3, hx5, h⟩ := bnd_some h
 refine la_call rfl gn rfl (r_callF (vs := [vs a1 t1.Dims.length c1]) rfl ok_58 ⟨et, trivial⟩) (Calls.mono (c_ref12_Size (Dj F c4) w4 hI.lt t1.Dims a1 c1 ⟨(hI.get (.s .z)), trivial⟩ r3 hx5) ?_)
 rintro _ w5 ⟨rfl, hx6, hl3⟩
 refine ⟨_, rfl, hx6, ?_⟩
 replace hI := (hI.ext hx6)
 refine a_q rfl gn rfl (fun w' => y_neq rfl et et) ?_
 refine a_nil ?_
 refine k_same (cif h et (fun hb h => ?_) (fun hb h => ?_))
 ·refine sr (sac ?_)
  refine nk (c_ret ?_)
  obtain rfl := some_inj h
  exact q_ret (vs := [vi 1]) Tryz.results26 ⟨ev_tmp rfl rfl, trivial⟩ (fq hI trivial)
 refine c_skip (k_same (c_seq (sr (sac ?_))))
 refine nk (c_block (c_loop (α := Nat × Int) (fun x => fun w => ∃ C, Bun noM F w0 C w [] [Cl.blk b1 41 (ATensor t1 a1 c1 a2 c2), Cl.sl (cInt .i64) a1 c1 t1.Dims, Cl.sl cGVal a2 c2 t1.Vals] ∧ m_ref12_Validate_l1 t1 (x.1) (x.2) = some r) (fun x _ => x.1) (fun x => [(1, vp b1 0), (4, vi (x.2))]) (fu, 0) ⟨_, hI.arr .n ⟨.z, (.s .z), (.s (.s .z)), trivial⟩, h⟩ ⟨rfl, rfl, trivial⟩ ?_))
 clear h hI; rintro ⟨fuel1, i1⟩ w6 ⟨c5, hI, h⟩
 dsimp only at hI h
 rcases fuel1 with _ | fuel1
 ·rw [m_ref12_Validate_l1] at h; cases h
 rw [m_ref12_Validate_l1] at h
 refine c_sub (e := [(1, vp b1 0), (4, vi i1)]) ⟨rfl, rfl, trivial⟩ ?_
 refine c_seq (sr (sm ?_))
 refine sq (y_fieldAddr rfl et u41 rfl size_39 rfl) ?_
 refine sq (y_load1 (v := (vs a2 t1.Vals.length c2)) rfl et u39 rfl (hI.kblk (l := [vs a2 t1.Vals.length c2]) .z rfl).1) ?_
 refine sq (y_lenl rfl u39 et) ?_
 refine sq (y_lss rfl et et) ?_
 refine nk (cif h et (fun hb h => ?_) (fun hb h => ?_))
 ·refine c_skip (k_same (c_seq (c_block (c_seq (c_drawX [] false (.c (0, .q) (.c (1, .q) (.c (2, .q) (.c (3, .q) (.c (4, .q) (.c (5, .q) (.c (6, .q) (.c (7, .s) (.c (8, .q) .n))))))))) hI (by kernel_rfl) (by kernel_rfl) ?_)))))
  clear hI; intro w7 hI
  refine a_q rfl gn rfl (fun w' => y_fieldAddr rfl et u41 rfl size_38 rfl) ?_
  refine a_read rfl gn rfl (fun w' hw' => (y_loadN (l := (lType t1.Type_)) rfl et u38 rfl size_38 ((hI.kblk (l := (lType t1.Type_)) .z rfl).at_ (SX.any rfl hw')))) (by kernel_rfl) ?_
  refine a_q rfl gn rfl (fun w' => y_fieldAddr rfl et u41 rfl size_39 rfl) ?_
  refine a_read rfl gn rfl (fun w' hw' => (y_load1 (v := (vs a2 t1.Vals.length c2)) rfl et u39 rfl ((hI.kblk (l := [vs a2 t1.Vals.length c2]) .z rfl).at_ (SX.any rfl hw')))) (by kernel_rfl) ?_
  refine a_q rfl gn rfl (fun w' => y_move rfl et) ?_
  obtain ⟨e1, hx7, h⟩ := bnd_some h
  obtain ⟨ad1, cs1, hA1, hr1, hq1⟩ := hI.clat (.s (.s .z)) hx7
  obtain rfl : cs1 = (lVal e1) := hr1
  refine a_q rfl gn rfl (fun w' => y_indexAddr rfl u39 size_68 et et (lat_bd hx7) hA1) ?_
  refine a_read rfl gn rfl (fun w' hw' => (y_loadN (l := (lVal e1)) rfl et u68 rfl size_68 (hq1.at_ (SX.any rfl hw')))) (by kernel_rfl) ?_
  obtain ⟨r4, hx8, h⟩ := bnd_some h
  refine la_call rfl gn rfl (r_callF (vs := [(Value.agg (AType t1.Type_)), (Value.agg (AVal e1))]) rfl ok_59 ⟨et, ⟨et, trivial⟩⟩) (Calls.mono (c_base_Val (Dj F c5) w7 hI.lt t1.Type_ e1 trivial r4 hx8) ?_)
  rintro _ w8 ⟨rfl, hx9, hl4⟩
  refine ⟨_, rfl, hx9, ?_⟩
  replace hI := (hI.ext hx9)
  refine a_q rfl gn rfl (fun w' => y_not rfl et) ?_
  refine a_nil ?_
  refine k_same (cif h et (fun hb h => ?_) (fun hb h => ?_))
  ·refine sr (sac ?_)
   refine nk (c_ret ?_)
   obtain rfl := some_inj h
   exact q_ret (vs := [vi 1]) Tryz.results26 ⟨ev_tmp rfl rfl, trivial⟩ (fq hI trivial)
  refine c_skip (k_same (c_region rfl ?_))
  refine sm ?_
  refine sq (y_add rfl et ev_const) ?_
  refine sa ?_
  refine s_nil ?_
  exact k_loop (fuel1, wi64 (i1 + 1)) ⟨rfl, rfl, trivial⟩ ⟨_, hI.arr .n ⟨.z, (.s .z), (.s (.s .z)), trivial⟩, h⟩ (Nat.lt_succ_self _)
 refine c_exit ?_
 refine k_in ?_
 refine k_same (sr (sac ?_))
 refine nk (c_ret ?_)
 obtain rfl := some_inj h
 exact q_ret (vs := [vi 0]) Tryz.results26 ⟨ev_tmp rfl rfl, trivial⟩ (fq hI trivial)
theorem c_ref51_Coordinates (F : NP) (w0 : World) (hF : ∀ k, F k → k < w0.heap.size) (m1 : GMesh) (dev1 : Int) (a1 : Option Addr) (c1 : Nat) (hc : AllCl [Cl.sl (cInt .i64) a1 c1 m1.Dims] F w0) (r : List Int × Bool)
  (h : m_ref51_Coordinates m1 dev1 = some r) :
  Calls Tryz.prog 41 #[(Value.agg #[vs a1 m1.Dims.length c1]), vi dev1] w0 fun e w => ∃ (a2 : Option Addr) (c2 : Nat), e = .returned (Value.tuple #[vs a2 r.1.length c2, vb r.2]) ∧ Ext w0 w ∧ AllCl [Cl.sl (cInt .i64) a2 c2 r.1] F w := by
 refine enterK Tryz.func41 rfl Tryz.ntmps41 rfl ?_
 have hI := Bun.start hF hc
 clear hc
 rw [m_ref51_Coordinates] at h
 refine sr (l_box (v := (Value.agg #[vs a1 m1.Dims.length c1])) (cs := #[vs a1 m1.Dims.length c1]) hI gn rfl rfl et rfl ?_)
 clear hI; intro b1 c3 w1 hI
 obtain ⟨c4, hI⟩ := hI.relBox .z
 refine sac ?_
 refine sac ?_
 refine nk (c_seq (sr (sm ?_)))
 refine sq (y_lss rfl et ev_const) ?_
 refine sm ?_
 refine s_gval (g_false rfl rfl rfl rfl) rfl (fun hc => y_move rfl et) ?_
 refine s_gval (g_false rfl rfl rfl rfl) rfl (fun hc => (y_loadN (l := [vs a1 m1.Dims.length c1]) rfl et u24 rfl size_24 (hI.kblk (l := [vs a1 m1.Dims.length c1]) .z rfl).1)) ?_
 obtain ⟨r1, hx1, h⟩ := bnd_some h
 replace hx1 := gd_some hx1
 refine s_gcallU (v := (vi r1)) (g_false rfl rfl rfl rfl) rfl (fun hc => (r_callF (vs := [(Value.agg #[vs a1 m1.Dims.length c1])]) rfl ok_49 ⟨(ev_gv et hc), trivial⟩)) (fun hc => (c_ref51_Devices (Dj F c4) w1 hI.lt m1 a1 c1 ⟨(hI.get (.s .z)), trivial⟩ r1 (hx1 hc)).mono fun _ _ k => ⟨k.1, k.2.1⟩) ?_
 intro w2 hx2; replace hI := hI.ext hx2
 refine s_gval (g_false rfl rfl rfl rfl) rfl (fun hc => y_geq rfl (ev_gv et hc) (ev_gv et hc)) ?_
 refine sq (y_or rfl et et) ?_
 refine nk (cif h et (fun hb h => ?_) (fun hb h => ?_))
 ·refine sr (sac ?_)
  refine sac ?_
  refine nk (c_ret ?_)
  have hI := hI.add (c := Cl.sl (cInt .i64) none 0 ([] : List Int)) SlC.nil
  obtain rfl := some_inj h
  exact q_ret (vs := [vs none 0 0, vb false]) Tryz.results41 ⟨ev_tmp rfl rfl, ⟨ev_tmp rfl rfl, trivial⟩⟩ ⟨none, 0, rfl, hI.ext0, hI.fin ⟨.z, trivial⟩⟩
 refine c_skip (k_same (sr (sq (y_fieldAddr rfl et u24 rfl size_22 rfl) ?_)))
 refine sq (y_load1 (v := (vs a1 m1.Dims.length c1)) rfl et u22 rfl (hI.kblk (l := [vs a1 m1.Dims.length c1]) .z rfl).1) ?_
 refine sq (y_lenl rfl u22 et) ?_
 obtain ⟨zs1, hx3, h⟩ := bnd_some h
 refine l_make (c := (cInt .i64)) hI hx3 gn  rfl rfl u22 info_3 rfl rfl et et rfl ?_
 clear hI; intro b2 c5 w3 hI
 refine sa ?_
 refine nk (c_seq (sr (sq (y_fieldAddr rfl et u24 rfl size_22 rfl) ?_)))
 refine sq (y_load1 (v := (vs a1 m1.Dims.length c1)) rfl et u22 rfl (hI.kblk (l := [vs a1 m1.Dims.length c1]) .z rfl).1) ?_
 refine sq (y_lenl rfl u22 et) ?_
 refine sq (y_sub rfl et ev_const) ?_
 obtain ⟨i1, hx4, h⟩ := bnd_some h
 refine sq (binU (y_assign rfl et) (congrArg (Value.int .i64) (some_inj hx4))) ?_
 refine nk (c_block (c_loop (α := Nat × Int × (List Int) × Int × (Option Addr) × Nat) (fun x => fun w => ∃ C, Bun noM F w0 C w [MO.row (cInt .i64) 3 (x.2.2.2.2.1) (x.2.2.2.2.2) (x.2.2.1)] [Cl.blk b1 24 #[vs a1 m1.Dims.length c1], Cl.sl (cInt .i64) a1 c1 m1.Dims] ∧ m_ref51_Coordinates_l1 m1 (x.1) (x.2.1) (x.2.2.1) (x.2.2.2.1) = some r) (fun x _ => x.1) (fun x => [(1, vi (x.2.1)), (2, vp b1 0), (6, vs (x.2.2.2.2.1) (x.2.2.1).length (x.2.2.2.2.2)), (7, vi (x.2.2.2.1))]) (fu, dev1, zs1, i1, some ⟨b2, 0, none⟩, ((m1.Dims.length : Int)).toNat) ⟨_, hI.arr (.c .z .n) ⟨.z, (.s .z), trivial⟩, h⟩ ⟨rfl, rfl, rfl, rfl, trivial⟩ ?_))
 clear h hI; rintro ⟨fuel1, dev2, out1, i2, a3, c6⟩ w4 ⟨c7, hI, h⟩
 dsimp only at hI h
 rcases fuel1 with _ | fuel1
 ·rw [m_ref51_Coordinates_l1] at h; cases h
 rw [m_ref51_Coordinates_l1] at h
 refine c_sub (e := [(1, vi dev2), (2, vp b1 0), (6, vs a3 out1.length c6), (7, vi i2)]) ⟨rfl, rfl, rfl, rfl, trivial⟩ ?_
 refine c_seq (sr (sm ?_))
 refine sq (y_geq rfl et ev_const) ?_
 refine nk (cif h et (fun hb h => ?_) (fun hb h => ?_))
 ·refine c_skip (k_same (c_seq (c_block (sr (sm ?_)))))
  refine sm ?_
  refine sm ?_
  refine sq (y_fieldAddr rfl et u24 rfl size_22 rfl) ?_
  refine sq (y_load1 (v := (vs a1 m1.Dims.length c1)) rfl et u22 rfl (hI.kblk (l := [vs a1 m1.Dims.length c1]) .z rfl).1) ?_
  refine sm ?_
  obtain ⟨e1, hx5, h⟩ := bnd_some h
  obtain ⟨ad1, cs1, hA1, hr1, hq1⟩ := hI.clat (.s .z) hx5
  obtain rfl : cs1 = [vi e1] := hr1
  refine sq (y_indexAddr rfl u22 size_3 et et (lat_bd hx5) hA1) ?_
  refine sq (y_load1 (v := (vi e1)) rfl et u3 rfl hq1.1) ?_
  obtain ⟨ho1, h⟩ := chk_some h
  refine sq (y_rem rfl et et ho1) ?_
  obtain ⟨ho2, h⟩ := chk_some h
  obtain ⟨ad2, hA2⟩ := hI.addr .z ho2
  refine sq (y_indexAddr rfl u22 size_3 et et ho2 hA2) ?_
  refine l_storeRow (p := Int.toNat i2) (new := [vi (Int.tmod dev2 e1)]) (off := 0) (x' := Int.tmod dev2 e1) hI .z gn rfl rfl (by have := ho2; omega) hA2 rfl et et rfl size_3 rfl (by show 0 + 1 ≤ 1; omega) (fun _ cs0 _ hr0 => by rw [spl_full (by have e := Cod.len _ hr0; exact e)]; exact rfl) ?_
  clear hI; intro c8 w5 hI
  refine s_nil ?_
  refine k_next (e := [(1, vi dev2), (2, vp b1 0), (6, (vs a3 (out1.set (Int.toNat i2) (Int.tmod dev2 e1)).length c6)), (7, vi i2)]) ⟨rfl, rfl, (lookset rfl), rfl, trivial⟩ ?_
  refine c_region rfl ?_
  refine sm ?_
  refine sq (y_fieldAddr rfl et u24 rfl size_22 rfl) ?_
  refine sq (y_load1 (v := (vs a1 m1.Dims.length c1)) rfl et u22 rfl (hI.kblk (l := [vs a1 m1.Dims.length c1]) .z rfl).1) ?_
  refine sm ?_
  obtain ⟨e2, hx6, h⟩ := bnd_some h
  obtain ⟨ad3, cs2, hA3, hr2, hq2⟩ := hI.clat (.s .z) hx6
  obtain rfl : cs2 = [vi e2] := hr2
  refine sq (y_indexAddr rfl u22 size_3 et et (lat_bd hx6) hA3) ?_
  refine sq (y_load1 (v := (vi e2)) rfl et u3 rfl hq2.1) ?_
  obtain ⟨ho3, h⟩ := chk_some h
  refine sq (y_quo rfl et et ho3) ?_
  refine sa ?_
  refine nk (c_region rfl ?_)
  refine sm ?_
  refine sq (y_sub rfl et ev_const) ?_
  refine sa ?_
  refine s_nil ?_
  exact k_loop (fuel1, wi64 (Int.tdiv dev2 e2), out1.set (Int.toNat i2) (Int.tmod dev2 e1), wi64 (i2 - 1), a3, c6) ⟨rfl, rfl, rfl, rfl, trivial⟩ ⟨_, hI.arr (.c .z .n) ⟨.z, (.s .z), trivial⟩, h⟩ (Nat.lt_succ_self _)
 refine c_exit ?_
 refine k_in ?_
 refine k_same (sr (sm ?_))
 refine sa ?_
 refine sac ?_
 refine nk (c_ret ?_)
 obtain ⟨c9, hI⟩ := hI.release .z
 obtain rfl := some_inj h
 exact q_ret (vs := [vs a3 out1.length c6, vb true]) Tryz.results41 ⟨ev_tmp rfl rfl, ⟨ev_tmp rfl rfl, trivial⟩⟩ ⟨a3, c6, rfl, hI.ext0, hI.fin ⟨.z, trivial⟩⟩
theorem c_ref12_Point (F : NP) (w0 : World) (hF : ∀ k, F k → k < w0.heap.size) (d1 : List Int) (at1 : Int) (a1 : Option Addr) (c1 : Nat) (hc : AllCl [Cl.sl (cInt .i64) a1 c1 d1] F w0) (r : List Int)
  (h : m_ref12_Point d1 at1 = some r) :
  Calls Tryz.prog 67 #[vs a1 d1.length c1, vi at1] w0 fun e w => ∃ (a2 : Option Addr) (c2 : Nat), e = .returned (vs a2 r.length c2) ∧ Ext w0 w ∧ AllCl [Cl.sl (cInt .i64) a2 c2 r] F w := by
 refine enterK Tryz.func67 rfl Tryz.ntmps67 rfl ?_
 have hI := Bun.start hF hc
 clear hc
 rw [m_ref12_Point] at h
 refine sr (sac ?_)
 refine nk (sr (sm ?_))
 refine sq (y_lenl rfl u22 et) ?_
 obtain ⟨zs1, hx1, h⟩ := bnd_some h
 refine l_make (c := (cInt .i64)) hI hx1 gn  rfl rfl u22 info_3 rfl rfl et et rfl ?_
 clear hI; intro b1 c3 w1 hI
 refine sa ?_
 refine nk (c_seq (sr (sm ?_)))
 refine sq (y_lenl rfl u22 et) ?_
 refine sq (y_sub rfl et ev_const) ?_
 obtain ⟨i1, hx2, h⟩ := bnd_some h
 refine sq (binU (y_assign rfl et) (congrArg (Value.int .i64) (some_inj hx2))) ?_
 refine nk (c_block (c_loop (α := Nat × Int × (List Int) × Int × (Option Addr) × Nat) (fun x => fun w => ∃ C, Bun noM F w0 C w [MO.row (cInt .i64) 3 (x.2.2.2.2.1) (x.2.2.2.2.2) (x.2.2.1)] [Cl.sl (cInt .i64) a1 c1 d1] ∧ m_ref12_Point_l1 d1 (x.1) (x.2.1) (x.2.2.1) (x.2.2.2.1) = some r) (fun x _ => x.1) (fun x => [(0, vs a1 d1.length c1), (1, vi (x.2.1)), (5, vs (x.2.2.2.2.1) (x.2.2.1).length (x.2.2.2.2.2)), (6, vi (x.2.2.2.1))]) (fu, at1, zs1, i1, some ⟨b1, 0, none⟩, ((d1.length : Int)).toNat) ⟨_, hI.arr (.c .z .n) ⟨.z, trivial⟩, h⟩ ⟨rfl, rfl, rfl, rfl, trivial⟩ ?_))
 clear h hI; rintro ⟨fuel1, at2, p1, i2, a3, c4⟩ w2 ⟨c5, hI, h⟩
 dsimp only at hI h
 rcases fuel1 with _ | fuel1
 ·rw [m_ref12_Point_l1] at h; cases h
 rw [m_ref12_Point_l1] at h
 refine c_sub (e := [(0, vs a1 d1.length c1), (1, vi at2), (5, vs a3 p1.length c4), (6, vi i2)]) ⟨rfl, rfl, rfl, rfl, trivial⟩ ?_
 refine c_seq (sr (sm ?_))
 refine sq (y_geq rfl et ev_const) ?_
 refine nk (cif h et (fun hb h => ?_) (fun hb h => ?_))
 ·refine c_skip (k_same (c_seq (c_block (sr (sm ?_)))))
  refine sm ?_
  refine sm ?_
  refine sm ?_
  refine sm ?_
  obtain ⟨e1, hx3, h⟩ := bnd_some h
  obtain ⟨ad1, cs1, hA1, hr1, hq1⟩ := hI.clat .z hx3
  obtain rfl : cs1 = [vi e1] := hr1
  refine sq (y_indexAddr rfl u22 size_3 et et (lat_bd hx3) hA1) ?_
  refine sq (y_load1 (v := (vi e1)) rfl et u3 rfl hq1.1) ?_
  obtain ⟨ho1, h⟩ := chk_some h
  refine sq (y_rem rfl et et ho1) ?_
  obtain ⟨ho2, h⟩ := chk_some h
  obtain ⟨ad2, hA2⟩ := hI.addr .z ho2
  refine sq (y_indexAddr rfl u22 size_3 et et ho2 hA2) ?_
  refine l_storeRow (p := Int.toNat i2) (new := [vi (Int.tmod at2 e1)]) (off := 0) (x' := Int.tmod at2 e1) hI .z gn rfl rfl (by have := ho2; omega) hA2 rfl et et rfl size_3 rfl (by show 0 + 1 ≤ 1; omega) (fun _ cs0 _ hr0 => by rw [spl_full (by have e := Cod.len _ hr0; exact e)]; exact rfl) ?_
  clear hI; intro c6 w3 hI
  refine s_nil ?_
  refine k_next (e := [(0, vs a1 d1.length c1), (1, vi at2), (5, (vs a3 (p1.set (Int.toNat i2) (Int.tmod at2 e1)).length c4)), (6, vi i2)]) ⟨rfl, rfl, (lookset rfl), rfl, trivial⟩ ?_
  refine c_region rfl ?_
  refine sm ?_
  refine sm ?_
  refine sm ?_
  obtain ⟨e2, hx4, h⟩ := bnd_some h
  obtain ⟨ad3, cs2, hA3, hr2, hq2⟩ := hI.clat .z hx4
  obtain rfl : cs2 = [vi e2] := hr2
  refine sq (y_indexAddr rfl u22 size_3 et et (lat_bd hx4) hA3) ?_
  refine sq (y_load1 (v := (vi e2)) rfl et u3 rfl hq2.1) ?_
  obtain ⟨ho3, h⟩ := chk_some h
  refine sq (y_quo rfl et et ho3) ?_
  refine sa ?_
  refine nk (c_region rfl ?_)
  refine sm ?_
  refine sq (y_sub rfl et ev_const) ?_
  refine sa ?_
  refine s_nil ?_
  exact k_loop (fuel1, wi64 (Int.tdiv at2 e2), p1.set (Int.toNat i2) (Int.tmod at2 e1), wi64 (i2 - 1), a3, c4) ⟨rfl, rfl, rfl, rfl, trivial⟩ ⟨_, hI.arr (.c .z .n) ⟨.z, trivial⟩, h⟩ (Nat.lt_succ_self _)
 refine c_exit ?_
 refine k_in ?_
 refine k_same (sr (sm ?_))
 refine sa ?_
 refine nk (c_ret ?_)
 obtain ⟨c7, hI⟩ := hI.release .z
 obtain rfl := some_inj h
 exact q_ret (vs := [vs a3 p1.length c4]) Tryz.results67 ⟨ev_tmp rfl rfl, trivial⟩ ⟨a3, c4, rfl, hI.ext0, hI.fin ⟨.z, trivial⟩⟩
theorem c_ref12_Slice (F : NP) (w0 : World) (hF : ∀ k, F k → k < w0.heap.size) (t1 : GTensor) (axis1 : Int) (from1 : Int) (to1 : Int) (a1 : Option Addr) (c1 : Nat) (a2 : Option Addr) (c2 : Nat) (hc : AllCl [Cl.sl (cInt .i64) a1 c1 t1.Dims, Cl.sl cGVal a2 c2 t1.Vals] F w0) (r : GTensor × Int)
  (h : m_ref12_Slice t1 axis1 from1 to1 = some r) :
  Calls Tryz.prog 42 #[(Value.agg (ATensor t1 a1 c1 a2 c2)), vi axis1, vi from1, vi to1] w0 fun e w => ∃ (a3 : Option Addr) (c3 : Nat) (a4 : Option Addr) (c4 : Nat), e = .returned (Value.tuple #[(Value.agg (ATensor r.1 a3 c3 a4 c4)), vi r.2]) ∧ Ext w0 w ∧ AllCl [Cl.sl (cInt .i64) a3 c3 r.1.Dims, Cl.sl cGVal a4 c4 r.1.Vals] F w := by
 refine enterK Tryz.func42 rfl Tryz.ntmps42 rfl ?_
 have hI := Bun.start hF hc
 clear hc
 rw [m_ref12_Slice] at h
 refine sr (l_box (v := (Value.agg (ATensor t1 a1 c1 a2 c2))) (cs := (ATensor t1 a1 c1 a2 c2)) hI gn rfl rfl et rfl ?_)
 clear hI; intro b1 c5 w1 hI
 obtain ⟨c6, hI⟩ := hI.relBox .z
 refine l_alloc (cs := ZTensor) hI gn rfl rfl zero_41 rfl ?_
 clear hI; intro b2 c7 w2 hI
 refine sac ?_
 refine nk (c_seq (sr (sq (y_loadN (l := (lTensor t1 a1 c1 a2 c2)) rfl et u41 rfl size_41 (hI.kblk (l := (lTensor t1 a1 c1 a2 c2)) .z rfl).1) ?_)))
 obtain ⟨r1, hx1, h⟩ := bnd_some h
 refine s_call gn rfl (r_callF (vs := [(Value.agg (ATensor t1 a1 c1 a2 c2))]) rfl ok_26 ⟨et, trivial⟩) (Calls.mono (c_ref12_Validate (Dj F c7) w2 hI.lt t1 a1 c1 a2 c2 ⟨(hI.get (.s .z)), (hI.get (.s (.s .z))), trivial⟩ r1 hx1) ?_)
 rintro _ w3 ⟨rfl, hx2, hl1⟩
 refine ⟨_, rfl, ?_⟩
 replace hI := (hI.ext hx2)
 refine sa ?_
 refine nk (sr (sm ?_))
 refine sq (y_neq rfl et ev_const) ?_
 refine nk (cif h et (fun hb h => ?_) (fun hb h => ?_))
 ·refine sr (sq (y_build (vs := []) (cs := ZTensor) rfl trivial (by kernel_rfl)) ?_)
  refine sm ?_
  refine l_store (new := zTensor) (cs' := ZTensor) hI .z gn rfl rfl et et rfl size_41 rfl rfl rfl ?_
  clear hI; intro c8 w4 hI
  refine sa ?_
  refine nk (c_ret ?_)
  have hI := hI.add (c := Cl.sl (cInt .i64) none 0 ([] : List Int)) SlC.nil
  have hI := hI.add (c := Cl.sl cGVal none 0 ([] : List GVal)) SlC.nil
  obtain rfl := some_inj h
  exact q_ret (vs := [(Value.agg ZTensor), vi r1]) Tryz.results42 ⟨⟨_, ev_tmp rfl rfl, load_agg (l := zTensor) u41 rfl size_41 (CellsAt.of_blk (hI.blk .z) rfl)⟩, ⟨ev_tmp rfl rfl, trivial⟩⟩ ⟨none, 0, none, 0, rfl, hI.ext0, hI.fin ⟨(.s .z), .z, trivial⟩⟩
 refine c_skip (k_same (c_seq (sr (sm ?_))))
 refine sq (y_lss rfl et ev_const) ?_
 refine sm ?_
 refine s_gval (g_false rfl rfl rfl rfl) rfl (fun hc => y_move rfl et) ?_
 refine s_gval (g_false rfl rfl rfl rfl) rfl (fun hc => y_fieldAddr rfl et u41 rfl size_22 rfl) ?_
 refine s_gval (g_false rfl rfl rfl rfl) rfl (fun hc => (y_load1 (v := (vs a1 t1.Dims.length c1)) rfl (ev_gv et hc) u22 rfl (hI.kblk (l := [vs a1 t1.Dims.length c1]) .z rfl).1)) ?_
 refine s_gval (g_false rfl rfl rfl rfl) rfl (fun hc => y_lenl rfl u22 (ev_gv et hc)) ?_
 refine s_gval (g_false rfl rfl rfl rfl) rfl (fun hc => y_geq rfl (ev_gv et hc) (ev_gv et hc)) ?_
 refine sq (y_or rfl et et) ?_
 refine nk (cif h et (fun hb h => ?_) (fun hb h => ?_))
 ·refine sr (sq (y_build (vs := []) (cs := ZTensor) rfl trivial (by kernel_rfl)) ?_)
  refine l_store (new := zTensor) (cs' := ZTensor) hI .z gn rfl rfl et et rfl size_41 rfl rfl rfl ?_
  clear hI; intro c9 w5 hI
  refine sac ?_
  refine nk (c_ret ?_)
  have hI := hI.add (c := Cl.sl (cInt .i64) none 0 ([] : List Int)) SlC.nil
  have hI := hI.add (c := Cl.sl cGVal none 0 ([] : List GVal)) SlC.nil
  obtain rfl := some_inj h
  exact q_ret (vs := [(Value.agg ZTensor), vi 11]) Tryz.results42 ⟨⟨_, ev_tmp rfl rfl, load_agg (l := zTensor) u41 rfl size_41 (CellsAt.of_blk (hI.blk .z) rfl)⟩, ⟨ev_tmp rfl rfl, trivial⟩⟩ ⟨none, 0, none, 0, rfl, hI.ext0, hI.fin ⟨(.s .z), .z, trivial⟩⟩
 refine c_skip (k_same (c_seq (sr (sm ?_))))
 refine sq (y_lss rfl et ev_const) ?_
 refine sm ?_
 refine s_gval (g_false rfl rfl rfl rfl) rfl (fun hc => y_move rfl et) ?_
 refine s_gval (g_false rfl rfl rfl rfl) rfl (fun hc => y_move rfl et) ?_
 refine s_gval (g_false rfl rfl rfl rfl) rfl (fun hc => y_geq rfl (ev_gv et hc) (ev_gv et hc)) ?_
 refine sq (y_or rfl et et) ?_
 refine sm ?_
 refine s_gval (g_false rfl rfl rfl rfl) rfl (fun hc => y_move rfl et) ?_
 refine s_gval (g_false rfl rfl rfl rfl) rfl (fun hc => y_fieldAddr rfl et u41 rfl size_22 rfl) ?_
 refine s_gval (g_false rfl rfl rfl rfl) rfl (fun hc => (y_load1 (v := (vs a1 t1.Dims.length c1)) rfl (ev_gv et hc) u22 rfl (hI.kblk (l := [vs a1 t1.Dims.length c1]) .z rfl).1)) ?_
 refine s_gval (g_false rfl rfl rfl rfl) rfl (fun hc => y_move rfl et) ?_
 obtain ⟨e1, hx3, h⟩ := bnd_some h
 replace hx3 := gd_some hx3
 obtain ⟨ad1, cs1, hq1⟩ := hI.gclat (.s .z) hx3
 have hq2 : (!((decide (from1 < 0)) || (decide (to1 ≤ from1)))) = true → CA (Dj F c7) w3 (ad1.add (Int.toNat axis1 * 1)) [vi e1] := fun hc => by have k := hq1 hc; have e : cs1 = _ := k.2.1; rw [← e]; exact k.2.2
 refine s_gval (g_false rfl rfl rfl rfl) rfl (fun hc => (y_indexAddr rfl u22 size_3 (ev_gv et hc) (ev_gv et hc) (lat_bd (hx3 hc)) (hq1 hc).1)) ?_
 refine s_gval (g_false rfl rfl rfl rfl) rfl (fun hc => (y_load1 (v := (vi e1)) rfl (ev_gv et hc) u3 rfl (hq2 hc).1)) ?_
 refine s_gval (g_false rfl rfl rfl rfl) rfl (fun hc => y_gtr rfl (ev_gv et hc) (ev_gv et hc)) ?_
 refine sq (y_or rfl et et) ?_
 refine s_nil ?_
 refine k_next (e := [(1, vi axis1), (2, vi from1), (3, vi to1), (4, vp b1 0), (8, vp b2 0), (46, (vb (((decide (from1 < 0)) || (decide (to1 ≤ from1))) || (decide (e1 < to1)))))]) ⟨rfl, rfl, rfl, rfl, rfl, rfl, trivial⟩ ?_
 refine cif h et (fun hb h => ?_) (fun hb h => ?_)
 ·refine sr (sq (y_build (vs := []) (cs := ZTensor) rfl trivial (by kernel_rfl)) ?_)
  refine l_store (new := zTensor) (cs' := ZTensor) hI .z gn rfl rfl et et rfl size_41 rfl rfl rfl ?_
  clear hI; intro c10 w6 hI
  refine sac ?_
  refine nk (c_ret ?_)
  have hI := hI.add (c := Cl.sl (cInt .i64) none 0 ([] : List Int)) SlC.nil
  have hI := hI.add (c := Cl.sl cGVal none 0 ([] : List GVal)) SlC.nil
  obtain rfl := some_inj h
  exact q_ret (vs := [(Value.agg ZTensor), vi 12]) Tryz.results42 ⟨⟨_, ev_tmp rfl rfl, load_agg (l := zTensor) u41 rfl size_41 (CellsAt.of_blk (hI.blk .z) rfl)⟩, ⟨ev_tmp rfl rfl, trivial⟩⟩ ⟨none, 0, none, 0, rfl, hI.ext0, hI.fin ⟨(.s .z), .z, trivial⟩⟩
 refine c_skip (k_same (sr (sq (y_fieldAddr rfl et u41 rfl size_38 rfl) ?_)))
 refine sq (y_loadN (l := (lType t1.Type_)) rfl et u38 rfl size_38 (hI.kblk (l := (lType t1.Type_)) .z rfl).1) ?_
 refine sq (y_build (vs := [(0, (Value.agg (AType t1.Type_)))]) (cs := #[vi t1.Type_.Kind, vi t1.Type_.Bits, vi t1.Type_.Frac, vi t1.Type_.Round, vi t1.Type_.Over, vs none 0 0, vs none 0 0]) rfl ⟨rfl, et, trivial⟩ (by kernel_rfl)) ?_
 refine l_alloc (cs := ZTensor) hI gn rfl rfl zero_41 rfl ?_
 clear hI; intro b3 c11 w7 hI
 refine l_store (new := [vi t1.Type_.Kind, vi t1.Type_.Bits, vi t1.Type_.Frac, vi t1.Type_.Round, vi t1.Type_.Over, vs none 0 0, vs none 0 0]) (cs' := #[vi t1.Type_.Kind, vi t1.Type_.Bits, vi t1.Type_.Frac, vi t1.Type_.Round, vi t1.Type_.Over, vs none 0 0, vs none 0 0]) hI .z gn rfl rfl et et rfl size_41 rfl rfl rfl ?_
 clear hI; intro c12 w8 hI
 refine nk (c_join (α := GTensor × (Option Addr) × Nat × (Option Addr) × Nat) (fun _ => ⟨115, []⟩) (fun x => [(1, vi axis1), (2, vi from1), (3, vi to1), (4, vp b1 0), (8, vp b2 0), (11, vp b3 0)]) (fun x => fun w => ∃ C, Bun noM F w0 C w [MO.row (cInt .i64) 3 (x.2.1) (x.2.2.1) (x.1).Dims, MO.row cGVal 68 (x.2.2.2.1) (x.2.2.2.2) (x.1).Vals, MO.box b2 41 ZTensor, MO.box b3 41 (ATensor (x.1) (x.2.1) (x.2.2.1) (x.2.2.2.1) (x.2.2.2.2))] [Cl.blk b1 41 (ATensor t1 a1 c1 a2 c2), Cl.sl (cInt .i64) a1 c1 t1.Dims, Cl.sl cGVal a2 c2 t1.Vals] ∧ m_ref12_Slice_j1 t1 axis1 from1 to1 (x.1) = some r) ?_ ?_)
 ·clear h hI; rintro ⟨out1, a5, c13, a6, c14⟩ w9 ⟨c15, hI, h⟩
  try dsimp only at hI h
  rw [m_ref12_Slice_j1] at h
  refine c_sub (e := [(1, vi axis1), (2, vi from1), (3, vi to1), (4, vp b1 0), (8, vp b2 0), (11, vp b3 0)]) ⟨rfl, rfl, rfl, rfl, rfl, rfl, trivial⟩ ?_
  refine c_seq (sr (sac ?_))
  refine nk (c_block (c_loop (α := Nat × Int × GTensor × (Option Addr) × Nat × (Option Addr) × Nat) (fun x => fun w => ∃ C, Bun noM F w0 C w [MO.row (cInt .i64) 3 (x.2.2.2.1) (x.2.2.2.2.1) (x.2.2.1).Dims, MO.row cGVal 68 (x.2.2.2.2.2.1) (x.2.2.2.2.2.2) (x.2.2.1).Vals, MO.box b2 41 ZTensor, MO.box b3 41 (ATensor (x.2.2.1) (x.2.2.2.1) (x.2.2.2.2.1) (x.2.2.2.2.2.1) (x.2.2.2.2.2.2))] [Cl.blk b1 41 (ATensor t1 a1 c1 a2 c2), Cl.sl (cInt .i64) a1 c1 t1.Dims, Cl.sl cGVal a2 c2 t1.Vals] ∧ m_ref12_Slice_l1 t1 axis1 from1 to1 (x.1) (x.2.1) (x.2.2.1) = some r) (fun x _ => x.1) (fun x => [(1, vi axis1), (2, vi from1), (3, vi to1), (4, vp b1 0), (8, vp b2 0), (11, vp b3 0), (13, vi (x.2.1))]) (fu, 0, out1, a5, c13, a6, c14) ⟨_, hI.arr (.c .z (.c .z (.c .z (.c .z .n)))) ⟨.z, (.s .z), (.s (.s .z)), trivial⟩, h⟩ ⟨rfl, rfl, rfl, rfl, rfl, rfl, rfl, trivial⟩ ?_))
  clear h hI; rintro ⟨fuel1, i1, out2, a7, c16, a8, c17⟩ w10 ⟨c18, hI, h⟩
  dsimp only at hI h
  rcases fuel1 with _ | fuel1
  ·rw [m_ref12_Slice_l1] at h; cases h
  rw [m_ref12_Slice_l1] at h
  refine c_sub (e := [(1, vi axis1), (2, vi from1), (3, vi to1), (4, vp b1 0), (8, vp b2 0), (11, vp b3 0), (13, vi i1)]) ⟨rfl, rfl, rfl, rfl, rfl, rfl, rfl, trivial⟩ ?_
  refine c_seq (sr (sm ?_))
  refine sq (y_fieldAddr rfl et u41 rfl size_39 rfl) ?_
  refine sq (y_load1 (v := (vs a2 t1.Vals.length c2)) rfl et u39 rfl (hI.kblk (l := [vs a2 t1.Vals.length c2]) .z rfl).1) ?_
  refine sq (y_lenl rfl u39 et) ?_
  refine sq (y_lss rfl et et) ?_
  refine nk (cif h et (fun hb h => ?_) (fun hb h => ?_))
  ·refine c_skip (k_same (c_join (α := GTensor × (Option Addr) × Nat × (Option Addr) × Nat) (fun _ => ⟨115, []⟩) (fun x => [(1, vi axis1), (2, vi from1), (3, vi to1), (4, vp b1 0), (8, vp b2 0), (11, vp b3 0), (13, vi i1)]) (fun x => fun w => ∃ C, Bun noM F w0 C w [MO.row (cInt .i64) 3 (x.2.1) (x.2.2.1) (x.1).Dims, MO.row cGVal 68 (x.2.2.2.1) (x.2.2.2.2) (x.1).Vals, MO.box b2 41 ZTensor, MO.box b3 41 (ATensor (x.1) (x.2.1) (x.2.2.1) (x.2.2.2.1) (x.2.2.2.2))] [Cl.blk b1 41 (ATensor t1 a1 c1 a2 c2), Cl.sl (cInt .i64) a1 c1 t1.Dims, Cl.sl cGVal a2 c2 t1.Vals] ∧ m_ref12_Slice_j2 (m_ref12_Slice_l1 t1 axis1 from1 to1 fuel1) i1 (x.1) = some r) ?_ ?_))
   ·clear h hI; rintro ⟨out3, a9, c19, a10, c20⟩ w11 ⟨c21, hI, h⟩
    try dsimp only at hI h
    rw [m_ref12_Slice_j2] at h
    refine c_sub (e := [(1, vi axis1), (2, vi from1), (3, vi to1), (4, vp b1 0), (8, vp b2 0), (11, vp b3 0), (13, vi i1)]) ⟨rfl, rfl, rfl, rfl, rfl, rfl, rfl, trivial⟩ ?_
    refine c_region rfl ?_
    refine sm ?_
    refine sq (y_add rfl et ev_const) ?_
    refine sa ?_
    refine s_nil ?_
    exact k_loop (fuel1, wi64 (i1 + 1), out3, a9, c19, a10, c20) ⟨rfl, rfl, rfl, rfl, rfl, rfl, rfl, trivial⟩ ⟨_, hI.arr (.c .z (.c .z (.c .z (.c .z .n)))) ⟨.z, (.s .z), (.s (.s .z)), trivial⟩, h⟩ (Nat.lt_succ_self _)
   refine c_block (sr (sq (y_fieldAddr rfl et u41 rfl size_22 rfl) ?_))
   refine sq (y_load1 (v := (vs a1 t1.Dims.length c1)) rfl et u22 rfl (hI.kblk (l := [vs a1 t1.Dims.length c1]) .z rfl).1) ?_
   refine sm ?_
   obtain ⟨r2, hx4, h⟩ := bnd_some h
   refine s_call gn rfl (r_callF (vs := [vs a1 t1.Dims.length c1, vi i1]) rfl ok_67 ⟨et, ⟨et, trivial⟩⟩) (Calls.mono (c_ref12_Point (Dj F c18) w10 hI.lt t1.Dims i1 a1 c1 ⟨(hI.get (.s .z)), trivial⟩ r2 hx4) ?_)
   rintro _ w12 ⟨a11, c22, rfl, hx5, hl2⟩
   refine ⟨_, rfl, ?_⟩
   replace hI := (hI.ext hx5).adds hl2
   refine sa ?_
   refine nk (sr (sm ?_))
   refine sm ?_
   obtain ⟨e2, hx6, h⟩ := bnd_some h
   obtain ⟨ad2, cs2, hA2, hr2, hq3⟩ := hI.clat .z hx6
   obtain rfl : cs2 = [vi e2] := hr2
   refine sq (y_indexAddr rfl u22 size_3 et et (lat_bd hx6) hA2) ?_
   refine sq (y_load1 (v := (vi e2)) rfl et u3 rfl hq3.1) ?_
   refine sm ?_
   refine sq (y_geq rfl et et) ?_
   refine sm ?_
   refine s_gval (g_true rfl rfl rfl rfl) rfl (fun hc => y_move rfl et) ?_
   refine s_gval (g_true rfl rfl rfl rfl) rfl (fun hc => y_move rfl et) ?_
   obtain ⟨e3, hx7, h⟩ := bnd_some h
   replace hx7 := gd_some hx7
   obtain ⟨ad3, cs3, hq4⟩ := hI.gclat .z hx7
   have hq5 : (decide (from1 ≤ e2)) = true → CA (Dj F c18) w12 (ad3.add (Int.toNat axis1 * 1)) [vi e3] := fun hc => by have k := hq4 hc; have e : cs3 = _ := k.2.1; rw [← e]; exact k.2.2
   refine s_gval (g_true rfl rfl rfl rfl) rfl (fun hc => (y_indexAddr rfl u22 size_3 (ev_gv et hc) (ev_gv et hc) (lat_bd (hx7 hc)) (hq4 hc).1)) ?_
   refine s_gval (g_true rfl rfl rfl rfl) rfl (fun hc => (y_load1 (v := (vi e3)) rfl (ev_gv et hc) u3 rfl (hq5 hc).1)) ?_
   refine s_gval (g_true rfl rfl rfl rfl) rfl (fun hc => y_move rfl et) ?_
   refine s_gval (g_true rfl rfl rfl rfl) rfl (fun hc => y_lss rfl (ev_gv et hc) (ev_gv et hc)) ?_
   refine sq (y_and rfl et et) ?_
   refine nk (cif h et (fun hb h => ?_) (fun hb h => ?_))
   ·refine c_drawX [8, 10] false (.c (0, .q) (.c (1, .q) (.c (2, .q) (.c (3, .q) (.c (4, .q) (.c (5, .q) (.c (6, .q) (.c (7, .s) (.c (8, .s) (.c (9, .q) (.c (10, .s) .n))))))))))) hI (by kernel_rfl) (by kernel_rfl) ?_
    clear hI; intro w13 hI
    refine a_q rfl gn rfl (fun w' => y_fieldAddr rfl et u41 rfl size_39 rfl) ?_
    refine a_read rfl gn rfl (fun w' hw' => (y_load1 (v := (vs a8 out2.Vals.length c17)) rfl et u39 rfl ((CA.blk (hI.blk (.s (.s (.s .z)))) rfl).at_ (SX.any rfl hw')))) (by kernel_rfl) ?_
    refine a_q rfl gn rfl (fun w' => y_fieldAddr rfl et u41 rfl size_39 rfl) ?_
    refine a_read rfl gn rfl (fun w' hw' => (y_load1 (v := (vs a2 t1.Vals.length c2)) rfl et u39 rfl ((hI.kblk (l := [vs a2 t1.Vals.length c2]) (.s .z) rfl).at_ (SX.any rfl hw')))) (by kernel_rfl) ?_
    refine a_q rfl gn rfl (fun w' => y_move rfl et) ?_
    obtain ⟨e4, hx8, h⟩ := bnd_some h
    obtain ⟨ad4, cs4, hA4, hr4, hq6⟩ := hI.clat (.s (.s (.s .z))) hx8
    obtain rfl : cs4 = (lVal e4) := hr4
    refine a_q rfl gn rfl (fun w' => y_indexAddr rfl u39 size_68 et et (lat_bd hx8) hA4) ?_
    refine a_read rfl gn rfl (fun w' hw' => (y_loadN (l := (lVal e4)) rfl et u68 rfl size_68 (hq6.at_ (SX.any rfl hw')))) (by kernel_rfl) ?_
    refine la_lit (c := cGVal) (xs := ([e4] : List GVal)) (vs := [(0, (Value.agg (AVal e4)))]) (cs := (AVal e4)) (css := [(lVal e4)]) hI rfl gn rfl rfl u39 info_68 rfl ⟨rfl, et, trivial⟩ (by kernel_rfl) ⟨rfl, trivial⟩ rfl rfl rfl ?_
    clear hI; intro b4 c23 w14 hI
    refine a_turn (F := F) (C := c23) rfl rfl ?_
    obtain ⟨zs1, hx9, h⟩ := bnd_some h
    refine la_append (xs := out2.Vals) (ys := ([e4] : List GVal)) hI (.s (.s .z)) (hI.rd .z) hx9 rfl gn rfl rfl u39 info_68 rfl rfl et et ?_
    clear hI; intro a12 c24 c25 w15 hI
    refine a_q rfl gn rfl (fun w' => y_fieldAddr rfl et u41 rfl size_39 rfl) ?_
    refine la_store (new := [vs a12 zs1.length c24]) (cs' := #[vi out2.Type_.Kind, vi out2.Type_.Bits, vi out2.Type_.Frac, vi out2.Type_.Round, vi out2.Type_.Over, vs a7 out2.Dims.length c16, vs a12 zs1.length c24]) hI (.s (.s (.s (.s .z)))) rfl gn rfl rfl et et rfl size_39 rfl rfl rfl ?_
    clear hI; intro c26 w16 hI
    refine a_nil ?_
    exact k_join ((⟨out2.Type_, out2.Dims, zs1⟩ : GTensor), a7, c16, a12, c24) ⟨rfl, rfl, rfl, rfl, rfl, rfl, rfl, trivial⟩ ⟨_, hI.arr (.c (.s .z) (.c (.s .z) (.c (.s .z) (.c (.s .z) .n)))) ⟨(.s .z), (.s (.s .z)), (.s (.s (.s .z))), trivial⟩, h⟩ rfl
   exact c_skip (k_join (out2, a7, c16, a8, c17) ⟨rfl, rfl, rfl, rfl, rfl, rfl, rfl, trivial⟩ ⟨_, hI.arr (.c .z (.c .z (.c .z (.c .z .n)))) ⟨(.s .z), (.s (.s .z)), (.s (.s (.s .z))), trivial⟩, h⟩ rfl)
  refine c_exit ?_
  refine k_in ?_
  refine k_same (sr (sq (y_loadN (l := (lTensor out2 a7 c16 a8 c17)) rfl et u41 rfl size_41 (CellsAt.of_blk (hI.blk (.s (.s (.s .z)))) rfl)) ?_))
  refine l_store (new := (lTensor out2 a7 c16 a8 c17)) (cs' := (ATensor out2 a7 c16 a8 c17)) hI (.s (.s .z)) gn rfl rfl et et rfl size_41 rfl rfl rfl ?_
  clear hI; intro c27 w17 hI
  refine sac ?_
  refine nk (c_ret ?_)
  obtain ⟨c28, hI⟩ := hI.release .z
  obtain ⟨c29, hI⟩ := hI.release .z
  obtain rfl := some_inj h
  exact q_ret (vs := [(Value.agg (ATensor out2 a7 c16 a8 c17)), vi 0]) Tryz.results42 ⟨⟨_, ev_tmp rfl rfl, load_agg (l := (lTensor out2 a7 c16 a8 c17)) u41 rfl size_41 (CellsAt.of_blk (hI.blk .z) rfl)⟩, ⟨ev_tmp rfl rfl, trivial⟩⟩ ⟨a7, c16, a8, c17, rfl, hI.ext0, hI.fin ⟨(.s .z), .z, trivial⟩⟩
 refine sr (sac ?_)
 refine nk (c_block ?_)
 have hI := hI.nil (cInt .i64) 3 none
 have hI := hI.nil cGVal 68 none
 refine c_loop (α := Nat × Int × GTensor × (Option Addr) × Nat × (Option Addr) × Nat) (fun x => fun w => ∃ C, Bun noM F w0 C w [MO.row (cInt .i64) 3 (x.2.2.2.1) (x.2.2.2.2.1) (x.2.2.1).Dims, MO.row cGVal 68 (x.2.2.2.2.2.1) (x.2.2.2.2.2.2) (x.2.2.1).Vals, MO.box b2 41 ZTensor, MO.box b3 41 (ATensor (x.2.2.1) (x.2.2.2.1) (x.2.2.2.2.1) (x.2.2.2.2.2.1) (x.2.2.2.2.2.2))] [Cl.blk b1 41 (ATensor t1 a1 c1 a2 c2), Cl.sl (cInt .i64) a1 c1 t1.Dims, Cl.sl cGVal a2 c2 t1.Vals] ∧ m_ref12_Slice_l2 t1 axis1 to1 from1 (x.1) (x.2.1) (x.2.2.1) = some r) (fun x _ => x.1) (fun x => [(1, vi axis1), (2, vi from1), (3, vi to1), (4, vp b1 0), (8, vp b2 0), (11, vp b3 0), (12, vi (x.2.1))]) (fu, 0, (⟨t1.Type_, ([] : List Int), ([] : List GVal)⟩ : GTensor), none, 0, none, 0) ⟨_, hI.arr (.c (.s .z) (.c .z (.c (.s .z) (.c .z .n)))) ⟨.z, (.s .z), (.s (.s .z)), trivial⟩, h⟩ ⟨rfl, rfl, rfl, rfl, rfl, rfl, rfl, trivial⟩ ?_
 clear h hI; rintro ⟨fuel2, i2, out4, a13, c30, a14, c31⟩ w18 ⟨c32, hI, h⟩
 dsimp only at hI h
 rcases fuel2 with _ | fuel2
 ·rw [m_ref12_Slice_l2] at h; cases h
 rw [m_ref12_Slice_l2] at h
 refine c_sub (e := [(1, vi axis1), (2, vi from1), (3, vi to1), (4, vp b1 0), (8, vp b2 0), (11, vp b3 0), (12, vi i2)]) ⟨rfl, rfl, rfl, rfl, rfl, rfl, rfl, trivial⟩ ?_
 refine c_seq (sr (sm ?_))
 refine sq (y_fieldAddr rfl et u41 rfl size_22 rfl) ?_
 refine sq (y_load1 (v := (vs a1 t1.Dims.length c1)) rfl et u22 rfl (hI.kblk (l := [vs a1 t1.Dims.length c1]) .z rfl).1) ?_
 refine sq (y_lenl rfl u22 et) ?_
 refine sq (y_lss rfl et et) ?_
 refine nk (cif h et (fun hb h => ?_) (fun hb h => ?_))
 ·refine c_skip (k_same (c_join (α := GTensor × (Option Addr) × Nat × (Option Addr) × Nat) (fun _ => ⟨115, []⟩) (fun x => [(1, vi axis1), (2, vi from1), (3, vi to1), (4, vp b1 0), (8, vp b2 0), (11, vp b3 0), (12, vi i2)]) (fun x => fun w => ∃ C, Bun noM F w0 C w [MO.row (cInt .i64) 3 (x.2.1) (x.2.2.1) (x.1).Dims, MO.row cGVal 68 (x.2.2.2.1) (x.2.2.2.2) (x.1).Vals, MO.box b2 41 ZTensor, MO.box b3 41 (ATensor (x.1) (x.2.1) (x.2.2.1) (x.2.2.2.1) (x.2.2.2.2))] [Cl.blk b1 41 (ATensor t1 a1 c1 a2 c2), Cl.sl (cInt .i64) a1 c1 t1.Dims, Cl.sl cGVal a2 c2 t1.Vals] ∧ m_ref12_Slice_j3 (m_ref12_Slice_l2 t1 axis1 to1 from1 fuel2) i2 (x.1) = some r) ?_ ?_))
  ·clear h hI; rintro ⟨out5, a15, c33, a16, c34⟩ w19 ⟨c35, hI, h⟩
   try dsimp only at hI h
   rw [m_ref12_Slice_j3] at h
   refine c_sub (e := [(1, vi axis1), (2, vi from1), (3, vi to1), (4, vp b1 0), (8, vp b2 0), (11, vp b3 0), (12, vi i2)]) ⟨rfl, rfl, rfl, rfl, rfl, rfl, rfl, trivial⟩ ?_
   refine c_region rfl ?_
   refine sm ?_
   refine sq (y_add rfl et ev_const) ?_
   refine sa ?_
   refine s_nil ?_
   exact k_loop (fuel2, wi64 (i2 + 1), out5, a15, c33, a16, c34) ⟨rfl, rfl, rfl, rfl, rfl, rfl, rfl, trivial⟩ ⟨_, hI.arr (.c .z (.c .z (.c .z (.c .z .n)))) ⟨.z, (.s .z), (.s (.s .z)), trivial⟩, h⟩ (Nat.lt_succ_self _)
  refine c_block (sr (sm ?_))
  refine sm ?_
  refine sq (y_eql rfl et et) ?_
  refine nk (cif h et (fun hb h => ?_) (fun hb h => ?_))
  ·refine c_region rfl ?_
   refine sq (y_fieldAddr rfl et u41 rfl size_22 rfl) ?_
   refine sq (y_load1 (v := (vs a13 out4.Dims.length c30)) rfl et u22 rfl (CellsAt.of_blk (hI.blk (.s (.s (.s .z)))) rfl)) ?_
   refine sm ?_
   refine sm ?_
   refine sq (y_sub rfl et et) ?_
   refine l_lit (c := (cInt .i64)) (xs := ([wi64 (to1 - from1)] : List Int)) (vs := [(0, (vi (wi64 (to1 - from1))))]) (cs := #[(vi (wi64 (to1 - from1)))]) (css := [[(vi (wi64 (to1 - from1)))]]) hI gn rfl rfl u22 info_3 rfl ⟨rfl, et, trivial⟩ (by kernel_rfl) ⟨rfl, trivial⟩ rfl rfl rfl ?_
   clear hI; intro b5 c36 w20 hI
   obtain ⟨zs2, hx10, h⟩ := bnd_some h
   refine l_append (xs := out4.Dims) (ys := ([wi64 (to1 - from1)] : List Int)) hI (.s .z) (hI.rd .z) hx10 gn rfl rfl u22 info_3 rfl rfl et et ?_
   clear hI; intro a17 c37 c38 w21 hI
   refine sq (y_fieldAddr rfl et u41 rfl size_22 rfl) ?_
   refine l_store (new := [vs a17 zs2.length c37]) (cs' := #[vi out4.Type_.Kind, vi out4.Type_.Bits, vi out4.Type_.Frac, vi out4.Type_.Round, vi out4.Type_.Over, vs a17 zs2.length c37, vs a14 out4.Vals.length c31]) hI (.s (.s (.s (.s .z)))) gn rfl rfl et et rfl size_22 rfl rfl rfl ?_
   clear hI; intro c39 w22 hI
   refine s_nil ?_
   exact k_join ((⟨out4.Type_, zs2, out4.Vals⟩ : GTensor), a17, c37, a14, c31) ⟨rfl, rfl, rfl, rfl, rfl, rfl, rfl, trivial⟩ ⟨_, hI.arr (.c (.s .z) (.c (.s .z) (.c (.s .z) (.c (.s .z) .n)))) ⟨.z, (.s .z), (.s (.s .z)), trivial⟩, h⟩ rfl
  refine c_drawX [8, 10] false (.c (0, .q) (.c (1, .q) (.c (2, .q) (.c (3, .q) (.c (4, .q) (.c (5, .q) (.c (6, .q) (.c (7, .s) (.c (8, .s) (.c (9, .q) (.c (10, .s) .n))))))))))) hI (by kernel_rfl) (by kernel_rfl) ?_
  clear hI; intro w23 hI
  refine a_q rfl gn rfl (fun w' => y_fieldAddr rfl et u41 rfl size_22 rfl) ?_
  refine a_read rfl gn rfl (fun w' hw' => (y_load1 (v := (vs a13 out4.Dims.length c30)) rfl et u22 rfl ((CA.blk (hI.blk (.s (.s (.s .z)))) rfl).at_ (SX.any rfl hw')))) (by kernel_rfl) ?_
  refine a_q rfl gn rfl (fun w' => y_fieldAddr rfl et u41 rfl size_22 rfl) ?_
  refine a_read rfl gn rfl (fun w' hw' => (y_load1 (v := (vs a1 t1.Dims.length c1)) rfl et u22 rfl ((hI.kblk (l := [vs a1 t1.Dims.length c1]) .z rfl).at_ (SX.any rfl hw')))) (by kernel_rfl) ?_
  refine a_q rfl gn rfl (fun w' => y_move rfl et) ?_
  obtain ⟨e5, hx11, h⟩ := bnd_some h
  obtain ⟨ad5, cs5, hA5, hr5, hq7⟩ := hI.clat (.s .z) hx11
  obtain rfl : cs5 = [vi e5] := hr5
  refine a_q rfl gn rfl (fun w' => y_indexAddr rfl u22 size_3 et et (lat_bd hx11) hA5) ?_
  refine a_read rfl gn rfl (fun w' hw' => (y_load1 (v := (vi e5)) rfl et u3 rfl (hq7.at_ (SX.any rfl hw')))) (by kernel_rfl) ?_
  refine la_lit (c := (cInt .i64)) (xs := ([e5] : List Int)) (vs := [(0, vi e5)]) (cs := #[vi e5]) (css := [[vi e5]]) hI rfl gn rfl rfl u22 info_3 rfl ⟨rfl, et, trivial⟩ (by kernel_rfl) ⟨rfl, trivial⟩ rfl rfl rfl ?_
  clear hI; intro b6 c40 w24 hI
  refine a_turn (F := F) (C := c40) rfl rfl ?_
  obtain ⟨zs3, hx12, h⟩ := bnd_some h
  refine la_append (xs := out4.Dims) (ys := ([e5] : List Int)) hI (.s .z) (hI.rd .z) hx12 rfl gn rfl rfl u22 info_3 rfl rfl et et ?_
  clear hI; intro a18 c41 c42 w25 hI
  refine a_q rfl gn rfl (fun w' => y_fieldAddr rfl et u41 rfl size_22 rfl) ?_
  refine la_store (new := [vs a18 zs3.length c41]) (cs' := #[vi out4.Type_.Kind, vi out4.Type_.Bits, vi out4.Type_.Frac, vi out4.Type_.Round, vi out4.Type_.Over, vs a18 zs3.length c41, vs a14 out4.Vals.length c31]) hI (.s (.s (.s (.s .z)))) rfl gn rfl rfl et et rfl size_22 rfl rfl rfl ?_
  clear hI; intro c43 w26 hI
  refine a_nil ?_
  exact k_join ((⟨out4.Type_, zs3, out4.Vals⟩ : GTensor), a18, c41, a14, c31) ⟨rfl, rfl, rfl, rfl, rfl, rfl, rfl, trivial⟩ ⟨_, hI.arr (.c (.s .z) (.c (.s .z) (.c (.s .z) (.c (.s .z) .n)))) ⟨.z, (.s .z), (.s (.s .z)), trivial⟩, h⟩ rfl
 refine c_exit ?_
 refine k_in ?_
 exact k_join (out4, a13, c30, a14, c31) ⟨rfl, rfl, rfl, rfl, rfl, rfl, trivial⟩ ⟨_, hI.arr (.c .z (.c .z (.c .z (.c .z .n)))) ⟨.z, (.s .z), (.s (.s .z)), trivial⟩, h⟩ rfl
theorem c_collective_AllToAll (F : NP) (w0 : World) (hF : ∀ k, F k → k < w0.heap.size) (m1 : GMesh) (l1 : List GTensor) (axis1 : Int) (from1 : Int) (to1 : Int) (a1 : Option Addr) (c1 : Nat) (a2 : Option Addr) (c2 : Nat) (hc : AllCl [Cl.sl (cInt .i64) a1 c1 m1.Dims, Cl.sl cGTensor a2 c2 l1] F w0) (r : List GTensor × Int)
  (h : m_collective_AllToAll m1 l1 axis1 from1 to1 = some r) :
  Calls Tryz.prog 22 #[(Value.agg #[vs a1 m1.Dims.length c1]), vs a2 l1.length c2, vi axis1, vi from1, vi to1] w0 fun e w => ∃ (a3 : Option Addr) (c3 : Nat), e = .returned (Value.tuple #[vs a3 r.1.length c3, vi r.2]) ∧ Ext w0 w ∧ AllCl [Cl.sl cGTensor a3 c3 r.1] F w := by
 refine enterK Tryz.func22 rfl Tryz.ntmps22 rfl ?_
 have hI := Bun.start hF hc
 clear hc
 rw [m_collective_AllToAll] at h
 refine sr (l_box (v := (Value.agg #[vs a1 m1.Dims.length c1])) (cs := #[vs a1 m1.Dims.length c1]) hI gn rfl rfl et rfl ?_)
 clear hI; intro b1 c4 w1 hI
 obtain ⟨c5, hI⟩ := hI.relBox .z
 refine sac ?_
 refine sac ?_
 refine nk (sr (sq (y_loadN (l := [vs a1 m1.Dims.length c1]) rfl et u24 rfl size_24 (hI.kblk (l := [vs a1 m1.Dims.length c1]) .z rfl).1) ?_))
 refine sm ?_
 refine sm ?_
 refine sm ?_
 obtain ⟨r1, hx1, h⟩ := bnd_some h
 refine s_call gn rfl (r_callF (vs := [(Value.agg #[vs a1 m1.Dims.length c1]), vs a2 l1.length c2, vi axis1, vi from1]) rfl ok_11 ⟨et, ⟨et, ⟨et, ⟨et, trivial⟩⟩⟩⟩) (Calls.mono (c_collective_AllGather (Dj F c5) w1 hI.lt m1 l1 axis1 from1 a1 c1 a2 c2 ⟨(hI.get (.s .z)), (hI.get (.s (.s .z))), trivial⟩ r1 hx1) ?_)
 rintro _ w2 ⟨a4, c6, rfl, hx2, hl1⟩
 refine ⟨_, rfl, ?_⟩
 replace hI := (hI.ext hx2).adds hl1
 refine sm ?_
 refine sq (y_extract rfl et rfl) ?_
 refine sq (y_extract rfl et rfl) ?_
 refine sa ?_
 refine sa ?_
 refine nk (c_seq (sr (sm ?_)))
 refine sq (y_neq rfl et ev_const) ?_
 refine nk (cif h et (fun hb h => ?_) (fun hb h => ?_))
 ·refine sr (sm ?_)
  refine sac ?_
  refine sa ?_
  refine nk (c_ret ?_)
  have hI := hI.add (c := Cl.sl cGTensor none 0 ([] : List GTensor)) SlC.nil
  obtain rfl := some_inj h
  exact q_ret (vs := [vs none 0 0, vi r1.2]) Tryz.results22 ⟨ev_tmp rfl rfl, ⟨ev_tmp rfl rfl, trivial⟩⟩ ⟨none, 0, rfl, hI.ext0, hI.fin ⟨.z, trivial⟩⟩
 refine c_skip (k_same (sr (sq (y_loadN (l := [vs a1 m1.Dims.length c1]) rfl et u24 rfl size_24 (hI.kblk (l := [vs a1 m1.Dims.length c1]) (.s .z) rfl).1) ?_)))
 refine sm ?_
 refine sm ?_
 refine sm ?_
 obtain ⟨r2, hx3, h⟩ := bnd_some h
 refine s_call gn rfl (r_callF (vs := [(Value.agg #[vs a1 m1.Dims.length c1]), vs a4 r1.1.length c6, vi axis1, vi to1]) rfl ok_13 ⟨et, ⟨et, ⟨et, ⟨et, trivial⟩⟩⟩⟩) (Calls.mono (c_collective_SliceLocal (Dj F c5) w2 hI.lt m1 r1.1 axis1 to1 a1 c1 a4 c6 ⟨(hI.get (.s (.s .z))), (hI.get .z), trivial⟩ r2 hx3) ?_)
 rintro _ w3 ⟨a5, c7, rfl, hx4, hl2⟩
 refine ⟨_, rfl, ?_⟩
 replace hI := (hI.ext hx4).adds hl2
 refine sq (y_extract rfl et rfl) ?_
 refine sq (y_extract rfl et rfl) ?_
 refine sa ?_
 refine sa ?_
 refine s_nil ?_
 refine k_next (e := [(10, vs a5 r2.1.length c7), (11, vi r2.2)]) ⟨rfl, rfl, trivial⟩ ?_
 refine c_ret ?_
 obtain rfl := some_inj h
 exact q_ret (vs := [vs a5 r2.1.length c7, vi r2.2]) Tryz.results22 ⟨ev_tmp rfl rfl, ⟨ev_tmp rfl rfl, trivial⟩⟩ ⟨a5, c7, rfl, hI.ext0, hI.fin ⟨.z, trivial⟩⟩
theorem c_collective_checkSpec (F : NP) (w0 : World) (hF : ∀ k, F k → k < w0.heap.size) (m1 : GMesh) (rank1 : Int) (s1 : List Int) (a1 : Option Addr) (c1 : Nat) (a2 : Option Addr) (c2 : Nat) (hc : AllCl [Cl.sl (cInt .i64) a1 c1 m1.Dims, Cl.sl (cInt .i64) a2 c2 s1] F w0) (r : Bool)
  (h : m_collective_checkSpec m1 rank1 s1 = some r) :
  Calls Tryz.prog 81 #[(Value.agg #[vs a1 m1.Dims.length c1]), vi rank1, vs a2 s1.length c2] w0 fun e w => e = .returned (vb r) ∧ Ext w0 w ∧ AllCl [] F w := by
 refine enterK Tryz.func81 rfl Tryz.ntmps81 rfl ?_
 have hI := Bun.start hF hc
 clear hc
 rw [m_collective_checkSpec] at h
 refine sr (l_box (v := (Value.agg #[vs a1 m1.Dims.length c1])) (cs := #[vs a1 m1.Dims.length c1]) hI gn rfl rfl et rfl ?_)
 clear hI; intro b1 c3 w1 hI
 obtain ⟨c4, hI⟩ := hI.relBox .z
 refine sac ?_
 refine nk (c_seq (sr (sm ?_)))
 refine sq (y_lenl rfl u42 et) ?_
 refine sm ?_
 refine sq (y_neq rfl et et) ?_
 refine sm ?_
 refine s_gval (g_false rfl rfl rfl rfl) rfl (fun hc => y_move rfl et) ?_
 obtain ⟨r1, hx1, h⟩ := bnd_some h
 replace hx1 := gd_some hx1
 refine s_gcallU (v := (vb r1)) (g_false rfl rfl rfl rfl) rfl (fun hc => (r_callF (vs := [vs a2 s1.length c2]) rfl ok_61 ⟨(ev_gv et hc), trivial⟩)) (fun hc => (c_collective_plain (Dj F c4) w1 hI.lt s1 a2 c2 ⟨(hI.get (.s (.s .z))), trivial⟩ r1 (hx1 hc)).mono fun _ _ k => ⟨k.1, k.2.1⟩) ?_
 intro w2 hx2; replace hI := hI.ext hx2
 refine s_gval (g_false rfl rfl rfl rfl) rfl (fun hc => y_not rfl (ev_gv et hc)) ?_
 refine sq (y_or rfl et et) ?_
 refine nk (cif h et (fun hb h => ?_) (fun hb h => ?_))
 ·refine sr (sac ?_)
  refine nk (c_ret ?_)
  obtain rfl := some_inj h
  exact q_ret (vs := [vb false]) Tryz.results81 ⟨ev_tmp rfl rfl, trivial⟩ (fq hI trivial)
 refine c_skip (k_same (c_seq (sr (sm ?_))))
 refine sq (y_lenl rfl u42 et) ?_
 refine sq (y_move rfl ev_const) ?_
 refine nk (c_block (c_loop (α := Nat × Int) (fun x => fun w => ∃ C, Bun noM F w0 C w [] [Cl.blk b1 24 #[vs a1 m1.Dims.length c1], Cl.sl (cInt .i64) a1 c1 m1.Dims, Cl.sl (cInt .i64) a2 c2 s1] ∧ m_collective_checkSpec_l1 s1 m1 (x.1) (x.2) = some r) (fun x _ => x.1) (fun x => [(3, vp b1 0), (18, vs a2 s1.length c2), (19, vi (s1.length : Int)), (20, vi (x.2))]) (fu, 0) ⟨_, hI.arr .n ⟨.z, (.s .z), (.s (.s .z)), trivial⟩, h⟩ ⟨rfl, rfl, rfl, rfl, trivial⟩ ?_))
 clear h hI; rintro ⟨fuel1, i1⟩ w3 ⟨c5, hI, h⟩
 dsimp only at hI h
 rcases fuel1 with _ | fuel1
 ·rw [m_collective_checkSpec_l1] at h; cases h
 rw [m_collective_checkSpec_l1] at h
 refine c_sub (e := [(3, vp b1 0), (18, vs a2 s1.length c2), (19, vi (s1.length : Int)), (20, vi i1)]) ⟨rfl, rfl, rfl, rfl, trivial⟩ ?_
 refine sr (sq (y_lss rfl et et) ?_)
 refine nk (c_seq (cif h et (fun hb h => ?_) (fun hb h => ?_)))
 ·refine c_skip (k_same (c_seq (c_block (sr ?_))))
  obtain ⟨e1, hx3, h⟩ := bnd_some h
  obtain ⟨ad1, cs1, hA1, hr1, hq1⟩ := hI.clat (.s (.s .z)) hx3
  obtain rfl : cs1 = [vi e1] := hr1
  refine sq (y_indexAddr rfl u42 size_3 et et (lat_bd hx3) hA1) ?_
  refine sq (y_load1 (v := (vi e1)) rfl et u3 rfl hq1.1) ?_
  refine sa ?_
  refine nk (sr (sm ?_))
  refine sq (y_fieldAddr rfl et u24 rfl size_22 rfl) ?_
  refine sq (y_load1 (v := (vs a1 m1.Dims.length c1)) rfl et u22 rfl (hI.kblk (l := [vs a1 m1.Dims.length c1]) .z rfl).1) ?_
  refine sq (y_lenl rfl u22 et) ?_
  refine sq (y_geq rfl et et) ?_
  refine nk (cif h et (fun hb h => ?_) (fun hb h => ?_))
  ·refine sr (sac ?_)
   refine nk (c_ret ?_)
   obtain rfl := some_inj h
   exact q_ret (vs := [vb false]) Tryz.results81 ⟨ev_tmp rfl rfl, trivial⟩ (fq hI trivial)
  refine c_skip (k_same (c_region rfl ?_))
  refine sq (y_add rfl et ev_const) ?_
  refine sm ?_
  refine s_nil ?_
  exact k_loop (fuel1, wi64 (i1 + 1)) ⟨rfl, rfl, rfl, rfl, trivial⟩ ⟨_, hI.arr .n ⟨.z, (.s .z), (.s (.s .z)), trivial⟩, h⟩ (Nat.lt_succ_self _)
 refine c_exit ?_
 refine k_in ?_
 refine k_same (sr (sac ?_))
 refine nk (c_ret ?_)
 obtain rfl := some_inj h
 exact q_ret (vs := [vb true]) Tryz.results81 ⟨ev_tmp rfl rfl, trivial⟩ (fq hI trivial)
theorem c_collective_checkReshard (F : NP) (w0 : World) (hF : ∀ k, F k → k < w0.heap.size) (m1 : GMesh) (l1 : List GTensor) (from1 : List Int) (to1 : List Int) (a1 : Option Addr) (c1 : Nat) (a2 : Option Addr) (c2 : Nat) (a3 : Option Addr) (c3 : Nat) (a4 : Option Addr) (c4 : Nat) (hc : AllCl [Cl.sl (cInt .i64) a1 c1 m1.Dims, Cl.sl cGTensor a2 c2 l1, Cl.sl (cInt .i64) a3 c3 from1, Cl.sl (cInt .i64) a4 c4 to1] F w0) (r : Int)
  (h : m_collective_checkReshard m1 l1 from1 to1 = some r) :
  Calls Tryz.prog 52 #[(Value.agg #[vs a1 m1.Dims.length c1]), vs a2 l1.length c2, vs a3 from1.length c3, vs a4 to1.length c4] w0 fun e w => e = .returned (vi r) ∧ Ext w0 w ∧ AllCl [] F w := by
 refine enterK Tryz.func52 rfl Tryz.ntmps52 rfl ?_
 have hI := Bun.start hF hc
 clear hc
 rw [m_collective_checkReshard] at h
 refine sr (l_box (v := (Value.agg #[vs a1 m1.Dims.length c1])) (cs := #[vs a1 m1.Dims.length c1]) hI gn rfl rfl et rfl ?_)
 clear hI; intro b1 c5 w1 hI
 obtain ⟨c6, hI⟩ := hI.relBox .z
 refine sac ?_
 refine nk (c_seq (sr (sq (y_loadN (l := [vs a1 m1.Dims.length c1]) rfl et u24 rfl size_24 (hI.kblk (l := [vs a1 m1.Dims.length c1]) .z rfl).1) ?_)))
 refine sm ?_
 obtain ⟨r1, hx1, h⟩ := bnd_some h
 refine s_call gn rfl (r_callF (vs := [(Value.agg #[vs a1 m1.Dims.length c1]), vs a2 l1.length c2]) rfl ok_43 ⟨et, ⟨et, trivial⟩⟩) (Calls.mono (c_collective_check (Dj F c6) w1 hI.lt m1 l1 a1 c1 a2 c2 ⟨(hI.get (.s .z)), (hI.get (.s (.s .z))), trivial⟩ r1 hx1) ?_)
 rintro _ w2 ⟨rfl, hx2, hl1⟩
 refine ⟨_, rfl, ?_⟩
 replace hI := (hI.ext hx2)
 refine sa ?_
 refine nk (sr (sm ?_))
 refine sq (y_neq rfl et ev_const) ?_
 refine nk (cif h et (fun hb h => ?_) (fun hb h => ?_))
 ·refine sr (sm ?_)
  refine sa ?_
  refine nk (c_ret ?_)
  obtain rfl := some_inj h
  exact q_ret (vs := [vi r1]) Tryz.results52 ⟨ev_tmp rfl rfl, trivial⟩ (fq hI trivial)
 refine c_skip (k_same (c_seq (c_seq (c_drawX [] false (.c (0, .q) (.c (1, .q) (.c (2, .q) (.c (3, .q) (.c (4, .q) (.c (5, .q) (.c (6, .q) (.c (7, .s) (.c (8, .q) (.c (9, .q) (.c (10, .q) (.c (11, .q) (.c (12, .q) (.c (13, .q) (.c (14, .q) (.c (15, .q) (.c (16, .q) (.c (17, .s) (.c (18, .q) (.c (19, .q) .n)))))))))))))))))))) hI (by kernel_rfl) (by kernel_rfl) ?_))))
 clear hI; intro w3 hI
 refine a_read rfl gn rfl (fun w' hw' => (y_loadN (l := [vs a1 m1.Dims.length c1]) rfl et u24 rfl size_24 ((hI.kblk (l := [vs a1 m1.Dims.length c1]) .z rfl).at_ (SX.any rfl hw')))) (by kernel_rfl) ?_
 refine a_q rfl gn rfl (fun w' => y_move rfl et) ?_
 obtain ⟨e1, hx3, h⟩ := bnd_some h
 obtain ⟨ad1, cs1, hA1, hr1, hq1⟩ := hI.clat (.s (.s .z)) hx3
 obtain ⟨a5, c7, a6, c8, rfl, hf1, hf2⟩ := hr1
 have hI := hI.add (c := Cl.sl (cInt .i64) a5 c7 e1.Dims) hf1
 have hI := hI.add (c := Cl.sl cGVal a6 c8 e1.Vals) hf2
 refine a_q rfl gn rfl (fun w' => y_indexAddr rfl u25 size_41 et ev_const (lat_bd hx3) hA1) ?_
 refine a_q rfl gn rfl (fun w' => y_fieldAddr rfl et u41 rfl size_22 rfl) ?_
 refine a_read rfl gn rfl (fun w' hw' => (y_load1 (v := (vs a5 e1.Dims.length c7)) rfl et u22 rfl ((CA.part hq1 rfl).at_ (SX.any rfl hw')))) (by kernel_rfl) ?_
 refine a_q rfl gn rfl (fun w' => y_lenl rfl u22 et) ?_
 refine a_q rfl gn rfl (fun w' => y_move rfl et) ?_
 obtain ⟨r2, hx4, h⟩ := bnd_some h
 refine la_call rfl gn rfl (r_callF (vs := [(Value.agg #[vs a1 m1.Dims.length c1]), vi (e1.Dims.length : Int), vs a3 from1.length c3]) rfl ok_81 ⟨et, ⟨et, ⟨et, trivial⟩⟩⟩) (Calls.mono (c_collective_checkSpec (Dj F c6) w3 hI.lt m1 (e1.Dims.length : Int) from1 a1 c1 a3 c3 ⟨(hI.get (.s (.s (.s .z)))), (hI.get (.s (.s (.s (.s (.s .z)))))), trivial⟩ r2 hx4) ?_)
 rintro _ w4 ⟨rfl, hx5, hl2⟩
 refine ⟨_, rfl, hx5, ?_⟩
 replace hI := (hI.ext hx5)
 refine a_q rfl gn rfl (fun w' => y_not rfl et) ?_
 refine a_q rfl gn rfl (fun w' => y_move rfl et) ?_
 refine a_gread rfl (g_false rfl rfl rfl rfl) rfl (fun hc => fun w' hw' => (y_loadN (l := [vs a1 m1.Dims.length c1]) rfl et u24 rfl size_24 ((hI.kblk (l := [vs a1 m1.Dims.length c1]) (.s (.s .z)) rfl).at_ (SX.any rfl hw')))) (by kernel_rfl) ?_
 refine a_gval rfl (g_false rfl rfl rfl rfl) rfl (fun hc => fun w' => (y_move rfl et)) ?_
 obtain ⟨e2, hx6, h⟩ := bnd_some h
 replace hx6 := gd_some hx6
 obtain ⟨ad2, cs2, hq2⟩ := hI.gclat (.s (.s (.s (.s .z)))) hx6
 obtain ⟨a7, c9, a8, c10, hq3⟩ : ∃ (a7 : Option Addr) (c9 : Nat) (a8 : Option Addr) (c10 : Nat), (!(!r2)) = true → (a2 = some ad2 ∧ cs2 = (lTensor e2 a7 c9 a8 c10) ∧ CA (Dj F c6) w4 (ad2.add (Int.toNat 0 * 7)) cs2 ∧ SlC (cInt .i64) (Dj F c6) w4 a7 c9 e2.Dims ∧ SlC cGVal (Dj F c6) w4 a8 c10 e2.Vals) := by
  by_cases hc : (!(!r2)) = true
  ·obtain ⟨k1, k2, k3⟩ := hq2 hc; obtain ⟨a7, c9, a8, c10, rfl, hf3, hf4⟩ := k2; exact ⟨a7, c9, a8, c10, fun _ => ⟨k1, rfl, k3, hf3, hf4⟩⟩
  exact ⟨default, default, default, default, fun k => absurd k hc⟩
 clear hq2
 have hI := hI.add (c := Cl.gsl (!(!r2)) (cInt .i64) a7 c9 e2.Dims) (fun hc => (hq3 hc).2.2.2.1)
 have hI := hI.add (c := Cl.gsl (!(!r2)) cGVal a8 c10 e2.Vals) (fun hc => (hq3 hc).2.2.2.2)
 have hq4 : (!(!r2)) = true → CA (Dj F c6) w4 (ad2.add (Int.toNat 0 * 7)) (lTensor e2 a7 c9 a8 c10) := fun hc => by have k := hq3 hc; have e : cs2 = _ := k.2.1; rw [← e]; exact k.2.2.1
 refine a_gval rfl (g_false rfl rfl rfl rfl) rfl (fun hc => fun w' => (y_indexAddr rfl u25 size_41 (ev_gv et hc) ev_const (lat_bd (hx6 hc)) (hq3 hc).1)) ?_
 refine a_gval rfl (g_false rfl rfl rfl rfl) rfl (fun hc => fun w' => (y_fieldAddr rfl (ev_gv et hc) u41 rfl size_22 rfl)) ?_
 refine a_gread rfl (g_false rfl rfl rfl rfl) rfl (fun hc => fun w' hw' => (y_load1 (v := (vs a7 e2.Dims.length c9)) rfl (ev_gv et hc) u22 rfl ((CA.part (hq4 hc) rfl).at_ (SX.any rfl hw')))) (by kernel_rfl) ?_
 refine a_gval rfl (g_false rfl rfl rfl rfl) rfl (fun hc => fun w' => (y_lenl rfl u22 (ev_gv et hc))) ?_
 refine a_gval rfl (g_false rfl rfl rfl rfl) rfl (fun hc => fun w' => (y_move rfl et)) ?_
 obtain ⟨r3, hx7, h⟩ := bnd_some h
 replace hx7 := gd_some hx7
 refine la_gcallU (v := (vb r3)) rfl (g_false rfl rfl rfl rfl) rfl (fun hc => (r_callF (vs := [(Value.agg #[vs a1 m1.Dims.length c1]), vi (e2.Dims.length : Int), vs a4 to1.length c4]) rfl ok_81 ⟨(ev_gv et hc), ⟨(ev_gv et hc), ⟨(ev_gv et hc), trivial⟩⟩⟩)) (fun hc => (c_collective_checkSpec (Dj F c6) w4 hI.lt m1 (e2.Dims.length : Int) to1 a1 c1 a4 c4 ⟨(hI.get (.s (.s (.s (.s (.s .z)))))), (hI.get (.s (.s (.s (.s (.s (.s (.s (.s .z))))))))), trivial⟩ r3 (hx7 hc)).mono fun _ _ k => ⟨k.1, k.2.1⟩) ?_
 intro w5 hx8; replace hI := hI.ext hx8
 refine a_gval rfl (g_false rfl rfl rfl rfl) rfl (fun hc => fun w' => (y_not rfl (ev_gv et hc))) ?_
 refine a_q rfl gn rfl (fun w' => y_or rfl et et) ?_
 refine a_nil ?_
 refine k_next (e := [(1, vs a2 l1.length c2), (2, vs a3 from1.length c3), (3, vs a4 to1.length c4), (4, vp b1 0), (41, (vb ((!r2) || (!r3))))]) ⟨rfl, rfl, rfl, rfl, rfl, trivial⟩ ?_
 refine cif h et (fun hb h => ?_) (fun hb h => ?_)
 ·refine sr (sac ?_)
  refine nk (c_ret ?_)
  obtain rfl := some_inj h
  exact q_ret (vs := [vi 24]) Tryz.results52 ⟨ev_tmp rfl rfl, trivial⟩ (fq hI trivial)
 refine c_skip (k_same (sr (sm ?_)))
 obtain ⟨e3, hx9, h⟩ := bnd_some h
 obtain ⟨ad3, cs3, hA3, hr3, hq5⟩ := hI.clat (.s (.s (.s (.s (.s (.s .z)))))) hx9
 obtain ⟨a9, c11, a10, c12, rfl, hf5, hf6⟩ := hr3
 have hI := hI.add (c := Cl.sl (cInt .i64) a9 c11 e3.Dims) hf5
 have hI := hI.add (c := Cl.sl cGVal a10 c12 e3.Vals) hf6
 refine sq (y_indexAddr rfl u25 size_41 et ev_const (lat_bd hx9) hA3) ?_
 refine sq (y_fieldAddr rfl et u41 rfl size_22 rfl) ?_
 refine sq (y_load1 (v := (vs a9 e3.Dims.length c11)) rfl et u22 rfl (CA.part hq5 rfl).1) ?_
 obtain ⟨zs1, hx10, h⟩ := bnd_some h
 replace hI := hI.nil (cInt .i64) 3 none
 refine l_append (xs := ([] : List Int)) (ys := e3.Dims) hI .z (hI.crd (.s .z)) hx10 gn rfl rfl u22 info_3 rfl rfl ev_const et ?_
 clear hI; intro a11 c13 c14 w6 hI
 refine sa ?_
 refine nk (c_join (α := (List Int) × (Option Addr) × Nat) (fun _ => ⟨96, []⟩) (fun x => [(3, vs a4 to1.length c4), (4, vp b1 0), (10, vs (x.2.1) (x.1).length (x.2.2))]) (fun x => fun w => ∃ C, Bun noM F w0 C w [MO.row (cInt .i64) 3 (x.2.1) (x.2.2) (x.1)] [Cl.sl (cInt .i64) a4 c4 to1, Cl.blk b1 24 #[vs a1 m1.Dims.length c1], Cl.sl (cInt .i64) a1 c1 m1.Dims] ∧ m_collective_checkReshard_j1 to1 m1 (x.1) = some r) ?_ ?_)
 ·clear h hI; rintro ⟨whole1, a12, c15⟩ w7 ⟨c16, hI, h⟩
  try dsimp only at hI h
  rw [m_collective_checkReshard_j1] at h
  refine c_sub (e := [(3, vs a4 to1.length c4), (4, vp b1 0), (10, vs a12 whole1.length c15)]) ⟨rfl, rfl, rfl, trivial⟩ ?_
  refine c_seq (sr (sm ?_))
  obtain ⟨r4, hx11, h⟩ := bnd_some h
  refine s_call gn rfl (r_callF (vs := [vs a12 whole1.length c15]) rfl ok_82 ⟨et, trivial⟩) (Calls.mono (c_shape_Validate noM w7 (fun _ k => k.elim) whole1 a12 c15 ⟨hI.lend .z, trivial⟩ r4 hx11) ?_)
  rintro _ w8 ⟨rfl, hx12, hl4⟩
  refine ⟨_, rfl, ?_⟩
  replace hI := (hI.ext hx12)
  refine sa ?_
  refine nk (sr (sm ?_))
  refine sq (y_neq rfl et ev_const) ?_
  refine nk (cif h et (fun hb h => ?_) (fun hb h => ?_))
  ·refine sr (sm ?_)
   refine sa ?_
   refine nk (c_ret ?_)
   obtain rfl := some_inj h
   exact q_ret (vs := [vi r4]) Tryz.results52 ⟨ev_tmp rfl rfl, trivial⟩ (fq hI trivial)
  refine c_skip (k_same (c_seq (sr (sm ?_))))
  refine sq (y_lenl rfl u42 et) ?_
  refine sq (y_move rfl ev_const) ?_
  refine nk (c_block (c_loop (α := Nat × Int) (fun x => fun w => ∃ C, Bun noM F w0 C w [MO.row (cInt .i64) 3 a12 c15 whole1] [Cl.blk b1 24 #[vs a1 m1.Dims.length c1], Cl.sl (cInt .i64) a1 c1 m1.Dims, Cl.sl (cInt .i64) a4 c4 to1] ∧ m_collective_checkReshard_l1 to1 whole1 m1 (x.1) (x.2) = some r) (fun x _ => x.1) (fun x => [(4, vp b1 0), (10, vs a12 whole1.length c15), (73, vs a4 to1.length c4), (74, vi (to1.length : Int)), (75, vi (x.2))]) (fu, 0) ⟨_, hI.arr (.c .z .n) ⟨(.s .z), (.s (.s .z)), .z, trivial⟩, h⟩ ⟨rfl, rfl, rfl, rfl, rfl, trivial⟩ ?_))
  clear h hI; rintro ⟨fuel1, i1⟩ w9 ⟨c17, hI, h⟩
  dsimp only at hI h
  rcases fuel1 with _ | fuel1
  ·rw [m_collective_checkReshard_l1] at h; cases h
  rw [m_collective_checkReshard_l1] at h
  refine c_sub (e := [(4, vp b1 0), (10, vs a12 whole1.length c15), (73, vs a4 to1.length c4), (74, vi (to1.length : Int)), (75, vi i1)]) ⟨rfl, rfl, rfl, rfl, rfl, trivial⟩ ?_
  refine sr (sq (y_lss rfl et et) ?_)
  refine nk (c_seq (cif h et (fun hb h => ?_) (fun hb h => ?_)))
  ·refine c_skip (k_same (c_seq (c_block (sr (sm ?_)))))
   obtain ⟨e4, hx13, h⟩ := bnd_some h
   obtain ⟨ad4, cs4, hA4, hr4, hq6⟩ := hI.clat (.s (.s .z)) hx13
   obtain rfl : cs4 = [vi e4] := hr4
   refine sq (y_indexAddr rfl u42 size_3 et et (lat_bd hx13) hA4) ?_
   refine sq (y_load1 (v := (vi e4)) rfl et u3 rfl hq6.1) ?_
   refine sa ?_
   refine sa ?_
   refine nk (c_seq (c_drawX [] false (.c (0, .q) (.c (1, .q) (.c (2, .q) (.c (3, .q) (.c (4, .q) (.c (5, .q) (.c (6, .q) (.c (7, .q) (.c (8, .q) (.c (9, .q) (.c (10, .q) (.c (11, .q) (.c (12, .q) (.c (13, .q) (.c (14, .q) .n))))))))))))))) hI (by kernel_rfl) (by kernel_rfl) ?_))
   clear hI; intro w10 hI
   refine a_q rfl gn rfl (fun w' => y_move rfl et) ?_
   refine a_q rfl gn rfl (fun w' => y_geq rfl et ev_const) ?_
   refine a_q rfl gn rfl (fun w' => y_move rfl et) ?_
   refine a_gval rfl (g_true rfl rfl rfl rfl) rfl (fun hc => fun w' => (y_move rfl et)) ?_
   refine a_gval rfl (g_true rfl rfl rfl rfl) rfl (fun hc => fun w' => (y_move rfl et)) ?_
   obtain ⟨e5, hx14, h⟩ := bnd_some h
   replace hx14 := gd_some hx14
   obtain ⟨ad5, cs5, hq7⟩ := hI.golat .z hx14
   have hq8 : (decide (0 ≤ e4)) = true → CA noM w10 (ad5.add (Int.toNat i1 * 1)) [vi e5] := fun hc => by have k := hq7 hc; have e : cs5 = _ := k.2.1; rw [← e]; exact k.2.2
   refine a_gval rfl (g_true rfl rfl rfl rfl) rfl (fun hc => fun w' => (y_indexAddr rfl u22 size_3 (ev_gv et hc) (ev_gv et hc) (lat_bd (hx14 hc)) (hq7 hc).1)) ?_
   refine a_gread rfl (g_true rfl rfl rfl rfl) rfl (fun hc => fun w' hw' => (y_load1 (v := (vi e5)) rfl (ev_gv et hc) u3 rfl ((hq8 hc).at_ (SX.any rfl hw')))) (by kernel_rfl) ?_
   refine a_gval rfl (g_true rfl rfl rfl rfl) rfl (fun hc => fun w' => (y_fieldAddr rfl et u24 rfl size_22 rfl)) ?_
   refine a_gread rfl (g_true rfl rfl rfl rfl) rfl (fun hc => fun w' hw' => (y_load1 (v := (vs a1 m1.Dims.length c1)) rfl (ev_gv et hc) u22 rfl ((hI.kblk (l := [vs a1 m1.Dims.length c1]) .z rfl).at_ (SX.any rfl hw')))) (by kernel_rfl) ?_
   refine a_gval rfl (g_true rfl rfl rfl rfl) rfl (fun hc => fun w' => (y_move rfl et)) ?_
   obtain ⟨e6, hx15, h⟩ := bnd_some h
   replace hx15 := gd_some hx15
   obtain ⟨ad6, cs6, hq9⟩ := hI.gclat (.s .z) hx15
   have hq10 : (decide (0 ≤ e4)) = true → CA (Dj F c17) w10 (ad6.add (Int.toNat e4 * 1)) [vi e6] := fun hc => by have k := hq9 hc; have e : cs6 = _ := k.2.1; rw [← e]; exact k.2.2
   refine a_gval rfl (g_true rfl rfl rfl rfl) rfl (fun hc => fun w' => (y_indexAddr rfl u22 size_3 (ev_gv et hc) (ev_gv et hc) (lat_bd (hx15 hc)) (hq9 hc).1)) ?_
   refine a_gread rfl (g_true rfl rfl rfl rfl) rfl (fun hc => fun w' hw' => (y_load1 (v := (vi e6)) rfl (ev_gv et hc) u3 rfl ((hq10 hc).at_ (SX.any rfl hw')))) (by kernel_rfl) ?_
   obtain ⟨ho1, h⟩ := chk_some h
   refine a_gval rfl (g_true rfl rfl rfl rfl) rfl (fun hc => fun w' => (y_rem rfl (ev_gv et hc) (ev_gv et hc) (ho1 hc))) ?_
   refine a_gval rfl (g_true rfl rfl rfl rfl) rfl (fun hc => fun w' => (y_neq rfl (ev_gv et hc) ev_const)) ?_
   refine a_q rfl gn rfl (fun w' => y_and rfl et et) ?_
   refine a_nil ?_
   refine k_same (cif h et (fun hb h => ?_) (fun hb h => ?_))
   ·refine sr (sac ?_)
    refine s_nil ?_
    refine k_next (e := [(8, vi 15)]) ⟨rfl, trivial⟩ ?_
    refine c_ret ?_
    obtain rfl := some_inj h
    exact q_ret (vs := [vi 15]) Tryz.results52 ⟨ev_tmp rfl rfl, trivial⟩ (fq hI trivial)
   refine c_skip (k_same (c_region rfl ?_))
   refine sq (y_add rfl et ev_const) ?_
   refine sm ?_
   refine s_nil ?_
   exact k_loop (fuel1, wi64 (i1 + 1)) ⟨rfl, rfl, rfl, rfl, rfl, trivial⟩ ⟨_, hI.arr (.c .z .n) ⟨.z, (.s .z), (.s (.s .z)), trivial⟩, h⟩ (Nat.lt_succ_self _)
  refine c_exit ?_
  refine k_in ?_
  refine k_same (sr (sac ?_))
  refine nk (c_ret ?_)
  obtain rfl := some_inj h
  exact q_ret (vs := [vi 0]) Tryz.results52 ⟨ev_tmp rfl rfl, trivial⟩ (fq hI trivial)
 refine sr (sm ?_)
 refine sq (y_lenl rfl u42 et) ?_
 refine sq (y_move rfl ev_const) ?_
 refine nk (c_block (c_loop (α := Nat × (List Int) × Int × (Option Addr) × Nat) (fun x => fun w => ∃ C, Bun noM F w0 C w [MO.row (cInt .i64) 3 (x.2.2.2.1) (x.2.2.2.2) (x.2.1)] [Cl.sl (cInt .i64) a4 c4 to1, Cl.blk b1 24 #[vs a1 m1.Dims.length c1], Cl.sl (cInt .i64) a1 c1 m1.Dims, Cl.sl (cInt .i64) a3 c3 from1] ∧ m_collective_checkReshard_l2 from1 m1 to1 (x.1) (x.2.1) (x.2.2.1) = some r) (fun x _ => x.1) (fun x => [(3, vs a4 to1.length c4), (4, vp b1 0), (10, vs (x.2.2.2.1) (x.2.1).length (x.2.2.2.2)), (47, vs a3 from1.length c3), (48, vi (from1.length : Int)), (49, vi (x.2.2.1))]) (fu, zs1, 0, a11, c13) ⟨_, hI.arr (.c .z .n) ⟨(.s (.s (.s (.s (.s (.s (.s (.s (.s (.s .z)))))))))), (.s (.s (.s (.s (.s (.s .z)))))), (.s (.s (.s (.s (.s (.s (.s .z))))))), (.s (.s (.s (.s (.s (.s (.s (.s (.s .z))))))))), trivial⟩, h⟩ ⟨rfl, rfl, rfl, rfl, rfl, rfl, trivial⟩ ?_))
 clear h hI; rintro ⟨fuel2, whole2, i2, a13, c18⟩ w11 ⟨c19, hI, h⟩
 dsimp only at hI h
 rcases fuel2 with _ | fuel2
 ·rw [m_collective_checkReshard_l2] at h; cases h
 rw [m_collective_checkReshard_l2] at h
 refine c_sub (e := [(3, vs a4 to1.length c4), (4, vp b1 0), (10, vs a13 whole2.length c18), (47, vs a3 from1.length c3), (48, vi (from1.length : Int)), (49, vi i2)]) ⟨rfl, rfl, rfl, rfl, rfl, rfl, trivial⟩ ?_
 refine sr (sq (y_lss rfl et et) ?_)
 refine nk (c_seq (cif h et (fun hb h => ?_) (fun hb h => ?_)))
 ·refine c_skip (k_same (c_join (α := (List Int) × (Option Addr) × Nat) (fun _ => ⟨96, []⟩) (fun x => [(3, vs a4 to1.length c4), (4, vp b1 0), (10, vs (x.2.1) (x.1).length (x.2.2)), (47, vs a3 from1.length c3), (48, vi (from1.length : Int)), (49, vi i2)]) (fun x => fun w => ∃ C, Bun noM F w0 C w [MO.row (cInt .i64) 3 (x.2.1) (x.2.2) (x.1)] [Cl.sl (cInt .i64) a4 c4 to1, Cl.blk b1 24 #[vs a1 m1.Dims.length c1], Cl.sl (cInt .i64) a1 c1 m1.Dims, Cl.sl (cInt .i64) a3 c3 from1] ∧ m_collective_checkReshard_j2 (m_collective_checkReshard_l2 from1 m1 to1 fuel2) i2 (x.1) = some r) ?_ ?_))
  ·clear h hI; rintro ⟨whole3, a14, c20⟩ w12 ⟨c21, hI, h⟩
   try dsimp only at hI h
   rw [m_collective_checkReshard_j2] at h
   refine c_sub (e := [(3, vs a4 to1.length c4), (4, vp b1 0), (10, vs a14 whole3.length c20), (47, vs a3 from1.length c3), (48, vi (from1.length : Int)), (49, vi i2)]) ⟨rfl, rfl, rfl, rfl, rfl, rfl, trivial⟩ ?_
   refine c_region rfl ?_
   refine sq (y_add rfl et ev_const) ?_
   refine sm ?_
   refine s_nil ?_
   exact k_loop (fuel2, whole3, wi64 (i2 + 1), a14, c20) ⟨rfl, rfl, rfl, rfl, rfl, rfl, trivial⟩ ⟨_, hI.arr (.c .z .n) ⟨.z, (.s .z), (.s (.s .z)), (.s (.s (.s .z))), trivial⟩, h⟩ (Nat.lt_succ_self _)
  refine c_block (sr (sm ?_))
  obtain ⟨e7, hx16, h⟩ := bnd_some h
  obtain ⟨ad7, cs7, hA7, hr7, hq11⟩ := hI.clat (.s (.s (.s .z))) hx16
  obtain rfl : cs7 = [vi e7] := hr7
  refine sq (y_indexAddr rfl u42 size_3 et et (lat_bd hx16) hA7) ?_
  refine sq (y_load1 (v := (vi e7)) rfl et u3 rfl hq11.1) ?_
  refine sa ?_
  refine sa ?_
  refine nk (sr (sm ?_))
  refine sq (y_geq rfl et ev_const) ?_
  refine nk (cif h et (fun hb h => ?_) (fun hb h => ?_))
  ·refine c_drawX [11] false (.c (0, .q) (.c (1, .q) (.c (2, .q) (.c (3, .q) (.c (4, .q) (.c (5, .q) (.c (6, .q) (.c (7, .q) (.c (8, .q) (.c (9, .q) (.c (10, .q) (.c (11, .s) .n)))))))))))) hI (by kernel_rfl) (by kernel_rfl) ?_
   clear hI; intro w13 hI
   refine a_q rfl gn rfl (fun w' => y_move rfl et) ?_
   refine a_q rfl gn rfl (fun w' => y_move rfl et) ?_
   obtain ⟨e8, hx17, h⟩ := bnd_some h
   obtain ⟨ad8, cs8, hA8, hr8, hq12⟩ := hI.olat .z hx17
   obtain rfl : cs8 = [vi e8] := hr8
   refine a_q rfl gn rfl (fun w' => y_indexAddr rfl u22 size_3 et et (lat_bd hx17) hA8) ?_
   refine a_read rfl gn rfl (fun w' hw' => (y_load1 (v := (vi e8)) rfl et u3 rfl (hq12.at_ (SX.any rfl hw')))) (by kernel_rfl) ?_
   refine a_q rfl gn rfl (fun w' => y_fieldAddr rfl et u24 rfl size_22 rfl) ?_
   refine a_read rfl gn rfl (fun w' hw' => (y_load1 (v := (vs a1 m1.Dims.length c1)) rfl et u22 rfl ((hI.kblk (l := [vs a1 m1.Dims.length c1]) (.s .z) rfl).at_ (SX.any rfl hw')))) (by kernel_rfl) ?_
   refine a_q rfl gn rfl (fun w' => y_move rfl et) ?_
   obtain ⟨e9, hx18, h⟩ := bnd_some h
   obtain ⟨ad9, cs9, hA9, hr9, hq13⟩ := hI.clat (.s (.s .z)) hx18
   obtain rfl : cs9 = [vi e9] := hr9
   refine a_q rfl gn rfl (fun w' => y_indexAddr rfl u22 size_3 et et (lat_bd hx18) hA9) ?_
   refine a_read rfl gn rfl (fun w' hw' => (y_load1 (v := (vi e9)) rfl et u3 rfl (hq13.at_ (SX.any rfl hw')))) (by kernel_rfl) ?_
   refine a_q rfl gn rfl (fun w' => y_mul rfl et et) ?_
   obtain ⟨ho2, h⟩ := chk_some h
   obtain ⟨ad10, hA10⟩ := hI.addr .z ho2
   refine a_q rfl gn rfl (fun w' => y_indexAddr rfl u22 size_3 et et ho2 hA10) ?_
   refine a_turn (F := F) (C := c19) rfl rfl ?_
   refine la_storeRow (p := Int.toNat i2) (new := [(vi (wi64 (e8 * e9)))]) (off := 0) (x' := wi64 (e8 * e9)) hI .z rfl gn rfl rfl (by have := ho2; omega) hA10 rfl et et rfl size_3 rfl (by show 0 + 1 ≤ 1; omega) (fun _ cs0 _ hr0 => by rw [spl_full (by have e := Cod.len _ hr0; exact e)]; exact rfl) ?_
   clear hI; intro c22 w14 hI
   refine a_nil ?_
   exact k_join (whole2.set (Int.toNat i2) (wi64 (e8 * e9)), a13, c18) ⟨rfl, rfl, (lookset rfl), rfl, rfl, rfl, trivial⟩ ⟨_, hI.arr (.c .z .n) ⟨.z, (.s .z), (.s (.s .z)), (.s (.s (.s .z))), trivial⟩, h⟩ rfl
  exact c_skip (k_join (whole2, a13, c18) ⟨rfl, rfl, rfl, rfl, rfl, rfl, trivial⟩ ⟨_, hI.arr (.c .z .n) ⟨.z, (.s .z), (.s (.s .z)), (.s (.s (.s .z))), trivial⟩, h⟩ rfl)
 refine c_exit ?_
 refine k_in ?_
 exact k_join (whole2, a13, c18) ⟨rfl, rfl, rfl, trivial⟩ ⟨_, hI.arr (.c .z .n) ⟨.z, (.s .z), (.s (.s .z)), trivial⟩, h⟩ rfl
def tr_tensor_New_1_1 : Tr := (.c (7, .s) .n)
def tr_tensor_New_1_0 : Tr := (.c (4, .s) (.c (5, .q) tr_tensor_New_1_1))
theorem c_tensor_New (F : NP) (w0 : World) (hF : ∀ k, F k → k < w0.heap.size) (t1 : GType) (dims1 : List Int) (vals1 : List GVal) (a1 : Option Addr) (c1 : Nat) (a2 : Option Addr) (c2 : Nat) (hc : AllCl [Cl.sl (cInt .i64) a1 c1 dims1, Cl.sl cGVal a2 c2 vals1] F w0) (r : GTensor × Int)
  (h : m_tensor_New t1 dims1 vals1 = some r) :
  Calls Tryz.prog 53 #[(Value.agg (AType t1)), vs a1 dims1.length c1, vs a2 vals1.length c2] w0 fun e w => ∃ (a3 : Option Addr) (c3 : Nat) (a4 : Option Addr) (c4 : Nat), e = .returned (Value.tuple #[(Value.agg (ATensor r.1 a3 c3 a4 c4)), vi r.2]) ∧ Ext w0 w ∧ AllCl [Cl.sl (cInt .i64) a3 c3 r.1.Dims, Cl.sl cGVal a4 c4 r.1.Vals] F w := by
 refine enterK Tryz.func53 rfl Tryz.ntmps53 rfl ?_
 have hI := Bun.start hF hc
 clear hc
 rw [m_tensor_New] at h
 refine sr (l_box (v := (Value.agg (AType t1))) (cs := (AType t1)) hI gn rfl rfl et rfl ?_)
 clear hI; intro b1 c5 w1 hI
 obtain ⟨c6, hI⟩ := hI.relBox .z
 refine l_alloc (cs := ZTensor) hI gn rfl rfl zero_41 rfl ?_
 clear hI; intro b2 c7 w2 hI
 refine sac ?_
 refine nk (c_seq ?_)
 obtain ⟨zs1, hx1, h⟩ := bnd_some h
 obtain ⟨zs2, hx2, h⟩ := bnd_some h
 refine c_drawX [7] false (.c (0, .q) (.c (1, .q) (.c (3, .q) (.two 2 (.two 4 (.c (5, .q) (.c (6, .s) tr_tensor_New_1_1)) 6 tr_tensor_New_1_0) 6 (.c (2, .s) tr_tensor_New_1_0))))) hI (by kernel_rfl) (by kernel_rfl) ?_
 clear hI; intro w9 hI
 refine a_join (α := (Option Addr) × Nat × (Option Addr) × Nat × Nat × NP) (T := tr_tensor_New_1_1) (fun x => [(0, (Value.agg (AType t1))), (1, vs a1 dims1.length c1), (2, vs a2 vals1.length c2), (3, vp b1 0), (6, vp b2 0), (7, vi 0), (8, (Value.pointer (some ⟨(x.2.2.2.2.1), 0, none⟩))), (10, (Value.agg (AType t1))), (11, vs a1 dims1.length c1), (12, vs (x.1) zs1.length (x.2.1)), (13, vs a2 vals1.length c2), (14, vs (x.2.2.1) zs2.length (x.2.2.2.1)), (15, (Value.agg #[vi t1.Kind, vi t1.Bits, vi t1.Frac, vi t1.Round, vi t1.Over, vs (x.1) zs1.length (x.2.1), vs (x.2.2.1) zs2.length (x.2.2.2.1)]))]) (fun x w => Bun noM F w0 (x.2.2.2.2.2) w [MO.row cGVal 68 (x.2.2.1) (x.2.2.2.1) zs2, MO.box (x.2.2.2.2.1) 41 ZTensor, MO.row (cInt .i64) 3 (x.1) (x.2.1) zs1, MO.box b2 41 ZTensor] [Cl.blk b1 38 (AType t1), Cl.sl (cInt .i64) a1 c1 dims1, Cl.sl cGVal a2 c2 vals1]) (fun x w => SN [7] (DM false F (x.2.2.2.2.2)) w) ?_ ?_
 ·clear hI; rintro ⟨a5, c8, a6, c10, b3, c15⟩ w8 hI
  try dsimp only at hI ⊢
  unfold tr_tensor_New_1_1
  refine a_turn (F := F) (C := c15) rfl rfl ?_
  refine la_store (new := [vi t1.Kind, vi t1.Bits, vi t1.Frac, vi t1.Round, vi t1.Over, vs a5 zs1.length c8, vs a6 zs2.length c10]) (cs' := #[vi t1.Kind, vi t1.Bits, vi t1.Frac, vi t1.Round, vi t1.Over, vs a5 zs1.length c8, vs a6 zs2.length c10]) hI (.s .z) rfl gn rfl rfl et et rfl size_41 rfl rfl rfl ?_
  clear hI; intro c13 w6 hI
  refine a_nil ?_
  refine k_same (c_seq (sr (sq (y_loadN (l := [vi t1.Kind, vi t1.Bits, vi t1.Frac, vi t1.Round, vi t1.Over, vs a5 zs1.length c8, vs a6 zs2.length c10]) rfl et u41 rfl size_41 (CellsAt.of_blk (hI.blk (.s .z)) rfl)) ?_)))
  obtain ⟨r1, hx3, h⟩ := bnd_some h
  refine s_call gn rfl (r_callF (vs := [(Value.agg #[vi t1.Kind, vi t1.Bits, vi t1.Frac, vi t1.Round, vi t1.Over, vs a5 zs1.length c8, vs a6 zs2.length c10])]) rfl ok_71 ⟨et, trivial⟩) (Calls.mono (c_tensor_Validate noM w6 (fun _ k => k.elim) (⟨t1, zs1, zs2⟩ : GTensor) a5 c8 a6 c10 ⟨hI.lend (.s (.s .z)), hI.lend .z, trivial⟩ r1 hx3) ?_)
  rintro _ w10 ⟨rfl, hx4, hl1⟩
  refine ⟨_, rfl, ?_⟩
  replace hI := (hI.ext hx4)
  refine sa ?_
  refine nk (sr (sm ?_))
  refine sq (y_neq rfl et ev_const) ?_
  refine nk (cif h et (fun hb h => ?_) (fun hb h => ?_))
  ·refine sr (sq (y_build (vs := []) (cs := ZTensor) rfl trivial (by kernel_rfl)) ?_)
   refine sm ?_
   refine l_store (new := zTensor) (cs' := ZTensor) hI (.s (.s (.s .z))) gn rfl rfl et et rfl size_41 rfl rfl rfl ?_
   clear hI; intro c16 w11 hI
   refine sa ?_
   refine nk (c_ret ?_)
   have hI := hI.add (c := Cl.sl (cInt .i64) none 0 ([] : List Int)) SlC.nil
   have hI := hI.add (c := Cl.sl cGVal none 0 ([] : List GVal)) SlC.nil
   obtain rfl := some_inj h
   exact q_ret (vs := [(Value.agg ZTensor), vi r1]) Tryz.results53 ⟨⟨_, ev_tmp rfl rfl, load_agg (l := zTensor) u41 rfl size_41 (CellsAt.of_blk (hI.blk (.s (.s (.s .z)))) rfl)⟩, ⟨ev_tmp rfl rfl, trivial⟩⟩ ⟨none, 0, none, 0, rfl, hI.ext0, hI.fin ⟨(.s .z), .z, trivial⟩⟩
  refine c_skip (k_same (sr (sq (y_loadN (l := [vi t1.Kind, vi t1.Bits, vi t1.Frac, vi t1.Round, vi t1.Over, vs a5 zs1.length c8, vs a6 zs2.length c10]) rfl et u41 rfl size_41 (CellsAt.of_blk (hI.blk (.s .z)) rfl)) ?_)))
  refine l_store (new := [vi t1.Kind, vi t1.Bits, vi t1.Frac, vi t1.Round, vi t1.Over, vs a5 zs1.length c8, vs a6 zs2.length c10]) (cs' := #[vi t1.Kind, vi t1.Bits, vi t1.Frac, vi t1.Round, vi t1.Over, vs a5 zs1.length c8, vs a6 zs2.length c10]) hI (.s (.s (.s .z))) gn rfl rfl et et rfl size_41 rfl rfl rfl ?_
  clear hI; intro c17 w12 hI
  refine sac ?_
  refine nk (c_ret ?_)
  obtain ⟨c18, hI⟩ := hI.release (.s (.s .z))
  obtain ⟨c19, hI⟩ := hI.release .z
  obtain rfl := some_inj h
  exact q_ret (vs := [(Value.agg #[vi t1.Kind, vi t1.Bits, vi t1.Frac, vi t1.Round, vi t1.Over, vs a5 zs1.length c8, vs a6 zs2.length c10]), vi 0]) Tryz.results53 ⟨⟨_, ev_tmp rfl rfl, load_agg (l := [vi t1.Kind, vi t1.Bits, vi t1.Frac, vi t1.Round, vi t1.Over, vs a5 zs1.length c8, vs a6 zs2.length c10]) u41 rfl size_41 (CellsAt.of_blk (hI.blk (.s .z)) rfl)⟩, ⟨ev_tmp rfl rfl, trivial⟩⟩ ⟨a5, c8, a6, c10, rfl, hI.ext0, hI.fin ⟨(.s .z), .z, trivial⟩⟩
 intro hk_tr_tensor_New_1_1
 refine a_join (α := (Option Addr) × Nat × Nat × NP) (T := tr_tensor_New_1_0) (fun x => [(0, (Value.agg (AType t1))), (1, vs a1 dims1.length c1), (2, vs a2 vals1.length c2), (3, vp b1 0), (6, vp b2 0), (7, vi 0), (8, (Value.pointer (some ⟨(x.2.2.1), 0, none⟩))), (10, (Value.agg (AType t1))), (11, vs a1 dims1.length c1), (12, vs (x.1) zs1.length (x.2.1)), (13, vs a2 vals1.length c2)]) (fun x w => Bun noM F w0 (x.2.2.2) w [MO.box (x.2.2.1) 41 ZTensor, MO.row (cInt .i64) 3 (x.1) (x.2.1) zs1, MO.box b2 41 ZTensor] [Cl.blk b1 38 (AType t1), Cl.sl (cInt .i64) a1 c1 dims1, Cl.sl cGVal a2 c2 vals1]) (fun x w => SN [7] (DM false F (x.2.2.2)) w) ?_ ?_
 ·clear hI; rintro ⟨a5, c8, b3, c14⟩ w7 hI
  try dsimp only at hI ⊢
  unfold tr_tensor_New_1_0
  replace hI := hI.nil cGVal 68 none
  refine la_appendX (ys := vals1) hI .z (hI.crd (.s (.s .z))) hx2 rfl gn rfl rfl u39 info_68 rfl rfl ev_const et ?_
  clear hI; intro a6 c10 c11 w4 hI
  refine a_q rfl gn rfl (fun w' => (y_build (vs := [(0, (Value.agg (AType t1))), (1, vs a5 zs1.length c8), (2, vs a6 zs2.length c10)]) (cs := #[vi t1.Kind, vi t1.Bits, vi t1.Frac, vi t1.Round, vi t1.Over, vs a5 zs1.length c8, vs a6 zs2.length c10]) rfl ⟨rfl, et, ⟨rfl, et, ⟨rfl, et, trivial⟩⟩⟩ (by kernel_rfl))) ?_
  exact a_sub (hk_tr_tensor_New_1_1 (a5, c8, a6, c10, b3, c11) _ (hI.arr (.c .z (.c .z (.c .z (.c .z .n)))) ⟨.z, (.s .z), (.s (.s .z)), trivial⟩)) ⟨rfl, rfl, rfl, rfl, rfl, rfl, rfl, rfl, rfl, rfl, rfl, rfl, rfl, trivial⟩
 intro hk_tr_tensor_New_1_0
 refine a_read rfl gn rfl (fun w' hw' => (y_loadN (l := (lType t1)) rfl et u38 rfl size_38 ((hI.kblk (l := (lType t1)) .z rfl).at_ (SX.any rfl hw')))) (by kernel_rfl) ?_
 refine a_q rfl gn rfl (fun w' => y_move rfl et) ?_
 refine a_q rfl gn rfl (fun w' => y_move rfl et) ?_
 refine a_two ?_ ?_
 ·skip
  replace hI := hI.nil (cInt .i64) 3 none
  refine la_appendX (ys := dims1) hI .z (hI.crd (.s .z)) hx1 rfl gn rfl rfl u22 info_3 rfl rfl ev_const et ?_
  clear hI; intro a5 c8 c9 w3 hI
  refine a_two ?_ ?_
  ·skip
   replace hI := hI.nil cGVal 68 none
   refine la_appendX (ys := vals1) hI .z (hI.crd (.s (.s .z))) hx2 rfl gn rfl rfl u39 info_68 rfl rfl ev_const et ?_
   clear hI; intro a6 c10 c11 w4 hI
   refine a_q rfl gn rfl (fun w' => (y_build (vs := [(0, (Value.agg (AType t1))), (1, vs a5 zs1.length c8), (2, vs a6 zs2.length c10)]) (cs := #[vi t1.Kind, vi t1.Bits, vi t1.Frac, vi t1.Round, vi t1.Over, vs a5 zs1.length c8, vs a6 zs2.length c10]) rfl ⟨rfl, et, ⟨rfl, et, ⟨rfl, et, trivial⟩⟩⟩ (by kernel_rfl))) ?_
   refine la_alloc (cs := ZTensor) hI rfl gn rfl rfl zero_41 rfl ?_
   clear hI; intro b3 c12 w5 hI
   exact a_sub (hk_tr_tensor_New_1_1 (a5, c8, a6, c10, b3, c12) _ (hI.arr (.c (.s .z) (.c .z (.c .z (.c .z .n)))) ⟨.z, (.s .z), (.s (.s .z)), trivial⟩)) ⟨rfl, rfl, rfl, rfl, rfl, rfl, rfl, rfl, rfl, rfl, rfl, rfl, rfl, trivial⟩
  refine la_alloc (cs := ZTensor) hI rfl gn rfl rfl zero_41 rfl ?_
  clear hI; intro b3 c12 w5 hI
  exact a_sub (hk_tr_tensor_New_1_0 (a5, c8, b3, c12) _ (hI.arr (.c .z (.c .z (.c .z .n))) ⟨.z, (.s .z), (.s (.s .z)), trivial⟩)) ⟨rfl, rfl, rfl, rfl, rfl, rfl, rfl, rfl, rfl, rfl, rfl, trivial⟩
 refine la_alloc (cs := ZTensor) hI rfl gn rfl rfl zero_41 rfl ?_
 clear hI; intro b3 c12 w5 hI
 replace hI := hI.nil (cInt .i64) 3 none
 refine la_appendX (ys := dims1) hI .z (hI.crd (.s .z)) hx1 rfl gn rfl rfl u22 info_3 rfl rfl ev_const et ?_
 clear hI; intro a5 c8 c9 w3 hI
 exact a_sub (hk_tr_tensor_New_1_0 (a5, c8, b3, c9) _ (hI.arr (.c (.s .z) (.c .z (.c .z .n))) ⟨.z, (.s .z), (.s (.s .z)), trivial⟩)) ⟨rfl, rfl, rfl, rfl, rfl, rfl, rfl, rfl, rfl, rfl, rfl, trivial⟩
theorem c_collective_Reshard (F : NP) (w0 : World) (hF : ∀ k, F k → k < w0.heap.size) (m1 : GMesh) (l1 : List GTensor) (from1 : List Int) (to1 : List Int) (a1 : Option Addr) (c1 : Nat) (a2 : Option Addr) (c2 : Nat) (a3 : Option Addr) (c3 : Nat) (a4 : Option Addr) (c4 : Nat) (hc : AllCl [Cl.sl (cInt .i64) a1 c1 m1.Dims, Cl.sl cGTensor a2 c2 l1, Cl.sl (cInt .i64) a3 c3 from1, Cl.sl (cInt .i64) a4 c4 to1] F w0) (r : List GTensor × Int × Int)
  (h : m_collective_Reshard m1 l1 from1 to1 = some r) :
  Calls Tryz.prog 24 #[(Value.agg #[vs a1 m1.Dims.length c1]), vs a2 l1.length c2, vs a3 from1.length c3, vs a4 to1.length c4] w0 fun e w => ∃ (a5 : Option Addr) (c5 : Nat), e = .returned (Value.tuple #[vs a5 r.1.length c5, vi r.2.1, vi r.2.2]) ∧ Ext w0 w ∧ AllCl [Cl.sl cGTensor a5 c5 r.1] F w := by
 refine enterK Tryz.func24 rfl Tryz.ntmps24 rfl ?_
 have hI := Bun.start hF hc
 clear hc
 rw [m_collective_Reshard] at h
 refine sr (l_box (v := (Value.agg #[vs a1 m1.Dims.length c1])) (cs := #[vs a1 m1.Dims.length c1]) hI gn rfl rfl et rfl ?_)
 clear hI; intro b1 c6 w1 hI
 obtain ⟨c7, hI⟩ := hI.relBox .z
 refine sac ?_
 refine sac ?_
 refine sac ?_
 refine nk (c_seq (sr (sq (y_loadN (l := [vs a1 m1.Dims.length c1]) rfl et u24 rfl size_24 (hI.kblk (l := [vs a1 m1.Dims.length c1]) .z rfl).1) ?_)))
 refine sm ?_
 refine sm ?_
 refine sm ?_
 obtain ⟨r1, hx1, h⟩ := bnd_some h
 refine s_call gn rfl (r_callF (vs := [(Value.agg #[vs a1 m1.Dims.length c1]), vs a2 l1.length c2, vs a3 from1.length c3, vs a4 to1.length c4]) rfl ok_52 ⟨et, ⟨et, ⟨et, ⟨et, trivial⟩⟩⟩⟩) (Calls.mono (c_collective_checkReshard (Dj F c7) w1 hI.lt m1 l1 from1 to1 a1 c1 a2 c2 a3 c3 a4 c4 ⟨(hI.get (.s .z)), (hI.get (.s (.s .z))), (hI.get (.s (.s (.s .z)))), (hI.get (.s (.s (.s (.s .z))))), trivial⟩ r1 hx1) ?_)
 rintro _ w2 ⟨rfl, hx2, hl1⟩
 refine ⟨_, rfl, ?_⟩
 replace hI := (hI.ext hx2)
 refine sa ?_
 refine nk (sr (sm ?_))
 refine sq (y_neq rfl et ev_const) ?_
 refine nk (cif h et (fun hb h => ?_) (fun hb h => ?_))
 ·refine sr (sm ?_)
  refine sac ?_
  refine sac ?_
  refine sa ?_
  refine nk (c_ret ?_)
  have hI := hI.add (c := Cl.sl cGTensor none 0 ([] : List GTensor)) SlC.nil
  obtain rfl := some_inj h
  exact q_ret (vs := [vs none 0 0, vi 0, vi r1]) Tryz.results24 ⟨ev_tmp rfl rfl, ⟨ev_tmp rfl rfl, ⟨ev_tmp rfl rfl, trivial⟩⟩⟩ ⟨none, 0, rfl, hI.ext0, hI.fin ⟨.z, trivial⟩⟩
 refine c_skip (k_same (sr (sm ?_)))
 refine sm ?_
 obtain ⟨r2, hx3, h⟩ := bnd_some h
 refine s_call gn rfl (r_callF (vs := [vs a3 from1.length c3, vs a4 to1.length c4]) rfl ok_30 ⟨et, ⟨et, trivial⟩⟩) (Calls.mono (c_collective_Plan (Dj F c7) w2 hI.lt from1 to1 a3 c3 a4 c4 ⟨(hI.get (.s (.s (.s .z)))), (hI.get (.s (.s (.s (.s .z))))), trivial⟩ r2 hx3) ?_)
 rintro _ w3 ⟨a6, c8, rfl, hx4, hl2⟩
 refine ⟨_, rfl, ?_⟩
 replace hI := (hI.ext hx4).adds hl2
 refine sa ?_
 refine nk (sr (sac ?_))
 refine nk (c_join (α := (List GTensor) × (Option Addr) × Nat) (fun _ => ⟨104, []⟩) (fun x => [(4, vp b1 0), (12, vs a6 r2.length c8), (13, vs (x.2.1) (x.1).length (x.2.2))]) (fun x => fun w => ∃ C, Bun noM F w0 C w [MO.row cGTensor 41 (x.2.1) (x.2.2) (x.1)] [Cl.blk b1 24 #[vs a1 m1.Dims.length c1], Cl.sl (cInt .i64) a1 c1 m1.Dims, Cl.sl cGTransfer a6 c8 r2] ∧ m_collective_Reshard_j1 r2 m1 (x.1) = some r) ?_ ?_)
 ·clear h hI; rintro ⟨out1, a7, c9⟩ w4 ⟨c10, hI, h⟩
  try dsimp only at hI h
  rw [m_collective_Reshard_j1] at h
  refine c_sub (e := [(4, vp b1 0), (12, vs a6 r2.length c8), (13, vs a7 out1.length c9)]) ⟨rfl, rfl, rfl, trivial⟩ ?_
  refine c_seq (sr (sm ?_))
  refine sq (y_lenl rfl u51 et) ?_
  refine sq (y_move rfl ev_const) ?_
  refine nk (c_block ?_)
  obtain ⟨c13, hI⟩ := hI.release .z
  refine c_loop (α := Nat × (List GTensor) × Int × (Option Addr) × Nat) (fun x => fun w => ∃ C, Bun noM F w0 C w [] [Cl.sl cGTensor (x.2.2.2.1) (x.2.2.2.2) (x.2.1), Cl.blk b1 24 #[vs a1 m1.Dims.length c1], Cl.sl (cInt .i64) a1 c1 m1.Dims, Cl.sl cGTransfer a6 c8 r2] ∧ m_collective_Reshard_l1 r2 m1 (x.1) (x.2.1) (x.2.2.1) = some r) (fun x _ => x.1) (fun x => [(4, vp b1 0), (12, vs a6 r2.length c8), (13, vs (x.2.2.2.1) (x.2.1).length (x.2.2.2.2)), (53, vs a6 r2.length c8), (54, vi (r2.length : Int)), (55, vi (x.2.2.1))]) (fu, out1, 0, a7, c9) ⟨_, hI.arr .n ⟨.z, (.s .z), (.s (.s .z)), (.s (.s (.s .z))), trivial⟩, h⟩ ⟨rfl, rfl, rfl, rfl, rfl, rfl, trivial⟩ ?_
  clear h hI; rintro ⟨fuel1, out2, i1, a8, c11⟩ w5 ⟨c12, hI, h⟩
  dsimp only at hI h
  rcases fuel1 with _ | fuel1
  ·rw [m_collective_Reshard_l1] at h; cases h
  rw [m_collective_Reshard_l1] at h
  refine c_sub (e := [(4, vp b1 0), (12, vs a6 r2.length c8), (13, vs a8 out2.length c11), (53, vs a6 r2.length c8), (54, vi (r2.length : Int)), (55, vi i1)]) ⟨rfl, rfl, rfl, rfl, rfl, rfl, trivial⟩ ?_
  refine sr (sq (y_lss rfl et et) ?_)
  refine nk (c_seq (cif h et (fun hb h => ?_) (fun hb h => ?_)))
  ·refine c_skip (k_same (c_seq (c_block (sr ?_))))
   obtain ⟨e1, hx5, h⟩ := bnd_some h
   obtain ⟨ad1, cs1, hA1, hr1, hq1⟩ := hI.clat (.s (.s (.s .z))) hx5
   obtain rfl : cs1 = [vi e1.Op, vi e1.Mesh, vi e1.From, vi e1.To, (str e1.Name)] := hr1
   refine sq (y_indexAddr rfl u51 size_54 et et (lat_bd hx5) hA1) ?_
   refine sq (y_loadN (l := [vi e1.Op, vi e1.Mesh, vi e1.From, vi e1.To, (str e1.Name)]) rfl et u54 rfl size_54 hq1.1) ?_
   refine l_alloc (cs := #[vi 0, vi 0, vi 0, vi 0, (str ([] : List UInt8))]) hI gn rfl rfl zero_54 rfl ?_
   clear hI; intro b2 c14 w6 hI
   refine l_store (new := [vi e1.Op, vi e1.Mesh, vi e1.From, vi e1.To, (str e1.Name)]) (cs' := #[vi e1.Op, vi e1.Mesh, vi e1.From, vi e1.To, (str e1.Name)]) hI .z gn rfl rfl et et rfl size_54 rfl rfl rfl ?_
   clear hI; intro c15 w7 hI
   refine nk (sr (sac ?_))
   refine nk (c_join (α := (List GTensor) × Int × (Option Addr) × Nat) (fun _ => ⟨104, []⟩) (fun x => [(4, vp b1 0), (12, vs a6 r2.length c8), (13, vs (x.2.2.1) (x.1).length (x.2.2.2)), (53, vs a6 r2.length c8), (54, vi (r2.length : Int)), (55, vi i1), (20, vi (x.2.1))]) (fun x => fun w => ∃ C, Bun noM F w0 C w [] [Cl.sl cGTensor (x.2.2.1) (x.2.2.2) (x.1), Cl.blk b1 24 #[vs a1 m1.Dims.length c1], Cl.sl (cInt .i64) a1 c1 m1.Dims, Cl.sl cGTransfer a6 c8 r2] ∧ m_collective_Reshard_j2 (m_collective_Reshard_l1 r2 m1 fuel1) i1 (x.1) (x.2.1) = some r) ?_ ?_)
   ·clear h hI; rintro ⟨out3, e2, a9, c16⟩ w8 ⟨c17, hI, h⟩
    try dsimp only at hI h
    rw [m_collective_Reshard_j2] at h
    refine c_sub (e := [(4, vp b1 0), (12, vs a6 r2.length c8), (13, vs a9 out3.length c16), (53, vs a6 r2.length c8), (54, vi (r2.length : Int)), (55, vi i1), (20, vi e2)]) ⟨rfl, rfl, rfl, rfl, rfl, rfl, rfl, trivial⟩ ?_
    refine sr (sm ?_)
    refine sq (y_neq rfl et ev_const) ?_
    refine nk (cif h et (fun hb h => ?_) (fun hb h => ?_))
    ·refine sr (sm ?_)
     refine sac ?_
     refine sac ?_
     refine sa ?_
     refine nk (c_ret ?_)
     have hI := hI.add (c := Cl.sl cGTensor none 0 ([] : List GTensor)) SlC.nil
     obtain rfl := some_inj h
     exact q_ret (vs := [vs none 0 0, vi 0, vi e2]) Tryz.results24 ⟨ev_tmp rfl rfl, ⟨ev_tmp rfl rfl, ⟨ev_tmp rfl rfl, trivial⟩⟩⟩ ⟨none, 0, rfl, hI.ext0, hI.fin ⟨.z, trivial⟩⟩
    refine c_skip (k_same (c_region rfl ?_))
    refine sq (y_add rfl et ev_const) ?_
    refine sm ?_
    refine s_nil ?_
    exact k_loop (fuel1, out3, wi64 (i1 + 1), a9, c16) ⟨rfl, rfl, rfl, rfl, rfl, rfl, trivial⟩ ⟨_, hI.arr .n ⟨.z, (.s .z), (.s (.s .z)), (.s (.s (.s .z))), trivial⟩, h⟩ (Nat.lt_succ_self _)
   refine sr (sq (y_fieldAddr rfl et u54 rfl size_3 rfl) ?_)
   refine sq (y_load1 (v := (vi e1.Op)) rfl et u3 rfl (CellsAt.of_blk (hI.blk .z) rfl)) ?_
   refine nk (c_block (sr (sq (y_eql rfl et ev_const) ?_)))
   refine sa ?_
   refine nk (cif h et (fun hb h => ?_) (fun hb h => ?_))
   ·refine c_region rfl ?_
    refine sq (y_loadN (l := [vs a1 m1.Dims.length c1]) rfl et u24 rfl size_24 (hI.kblk (l := [vs a1 m1.Dims.length c1]) (.s .z) rfl).1) ?_
    refine sm ?_
    refine sq (y_fieldAddr rfl et u54 rfl size_3 rfl) ?_
    refine sq (y_load1 (v := (vi e1.Mesh)) rfl et u3 rfl (CellsAt.of_blk (hI.blk .z) rfl)) ?_
    refine sq (y_fieldAddr rfl et u54 rfl size_3 rfl) ?_
    refine sq (y_load1 (v := (vi e1.From)) rfl et u3 rfl (CellsAt.of_blk (hI.blk .z) rfl)) ?_
    refine sq (y_fieldAddr rfl et u54 rfl size_3 rfl) ?_
    refine sq (y_load1 (v := (vi e1.To)) rfl et u3 rfl (CellsAt.of_blk (hI.blk .z) rfl)) ?_
    obtain ⟨r3, hx6, h⟩ := bnd_some h
    refine s_call gn rfl (r_callF (vs := [(Value.agg #[vs a1 m1.Dims.length c1]), vs a8 out2.length c11, vi e1.Mesh, vi e1.From, vi e1.To]) rfl ok_22 ⟨et, ⟨et, ⟨et, ⟨et, ⟨et, trivial⟩⟩⟩⟩⟩) (Calls.mono (c_collective_AllToAll (Dj F c15) w7 hI.lt m1 out2 e1.Mesh e1.From e1.To a1 c1 a8 c11 ⟨(hI.get (.s (.s .z))), (hI.get .z), trivial⟩ r3 hx6) ?_)
    rintro _ w9 ⟨a10, c18, rfl, hx7, hl3⟩
    refine ⟨_, rfl, ?_⟩
    replace hI := (hI.ext hx7).adds hl3
    refine sm ?_
    refine sq (y_extract rfl et rfl) ?_
    refine sq (y_extract rfl et rfl) ?_
    refine sa ?_
    refine sa ?_
    refine s_nil ?_
    exact k_join (r3.1, r3.2, a10, c18) ⟨rfl, rfl, rfl, rfl, rfl, rfl, rfl, trivial⟩ ⟨_, hI.arr .n ⟨.z, (.s (.s .z)), (.s (.s (.s .z))), (.s (.s (.s (.s .z)))), trivial⟩, h⟩ rfl
   refine sr (sq (y_eql rfl et ev_const) ?_)
   refine sa ?_
   refine nk (cif h et (fun hb h => ?_) (fun hb h => ?_))
   ·refine c_region rfl ?_
    refine sq (y_loadN (l := [vs a1 m1.Dims.length c1]) rfl et u24 rfl size_24 (hI.kblk (l := [vs a1 m1.Dims.length c1]) (.s .z) rfl).1) ?_
    refine sm ?_
    refine sq (y_fieldAddr rfl et u54 rfl size_3 rfl) ?_
    refine sq (y_load1 (v := (vi e1.Mesh)) rfl et u3 rfl (CellsAt.of_blk (hI.blk .z) rfl)) ?_
    refine sq (y_fieldAddr rfl et u54 rfl size_3 rfl) ?_
    refine sq (y_load1 (v := (vi e1.From)) rfl et u3 rfl (CellsAt.of_blk (hI.blk .z) rfl)) ?_
    obtain ⟨r4, hx8, h⟩ := bnd_some h
    refine s_call gn rfl (r_callF (vs := [(Value.agg #[vs a1 m1.Dims.length c1]), vs a8 out2.length c11, vi e1.Mesh, vi e1.From]) rfl ok_11 ⟨et, ⟨et, ⟨et, ⟨et, trivial⟩⟩⟩⟩) (Calls.mono (c_collective_AllGather (Dj F c15) w7 hI.lt m1 out2 e1.Mesh e1.From a1 c1 a8 c11 ⟨(hI.get (.s (.s .z))), (hI.get .z), trivial⟩ r4 hx8) ?_)
    rintro _ w10 ⟨a11, c19, rfl, hx9, hl4⟩
    refine ⟨_, rfl, ?_⟩
    replace hI := (hI.ext hx9).adds hl4
    refine sm ?_
    refine sq (y_extract rfl et rfl) ?_
    refine sq (y_extract rfl et rfl) ?_
    refine sa ?_
    refine sa ?_
    refine s_nil ?_
    exact k_join (r4.1, r4.2, a11, c19) ⟨rfl, rfl, rfl, rfl, rfl, rfl, rfl, trivial⟩ ⟨_, hI.arr .n ⟨.z, (.s (.s .z)), (.s (.s (.s .z))), (.s (.s (.s (.s .z)))), trivial⟩, h⟩ rfl
   refine c_region rfl ?_
   refine sq (y_loadN (l := [vs a1 m1.Dims.length c1]) rfl et u24 rfl size_24 (hI.kblk (l := [vs a1 m1.Dims.length c1]) (.s .z) rfl).1) ?_
   refine sm ?_
   refine sq (y_fieldAddr rfl et u54 rfl size_3 rfl) ?_
   refine sq (y_load1 (v := (vi e1.Mesh)) rfl et u3 rfl (CellsAt.of_blk (hI.blk .z) rfl)) ?_
   refine sq (y_fieldAddr rfl et u54 rfl size_3 rfl) ?_
   refine sq (y_load1 (v := (vi e1.From)) rfl et u3 rfl (CellsAt.of_blk (hI.blk .z) rfl)) ?_
   obtain ⟨r5, hx10, h⟩ := bnd_some h
   refine s_call gn rfl (r_callF (vs := [(Value.agg #[vs a1 m1.Dims.length c1]), vs a8 out2.length c11, vi e1.Mesh, vi e1.From]) rfl ok_13 ⟨et, ⟨et, ⟨et, ⟨et, trivial⟩⟩⟩⟩) (Calls.mono (c_collective_SliceLocal (Dj F c15) w7 hI.lt m1 out2 e1.Mesh e1.From a1 c1 a8 c11 ⟨(hI.get (.s (.s .z))), (hI.get .z), trivial⟩ r5 hx10) ?_)
   rintro _ w11 ⟨a12, c20, rfl, hx11, hl5⟩
   refine ⟨_, rfl, ?_⟩
   replace hI := (hI.ext hx11).adds hl5
   refine sm ?_
   refine sq (y_extract rfl et rfl) ?_
   refine sq (y_extract rfl et rfl) ?_
   refine sa ?_
   refine sa ?_
   refine s_nil ?_
   exact k_join (r5.1, r5.2, a12, c20) ⟨rfl, rfl, rfl, rfl, rfl, rfl, rfl, trivial⟩ ⟨_, hI.arr .n ⟨.z, (.s (.s .z)), (.s (.s (.s .z))), (.s (.s (.s (.s .z)))), trivial⟩, h⟩ rfl
  refine c_exit ?_
  refine k_in ?_
  refine k_same (sr (sm ?_))
  refine sm ?_
  refine sq (y_lenl rfl u51 et) ?_
  refine sa ?_
  refine sa ?_
  refine sac ?_
  refine nk (c_ret ?_)
  obtain rfl := some_inj h
  exact q_ret (vs := [vs a8 out2.length c11, vi (r2.length : Int), vi 0]) Tryz.results24 ⟨ev_tmp rfl rfl, ⟨ev_tmp rfl rfl, ⟨ev_tmp rfl rfl, trivial⟩⟩⟩ ⟨a8, c11, rfl, hI.ext0, hI.fin ⟨.z, trivial⟩⟩
 refine sr (sm ?_)
 refine sq (y_lenl rfl u25 et) ?_
 refine sq (y_move rfl ev_const) ?_
 refine nk (c_block ?_)
 have hI := hI.nil cGTensor 41 none
 refine c_loop (α := Nat × (List GTensor) × Int × (Option Addr) × Nat) (fun x => fun w => ∃ C, Bun noM F w0 C w [MO.row cGTensor 41 (x.2.2.2.1) (x.2.2.2.2) (x.2.1)] [Cl.blk b1 24 #[vs a1 m1.Dims.length c1], Cl.sl (cInt .i64) a1 c1 m1.Dims, Cl.sl cGTransfer a6 c8 r2, Cl.sl cGTensor a2 c2 l1] ∧ m_collective_Reshard_l2 l1 r2 m1 (x.1) (x.2.1) (x.2.2.1) = some r) (fun x _ => x.1) (fun x => [(4, vp b1 0), (12, vs a6 r2.length c8), (13, vs (x.2.2.2.1) (x.2.1).length (x.2.2.2.2)), (32, vs a2 l1.length c2), (33, vi (l1.length : Int)), (34, vi (x.2.2.1))]) (fu, ([] : List GTensor), 0, none, 0) ⟨_, hI.arr (.c .z .n) ⟨(.s .z), (.s (.s .z)), .z, (.s (.s (.s .z))), trivial⟩, h⟩ ⟨rfl, rfl, rfl, rfl, rfl, rfl, trivial⟩ ?_
 clear h hI; rintro ⟨fuel2, out4, i2, a13, c21⟩ w12 ⟨c22, hI, h⟩
 dsimp only at hI h
 rcases fuel2 with _ | fuel2
 ·rw [m_collective_Reshard_l2] at h; cases h
 rw [m_collective_Reshard_l2] at h
 refine c_sub (e := [(4, vp b1 0), (12, vs a6 r2.length c8), (13, vs a13 out4.length c21), (32, vs a2 l1.length c2), (33, vi (l1.length : Int)), (34, vi i2)]) ⟨rfl, rfl, rfl, rfl, rfl, rfl, trivial⟩ ?_
 refine sr (sq (y_lss rfl et et) ?_)
 refine nk (c_seq (cif h et (fun hb h => ?_) (fun hb h => ?_)))
 ·refine c_skip (k_same (c_seq (c_block (sr ?_))))
  obtain ⟨e3, hx12, h⟩ := bnd_some h
  obtain ⟨ad2, cs2, hA2, hr2, hq2⟩ := hI.clat (.s (.s (.s .z))) hx12
  obtain ⟨a14, c23, a15, c24, rfl, hf1, hf2⟩ := hr2
  have hI := hI.add (c := Cl.sl (cInt .i64) a14 c23 e3.Dims) hf1
  have hI := hI.add (c := Cl.sl cGVal a15 c24 e3.Vals) hf2
  refine sq (y_indexAddr rfl u25 size_41 et et (lat_bd hx12) hA2) ?_
  refine sq (y_loadN (l := (lTensor e3 a14 c23 a15 c24)) rfl et u41 rfl size_41 hq2.1) ?_
  refine l_alloc (cs := ZTensor) hI gn rfl rfl zero_41 rfl ?_
  clear hI; intro b3 c25 w13 hI
  refine l_store (new := (lTensor e3 a14 c23 a15 c24)) (cs' := (ATensor e3 a14 c23 a15 c24)) hI .z gn rfl rfl et et rfl size_41 rfl rfl rfl ?_
  clear hI; intro c26 w14 hI
  refine nk (sr (sq (y_fieldAddr rfl et u41 rfl size_38 rfl) ?_))
  refine sq (y_loadN (l := (lType e3.Type_)) rfl et u38 rfl size_38 (CellsAt.of_blk (hI.blk .z) rfl)) ?_
  refine sq (y_fieldAddr rfl et u41 rfl size_22 rfl) ?_
  refine sq (y_load1 (v := (vs a14 e3.Dims.length c23)) rfl et u22 rfl (CellsAt.of_blk (hI.blk .z) rfl)) ?_
  refine sq (y_fieldAddr rfl et u41 rfl size_39 rfl) ?_
  refine sq (y_load1 (v := (vs a15 e3.Vals.length c24)) rfl et u39 rfl (CellsAt.of_blk (hI.blk .z) rfl)) ?_
  obtain ⟨r6, hx13, h⟩ := bnd_some h
  refine s_call gn rfl (r_callF (vs := [(Value.agg (AType e3.Type_)), vs a14 e3.Dims.length c23, vs a15 e3.Vals.length c24]) rfl ok_53 ⟨et, ⟨et, ⟨et, trivial⟩⟩⟩) (Calls.mono (c_tensor_New (Dj F c26) w14 hI.lt e3.Type_ e3.Dims e3.Vals a14 c23 a15 c24 ⟨(hI.get (.s .z)), (hI.get .z), trivial⟩ r6 hx13) ?_)
  rintro _ w15 ⟨a16, c27, a17, c28, rfl, hx14, hl6⟩
  refine ⟨_, rfl, ?_⟩
  replace hI := (hI.ext hx14).adds hl6
  refine sm ?_
  refine sq (y_extract rfl et rfl) ?_
  refine sq (y_extract rfl et rfl) ?_
  refine l_alloc (cs := ZTensor) hI gn rfl rfl zero_41 rfl ?_
  clear hI; intro b4 c29 w16 hI
  refine l_store (new := (lTensor r6.1 a16 c27 a17 c28)) (cs' := (ATensor r6.1 a16 c27 a17 c28)) hI .z gn rfl rfl et et rfl size_41 rfl rfl rfl ?_
  clear hI; intro c30 w17 hI
  refine sa ?_
  refine nk (c_region rfl ?_)
  refine sm ?_
  refine sq (y_loadN (l := (lTensor r6.1 a16 c27 a17 c28)) rfl et u41 rfl size_41 (CellsAt.of_blk (hI.blk .z) rfl)) ?_
  refine l_lit (c := cGTensor) (xs := ([r6.1] : List GTensor)) (vs := [(0, (Value.agg (ATensor r6.1 a16 c27 a17 c28)))]) (cs := (ATensor r6.1 a16 c27 a17 c28)) (css := [(lTensor r6.1 a16 c27 a17 c28)]) hI gn rfl rfl u25 info_41 rfl ⟨rfl, et, trivial⟩ (by kernel_rfl) ⟨⟨a16, c27, a17, c28, rfl, hI.get .z, hI.get (.s .z)⟩, trivial⟩ rfl rfl rfl ?_
  clear hI; intro b5 c31 w18 hI
  obtain ⟨zs1, hx15, h⟩ := bnd_some h
  refine l_append (xs := out4) (ys := ([r6.1] : List GTensor)) hI (.s (.s (.s .z))) (hI.rd .z) hx15 gn rfl rfl u25 info_41 rfl rfl et et ?_
  clear hI; intro a18 c32 c33 w19 hI
  refine sa ?_
  refine nk (c_region rfl ?_)
  refine sq (y_add rfl et ev_const) ?_
  refine sm ?_
  refine s_nil ?_
  exact k_loop (fuel2, zs1, wi64 (i2 + 1), a18, c32) ⟨rfl, rfl, rfl, rfl, rfl, rfl, trivial⟩ ⟨_, hI.arr (.c (.s (.s (.s .z))) .n) ⟨(.s (.s (.s (.s .z)))), (.s (.s (.s (.s (.s .z))))), (.s (.s (.s (.s (.s (.s .z)))))), (.s (.s (.s (.s (.s (.s (.s .z))))))), trivial⟩, h⟩ (Nat.lt_succ_self _)
 refine c_exit ?_
 refine k_in ?_
 exact k_join (out4, a13, c21) ⟨rfl, rfl, rfl, trivial⟩ ⟨_, hI.arr (.c .z .n) ⟨.z, (.s .z), (.s (.s .z)), trivial⟩, h⟩ rfl
theorem c_ref53_Plain (F : NP) (w0 : World) (hF : ∀ k, F k → k < w0.heap.size) (s1 : List Int) (a1 : Option Addr) (c1 : Nat) (hc : AllCl [Cl.sl (cInt .i64) a1 c1 s1] F w0) (r : Bool)
  (h : m_ref53_Plain s1 = some r) :
  Calls Tryz.prog 60 #[vs a1 s1.length c1] w0 fun e w => e = .returned (vb r) ∧ Ext w0 w ∧ AllCl [] F w := by
 refine enterK Tryz.func60 rfl Tryz.ntmps60 rfl ?_
 have hI := Bun.start hF hc
 clear hc
 rw [m_ref53_Plain] at h
 refine sr (sac ?_)
 refine nk (c_seq (sr (sac ?_)))
 refine nk (c_block (c_loop (α := Nat × Int) (fun x => fun w => ∃ C, Bun noM F w0 C w [] [Cl.sl (cInt .i64) a1 c1 s1] ∧ m_ref53_Plain_l1 s1 (x.1) (x.2) = some r) (fun x _ => x.1) (fun x => [(0, vs a1 s1.length c1), (3, vi (x.2))]) (fu, 0) ⟨_, hI.arr .n ⟨.z, trivial⟩, h⟩ ⟨rfl, rfl, trivial⟩ ?_))
 clear h hI; rintro ⟨fuel1, i1⟩ w1 ⟨c2, hI, h⟩
 dsimp only at hI h
 rcases fuel1 with _ | fuel1
 ·rw [m_ref53_Plain_l1] at h; cases h
 rw [m_ref53_Plain_l1] at h
 refine c_sub (e := [(0, vs a1 s1.length c1), (3, vi i1)]) ⟨rfl, rfl, trivial⟩ ?_
 refine c_seq (sr (sm ?_))
 refine sm ?_
 refine sq (y_lenl rfl u42 et) ?_
 refine sq (y_lss rfl et et) ?_
 refine nk (cif h et (fun hb h => ?_) (fun hb h => ?_))
 ·refine c_skip (k_same (c_join (α := Unit) (fun _ => ⟨37, []⟩) (fun _ => [(0, vs a1 s1.length c1), (3, vi i1)]) (fun _ => fun w => ∃ C, Bun noM F w0 C w [] [Cl.sl (cInt .i64) a1 c1 s1] ∧ m_ref53_Plain_j1 (m_ref53_Plain_l1 s1 fuel1) i1 = some r) ?_ ?_))
  ·clear h hI; rintro _ w2 ⟨c3, hI, h⟩
   try dsimp only at hI h
   rw [m_ref53_Plain_j1] at h
   refine c_sub (e := [(0, vs a1 s1.length c1), (3, vi i1)]) ⟨rfl, rfl, trivial⟩ ?_
   refine c_region rfl ?_
   refine sm ?_
   refine sq (y_add rfl et ev_const) ?_
   refine sa ?_
   refine s_nil ?_
   exact k_loop (fuel1, wi64 (i1 + 1)) ⟨rfl, rfl, trivial⟩ ⟨_, hI.arr .n ⟨.z, trivial⟩, h⟩ (Nat.lt_succ_self _)
  refine c_block (c_join (α := Unit) (fun _ => ⟨37, []⟩) (fun _ => [(0, vs a1 s1.length c1), (3, vi i1)]) (fun _ => fun w => ∃ C, Bun noM F w0 C w [] [Cl.sl (cInt .i64) a1 c1 s1] ∧ m_ref53_Plain_j2 s1 i1 (m_ref53_Plain_l1 s1 fuel1) = some r) ?_ ?_)
  ·clear h hI; rintro _ w3 ⟨c4, hI, h⟩
   try dsimp only at hI h
   rw [m_ref53_Plain_j2] at h
   refine c_sub (e := [(0, vs a1 s1.length c1), (3, vi i1)]) ⟨rfl, rfl, trivial⟩ ?_
   refine sr (sm ?_)
   refine sm ?_
   obtain ⟨e1, hx1, h⟩ := bnd_some h
   obtain ⟨ad1, cs1, hA1, hr1, hq1⟩ := hI.clat .z hx1
   obtain rfl : cs1 = [vi e1] := hr1
   refine sq (y_indexAddr rfl u42 size_3 et et (lat_bd hx1) hA1) ?_
   refine sq (y_load1 (v := (vi e1)) rfl et u3 rfl hq1.1) ?_
   refine sq (y_lss rfl et ev_const) ?_
   refine nk (cif h et (fun hb h => ?_) (fun hb h => ?_))
   ·refine sr (sac ?_)
    refine nk (c_ret ?_)
    obtain rfl := some_inj h
    exact q_ret (vs := [vb false]) Tryz.results60 ⟨ev_tmp rfl rfl, trivial⟩ (fq hI trivial)
   exact c_skip (k_join () ⟨rfl, rfl, trivial⟩ ⟨_, hI.arr .n ⟨.z, trivial⟩, h⟩ rfl)
  refine sr (sac ?_)
  refine nk (c_block (c_loop (α := Nat × Int) (fun x => fun w => ∃ C, Bun noM F w0 C w [] [Cl.sl (cInt .i64) a1 c1 s1] ∧ m_ref53_Plain_l2 i1 s1 (m_ref53_Plain_l1 s1 fuel1) (x.1) (x.2) = some r) (fun x _ => x.1) (fun x => [(0, vs a1 s1.length c1), (3, vi i1), (4, vi (x.2))]) (fu, 0) ⟨_, hI.arr .n ⟨.z, trivial⟩, h⟩ ⟨rfl, rfl, rfl, trivial⟩ ?_))
  clear h hI; rintro ⟨fuel2, k1⟩ w4 ⟨c5, hI, h⟩
  dsimp only at hI h
  rcases fuel2 with _ | fuel2
  ·rw [m_ref53_Plain_l2] at h; cases h
  rw [m_ref53_Plain_l2] at h
  refine c_sub (e := [(0, vs a1 s1.length c1), (3, vi i1), (4, vi k1)]) ⟨rfl, rfl, rfl, trivial⟩ ?_
  refine c_seq (sr (sm ?_))
  refine sm ?_
  refine sq (y_lss rfl et et) ?_
  refine nk (cif h et (fun hb h => ?_) (fun hb h => ?_))
  ·refine c_skip (k_same (c_seq (c_block (c_seq (c_drawX [] false (.c (0, .q) (.c (1, .q) (.c (2, .q) (.c (3, .q) (.c (4, .q) (.c (5, .q) (.c (6, .q) (.c (7, .q) (.c (8, .q) (.c (9, .q) (.c (10, .q) (.c (11, .q) (.c (12, .q) (.c (13, .q) (.c (14, .q) (.c (15, .q) .n)))))))))))))))) hI (by kernel_rfl) (by kernel_rfl) ?_)))))
   clear hI; intro w5 hI
   refine a_q rfl gn rfl (fun w' => y_move rfl et) ?_
   refine a_q rfl gn rfl (fun w' => y_move rfl et) ?_
   obtain ⟨e2, hx2, h⟩ := bnd_some h
   obtain ⟨ad2, cs2, hA2, hr2, hq2⟩ := hI.clat .z hx2
   obtain rfl : cs2 = [vi e2] := hr2
   refine a_q rfl gn rfl (fun w' => y_indexAddr rfl u42 size_3 et et (lat_bd hx2) hA2) ?_
   refine a_read rfl gn rfl (fun w' hw' => (y_load1 (v := (vi e2)) rfl et u3 rfl (hq2.at_ (SX.any rfl hw')))) (by kernel_rfl) ?_
   refine a_q rfl gn rfl (fun w' => y_move rfl et) ?_
   refine a_q rfl gn rfl (fun w' => y_move rfl et) ?_
   obtain ⟨e3, hx3, h⟩ := bnd_some h
   obtain ⟨ad3, cs3, hA3, hr3, hq3⟩ := hI.clat .z hx3
   obtain rfl : cs3 = [vi e3] := hr3
   refine a_q rfl gn rfl (fun w' => y_indexAddr rfl u42 size_3 et et (lat_bd hx3) hA3) ?_
   refine a_read rfl gn rfl (fun w' hw' => (y_load1 (v := (vi e3)) rfl et u3 rfl (hq3.at_ (SX.any rfl hw')))) (by kernel_rfl) ?_
   refine a_q rfl gn rfl (fun w' => y_eql rfl et et) ?_
   refine a_q rfl gn rfl (fun w' => y_move rfl et) ?_
   refine a_gval rfl (g_true rfl rfl rfl rfl) rfl (fun hc => fun w' => (y_move rfl et)) ?_
   refine a_gval rfl (g_true rfl rfl rfl rfl) rfl (fun hc => fun w' => (y_move rfl et)) ?_
   obtain ⟨e4, hx4, h⟩ := bnd_some h
   replace hx4 := gd_some hx4
   obtain ⟨ad4, cs4, hq4⟩ := hI.gclat .z hx4
   have hq5 : (decide (e2 = e3)) = true → CA (Dj F c5) w5 (ad4.add (Int.toNat i1 * 1)) [vi e4] := fun hc => by have k := hq4 hc; have e : cs4 = _ := k.2.1; rw [← e]; exact k.2.2
   refine a_gval rfl (g_true rfl rfl rfl rfl) rfl (fun hc => fun w' => (y_indexAddr rfl u42 size_3 (ev_gv et hc) (ev_gv et hc) (lat_bd (hx4 hc)) (hq4 hc).1)) ?_
   refine a_gread rfl (g_true rfl rfl rfl rfl) rfl (fun hc => fun w' hw' => (y_load1 (v := (vi e4)) rfl (ev_gv et hc) u3 rfl ((hq5 hc).at_ (SX.any rfl hw')))) (by kernel_rfl) ?_
   refine a_gval rfl (g_true rfl rfl rfl rfl) rfl (fun hc => fun w' => (y_geq rfl (ev_gv et hc) ev_const)) ?_
   refine a_q rfl gn rfl (fun w' => y_and rfl et et) ?_
   refine a_nil ?_
   refine k_same (cif h et (fun hb h => ?_) (fun hb h => ?_))
   ·refine sr (sac ?_)
    refine nk (c_ret ?_)
    obtain rfl := some_inj h
    exact q_ret (vs := [vb false]) Tryz.results60 ⟨ev_tmp rfl rfl, trivial⟩ (fq hI trivial)
   refine c_skip (k_same (c_region rfl ?_))
   refine sm ?_
   refine sq (y_add rfl et ev_const) ?_
   refine sa ?_
   refine s_nil ?_
   exact k_loop (fuel2, wi64 (k1 + 1)) ⟨rfl, rfl, rfl, trivial⟩ ⟨_, hI.arr .n ⟨.z, trivial⟩, h⟩ (Nat.lt_succ_self _)
  refine c_exit ?_
  refine k_in ?_
  exact k_join () ⟨rfl, rfl, trivial⟩ ⟨_, hI.arr .n ⟨.z, trivial⟩, h⟩ rfl
 refine c_exit ?_
 refine k_in ?_
 refine k_same (sr (sac ?_))
 refine nk (c_ret ?_)
 obtain rfl := some_inj h
 exact q_ret (vs := [vb true]) Tryz.results60 ⟨ev_tmp rfl rfl, trivial⟩ (fq hI trivial)
end Go.Proofs.YtpedfojbfbccaaaGreat
