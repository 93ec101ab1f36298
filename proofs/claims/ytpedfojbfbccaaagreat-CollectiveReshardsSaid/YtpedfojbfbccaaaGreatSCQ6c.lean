import Derived.Test.YtpedfojbfbccaaaGreatSCQ6b
namespace Go.Proofs.YtpedfojbfbccaaaGreat
open Go Go.RowKit Go.Vc
set_option maxRecDepth 100000
set_option maxHeartbeats 4000000
set_option linter.unusedVariables false
set_option linter.unusedSimpArgs false
theorem c_collective_SliceLocal_1 (F : NP) (w0 : World) (hF : ∀ k, F k → k < w0.heap.size) (dev1 : Int) (a1 : List GTensor) (a3 : GMesh) (a5 : List GTensor) (a7 : Int) (a8 : Int) (a9 : Int) (a2 : Option Addr) (c1 : Nat) (b1 : Nat) (a4 : Option Addr) (c2 : Nat) (b2 : Nat) (a6 : Option Addr) (c3 : Nat) (b3 : Nat) (b4 : Nat) (b5 : Nat) (hc : AllCl [Cl.sl cGTensor a2 c1 a1, Cl.sl (cInt .i64) a4 c2 a3.Dims, Cl.blk b1 24 #[vs a4 a3.Dims.length c2], Cl.sl cGTensor a6 c3 a5, Cl.blk b2 25 #[vs a6 a5.length c3], Cl.blk b3 3 #[vi a7], Cl.blk b4 3 #[vi a8], Cl.blk b5 3 #[vi a9]] F w0) (r : GTensor × Int)
  (h : m_collective_SliceLocal_1 dev1 a1 a3 a5 a7 a8 a9 = some r) :
  Calls Tryz.prog 38 #[vi dev1, vs a2 a1.length c1, vp b1 0, vp b2 0, vp b3 0, vp b4 0, vp b5 0] w0 fun e w => ∃ (a10 : Option Addr) (c4 : Nat) (a11 : Option Addr) (c5 : Nat), e = .returned (Value.tuple #[(Value.agg (ATensor r.1 a10 c4 a11 c5)), vi r.2]) ∧ Ext w0 w ∧ AllCl [Cl.sl (cInt .i64) a10 c4 r.1.Dims, Cl.sl cGVal a11 c5 r.1.Vals] F w := by
 refine enterK Tryz.func38 rfl Tryz.ntmps38 rfl ?_
 have hI := Bun.start hF hc
 clear hc
 rw [m_collective_SliceLocal_1] at h
 refine sr (l_alloc (cs := ZTensor) hI gn rfl rfl zero_41 rfl ?_)
 clear hI; intro b6 c6 w1 hI
 refine sac ?_
 refine nk (sr (sq (y_loadN (l := [vs a4 a3.Dims.length c2]) rfl et u24 rfl size_24 (hI.kblk (l := [vs a4 a3.Dims.length c2]) (.s (.s .z)) rfl).1) ?_))
 refine sm ?_
 obtain ⟨r1, hx1, h⟩ := bnd_some h
 refine s_call gn rfl (r_callF (vs := [(Value.agg #[vs a4 a3.Dims.length c2]), vi dev1]) rfl ok_39 ⟨et, ⟨et, trivial⟩⟩) (Calls.mono (c_mesh_Coordinates (Dj F c6) w1 hI.lt a3 dev1 a4 c2 ⟨(hI.get (.s .z)), trivial⟩ r1 hx1) ?_)
 rintro _ w2 ⟨a12, c7, rfl, hx2, hl1⟩
 refine ⟨_, rfl, ?_⟩
 replace hI := (hI.ext hx2).adds hl1
 refine sm ?_
 refine sq (y_extract rfl et rfl) ?_
 refine sq (y_extract rfl et rfl) ?_
 refine sa ?_
 refine sa ?_
 refine nk (c_seq (c_drawX [21] false (.c (0, .q) (.c (1, .q) (.c (2, .q) (.c (3, .q) (.c (4, .q) (.c (5, .q) (.c (6, .q) (.c (7, .q) (.c (8, .q) (.c (9, .q) (.c (10, .q) (.c (11, .q) (.c (12, .q) (.c (13, .q) (.c (14, .q) (.c (15, .q) (.c (16, .q) (.c (17, .q) (.c (18, .s) (.c (19, .q) (.c (20, .q) (.c (21, .s) (.c (22, .q) .n))))))))))))))))))))))) hI (by kernel_rfl) (by kernel_rfl) ?_))
 clear hI; intro w3 hI
 refine a_read rfl gn rfl (fun w' hw' => (y_load1 (v := (vs a6 a5.length c3)) rfl et u25 rfl ((hI.kblk (l := [vs a6 a5.length c3]) (.s (.s (.s (.s (.s .z))))) rfl).at_ (SX.any rfl hw')))) (by kernel_rfl) ?_
 refine a_q rfl gn rfl (fun w' => y_move rfl et) ?_
 obtain ⟨e1, hx3, h⟩ := bnd_some h
 obtain ⟨ad1, cs1, hA1, hr1, hq1⟩ := hI.clat (.s (.s (.s (.s .z)))) hx3
 obtain ⟨a13, c8, a14, c9, rfl, hf1, hf2⟩ := hr1
 have hI := hI.add (c := Cl.sl (cInt .i64) a13 c8 e1.Dims) hf1
 have hI := hI.add (c := Cl.sl cGVal a14 c9 e1.Vals) hf2
 refine a_q rfl gn rfl (fun w' => y_indexAddr rfl u25 size_41 et et (lat_bd hx3) hA1) ?_
 refine a_read rfl gn rfl (fun w' hw' => (y_loadN (l := (lTensor e1 a13 c8 a14 c9)) rfl et u41 rfl size_41 (hq1.at_ (SX.any rfl hw')))) (by kernel_rfl) ?_
 refine a_read rfl gn rfl (fun w' hw' => (y_load1 (v := (vi a7)) rfl et u3 rfl ((hI.kblk (l := [vi a7]) (.s (.s (.s (.s (.s (.s (.s (.s .z)))))))) rfl).at_ (SX.any rfl hw')))) (by kernel_rfl) ?_
 refine a_q rfl gn rfl (fun w' => y_move rfl et) ?_
 refine a_read rfl gn rfl (fun w' hw' => (y_load1 (v := (vi a8)) rfl et u3 rfl ((hI.kblk (l := [vi a8]) (.s (.s (.s (.s (.s (.s (.s (.s (.s .z))))))))) rfl).at_ (SX.any rfl hw')))) (by kernel_rfl) ?_
 obtain ⟨e2, hx4, h⟩ := bnd_some h
 obtain ⟨ad2, cs2, hA2, hr2, hq2⟩ := hI.clat (.s (.s .z)) hx4
 obtain rfl : cs2 = [vi e2] := hr2
 refine a_q rfl gn rfl (fun w' => y_indexAddr rfl u22 size_3 et et (lat_bd hx4) hA2) ?_
 refine a_read rfl gn rfl (fun w' hw' => (y_load1 (v := (vi e2)) rfl et u3 rfl (hq2.at_ (SX.any rfl hw')))) (by kernel_rfl) ?_
 refine a_read rfl gn rfl (fun w' hw' => (y_load1 (v := (vi a9)) rfl et u3 rfl ((hI.kblk (l := [vi a9]) (.s (.s (.s (.s (.s (.s (.s (.s (.s (.s .z)))))))))) rfl).at_ (SX.any rfl hw')))) (by kernel_rfl) ?_
 refine a_q rfl gn rfl (fun w' => y_mul rfl et et) ?_
 refine a_q rfl gn rfl (fun w' => y_move rfl et) ?_
 refine a_read rfl gn rfl (fun w' hw' => (y_load1 (v := (vi a8)) rfl et u3 rfl ((hI.kblk (l := [vi a8]) (.s (.s (.s (.s (.s (.s (.s (.s (.s .z))))))))) rfl).at_ (SX.any rfl hw')))) (by kernel_rfl) ?_
 obtain ⟨e3, hx5, h⟩ := bnd_some h
 obtain ⟨ad3, cs3, hA3, hr3, hq3⟩ := hI.clat (.s (.s .z)) hx5
 obtain rfl : cs3 = [vi e3] := hr3
 refine a_q rfl gn rfl (fun w' => y_indexAddr rfl u22 size_3 et et (lat_bd hx5) hA3) ?_
 refine a_read rfl gn rfl (fun w' hw' => (y_load1 (v := (vi e3)) rfl et u3 rfl (hq3.at_ (SX.any rfl hw')))) (by kernel_rfl) ?_
 refine a_q rfl gn rfl (fun w' => y_add rfl et ev_const) ?_
 refine a_read rfl gn rfl (fun w' hw' => (y_load1 (v := (vi a9)) rfl et u3 rfl ((hI.kblk (l := [vi a9]) (.s (.s (.s (.s (.s (.s (.s (.s (.s (.s .z)))))))))) rfl).at_ (SX.any rfl hw')))) (by kernel_rfl) ?_
 refine a_q rfl gn rfl (fun w' => y_mul rfl et et) ?_
 obtain ⟨r2, hx6, h⟩ := bnd_some h
 refine la_call rfl gn rfl (r_callF (vs := [(Value.agg (ATensor e1 a13 c8 a14 c9)), vi a7, (vi (wi64 (e2 * a9))), (vi (wi64 ((wi64 (e3 + 1)) * a9)))]) rfl ok_40 ⟨et, ⟨et, ⟨et, ⟨et, trivial⟩⟩⟩⟩) (Calls.mono (c_tensor_Slice (Dj F c6) w3 hI.lt e1 a7 (wi64 (e2 * a9)) (wi64 ((wi64 (e3 + 1)) * a9)) a13 c8 a14 c9 ⟨(hI.get (.s .z)), (hI.get .z), trivial⟩ r2 hx6) ?_)
 rintro _ w4 ⟨a15, c10, a16, c11, rfl, hx7, hl2⟩
 refine ⟨_, rfl, hx7, ?_⟩
 replace hI := (hI.ext hx7).adds hl2
 refine a_q rfl gn rfl (fun w' => y_extract rfl et rfl) ?_
 refine a_q rfl gn rfl (fun w' => y_extract rfl et rfl) ?_
 refine a_turn (F := F) (C := c6) rfl rfl ?_
 refine la_store (new := (lTensor r2.1 a15 c10 a16 c11)) (cs' := (ATensor r2.1 a15 c10 a16 c11)) hI .z rfl gn rfl rfl et et rfl size_41 rfl rfl rfl ?_
 clear hI; intro c12 w5 hI
 refine a_q rfl gn rfl (fun w' => y_assign rfl et) ?_
 refine a_nil ?_
 refine k_next (e := [(9, vp b6 0), (10, vi r2.2)]) ⟨rfl, rfl, trivial⟩ ?_
 refine c_ret ?_
 obtain rfl := some_inj h
 exact q_ret (vs := [(Value.agg (ATensor r2.1 a15 c10 a16 c11)), vi r2.2]) Tryz.results38 ⟨⟨_, ev_tmp rfl rfl, load_agg (l := (lTensor r2.1 a15 c10 a16 c11)) u41 rfl size_41 (CellsAt.of_blk (hI.blk .z) rfl)⟩, ⟨ev_tmp rfl rfl, trivial⟩⟩ ⟨a15, c10, a16, c11, rfl, hI.ext0, hI.fin ⟨.z, (.s .z), trivial⟩⟩
theorem c_collective_SliceLocal (F : NP) (w0 : World) (hF : ∀ k, F k → k < w0.heap.size) (m1 : GMesh) (l1 : List GTensor) (axis1 : Int) (along1 : Int) (a1 : Option Addr) (c1 : Nat) (a2 : Option Addr) (c2 : Nat) (hc : AllCl [Cl.sl (cInt .i64) a1 c1 m1.Dims, Cl.sl cGTensor a2 c2 l1] F w0) (r : List GTensor × Int)
  (h : m_collective_SliceLocal m1 l1 axis1 along1 = some r) :
  Calls Tryz.prog 13 #[(Value.agg #[vs a1 m1.Dims.length c1]), vs a2 l1.length c2, vi axis1, vi along1] w0 fun e w => ∃ (a3 : Option Addr) (c3 : Nat), e = .returned (Value.tuple #[vs a3 r.1.length c3, vi r.2]) ∧ Ext w0 w ∧ AllCl [Cl.sl cGTensor a3 c3 r.1] F w := by
 refine enterK Tryz.func13 rfl Tryz.ntmps13 rfl ?_
 have hI := Bun.start hF hc
 clear hc
 rw [m_collective_SliceLocal] at h
 refine sr (l_box (v := (Value.agg #[vs a1 m1.Dims.length c1])) (cs := #[vs a1 m1.Dims.length c1]) hI gn rfl rfl et rfl ?_)
 clear hI; intro b1 c4 w1 hI
 obtain ⟨c5, hI⟩ := hI.relBox .z
 refine l_box (v := (vs a2 l1.length c2)) (cs := #[vs a2 l1.length c2]) hI gn rfl rfl et rfl ?_
 clear hI; intro b2 c6 w2 hI
 obtain ⟨c7, hI⟩ := hI.relBox .z
 refine l_box (v := (vi axis1)) (cs := #[vi axis1]) hI gn rfl rfl et rfl ?_
 clear hI; intro b3 c8 w3 hI
 obtain ⟨c9, hI⟩ := hI.relBox .z
 refine l_box (v := (vi along1)) (cs := #[vi along1]) hI gn rfl rfl et rfl ?_
 clear hI; intro b4 c10 w4 hI
 obtain ⟨c11, hI⟩ := hI.relBox .z
 refine sac ?_
 refine sac ?_
 refine nk (c_seq (sr (sq (y_loadN (l := [vs a1 m1.Dims.length c1]) rfl et u24 rfl size_24 (hI.kblk (l := [vs a1 m1.Dims.length c1]) (.s (.s (.s .z))) rfl).1) ?_)))
 refine sq (y_load1 (v := (vs a2 l1.length c2)) rfl et u25 rfl (hI.kblk (l := [vs a2 l1.length c2]) (.s (.s .z)) rfl).1) ?_
 refine sq (y_load1 (v := (vi axis1)) rfl et u3 rfl (hI.kblk (l := [vi axis1]) (.s .z) rfl).1) ?_
 refine sq (y_load1 (v := (vi along1)) rfl et u3 rfl (hI.kblk (l := [vi along1]) .z rfl).1) ?_
 obtain ⟨r1, hx1, h⟩ := bnd_some h
 refine s_call gn rfl (r_callF (vs := [(Value.agg #[vs a1 m1.Dims.length c1]), vs a2 l1.length c2, vi axis1, vi along1]) rfl ok_31 ⟨et, ⟨et, ⟨et, ⟨et, trivial⟩⟩⟩⟩) (Calls.mono (c_collective_checkAxes (Dj F c11) w4 hI.lt m1 l1 axis1 along1 a1 c1 a2 c2 ⟨(hI.get (.s (.s (.s (.s .z))))), (hI.get (.s (.s (.s (.s (.s .z)))))), trivial⟩ r1 hx1) ?_)
 rintro _ w5 ⟨rfl, hx2, hl1⟩
 refine ⟨_, rfl, ?_⟩
 replace hI := (hI.ext hx2)
 refine sa ?_
 refine nk (sr (sm ?_))
 refine sq (y_neq rfl et ev_const) ?_
 refine nk (cif h et (fun hb h => ?_) (fun hb h => ?_))
 ·refine sr (sm ?_)
  refine sac ?_
  refine sa ?_
  refine nk (c_ret ?_)
  have hI := hI.add (c := Cl.sl cGTensor none 0 ([] : List GTensor)) SlC.nil
  obtain rfl := some_inj h
  exact q_ret (vs := [vs none 0 0, vi r1]) Tryz.results13 ⟨ev_tmp rfl rfl, ⟨ev_tmp rfl rfl, trivial⟩⟩ ⟨none, 0, rfl, hI.ext0, hI.fin ⟨.z, trivial⟩⟩
 refine c_skip (k_same (sr (sq (y_fieldAddr rfl et u24 rfl size_22 rfl) ?_)))
 refine sq (y_load1 (v := (vs a1 m1.Dims.length c1)) rfl et u22 rfl (hI.kblk (l := [vs a1 m1.Dims.length c1]) (.s (.s (.s .z))) rfl).1) ?_
 refine sq (y_load1 (v := (vi axis1)) rfl et u3 rfl (hI.kblk (l := [vi axis1]) (.s .z) rfl).1) ?_
 obtain ⟨e1, hx3, h⟩ := bnd_some h
 obtain ⟨ad1, cs1, hA1, hr1, hq1⟩ := hI.clat (.s (.s (.s (.s .z)))) hx3
 obtain rfl : cs1 = [vi e1] := hr1
 refine sq (y_indexAddr rfl u22 size_3 et et (lat_bd hx3) hA1) ?_
 refine sq (y_load1 (v := (vi e1)) rfl et u3 rfl hq1.1) ?_
 refine sa ?_
 refine nk (c_seq (c_seq (c_drawX [] false (.c (0, .q) (.c (1, .q) (.c (2, .q) (.c (3, .q) (.c (4, .q) (.c (5, .q) (.c (6, .q) (.c (7, .q) (.c (8, .q) (.c (9, .q) .n)))))))))) hI (by kernel_rfl) (by kernel_rfl) ?_)))
 clear hI; intro w6 hI
 refine a_read rfl gn rfl (fun w' hw' => (y_load1 (v := (vs a2 l1.length c2)) rfl et u25 rfl ((hI.kblk (l := [vs a2 l1.length c2]) (.s (.s .z)) rfl).at_ (SX.any rfl hw')))) (by kernel_rfl) ?_
 obtain ⟨e2, hx4, h⟩ := bnd_some h
 obtain ⟨ad2, cs2, hA2, hr2, hq2⟩ := hI.clat (.s (.s (.s (.s (.s .z))))) hx4
 obtain ⟨a4, c12, a5, c13, rfl, hf1, hf2⟩ := hr2
 have hI := hI.add (c := Cl.sl (cInt .i64) a4 c12 e2.Dims) hf1
 have hI := hI.add (c := Cl.sl cGVal a5 c13 e2.Vals) hf2
 refine a_q rfl gn rfl (fun w' => y_indexAddr rfl u25 size_41 et ev_const (lat_bd hx4) hA2) ?_
 refine a_q rfl gn rfl (fun w' => y_fieldAddr rfl et u41 rfl size_22 rfl) ?_
 refine a_read rfl gn rfl (fun w' hw' => (y_load1 (v := (vs a4 e2.Dims.length c12)) rfl et u22 rfl ((CA.part hq2 rfl).at_ (SX.any rfl hw')))) (by kernel_rfl) ?_
 refine a_read rfl gn rfl (fun w' hw' => (y_load1 (v := (vi along1)) rfl et u3 rfl ((hI.kblk (l := [vi along1]) (.s (.s .z)) rfl).at_ (SX.any rfl hw')))) (by kernel_rfl) ?_
 obtain ⟨e3, hx5, h⟩ := bnd_some h
 obtain ⟨ad3, cs3, hA3, hr3, hq3⟩ := hI.clat (.s .z) hx5
 obtain rfl : cs3 = [vi e3] := hr3
 refine a_q rfl gn rfl (fun w' => y_indexAddr rfl u22 size_3 et et (lat_bd hx5) hA3) ?_
 refine a_read rfl gn rfl (fun w' hw' => (y_load1 (v := (vi e3)) rfl et u3 rfl (hq3.at_ (SX.any rfl hw')))) (by kernel_rfl) ?_
 refine a_q rfl gn rfl (fun w' => y_move rfl et) ?_
 obtain ⟨ho1, h⟩ := chk_some h
 refine a_q rfl gn rfl (fun w' => y_rem rfl et et ho1) ?_
 refine a_q rfl gn rfl (fun w' => y_neq rfl et ev_const) ?_
 refine a_nil ?_
 refine k_next (e := [(4, vp b1 0), (5, vp b2 0), (6, vp b3 0), (7, vp b4 0), (11, vi e1), (36, (vb (!decide (Int.tmod e3 e1 = 0))))]) ⟨rfl, rfl, rfl, rfl, rfl, rfl, trivial⟩ ?_
 refine cif h et (fun hb h => ?_) (fun hb h => ?_)
 ·refine sr (sac ?_)
  refine sac ?_
  refine nk (c_ret ?_)
  have hI := hI.add (c := Cl.sl cGTensor none 0 ([] : List GTensor)) SlC.nil
  obtain rfl := some_inj h
  exact q_ret (vs := [vs none 0 0, vi 15]) Tryz.results13 ⟨ev_tmp rfl rfl, ⟨ev_tmp rfl rfl, trivial⟩⟩ ⟨none, 0, rfl, hI.ext0, hI.fin ⟨.z, trivial⟩⟩
 refine c_skip (k_same (c_seq (c_drawX [10] false (.c (0, .q) (.c (1, .q) (.c (2, .q) (.c (3, .q) (.c (4, .q) (.c (5, .q) (.c (6, .q) (.c (7, .q) (.c (8, .q) (.c (9, .s) (.c (10, .s) .n))))))))))) hI (by kernel_rfl) (by kernel_rfl) ?_)))
 clear hI; intro w7 hI
 refine a_read rfl gn rfl (fun w' hw' => (y_load1 (v := (vs a2 l1.length c2)) rfl et u25 rfl ((hI.kblk (l := [vs a2 l1.length c2]) (.s (.s (.s (.s .z)))) rfl).at_ (SX.any rfl hw')))) (by kernel_rfl) ?_
 obtain ⟨e4, hx6, h⟩ := bnd_some h
 obtain ⟨ad4, cs4, hA4, hr4, hq4⟩ := hI.clat (.s (.s (.s (.s (.s (.s (.s .z))))))) hx6
 obtain ⟨a6, c14, a7, c15, rfl, hf3, hf4⟩ := hr4
 have hI := hI.add (c := Cl.sl (cInt .i64) a6 c14 e4.Dims) hf3
 have hI := hI.add (c := Cl.sl cGVal a7 c15 e4.Vals) hf4
 refine a_q rfl gn rfl (fun w' => y_indexAddr rfl u25 size_41 et ev_const (lat_bd hx6) hA4) ?_
 refine a_q rfl gn rfl (fun w' => y_fieldAddr rfl et u41 rfl size_22 rfl) ?_
 refine a_read rfl gn rfl (fun w' hw' => (y_load1 (v := (vs a6 e4.Dims.length c14)) rfl et u22 rfl ((CA.part hq4 rfl).at_ (SX.any rfl hw')))) (by kernel_rfl) ?_
 refine a_read rfl gn rfl (fun w' hw' => (y_load1 (v := (vi along1)) rfl et u3 rfl ((hI.kblk (l := [vi along1]) (.s (.s (.s (.s .z)))) rfl).at_ (SX.any rfl hw')))) (by kernel_rfl) ?_
 obtain ⟨e5, hx7, h⟩ := bnd_some h
 obtain ⟨ad5, cs5, hA5, hr5, hq5⟩ := hI.clat (.s .z) hx7
 obtain rfl : cs5 = [vi e5] := hr5
 refine a_q rfl gn rfl (fun w' => y_indexAddr rfl u22 size_3 et et (lat_bd hx7) hA5) ?_
 refine a_read rfl gn rfl (fun w' hw' => (y_load1 (v := (vi e5)) rfl et u3 rfl (hq5.at_ (SX.any rfl hw')))) (by kernel_rfl) ?_
 refine a_q rfl gn rfl (fun w' => y_move rfl et) ?_
 refine a_q rfl gn rfl (fun w' => y_quo rfl et et ho1) ?_
 refine la_alloc (cs := #[vi 0]) hI rfl gn rfl rfl zero_3 rfl ?_
 clear hI; intro b5 c16 w8 hI
 refine a_turn (F := F) (C := c16) rfl rfl ?_
 refine la_store (new := [(vi (wi64 (Int.tdiv e5 e1)))]) (cs' := #[(vi (wi64 (Int.tdiv e5 e1)))]) hI .z rfl gn rfl rfl et et rfl size_3 rfl rfl rfl ?_
 clear hI; intro c17 w9 hI
 refine a_nil ?_
 refine k_same (sr (sq (y_makeFunc (vs := []) (cap := [vp b1 0, vp b2 0, vp b4 0, vp b3 0, vp b5 0]) rfl rfl ⟨et, ⟨et, ⟨et, ⟨et, ⟨et, trivial⟩⟩⟩⟩⟩) ?_))
 refine sq (y_build (vs := [(0, (Value.func (.func 38) #[] #[vp b1 0, vp b2 0, vp b4 0, vp b3 0, vp b5 0]))]) (cs := #[(Value.func (.func 38) #[] #[vp b1 0, vp b2 0, vp b4 0, vp b3 0, vp b5 0])]) rfl ⟨rfl, et, trivial⟩ (by kernel_rfl)) ?_
 refine l_alloc (cs := #[Value.nilFunc]) hI gn rfl rfl zero_60 rfl ?_
 clear hI; intro b6 c18 w10 hI
 refine l_store (new := [(Value.func (.func 38) #[] #[vp b1 0, vp b2 0, vp b4 0, vp b3 0, vp b5 0])]) (cs' := #[(Value.func (.func 38) #[] #[vp b1 0, vp b2 0, vp b4 0, vp b3 0, vp b5 0])]) hI .z gn rfl rfl et et rfl size_60 rfl rfl rfl ?_
 clear hI; intro c19 w11 hI
 refine nk (sr (sq (y_loadN (l := [(Value.func (.func 38) #[] #[vp b1 0, vp b2 0, vp b4 0, vp b3 0, vp b5 0])]) rfl et u60 rfl size_60 (CellsAt.of_blk (hI.blk .z) rfl)) ?_))
 refine sq (y_loadN (l := [vs a1 m1.Dims.length c1]) rfl et u24 rfl size_24 (hI.kblk (l := [vs a1 m1.Dims.length c1]) (.s (.s (.s (.s (.s (.s (.s .z))))))) rfl).1) ?_
 refine sq (y_load1 (v := (vs a2 l1.length c2)) rfl et u25 rfl (hI.kblk (l := [vs a2 l1.length c2]) (.s (.s (.s (.s (.s (.s .z)))))) rfl).1) ?_
 refine sq (y_load1 (v := (vi axis1)) rfl et u3 rfl (hI.kblk (l := [vi axis1]) (.s (.s (.s (.s (.s .z))))) rfl).1) ?_
 obtain ⟨c20, hI⟩ := hI.relBox (.s .z)
 have hI := hI.add (c := clFn_k1 (Value.func (.func 38) #[] #[vp b1 0, vp b2 0, vp b4 0, vp b3 0, vp b5 0]) (fun y_1 y_2 => m_collective_SliceLocal_1 y_1 y_2 m1 l1 along1 axis1 (wi64 (Int.tdiv e5 e1)))) ⟨rfl, fun D' w' hs hl x_1 x_2 A_3 c_4 r k h => CallV.fn (cap := [vp b1 0, vp b2 0, vp b4 0, vp b3 0, vp b5 0]) ok_38 (c_collective_SliceLocal_1 D' w' hl x_1 x_2 m1 l1 along1 axis1 (wi64 (Int.tdiv e5 e1)) A_3 c_4 b1 a1 c1 b2 a2 c2 b4 b3 b5 ⟨k.1, (Cl.sp _ hs (hI.get (.s (.s (.s (.s (.s (.s (.s (.s (.s .z))))))))))), (Cl.sp _ hs (hI.get (.s (.s (.s (.s (.s (.s (.s (.s .z)))))))))), (Cl.sp _ hs (hI.get (.s (.s (.s (.s (.s (.s (.s (.s (.s (.s .z)))))))))))), (Cl.sp _ hs (hI.get (.s (.s (.s (.s (.s (.s (.s .z))))))))), (Cl.sp _ hs (hI.get (.s (.s (.s (.s (.s .z))))))), (Cl.sp _ hs (hI.get (.s (.s (.s (.s (.s (.s .z)))))))), (Cl.sp _ hs (hI.get .z)), trivial⟩ r h)⟩
 obtain ⟨r2, hx8, h⟩ := bnd_some h
 refine s_call gn rfl (r_callF (vs := [(Value.agg #[(Value.func (.func 38) #[] #[vp b1 0, vp b2 0, vp b4 0, vp b3 0, vp b5 0])]), (Value.agg #[vs a1 m1.Dims.length c1]), vs a2 l1.length c2, vi axis1]) rfl ok_34 ⟨et, ⟨et, ⟨et, ⟨et, trivial⟩⟩⟩⟩) (Calls.mono (c_collective_operation_apply (Dj F c20) w11 hI.lt (⟨(fun y_1 y_2 => m_collective_SliceLocal_1 y_1 y_2 m1 l1 along1 axis1 (wi64 (Int.tdiv e5 e1)))⟩ : Gcollective_operation) m1 l1 axis1 (Value.func (.func 38) #[] #[vp b1 0, vp b2 0, vp b4 0, vp b3 0, vp b5 0]) a1 c1 a2 c2 ⟨(hI.get .z), (hI.get (.s (.s (.s (.s (.s (.s (.s (.s (.s (.s .z))))))))))), (hI.get (.s (.s (.s (.s (.s (.s (.s (.s (.s (.s (.s .z)))))))))))), trivial⟩ r2 hx8) ?_)
 rintro _ w12 ⟨a8, c21, rfl, hx9, hl2⟩
 refine ⟨_, rfl, ?_⟩
 replace hI := (hI.ext hx9).adds hl2
 refine sq (y_extract rfl et rfl) ?_
 refine sq (y_extract rfl et rfl) ?_
 refine sa ?_
 refine sa ?_
 refine s_nil ?_
 refine k_next (e := [(8, vs a8 r2.1.length c21), (9, vi r2.2)]) ⟨rfl, rfl, trivial⟩ ?_
 refine c_ret ?_
 obtain rfl := some_inj h
 exact q_ret (vs := [vs a8 r2.1.length c21, vi r2.2]) Tryz.results13 ⟨ev_tmp rfl rfl, ⟨ev_tmp rfl rfl, trivial⟩⟩ ⟨a8, c21, rfl, hI.ext0, hI.fin ⟨.z, trivial⟩⟩
theorem c_collective_ReduceScatter (F : NP) (w0 : World) (hF : ∀ k, F k → k < w0.heap.size) (m1 : GMesh) (l1 : List GTensor) (axis1 : Int) (along1 : Int) (fold1 : Int) (a1 : Option Addr) (c1 : Nat) (a2 : Option Addr) (c2 : Nat) (hc : AllCl [Cl.sl (cInt .i64) a1 c1 m1.Dims, Cl.sl cGTensor a2 c2 l1] F w0) (r : List GTensor × Int)
  (h : m_collective_ReduceScatter m1 l1 axis1 along1 fold1 = some r) :
  Calls Tryz.prog 18 #[(Value.agg #[vs a1 m1.Dims.length c1]), vs a2 l1.length c2, vi axis1, vi along1, vi fold1] w0 fun e w => ∃ (a3 : Option Addr) (c3 : Nat), e = .returned (Value.tuple #[vs a3 r.1.length c3, vi r.2]) ∧ Ext w0 w ∧ AllCl [Cl.sl cGTensor a3 c3 r.1] F w := by
 refine enterK Tryz.func18 rfl Tryz.ntmps18 rfl ?_
 have hI := Bun.start hF hc
 clear hc
 rw [m_collective_ReduceScatter] at h
 refine sr (l_box (v := (Value.agg #[vs a1 m1.Dims.length c1])) (cs := #[vs a1 m1.Dims.length c1]) hI gn rfl rfl et rfl ?_)
 clear hI; intro b1 c4 w1 hI
 obtain ⟨c5, hI⟩ := hI.relBox .z
 refine sac ?_
 refine sac ?_
 refine nk (sr (sq (y_loadN (l := [vs a1 m1.Dims.length c1]) rfl et u24 rfl size_24 (hI.kblk (l := [vs a1 m1.Dims.length c1]) .z rfl).1) ?_))
 refine sm ?_
 refine sm ?_
 refine sm ?_
 obtain ⟨r1, hx1, h⟩ := bnd_some h
 refine s_call gn rfl (r_callF (vs := [(Value.agg #[vs a1 m1.Dims.length c1]), vs a2 l1.length c2, vi axis1, vi fold1]) rfl ok_16 ⟨et, ⟨et, ⟨et, ⟨et, trivial⟩⟩⟩⟩) (Calls.mono (c_collective_AllReduce (Dj F c5) w1 hI.lt m1 l1 axis1 fold1 a1 c1 a2 c2 ⟨(hI.get (.s .z)), (hI.get (.s (.s .z))), trivial⟩ r1 hx1) ?_)
 rintro _ w2 ⟨a4, c6, rfl, hx2, hl1⟩
 refine ⟨_, rfl, ?_⟩
 replace hI := (hI.ext hx2).adds hl1
 refine sm ?_
 refine sq (y_extract rfl et rfl) ?_
 refine sq (y_extract rfl et rfl) ?_
 refine sa ?_
 refine sa ?_
 refine nk (c_seq (sr (sm ?_)))
 refine sq (y_neq rfl et ev_const) ?_
 refine nk (cif h et (fun hb h => ?_) (fun hb h => ?_))
 ·refine sr (sm ?_)
  refine sac ?_
  refine sa ?_
  refine nk (c_ret ?_)
  have hI := hI.add (c := Cl.sl cGTensor none 0 ([] : List GTensor)) SlC.nil
  obtain rfl := some_inj h
  exact q_ret (vs := [vs none 0 0, vi r1.2]) Tryz.results18 ⟨ev_tmp rfl rfl, ⟨ev_tmp rfl rfl, trivial⟩⟩ ⟨none, 0, rfl, hI.ext0, hI.fin ⟨.z, trivial⟩⟩
 refine c_skip (k_same (sr (sq (y_loadN (l := [vs a1 m1.Dims.length c1]) rfl et u24 rfl size_24 (hI.kblk (l := [vs a1 m1.Dims.length c1]) (.s .z) rfl).1) ?_)))
 refine sm ?_
 refine sm ?_
 refine sm ?_
 obtain ⟨r2, hx3, h⟩ := bnd_some h
 refine s_call gn rfl (r_callF (vs := [(Value.agg #[vs a1 m1.Dims.length c1]), vs a4 r1.1.length c6, vi axis1, vi along1]) rfl ok_13 ⟨et, ⟨et, ⟨et, ⟨et, trivial⟩⟩⟩⟩) (Calls.mono (c_collective_SliceLocal (Dj F c5) w2 hI.lt m1 r1.1 axis1 along1 a1 c1 a4 c6 ⟨(hI.get (.s (.s .z))), (hI.get .z), trivial⟩ r2 hx3) ?_)
 rintro _ w3 ⟨a5, c7, rfl, hx4, hl2⟩
 refine ⟨_, rfl, ?_⟩
 replace hI := (hI.ext hx4).adds hl2
 refine sq (y_extract rfl et rfl) ?_
 refine sq (y_extract rfl et rfl) ?_
 refine sa ?_
 refine sa ?_
 refine s_nil ?_
 refine k_next (e := [(10, vs a5 r2.1.length c7), (11, vi r2.2)]) ⟨rfl, rfl, trivial⟩ ?_
 refine c_ret ?_
 obtain rfl := some_inj h
 exact q_ret (vs := [vs a5 r2.1.length c7, vi r2.2]) Tryz.results18 ⟨ev_tmp rfl rfl, ⟨ev_tmp rfl rfl, trivial⟩⟩ ⟨a5, c7, rfl, hI.ext0, hI.fin ⟨.z, trivial⟩⟩
theorem c_collective_plain (F : NP) (w0 : World) (hF : ∀ k, F k → k < w0.heap.size) (s1 : List Int) (a1 : Option Addr) (c1 : Nat) (hc : AllCl [Cl.sl (cInt .i64) a1 c1 s1] F w0) (r : Bool)
  (h : m_collective_plain s1 = some r) :
  Calls Tryz.prog 61 #[vs a1 s1.length c1] w0 fun e w => e = .returned (vb r) ∧ Ext w0 w ∧ AllCl [] F w := by
 refine enterK Tryz.func61 rfl Tryz.ntmps61 rfl ?_
 have hI := Bun.start hF hc
 clear hc
 rw [m_collective_plain] at h
 refine sr (sac ?_)
 refine nk (c_seq (sr (sm ?_)))
 refine sq (y_lenl rfl u42 et) ?_
 refine sq (y_move rfl ev_const) ?_
 refine nk (c_block (c_loop (α := Nat × Int) (fun x => fun w => ∃ C, Bun noM F w0 C w [] [Cl.sl (cInt .i64) a1 c1 s1] ∧ m_collective_plain_l1 s1 (x.1) (x.2) = some r) (fun x _ => x.1) (fun x => [(0, vs a1 s1.length c1), (7, vs a1 s1.length c1), (8, vi (s1.length : Int)), (9, vi (x.2))]) (fu, 0) ⟨_, hI.arr .n ⟨.z, trivial⟩, h⟩ ⟨rfl, rfl, rfl, rfl, trivial⟩ ?_))
 clear h hI; rintro ⟨fuel1, i1⟩ w1 ⟨c2, hI, h⟩
 dsimp only at hI h
 rcases fuel1 with _ | fuel1
 ·rw [m_collective_plain_l1] at h; cases h
 rw [m_collective_plain_l1] at h
 refine c_sub (e := [(0, vs a1 s1.length c1), (7, vs a1 s1.length c1), (8, vi (s1.length : Int)), (9, vi i1)]) ⟨rfl, rfl, rfl, rfl, trivial⟩ ?_
 refine sr (sq (y_lss rfl et et) ?_)
 refine nk (c_seq (cif h et (fun hb h => ?_) (fun hb h => ?_)))
 ·refine c_skip (k_same (c_join (α := Unit) (fun _ => ⟨33, []⟩) (fun _ => [(0, vs a1 s1.length c1), (7, vs a1 s1.length c1), (8, vi (s1.length : Int)), (9, vi i1)]) (fun _ => fun w => ∃ C, Bun noM F w0 C w [] [Cl.sl (cInt .i64) a1 c1 s1] ∧ m_collective_plain_j1 (m_collective_plain_l1 s1 fuel1) i1 = some r) ?_ ?_))
  ·clear h hI; rintro _ w2 ⟨c3, hI, h⟩
   try dsimp only at hI h
   rw [m_collective_plain_j1] at h
   refine c_sub (e := [(0, vs a1 s1.length c1), (7, vs a1 s1.length c1), (8, vi (s1.length : Int)), (9, vi i1)]) ⟨rfl, rfl, rfl, rfl, trivial⟩ ?_
   refine c_region rfl ?_
   refine sq (y_add rfl et ev_const) ?_
   refine sm ?_
   refine s_nil ?_
   exact k_loop (fuel1, wi64 (i1 + 1)) ⟨rfl, rfl, rfl, rfl, trivial⟩ ⟨_, hI.arr .n ⟨.z, trivial⟩, h⟩ (Nat.lt_succ_self _)
  refine c_block (sr (sm ?_))
  obtain ⟨e1, hx1, h⟩ := bnd_some h
  obtain ⟨ad1, cs1, hA1, hr1, hq1⟩ := hI.clat .z hx1
  obtain rfl : cs1 = [vi e1] := hr1
  refine sq (y_indexAddr rfl u42 size_3 et et (lat_bd hx1) hA1) ?_
  refine sq (y_load1 (v := (vi e1)) rfl et u3 rfl hq1.1) ?_
  refine sa ?_
  refine sa ?_
  refine nk (c_seq (sr (sm ?_)))
  refine sq (y_lss rfl et ev_const) ?_
  refine nk (cif h et (fun hb h => ?_) (fun hb h => ?_))
  ·refine sr (sac ?_)
   refine nk (c_ret ?_)
   obtain rfl := some_inj h
   exact q_ret (vs := [vb false]) Tryz.results61 ⟨ev_tmp rfl rfl, trivial⟩ (fq hI trivial)
  refine c_skip (k_same (sr (sm ?_)))
  refine sm ?_
  obtain ⟨zs1, hx2, h⟩ := bnd_some h
  refine sq (y_lupto rfl u42 size_3 et et hx2 (hI.cap_ .z)) ?_
  replace hI := hI.upto .z hx2
  refine sq (y_lenl rfl u42 et) ?_
  refine sq (y_move rfl ev_const) ?_
  refine nk (c_block (c_loop (α := Nat × Int) (fun x => fun w => ∃ C, Bun noM F w0 C w [] [Cl.sl (cInt .i64) a1 c1 s1, Cl.sl (cInt .i64) a1 c1 zs1] ∧ m_collective_plain_l2 zs1 e1 (m_collective_plain_l1 s1 fuel1) i1 (x.1) (x.2) = some r) (fun x _ => x.1) (fun x => [(0, vs a1 s1.length c1), (7, vs a1 s1.length c1), (8, vi (s1.length : Int)), (9, vi i1), (4, vi e1), (18, vs a1 zs1.length c1), (19, vi (zs1.length : Int)), (20, vi (x.2))]) (fu, 0) ⟨_, hI.arr .n ⟨(.s .z), .z, trivial⟩, h⟩ ⟨rfl, rfl, rfl, rfl, rfl, rfl, rfl, rfl, trivial⟩ ?_))
  clear h hI; rintro ⟨fuel2, i2⟩ w3 ⟨c4, hI, h⟩
  dsimp only at hI h
  rcases fuel2 with _ | fuel2
  ·rw [m_collective_plain_l2] at h; cases h
  rw [m_collective_plain_l2] at h
  refine c_sub (e := [(0, vs a1 s1.length c1), (7, vs a1 s1.length c1), (8, vi (s1.length : Int)), (9, vi i1), (4, vi e1), (18, vs a1 zs1.length c1), (19, vi (zs1.length : Int)), (20, vi i2)]) ⟨rfl, rfl, rfl, rfl, rfl, rfl, rfl, rfl, trivial⟩ ?_
  refine sr (sq (y_lss rfl et et) ?_)
  refine nk (c_seq (cif h et (fun hb h => ?_) (fun hb h => ?_)))
  ·refine c_skip (k_same (c_seq (c_block (sr ?_))))
   obtain ⟨e2, hx3, h⟩ := bnd_some h
   obtain ⟨ad2, cs2, hA2, hr2, hq2⟩ := hI.clat (.s .z) hx3
   obtain rfl : cs2 = [vi e2] := hr2
   refine sq (y_indexAddr rfl u42 size_3 et et (lat_bd hx3) hA2) ?_
   refine sq (y_load1 (v := (vi e2)) rfl et u3 rfl hq2.1) ?_
   refine sa ?_
   refine nk (sr (sm ?_))
   refine sq (y_geq rfl et ev_const) ?_
   refine sm ?_
   refine s_gval (g_true rfl rfl rfl rfl) rfl (fun hc => y_move rfl et) ?_
   refine s_gval (g_true rfl rfl rfl rfl) rfl (fun hc => y_move rfl et) ?_
   refine s_gval (g_true rfl rfl rfl rfl) rfl (fun hc => y_eql rfl (ev_gv et hc) (ev_gv et hc)) ?_
   refine sq (y_and rfl et et) ?_
   refine nk (cif h et (fun hb h => ?_) (fun hb h => ?_))
   ·refine sr (sac ?_)
    refine nk (c_ret ?_)
    obtain rfl := some_inj h
    exact q_ret (vs := [vb false]) Tryz.results61 ⟨ev_tmp rfl rfl, trivial⟩ (fq hI trivial)
   refine c_skip (k_same (c_region rfl ?_))
   refine sq (y_add rfl et ev_const) ?_
   refine sm ?_
   refine s_nil ?_
   exact k_loop (fuel2, wi64 (i2 + 1)) ⟨rfl, rfl, rfl, rfl, rfl, rfl, rfl, rfl, trivial⟩ ⟨_, hI.arr .n ⟨.z, (.s .z), trivial⟩, h⟩ (Nat.lt_succ_self _)
  refine c_exit ?_
  refine k_in ?_
  exact k_join () ⟨rfl, rfl, rfl, rfl, trivial⟩ ⟨_, hI.arr .n ⟨.z, trivial⟩, h⟩ rfl
 refine c_exit ?_
 refine k_in ?_
 refine k_same (sr (sac ?_))
 refine nk (c_ret ?_)
 obtain rfl := some_inj h
 exact q_ret (vs := [vb true]) Tryz.results61 ⟨ev_tmp rfl rfl, trivial⟩ (fq hI trivial)
theorem c_collective_receiver (F : NP) (w0 : World) (hF : ∀ k, F k → k < w0.heap.size) (from1 : List Int) (to1 : List Int) (x1 : Int) (a1 : Option Addr) (c1 : Nat) (a2 : Option Addr) (c2 : Nat) (hc : AllCl [Cl.sl (cInt .i64) a1 c1 from1, Cl.sl (cInt .i64) a2 c2 to1] F w0) (r : Int)
  (h : m_collective_receiver from1 to1 x1 = some r) :
  Calls Tryz.prog 62 #[vs a1 from1.length c1, vs a2 to1.length c2, vi x1] w0 fun e w => e = .returned (vi r) ∧ Ext w0 w ∧ AllCl [] F w := by
 refine enterK Tryz.func62 rfl Tryz.ntmps62 rfl ?_
 have hI := Bun.start hF hc
 clear hc
 rw [m_collective_receiver] at h
 refine sr (sac ?_)
 refine nk (c_seq (sr (sm ?_)))
 refine sq (y_lenl rfl u42 et) ?_
 refine sq (y_move rfl ev_const) ?_
 refine nk (c_block (c_loop (α := Nat × Int) (fun x => fun w => ∃ C, Bun noM F w0 C w [] [Cl.sl (cInt .i64) a1 c1 from1, Cl.sl (cInt .i64) a2 c2 to1] ∧ m_collective_receiver_l1 to1 x1 from1 (x.1) (x.2) = some r) (fun x _ => x.1) (fun x => [(0, vs a1 from1.length c1), (2, vi x1), (9, vs a2 to1.length c2), (10, vi (to1.length : Int)), (11, vi (x.2))]) (fu, 0) ⟨_, hI.arr .n ⟨.z, (.s .z), trivial⟩, h⟩ ⟨rfl, rfl, rfl, rfl, rfl, trivial⟩ ?_))
 clear h hI; rintro ⟨fuel1, i1⟩ w1 ⟨c3, hI, h⟩
 dsimp only at hI h
 rcases fuel1 with _ | fuel1
 ·rw [m_collective_receiver_l1] at h; cases h
 rw [m_collective_receiver_l1] at h
 refine c_sub (e := [(0, vs a1 from1.length c1), (2, vi x1), (9, vs a2 to1.length c2), (10, vi (to1.length : Int)), (11, vi i1)]) ⟨rfl, rfl, rfl, rfl, rfl, trivial⟩ ?_
 refine sr (sq (y_lss rfl et et) ?_)
 refine nk (c_seq (cif h et (fun hb h => ?_) (fun hb h => ?_)))
 ·refine c_skip (k_same (c_seq (c_block (sr (sm ?_)))))
  obtain ⟨e1, hx1, h⟩ := bnd_some h
  obtain ⟨ad1, cs1, hA1, hr1, hq1⟩ := hI.clat (.s .z) hx1
  obtain rfl : cs1 = [vi e1] := hr1
  refine sq (y_indexAddr rfl u42 size_3 et et (lat_bd hx1) hA1) ?_
  refine sq (y_load1 (v := (vi e1)) rfl et u3 rfl hq1.1) ?_
  refine sa ?_
  refine sa ?_
  refine nk (sr (sm ?_))
  refine sm ?_
  refine sq (y_eql rfl et et) ?_
  refine sm ?_
  refine s_gval (g_true rfl rfl rfl rfl) rfl (fun hc => y_move rfl et) ?_
  refine s_gval (g_true rfl rfl rfl rfl) rfl (fun hc => y_move rfl et) ?_
  obtain ⟨e2, hx2, h⟩ := bnd_some h
  replace hx2 := gd_some hx2
  obtain ⟨ad2, cs2, hq2⟩ := hI.gclat .z hx2
  have hq3 : (decide (e1 = x1)) = true → CA (Dj F c3) w1 (ad2.add (Int.toNat i1 * 1)) [vi e2] := fun hc => by have k := hq2 hc; have e : cs2 = _ := k.2.1; rw [← e]; exact k.2.2
  refine s_gval (g_true rfl rfl rfl rfl) rfl (fun hc => (y_indexAddr rfl u42 size_3 (ev_gv et hc) (ev_gv et hc) (lat_bd (hx2 hc)) (hq2 hc).1)) ?_
  refine s_gval (g_true rfl rfl rfl rfl) rfl (fun hc => (y_load1 (v := (vi e2)) rfl (ev_gv et hc) u3 rfl (hq3 hc).1)) ?_
  refine s_gval (g_true rfl rfl rfl rfl) rfl (fun hc => y_eql rfl (ev_gv et hc) ev_const) ?_
  refine sq (y_and rfl et et) ?_
  refine nk (cif h et (fun hb h => ?_) (fun hb h => ?_))
  ·refine sr (sm ?_)
   refine sa ?_
   refine nk (c_ret ?_)
   obtain rfl := some_inj h
   exact q_ret (vs := [vi i1]) Tryz.results62 ⟨ev_tmp rfl rfl, trivial⟩ (fq hI trivial)
  refine c_skip (k_same (c_region rfl ?_))
  refine sq (y_add rfl et ev_const) ?_
  refine sm ?_
  refine s_nil ?_
  exact k_loop (fuel1, wi64 (i1 + 1)) ⟨rfl, rfl, rfl, rfl, rfl, trivial⟩ ⟨_, hI.arr .n ⟨.z, (.s .z), trivial⟩, h⟩ (Nat.lt_succ_self _)
 refine c_exit ?_
 refine k_in ?_
 refine k_same (sr (sac ?_))
 refine nk (c_ret ?_)
 obtain rfl := some_inj h
 exact q_ret (vs := [vi (-1)]) Tryz.results62 ⟨ev_tmp rfl rfl, trivial⟩ (fq hI trivial)
theorem c_collective_Plan (F : NP) (w0 : World) (hF : ∀ k, F k → k < w0.heap.size) (from1 : List Int) (to1 : List Int) (a1 : Option Addr) (c1 : Nat) (a2 : Option Addr) (c2 : Nat) (hc : AllCl [Cl.sl (cInt .i64) a1 c1 from1, Cl.sl (cInt .i64) a2 c2 to1] F w0) (r : List GTransfer)
  (h : m_collective_Plan from1 to1 = some r) :
  Calls Tryz.prog 30 #[vs a1 from1.length c1, vs a2 to1.length c2] w0 fun e w => ∃ (a3 : Option Addr) (c3 : Nat), e = .returned (vs a3 r.length c3) ∧ Ext w0 w ∧ AllCl [Cl.sl cGTransfer a3 c3 r] F w := by
 refine enterK Tryz.func30 rfl Tryz.ntmps30 rfl ?_
 have hI := Bun.start hF hc
 clear hc
 rw [m_collective_Plan] at h
 refine sr (sac ?_)
 refine nk (c_seq (sr (sm ?_)))
 refine sq (y_lenl rfl u42 et) ?_
 refine sm ?_
 refine sq (y_lenl rfl u42 et) ?_
 refine sq (y_neq rfl et et) ?_
 refine sm ?_
 refine s_gval (g_false rfl rfl rfl rfl) rfl (fun hc => y_move rfl et) ?_
 obtain ⟨r1, hx1, h⟩ := bnd_some h
 replace hx1 := gd_some hx1
 refine s_gcallU (v := (vb r1)) (g_false rfl rfl rfl rfl) rfl (fun hc => (r_callF (vs := [vs a1 from1.length c1]) rfl ok_61 ⟨(ev_gv et hc), trivial⟩)) (fun hc => (c_collective_plain (Dj F noM) w0 hI.lt from1 a1 c1 ⟨(hI.get .z), trivial⟩ r1 (hx1 hc)).mono fun _ _ k => ⟨k.1, k.2.1⟩) ?_
 intro w1 hx2; replace hI := hI.ext hx2
 refine s_gval (g_false rfl rfl rfl rfl) rfl (fun hc => y_not rfl (ev_gv et hc)) ?_
 refine sq (y_or rfl et et) ?_
 refine sm ?_
 refine s_gval (g_false rfl rfl rfl rfl) rfl (fun hc => y_move rfl et) ?_
 obtain ⟨r2, hx3, h⟩ := bnd_some h
 replace hx3 := gd_some hx3
 refine s_gcallU (v := (vb r2)) (g_false rfl rfl rfl rfl) rfl (fun hc => (r_callF (vs := [vs a2 to1.length c2]) rfl ok_61 ⟨(ev_gv et hc), trivial⟩)) (fun hc => (c_collective_plain (Dj F noM) w1 hI.lt to1 a2 c2 ⟨(hI.get (.s .z)), trivial⟩ r2 (hx3 hc)).mono fun _ _ k => ⟨k.1, k.2.1⟩) ?_
 intro w2 hx4; replace hI := hI.ext hx4
 refine s_gval (g_false rfl rfl rfl rfl) rfl (fun hc => y_not rfl (ev_gv et hc)) ?_
 refine sq (y_or rfl et et) ?_
 refine nk (cif h et (fun hb h => ?_) (fun hb h => ?_))
 ·refine sr (sac ?_)
  refine nk (c_ret ?_)
  have hI := hI.add (c := Cl.sl cGTransfer none 0 ([] : List GTransfer)) SlC.nil
  obtain rfl := some_inj h
  exact q_ret (vs := [vs none 0 0]) Tryz.results30 ⟨ev_tmp rfl rfl, trivial⟩ ⟨none, 0, rfl, hI.ext0, hI.fin ⟨.z, trivial⟩⟩
 refine c_skip (k_same (sr (sac ?_)))
 refine nk (sr (l_makeMap (kInt .i64) Value.bool hI gn rfl rfl ?_))
 clear hI; intro b1 c4 w3 hI
 refine sa ?_
 refine nk (c_join (α := (List GTransfer) × (List (Int × Bool)) × (Option Addr) × Nat) (fun _ => ⟨100, []⟩) (fun x => [(0, vs a1 from1.length c1), (1, vs a2 to1.length c2), (5, vs (x.2.2.1) (x.1).length (x.2.2.2)), (6, (Value.map (some b1)))]) (fun x => fun w => ∃ C, Bun noM F w0 C w [MO.row cGTransfer 54 (x.2.2.1) (x.2.2.2) (x.1), MO.map (kInt .i64) Value.bool b1 (x.2.1)] [Cl.sl (cInt .i64) a1 c1 from1, Cl.sl (cInt .i64) a2 c2 to1] ∧ m_collective_Plan_j1 to1 from1 (x.1) (x.2.1) = some r) ?_ ?_)
 ·clear h hI; rintro ⟨out1, m1, a4, c5⟩ w4 ⟨c6, hI, h⟩
  try dsimp only at hI h
  rw [m_collective_Plan_j1] at h
  refine c_sub (e := [(0, vs a1 from1.length c1), (1, vs a2 to1.length c2), (5, vs a4 out1.length c5), (6, (Value.map (some b1)))]) ⟨rfl, rfl, rfl, rfl, trivial⟩ ?_
  refine c_seq (sr (sm ?_))
  refine sq (y_lenl rfl u42 et) ?_
  refine sq (y_move rfl ev_const) ?_
  refine nk (c_block (c_loop (α := Nat × (List GTransfer) × Int × (Option Addr) × Nat) (fun x => fun w => ∃ C, Bun noM F w0 C w [MO.row cGTransfer 54 (x.2.2.2.1) (x.2.2.2.2) (x.2.1), MO.map (kInt .i64) Value.bool b1 m1] [Cl.sl (cInt .i64) a1 c1 from1, Cl.sl (cInt .i64) a2 c2 to1] ∧ m_collective_Plan_l1 to1 from1 m1 (x.1) (x.2.1) (x.2.2.1) = some r) (fun x _ => x.1) (fun x => [(0, vs a1 from1.length c1), (5, vs (x.2.2.2.1) (x.2.1).length (x.2.2.2.2)), (6, (Value.map (some b1))), (68, vs a2 to1.length c2), (69, vi (to1.length : Int)), (70, vi (x.2.2.1))]) (fu, out1, 0, a4, c5) ⟨_, hI.arr (.c .z (.c .z .n)) ⟨.z, (.s .z), trivial⟩, h⟩ ⟨rfl, rfl, rfl, rfl, rfl, rfl, trivial⟩ ?_))
  clear h hI; rintro ⟨fuel1, out2, i1, a5, c7⟩ w5 ⟨c8, hI, h⟩
  dsimp only at hI h
  rcases fuel1 with _ | fuel1
  ·rw [m_collective_Plan_l1] at h; cases h
  rw [m_collective_Plan_l1] at h
  refine c_sub (e := [(0, vs a1 from1.length c1), (5, vs a5 out2.length c7), (6, (Value.map (some b1))), (68, vs a2 to1.length c2), (69, vi (to1.length : Int)), (70, vi i1)]) ⟨rfl, rfl, rfl, rfl, rfl, rfl, trivial⟩ ?_
  refine sr (sq (y_lss rfl et et) ?_)
  refine nk (c_seq (cif h et (fun hb h => ?_) (fun hb h => ?_)))
  ·refine c_skip (k_same (c_join (α := (List GTransfer) × (Option Addr) × Nat) (fun _ => ⟨100, []⟩) (fun x => [(0, vs a1 from1.length c1), (5, vs (x.2.1) (x.1).length (x.2.2)), (6, (Value.map (some b1))), (68, vs a2 to1.length c2), (69, vi (to1.length : Int)), (70, vi i1)]) (fun x => fun w => ∃ C, Bun noM F w0 C w [MO.row cGTransfer 54 (x.2.1) (x.2.2) (x.1), MO.map (kInt .i64) Value.bool b1 m1] [Cl.sl (cInt .i64) a1 c1 from1, Cl.sl (cInt .i64) a2 c2 to1] ∧ m_collective_Plan_j2 (m_collective_Plan_l1 to1 from1 m1 fuel1) i1 (x.1) = some r) ?_ ?_))
   ·clear h hI; rintro ⟨out3, a6, c9⟩ w6 ⟨c10, hI, h⟩
    try dsimp only at hI h
    rw [m_collective_Plan_j2] at h
    refine c_sub (e := [(0, vs a1 from1.length c1), (5, vs a6 out3.length c9), (6, (Value.map (some b1))), (68, vs a2 to1.length c2), (69, vi (to1.length : Int)), (70, vi i1)]) ⟨rfl, rfl, rfl, rfl, rfl, rfl, trivial⟩ ?_
    refine c_region rfl ?_
    refine sq (y_add rfl et ev_const) ?_
    refine sm ?_
    refine s_nil ?_
    exact k_loop (fuel1, out3, wi64 (i1 + 1), a6, c9) ⟨rfl, rfl, rfl, rfl, rfl, rfl, trivial⟩ ⟨_, hI.arr (.c .z (.c .z .n)) ⟨.z, (.s .z), trivial⟩, h⟩ (Nat.lt_succ_self _)
   refine c_block (sr (sm ?_))
   obtain ⟨e1, hx5, h⟩ := bnd_some h
   obtain ⟨ad1, cs1, hA1, hr1, hq1⟩ := hI.clat (.s .z) hx5
   obtain rfl : cs1 = [vi e1] := hr1
   refine sq (y_indexAddr rfl u42 size_3 et et (lat_bd hx5) hA1) ?_
   refine sq (y_load1 (v := (vi e1)) rfl et u3 rfl hq1.1) ?_
   refine sa ?_
   refine sa ?_
   refine nk (sr (sm ?_))
   refine sq (y_geq rfl et ev_const) ?_
   refine sm ?_
   refine s_gval (g_true rfl rfl rfl rfl) rfl (fun hc => y_move rfl et) ?_
   refine s_gval (g_true rfl rfl rfl rfl) rfl (fun hc => y_move rfl et) ?_
   obtain ⟨e2, hx6, h⟩ := bnd_some h
   replace hx6 := gd_some hx6
   obtain ⟨ad2, cs2, hq2⟩ := hI.gclat .z hx6
   have hq3 : (decide (0 ≤ e1)) = true → CA (Dj F c8) w5 (ad2.add (Int.toNat i1 * 1)) [vi e2] := fun hc => by have k := hq2 hc; have e : cs2 = _ := k.2.1; rw [← e]; exact k.2.2
   refine s_gval (g_true rfl rfl rfl rfl) rfl (fun hc => (y_indexAddr rfl u42 size_3 (ev_gv et hc) (ev_gv et hc) (lat_bd (hx6 hc)) (hq2 hc).1)) ?_
   refine s_gval (g_true rfl rfl rfl rfl) rfl (fun hc => (y_load1 (v := (vi e2)) rfl (ev_gv et hc) u3 rfl (hq3 hc).1)) ?_
   refine s_gval (g_true rfl rfl rfl rfl) rfl (fun hc => y_move rfl et) ?_
   refine s_gval (g_true rfl rfl rfl rfl) rfl (fun hc => y_neq rfl (ev_gv et hc) (ev_gv et hc)) ?_
   refine sq (y_and rfl et et) ?_
   refine sm ?_
   refine s_gval (g_true rfl rfl rfl rfl) rfl (fun hc => y_move rfl et) ?_
   refine s_gval (g_true rfl rfl rfl rfl) rfl (fun hc => y_move rfl et) ?_
   refine s_gval (g_true rfl rfl rfl rfl) rfl (fun hc => (y_lookup rfl (ev_gv et hc) (ev_gv et hc) (hI.mlk (.s .z) u84 u3 (z0 := false) zero_4 i1))) ?_
   refine s_gval (g_true rfl rfl rfl rfl) rfl (fun hc => y_not rfl (ev_gv et hc)) ?_
   refine sq (y_and rfl et et) ?_
   refine nk (cif h et (fun hb h => ?_) (fun hb h => ?_))
   ·refine c_region rfl ?_
    refine sm ?_
    refine sm ?_
    refine sm ?_
    refine sm ?_
    refine sq (y_build (vs := [(0, vi 4), (1, vi e1), (2, vi i1), (3, vi i1)]) (cs := #[vi 4, vi e1, vi i1, vi i1, (str ([] : List UInt8))]) rfl ⟨rfl, ev_const, ⟨rfl, et, ⟨rfl, et, ⟨rfl, et, trivial⟩⟩⟩⟩ (by kernel_rfl)) ?_
    refine l_lit (c := cGTransfer) (xs := ([(⟨4, e1, i1, i1, ([] : List UInt8)⟩ : GTransfer)] : List GTransfer)) (vs := [(0, (Value.agg #[vi 4, vi e1, vi i1, vi i1, (str ([] : List UInt8))]))]) (cs := #[vi 4, vi e1, vi i1, vi i1, (str ([] : List UInt8))]) (css := [[vi 4, vi e1, vi i1, vi i1, (str ([] : List UInt8))]]) hI gn rfl rfl u51 info_54 rfl ⟨rfl, et, trivial⟩ (by kernel_rfl) ⟨rfl, trivial⟩ rfl rfl rfl ?_
    clear hI; intro b2 c11 w7 hI
    obtain ⟨zs1, hx7, h⟩ := bnd_some h
    refine l_append (xs := out2) (ys := ([(⟨4, e1, i1, i1, ([] : List UInt8)⟩ : GTransfer)] : List GTransfer)) hI (.s .z) (hI.rd .z) hx7 gn rfl rfl u51 info_54 rfl rfl et et ?_
    clear hI; intro a7 c12 c13 w8 hI
    refine sa ?_
    refine s_nil ?_
    exact k_join (zs1, a7, c12) ⟨rfl, rfl, rfl, rfl, rfl, rfl, trivial⟩ ⟨_, hI.arr (.c (.s .z) (.c (.s .z) .n)) ⟨.z, (.s .z), trivial⟩, h⟩ rfl
   exact c_skip (k_join (out2, a5, c7) ⟨rfl, rfl, rfl, rfl, rfl, rfl, trivial⟩ ⟨_, hI.arr (.c .z (.c .z .n)) ⟨.z, (.s .z), trivial⟩, h⟩ rfl)
  refine c_exit ?_
  refine k_in ?_
  refine k_same (sr (sm ?_))
  refine sa ?_
  refine nk (c_ret ?_)
  obtain ⟨c14, hI⟩ := hI.release .z
  obtain rfl := some_inj h
  exact q_ret (vs := [vs a5 out2.length c7]) Tryz.results30 ⟨ev_tmp rfl rfl, trivial⟩ ⟨a5, c7, rfl, hI.ext0, hI.fin ⟨.z, trivial⟩⟩
 refine sr (sm ?_)
 refine sq (y_lenl rfl u42 et) ?_
 refine sq (y_move rfl ev_const) ?_
 refine nk (c_block ?_)
 have hI := hI.nil cGTransfer 54 none
 refine c_loop (α := Nat × (List GTransfer) × Int × (List (Int × Bool)) × (Option Addr) × Nat) (fun x => fun w => ∃ C, Bun noM F w0 C w [MO.row cGTransfer 54 (x.2.2.2.2.1) (x.2.2.2.2.2) (x.2.1), MO.map (kInt .i64) Value.bool b1 (x.2.2.2.1)] [Cl.sl (cInt .i64) a1 c1 from1, Cl.sl (cInt .i64) a2 c2 to1] ∧ m_collective_Plan_l2 from1 to1 (x.1) (x.2.1) (x.2.2.1) (x.2.2.2.1) = some r) (fun x _ => x.1) (fun x => [(0, vs a1 from1.length c1), (1, vs a2 to1.length c2), (5, vs (x.2.2.2.2.1) (x.2.1).length (x.2.2.2.2.2)), (6, (Value.map (some b1))), (28, vs a1 from1.length c1), (29, vi (from1.length : Int)), (30, vi (x.2.2.1))]) (fu, ([] : List GTransfer), 0, ([] : List (Int × Bool)), none, 0) ⟨_, hI.arr (.c .z (.c .z .n)) ⟨.z, (.s .z), trivial⟩, h⟩ ⟨rfl, rfl, rfl, rfl, rfl, rfl, rfl, trivial⟩ ?_
 clear h hI; rintro ⟨fuel2, out4, i2, m2, a8, c15⟩ w9 ⟨c16, hI, h⟩
 dsimp only at hI h
 rcases fuel2 with _ | fuel2
 ·rw [m_collective_Plan_l2] at h; cases h
 rw [m_collective_Plan_l2] at h
 refine c_sub (e := [(0, vs a1 from1.length c1), (1, vs a2 to1.length c2), (5, vs a8 out4.length c15), (6, (Value.map (some b1))), (28, vs a1 from1.length c1), (29, vi (from1.length : Int)), (30, vi i2)]) ⟨rfl, rfl, rfl, rfl, rfl, rfl, rfl, trivial⟩ ?_
 refine sr (sq (y_lss rfl et et) ?_)
 refine nk (c_seq (cif h et (fun hb h => ?_) (fun hb h => ?_)))
 ·refine c_skip (k_same (c_join (α := (List GTransfer) × (List (Int × Bool)) × (Option Addr) × Nat) (fun _ => ⟨100, []⟩) (fun x => [(0, vs a1 from1.length c1), (1, vs a2 to1.length c2), (5, vs (x.2.2.1) (x.1).length (x.2.2.2)), (6, (Value.map (some b1))), (28, vs a1 from1.length c1), (29, vi (from1.length : Int)), (30, vi i2)]) (fun x => fun w => ∃ C, Bun noM F w0 C w [MO.row cGTransfer 54 (x.2.2.1) (x.2.2.2) (x.1), MO.map (kInt .i64) Value.bool b1 (x.2.1)] [Cl.sl (cInt .i64) a1 c1 from1, Cl.sl (cInt .i64) a2 c2 to1] ∧ m_collective_Plan_j3 (m_collective_Plan_l2 from1 to1 fuel2) i2 (x.1) (x.2.1) = some r) ?_ ?_))
  ·clear h hI; rintro ⟨out5, m3, a9, c17⟩ w10 ⟨c18, hI, h⟩
   try dsimp only at hI h
   rw [m_collective_Plan_j3] at h
   refine c_sub (e := [(0, vs a1 from1.length c1), (1, vs a2 to1.length c2), (5, vs a9 out5.length c17), (6, (Value.map (some b1))), (28, vs a1 from1.length c1), (29, vi (from1.length : Int)), (30, vi i2)]) ⟨rfl, rfl, rfl, rfl, rfl, rfl, rfl, trivial⟩ ?_
   refine c_region rfl ?_
   refine sq (y_add rfl et ev_const) ?_
   refine sm ?_
   refine s_nil ?_
   exact k_loop (fuel2, out5, wi64 (i2 + 1), m3, a9, c17) ⟨rfl, rfl, rfl, rfl, rfl, rfl, rfl, trivial⟩ ⟨_, hI.arr (.c .z (.c .z .n)) ⟨.z, (.s .z), trivial⟩, h⟩ (Nat.lt_succ_self _)
  refine c_block (sr (sm ?_))
  obtain ⟨e3, hx8, h⟩ := bnd_some h
  obtain ⟨ad3, cs3, hA3, hr3, hq4⟩ := hI.clat .z hx8
  obtain rfl : cs3 = [vi e3] := hr3
  refine sq (y_indexAddr rfl u42 size_3 et et (lat_bd hx8) hA3) ?_
  refine sq (y_load1 (v := (vi e3)) rfl et u3 rfl hq4.1) ?_
  refine sa ?_
  refine sa ?_
  refine nk (c_seq (sr (sm ?_)))
  refine sq (y_lss rfl et ev_const) ?_
  refine sm ?_
  refine s_gval (g_false rfl rfl rfl rfl) rfl (fun hc => y_move rfl et) ?_
  refine s_gval (g_false rfl rfl rfl rfl) rfl (fun hc => y_move rfl et) ?_
  obtain ⟨e4, hx9, h⟩ := bnd_some h
  replace hx9 := gd_some hx9
  obtain ⟨ad4, cs4, hq5⟩ := hI.gclat (.s .z) hx9
  have hq6 : (!(decide (e3 < 0))) = true → CA (Dj F c16) w9 (ad4.add (Int.toNat i2 * 1)) [vi e4] := fun hc => by have k := hq5 hc; have e : cs4 = _ := k.2.1; rw [← e]; exact k.2.2
  refine s_gval (g_false rfl rfl rfl rfl) rfl (fun hc => (y_indexAddr rfl u42 size_3 (ev_gv et hc) (ev_gv et hc) (lat_bd (hx9 hc)) (hq5 hc).1)) ?_
  refine s_gval (g_false rfl rfl rfl rfl) rfl (fun hc => (y_load1 (v := (vi e4)) rfl (ev_gv et hc) u3 rfl (hq6 hc).1)) ?_
  refine s_gval (g_false rfl rfl rfl rfl) rfl (fun hc => y_move rfl et) ?_
  refine s_gval (g_false rfl rfl rfl rfl) rfl (fun hc => y_eql rfl (ev_gv et hc) (ev_gv et hc)) ?_
  refine sq (y_or rfl et et) ?_
  refine nk (cif h et (fun hb h => ?_) (fun hb h => ?_))
  ·refine c_exit ?_
   refine k_in ?_
   exact k_join (out4, m2, a8, c15) ⟨rfl, rfl, rfl, rfl, rfl, rfl, rfl, trivial⟩ ⟨_, hI.arr (.c .z (.c .z .n)) ⟨.z, (.s .z), trivial⟩, h⟩ rfl
  refine c_skip (k_same (sr (sm ?_)))
  refine sm ?_
  refine sm ?_
  obtain ⟨r3, hx10, h⟩ := bnd_some h
  refine s_call gn rfl (r_callF (vs := [vs a1 from1.length c1, vs a2 to1.length c2, vi e3]) rfl ok_62 ⟨et, ⟨et, ⟨et, trivial⟩⟩⟩) (Calls.mono (c_collective_receiver (Dj F c16) w9 hI.lt from1 to1 e3 a1 c1 a2 c2 ⟨(hI.get .z), (hI.get (.s .z)), trivial⟩ r3 hx10) ?_)
  rintro _ w11 ⟨rfl, hx11, hl3⟩
  refine ⟨_, rfl, ?_⟩
  replace hI := (hI.ext hx11)
  refine sa ?_
  refine nk (sr (sm ?_))
  refine sq (y_geq rfl et ev_const) ?_
  refine nk (cif h et (fun hb h => ?_) (fun hb h => ?_))
  ·refine sr (sm ?_)
   refine sm ?_
   refine l_mapUpdate (k := r3) (u := true) hI (.s .z) gn rfl rfl et et ev_const u84 u3 ?_
   clear hI; intro c19 w12 hI
   refine nk (c_region rfl ?_)
   refine sm ?_
   refine sm ?_
   refine sm ?_
   refine sm ?_
   refine sq (y_build (vs := [(0, vi 3), (1, vi e3), (2, vi i2), (3, vi r3)]) (cs := #[vi 3, vi e3, vi i2, vi r3, (str ([] : List UInt8))]) rfl ⟨rfl, ev_const, ⟨rfl, et, ⟨rfl, et, ⟨rfl, et, trivial⟩⟩⟩⟩ (by kernel_rfl)) ?_
   refine l_lit (c := cGTransfer) (xs := ([(⟨3, e3, i2, r3, ([] : List UInt8)⟩ : GTransfer)] : List GTransfer)) (vs := [(0, (Value.agg #[vi 3, vi e3, vi i2, vi r3, (str ([] : List UInt8))]))]) (cs := #[vi 3, vi e3, vi i2, vi r3, (str ([] : List UInt8))]) (css := [[vi 3, vi e3, vi i2, vi r3, (str ([] : List UInt8))]]) hI gn rfl rfl u51 info_54 rfl ⟨rfl, et, trivial⟩ (by kernel_rfl) ⟨rfl, trivial⟩ rfl rfl rfl ?_
   clear hI; intro b3 c20 w13 hI
   obtain ⟨zs2, hx12, h⟩ := bnd_some h
   refine l_append (xs := out4) (ys := ([(⟨3, e3, i2, r3, ([] : List UInt8)⟩ : GTransfer)] : List GTransfer)) hI (.s .z) (hI.rd .z) hx12 gn rfl rfl u51 info_54 rfl rfl et et ?_
   clear hI; intro a10 c21 c22 w14 hI
   refine sa ?_
   refine s_nil ?_
   exact k_join (zs2, mput m2 r3 true, a10, c21) ⟨rfl, rfl, rfl, rfl, rfl, rfl, rfl, trivial⟩ ⟨_, hI.arr (.c (.s .z) (.c (.s .z) .n)) ⟨.z, (.s .z), trivial⟩, h⟩ rfl
  refine c_region rfl ?_
  refine sm ?_
  refine sm ?_
  refine sm ?_
  refine sm ?_
  refine sq (y_build (vs := [(0, vi 1), (1, vi e3), (2, vi i2), (3, vi i2)]) (cs := #[vi 1, vi e3, vi i2, vi i2, (str ([] : List UInt8))]) rfl ⟨rfl, ev_const, ⟨rfl, et, ⟨rfl, et, ⟨rfl, et, trivial⟩⟩⟩⟩ (by kernel_rfl)) ?_
  refine l_lit (c := cGTransfer) (xs := ([(⟨1, e3, i2, i2, ([] : List UInt8)⟩ : GTransfer)] : List GTransfer)) (vs := [(0, (Value.agg #[vi 1, vi e3, vi i2, vi i2, (str ([] : List UInt8))]))]) (cs := #[vi 1, vi e3, vi i2, vi i2, (str ([] : List UInt8))]) (css := [[vi 1, vi e3, vi i2, vi i2, (str ([] : List UInt8))]]) hI gn rfl rfl u51 info_54 rfl ⟨rfl, et, trivial⟩ (by kernel_rfl) ⟨rfl, trivial⟩ rfl rfl rfl ?_
  clear hI; intro b4 c23 w15 hI
  obtain ⟨zs3, hx13, h⟩ := bnd_some h
  refine l_append (xs := out4) (ys := ([(⟨1, e3, i2, i2, ([] : List UInt8)⟩ : GTransfer)] : List GTransfer)) hI (.s .z) (hI.rd .z) hx13 gn rfl rfl u51 info_54 rfl rfl et et ?_
  clear hI; intro a11 c24 c25 w16 hI
  refine sa ?_
  refine s_nil ?_
  exact k_join (zs3, m2, a11, c24) ⟨rfl, rfl, rfl, rfl, rfl, rfl, rfl, trivial⟩ ⟨_, hI.arr (.c (.s .z) (.c (.s .z) .n)) ⟨.z, (.s .z), trivial⟩, h⟩ rfl
 refine c_exit ?_
 refine k_in ?_
 exact k_join (out4, m2, a8, c15) ⟨rfl, rfl, rfl, rfl, trivial⟩ ⟨_, hI.arr (.c .z (.c .z .n)) ⟨.z, (.s .z), trivial⟩, h⟩ rfl
theorem c_base_Ints (F : NP) (w0 : World) (hF : ∀ k, F k → k < w0.heap.size) (a1 : List Int) (b1 : List Int) (a2 : Option Addr) (c1 : Nat) (a3 : Option Addr) (c2 : Nat) (hc : AllCl [Cl.sl (cInt .i64) a2 c1 a1, Cl.sl (cInt .i64) a3 c2 b1] F w0) (r : Bool)
  (h : m_base_Ints a1 b1 = some r) :
  Calls Tryz.prog 50 #[vs a2 a1.length c1, vs a3 b1.length c2] w0 fun e w => e = .returned (vb r) ∧ Ext w0 w ∧ AllCl [] F w := by
 refine enterK Tryz.func50 rfl Tryz.ntmps50 rfl ?_
 have hI := Bun.start hF hc
 clear hc
 rw [m_base_Ints] at h
 refine sr (sac ?_)
 refine nk (c_seq (sr (sm ?_)))
 refine sq (y_lenl rfl u22 et) ?_
 refine sm ?_
 refine sq (y_lenl rfl u22 et) ?_
 refine sq (y_neq rfl et et) ?_
 refine nk (cif h et (fun hb h => ?_) (fun hb h => ?_))
 ·refine sr (sac ?_)
  refine nk (c_ret ?_)
  obtain rfl := some_inj h
  exact q_ret (vs := [vb false]) Tryz.results50 ⟨ev_tmp rfl rfl, trivial⟩ (fq hI trivial)
 refine c_skip (k_same (c_seq (sr (sac ?_))))
 refine nk (c_block (c_loop (α := Nat × Int) (fun x => fun w => ∃ C, Bun noM F w0 C w [] [Cl.sl (cInt .i64) a2 c1 a1, Cl.sl (cInt .i64) a3 c2 b1] ∧ m_base_Ints_l1 a1 b1 (x.1) (x.2) = some r) (fun x _ => x.1) (fun x => [(0, vs a2 a1.length c1), (1, vs a3 b1.length c2), (5, vi (x.2))]) (fu, 0) ⟨_, hI.arr .n ⟨.z, (.s .z), trivial⟩, h⟩ ⟨rfl, rfl, rfl, trivial⟩ ?_))
 clear h hI; rintro ⟨fuel1, i1⟩ w1 ⟨c3, hI, h⟩
 dsimp only at hI h
 rcases fuel1 with _ | fuel1
 ·rw [m_base_Ints_l1] at h; cases h
 rw [m_base_Ints_l1] at h
 refine c_sub (e := [(0, vs a2 a1.length c1), (1, vs a3 b1.length c2), (5, vi i1)]) ⟨rfl, rfl, rfl, trivial⟩ ?_
 refine c_seq (sr (sm ?_))
 refine sm ?_
 refine sq (y_lenl rfl u22 et) ?_
 refine sq (y_lss rfl et et) ?_
 refine nk (cif h et (fun hb h => ?_) (fun hb h => ?_))
 ·refine c_skip (k_same (c_seq (c_block (c_seq (c_drawX [] false (.c (0, .q) (.c (1, .q) (.c (2, .q) (.c (3, .q) (.c (4, .q) (.c (5, .q) (.c (6, .q) (.c (7, .q) (.c (8, .q) .n))))))))) hI (by kernel_rfl) (by kernel_rfl) ?_)))))
  clear hI; intro w2 hI
  refine a_q rfl gn rfl (fun w' => y_move rfl et) ?_
  refine a_q rfl gn rfl (fun w' => y_move rfl et) ?_
  obtain ⟨e1, hx1, h⟩ := bnd_some h
  obtain ⟨ad1, cs1, hA1, hr1, hq1⟩ := hI.clat .z hx1
  obtain rfl : cs1 = [vi e1] := hr1
  refine a_q rfl gn rfl (fun w' => y_indexAddr rfl u22 size_3 et et (lat_bd hx1) hA1) ?_
  refine a_read rfl gn rfl (fun w' hw' => (y_load1 (v := (vi e1)) rfl et u3 rfl (hq1.at_ (SX.any rfl hw')))) (by kernel_rfl) ?_
  refine a_q rfl gn rfl (fun w' => y_move rfl et) ?_
  refine a_q rfl gn rfl (fun w' => y_move rfl et) ?_
  obtain ⟨e2, hx2, h⟩ := bnd_some h
  obtain ⟨ad2, cs2, hA2, hr2, hq2⟩ := hI.clat (.s .z) hx2
  obtain rfl : cs2 = [vi e2] := hr2
  refine a_q rfl gn rfl (fun w' => y_indexAddr rfl u22 size_3 et et (lat_bd hx2) hA2) ?_
  refine a_read rfl gn rfl (fun w' hw' => (y_load1 (v := (vi e2)) rfl et u3 rfl (hq2.at_ (SX.any rfl hw')))) (by kernel_rfl) ?_
  refine a_q rfl gn rfl (fun w' => y_neq rfl et et) ?_
  refine a_nil ?_
  refine k_same (cif h et (fun hb h => ?_) (fun hb h => ?_))
  ·refine sr (sac ?_)
   refine nk (c_ret ?_)
   obtain rfl := some_inj h
   exact q_ret (vs := [vb false]) Tryz.results50 ⟨ev_tmp rfl rfl, trivial⟩ (fq hI trivial)
  refine c_skip (k_same (c_region rfl ?_))
  refine sm ?_
  refine sq (y_add rfl et ev_const) ?_
  refine sa ?_
  refine s_nil ?_
  exact k_loop (fuel1, wi64 (i1 + 1)) ⟨rfl, rfl, rfl, trivial⟩ ⟨_, hI.arr .n ⟨.z, (.s .z), trivial⟩, h⟩ (Nat.lt_succ_self _)
 refine c_exit ?_
 refine k_in ?_
 refine k_same (sr (sac ?_))
 refine nk (c_ret ?_)
 obtain rfl := some_inj h
 exact q_ret (vs := [vb true]) Tryz.results50 ⟨ev_tmp rfl rfl, trivial⟩ (fq hI trivial)
theorem c_base_Vals (F : NP) (w0 : World) (hF : ∀ k, F k → k < w0.heap.size) (a1 : List GVal) (b1 : List GVal) (a2 : Option Addr) (c1 : Nat) (a3 : Option Addr) (c2 : Nat) (hc : AllCl [Cl.sl cGVal a2 c1 a1, Cl.sl cGVal a3 c2 b1] F w0) (r : Bool)
  (h : m_base_Vals a1 b1 = some r) :
  Calls Tryz.prog 51 #[vs a2 a1.length c1, vs a3 b1.length c2] w0 fun e w => e = .returned (vb r) ∧ Ext w0 w ∧ AllCl [] F w := by
 refine enterK Tryz.func51 rfl Tryz.ntmps51 rfl ?_
 have hI := Bun.start hF hc
 clear hc
 rw [m_base_Vals] at h
 refine sr (sac ?_)
 refine nk (c_seq (sr (sm ?_)))
 refine sq (y_lenl rfl u39 et) ?_
 refine sm ?_
 refine sq (y_lenl rfl u39 et) ?_
 refine sq (y_neq rfl et et) ?_
 refine nk (cif h et (fun hb h => ?_) (fun hb h => ?_))
 ·refine sr (sac ?_)
  refine nk (c_ret ?_)
  obtain rfl := some_inj h
  exact q_ret (vs := [vb false]) Tryz.results51 ⟨ev_tmp rfl rfl, trivial⟩ (fq hI trivial)
 refine c_skip (k_same (c_seq (sr (sac ?_))))
 refine nk (c_block (c_loop (α := Nat × Int) (fun x => fun w => ∃ C, Bun noM F w0 C w [] [Cl.sl cGVal a2 c1 a1, Cl.sl cGVal a3 c2 b1] ∧ m_base_Vals_l1 a1 b1 (x.1) (x.2) = some r) (fun x _ => x.1) (fun x => [(0, vs a2 a1.length c1), (1, vs a3 b1.length c2), (5, vi (x.2))]) (fu, 0) ⟨_, hI.arr .n ⟨.z, (.s .z), trivial⟩, h⟩ ⟨rfl, rfl, rfl, trivial⟩ ?_))
 clear h hI; rintro ⟨fuel1, i1⟩ w1 ⟨c3, hI, h⟩
 dsimp only at hI h
 rcases fuel1 with _ | fuel1
 ·rw [m_base_Vals_l1] at h; cases h
 rw [m_base_Vals_l1] at h
 refine c_sub (e := [(0, vs a2 a1.length c1), (1, vs a3 b1.length c2), (5, vi i1)]) ⟨rfl, rfl, rfl, trivial⟩ ?_
 refine c_seq (sr (sm ?_))
 refine sm ?_
 refine sq (y_lenl rfl u39 et) ?_
 refine sq (y_lss rfl et et) ?_
 refine nk (cif h et (fun hb h => ?_) (fun hb h => ?_))
 ·refine c_skip (k_same (c_seq (c_block (c_seq (c_drawX [] false (.c (0, .q) (.c (1, .q) (.c (2, .q) (.c (3, .q) (.c (4, .q) (.c (5, .q) (.c (6, .q) (.c (7, .q) (.c (8, .q) .n))))))))) hI (by kernel_rfl) (by kernel_rfl) ?_)))))
  clear hI; intro w2 hI
  refine a_q rfl gn rfl (fun w' => y_move rfl et) ?_
  refine a_q rfl gn rfl (fun w' => y_move rfl et) ?_
  obtain ⟨e1, hx1, h⟩ := bnd_some h
  obtain ⟨ad1, cs1, hA1, hr1, hq1⟩ := hI.clat .z hx1
  obtain rfl : cs1 = (lVal e1) := hr1
  refine a_q rfl gn rfl (fun w' => y_indexAddr rfl u39 size_68 et et (lat_bd hx1) hA1) ?_
  refine a_read rfl gn rfl (fun w' hw' => (y_loadN (l := (lVal e1)) rfl et u68 rfl size_68 (hq1.at_ (SX.any rfl hw')))) (by kernel_rfl) ?_
  refine a_q rfl gn rfl (fun w' => y_move rfl et) ?_
  refine a_q rfl gn rfl (fun w' => y_move rfl et) ?_
  obtain ⟨e2, hx2, h⟩ := bnd_some h
  obtain ⟨ad2, cs2, hA2, hr2, hq2⟩ := hI.clat (.s .z) hx2
  obtain rfl : cs2 = (lVal e2) := hr2
  refine a_q rfl gn rfl (fun w' => y_indexAddr rfl u39 size_68 et et (lat_bd hx2) hA2) ?_
  refine a_read rfl gn rfl (fun w' hw' => (y_loadN (l := (lVal e2)) rfl et u68 rfl size_68 (hq2.at_ (SX.any rfl hw')))) (by kernel_rfl) ?_
  refine a_q rfl gn rfl (fun w' => y_bin rfl et et (eqstruct_68n ..) (eqguard_68 ..)) ?_
  refine a_nil ?_
  refine k_same (cif h et (fun hb h => ?_) (fun hb h => ?_))
  ·refine sr (sac ?_)
   refine nk (c_ret ?_)
   obtain rfl := some_inj h
   exact q_ret (vs := [vb false]) Tryz.results51 ⟨ev_tmp rfl rfl, trivial⟩ (fq hI trivial)
  refine c_skip (k_same (c_region rfl ?_))
  refine sm ?_
  refine sq (y_add rfl et ev_const) ?_
  refine sa ?_
  refine s_nil ?_
  exact k_loop (fuel1, wi64 (i1 + 1)) ⟨rfl, rfl, rfl, trivial⟩ ⟨_, hI.arr .n ⟨.z, (.s .z), trivial⟩, h⟩ (Nat.lt_succ_self _)
 refine c_exit ?_
 refine k_in ?_
 refine k_same (sr (sac ?_))
 refine nk (c_ret ?_)
 obtain rfl := some_inj h
 exact q_ret (vs := [vb true]) Tryz.results51 ⟨ev_tmp rfl rfl, trivial⟩ (fq hI trivial)
theorem c_base_Tensor (F : NP) (w0 : World) (hF : ∀ k, F k → k < w0.heap.size) (a1 : GTensor) (b1 : GTensor) (a2 : Option Addr) (c1 : Nat) (a3 : Option Addr) (c2 : Nat) (a4 : Option Addr) (c3 : Nat) (a5 : Option Addr) (c4 : Nat) (hc : AllCl [Cl.sl (cInt .i64) a2 c1 a1.Dims, Cl.sl cGVal a3 c2 a1.Vals, Cl.sl (cInt .i64) a4 c3 b1.Dims, Cl.sl cGVal a5 c4 b1.Vals] F w0) (r : Bool)
  (h : m_base_Tensor a1 b1 = some r) :
  Calls Tryz.prog 21 #[(Value.agg (ATensor a1 a2 c1 a3 c2)), (Value.agg (ATensor b1 a4 c3 a5 c4))] w0 fun e w => e = .returned (vb r) ∧ Ext w0 w ∧ AllCl [] F w := by
 refine enterK Tryz.func21 rfl Tryz.ntmps21 rfl ?_
 have hI := Bun.start hF hc
 clear hc
 rw [m_base_Tensor] at h
 refine sr (l_box (v := (Value.agg (ATensor a1 a2 c1 a3 c2))) (cs := (ATensor a1 a2 c1 a3 c2)) hI gn rfl rfl et rfl ?_)
 clear hI; intro b2 c5 w1 hI
 obtain ⟨c6, hI⟩ := hI.relBox .z
 refine l_box (v := (Value.agg (ATensor b1 a4 c3 a5 c4))) (cs := (ATensor b1 a4 c3 a5 c4)) hI gn rfl rfl et rfl ?_
 clear hI; intro b3 c7 w2 hI
 obtain ⟨c8, hI⟩ := hI.relBox .z
 refine sac ?_
 refine nk (sr (sq (y_fieldAddr rfl et u41 rfl size_38 rfl) ?_))
 refine sq (y_loadN (l := (lType a1.Type_)) rfl et u38 rfl size_38 (hI.kblk (l := (lType a1.Type_)) (.s .z) rfl).1) ?_
 refine sq (y_fieldAddr rfl et u41 rfl size_38 rfl) ?_
 refine sq (y_loadN (l := (lType b1.Type_)) rfl et u38 rfl size_38 (hI.kblk (l := (lType b1.Type_)) .z rfl).1) ?_
 refine sq (y_bin rfl et et (eqstruct_38 ..) (eqguard_38 ..)) ?_
 refine sm ?_
 refine s_gval (g_true rfl rfl rfl rfl) rfl (fun hc => y_fieldAddr rfl et u41 rfl size_22 rfl) ?_
 refine s_gval (g_true rfl rfl rfl rfl) rfl (fun hc => (y_load1 (v := (vs a2 a1.Dims.length c1)) rfl (ev_gv et hc) u22 rfl (hI.kblk (l := [vs a2 a1.Dims.length c1]) (.s .z) rfl).1)) ?_
 refine s_gval (g_true rfl rfl rfl rfl) rfl (fun hc => y_fieldAddr rfl et u41 rfl size_22 rfl) ?_
 refine s_gval (g_true rfl rfl rfl rfl) rfl (fun hc => (y_load1 (v := (vs a4 b1.Dims.length c3)) rfl (ev_gv et hc) u22 rfl (hI.kblk (l := [vs a4 b1.Dims.length c3]) .z rfl).1)) ?_
 obtain ⟨r1, hx1, h⟩ := bnd_some h
 replace hx1 := gd_some hx1
 refine s_gcallU (v := (vb r1)) (g_true rfl rfl rfl rfl) rfl (fun hc => (r_callF (vs := [vs a2 a1.Dims.length c1, vs a4 b1.Dims.length c3]) rfl ok_50 ⟨(ev_gv et hc), ⟨(ev_gv et hc), trivial⟩⟩)) (fun hc => (c_base_Ints (Dj F c8) w2 hI.lt a1.Dims b1.Dims a2 c1 a4 c3 ⟨(hI.get (.s (.s .z))), (hI.get (.s (.s (.s (.s .z))))), trivial⟩ r1 (hx1 hc)).mono fun _ _ k => ⟨k.1, k.2.1⟩) ?_
 intro w3 hx2; replace hI := hI.ext hx2
 refine sq (y_and rfl et et) ?_
 refine sm ?_
 refine s_gval (g_true rfl rfl rfl rfl) rfl (fun hc => y_fieldAddr rfl et u41 rfl size_39 rfl) ?_
 refine s_gval (g_true rfl rfl rfl rfl) rfl (fun hc => (y_load1 (v := (vs a3 a1.Vals.length c2)) rfl (ev_gv et hc) u39 rfl (hI.kblk (l := [vs a3 a1.Vals.length c2]) (.s .z) rfl).1)) ?_
 refine s_gval (g_true rfl rfl rfl rfl) rfl (fun hc => y_fieldAddr rfl et u41 rfl size_39 rfl) ?_
 refine s_gval (g_true rfl rfl rfl rfl) rfl (fun hc => (y_load1 (v := (vs a5 b1.Vals.length c4)) rfl (ev_gv et hc) u39 rfl (hI.kblk (l := [vs a5 b1.Vals.length c4]) .z rfl).1)) ?_
 obtain ⟨r2, hx3, h⟩ := bnd_some h
 replace hx3 := gd_some hx3
 refine s_gcallU (v := (vb r2)) (g_true rfl rfl rfl rfl) rfl (fun hc => (r_callF (vs := [vs a3 a1.Vals.length c2, vs a5 b1.Vals.length c4]) rfl ok_51 ⟨(ev_gv et hc), ⟨(ev_gv et hc), trivial⟩⟩)) (fun hc => (c_base_Vals (Dj F c8) w3 hI.lt a1.Vals b1.Vals a3 c2 a5 c4 ⟨(hI.get (.s (.s (.s .z)))), (hI.get (.s (.s (.s (.s (.s .z)))))), trivial⟩ r2 (hx3 hc)).mono fun _ _ k => ⟨k.1, k.2.1⟩) ?_
 intro w4 hx4; replace hI := hI.ext hx4
 refine sq (y_and rfl et et) ?_
 refine sa ?_
 refine nk (c_ret ?_)
 obtain rfl := some_inj h
 exact q_ret (vs := [(vb ((((decide (a1.Type_.Kind = b1.Type_.Kind)) && (decide (a1.Type_.Bits = b1.Type_.Bits)) && (decide (a1.Type_.Frac = b1.Type_.Frac)) && (decide (a1.Type_.Round = b1.Type_.Round)) && (decide (a1.Type_.Over = b1.Type_.Over))) && r1) && r2))]) Tryz.results21 ⟨ev_tmp rfl rfl, trivial⟩ (fq hI trivial)
theorem c_base_Tensors (F : NP) (w0 : World) (hF : ∀ k, F k → k < w0.heap.size) (a1 : List GTensor) (b1 : List GTensor) (a2 : Option Addr) (c1 : Nat) (a3 : Option Addr) (c2 : Nat) (hc : AllCl [Cl.sl cGTensor a2 c1 a1, Cl.sl cGTensor a3 c2 b1] F w0) (r : Bool)
  (h : m_base_Tensors a1 b1 = some r) :
  Calls Tryz.prog 15 #[vs a2 a1.length c1, vs a3 b1.length c2] w0 fun e w => e = .returned (vb r) ∧ Ext w0 w ∧ AllCl [] F w := by
 refine enterK Tryz.func15 rfl Tryz.ntmps15 rfl ?_
 have hI := Bun.start hF hc
 clear hc
 rw [m_base_Tensors] at h
 refine sr (sac ?_)
 refine nk (c_seq (sr (sm ?_)))
 refine sq (y_lenl rfl u25 et) ?_
 refine sm ?_
 refine sq (y_lenl rfl u25 et) ?_
 refine sq (y_neq rfl et et) ?_
 refine nk (cif h et (fun hb h => ?_) (fun hb h => ?_))
 ·refine sr (sac ?_)
  refine nk (c_ret ?_)
  obtain rfl := some_inj h
  exact q_ret (vs := [vb false]) Tryz.results15 ⟨ev_tmp rfl rfl, trivial⟩ (fq hI trivial)
 refine c_skip (k_same (c_seq (sr (sac ?_))))
 refine nk (c_block (c_loop (α := Nat × Int) (fun x => fun w => ∃ C, Bun noM F w0 C w [] [Cl.sl cGTensor a2 c1 a1, Cl.sl cGTensor a3 c2 b1] ∧ m_base_Tensors_l1 a1 b1 (x.1) (x.2) = some r) (fun x _ => x.1) (fun x => [(0, vs a2 a1.length c1), (1, vs a3 b1.length c2), (5, vi (x.2))]) (fu, 0) ⟨_, hI.arr .n ⟨.z, (.s .z), trivial⟩, h⟩ ⟨rfl, rfl, rfl, trivial⟩ ?_))
 clear h hI; rintro ⟨fuel1, i1⟩ w1 ⟨c3, hI, h⟩
 dsimp only at hI h
 rcases fuel1 with _ | fuel1
 ·rw [m_base_Tensors_l1] at h; cases h
 rw [m_base_Tensors_l1] at h
 refine c_sub (e := [(0, vs a2 a1.length c1), (1, vs a3 b1.length c2), (5, vi i1)]) ⟨rfl, rfl, rfl, trivial⟩ ?_
 refine c_seq (sr (sm ?_))
 refine sm ?_
 refine sq (y_lenl rfl u25 et) ?_
 refine sq (y_lss rfl et et) ?_
 refine nk (cif h et (fun hb h => ?_) (fun hb h => ?_))
 ·refine c_skip (k_same (c_seq (c_block (c_seq (c_drawX [] false (.c (0, .q) (.c (1, .q) (.c (2, .q) (.c (3, .q) (.c (4, .q) (.c (5, .q) (.c (6, .q) (.c (7, .q) (.c (8, .s) (.c (9, .q) .n)))))))))) hI (by kernel_rfl) (by kernel_rfl) ?_)))))
  clear hI; intro w2 hI
  refine a_q rfl gn rfl (fun w' => y_move rfl et) ?_
  refine a_q rfl gn rfl (fun w' => y_move rfl et) ?_
  obtain ⟨e1, hx1, h⟩ := bnd_some h
  obtain ⟨ad1, cs1, hA1, hr1, hq1⟩ := hI.clat .z hx1
  obtain ⟨a4, c4, a5, c5, rfl, hf1, hf2⟩ := hr1
  have hI := hI.add (c := Cl.sl (cInt .i64) a4 c4 e1.Dims) hf1
  have hI := hI.add (c := Cl.sl cGVal a5 c5 e1.Vals) hf2
  refine a_q rfl gn rfl (fun w' => y_indexAddr rfl u25 size_41 et et (lat_bd hx1) hA1) ?_
  refine a_read rfl gn rfl (fun w' hw' => (y_loadN (l := (lTensor e1 a4 c4 a5 c5)) rfl et u41 rfl size_41 (hq1.at_ (SX.any rfl hw')))) (by kernel_rfl) ?_
  refine a_q rfl gn rfl (fun w' => y_move rfl et) ?_
  refine a_q rfl gn rfl (fun w' => y_move rfl et) ?_
  obtain ⟨e2, hx2, h⟩ := bnd_some h
  obtain ⟨ad2, cs2, hA2, hr2, hq2⟩ := hI.clat (.s (.s (.s .z))) hx2
  obtain ⟨a6, c6, a7, c7, rfl, hf3, hf4⟩ := hr2
  have hI := hI.add (c := Cl.sl (cInt .i64) a6 c6 e2.Dims) hf3
  have hI := hI.add (c := Cl.sl cGVal a7 c7 e2.Vals) hf4
  refine a_q rfl gn rfl (fun w' => y_indexAddr rfl u25 size_41 et et (lat_bd hx2) hA2) ?_
  refine a_read rfl gn rfl (fun w' hw' => (y_loadN (l := (lTensor e2 a6 c6 a7 c7)) rfl et u41 rfl size_41 (hq2.at_ (SX.any rfl hw')))) (by kernel_rfl) ?_
  obtain ⟨r1, hx3, h⟩ := bnd_some h
  refine la_call rfl gn rfl (r_callF (vs := [(Value.agg (ATensor e1 a4 c4 a5 c5)), (Value.agg (ATensor e2 a6 c6 a7 c7))]) rfl ok_21 ⟨et, ⟨et, trivial⟩⟩) (Calls.mono (c_base_Tensor (Dj F c3) w2 hI.lt e1 e2 a4 c4 a5 c5 a6 c6 a7 c7 ⟨(hI.get (.s (.s (.s .z)))), (hI.get (.s (.s .z))), (hI.get (.s .z)), (hI.get .z), trivial⟩ r1 hx3) ?_)
  rintro _ w3 ⟨rfl, hx4, hl1⟩
  refine ⟨_, rfl, hx4, ?_⟩
  replace hI := (hI.ext hx4)
  refine a_q rfl gn rfl (fun w' => y_not rfl et) ?_
  refine a_nil ?_
  refine k_same (cif h et (fun hb h => ?_) (fun hb h => ?_))
  ·refine sr (sac ?_)
   refine nk (c_ret ?_)
   obtain rfl := some_inj h
   exact q_ret (vs := [vb false]) Tryz.results15 ⟨ev_tmp rfl rfl, trivial⟩ (fq hI trivial)
  refine c_skip (k_same (c_region rfl ?_))
  refine sm ?_
  refine sq (y_add rfl et ev_const) ?_
  refine sa ?_
  refine s_nil ?_
  exact k_loop (fuel1, wi64 (i1 + 1)) ⟨rfl, rfl, rfl, trivial⟩ ⟨_, hI.arr .n ⟨(.s (.s (.s (.s .z)))), (.s (.s (.s (.s (.s .z))))), trivial⟩, h⟩ (Nat.lt_succ_self _)
 refine c_exit ?_
 refine k_in ?_
 refine k_same (sr (sac ?_))
 refine nk (c_ret ?_)
 obtain rfl := some_inj h
 exact q_ret (vs := [vb true]) Tryz.results15 ⟨ev_tmp rfl rfl, trivial⟩ (fq hI trivial)
theorem c_law53_examples (F : NP) (w0 : World) (hF : ∀ k, F k → k < w0.heap.size) (hc : AllCl [] F w0) (r : Bool)
  (h : m_law53_examples = some r) :
  Calls Tryz.prog 10 #[] w0 fun e w => e = .returned (vb r) ∧ Ext w0 w ∧ AllCl [] F w := by
 refine enterK Tryz.func10 rfl Tryz.ntmps10 rfl ?_
 have hI := Bun.start hF hc
 clear hc
 rw [m_law53_examples] at h
 refine sr (sac ?_)
 refine nk (sr (l_lit (c := (cInt .i64)) (xs := ([2] : List Int)) (vs := [(0, vi 2)]) (cs := #[vi 2]) (css := [[vi 2]]) hI gn rfl rfl u22 info_3 rfl ⟨rfl, ev_const, trivial⟩ (by kernel_rfl) ⟨rfl, trivial⟩ rfl rfl rfl ?_))
 clear hI; intro b1 c1 w1 hI
 refine sq (y_build (vs := [(0, vs (some ⟨b1, 0, none⟩) ([2] : List Int).length 1)]) (cs := #[vs (some ⟨b1, 0, none⟩) ([2] : List Int).length 1]) rfl ⟨rfl, et, trivial⟩ (by kernel_rfl)) ?_
 refine l_alloc (cs := #[vs none 0 0]) hI gn rfl rfl zero_24 rfl ?_
 clear hI; intro b2 c2 w2 hI
 refine l_store (new := [vs (some ⟨b1, 0, none⟩) ([2] : List Int).length 1]) (cs' := #[vs (some ⟨b1, 0, none⟩) ([2] : List Int).length 1]) hI .z gn rfl rfl et et rfl size_24 rfl rfl rfl ?_
 clear hI; intro c3 w3 hI
 refine nk (sr (l_lit (c := (cInt .i64)) (xs := ([1, 2] : List Int)) (vs := [(0, vi 1), (1, vi 2)]) (cs := #[vi 1, vi 2]) (css := [[vi 1], [vi 2]]) hI gn rfl rfl u83 info_2 rfl ⟨rfl, ev_const, ⟨rfl, ev_const, trivial⟩⟩ (by kernel_rfl) ⟨rfl, ⟨rfl, trivial⟩⟩ rfl rfl rfl ?_))
 clear hI; intro b3 c4 w4 hI
 obtain ⟨c5, hI⟩ := hI.release .z
 obtain ⟨r1, hx1, h⟩ := bnd_some h
 refine s_call gn rfl (r_callF (vs := [vs (some ⟨b3, 0, none⟩) ([1, 2] : List Int).length 2]) rfl ok_29 ⟨et, trivial⟩) (Calls.mono (c_law53_vector (Dj F c5) w4 hI.lt ([1, 2] : List Int) (some ⟨b3, 0, none⟩) 2 ⟨(hI.get .z), trivial⟩ r1 hx1) ?_)
 rintro _ w5 ⟨a1, c6, a2, c7, rfl, hx2, hl1⟩
 refine ⟨_, rfl, ?_⟩
 replace hI := (hI.ext hx2).adds hl1
 refine l_lit (c := (cInt .i64)) (xs := ([3, 4] : List Int)) (vs := [(0, vi 3), (1, vi 4)]) (cs := #[vi 3, vi 4]) (css := [[vi 3], [vi 4]]) hI gn rfl rfl u83 info_2 rfl ⟨rfl, ev_const, ⟨rfl, ev_const, trivial⟩⟩ (by kernel_rfl) ⟨rfl, ⟨rfl, trivial⟩⟩ rfl rfl rfl ?_
 clear hI; intro b4 c8 w6 hI
 obtain ⟨c9, hI⟩ := hI.release .z
 obtain ⟨r2, hx3, h⟩ := bnd_some h
 refine s_call gn rfl (r_callF (vs := [vs (some ⟨b4, 0, none⟩) ([3, 4] : List Int).length 2]) rfl ok_29 ⟨et, trivial⟩) (Calls.mono (c_law53_vector (Dj F c9) w6 hI.lt ([3, 4] : List Int) (some ⟨b4, 0, none⟩) 2 ⟨(hI.get .z), trivial⟩ r2 hx3) ?_)
 rintro _ w7 ⟨a3, c10, a4, c11, rfl, hx4, hl2⟩
 refine ⟨_, rfl, ?_⟩
 replace hI := (hI.ext hx4).adds hl2
 refine l_lit (c := cGTensor) (xs := ([r1, r2] : List GTensor)) (vs := [(0, (Value.agg (ATensor r1 a1 c6 a2 c7))), (1, (Value.agg (ATensor r2 a3 c10 a4 c11)))]) (cs := #[vi r1.Type_.Kind, vi r1.Type_.Bits, vi r1.Type_.Frac, vi r1.Type_.Round, vi r1.Type_.Over, vs a1 r1.Dims.length c6, vs a2 r1.Vals.length c7, vi r2.Type_.Kind, vi r2.Type_.Bits, vi r2.Type_.Frac, vi r2.Type_.Round, vi r2.Type_.Over, vs a3 r2.Dims.length c10, vs a4 r2.Vals.length c11]) (css := [(lTensor r1 a1 c6 a2 c7), (lTensor r2 a3 c10 a4 c11)]) hI gn rfl rfl u25 info_41 rfl ⟨rfl, et, ⟨rfl, et, trivial⟩⟩ (by kernel_rfl) ⟨⟨a1, c6, a2, c7, rfl, hI.get (.s (.s (.s .z))), hI.get (.s (.s (.s (.s .z))))⟩, ⟨⟨a3, c10, a4, c11, rfl, hI.get .z, hI.get (.s .z)⟩, trivial⟩⟩ rfl rfl rfl ?_
 clear hI; intro b5 c12 w8 hI
 refine sa ?_
 refine nk (sr (sq (y_loadN (l := [vs (some ⟨b1, 0, none⟩) ([2] : List Int).length 1]) rfl et u24 rfl size_24 (CellsAt.of_blk (hI.blk (.s .z)) rfl)) ?_))
 refine sm ?_
 obtain ⟨c13, hI⟩ := hI.release (.s (.s .z))
 obtain ⟨c14, hI⟩ := hI.release .z
 obtain ⟨r3, hx5, h⟩ := bnd_some h
 refine s_call gn rfl (r_callF (vs := [(Value.agg #[vs (some ⟨b1, 0, none⟩) ([2] : List Int).length 1]), vs (some ⟨b5, 0, none⟩) ([r1, r2] : List GTensor).length 2, vi 0, vi 0]) rfl ok_11 ⟨et, ⟨et, ⟨ev_const, ⟨ev_const, trivial⟩⟩⟩⟩) (Calls.mono (c_collective_AllGather (Dj F c14) w8 hI.lt (⟨([2] : List Int)⟩ : GMesh) ([r1, r2] : List GTensor) 0 0 (some ⟨b1, 0, none⟩) 1 (some ⟨b5, 0, none⟩) 2 ⟨(hI.get (.s .z)), (hI.get .z), trivial⟩ r3 hx5) ?_)
 rintro _ w9 ⟨a5, c15, rfl, hx6, hl3⟩
 refine ⟨_, rfl, ?_⟩
 replace hI := (hI.ext hx6).adds hl3
 refine sm ?_
 refine sq (y_extract rfl et rfl) ?_
 refine sq (y_extract rfl et rfl) ?_
 refine sa ?_
 refine sa ?_
 refine nk (sr (sq (y_loadN (l := [vs (some ⟨b1, 0, none⟩) ([2] : List Int).length 1]) rfl et u24 rfl size_24 (CellsAt.of_blk (hI.blk .z) rfl)) ?_))
 refine sm ?_
 obtain ⟨r4, hx7, h⟩ := bnd_some h
 refine s_call gn rfl (r_callF (vs := [(Value.agg #[vs (some ⟨b1, 0, none⟩) ([2] : List Int).length 1]), vs (some ⟨b5, 0, none⟩) ([r1, r2] : List GTensor).length 2, vi 0, vi 1]) rfl ok_16 ⟨et, ⟨et, ⟨ev_const, ⟨ev_const, trivial⟩⟩⟩⟩) (Calls.mono (c_collective_AllReduce (Dj F c14) w9 hI.lt (⟨([2] : List Int)⟩ : GMesh) ([r1, r2] : List GTensor) 0 1 (some ⟨b1, 0, none⟩) 1 (some ⟨b5, 0, none⟩) 2 ⟨(hI.get (.s (.s .z))), (hI.get (.s .z)), trivial⟩ r4 hx7) ?_)
 rintro _ w10 ⟨a6, c16, rfl, hx8, hl4⟩
 refine ⟨_, rfl, ?_⟩
 replace hI := (hI.ext hx8).adds hl4
 refine sm ?_
 refine sq (y_extract rfl et rfl) ?_
 refine sq (y_extract rfl et rfl) ?_
 refine sa ?_
 refine sa ?_
 refine nk (sr (sq (y_loadN (l := [vs (some ⟨b1, 0, none⟩) ([2] : List Int).length 1]) rfl et u24 rfl size_24 (CellsAt.of_blk (hI.blk .z) rfl)) ?_))
 refine sm ?_
 obtain ⟨r5, hx9, h⟩ := bnd_some h
 refine s_call gn rfl (r_callF (vs := [(Value.agg #[vs (some ⟨b1, 0, none⟩) ([2] : List Int).length 1]), vs (some ⟨b5, 0, none⟩) ([r1, r2] : List GTensor).length 2, vi 0, vi 0, vi 1]) rfl ok_18 ⟨et, ⟨et, ⟨ev_const, ⟨ev_const, ⟨ev_const, trivial⟩⟩⟩⟩⟩) (Calls.mono (c_collective_ReduceScatter (Dj F c14) w10 hI.lt (⟨([2] : List Int)⟩ : GMesh) ([r1, r2] : List GTensor) 0 0 1 (some ⟨b1, 0, none⟩) 1 (some ⟨b5, 0, none⟩) 2 ⟨(hI.get (.s (.s (.s .z)))), (hI.get (.s (.s .z))), trivial⟩ r5 hx9) ?_)
 rintro _ w11 ⟨a7, c17, rfl, hx10, hl5⟩
 refine ⟨_, rfl, ?_⟩
 replace hI := (hI.ext hx10).adds hl5
 refine sm ?_
 refine sq (y_extract rfl et rfl) ?_
 refine sq (y_extract rfl et rfl) ?_
 refine sa ?_
 refine sa ?_
 refine s_nil ?_
 refine k_next (e := [(3, vs a5 r3.1.length c15), (4, vi r3.2), (5, vs a6 r4.1.length c16), (6, vi r4.2), (7, vs a7 r5.1.length c17), (8, vi r5.2)]) ⟨rfl, rfl, rfl, rfl, rfl, rfl, trivial⟩ ?_
 refine sr (l_lit (c := (cInt .i64)) (xs := ([0, (-1)] : List Int)) (vs := [(0, vi 0), (1, vi (-1))]) (cs := #[vi 0, vi (-1)]) (css := [[vi 0], [vi (-1)]]) hI gn rfl rfl u42 info_3 rfl ⟨rfl, ev_const, ⟨rfl, ev_const, trivial⟩⟩ (by kernel_rfl) ⟨rfl, ⟨rfl, trivial⟩⟩ rfl rfl rfl ?_)
 clear hI; intro b6 c18 w12 hI
 refine l_lit (c := (cInt .i64)) (xs := ([(-1), 0] : List Int)) (vs := [(0, vi (-1)), (1, vi 0)]) (cs := #[vi (-1), vi 0]) (css := [[vi (-1)], [vi 0]]) hI gn rfl rfl u42 info_3 rfl ⟨rfl, ev_const, ⟨rfl, ev_const, trivial⟩⟩ (by kernel_rfl) ⟨rfl, ⟨rfl, trivial⟩⟩ rfl rfl rfl ?_
 clear hI; intro b7 c19 w13 hI
 obtain ⟨c20, hI⟩ := hI.release (.s .z)
 obtain ⟨c21, hI⟩ := hI.release .z
 obtain ⟨r6, hx11, h⟩ := bnd_some h
 refine s_call gn rfl (r_callF (vs := [(vs (some ⟨b6, 0, none⟩) ([0, (-1)] : List Int).length 2), (vs (some ⟨b7, 0, none⟩) ([(-1), 0] : List Int).length 2)]) rfl ok_30 ⟨et, ⟨et, trivial⟩⟩) (Calls.mono (c_collective_Plan (Dj F c21) w13 hI.lt ([0, (-1)] : List Int) ([(-1), 0] : List Int) (some ⟨b6, 0, none⟩) 2 (some ⟨b7, 0, none⟩) 2 ⟨(hI.get (.s .z)), (hI.get .z), trivial⟩ r6 hx11) ?_)
 rintro _ w14 ⟨a8, c22, rfl, hx12, hl6⟩
 refine ⟨_, rfl, ?_⟩
 replace hI := (hI.ext hx12).adds hl6
 refine sa ?_
 refine nk (sr (sm ?_))
 refine sq (y_eql rfl et ev_const) ?_
 refine sm ?_
 refine s_gval (g_true rfl rfl rfl rfl) rfl (fun hc => y_move rfl et) ?_
 refine s_gval (g_true rfl rfl rfl rfl) rfl (fun hc => y_eql rfl (ev_gv et hc) ev_const) ?_
 refine sq (y_and rfl et et) ?_
 refine sm ?_
 refine s_gval (g_true rfl rfl rfl rfl) rfl (fun hc => y_move rfl et) ?_
 refine s_gval (g_true rfl rfl rfl rfl) rfl (fun hc => y_eql rfl (ev_gv et hc) ev_const) ?_
 refine sq (y_and rfl et et) ?_
 refine sm ?_
 refine s_gval (g_true rfl rfl rfl rfl) rfl (fun hc => y_move rfl et) ?_
 obtain ⟨ho1, h⟩ := chk_some h
 refine l_lit (c := (cInt .i64)) (xs := ([1, 2, 3, 4] : List Int)) (vs := [(0, vi 1), (1, vi 2), (2, vi 3), (3, vi 4)]) (cs := #[vi 1, vi 2, vi 3, vi 4]) (css := [[vi 1], [vi 2], [vi 3], [vi 4]]) hI (grd_as (g_true rfl rfl rfl rfl) ho1) rfl rfl u83 info_2 rfl ⟨rfl, ev_const, ⟨rfl, ev_const, ⟨rfl, ev_const, ⟨rfl, ev_const, trivial⟩⟩⟩⟩ (by kernel_rfl) ⟨rfl, ⟨rfl, ⟨rfl, ⟨rfl, trivial⟩⟩⟩⟩ rfl rfl rfl ?_
 clear hI; intro b8 c23 w15 hI
 obtain ⟨c24, hI⟩ := hI.release .z
 obtain ⟨r7, hx13, h⟩ := bnd_some h
 refine s_call (grd_as (g_true rfl rfl rfl rfl) ho1) rfl (r_callF (vs := [vs (some ⟨b8, 0, none⟩) ([1, 2, 3, 4] : List Int).length 4]) rfl ok_29 ⟨et, trivial⟩) (Calls.mono (c_law53_vector (Dj F c24) w15 hI.lt ([1, 2, 3, 4] : List Int) (some ⟨b8, 0, none⟩) 4 ⟨(hI.get .z), trivial⟩ r7 hx13) ?_)
 rintro _ w16 ⟨a9, c25, a10, c26, rfl, hx14, hl7⟩
 refine ⟨_, rfl, ?_⟩
 replace hI := (hI.ext hx14).adds hl7
 refine l_lit (c := (cInt .i64)) (xs := ([1, 2, 3, 4] : List Int)) (vs := [(0, vi 1), (1, vi 2), (2, vi 3), (3, vi 4)]) (cs := #[vi 1, vi 2, vi 3, vi 4]) (css := [[vi 1], [vi 2], [vi 3], [vi 4]]) hI (grd_as (g_true rfl rfl rfl rfl) ho1) rfl rfl u83 info_2 rfl ⟨rfl, ev_const, ⟨rfl, ev_const, ⟨rfl, ev_const, ⟨rfl, ev_const, trivial⟩⟩⟩⟩ (by kernel_rfl) ⟨rfl, ⟨rfl, ⟨rfl, ⟨rfl, trivial⟩⟩⟩⟩ rfl rfl rfl ?_
 clear hI; intro b9 c27 w17 hI
 obtain ⟨c28, hI⟩ := hI.release .z
 obtain ⟨r8, hx15, h⟩ := bnd_some h
 refine s_call (grd_as (g_true rfl rfl rfl rfl) ho1) rfl (r_callF (vs := [vs (some ⟨b9, 0, none⟩) ([1, 2, 3, 4] : List Int).length 4]) rfl ok_29 ⟨et, trivial⟩) (Calls.mono (c_law53_vector (Dj F c28) w17 hI.lt ([1, 2, 3, 4] : List Int) (some ⟨b9, 0, none⟩) 4 ⟨(hI.get .z), trivial⟩ r8 hx15) ?_)
 rintro _ w18 ⟨a11, c29, a12, c30, rfl, hx16, hl8⟩
 refine ⟨_, rfl, ?_⟩
 replace hI := (hI.ext hx16).adds hl8
 refine l_lit (c := cGTensor) (xs := ([r7, r8] : List GTensor)) (vs := [(0, (Value.agg (ATensor r7 a9 c25 a10 c26))), (1, (Value.agg (ATensor r8 a11 c29 a12 c30)))]) (cs := #[vi r7.Type_.Kind, vi r7.Type_.Bits, vi r7.Type_.Frac, vi r7.Type_.Round, vi r7.Type_.Over, vs a9 r7.Dims.length c25, vs a10 r7.Vals.length c26, vi r8.Type_.Kind, vi r8.Type_.Bits, vi r8.Type_.Frac, vi r8.Type_.Round, vi r8.Type_.Over, vs a11 r8.Dims.length c29, vs a12 r8.Vals.length c30]) (css := [(lTensor r7 a9 c25 a10 c26), (lTensor r8 a11 c29 a12 c30)]) hI (grd_as (g_true rfl rfl rfl rfl) ho1) rfl rfl u25 info_41 rfl ⟨rfl, et, ⟨rfl, et, trivial⟩⟩ (by kernel_rfl) ⟨⟨a9, c25, a10, c26, rfl, hI.get (.s (.s (.s .z))), hI.get (.s (.s (.s (.s .z))))⟩, ⟨⟨a11, c29, a12, c30, rfl, hI.get .z, hI.get (.s .z)⟩, trivial⟩⟩ rfl rfl rfl ?_
 clear hI; intro b10 c31 w19 hI
 obtain ⟨r9, hx17, h⟩ := bnd_some h
 refine s_call (grd_as (g_true rfl rfl rfl rfl) ho1) rfl (r_callF (vs := [vs a5 r3.1.length c15, vs (some ⟨b10, 0, none⟩) ([r7, r8] : List GTensor).length 2]) rfl ok_15 ⟨(ev_gv et ho1), ⟨et, trivial⟩⟩) (Calls.mono (c_base_Tensors noM w19 (fun _ k => k.elim) r3.1 ([r7, r8] : List GTensor) a5 c15 (some ⟨b10, 0, none⟩) 2 ⟨(hI.get0 (.s (.s (.s (.s (.s (.s (.s (.s (.s (.s (.s .z)))))))))))), hI.lend .z, trivial⟩ r9 hx17) ?_)
 rintro _ w20 ⟨rfl, hx18, hl9⟩
 refine ⟨_, rfl, ?_⟩
 replace hI := (hI.ext hx18)
 refine sq (y_andT rfl ho1 et et) ?_
 refine sm ?_
 refine s_gval (g_true rfl rfl rfl rfl) rfl (fun hc => y_move rfl et) ?_
 obtain ⟨ho2, h⟩ := chk_some h
 refine l_lit (c := (cInt .i64)) (xs := ([4, 6] : List Int)) (vs := [(0, vi 4), (1, vi 6)]) (cs := #[vi 4, vi 6]) (css := [[vi 4], [vi 6]]) hI (grd_as (g_true rfl rfl rfl rfl) ho2) rfl rfl u83 info_2 rfl ⟨rfl, ev_const, ⟨rfl, ev_const, trivial⟩⟩ (by kernel_rfl) ⟨rfl, ⟨rfl, trivial⟩⟩ rfl rfl rfl ?_
 clear hI; intro b11 c32 w21 hI
 obtain ⟨c33, hI⟩ := hI.release .z
 obtain ⟨r10, hx19, h⟩ := bnd_some h
 refine s_call (grd_as (g_true rfl rfl rfl rfl) ho2) rfl (r_callF (vs := [vs (some ⟨b11, 0, none⟩) ([4, 6] : List Int).length 2]) rfl ok_29 ⟨et, trivial⟩) (Calls.mono (c_law53_vector (Dj F c33) w21 hI.lt ([4, 6] : List Int) (some ⟨b11, 0, none⟩) 2 ⟨(hI.get .z), trivial⟩ r10 hx19) ?_)
 rintro _ w22 ⟨a13, c34, a14, c35, rfl, hx20, hl10⟩
 refine ⟨_, rfl, ?_⟩
 replace hI := (hI.ext hx20).adds hl10
 refine l_lit (c := (cInt .i64)) (xs := ([4, 6] : List Int)) (vs := [(0, vi 4), (1, vi 6)]) (cs := #[vi 4, vi 6]) (css := [[vi 4], [vi 6]]) hI (grd_as (g_true rfl rfl rfl rfl) ho2) rfl rfl u83 info_2 rfl ⟨rfl, ev_const, ⟨rfl, ev_const, trivial⟩⟩ (by kernel_rfl) ⟨rfl, ⟨rfl, trivial⟩⟩ rfl rfl rfl ?_
 clear hI; intro b12 c36 w23 hI
 obtain ⟨c37, hI⟩ := hI.release .z
 obtain ⟨r11, hx21, h⟩ := bnd_some h
 refine s_call (grd_as (g_true rfl rfl rfl rfl) ho2) rfl (r_callF (vs := [vs (some ⟨b12, 0, none⟩) ([4, 6] : List Int).length 2]) rfl ok_29 ⟨et, trivial⟩) (Calls.mono (c_law53_vector (Dj F c37) w23 hI.lt ([4, 6] : List Int) (some ⟨b12, 0, none⟩) 2 ⟨(hI.get .z), trivial⟩ r11 hx21) ?_)
 rintro _ w24 ⟨a15, c38, a16, c39, rfl, hx22, hl11⟩
 refine ⟨_, rfl, ?_⟩
 replace hI := (hI.ext hx22).adds hl11
 refine l_lit (c := cGTensor) (xs := ([r10, r11] : List GTensor)) (vs := [(0, (Value.agg (ATensor r10 a13 c34 a14 c35))), (1, (Value.agg (ATensor r11 a15 c38 a16 c39)))]) (cs := #[vi r10.Type_.Kind, vi r10.Type_.Bits, vi r10.Type_.Frac, vi r10.Type_.Round, vi r10.Type_.Over, vs a13 r10.Dims.length c34, vs a14 r10.Vals.length c35, vi r11.Type_.Kind, vi r11.Type_.Bits, vi r11.Type_.Frac, vi r11.Type_.Round, vi r11.Type_.Over, vs a15 r11.Dims.length c38, vs a16 r11.Vals.length c39]) (css := [(lTensor r10 a13 c34 a14 c35), (lTensor r11 a15 c38 a16 c39)]) hI (grd_as (g_true rfl rfl rfl rfl) ho2) rfl rfl u25 info_41 rfl ⟨rfl, et, ⟨rfl, et, trivial⟩⟩ (by kernel_rfl) ⟨⟨a13, c34, a14, c35, rfl, hI.get (.s (.s (.s .z))), hI.get (.s (.s (.s (.s .z))))⟩, ⟨⟨a15, c38, a16, c39, rfl, hI.get .z, hI.get (.s .z)⟩, trivial⟩⟩ rfl rfl rfl ?_
 clear hI; intro b13 c40 w25 hI
 obtain ⟨r12, hx23, h⟩ := bnd_some h
 refine s_call (grd_as (g_true rfl rfl rfl rfl) ho2) rfl (r_callF (vs := [vs a6 r4.1.length c16, vs (some ⟨b13, 0, none⟩) ([r10, r11] : List GTensor).length 2]) rfl ok_15 ⟨(ev_gv et ho2), ⟨et, trivial⟩⟩) (Calls.mono (c_base_Tensors noM w25 (fun _ k => k.elim) r4.1 ([r10, r11] : List GTensor) a6 c16 (some ⟨b13, 0, none⟩) 2 ⟨(hI.get0 (.s (.s (.s (.s (.s (.s (.s (.s (.s (.s (.s (.s (.s (.s (.s (.s .z))))))))))))))))), hI.lend .z, trivial⟩ r12 hx23) ?_)
 rintro _ w26 ⟨rfl, hx24, hl12⟩
 refine ⟨_, rfl, ?_⟩
 replace hI := (hI.ext hx24)
 refine sq (y_andT rfl ho2 et et) ?_
 refine sm ?_
 refine s_gval (g_true rfl rfl rfl rfl) rfl (fun hc => y_move rfl et) ?_
 obtain ⟨ho3, h⟩ := chk_some h
 refine l_lit (c := (cInt .i64)) (xs := ([4] : List Int)) (vs := [(0, vi 4)]) (cs := #[vi 4]) (css := [[vi 4]]) hI (grd_as (g_true rfl rfl rfl rfl) ho3) rfl rfl u83 info_2 rfl ⟨rfl, ev_const, trivial⟩ (by kernel_rfl) ⟨rfl, trivial⟩ rfl rfl rfl ?_
 clear hI; intro b14 c41 w27 hI
 obtain ⟨c42, hI⟩ := hI.release .z
 obtain ⟨r13, hx25, h⟩ := bnd_some h
 refine s_call (grd_as (g_true rfl rfl rfl rfl) ho3) rfl (r_callF (vs := [vs (some ⟨b14, 0, none⟩) ([4] : List Int).length 1]) rfl ok_29 ⟨et, trivial⟩) (Calls.mono (c_law53_vector (Dj F c42) w27 hI.lt ([4] : List Int) (some ⟨b14, 0, none⟩) 1 ⟨(hI.get .z), trivial⟩ r13 hx25) ?_)
 rintro _ w28 ⟨a17, c43, a18, c44, rfl, hx26, hl13⟩
 refine ⟨_, rfl, ?_⟩
 replace hI := (hI.ext hx26).adds hl13
 refine l_lit (c := (cInt .i64)) (xs := ([6] : List Int)) (vs := [(0, vi 6)]) (cs := #[vi 6]) (css := [[vi 6]]) hI (grd_as (g_true rfl rfl rfl rfl) ho3) rfl rfl u83 info_2 rfl ⟨rfl, ev_const, trivial⟩ (by kernel_rfl) ⟨rfl, trivial⟩ rfl rfl rfl ?_
 clear hI; intro b15 c45 w29 hI
 obtain ⟨c46, hI⟩ := hI.release .z
 obtain ⟨r14, hx27, h⟩ := bnd_some h
 refine s_call (grd_as (g_true rfl rfl rfl rfl) ho3) rfl (r_callF (vs := [vs (some ⟨b15, 0, none⟩) ([6] : List Int).length 1]) rfl ok_29 ⟨et, trivial⟩) (Calls.mono (c_law53_vector (Dj F c46) w29 hI.lt ([6] : List Int) (some ⟨b15, 0, none⟩) 1 ⟨(hI.get .z), trivial⟩ r14 hx27) ?_)
 rintro _ w30 ⟨a19, c47, a20, c48, rfl, hx28, hl14⟩
 refine ⟨_, rfl, ?_⟩
 replace hI := (hI.ext hx28).adds hl14
 refine l_lit (c := cGTensor) (xs := ([r13, r14] : List GTensor)) (vs := [(0, (Value.agg (ATensor r13 a17 c43 a18 c44))), (1, (Value.agg (ATensor r14 a19 c47 a20 c48)))]) (cs := #[vi r13.Type_.Kind, vi r13.Type_.Bits, vi r13.Type_.Frac, vi r13.Type_.Round, vi r13.Type_.Over, vs a17 r13.Dims.length c43, vs a18 r13.Vals.length c44, vi r14.Type_.Kind, vi r14.Type_.Bits, vi r14.Type_.Frac, vi r14.Type_.Round, vi r14.Type_.Over, vs a19 r14.Dims.length c47, vs a20 r14.Vals.length c48]) (css := [(lTensor r13 a17 c43 a18 c44), (lTensor r14 a19 c47 a20 c48)]) hI (grd_as (g_true rfl rfl rfl rfl) ho3) rfl rfl u25 info_41 rfl ⟨rfl, et, ⟨rfl, et, trivial⟩⟩ (by kernel_rfl) ⟨⟨a17, c43, a18, c44, rfl, hI.get (.s (.s (.s .z))), hI.get (.s (.s (.s (.s .z))))⟩, ⟨⟨a19, c47, a20, c48, rfl, hI.get .z, hI.get (.s .z)⟩, trivial⟩⟩ rfl rfl rfl ?_
 clear hI; intro b16 c49 w31 hI
 obtain ⟨r15, hx29, h⟩ := bnd_some h
 refine s_call (grd_as (g_true rfl rfl rfl rfl) ho3) rfl (r_callF (vs := [vs a7 r5.1.length c17, vs (some ⟨b16, 0, none⟩) ([r13, r14] : List GTensor).length 2]) rfl ok_15 ⟨(ev_gv et ho3), ⟨et, trivial⟩⟩) (Calls.mono (c_base_Tensors noM w31 (fun _ k => k.elim) r5.1 ([r13, r14] : List GTensor) a7 c17 (some ⟨b16, 0, none⟩) 2 ⟨(hI.get0 (.s (.s (.s (.s (.s (.s (.s (.s (.s (.s (.s (.s (.s (.s (.s (.s (.s (.s (.s (.s (.s .z)))))))))))))))))))))), hI.lend .z, trivial⟩ r15 hx29) ?_)
 rintro _ w32 ⟨rfl, hx30, hl15⟩
 refine ⟨_, rfl, ?_⟩
 replace hI := (hI.ext hx30)
 refine sq (y_andT rfl ho3 et et) ?_
 refine sm ?_
 refine s_gval (g_true rfl rfl rfl rfl) rfl (fun hc => y_move rfl et) ?_
 refine s_gval (g_true rfl rfl rfl rfl) rfl (fun hc => y_lenl rfl u51 (ev_gv et hc)) ?_
 refine s_gval (g_true rfl rfl rfl rfl) rfl (fun hc => y_eql rfl (ev_gv et hc) ev_const) ?_
 refine sq (y_and rfl et et) ?_
 refine sm ?_
 refine s_gval (g_true rfl rfl rfl rfl) rfl (fun hc => y_move rfl et) ?_
 obtain ⟨e1, hx31, h⟩ := bnd_some h
 replace hx31 := gd_some hx31
 obtain ⟨ad1, cs1, hq1⟩ := hI.gclat (.s (.s (.s (.s (.s (.s (.s (.s (.s (.s (.s (.s (.s (.s (.s (.s (.s (.s .z)))))))))))))))))) hx31
 have hq2 : (((((((decide (r3.2 = 0)) && (decide (r4.2 = 0))) && (decide (r5.2 = 0))) && r9) && r12) && r15) && (decide ((r6.length : Int) = 1))) = true → CA (Dj F c49) w32 (ad1.add (Int.toNat 0 * 5)) [vi e1.Op, vi e1.Mesh, vi e1.From, vi e1.To, (str e1.Name)] := fun hc => by have k := hq1 hc; have e : cs1 = _ := k.2.1; rw [← e]; exact k.2.2
 refine s_gval (g_true rfl rfl rfl rfl) rfl (fun hc => (y_indexAddr rfl u51 size_54 (ev_gv et hc) ev_const (lat_bd (hx31 hc)) (hq1 hc).1)) ?_
 refine s_gval (g_true rfl rfl rfl rfl) rfl (fun hc => (y_loadN (l := [vi e1.Op, vi e1.Mesh, vi e1.From, vi e1.To, (str e1.Name)]) rfl (ev_gv et hc) u54 rfl size_54 (hq2 hc).1)) ?_
 refine s_gval (g_true rfl rfl rfl rfl) rfl (fun hc => (y_build (vs := [(0, vi 3), (2, vi 0), (3, vi 1)]) (cs := #[vi 3, vi 0, vi 0, vi 1, (str ([] : List UInt8))]) rfl ⟨rfl, ev_const, ⟨rfl, ev_const, ⟨rfl, ev_const, trivial⟩⟩⟩ (by kernel_rfl))) ?_
 refine s_gval (g_true rfl rfl rfl rfl) rfl (fun hc => y_bin rfl (ev_gv et hc) (ev_gv et hc) (eqstruct_54 ..) (eqguard_54 ..)) ?_
 refine sq (y_and rfl et et) ?_
 refine sa ?_
 refine s_nil ?_
 refine k_next (e := [(0, (vb ((((((((decide (r3.2 = 0)) && (decide (r4.2 = 0))) && (decide (r5.2 = 0))) && r9) && r12) && r15) && (decide ((r6.length : Int) = 1))) && ((decide (e1.Op = 3)) && (decide (e1.Mesh = 0)) && (decide (e1.From = 0)) && (decide (e1.To = 1)) && (decide (e1.Name = ([] : List UInt8)))))))]) ⟨rfl, trivial⟩ ?_
 refine c_ret ?_
 obtain rfl := some_inj h
 exact q_ret (vs := [(vb ((((((((decide (r3.2 = 0)) && (decide (r4.2 = 0))) && (decide (r5.2 = 0))) && r9) && r12) && r15) && (decide ((r6.length : Int) = 1))) && ((decide (e1.Op = 3)) && (decide (e1.Mesh = 0)) && (decide (e1.From = 0)) && (decide (e1.To = 1)) && (decide (e1.Name = ([] : List UInt8))))))]) Tryz.results10 ⟨ev_tmp rfl rfl, trivial⟩ (fq hI trivial)
theorem c_ref51_Validate (F : NP) (w0 : World) (hF : ∀ k, F k → k < w0.heap.size) (m1 : GMesh) (a1 : Option Addr) (c1 : Nat) (hc : AllCl [Cl.sl (cInt .i64) a1 c1 m1.Dims] F w0) (r : Int)
  (h : m_ref51_Validate m1 = some r) :
  Calls Tryz.prog 48 #[(Value.agg #[vs a1 m1.Dims.length c1])] w0 fun e w => e = .returned (vi r) ∧ Ext w0 w ∧ AllCl [] F w := by
 refine enterK Tryz.func48 rfl Tryz.ntmps48 rfl ?_
 have hI := Bun.start hF hc
 clear hc
 rw [m_ref51_Validate] at h
 refine sr (l_box (v := (Value.agg #[vs a1 m1.Dims.length c1])) (cs := #[vs a1 m1.Dims.length c1]) hI gn rfl rfl et rfl ?_)
 clear hI; intro b1 c2 w1 hI
 obtain ⟨c3, hI⟩ := hI.relBox .z
 refine sac ?_
 refine nk (c_seq (sr (sq (y_fieldAddr rfl et u24 rfl size_22 rfl) ?_)))
 refine sq (y_load1 (v := (vs a1 m1.Dims.length c1)) rfl et u22 rfl (hI.kblk (l := [vs a1 m1.Dims.length c1]) .z rfl).1) ?_
 refine sq (y_lenl rfl u22 et) ?_
 refine sq (y_lss rfl et ev_const) ?_
 refine sm ?_
 refine s_gval (g_false rfl rfl rfl rfl) rfl (fun hc => y_fieldAddr rfl et u24 rfl size_22 rfl) ?_
 refine s_gval (g_false rfl rfl rfl rfl) rfl (fun hc => (y_load1 (v := (vs a1 m1.Dims.length c1)) rfl (ev_gv et hc) u22 rfl (hI.kblk (l := [vs a1 m1.Dims.length c1]) .z rfl).1)) ?_
 refine s_gval (g_false rfl rfl rfl rfl) rfl (fun hc => y_lenl rfl u22 (ev_gv et hc)) ?_
 refine s_gval (g_false rfl rfl rfl rfl) rfl (fun hc => y_gtr rfl (ev_gv et hc) ev_const) ?_
 refine sq (y_or rfl et et) ?_
 refine nk (cif h et (fun hb h => ?_) (fun hb h => ?_))
 ·refine sr (sac ?_)
  refine nk (c_ret ?_)
  obtain rfl := some_inj h
  exact q_ret (vs := [vi 23]) Tryz.results48 ⟨ev_tmp rfl rfl, trivial⟩ (fq hI trivial)
 refine c_skip (k_same (sr (sac ?_)))
 refine nk (c_seq (sr (sac ?_)))
 refine nk (c_block (c_loop (α := Nat × Int × Int) (fun x => fun w => ∃ C, Bun noM F w0 C w [] [Cl.blk b1 24 #[vs a1 m1.Dims.length c1], Cl.sl (cInt .i64) a1 c1 m1.Dims] ∧ m_ref51_Validate_l1 m1 (x.1) (x.2.1) (x.2.2) = some r) (fun x _ => x.1) (fun x => [(1, vp b1 0), (3, vi (x.2.1)), (4, vi (x.2.2))]) (fu, 1, 0) ⟨_, hI.arr .n ⟨.z, (.s .z), trivial⟩, h⟩ ⟨rfl, rfl, rfl, trivial⟩ ?_))
 clear h hI; rintro ⟨fuel1, n1, i1⟩ w2 ⟨c4, hI, h⟩
 dsimp only at hI h
 rcases fuel1 with _ | fuel1
 ·rw [m_ref51_Validate_l1] at h; cases h
 rw [m_ref51_Validate_l1] at h
 refine c_sub (e := [(1, vp b1 0), (3, vi n1), (4, vi i1)]) ⟨rfl, rfl, rfl, trivial⟩ ?_
 refine c_seq (sr (sm ?_))
 refine sq (y_fieldAddr rfl et u24 rfl size_22 rfl) ?_
 refine sq (y_load1 (v := (vs a1 m1.Dims.length c1)) rfl et u22 rfl (hI.kblk (l := [vs a1 m1.Dims.length c1]) .z rfl).1) ?_
 refine sq (y_lenl rfl u22 et) ?_
 refine sq (y_lss rfl et et) ?_
 refine nk (cif h et (fun hb h => ?_) (fun hb h => ?_))
 ·refine c_skip (k_same (c_seq (c_block (c_seq (sr (sq (y_fieldAddr rfl et u24 rfl size_22 rfl) ?_))))))
  refine sq (y_load1 (v := (vs a1 m1.Dims.length c1)) rfl et u22 rfl (hI.kblk (l := [vs a1 m1.Dims.length c1]) .z rfl).1) ?_
  refine sm ?_
  obtain ⟨e1, hx1, h⟩ := bnd_some h
  obtain ⟨ad1, cs1, hA1, hr1, hq1⟩ := hI.clat (.s .z) hx1
  obtain rfl : cs1 = [vi e1] := hr1
  refine sq (y_indexAddr rfl u22 size_3 et et (lat_bd hx1) hA1) ?_
  refine sq (y_load1 (v := (vi e1)) rfl et u3 rfl hq1.1) ?_
  refine sq (y_lss rfl et ev_const) ?_
  refine sm ?_
  refine s_gval (g_false rfl rfl rfl rfl) rfl (fun hc => y_fieldAddr rfl et u24 rfl size_22 rfl) ?_
  refine s_gval (g_false rfl rfl rfl rfl) rfl (fun hc => (y_load1 (v := (vs a1 m1.Dims.length c1)) rfl (ev_gv et hc) u22 rfl (hI.kblk (l := [vs a1 m1.Dims.length c1]) .z rfl).1)) ?_
  refine s_gval (g_false rfl rfl rfl rfl) rfl (fun hc => y_move rfl et) ?_
  obtain ⟨e2, hx2, h⟩ := bnd_some h
  replace hx2 := gd_some hx2
  obtain ⟨ad2, cs2, hq2⟩ := hI.gclat (.s .z) hx2
  have hq3 : (!(decide (e1 < 1))) = true → CA (Dj F c4) w2 (ad2.add (Int.toNat i1 * 1)) [vi e2] := fun hc => by have k := hq2 hc; have e : cs2 = _ := k.2.1; rw [← e]; exact k.2.2
  refine s_gval (g_false rfl rfl rfl rfl) rfl (fun hc => (y_indexAddr rfl u22 size_3 (ev_gv et hc) (ev_gv et hc) (lat_bd (hx2 hc)) (hq2 hc).1)) ?_
  refine s_gval (g_false rfl rfl rfl rfl) rfl (fun hc => (y_load1 (v := (vi e2)) rfl (ev_gv et hc) u3 rfl (hq3 hc).1)) ?_
  refine s_gval (g_false rfl rfl rfl rfl) rfl (fun hc => y_gtr rfl (ev_gv et hc) ev_const) ?_
  refine sq (y_or rfl et et) ?_
  refine nk (cif h et (fun hb h => ?_) (fun hb h => ?_))
  ·refine sr (sac ?_)
   refine nk (c_ret ?_)
   obtain rfl := some_inj h
   exact q_ret (vs := [vi 23]) Tryz.results48 ⟨ev_tmp rfl rfl, trivial⟩ (fq hI trivial)
  refine c_skip (k_same (c_region rfl ?_))
  refine sm ?_
  refine sq (y_fieldAddr rfl et u24 rfl size_22 rfl) ?_
  refine sq (y_load1 (v := (vs a1 m1.Dims.length c1)) rfl et u22 rfl (hI.kblk (l := [vs a1 m1.Dims.length c1]) .z rfl).1) ?_
  refine sm ?_
  obtain ⟨e3, hx3, h⟩ := bnd_some h
  obtain ⟨ad3, cs3, hA3, hr3, hq4⟩ := hI.clat (.s .z) hx3
  obtain rfl : cs3 = [vi e3] := hr3
  refine sq (y_indexAddr rfl u22 size_3 et et (lat_bd hx3) hA3) ?_
  refine sq (y_load1 (v := (vi e3)) rfl et u3 rfl hq4.1) ?_
  refine sq (y_mul rfl et et) ?_
  refine sa ?_
  refine s_nil ?_
  refine k_next (e := [(1, vp b1 0), (3, (vi (wi64 (n1 * e3)))), (4, vi i1)]) ⟨rfl, rfl, rfl, trivial⟩ ?_
  refine c_region rfl ?_
  refine sm ?_
  refine sq (y_add rfl et ev_const) ?_
  refine sa ?_
  refine s_nil ?_
  exact k_loop (fuel1, wi64 (n1 * e3), wi64 (i1 + 1)) ⟨rfl, rfl, rfl, trivial⟩ ⟨_, hI.arr .n ⟨.z, (.s .z), trivial⟩, h⟩ (Nat.lt_succ_self _)
 refine c_exit ?_
 refine k_in ?_
 refine k_same (c_seq (sr (sm ?_)))
 refine sq (y_gtr rfl et ev_const) ?_
 refine nk (cif h et (fun hb h => ?_) (fun hb h => ?_))
 ·refine sr (sac ?_)
  refine nk (c_ret ?_)
  obtain rfl := some_inj h
  exact q_ret (vs := [vi 23]) Tryz.results48 ⟨ev_tmp rfl rfl, trivial⟩ (fq hI trivial)
 refine c_skip (k_same (sr (sac ?_)))
 refine nk (c_ret ?_)
 obtain rfl := some_inj h
 exact q_ret (vs := [vi 0]) Tryz.results48 ⟨ev_tmp rfl rfl, trivial⟩ (fq hI trivial)
theorem c_ref51_Devices (F : NP) (w0 : World) (hF : ∀ k, F k → k < w0.heap.size) (m1 : GMesh) (a1 : Option Addr) (c1 : Nat) (hc : AllCl [Cl.sl (cInt .i64) a1 c1 m1.Dims] F w0) (r : Int)
  (h : m_ref51_Devices m1 = some r) :
  Calls Tryz.prog 49 #[(Value.agg #[vs a1 m1.Dims.length c1])] w0 fun e w => e = .returned (vi r) ∧ Ext w0 w ∧ AllCl [] F w := by
 refine enterK Tryz.func49 rfl Tryz.ntmps49 rfl ?_
 have hI := Bun.start hF hc
 clear hc
 rw [m_ref51_Devices] at h
 refine sr (l_box (v := (Value.agg #[vs a1 m1.Dims.length c1])) (cs := #[vs a1 m1.Dims.length c1]) hI gn rfl rfl et rfl ?_)
 clear hI; intro b1 c2 w1 hI
 obtain ⟨c3, hI⟩ := hI.relBox .z
 refine sac ?_
 refine nk (c_seq (sr (sq (y_loadN (l := [vs a1 m1.Dims.length c1]) rfl et u24 rfl size_24 (hI.kblk (l := [vs a1 m1.Dims.length c1]) .z rfl).1) ?_)))
 obtain ⟨r1, hx1, h⟩ := bnd_some h
 refine s_call gn rfl (r_callF (vs := [(Value.agg #[vs a1 m1.Dims.length c1])]) rfl ok_48 ⟨et, trivial⟩) (Calls.mono (c_ref51_Validate (Dj F c3) w1 hI.lt m1 a1 c1 ⟨(hI.get (.s .z)), trivial⟩ r1 hx1) ?_)
 rintro _ w2 ⟨rfl, hx2, hl1⟩
 refine ⟨_, rfl, ?_⟩
 replace hI := (hI.ext hx2)
 refine sq (y_neq rfl et ev_const) ?_
 refine nk (cif h et (fun hb h => ?_) (fun hb h => ?_))
 ·refine sr (sac ?_)
  refine nk (c_ret ?_)
  obtain rfl := some_inj h
  exact q_ret (vs := [vi 0]) Tryz.results49 ⟨ev_tmp rfl rfl, trivial⟩ (fq hI trivial)
 refine c_skip (k_same (sr (sac ?_)))
 refine nk (c_seq (sr (sac ?_)))
 refine nk (c_block (c_loop (α := Nat × Int × Int) (fun x => fun w => ∃ C, Bun noM F w0 C w [] [Cl.blk b1 24 #[vs a1 m1.Dims.length c1], Cl.sl (cInt .i64) a1 c1 m1.Dims] ∧ m_ref51_Devices_l1 m1 (x.1) (x.2.1) (x.2.2) = some r) (fun x _ => x.1) (fun x => [(1, vp b1 0), (3, vi (x.2.1)), (4, vi (x.2.2))]) (fu, 1, 0) ⟨_, hI.arr .n ⟨.z, (.s .z), trivial⟩, h⟩ ⟨rfl, rfl, rfl, trivial⟩ ?_))
 clear h hI; rintro ⟨fuel1, n1, i1⟩ w3 ⟨c4, hI, h⟩
 dsimp only at hI h
 rcases fuel1 with _ | fuel1
 ·rw [m_ref51_Devices_l1] at h; cases h
 rw [m_ref51_Devices_l1] at h
 refine c_sub (e := [(1, vp b1 0), (3, vi n1), (4, vi i1)]) ⟨rfl, rfl, rfl, trivial⟩ ?_
 refine c_seq (sr (sm ?_))
 refine sq (y_fieldAddr rfl et u24 rfl size_22 rfl) ?_
 refine sq (y_load1 (v := (vs a1 m1.Dims.length c1)) rfl et u22 rfl (hI.kblk (l := [vs a1 m1.Dims.length c1]) .z rfl).1) ?_
 refine sq (y_lenl rfl u22 et) ?_
 refine sq (y_lss rfl et et) ?_
 refine nk (cif h et (fun hb h => ?_) (fun hb h => ?_))
 ·refine c_skip (k_same (c_seq (c_block (c_region rfl ?_))))
  refine sm ?_
  refine sq (y_fieldAddr rfl et u24 rfl size_22 rfl) ?_
  refine sq (y_load1 (v := (vs a1 m1.Dims.length c1)) rfl et u22 rfl (hI.kblk (l := [vs a1 m1.Dims.length c1]) .z rfl).1) ?_
  refine sm ?_
  obtain ⟨e1, hx3, h⟩ := bnd_some h
  obtain ⟨ad1, cs1, hA1, hr1, hq1⟩ := hI.clat (.s .z) hx3
  obtain rfl : cs1 = [vi e1] := hr1
  refine sq (y_indexAddr rfl u22 size_3 et et (lat_bd hx3) hA1) ?_
  refine sq (y_load1 (v := (vi e1)) rfl et u3 rfl hq1.1) ?_
  refine sq (y_mul rfl et et) ?_
  refine sa ?_
  refine nk (c_region rfl ?_)
  refine sm ?_
  refine sq (y_add rfl et ev_const) ?_
  refine sa ?_
  refine s_nil ?_
  exact k_loop (fuel1, wi64 (n1 * e1), wi64 (i1 + 1)) ⟨rfl, rfl, rfl, trivial⟩ ⟨_, hI.arr .n ⟨.z, (.s .z), trivial⟩, h⟩ (Nat.lt_succ_self _)
 refine c_exit ?_
 refine k_in ?_
 refine k_same (sr (sm ?_))
 refine sa ?_
 refine nk (c_ret ?_)
 obtain rfl := some_inj h
 exact q_ret (vs := [vi n1]) Tryz.results49 ⟨ev_tmp rfl rfl, trivial⟩ (fq hI trivial)
theorem c_base_Type (F : NP) (w0 : World) (hF : ∀ k, F k → k < w0.heap.size) (t1 : GType) (hc : AllCl [] F w0) (r : Bool)
  (h : m_base_Type t1 = some r) :
  Calls Tryz.prog 56 #[(Value.agg (AType t1))] w0 fun e w => e = .returned (vb r) ∧ Ext w0 w ∧ AllCl [] F w := by
 refine enterK Tryz.func56 rfl Tryz.ntmps56 rfl ?_
 have hI := Bun.start hF hc
 clear hc
 rw [m_base_Type] at h
 refine sr (l_box (v := (Value.agg (AType t1))) (cs := (AType t1)) hI gn rfl rfl et rfl ?_)
 clear hI; intro b1 c1 w1 hI
 obtain ⟨c2, hI⟩ := hI.relBox .z
 refine sac ?_
 refine nk (c_seq (sr (sq (y_fieldAddr rfl et u38 rfl size_3 rfl) ?_)))
 refine sq (y_load1 (v := (vi t1.Kind)) rfl et u3 rfl (hI.kblk (l := [vi t1.Kind]) .z rfl).1) ?_
 refine sq (y_eql rfl et ev_const) ?_
 refine sm ?_
 refine s_gval (g_false rfl rfl rfl rfl) rfl (fun hc => y_fieldAddr rfl et u38 rfl size_3 rfl) ?_
 refine s_gval (g_false rfl rfl rfl rfl) rfl (fun hc => (y_load1 (v := (vi t1.Kind)) rfl (ev_gv et hc) u3 rfl (hI.kblk (l := [vi t1.Kind]) .z rfl).1)) ?_
 refine s_gval (g_false rfl rfl rfl rfl) rfl (fun hc => y_eql rfl (ev_gv et hc) ev_const) ?_
 refine sq (y_or rfl et et) ?_
 refine nk (cif h et (fun hb h => ?_) (fun hb h => ?_))
 ·refine sr (sq (y_fieldAddr rfl et u38 rfl size_3 rfl) ?_)
  refine sq (y_load1 (v := (vi t1.Bits)) rfl et u3 rfl (hI.kblk (l := [vi t1.Bits]) .z rfl).1) ?_
  refine sq (y_eql rfl et ev_const) ?_
  refine sm ?_
  refine s_gval (g_true rfl rfl rfl rfl) rfl (fun hc => y_fieldAddr rfl et u38 rfl size_3 rfl) ?_
  refine s_gval (g_true rfl rfl rfl rfl) rfl (fun hc => (y_load1 (v := (vi t1.Frac)) rfl (ev_gv et hc) u3 rfl (hI.kblk (l := [vi t1.Frac]) .z rfl).1)) ?_
  refine s_gval (g_true rfl rfl rfl rfl) rfl (fun hc => y_eql rfl (ev_gv et hc) ev_const) ?_
  refine sq (y_and rfl et et) ?_
  refine sm ?_
  refine s_gval (g_true rfl rfl rfl rfl) rfl (fun hc => y_fieldAddr rfl et u38 rfl size_3 rfl) ?_
  refine s_gval (g_true rfl rfl rfl rfl) rfl (fun hc => (y_load1 (v := (vi t1.Round)) rfl (ev_gv et hc) u3 rfl (hI.kblk (l := [vi t1.Round]) .z rfl).1)) ?_
  refine s_gval (g_true rfl rfl rfl rfl) rfl (fun hc => y_eql rfl (ev_gv et hc) ev_const) ?_
  refine sq (y_and rfl et et) ?_
  refine sm ?_
  refine s_gval (g_true rfl rfl rfl rfl) rfl (fun hc => y_fieldAddr rfl et u38 rfl size_3 rfl) ?_
  refine s_gval (g_true rfl rfl rfl rfl) rfl (fun hc => (y_load1 (v := (vi t1.Over)) rfl (ev_gv et hc) u3 rfl (hI.kblk (l := [vi t1.Over]) .z rfl).1)) ?_
  refine s_gval (g_true rfl rfl rfl rfl) rfl (fun hc => y_eql rfl (ev_gv et hc) ev_const) ?_
  refine sq (y_and rfl et et) ?_
  refine sa ?_
  refine s_nil ?_
  refine k_next (e := [(2, (vb ((((decide (t1.Bits = 0)) && (decide (t1.Frac = 0))) && (decide (t1.Round = 0))) && (decide (t1.Over = 0)))))]) ⟨rfl, trivial⟩ ?_
  refine c_ret ?_
  obtain rfl := some_inj h
  exact q_ret (vs := [(vb ((((decide (t1.Bits = 0)) && (decide (t1.Frac = 0))) && (decide (t1.Round = 0))) && (decide (t1.Over = 0))))]) Tryz.results56 ⟨ev_tmp rfl rfl, trivial⟩ (fq hI trivial)
 refine c_skip (k_same (sr (sq (y_fieldAddr rfl et u38 rfl size_3 rfl) ?_)))
 refine sq (y_load1 (v := (vi t1.Kind)) rfl et u3 rfl (hI.kblk (l := [vi t1.Kind]) .z rfl).1) ?_
 refine sq (y_eql rfl et ev_const) ?_
 refine sm ?_
 refine s_gval (g_true rfl rfl rfl rfl) rfl (fun hc => y_fieldAddr rfl et u38 rfl size_3 rfl) ?_
 refine s_gval (g_true rfl rfl rfl rfl) rfl (fun hc => (y_load1 (v := (vi t1.Bits)) rfl (ev_gv et hc) u3 rfl (hI.kblk (l := [vi t1.Bits]) .z rfl).1)) ?_
 refine s_gval (g_true rfl rfl rfl rfl) rfl (fun hc => y_geq rfl (ev_gv et hc) ev_const) ?_
 refine sq (y_and rfl et et) ?_
 refine sm ?_
 refine s_gval (g_true rfl rfl rfl rfl) rfl (fun hc => y_fieldAddr rfl et u38 rfl size_3 rfl) ?_
 refine s_gval (g_true rfl rfl rfl rfl) rfl (fun hc => (y_load1 (v := (vi t1.Bits)) rfl (ev_gv et hc) u3 rfl (hI.kblk (l := [vi t1.Bits]) .z rfl).1)) ?_
 refine s_gval (g_true rfl rfl rfl rfl) rfl (fun hc => y_leq rfl (ev_gv et hc) ev_const) ?_
 refine sq (y_and rfl et et) ?_
 refine sm ?_
 refine s_gval (g_true rfl rfl rfl rfl) rfl (fun hc => y_fieldAddr rfl et u38 rfl size_3 rfl) ?_
 refine s_gval (g_true rfl rfl rfl rfl) rfl (fun hc => (y_load1 (v := (vi t1.Frac)) rfl (ev_gv et hc) u3 rfl (hI.kblk (l := [vi t1.Frac]) .z rfl).1)) ?_
 refine s_gval (g_true rfl rfl rfl rfl) rfl (fun hc => y_geq rfl (ev_gv et hc) ev_const) ?_
 refine sq (y_and rfl et et) ?_
 refine sm ?_
 refine s_gval (g_true rfl rfl rfl rfl) rfl (fun hc => y_fieldAddr rfl et u38 rfl size_3 rfl) ?_
 refine s_gval (g_true rfl rfl rfl rfl) rfl (fun hc => (y_load1 (v := (vi t1.Frac)) rfl (ev_gv et hc) u3 rfl (hI.kblk (l := [vi t1.Frac]) .z rfl).1)) ?_
 refine s_gval (g_true rfl rfl rfl rfl) rfl (fun hc => y_leq rfl (ev_gv et hc) ev_const) ?_
 refine sq (y_and rfl et et) ?_
 refine sm ?_
 refine s_gval (g_true rfl rfl rfl rfl) rfl (fun hc => y_fieldAddr rfl et u38 rfl size_3 rfl) ?_
 refine s_gval (g_true rfl rfl rfl rfl) rfl (fun hc => (y_load1 (v := (vi t1.Round)) rfl (ev_gv et hc) u3 rfl (hI.kblk (l := [vi t1.Round]) .z rfl).1)) ?_
 refine s_gval (g_true rfl rfl rfl rfl) rfl (fun hc => y_geq rfl (ev_gv et hc) ev_const) ?_
 refine sq (y_and rfl et et) ?_
 refine sm ?_
 refine s_gval (g_true rfl rfl rfl rfl) rfl (fun hc => y_fieldAddr rfl et u38 rfl size_3 rfl) ?_
 refine s_gval (g_true rfl rfl rfl rfl) rfl (fun hc => (y_load1 (v := (vi t1.Round)) rfl (ev_gv et hc) u3 rfl (hI.kblk (l := [vi t1.Round]) .z rfl).1)) ?_
 refine s_gval (g_true rfl rfl rfl rfl) rfl (fun hc => y_leq rfl (ev_gv et hc) ev_const) ?_
 refine sq (y_and rfl et et) ?_
 refine sm ?_
 refine s_gval (g_true rfl rfl rfl rfl) rfl (fun hc => y_fieldAddr rfl et u38 rfl size_3 rfl) ?_
 refine s_gval (g_true rfl rfl rfl rfl) rfl (fun hc => (y_load1 (v := (vi t1.Over)) rfl (ev_gv et hc) u3 rfl (hI.kblk (l := [vi t1.Over]) .z rfl).1)) ?_
 refine s_gval (g_true rfl rfl rfl rfl) rfl (fun hc => y_eql rfl (ev_gv et hc) ev_const) ?_
 refine s_gval (g_true rfl rfl rfl rfl) rfl (fun hc => y_move rfl (ev_gv et hc)) ?_
 refine s_gval (g_false2 rfl rfl rfl rfl) rfl (fun hc => y_fieldAddr rfl et u38 rfl size_3 rfl) ?_
 refine s_gval (g_false2 rfl rfl rfl rfl) rfl (fun hc => (y_load1 (v := (vi t1.Over)) rfl (ev_gv et hc) u3 rfl (hI.kblk (l := [vi t1.Over]) .z rfl).1)) ?_
 refine s_gval (g_false2 rfl rfl rfl rfl) rfl (fun hc => y_eql rfl (ev_gv et hc) ev_const) ?_
 refine s_gval (g_true rfl rfl rfl rfl) rfl (fun hc => y_or2 rfl hc et et) ?_
 refine sq (y_and rfl et et) ?_
 refine sa ?_
 refine s_nil ?_
 refine k_next (e := [(2, (vb ((((((((decide (t1.Kind = 2)) && (decide (2 ≤ t1.Bits))) && (decide (t1.Bits ≤ 31))) && (decide (0 ≤ t1.Frac))) && (decide (t1.Frac ≤ 30))) && (decide (1 ≤ t1.Round))) && (decide (t1.Round ≤ 4))) && ((decide (t1.Over = 1)) || (decide (t1.Over = 2))))))]) ⟨rfl, trivial⟩ ?_
 refine c_ret ?_
 obtain rfl := some_inj h
 exact q_ret (vs := [(vb ((((((((decide (t1.Kind = 2)) && (decide (2 ≤ t1.Bits))) && (decide (t1.Bits ≤ 31))) && (decide (0 ≤ t1.Frac))) && (decide (t1.Frac ≤ 30))) && (decide (1 ≤ t1.Round))) && (decide (t1.Round ≤ 4))) && ((decide (t1.Over = 1)) || (decide (t1.Over = 2)))))]) Tryz.results56 ⟨ev_tmp rfl rfl, trivial⟩ (fq hI trivial)
theorem c_ref12_Shape (F : NP) (w0 : World) (hF : ∀ k, F k → k < w0.heap.size) (d1 : List Int) (a1 : Option Addr) (c1 : Nat) (hc : AllCl [Cl.sl (cInt .i64) a1 c1 d1] F w0) (r : Int)
  (h : m_ref12_Shape d1 = some r) :
  Calls Tryz.prog 57 #[vs a1 d1.length c1] w0 fun e w => e = .returned (vi r) ∧ Ext w0 w ∧ AllCl [] F w := by
 refine enterK Tryz.func57 rfl Tryz.ntmps57 rfl ?_
 have hI := Bun.start hF hc
 clear hc
 rw [m_ref12_Shape] at h
 refine sr (sac ?_)
 refine nk (c_seq (sr (sm ?_)))
 refine sq (y_lenl rfl u22 et) ?_
 refine sq (y_gtr rfl et ev_const) ?_
 refine nk (cif h et (fun hb h => ?_) (fun hb h => ?_))
 ·refine sr (sac ?_)
  refine nk (c_ret ?_)
  obtain rfl := some_inj h
  exact q_ret (vs := [vi 2]) Tryz.results57 ⟨ev_tmp rfl rfl, trivial⟩ (fq hI trivial)
 refine c_skip (k_same (c_join (α := Unit) (fun _ => ⟨39, []⟩) (fun _ => [(0, vs a1 d1.length c1)]) (fun _ => fun w => ∃ C, Bun noM F w0 C w [] [Cl.sl (cInt .i64) a1 c1 d1] ∧ m_ref12_Shape_j1 d1 = some r) ?_ ?_))
 ·clear h hI; rintro _ w1 ⟨c2, hI, h⟩
  try dsimp only at hI h
  rw [m_ref12_Shape_j1] at h
  refine c_sub (e := [(0, vs a1 d1.length c1)]) ⟨rfl, trivial⟩ ?_
  refine sr (sac ?_)
  refine nk (c_seq (sr (sac ?_)))
  refine nk (c_block (c_loop (α := Nat × Int × Int) (fun x => fun w => ∃ C, Bun noM F w0 C w [] [Cl.sl (cInt .i64) a1 c1 d1] ∧ m_ref12_Shape_l1 d1 (x.1) (x.2.1) (x.2.2) = some r) (fun x _ => x.1) (fun x => [(0, vs a1 d1.length c1), (4, vi (x.2.1)), (5, vi (x.2.2))]) (fu, 1, 0) ⟨_, hI.arr .n ⟨.z, trivial⟩, h⟩ ⟨rfl, rfl, rfl, trivial⟩ ?_))
  clear h hI; rintro ⟨fuel1, n1, i1⟩ w2 ⟨c3, hI, h⟩
  dsimp only at hI h
  rcases fuel1 with _ | fuel1
  ·rw [m_ref12_Shape_l1] at h; cases h
  rw [m_ref12_Shape_l1] at h
  refine c_sub (e := [(0, vs a1 d1.length c1), (4, vi n1), (5, vi i1)]) ⟨rfl, rfl, rfl, trivial⟩ ?_
  refine c_seq (sr (sm ?_))
  refine sm ?_
  refine sq (y_lenl rfl u22 et) ?_
  refine sq (y_lss rfl et et) ?_
  refine nk (cif h et (fun hb h => ?_) (fun hb h => ?_))
  ·refine c_skip (k_same (c_seq (c_block (c_seq (c_seq (c_drawX [] false (.c (0, .q) (.c (1, .q) (.c (2, .q) (.c (3, .q) (.c (4, .q) (.c (5, .q) (.c (6, .q) .n))))))) hI (by kernel_rfl) (by kernel_rfl) ?_))))))
   clear hI; intro w3 hI
   refine a_q rfl gn rfl (fun w' => y_move rfl et) ?_
   refine a_q rfl gn rfl (fun w' => y_move rfl et) ?_
   obtain ⟨e1, hx1, h⟩ := bnd_some h
   obtain ⟨ad1, cs1, hA1, hr1, hq1⟩ := hI.clat .z hx1
   obtain rfl : cs1 = [vi e1] := hr1
   refine a_q rfl gn rfl (fun w' => y_indexAddr rfl u22 size_3 et et (lat_bd hx1) hA1) ?_
   refine a_read rfl gn rfl (fun w' hw' => (y_load1 (v := (vi e1)) rfl et u3 rfl (hq1.at_ (SX.any rfl hw')))) (by kernel_rfl) ?_
   refine a_q rfl gn rfl (fun w' => y_move rfl et) ?_
   obtain ⟨ho1, h⟩ := chk_some h
   refine a_q rfl gn rfl (fun w' => y_quo rfl ev_const et ho1) ?_
   refine a_q rfl gn rfl (fun w' => y_gtr rfl et et) ?_
   refine a_nil ?_
   refine k_same (cif h et (fun hb h => ?_) (fun hb h => ?_))
   ·refine sr (sac ?_)
    refine nk (c_ret ?_)
    obtain rfl := some_inj h
    exact q_ret (vs := [vi 2]) Tryz.results57 ⟨ev_tmp rfl rfl, trivial⟩ (fq hI trivial)
   refine c_skip (k_same (c_region rfl ?_))
   refine sm ?_
   refine sm ?_
   refine sm ?_
   obtain ⟨e2, hx2, h⟩ := bnd_some h
   obtain ⟨ad2, cs2, hA2, hr2, hq2⟩ := hI.clat .z hx2
   obtain rfl : cs2 = [vi e2] := hr2
   refine sq (y_indexAddr rfl u22 size_3 et et (lat_bd hx2) hA2) ?_
   refine sq (y_load1 (v := (vi e2)) rfl et u3 rfl hq2.1) ?_
   refine sq (y_mul rfl et et) ?_
   refine sa ?_
   refine nk (c_region rfl ?_)
   refine sm ?_
   refine sq (y_add rfl et ev_const) ?_
   refine sa ?_
   refine s_nil ?_
   exact k_loop (fuel1, wi64 (n1 * e2), wi64 (i1 + 1)) ⟨rfl, rfl, rfl, trivial⟩ ⟨_, hI.arr .n ⟨.z, trivial⟩, h⟩ (Nat.lt_succ_self _)
  refine c_exit ?_
  refine k_in ?_
  refine k_same (sr (sac ?_))
  refine nk (c_ret ?_)
  obtain rfl := some_inj h
  exact q_ret (vs := [vi 0]) Tryz.results57 ⟨ev_tmp rfl rfl, trivial⟩ (fq hI trivial)
 refine sr (sac ?_)
 refine nk (c_block (c_loop (α := Nat × Int) (fun x => fun w => ∃ C, Bun noM F w0 C w [] [Cl.sl (cInt .i64) a1 c1 d1] ∧ m_ref12_Shape_l2 d1 (x.1) (x.2) = some r) (fun x _ => x.1) (fun x => [(0, vs a1 d1.length c1), (3, vi (x.2))]) (fu, 0) ⟨_, hI.arr .n ⟨.z, trivial⟩, h⟩ ⟨rfl, rfl, trivial⟩ ?_))
 clear h hI; rintro ⟨fuel2, i2⟩ w4 ⟨c4, hI, h⟩
 dsimp only at hI h
 rcases fuel2 with _ | fuel2
 ·rw [m_ref12_Shape_l2] at h; cases h
 rw [m_ref12_Shape_l2] at h
 refine c_sub (e := [(0, vs a1 d1.length c1), (3, vi i2)]) ⟨rfl, rfl, trivial⟩ ?_
 refine c_seq (sr (sm ?_))
 refine sm ?_
 refine sq (y_lenl rfl u22 et) ?_
 refine sq (y_lss rfl et et) ?_
 refine nk (cif h et (fun hb h => ?_) (fun hb h => ?_))
 ·refine c_skip (k_same (c_seq (c_block (sr (sm ?_)))))
  refine sm ?_
  obtain ⟨e3, hx3, h⟩ := bnd_some h
  obtain ⟨ad3, cs3, hA3, hr3, hq3⟩ := hI.clat .z hx3
  obtain rfl : cs3 = [vi e3] := hr3
  refine sq (y_indexAddr rfl u22 size_3 et et (lat_bd hx3) hA3) ?_
  refine sq (y_load1 (v := (vi e3)) rfl et u3 rfl hq3.1) ?_
  refine sq (y_lss rfl et ev_const) ?_
  refine nk (cif h et (fun hb h => ?_) (fun hb h => ?_))
  ·refine sr (sac ?_)
   refine nk (c_ret ?_)
   obtain rfl := some_inj h
   exact q_ret (vs := [vi 1]) Tryz.results57 ⟨ev_tmp rfl rfl, trivial⟩ (fq hI trivial)
  refine c_skip (k_same (c_region rfl ?_))
  refine sm ?_
  refine sq (y_add rfl et ev_const) ?_
  refine sa ?_
  refine s_nil ?_
  exact k_loop (fuel2, wi64 (i2 + 1)) ⟨rfl, rfl, trivial⟩ ⟨_, hI.arr .n ⟨.z, trivial⟩, h⟩ (Nat.lt_succ_self _)
 refine c_exit ?_
 refine k_in ?_
 exact k_join () ⟨rfl, trivial⟩ ⟨_, hI.arr .n ⟨.z, trivial⟩, h⟩ rfl
theorem c_ref12_Size (F : NP) (w0 : World) (hF : ∀ k, F k → k < w0.heap.size) (d1 : List Int) (a1 : Option Addr) (c1 : Nat) (hc : AllCl [Cl.sl (cInt .i64) a1 c1 d1] F w0) (r : Int)
  (h : m_ref12_Size d1 = some r) :
  Calls Tryz.prog 58 #[vs a1 d1.length c1] w0 fun e w => e = .returned (vi r) ∧ Ext w0 w ∧ AllCl [] F w := by
 refine enterK Tryz.func58 rfl Tryz.ntmps58 rfl ?_
 have hI := Bun.start hF hc
 clear hc
 rw [m_ref12_Size] at h
 refine sr (sac ?_)
 refine nk (sr (sac ?_))
 refine nk (c_seq (sr (sac ?_)))
 refine nk (c_block (c_loop (α := Nat × Int × Int) (fun x => fun w => ∃ C, Bun noM F w0 C w [] [Cl.sl (cInt .i64) a1 c1 d1] ∧ m_ref12_Size_l1 d1 (x.1) (x.2.1) (x.2.2) = some r) (fun x _ => x.1) (fun x => [(0, vs a1 d1.length c1), (3, vi (x.2.1)), (4, vi (x.2.2))]) (fu, 1, 0) ⟨_, hI.arr .n ⟨.z, trivial⟩, h⟩ ⟨rfl, rfl, rfl, trivial⟩ ?_))
 clear h hI; rintro ⟨fuel1, n1, i1⟩ w1 ⟨c2, hI, h⟩
 dsimp only at hI h
 rcases fuel1 with _ | fuel1
 ·rw [m_ref12_Size_l1] at h; cases h
 rw [m_ref12_Size_l1] at h
 refine c_sub (e := [(0, vs a1 d1.length c1), (3, vi n1), (4, vi i1)]) ⟨rfl, rfl, rfl, trivial⟩ ?_
 refine c_seq (sr (sm ?_))
 refine sm ?_
 refine sq (y_lenl rfl u22 et) ?_
 refine sq (y_lss rfl et et) ?_
 refine nk (cif h et (fun hb h => ?_) (fun hb h => ?_))
 ·refine c_skip (k_same (c_seq (c_block (c_region rfl ?_))))
  refine sm ?_
  refine sm ?_
  refine sm ?_
  obtain ⟨e1, hx1, h⟩ := bnd_some h
  obtain ⟨ad1, cs1, hA1, hr1, hq1⟩ := hI.clat .z hx1
  obtain rfl : cs1 = [vi e1] := hr1
  refine sq (y_indexAddr rfl u22 size_3 et et (lat_bd hx1) hA1) ?_
  refine sq (y_load1 (v := (vi e1)) rfl et u3 rfl hq1.1) ?_
  refine sq (y_mul rfl et et) ?_
  refine sa ?_
  refine nk (c_region rfl ?_)
  refine sm ?_
  refine sq (y_add rfl et ev_const) ?_
  refine sa ?_
  refine s_nil ?_
  exact k_loop (fuel1, wi64 (n1 * e1), wi64 (i1 + 1)) ⟨rfl, rfl, rfl, trivial⟩ ⟨_, hI.arr .n ⟨.z, trivial⟩, h⟩ (Nat.lt_succ_self _)
 refine c_exit ?_
 refine k_in ?_
 refine k_same (sr (sm ?_))
 refine sa ?_
 refine nk (c_ret ?_)
 obtain rfl := some_inj h
 exact q_ret (vs := [vi n1]) Tryz.results58 ⟨ev_tmp rfl rfl, trivial⟩ (fq hI trivial)
theorem c_base_gcd (F : NP) (w0 : World) (hF : ∀ k, F k → k < w0.heap.size) (a1 : Int) (b1 : Int) (hc : AllCl [] F w0) (r : Int)
  (h : m_base_gcd a1 b1 = some r) :
  Calls Tryz.prog 83 #[vi a1, vi b1] w0 fun e w => e = .returned (vi r) ∧ Ext w0 w ∧ AllCl [] F w := by
 refine enterK Tryz.func83 rfl Tryz.ntmps83 rfl ?_
 have hI := Bun.start hF hc
 clear hc
 rw [m_base_gcd] at h
 refine sr (sac ?_)
 refine nk (c_seq (c_block (c_loop (α := Nat × Int × Int) (fun x => fun w => ∃ C, Bun noM F w0 C w [] [] ∧ m_base_gcd_l1 (x.1) (x.2.1) (x.2.2) = some r) (fun x _ => x.1) (fun x => [(0, vi (x.2.1)), (1, vi (x.2.2))]) (fu, a1, b1) ⟨_, hI.arr .n trivial, h⟩ ⟨rfl, rfl, trivial⟩ ?_)))
 clear h hI; rintro ⟨fuel1, a2, b2⟩ w1 ⟨c1, hI, h⟩
 dsimp only at hI h
 rcases fuel1 with _ | fuel1
 ·rw [m_base_gcd_l1] at h; cases h
 rw [m_base_gcd_l1] at h
 refine c_sub (e := [(0, vi a2), (1, vi b2)]) ⟨rfl, rfl, trivial⟩ ?_
 refine c_seq (sr (sm ?_))
 refine sq (y_neq rfl et ev_const) ?_
 refine nk (cif h et (fun hb h => ?_) (fun hb h => ?_))
 ·refine c_skip (k_same (c_block (c_drawX [] false (.c (0, .q) (.c (1, .q) (.c (2, .q) (.c (3, .q) (.c (4, .q) (.c (5, .q) .n)))))) hI (by kernel_rfl) (by kernel_rfl) ?_)))
  clear hI; intro w2 hI
  refine a_q rfl gn rfl (fun w' => y_move rfl et) ?_
  refine a_q rfl gn rfl (fun w' => y_move rfl et) ?_
  refine a_q rfl gn rfl (fun w' => y_move rfl et) ?_
  obtain ⟨ho1, h⟩ := chk_some h
  refine a_q rfl gn rfl (fun w' => y_rem rfl et et ho1) ?_
  refine a_q rfl gn rfl (fun w' => y_assign rfl et) ?_
  refine a_q rfl gn rfl (fun w' => y_assign rfl et) ?_
  refine a_nil ?_
  exact k_loop (fuel1, b2, Int.tmod a2 b2) ⟨rfl, rfl, trivial⟩ ⟨_, hI.arr .n trivial, h⟩ (Nat.lt_succ_self _)
 refine c_exit ?_
 refine k_in ?_
 refine k_same (sr (sm ?_))
 refine sa ?_
 refine nk (c_ret ?_)
 obtain rfl := some_inj h
 exact q_ret (vs := [vi a2]) Tryz.results83 ⟨ev_tmp rfl rfl, trivial⟩ (fq hI trivial)
theorem c_base_Val (F : NP) (w0 : World) (hF : ∀ k, F k → k < w0.heap.size) (t1 : GType) (v1 : GVal) (hc : AllCl [] F w0) (r : Bool)
  (h : m_base_Val t1 v1 = some r) :
  Calls Tryz.prog 59 #[(Value.agg (AType t1)), (Value.agg (AVal v1))] w0 fun e w => e = .returned (vb r) ∧ Ext w0 w ∧ AllCl [] F w := by
 refine enterK Tryz.func59 rfl Tryz.ntmps59 rfl ?_
 have hI := Bun.start hF hc
 clear hc
 rw [m_base_Val] at h
 refine sr (l_box (v := (Value.agg (AType t1))) (cs := (AType t1)) hI gn rfl rfl et rfl ?_)
 clear hI; intro b1 c1 w1 hI
 obtain ⟨c2, hI⟩ := hI.relBox .z
 refine l_box (v := (Value.agg (AVal v1))) (cs := (AVal v1)) hI gn rfl rfl et rfl ?_
 clear hI; intro b2 c3 w2 hI
 obtain ⟨c4, hI⟩ := hI.relBox .z
 refine sac ?_
 refine nk (c_seq (sr (sq (y_fieldAddr rfl et u38 rfl size_3 rfl) ?_)))
 refine sq (y_load1 (v := (vi t1.Kind)) rfl et u3 rfl (hI.kblk (l := [vi t1.Kind]) (.s .z) rfl).1) ?_
 refine sq (y_eql rfl et ev_const) ?_
 refine nk (cif h et (fun hb h => ?_) (fun hb h => ?_))
 ·refine sr (sq (y_fieldAddr rfl et u38 rfl size_3 rfl) ?_)
  refine sq (y_load1 (v := (vi t1.Bits)) rfl et u3 rfl (hI.kblk (l := [vi t1.Bits]) (.s .z) rfl).1) ?_
  refine sq (y_sub rfl et ev_const) ?_
  obtain ⟨ho1, h⟩ := chk_some h
  refine sq (y_shl rfl ev_const et ho1) ?_
  obtain ⟨half1, hx1, h⟩ := bnd_some h
  refine sq (binU (y_assign rfl et) (congrArg (Value.int .i64) (some_inj hx1))) ?_
  refine nk (sr (sq (y_fieldAddr rfl et u68 rfl size_2 rfl) ?_))
  refine sq (y_load1 (v := (vi v1.D)) rfl et u2 rfl (hI.kblk (l := [vi v1.D]) .z rfl).1) ?_
  refine sq (y_eql rfl et ev_const) ?_
  refine sm ?_
  refine s_gval (g_true rfl rfl rfl rfl) rfl (fun hc => y_fieldAddr rfl et u68 rfl size_2 rfl) ?_
  refine s_gval (g_true rfl rfl rfl rfl) rfl (fun hc => (y_load1 (v := (vi v1.N)) rfl (ev_gv et hc) u2 rfl (hI.kblk (l := [vi v1.N]) .z rfl).1)) ?_
  refine s_gval (g_true rfl rfl rfl rfl) rfl (fun hc => y_move rfl et) ?_
  refine s_gval (g_true rfl rfl rfl rfl) rfl (fun hc => y_neg rfl (ev_gv et hc)) ?_
  refine s_gval (g_true rfl rfl rfl rfl) rfl (fun hc => y_geq rfl (ev_gv et hc) (ev_gv et hc)) ?_
  refine sq (y_and rfl et et) ?_
  refine sm ?_
  refine s_gval (g_true rfl rfl rfl rfl) rfl (fun hc => y_fieldAddr rfl et u68 rfl size_2 rfl) ?_
  refine s_gval (g_true rfl rfl rfl rfl) rfl (fun hc => (y_load1 (v := (vi v1.N)) rfl (ev_gv et hc) u2 rfl (hI.kblk (l := [vi v1.N]) .z rfl).1)) ?_
  refine s_gval (g_true rfl rfl rfl rfl) rfl (fun hc => y_move rfl et) ?_
  refine s_gval (g_true rfl rfl rfl rfl) rfl (fun hc => y_lss rfl (ev_gv et hc) (ev_gv et hc)) ?_
  refine sq (y_and rfl et et) ?_
  refine sa ?_
  refine s_nil ?_
  refine k_next (e := [(4, (vb (((decide (v1.D = 1)) && (decide (wi64 (-half1) ≤ v1.N))) && (decide (v1.N < half1)))))]) ⟨rfl, trivial⟩ ?_
  refine c_ret ?_
  obtain rfl := some_inj h
  exact q_ret (vs := [(vb (((decide (v1.D = 1)) && (decide (wi64 (-half1) ≤ v1.N))) && (decide (v1.N < half1))))]) Tryz.results59 ⟨ev_tmp rfl rfl, trivial⟩ (fq hI trivial)
 refine c_skip (k_same (c_seq (sr (sq (y_fieldAddr rfl et u68 rfl size_2 rfl) ?_))))
 refine sq (y_load1 (v := (vi v1.N)) rfl et u2 rfl (hI.kblk (l := [vi v1.N]) .z rfl).1) ?_
 refine sq (y_gtr rfl et ev_const) ?_
 refine sm ?_
 refine s_gval (g_false rfl rfl rfl rfl) rfl (fun hc => y_fieldAddr rfl et u68 rfl size_2 rfl) ?_
 refine s_gval (g_false rfl rfl rfl rfl) rfl (fun hc => (y_load1 (v := (vi v1.N)) rfl (ev_gv et hc) u2 rfl (hI.kblk (l := [vi v1.N]) .z rfl).1)) ?_
 refine s_gval (g_false rfl rfl rfl rfl) rfl (fun hc => y_lss rfl (ev_gv et hc) ev_const) ?_
 refine sq (y_or rfl et et) ?_
 refine sm ?_
 refine s_gval (g_false rfl rfl rfl rfl) rfl (fun hc => y_fieldAddr rfl et u68 rfl size_2 rfl) ?_
 refine s_gval (g_false rfl rfl rfl rfl) rfl (fun hc => (y_load1 (v := (vi v1.D)) rfl (ev_gv et hc) u2 rfl (hI.kblk (l := [vi v1.D]) .z rfl).1)) ?_
 refine s_gval (g_false rfl rfl rfl rfl) rfl (fun hc => y_lss rfl (ev_gv et hc) ev_const) ?_
 refine sq (y_or rfl et et) ?_
 refine sm ?_
 refine s_gval (g_false rfl rfl rfl rfl) rfl (fun hc => y_fieldAddr rfl et u68 rfl size_2 rfl) ?_
 refine s_gval (g_false rfl rfl rfl rfl) rfl (fun hc => (y_load1 (v := (vi v1.D)) rfl (ev_gv et hc) u2 rfl (hI.kblk (l := [vi v1.D]) .z rfl).1)) ?_
 refine s_gval (g_false rfl rfl rfl rfl) rfl (fun hc => y_gtr rfl (ev_gv et hc) ev_const) ?_
 refine sq (y_or rfl et et) ?_
 refine nk (cif h et (fun hb h => ?_) (fun hb h => ?_))
 ·refine sr (sac ?_)
  refine s_nil ?_
  refine k_next (e := [(4, vb false)]) ⟨rfl, trivial⟩ ?_
  refine c_ret ?_
  obtain rfl := some_inj h
  exact q_ret (vs := [vb false]) Tryz.results59 ⟨ev_tmp rfl rfl, trivial⟩ (fq hI trivial)
 refine c_skip (k_next (e := [(2, vp b1 0), (3, vp b2 0)]) ⟨rfl, rfl, trivial⟩ ?_)
 refine c_seq (sr (sq (y_fieldAddr rfl et u38 rfl size_3 rfl) ?_))
 refine sq (y_load1 (v := (vi t1.Kind)) rfl et u3 rfl (hI.kblk (l := [vi t1.Kind]) (.s .z) rfl).1) ?_
 refine sq (y_eql rfl et ev_const) ?_
 refine nk (cif h et (fun hb h => ?_) (fun hb h => ?_))
 ·refine sr (sq (y_fieldAddr rfl et u68 rfl size_2 rfl) ?_)
  refine sq (y_load1 (v := (vi v1.D)) rfl et u2 rfl (hI.kblk (l := [vi v1.D]) .z rfl).1) ?_
  refine sq (y_eql rfl et ev_const) ?_
  refine sa ?_
  refine nk (c_ret ?_)
  obtain rfl := some_inj h
  exact q_ret (vs := [(vb (decide (v1.D = 1)))]) Tryz.results59 ⟨ev_tmp rfl rfl, trivial⟩ (fq hI trivial)
 refine c_skip (k_same (sr (sq (y_fieldAddr rfl et u68 rfl size_2 rfl) ?_)))
 refine sq (y_load1 (v := (vi v1.N)) rfl et u2 rfl (hI.kblk (l := [vi v1.N]) .z rfl).1) ?_
 refine sq (y_fieldAddr rfl et u68 rfl size_2 rfl) ?_
 refine sq (y_load1 (v := (vi v1.N)) rfl et u2 rfl (hI.kblk (l := [vi v1.N]) .z rfl).1) ?_
 refine sq (y_neg rfl et) ?_
 refine sq (y_max rfl et et) ?_
 refine sq (y_fieldAddr rfl et u68 rfl size_2 rfl) ?_
 refine sq (y_load1 (v := (vi v1.D)) rfl et u2 rfl (hI.kblk (l := [vi v1.D]) .z rfl).1) ?_
 obtain ⟨r1, hx2, h⟩ := bnd_some h
 refine s_call gn rfl (r_callF (vs := [(vi (max v1.N (wi64 (-v1.N)))), vi v1.D]) rfl ok_83 ⟨et, ⟨et, trivial⟩⟩) (Calls.mono (c_base_gcd (Dj F c4) w2 hI.lt (max v1.N (wi64 (-v1.N))) v1.D trivial r1 hx2) ?_)
 rintro _ w3 ⟨rfl, hx3, hl1⟩
 refine ⟨_, rfl, ?_⟩
 replace hI := (hI.ext hx3)
 refine sq (y_eql rfl et ev_const) ?_
 refine sa ?_
 refine nk (c_ret ?_)
 obtain rfl := some_inj h
 exact q_ret (vs := [(vb (decide (r1 = 1)))]) Tryz.results59 ⟨ev_tmp rfl rfl, trivial⟩ (fq hI trivial)
theorem c_ref12_Validate (F : NP) (w0 : World) (hF : ∀ k, F k → k < w0.heap.size) (t1 : GTensor) (a1 : Option Addr) (c1 : Nat) (a2 : Option Addr) (c2 : Nat) (hc : AllCl [Cl.sl (cInt .i64) a1 c1 t1.Dims, Cl.sl cGVal a2 c2 t1.Vals] F w0) (r : Int)
  (h : m_ref12_Validate t1 = some r) :
  Calls Tryz.prog 26 #[(Value.agg (ATensor t1 a1 c1 a2 c2))] w0 fun e w => e = .returned (vi r) ∧ Ext w0 w ∧ AllCl [] F w := by
 refine enterK Tryz.func26 rfl Tryz.ntmps26 rfl ?_
 have hI := Bun.start hF hc
 clear hc
 rw [m_ref12_Validate] at h
 refine sr (l_box (v := (Value.agg (ATensor t1 a1 c1 a2 c2))) (cs := (ATensor t1 a1 c1 a2 c2)) hI gn rfl rfl et rfl ?_)
 clear hI; intro b1 c3 w1 hI
 obtain ⟨c4, hI⟩ := hI.relBox .z
 refine sac ?_
 refine nk (c_seq (sr (sq (y_fieldAddr rfl et u41 rfl size_38 rfl) ?_)))
 refine sq (y_loadN (l := (lType t1.Type_)) rfl et u38 rfl size_38 (hI.kblk (l := (lType t1.Type_)) .z rfl).1) ?_
 obtain ⟨r1, hx1, h⟩ := bnd_some h
 refine s_call gn rfl (r_callF (vs := [(Value.agg (AType t1.Type_))]) rfl ok_56 ⟨et, trivial⟩) (Calls.mono (c_base_Type (Dj F c4) w1 hI.lt t1.Type_ trivial r1 hx1) ?_)
 rintro _ w2 ⟨rfl, hx2, hl1⟩
 refine ⟨_, rfl, ?_⟩
 replace hI := (hI.ext hx2)
 refine sq (y_not rfl et) ?_
 refine nk (cif h et (fun hb h => ?_) (fun hb h => ?_))
 ·refine sr (sac ?_)
  refine nk (c_ret ?_)
  obtain rfl := some_inj h
  exact q_ret (vs := [vi 10]) Tryz.results26 ⟨ev_tmp rfl rfl, trivial⟩ (fq hI trivial)
 refine c_skip (k_same (c_seq (sr (sq (y_fieldAddr rfl et u41 rfl size_22 rfl) ?_))))
 refine sq (y_load1 (v := (vs a1 t1.Dims.length c1)) rfl et u22 rfl (hI.kblk (l := [vs a1 t1.Dims.length c1]) .z rfl).1) ?_
 obtain ⟨r2, hx3, h⟩ := bnd_some h
 refine s_call gn rfl (r_callF (vs := [vs a1 t1.Dims.length c1]) rfl ok_57 ⟨et, trivial⟩) (Calls.mono (c_ref12_Shape (Dj F c4) w2 hI.lt t1.Dims a1 c1 ⟨(hI.get (.s .z)), trivial⟩ r2 hx3) ?_)
 rintro _ w3 ⟨rfl, hx4, hl2⟩
 refine ⟨_, rfl, ?_⟩
 replace hI := (hI.ext hx4)
 refine sa ?_
 refine nk (sr (sm ?_))
 refine sq (y_neq rfl et ev_const) ?_
 refine nk (cif h et (fun hb h => ?_) (fun hb h => ?_))
 ·refine sr (sm ?_)
  refine sa ?_
  refine nk (c_ret ?_)
  obtain rfl := some_inj h
  exact q_ret (vs := [vi r2]) Tryz.results26 ⟨ev_tmp rfl rfl, trivial⟩ (fq hI trivial)
 refine c_skip (k_same (c_seq (c_seq (c_drawX [] false (.c (0, .q) (.c (1, .q) (.c (2, .q) (.c (3, .q) (.c (4, .q) (.c (5, .s) (.c (6, .q) .n))))))) hI (by kernel_rfl) (by kernel_rfl) ?_))))
 clear hI; intro w4 hI
 refine a_q rfl gn rfl (fun w' => y_fieldAddr rfl et u41 rfl size_39 rfl) ?_
 refine a_read rfl gn rfl (fun w' hw' => (y_load1 (v := (vs a2 t1.Vals.length c2)) rfl et u39 rfl ((hI.kblk (l := [vs a2 t1.Vals.length c2]) .z rfl).at_ (SX.any rfl hw')))) (by kernel_rfl) ?_
 refine a_q rfl gn rfl (fun w' => y_lenl rfl u39 et) ?_
 refine a_q rfl gn rfl (fun w' => y_fieldAddr rfl et u41 rfl size_22 rfl) ?_
 refine a_read rfl gn rfl (fun w' hw' => (y_load1 (v := (vs a1 t1.Dims.length c1)) rfl et u22 rfl ((hI.kblk (l := [vs a1 t1.Dims.length c1]) .z rfl).at_ (SX.any rfl hw')))) (by kernel_rfl) ?_
 obtain ⟨r3, hx5, h⟩ := bnd_some h
 refine la_call rfl gn rfl (r_callF (vs := [vs a1 t1.Dims.length c1]) rfl ok_58 ⟨et, trivial⟩) (Calls.mono (c_ref12_Size (Dj F c4) w4 hI.lt t1.Dims a1 c1 ⟨(hI.get (.s .z)), trivial⟩ r3 hx5) ?_)
 rintro _ w5 ⟨rfl, hx6, hl3⟩
 refine ⟨_, rfl, hx6, ?_⟩
 replace hI := (hI.ext hx6)
 refine a_q rfl gn rfl (fun w' => y_neq rfl et et) ?_
 refine a_nil ?_
 refine k_same (cif h et (fun hb h => ?_) (fun hb h => ?_))
 ·refine sr (sac ?_)
  refine nk (c_ret ?_)
  obtain rfl := some_inj h
  exact q_ret (vs := [vi 1]) Tryz.results26 ⟨ev_tmp rfl rfl, trivial⟩ (fq hI trivial)
 refine c_skip (k_same (c_seq (sr (sac ?_))))
 refine nk (c_block (c_loop (α := Nat × Int) (fun x => fun w => ∃ C, Bun noM F w0 C w [] [Cl.blk b1 41 (ATensor t1 a1 c1 a2 c2), Cl.sl (cInt .i64) a1 c1 t1.Dims, Cl.sl cGVal a2 c2 t1.Vals] ∧ m_ref12_Validate_l1 t1 (x.1) (x.2) = some r) (fun x _ => x.1) (fun x => [(1, vp b1 0), (4, vi (x.2))]) (fu, 0) ⟨_, hI.arr .n ⟨.z, (.s .z), (.s (.s .z)), trivial⟩, h⟩ ⟨rfl, rfl, trivial⟩ ?_))
 clear h hI; rintro ⟨fuel1, i1⟩ w6 ⟨c5, hI, h⟩
 dsimp only at hI h
 rcases fuel1 with _ | fuel1
 ·rw [m_ref12_Validate_l1] at h; cases h
 rw [m_ref12_Validate_l1] at h
 refine c_sub (e := [(1, vp b1 0), (4, vi i1)]) ⟨rfl, rfl, trivial⟩ ?_
 refine c_seq (sr (sm ?_))
 refine sq (y_fieldAddr rfl et u41 rfl size_39 rfl) ?_
 refine sq (y_load1 (v := (vs a2 t1.Vals.length c2)) rfl et u39 rfl (hI.kblk (l := [vs a2 t1.Vals.length c2]) .z rfl).1) ?_
 refine sq (y_lenl rfl u39 et) ?_
 refine sq (y_lss rfl et et) ?_
 refine nk (cif h et (fun hb h => ?_) (fun hb h => ?_))
 ·refine c_skip (k_same (c_seq (c_block (c_seq (c_drawX [] false (.c (0, .q) (.c (1, .q) (.c (2, .q) (.c (3, .q) (.c (4, .q) (.c (5, .q) (.c (6, .q) (.c (7, .s) (.c (8, .q) .n))))))))) hI (by kernel_rfl) (by kernel_rfl) ?_)))))
  clear hI; intro w7 hI
  refine a_q rfl gn rfl (fun w' => y_fieldAddr rfl et u41 rfl size_38 rfl) ?_
  refine a_read rfl gn rfl (fun w' hw' => (y_loadN (l := (lType t1.Type_)) rfl et u38 rfl size_38 ((hI.kblk (l := (lType t1.Type_)) .z rfl).at_ (SX.any rfl hw')))) (by kernel_rfl) ?_
  refine a_q rfl gn rfl (fun w' => y_fieldAddr rfl et u41 rfl size_39 rfl) ?_
  refine a_read rfl gn rfl (fun w' hw' => (y_load1 (v := (vs a2 t1.Vals.length c2)) rfl et u39 rfl ((hI.kblk (l := [vs a2 t1.Vals.length c2]) .z rfl).at_ (SX.any rfl hw')))) (by kernel_rfl) ?_
  refine a_q rfl gn rfl (fun w' => y_move rfl et) ?_
  obtain ⟨e1, hx7, h⟩ := bnd_some h
  obtain ⟨ad1, cs1, hA1, hr1, hq1⟩ := hI.clat (.s (.s .z)) hx7
  obtain rfl : cs1 = (lVal e1) := hr1
  refine a_q rfl gn rfl (fun w' => y_indexAddr rfl u39 size_68 et et (lat_bd hx7) hA1) ?_
  refine a_read rfl gn rfl (fun w' hw' => (y_loadN (l := (lVal e1)) rfl et u68 rfl size_68 (hq1.at_ (SX.any rfl hw')))) (by kernel_rfl) ?_
  obtain ⟨r4, hx8, h⟩ := bnd_some h
  refine la_call rfl gn rfl (r_callF (vs := [(Value.agg (AType t1.Type_)), (Value.agg (AVal e1))]) rfl ok_59 ⟨et, ⟨et, trivial⟩⟩) (Calls.mono (c_base_Val (Dj F c5) w7 hI.lt t1.Type_ e1 trivial r4 hx8) ?_)
  rintro _ w8 ⟨rfl, hx9, hl4⟩
  refine ⟨_, rfl, hx9, ?_⟩
  replace hI := (hI.ext hx9)
  refine a_q rfl gn rfl (fun w' => y_not rfl et) ?_
  refine a_nil ?_
  refine k_same (cif h et (fun hb h => ?_) (fun hb h => ?_))
  ·refine sr (sac ?_)
   refine nk (c_ret ?_)
   obtain rfl := some_inj h
   exact q_ret (vs := [vi 1]) Tryz.results26 ⟨ev_tmp rfl rfl, trivial⟩ (fq hI trivial)
  refine c_skip (k_same (c_region rfl ?_))
  refine sm ?_
  refine sq (y_add rfl et ev_const) ?_
  refine sa ?_
  refine s_nil ?_
  exact k_loop (fuel1, wi64 (i1 + 1)) ⟨rfl, rfl, trivial⟩ ⟨_, hI.arr .n ⟨.z, (.s .z), (.s (.s .z)), trivial⟩, h⟩ (Nat.lt_succ_self _)
 refine c_exit ?_
 refine k_in ?_
 refine k_same (sr (sac ?_))
 refine nk (c_ret ?_)
 obtain rfl := some_inj h
 exact q_ret (vs := [vi 0]) Tryz.results26 ⟨ev_tmp rfl rfl, trivial⟩ (fq hI trivial)
theorem c_ref53_Check (F : NP) (w0 : World) (hF : ∀ k, F k → k < w0.heap.size) (m1 : GMesh) (l1 : List GTensor) (a1 : Option Addr) (c1 : Nat) (a2 : Option Addr) (c2 : Nat) (hc : AllCl [Cl.sl (cInt .i64) a1 c1 m1.Dims, Cl.sl cGTensor a2 c2 l1] F w0) (r : Int)
  (h : m_ref53_Check m1 l1 = some r) :
  Calls Tryz.prog 20 #[(Value.agg #[vs a1 m1.Dims.length c1]), vs a2 l1.length c2] w0 fun e w => e = .returned (vi r) ∧ Ext w0 w ∧ AllCl [] F w := by
 refine enterK Tryz.func20 rfl Tryz.ntmps20 rfl ?_
 have hI := Bun.start hF hc
 clear hc
 rw [m_ref53_Check] at h
 refine sr (l_box (v := (Value.agg #[vs a1 m1.Dims.length c1])) (cs := #[vs a1 m1.Dims.length c1]) hI gn rfl rfl et rfl ?_)
 clear hI; intro b1 c3 w1 hI
 obtain ⟨c4, hI⟩ := hI.relBox .z
 refine sac ?_
 refine nk (c_seq (sr (sq (y_loadN (l := [vs a1 m1.Dims.length c1]) rfl et u24 rfl size_24 (hI.kblk (l := [vs a1 m1.Dims.length c1]) .z rfl).1) ?_)))
 obtain ⟨r1, hx1, h⟩ := bnd_some h
 refine s_call gn rfl (r_callF (vs := [(Value.agg #[vs a1 m1.Dims.length c1])]) rfl ok_48 ⟨et, trivial⟩) (Calls.mono (c_ref51_Validate (Dj F c4) w1 hI.lt m1 a1 c1 ⟨(hI.get (.s .z)), trivial⟩ r1 hx1) ?_)
 rintro _ w2 ⟨rfl, hx2, hl1⟩
 refine ⟨_, rfl, ?_⟩
 replace hI := (hI.ext hx2)
 refine sa ?_
 refine nk (sr (sm ?_))
 refine sq (y_neq rfl et ev_const) ?_
 refine nk (cif h et (fun hb h => ?_) (fun hb h => ?_))
 ·refine sr (sm ?_)
  refine sa ?_
  refine nk (c_ret ?_)
  obtain rfl := some_inj h
  exact q_ret (vs := [vi r1]) Tryz.results20 ⟨ev_tmp rfl rfl, trivial⟩ (fq hI trivial)
 refine c_skip (k_same (c_seq (sr (sm ?_))))
 refine sq (y_lenl rfl u25 et) ?_
 refine sq (y_loadN (l := [vs a1 m1.Dims.length c1]) rfl et u24 rfl size_24 (hI.kblk (l := [vs a1 m1.Dims.length c1]) .z rfl).1) ?_
 obtain ⟨r2, hx3, h⟩ := bnd_some h
 refine s_call gn rfl (r_callF (vs := [(Value.agg #[vs a1 m1.Dims.length c1])]) rfl ok_49 ⟨et, trivial⟩) (Calls.mono (c_ref51_Devices (Dj F c4) w2 hI.lt m1 a1 c1 ⟨(hI.get (.s .z)), trivial⟩ r2 hx3) ?_)
 rintro _ w3 ⟨rfl, hx4, hl2⟩
 refine ⟨_, rfl, ?_⟩
 replace hI := (hI.ext hx4)
 refine sq (y_neq rfl et et) ?_
 refine nk (cif h et (fun hb h => ?_) (fun hb h => ?_))
 ·refine sr (sac ?_)
  refine nk (c_ret ?_)
  obtain rfl := some_inj h
  exact q_ret (vs := [vi 1]) Tryz.results20 ⟨ev_tmp rfl rfl, trivial⟩ (fq hI trivial)
 refine c_skip (k_same (c_join (α := Unit) (fun _ => ⟨60, []⟩) (fun _ => [(1, vs a2 l1.length c2)]) (fun _ => fun w => ∃ C, Bun noM F w0 C w [] [Cl.sl cGTensor a2 c2 l1] ∧ m_ref53_Check_j1 l1 = some r) ?_ ?_))
 ·clear h hI; rintro _ w4 ⟨c5, hI, h⟩
  try dsimp only at hI h
  rw [m_ref53_Check_j1] at h
  refine c_sub (e := [(1, vs a2 l1.length c2)]) ⟨rfl, trivial⟩ ?_
  refine c_seq (sr (sac ?_))
  refine nk (c_block (c_loop (α := Nat × Int) (fun x => fun w => ∃ C, Bun noM F w0 C w [] [Cl.sl cGTensor a2 c2 l1] ∧ m_ref53_Check_l1 l1 (x.1) (x.2) = some r) (fun x _ => x.1) (fun x => [(1, vs a2 l1.length c2), (8, vi (x.2))]) (fu, 1) ⟨_, hI.arr .n ⟨.z, trivial⟩, h⟩ ⟨rfl, rfl, trivial⟩ ?_))
  clear h hI; rintro ⟨fuel1, i1⟩ w5 ⟨c6, hI, h⟩
  dsimp only at hI h
  rcases fuel1 with _ | fuel1
  ·rw [m_ref53_Check_l1] at h; cases h
  rw [m_ref53_Check_l1] at h
  refine c_sub (e := [(1, vs a2 l1.length c2), (8, vi i1)]) ⟨rfl, rfl, trivial⟩ ?_
  refine c_seq (sr (sm ?_))
  refine sm ?_
  refine sq (y_lenl rfl u25 et) ?_
  refine sq (y_lss rfl et et) ?_
  refine nk (cif h et (fun hb h => ?_) (fun hb h => ?_))
  ·refine c_skip (k_same (c_seq (c_block (c_seq (c_seq (c_drawX [] false (.c (0, .q) (.c (1, .q) (.c (2, .q) (.c (3, .q) (.c (4, .q) (.c (5, .q) (.c (6, .q) (.c (7, .q) (.c (8, .q) (.c (9, .q) .n)))))))))) hI (by kernel_rfl) (by kernel_rfl) ?_))))))
   clear hI; intro w6 hI
   refine a_q rfl gn rfl (fun w' => y_move rfl et) ?_
   refine a_q rfl gn rfl (fun w' => y_move rfl et) ?_
   obtain ⟨e1, hx5, h⟩ := bnd_some h
   obtain ⟨ad1, cs1, hA1, hr1, hq1⟩ := hI.clat .z hx5
   obtain ⟨a3, c7, a4, c8, rfl, hf1, hf2⟩ := hr1
   have hI := hI.add (c := Cl.sl (cInt .i64) a3 c7 e1.Dims) hf1
   have hI := hI.add (c := Cl.sl cGVal a4 c8 e1.Vals) hf2
   refine a_q rfl gn rfl (fun w' => y_indexAddr rfl u25 size_41 et et (lat_bd hx5) hA1) ?_
   refine a_q rfl gn rfl (fun w' => y_fieldAddr rfl et u41 rfl size_38 rfl) ?_
   refine a_read rfl gn rfl (fun w' hw' => (y_loadN (l := (lType e1.Type_)) rfl et u38 rfl size_38 ((CA.part hq1 rfl).at_ (SX.any rfl hw')))) (by kernel_rfl) ?_
   refine a_q rfl gn rfl (fun w' => y_move rfl et) ?_
   obtain ⟨e2, hx6, h⟩ := bnd_some h
   obtain ⟨ad2, cs2, hA2, hr2, hq2⟩ := hI.clat (.s (.s .z)) hx6
   obtain ⟨a5, c9, a6, c10, rfl, hf3, hf4⟩ := hr2
   have hI := hI.add (c := Cl.sl (cInt .i64) a5 c9 e2.Dims) hf3
   have hI := hI.add (c := Cl.sl cGVal a6 c10 e2.Vals) hf4
   refine a_q rfl gn rfl (fun w' => y_indexAddr rfl u25 size_41 et ev_const (lat_bd hx6) hA2) ?_
   refine a_q rfl gn rfl (fun w' => y_fieldAddr rfl et u41 rfl size_38 rfl) ?_
   refine a_read rfl gn rfl (fun w' hw' => (y_loadN (l := (lType e2.Type_)) rfl et u38 rfl size_38 ((CA.part hq2 rfl).at_ (SX.any rfl hw')))) (by kernel_rfl) ?_
   refine a_q rfl gn rfl (fun w' => y_bin rfl et et (eqstruct_38n ..) (eqguard_38 ..)) ?_
   refine a_nil ?_
   refine k_same (cif h et (fun hb h => ?_) (fun hb h => ?_))
   ·refine sr (sac ?_)
    refine nk (c_ret ?_)
    obtain rfl := some_inj h
    exact q_ret (vs := [vi 10]) Tryz.results20 ⟨ev_tmp rfl rfl, trivial⟩ (fq hI trivial)
   refine c_skip (k_same (c_seq (c_drawX [] false (.c (0, .q) (.c (1, .q) (.c (2, .q) (.c (3, .q) (.c (4, .q) (.c (5, .q) (.c (6, .q) (.c (7, .q) (.c (8, .q) (.c (9, .s) (.c (10, .q) .n))))))))))) hI (by kernel_rfl) (by kernel_rfl) ?_)))
   clear hI; intro w7 hI
   refine a_q rfl gn rfl (fun w' => y_move rfl et) ?_
   refine a_q rfl gn rfl (fun w' => y_move rfl et) ?_
   obtain ⟨e3, hx7, h⟩ := bnd_some h
   obtain ⟨ad3, cs3, hA3, hr3, hq3⟩ := hI.clat (.s (.s (.s (.s .z)))) hx7
   obtain ⟨a7, c11, a8, c12, rfl, hf5, hf6⟩ := hr3
   have hI := hI.add (c := Cl.sl (cInt .i64) a7 c11 e3.Dims) hf5
   have hI := hI.add (c := Cl.sl cGVal a8 c12 e3.Vals) hf6
   refine a_q rfl gn rfl (fun w' => y_indexAddr rfl u25 size_41 et et (lat_bd hx7) hA3) ?_
   refine a_q rfl gn rfl (fun w' => y_fieldAddr rfl et u41 rfl size_22 rfl) ?_
   refine a_read rfl gn rfl (fun w' hw' => (y_load1 (v := (vs a7 e3.Dims.length c11)) rfl et u22 rfl ((CA.part hq3 rfl).at_ (SX.any rfl hw')))) (by kernel_rfl) ?_
   refine a_q rfl gn rfl (fun w' => y_move rfl et) ?_
   obtain ⟨e4, hx8, h⟩ := bnd_some h
   obtain ⟨ad4, cs4, hA4, hr4, hq4⟩ := hI.clat (.s (.s (.s (.s (.s (.s .z)))))) hx8
   obtain ⟨a9, c13, a10, c14, rfl, hf7, hf8⟩ := hr4
   have hI := hI.add (c := Cl.sl (cInt .i64) a9 c13 e4.Dims) hf7
   have hI := hI.add (c := Cl.sl cGVal a10 c14 e4.Vals) hf8
   refine a_q rfl gn rfl (fun w' => y_indexAddr rfl u25 size_41 et ev_const (lat_bd hx8) hA4) ?_
   refine a_q rfl gn rfl (fun w' => y_fieldAddr rfl et u41 rfl size_22 rfl) ?_
   refine a_read rfl gn rfl (fun w' hw' => (y_load1 (v := (vs a9 e4.Dims.length c13)) rfl et u22 rfl ((CA.part hq4 rfl).at_ (SX.any rfl hw')))) (by kernel_rfl) ?_
   obtain ⟨r3, hx9, h⟩ := bnd_some h
   refine la_call rfl gn rfl (r_callF (vs := [vs a7 e3.Dims.length c11, vs a9 e4.Dims.length c13]) rfl ok_50 ⟨et, ⟨et, trivial⟩⟩) (Calls.mono (c_base_Ints (Dj F c6) w7 hI.lt e3.Dims e4.Dims a7 c11 a9 c13 ⟨(hI.get (.s (.s (.s .z)))), (hI.get (.s .z)), trivial⟩ r3 hx9) ?_)
   rintro _ w8 ⟨rfl, hx10, hl3⟩
   refine ⟨_, rfl, hx10, ?_⟩
   replace hI := (hI.ext hx10)
   refine a_q rfl gn rfl (fun w' => y_not rfl et) ?_
   refine a_nil ?_
   refine k_next (e := [(1, vs a2 l1.length c2), (8, vi i1), (59, vb (!r3))]) ⟨rfl, rfl, rfl, trivial⟩ ?_
   refine cif h et (fun hb h => ?_) (fun hb h => ?_)
   ·refine sr (sac ?_)
    refine nk (c_ret ?_)
    obtain rfl := some_inj h
    exact q_ret (vs := [vi 15]) Tryz.results20 ⟨ev_tmp rfl rfl, trivial⟩ (fq hI trivial)
   refine c_skip (k_same (c_region rfl ?_))
   refine sm ?_
   refine sq (y_add rfl et ev_const) ?_
   refine sa ?_
   refine s_nil ?_
   exact k_loop (fuel1, wi64 (i1 + 1)) ⟨rfl, rfl, trivial⟩ ⟨_, hI.arr .n ⟨(.s (.s (.s (.s (.s (.s (.s (.s .z)))))))), trivial⟩, h⟩ (Nat.lt_succ_self _)
  refine c_exit ?_
  refine k_in ?_
  refine k_same (sr (sac ?_))
  refine nk (c_ret ?_)
  obtain rfl := some_inj h
  exact q_ret (vs := [vi 0]) Tryz.results20 ⟨ev_tmp rfl rfl, trivial⟩ (fq hI trivial)
 refine sr (sac ?_)
 refine nk (c_block (c_loop (α := Nat × Int) (fun x => fun w => ∃ C, Bun noM F w0 C w [] [Cl.sl cGTensor a2 c2 l1] ∧ m_ref53_Check_l2 l1 (x.1) (x.2) = some r) (fun x _ => x.1) (fun x => [(1, vs a2 l1.length c2), (6, vi (x.2))]) (fu, 0) ⟨_, hI.arr .n ⟨(.s (.s .z)), trivial⟩, h⟩ ⟨rfl, rfl, trivial⟩ ?_))
 clear h hI; rintro ⟨fuel2, i2⟩ w9 ⟨c15, hI, h⟩
 dsimp only at hI h
 rcases fuel2 with _ | fuel2
 ·rw [m_ref53_Check_l2] at h; cases h
 rw [m_ref53_Check_l2] at h
 refine c_sub (e := [(1, vs a2 l1.length c2), (6, vi i2)]) ⟨rfl, rfl, trivial⟩ ?_
 refine c_seq (sr (sm ?_))
 refine sm ?_
 refine sq (y_lenl rfl u25 et) ?_
 refine sq (y_lss rfl et et) ?_
 refine nk (cif h et (fun hb h => ?_) (fun hb h => ?_))
 ·refine c_skip (k_same (c_seq (c_block (sr (sm ?_)))))
  refine sm ?_
  obtain ⟨e5, hx11, h⟩ := bnd_some h
  obtain ⟨ad5, cs5, hA5, hr5, hq5⟩ := hI.clat .z hx11
  obtain ⟨a11, c16, a12, c17, rfl, hf9, hf10⟩ := hr5
  have hI := hI.add (c := Cl.sl (cInt .i64) a11 c16 e5.Dims) hf9
  have hI := hI.add (c := Cl.sl cGVal a12 c17 e5.Vals) hf10
  refine sq (y_indexAddr rfl u25 size_41 et et (lat_bd hx11) hA5) ?_
  refine sq (y_loadN (l := (lTensor e5 a11 c16 a12 c17)) rfl et u41 rfl size_41 hq5.1) ?_
  obtain ⟨r4, hx12, h⟩ := bnd_some h
  refine s_call gn rfl (r_callF (vs := [(Value.agg (ATensor e5 a11 c16 a12 c17))]) rfl ok_26 ⟨et, trivial⟩) (Calls.mono (c_ref12_Validate (Dj F c15) w9 hI.lt e5 a11 c16 a12 c17 ⟨(hI.get (.s .z)), (hI.get .z), trivial⟩ r4 hx12) ?_)
  rintro _ w10 ⟨rfl, hx13, hl4⟩
  refine ⟨_, rfl, ?_⟩
  replace hI := (hI.ext hx13)
  refine sa ?_
  refine nk (sr (sm ?_))
  refine sq (y_neq rfl et ev_const) ?_
  refine nk (cif h et (fun hb h => ?_) (fun hb h => ?_))
  ·refine sr (sm ?_)
   refine sa ?_
   refine nk (c_ret ?_)
   obtain rfl := some_inj h
   exact q_ret (vs := [vi r4]) Tryz.results20 ⟨ev_tmp rfl rfl, trivial⟩ (fq hI trivial)
  refine c_skip (k_same (c_region rfl ?_))
  refine sm ?_
  refine sq (y_add rfl et ev_const) ?_
  refine sa ?_
  refine s_nil ?_
  exact k_loop (fuel2, wi64 (i2 + 1)) ⟨rfl, rfl, trivial⟩ ⟨_, hI.arr .n ⟨(.s (.s .z)), trivial⟩, h⟩ (Nat.lt_succ_self _)
 refine c_exit ?_
 refine k_in ?_
 exact k_join () ⟨rfl, trivial⟩ ⟨_, hI.arr .n ⟨.z, trivial⟩, h⟩ rfl
theorem c_ref53_axes (F : NP) (w0 : World) (hF : ∀ k, F k → k < w0.heap.size) (m1 : GMesh) (l1 : List GTensor) (axis1 : Int) (along1 : Int) (a1 : Option Addr) (c1 : Nat) (a2 : Option Addr) (c2 : Nat) (hc : AllCl [Cl.sl (cInt .i64) a1 c1 m1.Dims, Cl.sl cGTensor a2 c2 l1] F w0) (r : Int)
  (h : m_ref53_axes m1 l1 axis1 along1 = some r) :
  Calls Tryz.prog 35 #[(Value.agg #[vs a1 m1.Dims.length c1]), vs a2 l1.length c2, vi axis1, vi along1] w0 fun e w => e = .returned (vi r) ∧ Ext w0 w ∧ AllCl [] F w := by
 refine enterK Tryz.func35 rfl Tryz.ntmps35 rfl ?_
 have hI := Bun.start hF hc
 clear hc
 rw [m_ref53_axes] at h
 refine sr (l_box (v := (Value.agg #[vs a1 m1.Dims.length c1])) (cs := #[vs a1 m1.Dims.length c1]) hI gn rfl rfl et rfl ?_)
 clear hI; intro b1 c3 w1 hI
 obtain ⟨c4, hI⟩ := hI.relBox .z
 refine sac ?_
 refine nk (c_seq (sr (sq (y_loadN (l := [vs a1 m1.Dims.length c1]) rfl et u24 rfl size_24 (hI.kblk (l := [vs a1 m1.Dims.length c1]) .z rfl).1) ?_)))
 refine sm ?_
 obtain ⟨r1, hx1, h⟩ := bnd_some h
 refine s_call gn rfl (r_callF (vs := [(Value.agg #[vs a1 m1.Dims.length c1]), vs a2 l1.length c2]) rfl ok_20 ⟨et, ⟨et, trivial⟩⟩) (Calls.mono (c_ref53_Check (Dj F c4) w1 hI.lt m1 l1 a1 c1 a2 c2 ⟨(hI.get (.s .z)), (hI.get (.s (.s .z))), trivial⟩ r1 hx1) ?_)
 rintro _ w2 ⟨rfl, hx2, hl1⟩
 refine ⟨_, rfl, ?_⟩
 replace hI := (hI.ext hx2)
 refine sa ?_
 refine nk (sr (sm ?_))
 refine sq (y_neq rfl et ev_const) ?_
 refine nk (cif h et (fun hb h => ?_) (fun hb h => ?_))
 ·refine sr (sm ?_)
  refine sa ?_
  refine nk (c_ret ?_)
  obtain rfl := some_inj h
  exact q_ret (vs := [vi r1]) Tryz.results35 ⟨ev_tmp rfl rfl, trivial⟩ (fq hI trivial)
 refine c_skip (k_same (c_seq (sr (sm ?_))))
 refine sq (y_lss rfl et ev_const) ?_
 refine sm ?_
 refine s_gval (g_false rfl rfl rfl rfl) rfl (fun hc => y_move rfl et) ?_
 refine s_gval (g_false rfl rfl rfl rfl) rfl (fun hc => y_fieldAddr rfl et u24 rfl size_22 rfl) ?_
 refine s_gval (g_false rfl rfl rfl rfl) rfl (fun hc => (y_load1 (v := (vs a1 m1.Dims.length c1)) rfl (ev_gv et hc) u22 rfl (hI.kblk (l := [vs a1 m1.Dims.length c1]) .z rfl).1)) ?_
 refine s_gval (g_false rfl rfl rfl rfl) rfl (fun hc => y_lenl rfl u22 (ev_gv et hc)) ?_
 refine s_gval (g_false rfl rfl rfl rfl) rfl (fun hc => y_geq rfl (ev_gv et hc) (ev_gv et hc)) ?_
 refine sq (y_or rfl et et) ?_
 refine nk (cif h et (fun hb h => ?_) (fun hb h => ?_))
 ·refine sr (sac ?_)
  refine nk (c_ret ?_)
  obtain rfl := some_inj h
  exact q_ret (vs := [vi 23]) Tryz.results35 ⟨ev_tmp rfl rfl, trivial⟩ (fq hI trivial)
 refine c_skip (k_same (c_seq (sr (sm ?_))))
 refine sq (y_lss rfl et ev_const) ?_
 refine sm ?_
 refine s_gval (g_false rfl rfl rfl rfl) rfl (fun hc => y_move rfl et) ?_
 refine s_gval (g_false rfl rfl rfl rfl) rfl (fun hc => y_move rfl et) ?_
 obtain ⟨e1, hx3, h⟩ := bnd_some h
 replace hx3 := gd_some hx3
 obtain ⟨ad1, cs1, hq1⟩ := hI.gclat (.s (.s .z)) hx3
 obtain ⟨a3, c5, a4, c6, hq2⟩ : ∃ (a3 : Option Addr) (c5 : Nat) (a4 : Option Addr) (c6 : Nat), (!(decide (along1 < 0))) = true → (a2 = some ad1 ∧ cs1 = (lTensor e1 a3 c5 a4 c6) ∧ CA (Dj F c4) w2 (ad1.add (Int.toNat 0 * 7)) cs1 ∧ SlC (cInt .i64) (Dj F c4) w2 a3 c5 e1.Dims ∧ SlC cGVal (Dj F c4) w2 a4 c6 e1.Vals) := by
  by_cases hc : (!(decide (along1 < 0))) = true
  ·obtain ⟨k1, k2, k3⟩ := hq1 hc; obtain ⟨a3, c5, a4, c6, rfl, hf1, hf2⟩ := k2; exact ⟨a3, c5, a4, c6, fun _ => ⟨k1, rfl, k3, hf1, hf2⟩⟩
  exact ⟨default, default, default, default, fun k => absurd k hc⟩
 clear hq1
 have hI := hI.add (c := Cl.gsl (!(decide (along1 < 0))) (cInt .i64) a3 c5 e1.Dims) (fun hc => (hq2 hc).2.2.2.1)
 have hI := hI.add (c := Cl.gsl (!(decide (along1 < 0))) cGVal a4 c6 e1.Vals) (fun hc => (hq2 hc).2.2.2.2)
 have hq3 : (!(decide (along1 < 0))) = true → CA (Dj F c4) w2 (ad1.add (Int.toNat 0 * 7)) (lTensor e1 a3 c5 a4 c6) := fun hc => by have k := hq2 hc; have e : cs1 = _ := k.2.1; rw [← e]; exact k.2.2.1
 refine s_gval (g_false rfl rfl rfl rfl) rfl (fun hc => (y_indexAddr rfl u25 size_41 (ev_gv et hc) ev_const (lat_bd (hx3 hc)) (hq2 hc).1)) ?_
 refine s_gval (g_false rfl rfl rfl rfl) rfl (fun hc => y_fieldAddr rfl (ev_gv et hc) u41 rfl size_22 rfl) ?_
 refine s_gval (g_false rfl rfl rfl rfl) rfl (fun hc => (y_load1 (v := (vs a3 e1.Dims.length c5)) rfl (ev_gv et hc) u22 rfl (CA.part (hq3 hc) rfl).1)) ?_
 refine s_gval (g_false rfl rfl rfl rfl) rfl (fun hc => y_lenl rfl u22 (ev_gv et hc)) ?_
 refine s_gval (g_false rfl rfl rfl rfl) rfl (fun hc => y_geq rfl (ev_gv et hc) (ev_gv et hc)) ?_
 refine sq (y_or rfl et et) ?_
 refine s_nil ?_
 refine k_next (e := [(35, (vb ((decide (along1 < 0)) || (decide ((e1.Dims.length : Int) ≤ along1)))))]) ⟨rfl, trivial⟩ ?_
 refine cif h et (fun hb h => ?_) (fun hb h => ?_)
 ·refine sr (sac ?_)
  refine nk (c_ret ?_)
  obtain rfl := some_inj h
  exact q_ret (vs := [vi 11]) Tryz.results35 ⟨ev_tmp rfl rfl, trivial⟩ (fq hI trivial)
 refine c_skip (k_same (sr (sac ?_)))
 refine nk (c_ret ?_)
 obtain rfl := some_inj h
 exact q_ret (vs := [vi 0]) Tryz.results35 ⟨ev_tmp rfl rfl, trivial⟩ (fq hI trivial)
theorem c_ref51_Coordinates (F : NP) (w0 : World) (hF : ∀ k, F k → k < w0.heap.size) (m1 : GMesh) (dev1 : Int) (a1 : Option Addr) (c1 : Nat) (hc : AllCl [Cl.sl (cInt .i64) a1 c1 m1.Dims] F w0) (r : List Int × Bool)
  (h : m_ref51_Coordinates m1 dev1 = some r) :
  Calls Tryz.prog 41 #[(Value.agg #[vs a1 m1.Dims.length c1]), vi dev1] w0 fun e w => ∃ (a2 : Option Addr) (c2 : Nat), e = .returned (Value.tuple #[vs a2 r.1.length c2, vb r.2]) ∧ Ext w0 w ∧ AllCl [Cl.sl (cInt .i64) a2 c2 r.1] F w := by
 refine enterK Tryz.func41 rfl Tryz.ntmps41 rfl ?_
 have hI := Bun.start hF hc
 clear hc
 rw [m_ref51_Coordinates] at h
 refine sr (l_box (v := (Value.agg #[vs a1 m1.Dims.length c1])) (cs := #[vs a1 m1.Dims.length c1]) hI gn rfl rfl et rfl ?_)
 clear hI; intro b1 c3 w1 hI
 obtain ⟨c4, hI⟩ := hI.relBox .z
 refine sac ?_
 refine sac ?_
 refine nk (c_seq (sr (sm ?_)))
 refine sq (y_lss rfl et ev_const) ?_
 refine sm ?_
 refine s_gval (g_false rfl rfl rfl rfl) rfl (fun hc => y_move rfl et) ?_
 refine s_gval (g_false rfl rfl rfl rfl) rfl (fun hc => (y_loadN (l := [vs a1 m1.Dims.length c1]) rfl et u24 rfl size_24 (hI.kblk (l := [vs a1 m1.Dims.length c1]) .z rfl).1)) ?_
 obtain ⟨r1, hx1, h⟩ := bnd_some h
 replace hx1 := gd_some hx1
 refine s_gcallU (v := (vi r1)) (g_false rfl rfl rfl rfl) rfl (fun hc => (r_callF (vs := [(Value.agg #[vs a1 m1.Dims.length c1])]) rfl ok_49 ⟨(ev_gv et hc), trivial⟩)) (fun hc => (c_ref51_Devices (Dj F c4) w1 hI.lt m1 a1 c1 ⟨(hI.get (.s .z)), trivial⟩ r1 (hx1 hc)).mono fun _ _ k => ⟨k.1, k.2.1⟩) ?_
 intro w2 hx2; replace hI := hI.ext hx2
 refine s_gval (g_false rfl rfl rfl rfl) rfl (fun hc => y_geq rfl (ev_gv et hc) (ev_gv et hc)) ?_
 refine sq (y_or rfl et et) ?_
 refine nk (cif h et (fun hb h => ?_) (fun hb h => ?_))
 ·refine sr (sac ?_)
  refine sac ?_
  refine nk (c_ret ?_)
  have hI := hI.add (c := Cl.sl (cInt .i64) none 0 ([] : List Int)) SlC.nil
  obtain rfl := some_inj h
  exact q_ret (vs := [vs none 0 0, vb false]) Tryz.results41 ⟨ev_tmp rfl rfl, ⟨ev_tmp rfl rfl, trivial⟩⟩ ⟨none, 0, rfl, hI.ext0, hI.fin ⟨.z, trivial⟩⟩
 refine c_skip (k_same (sr (sq (y_fieldAddr rfl et u24 rfl size_22 rfl) ?_)))
 refine sq (y_load1 (v := (vs a1 m1.Dims.length c1)) rfl et u22 rfl (hI.kblk (l := [vs a1 m1.Dims.length c1]) .z rfl).1) ?_
 refine sq (y_lenl rfl u22 et) ?_
 obtain ⟨zs1, hx3, h⟩ := bnd_some h
 refine l_make (c := (cInt .i64)) hI hx3 gn  rfl rfl u22 info_3 rfl rfl et et rfl ?_
 clear hI; intro b2 c5 w3 hI
 refine sa ?_
 refine nk (c_seq (sr (sq (y_fieldAddr rfl et u24 rfl size_22 rfl) ?_)))
 refine sq (y_load1 (v := (vs a1 m1.Dims.length c1)) rfl et u22 rfl (hI.kblk (l := [vs a1 m1.Dims.length c1]) .z rfl).1) ?_
 refine sq (y_lenl rfl u22 et) ?_
 refine sq (y_sub rfl et ev_const) ?_
 obtain ⟨i1, hx4, h⟩ := bnd_some h
 refine sq (binU (y_assign rfl et) (congrArg (Value.int .i64) (some_inj hx4))) ?_
 refine nk (c_block (c_loop (α := Nat × Int × (List Int) × Int × (Option Addr) × Nat) (fun x => fun w => ∃ C, Bun noM F w0 C w [MO.row (cInt .i64) 3 (x.2.2.2.2.1) (x.2.2.2.2.2) (x.2.2.1)] [Cl.blk b1 24 #[vs a1 m1.Dims.length c1], Cl.sl (cInt .i64) a1 c1 m1.Dims] ∧ m_ref51_Coordinates_l1 m1 (x.1) (x.2.1) (x.2.2.1) (x.2.2.2.1) = some r) (fun x _ => x.1) (fun x => [(1, vi (x.2.1)), (2, vp b1 0), (6, vs (x.2.2.2.2.1) (x.2.2.1).length (x.2.2.2.2.2)), (7, vi (x.2.2.2.1))]) (fu, dev1, zs1, i1, some ⟨b2, 0, none⟩, ((m1.Dims.length : Int)).toNat) ⟨_, hI.arr (.c .z .n) ⟨.z, (.s .z), trivial⟩, h⟩ ⟨rfl, rfl, rfl, rfl, trivial⟩ ?_))
 clear h hI; rintro ⟨fuel1, dev2, out1, i2, a3, c6⟩ w4 ⟨c7, hI, h⟩
 dsimp only at hI h
 rcases fuel1 with _ | fuel1
 ·rw [m_ref51_Coordinates_l1] at h; cases h
 rw [m_ref51_Coordinates_l1] at h
 refine c_sub (e := [(1, vi dev2), (2, vp b1 0), (6, vs a3 out1.length c6), (7, vi i2)]) ⟨rfl, rfl, rfl, rfl, trivial⟩ ?_
 refine c_seq (sr (sm ?_))
 refine sq (y_geq rfl et ev_const) ?_
 refine nk (cif h et (fun hb h => ?_) (fun hb h => ?_))
 ·refine c_skip (k_same (c_seq (c_block (sr (sm ?_)))))
  refine sm ?_
  refine sm ?_
  refine sq (y_fieldAddr rfl et u24 rfl size_22 rfl) ?_
  refine sq (y_load1 (v := (vs a1 m1.Dims.length c1)) rfl et u22 rfl (hI.kblk (l := [vs a1 m1.Dims.length c1]) .z rfl).1) ?_
  refine sm ?_
  obtain ⟨e1, hx5, h⟩ := bnd_some h
  obtain ⟨ad1, cs1, hA1, hr1, hq1⟩ := hI.clat (.s .z) hx5
  obtain rfl : cs1 = [vi e1] := hr1
  refine sq (y_indexAddr rfl u22 size_3 et et (lat_bd hx5) hA1) ?_
  refine sq (y_load1 (v := (vi e1)) rfl et u3 rfl hq1.1) ?_
  obtain ⟨ho1, h⟩ := chk_some h
  refine sq (y_rem rfl et et ho1) ?_
  obtain ⟨ho2, h⟩ := chk_some h
  obtain ⟨ad2, hA2⟩ := hI.addr .z ho2
  refine sq (y_indexAddr rfl u22 size_3 et et ho2 hA2) ?_
  refine l_storeRow (p := Int.toNat i2) (new := [vi (Int.tmod dev2 e1)]) (off := 0) (x' := Int.tmod dev2 e1) hI .z gn rfl rfl (by have := ho2; omega) hA2 rfl et et rfl size_3 rfl (by show 0 + 1 ≤ 1; omega) (fun _ cs0 _ hr0 => by rw [spl_full (by have e := Cod.len _ hr0; exact e)]; exact rfl) ?_
  clear hI; intro c8 w5 hI
  refine s_nil ?_
  refine k_next (e := [(1, vi dev2), (2, vp b1 0), (6, (vs a3 (out1.set (Int.toNat i2) (Int.tmod dev2 e1)).length c6)), (7, vi i2)]) ⟨rfl, rfl, (lookset rfl), rfl, trivial⟩ ?_
  refine c_region rfl ?_
  refine sm ?_
  refine sq (y_fieldAddr rfl et u24 rfl size_22 rfl) ?_
  refine sq (y_load1 (v := (vs a1 m1.Dims.length c1)) rfl et u22 rfl (hI.kblk (l := [vs a1 m1.Dims.length c1]) .z rfl).1) ?_
  refine sm ?_
  obtain ⟨e2, hx6, h⟩ := bnd_some h
  obtain ⟨ad3, cs2, hA3, hr2, hq2⟩ := hI.clat (.s .z) hx6
  obtain rfl : cs2 = [vi e2] := hr2
  refine sq (y_indexAddr rfl u22 size_3 et et (lat_bd hx6) hA3) ?_
  refine sq (y_load1 (v := (vi e2)) rfl et u3 rfl hq2.1) ?_
  obtain ⟨ho3, h⟩ := chk_some h
  refine sq (y_quo rfl et et ho3) ?_
  refine sa ?_
  refine nk (c_region rfl ?_)
  refine sm ?_
  refine sq (y_sub rfl et ev_const) ?_
  refine sa ?_
  refine s_nil ?_
  exact k_loop (fuel1, wi64 (Int.tdiv dev2 e2), out1.set (Int.toNat i2) (Int.tmod dev2 e1), wi64 (i2 - 1), a3, c6) ⟨rfl, rfl, rfl, rfl, trivial⟩ ⟨_, hI.arr (.c .z .n) ⟨.z, (.s .z), trivial⟩, h⟩ (Nat.lt_succ_self _)
 refine c_exit ?_
 refine k_in ?_
 refine k_same (sr (sm ?_))
 refine sa ?_
 refine sac ?_
 refine nk (c_ret ?_)
 obtain ⟨c9, hI⟩ := hI.release .z
 obtain rfl := some_inj h
 exact q_ret (vs := [vs a3 out1.length c6, vb true]) Tryz.results41 ⟨ev_tmp rfl rfl, ⟨ev_tmp rfl rfl, trivial⟩⟩ ⟨a3, c6, rfl, hI.ext0, hI.fin ⟨.z, trivial⟩⟩
theorem c_ref51_Group (F : NP) (w0 : World) (hF : ∀ k, F k → k < w0.heap.size) (m1 : GMesh) (axis1 : Int) (dev1 : Int) (a1 : Option Addr) (c1 : Nat) (hc : AllCl [Cl.sl (cInt .i64) a1 c1 m1.Dims] F w0) (r : List Int)
  (h : m_ref51_Group m1 axis1 dev1 = some r) :
  Calls Tryz.prog 36 #[(Value.agg #[vs a1 m1.Dims.length c1]), vi axis1, vi dev1] w0 fun e w => ∃ (a2 : Option Addr) (c2 : Nat), e = .returned (vs a2 r.length c2) ∧ Ext w0 w ∧ AllCl [Cl.sl (cInt .i64) a2 c2 r] F w := by
 refine enterK Tryz.func36 rfl Tryz.ntmps36 rfl ?_
 have hI := Bun.start hF hc
 clear hc
 rw [m_ref51_Group] at h
 refine sr (l_box (v := (Value.agg #[vs a1 m1.Dims.length c1])) (cs := #[vs a1 m1.Dims.length c1]) hI gn rfl rfl et rfl ?_)
 clear hI; intro b1 c3 w1 hI
 obtain ⟨c4, hI⟩ := hI.relBox .z
 refine sac ?_
 refine nk (sr (sq (y_loadN (l := [vs a1 m1.Dims.length c1]) rfl et u24 rfl size_24 (hI.kblk (l := [vs a1 m1.Dims.length c1]) .z rfl).1) ?_))
 refine sm ?_
 obtain ⟨r1, hx1, h⟩ := bnd_some h
 refine s_call gn rfl (r_callF (vs := [(Value.agg #[vs a1 m1.Dims.length c1]), vi dev1]) rfl ok_41 ⟨et, ⟨et, trivial⟩⟩) (Calls.mono (c_ref51_Coordinates (Dj F c4) w1 hI.lt m1 dev1 a1 c1 ⟨(hI.get (.s .z)), trivial⟩ r1 hx1) ?_)
 rintro _ w2 ⟨a3, c5, rfl, hx2, hl1⟩
 refine ⟨_, rfl, ?_⟩
 replace hI := (hI.ext hx2).adds hl1
 refine sm ?_
 refine sq (y_extract rfl et rfl) ?_
 refine sq (y_extract rfl et rfl) ?_
 refine sa ?_
 refine sa ?_
 refine nk (c_seq (sr (sm ?_)))
 refine sq (y_not rfl et) ?_
 refine sm ?_
 refine s_gval (g_false rfl rfl rfl rfl) rfl (fun hc => y_move rfl et) ?_
 refine s_gval (g_false rfl rfl rfl rfl) rfl (fun hc => y_lss rfl (ev_gv et hc) ev_const) ?_
 refine sq (y_or rfl et et) ?_
 refine sm ?_
 refine s_gval (g_false rfl rfl rfl rfl) rfl (fun hc => y_move rfl et) ?_
 refine s_gval (g_false rfl rfl rfl rfl) rfl (fun hc => y_fieldAddr rfl et u24 rfl size_22 rfl) ?_
 refine s_gval (g_false rfl rfl rfl rfl) rfl (fun hc => (y_load1 (v := (vs a1 m1.Dims.length c1)) rfl (ev_gv et hc) u22 rfl (hI.kblk (l := [vs a1 m1.Dims.length c1]) (.s .z) rfl).1)) ?_
 refine s_gval (g_false rfl rfl rfl rfl) rfl (fun hc => y_lenl rfl u22 (ev_gv et hc)) ?_
 refine s_gval (g_false rfl rfl rfl rfl) rfl (fun hc => y_geq rfl (ev_gv et hc) (ev_gv et hc)) ?_
 refine sq (y_or rfl et et) ?_
 refine nk (cif h et (fun hb h => ?_) (fun hb h => ?_))
 ·refine sr (sac ?_)
  refine s_nil ?_
  refine k_next (e := [(6, vs none 0 0)]) ⟨rfl, trivial⟩ ?_
  refine c_ret ?_
  have hI := hI.add (c := Cl.sl (cInt .i64) none 0 ([] : List Int)) SlC.nil
  obtain rfl := some_inj h
  exact q_ret (vs := [vs none 0 0]) Tryz.results36 ⟨ev_tmp rfl rfl, trivial⟩ ⟨none, 0, rfl, hI.ext0, hI.fin ⟨.z, trivial⟩⟩
 refine c_skip (k_same (sr (sac ?_)))
 refine nk (c_seq (sr (sac ?_)))
 refine nk (c_block ?_)
 have hI := hI.nil (cInt .i64) 3 none
 refine c_loop (α := Nat × (List Int) × Int × (Option Addr) × Nat) (fun x => fun w => ∃ C, Bun noM F w0 C w [MO.row (cInt .i64) 3 (x.2.2.2.1) (x.2.2.2.2) (x.2.1)] [Cl.blk b1 24 #[vs a1 m1.Dims.length c1], Cl.sl (cInt .i64) a1 c1 m1.Dims, Cl.sl (cInt .i64) a3 c5 r1.1] ∧ m_ref51_Group_l1 m1 r1 axis1 (x.1) (x.2.1) (x.2.2.1) = some r) (fun x _ => x.1) (fun x => [(1, vi axis1), (3, vp b1 0), (7, vs a3 r1.1.length c5), (9, vs (x.2.2.2.1) (x.2.1).length (x.2.2.2.2)), (10, vi (x.2.2.1))]) (fu, ([] : List Int), 0, none, 0) ⟨_, hI.arr (.c .z .n) ⟨(.s .z), (.s (.s .z)), .z, trivial⟩, h⟩ ⟨rfl, rfl, rfl, rfl, rfl, trivial⟩ ?_
 clear h hI; rintro ⟨fuel1, out1, d1, a4, c6⟩ w3 ⟨c7, hI, h⟩
 dsimp only at hI h
 rcases fuel1 with _ | fuel1
 ·rw [m_ref51_Group_l1] at h; cases h
 rw [m_ref51_Group_l1] at h
 refine c_sub (e := [(1, vi axis1), (3, vp b1 0), (7, vs a3 r1.1.length c5), (9, vs a4 out1.length c6), (10, vi d1)]) ⟨rfl, rfl, rfl, rfl, rfl, trivial⟩ ?_
 refine c_seq (sr (sm ?_))
 refine sq (y_loadN (l := [vs a1 m1.Dims.length c1]) rfl et u24 rfl size_24 (hI.kblk (l := [vs a1 m1.Dims.length c1]) .z rfl).1) ?_
 obtain ⟨r2, hx3, h⟩ := bnd_some h
 refine s_call gn rfl (r_callF (vs := [(Value.agg #[vs a1 m1.Dims.length c1])]) rfl ok_49 ⟨et, trivial⟩) (Calls.mono (c_ref51_Devices (Dj F c7) w3 hI.lt m1 a1 c1 ⟨(hI.get (.s .z)), trivial⟩ r2 hx3) ?_)
 rintro _ w4 ⟨rfl, hx4, hl2⟩
 refine ⟨_, rfl, ?_⟩
 replace hI := (hI.ext hx4)
 refine sq (y_lss rfl et et) ?_
 refine nk (cif h et (fun hb h => ?_) (fun hb h => ?_))
 ·refine c_skip (k_same (c_join (α := (List Int) × (Option Addr) × Nat) (fun _ => ⟨75, []⟩) (fun x => [(1, vi axis1), (3, vp b1 0), (7, vs a3 r1.1.length c5), (9, vs (x.2.1) (x.1).length (x.2.2)), (10, vi d1)]) (fun x => fun w => ∃ C, Bun noM F w0 C w [MO.row (cInt .i64) 3 (x.2.1) (x.2.2) (x.1)] [Cl.blk b1 24 #[vs a1 m1.Dims.length c1], Cl.sl (cInt .i64) a1 c1 m1.Dims, Cl.sl (cInt .i64) a3 c5 r1.1] ∧ m_ref51_Group_j1 (m_ref51_Group_l1 m1 r1 axis1 fuel1) d1 (x.1) = some r) ?_ ?_))
  ·clear h hI; rintro ⟨out2, a5, c8⟩ w5 ⟨c9, hI, h⟩
   try dsimp only at hI h
   rw [m_ref51_Group_j1] at h
   refine c_sub (e := [(1, vi axis1), (3, vp b1 0), (7, vs a3 r1.1.length c5), (9, vs a5 out2.length c8), (10, vi d1)]) ⟨rfl, rfl, rfl, rfl, rfl, trivial⟩ ?_
   refine c_region rfl ?_
   refine sm ?_
   refine sq (y_add rfl et ev_const) ?_
   refine sa ?_
   refine s_nil ?_
   exact k_loop (fuel1, out2, wi64 (d1 + 1), a5, c8) ⟨rfl, rfl, rfl, rfl, rfl, trivial⟩ ⟨_, hI.arr (.c .z .n) ⟨.z, (.s .z), (.s (.s .z)), trivial⟩, h⟩ (Nat.lt_succ_self _)
  refine c_block (sr (sq (y_loadN (l := [vs a1 m1.Dims.length c1]) rfl et u24 rfl size_24 (hI.kblk (l := [vs a1 m1.Dims.length c1]) .z rfl).1) ?_))
  refine sm ?_
  obtain ⟨r3, hx5, h⟩ := bnd_some h
  refine s_call gn rfl (r_callF (vs := [(Value.agg #[vs a1 m1.Dims.length c1]), vi d1]) rfl ok_41 ⟨et, ⟨et, trivial⟩⟩) (Calls.mono (c_ref51_Coordinates (Dj F c7) w4 hI.lt m1 d1 a1 c1 ⟨(hI.get (.s .z)), trivial⟩ r3 hx5) ?_)
  rintro _ w6 ⟨a6, c10, rfl, hx6, hl3⟩
  refine ⟨_, rfl, ?_⟩
  replace hI := (hI.ext hx6).adds hl3
  refine sm ?_
  refine sq (y_extract rfl et rfl) ?_
  refine sq (y_extract rfl et rfl) ?_
  refine sa ?_
  refine sa ?_
  refine nk (sr (sac ?_))
  refine nk (c_join (α := Bool) (fun _ => ⟨75, []⟩) (fun x => [(1, vi axis1), (3, vp b1 0), (7, vs a3 r1.1.length c5), (9, vs a4 out1.length c6), (10, vi d1), (13, vb x)]) (fun x => fun w => ∃ C, Bun noM F w0 C w [MO.row (cInt .i64) 3 a4 c6 out1] [Cl.blk b1 24 #[vs a1 m1.Dims.length c1], Cl.sl (cInt .i64) a1 c1 m1.Dims, Cl.sl (cInt .i64) a3 c5 r1.1] ∧ m_ref51_Group_j2 out1 d1 (m_ref51_Group_l1 m1 r1 axis1 fuel1) x = some r) ?_ ?_)
  ·clear h hI; rintro same1 w7 ⟨c11, hI, h⟩
   try dsimp only at hI h
   rw [m_ref51_Group_j2] at h
   refine c_sub (e := [(1, vi axis1), (3, vp b1 0), (7, vs a3 r1.1.length c5), (9, vs a4 out1.length c6), (10, vi d1), (13, vb same1)]) ⟨rfl, rfl, rfl, rfl, rfl, rfl, trivial⟩ ?_
   refine sr (sm ?_)
   refine nk (cif h et (fun hb h => ?_) (fun hb h => ?_))
   ·refine c_region rfl ?_
    refine sm ?_
    refine sm ?_
    refine l_lit (c := (cInt .i64)) (xs := ([d1] : List Int)) (vs := [(0, vi d1)]) (cs := #[vi d1]) (css := [[vi d1]]) hI gn rfl rfl u22 info_3 rfl ⟨rfl, et, trivial⟩ (by kernel_rfl) ⟨rfl, trivial⟩ rfl rfl rfl ?_
    clear hI; intro b2 c12 w8 hI
    obtain ⟨zs1, hx7, h⟩ := bnd_some h
    refine l_append (xs := out1) (ys := ([d1] : List Int)) hI (.s .z) (hI.rd .z) hx7 gn rfl rfl u22 info_3 rfl rfl et et ?_
    clear hI; intro a7 c13 c14 w9 hI
    refine sa ?_
    refine s_nil ?_
    exact k_join (zs1, a7, c13) ⟨rfl, rfl, rfl, rfl, rfl, trivial⟩ ⟨_, hI.arr (.c (.s .z) .n) ⟨.z, (.s .z), (.s (.s .z)), trivial⟩, h⟩ rfl
   exact c_skip (k_join (out1, a4, c6) ⟨rfl, rfl, rfl, rfl, rfl, trivial⟩ ⟨_, hI.arr (.c .z .n) ⟨.z, (.s .z), (.s (.s .z)), trivial⟩, h⟩ rfl)
  refine sr (sac ?_)
  refine nk (c_block (c_loop (α := Nat × Bool × Int) (fun x => fun w => ∃ C, Bun noM F w0 C w [MO.row (cInt .i64) 3 a4 c6 out1] [Cl.blk b1 24 #[vs a1 m1.Dims.length c1], Cl.sl (cInt .i64) a1 c1 m1.Dims, Cl.sl (cInt .i64) a3 c5 r1.1, Cl.sl (cInt .i64) a6 c10 r3.1] ∧ m_ref51_Group_l2 r1 axis1 r3 out1 d1 (m_ref51_Group_l1 m1 r1 axis1 fuel1) (x.1) (x.2.1) (x.2.2) = some r) (fun x _ => x.1) (fun x => [(1, vi axis1), (3, vp b1 0), (7, vs a3 r1.1.length c5), (9, vs a4 out1.length c6), (10, vi d1), (11, vs a6 r3.1.length c10), (13, vb (x.2.1)), (14, vi (x.2.2))]) (fu, true, 0) ⟨_, hI.arr (.c .z .n) ⟨(.s .z), (.s (.s .z)), (.s (.s (.s .z))), .z, trivial⟩, h⟩ ⟨rfl, rfl, rfl, rfl, rfl, rfl, rfl, rfl, trivial⟩ ?_))
  clear h hI; rintro ⟨fuel2, same2, i1⟩ w10 ⟨c15, hI, h⟩
  dsimp only at hI h
  rcases fuel2 with _ | fuel2
  ·rw [m_ref51_Group_l2] at h; cases h
  rw [m_ref51_Group_l2] at h
  refine c_sub (e := [(1, vi axis1), (3, vp b1 0), (7, vs a3 r1.1.length c5), (9, vs a4 out1.length c6), (10, vi d1), (11, vs a6 r3.1.length c10), (13, vb same2), (14, vi i1)]) ⟨rfl, rfl, rfl, rfl, rfl, rfl, rfl, rfl, trivial⟩ ?_
  refine c_seq (sr (sm ?_))
  refine sm ?_
  refine sq (y_lenl rfl u22 et) ?_
  refine sq (y_lss rfl et et) ?_
  refine nk (cif h et (fun hb h => ?_) (fun hb h => ?_))
  ·refine c_skip (k_same (c_seq (c_block (c_drawX [] false (.c (0, .q) (.c (1, .q) (.c (2, .q) (.c (3, .q) (.c (4, .q) (.c (5, .q) (.c (6, .q) (.c (7, .q) (.c (8, .q) (.c (9, .q) (.c (10, .q) (.c (11, .q) (.c (12, .q) (.c (13, .q) (.c (14, .q) (.c (15, .q) (.c (16, .q) (.c (17, .q) .n)))))))))))))))))) hI (by kernel_rfl) (by kernel_rfl) ?_))))
   clear hI; intro w11 hI
   refine a_q rfl gn rfl (fun w' => y_move rfl et) ?_
   refine a_q rfl gn rfl (fun w' => y_move rfl et) ?_
   refine a_gval rfl (g_true rfl rfl rfl rfl) rfl (fun hc => fun w' => (y_move rfl et)) ?_
   refine a_gval rfl (g_true rfl rfl rfl rfl) rfl (fun hc => fun w' => (y_move rfl et)) ?_
   refine a_gval rfl (g_true rfl rfl rfl rfl) rfl (fun hc => fun w' => (y_eql rfl (ev_gv et hc) (ev_gv et hc))) ?_
   refine a_gval rfl (g_true rfl rfl rfl rfl) rfl (fun hc => fun w' => (y_move rfl (ev_gv et hc))) ?_
   refine a_gval rfl (g_false2 rfl rfl rfl rfl) rfl (fun hc => fun w' => (y_move rfl et)) ?_
   refine a_gval rfl (g_false2 rfl rfl rfl rfl) rfl (fun hc => fun w' => (y_move rfl et)) ?_
   obtain ⟨e1, hx8, h⟩ := bnd_some h
   replace hx8 := gd_some hx8
   obtain ⟨ad1, cs1, hq1⟩ := hI.gclat (.s (.s .z)) hx8
   have hq2 : (same2 && !(decide (i1 = axis1))) = true → CA (Dj F c15) w11 (ad1.add (Int.toNat i1 * 1)) [vi e1] := fun hc => by have k := hq1 hc; have e : cs1 = _ := k.2.1; rw [← e]; exact k.2.2
   refine a_gval rfl (g_false2 rfl rfl rfl rfl) rfl (fun hc => fun w' => (y_indexAddr rfl u22 size_3 (ev_gv et hc) (ev_gv et hc) (lat_bd (hx8 hc)) (hq1 hc).1)) ?_
   refine a_gread rfl (g_false2 rfl rfl rfl rfl) rfl (fun hc => fun w' hw' => (y_load1 (v := (vi e1)) rfl (ev_gv et hc) u3 rfl ((hq2 hc).at_ (SX.any rfl hw')))) (by kernel_rfl) ?_
   refine a_gval rfl (g_false2 rfl rfl rfl rfl) rfl (fun hc => fun w' => (y_move rfl et)) ?_
   refine a_gval rfl (g_false2 rfl rfl rfl rfl) rfl (fun hc => fun w' => (y_move rfl et)) ?_
   obtain ⟨e2, hx9, h⟩ := bnd_some h
   replace hx9 := gd_some hx9
   obtain ⟨ad2, cs2, hq3⟩ := hI.gclat (.s (.s (.s .z))) hx9
   have hq4 : (same2 && !(decide (i1 = axis1))) = true → CA (Dj F c15) w11 (ad2.add (Int.toNat i1 * 1)) [vi e2] := fun hc => by have k := hq3 hc; have e : cs2 = _ := k.2.1; rw [← e]; exact k.2.2
   refine a_gval rfl (g_false2 rfl rfl rfl rfl) rfl (fun hc => fun w' => (y_indexAddr rfl u22 size_3 (ev_gv et hc) (ev_gv et hc) (lat_bd (hx9 hc)) (hq3 hc).1)) ?_
   refine a_gread rfl (g_false2 rfl rfl rfl rfl) rfl (fun hc => fun w' hw' => (y_load1 (v := (vi e2)) rfl (ev_gv et hc) u3 rfl ((hq4 hc).at_ (SX.any rfl hw')))) (by kernel_rfl) ?_
   refine a_gval rfl (g_false2 rfl rfl rfl rfl) rfl (fun hc => fun w' => (y_eql rfl (ev_gv et hc) (ev_gv et hc))) ?_
   refine a_gval rfl (g_true rfl rfl rfl rfl) rfl (fun hc => fun w' => (y_or2 rfl hc et et)) ?_
   refine a_q rfl gn rfl (fun w' => y_and rfl et et) ?_
   refine a_q rfl gn rfl (fun w' => y_assign rfl et) ?_
   refine a_nil ?_
   refine k_same (c_region rfl ?_)
   refine sm ?_
   refine sq (y_add rfl et ev_const) ?_
   refine sa ?_
   refine s_nil ?_
   exact k_loop (fuel2, same2 && ((decide (i1 = axis1)) || (decide (e1 = e2))), wi64 (i1 + 1)) ⟨rfl, rfl, rfl, rfl, rfl, rfl, rfl, rfl, trivial⟩ ⟨_, hI.arr (.c .z .n) ⟨.z, (.s .z), (.s (.s .z)), (.s (.s (.s .z))), trivial⟩, h⟩ (Nat.lt_succ_self _)
  refine c_exit ?_
  refine k_in ?_
  exact k_join same2 ⟨rfl, rfl, rfl, rfl, rfl, rfl, trivial⟩ ⟨_, hI.arr (.c .z .n) ⟨.z, (.s .z), (.s (.s .z)), trivial⟩, h⟩ rfl
 refine c_exit ?_
 refine k_in ?_
 refine k_same (sr (sm ?_))
 refine sa ?_
 refine nk (c_ret ?_)
 obtain ⟨c16, hI⟩ := hI.release .z
 obtain rfl := some_inj h
 exact q_ret (vs := [vs a4 out1.length c6]) Tryz.results36 ⟨ev_tmp rfl rfl, trivial⟩ ⟨a4, c6, rfl, hI.ext0, hI.fin ⟨.z, trivial⟩⟩
theorem c_ref12_joined (F : NP) (w0 : World) (hF : ∀ k, F k → k < w0.heap.size) (axis1 : Int) (l1 : List GTensor) (a1 : Option Addr) (c1 : Nat) (hc : AllCl [Cl.sl cGTensor a1 c1 l1] F w0) (r : Int × Int)
  (h : m_ref12_joined axis1 l1 = some r) :
  Calls Tryz.prog 66 #[vi axis1, vs a1 l1.length c1] w0 fun e w => e = .returned (Value.tuple #[vi r.1, vi r.2]) ∧ Ext w0 w ∧ AllCl [] F w := by
 refine enterK Tryz.func66 rfl Tryz.ntmps66 rfl ?_
 have hI := Bun.start hF hc
 clear hc
 rw [m_ref12_joined] at h
 refine sr (sac ?_)
 refine sac ?_
 refine nk (c_join (α := Unit) (fun _ => ⟨112, []⟩) (fun _ => [(0, vi axis1), (1, vs a1 l1.length c1)]) (fun _ => fun w => ∃ C, Bun noM F w0 C w [] [Cl.sl cGTensor a1 c1 l1] ∧ m_ref12_joined_j1 axis1 l1 = some r) ?_ ?_)
 ·clear h hI; rintro _ w1 ⟨c2, hI, h⟩
  try dsimp only at hI h
  rw [m_ref12_joined_j1] at h
  refine c_sub (e := [(0, vi axis1), (1, vs a1 l1.length c1)]) ⟨rfl, rfl, trivial⟩ ?_
  refine c_seq (sr (sm ?_))
  refine sq (y_lss rfl et ev_const) ?_
  refine sm ?_
  refine s_gval (g_false rfl rfl rfl rfl) rfl (fun hc => y_move rfl et) ?_
  refine s_gval (g_false rfl rfl rfl rfl) rfl (fun hc => y_move rfl et) ?_
  obtain ⟨e1, hx1, h⟩ := bnd_some h
  replace hx1 := gd_some hx1
  obtain ⟨ad1, cs1, hq1⟩ := hI.gclat .z hx1
  obtain ⟨a2, c3, a3, c4, hq2⟩ : ∃ (a2 : Option Addr) (c3 : Nat) (a3 : Option Addr) (c4 : Nat), (!(decide (axis1 < 0))) = true → (a1 = some ad1 ∧ cs1 = (lTensor e1 a2 c3 a3 c4) ∧ CA (Dj F c2) w1 (ad1.add (Int.toNat 0 * 7)) cs1 ∧ SlC (cInt .i64) (Dj F c2) w1 a2 c3 e1.Dims ∧ SlC cGVal (Dj F c2) w1 a3 c4 e1.Vals) := by
   by_cases hc : (!(decide (axis1 < 0))) = true
   ·obtain ⟨k1, k2, k3⟩ := hq1 hc; obtain ⟨a2, c3, a3, c4, rfl, hf1, hf2⟩ := k2; exact ⟨a2, c3, a3, c4, fun _ => ⟨k1, rfl, k3, hf1, hf2⟩⟩
   exact ⟨default, default, default, default, fun k => absurd k hc⟩
  clear hq1
  have hI := hI.add (c := Cl.gsl (!(decide (axis1 < 0))) (cInt .i64) a2 c3 e1.Dims) (fun hc => (hq2 hc).2.2.2.1)
  have hI := hI.add (c := Cl.gsl (!(decide (axis1 < 0))) cGVal a3 c4 e1.Vals) (fun hc => (hq2 hc).2.2.2.2)
  have hq3 : (!(decide (axis1 < 0))) = true → CA (Dj F c2) w1 (ad1.add (Int.toNat 0 * 7)) (lTensor e1 a2 c3 a3 c4) := fun hc => by have k := hq2 hc; have e : cs1 = _ := k.2.1; rw [← e]; exact k.2.2.1
  refine s_gval (g_false rfl rfl rfl rfl) rfl (fun hc => (y_indexAddr rfl u25 size_41 (ev_gv et hc) ev_const (lat_bd (hx1 hc)) (hq2 hc).1)) ?_
  refine s_gval (g_false rfl rfl rfl rfl) rfl (fun hc => y_fieldAddr rfl (ev_gv et hc) u41 rfl size_22 rfl) ?_
  refine s_gval (g_false rfl rfl rfl rfl) rfl (fun hc => (y_load1 (v := (vs a2 e1.Dims.length c3)) rfl (ev_gv et hc) u22 rfl (CA.part (hq3 hc) rfl).1)) ?_
  refine s_gval (g_false rfl rfl rfl rfl) rfl (fun hc => y_lenl rfl u22 (ev_gv et hc)) ?_
  refine s_gval (g_false rfl rfl rfl rfl) rfl (fun hc => y_geq rfl (ev_gv et hc) (ev_gv et hc)) ?_
  refine sq (y_or rfl et et) ?_
  refine nk (cif h et (fun hb h => ?_) (fun hb h => ?_))
  ·refine sr (sac ?_)
   refine sac ?_
   refine nk (c_ret ?_)
   obtain rfl := some_inj h
   exact q_ret (vs := [vi 0, vi 11]) Tryz.results66 ⟨ev_tmp rfl rfl, ⟨ev_tmp rfl rfl, trivial⟩⟩ (fq hI trivial)
  refine c_skip (k_same (sr (sac ?_)))
  refine nk (c_join (α := Int) (fun _ => ⟨112, []⟩) (fun x => [(0, vi axis1), (1, vs a1 l1.length c1), (7, vi x)]) (fun x => fun w => ∃ C, Bun noM F w0 C w [] [Cl.sl cGTensor a1 c1 l1] ∧ m_ref12_joined_j2 l1 axis1 x = some r) ?_ ?_)
  ·clear h hI; rintro n1 w2 ⟨c5, hI, h⟩
   try dsimp only at hI h
   rw [m_ref12_joined_j2] at h
   refine c_sub (e := [(0, vi axis1), (1, vs a1 l1.length c1), (7, vi n1)]) ⟨rfl, rfl, rfl, trivial⟩ ?_
   refine c_seq (c_seq (c_drawX [] false (.c (0, .q) (.c (1, .q) (.c (2, .q) (.c (3, .q) (.c (4, .q) (.c (6, .q) (.c (7, .q) (.c (8, .q) (.c (9, .q) (.c (10, .q) (.c (11, .q) (.c (12, .q) (.c (5, .s) (.c (13, .q) (.c (14, .q) (.c (15, .q) .n)))))))))))))))) hI (by kernel_rfl) (by kernel_rfl) ?_))
   clear hI; intro w3 hI
   refine a_q rfl gn rfl (fun w' => y_move rfl et) ?_
   refine a_q rfl gn rfl (fun w' => y_move rfl et) ?_
   obtain ⟨e2, hx2, h⟩ := bnd_some h
   obtain ⟨ad2, cs2, hA2, hr2, hq4⟩ := hI.clat .z hx2
   obtain ⟨a4, c6, a5, c7, rfl, hf3, hf4⟩ := hr2
   have hI := hI.add (c := Cl.sl (cInt .i64) a4 c6 e2.Dims) hf3
   have hI := hI.add (c := Cl.sl cGVal a5 c7 e2.Vals) hf4
   refine a_q rfl gn rfl (fun w' => y_indexAddr rfl u25 size_41 et ev_const (lat_bd hx2) hA2) ?_
   refine a_q rfl gn rfl (fun w' => y_fieldAddr rfl et u41 rfl size_22 rfl) ?_
   refine a_read rfl gn rfl (fun w' hw' => (y_load1 (v := (vs a4 e2.Dims.length c6)) rfl et u22 rfl ((CA.part hq4 rfl).at_ (SX.any rfl hw')))) (by kernel_rfl) ?_
   refine a_q rfl gn rfl (fun w' => y_move rfl et) ?_
   obtain ⟨e3, hx3, h⟩ := bnd_some h
   obtain ⟨ad3, cs3, hA3, hr3, hq5⟩ := hI.clat (.s (.s .z)) hx3
   obtain ⟨a6, c8, a7, c9, rfl, hf5, hf6⟩ := hr3
   have hI := hI.add (c := Cl.sl (cInt .i64) a6 c8 e3.Dims) hf5
   have hI := hI.add (c := Cl.sl cGVal a7 c9 e3.Vals) hf6
   refine a_q rfl gn rfl (fun w' => y_indexAddr rfl u25 size_41 et ev_const (lat_bd hx3) hA3) ?_
   refine a_q rfl gn rfl (fun w' => y_fieldAddr rfl et u41 rfl size_22 rfl) ?_
   refine a_read rfl gn rfl (fun w' hw' => (y_load1 (v := (vs a6 e3.Dims.length c8)) rfl et u22 rfl ((CA.part hq5 rfl).at_ (SX.any rfl hw')))) (by kernel_rfl) ?_
   refine a_q rfl gn rfl (fun w' => y_move rfl et) ?_
   obtain ⟨e4, hx4, h⟩ := bnd_some h
   obtain ⟨ad4, cs4, hA4, hr4, hq6⟩ := hI.clat (.s .z) hx4
   obtain rfl : cs4 = [vi e4] := hr4
   refine a_q rfl gn rfl (fun w' => y_indexAddr rfl u22 size_3 et et (lat_bd hx4) hA4) ?_
   refine a_read rfl gn rfl (fun w' hw' => (y_load1 (v := (vi e4)) rfl et u3 rfl (hq6.at_ (SX.any rfl hw')))) (by kernel_rfl) ?_
   obtain ⟨r1, hx5, h⟩ := bnd_some h
   refine la_call rfl gn rfl (r_callF (vs := [vs a4 e2.Dims.length c6]) rfl ok_58 ⟨et, trivial⟩) (Calls.mono (c_ref12_Size (Dj F c5) w3 hI.lt e2.Dims a4 c6 ⟨(hI.get (.s (.s (.s .z)))), trivial⟩ r1 hx5) ?_)
   rintro _ w4 ⟨rfl, hx6, hl1⟩
   refine ⟨_, rfl, hx6, ?_⟩
   replace hI := (hI.ext hx6)
   obtain ⟨ho1, h⟩ := chk_some h
   refine a_q rfl gn rfl (fun w' => y_quo rfl et et ho1) ?_
   obtain ⟨ho2, h⟩ := chk_some h
   refine a_q rfl gn rfl (fun w' => y_quo rfl ev_const et ho2) ?_
   refine a_q rfl gn rfl (fun w' => y_gtr rfl et et) ?_
   refine a_nil ?_
   refine k_same (cif h et (fun hb h => ?_) (fun hb h => ?_))
   ·refine sr (sac ?_)
    refine sac ?_
    refine nk (c_ret ?_)
    obtain rfl := some_inj h
    exact q_ret (vs := [vi 0, vi 2]) Tryz.results66 ⟨ev_tmp rfl rfl, ⟨ev_tmp rfl rfl, trivial⟩⟩ (fq hI trivial)
   refine c_skip (k_same (sr (sm ?_)))
   refine sa ?_
   refine sac ?_
   refine nk (c_ret ?_)
   obtain rfl := some_inj h
   exact q_ret (vs := [vi n1, vi 0]) Tryz.results66 ⟨ev_tmp rfl rfl, ⟨ev_tmp rfl rfl, trivial⟩⟩ (fq hI trivial)
  refine sr (sac ?_)
  refine nk (c_block (c_loop (α := Nat × Int × Int) (fun x => fun w => ∃ C, Bun noM F w0 C w [] [Cl.sl cGTensor a1 c1 l1] ∧ m_ref12_joined_l1 l1 axis1 (x.1) (x.2.1) (x.2.2) = some r) (fun x _ => x.1) (fun x => [(0, vi axis1), (1, vs a1 l1.length c1), (7, vi (x.2.1)), (8, vi (x.2.2))]) (fu, 0, 0) ⟨_, hI.arr .n ⟨(.s (.s .z)), trivial⟩, h⟩ ⟨rfl, rfl, rfl, rfl, trivial⟩ ?_))
  clear h hI; rintro ⟨fuel1, n2, i1⟩ w5 ⟨c10, hI, h⟩
  dsimp only at hI h
  rcases fuel1 with _ | fuel1
  ·rw [m_ref12_joined_l1] at h; cases h
  rw [m_ref12_joined_l1] at h
  refine c_sub (e := [(0, vi axis1), (1, vs a1 l1.length c1), (7, vi n2), (8, vi i1)]) ⟨rfl, rfl, rfl, rfl, trivial⟩ ?_
  refine c_seq (sr (sm ?_))
  refine sm ?_
  refine sq (y_lenl rfl u25 et) ?_
  refine sq (y_lss rfl et et) ?_
  refine nk (cif h et (fun hb h => ?_) (fun hb h => ?_))
  ·refine c_skip (k_same (c_join (α := Int) (fun _ => ⟨112, []⟩) (fun x => [(0, vi axis1), (1, vs a1 l1.length c1), (7, vi x), (8, vi i1)]) (fun x => fun w => ∃ C, Bun noM F w0 C w [] [Cl.sl cGTensor a1 c1 l1] ∧ m_ref12_joined_j3 (m_ref12_joined_l1 l1 axis1 fuel1) i1 x = some r) ?_ ?_))
   ·clear h hI; rintro n3 w6 ⟨c11, hI, h⟩
    try dsimp only at hI h
    rw [m_ref12_joined_j3] at h
    refine c_sub (e := [(0, vi axis1), (1, vs a1 l1.length c1), (7, vi n3), (8, vi i1)]) ⟨rfl, rfl, rfl, rfl, trivial⟩ ?_
    refine c_region rfl ?_
    refine sm ?_
    refine sq (y_add rfl et ev_const) ?_
    refine sa ?_
    refine s_nil ?_
    exact k_loop (fuel1, n3, wi64 (i1 + 1)) ⟨rfl, rfl, rfl, rfl, trivial⟩ ⟨_, hI.arr .n ⟨.z, trivial⟩, h⟩ (Nat.lt_succ_self _)
   refine c_block (c_join (α := Unit) (fun _ => ⟨112, []⟩) (fun _ => [(0, vi axis1), (1, vs a1 l1.length c1), (7, vi n2), (8, vi i1)]) (fun _ => fun w => ∃ C, Bun noM F w0 C w [] [Cl.sl cGTensor a1 c1 l1] ∧ m_ref12_joined_j4 l1 i1 axis1 (m_ref12_joined_l1 l1 axis1 fuel1) n2 = some r) ?_ ?_)
   ·clear h hI; rintro _ w7 ⟨c12, hI, h⟩
    try dsimp only at hI h
    rw [m_ref12_joined_j4] at h
    refine c_sub (e := [(0, vi axis1), (1, vs a1 l1.length c1), (7, vi n2), (8, vi i1)]) ⟨rfl, rfl, rfl, rfl, trivial⟩ ?_
    refine c_region rfl ?_
    refine sm ?_
    refine sm ?_
    refine sm ?_
    obtain ⟨e5, hx7, h⟩ := bnd_some h
    obtain ⟨ad5, cs5, hA5, hr5, hq7⟩ := hI.clat .z hx7
    obtain ⟨a8, c13, a9, c14, rfl, hf7, hf8⟩ := hr5
    have hI := hI.add (c := Cl.sl (cInt .i64) a8 c13 e5.Dims) hf7
    have hI := hI.add (c := Cl.sl cGVal a9 c14 e5.Vals) hf8
    refine sq (y_indexAddr rfl u25 size_41 et et (lat_bd hx7) hA5) ?_
    refine sq (y_fieldAddr rfl et u41 rfl size_22 rfl) ?_
    refine sq (y_load1 (v := (vs a8 e5.Dims.length c13)) rfl et u22 rfl (CA.part hq7 rfl).1) ?_
    refine sm ?_
    obtain ⟨e6, hx8, h⟩ := bnd_some h
    obtain ⟨ad6, cs6, hA6, hr6, hq8⟩ := hI.clat (.s .z) hx8
    obtain rfl : cs6 = [vi e6] := hr6
    refine sq (y_indexAddr rfl u22 size_3 et et (lat_bd hx8) hA6) ?_
    refine sq (y_load1 (v := (vi e6)) rfl et u3 rfl hq8.1) ?_
    refine sq (y_add rfl et et) ?_
    refine sa ?_
    refine s_nil ?_
    exact k_join (wi64 (n2 + e6)) ⟨rfl, rfl, rfl, rfl, trivial⟩ ⟨_, hI.arr .n ⟨(.s (.s .z)), trivial⟩, h⟩ rfl
   refine sr (sac ?_)
   refine nk (c_block (c_loop (α := Nat × Int) (fun x => fun w => ∃ C, Bun noM F w0 C w [] [Cl.sl cGTensor a1 c1 l1] ∧ m_ref12_joined_l2 l1 axis1 i1 (m_ref12_joined_l1 l1 axis1 fuel1) n2 (x.1) (x.2) = some r) (fun x _ => x.1) (fun x => [(0, vi axis1), (1, vs a1 l1.length c1), (7, vi n2), (8, vi i1), (9, vi (x.2))]) (fu, 0) ⟨_, hI.arr .n ⟨.z, trivial⟩, h⟩ ⟨rfl, rfl, rfl, rfl, rfl, trivial⟩ ?_))
   clear h hI; rintro ⟨fuel2, k1⟩ w8 ⟨c15, hI, h⟩
   dsimp only at hI h
   rcases fuel2 with _ | fuel2
   ·rw [m_ref12_joined_l2] at h; cases h
   rw [m_ref12_joined_l2] at h
   refine c_sub (e := [(0, vi axis1), (1, vs a1 l1.length c1), (7, vi n2), (8, vi i1), (9, vi k1)]) ⟨rfl, rfl, rfl, rfl, rfl, trivial⟩ ?_
   refine c_seq (sr (sm ?_))
   refine sm ?_
   obtain ⟨e7, hx9, h⟩ := bnd_some h
   obtain ⟨ad7, cs7, hA7, hr7, hq9⟩ := hI.clat .z hx9
   obtain ⟨a10, c16, a11, c17, rfl, hf9, hf10⟩ := hr7
   have hI := hI.add (c := Cl.sl (cInt .i64) a10 c16 e7.Dims) hf9
   have hI := hI.add (c := Cl.sl cGVal a11 c17 e7.Vals) hf10
   refine sq (y_indexAddr rfl u25 size_41 et ev_const (lat_bd hx9) hA7) ?_
   refine sq (y_fieldAddr rfl et u41 rfl size_22 rfl) ?_
   refine sq (y_load1 (v := (vs a10 e7.Dims.length c16)) rfl et u22 rfl (CA.part hq9 rfl).1) ?_
   refine sq (y_lenl rfl u22 et) ?_
   refine sq (y_lss rfl et et) ?_
   refine nk (cif h et (fun hb h => ?_) (fun hb h => ?_))
   ·refine c_skip (k_same (c_seq (c_block (c_seq (c_drawX [] false (.c (0, .q) (.c (1, .q) (.c (2, .q) (.c (3, .q) (.c (4, .q) (.c (5, .q) (.c (6, .q) (.c (7, .q) (.c (8, .q) (.c (9, .q) (.c (10, .q) (.c (11, .q) (.c (12, .q) (.c (13, .q) (.c (14, .q) (.c (15, .q) (.c (16, .q) (.c (17, .q) (.c (18, .q) (.c (19, .q) (.c (20, .q) .n))))))))))))))))))))) hI (by kernel_rfl) (by kernel_rfl) ?_)))))
    clear hI; intro w9 hI
    refine a_q rfl gn rfl (fun w' => y_move rfl et) ?_
    refine a_q rfl gn rfl (fun w' => y_move rfl et) ?_
    refine a_q rfl gn rfl (fun w' => y_neq rfl et et) ?_
    refine a_q rfl gn rfl (fun w' => y_move rfl et) ?_
    refine a_gval rfl (g_true rfl rfl rfl rfl) rfl (fun hc => fun w' => (y_move rfl et)) ?_
    refine a_gval rfl (g_true rfl rfl rfl rfl) rfl (fun hc => fun w' => (y_move rfl et)) ?_
    obtain ⟨e8, hx10, h⟩ := bnd_some h
    replace hx10 := gd_some hx10
    obtain ⟨ad8, cs8, hq10⟩ := hI.gclat (.s (.s .z)) hx10
    obtain ⟨a12, c18, a13, c19, hq11⟩ : ∃ (a12 : Option Addr) (c18 : Nat) (a13 : Option Addr) (c19 : Nat), (!decide (k1 = axis1)) = true → (a1 = some ad8 ∧ cs8 = (lTensor e8 a12 c18 a13 c19) ∧ CA (Dj F c15) w9 (ad8.add (Int.toNat i1 * 7)) cs8 ∧ SlC (cInt .i64) (Dj F c15) w9 a12 c18 e8.Dims ∧ SlC cGVal (Dj F c15) w9 a13 c19 e8.Vals) := by
     by_cases hc : (!decide (k1 = axis1)) = true
     ·obtain ⟨k1, k2, k3⟩ := hq10 hc; obtain ⟨a12, c18, a13, c19, rfl, hf11, hf12⟩ := k2; exact ⟨a12, c18, a13, c19, fun _ => ⟨k1, rfl, k3, hf11, hf12⟩⟩
     exact ⟨default, default, default, default, fun k => absurd k hc⟩
    clear hq10
    have hI := hI.add (c := Cl.gsl (!decide (k1 = axis1)) (cInt .i64) a12 c18 e8.Dims) (fun hc => (hq11 hc).2.2.2.1)
    have hI := hI.add (c := Cl.gsl (!decide (k1 = axis1)) cGVal a13 c19 e8.Vals) (fun hc => (hq11 hc).2.2.2.2)
    have hq12 : (!decide (k1 = axis1)) = true → CA (Dj F c15) w9 (ad8.add (Int.toNat i1 * 7)) (lTensor e8 a12 c18 a13 c19) := fun hc => by have k := hq11 hc; have e : cs8 = _ := k.2.1; rw [← e]; exact k.2.2.1
    refine a_gval rfl (g_true rfl rfl rfl rfl) rfl (fun hc => fun w' => (y_indexAddr rfl u25 size_41 (ev_gv et hc) (ev_gv et hc) (lat_bd (hx10 hc)) (hq11 hc).1)) ?_
    refine a_gval rfl (g_true rfl rfl rfl rfl) rfl (fun hc => fun w' => (y_fieldAddr rfl (ev_gv et hc) u41 rfl size_22 rfl)) ?_
    refine a_gread rfl (g_true rfl rfl rfl rfl) rfl (fun hc => fun w' hw' => (y_load1 (v := (vs a12 e8.Dims.length c18)) rfl (ev_gv et hc) u22 rfl ((CA.part (hq12 hc) rfl).at_ (SX.any rfl hw')))) (by kernel_rfl) ?_
    refine a_gval rfl (g_true rfl rfl rfl rfl) rfl (fun hc => fun w' => (y_move rfl et)) ?_
    obtain ⟨e9, hx11, h⟩ := bnd_some h
    replace hx11 := gd_some hx11
    obtain ⟨ad9, cs9, hq13⟩ := hI.ggclat (.s .z) (fun hc => hc) hx11
    have hq14 : (!decide (k1 = axis1)) = true → CA (Dj F c15) w9 (ad9.add (Int.toNat k1 * 1)) [vi e9] := fun hc => by have k := hq13 hc; have e : cs9 = _ := k.2.1; rw [← e]; exact k.2.2
    refine a_gval rfl (g_true rfl rfl rfl rfl) rfl (fun hc => fun w' => (y_indexAddr rfl u22 size_3 (ev_gv et hc) (ev_gv et hc) (lat_bd (hx11 hc)) (hq13 hc).1)) ?_
    refine a_gread rfl (g_true rfl rfl rfl rfl) rfl (fun hc => fun w' hw' => (y_load1 (v := (vi e9)) rfl (ev_gv et hc) u3 rfl ((hq14 hc).at_ (SX.any rfl hw')))) (by kernel_rfl) ?_
    refine a_gval rfl (g_true rfl rfl rfl rfl) rfl (fun hc => fun w' => (y_move rfl et)) ?_
    obtain ⟨e10, hx12, h⟩ := bnd_some h
    replace hx12 := gd_some hx12
    obtain ⟨ad10, cs10, hq15⟩ := hI.gclat (.s (.s (.s (.s .z)))) hx12
    obtain ⟨a14, c20, a15, c21, hq16⟩ : ∃ (a14 : Option Addr) (c20 : Nat) (a15 : Option Addr) (c21 : Nat), (!decide (k1 = axis1)) = true → (a1 = some ad10 ∧ cs10 = (lTensor e10 a14 c20 a15 c21) ∧ CA (Dj F c15) w9 (ad10.add (Int.toNat 0 * 7)) cs10 ∧ SlC (cInt .i64) (Dj F c15) w9 a14 c20 e10.Dims ∧ SlC cGVal (Dj F c15) w9 a15 c21 e10.Vals) := by
     by_cases hc : (!decide (k1 = axis1)) = true
     ·obtain ⟨k1, k2, k3⟩ := hq15 hc; obtain ⟨a14, c20, a15, c21, rfl, hf13, hf14⟩ := k2; exact ⟨a14, c20, a15, c21, fun _ => ⟨k1, rfl, k3, hf13, hf14⟩⟩
     exact ⟨default, default, default, default, fun k => absurd k hc⟩
    clear hq15
    have hI := hI.add (c := Cl.gsl (!decide (k1 = axis1)) (cInt .i64) a14 c20 e10.Dims) (fun hc => (hq16 hc).2.2.2.1)
    have hI := hI.add (c := Cl.gsl (!decide (k1 = axis1)) cGVal a15 c21 e10.Vals) (fun hc => (hq16 hc).2.2.2.2)
    have hq17 : (!decide (k1 = axis1)) = true → CA (Dj F c15) w9 (ad10.add (Int.toNat 0 * 7)) (lTensor e10 a14 c20 a15 c21) := fun hc => by have k := hq16 hc; have e : cs10 = _ := k.2.1; rw [← e]; exact k.2.2.1
    refine a_gval rfl (g_true rfl rfl rfl rfl) rfl (fun hc => fun w' => (y_indexAddr rfl u25 size_41 (ev_gv et hc) ev_const (lat_bd (hx12 hc)) (hq16 hc).1)) ?_
    refine a_gval rfl (g_true rfl rfl rfl rfl) rfl (fun hc => fun w' => (y_fieldAddr rfl (ev_gv et hc) u41 rfl size_22 rfl)) ?_
    refine a_gread rfl (g_true rfl rfl rfl rfl) rfl (fun hc => fun w' hw' => (y_load1 (v := (vs a14 e10.Dims.length c20)) rfl (ev_gv et hc) u22 rfl ((CA.part (hq17 hc) rfl).at_ (SX.any rfl hw')))) (by kernel_rfl) ?_
    refine a_gval rfl (g_true rfl rfl rfl rfl) rfl (fun hc => fun w' => (y_move rfl et)) ?_
    obtain ⟨e11, hx13, h⟩ := bnd_some h
    replace hx13 := gd_some hx13
    obtain ⟨ad11, cs11, hq18⟩ := hI.ggclat (.s .z) (fun hc => hc) hx13
    have hq19 : (!decide (k1 = axis1)) = true → CA (Dj F c15) w9 (ad11.add (Int.toNat k1 * 1)) [vi e11] := fun hc => by have k := hq18 hc; have e : cs11 = _ := k.2.1; rw [← e]; exact k.2.2
    refine a_gval rfl (g_true rfl rfl rfl rfl) rfl (fun hc => fun w' => (y_indexAddr rfl u22 size_3 (ev_gv et hc) (ev_gv et hc) (lat_bd (hx13 hc)) (hq18 hc).1)) ?_
    refine a_gread rfl (g_true rfl rfl rfl rfl) rfl (fun hc => fun w' hw' => (y_load1 (v := (vi e11)) rfl (ev_gv et hc) u3 rfl ((hq19 hc).at_ (SX.any rfl hw')))) (by kernel_rfl) ?_
    refine a_gval rfl (g_true rfl rfl rfl rfl) rfl (fun hc => fun w' => (y_neq rfl (ev_gv et hc) (ev_gv et hc))) ?_
    refine a_q rfl gn rfl (fun w' => y_and rfl et et) ?_
    refine a_nil ?_
    refine k_next (e := [(0, vi axis1), (1, vs a1 l1.length c1), (7, vi n2), (8, vi i1), (9, vi k1), (84, (vb ((!decide (k1 = axis1)) && (!decide (e9 = e11)))))]) ⟨rfl, rfl, rfl, rfl, rfl, rfl, trivial⟩ ?_
    refine cif h et (fun hb h => ?_) (fun hb h => ?_)
    ·refine sr (sac ?_)
     refine sac ?_
     refine nk (c_ret ?_)
     obtain rfl := some_inj h
     exact q_ret (vs := [vi 0, vi 15]) Tryz.results66 ⟨ev_tmp rfl rfl, ⟨ev_tmp rfl rfl, trivial⟩⟩ (fq hI trivial)
    refine c_skip (k_same (c_region rfl ?_))
    refine sm ?_
    refine sq (y_add rfl et ev_const) ?_
    refine sa ?_
    refine s_nil ?_
    exact k_loop (fuel2, wi64 (k1 + 1)) ⟨rfl, rfl, rfl, rfl, rfl, trivial⟩ ⟨_, hI.arr .n ⟨(.s (.s (.s (.s (.s (.s .z)))))), trivial⟩, h⟩ (Nat.lt_succ_self _)
   refine c_exit ?_
   refine k_in ?_
   exact k_join () ⟨rfl, rfl, rfl, rfl, trivial⟩ ⟨_, hI.arr .n ⟨(.s (.s .z)), trivial⟩, h⟩ rfl
  refine c_exit ?_
  refine k_in ?_
  exact k_join n2 ⟨rfl, rfl, rfl, trivial⟩ ⟨_, hI.arr .n ⟨.z, trivial⟩, h⟩ rfl
 refine sr (sac ?_)
 refine nk (c_block (c_loop (α := Nat × Int) (fun x => fun w => ∃ C, Bun noM F w0 C w [] [Cl.sl cGTensor a1 c1 l1] ∧ m_ref12_joined_l3 l1 axis1 (x.1) (x.2) = some r) (fun x _ => x.1) (fun x => [(0, vi axis1), (1, vs a1 l1.length c1), (6, vi (x.2))]) (fu, 1) ⟨_, hI.arr .n ⟨.z, trivial⟩, h⟩ ⟨rfl, rfl, rfl, trivial⟩ ?_))
 clear h hI; rintro ⟨fuel3, i2⟩ w10 ⟨c22, hI, h⟩
 dsimp only at hI h
 rcases fuel3 with _ | fuel3
 ·rw [m_ref12_joined_l3] at h; cases h
 rw [m_ref12_joined_l3] at h
 refine c_sub (e := [(0, vi axis1), (1, vs a1 l1.length c1), (6, vi i2)]) ⟨rfl, rfl, rfl, trivial⟩ ?_
 refine c_seq (sr (sm ?_))
 refine sm ?_
 refine sq (y_lenl rfl u25 et) ?_
 refine sq (y_lss rfl et et) ?_
 refine nk (cif h et (fun hb h => ?_) (fun hb h => ?_))
 ·refine c_skip (k_same (c_seq (c_block (c_seq (c_seq (c_drawX [] false (.c (0, .q) (.c (1, .q) (.c (2, .q) (.c (3, .q) (.c (4, .q) (.c (5, .q) (.c (6, .q) (.c (7, .q) (.c (8, .q) (.c (9, .q) .n)))))))))) hI (by kernel_rfl) (by kernel_rfl) ?_))))))
  clear hI; intro w11 hI
  refine a_q rfl gn rfl (fun w' => y_move rfl et) ?_
  refine a_q rfl gn rfl (fun w' => y_move rfl et) ?_
  obtain ⟨e12, hx14, h⟩ := bnd_some h
  obtain ⟨ad12, cs12, hA12, hr12, hq20⟩ := hI.clat .z hx14
  obtain ⟨a16, c23, a17, c24, rfl, hf15, hf16⟩ := hr12
  have hI := hI.add (c := Cl.sl (cInt .i64) a16 c23 e12.Dims) hf15
  have hI := hI.add (c := Cl.sl cGVal a17 c24 e12.Vals) hf16
  refine a_q rfl gn rfl (fun w' => y_indexAddr rfl u25 size_41 et et (lat_bd hx14) hA12) ?_
  refine a_q rfl gn rfl (fun w' => y_fieldAddr rfl et u41 rfl size_38 rfl) ?_
  refine a_read rfl gn rfl (fun w' hw' => (y_loadN (l := (lType e12.Type_)) rfl et u38 rfl size_38 ((CA.part hq20 rfl).at_ (SX.any rfl hw')))) (by kernel_rfl) ?_
  refine a_q rfl gn rfl (fun w' => y_move rfl et) ?_
  obtain ⟨e13, hx15, h⟩ := bnd_some h
  obtain ⟨ad13, cs13, hA13, hr13, hq21⟩ := hI.clat (.s (.s .z)) hx15
  obtain ⟨a18, c25, a19, c26, rfl, hf17, hf18⟩ := hr13
  have hI := hI.add (c := Cl.sl (cInt .i64) a18 c25 e13.Dims) hf17
  have hI := hI.add (c := Cl.sl cGVal a19 c26 e13.Vals) hf18
  refine a_q rfl gn rfl (fun w' => y_indexAddr rfl u25 size_41 et ev_const (lat_bd hx15) hA13) ?_
  refine a_q rfl gn rfl (fun w' => y_fieldAddr rfl et u41 rfl size_38 rfl) ?_
  refine a_read rfl gn rfl (fun w' hw' => (y_loadN (l := (lType e13.Type_)) rfl et u38 rfl size_38 ((CA.part hq21 rfl).at_ (SX.any rfl hw')))) (by kernel_rfl) ?_
  refine a_q rfl gn rfl (fun w' => y_bin rfl et et (eqstruct_38n ..) (eqguard_38 ..)) ?_
  refine a_nil ?_
  refine k_same (cif h et (fun hb h => ?_) (fun hb h => ?_))
  ·refine sr (sac ?_)
   refine sac ?_
   refine nk (c_ret ?_)
   obtain rfl := some_inj h
   exact q_ret (vs := [vi 0, vi 10]) Tryz.results66 ⟨ev_tmp rfl rfl, ⟨ev_tmp rfl rfl, trivial⟩⟩ (fq hI trivial)
  refine c_skip (k_same (c_seq (c_drawX [] false (.c (0, .q) (.c (1, .q) (.c (2, .q) (.c (3, .q) (.c (4, .q) (.c (5, .q) (.c (6, .q) (.c (7, .q) (.c (8, .q) (.c (9, .q) (.c (10, .q) (.c (11, .q) .n)))))))))))) hI (by kernel_rfl) (by kernel_rfl) ?_)))
  clear hI; intro w12 hI
  refine a_q rfl gn rfl (fun w' => y_move rfl et) ?_
  refine a_q rfl gn rfl (fun w' => y_move rfl et) ?_
  obtain ⟨e14, hx16, h⟩ := bnd_some h
  obtain ⟨ad14, cs14, hA14, hr14, hq22⟩ := hI.clat (.s (.s (.s (.s .z)))) hx16
  obtain ⟨a20, c27, a21, c28, rfl, hf19, hf20⟩ := hr14
  have hI := hI.add (c := Cl.sl (cInt .i64) a20 c27 e14.Dims) hf19
  have hI := hI.add (c := Cl.sl cGVal a21 c28 e14.Vals) hf20
  refine a_q rfl gn rfl (fun w' => y_indexAddr rfl u25 size_41 et et (lat_bd hx16) hA14) ?_
  refine a_q rfl gn rfl (fun w' => y_fieldAddr rfl et u41 rfl size_22 rfl) ?_
  refine a_read rfl gn rfl (fun w' hw' => (y_load1 (v := (vs a20 e14.Dims.length c27)) rfl et u22 rfl ((CA.part hq22 rfl).at_ (SX.any rfl hw')))) (by kernel_rfl) ?_
  refine a_q rfl gn rfl (fun w' => y_lenl rfl u22 et) ?_
  refine a_q rfl gn rfl (fun w' => y_move rfl et) ?_
  obtain ⟨e15, hx17, h⟩ := bnd_some h
  obtain ⟨ad15, cs15, hA15, hr15, hq23⟩ := hI.clat (.s (.s (.s (.s (.s (.s .z)))))) hx17
  obtain ⟨a22, c29, a23, c30, rfl, hf21, hf22⟩ := hr15
  have hI := hI.add (c := Cl.sl (cInt .i64) a22 c29 e15.Dims) hf21
  have hI := hI.add (c := Cl.sl cGVal a23 c30 e15.Vals) hf22
  refine a_q rfl gn rfl (fun w' => y_indexAddr rfl u25 size_41 et ev_const (lat_bd hx17) hA15) ?_
  refine a_q rfl gn rfl (fun w' => y_fieldAddr rfl et u41 rfl size_22 rfl) ?_
  refine a_read rfl gn rfl (fun w' hw' => (y_load1 (v := (vs a22 e15.Dims.length c29)) rfl et u22 rfl ((CA.part hq23 rfl).at_ (SX.any rfl hw')))) (by kernel_rfl) ?_
  refine a_q rfl gn rfl (fun w' => y_lenl rfl u22 et) ?_
  refine a_q rfl gn rfl (fun w' => y_neq rfl et et) ?_
  refine a_nil ?_
  refine k_next (e := [(0, vi axis1), (1, vs a1 l1.length c1), (6, vi i2), (37, (vb (!decide ((e14.Dims.length : Int) = (e15.Dims.length : Int)))))]) ⟨rfl, rfl, rfl, rfl, trivial⟩ ?_
  refine cif h et (fun hb h => ?_) (fun hb h => ?_)
  ·refine sr (sac ?_)
   refine sac ?_
   refine nk (c_ret ?_)
   obtain rfl := some_inj h
   exact q_ret (vs := [vi 0, vi 11]) Tryz.results66 ⟨ev_tmp rfl rfl, ⟨ev_tmp rfl rfl, trivial⟩⟩ (fq hI trivial)
  refine c_skip (k_same (c_region rfl ?_))
  refine sm ?_
  refine sq (y_add rfl et ev_const) ?_
  refine sa ?_
  refine s_nil ?_
  exact k_loop (fuel3, wi64 (i2 + 1)) ⟨rfl, rfl, rfl, trivial⟩ ⟨_, hI.arr .n ⟨(.s (.s (.s (.s (.s (.s (.s (.s .z)))))))), trivial⟩, h⟩ (Nat.lt_succ_self _)
 refine c_exit ?_
 refine k_in ?_
 exact k_join () ⟨rfl, rfl, trivial⟩ ⟨_, hI.arr .n ⟨.z, trivial⟩, h⟩ rfl
theorem c_ref12_Point (F : NP) (w0 : World) (hF : ∀ k, F k → k < w0.heap.size) (d1 : List Int) (at1 : Int) (a1 : Option Addr) (c1 : Nat) (hc : AllCl [Cl.sl (cInt .i64) a1 c1 d1] F w0) (r : List Int)
  (h : m_ref12_Point d1 at1 = some r) :
  Calls Tryz.prog 67 #[vs a1 d1.length c1, vi at1] w0 fun e w => ∃ (a2 : Option Addr) (c2 : Nat), e = .returned (vs a2 r.length c2) ∧ Ext w0 w ∧ AllCl [Cl.sl (cInt .i64) a2 c2 r] F w := by
 refine enterK Tryz.func67 rfl Tryz.ntmps67 rfl ?_
 have hI := Bun.start hF hc
 clear hc
 rw [m_ref12_Point] at h
 refine sr (sac ?_)
 refine nk (sr (sm ?_))
 refine sq (y_lenl rfl u22 et) ?_
 obtain ⟨zs1, hx1, h⟩ := bnd_some h
 refine l_make (c := (cInt .i64)) hI hx1 gn  rfl rfl u22 info_3 rfl rfl et et rfl ?_
 clear hI; intro b1 c3 w1 hI
 refine sa ?_
 refine nk (c_seq (sr (sm ?_)))
 refine sq (y_lenl rfl u22 et) ?_
 refine sq (y_sub rfl et ev_const) ?_
 obtain ⟨i1, hx2, h⟩ := bnd_some h
 refine sq (binU (y_assign rfl et) (congrArg (Value.int .i64) (some_inj hx2))) ?_
 refine nk (c_block (c_loop (α := Nat × Int × (List Int) × Int × (Option Addr) × Nat) (fun x => fun w => ∃ C, Bun noM F w0 C w [MO.row (cInt .i64) 3 (x.2.2.2.2.1) (x.2.2.2.2.2) (x.2.2.1)] [Cl.sl (cInt .i64) a1 c1 d1] ∧ m_ref12_Point_l1 d1 (x.1) (x.2.1) (x.2.2.1) (x.2.2.2.1) = some r) (fun x _ => x.1) (fun x => [(0, vs a1 d1.length c1), (1, vi (x.2.1)), (5, vs (x.2.2.2.2.1) (x.2.2.1).length (x.2.2.2.2.2)), (6, vi (x.2.2.2.1))]) (fu, at1, zs1, i1, some ⟨b1, 0, none⟩, ((d1.length : Int)).toNat) ⟨_, hI.arr (.c .z .n) ⟨.z, trivial⟩, h⟩ ⟨rfl, rfl, rfl, rfl, trivial⟩ ?_))
 clear h hI; rintro ⟨fuel1, at2, p1, i2, a3, c4⟩ w2 ⟨c5, hI, h⟩
 dsimp only at hI h
 rcases fuel1 with _ | fuel1
 ·rw [m_ref12_Point_l1] at h; cases h
 rw [m_ref12_Point_l1] at h
 refine c_sub (e := [(0, vs a1 d1.length c1), (1, vi at2), (5, vs a3 p1.length c4), (6, vi i2)]) ⟨rfl, rfl, rfl, rfl, trivial⟩ ?_
 refine c_seq (sr (sm ?_))
 refine sq (y_geq rfl et ev_const) ?_
 refine nk (cif h et (fun hb h => ?_) (fun hb h => ?_))
 ·refine c_skip (k_same (c_seq (c_block (sr (sm ?_)))))
  refine sm ?_
  refine sm ?_
  refine sm ?_
  refine sm ?_
  obtain ⟨e1, hx3, h⟩ := bnd_some h
  obtain ⟨ad1, cs1, hA1, hr1, hq1⟩ := hI.clat .z hx3
  obtain rfl : cs1 = [vi e1] := hr1
  refine sq (y_indexAddr rfl u22 size_3 et et (lat_bd hx3) hA1) ?_
  refine sq (y_load1 (v := (vi e1)) rfl et u3 rfl hq1.1) ?_
  obtain ⟨ho1, h⟩ := chk_some h
  refine sq (y_rem rfl et et ho1) ?_
  obtain ⟨ho2, h⟩ := chk_some h
  obtain ⟨ad2, hA2⟩ := hI.addr .z ho2
  refine sq (y_indexAddr rfl u22 size_3 et et ho2 hA2) ?_
  refine l_storeRow (p := Int.toNat i2) (new := [vi (Int.tmod at2 e1)]) (off := 0) (x' := Int.tmod at2 e1) hI .z gn rfl rfl (by have := ho2; omega) hA2 rfl et et rfl size_3 rfl (by show 0 + 1 ≤ 1; omega) (fun _ cs0 _ hr0 => by rw [spl_full (by have e := Cod.len _ hr0; exact e)]; exact rfl) ?_
  clear hI; intro c6 w3 hI
  refine s_nil ?_
  refine k_next (e := [(0, vs a1 d1.length c1), (1, vi at2), (5, (vs a3 (p1.set (Int.toNat i2) (Int.tmod at2 e1)).length c4)), (6, vi i2)]) ⟨rfl, rfl, (lookset rfl), rfl, trivial⟩ ?_
  refine c_region rfl ?_
  refine sm ?_
  refine sm ?_
  refine sm ?_
  obtain ⟨e2, hx4, h⟩ := bnd_some h
  obtain ⟨ad3, cs2, hA3, hr2, hq2⟩ := hI.clat .z hx4
  obtain rfl : cs2 = [vi e2] := hr2
  refine sq (y_indexAddr rfl u22 size_3 et et (lat_bd hx4) hA3) ?_
  refine sq (y_load1 (v := (vi e2)) rfl et u3 rfl hq2.1) ?_
  obtain ⟨ho3, h⟩ := chk_some h
  refine sq (y_quo rfl et et ho3) ?_
  refine sa ?_
  refine nk (c_region rfl ?_)
  refine sm ?_
  refine sq (y_sub rfl et ev_const) ?_
  refine sa ?_
  refine s_nil ?_
  exact k_loop (fuel1, wi64 (Int.tdiv at2 e2), p1.set (Int.toNat i2) (Int.tmod at2 e1), wi64 (i2 - 1), a3, c4) ⟨rfl, rfl, rfl, rfl, trivial⟩ ⟨_, hI.arr (.c .z .n) ⟨.z, trivial⟩, h⟩ (Nat.lt_succ_self _)
 refine c_exit ?_
 refine k_in ?_
 refine k_same (sr (sm ?_))
 refine sa ?_
 refine nk (c_ret ?_)
 obtain ⟨c7, hI⟩ := hI.release .z
 obtain rfl := some_inj h
 exact q_ret (vs := [vs a3 p1.length c4]) Tryz.results67 ⟨ev_tmp rfl rfl, trivial⟩ ⟨a3, c4, rfl, hI.ext0, hI.fin ⟨.z, trivial⟩⟩
theorem c_ref12_Offset (F : NP) (w0 : World) (hF : ∀ k, F k → k < w0.heap.size) (d1 : List Int) (p1 : List Int) (a1 : Option Addr) (c1 : Nat) (a2 : Option Addr) (c2 : Nat) (hc : AllCl [Cl.sl (cInt .i64) a1 c1 d1, Cl.sl (cInt .i64) a2 c2 p1] F w0) (r : Int)
  (h : m_ref12_Offset d1 p1 = some r) :
  Calls Tryz.prog 68 #[vs a1 d1.length c1, vs a2 p1.length c2] w0 fun e w => e = .returned (vi r) ∧ Ext w0 w ∧ AllCl [] F w := by
 refine enterK Tryz.func68 rfl Tryz.ntmps68 rfl ?_
 have hI := Bun.start hF hc
 clear hc
 rw [m_ref12_Offset] at h
 refine sr (sac ?_)
 refine nk (sr (sac ?_))
 refine nk (c_seq (sr (sac ?_)))
 refine nk (c_block (c_loop (α := Nat × Int × Int) (fun x => fun w => ∃ C, Bun noM F w0 C w [] [Cl.sl (cInt .i64) a1 c1 d1, Cl.sl (cInt .i64) a2 c2 p1] ∧ m_ref12_Offset_l1 d1 p1 (x.1) (x.2.1) (x.2.2) = some r) (fun x _ => x.1) (fun x => [(0, vs a1 d1.length c1), (1, vs a2 p1.length c2), (5, vi (x.2.1)), (6, vi (x.2.2))]) (fu, 0, 0) ⟨_, hI.arr .n ⟨.z, (.s .z), trivial⟩, h⟩ ⟨rfl, rfl, rfl, rfl, trivial⟩ ?_))
 clear h hI; rintro ⟨fuel1, n1, i1⟩ w1 ⟨c3, hI, h⟩
 dsimp only at hI h
 rcases fuel1 with _ | fuel1
 ·rw [m_ref12_Offset_l1] at h; cases h
 rw [m_ref12_Offset_l1] at h
 refine c_sub (e := [(0, vs a1 d1.length c1), (1, vs a2 p1.length c2), (5, vi n1), (6, vi i1)]) ⟨rfl, rfl, rfl, rfl, trivial⟩ ?_
 refine c_seq (sr (sm ?_))
 refine sm ?_
 refine sq (y_lenl rfl u22 et) ?_
 refine sq (y_lss rfl et et) ?_
 refine nk (cif h et (fun hb h => ?_) (fun hb h => ?_))
 ·refine c_skip (k_same (c_seq (c_block (c_drawX [] false (.c (0, .q) (.c (1, .q) (.c (2, .q) (.c (3, .q) (.c (4, .q) (.c (5, .q) (.c (6, .q) (.c (7, .q) (.c (8, .q) (.c (9, .q) (.c (10, .q) (.c (11, .q) .n)))))))))))) hI (by kernel_rfl) (by kernel_rfl) ?_))))
  clear hI; intro w2 hI
  refine a_q rfl gn rfl (fun w' => y_move rfl et) ?_
  refine a_q rfl gn rfl (fun w' => y_move rfl et) ?_
  refine a_q rfl gn rfl (fun w' => y_move rfl et) ?_
  obtain ⟨e1, hx1, h⟩ := bnd_some h
  obtain ⟨ad1, cs1, hA1, hr1, hq1⟩ := hI.clat .z hx1
  obtain rfl : cs1 = [vi e1] := hr1
  refine a_q rfl gn rfl (fun w' => y_indexAddr rfl u22 size_3 et et (lat_bd hx1) hA1) ?_
  refine a_read rfl gn rfl (fun w' hw' => (y_load1 (v := (vi e1)) rfl et u3 rfl (hq1.at_ (SX.any rfl hw')))) (by kernel_rfl) ?_
  refine a_q rfl gn rfl (fun w' => y_mul rfl et et) ?_
  refine a_q rfl gn rfl (fun w' => y_move rfl et) ?_
  refine a_q rfl gn rfl (fun w' => y_move rfl et) ?_
  obtain ⟨e2, hx2, h⟩ := bnd_some h
  obtain ⟨ad2, cs2, hA2, hr2, hq2⟩ := hI.clat (.s .z) hx2
  obtain rfl : cs2 = [vi e2] := hr2
  refine a_q rfl gn rfl (fun w' => y_indexAddr rfl u22 size_3 et et (lat_bd hx2) hA2) ?_
  refine a_read rfl gn rfl (fun w' hw' => (y_load1 (v := (vi e2)) rfl et u3 rfl (hq2.at_ (SX.any rfl hw')))) (by kernel_rfl) ?_
  refine a_q rfl gn rfl (fun w' => y_add rfl et et) ?_
  refine a_q rfl gn rfl (fun w' => y_assign rfl et) ?_
  refine a_nil ?_
  refine k_same (c_region rfl ?_)
  refine sm ?_
  refine sq (y_add rfl et ev_const) ?_
  refine sa ?_
  refine s_nil ?_
  exact k_loop (fuel1, wi64 ((wi64 (n1 * e1)) + e2), wi64 (i1 + 1)) ⟨rfl, rfl, rfl, rfl, trivial⟩ ⟨_, hI.arr .n ⟨.z, (.s .z), trivial⟩, h⟩ (Nat.lt_succ_self _)
 refine c_exit ?_
 refine k_in ?_
 refine k_same (sr (sm ?_))
 refine sa ?_
 refine nk (c_ret ?_)
 obtain rfl := some_inj h
 exact q_ret (vs := [vi n1]) Tryz.results68 ⟨ev_tmp rfl rfl, trivial⟩ (fq hI trivial)
theorem c_ref12_Point_o (C0 F : NP) (w0 : World) (d1 : List Int) (at1 : Int) (a1 : Option Addr) (c1 : Nat) (hI : Bun C0 F w0 C0 w0 [] [Cl.sl (cInt .i64) a1 c1 d1]) (r : List Int)
  (h : m_ref12_Point_o d1 at1 = some r) :
  Calls Tryz.prog 67 #[vs a1 d1.length c1, vi at1] w0 fun e w => ∃ (a2 : Option Addr) (c2 : Nat) (C : NP), e = .returned (vs a2 r.length c2) ∧ Bun C0 F w0 C w [MO.row (cInt .i64) 3 a2 c2 r] [] := by
 refine enterK Tryz.func67 rfl Tryz.ntmps67 rfl ?_
 rw [m_ref12_Point_o] at h
 refine sr (sac ?_)
 refine nk (sr (sm ?_))
 refine sq (y_lenl rfl u22 et) ?_
 obtain ⟨zs1, hx1, h⟩ := bnd_some h
 refine l_make (c := (cInt .i64)) hI hx1 gn  rfl rfl u22 info_3 rfl rfl et et rfl ?_
 clear hI; intro b1 c3 w1 hI
 refine sa ?_
 refine nk (c_seq (sr (sm ?_)))
 refine sq (y_lenl rfl u22 et) ?_
 refine sq (y_sub rfl et ev_const) ?_
 obtain ⟨i1, hx2, h⟩ := bnd_some h
 refine sq (binU (y_assign rfl et) (congrArg (Value.int .i64) (some_inj hx2))) ?_
 refine nk (c_block (c_loop (α := Nat × Int × (List Int) × Int × (Option Addr) × Nat) (fun x => fun w => ∃ C, Bun C0 F w0 C w [MO.row (cInt .i64) 3 (x.2.2.2.2.1) (x.2.2.2.2.2) (x.2.2.1)] [Cl.sl (cInt .i64) a1 c1 d1] ∧ m_ref12_Point_o_l1 d1 (x.1) (x.2.1) (x.2.2.1) (x.2.2.2.1) = some r) (fun x _ => x.1) (fun x => [(0, vs a1 d1.length c1), (1, vi (x.2.1)), (5, vs (x.2.2.2.2.1) (x.2.2.1).length (x.2.2.2.2.2)), (6, vi (x.2.2.2.1))]) (fu, at1, zs1, i1, some ⟨b1, 0, none⟩, ((d1.length : Int)).toNat) ⟨_, hI.arr (.c .z .n) ⟨.z, trivial⟩, h⟩ ⟨rfl, rfl, rfl, rfl, trivial⟩ ?_))
 clear h hI; rintro ⟨fuel1, at2, p1, i2, a3, c4⟩ w2 ⟨c5, hI, h⟩
 dsimp only at hI h
 rcases fuel1 with _ | fuel1
 ·rw [m_ref12_Point_o_l1] at h; cases h
 rw [m_ref12_Point_o_l1] at h
 refine c_sub (e := [(0, vs a1 d1.length c1), (1, vi at2), (5, vs a3 p1.length c4), (6, vi i2)]) ⟨rfl, rfl, rfl, rfl, trivial⟩ ?_
 refine c_seq (sr (sm ?_))
 refine sq (y_geq rfl et ev_const) ?_
 refine nk (cif h et (fun hb h => ?_) (fun hb h => ?_))
 ·refine c_skip (k_same (c_seq (c_block (sr (sm ?_)))))
  refine sm ?_
  refine sm ?_
  refine sm ?_
  refine sm ?_
  obtain ⟨e1, hx3, h⟩ := bnd_some h
  obtain ⟨ad1, cs1, hA1, hr1, hq1⟩ := hI.clat .z hx3
  obtain rfl : cs1 = [vi e1] := hr1
  refine sq (y_indexAddr rfl u22 size_3 et et (lat_bd hx3) hA1) ?_
  refine sq (y_load1 (v := (vi e1)) rfl et u3 rfl hq1.1) ?_
  obtain ⟨ho1, h⟩ := chk_some h
  refine sq (y_rem rfl et et ho1) ?_
  obtain ⟨ho2, h⟩ := chk_some h
  obtain ⟨ad2, hA2⟩ := hI.addr .z ho2
  refine sq (y_indexAddr rfl u22 size_3 et et ho2 hA2) ?_
  refine l_storeRow (p := Int.toNat i2) (new := [vi (Int.tmod at2 e1)]) (off := 0) (x' := Int.tmod at2 e1) hI .z gn rfl rfl (by have := ho2; omega) hA2 rfl et et rfl size_3 rfl (by show 0 + 1 ≤ 1; omega) (fun _ cs0 _ hr0 => by rw [spl_full (by have e := Cod.len _ hr0; exact e)]; exact rfl) ?_
  clear hI; intro c6 w3 hI
  refine s_nil ?_
  refine k_next (e := [(0, vs a1 d1.length c1), (1, vi at2), (5, (vs a3 (p1.set (Int.toNat i2) (Int.tmod at2 e1)).length c4)), (6, vi i2)]) ⟨rfl, rfl, (lookset rfl), rfl, trivial⟩ ?_
  refine c_region rfl ?_
  refine sm ?_
  refine sm ?_
  refine sm ?_
  obtain ⟨e2, hx4, h⟩ := bnd_some h
  obtain ⟨ad3, cs2, hA3, hr2, hq2⟩ := hI.clat .z hx4
  obtain rfl : cs2 = [vi e2] := hr2
  refine sq (y_indexAddr rfl u22 size_3 et et (lat_bd hx4) hA3) ?_
  refine sq (y_load1 (v := (vi e2)) rfl et u3 rfl hq2.1) ?_
  obtain ⟨ho3, h⟩ := chk_some h
  refine sq (y_quo rfl et et ho3) ?_
  refine sa ?_
  refine nk (c_region rfl ?_)
  refine sm ?_
  refine sq (y_sub rfl et ev_const) ?_
  refine sa ?_
  refine s_nil ?_
  exact k_loop (fuel1, wi64 (Int.tdiv at2 e2), p1.set (Int.toNat i2) (Int.tmod at2 e1), wi64 (i2 - 1), a3, c4) ⟨rfl, rfl, rfl, rfl, trivial⟩ ⟨_, hI.arr (.c .z .n) ⟨.z, trivial⟩, h⟩ (Nat.lt_succ_self _)
 refine c_exit ?_
 refine k_in ?_
 refine k_same (sr (sm ?_))
 refine sa ?_
 refine nk (c_ret ?_)
 obtain rfl := some_inj h
 exact q_ret (vs := [vs a3 p1.length c4]) Tryz.results67 ⟨ev_tmp rfl rfl, trivial⟩ ⟨a3, c4, _, rfl, hI.arr (.c .z .n) trivial⟩
theorem c_ref12_Concat (F : NP) (w0 : World) (hF : ∀ k, F k → k < w0.heap.size) (axis1 : Int) (l1 : List GTensor) (a1 : Option Addr) (c1 : Nat) (hc : AllCl [Cl.sl cGTensor a1 c1 l1] F w0) (r : GTensor × Int)
  (h : m_ref12_Concat axis1 l1 = some r) :
  Calls Tryz.prog 37 #[vi axis1, vs a1 l1.length c1] w0 fun e w => ∃ (a2 : Option Addr) (c2 : Nat) (a3 : Option Addr) (c3 : Nat), e = .returned (Value.tuple #[(Value.agg (ATensor r.1 a2 c2 a3 c3)), vi r.2]) ∧ Ext w0 w ∧ AllCl [Cl.sl (cInt .i64) a2 c2 r.1.Dims, Cl.sl cGVal a3 c3 r.1.Vals] F w := by
 refine enterK Tryz.func37 rfl Tryz.ntmps37 rfl ?_
 have hI := Bun.start hF hc
 clear hc
 rw [m_ref12_Concat] at h
 refine sr (l_alloc (cs := ZTensor) hI gn rfl rfl zero_41 rfl ?_)
 clear hI; intro b1 c4 w1 hI
 refine sac ?_
 refine nk (c_seq (sr (sm ?_)))
 refine sq (y_lenl rfl u25 et) ?_
 refine sq (y_eql rfl et ev_const) ?_
 refine nk (cif h et (fun hb h => ?_) (fun hb h => ?_))
 ·refine sr (sq (y_build (vs := []) (cs := ZTensor) rfl trivial (by kernel_rfl)) ?_)
  refine l_store (new := zTensor) (cs' := ZTensor) hI .z gn rfl rfl et et rfl size_41 rfl rfl rfl ?_
  clear hI; intro c5 w2 hI
  refine sac ?_
  refine nk (c_ret ?_)
  have hI := hI.add (c := Cl.sl (cInt .i64) none 0 ([] : List Int)) SlC.nil
  have hI := hI.add (c := Cl.sl cGVal none 0 ([] : List GVal)) SlC.nil
  obtain rfl := some_inj h
  exact q_ret (vs := [(Value.agg ZTensor), vi 1]) Tryz.results37 ⟨⟨_, ev_tmp rfl rfl, load_agg (l := zTensor) u41 rfl size_41 (CellsAt.of_blk (hI.blk .z) rfl)⟩, ⟨ev_tmp rfl rfl, trivial⟩⟩ ⟨none, 0, none, 0, rfl, hI.ext0, hI.fin ⟨(.s .z), .z, trivial⟩⟩
 refine c_skip (k_same (c_join (α := Unit) (fun _ => ⟨139, []⟩) (fun _ => [(0, vi axis1), (1, vs a1 l1.length c1), (4, vp b1 0)]) (fun _ => fun w => ∃ C, Bun noM F w0 C w [MO.box b1 41 ZTensor] [Cl.sl cGTensor a1 c1 l1] ∧ m_ref12_Concat_j1 axis1 l1 = some r) ?_ ?_))
 ·clear h hI; rintro _ w3 ⟨c6, hI, h⟩
  try dsimp only at hI h
  rw [m_ref12_Concat_j1] at h
  refine c_sub (e := [(0, vi axis1), (1, vs a1 l1.length c1), (4, vp b1 0)]) ⟨rfl, rfl, rfl, trivial⟩ ?_
  refine sr (sm ?_)
  refine sm ?_
  obtain ⟨r1, hx1, h⟩ := bnd_some h
  refine s_call gn rfl (r_callF (vs := [vi axis1, vs a1 l1.length c1]) rfl ok_66 ⟨et, ⟨et, trivial⟩⟩) (Calls.mono (c_ref12_joined (Dj F c6) w3 hI.lt axis1 l1 a1 c1 ⟨(hI.get .z), trivial⟩ r1 hx1) ?_)
  rintro _ w4 ⟨rfl, hx2, hl1⟩
  refine ⟨_, rfl, ?_⟩
  replace hI := (hI.ext hx2)
  refine sm ?_
  refine sq (y_extract rfl et rfl) ?_
  refine sq (y_extract rfl et rfl) ?_
  refine sa ?_
  refine sa ?_
  refine nk (c_seq (sr (sm ?_)))
  refine sq (y_neq rfl et ev_const) ?_
  refine nk (cif h et (fun hb h => ?_) (fun hb h => ?_))
  ·refine sr (sq (y_build (vs := []) (cs := ZTensor) rfl trivial (by kernel_rfl)) ?_)
   refine sm ?_
   refine l_store (new := zTensor) (cs' := ZTensor) hI .z gn rfl rfl et et rfl size_41 rfl rfl rfl ?_
   clear hI; intro c7 w5 hI
   refine sa ?_
   refine nk (c_ret ?_)
   have hI := hI.add (c := Cl.sl (cInt .i64) none 0 ([] : List Int)) SlC.nil
   have hI := hI.add (c := Cl.sl cGVal none 0 ([] : List GVal)) SlC.nil
   obtain rfl := some_inj h
   exact q_ret (vs := [(Value.agg ZTensor), vi r1.2]) Tryz.results37 ⟨⟨_, ev_tmp rfl rfl, load_agg (l := zTensor) u41 rfl size_41 (CellsAt.of_blk (hI.blk .z) rfl)⟩, ⟨ev_tmp rfl rfl, trivial⟩⟩ ⟨none, 0, none, 0, rfl, hI.ext0, hI.fin ⟨(.s .z), .z, trivial⟩⟩
  refine c_skip (k_same (sr (sm ?_)))
  obtain ⟨e1, hx3, h⟩ := bnd_some h
  obtain ⟨ad1, cs1, hA1, hr1, hq1⟩ := hI.clat .z hx3
  obtain ⟨a4, c8, a5, c9, rfl, hf1, hf2⟩ := hr1
  have hI := hI.add (c := Cl.sl (cInt .i64) a4 c8 e1.Dims) hf1
  have hI := hI.add (c := Cl.sl cGVal a5 c9 e1.Vals) hf2
  refine sq (y_indexAddr rfl u25 size_41 et ev_const (lat_bd hx3) hA1) ?_
  refine sq (y_fieldAddr rfl et u41 rfl size_38 rfl) ?_
  refine sq (y_loadN (l := (lType e1.Type_)) rfl et u38 rfl size_38 (CA.part hq1 rfl).1) ?_
  refine sq (y_build (vs := [(0, (Value.agg (AType e1.Type_)))]) (cs := #[vi e1.Type_.Kind, vi e1.Type_.Bits, vi e1.Type_.Frac, vi e1.Type_.Round, vi e1.Type_.Over, vs none 0 0, vs none 0 0]) rfl ⟨rfl, et, trivial⟩ (by kernel_rfl)) ?_
  refine l_alloc (cs := ZTensor) hI gn rfl rfl zero_41 rfl ?_
  clear hI; intro b2 c10 w6 hI
  refine l_store (new := [vi e1.Type_.Kind, vi e1.Type_.Bits, vi e1.Type_.Frac, vi e1.Type_.Round, vi e1.Type_.Over, vs none 0 0, vs none 0 0]) (cs' := #[vi e1.Type_.Kind, vi e1.Type_.Bits, vi e1.Type_.Frac, vi e1.Type_.Round, vi e1.Type_.Over, vs none 0 0, vs none 0 0]) hI .z gn rfl rfl et et rfl size_41 rfl rfl rfl ?_
  clear hI; intro c11 w7 hI
  refine nk (c_join (α := GTensor × (Option Addr) × Nat × (Option Addr) × Nat) (fun _ => ⟨139, []⟩) (fun x => [(0, vi axis1), (1, vs a1 l1.length c1), (4, vp b1 0), (10, vp b2 0)]) (fun x => fun w => ∃ C, Bun noM F w0 C w [MO.row (cInt .i64) 3 (x.2.1) (x.2.2.1) (x.1).Dims, MO.row cGVal 68 (x.2.2.2.1) (x.2.2.2.2) (x.1).Vals, MO.box b1 41 ZTensor, MO.box b2 41 (ATensor (x.1) (x.2.1) (x.2.2.1) (x.2.2.2.1) (x.2.2.2.2))] [Cl.sl cGTensor a1 c1 l1] ∧ m_ref12_Concat_j2 axis1 l1 (x.1) = some r) ?_ ?_)
  ·clear h hI; rintro ⟨out1, a6, c12, a7, c13⟩ w8 ⟨c14, hI, h⟩
   try dsimp only at hI h
   rw [m_ref12_Concat_j2] at h
   refine c_sub (e := [(0, vi axis1), (1, vs a1 l1.length c1), (4, vp b1 0), (10, vp b2 0)]) ⟨rfl, rfl, rfl, rfl, trivial⟩ ?_
   refine c_seq (sr (sac ?_))
   refine nk (c_block ?_)
   obtain ⟨c18, hI⟩ := hI.release .z
   refine c_loop (α := Nat × Int × GTensor × (Option Addr) × Nat × (Option Addr) × Nat) (fun x => fun w => ∃ C, Bun noM F w0 C w [MO.row cGVal 68 (x.2.2.2.2.2.1) (x.2.2.2.2.2.2) (x.2.2.1).Vals, MO.box b1 41 ZTensor, MO.box b2 41 (ATensor (x.2.2.1) (x.2.2.2.1) (x.2.2.2.2.1) (x.2.2.2.2.2.1) (x.2.2.2.2.2.2))] [Cl.sl (cInt .i64) (x.2.2.2.1) (x.2.2.2.2.1) (x.2.2.1).Dims, Cl.sl cGTensor a1 c1 l1] ∧ m_ref12_Concat_l1 axis1 l1 (x.1) (x.2.1) (x.2.2.1) = some r) (fun x _ => x.1) (fun x => [(0, vi axis1), (1, vs a1 l1.length c1), (4, vp b1 0), (10, vp b2 0), (12, vi (x.2.1))]) (fu, 0, out1, a6, c12, a7, c13) ⟨_, hI.arr (.c .z (.c .z (.c .z .n))) ⟨.z, (.s .z), trivial⟩, h⟩ ⟨rfl, rfl, rfl, rfl, rfl, trivial⟩ ?_
   clear h hI; rintro ⟨fuel1, i1, out2, a8, c15, a9, c16⟩ w9 ⟨c17, hI, h⟩
   dsimp only at hI h
   rcases fuel1 with _ | fuel1
   ·rw [m_ref12_Concat_l1] at h; cases h
   rw [m_ref12_Concat_l1] at h
   refine c_sub (e := [(0, vi axis1), (1, vs a1 l1.length c1), (4, vp b1 0), (10, vp b2 0), (12, vi i1)]) ⟨rfl, rfl, rfl, rfl, rfl, trivial⟩ ?_
   refine c_seq (sr (sm ?_))
   refine sq (y_fieldAddr rfl et u41 rfl size_22 rfl) ?_
   refine sq (y_load1 (v := (vs a8 out2.Dims.length c15)) rfl et u22 rfl (CellsAt.of_blk (hI.blk (.s (.s .z))) rfl)) ?_
   obtain ⟨r2, hx4, h⟩ := bnd_some h
   refine s_call gn rfl (r_callF (vs := [vs a8 out2.Dims.length c15]) rfl ok_58 ⟨et, trivial⟩) (Calls.mono (c_ref12_Size (Dj F c17) w9 hI.lt out2.Dims a8 c15 ⟨(hI.get .z), trivial⟩ r2 hx4) ?_)
   rintro _ w10 ⟨rfl, hx5, hl2⟩
   refine ⟨_, rfl, ?_⟩
   replace hI := (hI.ext hx5)
   refine sq (y_lss rfl et et) ?_
   refine nk (cif h et (fun hb h => ?_) (fun hb h => ?_))
   ·refine c_skip (k_same (c_join (α := GTensor × (Option Addr) × Nat × (Option Addr) × Nat) (fun _ => ⟨139, []⟩) (fun x => [(0, vi axis1), (1, vs a1 l1.length c1), (4, vp b1 0), (10, vp b2 0), (12, vi i1)]) (fun x => fun w => ∃ C, Bun noM F w0 C w [MO.row cGVal 68 (x.2.2.2.1) (x.2.2.2.2) (x.1).Vals, MO.box b1 41 ZTensor, MO.box b2 41 (ATensor (x.1) (x.2.1) (x.2.2.1) (x.2.2.2.1) (x.2.2.2.2))] [Cl.sl (cInt .i64) (x.2.1) (x.2.2.1) (x.1).Dims, Cl.sl cGTensor a1 c1 l1] ∧ m_ref12_Concat_j3 (m_ref12_Concat_l1 axis1 l1 fuel1) i1 (x.1) = some r) ?_ ?_))
    ·clear h hI; rintro ⟨out3, a10, c19, a11, c20⟩ w11 ⟨c21, hI, h⟩
     try dsimp only at hI h
     rw [m_ref12_Concat_j3] at h
     refine c_sub (e := [(0, vi axis1), (1, vs a1 l1.length c1), (4, vp b1 0), (10, vp b2 0), (12, vi i1)]) ⟨rfl, rfl, rfl, rfl, rfl, trivial⟩ ?_
     refine c_region rfl ?_
     refine sm ?_
     refine sq (y_add rfl et ev_const) ?_
     refine sa ?_
     refine s_nil ?_
     exact k_loop (fuel1, wi64 (i1 + 1), out3, a10, c19, a11, c20) ⟨rfl, rfl, rfl, rfl, rfl, trivial⟩ ⟨_, hI.arr (.c .z (.c .z (.c .z .n))) ⟨.z, (.s .z), trivial⟩, h⟩ (Nat.lt_succ_self _)
    refine c_block (sr (sq (y_fieldAddr rfl et u41 rfl size_22 rfl) ?_))
    refine sq (y_load1 (v := (vs a8 out2.Dims.length c15)) rfl et u22 rfl (CellsAt.of_blk (hI.blk (.s (.s .z))) rfl)) ?_
    refine sm ?_
    obtain ⟨c22, f1, hB, hl3, hk1⟩ := hI.hands (.r (.r (.r .n)))
    obtain ⟨r3, hx6, h⟩ := bnd_some h
    try dsimp only at h
    refine s_call gn rfl (r_callF (vs := [vs a8 out2.Dims.length c15, vi i1]) rfl ok_67 ⟨et, ⟨et, trivial⟩⟩) (Calls.mono (c_ref12_Point_o c22 f1 w10 out2.Dims i1 a8 c15 (hB.subs ⟨.z, trivial⟩) _ hx6) ?_)
    rintro _ w12 ⟨a12, c23, c24, rfl, hB2⟩
    obtain ⟨c25, hs1, hI⟩ := hk1 _ _ _ _ hB2
    replace hI : Bun noM F w0 c25 w12 [MO.row (cInt .i64) 3 a12 c23 r3, MO.row cGVal 68 a9 c16 out2.Vals, MO.box b1 41 ZTensor, MO.box b2 41 (ATensor out2 a8 c15 a9 c16)] [Cl.sl (cInt .i64) a8 c15 out2.Dims, Cl.sl cGTensor a1 c1 l1] := hI
    refine ⟨_, rfl, ?_⟩
    refine sa ?_
    refine nk (sr (sac ?_))
    refine nk (c_join (α := (List Int) × Int × (Option Addr) × Nat) (fun _ => ⟨139, []⟩) (fun x => [(0, vi axis1), (1, vs a1 l1.length c1), (4, vp b1 0), (10, vp b2 0), (12, vi i1), (13, vs (x.2.2.1) (x.1).length (x.2.2.2)), (14, vi (x.2.1))]) (fun x => fun w => ∃ C, Bun noM F w0 C w [MO.row (cInt .i64) 3 (x.2.2.1) (x.2.2.2) (x.1), MO.box b1 41 ZTensor, MO.box b2 41 (ATensor out2 a8 c15 a9 c16), MO.row cGVal 68 a9 c16 out2.Vals] [Cl.sl cGTensor a1 c1 l1, Cl.sl (cInt .i64) a8 c15 out2.Dims] ∧ m_ref12_Concat_j4 l1 out2 (m_ref12_Concat_l1 axis1 l1 fuel1) i1 (x.1) (x.2.1) = some r) ?_ ?_)
    ·clear h hI; rintro ⟨p1, k1, a13, c26⟩ w13 ⟨c27, hI, h⟩
     try dsimp only at hI h
     rw [m_ref12_Concat_j4] at h
     refine c_sub (e := [(0, vi axis1), (1, vs a1 l1.length c1), (4, vp b1 0), (10, vp b2 0), (12, vi i1), (13, vs a13 p1.length c26), (14, vi k1)]) ⟨rfl, rfl, rfl, rfl, rfl, rfl, rfl, trivial⟩ ?_
     refine c_drawX [17, 19] false (.c (0, .q) (.c (1, .q) (.c (2, .q) (.c (3, .q) (.c (4, .q) (.c (5, .q) (.c (6, .q) (.c (7, .q) (.c (8, .q) (.c (9, .q) (.c (10, .q) (.c (11, .q) (.c (12, .q) (.c (13, .s) (.c (14, .q) (.c (15, .q) (.c (16, .s) (.c (17, .s) (.c (18, .q) (.c (19, .s) .n)))))))))))))))))))) hI (by kernel_rfl) (by kernel_rfl) ?_
     clear hI; intro w14 hI
     refine a_q rfl gn rfl (fun w' => y_fieldAddr rfl et u41 rfl size_39 rfl) ?_
     refine a_read rfl gn rfl (fun w' hw' => (y_load1 (v := (vs a9 out2.Vals.length c16)) rfl et u39 rfl ((CA.blk (hI.blk (.s (.s .z))) rfl).at_ (SX.any rfl hw')))) (by kernel_rfl) ?_
     refine a_q rfl gn rfl (fun w' => y_move rfl et) ?_
     refine a_q rfl gn rfl (fun w' => y_move rfl et) ?_
     obtain ⟨e2, hx7, h⟩ := bnd_some h
     obtain ⟨ad2, cs2, hA2, hr2, hq2⟩ := hI.clat .z hx7
     obtain ⟨a14, c28, a15, c29, rfl, hf3, hf4⟩ := hr2
     have hI := hI.add (c := Cl.sl (cInt .i64) a14 c28 e2.Dims) hf3
     have hI := hI.add (c := Cl.sl cGVal a15 c29 e2.Vals) hf4
     refine a_q rfl gn rfl (fun w' => y_indexAddr rfl u25 size_41 et et (lat_bd hx7) hA2) ?_
     refine a_q rfl gn rfl (fun w' => y_fieldAddr rfl et u41 rfl size_39 rfl) ?_
     refine a_read rfl gn rfl (fun w' hw' => (y_load1 (v := (vs a15 e2.Vals.length c29)) rfl et u39 rfl ((CA.part hq2 rfl).at_ (SX.any rfl hw')))) (by kernel_rfl) ?_
     refine a_q rfl gn rfl (fun w' => y_move rfl et) ?_
     refine a_q rfl gn rfl (fun w' => y_move rfl et) ?_
     obtain ⟨e3, hx8, h⟩ := bnd_some h
     obtain ⟨ad3, cs3, hA3, hr3, hq3⟩ := hI.clat (.s (.s .z)) hx8
     obtain ⟨a16, c30, a17, c31, rfl, hf5, hf6⟩ := hr3
     have hI := hI.add (c := Cl.sl (cInt .i64) a16 c30 e3.Dims) hf5
     have hI := hI.add (c := Cl.sl cGVal a17 c31 e3.Vals) hf6
     refine a_q rfl gn rfl (fun w' => y_indexAddr rfl u25 size_41 et et (lat_bd hx8) hA3) ?_
     refine a_q rfl gn rfl (fun w' => y_fieldAddr rfl et u41 rfl size_22 rfl) ?_
     refine a_read rfl gn rfl (fun w' hw' => (y_load1 (v := (vs a16 e3.Dims.length c30)) rfl et u22 rfl ((CA.part hq3 rfl).at_ (SX.any rfl hw')))) (by kernel_rfl) ?_
     refine a_q rfl gn rfl (fun w' => y_move rfl et) ?_
     obtain ⟨r4, hx9, h⟩ := bnd_some h
     refine la_call rfl gn rfl (r_callF (vs := [vs a16 e3.Dims.length c30, vs a13 p1.length c26]) rfl ok_68 ⟨et, ⟨et, trivial⟩⟩) (Calls.mono (c_ref12_Offset noM w14 (fun _ k => k.elim) e3.Dims p1 a16 c30 a13 c26 ⟨(hI.get0 (.s .z)), hI.lend .z, trivial⟩ r4 hx9) ?_)
     rintro _ w15 ⟨rfl, hx10, hl4⟩
     refine ⟨_, rfl, hx10, ?_⟩
     replace hI := (hI.ext hx10)
     obtain ⟨e4, hx11, h⟩ := bnd_some h
     obtain ⟨ad4, cs4, hA4, hr4, hq4⟩ := hI.clat (.s (.s .z)) hx11
     obtain rfl : cs4 = (lVal e4) := hr4
     refine a_q rfl gn rfl (fun w' => y_indexAddr rfl u39 size_68 et et (lat_bd hx11) hA4) ?_
     refine a_read rfl gn rfl (fun w' hw' => (y_loadN (l := (lVal e4)) rfl et u68 rfl size_68 (hq4.at_ (SX.any rfl hw')))) (by kernel_rfl) ?_
     refine la_lit (c := cGVal) (xs := ([e4] : List GVal)) (vs := [(0, (Value.agg (AVal e4)))]) (cs := (AVal e4)) (css := [(lVal e4)]) hI rfl gn rfl rfl u39 info_68 rfl ⟨rfl, et, trivial⟩ (by kernel_rfl) ⟨rfl, trivial⟩ rfl rfl rfl ?_
     clear hI; intro b3 c32 w16 hI
     refine a_turn (F := F) (C := c32) rfl rfl ?_
     obtain ⟨zs1, hx12, h⟩ := bnd_some h
     refine la_append (xs := out2.Vals) (ys := ([e4] : List GVal)) hI (.s (.s (.s (.s .z)))) (hI.rd .z) hx12 rfl gn rfl rfl u39 info_68 rfl rfl et et ?_
     clear hI; intro a18 c33 c34 w17 hI
     refine a_q rfl gn rfl (fun w' => y_fieldAddr rfl et u41 rfl size_39 rfl) ?_
     refine la_store (new := [vs a18 zs1.length c33]) (cs' := #[vi out2.Type_.Kind, vi out2.Type_.Bits, vi out2.Type_.Frac, vi out2.Type_.Round, vi out2.Type_.Over, vs a8 out2.Dims.length c15, vs a18 zs1.length c33]) hI (.s (.s (.s .z))) rfl gn rfl rfl et et rfl size_39 rfl rfl rfl ?_
     clear hI; intro c35 w18 hI
     refine a_nil ?_
     exact k_join ((⟨out2.Type_, out2.Dims, zs1⟩ : GTensor), a8, c15, a18, c33) ⟨rfl, rfl, rfl, rfl, rfl, trivial⟩ ⟨_, hI.arr (.c (.s (.s (.s (.s .z)))) (.c (.s (.s .z)) (.c (.s (.s .z)) .n))) ⟨(.s (.s (.s (.s (.s .z))))), (.s (.s (.s (.s .z)))), trivial⟩, h⟩ rfl
    refine c_block (c_loop (α := Nat × (List Int) × Int × (Option Addr) × Nat) (fun x => fun w => ∃ C, Bun noM F w0 C w [MO.row (cInt .i64) 3 (x.2.2.2.1) (x.2.2.2.2) (x.2.1), MO.box b1 41 ZTensor, MO.box b2 41 (ATensor out2 a8 c15 a9 c16), MO.row cGVal 68 a9 c16 out2.Vals] [Cl.sl cGTensor a1 c1 l1, Cl.sl (cInt .i64) a8 c15 out2.Dims] ∧ m_ref12_Concat_l2 axis1 l1 out2 (m_ref12_Concat_l1 axis1 l1 fuel1) i1 (x.1) (x.2.1) (x.2.2.1) = some r) (fun x _ => x.1) (fun x => [(0, vi axis1), (1, vs a1 l1.length c1), (4, vp b1 0), (10, vp b2 0), (12, vi i1), (13, vs (x.2.2.2.1) (x.2.1).length (x.2.2.2.2)), (14, vi (x.2.2.1))]) (fu, r3, 0, a12, c23) ⟨_, hI.arr (.c .z (.c (.s .z) (.c (.s .z) (.c .z .n)))) ⟨(.s .z), .z, trivial⟩, h⟩ ⟨rfl, rfl, rfl, rfl, rfl, rfl, rfl, trivial⟩ ?_)
    clear h hI; rintro ⟨fuel2, p2, k2, a19, c36⟩ w19 ⟨c37, hI, h⟩
    dsimp only at hI h
    rcases fuel2 with _ | fuel2
    ·rw [m_ref12_Concat_l2] at h; cases h
    rw [m_ref12_Concat_l2] at h
    refine c_sub (e := [(0, vi axis1), (1, vs a1 l1.length c1), (4, vp b1 0), (10, vp b2 0), (12, vi i1), (13, vs a19 p2.length c36), (14, vi k2)]) ⟨rfl, rfl, rfl, rfl, rfl, rfl, rfl, trivial⟩ ?_
    refine c_seq (c_seq (c_drawX [] false (.c (0, .q) (.c (1, .q) (.c (2, .q) (.c (3, .q) (.c (4, .q) (.c (5, .q) (.c (6, .q) (.c (7, .q) (.c (8, .q) (.c (9, .q) (.c (10, .q) (.c (11, .q) (.c (12, .q) .n))))))))))))) hI (by kernel_rfl) (by kernel_rfl) ?_))
    clear hI; intro w20 hI
    refine a_q rfl gn rfl (fun w' => y_move rfl et) ?_
    refine a_q rfl gn rfl (fun w' => y_move rfl et) ?_
    obtain ⟨e5, hx13, h⟩ := bnd_some h
    obtain ⟨ad5, cs5, hA5, hr5, hq5⟩ := hI.olat .z hx13
    obtain rfl : cs5 = [vi e5] := hr5
    refine a_q rfl gn rfl (fun w' => y_indexAddr rfl u22 size_3 et et (lat_bd hx13) hA5) ?_
    refine a_read rfl gn rfl (fun w' hw' => (y_load1 (v := (vi e5)) rfl et u3 rfl (hq5.at_ (SX.any rfl hw')))) (by kernel_rfl) ?_
    refine a_q rfl gn rfl (fun w' => y_move rfl et) ?_
    refine a_q rfl gn rfl (fun w' => y_move rfl et) ?_
    obtain ⟨e6, hx14, h⟩ := bnd_some h
    obtain ⟨ad6, cs6, hA6, hr6, hq6⟩ := hI.clat .z hx14
    obtain ⟨a20, c38, a21, c39, rfl, hf7, hf8⟩ := hr6
    have hI := hI.add (c := Cl.sl (cInt .i64) a20 c38 e6.Dims) hf7
    have hI := hI.add (c := Cl.sl cGVal a21 c39 e6.Vals) hf8
    refine a_q rfl gn rfl (fun w' => y_indexAddr rfl u25 size_41 et et (lat_bd hx14) hA6) ?_
    refine a_q rfl gn rfl (fun w' => y_fieldAddr rfl et u41 rfl size_22 rfl) ?_
    refine a_read rfl gn rfl (fun w' hw' => (y_load1 (v := (vs a20 e6.Dims.length c38)) rfl et u22 rfl ((CA.part hq6 rfl).at_ (SX.any rfl hw')))) (by kernel_rfl) ?_
    refine a_q rfl gn rfl (fun w' => y_move rfl et) ?_
    obtain ⟨e7, hx15, h⟩ := bnd_some h
    obtain ⟨ad7, cs7, hA7, hr7, hq7⟩ := hI.clat (.s .z) hx15
    obtain rfl : cs7 = [vi e7] := hr7
    refine a_q rfl gn rfl (fun w' => y_indexAddr rfl u22 size_3 et et (lat_bd hx15) hA7) ?_
    refine a_read rfl gn rfl (fun w' hw' => (y_load1 (v := (vi e7)) rfl et u3 rfl (hq7.at_ (SX.any rfl hw')))) (by kernel_rfl) ?_
    refine a_q rfl gn rfl (fun w' => y_geq rfl et et) ?_
    refine a_nil ?_
    refine k_same (cif h et (fun hb h => ?_) (fun hb h => ?_))
    ·refine c_skip (k_same (c_block (c_seq (c_drawX [14] false (.c (0, .q) (.c (1, .q) (.c (2, .q) (.c (3, .q) (.c (4, .q) (.c (5, .q) (.c (6, .q) (.c (7, .q) (.c (8, .q) (.c (9, .q) (.c (10, .q) (.c (11, .q) (.c (12, .q) (.c (13, .q) (.c (14, .s) .n))))))))))))))) hI (by kernel_rfl) (by kernel_rfl) ?_))))
     clear hI; intro w21 hI
     refine a_q rfl gn rfl (fun w' => y_move rfl et) ?_
     refine a_q rfl gn rfl (fun w' => y_move rfl et) ?_
     obtain ⟨e8, hx16, h⟩ := bnd_some h
     obtain ⟨ad8, cs8, hA8, hr8, hq8⟩ := hI.olat .z hx16
     obtain rfl : cs8 = [vi e8] := hr8
     refine a_q rfl gn rfl (fun w' => y_indexAddr rfl u22 size_3 et et (lat_bd hx16) hA8) ?_
     refine a_read rfl gn rfl (fun w' hw' => (y_load1 (v := (vi e8)) rfl et u3 rfl (hq8.at_ (SX.any rfl hw')))) (by kernel_rfl) ?_
     refine a_q rfl gn rfl (fun w' => y_move rfl et) ?_
     refine a_q rfl gn rfl (fun w' => y_move rfl et) ?_
     obtain ⟨e9, hx17, h⟩ := bnd_some h
     obtain ⟨ad9, cs9, hA9, hr9, hq9⟩ := hI.clat (.s (.s .z)) hx17
     obtain ⟨a22, c40, a23, c41, rfl, hf9, hf10⟩ := hr9
     have hI := hI.add (c := Cl.sl (cInt .i64) a22 c40 e9.Dims) hf9
     have hI := hI.add (c := Cl.sl cGVal a23 c41 e9.Vals) hf10
     refine a_q rfl gn rfl (fun w' => y_indexAddr rfl u25 size_41 et et (lat_bd hx17) hA9) ?_
     refine a_q rfl gn rfl (fun w' => y_fieldAddr rfl et u41 rfl size_22 rfl) ?_
     refine a_read rfl gn rfl (fun w' hw' => (y_load1 (v := (vs a22 e9.Dims.length c40)) rfl et u22 rfl ((CA.part hq9 rfl).at_ (SX.any rfl hw')))) (by kernel_rfl) ?_
     refine a_q rfl gn rfl (fun w' => y_move rfl et) ?_
     obtain ⟨e10, hx18, h⟩ := bnd_some h
     obtain ⟨ad10, cs10, hA10, hr10, hq10⟩ := hI.clat (.s .z) hx18
     obtain rfl : cs10 = [vi e10] := hr10
     refine a_q rfl gn rfl (fun w' => y_indexAddr rfl u22 size_3 et et (lat_bd hx18) hA10) ?_
     refine a_read rfl gn rfl (fun w' hw' => (y_load1 (v := (vi e10)) rfl et u3 rfl (hq10.at_ (SX.any rfl hw')))) (by kernel_rfl) ?_
     refine a_q rfl gn rfl (fun w' => y_sub rfl et et) ?_
     obtain ⟨ho1, h⟩ := chk_some h
     obtain ⟨ad11, hA11⟩ := hI.addr .z ho1
     refine a_q rfl gn rfl (fun w' => y_indexAddr rfl u22 size_3 et et ho1 hA11) ?_
     refine a_turn (F := F) (C := c37) rfl rfl ?_
     refine la_storeRow (p := Int.toNat axis1) (new := [(vi (wi64 (e8 - e10)))]) (off := 0) (x' := wi64 (e8 - e10)) hI .z rfl gn rfl rfl (by have := ho1; omega) hA11 rfl et et rfl size_3 rfl (by show 0 + 1 ≤ 1; omega) (fun _ cs0 _ hr0 => by rw [spl_full (by have e := Cod.len _ hr0; exact e)]; exact rfl) ?_
     clear hI; intro c42 w22 hI
     refine a_nil ?_
     refine k_next (e := [(0, vi axis1), (1, vs a1 l1.length c1), (4, vp b1 0), (10, vp b2 0), (12, vi i1), (13, (vs a19 (p2.set (Int.toNat axis1) (wi64 (e8 - e10))).length c36)), (14, vi k2)]) ⟨rfl, rfl, rfl, rfl, rfl, (lookset rfl), rfl, trivial⟩ ?_
     refine c_region rfl ?_
     refine sm ?_
     refine sq (y_add rfl et ev_const) ?_
     refine sa ?_
     refine s_nil ?_
     exact k_loop (fuel2, p2.set (Int.toNat axis1) (wi64 (e8 - e10)), wi64 (k2 + 1), a19, c36) ⟨rfl, rfl, rfl, rfl, rfl, rfl, rfl, trivial⟩ ⟨_, hI.arr (.c .z (.c .z (.c .z (.c .z .n)))) ⟨(.s (.s (.s (.s .z)))), (.s (.s (.s (.s (.s .z))))), trivial⟩, h⟩ (Nat.lt_succ_self _)
    refine c_exit ?_
    refine k_in ?_
    exact k_join (p2, k2, a19, c36) ⟨rfl, rfl, rfl, rfl, rfl, rfl, rfl, trivial⟩ ⟨_, hI.arr (.c .z (.c .z (.c .z (.c .z .n)))) ⟨(.s (.s .z)), (.s (.s (.s .z))), trivial⟩, h⟩ rfl
   refine c_exit ?_
   refine k_in ?_
   refine k_same (sr (sq (y_loadN (l := (lTensor out2 a8 c15 a9 c16)) rfl et u41 rfl size_41 (CellsAt.of_blk (hI.blk (.s (.s .z))) rfl)) ?_))
   refine l_store (new := (lTensor out2 a8 c15 a9 c16)) (cs' := (ATensor out2 a8 c15 a9 c16)) hI (.s .z) gn rfl rfl et et rfl size_41 rfl rfl rfl ?_
   clear hI; intro c43 w23 hI
   refine sac ?_
   refine nk (c_ret ?_)
   obtain ⟨c44, hI⟩ := hI.release .z
   obtain rfl := some_inj h
   exact q_ret (vs := [(Value.agg (ATensor out2 a8 c15 a9 c16)), vi 0]) Tryz.results37 ⟨⟨_, ev_tmp rfl rfl, load_agg (l := (lTensor out2 a8 c15 a9 c16)) u41 rfl size_41 (CellsAt.of_blk (hI.blk .z) rfl)⟩, ⟨ev_tmp rfl rfl, trivial⟩⟩ ⟨a8, c15, a9, c16, rfl, hI.ext0, hI.fin ⟨(.s .z), .z, trivial⟩⟩
  refine sr (sac ?_)
  refine nk (c_block ?_)
  have hI := hI.nil (cInt .i64) 3 none
  have hI := hI.nil cGVal 68 none
  refine c_loop (α := Nat × Int × GTensor × (Option Addr) × Nat × (Option Addr) × Nat) (fun x => fun w => ∃ C, Bun noM F w0 C w [MO.row (cInt .i64) 3 (x.2.2.2.1) (x.2.2.2.2.1) (x.2.2.1).Dims, MO.row cGVal 68 (x.2.2.2.2.2.1) (x.2.2.2.2.2.2) (x.2.2.1).Vals, MO.box b1 41 ZTensor, MO.box b2 41 (ATensor (x.2.2.1) (x.2.2.2.1) (x.2.2.2.2.1) (x.2.2.2.2.2.1) (x.2.2.2.2.2.2))] [Cl.sl cGTensor a1 c1 l1] ∧ m_ref12_Concat_l3 l1 axis1 r1 (x.1) (x.2.1) (x.2.2.1) = some r) (fun x _ => x.1) (fun x => [(0, vi axis1), (1, vs a1 l1.length c1), (4, vp b1 0), (8, vi r1.1), (10, vp b2 0), (11, vi (x.2.1))]) (fu, 0, (⟨e1.Type_, ([] : List Int), ([] : List GVal)⟩ : GTensor), none, 0, none, 0) ⟨_, hI.arr (.c (.s .z) (.c .z (.c (.s .z) (.c .z .n)))) ⟨(.s (.s .z)), trivial⟩, h⟩ ⟨rfl, rfl, rfl, rfl, rfl, rfl, trivial⟩ ?_
  clear h hI; rintro ⟨fuel3, i2, out4, a24, c45, a25, c46⟩ w24 ⟨c47, hI, h⟩
  dsimp only at hI h
  rcases fuel3 with _ | fuel3
  ·rw [m_ref12_Concat_l3] at h; cases h
  rw [m_ref12_Concat_l3] at h
  refine c_sub (e := [(0, vi axis1), (1, vs a1 l1.length c1), (4, vp b1 0), (8, vi r1.1), (10, vp b2 0), (11, vi i2)]) ⟨rfl, rfl, rfl, rfl, rfl, rfl, trivial⟩ ?_
  refine c_seq (sr (sm ?_))
  refine sm ?_
  obtain ⟨e11, hx19, h⟩ := bnd_some h
  obtain ⟨ad12, cs11, hA12, hr11, hq11⟩ := hI.clat .z hx19
  obtain ⟨a26, c48, a27, c49, rfl, hf11, hf12⟩ := hr11
  have hI := hI.add (c := Cl.sl (cInt .i64) a26 c48 e11.Dims) hf11
  have hI := hI.add (c := Cl.sl cGVal a27 c49 e11.Vals) hf12
  refine sq (y_indexAddr rfl u25 size_41 et ev_const (lat_bd hx19) hA12) ?_
  refine sq (y_fieldAddr rfl et u41 rfl size_22 rfl) ?_
  refine sq (y_load1 (v := (vs a26 e11.Dims.length c48)) rfl et u22 rfl (CA.part hq11 rfl).1) ?_
  refine sq (y_lenl rfl u22 et) ?_
  refine sq (y_lss rfl et et) ?_
  refine nk (cif h et (fun hb h => ?_) (fun hb h => ?_))
  ·refine c_skip (k_same (c_join (α := GTensor × (Option Addr) × Nat × (Option Addr) × Nat) (fun _ => ⟨139, []⟩) (fun x => [(0, vi axis1), (1, vs a1 l1.length c1), (4, vp b1 0), (8, vi r1.1), (10, vp b2 0), (11, vi i2)]) (fun x => fun w => ∃ C, Bun noM F w0 C w [MO.row (cInt .i64) 3 (x.2.1) (x.2.2.1) (x.1).Dims, MO.row cGVal 68 (x.2.2.2.1) (x.2.2.2.2) (x.1).Vals, MO.box b1 41 ZTensor, MO.box b2 41 (ATensor (x.1) (x.2.1) (x.2.2.1) (x.2.2.2.1) (x.2.2.2.2))] [Cl.sl cGTensor a1 c1 l1] ∧ m_ref12_Concat_j5 (m_ref12_Concat_l3 l1 axis1 r1 fuel3) i2 (x.1) = some r) ?_ ?_))
   ·clear h hI; rintro ⟨out5, a28, c50, a29, c51⟩ w25 ⟨c52, hI, h⟩
    try dsimp only at hI h
    rw [m_ref12_Concat_j5] at h
    refine c_sub (e := [(0, vi axis1), (1, vs a1 l1.length c1), (4, vp b1 0), (8, vi r1.1), (10, vp b2 0), (11, vi i2)]) ⟨rfl, rfl, rfl, rfl, rfl, rfl, trivial⟩ ?_
    refine c_region rfl ?_
    refine sm ?_
    refine sq (y_add rfl et ev_const) ?_
    refine sa ?_
    refine s_nil ?_
    exact k_loop (fuel3, wi64 (i2 + 1), out5, a28, c50, a29, c51) ⟨rfl, rfl, rfl, rfl, rfl, rfl, trivial⟩ ⟨_, hI.arr (.c .z (.c .z (.c .z (.c .z .n)))) ⟨.z, trivial⟩, h⟩ (Nat.lt_succ_self _)
   refine c_block (sr (sm ?_))
   refine sm ?_
   refine sq (y_eql rfl et et) ?_
   refine nk (cif h et (fun hb h => ?_) (fun hb h => ?_))
   ·refine c_region rfl ?_
    refine sq (y_fieldAddr rfl et u41 rfl size_22 rfl) ?_
    refine sq (y_load1 (v := (vs a24 out4.Dims.length c45)) rfl et u22 rfl (CellsAt.of_blk (hI.blk (.s (.s (.s .z)))) rfl)) ?_
    refine sm ?_
    refine l_lit (c := (cInt .i64)) (xs := ([r1.1] : List Int)) (vs := [(0, vi r1.1)]) (cs := #[vi r1.1]) (css := [[vi r1.1]]) hI gn rfl rfl u22 info_3 rfl ⟨rfl, et, trivial⟩ (by kernel_rfl) ⟨rfl, trivial⟩ rfl rfl rfl ?_
    clear hI; intro b4 c53 w26 hI
    obtain ⟨zs2, hx20, h⟩ := bnd_some h
    refine l_append (xs := out4.Dims) (ys := ([r1.1] : List Int)) hI (.s .z) (hI.rd .z) hx20 gn rfl rfl u22 info_3 rfl rfl et et ?_
    clear hI; intro a30 c54 c55 w27 hI
    refine sq (y_fieldAddr rfl et u41 rfl size_22 rfl) ?_
    refine l_store (new := [vs a30 zs2.length c54]) (cs' := #[vi out4.Type_.Kind, vi out4.Type_.Bits, vi out4.Type_.Frac, vi out4.Type_.Round, vi out4.Type_.Over, vs a30 zs2.length c54, vs a25 out4.Vals.length c46]) hI (.s (.s (.s (.s .z)))) gn rfl rfl et et rfl size_22 rfl rfl rfl ?_
    clear hI; intro c56 w28 hI
    refine s_nil ?_
    exact k_join ((⟨out4.Type_, zs2, out4.Vals⟩ : GTensor), a30, c54, a25, c46) ⟨rfl, rfl, rfl, rfl, rfl, rfl, trivial⟩ ⟨_, hI.arr (.c (.s .z) (.c (.s .z) (.c (.s .z) (.c (.s .z) .n)))) ⟨(.s (.s .z)), trivial⟩, h⟩ rfl
   refine c_drawX [10, 12] false (.c (0, .q) (.c (1, .q) (.c (2, .q) (.c (3, .q) (.c (4, .q) (.c (5, .q) (.c (6, .q) (.c (7, .q) (.c (8, .q) (.c (9, .s) (.c (10, .s) (.c (11, .q) (.c (12, .s) .n))))))))))))) hI (by kernel_rfl) (by kernel_rfl) ?_
   clear hI; intro w29 hI
   refine a_q rfl gn rfl (fun w' => y_fieldAddr rfl et u41 rfl size_22 rfl) ?_
   refine a_read rfl gn rfl (fun w' hw' => (y_load1 (v := (vs a24 out4.Dims.length c45)) rfl et u22 rfl ((CA.blk (hI.blk (.s (.s (.s .z)))) rfl).at_ (SX.any rfl hw')))) (by kernel_rfl) ?_
   refine a_q rfl gn rfl (fun w' => y_move rfl et) ?_
   obtain ⟨e12, hx21, h⟩ := bnd_some h
   obtain ⟨ad13, cs12, hA13, hr12, hq12⟩ := hI.clat (.s (.s .z)) hx21
   obtain ⟨a31, c57, a32, c58, rfl, hf13, hf14⟩ := hr12
   have hI := hI.add (c := Cl.sl (cInt .i64) a31 c57 e12.Dims) hf13
   have hI := hI.add (c := Cl.sl cGVal a32 c58 e12.Vals) hf14
   refine a_q rfl gn rfl (fun w' => y_indexAddr rfl u25 size_41 et ev_const (lat_bd hx21) hA13) ?_
   refine a_q rfl gn rfl (fun w' => y_fieldAddr rfl et u41 rfl size_22 rfl) ?_
   refine a_read rfl gn rfl (fun w' hw' => (y_load1 (v := (vs a31 e12.Dims.length c57)) rfl et u22 rfl ((CA.part hq12 rfl).at_ (SX.any rfl hw')))) (by kernel_rfl) ?_
   refine a_q rfl gn rfl (fun w' => y_move rfl et) ?_
   obtain ⟨e13, hx22, h⟩ := bnd_some h
   obtain ⟨ad14, cs13, hA14, hr13, hq13⟩ := hI.clat (.s .z) hx22
   obtain rfl : cs13 = [vi e13] := hr13
   refine a_q rfl gn rfl (fun w' => y_indexAddr rfl u22 size_3 et et (lat_bd hx22) hA14) ?_
   refine a_read rfl gn rfl (fun w' hw' => (y_load1 (v := (vi e13)) rfl et u3 rfl (hq13.at_ (SX.any rfl hw')))) (by kernel_rfl) ?_
   refine la_lit (c := (cInt .i64)) (xs := ([e13] : List Int)) (vs := [(0, vi e13)]) (cs := #[vi e13]) (css := [[vi e13]]) hI rfl gn rfl rfl u22 info_3 rfl ⟨rfl, et, trivial⟩ (by kernel_rfl) ⟨rfl, trivial⟩ rfl rfl rfl ?_
   clear hI; intro b5 c59 w30 hI
   refine a_turn (F := F) (C := c59) rfl rfl ?_
   obtain ⟨zs3, hx23, h⟩ := bnd_some h
   refine la_append (xs := out4.Dims) (ys := ([e13] : List Int)) hI (.s .z) (hI.rd .z) hx23 rfl gn rfl rfl u22 info_3 rfl rfl et et ?_
   clear hI; intro a33 c60 c61 w31 hI
   refine a_q rfl gn rfl (fun w' => y_fieldAddr rfl et u41 rfl size_22 rfl) ?_
   refine la_store (new := [vs a33 zs3.length c60]) (cs' := #[vi out4.Type_.Kind, vi out4.Type_.Bits, vi out4.Type_.Frac, vi out4.Type_.Round, vi out4.Type_.Over, vs a33 zs3.length c60, vs a25 out4.Vals.length c46]) hI (.s (.s (.s (.s .z)))) rfl gn rfl rfl et et rfl size_22 rfl rfl rfl ?_
   clear hI; intro c62 w32 hI
   refine a_nil ?_
   exact k_join ((⟨out4.Type_, zs3, out4.Vals⟩ : GTensor), a33, c60, a25, c46) ⟨rfl, rfl, rfl, rfl, rfl, rfl, trivial⟩ ⟨_, hI.arr (.c (.s .z) (.c (.s .z) (.c (.s .z) (.c (.s .z) .n)))) ⟨(.s (.s (.s (.s .z)))), trivial⟩, h⟩ rfl
  refine c_exit ?_
  refine k_in ?_
  exact k_join (out4, a24, c45, a25, c46) ⟨rfl, rfl, rfl, rfl, trivial⟩ ⟨_, hI.arr (.c .z (.c .z (.c .z (.c .z .n)))) ⟨(.s (.s .z)), trivial⟩, h⟩ rfl
 refine sr (sac ?_)
 refine nk (c_block (c_loop (α := Nat × Int) (fun x => fun w => ∃ C, Bun noM F w0 C w [MO.box b1 41 ZTensor] [Cl.sl cGTensor a1 c1 l1] ∧ m_ref12_Concat_l4 l1 axis1 (x.1) (x.2) = some r) (fun x _ => x.1) (fun x => [(0, vi axis1), (1, vs a1 l1.length c1), (4, vp b1 0), (6, vi (x.2))]) (fu, 0) ⟨_, hI.arr (.c .z .n) ⟨.z, trivial⟩, h⟩ ⟨rfl, rfl, rfl, rfl, trivial⟩ ?_))
 clear h hI; rintro ⟨fuel4, i3⟩ w33 ⟨c63, hI, h⟩
 dsimp only at hI h
 rcases fuel4 with _ | fuel4
 ·rw [m_ref12_Concat_l4] at h; cases h
 rw [m_ref12_Concat_l4] at h
 refine c_sub (e := [(0, vi axis1), (1, vs a1 l1.length c1), (4, vp b1 0), (6, vi i3)]) ⟨rfl, rfl, rfl, rfl, trivial⟩ ?_
 refine c_seq (sr (sm ?_))
 refine sm ?_
 refine sq (y_lenl rfl u25 et) ?_
 refine sq (y_lss rfl et et) ?_
 refine nk (cif h et (fun hb h => ?_) (fun hb h => ?_))
 ·refine c_skip (k_same (c_seq (c_block (sr (sm ?_)))))
  refine sm ?_
  obtain ⟨e14, hx24, h⟩ := bnd_some h
  obtain ⟨ad15, cs14, hA15, hr14, hq14⟩ := hI.clat .z hx24
  obtain ⟨a34, c64, a35, c65, rfl, hf15, hf16⟩ := hr14
  have hI := hI.add (c := Cl.sl (cInt .i64) a34 c64 e14.Dims) hf15
  have hI := hI.add (c := Cl.sl cGVal a35 c65 e14.Vals) hf16
  refine sq (y_indexAddr rfl u25 size_41 et et (lat_bd hx24) hA15) ?_
  refine sq (y_loadN (l := (lTensor e14 a34 c64 a35 c65)) rfl et u41 rfl size_41 hq14.1) ?_
  obtain ⟨r5, hx25, h⟩ := bnd_some h
  refine s_call gn rfl (r_callF (vs := [(Value.agg (ATensor e14 a34 c64 a35 c65))]) rfl ok_26 ⟨et, trivial⟩) (Calls.mono (c_ref12_Validate (Dj F c63) w33 hI.lt e14 a34 c64 a35 c65 ⟨(hI.get (.s .z)), (hI.get .z), trivial⟩ r5 hx25) ?_)
  rintro _ w34 ⟨rfl, hx26, hl5⟩
  refine ⟨_, rfl, ?_⟩
  replace hI := (hI.ext hx26)
  refine sa ?_
  refine nk (sr (sm ?_))
  refine sq (y_neq rfl et ev_const) ?_
  refine nk (cif h et (fun hb h => ?_) (fun hb h => ?_))
  ·refine sr (sq (y_build (vs := []) (cs := ZTensor) rfl trivial (by kernel_rfl)) ?_)
   refine sm ?_
   refine l_store (new := zTensor) (cs' := ZTensor) hI .z gn rfl rfl et et rfl size_41 rfl rfl rfl ?_
   clear hI; intro c66 w35 hI
   refine sa ?_
   refine nk (c_ret ?_)
   have hI := hI.add (c := Cl.sl (cInt .i64) none 0 ([] : List Int)) SlC.nil
   have hI := hI.add (c := Cl.sl cGVal none 0 ([] : List GVal)) SlC.nil
   obtain rfl := some_inj h
   exact q_ret (vs := [(Value.agg ZTensor), vi r5]) Tryz.results37 ⟨⟨_, ev_tmp rfl rfl, load_agg (l := zTensor) u41 rfl size_41 (CellsAt.of_blk (hI.blk .z) rfl)⟩, ⟨ev_tmp rfl rfl, trivial⟩⟩ ⟨none, 0, none, 0, rfl, hI.ext0, hI.fin ⟨(.s .z), .z, trivial⟩⟩
  refine c_skip (k_same (c_region rfl ?_))
  refine sm ?_
  refine sq (y_add rfl et ev_const) ?_
  refine sa ?_
  refine s_nil ?_
  exact k_loop (fuel4, wi64 (i3 + 1)) ⟨rfl, rfl, rfl, rfl, trivial⟩ ⟨_, hI.arr (.c .z .n) ⟨(.s (.s .z)), trivial⟩, h⟩ (Nat.lt_succ_self _)
 refine c_exit ?_
 refine k_in ?_
 exact k_join () ⟨rfl, rfl, rfl, trivial⟩ ⟨_, hI.arr (.c .z .n) ⟨.z, trivial⟩, h⟩ rfl
end Go.Proofs.YtpedfojbfbccaaaGreat
