import Derived.Test.YtlakfanockhngaaGreatDoorSCQ10b
namespace Go.Proofs.YtlakfanockhngaaGreatDoor
open Go Go.RowKit Go.Vc
set_option maxRecDepth 100000
set_option maxHeartbeats 4000000
set_option linter.unusedVariables false
set_option linter.unusedSimpArgs false
theorem c_ref12_Point (F : NP) (w0 : World) (hF : ∀ k, F k → k < w0.heap.size) (d1 : List Int) (at1 : Int) (a1 : Option Addr) (c1 : Nat) (hc : AllCl [Cl.sl (cInt .i64) a1 c1 d1] F w0) (r : List Int)
  (h : m_ref12_Point d1 at1 = some r) :
  Calls Tryz.prog 45 #[vs a1 d1.length c1, vi at1] w0 fun e w => ∃ (a2 : Option Addr) (c2 : Nat), e = .returned (vs a2 r.length c2) ∧ Ext w0 w ∧ AllCl [Cl.sl (cInt .i64) a2 c2 r] F w := by
 refine enterK Tryz.func45 rfl Tryz.ntmps45 rfl ?_
 have hI := Bun.start hF hc
 clear hc
 rw [m_ref12_Point] at h
 refine sr (sac ?_)
 refine nk (sr (sm ?_))
 refine sq (y_lenl rfl u24 et) ?_
 obtain ⟨zs1, hx1, h⟩ := bnd_some h
 refine l_make (c := (cInt .i64)) hI hx1 gn  rfl rfl u24 info_3 rfl rfl et et rfl ?_
 clear hI; intro b1 c3 w1 hI
 refine sa ?_
 refine nk (c_seq (sr (sm ?_)))
 refine sq (y_lenl rfl u24 et) ?_
 refine sq (y_sub rfl et ev_const) ?_
 obtain ⟨i1, hx2, h⟩ := bnd_some h
 refine sq (binU (y_assign rfl et) (congrArg (Value.int .i64) (some_inj hx2))) ?_
 refine nk (c_block (c_loop (α := Nat × Int × (List Int) × Int × (Option Addr) × Nat) (fun x => fun w => ∃ C, Bun noM F w0 C w [MO.row (cInt .i64) 3 (x.2.2.2.2.1) (x.2.2.2.2.2) (x.2.2.1)] [Cl.sl (cInt .i64) a1 c1 d1] ∧ m_ref12_Point_l1 d1 (x.1) (x.2.1) (x.2.2.1) (x.2.2.2.1) = some r) (fun x _ => x.1) (fun x => [(0, vs a1 d1.length c1), (1, vi (x.2.1)), (5, vs (x.2.2.2.2.1) (x.2.2.1).length (x.2.2.2.2.2)), (6, vi (x.2.2.2.1))]) (fu, at1, zs1, i1, some ⟨b1, 0, none⟩, ((d1.length : Int)).toNat) ⟨_, hI.arr (.c .z .n) ⟨.z, trivial⟩, h⟩ ⟨rfl, rfl, rfl, rfl, trivial⟩ ?_))
 clear h hI; rintro ⟨fuel1, at2, p1, i2, a3, c4⟩ w2 ⟨c5, hI, h⟩
 dsimp only at hI h
 rcases fuel1 with _ | fuel1
 ·rw [m_ref12_Point_l1] at h; cases h
 rw [m_ref12_Point_l1] at h
 refine c_sub (e := [(0, vs a1 d1.length c1), (1, vi at2), (5, vs a3 p1.length c4), (6, vi i2)]) ⟨rfl, rfl, rfl, rfl, trivial⟩ ?_
 refine c_seq (sr (sm ?_))
 refine sq (y_geq rfl et ev_const) ?_
 refine nk (cif h et (fun hb h => ?_) (fun hb h => ?_))
 ·refine c_skip (k_same (c_seq (c_block (sr (sm ?_)))))
  refine sm ?_
  refine sm ?_
  refine sm ?_
  refine sm ?_
  obtain ⟨e1, hx3, h⟩ := bnd_some h
  obtain ⟨ad1, cs1, hA1, hr1, hq1⟩ := hI.clat .z hx3
  obtain rfl : cs1 = [vi e1] := hr1
  refine sq (y_indexAddr rfl u24 size_3 et et (lat_bd hx3) hA1) ?_
  refine sq (y_load1 (v := (vi e1)) rfl et u3 rfl hq1.1) ?_
  obtain ⟨ho1, h⟩ := chk_some h
  refine sq (y_rem rfl et et ho1) ?_
  obtain ⟨ho2, h⟩ := chk_some h
  obtain ⟨ad2, hA2⟩ := hI.addr .z ho2
  refine sq (y_indexAddr rfl u24 size_3 et et ho2 hA2) ?_
  refine l_storeRow (p := Int.toNat i2) (new := [vi (Int.tmod at2 e1)]) (off := 0) (x' := Int.tmod at2 e1) hI .z gn rfl rfl (by have := ho2; omega) hA2 rfl et et rfl size_3 rfl (by show 0 + 1 ≤ 1; omega) (fun _ cs0 _ hr0 => by rw [spl_full (by have e := Cod.len _ hr0; exact e)]; exact rfl) ?_
  clear hI; intro c6 w3 hI
  refine s_nil ?_
  refine k_next (e := [(0, vs a1 d1.length c1), (1, vi at2), (5, (vs a3 (p1.set (Int.toNat i2) (Int.tmod at2 e1)).length c4)), (6, vi i2)]) ⟨rfl, rfl, (lookset rfl), rfl, trivial⟩ ?_
  refine c_region rfl ?_
  refine sm ?_
  refine sm ?_
  refine sm ?_
  obtain ⟨e2, hx4, h⟩ := bnd_some h
  obtain ⟨ad3, cs2, hA3, hr2, hq2⟩ := hI.clat .z hx4
  obtain rfl : cs2 = [vi e2] := hr2
  refine sq (y_indexAddr rfl u24 size_3 et et (lat_bd hx4) hA3) ?_
  refine sq (y_load1 (v := (vi e2)) rfl et u3 rfl hq2.1) ?_
  obtain ⟨ho3, h⟩ := chk_some h
  refine sq (y_quo rfl et et ho3) ?_
  refine sa ?_
  refine nk (c_region rfl ?_)
  refine sm ?_
  refine sq (y_sub rfl et ev_const) ?_
  refine sa ?_
  refine s_nil ?_
  exact k_loop (fuel1, wi64 (Int.tdiv at2 e2), p1.set (Int.toNat i2) (Int.tmod at2 e1), wi64 (i2 - 1), a3, c4) ⟨rfl, rfl, rfl, rfl, trivial⟩ ⟨_, hI.arr (.c .z .n) ⟨.z, trivial⟩, h⟩ (Nat.lt_succ_self _)
 refine c_exit ?_
 refine k_in ?_
 refine k_same (sr (sm ?_))
 refine sa ?_
 refine nk (c_ret ?_)
 obtain ⟨c7, hI⟩ := hI.release .z
 obtain rfl := some_inj h
 exact q_ret (vs := [vs a3 p1.length c4]) Tryz.results45 ⟨ev_tmp rfl rfl, trivial⟩ ⟨a3, c4, rfl, hI.ext0, hI.fin ⟨.z, trivial⟩⟩
theorem c_ref12_Offset (F : NP) (w0 : World) (hF : ∀ k, F k → k < w0.heap.size) (d1 : List Int) (p1 : List Int) (a1 : Option Addr) (c1 : Nat) (a2 : Option Addr) (c2 : Nat) (hc : AllCl [Cl.sl (cInt .i64) a1 c1 d1, Cl.sl (cInt .i64) a2 c2 p1] F w0) (r : Int)
  (h : m_ref12_Offset d1 p1 = some r) :
  Calls Tryz.prog 49 #[vs a1 d1.length c1, vs a2 p1.length c2] w0 fun e w => e = .returned (vi r) ∧ Ext w0 w ∧ AllCl [] F w := by
 refine enterK Tryz.func49 rfl Tryz.ntmps49 rfl ?_
 have hI := Bun.start hF hc
 clear hc
 rw [m_ref12_Offset] at h
 refine sr (sac ?_)
 refine nk (sr (sac ?_))
 refine nk (c_seq (sr (sac ?_)))
 refine nk (c_block (c_loop (α := Nat × Int × Int) (fun x => fun w => ∃ C, Bun noM F w0 C w [] [Cl.sl (cInt .i64) a1 c1 d1, Cl.sl (cInt .i64) a2 c2 p1] ∧ m_ref12_Offset_l1 d1 p1 (x.1) (x.2.1) (x.2.2) = some r) (fun x _ => x.1) (fun x => [(0, vs a1 d1.length c1), (1, vs a2 p1.length c2), (5, vi (x.2.1)), (6, vi (x.2.2))]) (fu, 0, 0) ⟨_, hI.arr .n ⟨.z, (.s .z), trivial⟩, h⟩ ⟨rfl, rfl, rfl, rfl, trivial⟩ ?_))
 clear h hI; rintro ⟨fuel1, n1, i1⟩ w1 ⟨c3, hI, h⟩
 dsimp only at hI h
 rcases fuel1 with _ | fuel1
 ·rw [m_ref12_Offset_l1] at h; cases h
 rw [m_ref12_Offset_l1] at h
 refine c_sub (e := [(0, vs a1 d1.length c1), (1, vs a2 p1.length c2), (5, vi n1), (6, vi i1)]) ⟨rfl, rfl, rfl, rfl, trivial⟩ ?_
 refine c_seq (sr (sm ?_))
 refine sm ?_
 refine sq (y_lenl rfl u24 et) ?_
 refine sq (y_lss rfl et et) ?_
 refine nk (cif h et (fun hb h => ?_) (fun hb h => ?_))
 ·refine c_skip (k_same (c_seq (c_block (c_drawX [] false (.c (0, .q) (.c (1, .q) (.c (2, .q) (.c (3, .q) (.c (4, .q) (.c (5, .q) (.c (6, .q) (.c (7, .q) (.c (8, .q) (.c (9, .q) (.c (10, .q) (.c (11, .q) .n)))))))))))) hI (by kernel_rfl) (by kernel_rfl) ?_))))
  clear hI; intro w2 hI
  refine a_q rfl gn rfl (fun w' => y_move rfl et) ?_
  refine a_q rfl gn rfl (fun w' => y_move rfl et) ?_
  refine a_q rfl gn rfl (fun w' => y_move rfl et) ?_
  obtain ⟨e1, hx1, h⟩ := bnd_some h
  obtain ⟨ad1, cs1, hA1, hr1, hq1⟩ := hI.clat .z hx1
  obtain rfl : cs1 = [vi e1] := hr1
  refine a_q rfl gn rfl (fun w' => y_indexAddr rfl u24 size_3 et et (lat_bd hx1) hA1) ?_
  refine a_read rfl gn rfl (fun w' hw' => (y_load1 (v := (vi e1)) rfl et u3 rfl (hq1.at_ (SX.any rfl hw')))) (by kernel_rfl) ?_
  refine a_q rfl gn rfl (fun w' => y_mul rfl et et) ?_
  refine a_q rfl gn rfl (fun w' => y_move rfl et) ?_
  refine a_q rfl gn rfl (fun w' => y_move rfl et) ?_
  obtain ⟨e2, hx2, h⟩ := bnd_some h
  obtain ⟨ad2, cs2, hA2, hr2, hq2⟩ := hI.clat (.s .z) hx2
  obtain rfl : cs2 = [vi e2] := hr2
  refine a_q rfl gn rfl (fun w' => y_indexAddr rfl u24 size_3 et et (lat_bd hx2) hA2) ?_
  refine a_read rfl gn rfl (fun w' hw' => (y_load1 (v := (vi e2)) rfl et u3 rfl (hq2.at_ (SX.any rfl hw')))) (by kernel_rfl) ?_
  refine a_q rfl gn rfl (fun w' => y_add rfl et et) ?_
  refine a_q rfl gn rfl (fun w' => y_assign rfl et) ?_
  refine a_nil ?_
  refine k_same (c_region rfl ?_)
  refine sm ?_
  refine sq (y_add rfl et ev_const) ?_
  refine sa ?_
  refine s_nil ?_
  exact k_loop (fuel1, wi64 ((wi64 (n1 * e1)) + e2), wi64 (i1 + 1)) ⟨rfl, rfl, rfl, rfl, trivial⟩ ⟨_, hI.arr .n ⟨.z, (.s .z), trivial⟩, h⟩ (Nat.lt_succ_self _)
 refine c_exit ?_
 refine k_in ?_
 refine k_same (sr (sm ?_))
 refine sa ?_
 refine nk (c_ret ?_)
 obtain rfl := some_inj h
 exact q_ret (vs := [vi n1]) Tryz.results49 ⟨ev_tmp rfl rfl, trivial⟩ (fq hI trivial)
theorem c_ref12_line (F : NP) (w0 : World) (hF : ∀ k, F k → k < w0.heap.size) (t1 : GTensor) (axis1 : Int) (p1 : List Int) (a1 : Option Addr) (c1 : Nat) (a2 : Option Addr) (c2 : Nat) (a3 : Option Addr) (c3 : Nat) (hc : AllCl [Cl.sl (cInt .i64) a1 c1 t1.Dims, Cl.sl cGVal a2 c2 t1.Vals, Cl.sl (cInt .i64) a3 c3 p1] F w0) (r : List GVal)
  (h : m_ref12_line t1 axis1 p1 = some r) :
  Calls Tryz.prog 46 #[(Value.agg (ATensor t1 a1 c1 a2 c2)), vi axis1, vs a3 p1.length c3] w0 fun e w => ∃ (a4 : Option Addr) (c4 : Nat), e = .returned (vs a4 r.length c4) ∧ Ext w0 w ∧ AllCl [Cl.sl cGVal a4 c4 r] F w := by
 refine enterK Tryz.func46 rfl Tryz.ntmps46 rfl ?_
 have hI := Bun.start hF hc
 clear hc
 rw [m_ref12_line] at h
 refine sr (l_box (v := (Value.agg (ATensor t1 a1 c1 a2 c2))) (cs := (ATensor t1 a1 c1 a2 c2)) hI gn rfl rfl et rfl ?_)
 clear hI; intro b1 c5 w1 hI
 obtain ⟨c6, hI⟩ := hI.relBox .z
 refine sac ?_
 refine nk (sr (sac ?_))
 refine nk (c_seq (sr (sac ?_)))
 refine nk (c_block ?_)
 have hI := hI.nil cGVal 36 none
 refine c_loop (α := Nat × (List GVal) × Int × (Option Addr) × Nat) (fun x => fun w => ∃ C, Bun noM F w0 C w [MO.row cGVal 36 (x.2.2.2.1) (x.2.2.2.2) (x.2.1)] [Cl.sl (cInt .i64) a3 c3 p1, Cl.blk b1 27 (ATensor t1 a1 c1 a2 c2), Cl.sl (cInt .i64) a1 c1 t1.Dims, Cl.sl cGVal a2 c2 t1.Vals] ∧ m_ref12_line_l1 t1 axis1 p1 (x.1) (x.2.1) (x.2.2.1) = some r) (fun x _ => x.1) (fun x => [(1, vi axis1), (2, vs a3 p1.length c3), (3, vp b1 0), (7, vs (x.2.2.2.1) (x.2.1).length (x.2.2.2.2)), (8, vi (x.2.2.1))]) (fu, ([] : List GVal), 0, none, 0) ⟨_, hI.arr (.c .z .n) ⟨(.s (.s (.s .z))), .z, (.s .z), (.s (.s .z)), trivial⟩, h⟩ ⟨rfl, rfl, rfl, rfl, rfl, trivial⟩ ?_
 clear h hI; rintro ⟨fuel1, out1, i1, a5, c7⟩ w2 ⟨c8, hI, h⟩
 dsimp only at hI h
 rcases fuel1 with _ | fuel1
 ·rw [m_ref12_line_l1] at h; cases h
 rw [m_ref12_line_l1] at h
 refine c_sub (e := [(1, vi axis1), (2, vs a3 p1.length c3), (3, vp b1 0), (7, vs a5 out1.length c7), (8, vi i1)]) ⟨rfl, rfl, rfl, rfl, rfl, trivial⟩ ?_
 refine c_seq (sr (sm ?_))
 refine sq (y_fieldAddr rfl et u27 rfl size_24 rfl) ?_
 refine sq (y_load1 (v := (vs a1 t1.Dims.length c1)) rfl et u24 rfl (hI.kblk (l := [vs a1 t1.Dims.length c1]) (.s .z) rfl).1) ?_
 refine sm ?_
 obtain ⟨e1, hx1, h⟩ := bnd_some h
 obtain ⟨ad1, cs1, hA1, hr1, hq1⟩ := hI.clat (.s (.s .z)) hx1
 obtain rfl : cs1 = [vi e1] := hr1
 refine sq (y_indexAddr rfl u24 size_3 et et (lat_bd hx1) hA1) ?_
 refine sq (y_load1 (v := (vi e1)) rfl et u3 rfl hq1.1) ?_
 refine sq (y_lss rfl et et) ?_
 refine nk (cif h et (fun hb h => ?_) (fun hb h => ?_))
 ·refine c_skip (k_same (c_seq (c_block (sr (sac ?_)))))
  refine nk (sr (sm ?_))
  refine sm ?_
  refine sm ?_
  obtain ⟨zs1, hx2, h⟩ := bnd_some h
  refine sq (y_lupto rfl u24 size_3 et et hx2 (hI.cap_ .z)) ?_
  replace hI := hI.upto .z hx2
  obtain ⟨zs2, hx3, h⟩ := bnd_some h
  replace hI := hI.nil (cInt .i64) 3 none
  refine l_append (xs := ([] : List Int)) (ys := zs1) hI .z (hI.crd .z) hx3 gn rfl rfl u24 info_3 rfl rfl et et ?_
  clear hI; intro a6 c9 c10 w3 hI
  refine sa ?_
  refine nk (sr (sm ?_))
  refine sm ?_
  refine l_lit (c := (cInt .i64)) (xs := ([i1] : List Int)) (vs := [(0, vi i1)]) (cs := #[vi i1]) (css := [[vi i1]]) hI gn rfl rfl u24 info_3 rfl ⟨rfl, et, trivial⟩ (by kernel_rfl) ⟨rfl, trivial⟩ rfl rfl rfl ?_
  clear hI; intro b2 c11 w4 hI
  obtain ⟨zs3, hx4, h⟩ := bnd_some h
  refine l_append (xs := zs2) (ys := ([i1] : List Int)) hI (.s .z) (hI.rd .z) hx4 gn rfl rfl u24 info_3 rfl rfl et et ?_
  clear hI; intro a7 c12 c13 w5 hI
  refine sa ?_
  refine nk (sr (sm ?_))
  refine sm ?_
  refine sm ?_
  obtain ⟨zs4, hx5, h⟩ := bnd_some h
  obtain ⟨a8, hB1⟩ : ∃ B : Option Addr, B = (if c3 = Int.toNat axis1 then a3 else Option.map (·.add (Int.toNat axis1 * 1)) a3) := ⟨_, rfl⟩
  refine sq (y_lfrom rfl u24 size_3 et et hx5 hB1) ?_
  replace hI := hI.from_ (.s .z) hx5 hB1
  obtain ⟨zs5, hx6, h⟩ := bnd_some h
  refine l_append (xs := zs3) (ys := zs4) hI (.s .z) (hI.crd .z) hx6 gn rfl rfl u24 info_3 rfl rfl et et ?_
  clear hI; intro a9 c14 c15 w6 hI
  refine sa ?_
  refine nk (c_drawX [10] false (.c (0, .q) (.c (1, .q) (.c (2, .q) (.c (3, .q) (.c (4, .q) (.c (5, .q) (.c (6, .s) (.c (7, .q) (.c (8, .q) (.c (9, .s) (.c (10, .s) (.c (11, .q) .n)))))))))))) hI (by kernel_rfl) (by kernel_rfl) ?_)
  clear hI; intro w7 hI
  refine a_q rfl gn rfl (fun w' => y_move rfl et) ?_
  refine a_q rfl gn rfl (fun w' => y_fieldAddr rfl et u27 rfl size_25 rfl) ?_
  refine a_read rfl gn rfl (fun w' hw' => (y_load1 (v := (vs a2 t1.Vals.length c2)) rfl et u25 rfl ((hI.kblk (l := [vs a2 t1.Vals.length c2]) (.s (.s (.s .z))) rfl).at_ (SX.any rfl hw')))) (by kernel_rfl) ?_
  refine a_q rfl gn rfl (fun w' => y_fieldAddr rfl et u27 rfl size_24 rfl) ?_
  refine a_read rfl gn rfl (fun w' hw' => (y_load1 (v := (vs a1 t1.Dims.length c1)) rfl et u24 rfl ((hI.kblk (l := [vs a1 t1.Dims.length c1]) (.s (.s (.s .z))) rfl).at_ (SX.any rfl hw')))) (by kernel_rfl) ?_
  refine a_q rfl gn rfl (fun w' => y_move rfl et) ?_
  obtain ⟨r1, hx7, h⟩ := bnd_some h
  refine la_call rfl gn rfl (r_callF (vs := [vs a1 t1.Dims.length c1, vs a9 zs5.length c14]) rfl ok_49 ⟨et, ⟨et, trivial⟩⟩) (Calls.mono (c_ref12_Offset noM w7 (fun _ k => k.elim) t1.Dims zs5 a1 c1 a9 c14 ⟨(hI.get0 (.s (.s (.s (.s .z))))), hI.lend (.s .z), trivial⟩ r1 hx7) ?_)
  rintro _ w8 ⟨rfl, hx8, hl1⟩
  refine ⟨_, rfl, hx8, ?_⟩
  replace hI := (hI.ext hx8)
  obtain ⟨e2, hx9, h⟩ := bnd_some h
  obtain ⟨ad2, cs2, hA2, hr2, hq2⟩ := hI.clat (.s (.s (.s (.s (.s .z))))) hx9
  obtain rfl : cs2 = (lVal e2) := hr2
  refine a_q rfl gn rfl (fun w' => y_indexAddr rfl u25 size_36 et et (lat_bd hx9) hA2) ?_
  refine a_read rfl gn rfl (fun w' hw' => (y_loadN (l := (lVal e2)) rfl et u36 rfl size_36 (hq2.at_ (SX.any rfl hw')))) (by kernel_rfl) ?_
  refine la_lit (c := cGVal) (xs := ([e2] : List GVal)) (vs := [(0, (Value.agg (AVal e2)))]) (cs := (AVal e2)) (css := [(lVal e2)]) hI rfl gn rfl rfl u25 info_36 rfl ⟨rfl, et, trivial⟩ (by kernel_rfl) ⟨rfl, trivial⟩ rfl rfl rfl ?_
  clear hI; intro b3 c16 w9 hI
  refine a_turn (F := F) (C := c16) rfl rfl ?_
  obtain ⟨zs6, hx10, h⟩ := bnd_some h
  refine la_append (xs := out1) (ys := ([e2] : List GVal)) hI (.s (.s (.s .z))) (hI.rd .z) hx10 rfl gn rfl rfl u25 info_36 rfl rfl et et ?_
  clear hI; intro a10 c17 c18 w10 hI
  refine a_q rfl gn rfl (fun w' => y_assign rfl et) ?_
  refine a_nil ?_
  refine k_next (e := [(1, vi axis1), (2, vs a3 p1.length c3), (3, vp b1 0), (7, vs a10 zs6.length c17), (8, vi i1)]) ⟨rfl, rfl, rfl, rfl, rfl, trivial⟩ ?_
  refine c_region rfl ?_
  refine sm ?_
  refine sq (y_add rfl et ev_const) ?_
  refine sa ?_
  refine s_nil ?_
  exact k_loop (fuel1, zs6, wi64 (i1 + 1), a10, c17) ⟨rfl, rfl, rfl, rfl, rfl, trivial⟩ ⟨_, hI.arr (.c (.s (.s (.s .z))) .n) ⟨(.s (.s .z)), (.s (.s (.s .z))), (.s (.s (.s (.s .z)))), (.s (.s (.s (.s (.s .z))))), trivial⟩, h⟩ (Nat.lt_succ_self _)
 refine c_exit ?_
 refine k_in ?_
 refine k_same (sr (sm ?_))
 refine sa ?_
 refine nk (c_ret ?_)
 obtain ⟨c19, hI⟩ := hI.release .z
 obtain rfl := some_inj h
 exact q_ret (vs := [vs a5 out1.length c7]) Tryz.results46 ⟨ev_tmp rfl rfl, trivial⟩ ⟨a5, c7, rfl, hI.ext0, hI.fin ⟨.z, trivial⟩⟩
theorem c_ref04_Zero (F : NP) (w0 : World) (hF : ∀ k, F k → k < w0.heap.size) (t1 : GType) (hc : AllCl [] F w0) (r : GVal)
  (h : m_ref04_Zero t1 = some r) :
  Calls Tryz.prog 105 #[(Value.agg (AType t1))] w0 fun e w => e = .returned (Value.agg (AVal r)) ∧ Ext w0 w ∧ AllCl [] F w := by
 refine enterK Tryz.func105 rfl Tryz.ntmps105 rfl ?_
 have hI := Bun.start hF hc
 clear hc
 rw [m_ref04_Zero] at h
 refine sr (l_box (v := (Value.agg (AType t1))) (cs := (AType t1)) hI gn rfl rfl et rfl ?_)
 clear hI; intro b1 c1 w1 hI
 obtain ⟨c2, hI⟩ := hI.relBox .z
 refine l_alloc (cs := #[vi 0, vi 0]) hI gn rfl rfl zero_36 rfl ?_
 clear hI; intro b2 c3 w2 hI
 refine nk (c_seq (sr (sq (y_loadN (l := (lType t1)) rfl et u23 rfl size_23 (hI.kblk (l := (lType t1)) .z rfl).1) ?_)))
 obtain ⟨r1, hx1, h⟩ := bnd_some h
 refine s_call gn rfl (r_callF (vs := [(Value.agg (AType t1))]) rfl ok_60 ⟨et, trivial⟩) (Calls.mono (c_base_Type (Dj F c3) w2 hI.lt t1 trivial r1 hx1) ?_)
 rintro _ w3 ⟨rfl, hx2, hl1⟩
 refine ⟨_, rfl, ?_⟩
 replace hI := (hI.ext hx2)
 refine sq (y_not rfl et) ?_
 refine nk (cif h et (fun hb h => ?_) (fun hb h => ?_))
 ·refine sr (sq (y_build (vs := []) (cs := #[vi 0, vi 0]) rfl trivial (by kernel_rfl)) ?_)
  refine l_store (new := [vi 0, vi 0]) (cs' := #[vi 0, vi 0]) hI .z gn rfl rfl et et rfl size_36 rfl rfl rfl ?_
  clear hI; intro c4 w4 hI
  refine nk (c_ret ?_)
  obtain rfl := some_inj h
  exact q_ret (vs := [(Value.agg #[vi 0, vi 0])]) Tryz.results105 ⟨⟨_, ev_tmp rfl rfl, load_agg (l := [vi 0, vi 0]) u36 rfl size_36 (CellsAt.of_blk (hI.blk .z) rfl)⟩, trivial⟩ (fq hI trivial)
 refine c_skip (k_same (sr (sq (y_build (vs := [(0, vi 0), (1, vi 1)]) (cs := #[vi 0, vi 1]) rfl ⟨rfl, ev_const, ⟨rfl, ev_const, trivial⟩⟩ (by kernel_rfl)) ?_)))
 refine l_store (new := [vi 0, vi 1]) (cs' := #[vi 0, vi 1]) hI .z gn rfl rfl et et rfl size_36 rfl rfl rfl ?_
 clear hI; intro c5 w5 hI
 refine nk (c_ret ?_)
 obtain rfl := some_inj h
 exact q_ret (vs := [(Value.agg #[vi 0, vi 1])]) Tryz.results105 ⟨⟨_, ev_tmp rfl rfl, load_agg (l := [vi 0, vi 1]) u36 rfl size_36 (CellsAt.of_blk (hI.blk .z) rfl)⟩, trivial⟩ (fq hI trivial)
theorem c_ref04_step (F : NP) (w0 : World) (hF : ∀ k, F k → k < w0.heap.size) (t1 : GType) (hc : AllCl [] F w0) (r : Int)
  (h : m_ref04_step t1 = some r) :
  Calls Tryz.prog 111 #[(Value.agg (AType t1))] w0 fun e w => e = .returned (vi r) ∧ Ext w0 w ∧ AllCl [] F w := by
 refine enterK Tryz.func111 rfl Tryz.ntmps111 rfl ?_
 have hI := Bun.start hF hc
 clear hc
 rw [m_ref04_step] at h
 refine sr (l_box (v := (Value.agg (AType t1))) (cs := (AType t1)) hI gn rfl rfl et rfl ?_)
 clear hI; intro b1 c1 w1 hI
 obtain ⟨c2, hI⟩ := hI.relBox .z
 refine sac ?_
 refine nk (sr (sq (y_fieldAddr rfl et u23 rfl size_3 rfl) ?_))
 refine sq (y_load1 (v := (vi t1.Frac)) rfl et u3 rfl (hI.kblk (l := [vi t1.Frac]) .z rfl).1) ?_
 refine sq (y_conv rfl (by rw [u3]; rfl) u128 et) ?_
 obtain ⟨ho1, h⟩ := chk_some h
 refine sq (y_shl rfl ev_const et ho1) ?_
 refine sa ?_
 refine nk (c_ret ?_)
 obtain rfl := some_inj h
 exact q_ret (vs := [(vi (wi64 (1 * 2 ^ (min (Int.toNat (wu64 t1.Frac)) 64))))]) Tryz.results111 ⟨ev_tmp rfl rfl, trivial⟩ (fq hI trivial)
theorem c_ref04_One (F : NP) (w0 : World) (hF : ∀ k, F k → k < w0.heap.size) (t1 : GType) (hc : AllCl [] F w0) (r : GVal × Int)
  (h : m_ref04_One t1 = some r) :
  Calls Tryz.prog 106 #[(Value.agg (AType t1))] w0 fun e w => e = .returned (Value.tuple #[(Value.agg (AVal r.1)), vi r.2]) ∧ Ext w0 w ∧ AllCl [] F w := by
 refine enterK Tryz.func106 rfl Tryz.ntmps106 rfl ?_
 have hI := Bun.start hF hc
 clear hc
 rw [m_ref04_One] at h
 refine sr (l_box (v := (Value.agg (AType t1))) (cs := (AType t1)) hI gn rfl rfl et rfl ?_)
 clear hI; intro b1 c1 w1 hI
 obtain ⟨c2, hI⟩ := hI.relBox .z
 refine l_alloc (cs := #[vi 0, vi 0]) hI gn rfl rfl zero_36 rfl ?_
 clear hI; intro b2 c3 w2 hI
 refine sac ?_
 refine nk (c_seq (sr (sq (y_loadN (l := (lType t1)) rfl et u23 rfl size_23 (hI.kblk (l := (lType t1)) .z rfl).1) ?_)))
 obtain ⟨r1, hx1, h⟩ := bnd_some h
 refine s_call gn rfl (r_callF (vs := [(Value.agg (AType t1))]) rfl ok_60 ⟨et, trivial⟩) (Calls.mono (c_base_Type (Dj F c3) w2 hI.lt t1 trivial r1 hx1) ?_)
 rintro _ w3 ⟨rfl, hx2, hl1⟩
 refine ⟨_, rfl, ?_⟩
 replace hI := (hI.ext hx2)
 refine sq (y_not rfl et) ?_
 refine nk (cif h et (fun hb h => ?_) (fun hb h => ?_))
 ·refine sr (sq (y_build (vs := []) (cs := #[vi 0, vi 0]) rfl trivial (by kernel_rfl)) ?_)
  refine l_store (new := [vi 0, vi 0]) (cs' := #[vi 0, vi 0]) hI .z gn rfl rfl et et rfl size_36 rfl rfl rfl ?_
  clear hI; intro c4 w4 hI
  refine sac ?_
  refine nk (c_ret ?_)
  obtain rfl := some_inj h
  exact q_ret (vs := [(Value.agg #[vi 0, vi 0]), vi 10]) Tryz.results106 ⟨⟨_, ev_tmp rfl rfl, load_agg (l := [vi 0, vi 0]) u36 rfl size_36 (CellsAt.of_blk (hI.blk .z) rfl)⟩, ⟨ev_tmp rfl rfl, trivial⟩⟩ (fq hI trivial)
 refine c_skip (k_same (sr (sq (y_build (vs := [(0, vi 1), (1, vi 1)]) (cs := #[vi 1, vi 1]) rfl ⟨rfl, ev_const, ⟨rfl, ev_const, trivial⟩⟩ (by kernel_rfl)) ?_)))
 refine l_alloc (cs := #[vi 0, vi 0]) hI gn rfl rfl zero_36 rfl ?_
 clear hI; intro b3 c5 w5 hI
 refine l_store (new := [vi 1, vi 1]) (cs' := #[vi 1, vi 1]) hI .z gn rfl rfl et et rfl size_36 rfl rfl rfl ?_
 clear hI; intro c6 w6 hI
 refine nk (c_join (α := GVal) (fun _ => ⟨22, []⟩) (fun x => [(1, vp b1 0), (2, vp b2 0), (4, vp b3 0)]) (fun x => fun w => ∃ C, Bun noM F w0 C w [MO.box b2 36 #[vi 0, vi 0], MO.box b3 36 (AVal x)] [Cl.blk b1 23 (AType t1)] ∧ m_ref04_One_j1 t1 x = some r) ?_ ?_)
 ·clear h hI; rintro v1 w7 ⟨c7, hI, h⟩
  try dsimp only at hI h
  rw [m_ref04_One_j1] at h
  refine c_sub (e := [(1, vp b1 0), (2, vp b2 0), (4, vp b3 0)]) ⟨rfl, rfl, rfl, trivial⟩ ?_
  refine c_seq (sr (sq (y_loadN (l := (lType t1)) rfl et u23 rfl size_23 (hI.kblk (l := (lType t1)) .z rfl).1) ?_))
  refine sq (y_loadN (l := (lVal v1)) rfl et u36 rfl size_36 (CellsAt.of_blk (hI.blk (.s .z)) rfl)) ?_
  obtain ⟨r2, hx3, h⟩ := bnd_some h
  refine s_call gn rfl (r_callF (vs := [(Value.agg (AType t1)), (Value.agg (AVal v1))]) rfl ok_56 ⟨et, ⟨et, trivial⟩⟩) (Calls.mono (c_base_Val (Dj F c7) w7 hI.lt t1 v1 trivial r2 hx3) ?_)
  rintro _ w8 ⟨rfl, hx4, hl2⟩
  refine ⟨_, rfl, ?_⟩
  replace hI := (hI.ext hx4)
  refine sq (y_not rfl et) ?_
  refine nk (cif h et (fun hb h => ?_) (fun hb h => ?_))
  ·refine sr (sq (y_build (vs := []) (cs := #[vi 0, vi 0]) rfl trivial (by kernel_rfl)) ?_)
   refine l_store (new := [vi 0, vi 0]) (cs' := #[vi 0, vi 0]) hI .z gn rfl rfl et et rfl size_36 rfl rfl rfl ?_
   clear hI; intro c8 w9 hI
   refine sac ?_
   refine nk (c_ret ?_)
   obtain rfl := some_inj h
   exact q_ret (vs := [(Value.agg #[vi 0, vi 0]), vi 3]) Tryz.results106 ⟨⟨_, ev_tmp rfl rfl, load_agg (l := [vi 0, vi 0]) u36 rfl size_36 (CellsAt.of_blk (hI.blk .z) rfl)⟩, ⟨ev_tmp rfl rfl, trivial⟩⟩ (fq hI trivial)
  refine c_skip (k_same (sr (sq (y_loadN (l := (lVal v1)) rfl et u36 rfl size_36 (CellsAt.of_blk (hI.blk (.s .z)) rfl)) ?_)))
  refine l_store (new := (lVal v1)) (cs' := (AVal v1)) hI .z gn rfl rfl et et rfl size_36 rfl rfl rfl ?_
  clear hI; intro c9 w10 hI
  refine sac ?_
  refine nk (c_ret ?_)
  obtain rfl := some_inj h
  exact q_ret (vs := [(Value.agg (AVal v1)), vi 0]) Tryz.results106 ⟨⟨_, ev_tmp rfl rfl, load_agg (l := (lVal v1)) u36 rfl size_36 (CellsAt.of_blk (hI.blk .z) rfl)⟩, ⟨ev_tmp rfl rfl, trivial⟩⟩ (fq hI trivial)
 refine sr (sq (y_fieldAddr rfl et u23 rfl size_3 rfl) ?_)
 refine sq (y_load1 (v := (vi t1.Kind)) rfl et u3 rfl (hI.kblk (l := [vi t1.Kind]) .z rfl).1) ?_
 refine sq (y_eql rfl et ev_const) ?_
 refine nk (cif h et (fun hb h => ?_) (fun hb h => ?_))
 ·refine c_region rfl ?_
  refine sq (y_loadN (l := (lType t1)) rfl et u23 rfl size_23 (hI.kblk (l := (lType t1)) .z rfl).1) ?_
  obtain ⟨r3, hx5, h⟩ := bnd_some h
  refine s_call gn rfl (r_callF (vs := [(Value.agg (AType t1))]) rfl ok_111 ⟨et, trivial⟩) (Calls.mono (c_ref04_step (Dj F c6) w6 hI.lt t1 trivial r3 hx5) ?_)
  rintro _ w11 ⟨rfl, hx6, hl3⟩
  refine ⟨_, rfl, ?_⟩
  replace hI := (hI.ext hx6)
  refine sq (y_fieldAddr rfl et u36 rfl size_2 rfl) ?_
  refine l_store (new := [vi r3]) (cs' := #[vi r3, vi 1]) hI .z gn rfl rfl et et rfl size_2 rfl rfl rfl ?_
  clear hI; intro c10 w12 hI
  refine s_nil ?_
  exact k_join (⟨r3, 1⟩ : GVal) ⟨rfl, rfl, rfl, trivial⟩ ⟨_, hI.arr (.c (.s .z) (.c .z .n)) ⟨.z, trivial⟩, h⟩ rfl
 exact c_skip (k_join (⟨1, 1⟩ : GVal) ⟨rfl, rfl, rfl, trivial⟩ ⟨_, hI.arr (.c (.s .z) (.c .z .n)) ⟨.z, trivial⟩, h⟩ rfl)
theorem c_ref04_Identity (F : NP) (w0 : World) (hF : ∀ k, F k → k < w0.heap.size) (fold1 : Int) (t1 : GType) (hc : AllCl [] F w0) (r : GVal × Bool)
  (h : m_ref04_Identity fold1 t1 = some r) :
  Calls Tryz.prog 78 #[vi fold1, (Value.agg (AType t1))] w0 fun e w => e = .returned (Value.tuple #[(Value.agg (AVal r.1)), vb r.2]) ∧ Ext w0 w ∧ AllCl [] F w := by
 refine enterK Tryz.func78 rfl Tryz.ntmps78 rfl ?_
 have hI := Bun.start hF hc
 clear hc
 rw [m_ref04_Identity] at h
 refine sr (l_box (v := (Value.agg (AType t1))) (cs := (AType t1)) hI gn rfl rfl et rfl ?_)
 clear hI; intro b1 c1 w1 hI
 obtain ⟨c2, hI⟩ := hI.relBox .z
 refine l_alloc (cs := #[vi 0, vi 0]) hI gn rfl rfl zero_36 rfl ?_
 clear hI; intro b2 c3 w2 hI
 refine sac ?_
 refine nk (c_seq (sr (sq (y_loadN (l := (lType t1)) rfl et u23 rfl size_23 (hI.kblk (l := (lType t1)) .z rfl).1) ?_)))
 obtain ⟨r1, hx1, h⟩ := bnd_some h
 refine s_call gn rfl (r_callF (vs := [(Value.agg (AType t1))]) rfl ok_60 ⟨et, trivial⟩) (Calls.mono (c_base_Type (Dj F c3) w2 hI.lt t1 trivial r1 hx1) ?_)
 rintro _ w3 ⟨rfl, hx2, hl1⟩
 refine ⟨_, rfl, ?_⟩
 replace hI := (hI.ext hx2)
 refine sm ?_
 refine s_gval (g_true rfl rfl rfl rfl) rfl (fun hc => y_move rfl et) ?_
 refine s_gval (g_true rfl rfl rfl rfl) rfl (fun hc => y_eql rfl (ev_gv et hc) ev_const) ?_
 refine s_gval (g_true rfl rfl rfl rfl) rfl (fun hc => y_move rfl (ev_gv et hc)) ?_
 refine s_gval (g_false2 rfl rfl rfl rfl) rfl (fun hc => y_move rfl et) ?_
 refine s_gval (g_false2 rfl rfl rfl rfl) rfl (fun hc => y_eql rfl (ev_gv et hc) ev_const) ?_
 refine s_gval (g_true rfl rfl rfl rfl) rfl (fun hc => y_or2 rfl hc et et) ?_
 refine sq (y_and rfl et et) ?_
 refine nk (cif h et (fun hb h => ?_) (fun hb h => ?_))
 ·refine sr (sq (y_loadN (l := (lType t1)) rfl et u23 rfl size_23 (hI.kblk (l := (lType t1)) .z rfl).1) ?_)
  obtain ⟨r2, hx3, h⟩ := bnd_some h
  refine s_call gn rfl (r_callF (vs := [(Value.agg (AType t1))]) rfl ok_105 ⟨et, trivial⟩) (Calls.mono (c_ref04_Zero (Dj F c3) w3 hI.lt t1 trivial r2 hx3) ?_)
  rintro _ w4 ⟨rfl, hx4, hl2⟩
  refine ⟨_, rfl, ?_⟩
  replace hI := (hI.ext hx4)
  refine l_store (new := (lVal r2)) (cs' := (AVal r2)) hI .z gn rfl rfl et et rfl size_36 rfl rfl rfl ?_
  clear hI; intro c4 w5 hI
  refine sac ?_
  refine nk (c_ret ?_)
  obtain rfl := some_inj h
  exact q_ret (vs := [(Value.agg (AVal r2)), vb true]) Tryz.results78 ⟨⟨_, ev_tmp rfl rfl, load_agg (l := (lVal r2)) u36 rfl size_36 (CellsAt.of_blk (hI.blk .z) rfl)⟩, ⟨ev_tmp rfl rfl, trivial⟩⟩ (fq hI trivial)
 refine c_skip (k_same (c_seq (sr (sm ?_))))
 refine sq (y_eql rfl et ev_const) ?_
 refine nk (cif h et (fun hb h => ?_) (fun hb h => ?_))
 ·refine sr (sq (y_loadN (l := (lType t1)) rfl et u23 rfl size_23 (hI.kblk (l := (lType t1)) .z rfl).1) ?_)
  obtain ⟨r3, hx5, h⟩ := bnd_some h
  refine s_call gn rfl (r_callF (vs := [(Value.agg (AType t1))]) rfl ok_106 ⟨et, trivial⟩) (Calls.mono (c_ref04_One (Dj F c3) w3 hI.lt t1 trivial r3 hx5) ?_)
  rintro _ w6 ⟨rfl, hx6, hl3⟩
  refine ⟨_, rfl, ?_⟩
  replace hI := (hI.ext hx6)
  refine sm ?_
  refine sq (y_extract rfl et rfl) ?_
  refine sq (y_extract rfl et rfl) ?_
  refine l_alloc (cs := #[vi 0, vi 0]) hI gn rfl rfl zero_36 rfl ?_
  clear hI; intro b3 c5 w7 hI
  refine l_store (new := (lVal r3.1)) (cs' := (AVal r3.1)) hI .z gn rfl rfl et et rfl size_36 rfl rfl rfl ?_
  clear hI; intro c6 w8 hI
  refine sa ?_
  refine nk (sr (sq (y_loadN (l := (lVal r3.1)) rfl et u36 rfl size_36 (CellsAt.of_blk (hI.blk .z) rfl)) ?_))
  refine sm ?_
  refine sq (y_eql rfl et ev_const) ?_
  refine l_store (new := (lVal r3.1)) (cs' := (AVal r3.1)) hI (.s .z) gn rfl rfl et et rfl size_36 rfl rfl rfl ?_
  clear hI; intro c7 w9 hI
  refine sa ?_
  refine s_nil ?_
  refine k_next (e := [(4, vp b2 0), (5, (vb (decide (r3.2 = 0))))]) ⟨rfl, rfl, trivial⟩ ?_
  refine c_ret ?_
  obtain rfl := some_inj h
  exact q_ret (vs := [(Value.agg (AVal r3.1)), (vb (decide (r3.2 = 0)))]) Tryz.results78 ⟨⟨_, ev_tmp rfl rfl, load_agg (l := (lVal r3.1)) u36 rfl size_36 (CellsAt.of_blk (hI.blk (.s .z)) rfl)⟩, ⟨ev_tmp rfl rfl, trivial⟩⟩ (fq hI trivial)
 refine c_skip (k_same (sr (sq (y_build (vs := []) (cs := #[vi 0, vi 0]) rfl trivial (by kernel_rfl)) ?_)))
 refine l_store (new := [vi 0, vi 0]) (cs' := #[vi 0, vi 0]) hI .z gn rfl rfl et et rfl size_36 rfl rfl rfl ?_
 clear hI; intro c8 w10 hI
 refine sac ?_
 refine nk (c_ret ?_)
 obtain rfl := some_inj h
 exact q_ret (vs := [(Value.agg #[vi 0, vi 0]), vb false]) Tryz.results78 ⟨⟨_, ev_tmp rfl rfl, load_agg (l := [vi 0, vi 0]) u36 rfl size_36 (CellsAt.of_blk (hI.blk .z) rfl)⟩, ⟨ev_tmp rfl rfl, trivial⟩⟩ (fq hI trivial)
theorem c_ref04_Operator (F : NP) (w0 : World) (hF : ∀ k, F k → k < w0.heap.size) (fold1 : Int) (hc : AllCl [] F w0) (r : Int)
  (h : m_ref04_Operator fold1 = some r) :
  Calls Tryz.prog 79 #[vi fold1] w0 fun e w => e = .returned (vi r) ∧ Ext w0 w ∧ AllCl [] F w := by
 refine enterK Tryz.func79 rfl Tryz.ntmps79 rfl ?_
 have hI := Bun.start hF hc
 clear hc
 rw [m_ref04_Operator] at h
 refine sr (sac ?_)
 refine nk (c_seq (sr (sm ?_)))
 refine nk (c_block (sr (sq (y_eql rfl et ev_const) ?_)))
 refine sa ?_
 refine nk (cif h et (fun hb h => ?_) (fun hb h => ?_))
 ·refine sr (sac ?_)
  refine nk (c_ret ?_)
  obtain rfl := some_inj h
  exact q_ret (vs := [vi 6]) Tryz.results79 ⟨ev_tmp rfl rfl, trivial⟩ (fq hI trivial)
 refine sr (sq (y_eql rfl et ev_const) ?_)
 refine sa ?_
 refine nk (cif h et (fun hb h => ?_) (fun hb h => ?_))
 ·refine sr (sac ?_)
  refine nk (c_ret ?_)
  obtain rfl := some_inj h
  exact q_ret (vs := [vi 9]) Tryz.results79 ⟨ev_tmp rfl rfl, trivial⟩ (fq hI trivial)
 refine sr (sq (y_eql rfl et ev_const) ?_)
 refine sa ?_
 refine nk (cif h et (fun hb h => ?_) (fun hb h => ?_))
 ·refine sr (sac ?_)
  refine nk (c_ret ?_)
  obtain rfl := some_inj h
  exact q_ret (vs := [vi 10]) Tryz.results79 ⟨ev_tmp rfl rfl, trivial⟩ (fq hI trivial)
 refine c_skip (k_same (sr (sac ?_)))
 refine nk (c_ret ?_)
 obtain rfl := some_inj h
 exact q_ret (vs := [vi 4]) Tryz.results79 ⟨ev_tmp rfl rfl, trivial⟩ (fq hI trivial)
theorem c_ref04_Valid (F : NP) (w0 : World) (hF : ∀ k, F k → k < w0.heap.size) (t1 : GType) (v1 : GVal) (hc : AllCl [] F w0) (r : Bool)
  (h : m_ref04_Valid t1 v1 = some r) :
  Calls Tryz.prog 107 #[(Value.agg (AType t1)), (Value.agg (AVal v1))] w0 fun e w => e = .returned (vb r) ∧ Ext w0 w ∧ AllCl [] F w := by
 refine enterK Tryz.func107 rfl Tryz.ntmps107 rfl ?_
 have hI := Bun.start hF hc
 clear hc
 rw [m_ref04_Valid] at h
 refine sr (l_box (v := (Value.agg (AType t1))) (cs := (AType t1)) hI gn rfl rfl et rfl ?_)
 clear hI; intro b1 c1 w1 hI
 obtain ⟨c2, hI⟩ := hI.relBox .z
 refine l_box (v := (Value.agg (AVal v1))) (cs := (AVal v1)) hI gn rfl rfl et rfl ?_
 clear hI; intro b2 c3 w2 hI
 obtain ⟨c4, hI⟩ := hI.relBox .z
 refine sac ?_
 refine nk (sr (sq (y_loadN (l := (lType t1)) rfl et u23 rfl size_23 (hI.kblk (l := (lType t1)) (.s .z) rfl).1) ?_))
 obtain ⟨r1, hx1, h⟩ := bnd_some h
 refine s_call gn rfl (r_callF (vs := [(Value.agg (AType t1))]) rfl ok_60 ⟨et, trivial⟩) (Calls.mono (c_base_Type (Dj F c4) w2 hI.lt t1 trivial r1 hx1) ?_)
 rintro _ w3 ⟨rfl, hx2, hl1⟩
 refine ⟨_, rfl, ?_⟩
 replace hI := (hI.ext hx2)
 refine sm ?_
 refine s_gval (g_true rfl rfl rfl rfl) rfl (fun hc => (y_loadN (l := (lType t1)) rfl et u23 rfl size_23 (hI.kblk (l := (lType t1)) (.s .z) rfl).1)) ?_
 refine s_gval (g_true rfl rfl rfl rfl) rfl (fun hc => (y_loadN (l := (lVal v1)) rfl et u36 rfl size_36 (hI.kblk (l := (lVal v1)) .z rfl).1)) ?_
 obtain ⟨r2, hx3, h⟩ := bnd_some h
 replace hx3 := gd_some hx3
 refine s_gcallU (v := (vb r2)) (g_true rfl rfl rfl rfl) rfl (fun hc => (r_callF (vs := [(Value.agg (AType t1)), (Value.agg (AVal v1))]) rfl ok_56 ⟨(ev_gv et hc), ⟨(ev_gv et hc), trivial⟩⟩)) (fun hc => (c_base_Val (Dj F c4) w3 hI.lt t1 v1 trivial r2 (hx3 hc)).mono fun _ _ k => ⟨k.1, k.2.1⟩) ?_
 intro w4 hx4; replace hI := hI.ext hx4
 refine sq (y_and rfl et et) ?_
 refine sa ?_
 refine nk (c_ret ?_)
 obtain rfl := some_inj h
 exact q_ret (vs := [vb (r1 && r2)]) Tryz.results107 ⟨ev_tmp rfl rfl, trivial⟩ (fq hI trivial)
theorem c_ref01_Valid (F : NP) (w0 : World) (hF : ∀ k, F k → k < w0.heap.size) (v1 : GVal) (hc : AllCl [] F w0) (r : Bool)
  (h : m_ref01_Valid v1 = some r) :
  Calls Tryz.prog 113 #[(Value.agg (AVal v1))] w0 fun e w => e = .returned (vb r) ∧ Ext w0 w ∧ AllCl [] F w := by
 refine enterK Tryz.func113 rfl Tryz.ntmps113 rfl ?_
 have hI := Bun.start hF hc
 clear hc
 rw [m_ref01_Valid] at h
 refine sr (l_box (v := (Value.agg (AVal v1))) (cs := (AVal v1)) hI gn rfl rfl et rfl ?_)
 clear hI; intro b1 c1 w1 hI
 obtain ⟨c2, hI⟩ := hI.relBox .z
 refine sac ?_
 refine nk (sr (sq (y_build (vs := [(0, vi 1)]) (cs := #[vi 1, vi 0, vi 0, vi 0, vi 0]) rfl ⟨rfl, ev_const, trivial⟩ (by kernel_rfl)) ?_))
 refine sq (y_loadN (l := (lVal v1)) rfl et u36 rfl size_36 (hI.kblk (l := (lVal v1)) .z rfl).1) ?_
 obtain ⟨r1, hx1, h⟩ := bnd_some h
 refine s_call gn rfl (r_callF (vs := [(Value.agg #[vi 1, vi 0, vi 0, vi 0, vi 0]), (Value.agg (AVal v1))]) rfl ok_56 ⟨et, ⟨et, trivial⟩⟩) (Calls.mono (c_base_Val (Dj F c2) w1 hI.lt (⟨1, 0, 0, 0, 0⟩ : GType) v1 trivial r1 hx1) ?_)
 rintro _ w2 ⟨rfl, hx2, hl1⟩
 refine ⟨_, rfl, ?_⟩
 replace hI := (hI.ext hx2)
 refine sa ?_
 refine nk (c_ret ?_)
 obtain rfl := some_inj h
 exact q_ret (vs := [vb r1]) Tryz.results113 ⟨ev_tmp rfl rfl, trivial⟩ (fq hI trivial)
theorem c_ref01_order (F : NP) (w0 : World) (hF : ∀ k, F k → k < w0.heap.size) (a1 : Int) (b1 : Int) (hc : AllCl [] F w0) (r : Int)
  (h : m_ref01_order a1 b1 = some r) :
  Calls Tryz.prog 135 #[vi a1, vi b1] w0 fun e w => e = .returned (vi r) ∧ Ext w0 w ∧ AllCl [] F w := by
 refine enterK Tryz.func135 rfl Tryz.ntmps135 rfl ?_
 have hI := Bun.start hF hc
 clear hc
 rw [m_ref01_order] at h
 refine sr (sac ?_)
 refine nk (c_seq (sr (sm ?_)))
 refine sm ?_
 refine sq (y_lss rfl et et) ?_
 refine nk (cif h et (fun hb h => ?_) (fun hb h => ?_))
 ·refine sr (sac ?_)
  refine nk (c_ret ?_)
  obtain rfl := some_inj h
  exact q_ret (vs := [vi (-1)]) Tryz.results135 ⟨ev_tmp rfl rfl, trivial⟩ (fq hI trivial)
 refine c_skip (k_same (c_seq (sr (sm ?_))))
 refine sm ?_
 refine sq (y_gtr rfl et et) ?_
 refine nk (cif h et (fun hb h => ?_) (fun hb h => ?_))
 ·refine sr (sac ?_)
  refine nk (c_ret ?_)
  obtain rfl := some_inj h
  exact q_ret (vs := [vi 1]) Tryz.results135 ⟨ev_tmp rfl rfl, trivial⟩ (fq hI trivial)
 refine c_skip (k_same (sr (sac ?_)))
 refine nk (c_ret ?_)
 obtain rfl := some_inj h
 exact q_ret (vs := [vi 0]) Tryz.results135 ⟨ev_tmp rfl rfl, trivial⟩ (fq hI trivial)
theorem c_ref01_Compare (F : NP) (w0 : World) (hF : ∀ k, F k → k < w0.heap.size) (a1 : GVal) (b1 : GVal) (hc : AllCl [] F w0) (r : Int)
  (h : m_ref01_Compare a1 b1 = some r) :
  Calls Tryz.prog 108 #[(Value.agg (AVal a1)), (Value.agg (AVal b1))] w0 fun e w => e = .returned (vi r) ∧ Ext w0 w ∧ AllCl [] F w := by
 refine enterK Tryz.func108 rfl Tryz.ntmps108 rfl ?_
 have hI := Bun.start hF hc
 clear hc
 rw [m_ref01_Compare] at h
 refine sr (l_box (v := (Value.agg (AVal a1))) (cs := (AVal a1)) hI gn rfl rfl et rfl ?_)
 clear hI; intro b2 c1 w1 hI
 obtain ⟨c2, hI⟩ := hI.relBox .z
 refine l_box (v := (Value.agg (AVal b1))) (cs := (AVal b1)) hI gn rfl rfl et rfl ?_
 clear hI; intro b3 c3 w2 hI
 obtain ⟨c4, hI⟩ := hI.relBox .z
 refine sac ?_
 refine nk (c_seq (sr (sq (y_loadN (l := (lVal a1)) rfl et u36 rfl size_36 (hI.kblk (l := (lVal a1)) (.s .z) rfl).1) ?_)))
 obtain ⟨r1, hx1, h⟩ := bnd_some h
 refine s_call gn rfl (r_callF (vs := [(Value.agg (AVal a1))]) rfl ok_113 ⟨et, trivial⟩) (Calls.mono (c_ref01_Valid (Dj F c4) w2 hI.lt a1 trivial r1 hx1) ?_)
 rintro _ w3 ⟨rfl, hx2, hl1⟩
 refine ⟨_, rfl, ?_⟩
 replace hI := (hI.ext hx2)
 refine sm ?_
 refine s_gval (g_true rfl rfl rfl rfl) rfl (fun hc => (y_loadN (l := (lVal b1)) rfl et u36 rfl size_36 (hI.kblk (l := (lVal b1)) .z rfl).1)) ?_
 obtain ⟨r2, hx3, h⟩ := bnd_some h
 replace hx3 := gd_some hx3
 refine s_gcallU (v := (vb r2)) (g_true rfl rfl rfl rfl) rfl (fun hc => (r_callF (vs := [(Value.agg (AVal b1))]) rfl ok_113 ⟨(ev_gv et hc), trivial⟩)) (fun hc => (c_ref01_Valid (Dj F c4) w3 hI.lt b1 trivial r2 (hx3 hc)).mono fun _ _ k => ⟨k.1, k.2.1⟩) ?_
 intro w4 hx4; replace hI := hI.ext hx4
 refine sq (y_and rfl et et) ?_
 refine nk (cif h et (fun hb h => ?_) (fun hb h => ?_))
 ·refine sr (sq (y_fieldAddr rfl et u36 rfl size_2 rfl) ?_)
  refine sq (y_load1 (v := (vi a1.N)) rfl et u2 rfl (hI.kblk (l := [vi a1.N]) (.s .z) rfl).1) ?_
  refine sq (y_fieldAddr rfl et u36 rfl size_2 rfl) ?_
  refine sq (y_load1 (v := (vi b1.D)) rfl et u2 rfl (hI.kblk (l := [vi b1.D]) .z rfl).1) ?_
  refine sq (y_mul rfl et et) ?_
  refine sq (y_fieldAddr rfl et u36 rfl size_2 rfl) ?_
  refine sq (y_load1 (v := (vi b1.N)) rfl et u2 rfl (hI.kblk (l := [vi b1.N]) .z rfl).1) ?_
  refine sq (y_fieldAddr rfl et u36 rfl size_2 rfl) ?_
  refine sq (y_load1 (v := (vi a1.D)) rfl et u2 rfl (hI.kblk (l := [vi a1.D]) (.s .z) rfl).1) ?_
  refine sq (y_mul rfl et et) ?_
  obtain ⟨r3, hx5, h⟩ := bnd_some h
  refine s_call gn rfl (r_callF (vs := [(vi (wi64 (a1.N * b1.D))), (vi (wi64 (b1.N * a1.D)))]) rfl ok_135 ⟨et, ⟨et, trivial⟩⟩) (Calls.mono (c_ref01_order (Dj F c4) w4 hI.lt (wi64 (a1.N * b1.D)) (wi64 (b1.N * a1.D)) trivial r3 hx5) ?_)
  rintro _ w5 ⟨rfl, hx6, hl3⟩
  refine ⟨_, rfl, ?_⟩
  replace hI := (hI.ext hx6)
  refine sa ?_
  refine nk (c_ret ?_)
  obtain rfl := some_inj h
  exact q_ret (vs := [vi r3]) Tryz.results108 ⟨ev_tmp rfl rfl, trivial⟩ (fq hI trivial)
 refine c_skip (k_same (c_seq (sr (sq (y_fieldAddr rfl et u36 rfl size_2 rfl) ?_))))
 refine sq (y_load1 (v := (vi a1.N)) rfl et u2 rfl (hI.kblk (l := [vi a1.N]) (.s .z) rfl).1) ?_
 refine sq (y_fieldAddr rfl et u36 rfl size_2 rfl) ?_
 refine sq (y_load1 (v := (vi b1.N)) rfl et u2 rfl (hI.kblk (l := [vi b1.N]) .z rfl).1) ?_
 refine sq (y_neq rfl et et) ?_
 refine nk (cif h et (fun hb h => ?_) (fun hb h => ?_))
 ·refine sr (sq (y_fieldAddr rfl et u36 rfl size_2 rfl) ?_)
  refine sq (y_load1 (v := (vi a1.N)) rfl et u2 rfl (hI.kblk (l := [vi a1.N]) (.s .z) rfl).1) ?_
  refine sq (y_fieldAddr rfl et u36 rfl size_2 rfl) ?_
  refine sq (y_load1 (v := (vi b1.N)) rfl et u2 rfl (hI.kblk (l := [vi b1.N]) .z rfl).1) ?_
  obtain ⟨r4, hx7, h⟩ := bnd_some h
  refine s_call gn rfl (r_callF (vs := [vi a1.N, vi b1.N]) rfl ok_135 ⟨et, ⟨et, trivial⟩⟩) (Calls.mono (c_ref01_order (Dj F c4) w4 hI.lt a1.N b1.N trivial r4 hx7) ?_)
  rintro _ w6 ⟨rfl, hx8, hl4⟩
  refine ⟨_, rfl, ?_⟩
  replace hI := (hI.ext hx8)
  refine sa ?_
  refine nk (c_ret ?_)
  obtain rfl := some_inj h
  exact q_ret (vs := [vi r4]) Tryz.results108 ⟨ev_tmp rfl rfl, trivial⟩ (fq hI trivial)
 refine c_skip (k_same (sr (sq (y_fieldAddr rfl et u36 rfl size_2 rfl) ?_)))
 refine sq (y_load1 (v := (vi a1.D)) rfl et u2 rfl (hI.kblk (l := [vi a1.D]) (.s .z) rfl).1) ?_
 refine sq (y_fieldAddr rfl et u36 rfl size_2 rfl) ?_
 refine sq (y_load1 (v := (vi b1.D)) rfl et u2 rfl (hI.kblk (l := [vi b1.D]) .z rfl).1) ?_
 obtain ⟨r5, hx9, h⟩ := bnd_some h
 refine s_call gn rfl (r_callF (vs := [vi a1.D, vi b1.D]) rfl ok_135 ⟨et, ⟨et, trivial⟩⟩) (Calls.mono (c_ref01_order (Dj F c4) w4 hI.lt a1.D b1.D trivial r5 hx9) ?_)
 rintro _ w7 ⟨rfl, hx10, hl5⟩
 refine ⟨_, rfl, ?_⟩
 replace hI := (hI.ext hx10)
 refine sa ?_
 refine nk (c_ret ?_)
 obtain rfl := some_inj h
 exact q_ret (vs := [vi r5]) Tryz.results108 ⟨ev_tmp rfl rfl, trivial⟩ (fq hI trivial)
theorem c_ref04_Compare (F : NP) (w0 : World) (hF : ∀ k, F k → k < w0.heap.size) (t1 : GType) (a1 : GVal) (b1 : GVal) (hc : AllCl [] F w0) (r : Int)
  (h : m_ref04_Compare t1 a1 b1 = some r) :
  Calls Tryz.prog 80 #[(Value.agg (AType t1)), (Value.agg (AVal a1)), (Value.agg (AVal b1))] w0 fun e w => e = .returned (vi r) ∧ Ext w0 w ∧ AllCl [] F w := by
 refine enterK Tryz.func80 rfl Tryz.ntmps80 rfl ?_
 have hI := Bun.start hF hc
 clear hc
 rw [m_ref04_Compare] at h
 refine sr (l_box (v := (Value.agg (AType t1))) (cs := (AType t1)) hI gn rfl rfl et rfl ?_)
 clear hI; intro b2 c1 w1 hI
 obtain ⟨c2, hI⟩ := hI.relBox .z
 refine l_box (v := (Value.agg (AVal a1))) (cs := (AVal a1)) hI gn rfl rfl et rfl ?_
 clear hI; intro b3 c3 w2 hI
 obtain ⟨c4, hI⟩ := hI.relBox .z
 refine l_box (v := (Value.agg (AVal b1))) (cs := (AVal b1)) hI gn rfl rfl et rfl ?_
 clear hI; intro b4 c5 w3 hI
 obtain ⟨c6, hI⟩ := hI.relBox .z
 refine sac ?_
 refine nk (c_seq (sr (sq (y_loadN (l := (lType t1)) rfl et u23 rfl size_23 (hI.kblk (l := (lType t1)) (.s (.s .z)) rfl).1) ?_)))
 refine sq (y_loadN (l := (lVal a1)) rfl et u36 rfl size_36 (hI.kblk (l := (lVal a1)) (.s .z) rfl).1) ?_
 obtain ⟨r1, hx1, h⟩ := bnd_some h
 refine s_call gn rfl (r_callF (vs := [(Value.agg (AType t1)), (Value.agg (AVal a1))]) rfl ok_107 ⟨et, ⟨et, trivial⟩⟩) (Calls.mono (c_ref04_Valid (Dj F c6) w3 hI.lt t1 a1 trivial r1 hx1) ?_)
 rintro _ w4 ⟨rfl, hx2, hl1⟩
 refine ⟨_, rfl, ?_⟩
 replace hI := (hI.ext hx2)
 refine sq (y_not rfl et) ?_
 refine sm ?_
 refine s_gval (g_false rfl rfl rfl rfl) rfl (fun hc => (y_loadN (l := (lType t1)) rfl et u23 rfl size_23 (hI.kblk (l := (lType t1)) (.s (.s .z)) rfl).1)) ?_
 refine s_gval (g_false rfl rfl rfl rfl) rfl (fun hc => (y_loadN (l := (lVal b1)) rfl et u36 rfl size_36 (hI.kblk (l := (lVal b1)) .z rfl).1)) ?_
 obtain ⟨r2, hx3, h⟩ := bnd_some h
 replace hx3 := gd_some hx3
 refine s_gcallU (v := (vb r2)) (g_false rfl rfl rfl rfl) rfl (fun hc => (r_callF (vs := [(Value.agg (AType t1)), (Value.agg (AVal b1))]) rfl ok_107 ⟨(ev_gv et hc), ⟨(ev_gv et hc), trivial⟩⟩)) (fun hc => (c_ref04_Valid (Dj F c6) w4 hI.lt t1 b1 trivial r2 (hx3 hc)).mono fun _ _ k => ⟨k.1, k.2.1⟩) ?_
 intro w5 hx4; replace hI := hI.ext hx4
 refine s_gval (g_false rfl rfl rfl rfl) rfl (fun hc => y_not rfl (ev_gv et hc)) ?_
 refine sq (y_or rfl et et) ?_
 refine nk (cif h et (fun hb h => ?_) (fun hb h => ?_))
 ·refine sr (sac ?_)
  refine nk (c_ret ?_)
  obtain rfl := some_inj h
  exact q_ret (vs := [vi 0]) Tryz.results80 ⟨ev_tmp rfl rfl, trivial⟩ (fq hI trivial)
 refine c_skip (k_same (sr (sq (y_loadN (l := (lVal a1)) rfl et u36 rfl size_36 (hI.kblk (l := (lVal a1)) (.s .z) rfl).1) ?_)))
 refine sq (y_loadN (l := (lVal b1)) rfl et u36 rfl size_36 (hI.kblk (l := (lVal b1)) .z rfl).1) ?_
 obtain ⟨r3, hx5, h⟩ := bnd_some h
 refine s_call gn rfl (r_callF (vs := [(Value.agg (AVal a1)), (Value.agg (AVal b1))]) rfl ok_108 ⟨et, ⟨et, trivial⟩⟩) (Calls.mono (c_ref01_Compare (Dj F c6) w5 hI.lt a1 b1 trivial r3 hx5) ?_)
 rintro _ w6 ⟨rfl, hx6, hl3⟩
 refine ⟨_, rfl, ?_⟩
 replace hI := (hI.ext hx6)
 refine sa ?_
 refine nk (c_ret ?_)
 obtain rfl := some_inj h
 exact q_ret (vs := [vi r3]) Tryz.results80 ⟨ev_tmp rfl rfl, trivial⟩ (fq hI trivial)
theorem c_ref04_floor (F : NP) (w0 : World) (hF : ∀ k, F k → k < w0.heap.size) (n1 : Int) (d1 : Int) (hc : AllCl [] F w0) (r : Int)
  (h : m_ref04_floor n1 d1 = some r) :
  Calls Tryz.prog 112 #[vi n1, vi d1] w0 fun e w => e = .returned (vi r) ∧ Ext w0 w ∧ AllCl [] F w := by
 refine enterK Tryz.func112 rfl Tryz.ntmps112 rfl ?_
 have hI := Bun.start hF hc
 clear hc
 rw [m_ref04_floor] at h
 refine sr (sac ?_)
 refine nk (sr (sm ?_))
 refine sm ?_
 obtain ⟨ho1, h⟩ := chk_some h
 refine sq (y_quo rfl et et ho1) ?_
 refine sa ?_
 refine nk (c_seq (sr (sm ?_)))
 refine sm ?_
 refine sq (y_mul rfl et et) ?_
 refine sm ?_
 refine sq (y_gtr rfl et et) ?_
 refine nk (cif h et (fun hb h => ?_) (fun hb h => ?_))
 ·refine sr (sm ?_)
  refine sq (y_sub rfl et ev_const) ?_
  refine sa ?_
  refine nk (c_ret ?_)
  obtain rfl := some_inj h
  exact q_ret (vs := [(vi (wi64 ((wi64 (Int.tdiv n1 d1)) - 1)))]) Tryz.results112 ⟨ev_tmp rfl rfl, trivial⟩ (fq hI trivial)
 refine c_skip (k_same (sr (sm ?_)))
 refine sa ?_
 refine nk (c_ret ?_)
 obtain rfl := some_inj h
 exact q_ret (vs := [(vi (wi64 (Int.tdiv n1 d1)))]) Tryz.results112 ⟨ev_tmp rfl rfl, trivial⟩ (fq hI trivial)
theorem c_ref04_fit (F : NP) (w0 : World) (hF : ∀ k, F k → k < w0.heap.size) (t1 : GType) (n1 : Int) (hc : AllCl [] F w0) (r : GVal)
  (h : m_ref04_fit t1 n1 = some r) :
  Calls Tryz.prog 109 #[(Value.agg (AType t1)), vi n1] w0 fun e w => e = .returned (Value.agg (AVal r)) ∧ Ext w0 w ∧ AllCl [] F w := by
 refine enterK Tryz.func109 rfl Tryz.ntmps109 rfl ?_
 have hI := Bun.start hF hc
 clear hc
 rw [m_ref04_fit] at h
 refine sr (l_box (v := (Value.agg (AType t1))) (cs := (AType t1)) hI gn rfl rfl et rfl ?_)
 clear hI; intro b1 c1 w1 hI
 obtain ⟨c2, hI⟩ := hI.relBox .z
 refine l_alloc (cs := #[vi 0, vi 0]) hI gn rfl rfl zero_36 rfl ?_
 clear hI; intro b2 c3 w2 hI
 refine nk (sr (sq (y_fieldAddr rfl et u23 rfl size_3 rfl) ?_))
 refine sq (y_load1 (v := (vi t1.Bits)) rfl et u3 rfl (hI.kblk (l := [vi t1.Bits]) .z rfl).1) ?_
 refine sq (y_sub rfl et ev_const) ?_
 refine sq (y_conv rfl (by rw [u3]; rfl) u128 et) ?_
 obtain ⟨ho1, h⟩ := chk_some h
 refine sq (y_shl rfl ev_const et ho1) ?_
 obtain ⟨half1, hx1, h⟩ := bnd_some h
 refine sq (binU (y_assign rfl et) (congrArg (Value.int .i64) (some_inj hx1))) ?_
 refine nk (c_join (α := Int) (fun _ => ⟨33, []⟩) (fun x => [(1, vi x), (4, vp b2 0), (5, vi half1)]) (fun x => fun w => ∃ C, Bun noM F w0 C w [MO.box b2 36 #[vi 0, vi 0]] [] ∧ m_ref04_fit_j1 half1 x = some r) ?_ ?_)
 ·clear h hI; rintro n2 w3 ⟨c4, hI, h⟩
  try dsimp only at hI h
  rw [m_ref04_fit_j1] at h
  refine c_sub (e := [(1, vi n2), (4, vp b2 0), (5, vi half1)]) ⟨rfl, rfl, rfl, trivial⟩ ?_
  refine sr (sm ?_)
  refine sq (y_neg rfl et) ?_
  refine sm ?_
  refine sq (y_sub rfl et ev_const) ?_
  refine sm ?_
  refine sq (y_min rfl et et) ?_
  refine sq (y_max rfl et et) ?_
  refine sq (y_build (vs := [(0, (vi (max (wi64 (-half1)) (min (wi64 (half1 - 1)) n2)))), (1, vi 1)]) (cs := #[(vi (max (wi64 (-half1)) (min (wi64 (half1 - 1)) n2))), vi 1]) rfl ⟨rfl, et, ⟨rfl, ev_const, trivial⟩⟩ (by kernel_rfl)) ?_
  refine l_store (new := [(vi (max (wi64 (-half1)) (min (wi64 (half1 - 1)) n2))), vi 1]) (cs' := #[(vi (max (wi64 (-half1)) (min (wi64 (half1 - 1)) n2))), vi 1]) hI .z gn rfl rfl et et rfl size_36 rfl rfl rfl ?_
  clear hI; intro c5 w4 hI
  refine nk (c_ret ?_)
  obtain rfl := some_inj h
  exact q_ret (vs := [(Value.agg #[(vi (max (wi64 (-half1)) (min (wi64 (half1 - 1)) n2))), vi 1])]) Tryz.results109 ⟨⟨_, ev_tmp rfl rfl, load_agg (l := [(vi (max (wi64 (-half1)) (min (wi64 (half1 - 1)) n2))), vi 1]) u36 rfl size_36 (CellsAt.of_blk (hI.blk .z) rfl)⟩, trivial⟩ (fq hI trivial)
 refine sr (sq (y_fieldAddr rfl et u23 rfl size_3 rfl) ?_)
 refine sq (y_load1 (v := (vi t1.Over)) rfl et u3 rfl (hI.kblk (l := [vi t1.Over]) .z rfl).1) ?_
 refine sq (y_eql rfl et ev_const) ?_
 refine nk (cif h et (fun hb h => ?_) (fun hb h => ?_))
 ·refine c_region rfl ?_
  refine sm ?_
  refine sm ?_
  refine sm ?_
  refine sq (y_add rfl et et) ?_
  refine sm ?_
  refine sq (y_mul rfl ev_const et) ?_
  obtain ⟨r1, hx2, h⟩ := bnd_some h
  refine s_call gn rfl (r_callF (vs := [(vi (wi64 (n1 + half1))), (vi (wi64 (2 * half1)))]) rfl ok_112 ⟨et, ⟨et, trivial⟩⟩) (Calls.mono (c_ref04_floor (Dj F c3) w2 hI.lt (wi64 (n1 + half1)) (wi64 (2 * half1)) trivial r1 hx2) ?_)
  rintro _ w5 ⟨rfl, hx3, hl1⟩
  refine ⟨_, rfl, ?_⟩
  replace hI := (hI.ext hx3)
  refine sq (y_mul rfl et ev_const) ?_
  refine sm ?_
  refine sq (y_mul rfl et et) ?_
  refine sq (y_sub rfl et et) ?_
  obtain ⟨n3, hx4, h⟩ := bnd_some h
  refine sq (binU (y_assign rfl et) (congrArg (Value.int .i64) (some_inj hx4))) ?_
  refine s_nil ?_
  exact k_join n3 ⟨rfl, rfl, rfl, trivial⟩ ⟨_, hI.arr (.c .z .n) trivial, h⟩ rfl
 exact c_skip (k_join n1 ⟨rfl, rfl, rfl, trivial⟩ ⟨_, hI.arr (.c .z .n) trivial, h⟩ rfl)
theorem c_ref04_round (F : NP) (w0 : World) (hF : ∀ k, F k → k < w0.heap.size) (n1 : Int) (d1 : Int) (how1 : Int) (hc : AllCl [] F w0) (r : Int)
  (h : m_ref04_round n1 d1 how1 = some r) :
  Calls Tryz.prog 110 #[vi n1, vi d1, vi how1] w0 fun e w => e = .returned (vi r) ∧ Ext w0 w ∧ AllCl [] F w := by
 refine enterK Tryz.func110 rfl Tryz.ntmps110 rfl ?_
 have hI := Bun.start hF hc
 clear hc
 rw [m_ref04_round] at h
 refine sr (sac ?_)
 refine nk (sr (sm ?_))
 refine sm ?_
 obtain ⟨r1, hx1, h⟩ := bnd_some h
 refine s_call gn rfl (r_callF (vs := [vi n1, vi d1]) rfl ok_112 ⟨et, ⟨et, trivial⟩⟩) (Calls.mono (c_ref04_floor (Dj F noM) w0 hI.lt n1 d1 trivial r1 hx1) ?_)
 rintro _ w1 ⟨rfl, hx2, hl1⟩
 refine ⟨_, rfl, ?_⟩
 replace hI := (hI.ext hx2)
 refine sa ?_
 refine nk (sr (sm ?_))
 refine sm ?_
 refine sm ?_
 refine sq (y_mul rfl et et) ?_
 refine sq (y_sub rfl et et) ?_
 obtain ⟨rest1, hx3, h⟩ := bnd_some h
 refine sq (binU (y_assign rfl et) (congrArg (Value.int .i64) (some_inj hx3))) ?_
 refine nk (c_seq (sr (sm ?_)))
 refine sq (y_eql rfl et ev_const) ?_
 refine sm ?_
 refine s_gval (g_false rfl rfl rfl rfl) rfl (fun hc => y_move rfl et) ?_
 refine s_gval (g_false rfl rfl rfl rfl) rfl (fun hc => y_eql rfl (ev_gv et hc) ev_const) ?_
 refine sq (y_or rfl et et) ?_
 refine nk (cif h et (fun hb h => ?_) (fun hb h => ?_))
 ·refine sr (sm ?_)
  refine sa ?_
  refine nk (c_ret ?_)
  obtain rfl := some_inj h
  exact q_ret (vs := [vi r1]) Tryz.results110 ⟨ev_tmp rfl rfl, trivial⟩ (fq hI trivial)
 refine c_skip (k_same (c_seq (sr (sm ?_))))
 refine sq (y_eql rfl et ev_const) ?_
 refine nk (cif h et (fun hb h => ?_) (fun hb h => ?_))
 ·refine sr (sm ?_)
  refine sq (y_add rfl et ev_const) ?_
  refine sa ?_
  refine nk (c_ret ?_)
  obtain rfl := some_inj h
  exact q_ret (vs := [(vi (wi64 (r1 + 1)))]) Tryz.results110 ⟨ev_tmp rfl rfl, trivial⟩ (fq hI trivial)
 refine c_skip (k_same (c_seq (sr (sm ?_))))
 refine sq (y_eql rfl et ev_const) ?_
 refine nk (cif h et (fun hb h => ?_) (fun hb h => ?_))
 ·refine c_seq (sr (sm ?_))
  refine sq (y_lss rfl et ev_const) ?_
  refine s_nil ?_
  refine k_next (e := [(7, vi r1), (31, (vb (decide (n1 < 0))))]) ⟨rfl, rfl, trivial⟩ ?_
  refine cif h et (fun hb h => ?_) (fun hb h => ?_)
  ·refine sr (sm ?_)
   refine sq (y_add rfl et ev_const) ?_
   refine sa ?_
   refine nk (c_ret ?_)
   obtain rfl := some_inj h
   exact q_ret (vs := [(vi (wi64 (r1 + 1)))]) Tryz.results110 ⟨ev_tmp rfl rfl, trivial⟩ (fq hI trivial)
  refine c_skip (k_same (sr (sm ?_)))
  refine sa ?_
  refine nk (c_ret ?_)
  obtain rfl := some_inj h
  exact q_ret (vs := [vi r1]) Tryz.results110 ⟨ev_tmp rfl rfl, trivial⟩ (fq hI trivial)
 refine c_skip (k_same (c_seq (sr (sm ?_))))
 refine sm ?_
 refine sm ?_
 refine sq (y_sub rfl et et) ?_
 refine sq (y_gtr rfl et et) ?_
 refine sm ?_
 refine s_gval (g_false rfl rfl rfl rfl) rfl (fun hc => y_move rfl et) ?_
 refine s_gval (g_false rfl rfl rfl rfl) rfl (fun hc => y_move rfl et) ?_
 refine s_gval (g_false rfl rfl rfl rfl) rfl (fun hc => y_move rfl et) ?_
 refine s_gval (g_false rfl rfl rfl rfl) rfl (fun hc => y_sub rfl (ev_gv et hc) (ev_gv et hc)) ?_
 refine s_gval (g_false rfl rfl rfl rfl) rfl (fun hc => y_eql rfl (ev_gv et hc) (ev_gv et hc)) ?_
 refine s_gval (g_false rfl rfl rfl rfl) rfl (fun hc => y_move rfl (ev_gv et hc)) ?_
 refine s_gval (g_true2 rfl rfl rfl rfl) rfl (fun hc => y_move rfl et) ?_
 refine s_gval (g_true2 rfl rfl rfl rfl) rfl (fun hc => y_rem rfl (ev_gv et hc) ev_const (by decide)) ?_
 refine s_gval (g_true2 rfl rfl rfl rfl) rfl (fun hc => y_neq rfl (ev_gv et hc) ev_const) ?_
 refine s_gval (g_false rfl rfl rfl rfl) rfl (fun hc => y_and2 rfl hc et et) ?_
 refine sq (y_or rfl et et) ?_
 refine s_nil ?_
 refine k_next (e := [(7, vi r1), (51, (vb ((decide (wi64 (d1 - rest1) < rest1)) || ((decide (rest1 = wi64 (d1 - rest1))) && (!decide (Int.tmod r1 2 = 0))))))]) ⟨rfl, rfl, trivial⟩ ?_
 refine cif h et (fun hb h => ?_) (fun hb h => ?_)
 ·refine sr (sm ?_)
  refine sq (y_add rfl et ev_const) ?_
  refine sa ?_
  refine nk (c_ret ?_)
  obtain rfl := some_inj h
  exact q_ret (vs := [(vi (wi64 (r1 + 1)))]) Tryz.results110 ⟨ev_tmp rfl rfl, trivial⟩ (fq hI trivial)
 refine c_skip (k_same (sr (sm ?_)))
 refine sa ?_
 refine nk (c_ret ?_)
 obtain rfl := some_inj h
 exact q_ret (vs := [vi r1]) Tryz.results110 ⟨ev_tmp rfl rfl, trivial⟩ (fq hI trivial)
theorem c_ref04_fix (F : NP) (w0 : World) (hF : ∀ k, F k → k < w0.heap.size) (op1 : Int) (t1 : GType) (a1 : Int) (b1 : Int) (hc : AllCl [] F w0) (r : GVal × Int)
  (h : m_ref04_fix op1 t1 a1 b1 = some r) :
  Calls Tryz.prog 81 #[vi op1, (Value.agg (AType t1)), vi a1, vi b1] w0 fun e w => e = .returned (Value.tuple #[(Value.agg (AVal r.1)), vi r.2]) ∧ Ext w0 w ∧ AllCl [] F w := by
 refine enterK Tryz.func81 rfl Tryz.ntmps81 rfl ?_
 have hI := Bun.start hF hc
 clear hc
 rw [m_ref04_fix] at h
 refine sr (l_box (v := (Value.agg (AType t1))) (cs := (AType t1)) hI gn rfl rfl et rfl ?_)
 clear hI; intro b2 c1 w1 hI
 obtain ⟨c2, hI⟩ := hI.relBox .z
 refine l_alloc (cs := #[vi 0, vi 0]) hI gn rfl rfl zero_36 rfl ?_
 clear hI; intro b3 c3 w2 hI
 refine sac ?_
 refine nk (c_seq (sr (sm ?_)))
 refine nk (c_block (sr (sq (y_eql rfl et ev_const) ?_)))
 refine sa ?_
 refine nk (cif h et (fun hb h => ?_) (fun hb h => ?_))
 ·refine sr (sq (y_loadN (l := (lType t1)) rfl et u23 rfl size_23 (hI.kblk (l := (lType t1)) .z rfl).1) ?_)
  refine sm ?_
  refine sm ?_
  refine sq (y_add rfl et et) ?_
  obtain ⟨r1, hx1, h⟩ := bnd_some h
  refine s_call gn rfl (r_callF (vs := [(Value.agg (AType t1)), (vi (wi64 (a1 + b1)))]) rfl ok_109 ⟨et, ⟨et, trivial⟩⟩) (Calls.mono (c_ref04_fit (Dj F c3) w2 hI.lt t1 (wi64 (a1 + b1)) trivial r1 hx1) ?_)
  rintro _ w3 ⟨rfl, hx2, hl1⟩
  refine ⟨_, rfl, ?_⟩
  replace hI := (hI.ext hx2)
  refine l_store (new := (lVal r1)) (cs' := (AVal r1)) hI .z gn rfl rfl et et rfl size_36 rfl rfl rfl ?_
  clear hI; intro c4 w4 hI
  refine sac ?_
  refine nk (c_ret ?_)
  obtain rfl := some_inj h
  exact q_ret (vs := [(Value.agg (AVal r1)), vi 0]) Tryz.results81 ⟨⟨_, ev_tmp rfl rfl, load_agg (l := (lVal r1)) u36 rfl size_36 (CellsAt.of_blk (hI.blk .z) rfl)⟩, ⟨ev_tmp rfl rfl, trivial⟩⟩ (fq hI trivial)
 refine sr (sq (y_eql rfl et ev_const) ?_)
 refine sa ?_
 refine nk (cif h et (fun hb h => ?_) (fun hb h => ?_))
 ·refine sr (sq (y_loadN (l := (lType t1)) rfl et u23 rfl size_23 (hI.kblk (l := (lType t1)) .z rfl).1) ?_)
  refine sm ?_
  refine sm ?_
  refine sq (y_sub rfl et et) ?_
  obtain ⟨r2, hx3, h⟩ := bnd_some h
  refine s_call gn rfl (r_callF (vs := [(Value.agg (AType t1)), (vi (wi64 (a1 - b1)))]) rfl ok_109 ⟨et, ⟨et, trivial⟩⟩) (Calls.mono (c_ref04_fit (Dj F c3) w2 hI.lt t1 (wi64 (a1 - b1)) trivial r2 hx3) ?_)
  rintro _ w5 ⟨rfl, hx4, hl2⟩
  refine ⟨_, rfl, ?_⟩
  replace hI := (hI.ext hx4)
  refine l_store (new := (lVal r2)) (cs' := (AVal r2)) hI .z gn rfl rfl et et rfl size_36 rfl rfl rfl ?_
  clear hI; intro c5 w6 hI
  refine sac ?_
  refine nk (c_ret ?_)
  obtain rfl := some_inj h
  exact q_ret (vs := [(Value.agg (AVal r2)), vi 0]) Tryz.results81 ⟨⟨_, ev_tmp rfl rfl, load_agg (l := (lVal r2)) u36 rfl size_36 (CellsAt.of_blk (hI.blk .z) rfl)⟩, ⟨ev_tmp rfl rfl, trivial⟩⟩ (fq hI trivial)
 refine sr (sq (y_eql rfl et ev_const) ?_)
 refine sa ?_
 refine nk (cif h et (fun hb h => ?_) (fun hb h => ?_))
 ·refine c_seq (c_drawX [10] false (.c (0, .q) (.c (1, .q) (.c (2, .q) (.c (3, .q) (.c (4, .q) (.c (6, .q) (.c (7, .q) (.c (5, .s) (.c (8, .s) (.c (9, .s) (.c (10, .s) (.c (11, .q) .n)))))))))))) hI (by kernel_rfl) (by kernel_rfl) ?_)
  clear hI; intro w7 hI
  refine a_read rfl gn rfl (fun w' hw' => (y_loadN (l := (lType t1)) rfl et u23 rfl size_23 ((hI.kblk (l := (lType t1)) .z rfl).at_ (SX.any rfl hw')))) (by kernel_rfl) ?_
  refine a_q rfl gn rfl (fun w' => y_move rfl et) ?_
  refine a_q rfl gn rfl (fun w' => y_move rfl et) ?_
  refine a_q rfl gn rfl (fun w' => y_mul rfl et et) ?_
  refine a_read rfl gn rfl (fun w' hw' => (y_loadN (l := (lType t1)) rfl et u23 rfl size_23 ((hI.kblk (l := (lType t1)) .z rfl).at_ (SX.any rfl hw')))) (by kernel_rfl) ?_
  refine a_q rfl gn rfl (fun w' => y_fieldAddr rfl et u23 rfl size_3 rfl) ?_
  refine a_read rfl gn rfl (fun w' hw' => (y_load1 (v := (vi t1.Round)) rfl et u3 rfl ((hI.kblk (l := [vi t1.Round]) .z rfl).at_ (SX.any rfl hw')))) (by kernel_rfl) ?_
  obtain ⟨r3, hx5, h⟩ := bnd_some h
  refine la_call rfl gn rfl (r_callF (vs := [(Value.agg (AType t1))]) rfl ok_111 ⟨et, trivial⟩) (Calls.mono (c_ref04_step (Dj F c3) w7 hI.lt t1 trivial r3 hx5) ?_)
  rintro _ w8 ⟨rfl, hx6, hl3⟩
  refine ⟨_, rfl, hx6, ?_⟩
  replace hI := (hI.ext hx6)
  obtain ⟨r4, hx7, h⟩ := bnd_some h
  refine la_call rfl gn rfl (r_callF (vs := [(vi (wi64 (a1 * b1))), vi r3, vi t1.Round]) rfl ok_110 ⟨et, ⟨et, ⟨et, trivial⟩⟩⟩) (Calls.mono (c_ref04_round (Dj F c3) w8 hI.lt (wi64 (a1 * b1)) r3 t1.Round trivial r4 hx7) ?_)
  rintro _ w9 ⟨rfl, hx8, hl4⟩
  refine ⟨_, rfl, hx8, ?_⟩
  replace hI := (hI.ext hx8)
  obtain ⟨r5, hx9, h⟩ := bnd_some h
  refine la_call rfl gn rfl (r_callF (vs := [(Value.agg (AType t1)), vi r4]) rfl ok_109 ⟨et, ⟨et, trivial⟩⟩) (Calls.mono (c_ref04_fit (Dj F c3) w9 hI.lt t1 r4 trivial r5 hx9) ?_)
  rintro _ w10 ⟨rfl, hx10, hl5⟩
  refine ⟨_, rfl, hx10, ?_⟩
  replace hI := (hI.ext hx10)
  refine a_turn (F := F) (C := c3) rfl rfl ?_
  refine la_store (new := (lVal r5)) (cs' := (AVal r5)) hI .z rfl gn rfl rfl et et rfl size_36 rfl rfl rfl ?_
  clear hI; intro c6 w11 hI
  refine a_q rfl gn rfl (fun w' => y_assign rfl ev_const) ?_
  refine a_nil ?_
  refine k_same (c_ret ?_)
  obtain rfl := some_inj h
  exact q_ret (vs := [(Value.agg (AVal r5)), vi 0]) Tryz.results81 ⟨⟨_, ev_tmp rfl rfl, load_agg (l := (lVal r5)) u36 rfl size_36 (CellsAt.of_blk (hI.blk .z) rfl)⟩, ⟨ev_tmp rfl rfl, trivial⟩⟩ (fq hI trivial)
 refine sr (sq (y_eql rfl et ev_const) ?_)
 refine sa ?_
 refine nk (cif h et (fun hb h => ?_) (fun hb h => ?_))
 ·refine sr (sq (y_loadN (l := (lType t1)) rfl et u23 rfl size_23 (hI.kblk (l := (lType t1)) .z rfl).1) ?_)
  refine sm ?_
  refine sq (y_neg rfl et) ?_
  obtain ⟨r6, hx11, h⟩ := bnd_some h
  refine s_call gn rfl (r_callF (vs := [(Value.agg (AType t1)), (vi (wi64 (-a1)))]) rfl ok_109 ⟨et, ⟨et, trivial⟩⟩) (Calls.mono (c_ref04_fit (Dj F c3) w2 hI.lt t1 (wi64 (-a1)) trivial r6 hx11) ?_)
  rintro _ w12 ⟨rfl, hx12, hl6⟩
  refine ⟨_, rfl, ?_⟩
  replace hI := (hI.ext hx12)
  refine l_store (new := (lVal r6)) (cs' := (AVal r6)) hI .z gn rfl rfl et et rfl size_36 rfl rfl rfl ?_
  clear hI; intro c7 w13 hI
  refine sac ?_
  refine nk (c_ret ?_)
  obtain rfl := some_inj h
  exact q_ret (vs := [(Value.agg (AVal r6)), vi 0]) Tryz.results81 ⟨⟨_, ev_tmp rfl rfl, load_agg (l := (lVal r6)) u36 rfl size_36 (CellsAt.of_blk (hI.blk .z) rfl)⟩, ⟨ev_tmp rfl rfl, trivial⟩⟩ (fq hI trivial)
 refine c_skip (k_same (c_seq (sr (sm ?_))))
 refine sq (y_eql rfl et ev_const) ?_
 refine nk (cif h et (fun hb h => ?_) (fun hb h => ?_))
 ·refine sr (sq (y_build (vs := []) (cs := #[vi 0, vi 0]) rfl trivial (by kernel_rfl)) ?_)
  refine l_store (new := [vi 0, vi 0]) (cs' := #[vi 0, vi 0]) hI .z gn rfl rfl et et rfl size_36 rfl rfl rfl ?_
  clear hI; intro c8 w14 hI
  refine sac ?_
  refine nk (c_ret ?_)
  obtain rfl := some_inj h
  exact q_ret (vs := [(Value.agg #[vi 0, vi 0]), vi 4]) Tryz.results81 ⟨⟨_, ev_tmp rfl rfl, load_agg (l := [vi 0, vi 0]) u36 rfl size_36 (CellsAt.of_blk (hI.blk .z) rfl)⟩, ⟨ev_tmp rfl rfl, trivial⟩⟩ (fq hI trivial)
 refine c_skip (k_same (c_join (α := Int × Int) (fun _ => ⟨62, []⟩) (fun x => [(2, vi (x.1)), (3, vi (x.2)), (5, vp b2 0), (8, vp b3 0)]) (fun x => fun w => ∃ C, Bun noM F w0 C w [MO.box b3 36 #[vi 0, vi 0]] [Cl.blk b2 23 (AType t1)] ∧ m_ref04_fix_j1 t1 (x.1) (x.2) = some r) ?_ ?_))
 ·clear h hI; rintro ⟨a2, b4⟩ w15 ⟨c9, hI, h⟩
  try dsimp only at hI h
  rw [m_ref04_fix_j1] at h
  refine c_sub (e := [(2, vi a2), (3, vi b4), (5, vp b2 0), (8, vp b3 0)]) ⟨rfl, rfl, rfl, rfl, trivial⟩ ?_
  refine c_seq (c_drawX [10] false (.c (0, .q) (.c (1, .q) (.c (2, .q) (.c (5, .q) (.c (6, .q) (.c (7, .q) (.c (3, .s) (.c (4, .q) (.c (8, .s) (.c (9, .s) (.c (10, .s) (.c (11, .q) .n)))))))))))) hI (by kernel_rfl) (by kernel_rfl) ?_)
  clear hI; intro w16 hI
  refine a_read rfl gn rfl (fun w' hw' => (y_loadN (l := (lType t1)) rfl et u23 rfl size_23 ((hI.kblk (l := (lType t1)) .z rfl).at_ (SX.any rfl hw')))) (by kernel_rfl) ?_
  refine a_q rfl gn rfl (fun w' => y_move rfl et) ?_
  refine a_read rfl gn rfl (fun w' hw' => (y_loadN (l := (lType t1)) rfl et u23 rfl size_23 ((hI.kblk (l := (lType t1)) .z rfl).at_ (SX.any rfl hw')))) (by kernel_rfl) ?_
  refine a_q rfl gn rfl (fun w' => y_move rfl et) ?_
  refine a_q rfl gn rfl (fun w' => y_fieldAddr rfl et u23 rfl size_3 rfl) ?_
  refine a_read rfl gn rfl (fun w' hw' => (y_load1 (v := (vi t1.Round)) rfl et u3 rfl ((hI.kblk (l := [vi t1.Round]) .z rfl).at_ (SX.any rfl hw')))) (by kernel_rfl) ?_
  obtain ⟨r7, hx13, h⟩ := bnd_some h
  refine la_call rfl gn rfl (r_callF (vs := [(Value.agg (AType t1))]) rfl ok_111 ⟨et, trivial⟩) (Calls.mono (c_ref04_step (Dj F c9) w16 hI.lt t1 trivial r7 hx13) ?_)
  rintro _ w17 ⟨rfl, hx14, hl7⟩
  refine ⟨_, rfl, hx14, ?_⟩
  replace hI := (hI.ext hx14)
  refine a_q rfl gn rfl (fun w' => y_mul rfl et et) ?_
  obtain ⟨r8, hx15, h⟩ := bnd_some h
  refine la_call rfl gn rfl (r_callF (vs := [(vi (wi64 (a2 * r7))), vi b4, vi t1.Round]) rfl ok_110 ⟨et, ⟨et, ⟨et, trivial⟩⟩⟩) (Calls.mono (c_ref04_round (Dj F c9) w17 hI.lt (wi64 (a2 * r7)) b4 t1.Round trivial r8 hx15) ?_)
  rintro _ w18 ⟨rfl, hx16, hl8⟩
  refine ⟨_, rfl, hx16, ?_⟩
  replace hI := (hI.ext hx16)
  obtain ⟨r9, hx17, h⟩ := bnd_some h
  refine la_call rfl gn rfl (r_callF (vs := [(Value.agg (AType t1)), vi r8]) rfl ok_109 ⟨et, ⟨et, trivial⟩⟩) (Calls.mono (c_ref04_fit (Dj F c9) w18 hI.lt t1 r8 trivial r9 hx17) ?_)
  rintro _ w19 ⟨rfl, hx18, hl9⟩
  refine ⟨_, rfl, hx18, ?_⟩
  replace hI := (hI.ext hx18)
  refine a_turn (F := F) (C := c9) rfl rfl ?_
  refine la_store (new := (lVal r9)) (cs' := (AVal r9)) hI .z rfl gn rfl rfl et et rfl size_36 rfl rfl rfl ?_
  clear hI; intro c10 w20 hI
  refine a_q rfl gn rfl (fun w' => y_assign rfl ev_const) ?_
  refine a_nil ?_
  refine k_same (c_ret ?_)
  obtain rfl := some_inj h
  exact q_ret (vs := [(Value.agg (AVal r9)), vi 0]) Tryz.results81 ⟨⟨_, ev_tmp rfl rfl, load_agg (l := (lVal r9)) u36 rfl size_36 (CellsAt.of_blk (hI.blk .z) rfl)⟩, ⟨ev_tmp rfl rfl, trivial⟩⟩ (fq hI trivial)
 refine sr (sm ?_)
 refine sq (y_lss rfl et ev_const) ?_
 refine nk (cif h et (fun hb h => ?_) (fun hb h => ?_))
 ·refine sr (sm ?_)
  refine sq (y_neg rfl et) ?_
  refine sa ?_
  refine nk (c_region rfl ?_)
  refine sm ?_
  refine sq (y_neg rfl et) ?_
  refine sa ?_
  refine s_nil ?_
  exact k_join (wi64 (-a1), wi64 (-b1)) ⟨rfl, rfl, rfl, rfl, trivial⟩ ⟨_, hI.arr (.c .z .n) ⟨.z, trivial⟩, h⟩ rfl
 exact c_skip (k_join (a1, b1) ⟨rfl, rfl, rfl, rfl, trivial⟩ ⟨_, hI.arr (.c .z .n) ⟨.z, trivial⟩, h⟩ rfl)
theorem c_ref04_whole (F : NP) (w0 : World) (hF : ∀ k, F k → k < w0.heap.size) (op1 : Int) (a1 : Int) (b1 : Int) (hc : AllCl [] F w0) (r : GVal × Int)
  (h : m_ref04_whole op1 a1 b1 = some r) :
  Calls Tryz.prog 82 #[vi op1, vi a1, vi b1] w0 fun e w => e = .returned (Value.tuple #[(Value.agg (AVal r.1)), vi r.2]) ∧ Ext w0 w ∧ AllCl [] F w := by
 refine enterK Tryz.func82 rfl Tryz.ntmps82 rfl ?_
 have hI := Bun.start hF hc
 clear hc
 rw [m_ref04_whole] at h
 refine sr (l_alloc (cs := #[vi 0, vi 0]) hI gn rfl rfl zero_36 rfl ?_)
 clear hI; intro b2 c1 w1 hI
 refine sac ?_
 refine nk (sr (sm ?_))
 refine sq (y_neg rfl et) ?_
 refine sa ?_
 refine nk (c_join (α := Int) (fun _ => ⟨50, []⟩) (fun x => [(6, vp b2 0), (8, vi x)]) (fun x => fun w => ∃ C, Bun noM F w0 C w [MO.box b2 36 #[vi 0, vi 0]] [] ∧ m_ref04_whole_j1 x = some r) ?_ ?_)
 ·clear h hI; rintro n1 w2 ⟨c2, hI, h⟩
  try dsimp only at hI h
  rw [m_ref04_whole_j1] at h
  refine c_sub (e := [(6, vp b2 0), (8, vi n1)]) ⟨rfl, rfl, trivial⟩ ?_
  refine c_seq (sr (sm ?_))
  refine sq (y_gtr rfl et ev_const) ?_
  refine sm ?_
  refine s_gval (g_false rfl rfl rfl rfl) rfl (fun hc => y_move rfl et) ?_
  refine s_gval (g_false rfl rfl rfl rfl) rfl (fun hc => y_lss rfl (ev_gv et hc) ev_const) ?_
  refine sq (y_or rfl et et) ?_
  refine nk (cif h et (fun hb h => ?_) (fun hb h => ?_))
  ·refine sr (sq (y_build (vs := []) (cs := #[vi 0, vi 0]) rfl trivial (by kernel_rfl)) ?_)
   refine l_store (new := [vi 0, vi 0]) (cs' := #[vi 0, vi 0]) hI .z gn rfl rfl et et rfl size_36 rfl rfl rfl ?_
   clear hI; intro c3 w3 hI
   refine sac ?_
   refine nk (c_ret ?_)
   obtain rfl := some_inj h
   exact q_ret (vs := [(Value.agg #[vi 0, vi 0]), vi 3]) Tryz.results82 ⟨⟨_, ev_tmp rfl rfl, load_agg (l := [vi 0, vi 0]) u36 rfl size_36 (CellsAt.of_blk (hI.blk .z) rfl)⟩, ⟨ev_tmp rfl rfl, trivial⟩⟩ (fq hI trivial)
  refine c_skip (k_same (sr (sm ?_)))
  refine sq (y_build (vs := [(0, vi n1), (1, vi 1)]) (cs := #[vi n1, vi 1]) rfl ⟨rfl, et, ⟨rfl, ev_const, trivial⟩⟩ (by kernel_rfl)) ?_
  refine l_store (new := [vi n1, vi 1]) (cs' := #[vi n1, vi 1]) hI .z gn rfl rfl et et rfl size_36 rfl rfl rfl ?_
  clear hI; intro c4 w4 hI
  refine sac ?_
  refine nk (c_ret ?_)
  obtain rfl := some_inj h
  exact q_ret (vs := [(Value.agg #[vi n1, vi 1]), vi 0]) Tryz.results82 ⟨⟨_, ev_tmp rfl rfl, load_agg (l := [vi n1, vi 1]) u36 rfl size_36 (CellsAt.of_blk (hI.blk .z) rfl)⟩, ⟨ev_tmp rfl rfl, trivial⟩⟩ (fq hI trivial)
 refine sr (sm ?_)
 refine nk (c_block (sr (sq (y_eql rfl et ev_const) ?_)))
 refine sa ?_
 refine nk (cif h et (fun hb h => ?_) (fun hb h => ?_))
 ·refine c_region rfl ?_
  refine sm ?_
  refine sm ?_
  refine sq (y_add rfl et et) ?_
  refine sa ?_
  refine s_nil ?_
  exact k_join (wi64 (a1 + b1)) ⟨rfl, rfl, trivial⟩ ⟨_, hI.arr (.c .z .n) trivial, h⟩ rfl
 refine sr (sq (y_eql rfl et ev_const) ?_)
 refine sa ?_
 refine nk (cif h et (fun hb h => ?_) (fun hb h => ?_))
 ·refine c_region rfl ?_
  refine sm ?_
  refine sm ?_
  refine sq (y_sub rfl et et) ?_
  refine sa ?_
  refine s_nil ?_
  exact k_join (wi64 (a1 - b1)) ⟨rfl, rfl, trivial⟩ ⟨_, hI.arr (.c .z .n) trivial, h⟩ rfl
 refine sr (sq (y_eql rfl et ev_const) ?_)
 refine sa ?_
 refine nk (cif h et (fun hb h => ?_) (fun hb h => ?_))
 ·refine c_region rfl ?_
  refine sm ?_
  refine sm ?_
  refine sq (y_mul rfl et et) ?_
  refine sa ?_
  refine s_nil ?_
  exact k_join (wi64 (a1 * b1)) ⟨rfl, rfl, trivial⟩ ⟨_, hI.arr (.c .z .n) trivial, h⟩ rfl
 refine sr (sq (y_eql rfl et ev_const) ?_)
 refine sa ?_
 refine nk (cif h et (fun hb h => ?_) (fun hb h => ?_))
 ·refine c_seq (sr (sm ?_))
  refine sq (y_eql rfl et ev_const) ?_
  refine nk (cif h et (fun hb h => ?_) (fun hb h => ?_))
  ·refine sr (sq (y_build (vs := []) (cs := #[vi 0, vi 0]) rfl trivial (by kernel_rfl)) ?_)
   refine l_store (new := [vi 0, vi 0]) (cs' := #[vi 0, vi 0]) hI .z gn rfl rfl et et rfl size_36 rfl rfl rfl ?_
   clear hI; intro c5 w5 hI
   refine sac ?_
   refine nk (c_ret ?_)
   obtain rfl := some_inj h
   exact q_ret (vs := [(Value.agg #[vi 0, vi 0]), vi 4]) Tryz.results82 ⟨⟨_, ev_tmp rfl rfl, load_agg (l := [vi 0, vi 0]) u36 rfl size_36 (CellsAt.of_blk (hI.blk .z) rfl)⟩, ⟨ev_tmp rfl rfl, trivial⟩⟩ (fq hI trivial)
  refine c_skip (k_same (c_seq (sr (sm ?_))))
  refine sq (y_lss rfl et ev_const) ?_
  refine nk (cif h et (fun hb h => ?_) (fun hb h => ?_))
  ·refine sr (sm ?_)
   refine sq (y_neg rfl et) ?_
   refine sa ?_
   refine nk (c_region rfl ?_)
   refine sm ?_
   refine sq (y_neg rfl et) ?_
   refine sa ?_
   refine nk (c_region rfl ?_)
   refine sm ?_
   refine sm ?_
   obtain ⟨r1, hx1, h⟩ := bnd_some h
   refine s_call gn rfl (r_callF (vs := [(vi (wi64 (-a1))), (vi (wi64 (-b1)))]) rfl ok_112 ⟨et, ⟨et, trivial⟩⟩) (Calls.mono (c_ref04_floor (Dj F c1) w1 hI.lt (wi64 (-a1)) (wi64 (-b1)) trivial r1 hx1) ?_)
   rintro _ w6 ⟨rfl, hx2, hl1⟩
   refine ⟨_, rfl, ?_⟩
   replace hI := (hI.ext hx2)
   refine sa ?_
   refine s_nil ?_
   exact k_join r1 ⟨rfl, rfl, trivial⟩ ⟨_, hI.arr (.c .z .n) trivial, h⟩ rfl
  refine c_skip (k_same (c_region rfl ?_))
  refine sm ?_
  refine sm ?_
  obtain ⟨r2, hx3, h⟩ := bnd_some h
  refine s_call gn rfl (r_callF (vs := [vi a1, vi b1]) rfl ok_112 ⟨et, ⟨et, trivial⟩⟩) (Calls.mono (c_ref04_floor (Dj F c1) w1 hI.lt a1 b1 trivial r2 hx3) ?_)
  rintro _ w7 ⟨rfl, hx4, hl2⟩
  refine ⟨_, rfl, ?_⟩
  replace hI := (hI.ext hx4)
  refine sa ?_
  refine s_nil ?_
  exact k_join r2 ⟨rfl, rfl, trivial⟩ ⟨_, hI.arr (.c .z .n) trivial, h⟩ rfl
 exact c_skip (k_join (wi64 (-a1)) ⟨rfl, rfl, trivial⟩ ⟨_, hI.arr (.c .z .n) trivial, h⟩ rfl)
theorem c_ref01_size (F : NP) (w0 : World) (hF : ∀ k, F k → k < w0.heap.size) (n1 : Int) (hc : AllCl [] F w0) (r : Int)
  (h : m_ref01_size n1 = some r) :
  Calls Tryz.prog 137 #[vi n1] w0 fun e w => e = .returned (Value.int .u64 r) ∧ Ext w0 w ∧ AllCl [] F w := by
 refine enterK Tryz.func137 rfl Tryz.ntmps137 rfl ?_
 have hI := Bun.start hF hc
 clear hc
 rw [m_ref01_size] at h
 refine sr (sac ?_)
 refine nk (c_seq (sr (sm ?_)))
 refine sq (y_lss rfl et ev_const) ?_
 refine nk (cif h et (fun hb h => ?_) (fun hb h => ?_))
 ·refine sr (sm ?_)
  refine sq (y_add rfl et ev_const) ?_
  refine sq (y_neg rfl et) ?_
  refine sq (y_conv rfl (by rw [u2]; rfl) u120 et) ?_
  refine sq (y_add rfl et ev_const) ?_
  refine sa ?_
  refine nk (c_ret ?_)
  obtain rfl := some_inj h
  exact q_ret (vs := [(Value.int .u64 (wu64 ((wu64 (wi64 (-(wi64 (n1 + 1))))) + 1)))]) Tryz.results137 ⟨ev_tmp rfl rfl, trivial⟩ (fq hI trivial)
 refine c_skip (k_same (sr (sm ?_)))
 refine sq (y_conv rfl (by rw [u2]; rfl) u120 et) ?_
 refine sa ?_
 refine nk (c_ret ?_)
 obtain rfl := some_inj h
 exact q_ret (vs := [(Value.int .u64 (wu64 n1))]) Tryz.results137 ⟨ev_tmp rfl rfl, trivial⟩ (fq hI trivial)
theorem c_ref01_gcd (F : NP) (w0 : World) (hF : ∀ k, F k → k < w0.heap.size) (a1 : Int) (b1 : Int) (hc : AllCl [] F w0) (r : Int)
  (h : m_ref01_gcd a1 b1 = some r) :
  Calls Tryz.prog 151 #[(Value.int .u64 a1), (Value.int .u64 b1)] w0 fun e w => e = .returned (Value.int .u64 r) ∧ Ext w0 w ∧ AllCl [] F w := by
 refine enterK Tryz.func151 rfl Tryz.ntmps151 rfl ?_
 have hI := Bun.start hF hc
 clear hc
 rw [m_ref01_gcd] at h
 refine sr (sac ?_)
 refine nk (c_seq (c_block (c_loop (α := Nat × Int × Int) (fun x => fun w => ∃ C, Bun noM F w0 C w [] [] ∧ m_ref01_gcd_l1 (x.1) (x.2.1) (x.2.2) = some r) (fun x _ => x.1) (fun x => [(0, (Value.int .u64 (x.2.1))), (1, (Value.int .u64 (x.2.2)))]) (fu, a1, b1) ⟨_, hI.arr .n trivial, h⟩ ⟨rfl, rfl, trivial⟩ ?_)))
 clear h hI; rintro ⟨fuel1, a2, b2⟩ w1 ⟨c1, hI, h⟩
 dsimp only at hI h
 rcases fuel1 with _ | fuel1
 ·rw [m_ref01_gcd_l1] at h; cases h
 rw [m_ref01_gcd_l1] at h
 refine c_sub (e := [(0, (Value.int .u64 a2)), (1, (Value.int .u64 b2))]) ⟨rfl, rfl, trivial⟩ ?_
 refine c_seq (sr (sm ?_))
 refine sq (y_neq rfl et ev_const) ?_
 refine nk (cif h et (fun hb h => ?_) (fun hb h => ?_))
 ·refine c_skip (k_same (c_block (c_drawX [] false (.c (0, .q) (.c (1, .q) (.c (2, .q) (.c (3, .q) (.c (4, .q) (.c (5, .q) .n)))))) hI (by kernel_rfl) (by kernel_rfl) ?_)))
  clear hI; intro w2 hI
  refine a_q rfl gn rfl (fun w' => y_move rfl et) ?_
  refine a_q rfl gn rfl (fun w' => y_move rfl et) ?_
  refine a_q rfl gn rfl (fun w' => y_move rfl et) ?_
  obtain ⟨ho1, h⟩ := chk_some h
  refine a_q rfl gn rfl (fun w' => y_rem rfl et et ho1) ?_
  refine a_q rfl gn rfl (fun w' => y_assign rfl et) ?_
  refine a_q rfl gn rfl (fun w' => y_assign rfl et) ?_
  refine a_nil ?_
  exact k_loop (fuel1, b2, Int.tmod a2 b2) ⟨rfl, rfl, trivial⟩ ⟨_, hI.arr .n trivial, h⟩ (Nat.lt_succ_self _)
 refine c_exit ?_
 refine k_in ?_
 refine k_same (sr (sm ?_))
 refine sa ?_
 refine nk (c_ret ?_)
 obtain rfl := some_inj h
 exact q_ret (vs := [(Value.int .u64 a2)]) Tryz.results151 ⟨ev_tmp rfl rfl, trivial⟩ (fq hI trivial)
theorem c_ref01_made (F : NP) (w0 : World) (hF : ∀ k, F k → k < w0.heap.size) (minus1 : Bool) (n1 : Int) (d1 : Int) (hc : AllCl [] F w0) (r : GVal × Int)
  (h : m_ref01_made minus1 n1 d1 = some r) :
  Calls Tryz.prog 136 #[vb minus1, (Value.int .u64 n1), (Value.int .u64 d1)] w0 fun e w => e = .returned (Value.tuple #[(Value.agg (AVal r.1)), vi r.2]) ∧ Ext w0 w ∧ AllCl [] F w := by
 refine enterK Tryz.func136 rfl Tryz.ntmps136 rfl ?_
 have hI := Bun.start hF hc
 clear hc
 rw [m_ref01_made] at h
 refine sr (l_alloc (cs := #[vi 0, vi 0]) hI gn rfl rfl zero_36 rfl ?_)
 clear hI; intro b1 c1 w1 hI
 refine sac ?_
 refine nk (sr (sm ?_))
 refine sm ?_
 obtain ⟨r1, hx1, h⟩ := bnd_some h
 refine s_call gn rfl (r_callF (vs := [(Value.int .u64 n1), (Value.int .u64 d1)]) rfl ok_151 ⟨et, ⟨et, trivial⟩⟩) (Calls.mono (c_ref01_gcd (Dj F c1) w1 hI.lt n1 d1 trivial r1 hx1) ?_)
 rintro _ w2 ⟨rfl, hx2, hl1⟩
 refine ⟨_, rfl, ?_⟩
 replace hI := (hI.ext hx2)
 refine sa ?_
 refine nk (sr (sm ?_))
 refine sm ?_
 obtain ⟨ho1, h⟩ := chk_some h
 refine sq (y_quo rfl et et ho1) ?_
 refine sa ?_
 refine nk (sr (sm ?_))
 refine sm ?_
 refine sq (y_quo rfl et et ho1) ?_
 refine sa ?_
 refine nk (c_seq (sr (sm ?_)))
 refine sq (y_gtr rfl et ev_const) ?_
 refine sm ?_
 refine s_gval (g_false rfl rfl rfl rfl) rfl (fun hc => y_move rfl et) ?_
 refine s_gval (g_false rfl rfl rfl rfl) rfl (fun hc => y_gtr rfl (ev_gv et hc) ev_const) ?_
 refine sq (y_or rfl et et) ?_
 refine nk (cif h et (fun hb h => ?_) (fun hb h => ?_))
 ·refine sr (sq (y_build (vs := []) (cs := #[vi 0, vi 0]) rfl trivial (by kernel_rfl)) ?_)
  refine l_store (new := [vi 0, vi 0]) (cs' := #[vi 0, vi 0]) hI .z gn rfl rfl et et rfl size_36 rfl rfl rfl ?_
  clear hI; intro c2 w3 hI
  refine sac ?_
  refine nk (c_ret ?_)
  obtain rfl := some_inj h
  exact q_ret (vs := [(Value.agg #[vi 0, vi 0]), vi 3]) Tryz.results136 ⟨⟨_, ev_tmp rfl rfl, load_agg (l := [vi 0, vi 0]) u36 rfl size_36 (CellsAt.of_blk (hI.blk .z) rfl)⟩, ⟨ev_tmp rfl rfl, trivial⟩⟩ (fq hI trivial)
 refine c_skip (k_same (c_seq (sr (sm ?_))))
 refine nk (cif h et (fun hb h => ?_) (fun hb h => ?_))
 ·refine sr (sm ?_)
  refine sq (y_conv rfl (by rw [u120]; rfl) u2 et) ?_
  refine sq (y_neg rfl et) ?_
  refine sm ?_
  refine sq (y_conv rfl (by rw [u120]; rfl) u2 et) ?_
  refine sq (y_build (vs := [(0, (vi (wi64 (-(wi64 (wu64 (Int.tdiv n1 r1))))))), (1, (vi (wi64 (wu64 (Int.tdiv d1 r1)))))]) (cs := #[(vi (wi64 (-(wi64 (wu64 (Int.tdiv n1 r1)))))), (vi (wi64 (wu64 (Int.tdiv d1 r1))))]) rfl ⟨rfl, et, ⟨rfl, et, trivial⟩⟩ (by kernel_rfl)) ?_
  refine l_store (new := [(vi (wi64 (-(wi64 (wu64 (Int.tdiv n1 r1)))))), (vi (wi64 (wu64 (Int.tdiv d1 r1))))]) (cs' := #[(vi (wi64 (-(wi64 (wu64 (Int.tdiv n1 r1)))))), (vi (wi64 (wu64 (Int.tdiv d1 r1))))]) hI .z gn rfl rfl et et rfl size_36 rfl rfl rfl ?_
  clear hI; intro c3 w4 hI
  refine sac ?_
  refine s_nil ?_
  refine k_next (e := [(6, vp b1 0), (7, vi 0)]) ⟨rfl, rfl, trivial⟩ ?_
  refine c_ret ?_
  obtain rfl := some_inj h
  exact q_ret (vs := [(Value.agg #[(vi (wi64 (-(wi64 (wu64 (Int.tdiv n1 r1)))))), (vi (wi64 (wu64 (Int.tdiv d1 r1))))]), vi 0]) Tryz.results136 ⟨⟨_, ev_tmp rfl rfl, load_agg (l := [(vi (wi64 (-(wi64 (wu64 (Int.tdiv n1 r1)))))), (vi (wi64 (wu64 (Int.tdiv d1 r1))))]) u36 rfl size_36 (CellsAt.of_blk (hI.blk .z) rfl)⟩, ⟨ev_tmp rfl rfl, trivial⟩⟩ (fq hI trivial)
 refine c_skip (k_same (sr (sm ?_)))
 refine sq (y_conv rfl (by rw [u120]; rfl) u2 et) ?_
 refine sm ?_
 refine sq (y_conv rfl (by rw [u120]; rfl) u2 et) ?_
 refine sq (y_build (vs := [(0, (vi (wi64 (wu64 (Int.tdiv n1 r1))))), (1, (vi (wi64 (wu64 (Int.tdiv d1 r1)))))]) (cs := #[(vi (wi64 (wu64 (Int.tdiv n1 r1)))), (vi (wi64 (wu64 (Int.tdiv d1 r1))))]) rfl ⟨rfl, et, ⟨rfl, et, trivial⟩⟩ (by kernel_rfl)) ?_
 refine l_store (new := [(vi (wi64 (wu64 (Int.tdiv n1 r1)))), (vi (wi64 (wu64 (Int.tdiv d1 r1))))]) (cs' := #[(vi (wi64 (wu64 (Int.tdiv n1 r1)))), (vi (wi64 (wu64 (Int.tdiv d1 r1))))]) hI .z gn rfl rfl et et rfl size_36 rfl rfl rfl ?_
 clear hI; intro c4 w5 hI
 refine sac ?_
 refine s_nil ?_
 refine k_next (e := [(6, vp b1 0), (7, vi 0)]) ⟨rfl, rfl, trivial⟩ ?_
 refine c_ret ?_
 obtain rfl := some_inj h
 exact q_ret (vs := [(Value.agg #[(vi (wi64 (wu64 (Int.tdiv n1 r1)))), (vi (wi64 (wu64 (Int.tdiv d1 r1))))]), vi 0]) Tryz.results136 ⟨⟨_, ev_tmp rfl rfl, load_agg (l := [(vi (wi64 (wu64 (Int.tdiv n1 r1)))), (vi (wi64 (wu64 (Int.tdiv d1 r1))))]) u36 rfl size_36 (CellsAt.of_blk (hI.blk .z) rfl)⟩, ⟨ev_tmp rfl rfl, trivial⟩⟩ (fq hI trivial)
theorem c_ref01_New (F : NP) (w0 : World) (hF : ∀ k, F k → k < w0.heap.size) (n1 : Int) (d1 : Int) (hc : AllCl [] F w0) (r : GVal × Int)
  (h : m_ref01_New n1 d1 = some r) :
  Calls Tryz.prog 114 #[vi n1, vi d1] w0 fun e w => e = .returned (Value.tuple #[(Value.agg (AVal r.1)), vi r.2]) ∧ Ext w0 w ∧ AllCl [] F w := by
 refine enterK Tryz.func114 rfl Tryz.ntmps114 rfl ?_
 have hI := Bun.start hF hc
 clear hc
 rw [m_ref01_New] at h
 refine sr (l_alloc (cs := #[vi 0, vi 0]) hI gn rfl rfl zero_36 rfl ?_)
 clear hI; intro b1 c1 w1 hI
 refine sac ?_
 refine nk (c_seq (sr (sm ?_)))
 refine sq (y_eql rfl et ev_const) ?_
 refine nk (cif h et (fun hb h => ?_) (fun hb h => ?_))
 ·refine sr (sq (y_build (vs := []) (cs := #[vi 0, vi 0]) rfl trivial (by kernel_rfl)) ?_)
  refine l_store (new := [vi 0, vi 0]) (cs' := #[vi 0, vi 0]) hI .z gn rfl rfl et et rfl size_36 rfl rfl rfl ?_
  clear hI; intro c2 w2 hI
  refine sac ?_
  refine nk (c_ret ?_)
  obtain rfl := some_inj h
  exact q_ret (vs := [(Value.agg #[vi 0, vi 0]), vi 4]) Tryz.results114 ⟨⟨_, ev_tmp rfl rfl, load_agg (l := [vi 0, vi 0]) u36 rfl size_36 (CellsAt.of_blk (hI.blk .z) rfl)⟩, ⟨ev_tmp rfl rfl, trivial⟩⟩ (fq hI trivial)
 refine c_skip (k_same (sr (sm ?_)))
 refine sq (y_lss rfl et ev_const) ?_
 refine sm ?_
 refine sq (y_lss rfl et ev_const) ?_
 refine sq (y_neb rfl u4 et et) ?_
 refine sm ?_
 obtain ⟨r1, hx1, h⟩ := bnd_some h
 refine s_call gn rfl (r_callF (vs := [vi n1]) rfl ok_137 ⟨et, trivial⟩) (Calls.mono (c_ref01_size (Dj F c1) w1 hI.lt n1 trivial r1 hx1) ?_)
 rintro _ w3 ⟨rfl, hx2, hl1⟩
 refine ⟨_, rfl, ?_⟩
 replace hI := (hI.ext hx2)
 refine sm ?_
 obtain ⟨r2, hx3, h⟩ := bnd_some h
 refine s_call gn rfl (r_callF (vs := [vi d1]) rfl ok_137 ⟨et, trivial⟩) (Calls.mono (c_ref01_size (Dj F c1) w3 hI.lt d1 trivial r2 hx3) ?_)
 rintro _ w4 ⟨rfl, hx4, hl2⟩
 refine ⟨_, rfl, ?_⟩
 replace hI := (hI.ext hx4)
 obtain ⟨r3, hx5, h⟩ := bnd_some h
 refine s_call gn rfl (r_callF (vs := [(vb ((decide (n1 < 0)) != (decide (d1 < 0)))), (Value.int .u64 r1), (Value.int .u64 r2)]) rfl ok_136 ⟨et, ⟨et, ⟨et, trivial⟩⟩⟩) (Calls.mono (c_ref01_made (Dj F c1) w4 hI.lt ((decide (n1 < 0)) != (decide (d1 < 0))) r1 r2 trivial r3 hx5) ?_)
 rintro _ w5 ⟨rfl, hx6, hl3⟩
 refine ⟨_, rfl, ?_⟩
 replace hI := (hI.ext hx6)
 refine sq (y_extract rfl et rfl) ?_
 refine sq (y_extract rfl et rfl) ?_
 refine l_store (new := (lVal r3.1)) (cs' := (AVal r3.1)) hI .z gn rfl rfl et et rfl size_36 rfl rfl rfl ?_
 clear hI; intro c3 w6 hI
 refine sa ?_
 refine nk (c_ret ?_)
 obtain rfl := some_inj h
 exact q_ret (vs := [(Value.agg (AVal r3.1)), vi r3.2]) Tryz.results114 ⟨⟨_, ev_tmp rfl rfl, load_agg (l := (lVal r3.1)) u36 rfl size_36 (CellsAt.of_blk (hI.blk .z) rfl)⟩, ⟨ev_tmp rfl rfl, trivial⟩⟩ (fq hI trivial)
theorem c_ref01_Add (F : NP) (w0 : World) (hF : ∀ k, F k → k < w0.heap.size) (a1 : GVal) (b1 : GVal) (hc : AllCl [] F w0) (r : GVal × Int)
  (h : m_ref01_Add a1 b1 = some r) :
  Calls Tryz.prog 83 #[(Value.agg (AVal a1)), (Value.agg (AVal b1))] w0 fun e w => e = .returned (Value.tuple #[(Value.agg (AVal r.1)), vi r.2]) ∧ Ext w0 w ∧ AllCl [] F w := by
 refine enterK Tryz.func83 rfl Tryz.ntmps83 rfl ?_
 have hI := Bun.start hF hc
 clear hc
 rw [m_ref01_Add] at h
 refine sr (l_box (v := (Value.agg (AVal a1))) (cs := (AVal a1)) hI gn rfl rfl et rfl ?_)
 clear hI; intro b2 c1 w1 hI
 obtain ⟨c2, hI⟩ := hI.relBox .z
 refine l_box (v := (Value.agg (AVal b1))) (cs := (AVal b1)) hI gn rfl rfl et rfl ?_
 clear hI; intro b3 c3 w2 hI
 obtain ⟨c4, hI⟩ := hI.relBox .z
 refine l_alloc (cs := #[vi 0, vi 0]) hI gn rfl rfl zero_36 rfl ?_
 clear hI; intro b4 c5 w3 hI
 refine sac ?_
 refine nk (c_seq (sr (sq (y_loadN (l := (lVal a1)) rfl et u36 rfl size_36 (hI.kblk (l := (lVal a1)) (.s .z) rfl).1) ?_)))
 obtain ⟨r1, hx1, h⟩ := bnd_some h
 refine s_call gn rfl (r_callF (vs := [(Value.agg (AVal a1))]) rfl ok_113 ⟨et, trivial⟩) (Calls.mono (c_ref01_Valid (Dj F c5) w3 hI.lt a1 trivial r1 hx1) ?_)
 rintro _ w4 ⟨rfl, hx2, hl1⟩
 refine ⟨_, rfl, ?_⟩
 replace hI := (hI.ext hx2)
 refine sq (y_not rfl et) ?_
 refine sm ?_
 refine s_gval (g_false rfl rfl rfl rfl) rfl (fun hc => (y_loadN (l := (lVal b1)) rfl et u36 rfl size_36 (hI.kblk (l := (lVal b1)) .z rfl).1)) ?_
 obtain ⟨r2, hx3, h⟩ := bnd_some h
 replace hx3 := gd_some hx3
 refine s_gcallU (v := (vb r2)) (g_false rfl rfl rfl rfl) rfl (fun hc => (r_callF (vs := [(Value.agg (AVal b1))]) rfl ok_113 ⟨(ev_gv et hc), trivial⟩)) (fun hc => (c_ref01_Valid (Dj F c5) w4 hI.lt b1 trivial r2 (hx3 hc)).mono fun _ _ k => ⟨k.1, k.2.1⟩) ?_
 intro w5 hx4; replace hI := hI.ext hx4
 refine s_gval (g_false rfl rfl rfl rfl) rfl (fun hc => y_not rfl (ev_gv et hc)) ?_
 refine sq (y_or rfl et et) ?_
 refine nk (cif h et (fun hb h => ?_) (fun hb h => ?_))
 ·refine sr (sq (y_build (vs := []) (cs := #[vi 0, vi 0]) rfl trivial (by kernel_rfl)) ?_)
  refine l_store (new := [vi 0, vi 0]) (cs' := #[vi 0, vi 0]) hI .z gn rfl rfl et et rfl size_36 rfl rfl rfl ?_
  clear hI; intro c6 w6 hI
  refine sac ?_
  refine nk (c_ret ?_)
  obtain rfl := some_inj h
  exact q_ret (vs := [(Value.agg #[vi 0, vi 0]), vi 1]) Tryz.results83 ⟨⟨_, ev_tmp rfl rfl, load_agg (l := [vi 0, vi 0]) u36 rfl size_36 (CellsAt.of_blk (hI.blk .z) rfl)⟩, ⟨ev_tmp rfl rfl, trivial⟩⟩ (fq hI trivial)
 refine c_skip (k_same (sr (sq (y_fieldAddr rfl et u36 rfl size_2 rfl) ?_)))
 refine sq (y_load1 (v := (vi a1.N)) rfl et u2 rfl (hI.kblk (l := [vi a1.N]) (.s .z) rfl).1) ?_
 refine sq (y_fieldAddr rfl et u36 rfl size_2 rfl) ?_
 refine sq (y_load1 (v := (vi b1.D)) rfl et u2 rfl (hI.kblk (l := [vi b1.D]) .z rfl).1) ?_
 refine sq (y_mul rfl et et) ?_
 refine sq (y_fieldAddr rfl et u36 rfl size_2 rfl) ?_
 refine sq (y_load1 (v := (vi b1.N)) rfl et u2 rfl (hI.kblk (l := [vi b1.N]) .z rfl).1) ?_
 refine sq (y_fieldAddr rfl et u36 rfl size_2 rfl) ?_
 refine sq (y_load1 (v := (vi a1.D)) rfl et u2 rfl (hI.kblk (l := [vi a1.D]) (.s .z) rfl).1) ?_
 refine sq (y_mul rfl et et) ?_
 refine sq (y_add rfl et et) ?_
 refine sq (y_fieldAddr rfl et u36 rfl size_2 rfl) ?_
 refine sq (y_load1 (v := (vi a1.D)) rfl et u2 rfl (hI.kblk (l := [vi a1.D]) (.s .z) rfl).1) ?_
 refine sq (y_fieldAddr rfl et u36 rfl size_2 rfl) ?_
 refine sq (y_load1 (v := (vi b1.D)) rfl et u2 rfl (hI.kblk (l := [vi b1.D]) .z rfl).1) ?_
 refine sq (y_mul rfl et et) ?_
 obtain ⟨r3, hx5, h⟩ := bnd_some h
 refine s_call gn rfl (r_callF (vs := [(vi (wi64 ((wi64 (a1.N * b1.D)) + (wi64 (b1.N * a1.D))))), (vi (wi64 (a1.D * b1.D)))]) rfl ok_114 ⟨et, ⟨et, trivial⟩⟩) (Calls.mono (c_ref01_New (Dj F c5) w5 hI.lt (wi64 ((wi64 (a1.N * b1.D)) + (wi64 (b1.N * a1.D)))) (wi64 (a1.D * b1.D)) trivial r3 hx5) ?_)
 rintro _ w7 ⟨rfl, hx6, hl3⟩
 refine ⟨_, rfl, ?_⟩
 replace hI := (hI.ext hx6)
 refine sq (y_extract rfl et rfl) ?_
 refine sq (y_extract rfl et rfl) ?_
 refine l_store (new := (lVal r3.1)) (cs' := (AVal r3.1)) hI .z gn rfl rfl et et rfl size_36 rfl rfl rfl ?_
 clear hI; intro c7 w8 hI
 refine sa ?_
 refine s_nil ?_
 refine k_next (e := [(4, vp b4 0), (5, vi r3.2)]) ⟨rfl, rfl, trivial⟩ ?_
 refine c_ret ?_
 obtain rfl := some_inj h
 exact q_ret (vs := [(Value.agg (AVal r3.1)), vi r3.2]) Tryz.results83 ⟨⟨_, ev_tmp rfl rfl, load_agg (l := (lVal r3.1)) u36 rfl size_36 (CellsAt.of_blk (hI.blk .z) rfl)⟩, ⟨ev_tmp rfl rfl, trivial⟩⟩ (fq hI trivial)
theorem c_ref01_Sub (F : NP) (w0 : World) (hF : ∀ k, F k → k < w0.heap.size) (a1 : GVal) (b1 : GVal) (hc : AllCl [] F w0) (r : GVal × Int)
  (h : m_ref01_Sub a1 b1 = some r) :
  Calls Tryz.prog 84 #[(Value.agg (AVal a1)), (Value.agg (AVal b1))] w0 fun e w => e = .returned (Value.tuple #[(Value.agg (AVal r.1)), vi r.2]) ∧ Ext w0 w ∧ AllCl [] F w := by
 refine enterK Tryz.func84 rfl Tryz.ntmps84 rfl ?_
 have hI := Bun.start hF hc
 clear hc
 rw [m_ref01_Sub] at h
 refine sr (l_box (v := (Value.agg (AVal a1))) (cs := (AVal a1)) hI gn rfl rfl et rfl ?_)
 clear hI; intro b2 c1 w1 hI
 obtain ⟨c2, hI⟩ := hI.relBox .z
 refine l_box (v := (Value.agg (AVal b1))) (cs := (AVal b1)) hI gn rfl rfl et rfl ?_
 clear hI; intro b3 c3 w2 hI
 obtain ⟨c4, hI⟩ := hI.relBox .z
 refine l_alloc (cs := #[vi 0, vi 0]) hI gn rfl rfl zero_36 rfl ?_
 clear hI; intro b4 c5 w3 hI
 refine sac ?_
 refine nk (c_seq (sr (sq (y_loadN (l := (lVal a1)) rfl et u36 rfl size_36 (hI.kblk (l := (lVal a1)) (.s .z) rfl).1) ?_)))
 obtain ⟨r1, hx1, h⟩ := bnd_some h
 refine s_call gn rfl (r_callF (vs := [(Value.agg (AVal a1))]) rfl ok_113 ⟨et, trivial⟩) (Calls.mono (c_ref01_Valid (Dj F c5) w3 hI.lt a1 trivial r1 hx1) ?_)
 rintro _ w4 ⟨rfl, hx2, hl1⟩
 refine ⟨_, rfl, ?_⟩
 replace hI := (hI.ext hx2)
 refine sq (y_not rfl et) ?_
 refine sm ?_
 refine s_gval (g_false rfl rfl rfl rfl) rfl (fun hc => (y_loadN (l := (lVal b1)) rfl et u36 rfl size_36 (hI.kblk (l := (lVal b1)) .z rfl).1)) ?_
 obtain ⟨r2, hx3, h⟩ := bnd_some h
 replace hx3 := gd_some hx3
 refine s_gcallU (v := (vb r2)) (g_false rfl rfl rfl rfl) rfl (fun hc => (r_callF (vs := [(Value.agg (AVal b1))]) rfl ok_113 ⟨(ev_gv et hc), trivial⟩)) (fun hc => (c_ref01_Valid (Dj F c5) w4 hI.lt b1 trivial r2 (hx3 hc)).mono fun _ _ k => ⟨k.1, k.2.1⟩) ?_
 intro w5 hx4; replace hI := hI.ext hx4
 refine s_gval (g_false rfl rfl rfl rfl) rfl (fun hc => y_not rfl (ev_gv et hc)) ?_
 refine sq (y_or rfl et et) ?_
 refine nk (cif h et (fun hb h => ?_) (fun hb h => ?_))
 ·refine sr (sq (y_build (vs := []) (cs := #[vi 0, vi 0]) rfl trivial (by kernel_rfl)) ?_)
  refine l_store (new := [vi 0, vi 0]) (cs' := #[vi 0, vi 0]) hI .z gn rfl rfl et et rfl size_36 rfl rfl rfl ?_
  clear hI; intro c6 w6 hI
  refine sac ?_
  refine nk (c_ret ?_)
  obtain rfl := some_inj h
  exact q_ret (vs := [(Value.agg #[vi 0, vi 0]), vi 1]) Tryz.results84 ⟨⟨_, ev_tmp rfl rfl, load_agg (l := [vi 0, vi 0]) u36 rfl size_36 (CellsAt.of_blk (hI.blk .z) rfl)⟩, ⟨ev_tmp rfl rfl, trivial⟩⟩ (fq hI trivial)
 refine c_skip (k_same (sr (sq (y_fieldAddr rfl et u36 rfl size_2 rfl) ?_)))
 refine sq (y_load1 (v := (vi a1.N)) rfl et u2 rfl (hI.kblk (l := [vi a1.N]) (.s .z) rfl).1) ?_
 refine sq (y_fieldAddr rfl et u36 rfl size_2 rfl) ?_
 refine sq (y_load1 (v := (vi b1.D)) rfl et u2 rfl (hI.kblk (l := [vi b1.D]) .z rfl).1) ?_
 refine sq (y_mul rfl et et) ?_
 refine sq (y_fieldAddr rfl et u36 rfl size_2 rfl) ?_
 refine sq (y_load1 (v := (vi b1.N)) rfl et u2 rfl (hI.kblk (l := [vi b1.N]) .z rfl).1) ?_
 refine sq (y_fieldAddr rfl et u36 rfl size_2 rfl) ?_
 refine sq (y_load1 (v := (vi a1.D)) rfl et u2 rfl (hI.kblk (l := [vi a1.D]) (.s .z) rfl).1) ?_
 refine sq (y_mul rfl et et) ?_
 refine sq (y_sub rfl et et) ?_
 refine sq (y_fieldAddr rfl et u36 rfl size_2 rfl) ?_
 refine sq (y_load1 (v := (vi a1.D)) rfl et u2 rfl (hI.kblk (l := [vi a1.D]) (.s .z) rfl).1) ?_
 refine sq (y_fieldAddr rfl et u36 rfl size_2 rfl) ?_
 refine sq (y_load1 (v := (vi b1.D)) rfl et u2 rfl (hI.kblk (l := [vi b1.D]) .z rfl).1) ?_
 refine sq (y_mul rfl et et) ?_
 obtain ⟨r3, hx5, h⟩ := bnd_some h
 refine s_call gn rfl (r_callF (vs := [(vi (wi64 ((wi64 (a1.N * b1.D)) - (wi64 (b1.N * a1.D))))), (vi (wi64 (a1.D * b1.D)))]) rfl ok_114 ⟨et, ⟨et, trivial⟩⟩) (Calls.mono (c_ref01_New (Dj F c5) w5 hI.lt (wi64 ((wi64 (a1.N * b1.D)) - (wi64 (b1.N * a1.D)))) (wi64 (a1.D * b1.D)) trivial r3 hx5) ?_)
 rintro _ w7 ⟨rfl, hx6, hl3⟩
 refine ⟨_, rfl, ?_⟩
 replace hI := (hI.ext hx6)
 refine sq (y_extract rfl et rfl) ?_
 refine sq (y_extract rfl et rfl) ?_
 refine l_store (new := (lVal r3.1)) (cs' := (AVal r3.1)) hI .z gn rfl rfl et et rfl size_36 rfl rfl rfl ?_
 clear hI; intro c7 w8 hI
 refine sa ?_
 refine s_nil ?_
 refine k_next (e := [(4, vp b4 0), (5, vi r3.2)]) ⟨rfl, rfl, trivial⟩ ?_
 refine c_ret ?_
 obtain rfl := some_inj h
 exact q_ret (vs := [(Value.agg (AVal r3.1)), vi r3.2]) Tryz.results84 ⟨⟨_, ev_tmp rfl rfl, load_agg (l := (lVal r3.1)) u36 rfl size_36 (CellsAt.of_blk (hI.blk .z) rfl)⟩, ⟨ev_tmp rfl rfl, trivial⟩⟩ (fq hI trivial)
theorem c_ref01_Mul (F : NP) (w0 : World) (hF : ∀ k, F k → k < w0.heap.size) (a1 : GVal) (b1 : GVal) (hc : AllCl [] F w0) (r : GVal × Int)
  (h : m_ref01_Mul a1 b1 = some r) :
  Calls Tryz.prog 85 #[(Value.agg (AVal a1)), (Value.agg (AVal b1))] w0 fun e w => e = .returned (Value.tuple #[(Value.agg (AVal r.1)), vi r.2]) ∧ Ext w0 w ∧ AllCl [] F w := by
 refine enterK Tryz.func85 rfl Tryz.ntmps85 rfl ?_
 have hI := Bun.start hF hc
 clear hc
 rw [m_ref01_Mul] at h
 refine sr (l_box (v := (Value.agg (AVal a1))) (cs := (AVal a1)) hI gn rfl rfl et rfl ?_)
 clear hI; intro b2 c1 w1 hI
 obtain ⟨c2, hI⟩ := hI.relBox .z
 refine l_box (v := (Value.agg (AVal b1))) (cs := (AVal b1)) hI gn rfl rfl et rfl ?_
 clear hI; intro b3 c3 w2 hI
 obtain ⟨c4, hI⟩ := hI.relBox .z
 refine l_alloc (cs := #[vi 0, vi 0]) hI gn rfl rfl zero_36 rfl ?_
 clear hI; intro b4 c5 w3 hI
 refine sac ?_
 refine nk (c_seq (sr (sq (y_loadN (l := (lVal a1)) rfl et u36 rfl size_36 (hI.kblk (l := (lVal a1)) (.s .z) rfl).1) ?_)))
 obtain ⟨r1, hx1, h⟩ := bnd_some h
 refine s_call gn rfl (r_callF (vs := [(Value.agg (AVal a1))]) rfl ok_113 ⟨et, trivial⟩) (Calls.mono (c_ref01_Valid (Dj F c5) w3 hI.lt a1 trivial r1 hx1) ?_)
 rintro _ w4 ⟨rfl, hx2, hl1⟩
 refine ⟨_, rfl, ?_⟩
 replace hI := (hI.ext hx2)
 refine sq (y_not rfl et) ?_
 refine sm ?_
 refine s_gval (g_false rfl rfl rfl rfl) rfl (fun hc => (y_loadN (l := (lVal b1)) rfl et u36 rfl size_36 (hI.kblk (l := (lVal b1)) .z rfl).1)) ?_
 obtain ⟨r2, hx3, h⟩ := bnd_some h
 replace hx3 := gd_some hx3
 refine s_gcallU (v := (vb r2)) (g_false rfl rfl rfl rfl) rfl (fun hc => (r_callF (vs := [(Value.agg (AVal b1))]) rfl ok_113 ⟨(ev_gv et hc), trivial⟩)) (fun hc => (c_ref01_Valid (Dj F c5) w4 hI.lt b1 trivial r2 (hx3 hc)).mono fun _ _ k => ⟨k.1, k.2.1⟩) ?_
 intro w5 hx4; replace hI := hI.ext hx4
 refine s_gval (g_false rfl rfl rfl rfl) rfl (fun hc => y_not rfl (ev_gv et hc)) ?_
 refine sq (y_or rfl et et) ?_
 refine nk (cif h et (fun hb h => ?_) (fun hb h => ?_))
 ·refine sr (sq (y_build (vs := []) (cs := #[vi 0, vi 0]) rfl trivial (by kernel_rfl)) ?_)
  refine l_store (new := [vi 0, vi 0]) (cs' := #[vi 0, vi 0]) hI .z gn rfl rfl et et rfl size_36 rfl rfl rfl ?_
  clear hI; intro c6 w6 hI
  refine sac ?_
  refine nk (c_ret ?_)
  obtain rfl := some_inj h
  exact q_ret (vs := [(Value.agg #[vi 0, vi 0]), vi 1]) Tryz.results85 ⟨⟨_, ev_tmp rfl rfl, load_agg (l := [vi 0, vi 0]) u36 rfl size_36 (CellsAt.of_blk (hI.blk .z) rfl)⟩, ⟨ev_tmp rfl rfl, trivial⟩⟩ (fq hI trivial)
 refine c_skip (k_same (sr (sq (y_fieldAddr rfl et u36 rfl size_2 rfl) ?_)))
 refine sq (y_load1 (v := (vi a1.N)) rfl et u2 rfl (hI.kblk (l := [vi a1.N]) (.s .z) rfl).1) ?_
 refine sq (y_fieldAddr rfl et u36 rfl size_2 rfl) ?_
 refine sq (y_load1 (v := (vi b1.N)) rfl et u2 rfl (hI.kblk (l := [vi b1.N]) .z rfl).1) ?_
 refine sq (y_mul rfl et et) ?_
 refine sq (y_fieldAddr rfl et u36 rfl size_2 rfl) ?_
 refine sq (y_load1 (v := (vi a1.D)) rfl et u2 rfl (hI.kblk (l := [vi a1.D]) (.s .z) rfl).1) ?_
 refine sq (y_fieldAddr rfl et u36 rfl size_2 rfl) ?_
 refine sq (y_load1 (v := (vi b1.D)) rfl et u2 rfl (hI.kblk (l := [vi b1.D]) .z rfl).1) ?_
 refine sq (y_mul rfl et et) ?_
 obtain ⟨r3, hx5, h⟩ := bnd_some h
 refine s_call gn rfl (r_callF (vs := [(vi (wi64 (a1.N * b1.N))), (vi (wi64 (a1.D * b1.D)))]) rfl ok_114 ⟨et, ⟨et, trivial⟩⟩) (Calls.mono (c_ref01_New (Dj F c5) w5 hI.lt (wi64 (a1.N * b1.N)) (wi64 (a1.D * b1.D)) trivial r3 hx5) ?_)
 rintro _ w7 ⟨rfl, hx6, hl3⟩
 refine ⟨_, rfl, ?_⟩
 replace hI := (hI.ext hx6)
 refine sq (y_extract rfl et rfl) ?_
 refine sq (y_extract rfl et rfl) ?_
 refine l_store (new := (lVal r3.1)) (cs' := (AVal r3.1)) hI .z gn rfl rfl et et rfl size_36 rfl rfl rfl ?_
 clear hI; intro c7 w8 hI
 refine sa ?_
 refine s_nil ?_
 refine k_next (e := [(4, vp b4 0), (5, vi r3.2)]) ⟨rfl, rfl, trivial⟩ ?_
 refine c_ret ?_
 obtain rfl := some_inj h
 exact q_ret (vs := [(Value.agg (AVal r3.1)), vi r3.2]) Tryz.results85 ⟨⟨_, ev_tmp rfl rfl, load_agg (l := (lVal r3.1)) u36 rfl size_36 (CellsAt.of_blk (hI.blk .z) rfl)⟩, ⟨ev_tmp rfl rfl, trivial⟩⟩ (fq hI trivial)
theorem c_ref01_Div (F : NP) (w0 : World) (hF : ∀ k, F k → k < w0.heap.size) (a1 : GVal) (b1 : GVal) (hc : AllCl [] F w0) (r : GVal × Int)
  (h : m_ref01_Div a1 b1 = some r) :
  Calls Tryz.prog 86 #[(Value.agg (AVal a1)), (Value.agg (AVal b1))] w0 fun e w => e = .returned (Value.tuple #[(Value.agg (AVal r.1)), vi r.2]) ∧ Ext w0 w ∧ AllCl [] F w := by
 refine enterK Tryz.func86 rfl Tryz.ntmps86 rfl ?_
 have hI := Bun.start hF hc
 clear hc
 rw [m_ref01_Div] at h
 refine sr (l_box (v := (Value.agg (AVal a1))) (cs := (AVal a1)) hI gn rfl rfl et rfl ?_)
 clear hI; intro b2 c1 w1 hI
 obtain ⟨c2, hI⟩ := hI.relBox .z
 refine l_box (v := (Value.agg (AVal b1))) (cs := (AVal b1)) hI gn rfl rfl et rfl ?_
 clear hI; intro b3 c3 w2 hI
 obtain ⟨c4, hI⟩ := hI.relBox .z
 refine l_alloc (cs := #[vi 0, vi 0]) hI gn rfl rfl zero_36 rfl ?_
 clear hI; intro b4 c5 w3 hI
 refine sac ?_
 refine nk (c_seq (sr (sq (y_loadN (l := (lVal a1)) rfl et u36 rfl size_36 (hI.kblk (l := (lVal a1)) (.s .z) rfl).1) ?_)))
 obtain ⟨r1, hx1, h⟩ := bnd_some h
 refine s_call gn rfl (r_callF (vs := [(Value.agg (AVal a1))]) rfl ok_113 ⟨et, trivial⟩) (Calls.mono (c_ref01_Valid (Dj F c5) w3 hI.lt a1 trivial r1 hx1) ?_)
 rintro _ w4 ⟨rfl, hx2, hl1⟩
 refine ⟨_, rfl, ?_⟩
 replace hI := (hI.ext hx2)
 refine sq (y_not rfl et) ?_
 refine sm ?_
 refine s_gval (g_false rfl rfl rfl rfl) rfl (fun hc => (y_loadN (l := (lVal b1)) rfl et u36 rfl size_36 (hI.kblk (l := (lVal b1)) .z rfl).1)) ?_
 obtain ⟨r2, hx3, h⟩ := bnd_some h
 replace hx3 := gd_some hx3
 refine s_gcallU (v := (vb r2)) (g_false rfl rfl rfl rfl) rfl (fun hc => (r_callF (vs := [(Value.agg (AVal b1))]) rfl ok_113 ⟨(ev_gv et hc), trivial⟩)) (fun hc => (c_ref01_Valid (Dj F c5) w4 hI.lt b1 trivial r2 (hx3 hc)).mono fun _ _ k => ⟨k.1, k.2.1⟩) ?_
 intro w5 hx4; replace hI := hI.ext hx4
 refine s_gval (g_false rfl rfl rfl rfl) rfl (fun hc => y_not rfl (ev_gv et hc)) ?_
 refine sq (y_or rfl et et) ?_
 refine nk (cif h et (fun hb h => ?_) (fun hb h => ?_))
 ·refine sr (sq (y_build (vs := []) (cs := #[vi 0, vi 0]) rfl trivial (by kernel_rfl)) ?_)
  refine l_store (new := [vi 0, vi 0]) (cs' := #[vi 0, vi 0]) hI .z gn rfl rfl et et rfl size_36 rfl rfl rfl ?_
  clear hI; intro c6 w6 hI
  refine sac ?_
  refine nk (c_ret ?_)
  obtain rfl := some_inj h
  exact q_ret (vs := [(Value.agg #[vi 0, vi 0]), vi 1]) Tryz.results86 ⟨⟨_, ev_tmp rfl rfl, load_agg (l := [vi 0, vi 0]) u36 rfl size_36 (CellsAt.of_blk (hI.blk .z) rfl)⟩, ⟨ev_tmp rfl rfl, trivial⟩⟩ (fq hI trivial)
 refine c_skip (k_same (sr (sq (y_fieldAddr rfl et u36 rfl size_2 rfl) ?_)))
 refine sq (y_load1 (v := (vi a1.N)) rfl et u2 rfl (hI.kblk (l := [vi a1.N]) (.s .z) rfl).1) ?_
 refine sq (y_fieldAddr rfl et u36 rfl size_2 rfl) ?_
 refine sq (y_load1 (v := (vi b1.D)) rfl et u2 rfl (hI.kblk (l := [vi b1.D]) .z rfl).1) ?_
 refine sq (y_mul rfl et et) ?_
 refine sq (y_fieldAddr rfl et u36 rfl size_2 rfl) ?_
 refine sq (y_load1 (v := (vi a1.D)) rfl et u2 rfl (hI.kblk (l := [vi a1.D]) (.s .z) rfl).1) ?_
 refine sq (y_fieldAddr rfl et u36 rfl size_2 rfl) ?_
 refine sq (y_load1 (v := (vi b1.N)) rfl et u2 rfl (hI.kblk (l := [vi b1.N]) .z rfl).1) ?_
 refine sq (y_mul rfl et et) ?_
 obtain ⟨r3, hx5, h⟩ := bnd_some h
 refine s_call gn rfl (r_callF (vs := [(vi (wi64 (a1.N * b1.D))), (vi (wi64 (a1.D * b1.N)))]) rfl ok_114 ⟨et, ⟨et, trivial⟩⟩) (Calls.mono (c_ref01_New (Dj F c5) w5 hI.lt (wi64 (a1.N * b1.D)) (wi64 (a1.D * b1.N)) trivial r3 hx5) ?_)
 rintro _ w7 ⟨rfl, hx6, hl3⟩
 refine ⟨_, rfl, ?_⟩
 replace hI := (hI.ext hx6)
 refine sq (y_extract rfl et rfl) ?_
 refine sq (y_extract rfl et rfl) ?_
 refine l_store (new := (lVal r3.1)) (cs' := (AVal r3.1)) hI .z gn rfl rfl et et rfl size_36 rfl rfl rfl ?_
 clear hI; intro c7 w8 hI
 refine sa ?_
 refine s_nil ?_
 refine k_next (e := [(4, vp b4 0), (5, vi r3.2)]) ⟨rfl, rfl, trivial⟩ ?_
 refine c_ret ?_
 obtain rfl := some_inj h
 exact q_ret (vs := [(Value.agg (AVal r3.1)), vi r3.2]) Tryz.results86 ⟨⟨_, ev_tmp rfl rfl, load_agg (l := (lVal r3.1)) u36 rfl size_36 (CellsAt.of_blk (hI.blk .z) rfl)⟩, ⟨ev_tmp rfl rfl, trivial⟩⟩ (fq hI trivial)
theorem c_ref01_Neg (F : NP) (w0 : World) (hF : ∀ k, F k → k < w0.heap.size) (a1 : GVal) (hc : AllCl [] F w0) (r : GVal)
  (h : m_ref01_Neg a1 = some r) :
  Calls Tryz.prog 87 #[(Value.agg (AVal a1))] w0 fun e w => e = .returned (Value.agg (AVal r)) ∧ Ext w0 w ∧ AllCl [] F w := by
 refine enterK Tryz.func87 rfl Tryz.ntmps87 rfl ?_
 have hI := Bun.start hF hc
 clear hc
 rw [m_ref01_Neg] at h
 refine sr (l_box (v := (Value.agg (AVal a1))) (cs := (AVal a1)) hI gn rfl rfl et rfl ?_)
 clear hI; intro b1 c1 w1 hI
 obtain ⟨c2, hI⟩ := hI.relBox .z
 refine l_alloc (cs := #[vi 0, vi 0]) hI gn rfl rfl zero_36 rfl ?_
 clear hI; intro b2 c3 w2 hI
 refine nk (c_seq (sr (sq (y_loadN (l := (lVal a1)) rfl et u36 rfl size_36 (hI.kblk (l := (lVal a1)) .z rfl).1) ?_)))
 obtain ⟨r1, hx1, h⟩ := bnd_some h
 refine s_call gn rfl (r_callF (vs := [(Value.agg (AVal a1))]) rfl ok_113 ⟨et, trivial⟩) (Calls.mono (c_ref01_Valid (Dj F c3) w2 hI.lt a1 trivial r1 hx1) ?_)
 rintro _ w3 ⟨rfl, hx2, hl1⟩
 refine ⟨_, rfl, ?_⟩
 replace hI := (hI.ext hx2)
 refine sq (y_not rfl et) ?_
 refine nk (cif h et (fun hb h => ?_) (fun hb h => ?_))
 ·refine sr (sq (y_build (vs := []) (cs := #[vi 0, vi 0]) rfl trivial (by kernel_rfl)) ?_)
  refine l_store (new := [vi 0, vi 0]) (cs' := #[vi 0, vi 0]) hI .z gn rfl rfl et et rfl size_36 rfl rfl rfl ?_
  clear hI; intro c4 w4 hI
  refine nk (c_ret ?_)
  obtain rfl := some_inj h
  exact q_ret (vs := [(Value.agg #[vi 0, vi 0])]) Tryz.results87 ⟨⟨_, ev_tmp rfl rfl, load_agg (l := [vi 0, vi 0]) u36 rfl size_36 (CellsAt.of_blk (hI.blk .z) rfl)⟩, trivial⟩ (fq hI trivial)
 refine c_skip (k_same (sr (sq (y_fieldAddr rfl et u36 rfl size_2 rfl) ?_)))
 refine sq (y_load1 (v := (vi a1.N)) rfl et u2 rfl (hI.kblk (l := [vi a1.N]) .z rfl).1) ?_
 refine sq (y_neg rfl et) ?_
 refine sq (y_fieldAddr rfl et u36 rfl size_2 rfl) ?_
 refine sq (y_load1 (v := (vi a1.D)) rfl et u2 rfl (hI.kblk (l := [vi a1.D]) .z rfl).1) ?_
 refine sq (y_build (vs := [(0, (vi (wi64 (-a1.N)))), (1, vi a1.D)]) (cs := #[(vi (wi64 (-a1.N))), vi a1.D]) rfl ⟨rfl, et, ⟨rfl, et, trivial⟩⟩ (by kernel_rfl)) ?_
 refine l_store (new := [(vi (wi64 (-a1.N))), vi a1.D]) (cs' := #[(vi (wi64 (-a1.N))), vi a1.D]) hI .z gn rfl rfl et et rfl size_36 rfl rfl rfl ?_
 clear hI; intro c5 w5 hI
 refine nk (c_ret ?_)
 obtain rfl := some_inj h
 exact q_ret (vs := [(Value.agg #[(vi (wi64 (-a1.N))), vi a1.D])]) Tryz.results87 ⟨⟨_, ev_tmp rfl rfl, load_agg (l := [(vi (wi64 (-a1.N))), vi a1.D]) u36 rfl size_36 (CellsAt.of_blk (hI.blk .z) rfl)⟩, trivial⟩ (fq hI trivial)
theorem c_ref04_Apply (F : NP) (w0 : World) (hF : ∀ k, F k → k < w0.heap.size) (op1 : Int) (t1 : GType) (a1 : GVal) (b1 : GVal) (hc : AllCl [] F w0) (r : GVal × Int)
  (h : m_ref04_Apply op1 t1 a1 b1 = some r) :
  Calls Tryz.prog 48 #[vi op1, (Value.agg (AType t1)), (Value.agg (AVal a1)), (Value.agg (AVal b1))] w0 fun e w => e = .returned (Value.tuple #[(Value.agg (AVal r.1)), vi r.2]) ∧ Ext w0 w ∧ AllCl [] F w := by
 refine enterK Tryz.func48 rfl Tryz.ntmps48 rfl ?_
 have hI := Bun.start hF hc
 clear hc
 rw [m_ref04_Apply] at h
 refine sr (l_box (v := (Value.agg (AType t1))) (cs := (AType t1)) hI gn rfl rfl et rfl ?_)
 clear hI; intro b2 c1 w1 hI
 obtain ⟨c2, hI⟩ := hI.relBox .z
 refine l_box (v := (Value.agg (AVal a1))) (cs := (AVal a1)) hI gn rfl rfl et rfl ?_
 clear hI; intro b3 c3 w2 hI
 obtain ⟨c4, hI⟩ := hI.relBox .z
 refine l_box (v := (Value.agg (AVal b1))) (cs := (AVal b1)) hI gn rfl rfl et rfl ?_
 clear hI; intro b4 c5 w3 hI
 obtain ⟨c6, hI⟩ := hI.relBox .z
 refine l_alloc (cs := #[vi 0, vi 0]) hI gn rfl rfl zero_36 rfl ?_
 clear hI; intro b5 c7 w4 hI
 refine sac ?_
 refine nk (c_seq (sr (sm ?_)))
 refine sq (y_lss rfl et ev_const) ?_
 refine sm ?_
 refine s_gval (g_false rfl rfl rfl rfl) rfl (fun hc => y_move rfl et) ?_
 refine s_gval (g_false rfl rfl rfl rfl) rfl (fun hc => y_gtr rfl (ev_gv et hc) ev_const) ?_
 refine sq (y_or rfl et et) ?_
 refine nk (cif h et (fun hb h => ?_) (fun hb h => ?_))
 ·refine sr (sq (y_build (vs := []) (cs := #[vi 0, vi 0]) rfl trivial (by kernel_rfl)) ?_)
  refine l_store (new := [vi 0, vi 0]) (cs' := #[vi 0, vi 0]) hI .z gn rfl rfl et et rfl size_36 rfl rfl rfl ?_
  clear hI; intro c8 w5 hI
  refine sac ?_
  refine nk (c_ret ?_)
  obtain rfl := some_inj h
  exact q_ret (vs := [(Value.agg #[vi 0, vi 0]), vi 1]) Tryz.results48 ⟨⟨_, ev_tmp rfl rfl, load_agg (l := [vi 0, vi 0]) u36 rfl size_36 (CellsAt.of_blk (hI.blk .z) rfl)⟩, ⟨ev_tmp rfl rfl, trivial⟩⟩ (fq hI trivial)
 refine c_skip (k_same (c_seq (sr (sq (y_loadN (l := (lType t1)) rfl et u23 rfl size_23 (hI.kblk (l := (lType t1)) (.s (.s .z)) rfl).1) ?_))))
 obtain ⟨r1, hx1, h⟩ := bnd_some h
 refine s_call gn rfl (r_callF (vs := [(Value.agg (AType t1))]) rfl ok_60 ⟨et, trivial⟩) (Calls.mono (c_base_Type (Dj F c7) w4 hI.lt t1 trivial r1 hx1) ?_)
 rintro _ w6 ⟨rfl, hx2, hl1⟩
 refine ⟨_, rfl, ?_⟩
 replace hI := (hI.ext hx2)
 refine sq (y_not rfl et) ?_
 refine nk (cif h et (fun hb h => ?_) (fun hb h => ?_))
 ·refine sr (sq (y_build (vs := []) (cs := #[vi 0, vi 0]) rfl trivial (by kernel_rfl)) ?_)
  refine l_store (new := [vi 0, vi 0]) (cs' := #[vi 0, vi 0]) hI .z gn rfl rfl et et rfl size_36 rfl rfl rfl ?_
  clear hI; intro c9 w7 hI
  refine sac ?_
  refine nk (c_ret ?_)
  obtain rfl := some_inj h
  exact q_ret (vs := [(Value.agg #[vi 0, vi 0]), vi 10]) Tryz.results48 ⟨⟨_, ev_tmp rfl rfl, load_agg (l := [vi 0, vi 0]) u36 rfl size_36 (CellsAt.of_blk (hI.blk .z) rfl)⟩, ⟨ev_tmp rfl rfl, trivial⟩⟩ (fq hI trivial)
 refine c_skip (k_same (c_seq (sr (sq (y_loadN (l := (lType t1)) rfl et u23 rfl size_23 (hI.kblk (l := (lType t1)) (.s (.s .z)) rfl).1) ?_))))
 refine sq (y_loadN (l := (lVal a1)) rfl et u36 rfl size_36 (hI.kblk (l := (lVal a1)) (.s .z) rfl).1) ?_
 obtain ⟨r2, hx3, h⟩ := bnd_some h
 refine s_call gn rfl (r_callF (vs := [(Value.agg (AType t1)), (Value.agg (AVal a1))]) rfl ok_56 ⟨et, ⟨et, trivial⟩⟩) (Calls.mono (c_base_Val (Dj F c7) w6 hI.lt t1 a1 trivial r2 hx3) ?_)
 rintro _ w8 ⟨rfl, hx4, hl2⟩
 refine ⟨_, rfl, ?_⟩
 replace hI := (hI.ext hx4)
 refine sq (y_not rfl et) ?_
 refine sm ?_
 refine s_gval (g_false rfl rfl rfl rfl) rfl (fun hc => y_move rfl et) ?_
 refine s_gval (g_false rfl rfl rfl rfl) rfl (fun hc => y_neq rfl (ev_gv et hc) ev_const) ?_
 refine s_gval (g_false rfl rfl rfl rfl) rfl (fun hc => y_move rfl (ev_gv et hc)) ?_
 refine s_gval (g_true2 rfl rfl rfl rfl) rfl (fun hc => (y_loadN (l := (lType t1)) rfl et u23 rfl size_23 (hI.kblk (l := (lType t1)) (.s (.s .z)) rfl).1)) ?_
 refine s_gval (g_true2 rfl rfl rfl rfl) rfl (fun hc => (y_loadN (l := (lVal b1)) rfl et u36 rfl size_36 (hI.kblk (l := (lVal b1)) .z rfl).1)) ?_
 obtain ⟨r3, hx5, h⟩ := bnd_some h
 replace hx5 := gd_some hx5
 refine s_gcallU (v := (vb r3)) (g_true2 rfl rfl rfl rfl) rfl (fun hc => (r_callF (vs := [(Value.agg (AType t1)), (Value.agg (AVal b1))]) rfl ok_56 ⟨(ev_gv et hc), ⟨(ev_gv et hc), trivial⟩⟩)) (fun hc => (c_base_Val (Dj F c7) w8 hI.lt t1 b1 trivial r3 (hx5 hc)).mono fun _ _ k => ⟨k.1, k.2.1⟩) ?_
 intro w9 hx6; replace hI := hI.ext hx6
 refine s_gval (g_true2 rfl rfl rfl rfl) rfl (fun hc => y_not rfl (ev_gv et hc)) ?_
 refine s_gval (g_false rfl rfl rfl rfl) rfl (fun hc => y_and2 rfl hc et et) ?_
 refine sq (y_or rfl et et) ?_
 refine s_nil ?_
 refine k_next (e := [(0, vi op1), (5, vp b2 0), (6, vp b3 0), (7, vp b4 0), (8, vp b5 0), (34, (vb ((!r2) || ((!decide (op1 = 8)) && (!r3)))))]) ⟨rfl, rfl, rfl, rfl, rfl, rfl, trivial⟩ ?_
 refine cif h et (fun hb h => ?_) (fun hb h => ?_)
 ·refine sr (sq (y_build (vs := []) (cs := #[vi 0, vi 0]) rfl trivial (by kernel_rfl)) ?_)
  refine l_store (new := [vi 0, vi 0]) (cs' := #[vi 0, vi 0]) hI .z gn rfl rfl et et rfl size_36 rfl rfl rfl ?_
  clear hI; intro c10 w10 hI
  refine sac ?_
  refine nk (c_ret ?_)
  obtain rfl := some_inj h
  exact q_ret (vs := [(Value.agg #[vi 0, vi 0]), vi 1]) Tryz.results48 ⟨⟨_, ev_tmp rfl rfl, load_agg (l := [vi 0, vi 0]) u36 rfl size_36 (CellsAt.of_blk (hI.blk .z) rfl)⟩, ⟨ev_tmp rfl rfl, trivial⟩⟩ (fq hI trivial)
 refine c_skip (k_same (c_seq (sr (sm ?_))))
 refine sq (y_eql rfl et ev_const) ?_
 refine sm ?_
 refine s_gval (g_false rfl rfl rfl rfl) rfl (fun hc => y_move rfl et) ?_
 refine s_gval (g_false rfl rfl rfl rfl) rfl (fun hc => y_eql rfl (ev_gv et hc) ev_const) ?_
 refine sq (y_or rfl et et) ?_
 refine nk (cif h et (fun hb h => ?_) (fun hb h => ?_))
 ·refine c_seq (sr (sq (y_loadN (l := (lType t1)) rfl et u23 rfl size_23 (hI.kblk (l := (lType t1)) (.s (.s .z)) rfl).1) ?_))
  refine sq (y_loadN (l := (lVal a1)) rfl et u36 rfl size_36 (hI.kblk (l := (lVal a1)) (.s .z) rfl).1) ?_
  refine sq (y_loadN (l := (lVal b1)) rfl et u36 rfl size_36 (hI.kblk (l := (lVal b1)) .z rfl).1) ?_
  obtain ⟨r4, hx7, h⟩ := bnd_some h
  refine s_call gn rfl (r_callF (vs := [(Value.agg (AType t1)), (Value.agg (AVal a1)), (Value.agg (AVal b1))]) rfl ok_80 ⟨et, ⟨et, ⟨et, trivial⟩⟩⟩) (Calls.mono (c_ref04_Compare (Dj F c7) w9 hI.lt t1 a1 b1 trivial r4 hx7) ?_)
  rintro _ w11 ⟨rfl, hx8, hl4⟩
  refine ⟨_, rfl, ?_⟩
  replace hI := (hI.ext hx8)
  refine sq (y_gtr rfl et ev_const) ?_
  refine sm ?_
  refine sq (y_eql rfl et ev_const) ?_
  refine sq (y_eqb rfl u4 et et) ?_
  refine nk (cif h et (fun hb h => ?_) (fun hb h => ?_))
  ·refine sr (sq (y_loadN (l := (lVal b1)) rfl et u36 rfl size_36 (hI.kblk (l := (lVal b1)) .z rfl).1) ?_)
   refine l_store (new := (lVal b1)) (cs' := (AVal b1)) hI .z gn rfl rfl et et rfl size_36 rfl rfl rfl ?_
   clear hI; intro c11 w12 hI
   refine sac ?_
   refine nk (c_ret ?_)
   obtain rfl := some_inj h
   exact q_ret (vs := [(Value.agg (AVal b1)), vi 0]) Tryz.results48 ⟨⟨_, ev_tmp rfl rfl, load_agg (l := (lVal b1)) u36 rfl size_36 (CellsAt.of_blk (hI.blk .z) rfl)⟩, ⟨ev_tmp rfl rfl, trivial⟩⟩ (fq hI trivial)
  refine c_skip (k_same (sr (sq (y_loadN (l := (lVal a1)) rfl et u36 rfl size_36 (hI.kblk (l := (lVal a1)) (.s .z) rfl).1) ?_)))
  refine l_store (new := (lVal a1)) (cs' := (AVal a1)) hI .z gn rfl rfl et et rfl size_36 rfl rfl rfl ?_
  clear hI; intro c12 w13 hI
  refine sac ?_
  refine nk (c_ret ?_)
  obtain rfl := some_inj h
  exact q_ret (vs := [(Value.agg (AVal a1)), vi 0]) Tryz.results48 ⟨⟨_, ev_tmp rfl rfl, load_agg (l := (lVal a1)) u36 rfl size_36 (CellsAt.of_blk (hI.blk .z) rfl)⟩, ⟨ev_tmp rfl rfl, trivial⟩⟩ (fq hI trivial)
 refine c_skip (k_same (c_seq (sr (sq (y_fieldAddr rfl et u23 rfl size_3 rfl) ?_))))
 refine sq (y_load1 (v := (vi t1.Kind)) rfl et u3 rfl (hI.kblk (l := [vi t1.Kind]) (.s (.s .z)) rfl).1) ?_
 refine sq (y_eql rfl et ev_const) ?_
 refine nk (cif h et (fun hb h => ?_) (fun hb h => ?_))
 ·refine sr (sm ?_)
  refine sq (y_loadN (l := (lType t1)) rfl et u23 rfl size_23 (hI.kblk (l := (lType t1)) (.s (.s .z)) rfl).1) ?_
  refine sq (y_fieldAddr rfl et u36 rfl size_2 rfl) ?_
  refine sq (y_load1 (v := (vi a1.N)) rfl et u2 rfl (hI.kblk (l := [vi a1.N]) (.s .z) rfl).1) ?_
  refine sq (y_fieldAddr rfl et u36 rfl size_2 rfl) ?_
  refine sq (y_load1 (v := (vi b1.N)) rfl et u2 rfl (hI.kblk (l := [vi b1.N]) .z rfl).1) ?_
  obtain ⟨r5, hx9, h⟩ := bnd_some h
  refine s_call gn rfl (r_callF (vs := [vi op1, (Value.agg (AType t1)), vi a1.N, vi b1.N]) rfl ok_81 ⟨et, ⟨et, ⟨et, ⟨et, trivial⟩⟩⟩⟩) (Calls.mono (c_ref04_fix (Dj F c7) w9 hI.lt op1 t1 a1.N b1.N trivial r5 hx9) ?_)
  rintro _ w14 ⟨rfl, hx10, hl5⟩
  refine ⟨_, rfl, ?_⟩
  replace hI := (hI.ext hx10)
  refine sq (y_extract rfl et rfl) ?_
  refine sq (y_extract rfl et rfl) ?_
  refine l_store (new := (lVal r5.1)) (cs' := (AVal r5.1)) hI .z gn rfl rfl et et rfl size_36 rfl rfl rfl ?_
  clear hI; intro c13 w15 hI
  refine sa ?_
  refine nk (c_ret ?_)
  obtain rfl := some_inj h
  exact q_ret (vs := [(Value.agg (AVal r5.1)), vi r5.2]) Tryz.results48 ⟨⟨_, ev_tmp rfl rfl, load_agg (l := (lVal r5.1)) u36 rfl size_36 (CellsAt.of_blk (hI.blk .z) rfl)⟩, ⟨ev_tmp rfl rfl, trivial⟩⟩ (fq hI trivial)
 refine c_skip (k_same (c_seq (sr (sq (y_fieldAddr rfl et u23 rfl size_3 rfl) ?_))))
 refine sq (y_load1 (v := (vi t1.Kind)) rfl et u3 rfl (hI.kblk (l := [vi t1.Kind]) (.s (.s .z)) rfl).1) ?_
 refine sq (y_eql rfl et ev_const) ?_
 refine nk (cif h et (fun hb h => ?_) (fun hb h => ?_))
 ·refine sr (sm ?_)
  refine sq (y_fieldAddr rfl et u36 rfl size_2 rfl) ?_
  refine sq (y_load1 (v := (vi a1.N)) rfl et u2 rfl (hI.kblk (l := [vi a1.N]) (.s .z) rfl).1) ?_
  refine sq (y_fieldAddr rfl et u36 rfl size_2 rfl) ?_
  refine sq (y_load1 (v := (vi b1.N)) rfl et u2 rfl (hI.kblk (l := [vi b1.N]) .z rfl).1) ?_
  obtain ⟨r6, hx11, h⟩ := bnd_some h
  refine s_call gn rfl (r_callF (vs := [vi op1, vi a1.N, vi b1.N]) rfl ok_82 ⟨et, ⟨et, ⟨et, trivial⟩⟩⟩) (Calls.mono (c_ref04_whole (Dj F c7) w9 hI.lt op1 a1.N b1.N trivial r6 hx11) ?_)
  rintro _ w16 ⟨rfl, hx12, hl6⟩
  refine ⟨_, rfl, ?_⟩
  replace hI := (hI.ext hx12)
  refine sq (y_extract rfl et rfl) ?_
  refine sq (y_extract rfl et rfl) ?_
  refine l_store (new := (lVal r6.1)) (cs' := (AVal r6.1)) hI .z gn rfl rfl et et rfl size_36 rfl rfl rfl ?_
  clear hI; intro c14 w17 hI
  refine sa ?_
  refine s_nil ?_
  refine k_next (e := [(8, vp b5 0), (9, vi r6.2)]) ⟨rfl, rfl, trivial⟩ ?_
  refine c_ret ?_
  obtain rfl := some_inj h
  exact q_ret (vs := [(Value.agg (AVal r6.1)), vi r6.2]) Tryz.results48 ⟨⟨_, ev_tmp rfl rfl, load_agg (l := (lVal r6.1)) u36 rfl size_36 (CellsAt.of_blk (hI.blk .z) rfl)⟩, ⟨ev_tmp rfl rfl, trivial⟩⟩ (fq hI trivial)
 refine c_skip (k_same (c_seq (sr (sm ?_))))
 refine nk (c_block (sr (sq (y_eql rfl et ev_const) ?_)))
 refine sa ?_
 refine nk (cif h et (fun hb h => ?_) (fun hb h => ?_))
 ·refine sr (sq (y_loadN (l := (lVal a1)) rfl et u36 rfl size_36 (hI.kblk (l := (lVal a1)) (.s .z) rfl).1) ?_)
  refine sq (y_loadN (l := (lVal b1)) rfl et u36 rfl size_36 (hI.kblk (l := (lVal b1)) .z rfl).1) ?_
  obtain ⟨r7, hx13, h⟩ := bnd_some h
  refine s_call gn rfl (r_callF (vs := [(Value.agg (AVal a1)), (Value.agg (AVal b1))]) rfl ok_83 ⟨et, ⟨et, trivial⟩⟩) (Calls.mono (c_ref01_Add (Dj F c7) w9 hI.lt a1 b1 trivial r7 hx13) ?_)
  rintro _ w18 ⟨rfl, hx14, hl7⟩
  refine ⟨_, rfl, ?_⟩
  replace hI := (hI.ext hx14)
  refine sq (y_extract rfl et rfl) ?_
  refine sq (y_extract rfl et rfl) ?_
  refine l_store (new := (lVal r7.1)) (cs' := (AVal r7.1)) hI .z gn rfl rfl et et rfl size_36 rfl rfl rfl ?_
  clear hI; intro c15 w19 hI
  refine sa ?_
  refine s_nil ?_
  refine k_next (e := [(8, vp b5 0), (9, vi r7.2)]) ⟨rfl, rfl, trivial⟩ ?_
  refine c_ret ?_
  obtain rfl := some_inj h
  exact q_ret (vs := [(Value.agg (AVal r7.1)), vi r7.2]) Tryz.results48 ⟨⟨_, ev_tmp rfl rfl, load_agg (l := (lVal r7.1)) u36 rfl size_36 (CellsAt.of_blk (hI.blk .z) rfl)⟩, ⟨ev_tmp rfl rfl, trivial⟩⟩ (fq hI trivial)
 refine sr (sq (y_eql rfl et ev_const) ?_)
 refine sa ?_
 refine nk (cif h et (fun hb h => ?_) (fun hb h => ?_))
 ·refine sr (sq (y_loadN (l := (lVal a1)) rfl et u36 rfl size_36 (hI.kblk (l := (lVal a1)) (.s .z) rfl).1) ?_)
  refine sq (y_loadN (l := (lVal b1)) rfl et u36 rfl size_36 (hI.kblk (l := (lVal b1)) .z rfl).1) ?_
  obtain ⟨r8, hx15, h⟩ := bnd_some h
  refine s_call gn rfl (r_callF (vs := [(Value.agg (AVal a1)), (Value.agg (AVal b1))]) rfl ok_84 ⟨et, ⟨et, trivial⟩⟩) (Calls.mono (c_ref01_Sub (Dj F c7) w9 hI.lt a1 b1 trivial r8 hx15) ?_)
  rintro _ w20 ⟨rfl, hx16, hl8⟩
  refine ⟨_, rfl, ?_⟩
  replace hI := (hI.ext hx16)
  refine sq (y_extract rfl et rfl) ?_
  refine sq (y_extract rfl et rfl) ?_
  refine l_store (new := (lVal r8.1)) (cs' := (AVal r8.1)) hI .z gn rfl rfl et et rfl size_36 rfl rfl rfl ?_
  clear hI; intro c16 w21 hI
  refine sa ?_
  refine s_nil ?_
  refine k_next (e := [(8, vp b5 0), (9, vi r8.2)]) ⟨rfl, rfl, trivial⟩ ?_
  refine c_ret ?_
  obtain rfl := some_inj h
  exact q_ret (vs := [(Value.agg (AVal r8.1)), vi r8.2]) Tryz.results48 ⟨⟨_, ev_tmp rfl rfl, load_agg (l := (lVal r8.1)) u36 rfl size_36 (CellsAt.of_blk (hI.blk .z) rfl)⟩, ⟨ev_tmp rfl rfl, trivial⟩⟩ (fq hI trivial)
 refine sr (sq (y_eql rfl et ev_const) ?_)
 refine sa ?_
 refine nk (cif h et (fun hb h => ?_) (fun hb h => ?_))
 ·refine sr (sq (y_loadN (l := (lVal a1)) rfl et u36 rfl size_36 (hI.kblk (l := (lVal a1)) (.s .z) rfl).1) ?_)
  refine sq (y_loadN (l := (lVal b1)) rfl et u36 rfl size_36 (hI.kblk (l := (lVal b1)) .z rfl).1) ?_
  obtain ⟨r9, hx17, h⟩ := bnd_some h
  refine s_call gn rfl (r_callF (vs := [(Value.agg (AVal a1)), (Value.agg (AVal b1))]) rfl ok_85 ⟨et, ⟨et, trivial⟩⟩) (Calls.mono (c_ref01_Mul (Dj F c7) w9 hI.lt a1 b1 trivial r9 hx17) ?_)
  rintro _ w22 ⟨rfl, hx18, hl9⟩
  refine ⟨_, rfl, ?_⟩
  replace hI := (hI.ext hx18)
  refine sq (y_extract rfl et rfl) ?_
  refine sq (y_extract rfl et rfl) ?_
  refine l_store (new := (lVal r9.1)) (cs' := (AVal r9.1)) hI .z gn rfl rfl et et rfl size_36 rfl rfl rfl ?_
  clear hI; intro c17 w23 hI
  refine sa ?_
  refine s_nil ?_
  refine k_next (e := [(8, vp b5 0), (9, vi r9.2)]) ⟨rfl, rfl, trivial⟩ ?_
  refine c_ret ?_
  obtain rfl := some_inj h
  exact q_ret (vs := [(Value.agg (AVal r9.1)), vi r9.2]) Tryz.results48 ⟨⟨_, ev_tmp rfl rfl, load_agg (l := (lVal r9.1)) u36 rfl size_36 (CellsAt.of_blk (hI.blk .z) rfl)⟩, ⟨ev_tmp rfl rfl, trivial⟩⟩ (fq hI trivial)
 refine sr (sq (y_eql rfl et ev_const) ?_)
 refine sa ?_
 refine nk (cif h et (fun hb h => ?_) (fun hb h => ?_))
 ·refine sr (sq (y_loadN (l := (lVal a1)) rfl et u36 rfl size_36 (hI.kblk (l := (lVal a1)) (.s .z) rfl).1) ?_)
  refine sq (y_loadN (l := (lVal b1)) rfl et u36 rfl size_36 (hI.kblk (l := (lVal b1)) .z rfl).1) ?_
  obtain ⟨r10, hx19, h⟩ := bnd_some h
  refine s_call gn rfl (r_callF (vs := [(Value.agg (AVal a1)), (Value.agg (AVal b1))]) rfl ok_86 ⟨et, ⟨et, trivial⟩⟩) (Calls.mono (c_ref01_Div (Dj F c7) w9 hI.lt a1 b1 trivial r10 hx19) ?_)
  rintro _ w24 ⟨rfl, hx20, hl10⟩
  refine ⟨_, rfl, ?_⟩
  replace hI := (hI.ext hx20)
  refine sq (y_extract rfl et rfl) ?_
  refine sq (y_extract rfl et rfl) ?_
  refine l_store (new := (lVal r10.1)) (cs' := (AVal r10.1)) hI .z gn rfl rfl et et rfl size_36 rfl rfl rfl ?_
  clear hI; intro c18 w25 hI
  refine sa ?_
  refine s_nil ?_
  refine k_next (e := [(8, vp b5 0), (9, vi r10.2)]) ⟨rfl, rfl, trivial⟩ ?_
  refine c_ret ?_
  obtain rfl := some_inj h
  exact q_ret (vs := [(Value.agg (AVal r10.1)), vi r10.2]) Tryz.results48 ⟨⟨_, ev_tmp rfl rfl, load_agg (l := (lVal r10.1)) u36 rfl size_36 (CellsAt.of_blk (hI.blk .z) rfl)⟩, ⟨ev_tmp rfl rfl, trivial⟩⟩ (fq hI trivial)
 refine c_skip (k_next (e := [(6, vp b3 0), (8, vp b5 0)]) ⟨rfl, rfl, trivial⟩ ?_)
 refine sr (sq (y_loadN (l := (lVal a1)) rfl et u36 rfl size_36 (hI.kblk (l := (lVal a1)) (.s .z) rfl).1) ?_)
 obtain ⟨r11, hx21, h⟩ := bnd_some h
 refine s_call gn rfl (r_callF (vs := [(Value.agg (AVal a1))]) rfl ok_87 ⟨et, trivial⟩) (Calls.mono (c_ref01_Neg (Dj F c7) w9 hI.lt a1 trivial r11 hx21) ?_)
 rintro _ w26 ⟨rfl, hx22, hl11⟩
 refine ⟨_, rfl, ?_⟩
 replace hI := (hI.ext hx22)
 refine l_store (new := (lVal r11)) (cs' := (AVal r11)) hI .z gn rfl rfl et et rfl size_36 rfl rfl rfl ?_
 clear hI; intro c19 w27 hI
 refine sac ?_
 refine nk (c_ret ?_)
 obtain rfl := some_inj h
 exact q_ret (vs := [(Value.agg (AVal r11)), vi 0]) Tryz.results48 ⟨⟨_, ev_tmp rfl rfl, load_agg (l := (lVal r11)) u36 rfl size_36 (CellsAt.of_blk (hI.blk .z) rfl)⟩, ⟨ev_tmp rfl rfl, trivial⟩⟩ (fq hI trivial)
theorem c_ref04_Reduce (F : NP) (w0 : World) (hF : ∀ k, F k → k < w0.heap.size) (fold1 : Int) (t1 : GType) (l1 : List GVal) (a1 : Option Addr) (c1 : Nat) (hc : AllCl [Cl.sl cGVal a1 c1 l1] F w0) (r : GVal × Int)
  (h : m_ref04_Reduce fold1 t1 l1 = some r) :
  Calls Tryz.prog 47 #[vi fold1, (Value.agg (AType t1)), vs a1 l1.length c1] w0 fun e w => e = .returned (Value.tuple #[(Value.agg (AVal r.1)), vi r.2]) ∧ Ext w0 w ∧ AllCl [] F w := by
 refine enterK Tryz.func47 rfl Tryz.ntmps47 rfl ?_
 have hI := Bun.start hF hc
 clear hc
 rw [m_ref04_Reduce] at h
 refine sr (l_box (v := (Value.agg (AType t1))) (cs := (AType t1)) hI gn rfl rfl et rfl ?_)
 clear hI; intro b1 c2 w1 hI
 obtain ⟨c3, hI⟩ := hI.relBox .z
 refine l_alloc (cs := #[vi 0, vi 0]) hI gn rfl rfl zero_36 rfl ?_
 clear hI; intro b2 c4 w2 hI
 refine sac ?_
 refine nk (c_seq (sr (sm ?_)))
 refine sq (y_lss rfl et ev_const) ?_
 refine sm ?_
 refine s_gval (g_false rfl rfl rfl rfl) rfl (fun hc => y_move rfl et) ?_
 refine s_gval (g_false rfl rfl rfl rfl) rfl (fun hc => y_gtr rfl (ev_gv et hc) ev_const) ?_
 refine sq (y_or rfl et et) ?_
 refine nk (cif h et (fun hb h => ?_) (fun hb h => ?_))
 ·refine sr (sq (y_build (vs := []) (cs := #[vi 0, vi 0]) rfl trivial (by kernel_rfl)) ?_)
  refine l_store (new := [vi 0, vi 0]) (cs' := #[vi 0, vi 0]) hI .z gn rfl rfl et et rfl size_36 rfl rfl rfl ?_
  clear hI; intro c5 w3 hI
  refine sac ?_
  refine nk (c_ret ?_)
  obtain rfl := some_inj h
  exact q_ret (vs := [(Value.agg #[vi 0, vi 0]), vi 1]) Tryz.results47 ⟨⟨_, ev_tmp rfl rfl, load_agg (l := [vi 0, vi 0]) u36 rfl size_36 (CellsAt.of_blk (hI.blk .z) rfl)⟩, ⟨ev_tmp rfl rfl, trivial⟩⟩ (fq hI trivial)
 refine c_skip (k_same (c_seq (sr (sq (y_loadN (l := (lType t1)) rfl et u23 rfl size_23 (hI.kblk (l := (lType t1)) .z rfl).1) ?_))))
 obtain ⟨r1, hx1, h⟩ := bnd_some h
 refine s_call gn rfl (r_callF (vs := [(Value.agg (AType t1))]) rfl ok_60 ⟨et, trivial⟩) (Calls.mono (c_base_Type (Dj F c4) w2 hI.lt t1 trivial r1 hx1) ?_)
 rintro _ w4 ⟨rfl, hx2, hl1⟩
 refine ⟨_, rfl, ?_⟩
 replace hI := (hI.ext hx2)
 refine sq (y_not rfl et) ?_
 refine nk (cif h et (fun hb h => ?_) (fun hb h => ?_))
 ·refine sr (sq (y_build (vs := []) (cs := #[vi 0, vi 0]) rfl trivial (by kernel_rfl)) ?_)
  refine l_store (new := [vi 0, vi 0]) (cs' := #[vi 0, vi 0]) hI .z gn rfl rfl et et rfl size_36 rfl rfl rfl ?_
  clear hI; intro c6 w5 hI
  refine sac ?_
  refine nk (c_ret ?_)
  obtain rfl := some_inj h
  exact q_ret (vs := [(Value.agg #[vi 0, vi 0]), vi 10]) Tryz.results47 ⟨⟨_, ev_tmp rfl rfl, load_agg (l := [vi 0, vi 0]) u36 rfl size_36 (CellsAt.of_blk (hI.blk .z) rfl)⟩, ⟨ev_tmp rfl rfl, trivial⟩⟩ (fq hI trivial)
 refine c_skip (k_same (c_join (α := Unit) (fun _ => ⟨79, []⟩) (fun _ => [(0, vi fold1), (2, vs a1 l1.length c1), (4, vp b1 0), (6, vp b2 0)]) (fun _ => fun w => ∃ C, Bun noM F w0 C w [MO.box b2 36 #[vi 0, vi 0]] [Cl.sl cGVal a1 c1 l1, Cl.blk b1 23 (AType t1)] ∧ m_ref04_Reduce_j1 l1 fold1 t1 = some r) ?_ ?_))
 ·clear h hI; rintro _ w6 ⟨c7, hI, h⟩
  try dsimp only at hI h
  rw [m_ref04_Reduce_j1] at h
  refine c_sub (e := [(0, vi fold1), (2, vs a1 l1.length c1), (4, vp b1 0), (6, vp b2 0)]) ⟨rfl, rfl, rfl, rfl, trivial⟩ ?_
  refine c_seq (sr (sm ?_))
  refine sq (y_lenl rfl u25 et) ?_
  refine sq (y_eql rfl et ev_const) ?_
  refine nk (cif h et (fun hb h => ?_) (fun hb h => ?_))
  ·refine sr (sm ?_)
   refine sq (y_loadN (l := (lType t1)) rfl et u23 rfl size_23 (hI.kblk (l := (lType t1)) (.s .z) rfl).1) ?_
   obtain ⟨r2, hx3, h⟩ := bnd_some h
   refine s_call gn rfl (r_callF (vs := [vi fold1, (Value.agg (AType t1))]) rfl ok_78 ⟨et, ⟨et, trivial⟩⟩) (Calls.mono (c_ref04_Identity (Dj F c7) w6 hI.lt fold1 t1 trivial r2 hx3) ?_)
   rintro _ w7 ⟨rfl, hx4, hl2⟩
   refine ⟨_, rfl, ?_⟩
   replace hI := (hI.ext hx4)
   refine sm ?_
   refine sq (y_extract rfl et rfl) ?_
   refine sq (y_extract rfl et rfl) ?_
   refine l_alloc (cs := #[vi 0, vi 0]) hI gn rfl rfl zero_36 rfl ?_
   clear hI; intro b3 c8 w8 hI
   refine l_store (new := (lVal r2.1)) (cs' := (AVal r2.1)) hI .z gn rfl rfl et et rfl size_36 rfl rfl rfl ?_
   clear hI; intro c9 w9 hI
   refine sa ?_
   refine nk (c_seq (sr (sm ?_)))
   refine sq (y_not rfl et) ?_
   refine nk (cif h et (fun hb h => ?_) (fun hb h => ?_))
   ·refine sr (sq (y_build (vs := []) (cs := #[vi 0, vi 0]) rfl trivial (by kernel_rfl)) ?_)
    refine l_store (new := [vi 0, vi 0]) (cs' := #[vi 0, vi 0]) hI (.s .z) gn rfl rfl et et rfl size_36 rfl rfl rfl ?_
    clear hI; intro c10 w10 hI
    refine sac ?_
    refine nk (c_ret ?_)
    obtain rfl := some_inj h
    exact q_ret (vs := [(Value.agg #[vi 0, vi 0]), vi 1]) Tryz.results47 ⟨⟨_, ev_tmp rfl rfl, load_agg (l := [vi 0, vi 0]) u36 rfl size_36 (CellsAt.of_blk (hI.blk (.s .z)) rfl)⟩, ⟨ev_tmp rfl rfl, trivial⟩⟩ (fq hI trivial)
   refine c_skip (k_same (sr (sq (y_loadN (l := (lVal r2.1)) rfl et u36 rfl size_36 (CellsAt.of_blk (hI.blk .z) rfl)) ?_)))
   refine l_store (new := (lVal r2.1)) (cs' := (AVal r2.1)) hI (.s .z) gn rfl rfl et et rfl size_36 rfl rfl rfl ?_
   clear hI; intro c11 w11 hI
   refine sac ?_
   refine nk (c_ret ?_)
   obtain rfl := some_inj h
   exact q_ret (vs := [(Value.agg (AVal r2.1)), vi 0]) Tryz.results47 ⟨⟨_, ev_tmp rfl rfl, load_agg (l := (lVal r2.1)) u36 rfl size_36 (CellsAt.of_blk (hI.blk (.s .z)) rfl)⟩, ⟨ev_tmp rfl rfl, trivial⟩⟩ (fq hI trivial)
  refine c_skip (k_same (sr (sm ?_)))
  obtain ⟨e1, hx5, h⟩ := bnd_some h
  obtain ⟨ad1, cs1, hA1, hr1, hq1⟩ := hI.clat .z hx5
  obtain rfl : cs1 = (lVal e1) := hr1
  refine sq (y_indexAddr rfl u25 size_36 et ev_const (lat_bd hx5) hA1) ?_
  refine sq (y_loadN (l := (lVal e1)) rfl et u36 rfl size_36 hq1.1) ?_
  refine l_alloc (cs := #[vi 0, vi 0]) hI gn rfl rfl zero_36 rfl ?_
  clear hI; intro b4 c12 w12 hI
  refine l_store (new := (lVal e1)) (cs' := (AVal e1)) hI .z gn rfl rfl et et rfl size_36 rfl rfl rfl ?_
  clear hI; intro c13 w13 hI
  refine sac ?_
  refine nk (c_seq (sr (sac ?_)))
  refine nk (c_block (c_loop (α := Nat × Int × Int × GVal) (fun x => fun w => ∃ C, Bun noM F w0 C w [MO.box b2 36 #[vi 0, vi 0], MO.box b4 36 (AVal (x.2.2.2))] [Cl.sl cGVal a1 c1 l1, Cl.blk b1 23 (AType t1)] ∧ m_ref04_Reduce_l1 l1 fold1 t1 (x.1) (x.2.1) (x.2.2.1) (x.2.2.2) = some r) (fun x _ => x.1) (fun x => [(0, vi fold1), (2, vs a1 l1.length c1), (4, vp b1 0), (6, vp b2 0), (11, vp b4 0), (12, vi (x.2.1)), (13, vi (x.2.2.1))]) (fu, 0, 1, e1) ⟨_, hI.arr (.c (.s .z) (.c .z .n)) ⟨.z, (.s .z), trivial⟩, h⟩ ⟨rfl, rfl, rfl, rfl, rfl, rfl, rfl, trivial⟩ ?_))
  clear h hI; rintro ⟨fuel1, e2, i1, v1⟩ w14 ⟨c14, hI, h⟩
  dsimp only at hI h
  rcases fuel1 with _ | fuel1
  ·rw [m_ref04_Reduce_l1] at h; cases h
  rw [m_ref04_Reduce_l1] at h
  refine c_sub (e := [(0, vi fold1), (2, vs a1 l1.length c1), (4, vp b1 0), (6, vp b2 0), (11, vp b4 0), (12, vi e2), (13, vi i1)]) ⟨rfl, rfl, rfl, rfl, rfl, rfl, rfl, trivial⟩ ?_
  refine c_seq (sr (sm ?_))
  refine sm ?_
  refine sq (y_lenl rfl u25 et) ?_
  refine sq (y_lss rfl et et) ?_
  refine sm ?_
  refine s_gval (g_true rfl rfl rfl rfl) rfl (fun hc => y_move rfl et) ?_
  refine s_gval (g_true rfl rfl rfl rfl) rfl (fun hc => y_eql rfl (ev_gv et hc) ev_const) ?_
  refine sq (y_and rfl et et) ?_
  refine nk (cif h et (fun hb h => ?_) (fun hb h => ?_))
  ·refine c_skip (k_same (c_seq (c_block (c_drawX [12] false (.c (0, .q) (.c (2, .q) (.c (3, .q) (.c (4, .q) (.c (5, .q) (.c (6, .q) (.c (7, .q) (.c (1, .s) (.c (8, .s) (.c (9, .q) (.c (10, .q) (.c (11, .q) (.c (12, .s) (.c (13, .q) .n)))))))))))))) hI (by kernel_rfl) (by kernel_rfl) ?_))))
   clear hI; intro w15 hI
   refine a_q rfl gn rfl (fun w' => y_move rfl et) ?_
   refine a_read rfl gn rfl (fun w' hw' => (y_loadN (l := (lType t1)) rfl et u23 rfl size_23 ((hI.kblk (l := (lType t1)) (.s .z) rfl).at_ (SX.any rfl hw')))) (by kernel_rfl) ?_
   refine a_read rfl gn rfl (fun w' hw' => (y_loadN (l := (lVal v1)) rfl et u36 rfl size_36 ((CA.blk (hI.blk (.s .z)) rfl).at_ (SX.any rfl hw')))) (by kernel_rfl) ?_
   refine a_q rfl gn rfl (fun w' => y_move rfl et) ?_
   refine a_q rfl gn rfl (fun w' => y_move rfl et) ?_
   obtain ⟨e3, hx6, h⟩ := bnd_some h
   obtain ⟨ad2, cs2, hA2, hr2, hq2⟩ := hI.clat .z hx6
   obtain rfl : cs2 = (lVal e3) := hr2
   refine a_q rfl gn rfl (fun w' => y_indexAddr rfl u25 size_36 et et (lat_bd hx6) hA2) ?_
   refine a_read rfl gn rfl (fun w' hw' => (y_loadN (l := (lVal e3)) rfl et u36 rfl size_36 (hq2.at_ (SX.any rfl hw')))) (by kernel_rfl) ?_
   obtain ⟨r3, hx7, h⟩ := bnd_some h
   refine la_call rfl gn rfl (r_callF (vs := [vi fold1]) rfl ok_79 ⟨et, trivial⟩) (Calls.mono (c_ref04_Operator (Dj F c14) w15 hI.lt fold1 trivial r3 hx7) ?_)
   rintro _ w16 ⟨rfl, hx8, hl3⟩
   refine ⟨_, rfl, hx8, ?_⟩
   replace hI := (hI.ext hx8)
   obtain ⟨r4, hx9, h⟩ := bnd_some h
   refine la_call rfl gn rfl (r_callF (vs := [vi r3, (Value.agg (AType t1)), (Value.agg (AVal v1)), (Value.agg (AVal e3))]) rfl ok_48 ⟨et, ⟨et, ⟨et, ⟨et, trivial⟩⟩⟩⟩) (Calls.mono (c_ref04_Apply (Dj F c14) w16 hI.lt r3 t1 v1 e3 trivial r4 hx9) ?_)
   rintro _ w17 ⟨rfl, hx10, hl4⟩
   refine ⟨_, rfl, hx10, ?_⟩
   replace hI := (hI.ext hx10)
   refine a_q rfl gn rfl (fun w' => y_move rfl et) ?_
   refine a_q rfl gn rfl (fun w' => y_extract rfl et rfl) ?_
   refine a_q rfl gn rfl (fun w' => y_extract rfl et rfl) ?_
   refine a_turn (F := F) (C := c14) rfl rfl ?_
   refine la_store (new := (lVal r4.1)) (cs' := (AVal r4.1)) hI (.s .z) rfl gn rfl rfl et et rfl size_36 rfl rfl rfl ?_
   clear hI; intro c15 w18 hI
   refine a_q rfl gn rfl (fun w' => y_assign rfl et) ?_
   refine a_nil ?_
   refine k_same (c_region rfl ?_)
   refine sm ?_
   refine sq (y_add rfl et ev_const) ?_
   refine sa ?_
   refine s_nil ?_
   exact k_loop (fuel1, r4.2, wi64 (i1 + 1), r4.1) ⟨rfl, rfl, rfl, rfl, rfl, rfl, rfl, trivial⟩ ⟨_, hI.arr (.c .z (.c .z .n)) ⟨.z, (.s .z), trivial⟩, h⟩ (Nat.lt_succ_self _)
  refine c_exit ?_
  refine k_in ?_
  refine k_same (sr (sq (y_loadN (l := (lVal v1)) rfl et u36 rfl size_36 (CellsAt.of_blk (hI.blk (.s .z)) rfl)) ?_))
  refine sm ?_
  refine l_store (new := (lVal v1)) (cs' := (AVal v1)) hI .z gn rfl rfl et et rfl size_36 rfl rfl rfl ?_
  clear hI; intro c16 w19 hI
  refine sa ?_
  refine nk (c_ret ?_)
  obtain rfl := some_inj h
  exact q_ret (vs := [(Value.agg (AVal v1)), vi e2]) Tryz.results47 ⟨⟨_, ev_tmp rfl rfl, load_agg (l := (lVal v1)) u36 rfl size_36 (CellsAt.of_blk (hI.blk .z) rfl)⟩, ⟨ev_tmp rfl rfl, trivial⟩⟩ (fq hI trivial)
 refine sr (sac ?_)
 refine nk (c_block (c_loop (α := Nat × Int) (fun x => fun w => ∃ C, Bun noM F w0 C w [MO.box b2 36 #[vi 0, vi 0]] [Cl.sl cGVal a1 c1 l1, Cl.blk b1 23 (AType t1)] ∧ m_ref04_Reduce_l2 l1 t1 fold1 (x.1) (x.2) = some r) (fun x _ => x.1) (fun x => [(0, vi fold1), (2, vs a1 l1.length c1), (4, vp b1 0), (6, vp b2 0), (8, vi (x.2))]) (fu, 0) ⟨_, hI.arr (.c .z .n) ⟨(.s .z), .z, trivial⟩, h⟩ ⟨rfl, rfl, rfl, rfl, rfl, trivial⟩ ?_))
 clear h hI; rintro ⟨fuel2, i2⟩ w20 ⟨c17, hI, h⟩
 dsimp only at hI h
 rcases fuel2 with _ | fuel2
 ·rw [m_ref04_Reduce_l2] at h; cases h
 rw [m_ref04_Reduce_l2] at h
 refine c_sub (e := [(0, vi fold1), (2, vs a1 l1.length c1), (4, vp b1 0), (6, vp b2 0), (8, vi i2)]) ⟨rfl, rfl, rfl, rfl, rfl, trivial⟩ ?_
 refine c_seq (sr (sm ?_))
 refine sm ?_
 refine sq (y_lenl rfl u25 et) ?_
 refine sq (y_lss rfl et et) ?_
 refine nk (cif h et (fun hb h => ?_) (fun hb h => ?_))
 ·refine c_skip (k_same (c_seq (c_block (c_seq (c_drawX [] false (.c (0, .q) (.c (1, .q) (.c (2, .q) (.c (3, .q) (.c (4, .q) (.c (5, .s) (.c (6, .q) .n))))))) hI (by kernel_rfl) (by kernel_rfl) ?_)))))
  clear hI; intro w21 hI
  refine a_read rfl gn rfl (fun w' hw' => (y_loadN (l := (lType t1)) rfl et u23 rfl size_23 ((hI.kblk (l := (lType t1)) (.s .z) rfl).at_ (SX.any rfl hw')))) (by kernel_rfl) ?_
  refine a_q rfl gn rfl (fun w' => y_move rfl et) ?_
  refine a_q rfl gn rfl (fun w' => y_move rfl et) ?_
  obtain ⟨e4, hx11, h⟩ := bnd_some h
  obtain ⟨ad3, cs3, hA3, hr3, hq3⟩ := hI.clat .z hx11
  obtain rfl : cs3 = (lVal e4) := hr3
  refine a_q rfl gn rfl (fun w' => y_indexAddr rfl u25 size_36 et et (lat_bd hx11) hA3) ?_
  refine a_read rfl gn rfl (fun w' hw' => (y_loadN (l := (lVal e4)) rfl et u36 rfl size_36 (hq3.at_ (SX.any rfl hw')))) (by kernel_rfl) ?_
  obtain ⟨r5, hx12, h⟩ := bnd_some h
  refine la_call rfl gn rfl (r_callF (vs := [(Value.agg (AType t1)), (Value.agg (AVal e4))]) rfl ok_56 ⟨et, ⟨et, trivial⟩⟩) (Calls.mono (c_base_Val (Dj F c17) w21 hI.lt t1 e4 trivial r5 hx12) ?_)
  rintro _ w22 ⟨rfl, hx13, hl5⟩
  refine ⟨_, rfl, hx13, ?_⟩
  replace hI := (hI.ext hx13)
  refine a_q rfl gn rfl (fun w' => y_not rfl et) ?_
  refine a_nil ?_
  refine k_same (cif h et (fun hb h => ?_) (fun hb h => ?_))
  ·refine sr (sq (y_build (vs := []) (cs := #[vi 0, vi 0]) rfl trivial (by kernel_rfl)) ?_)
   refine l_store (new := [vi 0, vi 0]) (cs' := #[vi 0, vi 0]) hI .z gn rfl rfl et et rfl size_36 rfl rfl rfl ?_
   clear hI; intro c18 w23 hI
   refine sac ?_
   refine nk (c_ret ?_)
   obtain rfl := some_inj h
   exact q_ret (vs := [(Value.agg #[vi 0, vi 0]), vi 1]) Tryz.results47 ⟨⟨_, ev_tmp rfl rfl, load_agg (l := [vi 0, vi 0]) u36 rfl size_36 (CellsAt.of_blk (hI.blk .z) rfl)⟩, ⟨ev_tmp rfl rfl, trivial⟩⟩ (fq hI trivial)
  refine c_skip (k_same (c_region rfl ?_))
  refine sm ?_
  refine sq (y_add rfl et ev_const) ?_
  refine sa ?_
  refine s_nil ?_
  exact k_loop (fuel2, wi64 (i2 + 1)) ⟨rfl, rfl, rfl, rfl, rfl, trivial⟩ ⟨_, hI.arr (.c .z .n) ⟨.z, (.s .z), trivial⟩, h⟩ (Nat.lt_succ_self _)
 refine c_exit ?_
 refine k_in ?_
 exact k_join () ⟨rfl, rfl, rfl, rfl, trivial⟩ ⟨_, hI.arr (.c .z .n) ⟨.z, (.s .z), trivial⟩, h⟩ rfl
def tr_ref12_Reduce_1_1 : Tr := (.c (8, .s) .n)
def tr_ref12_Reduce_1_0 : Tr := (.c (5, .s) (.c (6, .q) tr_ref12_Reduce_1_1))
def tr_ref12_Reduce_25_0 : Tr := (.c (12, .s) (.c (13, .q) .n))
theorem c_ref12_Reduce (F : NP) (w0 : World) (hF : ∀ k, F k → k < w0.heap.size) (t1 : GTensor) (axis1 : Int) (fold1 : Int) (a1 : Option Addr) (c1 : Nat) (a2 : Option Addr) (c2 : Nat) (hc : AllCl [Cl.sl (cInt .i64) a1 c1 t1.Dims, Cl.sl cGVal a2 c2 t1.Vals] F w0) (r : GTensor × Int)
  (h : m_ref12_Reduce t1 axis1 fold1 = some r) :
  Calls Tryz.prog 15 #[(Value.agg (ATensor t1 a1 c1 a2 c2)), vi axis1, vi fold1] w0 fun e w => ∃ (a3 : Option Addr) (c3 : Nat) (a4 : Option Addr) (c4 : Nat), e = .returned (Value.tuple #[(Value.agg (ATensor r.1 a3 c3 a4 c4)), vi r.2]) ∧ Ext w0 w ∧ AllCl [Cl.sl (cInt .i64) a3 c3 r.1.Dims, Cl.sl cGVal a4 c4 r.1.Vals] F w := by
 refine enterK Tryz.func15 rfl Tryz.ntmps15 rfl ?_
 have hI := Bun.start hF hc
 clear hc
 rw [m_ref12_Reduce] at h
 refine sr (l_box (v := (Value.agg (ATensor t1 a1 c1 a2 c2))) (cs := (ATensor t1 a1 c1 a2 c2)) hI gn rfl rfl et rfl ?_)
 clear hI; intro b1 c5 w1 hI
 obtain ⟨c6, hI⟩ := hI.relBox .z
 refine l_alloc (cs := ZTensor) hI gn rfl rfl zero_27 rfl ?_
 clear hI; intro b2 c7 w2 hI
 refine sac ?_
 refine nk (c_seq (sr (sq (y_loadN (l := (lTensor t1 a1 c1 a2 c2)) rfl et u27 rfl size_27 (hI.kblk (l := (lTensor t1 a1 c1 a2 c2)) .z rfl).1) ?_)))
 obtain ⟨r1, hx1, h⟩ := bnd_some h
 refine s_call gn rfl (r_callF (vs := [(Value.agg (ATensor t1 a1 c1 a2 c2))]) rfl ok_26 ⟨et, trivial⟩) (Calls.mono (c_ref12_Validate (Dj F c7) w2 hI.lt t1 a1 c1 a2 c2 ⟨(hI.get (.s .z)), (hI.get (.s (.s .z))), trivial⟩ r1 hx1) ?_)
 rintro _ w3 ⟨rfl, hx2, hl1⟩
 refine ⟨_, rfl, ?_⟩
 replace hI := (hI.ext hx2)
 refine sa ?_
 refine nk (sr (sm ?_))
 refine sq (y_neq rfl et ev_const) ?_
 refine nk (cif h et (fun hb h => ?_) (fun hb h => ?_))
 ·refine sr (sq (y_build (vs := []) (cs := ZTensor) rfl trivial (by kernel_rfl)) ?_)
  refine sm ?_
  refine l_store (new := zTensor) (cs' := ZTensor) hI .z gn rfl rfl et et rfl size_27 rfl rfl rfl ?_
  clear hI; intro c8 w4 hI
  refine sa ?_
  refine nk (c_ret ?_)
  have hI := hI.add (c := Cl.sl (cInt .i64) none 0 ([] : List Int)) SlC.nil
  have hI := hI.add (c := Cl.sl cGVal none 0 ([] : List GVal)) SlC.nil
  obtain rfl := some_inj h
  exact q_ret (vs := [(Value.agg ZTensor), vi r1]) Tryz.results15 ⟨⟨_, ev_tmp rfl rfl, load_agg (l := zTensor) u27 rfl size_27 (CellsAt.of_blk (hI.blk .z) rfl)⟩, ⟨ev_tmp rfl rfl, trivial⟩⟩ ⟨none, 0, none, 0, rfl, hI.ext0, hI.fin ⟨(.s .z), .z, trivial⟩⟩
 refine c_skip (k_same (c_seq (sr (sm ?_))))
 refine sq (y_lss rfl et ev_const) ?_
 refine sm ?_
 refine s_gval (g_false rfl rfl rfl rfl) rfl (fun hc => y_move rfl et) ?_
 refine s_gval (g_false rfl rfl rfl rfl) rfl (fun hc => y_fieldAddr rfl et u27 rfl size_24 rfl) ?_
 refine s_gval (g_false rfl rfl rfl rfl) rfl (fun hc => (y_load1 (v := (vs a1 t1.Dims.length c1)) rfl (ev_gv et hc) u24 rfl (hI.kblk (l := [vs a1 t1.Dims.length c1]) .z rfl).1)) ?_
 refine s_gval (g_false rfl rfl rfl rfl) rfl (fun hc => y_lenl rfl u24 (ev_gv et hc)) ?_
 refine s_gval (g_false rfl rfl rfl rfl) rfl (fun hc => y_geq rfl (ev_gv et hc) (ev_gv et hc)) ?_
 refine sq (y_or rfl et et) ?_
 refine nk (cif h et (fun hb h => ?_) (fun hb h => ?_))
 ·refine sr (sq (y_build (vs := []) (cs := ZTensor) rfl trivial (by kernel_rfl)) ?_)
  refine l_store (new := zTensor) (cs' := ZTensor) hI .z gn rfl rfl et et rfl size_27 rfl rfl rfl ?_
  clear hI; intro c9 w5 hI
  refine sac ?_
  refine nk (c_ret ?_)
  have hI := hI.add (c := Cl.sl (cInt .i64) none 0 ([] : List Int)) SlC.nil
  have hI := hI.add (c := Cl.sl cGVal none 0 ([] : List GVal)) SlC.nil
  obtain rfl := some_inj h
  exact q_ret (vs := [(Value.agg ZTensor), vi 11]) Tryz.results15 ⟨⟨_, ev_tmp rfl rfl, load_agg (l := zTensor) u27 rfl size_27 (CellsAt.of_blk (hI.blk .z) rfl)⟩, ⟨ev_tmp rfl rfl, trivial⟩⟩ ⟨none, 0, none, 0, rfl, hI.ext0, hI.fin ⟨(.s .z), .z, trivial⟩⟩
 refine c_skip (k_same (c_seq (sr (sm ?_))))
 refine sq (y_lss rfl et ev_const) ?_
 refine sm ?_
 refine s_gval (g_false rfl rfl rfl rfl) rfl (fun hc => y_move rfl et) ?_
 refine s_gval (g_false rfl rfl rfl rfl) rfl (fun hc => y_gtr rfl (ev_gv et hc) ev_const) ?_
 refine sq (y_or rfl et et) ?_
 refine nk (cif h et (fun hb h => ?_) (fun hb h => ?_))
 ·refine sr (sq (y_build (vs := []) (cs := ZTensor) rfl trivial (by kernel_rfl)) ?_)
  refine l_store (new := zTensor) (cs' := ZTensor) hI .z gn rfl rfl et et rfl size_27 rfl rfl rfl ?_
  clear hI; intro c10 w6 hI
  refine sac ?_
  refine s_nil ?_
  refine k_next (e := [(6, vp b2 0), (7, vi 1)]) ⟨rfl, rfl, trivial⟩ ?_
  refine c_ret ?_
  have hI := hI.add (c := Cl.sl (cInt .i64) none 0 ([] : List Int)) SlC.nil
  have hI := hI.add (c := Cl.sl cGVal none 0 ([] : List GVal)) SlC.nil
  obtain rfl := some_inj h
  exact q_ret (vs := [(Value.agg ZTensor), vi 1]) Tryz.results15 ⟨⟨_, ev_tmp rfl rfl, load_agg (l := zTensor) u27 rfl size_27 (CellsAt.of_blk (hI.blk .z) rfl)⟩, ⟨ev_tmp rfl rfl, trivial⟩⟩ ⟨none, 0, none, 0, rfl, hI.ext0, hI.fin ⟨(.s .z), .z, trivial⟩⟩
 refine c_skip (k_same (sr (sac ?_)))
 refine nk (sr (sm ?_))
 refine sq (y_fieldAddr rfl et u27 rfl size_24 rfl) ?_
 refine sq (y_load1 (v := (vs a1 t1.Dims.length c1)) rfl et u24 rfl (hI.kblk (l := [vs a1 t1.Dims.length c1]) .z rfl).1) ?_
 refine sm ?_
 obtain ⟨zs1, hx3, h⟩ := bnd_some h
 refine sq (y_lupto rfl u24 size_3 et et hx3 (hI.cap_ (.s .z))) ?_
 replace hI := hI.upto (.s .z) hx3
 obtain ⟨zs2, hx4, h⟩ := bnd_some h
 replace hI := hI.nil (cInt .i64) 3 none
 refine l_append (xs := ([] : List Int)) (ys := zs1) hI .z (hI.crd .z) hx4 gn rfl rfl u24 info_3 rfl rfl et et ?_
 clear hI; intro a5 c11 c12 w7 hI
 refine sa ?_
 refine s_nil ?_
 refine k_next (e := [(1, vi axis1), (2, vi fold1), (3, vp b1 0), (6, vp b2 0), (9, vs a5 zs2.length c11)]) ⟨rfl, rfl, rfl, rfl, rfl, trivial⟩ ?_
 refine sr (sm ?_)
 refine sq (y_fieldAddr rfl et u27 rfl size_24 rfl) ?_
 refine sq (y_load1 (v := (vs a1 t1.Dims.length c1)) rfl et u24 rfl (hI.kblk (l := [vs a1 t1.Dims.length c1]) (.s .z) rfl).1) ?_
 refine sm ?_
 refine sq (y_add rfl et ev_const) ?_
 obtain ⟨zs3, hx5, h⟩ := bnd_some h
 obtain ⟨a6, hB1⟩ : ∃ B : Option Addr, B = (if c1 = Int.toNat (wi64 (axis1 + 1)) then a1 else Option.map (·.add (Int.toNat (wi64 (axis1 + 1)) * 1)) a1) := ⟨_, rfl⟩
 refine sq (y_lfrom rfl u24 size_3 et et hx5 hB1) ?_
 replace hI := hI.from_ (.s (.s .z)) hx5 hB1
 obtain ⟨zs4, hx6, h⟩ := bnd_some h
 refine l_append (xs := zs2) (ys := zs3) hI .z (hI.crd .z) hx6 gn rfl rfl u24 info_3 rfl rfl et et ?_
 clear hI; intro a7 c13 c14 w8 hI
 refine sa ?_
 refine nk (c_seq ?_)
 obtain ⟨r2, hx7, h⟩ := bnd_some h
 obtain ⟨zs5, hx9, h⟩ := bnd_some h
 refine c_drawX [8] false (.c (0, .q) (.c (1, .q) (.c (2, .q) (.c (3, .q) (.two 4 (.two 5 (.c (6, .q) (.c (7, .s) tr_ref12_Reduce_1_1)) 7 tr_ref12_Reduce_1_0) 7 (.c (4, .s) tr_ref12_Reduce_1_0)))))) hI (by kernel_rfl) (by kernel_rfl) ?_
 clear hI; intro w15 hI
 refine a_join (α := Nat × Nat × NP) (T := tr_ref12_Reduce_1_1) (fun x => [(1, vi axis1), (2, vi fold1), (3, vp b1 0), (6, vp b2 0), (9, vs a7 zs4.length c13), (10, (Value.pointer (some ⟨(x.2.1), 0, none⟩))), (51, vp b1 5), (52, vs a1 t1.Dims.length c1), (53, vi axis1), (54, (vi (wi64 (axis1 + 1)))), (55, (vs a6 zs3.length (c1 - Int.toNat (wi64 (axis1 + 1))))), (56, vs a7 zs4.length c13), (57, vp b1 0), (58, (Value.agg (AType t1.Type_))), (59, vs a7 zs4.length c13), (60, vs a7 zs4.length c13), (61, vi r2), (62, (vs (some ⟨(x.1), 0, none⟩) zs5.length (Int.toNat r2))), (63, (Value.agg #[vi t1.Type_.Kind, vi t1.Type_.Bits, vi t1.Type_.Frac, vi t1.Type_.Round, vi t1.Type_.Over, vs a7 zs4.length c13, (vs (some ⟨(x.1), 0, none⟩) zs5.length (Int.toNat r2))]))]) (fun x w => Bun noM F w0 (x.2.2) w [MO.row cGVal 36 (some ⟨(x.1), 0, none⟩) (Int.toNat r2) zs5, MO.box (x.2.1) 27 ZTensor, MO.row (cInt .i64) 3 a7 c13 zs4, MO.box b2 27 ZTensor] [Cl.sl (cInt .i64) a6 (c1 - Int.toNat (wi64 (axis1 + 1))) zs3, Cl.sl (cInt .i64) a1 c1 zs1, Cl.blk b1 27 (ATensor t1 a1 c1 a2 c2), Cl.sl (cInt .i64) a1 c1 t1.Dims, Cl.sl cGVal a2 c2 t1.Vals]) (fun x w => SN [8] (DM false F (x.2.2)) w) ?_ ?_
 ·clear hI; rintro ⟨b3, b4, c19⟩ w14 hI
  try dsimp only at hI ⊢
  unfold tr_ref12_Reduce_1_1
  refine a_turn (F := F) (C := c19) rfl rfl ?_
  refine la_store (new := [vi t1.Type_.Kind, vi t1.Type_.Bits, vi t1.Type_.Frac, vi t1.Type_.Round, vi t1.Type_.Over, vs a7 zs4.length c13, vs (some ⟨b3, 0, none⟩) zs5.length (Int.toNat r2)]) (cs' := #[vi t1.Type_.Kind, vi t1.Type_.Bits, vi t1.Type_.Frac, vi t1.Type_.Round, vi t1.Type_.Over, vs a7 zs4.length c13, vs (some ⟨b3, 0, none⟩) zs5.length (Int.toNat r2)]) hI (.s .z) rfl gn rfl rfl et et rfl size_27 rfl rfl rfl ?_
  clear hI; intro c17 w12 hI
  refine a_nil ?_
  refine k_same ?_
  obtain ⟨c20, hI⟩ := hI.release (.s (.s .z))
  refine c_join (α := GTensor × (Option Addr) × Nat × (Option Addr) × Nat) (fun _ => ⟨157, []⟩) (fun x => [(1, vi axis1), (2, vi fold1), (3, vp b1 0), (6, vp b2 0), (9, vs a7 zs4.length c13), (10, vp b4 0)]) (fun x => fun w => ∃ C, Bun noM F w0 C w [MO.row cGVal 36 (x.2.2.2.1) (x.2.2.2.2) (x.1).Vals, MO.box b2 27 ZTensor, MO.box b4 27 (ATensor (x.1) (x.2.1) (x.2.2.1) (x.2.2.2.1) (x.2.2.2.2))] [Cl.sl (cInt .i64) (x.2.1) (x.2.2.1) (x.1).Dims, Cl.blk b1 27 (ATensor t1 a1 c1 a2 c2), Cl.sl (cInt .i64) a1 c1 t1.Dims, Cl.sl cGVal a2 c2 t1.Vals, Cl.sl (cInt .i64) a7 c13 zs4] ∧ m_ref12_Reduce_j1 zs4 t1 axis1 fold1 (x.1) = some r) ?_ ?_
  ·clear h hI; rintro ⟨out1, a8, c21, a9, c22⟩ w16 ⟨c23, hI, h⟩
   try dsimp only at hI h
   rw [m_ref12_Reduce_j1] at h
   refine c_sub (e := [(1, vi axis1), (2, vi fold1), (3, vp b1 0), (6, vp b2 0), (9, vs a7 zs4.length c13), (10, vp b4 0)]) ⟨rfl, rfl, rfl, rfl, rfl, rfl, trivial⟩ ?_
   refine c_seq (sr (sac ?_))
   refine nk (c_block (c_loop (α := Nat × Int × GTensor × (Option Addr) × Nat × (Option Addr) × Nat) (fun x => fun w => ∃ C, Bun noM F w0 C w [MO.row cGVal 36 (x.2.2.2.2.2.1) (x.2.2.2.2.2.2) (x.2.2.1).Vals, MO.box b2 27 ZTensor, MO.box b4 27 (ATensor (x.2.2.1) (x.2.2.2.1) (x.2.2.2.2.1) (x.2.2.2.2.2.1) (x.2.2.2.2.2.2))] [Cl.sl (cInt .i64) (x.2.2.2.1) (x.2.2.2.2.1) (x.2.2.1).Dims, Cl.blk b1 27 (ATensor t1 a1 c1 a2 c2), Cl.sl (cInt .i64) a1 c1 t1.Dims, Cl.sl cGVal a2 c2 t1.Vals, Cl.sl (cInt .i64) a7 c13 zs4] ∧ m_ref12_Reduce_l1 zs4 t1 axis1 fold1 (x.1) (x.2.1) (x.2.2.1) = some r) (fun x _ => x.1) (fun x => [(1, vi axis1), (2, vi fold1), (3, vp b1 0), (6, vp b2 0), (9, vs a7 zs4.length c13), (10, vp b4 0), (11, vi (x.2.1))]) (fu, 0, out1, a8, c21, a9, c22) ⟨_, hI.arr (.c .z (.c .z (.c .z .n))) ⟨.z, (.s .z), (.s (.s .z)), (.s (.s (.s .z))), (.s (.s (.s (.s .z)))), trivial⟩, h⟩ ⟨rfl, rfl, rfl, rfl, rfl, rfl, rfl, trivial⟩ ?_))
   clear h hI; rintro ⟨fuel1, i1, out2, a10, c24, a11, c25⟩ w17 ⟨c26, hI, h⟩
   dsimp only at hI h
   rcases fuel1 with _ | fuel1
   ·rw [m_ref12_Reduce_l1] at h; cases h
   rw [m_ref12_Reduce_l1] at h
   refine c_sub (e := [(1, vi axis1), (2, vi fold1), (3, vp b1 0), (6, vp b2 0), (9, vs a7 zs4.length c13), (10, vp b4 0), (11, vi i1)]) ⟨rfl, rfl, rfl, rfl, rfl, rfl, rfl, trivial⟩ ?_
   refine c_seq (sr (sm ?_))
   refine sm ?_
   obtain ⟨r3, hx10, h⟩ := bnd_some h
   refine s_call gn rfl (r_callF (vs := [vs a7 zs4.length c13]) rfl ok_44 ⟨et, trivial⟩) (Calls.mono (c_ref12_Size (Dj F c26) w17 hI.lt zs4 a7 c13 ⟨(hI.get (.s (.s (.s (.s .z))))), trivial⟩ r3 hx10) ?_)
   rintro _ w18 ⟨rfl, hx11, hl3⟩
   refine ⟨_, rfl, ?_⟩
   replace hI := (hI.ext hx11)
   refine sq (y_lss rfl et et) ?_
   refine nk (cif h et (fun hb h => ?_) (fun hb h => ?_))
   ·refine c_skip (k_same (c_join (α := GTensor × (Option Addr) × Nat × (Option Addr) × Nat) (fun _ => ⟨157, []⟩) (fun x => [(1, vi axis1), (2, vi fold1), (3, vp b1 0), (6, vp b2 0), (9, vs a7 zs4.length c13), (10, vp b4 0), (11, vi i1)]) (fun x => fun w => ∃ C, Bun noM F w0 C w [MO.row cGVal 36 (x.2.2.2.1) (x.2.2.2.2) (x.1).Vals, MO.box b2 27 ZTensor, MO.box b4 27 (ATensor (x.1) (x.2.1) (x.2.2.1) (x.2.2.2.1) (x.2.2.2.2))] [Cl.sl (cInt .i64) (x.2.1) (x.2.2.1) (x.1).Dims, Cl.blk b1 27 (ATensor t1 a1 c1 a2 c2), Cl.sl (cInt .i64) a1 c1 t1.Dims, Cl.sl cGVal a2 c2 t1.Vals, Cl.sl (cInt .i64) a7 c13 zs4] ∧ m_ref12_Reduce_j2 (m_ref12_Reduce_l1 zs4 t1 axis1 fold1 fuel1) i1 (x.1) = some r) ?_ ?_))
    ·clear h hI; rintro ⟨out3, a12, c27, a13, c28⟩ w19 ⟨c29, hI, h⟩
     try dsimp only at hI h
     rw [m_ref12_Reduce_j2] at h
     refine c_sub (e := [(1, vi axis1), (2, vi fold1), (3, vp b1 0), (6, vp b2 0), (9, vs a7 zs4.length c13), (10, vp b4 0), (11, vi i1)]) ⟨rfl, rfl, rfl, rfl, rfl, rfl, rfl, trivial⟩ ?_
     refine c_region rfl ?_
     refine sm ?_
     refine sq (y_add rfl et ev_const) ?_
     refine sa ?_
     refine s_nil ?_
     exact k_loop (fuel1, wi64 (i1 + 1), out3, a12, c27, a13, c28) ⟨rfl, rfl, rfl, rfl, rfl, rfl, rfl, trivial⟩ ⟨_, hI.arr (.c .z (.c .z (.c .z .n))) ⟨.z, (.s .z), (.s (.s .z)), (.s (.s (.s .z))), (.s (.s (.s (.s .z)))), trivial⟩, h⟩ (Nat.lt_succ_self _)
    refine c_block (sr (sm ?_))
    refine sm ?_
    obtain ⟨r4, hx12, h⟩ := bnd_some h
    refine s_call gn rfl (r_callF (vs := [vs a7 zs4.length c13, vi i1]) rfl ok_45 ⟨et, ⟨et, trivial⟩⟩) (Calls.mono (c_ref12_Point (Dj F c26) w18 hI.lt zs4 i1 a7 c13 ⟨(hI.get (.s (.s (.s (.s .z))))), trivial⟩ r4 hx12) ?_)
    rintro _ w20 ⟨a14, c30, rfl, hx13, hl4⟩
    refine ⟨_, rfl, ?_⟩
    replace hI := (hI.ext hx13).adds hl4
    refine sa ?_
    refine nk (sr (sq (y_loadN (l := (lTensor t1 a1 c1 a2 c2)) rfl et u27 rfl size_27 (hI.kblk (l := (lTensor t1 a1 c1 a2 c2)) (.s (.s .z)) rfl).1) ?_))
    refine sm ?_
    refine sm ?_
    obtain ⟨r5, hx14, h⟩ := bnd_some h
    refine s_call gn rfl (r_callF (vs := [(Value.agg (ATensor t1 a1 c1 a2 c2)), vi axis1, vs a14 r4.length c30]) rfl ok_46 ⟨et, ⟨et, ⟨et, trivial⟩⟩⟩) (Calls.mono (c_ref12_line (Dj F c26) w20 hI.lt t1 axis1 r4 a1 c1 a2 c2 a14 c30 ⟨(hI.get (.s (.s (.s .z)))), (hI.get (.s (.s (.s (.s .z))))), (hI.get .z), trivial⟩ r5 hx14) ?_)
    rintro _ w21 ⟨a15, c31, rfl, hx15, hl5⟩
    refine ⟨_, rfl, ?_⟩
    replace hI := (hI.ext hx15).adds hl5
    refine sa ?_
    refine nk (c_seq (sr (sm ?_)))
    refine sq (y_neq rfl et ev_const) ?_
    refine nk (cif h et (fun hb h => ?_) (fun hb h => ?_))
    ·refine sr (sm ?_)
     refine sq (y_fieldAddr rfl et u27 rfl size_23 rfl) ?_
     refine sq (y_loadN (l := (lType t1.Type_)) rfl et u23 rfl size_23 (hI.kblk (l := (lType t1.Type_)) (.s (.s (.s .z))) rfl).1) ?_
     refine sm ?_
     obtain ⟨r6, hx16, h⟩ := bnd_some h
     refine s_call gn rfl (r_callF (vs := [vi fold1, (Value.agg (AType t1.Type_)), vs a15 r5.length c31]) rfl ok_47 ⟨et, ⟨et, ⟨et, trivial⟩⟩⟩) (Calls.mono (c_ref04_Reduce (Dj F c26) w21 hI.lt fold1 t1.Type_ r5 a15 c31 ⟨(hI.get .z), trivial⟩ r6 hx16) ?_)
     rintro _ w22 ⟨rfl, hx17, hl6⟩
     refine ⟨_, rfl, ?_⟩
     replace hI := (hI.ext hx17)
     refine sm ?_
     refine sq (y_extract rfl et rfl) ?_
     refine sq (y_extract rfl et rfl) ?_
     refine l_alloc (cs := #[vi 0, vi 0]) hI gn rfl rfl zero_36 rfl ?_
     clear hI; intro b5 c32 w23 hI
     refine l_store (new := (lVal r6.1)) (cs' := (AVal r6.1)) hI .z gn rfl rfl et et rfl size_36 rfl rfl rfl ?_
     clear hI; intro c33 w24 hI
     refine sa ?_
     refine nk (c_seq (sr (sm ?_)))
     refine sq (y_neq rfl et ev_const) ?_
     refine s_nil ?_
     refine k_next (e := [(1, vi axis1), (2, vi fold1), (3, vp b1 0), (6, vp b2 0), (9, vs a7 zs4.length c13), (10, vp b4 0), (11, vi i1), (14, vp b5 0), (15, vi r6.2), (99, (vb (!decide (r6.2 = 0))))]) ⟨rfl, rfl, rfl, rfl, rfl, rfl, rfl, rfl, rfl, rfl, trivial⟩ ?_
     refine cif h et (fun hb h => ?_) (fun hb h => ?_)
     ·refine sr (sq (y_build (vs := []) (cs := ZTensor) rfl trivial (by kernel_rfl)) ?_)
      refine sm ?_
      refine l_store (new := zTensor) (cs' := ZTensor) hI (.s (.s .z)) gn rfl rfl et et rfl size_27 rfl rfl rfl ?_
      clear hI; intro c34 w25 hI
      refine sa ?_
      refine nk (c_ret ?_)
      have hI := hI.add (c := Cl.sl (cInt .i64) none 0 ([] : List Int)) SlC.nil
      have hI := hI.add (c := Cl.sl cGVal none 0 ([] : List GVal)) SlC.nil
      obtain rfl := some_inj h
      exact q_ret (vs := [(Value.agg ZTensor), vi r6.2]) Tryz.results15 ⟨⟨_, ev_tmp rfl rfl, load_agg (l := zTensor) u27 rfl size_27 (CellsAt.of_blk (hI.blk (.s (.s .z))) rfl)⟩, ⟨ev_tmp rfl rfl, trivial⟩⟩ ⟨none, 0, none, 0, rfl, hI.ext0, hI.fin ⟨(.s .z), .z, trivial⟩⟩
     refine c_skip (k_same (sr (sq (y_fieldAddr rfl et u27 rfl size_25 rfl) ?_)))
     refine sq (y_load1 (v := (vs a11 out2.Vals.length c25)) rfl et u25 rfl (CellsAt.of_blk (hI.blk (.s (.s (.s .z)))) rfl)) ?_
     refine sm ?_
     refine sq (y_loadN (l := (lVal r6.1)) rfl et u36 rfl size_36 (CellsAt.of_blk (hI.blk .z) rfl)) ?_
     obtain ⟨ho1, h⟩ := chk_some h
     obtain ⟨ad1, hA1⟩ := hI.addr (.s .z) ho1
     refine sq (y_indexAddr rfl u25 size_36 et et ho1 hA1) ?_
     refine l_storeRow (p := Int.toNat i1) (new := (lVal r6.1)) (off := 0) (x' := r6.1) hI (.s .z) gn rfl rfl (by have := ho1; omega) hA1 rfl et et rfl size_36 rfl (by show 0 + 2 ≤ 2; omega) (fun _ cs0 _ hr0 => by rw [spl_full (by have e := Cod.len _ hr0; exact e)]; exact rfl) ?_
     clear hI; intro c35 w26 hI
     refine s_nil ?_
     replace hI : Bun noM F w0 c35 w26 [MO.box b5 36 (AVal r6.1), MO.row cGVal 36 a11 c25 (out2.Vals.set (Int.toNat i1) r6.1), MO.box b2 27 ZTensor, MO.box b4 27 #[vi out2.Type_.Kind, vi out2.Type_.Bits, vi out2.Type_.Frac, vi out2.Type_.Round, vi out2.Type_.Over, vs a10 out2.Dims.length c24, (vs a11 (out2.Vals.set (Int.toNat i1) r6.1).length c25)]] [Cl.sl cGVal a15 c31 r5, Cl.sl (cInt .i64) a14 c30 r4, Cl.sl (cInt .i64) a10 c24 out2.Dims, Cl.blk b1 27 (ATensor t1 a1 c1 a2 c2), Cl.sl (cInt .i64) a1 c1 t1.Dims, Cl.sl cGVal a2 c2 t1.Vals, Cl.sl (cInt .i64) a7 c13 zs4] := by simpa only [List.length_set, List.cons_append, List.nil_append] using hI
     refine k_next (e := [(1, vi axis1), (2, vi fold1), (3, vp b1 0), (6, vp b2 0), (9, vs a7 zs4.length c13), (10, vp b4 0), (11, vi i1)]) ⟨rfl, rfl, rfl, rfl, rfl, rfl, rfl, trivial⟩ ?_
     refine c_exit ?_
     refine k_in ?_
     exact k_join ((⟨out2.Type_, out2.Dims, out2.Vals.set (Int.toNat i1) r6.1⟩ : GTensor), a10, c24, a11, c25) ⟨rfl, rfl, rfl, rfl, rfl, rfl, rfl, trivial⟩ ⟨_, hI.arr (.c (.s .z) (.c (.s .z) (.c (.s .z) .n))) ⟨(.s (.s .z)), (.s (.s (.s .z))), (.s (.s (.s (.s .z)))), (.s (.s (.s (.s (.s .z))))), (.s (.s (.s (.s (.s (.s .z)))))), trivial⟩, h⟩ rfl
    refine c_skip (k_same (sr (sm ?_)))
    obtain ⟨e1, hx18, h⟩ := bnd_some h
    obtain ⟨ad2, cs1, hA2, hr1, hq1⟩ := hI.clat .z hx18
    obtain rfl : cs1 = (lVal e1) := hr1
    refine sq (y_indexAddr rfl u25 size_36 et ev_const (lat_bd hx18) hA2) ?_
    refine sq (y_loadN (l := (lVal e1)) rfl et u36 rfl size_36 hq1.1) ?_
    refine l_alloc (cs := #[vi 0, vi 0]) hI gn rfl rfl zero_36 rfl ?_
    clear hI; intro b6 c36 w27 hI
    refine l_store (new := (lVal e1)) (cs' := (AVal e1)) hI .z gn rfl rfl et et rfl size_36 rfl rfl rfl ?_
    clear hI; intro c37 w28 hI
    refine nk (sr (sac ?_))
    refine nk (c_block (c_loop (α := Nat × Int × GTensor × GVal × (Option Addr) × Nat × (Option Addr) × Nat) (fun x => fun w => ∃ C, Bun noM F w0 C w [MO.row cGVal 36 (x.2.2.2.2.2.2.1) (x.2.2.2.2.2.2.2) (x.2.2.1).Vals, MO.box b2 27 ZTensor, MO.box b4 27 (ATensor (x.2.2.1) (x.2.2.2.2.1) (x.2.2.2.2.2.1) (x.2.2.2.2.2.2.1) (x.2.2.2.2.2.2.2)), MO.box b6 36 (AVal (x.2.2.2.1))] [Cl.sl (cInt .i64) (x.2.2.2.2.1) (x.2.2.2.2.2.1) (x.2.2.1).Dims, Cl.blk b1 27 (ATensor t1 a1 c1 a2 c2), Cl.sl (cInt .i64) a1 c1 t1.Dims, Cl.sl cGVal a2 c2 t1.Vals, Cl.sl (cInt .i64) a7 c13 zs4, Cl.sl (cInt .i64) a14 c30 r4, Cl.sl cGVal a15 c31 r5] ∧ m_ref12_Reduce_l2 r5 t1 r4 axis1 (m_ref12_Reduce_l1 zs4 t1 axis1 fold1 fuel1) i1 (x.1) (x.2.1) (x.2.2.1) (x.2.2.2.1) = some r) (fun x _ => x.1) (fun x => [(1, vi axis1), (2, vi fold1), (3, vp b1 0), (6, vp b2 0), (9, vs a7 zs4.length c13), (10, vp b4 0), (11, vi i1), (12, vs a14 r4.length c30), (13, vs a15 r5.length c31), (16, vp b6 0), (17, vi (x.2.1))]) (fu, 0, out2, e1, a10, c24, a11, c25) ⟨_, hI.arr (.c (.s .z) (.c (.s .z) (.c (.s .z) (.c .z .n)))) ⟨(.s (.s .z)), (.s (.s (.s .z))), (.s (.s (.s (.s .z)))), (.s (.s (.s (.s (.s .z))))), (.s (.s (.s (.s (.s (.s .z)))))), (.s .z), .z, trivial⟩, h⟩ ⟨rfl, rfl, rfl, rfl, rfl, rfl, rfl, rfl, rfl, rfl, rfl, trivial⟩ ?_))
    clear h hI; rintro ⟨fuel2, k1, out4, v1, a16, c38, a17, c39⟩ w29 ⟨c40, hI, h⟩
    dsimp only at hI h
    rcases fuel2 with _ | fuel2
    ·rw [m_ref12_Reduce_l2] at h; cases h
    rw [m_ref12_Reduce_l2] at h
    refine c_sub (e := [(1, vi axis1), (2, vi fold1), (3, vp b1 0), (6, vp b2 0), (9, vs a7 zs4.length c13), (10, vp b4 0), (11, vi i1), (12, vs a14 r4.length c30), (13, vs a15 r5.length c31), (16, vp b6 0), (17, vi k1)]) ⟨rfl, rfl, rfl, rfl, rfl, rfl, rfl, rfl, rfl, rfl, rfl, trivial⟩ ?_
    refine c_seq (sr (sm ?_))
    refine sm ?_
    refine sq (y_lenl rfl u25 et) ?_
    refine sq (y_lss rfl et et) ?_
    refine nk (cif h et (fun hb h => ?_) (fun hb h => ?_))
    ·refine c_skip (k_same (c_seq (c_block (c_join (α := GVal) (fun _ => ⟨157, []⟩) (fun x => [(1, vi axis1), (2, vi fold1), (3, vp b1 0), (6, vp b2 0), (9, vs a7 zs4.length c13), (10, vp b4 0), (11, vi i1), (12, vs a14 r4.length c30), (13, vs a15 r5.length c31), (16, vp b6 0), (17, vi k1)]) (fun x => fun w => ∃ C, Bun noM F w0 C w [MO.box b2 27 ZTensor, MO.box b4 27 (ATensor out4 a16 c38 a17 c39), MO.row cGVal 36 a17 c39 out4.Vals, MO.box b6 36 (AVal x)] [Cl.blk b1 27 (ATensor t1 a1 c1 a2 c2), Cl.sl (cInt .i64) a1 c1 t1.Dims, Cl.sl cGVal a2 c2 t1.Vals, Cl.sl (cInt .i64) a7 c13 zs4, Cl.sl (cInt .i64) a16 c38 out4.Dims, Cl.sl (cInt .i64) a14 c30 r4, Cl.sl cGVal a15 c31 r5] ∧ m_ref12_Reduce_j3 r4 axis1 k1 t1 out4 (m_ref12_Reduce_l2 r5 t1 r4 axis1 (m_ref12_Reduce_l1 zs4 t1 axis1 fold1 fuel1) i1 fuel2) x = some r) ?_ ?_))))
     ·clear h hI; rintro v2 w30 ⟨c41, hI, h⟩
      try dsimp only at hI h
      rw [m_ref12_Reduce_j3] at h
      refine c_sub (e := [(1, vi axis1), (2, vi fold1), (3, vp b1 0), (6, vp b2 0), (9, vs a7 zs4.length c13), (10, vp b4 0), (11, vi i1), (12, vs a14 r4.length c30), (13, vs a15 r5.length c31), (16, vp b6 0), (17, vi k1)]) ⟨rfl, rfl, rfl, rfl, rfl, rfl, rfl, rfl, rfl, rfl, rfl, trivial⟩ ?_
      refine sr (sac ?_)
      refine nk (sr (sm ?_))
      refine sm ?_
      refine sm ?_
      obtain ⟨zs6, hx19, h⟩ := bnd_some h
      refine sq (y_lupto rfl u24 size_3 et et hx19 (hI.cap_ (.s (.s (.s (.s (.s .z))))))) ?_
      replace hI := hI.upto (.s (.s (.s (.s (.s .z))))) hx19
      obtain ⟨zs7, hx20, h⟩ := bnd_some h
      replace hI := hI.nil (cInt .i64) 3 none
      refine l_append (xs := ([] : List Int)) (ys := zs6) hI .z (hI.crd .z) hx20 gn rfl rfl u24 info_3 rfl rfl et et ?_
      clear hI; intro a18 c42 c43 w31 hI
      refine sa ?_
      refine nk (sr (sm ?_))
      refine sm ?_
      refine l_lit (c := (cInt .i64)) (xs := ([k1] : List Int)) (vs := [(0, vi k1)]) (cs := #[vi k1]) (css := [[vi k1]]) hI gn rfl rfl u24 info_3 rfl ⟨rfl, et, trivial⟩ (by kernel_rfl) ⟨rfl, trivial⟩ rfl rfl rfl ?_
      clear hI; intro b7 c44 w32 hI
      obtain ⟨zs8, hx21, h⟩ := bnd_some h
      refine l_append (xs := zs7) (ys := ([k1] : List Int)) hI (.s .z) (hI.rd .z) hx21 gn rfl rfl u24 info_3 rfl rfl et et ?_
      clear hI; intro a19 c45 c46 w33 hI
      refine sa ?_
      refine nk (sr (sm ?_))
      refine sm ?_
      refine sm ?_
      obtain ⟨zs9, hx22, h⟩ := bnd_some h
      obtain ⟨a20, hB2⟩ : ∃ B : Option Addr, B = (if c30 = Int.toNat axis1 then a14 else Option.map (·.add (Int.toNat axis1 * 1)) a14) := ⟨_, rfl⟩
      refine sq (y_lfrom rfl u24 size_3 et et hx22 hB2) ?_
      replace hI := hI.from_ (.s (.s (.s (.s (.s (.s .z)))))) hx22 hB2
      obtain ⟨zs10, hx23, h⟩ := bnd_some h
      refine l_append (xs := zs8) (ys := zs9) hI (.s .z) (hI.crd .z) hx23 gn rfl rfl u24 info_3 rfl rfl et et ?_
      clear hI; intro a21 c47 c48 w34 hI
      refine sa ?_
      refine nk (c_drawX [8] false (.c (0, .q) (.c (1, .q) (.c (2, .q) (.c (3, .q) (.c (4, .q) (.c (6, .q) (.c (5, .s) (.c (7, .q) (.c (8, .s) .n))))))))) hI (by kernel_rfl) (by kernel_rfl) ?_)
      clear hI; intro w35 hI
      refine a_q rfl gn rfl (fun w' => y_fieldAddr rfl et u27 rfl size_25 rfl) ?_
      refine a_read rfl gn rfl (fun w' hw' => (y_load1 (v := (vs a17 out4.Vals.length c39)) rfl et u25 rfl ((CA.blk (hI.blk (.s (.s (.s .z)))) rfl).at_ (SX.any rfl hw')))) (by kernel_rfl) ?_
      refine a_q rfl gn rfl (fun w' => y_fieldAddr rfl et u27 rfl size_24 rfl) ?_
      refine a_read rfl gn rfl (fun w' hw' => (y_load1 (v := (vs a1 t1.Dims.length c1)) rfl et u24 rfl ((hI.kblk (l := [vs a1 t1.Dims.length c1]) (.s (.s .z)) rfl).at_ (SX.any rfl hw')))) (by kernel_rfl) ?_
      refine a_q rfl gn rfl (fun w' => y_move rfl et) ?_
      refine a_read rfl gn rfl (fun w' hw' => (y_loadN (l := (lVal v2)) rfl et u36 rfl size_36 ((CA.blk (hI.blk (.s (.s (.s (.s (.s .z)))))) rfl).at_ (SX.any rfl hw')))) (by kernel_rfl) ?_
      obtain ⟨r7, hx24, h⟩ := bnd_some h
      refine la_call rfl gn rfl (r_callF (vs := [vs a1 t1.Dims.length c1, vs a21 zs10.length c47]) rfl ok_49 ⟨et, ⟨et, trivial⟩⟩) (Calls.mono (c_ref12_Offset noM w35 (fun _ k => k.elim) t1.Dims zs10 a1 c1 a21 c47 ⟨(hI.get0 (.s (.s (.s .z)))), hI.lend (.s .z), trivial⟩ r7 hx24) ?_)
      rintro _ w36 ⟨rfl, hx25, hl7⟩
      refine ⟨_, rfl, hx25, ?_⟩
      replace hI := (hI.ext hx25)
      obtain ⟨ho2, h⟩ := chk_some h
      obtain ⟨ad3, hA3⟩ := hI.addr (.s (.s (.s (.s .z)))) ho2
      refine a_q rfl gn rfl (fun w' => y_indexAddr rfl u25 size_36 et et ho2 hA3) ?_
      refine a_turn (F := F) (C := c48) rfl rfl ?_
      refine la_storeRow (p := Int.toNat r7) (new := (lVal v2)) (off := 0) (x' := v2) hI (.s (.s (.s (.s .z)))) rfl gn rfl rfl (by have := ho2; omega) hA3 rfl et et rfl size_36 rfl (by show 0 + 2 ≤ 2; omega) (fun _ cs0 _ hr0 => by rw [spl_full (by have e := Cod.len _ hr0; exact e)]; exact rfl) ?_
      clear hI; intro c49 w37 hI
      refine a_nil ?_
      replace hI : Bun noM F w0 c49 w37 [MO.row (cInt .i64) 3 (some ⟨b7, 0, none⟩) 1 ([k1] : List Int), MO.row (cInt .i64) 3 a21 c47 zs10, MO.box b2 27 ZTensor, MO.box b4 27 #[vi out4.Type_.Kind, vi out4.Type_.Bits, vi out4.Type_.Frac, vi out4.Type_.Round, vi out4.Type_.Over, vs a16 out4.Dims.length c38, (vs a17 (out4.Vals.set (Int.toNat r7) v2).length c39)], MO.row cGVal 36 a17 c39 (out4.Vals.set (Int.toNat r7) v2), MO.box b6 36 (AVal v2)] [Cl.sl (cInt .i64) a20 (c30 - Int.toNat axis1) zs9, Cl.sl (cInt .i64) a14 c30 zs6, Cl.blk b1 27 (ATensor t1 a1 c1 a2 c2), Cl.sl (cInt .i64) a1 c1 t1.Dims, Cl.sl cGVal a2 c2 t1.Vals, Cl.sl (cInt .i64) a7 c13 zs4, Cl.sl (cInt .i64) a16 c38 out4.Dims, Cl.sl (cInt .i64) a14 c30 r4, Cl.sl cGVal a15 c31 r5] := by simpa only [List.length_set, List.cons_append, List.nil_append] using hI
      refine k_next (e := [(1, vi axis1), (2, vi fold1), (3, vp b1 0), (6, vp b2 0), (9, vs a7 zs4.length c13), (10, vp b4 0), (11, vi i1), (12, vs a14 r4.length c30), (13, vs a15 r5.length c31), (16, vp b6 0), (17, vi k1)]) ⟨rfl, rfl, rfl, rfl, rfl, rfl, rfl, rfl, rfl, rfl, rfl, trivial⟩ ?_
      refine c_region rfl ?_
      refine sm ?_
      refine sq (y_add rfl et ev_const) ?_
      refine sa ?_
      refine s_nil ?_
      exact k_loop (fuel2, wi64 (k1 + 1), (⟨out4.Type_, out4.Dims, out4.Vals.set (Int.toNat r7) v2⟩ : GTensor), v2, a16, c38, a17, c39) ⟨rfl, rfl, rfl, rfl, rfl, rfl, rfl, rfl, rfl, rfl, rfl, trivial⟩ ⟨_, hI.arr (.c (.s (.s (.s (.s .z)))) (.c (.s (.s .z)) (.c (.s (.s .z)) (.c (.s (.s .z)) .n)))) ⟨(.s (.s (.s (.s (.s (.s .z)))))), (.s (.s .z)), (.s (.s (.s .z))), (.s (.s (.s (.s .z)))), (.s (.s (.s (.s (.s .z))))), (.s (.s (.s (.s (.s (.s (.s .z))))))), (.s (.s (.s (.s (.s (.s (.s (.s .z)))))))), trivial⟩, h⟩ (Nat.lt_succ_self _)
     refine sr (sm ?_)
     refine sq (y_gtr rfl et ev_const) ?_
     refine nk (cif h et (fun hb h => ?_) (fun hb h => ?_))
     ·refine c_seq ?_
      obtain ⟨e2, hx26, h⟩ := bnd_some h
      obtain ⟨r8, hx27, h⟩ := bnd_some h
      refine c_drawX [12] false (.c (0, .q) (.c (1, .q) (.c (2, .q) (.c (3, .q) (.c (4, .q) (.c (5, .q) (.c (6, .q) (.two 7 (.c (8, .q) (.c (9, .q) (.c (10, .q) (.c (11, .s) tr_ref12_Reduce_25_0)))) 11 (.c (7, .s) (.c (8, .q) (.c (9, .q) (.c (10, .q) tr_ref12_Reduce_25_0)))))))))))) hI (by kernel_rfl) (by kernel_rfl) ?_
      clear hI; intro w42 hI
      refine a_join (α := Nat × NP) (T := tr_ref12_Reduce_25_0) (fun x => [(1, vi axis1), (2, vi fold1), (3, vp b1 0), (6, vp b2 0), (9, vs a7 zs4.length c13), (10, vp b4 0), (11, vi i1), (12, vs a14 r4.length c30), (13, vs a15 r5.length c31), (16, vp b6 0), (17, vi k1), (18, (Value.pointer (some ⟨(x.1), 0, none⟩))), (110, vi k1), (111, vs a15 r5.length c31), (112, vi (r5.length : Int)), (113, (vb (decide (k1 < (r5.length : Int))))), (116, vi k1), (117, (vb (decide (0 < k1)))), (118, (Value.tuple #[(Value.agg (AVal r8.1)), vi r8.2])), (119, vp b1 0), (120, (Value.agg (AType t1.Type_))), (121, (Value.agg (AVal v1))), (122, vs a15 r5.length c31), (123, vi k1), (125, (Value.agg (AVal e2))), (126, (Value.tuple #[(Value.agg (AVal r8.1)), vi r8.2])), (127, (Value.agg (AVal r8.1))), (128, vi r8.2)]) (fun x w => Bun noM F w0 (x.2) w [MO.box (x.1) 36 #[vi 0, vi 0], MO.row cGVal 36 a17 c39 out4.Vals, MO.box b2 27 ZTensor, MO.box b4 27 (ATensor out4 a16 c38 a17 c39), MO.box b6 36 (AVal v1)] [Cl.sl (cInt .i64) a16 c38 out4.Dims, Cl.blk b1 27 (ATensor t1 a1 c1 a2 c2), Cl.sl (cInt .i64) a1 c1 t1.Dims, Cl.sl cGVal a2 c2 t1.Vals, Cl.sl (cInt .i64) a7 c13 zs4, Cl.sl (cInt .i64) a14 c30 r4, Cl.sl cGVal a15 c31 r5]) (fun x w => SN [12] (DM false F (x.2)) w) ?_ ?_
      ·clear hI; rintro ⟨b8, c52⟩ w41 hI
       try dsimp only at hI ⊢
       unfold tr_ref12_Reduce_25_0
       refine a_turn (F := F) (C := c52) rfl rfl ?_
       refine la_store (new := (lVal r8.1)) (cs' := (AVal r8.1)) hI .z rfl gn rfl rfl et et rfl size_36 rfl rfl rfl ?_
       clear hI; intro c51 w40 hI
       refine a_q rfl gn rfl (fun w' => y_assign rfl et) ?_
       refine a_nil ?_
       refine k_same (c_seq (sr (sm ?_)))
       refine sq (y_neq rfl et ev_const) ?_
       refine nk (cif h et (fun hb h => ?_) (fun hb h => ?_))
       ·refine sr (sq (y_build (vs := []) (cs := ZTensor) rfl trivial (by kernel_rfl)) ?_)
        refine sm ?_
        refine l_store (new := zTensor) (cs' := ZTensor) hI (.s (.s .z)) gn rfl rfl et et rfl size_27 rfl rfl rfl ?_
        clear hI; intro c53 w43 hI
        refine sa ?_
        refine s_nil ?_
        refine k_next (e := [(6, vp b2 0), (7, vi r8.2)]) ⟨rfl, rfl, trivial⟩ ?_
        refine c_ret ?_
        have hI := hI.add (c := Cl.sl (cInt .i64) none 0 ([] : List Int)) SlC.nil
        have hI := hI.add (c := Cl.sl cGVal none 0 ([] : List GVal)) SlC.nil
        obtain rfl := some_inj h
        exact q_ret (vs := [(Value.agg ZTensor), vi r8.2]) Tryz.results15 ⟨⟨_, ev_tmp rfl rfl, load_agg (l := zTensor) u27 rfl size_27 (CellsAt.of_blk (hI.blk (.s (.s .z))) rfl)⟩, ⟨ev_tmp rfl rfl, trivial⟩⟩ ⟨none, 0, none, 0, rfl, hI.ext0, hI.fin ⟨(.s .z), .z, trivial⟩⟩
       refine c_skip (k_same (c_region rfl ?_))
       refine sq (y_loadN (l := (lVal r8.1)) rfl et u36 rfl size_36 (CellsAt.of_blk (hI.blk .z) rfl)) ?_
       refine l_store (new := (lVal r8.1)) (cs' := (AVal r8.1)) hI (.s (.s (.s (.s .z)))) gn rfl rfl et et rfl size_36 rfl rfl rfl ?_
       clear hI; intro c54 w44 hI
       refine s_nil ?_
       exact k_join r8.1 ⟨rfl, rfl, rfl, rfl, rfl, rfl, rfl, rfl, rfl, rfl, rfl, trivial⟩ ⟨_, hI.arr (.c (.s (.s .z)) (.c (.s (.s .z)) (.c (.s .z) (.c (.s .z) .n)))) ⟨(.s .z), (.s (.s .z)), (.s (.s (.s .z))), (.s (.s (.s (.s .z)))), .z, (.s (.s (.s (.s (.s .z))))), (.s (.s (.s (.s (.s (.s .z)))))), trivial⟩, h⟩ rfl
      intro hk_tr_ref12_Reduce_25_0
      refine a_q rfl gn rfl (fun w' => y_fieldAddr rfl et u27 rfl size_23 rfl) ?_
      refine a_read rfl gn rfl (fun w' hw' => (y_loadN (l := (lType t1.Type_)) rfl et u23 rfl size_23 ((hI.kblk (l := (lType t1.Type_)) (.s .z) rfl).at_ (SX.any rfl hw')))) (by kernel_rfl) ?_
      refine a_read rfl gn rfl (fun w' hw' => (y_loadN (l := (lVal v1)) rfl et u36 rfl size_36 ((CA.blk (hI.blk (.s (.s (.s .z)))) rfl).at_ (SX.any rfl hw')))) (by kernel_rfl) ?_
      refine a_q rfl gn rfl (fun w' => y_move rfl et) ?_
      refine a_q rfl gn rfl (fun w' => y_move rfl et) ?_
      obtain ⟨ad4, cs2, hA4, hr2, hq2⟩ := hI.clat (.s (.s (.s (.s (.s (.s .z)))))) hx26
      obtain rfl : cs2 = (lVal e2) := hr2
      refine a_q rfl gn rfl (fun w' => y_indexAddr rfl u25 size_36 et et (lat_bd hx26) hA4) ?_
      refine a_read rfl gn rfl (fun w' hw' => (y_loadN (l := (lVal e2)) rfl et u36 rfl size_36 (hq2.at_ (SX.any rfl hw')))) (by kernel_rfl) ?_
      refine a_two ?_ ?_
      ·skip
       refine la_call rfl gn rfl (r_callF (vs := [vi 4, (Value.agg (AType t1.Type_)), (Value.agg (AVal v1)), (Value.agg (AVal e2))]) rfl ok_48 ⟨ev_const, ⟨et, ⟨et, ⟨et, trivial⟩⟩⟩⟩) (Calls.mono (c_ref04_Apply (Dj F c40) w42 hI.lt 4 t1.Type_ v1 e2 trivial r8 hx27) ?_)
       rintro _ w38 ⟨rfl, hx28, hl8⟩
       refine ⟨_, rfl, hx28, ?_⟩
       replace hI := (hI.ext hx28)
       refine a_q rfl gn rfl (fun w' => y_move rfl et) ?_
       refine a_q rfl gn rfl (fun w' => y_extract rfl et rfl) ?_
       refine a_q rfl gn rfl (fun w' => y_extract rfl et rfl) ?_
       refine la_alloc (cs := #[vi 0, vi 0]) hI rfl gn rfl rfl zero_36 rfl ?_
       clear hI; intro b8 c50 w39 hI
       exact a_sub (hk_tr_ref12_Reduce_25_0 (b8, c50) _ (hI.arr (.c .z (.c .z (.c .z (.c .z (.c .z .n))))) ⟨.z, (.s .z), (.s (.s .z)), (.s (.s (.s .z))), (.s (.s (.s (.s .z)))), (.s (.s (.s (.s (.s .z))))), (.s (.s (.s (.s (.s (.s .z)))))), trivial⟩)) ⟨rfl, rfl, rfl, rfl, rfl, rfl, rfl, rfl, rfl, rfl, rfl, rfl, rfl, rfl, rfl, rfl, rfl, rfl, rfl, rfl, rfl, rfl, rfl, rfl, rfl, rfl, rfl, rfl, trivial⟩
      refine la_alloc (cs := #[vi 0, vi 0]) hI rfl gn rfl rfl zero_36 rfl ?_
      clear hI; intro b8 c50 w39 hI
      refine la_call rfl gn rfl (r_callF (vs := [vi 4, (Value.agg (AType t1.Type_)), (Value.agg (AVal v1)), (Value.agg (AVal e2))]) rfl ok_48 ⟨ev_const, ⟨et, ⟨et, ⟨et, trivial⟩⟩⟩⟩) (Calls.mono (c_ref04_Apply (Dj F c50) w39 hI.lt 4 t1.Type_ v1 e2 trivial r8 hx27) ?_)
      rintro _ w38 ⟨rfl, hx28, hl8⟩
      refine ⟨_, rfl, hx28, ?_⟩
      replace hI := (hI.ext hx28)
      refine a_q rfl gn rfl (fun w' => y_move rfl et) ?_
      refine a_q rfl gn rfl (fun w' => y_extract rfl et rfl) ?_
      refine a_q rfl gn rfl (fun w' => y_extract rfl et rfl) ?_
      exact a_sub (hk_tr_ref12_Reduce_25_0 (b8, c50) _ (hI.arr (.c .z (.c .z (.c .z (.c .z (.c .z .n))))) ⟨.z, (.s .z), (.s (.s .z)), (.s (.s (.s .z))), (.s (.s (.s (.s .z)))), (.s (.s (.s (.s (.s .z))))), (.s (.s (.s (.s (.s (.s .z)))))), trivial⟩)) ⟨rfl, rfl, rfl, rfl, rfl, rfl, rfl, rfl, rfl, rfl, rfl, rfl, rfl, rfl, rfl, rfl, rfl, rfl, rfl, rfl, rfl, rfl, rfl, rfl, rfl, rfl, rfl, rfl, trivial⟩
     exact c_skip (k_join v1 ⟨rfl, rfl, rfl, rfl, rfl, rfl, rfl, rfl, rfl, rfl, rfl, trivial⟩ ⟨_, hI.arr (.c (.s .z) (.c (.s .z) (.c .z (.c .z .n)))) ⟨(.s .z), (.s (.s .z)), (.s (.s (.s .z))), (.s (.s (.s (.s .z)))), .z, (.s (.s (.s (.s (.s .z))))), (.s (.s (.s (.s (.s (.s .z)))))), trivial⟩, h⟩ rfl)
    refine c_exit ?_
    refine k_in ?_
    exact k_join (out4, a16, c38, a17, c39) ⟨rfl, rfl, rfl, rfl, rfl, rfl, rfl, trivial⟩ ⟨_, hI.arr (.c .z (.c .z (.c .z .n))) ⟨.z, (.s .z), (.s (.s .z)), (.s (.s (.s .z))), (.s (.s (.s (.s .z)))), trivial⟩, h⟩ rfl
   refine c_exit ?_
   refine k_in ?_
   refine k_same (sr (sq (y_loadN (l := (lTensor out2 a10 c24 a11 c25)) rfl et u27 rfl size_27 (CellsAt.of_blk (hI.blk (.s (.s .z))) rfl)) ?_))
   refine l_store (new := (lTensor out2 a10 c24 a11 c25)) (cs' := (ATensor out2 a10 c24 a11 c25)) hI (.s .z) gn rfl rfl et et rfl size_27 rfl rfl rfl ?_
   clear hI; intro c55 w45 hI
   refine sac ?_
   refine nk (c_ret ?_)
   obtain ⟨c56, hI⟩ := hI.release .z
   obtain rfl := some_inj h
   exact q_ret (vs := [(Value.agg (ATensor out2 a10 c24 a11 c25)), vi 0]) Tryz.results15 ⟨⟨_, ev_tmp rfl rfl, load_agg (l := (lTensor out2 a10 c24 a11 c25)) u27 rfl size_27 (CellsAt.of_blk (hI.blk .z) rfl)⟩, ⟨ev_tmp rfl rfl, trivial⟩⟩ ⟨a10, c24, a11, c25, rfl, hI.ext0, hI.fin ⟨(.s .z), .z, trivial⟩⟩
  refine sr (sm ?_)
  refine sq (y_eql rfl et ev_const) ?_
  refine nk (cif h et (fun hb h => ?_) (fun hb h => ?_))
  ·refine c_drawX [9] false (.c (0, .q) (.c (1, .q) (.c (2, .q) (.c (3, .q) (.c (4, .q) (.c (5, .q) (.c (6, .q) (.c (7, .s) (.c (8, .q) (.c (9, .s) .n)))))))))) hI (by kernel_rfl) (by kernel_rfl) ?_
   clear hI; intro w46 hI
   refine a_q rfl gn rfl (fun w' => y_fieldAddr rfl et u27 rfl size_23 rfl) ?_
   refine a_read rfl gn rfl (fun w' hw' => (y_loadN (l := (lType t1.Type_)) rfl et u23 rfl size_23 ((hI.kblk (l := (lType t1.Type_)) (.s (.s (.s .z))) rfl).at_ (SX.any rfl hw')))) (by kernel_rfl) ?_
   refine a_q rfl gn rfl (fun w' => y_fieldAddr rfl et u27 rfl size_24 rfl) ?_
   refine a_read rfl gn rfl (fun w' hw' => (y_load1 (v := (vs a1 t1.Dims.length c1)) rfl et u24 rfl ((hI.kblk (l := [vs a1 t1.Dims.length c1]) (.s (.s (.s .z))) rfl).at_ (SX.any rfl hw')))) (by kernel_rfl) ?_
   refine a_q rfl gn rfl (fun w' => y_fieldAddr rfl et u27 rfl size_25 rfl) ?_
   refine a_read rfl gn rfl (fun w' hw' => (y_load1 (v := (vs a2 t1.Vals.length c2)) rfl et u25 rfl ((hI.kblk (l := [vs a2 t1.Vals.length c2]) (.s (.s (.s .z))) rfl).at_ (SX.any rfl hw')))) (by kernel_rfl) ?_
   refine a_q rfl gn rfl (fun w' => y_lenl rfl u25 et) ?_
   obtain ⟨zs11, hx29, h⟩ := bnd_some h
   refine la_make (c := cGVal) hI hx29 rfl gn  rfl rfl u25 info_36 rfl rfl et et rfl ?_
   clear hI; intro b9 c57 w47 hI
   refine a_q rfl gn rfl (fun w' => (y_build (vs := [(0, (Value.agg (AType t1.Type_))), (1, vs a1 t1.Dims.length c1), (2, (vs (some ⟨b9, 0, none⟩) zs11.length (((t1.Vals.length : Int)).toNat)))]) (cs := #[vi t1.Type_.Kind, vi t1.Type_.Bits, vi t1.Type_.Frac, vi t1.Type_.Round, vi t1.Type_.Over, vs a1 t1.Dims.length c1, (vs (some ⟨b9, 0, none⟩) zs11.length (((t1.Vals.length : Int)).toNat))]) rfl ⟨rfl, et, ⟨rfl, et, ⟨rfl, et, trivial⟩⟩⟩ (by kernel_rfl))) ?_
   refine a_turn (F := F) (C := c57) rfl rfl ?_
   refine la_store (new := [vi t1.Type_.Kind, vi t1.Type_.Bits, vi t1.Type_.Frac, vi t1.Type_.Round, vi t1.Type_.Over, vs a1 t1.Dims.length c1, (vs (some ⟨b9, 0, none⟩) zs11.length (((t1.Vals.length : Int)).toNat))]) (cs' := #[vi t1.Type_.Kind, vi t1.Type_.Bits, vi t1.Type_.Frac, vi t1.Type_.Round, vi t1.Type_.Over, vs a1 t1.Dims.length c1, (vs (some ⟨b9, 0, none⟩) zs11.length (((t1.Vals.length : Int)).toNat))]) hI (.s (.s .z)) rfl gn rfl rfl et et rfl size_27 rfl rfl rfl ?_
   clear hI; intro c58 w48 hI
   refine a_nil ?_
   exact k_join ((⟨t1.Type_, t1.Dims, zs11⟩ : GTensor), a1, c1, some ⟨b9, 0, none⟩, ((t1.Vals.length : Int)).toNat) ⟨rfl, rfl, rfl, rfl, rfl, rfl, trivial⟩ ⟨_, hI.arr (.c .z (.c (.s (.s .z)) (.c (.s .z) .n))) ⟨(.s (.s (.s (.s .z)))), (.s (.s (.s .z))), (.s (.s (.s (.s .z)))), (.s (.s (.s (.s (.s .z))))), .z, trivial⟩, h⟩ rfl
  exact c_skip (k_join ((⟨t1.Type_, zs4, zs5⟩ : GTensor), a7, c13, some ⟨b3, 0, none⟩, Int.toNat r2) ⟨rfl, rfl, rfl, rfl, rfl, rfl, trivial⟩ ⟨_, hI.arr (.c .z (.c (.s .z) (.c .z .n))) ⟨.z, (.s (.s (.s .z))), (.s (.s (.s (.s .z)))), (.s (.s (.s (.s (.s .z))))), .z, trivial⟩, h⟩ rfl)
 intro hk_tr_ref12_Reduce_1_1
 refine a_join (α := Nat × NP) (T := tr_ref12_Reduce_1_0) (fun x => [(1, vi axis1), (2, vi fold1), (3, vp b1 0), (6, vp b2 0), (9, vs a7 zs4.length c13), (10, (Value.pointer (some ⟨(x.1), 0, none⟩))), (51, vp b1 5), (52, vs a1 t1.Dims.length c1), (53, vi axis1), (54, (vi (wi64 (axis1 + 1)))), (55, (vs a6 zs3.length (c1 - Int.toNat (wi64 (axis1 + 1))))), (56, vs a7 zs4.length c13), (57, vp b1 0), (58, (Value.agg (AType t1.Type_))), (59, vs a7 zs4.length c13), (60, vs a7 zs4.length c13), (61, vi r2)]) (fun x w => Bun noM F w0 (x.2) w [MO.box (x.1) 27 ZTensor, MO.row (cInt .i64) 3 a7 c13 zs4, MO.box b2 27 ZTensor] [Cl.sl (cInt .i64) a6 (c1 - Int.toNat (wi64 (axis1 + 1))) zs3, Cl.sl (cInt .i64) a1 c1 zs1, Cl.blk b1 27 (ATensor t1 a1 c1 a2 c2), Cl.sl (cInt .i64) a1 c1 t1.Dims, Cl.sl cGVal a2 c2 t1.Vals]) (fun x w => SN [8] (DM false F (x.2)) w) ?_ ?_
 ·clear hI; rintro ⟨b4, c18⟩ w13 hI
  try dsimp only at hI ⊢
  unfold tr_ref12_Reduce_1_0
  refine la_make (c := cGVal) hI hx9 rfl gn  rfl rfl u25 info_36 rfl rfl et et rfl ?_
  clear hI; intro b3 c15 w10 hI
  refine a_q rfl gn rfl (fun w' => (y_build (vs := [(0, (Value.agg (AType t1.Type_))), (1, vs a7 zs4.length c13), (2, vs (some ⟨b3, 0, none⟩) zs5.length (Int.toNat r2))]) (cs := #[vi t1.Type_.Kind, vi t1.Type_.Bits, vi t1.Type_.Frac, vi t1.Type_.Round, vi t1.Type_.Over, vs a7 zs4.length c13, vs (some ⟨b3, 0, none⟩) zs5.length (Int.toNat r2)]) rfl ⟨rfl, et, ⟨rfl, et, ⟨rfl, et, trivial⟩⟩⟩ (by kernel_rfl))) ?_
  exact a_sub (hk_tr_ref12_Reduce_1_1 (b3, b4, c15) _ (hI.arr (.c .z (.c .z (.c .z (.c .z .n)))) ⟨.z, (.s .z), (.s (.s .z)), (.s (.s (.s .z))), (.s (.s (.s (.s .z)))), trivial⟩)) ⟨rfl, rfl, rfl, rfl, rfl, rfl, rfl, rfl, rfl, rfl, rfl, rfl, rfl, rfl, rfl, rfl, rfl, rfl, rfl, trivial⟩
 intro hk_tr_ref12_Reduce_1_0
 refine a_q rfl gn rfl (fun w' => y_fieldAddr rfl et u27 rfl size_23 rfl) ?_
 refine a_read rfl gn rfl (fun w' hw' => (y_loadN (l := (lType t1.Type_)) rfl et u23 rfl size_23 ((hI.kblk (l := (lType t1.Type_)) (.s (.s .z)) rfl).at_ (SX.any rfl hw')))) (by kernel_rfl) ?_
 refine a_q rfl gn rfl (fun w' => y_move rfl et) ?_
 refine a_q rfl gn rfl (fun w' => y_move rfl et) ?_
 refine a_two ?_ ?_
 ·skip
  refine la_call rfl gn rfl (r_callF (vs := [vs a7 zs4.length c13]) rfl ok_44 ⟨et, trivial⟩) (Calls.mono (c_ref12_Size noM w15 (fun _ k => k.elim) zs4 a7 c13 ⟨hI.lend .z, trivial⟩ r2 hx7) ?_)
  rintro _ w9 ⟨rfl, hx8, hl2⟩
  refine ⟨_, rfl, hx8, ?_⟩
  replace hI := (hI.ext hx8)
  refine a_two ?_ ?_
  ·skip
   refine la_make (c := cGVal) hI hx9 rfl gn  rfl rfl u25 info_36 rfl rfl et et rfl ?_
   clear hI; intro b3 c15 w10 hI
   refine a_q rfl gn rfl (fun w' => (y_build (vs := [(0, (Value.agg (AType t1.Type_))), (1, vs a7 zs4.length c13), (2, vs (some ⟨b3, 0, none⟩) zs5.length (Int.toNat r2))]) (cs := #[vi t1.Type_.Kind, vi t1.Type_.Bits, vi t1.Type_.Frac, vi t1.Type_.Round, vi t1.Type_.Over, vs a7 zs4.length c13, vs (some ⟨b3, 0, none⟩) zs5.length (Int.toNat r2)]) rfl ⟨rfl, et, ⟨rfl, et, ⟨rfl, et, trivial⟩⟩⟩ (by kernel_rfl))) ?_
   refine la_alloc (cs := ZTensor) hI rfl gn rfl rfl zero_27 rfl ?_
   clear hI; intro b4 c16 w11 hI
   exact a_sub (hk_tr_ref12_Reduce_1_1 (b3, b4, c16) _ (hI.arr (.c (.s .z) (.c .z (.c .z (.c .z .n)))) ⟨.z, (.s .z), (.s (.s .z)), (.s (.s (.s .z))), (.s (.s (.s (.s .z)))), trivial⟩)) ⟨rfl, rfl, rfl, rfl, rfl, rfl, rfl, rfl, rfl, rfl, rfl, rfl, rfl, rfl, rfl, rfl, rfl, rfl, rfl, trivial⟩
  refine la_alloc (cs := ZTensor) hI rfl gn rfl rfl zero_27 rfl ?_
  clear hI; intro b4 c16 w11 hI
  exact a_sub (hk_tr_ref12_Reduce_1_0 (b4, c16) _ (hI.arr (.c .z (.c .z (.c .z .n))) ⟨.z, (.s .z), (.s (.s .z)), (.s (.s (.s .z))), (.s (.s (.s (.s .z)))), trivial⟩)) ⟨rfl, rfl, rfl, rfl, rfl, rfl, rfl, rfl, rfl, rfl, rfl, rfl, rfl, rfl, rfl, rfl, rfl, trivial⟩
 refine la_alloc (cs := ZTensor) hI rfl gn rfl rfl zero_27 rfl ?_
 clear hI; intro b4 c16 w11 hI
 refine la_call rfl gn rfl (r_callF (vs := [vs a7 zs4.length c13]) rfl ok_44 ⟨et, trivial⟩) (Calls.mono (c_ref12_Size noM w11 (fun _ k => k.elim) zs4 a7 c13 ⟨hI.lend (.s .z), trivial⟩ r2 hx7) ?_)
 rintro _ w9 ⟨rfl, hx8, hl2⟩
 refine ⟨_, rfl, hx8, ?_⟩
 replace hI := (hI.ext hx8)
 exact a_sub (hk_tr_ref12_Reduce_1_0 (b4, c16) _ (hI.arr (.c .z (.c .z (.c .z .n))) ⟨.z, (.s .z), (.s (.s .z)), (.s (.s (.s .z))), (.s (.s (.s (.s .z)))), trivial⟩)) ⟨rfl, rfl, rfl, rfl, rfl, rfl, rfl, rfl, rfl, rfl, rfl, rfl, rfl, rfl, rfl, rfl, rfl, trivial⟩
theorem c_base_Ints (F : NP) (w0 : World) (hF : ∀ k, F k → k < w0.heap.size) (a1 : List Int) (b1 : List Int) (a2 : Option Addr) (c1 : Nat) (a3 : Option Addr) (c2 : Nat) (hc : AllCl [Cl.sl (cInt .i64) a2 c1 a1, Cl.sl (cInt .i64) a3 c2 b1] F w0) (r : Bool)
  (h : m_base_Ints a1 b1 = some r) :
  Calls Tryz.prog 50 #[vs a2 a1.length c1, vs a3 b1.length c2] w0 fun e w => e = .returned (vb r) ∧ Ext w0 w ∧ AllCl [] F w := by
 refine enterK Tryz.func50 rfl Tryz.ntmps50 rfl ?_
 have hI := Bun.start hF hc
 clear hc
 rw [m_base_Ints] at h
 refine sr (sac ?_)
 refine nk (c_seq (sr (sm ?_)))
 refine sq (y_lenl rfl u24 et) ?_
 refine sm ?_
 refine sq (y_lenl rfl u24 et) ?_
 refine sq (y_neq rfl et et) ?_
 refine nk (cif h et (fun hb h => ?_) (fun hb h => ?_))
 ·refine sr (sac ?_)
  refine nk (c_ret ?_)
  obtain rfl := some_inj h
  exact q_ret (vs := [vb false]) Tryz.results50 ⟨ev_tmp rfl rfl, trivial⟩ (fq hI trivial)
 refine c_skip (k_same (c_seq (sr (sac ?_))))
 refine nk (c_block (c_loop (α := Nat × Int) (fun x => fun w => ∃ C, Bun noM F w0 C w [] [Cl.sl (cInt .i64) a2 c1 a1, Cl.sl (cInt .i64) a3 c2 b1] ∧ m_base_Ints_l1 a1 b1 (x.1) (x.2) = some r) (fun x _ => x.1) (fun x => [(0, vs a2 a1.length c1), (1, vs a3 b1.length c2), (5, vi (x.2))]) (fu, 0) ⟨_, hI.arr .n ⟨.z, (.s .z), trivial⟩, h⟩ ⟨rfl, rfl, rfl, trivial⟩ ?_))
 clear h hI; rintro ⟨fuel1, i1⟩ w1 ⟨c3, hI, h⟩
 dsimp only at hI h
 rcases fuel1 with _ | fuel1
 ·rw [m_base_Ints_l1] at h; cases h
 rw [m_base_Ints_l1] at h
 refine c_sub (e := [(0, vs a2 a1.length c1), (1, vs a3 b1.length c2), (5, vi i1)]) ⟨rfl, rfl, rfl, trivial⟩ ?_
 refine c_seq (sr (sm ?_))
 refine sm ?_
 refine sq (y_lenl rfl u24 et) ?_
 refine sq (y_lss rfl et et) ?_
 refine nk (cif h et (fun hb h => ?_) (fun hb h => ?_))
 ·refine c_skip (k_same (c_seq (c_block (c_seq (c_drawX [] false (.c (0, .q) (.c (1, .q) (.c (2, .q) (.c (3, .q) (.c (4, .q) (.c (5, .q) (.c (6, .q) (.c (7, .q) (.c (8, .q) .n))))))))) hI (by kernel_rfl) (by kernel_rfl) ?_)))))
  clear hI; intro w2 hI
  refine a_q rfl gn rfl (fun w' => y_move rfl et) ?_
  refine a_q rfl gn rfl (fun w' => y_move rfl et) ?_
  obtain ⟨e1, hx1, h⟩ := bnd_some h
  obtain ⟨ad1, cs1, hA1, hr1, hq1⟩ := hI.clat .z hx1
  obtain rfl : cs1 = [vi e1] := hr1
  refine a_q rfl gn rfl (fun w' => y_indexAddr rfl u24 size_3 et et (lat_bd hx1) hA1) ?_
  refine a_read rfl gn rfl (fun w' hw' => (y_load1 (v := (vi e1)) rfl et u3 rfl (hq1.at_ (SX.any rfl hw')))) (by kernel_rfl) ?_
  refine a_q rfl gn rfl (fun w' => y_move rfl et) ?_
  refine a_q rfl gn rfl (fun w' => y_move rfl et) ?_
  obtain ⟨e2, hx2, h⟩ := bnd_some h
  obtain ⟨ad2, cs2, hA2, hr2, hq2⟩ := hI.clat (.s .z) hx2
  obtain rfl : cs2 = [vi e2] := hr2
  refine a_q rfl gn rfl (fun w' => y_indexAddr rfl u24 size_3 et et (lat_bd hx2) hA2) ?_
  refine a_read rfl gn rfl (fun w' hw' => (y_load1 (v := (vi e2)) rfl et u3 rfl (hq2.at_ (SX.any rfl hw')))) (by kernel_rfl) ?_
  refine a_q rfl gn rfl (fun w' => y_neq rfl et et) ?_
  refine a_nil ?_
  refine k_same (cif h et (fun hb h => ?_) (fun hb h => ?_))
  ·refine sr (sac ?_)
   refine nk (c_ret ?_)
   obtain rfl := some_inj h
   exact q_ret (vs := [vb false]) Tryz.results50 ⟨ev_tmp rfl rfl, trivial⟩ (fq hI trivial)
  refine c_skip (k_same (c_region rfl ?_))
  refine sm ?_
  refine sq (y_add rfl et ev_const) ?_
  refine sa ?_
  refine s_nil ?_
  exact k_loop (fuel1, wi64 (i1 + 1)) ⟨rfl, rfl, rfl, trivial⟩ ⟨_, hI.arr .n ⟨.z, (.s .z), trivial⟩, h⟩ (Nat.lt_succ_self _)
 refine c_exit ?_
 refine k_in ?_
 refine k_same (sr (sac ?_))
 refine nk (c_ret ?_)
 obtain rfl := some_inj h
 exact q_ret (vs := [vb true]) Tryz.results50 ⟨ev_tmp rfl rfl, trivial⟩ (fq hI trivial)
theorem c_base_Vals (F : NP) (w0 : World) (hF : ∀ k, F k → k < w0.heap.size) (a1 : List GVal) (b1 : List GVal) (a2 : Option Addr) (c1 : Nat) (a3 : Option Addr) (c2 : Nat) (hc : AllCl [Cl.sl cGVal a2 c1 a1, Cl.sl cGVal a3 c2 b1] F w0) (r : Bool)
  (h : m_base_Vals a1 b1 = some r) :
  Calls Tryz.prog 51 #[vs a2 a1.length c1, vs a3 b1.length c2] w0 fun e w => e = .returned (vb r) ∧ Ext w0 w ∧ AllCl [] F w := by
 refine enterK Tryz.func51 rfl Tryz.ntmps51 rfl ?_
 have hI := Bun.start hF hc
 clear hc
 rw [m_base_Vals] at h
 refine sr (sac ?_)
 refine nk (c_seq (sr (sm ?_)))
 refine sq (y_lenl rfl u25 et) ?_
 refine sm ?_
 refine sq (y_lenl rfl u25 et) ?_
 refine sq (y_neq rfl et et) ?_
 refine nk (cif h et (fun hb h => ?_) (fun hb h => ?_))
 ·refine sr (sac ?_)
  refine nk (c_ret ?_)
  obtain rfl := some_inj h
  exact q_ret (vs := [vb false]) Tryz.results51 ⟨ev_tmp rfl rfl, trivial⟩ (fq hI trivial)
 refine c_skip (k_same (c_seq (sr (sac ?_))))
 refine nk (c_block (c_loop (α := Nat × Int) (fun x => fun w => ∃ C, Bun noM F w0 C w [] [Cl.sl cGVal a2 c1 a1, Cl.sl cGVal a3 c2 b1] ∧ m_base_Vals_l1 a1 b1 (x.1) (x.2) = some r) (fun x _ => x.1) (fun x => [(0, vs a2 a1.length c1), (1, vs a3 b1.length c2), (5, vi (x.2))]) (fu, 0) ⟨_, hI.arr .n ⟨.z, (.s .z), trivial⟩, h⟩ ⟨rfl, rfl, rfl, trivial⟩ ?_))
 clear h hI; rintro ⟨fuel1, i1⟩ w1 ⟨c3, hI, h⟩
 dsimp only at hI h
 rcases fuel1 with _ | fuel1
 ·rw [m_base_Vals_l1] at h; cases h
 rw [m_base_Vals_l1] at h
 refine c_sub (e := [(0, vs a2 a1.length c1), (1, vs a3 b1.length c2), (5, vi i1)]) ⟨rfl, rfl, rfl, trivial⟩ ?_
 refine c_seq (sr (sm ?_))
 refine sm ?_
 refine sq (y_lenl rfl u25 et) ?_
 refine sq (y_lss rfl et et) ?_
 refine nk (cif h et (fun hb h => ?_) (fun hb h => ?_))
 ·refine c_skip (k_same (c_seq (c_block (c_seq (c_drawX [] false (.c (0, .q) (.c (1, .q) (.c (2, .q) (.c (3, .q) (.c (4, .q) (.c (5, .q) (.c (6, .q) (.c (7, .q) (.c (8, .q) .n))))))))) hI (by kernel_rfl) (by kernel_rfl) ?_)))))
  clear hI; intro w2 hI
  refine a_q rfl gn rfl (fun w' => y_move rfl et) ?_
  refine a_q rfl gn rfl (fun w' => y_move rfl et) ?_
  obtain ⟨e1, hx1, h⟩ := bnd_some h
  obtain ⟨ad1, cs1, hA1, hr1, hq1⟩ := hI.clat .z hx1
  obtain rfl : cs1 = (lVal e1) := hr1
  refine a_q rfl gn rfl (fun w' => y_indexAddr rfl u25 size_36 et et (lat_bd hx1) hA1) ?_
  refine a_read rfl gn rfl (fun w' hw' => (y_loadN (l := (lVal e1)) rfl et u36 rfl size_36 (hq1.at_ (SX.any rfl hw')))) (by kernel_rfl) ?_
  refine a_q rfl gn rfl (fun w' => y_move rfl et) ?_
  refine a_q rfl gn rfl (fun w' => y_move rfl et) ?_
  obtain ⟨e2, hx2, h⟩ := bnd_some h
  obtain ⟨ad2, cs2, hA2, hr2, hq2⟩ := hI.clat (.s .z) hx2
  obtain rfl : cs2 = (lVal e2) := hr2
  refine a_q rfl gn rfl (fun w' => y_indexAddr rfl u25 size_36 et et (lat_bd hx2) hA2) ?_
  refine a_read rfl gn rfl (fun w' hw' => (y_loadN (l := (lVal e2)) rfl et u36 rfl size_36 (hq2.at_ (SX.any rfl hw')))) (by kernel_rfl) ?_
  refine a_q rfl gn rfl (fun w' => y_bin rfl et et (eqstruct_36n ..) (eqguard_36 ..)) ?_
  refine a_nil ?_
  refine k_same (cif h et (fun hb h => ?_) (fun hb h => ?_))
  ·refine sr (sac ?_)
   refine nk (c_ret ?_)
   obtain rfl := some_inj h
   exact q_ret (vs := [vb false]) Tryz.results51 ⟨ev_tmp rfl rfl, trivial⟩ (fq hI trivial)
  refine c_skip (k_same (c_region rfl ?_))
  refine sm ?_
  refine sq (y_add rfl et ev_const) ?_
  refine sa ?_
  refine s_nil ?_
  exact k_loop (fuel1, wi64 (i1 + 1)) ⟨rfl, rfl, rfl, trivial⟩ ⟨_, hI.arr .n ⟨.z, (.s .z), trivial⟩, h⟩ (Nat.lt_succ_self _)
 refine c_exit ?_
 refine k_in ?_
 refine k_same (sr (sac ?_))
 refine nk (c_ret ?_)
 obtain rfl := some_inj h
 exact q_ret (vs := [vb true]) Tryz.results51 ⟨ev_tmp rfl rfl, trivial⟩ (fq hI trivial)
theorem c_base_Tensor (F : NP) (w0 : World) (hF : ∀ k, F k → k < w0.heap.size) (a1 : GTensor) (b1 : GTensor) (a2 : Option Addr) (c1 : Nat) (a3 : Option Addr) (c2 : Nat) (a4 : Option Addr) (c3 : Nat) (a5 : Option Addr) (c4 : Nat) (hc : AllCl [Cl.sl (cInt .i64) a2 c1 a1.Dims, Cl.sl cGVal a3 c2 a1.Vals, Cl.sl (cInt .i64) a4 c3 b1.Dims, Cl.sl cGVal a5 c4 b1.Vals] F w0) (r : Bool)
  (h : m_base_Tensor a1 b1 = some r) :
  Calls Tryz.prog 16 #[(Value.agg (ATensor a1 a2 c1 a3 c2)), (Value.agg (ATensor b1 a4 c3 a5 c4))] w0 fun e w => e = .returned (vb r) ∧ Ext w0 w ∧ AllCl [] F w := by
 refine enterK Tryz.func16 rfl Tryz.ntmps16 rfl ?_
 have hI := Bun.start hF hc
 clear hc
 rw [m_base_Tensor] at h
 refine sr (l_box (v := (Value.agg (ATensor a1 a2 c1 a3 c2))) (cs := (ATensor a1 a2 c1 a3 c2)) hI gn rfl rfl et rfl ?_)
 clear hI; intro b2 c5 w1 hI
 obtain ⟨c6, hI⟩ := hI.relBox .z
 refine l_box (v := (Value.agg (ATensor b1 a4 c3 a5 c4))) (cs := (ATensor b1 a4 c3 a5 c4)) hI gn rfl rfl et rfl ?_
 clear hI; intro b3 c7 w2 hI
 obtain ⟨c8, hI⟩ := hI.relBox .z
 refine sac ?_
 refine nk (sr (sq (y_fieldAddr rfl et u27 rfl size_23 rfl) ?_))
 refine sq (y_loadN (l := (lType a1.Type_)) rfl et u23 rfl size_23 (hI.kblk (l := (lType a1.Type_)) (.s .z) rfl).1) ?_
 refine sq (y_fieldAddr rfl et u27 rfl size_23 rfl) ?_
 refine sq (y_loadN (l := (lType b1.Type_)) rfl et u23 rfl size_23 (hI.kblk (l := (lType b1.Type_)) .z rfl).1) ?_
 refine sq (y_bin rfl et et (eqstruct_23 ..) (eqguard_23 ..)) ?_
 refine sm ?_
 refine s_gval (g_true rfl rfl rfl rfl) rfl (fun hc => y_fieldAddr rfl et u27 rfl size_24 rfl) ?_
 refine s_gval (g_true rfl rfl rfl rfl) rfl (fun hc => (y_load1 (v := (vs a2 a1.Dims.length c1)) rfl (ev_gv et hc) u24 rfl (hI.kblk (l := [vs a2 a1.Dims.length c1]) (.s .z) rfl).1)) ?_
 refine s_gval (g_true rfl rfl rfl rfl) rfl (fun hc => y_fieldAddr rfl et u27 rfl size_24 rfl) ?_
 refine s_gval (g_true rfl rfl rfl rfl) rfl (fun hc => (y_load1 (v := (vs a4 b1.Dims.length c3)) rfl (ev_gv et hc) u24 rfl (hI.kblk (l := [vs a4 b1.Dims.length c3]) .z rfl).1)) ?_
 obtain ⟨r1, hx1, h⟩ := bnd_some h
 replace hx1 := gd_some hx1
 refine s_gcallU (v := (vb r1)) (g_true rfl rfl rfl rfl) rfl (fun hc => (r_callF (vs := [vs a2 a1.Dims.length c1, vs a4 b1.Dims.length c3]) rfl ok_50 ⟨(ev_gv et hc), ⟨(ev_gv et hc), trivial⟩⟩)) (fun hc => (c_base_Ints (Dj F c8) w2 hI.lt a1.Dims b1.Dims a2 c1 a4 c3 ⟨(hI.get (.s (.s .z))), (hI.get (.s (.s (.s (.s .z))))), trivial⟩ r1 (hx1 hc)).mono fun _ _ k => ⟨k.1, k.2.1⟩) ?_
 intro w3 hx2; replace hI := hI.ext hx2
 refine sq (y_and rfl et et) ?_
 refine sm ?_
 refine s_gval (g_true rfl rfl rfl rfl) rfl (fun hc => y_fieldAddr rfl et u27 rfl size_25 rfl) ?_
 refine s_gval (g_true rfl rfl rfl rfl) rfl (fun hc => (y_load1 (v := (vs a3 a1.Vals.length c2)) rfl (ev_gv et hc) u25 rfl (hI.kblk (l := [vs a3 a1.Vals.length c2]) (.s .z) rfl).1)) ?_
 refine s_gval (g_true rfl rfl rfl rfl) rfl (fun hc => y_fieldAddr rfl et u27 rfl size_25 rfl) ?_
 refine s_gval (g_true rfl rfl rfl rfl) rfl (fun hc => (y_load1 (v := (vs a5 b1.Vals.length c4)) rfl (ev_gv et hc) u25 rfl (hI.kblk (l := [vs a5 b1.Vals.length c4]) .z rfl).1)) ?_
 obtain ⟨r2, hx3, h⟩ := bnd_some h
 replace hx3 := gd_some hx3
 refine s_gcallU (v := (vb r2)) (g_true rfl rfl rfl rfl) rfl (fun hc => (r_callF (vs := [vs a3 a1.Vals.length c2, vs a5 b1.Vals.length c4]) rfl ok_51 ⟨(ev_gv et hc), ⟨(ev_gv et hc), trivial⟩⟩)) (fun hc => (c_base_Vals (Dj F c8) w3 hI.lt a1.Vals b1.Vals a3 c2 a5 c4 ⟨(hI.get (.s (.s (.s .z)))), (hI.get (.s (.s (.s (.s (.s .z)))))), trivial⟩ r2 (hx3 hc)).mono fun _ _ k => ⟨k.1, k.2.1⟩) ?_
 intro w4 hx4; replace hI := hI.ext hx4
 refine sq (y_and rfl et et) ?_
 refine sa ?_
 refine nk (c_ret ?_)
 obtain rfl := some_inj h
 exact q_ret (vs := [(vb ((((decide (a1.Type_.Kind = b1.Type_.Kind)) && (decide (a1.Type_.Bits = b1.Type_.Bits)) && (decide (a1.Type_.Frac = b1.Type_.Frac)) && (decide (a1.Type_.Round = b1.Type_.Round)) && (decide (a1.Type_.Over = b1.Type_.Over))) && r1) && r2))]) Tryz.results16 ⟨ev_tmp rfl rfl, trivial⟩ (fq hI trivial)
theorem c_law12_TensorReduces (F : NP) (w0 : World) (hF : ∀ k, F k → k < w0.heap.size) (t1 : GTensor) (axis1 : Int) (fold1 : Int) (a1 : Option Addr) (c1 : Nat) (a2 : Option Addr) (c2 : Nat) (hc : AllCl [Cl.sl (cInt .i64) a1 c1 t1.Dims, Cl.sl cGVal a2 c2 t1.Vals, clPow10] F w0) (r : Bool)
  (h : m_law12_TensorReduces t1 axis1 fold1 = some r) :
  Calls Tryz.prog 3 #[(Value.agg (ATensor t1 a1 c1 a2 c2)), vi axis1, vi fold1] w0 fun e w => e = .returned (vb r) ∧ Ext w0 w ∧ AllCl [] F w := by
 refine enterK Tryz.func3 rfl Tryz.ntmps3 rfl ?_
 have hI := Bun.start hF hc
 clear hc
 rw [m_law12_TensorReduces] at h
 refine sr (l_box (v := (Value.agg (ATensor t1 a1 c1 a2 c2))) (cs := (ATensor t1 a1 c1 a2 c2)) hI gn rfl rfl et rfl ?_)
 clear hI; intro b1 c3 w1 hI
 obtain ⟨c4, hI⟩ := hI.relBox .z
 refine sac ?_
 refine nk (c_seq (sr (sq (y_loadN (l := (lTensor t1 a1 c1 a2 c2)) rfl et u27 rfl size_27 (hI.kblk (l := (lTensor t1 a1 c1 a2 c2)) .z rfl).1) ?_)))
 obtain ⟨r1, hx1, h⟩ := bnd_some h
 refine s_call gn rfl (r_callF (vs := [(Value.agg (ATensor t1 a1 c1 a2 c2)), vi 1000]) rfl ok_12 ⟨et, ⟨ev_const, trivial⟩⟩) (Calls.mono (c_law12_Small (Dj F c4) w1 hI.lt t1 1000 a1 c1 a2 c2 ⟨(hI.get (.s .z)), (hI.get (.s (.s .z))), trivial⟩ r1 hx1) ?_)
 rintro _ w2 ⟨rfl, hx2, hl1⟩
 refine ⟨_, rfl, ?_⟩
 replace hI := (hI.ext hx2)
 refine sq (y_not rfl et) ?_
 refine nk (cif h et (fun hb h => ?_) (fun hb h => ?_))
 ·refine sr ?_
  obtain ⟨r2, hx3, h⟩ := bnd_some h
  refine s_call gn rfl (r_callF (vs := []) rfl ok_13 trivial) (Calls.mono (c_law12_examples (Dj F c4) w2 hI.lt ⟨(hI.get (.s (.s (.s .z)))), trivial⟩ r2 hx3) ?_)
  rintro _ w3 ⟨rfl, hx4, hl2⟩
  refine ⟨_, rfl, ?_⟩
  replace hI := (hI.ext hx4)
  refine sa ?_
  refine nk (c_ret ?_)
  obtain rfl := some_inj h
  exact q_ret (vs := [vb r2]) Tryz.results3 ⟨ev_tmp rfl rfl, trivial⟩ (fq hI trivial)
 refine c_skip (k_same (sr (sq (y_loadN (l := (lTensor t1 a1 c1 a2 c2)) rfl et u27 rfl size_27 (hI.kblk (l := (lTensor t1 a1 c1 a2 c2)) .z rfl).1) ?_)))
 refine sm ?_
 refine sm ?_
 obtain ⟨r3, hx5, h⟩ := bnd_some h
 refine s_call gn rfl (r_callF (vs := [(Value.agg (ATensor t1 a1 c1 a2 c2)), vi axis1, vi fold1]) rfl ok_14 ⟨et, ⟨et, ⟨et, trivial⟩⟩⟩) (Calls.mono (c_tensor_Reduce (Dj F c4) w2 hI.lt t1 axis1 fold1 a1 c1 a2 c2 ⟨(hI.get (.s .z)), (hI.get (.s (.s .z))), trivial⟩ r3 hx5) ?_)
 rintro _ w4 ⟨a3, c5, a4, c6, rfl, hx6, hl3⟩
 refine ⟨_, rfl, ?_⟩
 replace hI := (hI.ext hx6).adds hl3
 refine sm ?_
 refine sq (y_extract rfl et rfl) ?_
 refine sq (y_extract rfl et rfl) ?_
 refine l_alloc (cs := ZTensor) hI gn rfl rfl zero_27 rfl ?_
 clear hI; intro b2 c7 w5 hI
 refine l_store (new := (lTensor r3.1 a3 c5 a4 c6)) (cs' := (ATensor r3.1 a3 c5 a4 c6)) hI .z gn rfl rfl et et rfl size_27 rfl rfl rfl ?_
 clear hI; intro c8 w6 hI
 refine sa ?_
 refine nk (sr (sq (y_loadN (l := (lTensor t1 a1 c1 a2 c2)) rfl et u27 rfl size_27 (hI.kblk (l := (lTensor t1 a1 c1 a2 c2)) (.s (.s .z)) rfl).1) ?_))
 refine sm ?_
 refine sm ?_
 obtain ⟨r4, hx7, h⟩ := bnd_some h
 refine s_call gn rfl (r_callF (vs := [(Value.agg (ATensor t1 a1 c1 a2 c2)), vi axis1, vi fold1]) rfl ok_15 ⟨et, ⟨et, ⟨et, trivial⟩⟩⟩) (Calls.mono (c_ref12_Reduce (Dj F c8) w6 hI.lt t1 axis1 fold1 a1 c1 a2 c2 ⟨(hI.get (.s (.s (.s .z)))), (hI.get (.s (.s (.s (.s .z))))), trivial⟩ r4 hx7) ?_)
 rintro _ w7 ⟨a5, c9, a6, c10, rfl, hx8, hl4⟩
 refine ⟨_, rfl, ?_⟩
 replace hI := (hI.ext hx8).adds hl4
 refine sm ?_
 refine sq (y_extract rfl et rfl) ?_
 refine sq (y_extract rfl et rfl) ?_
 refine l_alloc (cs := ZTensor) hI gn rfl rfl zero_27 rfl ?_
 clear hI; intro b3 c11 w8 hI
 refine l_store (new := (lTensor r4.1 a5 c9 a6 c10)) (cs' := (ATensor r4.1 a5 c9 a6 c10)) hI .z gn rfl rfl et et rfl size_27 rfl rfl rfl ?_
 clear hI; intro c12 w9 hI
 refine sa ?_
 refine nk (sr (sq (y_loadN (l := (lTensor r3.1 a3 c5 a4 c6)) rfl et u27 rfl size_27 (CellsAt.of_blk (hI.blk (.s .z)) rfl)) ?_))
 refine sq (y_loadN (l := (lTensor r4.1 a5 c9 a6 c10)) rfl et u27 rfl size_27 (CellsAt.of_blk (hI.blk .z) rfl)) ?_
 obtain ⟨r5, hx9, h⟩ := bnd_some h
 refine s_call gn rfl (r_callF (vs := [(Value.agg (ATensor r3.1 a3 c5 a4 c6)), (Value.agg (ATensor r4.1 a5 c9 a6 c10))]) rfl ok_16 ⟨et, ⟨et, trivial⟩⟩) (Calls.mono (c_base_Tensor (Dj F c12) w9 hI.lt r3.1 r4.1 a3 c5 a4 c6 a5 c9 a6 c10 ⟨(hI.get (.s (.s .z))), (hI.get (.s (.s (.s .z)))), (hI.get .z), (hI.get (.s .z)), trivial⟩ r5 hx9) ?_)
 rintro _ w10 ⟨rfl, hx10, hl5⟩
 refine ⟨_, rfl, ?_⟩
 replace hI := (hI.ext hx10)
 refine sm ?_
 refine s_gval (g_true rfl rfl rfl rfl) rfl (fun hc => y_move rfl et) ?_
 refine s_gval (g_true rfl rfl rfl rfl) rfl (fun hc => y_move rfl et) ?_
 refine s_gval (g_true rfl rfl rfl rfl) rfl (fun hc => y_eql rfl (ev_gv et hc) (ev_gv et hc)) ?_
 refine sq (y_and rfl et et) ?_
 refine sm ?_
 obtain ⟨r6, hx11, h⟩ := bnd_some h
 replace hx11 := gd_some hx11
 refine s_gcallU (v := (vb r6)) (g_true rfl rfl rfl rfl) rfl (fun hc => (r_callF (vs := []) rfl ok_13 trivial)) (fun hc => (c_law12_examples (Dj F c12) w10 hI.lt ⟨(hI.get (.s (.s (.s (.s (.s (.s (.s .z)))))))), trivial⟩ r6 (hx11 hc)).mono fun _ _ k => ⟨k.1, k.2.1⟩) ?_
 intro w11 hx12; replace hI := hI.ext hx12
 refine sq (y_and rfl et et) ?_
 refine sa ?_
 refine s_nil ?_
 refine k_next (e := [(6, (vb ((r5 && (decide (r3.2 = r4.2))) && r6)))]) ⟨rfl, trivial⟩ ?_
 refine c_ret ?_
 obtain rfl := some_inj h
 exact q_ret (vs := [(vb ((r5 && (decide (r3.2 = r4.2))) && r6))]) Tryz.results3 ⟨ev_tmp rfl rfl, trivial⟩ (fq hI trivial)
end Go.Proofs.YtlakfanockhngaaGreatDoor
