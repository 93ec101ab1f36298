import Derived.Test.YtlakfanockhngaaGreatDoorSCQ11a
namespace Go.Proofs.YtlakfanockhngaaGreatDoor
open Go Go.RowKit Go.Vc
set_option maxRecDepth 100000
set_option maxHeartbeats 4000000
set_option linter.unusedVariables false
set_option linter.unusedSimpArgs false
def tr_tensor_scan_1_w_3_0 : Tr := (.c (19, .s) (.c (20, .q) .n))
theorem c_tensor_scan_1_w (C0 F : NP) (w0 : World) (start1 : Int) (stride1 : Int) (a1 : GTensor) (a4 : Int) (a5 : GTensor) (b1 : Nat) (a2 : Option Addr) (c1 : Nat) (a3 : Option Addr) (c2 : Nat) (b2 : Nat) (b3 : Nat) (a6 : Option Addr) (c3 : Nat) (a7 : Option Addr) (c4 : Nat) (hI : Bun C0 F w0 C0 w0 [MO.box b3 27 (ATensor a5 a6 c3 a7 c4), MO.row (cInt .i64) 3 a6 c3 a5.Dims, MO.row cGVal 36 a7 c4 a5.Vals] [Cl.sl (cInt .i64) a2 c1 a1.Dims, Cl.sl cGVal a3 c2 a1.Vals, Cl.blk b1 27 (ATensor a1 a2 c1 a3 c2), Cl.blk b2 3 #[vi a4]]) (r : Int × GTensor)
  (h : m_tensor_scan_1_w start1 stride1 a1 a4 a5 = some r) :
  Calls Tryz.prog 74 #[vi start1, vi stride1, vp b1 0, vp b2 0, vp b3 0] w0 fun e w => ∃ (a8 : Option Addr) (c5 : Nat) (a9 : Option Addr) (c6 : Nat) (C : NP), e = .returned (vi r.1) ∧ Bun C0 F w0 C w [MO.box b3 27 (ATensor r.2 a8 c5 a9 c6), MO.row (cInt .i64) 3 a8 c5 r.2.Dims, MO.row cGVal 36 a9 c6 r.2.Vals] [] := by
 refine enterK Tryz.func74 rfl Tryz.ntmps74 rfl ?_
 rw [m_tensor_scan_1_w] at h
 refine sr (sac ?_)
 refine nk (c_seq (sr (sac ?_)))
 refine nk (c_block (c_loop (α := Nat × Int × GTensor × (Option Addr) × Nat × (Option Addr) × Nat) (fun x => fun w => ∃ C, Bun C0 F w0 C w [MO.row (cInt .i64) 3 (x.2.2.2.1) (x.2.2.2.2.1) (x.2.2.1).Dims, MO.row cGVal 36 (x.2.2.2.2.2.1) (x.2.2.2.2.2.2) (x.2.2.1).Vals, MO.box b3 27 (ATensor (x.2.2.1) (x.2.2.2.1) (x.2.2.2.2.1) (x.2.2.2.2.2.1) (x.2.2.2.2.2.2))] [Cl.blk b1 27 (ATensor a1 a2 c1 a3 c2), Cl.sl (cInt .i64) a2 c1 a1.Dims, Cl.sl cGVal a3 c2 a1.Vals, Cl.blk b2 3 #[vi a4]] ∧ m_tensor_scan_1_w_l1 a1 a4 start1 stride1 (x.1) (x.2.1) (x.2.2.1) = some r) (fun x _ => x.1) (fun x => [(0, vi start1), (1, vi stride1), (2, vp b1 0), (3, vp b2 0), (4, vp b3 0), (8, vi (x.2.1))]) (fu, 1, a5, a6, c3, a7, c4) ⟨_, hI.arr (.c (.s .z) (.c (.s .z) (.c .z .n))) ⟨(.s (.s .z)), .z, (.s .z), (.s (.s (.s .z))), trivial⟩, h⟩ ⟨rfl, rfl, rfl, rfl, rfl, rfl, trivial⟩ ?_))
 clear h hI; rintro ⟨fuel1, k1, a10, a11, c7, a12, c8⟩ w1 ⟨c9, hI, h⟩
 dsimp only at hI h
 rcases fuel1 with _ | fuel1
 ·rw [m_tensor_scan_1_w_l1] at h; cases h
 rw [m_tensor_scan_1_w_l1] at h
 refine c_sub (e := [(0, vi start1), (1, vi stride1), (2, vp b1 0), (3, vp b2 0), (4, vp b3 0), (8, vi k1)]) ⟨rfl, rfl, rfl, rfl, rfl, rfl, trivial⟩ ?_
 refine c_seq (sr (sm ?_))
 refine sq (y_fieldAddr rfl et u27 rfl size_24 rfl) ?_
 refine sq (y_load1 (v := (vs a2 a1.Dims.length c1)) rfl et u24 rfl (hI.kblk (l := [vs a2 a1.Dims.length c1]) .z rfl).1) ?_
 refine sq (y_load1 (v := (vi a4)) rfl et u3 rfl (hI.kblk (l := [vi a4]) (.s (.s (.s .z))) rfl).1) ?_
 obtain ⟨e1, hx1, h⟩ := bnd_some h
 obtain ⟨ad1, cs1, hA1, hr1, hq1⟩ := hI.clat (.s .z) hx1
 obtain rfl : cs1 = [vi e1] := hr1
 refine sq (y_indexAddr rfl u24 size_3 et et (lat_bd hx1) hA1) ?_
 refine sq (y_load1 (v := (vi e1)) rfl et u3 rfl hq1.1) ?_
 refine sq (y_lss rfl et et) ?_
 refine nk (cif h et (fun hb h => ?_) (fun hb h => ?_))
 ·refine c_skip (k_same (c_seq (c_block (sr (sm ?_)))))
  refine sm ?_
  refine sm ?_
  refine sq (y_mul rfl et et) ?_
  refine sq (y_add rfl et et) ?_
  obtain ⟨at1, hx2, h⟩ := bnd_some h
  refine sq (binU (y_assign rfl et) (congrArg (Value.int .i64) (some_inj hx2))) ?_
  refine nk (c_seq ?_)
  obtain ⟨e2, hx3, h⟩ := bnd_some h
  obtain ⟨e3, hx4, h⟩ := bnd_some h
  obtain ⟨r1, hx5, h⟩ := bnd_some h
  refine c_drawX [19] false (.c (0, .q) (.c (1, .q) (.c (2, .q) (.c (3, .q) (.c (4, .q) (.c (5, .q) (.c (6, .q) (.c (7, .q) (.c (8, .q) (.c (9, .q) (.c (10, .q) (.c (11, .q) (.c (12, .q) (.c (13, .q) (.two 14 (.c (15, .q) (.c (16, .q) (.c (17, .q) (.c (18, .s) tr_tensor_scan_1_w_3_0)))) 18 (.c (14, .s) (.c (15, .q) (.c (16, .q) (.c (17, .q) tr_tensor_scan_1_w_3_0))))))))))))))))))) hI (by kernel_rfl) (by kernel_rfl) ?_
  clear hI; intro w6 hI
  refine a_join (α := Nat × NP) (T := tr_tensor_scan_1_w_3_0) (fun x => [(0, vi start1), (1, vi stride1), (2, vp b1 0), (3, vp b2 0), (4, vp b3 0), (8, vi k1), (9, vi at1), (10, (Value.pointer (some ⟨(x.1), 0, none⟩))), (12, vi k1), (13, vp b1 5), (14, vs a2 a1.Dims.length c1), (15, vi a4), (17, vi e1), (18, (vb (decide (k1 < e1)))), (21, vi start1), (22, vi k1), (23, vi stride1), (24, (vi (wi64 (k1 * stride1)))), (25, (vi (wi64 (start1 + (wi64 (k1 * stride1)))))), (26, (Value.tuple #[(Value.agg (AVal r1.1)), vi r1.2])), (27, vp b1 0), (28, (Value.agg (AType a1.Type_))), (29, vp b3 6), (30, vs a12 a10.Vals.length c8), (31, vi at1), (32, vi stride1), (33, (vi (wi64 (at1 - stride1)))), (35, (Value.agg (AVal e2))), (36, vp b1 6), (37, vs a3 a1.Vals.length c2), (38, vi at1), (40, (Value.agg (AVal e3))), (41, (Value.tuple #[(Value.agg (AVal r1.1)), vi r1.2])), (42, (Value.agg (AVal r1.1))), (43, vi r1.2)]) (fun x w => Bun C0 F w0 (x.2) w [MO.box (x.1) 36 #[vi 0, vi 0], MO.row (cInt .i64) 3 a11 c7 a10.Dims, MO.row cGVal 36 a12 c8 a10.Vals, MO.box b3 27 (ATensor a10 a11 c7 a12 c8)] [Cl.blk b1 27 (ATensor a1 a2 c1 a3 c2), Cl.sl (cInt .i64) a2 c1 a1.Dims, Cl.sl cGVal a3 c2 a1.Vals, Cl.blk b2 3 #[vi a4]]) (fun x w => SN [19] (DM false F (x.2)) w) ?_ ?_
  ·clear hI; rintro ⟨b4, c12⟩ w5 hI
   try dsimp only at hI ⊢
   unfold tr_tensor_scan_1_w_3_0
   refine a_turn (F := F) (C := c12) rfl rfl ?_
   refine la_store (new := (lVal r1.1)) (cs' := (AVal r1.1)) hI .z rfl gn rfl rfl et et rfl size_36 rfl rfl rfl ?_
   clear hI; intro c11 w4 hI
   refine a_q rfl gn rfl (fun w' => y_assign rfl et) ?_
   refine a_nil ?_
   refine k_next (e := [(0, vi start1), (1, vi stride1), (2, vp b1 0), (3, vp b2 0), (4, vp b3 0), (8, vi k1), (9, vi at1), (10, vp b4 0), (11, vi r1.2)]) ⟨rfl, rfl, rfl, rfl, rfl, rfl, rfl, rfl, rfl, trivial⟩ ?_
   refine c_seq (sr (sm ?_))
   refine sq (y_neq rfl et ev_const) ?_
   refine nk (cif h et (fun hb h => ?_) (fun hb h => ?_))
   ·refine sr (sm ?_)
    refine sa ?_
    refine nk (c_ret ?_)
    obtain rfl := some_inj h
    exact q_ret (vs := [vi r1.2]) Tryz.results74 ⟨ev_tmp rfl rfl, trivial⟩ ⟨a11, c7, a12, c8, _, rfl, hI.arr (.c (.s (.s (.s .z))) (.c (.s .z) (.c (.s .z) .n))) trivial⟩
   refine c_skip (k_same (c_region rfl ?_))
   refine sq (y_fieldAddr rfl et u27 rfl size_25 rfl) ?_
   refine sq (y_load1 (v := (vs a12 a10.Vals.length c8)) rfl et u25 rfl (CellsAt.of_blk (hI.blk (.s (.s (.s .z)))) rfl)) ?_
   refine sm ?_
   refine sq (y_loadN (l := (lVal r1.1)) rfl et u36 rfl size_36 (CellsAt.of_blk (hI.blk .z) rfl)) ?_
   obtain ⟨ho1, h⟩ := chk_some h
   obtain ⟨ad4, hA4⟩ := hI.addr (.s (.s .z)) ho1
   refine sq (y_indexAddr rfl u25 size_36 et et ho1 hA4) ?_
   refine l_storeRow (p := Int.toNat at1) (new := (lVal r1.1)) (off := 0) (x' := r1.1) hI (.s (.s .z)) gn rfl rfl (by have := ho1; omega) hA4 rfl et et rfl size_36 rfl (by show 0 + 2 ≤ 2; omega) (fun _ cs0 _ hr0 => by rw [spl_full (by have e := Cod.len _ hr0; exact e)]; exact rfl) ?_
   clear hI; intro c13 w7 hI
   refine s_nil ?_
   replace hI : Bun C0 F w0 c13 w7 [MO.box b4 36 (AVal r1.1), MO.row (cInt .i64) 3 a11 c7 a10.Dims, MO.row cGVal 36 a12 c8 (a10.Vals.set (Int.toNat at1) r1.1), MO.box b3 27 #[vi a10.Type_.Kind, vi a10.Type_.Bits, vi a10.Type_.Frac, vi a10.Type_.Round, vi a10.Type_.Over, vs a11 a10.Dims.length c7, (vs a12 (a10.Vals.set (Int.toNat at1) r1.1).length c8)]] [Cl.blk b1 27 (ATensor a1 a2 c1 a3 c2), Cl.sl (cInt .i64) a2 c1 a1.Dims, Cl.sl cGVal a3 c2 a1.Vals, Cl.blk b2 3 #[vi a4]] := by simpa only [List.length_set, List.cons_append, List.nil_append] using hI
   refine k_next (e := [(0, vi start1), (1, vi stride1), (2, vp b1 0), (3, vp b2 0), (4, vp b3 0), (8, vi k1)]) ⟨rfl, rfl, rfl, rfl, rfl, rfl, trivial⟩ ?_
   refine c_region rfl ?_
   refine sm ?_
   refine sq (y_add rfl et ev_const) ?_
   refine sa ?_
   refine s_nil ?_
   exact k_loop (fuel1, wi64 (k1 + 1), (⟨a10.Type_, a10.Dims, a10.Vals.set (Int.toNat at1) r1.1⟩ : GTensor), a11, c7, a12, c8) ⟨rfl, rfl, rfl, rfl, rfl, rfl, trivial⟩ ⟨_, hI.arr (.c (.s .z) (.c (.s .z) (.c (.s .z) .n))) ⟨.z, (.s .z), (.s (.s .z)), (.s (.s (.s .z))), trivial⟩, h⟩ (Nat.lt_succ_self _)
  intro hk_tr_tensor_scan_1_w_3_0
  refine a_q rfl gn rfl (fun w' => y_fieldAddr rfl et u27 rfl size_23 rfl) ?_
  refine a_read rfl gn rfl (fun w' hw' => (y_loadN (l := (lType a1.Type_)) rfl et u23 rfl size_23 ((hI.kblk (l := (lType a1.Type_)) .z rfl).at_ (SX.any rfl hw')))) (by kernel_rfl) ?_
  refine a_q rfl gn rfl (fun w' => y_fieldAddr rfl et u27 rfl size_25 rfl) ?_
  refine a_read rfl gn rfl (fun w' hw' => (y_load1 (v := (vs a12 a10.Vals.length c8)) rfl et u25 rfl ((CA.blk (hI.blk (.s (.s .z))) rfl).at_ (SX.any rfl hw')))) (by kernel_rfl) ?_
  refine a_q rfl gn rfl (fun w' => y_move rfl et) ?_
  refine a_q rfl gn rfl (fun w' => y_move rfl et) ?_
  refine a_q rfl gn rfl (fun w' => y_sub rfl et et) ?_
  obtain ⟨ad2, cs2, hA2, hr2, hq2⟩ := hI.olat (.s .z) hx3
  obtain rfl : cs2 = (lVal e2) := hr2
  refine a_q rfl gn rfl (fun w' => y_indexAddr rfl u25 size_36 et et (lat_bd hx3) hA2) ?_
  refine a_read rfl gn rfl (fun w' hw' => (y_loadN (l := (lVal e2)) rfl et u36 rfl size_36 (hq2.at_ (SX.any rfl hw')))) (by kernel_rfl) ?_
  refine a_q rfl gn rfl (fun w' => y_fieldAddr rfl et u27 rfl size_25 rfl) ?_
  refine a_read rfl gn rfl (fun w' hw' => (y_load1 (v := (vs a3 a1.Vals.length c2)) rfl et u25 rfl ((hI.kblk (l := [vs a3 a1.Vals.length c2]) .z rfl).at_ (SX.any rfl hw')))) (by kernel_rfl) ?_
  refine a_q rfl gn rfl (fun w' => y_move rfl et) ?_
  obtain ⟨ad3, cs3, hA3, hr3, hq3⟩ := hI.clat (.s (.s .z)) hx4
  obtain rfl : cs3 = (lVal e3) := hr3
  refine a_q rfl gn rfl (fun w' => y_indexAddr rfl u25 size_36 et et (lat_bd hx4) hA3) ?_
  refine a_read rfl gn rfl (fun w' hw' => (y_loadN (l := (lVal e3)) rfl et u36 rfl size_36 (hq3.at_ (SX.any rfl hw')))) (by kernel_rfl) ?_
  refine a_two ?_ ?_
  ·skip
   refine la_call rfl gn rfl (r_callF (vs := [vi 4, (Value.agg (AType a1.Type_)), (Value.agg (AVal e2)), (Value.agg (AVal e3))]) rfl ok_75 ⟨ev_const, ⟨et, ⟨et, ⟨et, trivial⟩⟩⟩⟩) (Calls.mono (c_value_Apply (Dj F c9) w6 hI.lt 4 a1.Type_ e2 e3 trivial r1 hx5) ?_)
   rintro _ w2 ⟨rfl, hx6, hl1⟩
   refine ⟨_, rfl, hx6, ?_⟩
   replace hI := (hI.ext hx6)
   refine a_q rfl gn rfl (fun w' => y_move rfl et) ?_
   refine a_q rfl gn rfl (fun w' => y_extract rfl et rfl) ?_
   refine a_q rfl gn rfl (fun w' => y_extract rfl et rfl) ?_
   refine la_alloc (cs := #[vi 0, vi 0]) hI rfl gn rfl rfl zero_36 rfl ?_
   clear hI; intro b4 c10 w3 hI
   exact a_sub (hk_tr_tensor_scan_1_w_3_0 (b4, c10) _ (hI.arr (.c .z (.c .z (.c .z (.c .z .n)))) ⟨.z, (.s .z), (.s (.s .z)), (.s (.s (.s .z))), trivial⟩)) ⟨rfl, rfl, rfl, rfl, rfl, rfl, rfl, rfl, rfl, rfl, rfl, rfl, rfl, rfl, rfl, rfl, rfl, rfl, rfl, rfl, rfl, rfl, rfl, rfl, rfl, rfl, rfl, rfl, rfl, rfl, rfl, rfl, rfl, rfl, rfl, trivial⟩
  refine la_alloc (cs := #[vi 0, vi 0]) hI rfl gn rfl rfl zero_36 rfl ?_
  clear hI; intro b4 c10 w3 hI
  refine la_call rfl gn rfl (r_callF (vs := [vi 4, (Value.agg (AType a1.Type_)), (Value.agg (AVal e2)), (Value.agg (AVal e3))]) rfl ok_75 ⟨ev_const, ⟨et, ⟨et, ⟨et, trivial⟩⟩⟩⟩) (Calls.mono (c_value_Apply (Dj F c10) w3 hI.lt 4 a1.Type_ e2 e3 trivial r1 hx5) ?_)
  rintro _ w2 ⟨rfl, hx6, hl1⟩
  refine ⟨_, rfl, hx6, ?_⟩
  replace hI := (hI.ext hx6)
  refine a_q rfl gn rfl (fun w' => y_move rfl et) ?_
  refine a_q rfl gn rfl (fun w' => y_extract rfl et rfl) ?_
  refine a_q rfl gn rfl (fun w' => y_extract rfl et rfl) ?_
  exact a_sub (hk_tr_tensor_scan_1_w_3_0 (b4, c10) _ (hI.arr (.c .z (.c .z (.c .z (.c .z .n)))) ⟨.z, (.s .z), (.s (.s .z)), (.s (.s (.s .z))), trivial⟩)) ⟨rfl, rfl, rfl, rfl, rfl, rfl, rfl, rfl, rfl, rfl, rfl, rfl, rfl, rfl, rfl, rfl, rfl, rfl, rfl, rfl, rfl, rfl, rfl, rfl, rfl, rfl, rfl, rfl, rfl, rfl, rfl, rfl, rfl, rfl, rfl, trivial⟩
 refine c_exit ?_
 refine k_in ?_
 refine k_same (sr (sac ?_))
 refine nk (c_ret ?_)
 obtain rfl := some_inj h
 exact q_ret (vs := [vi 0]) Tryz.results74 ⟨ev_tmp rfl rfl, trivial⟩ ⟨a11, c7, a12, c8, _, rfl, hI.arr (.c (.s (.s .z)) (.c .z (.c .z .n))) trivial⟩
theorem c_tensor_scan (F : NP) (w0 : World) (hF : ∀ k, F k → k < w0.heap.size) (t1 : GTensor) (axis1 : Int) (a1 : Option Addr) (c1 : Nat) (a2 : Option Addr) (c2 : Nat) (hc : AllCl [Cl.sl (cInt .i64) a1 c1 t1.Dims, Cl.sl cGVal a2 c2 t1.Vals] F w0) (r : GTensor × Int)
  (h : m_tensor_scan t1 axis1 = some r) :
  Calls Tryz.prog 40 #[(Value.agg (ATensor t1 a1 c1 a2 c2)), vi axis1] w0 fun e w => ∃ (a3 : Option Addr) (c3 : Nat) (a4 : Option Addr) (c4 : Nat), e = .returned (Value.tuple #[(Value.agg (ATensor r.1 a3 c3 a4 c4)), vi r.2]) ∧ Ext w0 w ∧ AllCl [Cl.sl (cInt .i64) a3 c3 r.1.Dims, Cl.sl cGVal a4 c4 r.1.Vals] F w := by
 refine enterK Tryz.func40 rfl Tryz.ntmps40 rfl ?_
 have hI := Bun.start hF hc
 clear hc
 rw [m_tensor_scan] at h
 refine sr (l_box (v := (Value.agg (ATensor t1 a1 c1 a2 c2))) (cs := (ATensor t1 a1 c1 a2 c2)) hI gn rfl rfl et rfl ?_)
 clear hI; intro b1 c5 w1 hI
 obtain ⟨c6, hI⟩ := hI.relBox .z
 refine l_box (v := (vi axis1)) (cs := #[vi axis1]) hI gn rfl rfl et rfl ?_
 clear hI; intro b2 c7 w2 hI
 obtain ⟨c8, hI⟩ := hI.relBox .z
 refine l_alloc (cs := ZTensor) hI gn rfl rfl zero_27 rfl ?_
 clear hI; intro b3 c9 w3 hI
 refine sac ?_
 refine nk (sr (sq (y_loadN (l := (lTensor t1 a1 c1 a2 c2)) rfl et u27 rfl size_27 (hI.kblk (l := (lTensor t1 a1 c1 a2 c2)) (.s .z) rfl).1) ?_))
 obtain ⟨c10, f1, hB, hl1, hk1⟩ := hI.hands (.r .n)
 obtain ⟨r1, hx1, h⟩ := bnd_some h
 try dsimp only at h
 refine s_call gn rfl (r_callF (vs := [(Value.agg (ATensor t1 a1 c1 a2 c2))]) rfl ok_55 ⟨et, trivial⟩) (Calls.mono (c_tensor_clone_o c10 f1 w3 t1 a1 c1 a2 c2 (hB.subs ⟨(.s (.s .z)), (.s (.s (.s .z))), trivial⟩) _ hx1) ?_)
 rintro _ w4 ⟨a5, c11, a6, c12, c13, rfl, hB2⟩
 obtain ⟨c14, hs1, hI⟩ := hk1 _ _ _ _ hB2
 replace hI : Bun noM F w0 c14 w4 [MO.row (cInt .i64) 3 a5 c11 r1.Dims, MO.row cGVal 36 a6 c12 r1.Vals, MO.box b3 27 ZTensor] [Cl.blk b2 3 #[vi axis1], Cl.blk b1 27 (ATensor t1 a1 c1 a2 c2), Cl.sl (cInt .i64) a1 c1 t1.Dims, Cl.sl cGVal a2 c2 t1.Vals] := hI
 refine ⟨_, rfl, ?_⟩
 refine l_alloc (cs := ZTensor) hI gn rfl rfl zero_27 rfl ?_
 clear hI; intro b4 c15 w5 hI
 refine l_store (new := (lTensor r1 a5 c11 a6 c12)) (cs' := (ATensor r1 a5 c11 a6 c12)) hI .z gn rfl rfl et et rfl size_27 rfl rfl rfl ?_
 clear hI; intro c16 w6 hI
 refine nk (sr (sq (y_fieldAddr rfl et u27 rfl size_24 rfl) ?_))
 refine sq (y_load1 (v := (vs a1 t1.Dims.length c1)) rfl et u24 rfl (hI.kblk (l := [vs a1 t1.Dims.length c1]) (.s .z) rfl).1) ?_
 refine sq (y_load1 (v := (vi axis1)) rfl et u3 rfl (hI.kblk (l := [vi axis1]) .z rfl).1) ?_
 refine sq (y_makeFunc (vs := []) (cap := [vp b1 0, vp b2 0, vp b4 0]) rfl rfl ⟨et, ⟨et, ⟨et, trivial⟩⟩⟩) ?_
 obtain ⟨c17, f2, hB, hl2, hk2⟩ := hI.hands (.l (.l (.l (.r .n))))
 have hB : Bun c17 f2 w6 c17 w6 [MO.st (StI.of (fun (s : GTensor) (b : (Option Addr) × Nat × (Option Addr) × Nat) => [MO.box b4 27 (ATensor s (b.1) (b.2.1) (b.2.2.1) (b.2.2.2)), MO.row (cInt .i64) 3 (b.1) (b.2.1) s.Dims, MO.row cGVal 36 (b.2.2.1) (b.2.2.2) s.Vals]) (fun (s : GTensor) (b : (Option Addr) × Nat × (Option Addr) × Nat) => [])) r1] _ := Bun.mkst (b := (a5, c11, a6, c12)) hB trivial
 have hC := hB
 have hY1 : fnS_k2 (StI.of (fun (s : GTensor) (b : (Option Addr) × Nat × (Option Addr) × Nat) => [MO.box b4 27 (ATensor s (b.1) (b.2.1) (b.2.2.1) (b.2.2.2)), MO.row (cInt .i64) 3 (b.1) (b.2.1) s.Dims, MO.row cGVal 36 (b.2.2.1) (b.2.2.2) s.Vals]) (fun (s : GTensor) (b : (Option Addr) × Nat × (Option Addr) × Nat) => [])) (Value.func (.func 74) #[] #[vp b1 0, vp b2 0, vp b4 0]) (fun x_1 x_2 s => m_tensor_scan_1_w x_1 x_2 t1 axis1 s) (Dj f2 c17) w6 := by
  refine ⟨rfl, fun C0 F w' hs x_1 x_2 s r hB h => ?_⟩
  obtain ⟨⟨a7, c18, a8, c19⟩, hB⟩ := Bun.unst hB
  replace hB := hB.add (c := Cl.sl (cInt .i64) a1 c1 t1.Dims) (Cl.sp _ hs (hC.get (.s (.s .z))))
  replace hB := hB.add (c := Cl.sl cGVal a2 c2 t1.Vals) (Cl.sp _ hs (hC.get (.s (.s (.s .z)))))
  replace hB := hB.add (c := Cl.blk b1 27 (ATensor t1 a1 c1 a2 c2)) (Cl.sp _ hs (hC.get (.s .z)))
  replace hB := hB.add (c := Cl.blk b2 3 #[vi axis1]) (Cl.sp _ hs (hC.get .z))
  refine CallV.fn (cap := [vp b1 0, vp b2 0, vp b4 0]) ok_74 (Calls.mono (c_tensor_scan_1_w C0 F w' x_1 x_2 t1 axis1 s b1 a1 c1 a2 c2 b2 b4 a7 c18 a8 c19 (hB.subs ⟨(.s (.s (.s .z))), (.s (.s .z)), (.s .z), .z, trivial⟩) r h) ?_)
  rintro _ w'' ⟨z1, z2, z3, z4, C', rfl, hB2⟩
  exact ⟨C', rfl, (Bun.mkst (os := (fun (s : GTensor) (b : (Option Addr) × Nat × (Option Addr) × Nat) => [MO.box b4 27 (ATensor s (b.1) (b.2.1) (b.2.2.1) (b.2.2.2)), MO.row (cInt .i64) 3 (b.1) (b.2.1) s.Dims, MO.row cGVal 36 (b.2.2.1) (b.2.2.2) s.Vals])) (cl := (fun (s : GTensor) (b : (Option Addr) × Nat × (Option Addr) × Nat) => [])) (s := r.2) (b := (z1, z2, z3, z4)) hB2 trivial).subs trivial⟩
 obtain ⟨⟨r2, s1⟩, hx2, h⟩ := bnd_some h
 try dsimp only at h
 refine s_call gn rfl (r_callF (vs := [vs a1 t1.Dims.length c1, vi axis1, (Value.func (.func 74) #[] #[vp b1 0, vp b2 0, vp b4 0])]) rfl ok_41 ⟨et, ⟨et, ⟨et, trivial⟩⟩⟩) (Calls.mono (c_tensor_lines_s (StI.of (fun (s : GTensor) (b : (Option Addr) × Nat × (Option Addr) × Nat) => [MO.box b4 27 (ATensor s (b.1) (b.2.1) (b.2.2.1) (b.2.2.2)), MO.row (cInt .i64) 3 (b.1) (b.2.1) s.Dims, MO.row cGVal 36 (b.2.2.1) (b.2.2.2) s.Vals]) (fun (s : GTensor) (b : (Option Addr) × Nat × (Option Addr) × Nat) => [])) c17 f2 w6 t1.Dims axis1 (fun x_1 x_2 s => m_tensor_scan_1_w x_1 x_2 t1 axis1 s) r1 a1 c1 (Value.func (.func 74) #[] #[vp b1 0, vp b2 0, vp b4 0]) ((hB.add (c := (clFnS_k2 (StI.of (fun (s : GTensor) (b : (Option Addr) × Nat × (Option Addr) × Nat) => [MO.box b4 27 (ATensor s (b.1) (b.2.1) (b.2.2.1) (b.2.2.2)), MO.row (cInt .i64) 3 (b.1) (b.2.1) s.Dims, MO.row cGVal 36 (b.2.2.1) (b.2.2.2) s.Vals]) (fun (s : GTensor) (b : (Option Addr) × Nat × (Option Addr) × Nat) => [])) (Value.func (.func 74) #[] #[vp b1 0, vp b2 0, vp b4 0]) (fun x_1 x_2 s => m_tensor_scan_1_w x_1 x_2 t1 axis1 s))) hY1).subs ⟨(.s (.s (.s .z))), .z, trivial⟩) _ hx2) ?_)
 rintro _ w7 ⟨c20, rfl, hB2⟩
 obtain ⟨⟨a9, c21, a10, c22⟩, hB2⟩ := Bun.unst hB2
 obtain ⟨c23, hs2, hI⟩ := hk2 _ _ _ _ hB2
 replace hI : Bun noM F w0 c23 w7 [MO.box b4 27 (ATensor s1 a9 c21 a10 c22), MO.row (cInt .i64) 3 a9 c21 s1.Dims, MO.row cGVal 36 a10 c22 s1.Vals, MO.box b3 27 ZTensor] [Cl.blk b2 3 #[vi axis1], Cl.blk b1 27 (ATensor t1 a1 c1 a2 c2), Cl.sl (cInt .i64) a1 c1 t1.Dims, Cl.sl cGVal a2 c2 t1.Vals] := hI
 refine ⟨_, rfl, ?_⟩
 refine sa ?_
 refine nk (c_seq (sr (sm ?_)))
 refine sq (y_neq rfl et ev_const) ?_
 refine nk (cif h et (fun hb h => ?_) (fun hb h => ?_))
 ·refine sr (sq (y_build (vs := []) (cs := ZTensor) rfl trivial (by kernel_rfl)) ?_)
  refine sm ?_
  refine l_store (new := zTensor) (cs' := ZTensor) hI (.s (.s (.s .z))) gn rfl rfl et et rfl size_27 rfl rfl rfl ?_
  clear hI; intro c24 w8 hI
  refine sa ?_
  refine nk (c_ret ?_)
  have hI := hI.add (c := Cl.sl (cInt .i64) none 0 ([] : List Int)) SlC.nil
  have hI := hI.add (c := Cl.sl cGVal none 0 ([] : List GVal)) SlC.nil
  obtain rfl := some_inj h
  exact q_ret (vs := [(Value.agg ZTensor), vi r2]) Tryz.results40 ⟨⟨_, ev_tmp rfl rfl, load_agg (l := zTensor) u27 rfl size_27 (CellsAt.of_blk (hI.blk (.s (.s (.s .z)))) rfl)⟩, ⟨ev_tmp rfl rfl, trivial⟩⟩ ⟨none, 0, none, 0, rfl, hI.ext0, hI.fin ⟨(.s .z), .z, trivial⟩⟩
 refine c_skip (k_same (sr (sq (y_loadN (l := (lTensor s1 a9 c21 a10 c22)) rfl et u27 rfl size_27 (CellsAt.of_blk (hI.blk .z) rfl)) ?_)))
 refine l_store (new := (lTensor s1 a9 c21 a10 c22)) (cs' := (ATensor s1 a9 c21 a10 c22)) hI (.s (.s (.s .z))) gn rfl rfl et et rfl size_27 rfl rfl rfl ?_
 clear hI; intro c25 w9 hI
 refine sac ?_
 refine nk (c_ret ?_)
 obtain ⟨c26, hI⟩ := hI.release (.s .z)
 obtain ⟨c27, hI⟩ := hI.release (.s .z)
 obtain rfl := some_inj h
 exact q_ret (vs := [(Value.agg (ATensor s1 a9 c21 a10 c22)), vi 0]) Tryz.results40 ⟨⟨_, ev_tmp rfl rfl, load_agg (l := (lTensor s1 a9 c21 a10 c22)) u27 rfl size_27 (CellsAt.of_blk (hI.blk (.s .z)) rfl)⟩, ⟨ev_tmp rfl rfl, trivial⟩⟩ ⟨a9, c21, a10, c22, rfl, hI.ext0, hI.fin ⟨(.s .z), .z, trivial⟩⟩
theorem c_value_operator (F : NP) (w0 : World) (hF : ∀ k, F k → k < w0.heap.size) (fold1 : Int) (hc : AllCl [] F w0) (r : Int × Bool)
  (h : m_value_operator fold1 = some r) :
  Calls Tryz.prog 76 #[vi fold1] w0 fun e w => e = .returned (Value.tuple #[vi r.1, vb r.2]) ∧ Ext w0 w ∧ AllCl [] F w := by
 refine enterK Tryz.func76 rfl Tryz.ntmps76 rfl ?_
 have hI := Bun.start hF hc
 clear hc
 rw [m_value_operator] at h
 refine sr (sac ?_)
 refine sac ?_
 refine nk (c_seq (sr (sm ?_)))
 refine nk (c_block (c_join (α := Bool) (fun _ => ⟨14, []⟩) (fun x => [(4, vi fold1), (5, vb x)]) (fun x => fun w => ∃ C, Bun noM F w0 C w [] [] ∧ m_value_operator_j1 fold1 x = some r) ?_ ?_))
 ·clear h hI; rintro i1 w1 ⟨c1, hI, h⟩
  try dsimp only at hI h
  rw [m_value_operator_j1] at h
  refine c_sub (e := [(4, vi fold1), (5, vb i1)]) ⟨rfl, rfl, trivial⟩ ?_
  refine cif h et (fun hb h => ?_) (fun hb h => ?_)
  ·refine sr (sac ?_)
   refine sac ?_
   refine nk (c_ret ?_)
   obtain rfl := some_inj h
   exact q_ret (vs := [vi 4, vb true]) Tryz.results76 ⟨ev_tmp rfl rfl, ⟨ev_tmp rfl rfl, trivial⟩⟩ (fq hI trivial)
  refine sr (sq (y_eql rfl et ev_const) ?_)
  refine sa ?_
  refine nk (cif h et (fun hb h => ?_) (fun hb h => ?_))
  ·refine sr (sac ?_)
   refine sac ?_
   refine nk (c_ret ?_)
   obtain rfl := some_inj h
   exact q_ret (vs := [vi 6, vb true]) Tryz.results76 ⟨ev_tmp rfl rfl, ⟨ev_tmp rfl rfl, trivial⟩⟩ (fq hI trivial)
  refine sr (sq (y_eql rfl et ev_const) ?_)
  refine sa ?_
  refine nk (cif h et (fun hb h => ?_) (fun hb h => ?_))
  ·refine sr (sac ?_)
   refine sac ?_
   refine nk (c_ret ?_)
   obtain rfl := some_inj h
   exact q_ret (vs := [vi 9, vb true]) Tryz.results76 ⟨ev_tmp rfl rfl, ⟨ev_tmp rfl rfl, trivial⟩⟩ (fq hI trivial)
  refine sr (sq (y_eql rfl et ev_const) ?_)
  refine sa ?_
  refine nk (cif h et (fun hb h => ?_) (fun hb h => ?_))
  ·refine sr (sac ?_)
   refine sac ?_
   refine nk (c_ret ?_)
   obtain rfl := some_inj h
   exact q_ret (vs := [vi 10, vb true]) Tryz.results76 ⟨ev_tmp rfl rfl, ⟨ev_tmp rfl rfl, trivial⟩⟩ (fq hI trivial)
  refine c_skip (k_same (sr (sac ?_)))
  refine sac ?_
  refine nk (c_ret ?_)
  obtain rfl := some_inj h
  exact q_ret (vs := [vi 0, vb false]) Tryz.results76 ⟨ev_tmp rfl rfl, ⟨ev_tmp rfl rfl, trivial⟩⟩ (fq hI trivial)
 refine sr (sq (y_eql rfl et ev_const) ?_)
 refine sa ?_
 refine nk (cif h et (fun hb h => ?_) (fun hb h => ?_))
 ·exact c_skip (k_join (decide (fold1 = 1)) ⟨rfl, rfl, trivial⟩ ⟨_, hI.arr .n trivial, h⟩ rfl)
 refine c_region rfl ?_
 refine sq (y_eql rfl et ev_const) ?_
 refine sa ?_
 refine s_nil ?_
 exact k_join (decide (fold1 = 5)) ⟨rfl, rfl, trivial⟩ ⟨_, hI.arr .n trivial, h⟩ rfl
theorem c_value_Zero (F : NP) (w0 : World) (hF : ∀ k, F k → k < w0.heap.size) (t1 : GType) (hc : AllCl [] F w0) (r : GVal)
  (h : m_value_Zero t1 = some r) :
  Calls Tryz.prog 103 #[(Value.agg (AType t1))] w0 fun e w => e = .returned (Value.agg (AVal r)) ∧ Ext w0 w ∧ AllCl [] F w := by
 refine enterK Tryz.func103 rfl Tryz.ntmps103 rfl ?_
 have hI := Bun.start hF hc
 clear hc
 rw [m_value_Zero] at h
 refine sr (l_box (v := (Value.agg (AType t1))) (cs := (AType t1)) hI gn rfl rfl et rfl ?_)
 clear hI; intro b1 c1 w1 hI
 obtain ⟨c2, hI⟩ := hI.relBox .z
 refine l_alloc (cs := #[vi 0, vi 0]) hI gn rfl rfl zero_36 rfl ?_
 clear hI; intro b2 c3 w2 hI
 refine nk (c_seq (sr (sq (y_loadN (l := (lType t1)) rfl et u23 rfl size_23 (hI.kblk (l := (lType t1)) .z rfl).1) ?_)))
 obtain ⟨r1, hx1, h⟩ := bnd_some h
 refine s_call gn rfl (r_callF (vs := [(Value.agg (AType t1))]) rfl ok_57 ⟨et, trivial⟩) (Calls.mono (c_value_ValidateType (Dj F c3) w2 hI.lt t1 trivial r1 hx1) ?_)
 rintro _ w3 ⟨rfl, hx2, hl1⟩
 refine ⟨_, rfl, ?_⟩
 replace hI := (hI.ext hx2)
 refine sq (y_neq rfl et ev_const) ?_
 refine nk (cif h et (fun hb h => ?_) (fun hb h => ?_))
 ·refine sr (sq (y_build (vs := []) (cs := #[vi 0, vi 0]) rfl trivial (by kernel_rfl)) ?_)
  refine l_store (new := [vi 0, vi 0]) (cs' := #[vi 0, vi 0]) hI .z gn rfl rfl et et rfl size_36 rfl rfl rfl ?_
  clear hI; intro c4 w4 hI
  refine nk (c_ret ?_)
  obtain rfl := some_inj h
  exact q_ret (vs := [(Value.agg #[vi 0, vi 0])]) Tryz.results103 ⟨⟨_, ev_tmp rfl rfl, load_agg (l := [vi 0, vi 0]) u36 rfl size_36 (CellsAt.of_blk (hI.blk .z) rfl)⟩, trivial⟩ (fq hI trivial)
 refine c_skip (k_same (sr (sq (y_build (vs := [(0, vi 0), (1, vi 1)]) (cs := #[vi 0, vi 1]) rfl ⟨rfl, ev_const, ⟨rfl, ev_const, trivial⟩⟩ (by kernel_rfl)) ?_)))
 refine l_store (new := [vi 0, vi 1]) (cs' := #[vi 0, vi 1]) hI .z gn rfl rfl et et rfl size_36 rfl rfl rfl ?_
 clear hI; intro c5 w5 hI
 refine nk (c_ret ?_)
 obtain rfl := some_inj h
 exact q_ret (vs := [(Value.agg #[vi 0, vi 1])]) Tryz.results103 ⟨⟨_, ev_tmp rfl rfl, load_agg (l := [vi 0, vi 1]) u36 rfl size_36 (CellsAt.of_blk (hI.blk .z) rfl)⟩, trivial⟩ (fq hI trivial)
theorem c_value_One (F : NP) (w0 : World) (hF : ∀ k, F k → k < w0.heap.size) (t1 : GType) (hc : AllCl [] F w0) (r : GVal × Int)
  (h : m_value_One t1 = some r) :
  Calls Tryz.prog 104 #[(Value.agg (AType t1))] w0 fun e w => e = .returned (Value.tuple #[(Value.agg (AVal r.1)), vi r.2]) ∧ Ext w0 w ∧ AllCl [] F w := by
 refine enterK Tryz.func104 rfl Tryz.ntmps104 rfl ?_
 have hI := Bun.start hF hc
 clear hc
 rw [m_value_One] at h
 refine sr (l_box (v := (Value.agg (AType t1))) (cs := (AType t1)) hI gn rfl rfl et rfl ?_)
 clear hI; intro b1 c1 w1 hI
 obtain ⟨c2, hI⟩ := hI.relBox .z
 refine l_alloc (cs := #[vi 0, vi 0]) hI gn rfl rfl zero_36 rfl ?_
 clear hI; intro b2 c3 w2 hI
 refine sac ?_
 refine nk (c_seq (c_block (sr (sq (y_loadN (l := (lType t1)) rfl et u23 rfl size_23 (hI.kblk (l := (lType t1)) .z rfl).1) ?_))))
 obtain ⟨r1, hx1, h⟩ := bnd_some h
 refine s_call gn rfl (r_callF (vs := [(Value.agg (AType t1))]) rfl ok_57 ⟨et, trivial⟩) (Calls.mono (c_value_ValidateType (Dj F c3) w2 hI.lt t1 trivial r1 hx1) ?_)
 rintro _ w3 ⟨rfl, hx2, hl1⟩
 refine ⟨_, rfl, ?_⟩
 replace hI := (hI.ext hx2)
 refine sq (y_neq rfl et ev_const) ?_
 refine sa ?_
 refine nk (cif h et (fun hb h => ?_) (fun hb h => ?_))
 ·refine sr (sq (y_build (vs := []) (cs := #[vi 0, vi 0]) rfl trivial (by kernel_rfl)) ?_)
  refine l_store (new := [vi 0, vi 0]) (cs' := #[vi 0, vi 0]) hI .z gn rfl rfl et et rfl size_36 rfl rfl rfl ?_
  clear hI; intro c4 w4 hI
  refine sac ?_
  refine nk (c_ret ?_)
  obtain rfl := some_inj h
  exact q_ret (vs := [(Value.agg #[vi 0, vi 0]), vi 10]) Tryz.results104 ⟨⟨_, ev_tmp rfl rfl, load_agg (l := [vi 0, vi 0]) u36 rfl size_36 (CellsAt.of_blk (hI.blk .z) rfl)⟩, ⟨ev_tmp rfl rfl, trivial⟩⟩ (fq hI trivial)
 refine sr (sq (y_fieldAddr rfl et u23 rfl size_3 rfl) ?_)
 refine sq (y_load1 (v := (vi t1.Kind)) rfl et u3 rfl (hI.kblk (l := [vi t1.Kind]) .z rfl).1) ?_
 refine sq (y_neq rfl et ev_const) ?_
 refine sa ?_
 refine nk (cif h et (fun hb h => ?_) (fun hb h => ?_))
 ·refine sr (sq (y_build (vs := [(0, vi 1), (1, vi 1)]) (cs := #[vi 1, vi 1]) rfl ⟨rfl, ev_const, ⟨rfl, ev_const, trivial⟩⟩ (by kernel_rfl)) ?_)
  refine l_store (new := [vi 1, vi 1]) (cs' := #[vi 1, vi 1]) hI .z gn rfl rfl et et rfl size_36 rfl rfl rfl ?_
  clear hI; intro c5 w5 hI
  refine sac ?_
  refine nk (c_ret ?_)
  obtain rfl := some_inj h
  exact q_ret (vs := [(Value.agg #[vi 1, vi 1]), vi 0]) Tryz.results104 ⟨⟨_, ev_tmp rfl rfl, load_agg (l := [vi 1, vi 1]) u36 rfl size_36 (CellsAt.of_blk (hI.blk .z) rfl)⟩, ⟨ev_tmp rfl rfl, trivial⟩⟩ (fq hI trivial)
 refine c_skip (k_same (sr (sq (y_fieldAddr rfl et u23 rfl size_3 rfl) ?_)))
 refine sq (y_load1 (v := (vi t1.Frac)) rfl et u3 rfl (hI.kblk (l := [vi t1.Frac]) .z rfl).1) ?_
 obtain ⟨ho1, h⟩ := chk_some h
 refine sq (y_shl rfl ev_const et ho1) ?_
 refine sq (y_build (vs := [(0, (vi (wi64 (1 * 2 ^ (min (Int.toNat t1.Frac) 64))))), (1, vi 1)]) (cs := #[(vi (wi64 (1 * 2 ^ (min (Int.toNat t1.Frac) 64)))), vi 1]) rfl ⟨rfl, et, ⟨rfl, ev_const, trivial⟩⟩ (by kernel_rfl)) ?_
 refine l_alloc (cs := #[vi 0, vi 0]) hI gn rfl rfl zero_36 rfl ?_
 clear hI; intro b3 c6 w6 hI
 refine l_store (new := [(vi (wi64 (1 * 2 ^ (min (Int.toNat t1.Frac) 64)))), vi 1]) (cs' := #[(vi (wi64 (1 * 2 ^ (min (Int.toNat t1.Frac) 64)))), vi 1]) hI .z gn rfl rfl et et rfl size_36 rfl rfl rfl ?_
 clear hI; intro c7 w7 hI
 refine nk (c_seq (sr (sq (y_loadN (l := (lType t1)) rfl et u23 rfl size_23 (hI.kblk (l := (lType t1)) .z rfl).1) ?_)))
 refine sq (y_loadN (l := [(vi (wi64 (1 * 2 ^ (min (Int.toNat t1.Frac) 64)))), vi 1]) rfl et u36 rfl size_36 (CellsAt.of_blk (hI.blk .z) rfl)) ?_
 obtain ⟨r2, hx3, h⟩ := bnd_some h
 refine s_call gn rfl (r_callF (vs := [(Value.agg (AType t1)), (Value.agg #[(vi (wi64 (1 * 2 ^ (min (Int.toNat t1.Frac) 64)))), vi 1])]) rfl ok_89 ⟨et, ⟨et, trivial⟩⟩) (Calls.mono (c_fixed_Valid (Dj F c7) w7 hI.lt t1 (⟨wi64 (1 * 2 ^ (min (Int.toNat t1.Frac) 64)), 1⟩ : GVal) trivial r2 hx3) ?_)
 rintro _ w8 ⟨rfl, hx4, hl2⟩
 refine ⟨_, rfl, ?_⟩
 replace hI := (hI.ext hx4)
 refine sq (y_not rfl et) ?_
 refine nk (cif h et (fun hb h => ?_) (fun hb h => ?_))
 ·refine sr (sq (y_build (vs := []) (cs := #[vi 0, vi 0]) rfl trivial (by kernel_rfl)) ?_)
  refine l_store (new := [vi 0, vi 0]) (cs' := #[vi 0, vi 0]) hI (.s .z) gn rfl rfl et et rfl size_36 rfl rfl rfl ?_
  clear hI; intro c8 w9 hI
  refine sac ?_
  refine nk (c_ret ?_)
  obtain rfl := some_inj h
  exact q_ret (vs := [(Value.agg #[vi 0, vi 0]), vi 3]) Tryz.results104 ⟨⟨_, ev_tmp rfl rfl, load_agg (l := [vi 0, vi 0]) u36 rfl size_36 (CellsAt.of_blk (hI.blk (.s .z)) rfl)⟩, ⟨ev_tmp rfl rfl, trivial⟩⟩ (fq hI trivial)
 refine c_skip (k_same (sr (sq (y_loadN (l := [(vi (wi64 (1 * 2 ^ (min (Int.toNat t1.Frac) 64)))), vi 1]) rfl et u36 rfl size_36 (CellsAt.of_blk (hI.blk .z) rfl)) ?_)))
 refine l_store (new := [(vi (wi64 (1 * 2 ^ (min (Int.toNat t1.Frac) 64)))), vi 1]) (cs' := #[(vi (wi64 (1 * 2 ^ (min (Int.toNat t1.Frac) 64)))), vi 1]) hI (.s .z) gn rfl rfl et et rfl size_36 rfl rfl rfl ?_
 clear hI; intro c9 w10 hI
 refine sac ?_
 refine nk (c_ret ?_)
 obtain rfl := some_inj h
 exact q_ret (vs := [(Value.agg #[(vi (wi64 (1 * 2 ^ (min (Int.toNat t1.Frac) 64)))), vi 1]), vi 0]) Tryz.results104 ⟨⟨_, ev_tmp rfl rfl, load_agg (l := [(vi (wi64 (1 * 2 ^ (min (Int.toNat t1.Frac) 64)))), vi 1]) u36 rfl size_36 (CellsAt.of_blk (hI.blk (.s .z)) rfl)⟩, ⟨ev_tmp rfl rfl, trivial⟩⟩ (fq hI trivial)
theorem c_value_Identity (F : NP) (w0 : World) (hF : ∀ k, F k → k < w0.heap.size) (fold1 : Int) (t1 : GType) (hc : AllCl [] F w0) (r : GVal × Bool)
  (h : m_value_Identity fold1 t1 = some r) :
  Calls Tryz.prog 77 #[vi fold1, (Value.agg (AType t1))] w0 fun e w => e = .returned (Value.tuple #[(Value.agg (AVal r.1)), vb r.2]) ∧ Ext w0 w ∧ AllCl [] F w := by
 refine enterK Tryz.func77 rfl Tryz.ntmps77 rfl ?_
 have hI := Bun.start hF hc
 clear hc
 rw [m_value_Identity] at h
 refine sr (l_box (v := (Value.agg (AType t1))) (cs := (AType t1)) hI gn rfl rfl et rfl ?_)
 clear hI; intro b1 c1 w1 hI
 obtain ⟨c2, hI⟩ := hI.relBox .z
 refine l_alloc (cs := #[vi 0, vi 0]) hI gn rfl rfl zero_36 rfl ?_
 clear hI; intro b2 c3 w2 hI
 refine sac ?_
 refine nk (c_seq (sr (sq (y_loadN (l := (lType t1)) rfl et u23 rfl size_23 (hI.kblk (l := (lType t1)) .z rfl).1) ?_)))
 obtain ⟨r1, hx1, h⟩ := bnd_some h
 refine s_call gn rfl (r_callF (vs := [(Value.agg (AType t1))]) rfl ok_57 ⟨et, trivial⟩) (Calls.mono (c_value_ValidateType (Dj F c3) w2 hI.lt t1 trivial r1 hx1) ?_)
 rintro _ w3 ⟨rfl, hx2, hl1⟩
 refine ⟨_, rfl, ?_⟩
 replace hI := (hI.ext hx2)
 refine sq (y_neq rfl et ev_const) ?_
 refine nk (cif h et (fun hb h => ?_) (fun hb h => ?_))
 ·refine sr (sq (y_build (vs := []) (cs := #[vi 0, vi 0]) rfl trivial (by kernel_rfl)) ?_)
  refine l_store (new := [vi 0, vi 0]) (cs' := #[vi 0, vi 0]) hI .z gn rfl rfl et et rfl size_36 rfl rfl rfl ?_
  clear hI; intro c4 w4 hI
  refine sac ?_
  refine nk (c_ret ?_)
  obtain rfl := some_inj h
  exact q_ret (vs := [(Value.agg #[vi 0, vi 0]), vb false]) Tryz.results77 ⟨⟨_, ev_tmp rfl rfl, load_agg (l := [vi 0, vi 0]) u36 rfl size_36 (CellsAt.of_blk (hI.blk .z) rfl)⟩, ⟨ev_tmp rfl rfl, trivial⟩⟩ (fq hI trivial)
 refine c_skip (k_same (c_seq (sr (sm ?_))))
 refine nk (c_block (c_join (α := Bool) (fun _ => ⟨29, []⟩) (fun x => [(3, vp b1 0), (4, vp b2 0), (12, vi fold1), (13, vb x)]) (fun x => fun w => ∃ C, Bun noM F w0 C w [MO.box b2 36 #[vi 0, vi 0]] [Cl.blk b1 23 (AType t1)] ∧ m_value_Identity_j1 t1 fold1 x = some r) ?_ ?_))
 ·clear h hI; rintro i1 w5 ⟨c5, hI, h⟩
  try dsimp only at hI h
  rw [m_value_Identity_j1] at h
  refine c_sub (e := [(3, vp b1 0), (4, vp b2 0), (12, vi fold1), (13, vb i1)]) ⟨rfl, rfl, rfl, rfl, trivial⟩ ?_
  refine cif h et (fun hb h => ?_) (fun hb h => ?_)
  ·refine sr (sq (y_loadN (l := (lType t1)) rfl et u23 rfl size_23 (hI.kblk (l := (lType t1)) .z rfl).1) ?_)
   obtain ⟨r2, hx3, h⟩ := bnd_some h
   refine s_call gn rfl (r_callF (vs := [(Value.agg (AType t1))]) rfl ok_103 ⟨et, trivial⟩) (Calls.mono (c_value_Zero (Dj F c5) w5 hI.lt t1 trivial r2 hx3) ?_)
   rintro _ w6 ⟨rfl, hx4, hl2⟩
   refine ⟨_, rfl, ?_⟩
   replace hI := (hI.ext hx4)
   refine l_store (new := (lVal r2)) (cs' := (AVal r2)) hI .z gn rfl rfl et et rfl size_36 rfl rfl rfl ?_
   clear hI; intro c6 w7 hI
   refine sac ?_
   refine nk (c_ret ?_)
   obtain rfl := some_inj h
   exact q_ret (vs := [(Value.agg (AVal r2)), vb true]) Tryz.results77 ⟨⟨_, ev_tmp rfl rfl, load_agg (l := (lVal r2)) u36 rfl size_36 (CellsAt.of_blk (hI.blk .z) rfl)⟩, ⟨ev_tmp rfl rfl, trivial⟩⟩ (fq hI trivial)
  refine sr (sq (y_eql rfl et ev_const) ?_)
  refine sa ?_
  refine nk (cif h et (fun hb h => ?_) (fun hb h => ?_))
  ·refine sr (sq (y_loadN (l := (lType t1)) rfl et u23 rfl size_23 (hI.kblk (l := (lType t1)) .z rfl).1) ?_)
   obtain ⟨r3, hx5, h⟩ := bnd_some h
   refine s_call gn rfl (r_callF (vs := [(Value.agg (AType t1))]) rfl ok_104 ⟨et, trivial⟩) (Calls.mono (c_value_One (Dj F c5) w5 hI.lt t1 trivial r3 hx5) ?_)
   rintro _ w8 ⟨rfl, hx6, hl3⟩
   refine ⟨_, rfl, ?_⟩
   replace hI := (hI.ext hx6)
   refine sm ?_
   refine sq (y_extract rfl et rfl) ?_
   refine sq (y_extract rfl et rfl) ?_
   refine l_alloc (cs := #[vi 0, vi 0]) hI gn rfl rfl zero_36 rfl ?_
   clear hI; intro b3 c7 w9 hI
   refine l_store (new := (lVal r3.1)) (cs' := (AVal r3.1)) hI .z gn rfl rfl et et rfl size_36 rfl rfl rfl ?_
   clear hI; intro c8 w10 hI
   refine sa ?_
   refine nk (sr (sq (y_loadN (l := (lVal r3.1)) rfl et u36 rfl size_36 (CellsAt.of_blk (hI.blk .z) rfl)) ?_))
   refine sm ?_
   refine sq (y_eql rfl et ev_const) ?_
   refine l_store (new := (lVal r3.1)) (cs' := (AVal r3.1)) hI (.s .z) gn rfl rfl et et rfl size_36 rfl rfl rfl ?_
   clear hI; intro c9 w11 hI
   refine sa ?_
   refine nk (c_ret ?_)
   obtain rfl := some_inj h
   exact q_ret (vs := [(Value.agg (AVal r3.1)), (vb (decide (r3.2 = 0)))]) Tryz.results77 ⟨⟨_, ev_tmp rfl rfl, load_agg (l := (lVal r3.1)) u36 rfl size_36 (CellsAt.of_blk (hI.blk (.s .z)) rfl)⟩, ⟨ev_tmp rfl rfl, trivial⟩⟩ (fq hI trivial)
  refine c_skip (k_same (sr (sq (y_build (vs := []) (cs := #[vi 0, vi 0]) rfl trivial (by kernel_rfl)) ?_)))
  refine l_store (new := [vi 0, vi 0]) (cs' := #[vi 0, vi 0]) hI .z gn rfl rfl et et rfl size_36 rfl rfl rfl ?_
  clear hI; intro c10 w12 hI
  refine sac ?_
  refine nk (c_ret ?_)
  obtain rfl := some_inj h
  exact q_ret (vs := [(Value.agg #[vi 0, vi 0]), vb false]) Tryz.results77 ⟨⟨_, ev_tmp rfl rfl, load_agg (l := [vi 0, vi 0]) u36 rfl size_36 (CellsAt.of_blk (hI.blk .z) rfl)⟩, ⟨ev_tmp rfl rfl, trivial⟩⟩ (fq hI trivial)
 refine sr (sq (y_eql rfl et ev_const) ?_)
 refine sa ?_
 refine nk (cif h et (fun hb h => ?_) (fun hb h => ?_))
 ·exact c_skip (k_join (decide (fold1 = 1)) ⟨rfl, rfl, rfl, rfl, trivial⟩ ⟨_, hI.arr (.c .z .n) ⟨.z, trivial⟩, h⟩ rfl)
 refine c_region rfl ?_
 refine sq (y_eql rfl et ev_const) ?_
 refine sa ?_
 refine s_nil ?_
 exact k_join (decide (fold1 = 5)) ⟨rfl, rfl, rfl, rfl, trivial⟩ ⟨_, hI.arr (.c .z .n) ⟨.z, trivial⟩, h⟩ rfl
theorem c_value_Reduce (F : NP) (w0 : World) (hF : ∀ k, F k → k < w0.heap.size) (fold1 : Int) (t1 : GType) (l1 : List GVal) (a1 : Option Addr) (c1 : Nat) (hc : AllCl [Cl.sl cGVal a1 c1 l1] F w0) (r : GVal × Int)
  (h : m_value_Reduce fold1 t1 l1 = some r) :
  Calls Tryz.prog 43 #[vi fold1, (Value.agg (AType t1)), vs a1 l1.length c1] w0 fun e w => e = .returned (Value.tuple #[(Value.agg (AVal r.1)), vi r.2]) ∧ Ext w0 w ∧ AllCl [] F w := by
 refine enterK Tryz.func43 rfl Tryz.ntmps43 rfl ?_
 have hI := Bun.start hF hc
 clear hc
 rw [m_value_Reduce] at h
 refine sr (l_box (v := (Value.agg (AType t1))) (cs := (AType t1)) hI gn rfl rfl et rfl ?_)
 clear hI; intro b1 c2 w1 hI
 obtain ⟨c3, hI⟩ := hI.relBox .z
 refine l_alloc (cs := #[vi 0, vi 0]) hI gn rfl rfl zero_36 rfl ?_
 clear hI; intro b2 c4 w2 hI
 refine sac ?_
 refine nk (sr (sm ?_))
 obtain ⟨r1, hx1, h⟩ := bnd_some h
 refine s_call gn rfl (r_callF (vs := [vi fold1]) rfl ok_76 ⟨et, trivial⟩) (Calls.mono (c_value_operator (Dj F c4) w2 hI.lt fold1 trivial r1 hx1) ?_)
 rintro _ w3 ⟨rfl, hx2, hl1⟩
 refine ⟨_, rfl, ?_⟩
 replace hI := (hI.ext hx2)
 refine sm ?_
 refine sq (y_extract rfl et rfl) ?_
 refine sq (y_extract rfl et rfl) ?_
 refine sa ?_
 refine sa ?_
 refine nk (c_seq (c_block (sr (sm ?_))))
 refine sq (y_not rfl et) ?_
 refine sa ?_
 refine nk (cif h et (fun hb h => ?_) (fun hb h => ?_))
 ·refine sr (sq (y_build (vs := []) (cs := #[vi 0, vi 0]) rfl trivial (by kernel_rfl)) ?_)
  refine l_store (new := [vi 0, vi 0]) (cs' := #[vi 0, vi 0]) hI .z gn rfl rfl et et rfl size_36 rfl rfl rfl ?_
  clear hI; intro c5 w4 hI
  refine sac ?_
  refine nk (c_ret ?_)
  obtain rfl := some_inj h
  exact q_ret (vs := [(Value.agg #[vi 0, vi 0]), vi 1]) Tryz.results43 ⟨⟨_, ev_tmp rfl rfl, load_agg (l := [vi 0, vi 0]) u36 rfl size_36 (CellsAt.of_blk (hI.blk .z) rfl)⟩, ⟨ev_tmp rfl rfl, trivial⟩⟩ (fq hI trivial)
 refine sr (sq (y_loadN (l := (lType t1)) rfl et u23 rfl size_23 (hI.kblk (l := (lType t1)) .z rfl).1) ?_)
 obtain ⟨r2, hx3, h⟩ := bnd_some h
 refine s_call gn rfl (r_callF (vs := [(Value.agg (AType t1))]) rfl ok_57 ⟨et, trivial⟩) (Calls.mono (c_value_ValidateType (Dj F c4) w3 hI.lt t1 trivial r2 hx3) ?_)
 rintro _ w5 ⟨rfl, hx4, hl2⟩
 refine ⟨_, rfl, ?_⟩
 replace hI := (hI.ext hx4)
 refine sq (y_neq rfl et ev_const) ?_
 refine sa ?_
 refine nk (cif h et (fun hb h => ?_) (fun hb h => ?_))
 ·refine sr (sq (y_build (vs := []) (cs := #[vi 0, vi 0]) rfl trivial (by kernel_rfl)) ?_)
  refine l_store (new := [vi 0, vi 0]) (cs' := #[vi 0, vi 0]) hI .z gn rfl rfl et et rfl size_36 rfl rfl rfl ?_
  clear hI; intro c6 w6 hI
  refine sac ?_
  refine nk (c_ret ?_)
  obtain rfl := some_inj h
  exact q_ret (vs := [(Value.agg #[vi 0, vi 0]), vi 10]) Tryz.results43 ⟨⟨_, ev_tmp rfl rfl, load_agg (l := [vi 0, vi 0]) u36 rfl size_36 (CellsAt.of_blk (hI.blk .z) rfl)⟩, ⟨ev_tmp rfl rfl, trivial⟩⟩ (fq hI trivial)
 refine c_skip (k_same (c_join (α := Unit) (fun _ => ⟨83, []⟩) (fun _ => [(0, vi fold1), (2, vs a1 l1.length c1), (4, vp b1 0), (6, vp b2 0), (8, vi r1.1)]) (fun _ => fun w => ∃ C, Bun noM F w0 C w [MO.box b2 36 #[vi 0, vi 0]] [Cl.sl cGVal a1 c1 l1, Cl.blk b1 23 (AType t1)] ∧ m_value_Reduce_j1 l1 fold1 t1 r1 = some r) ?_ ?_))
 ·clear h hI; rintro _ w7 ⟨c7, hI, h⟩
  try dsimp only at hI h
  rw [m_value_Reduce_j1] at h
  refine c_sub (e := [(0, vi fold1), (2, vs a1 l1.length c1), (4, vp b1 0), (6, vp b2 0), (8, vi r1.1)]) ⟨rfl, rfl, rfl, rfl, rfl, trivial⟩ ?_
  refine c_seq (sr (sm ?_))
  refine sq (y_lenl rfl u25 et) ?_
  refine sq (y_eql rfl et ev_const) ?_
  refine nk (cif h et (fun hb h => ?_) (fun hb h => ?_))
  ·refine sr (sm ?_)
   refine sq (y_loadN (l := (lType t1)) rfl et u23 rfl size_23 (hI.kblk (l := (lType t1)) (.s .z) rfl).1) ?_
   obtain ⟨r3, hx5, h⟩ := bnd_some h
   refine s_call gn rfl (r_callF (vs := [vi fold1, (Value.agg (AType t1))]) rfl ok_77 ⟨et, ⟨et, trivial⟩⟩) (Calls.mono (c_value_Identity (Dj F c7) w7 hI.lt fold1 t1 trivial r3 hx5) ?_)
   rintro _ w8 ⟨rfl, hx6, hl3⟩
   refine ⟨_, rfl, ?_⟩
   replace hI := (hI.ext hx6)
   refine sm ?_
   refine sq (y_extract rfl et rfl) ?_
   refine sq (y_extract rfl et rfl) ?_
   refine l_alloc (cs := #[vi 0, vi 0]) hI gn rfl rfl zero_36 rfl ?_
   clear hI; intro b3 c8 w9 hI
   refine l_store (new := (lVal r3.1)) (cs' := (AVal r3.1)) hI .z gn rfl rfl et et rfl size_36 rfl rfl rfl ?_
   clear hI; intro c9 w10 hI
   refine sa ?_
   refine nk (c_seq (sr (sm ?_)))
   refine sq (y_not rfl et) ?_
   refine nk (cif h et (fun hb h => ?_) (fun hb h => ?_))
   ·refine sr (sq (y_build (vs := []) (cs := #[vi 0, vi 0]) rfl trivial (by kernel_rfl)) ?_)
    refine l_store (new := [vi 0, vi 0]) (cs' := #[vi 0, vi 0]) hI (.s .z) gn rfl rfl et et rfl size_36 rfl rfl rfl ?_
    clear hI; intro c10 w11 hI
    refine sac ?_
    refine nk (c_ret ?_)
    obtain rfl := some_inj h
    exact q_ret (vs := [(Value.agg #[vi 0, vi 0]), vi 1]) Tryz.results43 ⟨⟨_, ev_tmp rfl rfl, load_agg (l := [vi 0, vi 0]) u36 rfl size_36 (CellsAt.of_blk (hI.blk (.s .z)) rfl)⟩, ⟨ev_tmp rfl rfl, trivial⟩⟩ (fq hI trivial)
   refine c_skip (k_same (sr (sq (y_loadN (l := (lVal r3.1)) rfl et u36 rfl size_36 (CellsAt.of_blk (hI.blk .z) rfl)) ?_)))
   refine l_store (new := (lVal r3.1)) (cs' := (AVal r3.1)) hI (.s .z) gn rfl rfl et et rfl size_36 rfl rfl rfl ?_
   clear hI; intro c11 w12 hI
   refine sac ?_
   refine nk (c_ret ?_)
   obtain rfl := some_inj h
   exact q_ret (vs := [(Value.agg (AVal r3.1)), vi 0]) Tryz.results43 ⟨⟨_, ev_tmp rfl rfl, load_agg (l := (lVal r3.1)) u36 rfl size_36 (CellsAt.of_blk (hI.blk (.s .z)) rfl)⟩, ⟨ev_tmp rfl rfl, trivial⟩⟩ (fq hI trivial)
  refine c_skip (k_same (sr (sm ?_)))
  obtain ⟨e1, hx7, h⟩ := bnd_some h
  obtain ⟨ad1, cs1, hA1, hr1, hq1⟩ := hI.clat .z hx7
  obtain rfl : cs1 = (lVal e1) := hr1
  refine sq (y_indexAddr rfl u25 size_36 et ev_const (lat_bd hx7) hA1) ?_
  refine sq (y_loadN (l := (lVal e1)) rfl et u36 rfl size_36 hq1.1) ?_
  refine l_alloc (cs := #[vi 0, vi 0]) hI gn rfl rfl zero_36 rfl ?_
  clear hI; intro b4 c12 w13 hI
  refine l_store (new := (lVal e1)) (cs' := (AVal e1)) hI .z gn rfl rfl et et rfl size_36 rfl rfl rfl ?_
  clear hI; intro c13 w14 hI
  refine nk (c_seq (sr (sm ?_)))
  obtain ⟨zs1, hx8, h⟩ := bnd_some h
  obtain ⟨a2, hB1⟩ : ∃ B : Option Addr, B = (if c1 = Int.toNat 1 then a1 else Option.map (·.add (Int.toNat 1 * 2)) a1) := ⟨_, rfl⟩
  refine sq (y_lfrom rfl u25 size_36 et ev_const hx8 hB1) ?_
  replace hI := hI.from_ .z hx8 hB1
  refine sq (y_lenl rfl u25 et) ?_
  refine sq (y_move rfl ev_const) ?_
  refine nk (c_block (c_loop (α := Nat × Int × GVal) (fun x => fun w => ∃ C, Bun noM F w0 C w [MO.box b2 36 #[vi 0, vi 0], MO.box b4 36 (AVal (x.2.2))] [Cl.blk b1 23 (AType t1), Cl.sl cGVal a2 (c1 - Int.toNat 1) zs1] ∧ m_value_Reduce_l1 zs1 r1 t1 (x.1) (x.2.1) (x.2.2) = some r) (fun x _ => x.1) (fun x => [(4, vp b1 0), (6, vp b2 0), (8, vi r1.1), (14, vp b4 0), (62, vs a2 zs1.length (c1 - Int.toNat 1)), (63, vi (zs1.length : Int)), (64, vi (x.2.1))]) (fu, 0, e1) ⟨_, hI.arr (.c (.s .z) (.c .z .n)) ⟨(.s (.s .z)), .z, trivial⟩, h⟩ ⟨rfl, rfl, rfl, rfl, rfl, rfl, rfl, trivial⟩ ?_))
  clear h hI; rintro ⟨fuel1, i1, out1⟩ w15 ⟨c14, hI, h⟩
  dsimp only at hI h
  rcases fuel1 with _ | fuel1
  ·rw [m_value_Reduce_l1] at h; cases h
  rw [m_value_Reduce_l1] at h
  refine c_sub (e := [(4, vp b1 0), (6, vp b2 0), (8, vi r1.1), (14, vp b4 0), (62, vs a2 zs1.length (c1 - Int.toNat 1)), (63, vi (zs1.length : Int)), (64, vi i1)]) ⟨rfl, rfl, rfl, rfl, rfl, rfl, rfl, trivial⟩ ?_
  refine sr (sq (y_lss rfl et et) ?_)
  refine nk (c_seq (cif h et (fun hb h => ?_) (fun hb h => ?_)))
  ·refine c_skip (k_same (c_seq (c_block (sr ?_))))
   obtain ⟨e2, hx9, h⟩ := bnd_some h
   obtain ⟨ad2, cs2, hA2, hr2, hq2⟩ := hI.clat (.s .z) hx9
   obtain rfl : cs2 = (lVal e2) := hr2
   refine sq (y_indexAddr rfl u25 size_36 et et (lat_bd hx9) hA2) ?_
   refine sq (y_loadN (l := (lVal e2)) rfl et u36 rfl size_36 hq2.1) ?_
   refine l_alloc (cs := #[vi 0, vi 0]) hI gn rfl rfl zero_36 rfl ?_
   clear hI; intro b5 c15 w16 hI
   refine l_store (new := (lVal e2)) (cs' := (AVal e2)) hI .z gn rfl rfl et et rfl size_36 rfl rfl rfl ?_
   clear hI; intro c16 w17 hI
   refine nk (sr (sm ?_))
   refine sq (y_loadN (l := (lType t1)) rfl et u23 rfl size_23 (hI.kblk (l := (lType t1)) .z rfl).1) ?_
   refine sq (y_loadN (l := (lVal out1)) rfl et u36 rfl size_36 (CellsAt.of_blk (hI.blk (.s (.s .z))) rfl)) ?_
   refine sq (y_loadN (l := (lVal e2)) rfl et u36 rfl size_36 (CellsAt.of_blk (hI.blk .z) rfl)) ?_
   obtain ⟨r4, hx10, h⟩ := bnd_some h
   refine s_call gn rfl (r_callF (vs := [vi r1.1, (Value.agg (AType t1)), (Value.agg (AVal out1)), (Value.agg (AVal e2))]) rfl ok_75 ⟨et, ⟨et, ⟨et, ⟨et, trivial⟩⟩⟩⟩) (Calls.mono (c_value_Apply (Dj F c16) w17 hI.lt r1.1 t1 out1 e2 trivial r4 hx10) ?_)
   rintro _ w18 ⟨rfl, hx11, hl4⟩
   refine ⟨_, rfl, ?_⟩
   replace hI := (hI.ext hx11)
   refine sm ?_
   refine sq (y_extract rfl et rfl) ?_
   refine sq (y_extract rfl et rfl) ?_
   refine l_alloc (cs := #[vi 0, vi 0]) hI gn rfl rfl zero_36 rfl ?_
   clear hI; intro b6 c17 w19 hI
   refine l_store (new := (lVal r4.1)) (cs' := (AVal r4.1)) hI .z gn rfl rfl et et rfl size_36 rfl rfl rfl ?_
   clear hI; intro c18 w20 hI
   refine sa ?_
   refine nk (c_seq (sr (sm ?_)))
   refine sq (y_neq rfl et ev_const) ?_
   refine nk (cif h et (fun hb h => ?_) (fun hb h => ?_))
   ·refine sr (sq (y_build (vs := []) (cs := #[vi 0, vi 0]) rfl trivial (by kernel_rfl)) ?_)
    refine sm ?_
    refine l_store (new := [vi 0, vi 0]) (cs' := #[vi 0, vi 0]) hI (.s (.s .z)) gn rfl rfl et et rfl size_36 rfl rfl rfl ?_
    clear hI; intro c19 w21 hI
    refine sa ?_
    refine s_nil ?_
    refine k_next (e := [(6, vp b2 0), (7, vi r4.2)]) ⟨rfl, rfl, trivial⟩ ?_
    refine c_ret ?_
    obtain rfl := some_inj h
    exact q_ret (vs := [(Value.agg #[vi 0, vi 0]), vi r4.2]) Tryz.results43 ⟨⟨_, ev_tmp rfl rfl, load_agg (l := [vi 0, vi 0]) u36 rfl size_36 (CellsAt.of_blk (hI.blk (.s (.s .z))) rfl)⟩, ⟨ev_tmp rfl rfl, trivial⟩⟩ (fq hI trivial)
   refine c_skip (k_same (c_region rfl ?_))
   refine sq (y_loadN (l := (lVal r4.1)) rfl et u36 rfl size_36 (CellsAt.of_blk (hI.blk .z) rfl)) ?_
   refine l_store (new := (lVal r4.1)) (cs' := (AVal r4.1)) hI (.s (.s (.s .z))) gn rfl rfl et et rfl size_36 rfl rfl rfl ?_
   clear hI; intro c20 w22 hI
   refine nk (c_region rfl ?_)
   refine sq (y_add rfl et ev_const) ?_
   refine sm ?_
   refine s_nil ?_
   exact k_loop (fuel1, wi64 (i1 + 1), r4.1) ⟨rfl, rfl, rfl, rfl, rfl, rfl, rfl, trivial⟩ ⟨_, hI.arr (.c (.s (.s .z)) (.c (.s (.s .z)) .n)) ⟨.z, (.s .z), trivial⟩, h⟩ (Nat.lt_succ_self _)
  refine c_exit ?_
  refine k_in ?_
  refine k_same (sr (sq (y_loadN (l := (lVal out1)) rfl et u36 rfl size_36 (CellsAt.of_blk (hI.blk (.s .z)) rfl)) ?_))
  refine l_store (new := (lVal out1)) (cs' := (AVal out1)) hI .z gn rfl rfl et et rfl size_36 rfl rfl rfl ?_
  clear hI; intro c21 w23 hI
  refine sac ?_
  refine nk (c_ret ?_)
  obtain rfl := some_inj h
  exact q_ret (vs := [(Value.agg (AVal out1)), vi 0]) Tryz.results43 ⟨⟨_, ev_tmp rfl rfl, load_agg (l := (lVal out1)) u36 rfl size_36 (CellsAt.of_blk (hI.blk .z) rfl)⟩, ⟨ev_tmp rfl rfl, trivial⟩⟩ (fq hI trivial)
 refine sr (sm ?_)
 refine sq (y_lenl rfl u25 et) ?_
 refine sq (y_move rfl ev_const) ?_
 refine nk (c_block (c_loop (α := Nat × Int) (fun x => fun w => ∃ C, Bun noM F w0 C w [MO.box b2 36 #[vi 0, vi 0]] [Cl.sl cGVal a1 c1 l1, Cl.blk b1 23 (AType t1)] ∧ m_value_Reduce_l2 l1 t1 fold1 r1 (x.1) (x.2) = some r) (fun x _ => x.1) (fun x => [(0, vi fold1), (2, vs a1 l1.length c1), (4, vp b1 0), (6, vp b2 0), (8, vi r1.1), (33, vs a1 l1.length c1), (34, vi (l1.length : Int)), (35, vi (x.2))]) (fu, 0) ⟨_, hI.arr (.c .z .n) ⟨(.s .z), .z, trivial⟩, h⟩ ⟨rfl, rfl, rfl, rfl, rfl, rfl, rfl, rfl, trivial⟩ ?_))
 clear h hI; rintro ⟨fuel2, i2⟩ w24 ⟨c22, hI, h⟩
 dsimp only at hI h
 rcases fuel2 with _ | fuel2
 ·rw [m_value_Reduce_l2] at h; cases h
 rw [m_value_Reduce_l2] at h
 refine c_sub (e := [(0, vi fold1), (2, vs a1 l1.length c1), (4, vp b1 0), (6, vp b2 0), (8, vi r1.1), (33, vs a1 l1.length c1), (34, vi (l1.length : Int)), (35, vi i2)]) ⟨rfl, rfl, rfl, rfl, rfl, rfl, rfl, rfl, trivial⟩ ?_
 refine sr (sq (y_lss rfl et et) ?_)
 refine nk (c_seq (cif h et (fun hb h => ?_) (fun hb h => ?_)))
 ·refine c_skip (k_same (c_seq (c_block (sr ?_))))
  obtain ⟨e3, hx12, h⟩ := bnd_some h
  obtain ⟨ad3, cs3, hA3, hr3, hq3⟩ := hI.clat .z hx12
  obtain rfl : cs3 = (lVal e3) := hr3
  refine sq (y_indexAddr rfl u25 size_36 et et (lat_bd hx12) hA3) ?_
  refine sq (y_loadN (l := (lVal e3)) rfl et u36 rfl size_36 hq3.1) ?_
  refine l_alloc (cs := #[vi 0, vi 0]) hI gn rfl rfl zero_36 rfl ?_
  clear hI; intro b7 c23 w25 hI
  refine l_store (new := (lVal e3)) (cs' := (AVal e3)) hI .z gn rfl rfl et et rfl size_36 rfl rfl rfl ?_
  clear hI; intro c24 w26 hI
  refine nk (sr (sq (y_loadN (l := (lType t1)) rfl et u23 rfl size_23 (hI.kblk (l := (lType t1)) (.s .z) rfl).1) ?_))
  refine sq (y_loadN (l := (lVal e3)) rfl et u36 rfl size_36 (CellsAt.of_blk (hI.blk .z) rfl)) ?_
  obtain ⟨r5, hx13, h⟩ := bnd_some h
  refine s_call gn rfl (r_callF (vs := [(Value.agg (AType t1)), (Value.agg (AVal e3))]) rfl ok_54 ⟨et, ⟨et, trivial⟩⟩) (Calls.mono (c_value_Valid (Dj F c24) w26 hI.lt t1 e3 trivial r5 hx13) ?_)
  rintro _ w27 ⟨rfl, hx14, hl5⟩
  refine ⟨_, rfl, ?_⟩
  replace hI := (hI.ext hx14)
  refine sq (y_not rfl et) ?_
  refine nk (cif h et (fun hb h => ?_) (fun hb h => ?_))
  ·refine sr (sq (y_build (vs := []) (cs := #[vi 0, vi 0]) rfl trivial (by kernel_rfl)) ?_)
   refine l_store (new := [vi 0, vi 0]) (cs' := #[vi 0, vi 0]) hI (.s .z) gn rfl rfl et et rfl size_36 rfl rfl rfl ?_
   clear hI; intro c25 w28 hI
   refine sac ?_
   refine nk (c_ret ?_)
   obtain rfl := some_inj h
   exact q_ret (vs := [(Value.agg #[vi 0, vi 0]), vi 1]) Tryz.results43 ⟨⟨_, ev_tmp rfl rfl, load_agg (l := [vi 0, vi 0]) u36 rfl size_36 (CellsAt.of_blk (hI.blk (.s .z)) rfl)⟩, ⟨ev_tmp rfl rfl, trivial⟩⟩ (fq hI trivial)
  refine c_skip (k_same (c_region rfl ?_))
  refine sq (y_add rfl et ev_const) ?_
  refine sm ?_
  refine s_nil ?_
  exact k_loop (fuel2, wi64 (i2 + 1)) ⟨rfl, rfl, rfl, rfl, rfl, rfl, rfl, rfl, trivial⟩ ⟨_, hI.arr (.c (.s .z) .n) ⟨.z, (.s .z), trivial⟩, h⟩ (Nat.lt_succ_self _)
 refine c_exit ?_
 refine k_in ?_
 exact k_join () ⟨rfl, rfl, rfl, rfl, rfl, trivial⟩ ⟨_, hI.arr (.c .z .n) ⟨.z, (.s .z), trivial⟩, h⟩ rfl
theorem c_tensor_Reduce_1_w (C0 F : NP) (w0 : World) (start1 : Int) (stride1 : Int) (a1 : GTensor) (a4 : Int) (a5 : Int) (a6 : GTensor) (b1 : Nat) (a2 : Option Addr) (c1 : Nat) (a3 : Option Addr) (c2 : Nat) (b2 : Nat) (b3 : Nat) (b4 : Nat) (a7 : Option Addr) (c3 : Nat) (a8 : Option Addr) (c4 : Nat) (hI : Bun C0 F w0 C0 w0 [MO.box b4 27 (ATensor a6 a7 c3 a8 c4), MO.row (cInt .i64) 3 a7 c3 a6.Dims, MO.row cGVal 36 a8 c4 a6.Vals] [Cl.sl (cInt .i64) a2 c1 a1.Dims, Cl.sl cGVal a3 c2 a1.Vals, Cl.blk b1 27 (ATensor a1 a2 c1 a3 c2), Cl.blk b2 3 #[vi a4], Cl.blk b3 3 #[vi a5]]) (r : Int × GTensor)
  (h : m_tensor_Reduce_1_w start1 stride1 a1 a4 a5 a6 = some r) :
  Calls Tryz.prog 42 #[vi start1, vi stride1, vp b1 0, vp b2 0, vp b3 0, vp b4 0] w0 fun e w => ∃ (a9 : Option Addr) (c5 : Nat) (a10 : Option Addr) (c6 : Nat) (C : NP), e = .returned (vi r.1) ∧ Bun C0 F w0 C w [MO.box b4 27 (ATensor r.2 a9 c5 a10 c6), MO.row (cInt .i64) 3 a9 c5 r.2.Dims, MO.row cGVal 36 a10 c6 r.2.Vals] [] := by
 refine enterK Tryz.func42 rfl Tryz.ntmps42 rfl ?_
 rw [m_tensor_Reduce_1_w] at h
 refine sr (sac ?_)
 refine nk (sr (sac ?_))
 refine nk (c_join (α := (List GVal) × (Option Addr) × Nat) (fun _ => ⟨49, []⟩) (fun x => [(2, vp b1 0), (4, vp b3 0), (5, vp b4 0), (9, vs (x.2.1) (x.1).length (x.2.2))]) (fun x => fun w => ∃ C, Bun C0 F w0 C w [MO.row cGVal 36 (x.2.1) (x.2.2) (x.1), MO.box b4 27 (ATensor a6 a7 c3 a8 c4), MO.row (cInt .i64) 3 a7 c3 a6.Dims, MO.row cGVal 36 a8 c4 a6.Vals] [Cl.blk b1 27 (ATensor a1 a2 c1 a3 c2), Cl.sl (cInt .i64) a2 c1 a1.Dims, Cl.sl cGVal a3 c2 a1.Vals, Cl.blk b3 3 #[vi a5]] ∧ m_tensor_Reduce_1_w_j1 a5 a1 a6 (x.1) = some r) ?_ ?_)
 ·clear h hI; rintro ⟨l1, a11, c7⟩ w1 ⟨c8, hI, h⟩
  try dsimp only at hI h
  rw [m_tensor_Reduce_1_w_j1] at h
  refine c_sub (e := [(2, vp b1 0), (4, vp b3 0), (5, vp b4 0), (9, vs a11 l1.length c7)]) ⟨rfl, rfl, rfl, rfl, trivial⟩ ?_
  refine sr (sq (y_load1 (v := (vi a5)) rfl et u3 rfl (hI.kblk (l := [vi a5]) (.s (.s (.s .z))) rfl).1) ?_)
  refine sq (y_fieldAddr rfl et u27 rfl size_23 rfl) ?_
  refine sq (y_loadN (l := (lType a1.Type_)) rfl et u23 rfl size_23 (hI.kblk (l := (lType a1.Type_)) .z rfl).1) ?_
  refine sm ?_
  obtain ⟨r1, hx1, h⟩ := bnd_some h
  refine s_call gn rfl (r_callF (vs := [vi a5, (Value.agg (AType a1.Type_)), vs a11 l1.length c7]) rfl ok_43 ⟨et, ⟨et, ⟨et, trivial⟩⟩⟩) (Calls.mono (c_value_Reduce noM w1 (fun _ k => k.elim) a5 a1.Type_ l1 a11 c7 ⟨hI.lend .z, trivial⟩ r1 hx1) ?_)
  rintro _ w2 ⟨rfl, hx2, hl1⟩
  refine ⟨_, rfl, ?_⟩
  replace hI := (hI.ext hx2)
  refine sm ?_
  refine sq (y_extract rfl et rfl) ?_
  refine sq (y_extract rfl et rfl) ?_
  refine l_alloc (cs := #[vi 0, vi 0]) hI gn rfl rfl zero_36 rfl ?_
  clear hI; intro b5 c9 w3 hI
  refine l_store (new := (lVal r1.1)) (cs' := (AVal r1.1)) hI .z gn rfl rfl et et rfl size_36 rfl rfl rfl ?_
  clear hI; intro c10 w4 hI
  refine sa ?_
  refine nk (sr (sq (y_fieldAddr rfl et u27 rfl size_25 rfl) ?_))
  refine sq (y_load1 (v := (vs a8 a6.Vals.length c4)) rfl et u25 rfl (CellsAt.of_blk (hI.blk (.s (.s .z))) rfl)) ?_
  refine sq (y_loadN (l := (lVal r1.1)) rfl et u36 rfl size_36 (CellsAt.of_blk (hI.blk .z) rfl)) ?_
  refine l_lit (c := cGVal) (xs := ([r1.1] : List GVal)) (vs := [(0, (Value.agg (AVal r1.1)))]) (cs := (AVal r1.1)) (css := [(lVal r1.1)]) hI gn rfl rfl u25 info_36 rfl ⟨rfl, et, trivial⟩ (by kernel_rfl) ⟨rfl, trivial⟩ rfl rfl rfl ?_
  clear hI; intro b6 c11 w5 hI
  obtain ⟨zs1, hx3, h⟩ := bnd_some h
  refine l_append (xs := a6.Vals) (ys := ([r1.1] : List GVal)) hI (.s (.s (.s (.s (.s .z))))) (hI.rd .z) hx3 gn rfl rfl u25 info_36 rfl rfl et et ?_
  clear hI; intro a12 c12 c13 w6 hI
  refine sq (y_fieldAddr rfl et u27 rfl size_25 rfl) ?_
  refine l_store (new := [vs a12 zs1.length c12]) (cs' := #[vi a6.Type_.Kind, vi a6.Type_.Bits, vi a6.Type_.Frac, vi a6.Type_.Round, vi a6.Type_.Over, vs a7 a6.Dims.length c3, vs a12 zs1.length c12]) hI (.s (.s (.s .z))) gn rfl rfl et et rfl size_25 rfl rfl rfl ?_
  clear hI; intro c14 w7 hI
  refine nk (sr (sm ?_))
  refine sa ?_
  refine nk (c_ret ?_)
  obtain rfl := some_inj h
  exact q_ret (vs := [vi r1.2]) Tryz.results42 ⟨ev_tmp rfl rfl, trivial⟩ ⟨a7, c3, a12, c12, _, rfl, hI.arr (.c (.s (.s (.s .z))) (.c (.s (.s (.s .z))) (.c (.s (.s (.s .z))) .n))) trivial⟩
 refine sr (sq (y_fieldAddr rfl et u27 rfl size_24 rfl) ?_)
 refine sq (y_load1 (v := (vs a2 a1.Dims.length c1)) rfl et u24 rfl (hI.kblk (l := [vs a2 a1.Dims.length c1]) (.s (.s .z)) rfl).1) ?_
 refine sq (y_load1 (v := (vi a4)) rfl et u3 rfl (hI.kblk (l := [vi a4]) (.s (.s (.s .z))) rfl).1) ?_
 obtain ⟨e1, hx4, h⟩ := bnd_some h
 obtain ⟨ad1, cs1, hA1, hr1, hq1⟩ := hI.clat .z hx4
 obtain rfl : cs1 = [vi e1] := hr1
 refine sq (y_indexAddr rfl u24 size_3 et et (lat_bd hx4) hA1) ?_
 refine sq (y_load1 (v := (vi e1)) rfl et u3 rfl hq1.1) ?_
 refine sq (y_move rfl ev_const) ?_
 refine nk (c_block ?_)
 have hI := hI.nil cGVal 36 none
 refine c_loop (α := Nat × (List GVal) × Int × (Option Addr) × Nat) (fun x => fun w => ∃ C, Bun C0 F w0 C w [MO.row cGVal 36 (x.2.2.2.1) (x.2.2.2.2) (x.2.1), MO.box b4 27 (ATensor a6 a7 c3 a8 c4), MO.row (cInt .i64) 3 a7 c3 a6.Dims, MO.row cGVal 36 a8 c4 a6.Vals] [Cl.blk b1 27 (ATensor a1 a2 c1 a3 c2), Cl.sl (cInt .i64) a2 c1 a1.Dims, Cl.sl cGVal a3 c2 a1.Vals, Cl.blk b3 3 #[vi a5]] ∧ m_tensor_Reduce_1_w_l1 e1 a1 start1 stride1 a5 a6 (x.1) (x.2.1) (x.2.2.1) = some r) (fun x _ => x.1) (fun x => [(0, vi start1), (1, vi stride1), (2, vp b1 0), (4, vp b3 0), (5, vp b4 0), (9, vs (x.2.2.2.1) (x.2.1).length (x.2.2.2.2)), (17, vi e1), (18, vi (x.2.2.1))]) (fu, ([] : List GVal), 0, none, 0) ⟨_, hI.arr (.c .z (.c .z (.c .z (.c .z .n)))) ⟨(.s (.s .z)), .z, (.s .z), (.s (.s (.s (.s .z)))), trivial⟩, h⟩ ⟨rfl, rfl, rfl, rfl, rfl, rfl, rfl, rfl, trivial⟩ ?_
 clear h hI; rintro ⟨fuel1, l2, i1, a13, c15⟩ w8 ⟨c16, hI, h⟩
 dsimp only at hI h
 rcases fuel1 with _ | fuel1
 ·rw [m_tensor_Reduce_1_w_l1] at h; cases h
 rw [m_tensor_Reduce_1_w_l1] at h
 refine c_sub (e := [(0, vi start1), (1, vi stride1), (2, vp b1 0), (4, vp b3 0), (5, vp b4 0), (9, vs a13 l2.length c15), (17, vi e1), (18, vi i1)]) ⟨rfl, rfl, rfl, rfl, rfl, rfl, rfl, rfl, trivial⟩ ?_
 refine sr (sq (y_lss rfl et et) ?_)
 refine nk (c_seq (cif h et (fun hb h => ?_) (fun hb h => ?_)))
 ·refine c_skip (k_same (c_seq (c_block (sr (sm ?_)))))
  refine sa ?_
  refine nk (c_region rfl ?_)
  refine sm ?_
  refine sq (y_fieldAddr rfl et u27 rfl size_25 rfl) ?_
  refine sq (y_load1 (v := (vs a3 a1.Vals.length c2)) rfl et u25 rfl (hI.kblk (l := [vs a3 a1.Vals.length c2]) .z rfl).1) ?_
  refine sm ?_
  refine sm ?_
  refine sm ?_
  refine sq (y_mul rfl et et) ?_
  refine sq (y_add rfl et et) ?_
  obtain ⟨e2, hx5, h⟩ := bnd_some h
  obtain ⟨ad2, cs2, hA2, hr2, hq2⟩ := hI.clat (.s (.s .z)) hx5
  obtain rfl : cs2 = (lVal e2) := hr2
  refine sq (y_indexAddr rfl u25 size_36 et et (lat_bd hx5) hA2) ?_
  refine sq (y_loadN (l := (lVal e2)) rfl et u36 rfl size_36 hq2.1) ?_
  refine l_lit (c := cGVal) (xs := ([e2] : List GVal)) (vs := [(0, (Value.agg (AVal e2)))]) (cs := (AVal e2)) (css := [(lVal e2)]) hI gn rfl rfl u25 info_36 rfl ⟨rfl, et, trivial⟩ (by kernel_rfl) ⟨rfl, trivial⟩ rfl rfl rfl ?_
  clear hI; intro b7 c17 w9 hI
  obtain ⟨zs2, hx6, h⟩ := bnd_some h
  refine l_append (xs := l2) (ys := ([e2] : List GVal)) hI (.s .z) (hI.rd .z) hx6 gn rfl rfl u25 info_36 rfl rfl et et ?_
  clear hI; intro a14 c18 c19 w10 hI
  refine sa ?_
  refine nk (c_region rfl ?_)
  refine sq (y_add rfl et ev_const) ?_
  refine sm ?_
  refine s_nil ?_
  exact k_loop (fuel1, zs2, wi64 (i1 + 1), a14, c18) ⟨rfl, rfl, rfl, rfl, rfl, rfl, rfl, rfl, trivial⟩ ⟨_, hI.arr (.c (.s .z) (.c (.s .z) (.c (.s .z) (.c (.s .z) .n)))) ⟨.z, (.s .z), (.s (.s .z)), (.s (.s (.s .z))), trivial⟩, h⟩ (Nat.lt_succ_self _)
 refine c_exit ?_
 refine k_in ?_
 exact k_join (l2, a13, c15) ⟨rfl, rfl, rfl, rfl, trivial⟩ ⟨_, hI.arr (.c .z (.c .z (.c .z (.c .z .n)))) ⟨.z, (.s .z), (.s (.s .z)), (.s (.s (.s .z))), trivial⟩, h⟩ rfl
def tr_tensor_Reduce_1_3 : Tr := (.c (12, .s) (.c (13, .q) (.c (14, .s) .n)))
def tr_tensor_Reduce_1_2 : Tr := (.c (6, .s) tr_tensor_Reduce_1_3)
def tr_tensor_Reduce_1_1 : Tr := (.c (8, .s) (.c (11, .q) tr_tensor_Reduce_1_3))
def tr_tensor_Reduce_1_0 : Tr := (.c (9, .s) (.c (10, .q) (.c (11, .q) tr_tensor_Reduce_1_3)))
theorem c_tensor_Reduce (F : NP) (w0 : World) (hF : ∀ k, F k → k < w0.heap.size) (t1 : GTensor) (axis1 : Int) (fold1 : Int) (a1 : Option Addr) (c1 : Nat) (a2 : Option Addr) (c2 : Nat) (hc : AllCl [Cl.sl (cInt .i64) a1 c1 t1.Dims, Cl.sl cGVal a2 c2 t1.Vals] F w0) (r : GTensor × Int)
  (h : m_tensor_Reduce t1 axis1 fold1 = some r) :
  Calls Tryz.prog 14 #[(Value.agg (ATensor t1 a1 c1 a2 c2)), vi axis1, vi fold1] w0 fun e w => ∃ (a3 : Option Addr) (c3 : Nat) (a4 : Option Addr) (c4 : Nat), e = .returned (Value.tuple #[(Value.agg (ATensor r.1 a3 c3 a4 c4)), vi r.2]) ∧ Ext w0 w ∧ AllCl [Cl.sl (cInt .i64) a3 c3 r.1.Dims, Cl.sl cGVal a4 c4 r.1.Vals] F w := by
 refine enterK Tryz.func14 rfl Tryz.ntmps14 rfl ?_
 have hI := Bun.start hF hc
 clear hc
 rw [m_tensor_Reduce] at h
 refine sr (l_box (v := (Value.agg (ATensor t1 a1 c1 a2 c2))) (cs := (ATensor t1 a1 c1 a2 c2)) hI gn rfl rfl et rfl ?_)
 clear hI; intro b1 c5 w1 hI
 obtain ⟨c6, hI⟩ := hI.relBox .z
 refine l_box (v := (vi axis1)) (cs := #[vi axis1]) hI gn rfl rfl et rfl ?_
 clear hI; intro b2 c7 w2 hI
 obtain ⟨c8, hI⟩ := hI.relBox .z
 refine l_box (v := (vi fold1)) (cs := #[vi fold1]) hI gn rfl rfl et rfl ?_
 clear hI; intro b3 c9 w3 hI
 obtain ⟨c10, hI⟩ := hI.relBox .z
 refine l_alloc (cs := ZTensor) hI gn rfl rfl zero_27 rfl ?_
 clear hI; intro b4 c11 w4 hI
 refine sac ?_
 refine nk (c_seq (sr (sq (y_loadN (l := (lTensor t1 a1 c1 a2 c2)) rfl et u27 rfl size_27 (hI.kblk (l := (lTensor t1 a1 c1 a2 c2)) (.s (.s .z)) rfl).1) ?_)))
 obtain ⟨r1, hx1, h⟩ := bnd_some h
 refine s_call gn rfl (r_callF (vs := [(Value.agg (ATensor t1 a1 c1 a2 c2))]) rfl ok_25 ⟨et, trivial⟩) (Calls.mono (c_tensor_Validate (Dj F c11) w4 hI.lt t1 a1 c1 a2 c2 ⟨(hI.get (.s (.s (.s .z)))), (hI.get (.s (.s (.s (.s .z))))), trivial⟩ r1 hx1) ?_)
 rintro _ w5 ⟨rfl, hx2, hl1⟩
 refine ⟨_, rfl, ?_⟩
 replace hI := (hI.ext hx2)
 refine sa ?_
 refine nk (sr (sm ?_))
 refine sq (y_neq rfl et ev_const) ?_
 refine nk (cif h et (fun hb h => ?_) (fun hb h => ?_))
 ·refine sr (sq (y_build (vs := []) (cs := ZTensor) rfl trivial (by kernel_rfl)) ?_)
  refine sm ?_
  refine l_store (new := zTensor) (cs' := ZTensor) hI .z gn rfl rfl et et rfl size_27 rfl rfl rfl ?_
  clear hI; intro c12 w6 hI
  refine sa ?_
  refine nk (c_ret ?_)
  have hI := hI.add (c := Cl.sl (cInt .i64) none 0 ([] : List Int)) SlC.nil
  have hI := hI.add (c := Cl.sl cGVal none 0 ([] : List GVal)) SlC.nil
  obtain rfl := some_inj h
  exact q_ret (vs := [(Value.agg ZTensor), vi r1]) Tryz.results14 ⟨⟨_, ev_tmp rfl rfl, load_agg (l := zTensor) u27 rfl size_27 (CellsAt.of_blk (hI.blk .z) rfl)⟩, ⟨ev_tmp rfl rfl, trivial⟩⟩ ⟨none, 0, none, 0, rfl, hI.ext0, hI.fin ⟨(.s .z), .z, trivial⟩⟩
 refine c_skip (k_same (c_seq (sr (sq (y_load1 (v := (vi axis1)) rfl et u3 rfl (hI.kblk (l := [vi axis1]) (.s .z) rfl).1) ?_))))
 refine sq (y_lss rfl et ev_const) ?_
 refine sm ?_
 refine s_gval (g_false rfl rfl rfl rfl) rfl (fun hc => (y_load1 (v := (vi axis1)) rfl et u3 rfl (hI.kblk (l := [vi axis1]) (.s .z) rfl).1)) ?_
 refine s_gval (g_false rfl rfl rfl rfl) rfl (fun hc => y_fieldAddr rfl et u27 rfl size_24 rfl) ?_
 refine s_gval (g_false rfl rfl rfl rfl) rfl (fun hc => (y_load1 (v := (vs a1 t1.Dims.length c1)) rfl (ev_gv et hc) u24 rfl (hI.kblk (l := [vs a1 t1.Dims.length c1]) (.s (.s .z)) rfl).1)) ?_
 refine s_gval (g_false rfl rfl rfl rfl) rfl (fun hc => y_lenl rfl u24 (ev_gv et hc)) ?_
 refine s_gval (g_false rfl rfl rfl rfl) rfl (fun hc => y_geq rfl (ev_gv et hc) (ev_gv et hc)) ?_
 refine sq (y_or rfl et et) ?_
 refine nk (cif h et (fun hb h => ?_) (fun hb h => ?_))
 ·refine sr (sq (y_build (vs := []) (cs := ZTensor) rfl trivial (by kernel_rfl)) ?_)
  refine l_store (new := zTensor) (cs' := ZTensor) hI .z gn rfl rfl et et rfl size_27 rfl rfl rfl ?_
  clear hI; intro c13 w7 hI
  refine sac ?_
  refine nk (c_ret ?_)
  have hI := hI.add (c := Cl.sl (cInt .i64) none 0 ([] : List Int)) SlC.nil
  have hI := hI.add (c := Cl.sl cGVal none 0 ([] : List GVal)) SlC.nil
  obtain rfl := some_inj h
  exact q_ret (vs := [(Value.agg ZTensor), vi 11]) Tryz.results14 ⟨⟨_, ev_tmp rfl rfl, load_agg (l := zTensor) u27 rfl size_27 (CellsAt.of_blk (hI.blk .z) rfl)⟩, ⟨ev_tmp rfl rfl, trivial⟩⟩ ⟨none, 0, none, 0, rfl, hI.ext0, hI.fin ⟨(.s .z), .z, trivial⟩⟩
 refine c_skip (k_same (c_seq (sr (sq (y_load1 (v := (vi fold1)) rfl et u3 rfl (hI.kblk (l := [vi fold1]) .z rfl).1) ?_))))
 refine sq (y_lss rfl et ev_const) ?_
 refine sm ?_
 refine s_gval (g_false rfl rfl rfl rfl) rfl (fun hc => (y_load1 (v := (vi fold1)) rfl et u3 rfl (hI.kblk (l := [vi fold1]) .z rfl).1)) ?_
 refine s_gval (g_false rfl rfl rfl rfl) rfl (fun hc => y_gtr rfl (ev_gv et hc) ev_const) ?_
 refine sq (y_or rfl et et) ?_
 refine nk (cif h et (fun hb h => ?_) (fun hb h => ?_))
 ·refine sr (sq (y_build (vs := []) (cs := ZTensor) rfl trivial (by kernel_rfl)) ?_)
  refine l_store (new := zTensor) (cs' := ZTensor) hI .z gn rfl rfl et et rfl size_27 rfl rfl rfl ?_
  clear hI; intro c14 w8 hI
  refine sac ?_
  refine s_nil ?_
  refine k_next (e := [(6, vp b4 0), (7, vi 1)]) ⟨rfl, rfl, trivial⟩ ?_
  refine c_ret ?_
  have hI := hI.add (c := Cl.sl (cInt .i64) none 0 ([] : List Int)) SlC.nil
  have hI := hI.add (c := Cl.sl cGVal none 0 ([] : List GVal)) SlC.nil
  obtain rfl := some_inj h
  exact q_ret (vs := [(Value.agg ZTensor), vi 1]) Tryz.results14 ⟨⟨_, ev_tmp rfl rfl, load_agg (l := zTensor) u27 rfl size_27 (CellsAt.of_blk (hI.blk .z) rfl)⟩, ⟨ev_tmp rfl rfl, trivial⟩⟩ ⟨none, 0, none, 0, rfl, hI.ext0, hI.fin ⟨(.s .z), .z, trivial⟩⟩
 refine c_skip (k_next (e := [(3, vp b1 0), (4, vp b2 0), (5, vp b3 0), (6, vp b4 0)]) ⟨rfl, rfl, rfl, rfl, trivial⟩ ?_)
 refine c_seq (sr (sq (y_load1 (v := (vi fold1)) rfl et u3 rfl (hI.kblk (l := [vi fold1]) .z rfl).1) ?_))
 refine sq (y_eql rfl et ev_const) ?_
 refine nk (cif h et (fun hb h => ?_) (fun hb h => ?_))
 ·refine sr (sq (y_loadN (l := (lTensor t1 a1 c1 a2 c2)) rfl et u27 rfl size_27 (hI.kblk (l := (lTensor t1 a1 c1 a2 c2)) (.s (.s .z)) rfl).1) ?_)
  refine sq (y_load1 (v := (vi axis1)) rfl et u3 rfl (hI.kblk (l := [vi axis1]) (.s .z) rfl).1) ?_
  obtain ⟨r2, hx3, h⟩ := bnd_some h
  refine s_call gn rfl (r_callF (vs := [(Value.agg (ATensor t1 a1 c1 a2 c2)), vi axis1]) rfl ok_40 ⟨et, ⟨et, trivial⟩⟩) (Calls.mono (c_tensor_scan (Dj F c11) w5 hI.lt t1 axis1 a1 c1 a2 c2 ⟨(hI.get (.s (.s (.s .z)))), (hI.get (.s (.s (.s (.s .z))))), trivial⟩ r2 hx3) ?_)
  rintro _ w9 ⟨a5, c15, a6, c16, rfl, hx4, hl2⟩
  refine ⟨_, rfl, ?_⟩
  replace hI := (hI.ext hx4).adds hl2
  refine sq (y_extract rfl et rfl) ?_
  refine sq (y_extract rfl et rfl) ?_
  refine l_store (new := (lTensor r2.1 a5 c15 a6 c16)) (cs' := (ATensor r2.1 a5 c15 a6 c16)) hI .z gn rfl rfl et et rfl size_27 rfl rfl rfl ?_
  clear hI; intro c17 w10 hI
  refine sa ?_
  refine nk (c_ret ?_)
  obtain rfl := some_inj h
  exact q_ret (vs := [(Value.agg (ATensor r2.1 a5 c15 a6 c16)), vi r2.2]) Tryz.results14 ⟨⟨_, ev_tmp rfl rfl, load_agg (l := (lTensor r2.1 a5 c15 a6 c16)) u27 rfl size_27 (CellsAt.of_blk (hI.blk .z) rfl)⟩, ⟨ev_tmp rfl rfl, trivial⟩⟩ ⟨a5, c15, a6, c16, rfl, hI.ext0, hI.fin ⟨.z, (.s .z), trivial⟩⟩
 refine c_skip (k_same (sr (sq (y_fieldAddr rfl et u27 rfl size_23 rfl) ?_)))
 refine sq (y_loadN (l := (lType t1.Type_)) rfl et u23 rfl size_23 (hI.kblk (l := (lType t1.Type_)) (.s (.s .z)) rfl).1) ?_
 refine sq (y_build (vs := [(0, (Value.agg (AType t1.Type_)))]) (cs := #[vi t1.Type_.Kind, vi t1.Type_.Bits, vi t1.Type_.Frac, vi t1.Type_.Round, vi t1.Type_.Over, vs none 0 0, vs none 0 0]) rfl ⟨rfl, et, trivial⟩ (by kernel_rfl)) ?_
 refine l_alloc (cs := ZTensor) hI gn rfl rfl zero_27 rfl ?_
 clear hI; intro b5 c18 w11 hI
 refine l_store (new := [vi t1.Type_.Kind, vi t1.Type_.Bits, vi t1.Type_.Frac, vi t1.Type_.Round, vi t1.Type_.Over, vs none 0 0, vs none 0 0]) (cs' := #[vi t1.Type_.Kind, vi t1.Type_.Bits, vi t1.Type_.Frac, vi t1.Type_.Round, vi t1.Type_.Over, vs none 0 0, vs none 0 0]) hI .z gn rfl rfl et et rfl size_27 rfl rfl rfl ?_
 clear hI; intro c19 w12 hI
 refine nk (c_seq ?_)
 obtain ⟨zs1, hx5, h⟩ := bnd_some h
 obtain ⟨zs2, hx6, h⟩ := bnd_some h
 obtain ⟨zs3, hx7, h⟩ := bnd_some h
 obtain ⟨zs4, hx8, h⟩ := bnd_some h
 refine c_drawX [6, 12, 14] false (.c (0, .q) (.c (1, .q) (.c (2, .q) (.c (3, .q) (.c (4, .q) (.c (5, .q) (.c (7, .q) (.three 6 (.two 8 tr_tensor_Reduce_1_0 9 (.c (10, .q) tr_tensor_Reduce_1_1)) 8 (.two 6 tr_tensor_Reduce_1_0 9 (.c (10, .q) (.c (11, .q) tr_tensor_Reduce_1_2))) 9 (.c (10, .q) (.two 6 tr_tensor_Reduce_1_1 8 (.c (11, .q) tr_tensor_Reduce_1_2))))))))))) hI (by kernel_rfl) (by kernel_rfl) ?_
 clear hI; intro w20 hI
 refine a_join (α := (Option Addr) × Nat × (Option Addr) × NP) (T := tr_tensor_Reduce_1_3) (fun x => [(3, vp b1 0), (4, vp b2 0), (5, vp b3 0), (6, vp b4 0), (9, vp b5 0), (34, vi fold1), (35, (vb (decide (fold1 = 5)))), (41, vp b1 0), (42, (Value.agg (AType t1.Type_))), (43, (Value.agg #[vi t1.Type_.Kind, vi t1.Type_.Bits, vi t1.Type_.Frac, vi t1.Type_.Round, vi t1.Type_.Over, vs none 0 0, vs none 0 0])), (44, vp b5 5), (45, vs none 0 0), (46, vp b1 5), (47, vs a1 t1.Dims.length c1), (48, vi axis1), (49, vs a1 zs1.length c1), (50, vs (x.1) zs2.length (x.2.1)), (51, vp b1 5), (52, vs a1 t1.Dims.length c1), (53, vi axis1), (54, (vi (wi64 (axis1 + 1)))), (55, (vs (x.2.2.1) zs3.length (c1 - Int.toNat (wi64 (axis1 + 1)))))]) (fun x w => Bun noM F w0 (x.2.2.2) w [MO.row (cInt .i64) 3 (x.1) (x.2.1) zs2, MO.box b5 27 #[vi t1.Type_.Kind, vi t1.Type_.Bits, vi t1.Type_.Frac, vi t1.Type_.Round, vi t1.Type_.Over, vs none 0 0, vs none 0 0], MO.box b4 27 ZTensor] [Cl.sl (cInt .i64) (x.2.2.1) (c1 - Int.toNat (wi64 (axis1 + 1))) zs3, Cl.sl (cInt .i64) a1 c1 zs1, Cl.blk b3 3 #[vi fold1], Cl.blk b2 3 #[vi axis1], Cl.blk b1 27 (ATensor t1 a1 c1 a2 c2), Cl.sl (cInt .i64) a1 c1 t1.Dims, Cl.sl cGVal a2 c2 t1.Vals]) (fun x w => SN [] (DM true F (x.2.2.2)) w) ?_ ?_
 ·clear hI; rintro ⟨a7, c20, a8, c28⟩ w19 hI
  try dsimp only at hI ⊢
  unfold tr_tensor_Reduce_1_3
  refine la_append (xs := zs2) (ys := zs3) hI .z (hI.crd .z) hx8 rfl gn rfl rfl u24 info_3 rfl rfl et et ?_
  clear hI; intro a9 c22 c23 w14 hI
  refine a_q rfl gn rfl (fun w' => y_fieldAddr rfl et u27 rfl size_24 rfl) ?_
  refine la_store (new := [vs a9 zs4.length c22]) (cs' := #[vi t1.Type_.Kind, vi t1.Type_.Bits, vi t1.Type_.Frac, vi t1.Type_.Round, vi t1.Type_.Over, vs a9 zs4.length c22, vs none 0 0]) hI (.s .z) rfl gn rfl rfl et et rfl size_24 rfl rfl rfl ?_
  clear hI; intro c24 w15 hI
  refine a_nil ?_
  refine k_same (sr (sq (y_fieldAddr rfl et u27 rfl size_24 rfl) ?_))
  refine sq (y_load1 (v := (vs a1 t1.Dims.length c1)) rfl et u24 rfl (hI.kblk (l := [vs a1 t1.Dims.length c1]) (.s (.s (.s (.s .z)))) rfl).1) ?_
  refine sq (y_load1 (v := (vi axis1)) rfl et u3 rfl (hI.kblk (l := [vi axis1]) (.s (.s (.s .z))) rfl).1) ?_
  refine sq (y_makeFunc (vs := []) (cap := [vp b1 0, vp b2 0, vp b3 0, vp b5 0]) rfl rfl ⟨et, ⟨et, ⟨et, ⟨et, trivial⟩⟩⟩⟩) ?_
  have hI := hI.nil cGVal 36 none
  obtain ⟨c29, f1, hB, hl3, hk1⟩ := hI.hands (.l (.l (.l (.r .n))))
  replace hB := hB.ord (.c (.s (.s .z)) (.c (.s .z) (.c .z .n)))
  have hB : Bun c29 f1 w15 c29 w15 [MO.st (StI.of (fun (s : GTensor) (b : (Option Addr) × Nat × (Option Addr) × Nat) => [MO.box b5 27 (ATensor s (b.1) (b.2.1) (b.2.2.1) (b.2.2.2)), MO.row (cInt .i64) 3 (b.1) (b.2.1) s.Dims, MO.row cGVal 36 (b.2.2.1) (b.2.2.2) s.Vals]) (fun (s : GTensor) (b : (Option Addr) × Nat × (Option Addr) × Nat) => [])) (⟨t1.Type_, zs4, ([] : List GVal)⟩ : GTensor)] _ := Bun.mkst (b := (a9, c22, none, 0)) hB trivial
  have hC := hB
  have hY1 : fnS_k2 (StI.of (fun (s : GTensor) (b : (Option Addr) × Nat × (Option Addr) × Nat) => [MO.box b5 27 (ATensor s (b.1) (b.2.1) (b.2.2.1) (b.2.2.2)), MO.row (cInt .i64) 3 (b.1) (b.2.1) s.Dims, MO.row cGVal 36 (b.2.2.1) (b.2.2.2) s.Vals]) (fun (s : GTensor) (b : (Option Addr) × Nat × (Option Addr) × Nat) => [])) (Value.func (.func 42) #[] #[vp b1 0, vp b2 0, vp b3 0, vp b5 0]) (fun x_1 x_2 s => m_tensor_Reduce_1_w x_1 x_2 t1 axis1 fold1 s) (Dj f1 c29) w15 := by
   refine ⟨rfl, fun C0 F w' hs x_1 x_2 s r hB h => ?_⟩
   obtain ⟨⟨a10, c30, a11, c31⟩, hB⟩ := Bun.unst hB
   replace hB := hB.add (c := Cl.sl (cInt .i64) a1 c1 t1.Dims) (Cl.sp _ hs (hC.get (.s (.s (.s (.s (.s .z)))))))
   replace hB := hB.add (c := Cl.sl cGVal a2 c2 t1.Vals) (Cl.sp _ hs (hC.get (.s (.s (.s (.s (.s (.s .z))))))))
   replace hB := hB.add (c := Cl.blk b1 27 (ATensor t1 a1 c1 a2 c2)) (Cl.sp _ hs (hC.get (.s (.s (.s (.s .z))))))
   replace hB := hB.add (c := Cl.blk b2 3 #[vi axis1]) (Cl.sp _ hs (hC.get (.s (.s (.s .z)))))
   replace hB := hB.add (c := Cl.blk b3 3 #[vi fold1]) (Cl.sp _ hs (hC.get (.s (.s .z))))
   refine CallV.fn (cap := [vp b1 0, vp b2 0, vp b3 0, vp b5 0]) ok_42 (Calls.mono (c_tensor_Reduce_1_w C0 F w' x_1 x_2 t1 axis1 fold1 s b1 a1 c1 a2 c2 b2 b3 b5 a10 c30 a11 c31 (hB.subs ⟨(.s (.s (.s (.s .z)))), (.s (.s (.s .z))), (.s (.s .z)), (.s .z), .z, trivial⟩) r h) ?_)
   rintro _ w'' ⟨z1, z2, z3, z4, C', rfl, hB2⟩
   exact ⟨C', rfl, (Bun.mkst (os := (fun (s : GTensor) (b : (Option Addr) × Nat × (Option Addr) × Nat) => [MO.box b5 27 (ATensor s (b.1) (b.2.1) (b.2.2.1) (b.2.2.2)), MO.row (cInt .i64) 3 (b.1) (b.2.1) s.Dims, MO.row cGVal 36 (b.2.2.1) (b.2.2.2) s.Vals])) (cl := (fun (s : GTensor) (b : (Option Addr) × Nat × (Option Addr) × Nat) => [])) (s := r.2) (b := (z1, z2, z3, z4)) hB2 trivial).subs trivial⟩
  obtain ⟨⟨r3, s1⟩, hx9, h⟩ := bnd_some h
  try dsimp only at h
  refine s_call gn rfl (r_callF (vs := [vs a1 t1.Dims.length c1, vi axis1, (Value.func (.func 42) #[] #[vp b1 0, vp b2 0, vp b3 0, vp b5 0])]) rfl ok_41 ⟨et, ⟨et, ⟨et, trivial⟩⟩⟩) (Calls.mono (c_tensor_lines_s (StI.of (fun (s : GTensor) (b : (Option Addr) × Nat × (Option Addr) × Nat) => [MO.box b5 27 (ATensor s (b.1) (b.2.1) (b.2.2.1) (b.2.2.2)), MO.row (cInt .i64) 3 (b.1) (b.2.1) s.Dims, MO.row cGVal 36 (b.2.2.1) (b.2.2.2) s.Vals]) (fun (s : GTensor) (b : (Option Addr) × Nat × (Option Addr) × Nat) => [])) c29 f1 w15 t1.Dims axis1 (fun x_1 x_2 s => m_tensor_Reduce_1_w x_1 x_2 t1 axis1 fold1 s) (⟨t1.Type_, zs4, ([] : List GVal)⟩ : GTensor) a1 c1 (Value.func (.func 42) #[] #[vp b1 0, vp b2 0, vp b3 0, vp b5 0]) ((hB.add (c := (clFnS_k2 (StI.of (fun (s : GTensor) (b : (Option Addr) × Nat × (Option Addr) × Nat) => [MO.box b5 27 (ATensor s (b.1) (b.2.1) (b.2.2.1) (b.2.2.2)), MO.row (cInt .i64) 3 (b.1) (b.2.1) s.Dims, MO.row cGVal 36 (b.2.2.1) (b.2.2.2) s.Vals]) (fun (s : GTensor) (b : (Option Addr) × Nat × (Option Addr) × Nat) => [])) (Value.func (.func 42) #[] #[vp b1 0, vp b2 0, vp b3 0, vp b5 0]) (fun x_1 x_2 s => m_tensor_Reduce_1_w x_1 x_2 t1 axis1 fold1 s))) hY1).subs ⟨(.s (.s (.s (.s (.s (.s .z)))))), .z, trivial⟩) _ hx9) ?_)
  rintro _ w21 ⟨c32, rfl, hB2⟩
  obtain ⟨⟨a12, c33, a13, c34⟩, hB2⟩ := Bun.unst hB2
  obtain ⟨c35, hs1, hI⟩ := hk1 _ _ _ _ hB2
  replace hI : Bun noM F w0 c35 w21 [MO.box b5 27 (ATensor s1 a12 c33 a13 c34), MO.row (cInt .i64) 3 a12 c33 s1.Dims, MO.row cGVal 36 a13 c34 s1.Vals, MO.box b4 27 ZTensor] [Cl.sl (cInt .i64) a8 (c1 - Int.toNat (wi64 (axis1 + 1))) zs3, Cl.sl (cInt .i64) a1 c1 zs1, Cl.blk b3 3 #[vi fold1], Cl.blk b2 3 #[vi axis1], Cl.blk b1 27 (ATensor t1 a1 c1 a2 c2), Cl.sl (cInt .i64) a1 c1 t1.Dims, Cl.sl cGVal a2 c2 t1.Vals] := hI
  refine ⟨_, rfl, ?_⟩
  refine sa ?_
  refine s_nil ?_
  refine k_next (e := [(6, vp b4 0), (9, vp b5 0), (10, vi r3)]) ⟨rfl, rfl, rfl, trivial⟩ ?_
  refine c_seq (sr (sm ?_))
  refine sq (y_neq rfl et ev_const) ?_
  refine nk (cif h et (fun hb h => ?_) (fun hb h => ?_))
  ·refine sr (sq (y_build (vs := []) (cs := ZTensor) rfl trivial (by kernel_rfl)) ?_)
   refine sm ?_
   refine l_store (new := zTensor) (cs' := ZTensor) hI (.s (.s (.s .z))) gn rfl rfl et et rfl size_27 rfl rfl rfl ?_
   clear hI; intro c36 w22 hI
   refine sa ?_
   refine nk (c_ret ?_)
   have hI := hI.add (c := Cl.sl (cInt .i64) none 0 ([] : List Int)) SlC.nil
   have hI := hI.add (c := Cl.sl cGVal none 0 ([] : List GVal)) SlC.nil
   obtain rfl := some_inj h
   exact q_ret (vs := [(Value.agg ZTensor), vi r3]) Tryz.results14 ⟨⟨_, ev_tmp rfl rfl, load_agg (l := zTensor) u27 rfl size_27 (CellsAt.of_blk (hI.blk (.s (.s (.s .z)))) rfl)⟩, ⟨ev_tmp rfl rfl, trivial⟩⟩ ⟨none, 0, none, 0, rfl, hI.ext0, hI.fin ⟨(.s .z), .z, trivial⟩⟩
  refine c_skip (k_same (sr (sq (y_loadN (l := (lTensor s1 a12 c33 a13 c34)) rfl et u27 rfl size_27 (CellsAt.of_blk (hI.blk .z) rfl)) ?_)))
  refine l_store (new := (lTensor s1 a12 c33 a13 c34)) (cs' := (ATensor s1 a12 c33 a13 c34)) hI (.s (.s (.s .z))) gn rfl rfl et et rfl size_27 rfl rfl rfl ?_
  clear hI; intro c37 w23 hI
  refine sac ?_
  refine nk (c_ret ?_)
  obtain ⟨c38, hI⟩ := hI.release (.s .z)
  obtain ⟨c39, hI⟩ := hI.release (.s .z)
  obtain rfl := some_inj h
  exact q_ret (vs := [(Value.agg (ATensor s1 a12 c33 a13 c34)), vi 0]) Tryz.results14 ⟨⟨_, ev_tmp rfl rfl, load_agg (l := (lTensor s1 a12 c33 a13 c34)) u27 rfl size_27 (CellsAt.of_blk (hI.blk (.s .z)) rfl)⟩, ⟨ev_tmp rfl rfl, trivial⟩⟩ ⟨a12, c33, a13, c34, rfl, hI.ext0, hI.fin ⟨(.s .z), .z, trivial⟩⟩
 intro hk_tr_tensor_Reduce_1_3
 refine a_join (α := (Option Addr) × NP) (T := tr_tensor_Reduce_1_2) (fun x => [(3, vp b1 0), (4, vp b2 0), (5, vp b3 0), (6, vp b4 0), (9, vp b5 0), (34, vi fold1), (35, (vb (decide (fold1 = 5)))), (41, vp b1 0), (42, (Value.agg (AType t1.Type_))), (43, (Value.agg #[vi t1.Type_.Kind, vi t1.Type_.Bits, vi t1.Type_.Frac, vi t1.Type_.Round, vi t1.Type_.Over, vs none 0 0, vs none 0 0])), (44, vp b5 5), (45, vs none 0 0), (46, vp b1 5), (47, vs a1 t1.Dims.length c1), (48, vi axis1), (49, vs a1 zs1.length c1), (51, vp b1 5), (52, vs a1 t1.Dims.length c1), (53, vi axis1), (54, (vi (wi64 (axis1 + 1)))), (55, (vs (x.1) zs3.length (c1 - Int.toNat (wi64 (axis1 + 1)))))]) (fun x w => Bun noM F w0 (x.2) w [MO.box b5 27 #[vi t1.Type_.Kind, vi t1.Type_.Bits, vi t1.Type_.Frac, vi t1.Type_.Round, vi t1.Type_.Over, vs none 0 0, vs none 0 0], MO.box b4 27 ZTensor] [Cl.sl (cInt .i64) (x.1) (c1 - Int.toNat (wi64 (axis1 + 1))) zs3, Cl.sl (cInt .i64) a1 c1 zs1, Cl.blk b3 3 #[vi fold1], Cl.blk b2 3 #[vi axis1], Cl.blk b1 27 (ATensor t1 a1 c1 a2 c2), Cl.sl (cInt .i64) a1 c1 t1.Dims, Cl.sl cGVal a2 c2 t1.Vals]) (fun x w => SN [6, 12, 14] (DM false F (x.2)) w) ?_ ?_
 ·clear hI; rintro ⟨a8, c27⟩ w18 hI
  try dsimp only at hI ⊢
  unfold tr_tensor_Reduce_1_2
  refine a_turn (F := F) (C := c27) rfl rfl ?_
  replace hI := hI.nil (cInt .i64) 3 none
  refine la_append (xs := ([] : List Int)) (ys := zs1) hI .z (hI.crd (.s .z)) hx6 rfl gn rfl rfl u24 info_3 rfl rfl et et ?_
  clear hI; intro a7 c20 c21 w13 hI
  exact a_sub (hk_tr_tensor_Reduce_1_3 (a7, c20, a8, c21) _ (hI.arr (.c .z (.c .z (.c .z .n))) ⟨.z, (.s .z), (.s (.s .z)), (.s (.s (.s .z))), (.s (.s (.s (.s .z)))), (.s (.s (.s (.s (.s .z))))), (.s (.s (.s (.s (.s (.s .z)))))), trivial⟩)) ⟨rfl, rfl, rfl, rfl, rfl, rfl, rfl, rfl, rfl, rfl, rfl, rfl, rfl, rfl, rfl, rfl, rfl, rfl, rfl, rfl, rfl, rfl, trivial⟩
 intro hk_tr_tensor_Reduce_1_2
 refine a_join (α := (Option Addr) × Nat × NP) (T := tr_tensor_Reduce_1_1) (fun x => [(3, vp b1 0), (4, vp b2 0), (5, vp b3 0), (6, vp b4 0), (9, vp b5 0), (34, vi fold1), (35, (vb (decide (fold1 = 5)))), (41, vp b1 0), (42, (Value.agg (AType t1.Type_))), (43, (Value.agg #[vi t1.Type_.Kind, vi t1.Type_.Bits, vi t1.Type_.Frac, vi t1.Type_.Round, vi t1.Type_.Over, vs none 0 0, vs none 0 0])), (44, vp b5 5), (45, vs none 0 0), (46, vp b1 5), (47, vs a1 t1.Dims.length c1), (48, vi axis1), (49, vs a1 zs1.length c1), (50, vs (x.1) zs2.length (x.2.1)), (51, vp b1 5), (53, vi axis1), (54, (vi (wi64 (axis1 + 1))))]) (fun x w => Bun noM F w0 (x.2.2) w [MO.row (cInt .i64) 3 (x.1) (x.2.1) zs2, MO.box b5 27 #[vi t1.Type_.Kind, vi t1.Type_.Bits, vi t1.Type_.Frac, vi t1.Type_.Round, vi t1.Type_.Over, vs none 0 0, vs none 0 0], MO.box b4 27 ZTensor] [Cl.sl (cInt .i64) a1 c1 zs1, Cl.blk b3 3 #[vi fold1], Cl.blk b2 3 #[vi axis1], Cl.blk b1 27 (ATensor t1 a1 c1 a2 c2), Cl.sl (cInt .i64) a1 c1 t1.Dims, Cl.sl cGVal a2 c2 t1.Vals]) (fun x w => SN [] (DM true F (x.2.2)) w) ?_ ?_
 ·clear hI; rintro ⟨a7, c20, c26⟩ w17 hI
  try dsimp only at hI ⊢
  unfold tr_tensor_Reduce_1_1
  refine a_val rfl gn rfl (y_load1 (v := (vs a1 t1.Dims.length c1)) rfl et u24 rfl (hI.kblk (l := [vs a1 t1.Dims.length c1]) (.s (.s (.s .z))) rfl).1) SX.self ?_
  obtain ⟨a8, hB1⟩ : ∃ B : Option Addr, B = (if c1 = Int.toNat (wi64 (axis1 + 1)) then a1 else Option.map (·.add (Int.toNat (wi64 (axis1 + 1)) * 1)) a1) := ⟨_, rfl⟩
  refine a_q rfl gn rfl (fun w' => y_lfrom rfl u24 size_3 et et hx7 hB1) ?_
  replace hI := hI.from_ (.s (.s (.s (.s .z)))) hx7 hB1
  exact a_sub (hk_tr_tensor_Reduce_1_3 (a7, c20, a8, c26) _ (hI.arr (.c .z (.c .z (.c .z .n))) ⟨.z, (.s .z), (.s (.s .z)), (.s (.s (.s .z))), (.s (.s (.s (.s .z)))), (.s (.s (.s (.s (.s .z))))), (.s (.s (.s (.s (.s (.s .z)))))), trivial⟩)) ⟨rfl, rfl, rfl, rfl, rfl, rfl, rfl, rfl, rfl, rfl, rfl, rfl, rfl, rfl, rfl, rfl, rfl, rfl, rfl, rfl, rfl, rfl, trivial⟩
 intro hk_tr_tensor_Reduce_1_1
 refine a_join (α := (Option Addr) × Nat × NP) (T := tr_tensor_Reduce_1_0) (fun x => [(3, vp b1 0), (4, vp b2 0), (5, vp b3 0), (6, vp b4 0), (9, vp b5 0), (34, vi fold1), (35, (vb (decide (fold1 = 5)))), (41, vp b1 0), (42, (Value.agg (AType t1.Type_))), (43, (Value.agg #[vi t1.Type_.Kind, vi t1.Type_.Bits, vi t1.Type_.Frac, vi t1.Type_.Round, vi t1.Type_.Over, vs none 0 0, vs none 0 0])), (44, vp b5 5), (45, vs none 0 0), (46, vp b1 5), (47, vs a1 t1.Dims.length c1), (48, vi axis1), (49, vs a1 zs1.length c1), (50, vs (x.1) zs2.length (x.2.1)), (51, vp b1 5), (52, vs a1 t1.Dims.length c1)]) (fun x w => Bun noM F w0 (x.2.2) w [MO.row (cInt .i64) 3 (x.1) (x.2.1) zs2, MO.box b5 27 #[vi t1.Type_.Kind, vi t1.Type_.Bits, vi t1.Type_.Frac, vi t1.Type_.Round, vi t1.Type_.Over, vs none 0 0, vs none 0 0], MO.box b4 27 ZTensor] [Cl.sl (cInt .i64) a1 c1 zs1, Cl.blk b3 3 #[vi fold1], Cl.blk b2 3 #[vi axis1], Cl.blk b1 27 (ATensor t1 a1 c1 a2 c2), Cl.sl (cInt .i64) a1 c1 t1.Dims, Cl.sl cGVal a2 c2 t1.Vals]) (fun x w => SN [] (DM true F (x.2.2)) w) ?_ ?_
 ·clear hI; rintro ⟨a7, c20, c25⟩ w16 hI
  try dsimp only at hI ⊢
  unfold tr_tensor_Reduce_1_0
  refine a_val rfl gn rfl (y_load1 (v := (vi axis1)) rfl et u3 rfl (hI.kblk (l := [vi axis1]) (.s (.s .z)) rfl).1) SX.self ?_
  refine a_q rfl gn rfl (fun w' => y_add rfl et ev_const) ?_
  obtain ⟨a8, hB1⟩ : ∃ B : Option Addr, B = (if c1 = Int.toNat (wi64 (axis1 + 1)) then a1 else Option.map (·.add (Int.toNat (wi64 (axis1 + 1)) * 1)) a1) := ⟨_, rfl⟩
  refine a_q rfl gn rfl (fun w' => y_lfrom rfl u24 size_3 et et hx7 hB1) ?_
  replace hI := hI.from_ (.s (.s (.s (.s .z)))) hx7 hB1
  exact a_sub (hk_tr_tensor_Reduce_1_3 (a7, c20, a8, c25) _ (hI.arr (.c .z (.c .z (.c .z .n))) ⟨.z, (.s .z), (.s (.s .z)), (.s (.s (.s .z))), (.s (.s (.s (.s .z)))), (.s (.s (.s (.s (.s .z))))), (.s (.s (.s (.s (.s (.s .z)))))), trivial⟩)) ⟨rfl, rfl, rfl, rfl, rfl, rfl, rfl, rfl, rfl, rfl, rfl, rfl, rfl, rfl, rfl, rfl, rfl, rfl, rfl, rfl, rfl, rfl, trivial⟩
 intro hk_tr_tensor_Reduce_1_0
 refine a_q rfl gn rfl (fun w' => y_fieldAddr rfl et u27 rfl size_24 rfl) ?_
 refine a_read rfl gn rfl (fun w' hw' => (y_load1 (v := (vs none 0 0)) rfl et u24 rfl ((CA.blk (hI.blk .z) rfl).at_ (SX.any rfl hw')))) (by kernel_rfl) ?_
 refine a_q rfl gn rfl (fun w' => y_fieldAddr rfl et u27 rfl size_24 rfl) ?_
 refine a_read rfl gn rfl (fun w' hw' => (y_load1 (v := (vs a1 t1.Dims.length c1)) rfl et u24 rfl ((hI.kblk (l := [vs a1 t1.Dims.length c1]) (.s (.s .z)) rfl).at_ (SX.any rfl hw')))) (by kernel_rfl) ?_
 refine a_read rfl gn rfl (fun w' hw' => (y_load1 (v := (vi axis1)) rfl et u3 rfl ((hI.kblk (l := [vi axis1]) (.s .z) rfl).at_ (SX.any rfl hw')))) (by kernel_rfl) ?_
 refine a_q rfl gn rfl (fun w' => (y_lupto rfl u24 size_3 et et hx5 (hI.cap_ (.s (.s (.s .z)))))) ?_
 replace hI := hI.upto (.s (.s (.s .z))) hx5
 refine a_q rfl gn rfl (fun w' => y_fieldAddr rfl et u27 rfl size_24 rfl) ?_
 refine a_three ?_ ?_ ?_
 ·skip
  refine a_turnT (F := F) (C := c19) rfl rfl ?_
  replace hI := hI.nil (cInt .i64) 3 none
  refine la_append (xs := ([] : List Int)) (ys := zs1) hI .z (hI.crd .z) hx6 rfl gn rfl rfl u24 info_3 rfl rfl et et ?_
  clear hI; intro a7 c20 c21 w13 hI
  refine a_two ?_ ?_
  ·skip
   refine a_val rfl gn rfl (y_load1 (v := (vs a1 t1.Dims.length c1)) rfl et u24 rfl (hI.kblk (l := [vs a1 t1.Dims.length c1]) (.s (.s (.s .z))) rfl).1) SX.self ?_
   exact a_sub (hk_tr_tensor_Reduce_1_0 (a7, c20, c21) _ (hI.arr (.c .z (.c .z (.c .z .n))) ⟨.z, (.s .z), (.s (.s .z)), (.s (.s (.s .z))), (.s (.s (.s (.s .z)))), (.s (.s (.s (.s (.s .z))))), trivial⟩)) ⟨rfl, rfl, rfl, rfl, rfl, rfl, rfl, rfl, rfl, rfl, rfl, rfl, rfl, rfl, rfl, rfl, rfl, rfl, rfl, trivial⟩
  refine a_val rfl gn rfl (y_load1 (v := (vi axis1)) rfl et u3 rfl (hI.kblk (l := [vi axis1]) (.s (.s .z)) rfl).1) SX.self ?_
  refine a_q rfl gn rfl (fun w' => y_add rfl et ev_const) ?_
  exact a_sub (hk_tr_tensor_Reduce_1_1 (a7, c20, c21) _ (hI.arr (.c .z (.c .z (.c .z .n))) ⟨.z, (.s .z), (.s (.s .z)), (.s (.s (.s .z))), (.s (.s (.s (.s .z)))), (.s (.s (.s (.s (.s .z))))), trivial⟩)) ⟨rfl, rfl, rfl, rfl, rfl, rfl, rfl, rfl, rfl, rfl, rfl, rfl, rfl, rfl, rfl, rfl, rfl, rfl, rfl, rfl, trivial⟩
 ·skip
  refine a_val rfl gn rfl (y_load1 (v := (vs a1 t1.Dims.length c1)) rfl et u24 rfl (hI.kblk (l := [vs a1 t1.Dims.length c1]) (.s (.s (.s .z))) rfl).1) SX.self ?_
  refine a_two ?_ ?_
  ·skip
   refine a_turnT (F := F) (C := c19) rfl rfl ?_
   replace hI := hI.nil (cInt .i64) 3 none
   refine la_append (xs := ([] : List Int)) (ys := zs1) hI .z (hI.crd .z) hx6 rfl gn rfl rfl u24 info_3 rfl rfl et et ?_
   clear hI; intro a7 c20 c21 w13 hI
   exact a_sub (hk_tr_tensor_Reduce_1_0 (a7, c20, c21) _ (hI.arr (.c .z (.c .z (.c .z .n))) ⟨.z, (.s .z), (.s (.s .z)), (.s (.s (.s .z))), (.s (.s (.s (.s .z)))), (.s (.s (.s (.s (.s .z))))), trivial⟩)) ⟨rfl, rfl, rfl, rfl, rfl, rfl, rfl, rfl, rfl, rfl, rfl, rfl, rfl, rfl, rfl, rfl, rfl, rfl, rfl, trivial⟩
  refine a_val rfl gn rfl (y_load1 (v := (vi axis1)) rfl et u3 rfl (hI.kblk (l := [vi axis1]) (.s (.s .z)) rfl).1) SX.self ?_
  refine a_q rfl gn rfl (fun w' => y_add rfl et ev_const) ?_
  obtain ⟨a8, hB1⟩ : ∃ B : Option Addr, B = (if c1 = Int.toNat (wi64 (axis1 + 1)) then a1 else Option.map (·.add (Int.toNat (wi64 (axis1 + 1)) * 1)) a1) := ⟨_, rfl⟩
  refine a_q rfl gn rfl (fun w' => y_lfrom rfl u24 size_3 et et hx7 hB1) ?_
  replace hI := hI.from_ (.s (.s (.s (.s .z)))) hx7 hB1
  exact a_sub (hk_tr_tensor_Reduce_1_2 (a8, c19) _ (hI.arr (.c .z (.c .z .n)) ⟨.z, (.s .z), (.s (.s .z)), (.s (.s (.s .z))), (.s (.s (.s (.s .z)))), (.s (.s (.s (.s (.s .z))))), (.s (.s (.s (.s (.s (.s .z)))))), trivial⟩)) ⟨rfl, rfl, rfl, rfl, rfl, rfl, rfl, rfl, rfl, rfl, rfl, rfl, rfl, rfl, rfl, rfl, rfl, rfl, rfl, rfl, rfl, trivial⟩
 refine a_val rfl gn rfl (y_load1 (v := (vi axis1)) rfl et u3 rfl (hI.kblk (l := [vi axis1]) (.s (.s .z)) rfl).1) SX.self ?_
 refine a_q rfl gn rfl (fun w' => y_add rfl et ev_const) ?_
 refine a_two ?_ ?_
 ·skip
  refine a_turnT (F := F) (C := c19) rfl rfl ?_
  replace hI := hI.nil (cInt .i64) 3 none
  refine la_append (xs := ([] : List Int)) (ys := zs1) hI .z (hI.crd .z) hx6 rfl gn rfl rfl u24 info_3 rfl rfl et et ?_
  clear hI; intro a7 c20 c21 w13 hI
  exact a_sub (hk_tr_tensor_Reduce_1_1 (a7, c20, c21) _ (hI.arr (.c .z (.c .z (.c .z .n))) ⟨.z, (.s .z), (.s (.s .z)), (.s (.s (.s .z))), (.s (.s (.s (.s .z)))), (.s (.s (.s (.s (.s .z))))), trivial⟩)) ⟨rfl, rfl, rfl, rfl, rfl, rfl, rfl, rfl, rfl, rfl, rfl, rfl, rfl, rfl, rfl, rfl, rfl, rfl, rfl, rfl, trivial⟩
 refine a_val rfl gn rfl (y_load1 (v := (vs a1 t1.Dims.length c1)) rfl et u24 rfl (hI.kblk (l := [vs a1 t1.Dims.length c1]) (.s (.s (.s .z))) rfl).1) SX.self ?_
 obtain ⟨a8, hB1⟩ : ∃ B : Option Addr, B = (if c1 = Int.toNat (wi64 (axis1 + 1)) then a1 else Option.map (·.add (Int.toNat (wi64 (axis1 + 1)) * 1)) a1) := ⟨_, rfl⟩
 refine a_q rfl gn rfl (fun w' => y_lfrom rfl u24 size_3 et et hx7 hB1) ?_
 replace hI := hI.from_ (.s (.s (.s (.s .z)))) hx7 hB1
 exact a_sub (hk_tr_tensor_Reduce_1_2 (a8, c19) _ (hI.arr (.c .z (.c .z .n)) ⟨.z, (.s .z), (.s (.s .z)), (.s (.s (.s .z))), (.s (.s (.s (.s .z)))), (.s (.s (.s (.s (.s .z))))), (.s (.s (.s (.s (.s (.s .z)))))), trivial⟩)) ⟨rfl, rfl, rfl, rfl, rfl, rfl, rfl, rfl, rfl, rfl, rfl, rfl, rfl, rfl, rfl, rfl, rfl, rfl, rfl, rfl, rfl, trivial⟩
theorem c_shape_Permute (F : NP) (w0 : World) (hF : ∀ k, F k → k < w0.heap.size) (d1 : List Int) (order1 : List Int) (a1 : Option Addr) (c1 : Nat) (a2 : Option Addr) (c2 : Nat) (hc : AllCl [Cl.sl (cInt .i64) a1 c1 d1, Cl.sl (cInt .i64) a2 c2 order1] F w0) (r : List Int × Int)
  (h : m_shape_Permute d1 order1 = some r) :
  Calls Tryz.prog 65 #[vs a1 d1.length c1, vs a2 order1.length c2] w0 fun e w => ∃ (a3 : Option Addr) (c3 : Nat), e = .returned (Value.tuple #[vs a3 r.1.length c3, vi r.2]) ∧ Ext w0 w ∧ AllCl [Cl.sl (cInt .i64) a3 c3 r.1] F w := by
 refine enterK Tryz.func65 rfl Tryz.ntmps65 rfl ?_
 have hI := Bun.start hF hc
 clear hc
 rw [m_shape_Permute] at h
 refine sr (sac ?_)
 refine sac ?_
 refine nk (c_seq (sr (sm ?_)))
 obtain ⟨r1, hx1, h⟩ := bnd_some h
 refine s_call gn rfl (r_callF (vs := [vs a1 d1.length c1]) rfl ok_58 ⟨et, trivial⟩) (Calls.mono (c_shape_Validate (Dj F noM) w0 hI.lt d1 a1 c1 ⟨(hI.get .z), trivial⟩ r1 hx1) ?_)
 rintro _ w1 ⟨rfl, hx2, hl1⟩
 refine ⟨_, rfl, ?_⟩
 replace hI := (hI.ext hx2)
 refine sa ?_
 refine nk (sr (sm ?_))
 refine sq (y_neq rfl et ev_const) ?_
 refine nk (cif h et (fun hb h => ?_) (fun hb h => ?_))
 ·refine sr (sm ?_)
  refine sac ?_
  refine sa ?_
  refine nk (c_ret ?_)
  have hI := hI.add (c := Cl.sl (cInt .i64) none 0 ([] : List Int)) SlC.nil
  obtain rfl := some_inj h
  exact q_ret (vs := [vs none 0 0, vi r1]) Tryz.results65 ⟨ev_tmp rfl rfl, ⟨ev_tmp rfl rfl, trivial⟩⟩ ⟨none, 0, rfl, hI.ext0, hI.fin ⟨.z, trivial⟩⟩
 refine c_skip (k_same (c_seq (sr (sm ?_))))
 refine sq (y_lenl rfl u24 et) ?_
 refine sm ?_
 refine sq (y_lenl rfl u24 et) ?_
 refine sq (y_neq rfl et et) ?_
 refine nk (cif h et (fun hb h => ?_) (fun hb h => ?_))
 ·refine sr (sac ?_)
  refine sac ?_
  refine nk (c_ret ?_)
  have hI := hI.add (c := Cl.sl (cInt .i64) none 0 ([] : List Int)) SlC.nil
  obtain rfl := some_inj h
  exact q_ret (vs := [vs none 0 0, vi 1]) Tryz.results65 ⟨ev_tmp rfl rfl, ⟨ev_tmp rfl rfl, trivial⟩⟩ ⟨none, 0, rfl, hI.ext0, hI.fin ⟨.z, trivial⟩⟩
 refine c_skip (k_same (sr (l_alloc (cs := #[vb false, vb false, vb false, vb false, vb false, vb false]) hI gn rfl rfl zero_108 rfl ?_)))
 clear hI; intro b1 c4 w2 hI
 obtain ⟨c5, -, hI⟩ := hI.toArr (xs := (List.replicate 6 (false : Bool))) (enc := Value.bool) (N := 6) .z rfl rfl
 refine nk (sr (sm ?_))
 refine sq (y_lenl rfl u24 et) ?_
 obtain ⟨zs1, hx3, h⟩ := bnd_some h
 refine l_make (c := (cInt .i64)) hI hx3 gn  rfl rfl u24 info_3 rfl rfl et et rfl ?_
 clear hI; intro b2 c6 w3 hI
 refine sa ?_
 refine nk (c_seq (sr (sm ?_)))
 refine sq (y_lenl rfl u24 et) ?_
 refine sq (y_move rfl ev_const) ?_
 refine nk (c_block (c_loop (α := Nat × (List Int) × Int × (List Bool) × (Option Addr) × Nat) (fun x => fun w => ∃ C, Bun noM F w0 C w [MO.row (cInt .i64) 3 (x.2.2.2.2.1) (x.2.2.2.2.2) (x.2.1), MO.arr b1 108 Value.bool 6 (x.2.2.2.1)] [Cl.sl (cInt .i64) a1 c1 d1, Cl.sl (cInt .i64) a2 c2 order1] ∧ m_shape_Permute_l1 order1 d1 (x.1) (x.2.1) (x.2.2.1) (x.2.2.2.1) = some r) (fun x _ => x.1) (fun x => [(0, vs a1 d1.length c1), (7, vp b1 0), (8, vs (x.2.2.2.2.1) (x.2.1).length (x.2.2.2.2.2)), (24, vs a2 order1.length c2), (25, vi (order1.length : Int)), (26, vi (x.2.2.1))]) (fu, zs1, 0, (List.replicate 6 (false : Bool)), some ⟨b2, 0, none⟩, ((d1.length : Int)).toNat) ⟨_, hI.arr (.c .z (.c .z .n)) ⟨.z, (.s .z), trivial⟩, h⟩ ⟨rfl, rfl, rfl, rfl, rfl, rfl, trivial⟩ ?_))
 clear h hI; rintro ⟨fuel1, out1, i1, p1, a4, c7⟩ w4 ⟨c8, hI, h⟩
 dsimp only at hI h
 rcases fuel1 with _ | fuel1
 ·rw [m_shape_Permute_l1] at h; cases h
 rw [m_shape_Permute_l1] at h
 refine c_sub (e := [(0, vs a1 d1.length c1), (7, vp b1 0), (8, vs a4 out1.length c7), (24, vs a2 order1.length c2), (25, vi (order1.length : Int)), (26, vi i1)]) ⟨rfl, rfl, rfl, rfl, rfl, rfl, trivial⟩ ?_
 refine sr (sq (y_lss rfl et et) ?_)
 refine nk (c_seq (cif h et (fun hb h => ?_) (fun hb h => ?_)))
 ·refine c_skip (k_same (c_seq (c_block (sr (sm ?_)))))
  obtain ⟨e1, hx4, h⟩ := bnd_some h
  obtain ⟨ad1, cs1, hA1, hr1, hq1⟩ := hI.clat (.s .z) hx4
  obtain rfl : cs1 = [vi e1] := hr1
  refine sq (y_indexAddr rfl u24 size_3 et et (lat_bd hx4) hA1) ?_
  refine sq (y_load1 (v := (vi e1)) rfl et u3 rfl hq1.1) ?_
  refine sa ?_
  refine sa ?_
  refine nk (c_seq (sr (sm ?_)))
  refine sq (y_lss rfl et ev_const) ?_
  refine sm ?_
  refine s_gval (g_false rfl rfl rfl rfl) rfl (fun hc => y_move rfl et) ?_
  refine s_gval (g_false rfl rfl rfl rfl) rfl (fun hc => y_move rfl et) ?_
  refine s_gval (g_false rfl rfl rfl rfl) rfl (fun hc => y_lenl rfl u24 (ev_gv et hc)) ?_
  refine s_gval (g_false rfl rfl rfl rfl) rfl (fun hc => y_geq rfl (ev_gv et hc) (ev_gv et hc)) ?_
  refine sq (y_or rfl et et) ?_
  refine sm ?_
  refine s_gval (g_false rfl rfl rfl rfl) rfl (fun hc => y_move rfl et) ?_
  obtain ⟨ho1, h⟩ := chk_some h
  refine s_gval (g_false rfl rfl rfl rfl) rfl (fun hc => y_indexAddrN rfl et (ev_gv et hc) u108 size_4 (ho1 hc)) ?_
  obtain ⟨e2, hx5, h⟩ := bnd_some h
  replace hx5 := gd_some hx5
  refine s_gval (g_false rfl rfl rfl rfl) rfl (fun hc => (y_load1 (v := (vb e2)) rfl (ev_gv et hc) u4 rfl (hI.arrLat (.s .z) (hx5 hc)).1)) ?_
  refine sq (y_or rfl et et) ?_
  refine nk (cif h et (fun hb h => ?_) (fun hb h => ?_))
  ·refine sr (sac ?_)
   refine sac ?_
   refine s_nil ?_
   refine k_next (e := [(4, vs none 0 0), (5, vi 1)]) ⟨rfl, rfl, trivial⟩ ?_
   refine c_ret ?_
   have hI := hI.add (c := Cl.sl (cInt .i64) none 0 ([] : List Int)) SlC.nil
   obtain rfl := some_inj h
   exact q_ret (vs := [vs none 0 0, vi 1]) Tryz.results65 ⟨ev_tmp rfl rfl, ⟨ev_tmp rfl rfl, trivial⟩⟩ ⟨none, 0, rfl, hI.ext0, hI.fin ⟨.z, trivial⟩⟩
  refine c_skip (k_same (sr (sm ?_)))
  obtain ⟨ho2, h⟩ := chk_some h
  refine sq (y_indexAddrN rfl et et u108 size_4 ho2) ?_
  refine l_storeArr (p := e1) (u := true) hI (.s .z) ho2 rfl rfl gn rfl rfl et ev_const size_4 ?_
  clear hI; intro c9 w5 hI
  refine nk (c_region rfl ?_)
  refine sm ?_
  refine sm ?_
  refine sm ?_
  refine sm ?_
  obtain ⟨e3, hx6, h⟩ := bnd_some h
  obtain ⟨ad2, cs2, hA2, hr2, hq2⟩ := hI.clat .z hx6
  obtain rfl : cs2 = [vi e3] := hr2
  refine sq (y_indexAddr rfl u24 size_3 et et (lat_bd hx6) hA2) ?_
  refine sq (y_load1 (v := (vi e3)) rfl et u3 rfl hq2.1) ?_
  obtain ⟨ho3, h⟩ := chk_some h
  obtain ⟨ad3, hA3⟩ := hI.addr .z ho3
  refine sq (y_indexAddr rfl u24 size_3 et et ho3 hA3) ?_
  refine l_storeRow (p := Int.toNat i1) (new := [vi e3]) (off := 0) (x' := e3) hI .z gn rfl rfl (by have := ho3; omega) hA3 rfl et et rfl size_3 rfl (by show 0 + 1 ≤ 1; omega) (fun _ cs0 _ hr0 => by rw [spl_full (by have e := Cod.len _ hr0; exact e)]; exact rfl) ?_
  clear hI; intro c10 w6 hI
  refine s_nil ?_
  refine k_next (e := [(0, vs a1 d1.length c1), (7, vp b1 0), (8, (vs a4 (out1.set (Int.toNat i1) e3).length c7)), (24, vs a2 order1.length c2), (25, vi (order1.length : Int)), (26, vi i1)]) ⟨rfl, rfl, (lookset rfl), rfl, rfl, rfl, trivial⟩ ?_
  refine c_region rfl ?_
  refine sq (y_add rfl et ev_const) ?_
  refine sm ?_
  refine s_nil ?_
  exact k_loop (fuel1, out1.set (Int.toNat i1) e3, wi64 (i1 + 1), (p1).set (e1).toNat true, a4, c7) ⟨rfl, rfl, rfl, rfl, rfl, rfl, trivial⟩ ⟨_, hI.arr (.c .z (.c .z .n)) ⟨.z, (.s .z), trivial⟩, h⟩ (Nat.lt_succ_self _)
 refine c_exit ?_
 refine k_in ?_
 refine k_same (sr (sm ?_))
 refine sa ?_
 refine sac ?_
 refine nk (c_ret ?_)
 obtain ⟨c11, hI⟩ := hI.release .z
 obtain rfl := some_inj h
 exact q_ret (vs := [vs a4 out1.length c7, vi 0]) Tryz.results65 ⟨ev_tmp rfl rfl, ⟨ev_tmp rfl rfl, trivial⟩⟩ ⟨a4, c7, rfl, hI.ext0, hI.fin ⟨.z, trivial⟩⟩
theorem c_tensor_Permute_1 (F : NP) (w0 : World) (hF : ∀ k, F k → k < w0.heap.size) (p1 : List Int) (a2 : List Int) (a1 : Option Addr) (c1 : Nat) (b1 : Nat) (a3 : Option Addr) (c2 : Nat) (hc : AllCl [Cl.sl (cInt .i64) a1 c1 p1, Cl.sl (cInt .i64) a3 c2 a2, Cl.blk b1 24 #[vs a3 a2.length c2]] F w0) (r : List Int)
  (h : m_tensor_Permute_1 p1 a2 = some r) :
  Calls Tryz.prog 67 #[vs a1 p1.length c1, vp b1 0] w0 fun e w => ∃ (a4 : Option Addr) (c3 : Nat), e = .returned (vs a4 r.length c3) ∧ Ext w0 w ∧ AllCl [Cl.sl (cInt .i64) a4 c3 r] F w := by
 refine enterK Tryz.func67 rfl Tryz.ntmps67 rfl ?_
 have hI := Bun.start hF hc
 clear hc
 rw [m_tensor_Permute_1] at h
 refine sr (sac ?_)
 refine nk (sr (sm ?_))
 refine sq (y_lenl rfl u24 et) ?_
 obtain ⟨zs1, hx1, h⟩ := bnd_some h
 refine l_make (c := (cInt .i64)) hI hx1 gn  rfl rfl u24 info_3 rfl rfl et et rfl ?_
 clear hI; intro b2 c4 w1 hI
 refine sa ?_
 refine nk (c_seq (sr (sq (y_load1 (v := (vs a3 a2.length c2)) rfl et u24 rfl (hI.kblk (l := [vs a3 a2.length c2]) (.s (.s .z)) rfl).1) ?_)))
 refine sq (y_lenl rfl u24 et) ?_
 refine sq (y_move rfl ev_const) ?_
 refine nk (c_block (c_loop (α := Nat × (List Int) × Int × (Option Addr) × Nat) (fun x => fun w => ∃ C, Bun noM F w0 C w [MO.row (cInt .i64) 3 (x.2.2.2.1) (x.2.2.2.2) (x.2.1)] [Cl.sl (cInt .i64) a1 c1 p1, Cl.sl (cInt .i64) a3 c2 a2] ∧ m_tensor_Permute_1_l1 a2 p1 (x.1) (x.2.1) (x.2.2.1) = some r) (fun x _ => x.1) (fun x => [(0, vs a1 p1.length c1), (4, vs (x.2.2.2.1) (x.2.1).length (x.2.2.2.2)), (10, vs a3 a2.length c2), (11, vi (a2.length : Int)), (12, vi (x.2.2.1))]) (fu, zs1, 0, some ⟨b2, 0, none⟩, ((p1.length : Int)).toNat) ⟨_, hI.arr (.c .z .n) ⟨.z, (.s .z), trivial⟩, h⟩ ⟨rfl, rfl, rfl, rfl, rfl, trivial⟩ ?_))
 clear h hI; rintro ⟨fuel1, q1, i1, a5, c5⟩ w2 ⟨c6, hI, h⟩
 dsimp only at hI h
 rcases fuel1 with _ | fuel1
 ·rw [m_tensor_Permute_1_l1] at h; cases h
 rw [m_tensor_Permute_1_l1] at h
 refine c_sub (e := [(0, vs a1 p1.length c1), (4, vs a5 q1.length c5), (10, vs a3 a2.length c2), (11, vi (a2.length : Int)), (12, vi i1)]) ⟨rfl, rfl, rfl, rfl, rfl, trivial⟩ ?_
 refine sr (sq (y_lss rfl et et) ?_)
 refine nk (c_seq (cif h et (fun hb h => ?_) (fun hb h => ?_)))
 ·refine c_skip (k_same (c_seq (c_block (sr (sm ?_)))))
  obtain ⟨e1, hx2, h⟩ := bnd_some h
  obtain ⟨ad1, cs1, hA1, hr1, hq1⟩ := hI.clat (.s .z) hx2
  obtain rfl : cs1 = [vi e1] := hr1
  refine sq (y_indexAddr rfl u24 size_3 et et (lat_bd hx2) hA1) ?_
  refine sq (y_load1 (v := (vi e1)) rfl et u3 rfl hq1.1) ?_
  refine sa ?_
  refine sa ?_
  refine nk (c_region rfl ?_)
  refine sm ?_
  refine sm ?_
  refine sm ?_
  refine sm ?_
  obtain ⟨e2, hx3, h⟩ := bnd_some h
  obtain ⟨ad2, cs2, hA2, hr2, hq2⟩ := hI.clat .z hx3
  obtain rfl : cs2 = [vi e2] := hr2
  refine sq (y_indexAddr rfl u24 size_3 et et (lat_bd hx3) hA2) ?_
  refine sq (y_load1 (v := (vi e2)) rfl et u3 rfl hq2.1) ?_
  obtain ⟨ho1, h⟩ := chk_some h
  obtain ⟨ad3, hA3⟩ := hI.addr .z ho1
  refine sq (y_indexAddr rfl u24 size_3 et et ho1 hA3) ?_
  refine l_storeRow (p := Int.toNat e1) (new := [vi e2]) (off := 0) (x' := e2) hI .z gn rfl rfl (by have := ho1; omega) hA3 rfl et et rfl size_3 rfl (by show 0 + 1 ≤ 1; omega) (fun _ cs0 _ hr0 => by rw [spl_full (by have e := Cod.len _ hr0; exact e)]; exact rfl) ?_
  clear hI; intro c7 w3 hI
  refine s_nil ?_
  refine k_next (e := [(0, vs a1 p1.length c1), (4, (vs a5 (q1.set (Int.toNat e1) e2).length c5)), (10, vs a3 a2.length c2), (11, vi (a2.length : Int)), (12, vi i1)]) ⟨rfl, (lookset rfl), rfl, rfl, rfl, trivial⟩ ?_
  refine c_region rfl ?_
  refine sq (y_add rfl et ev_const) ?_
  refine sm ?_
  refine s_nil ?_
  exact k_loop (fuel1, q1.set (Int.toNat e1) e2, wi64 (i1 + 1), a5, c5) ⟨rfl, rfl, rfl, rfl, rfl, trivial⟩ ⟨_, hI.arr (.c .z .n) ⟨.z, (.s .z), trivial⟩, h⟩ (Nat.lt_succ_self _)
 refine c_exit ?_
 refine k_in ?_
 refine k_same (sr (sm ?_))
 refine sa ?_
 refine nk (c_ret ?_)
 obtain ⟨c8, hI⟩ := hI.release .z
 obtain rfl := some_inj h
 exact q_ret (vs := [vs a5 q1.length c5]) Tryz.results67 ⟨ev_tmp rfl rfl, trivial⟩ ⟨a5, c5, rfl, hI.ext0, hI.fin ⟨.z, trivial⟩⟩
theorem c_slices_Clone_int_int_o (C0 F : NP) (w0 : World) (s1 : List Int) (a1 : Option Addr) (c1 : Nat) (hI : Bun C0 F w0 C0 w0 [] [Cl.sl (cInt .i64) a1 c1 s1]) (r : List Int)
  (h : m_slices_Clone_int_int_o s1 = some r) :
  Calls Tryz.prog 99 #[vs a1 s1.length c1] w0 fun e w => ∃ (a2 : Option Addr) (c2 : Nat) (C : NP), e = .returned (vs a2 r.length c2) ∧ Bun C0 F w0 C w [MO.row (cInt .i64) 3 a2 c2 r] [] := by
 refine enterK Tryz.func99 rfl Tryz.ntmps99 rfl ?_
 rw [m_slices_Clone_int_int_o] at h
 refine sr (sac ?_)
 refine nk (c_seq (sr (sm ?_)))
 refine sq (y_eqnil rfl et ev_const u24) ?_
 refine nk (c_cond (b := Option.isNone a1) et (fun hb => ?_) (fun hb => ?_))
 ·have hn_ := hI.nilEmpty .z hb
  replace h : some (([] : List Int)) = some r := by rw [hn_] at h; simpa [lapp] using h
  refine sr (sac ?_)
  refine nk (c_ret ?_)
  have hI := hI.nil (cInt .i64) 3 none
  obtain rfl := some_inj h
  exact q_ret (vs := [vs none ([] : List Int).length 0]) Tryz.results99 ⟨ev_tmp rfl rfl, trivial⟩ ⟨none, 0, _, rfl, hI.arr (.c .z .n) trivial⟩
 refine c_skip (k_same (sr (l_lit (c := (cInt .i64)) (xs := ([] : List Int)) (vs := []) (cs := #[]) (css := []) hI gn rfl rfl u24 info_3 rfl trivial (by kernel_rfl) trivial rfl rfl rfl ?_)))
 clear hI; intro b1 c3 w1 hI
 refine sm ?_
 obtain ⟨zs1, hx1, h⟩ := bnd_some h
 refine l_append (xs := ([] : List Int)) (ys := s1) hI .z (hI.crd .z) hx1 gn rfl rfl u24 info_3 rfl rfl et et ?_
 clear hI; intro a3 c4 c5 w2 hI
 refine sa ?_
 refine nk (c_ret ?_)
 obtain rfl := some_inj h
 exact q_ret (vs := [vs a3 zs1.length c4]) Tryz.results99 ⟨ev_tmp rfl rfl, trivial⟩ ⟨a3, c4, _, rfl, hI.arr (.c .z .n) trivial⟩
theorem c_shape_Point (F : NP) (w0 : World) (hF : ∀ k, F k → k < w0.heap.size) (d1 : List Int) (at1 : Int) (a1 : Option Addr) (c1 : Nat) (hc : AllCl [Cl.sl (cInt .i64) a1 c1 d1] F w0) (r : List Int × Bool)
  (h : m_shape_Point d1 at1 = some r) :
  Calls Tryz.prog 98 #[vs a1 d1.length c1, vi at1] w0 fun e w => ∃ (a2 : Option Addr) (c2 : Nat), e = .returned (Value.tuple #[vs a2 r.1.length c2, vb r.2]) ∧ Ext w0 w ∧ AllCl [Cl.sl (cInt .i64) a2 c2 r.1] F w := by
 refine enterK Tryz.func98 rfl Tryz.ntmps98 rfl ?_
 have hI := Bun.start hF hc
 clear hc
 rw [m_shape_Point] at h
 refine sr (sac ?_)
 refine sac ?_
 refine nk (c_seq (sr (sm ?_)))
 refine sq (y_lss rfl et ev_const) ?_
 refine sm ?_
 refine s_gval (g_false rfl rfl rfl rfl) rfl (fun hc => y_move rfl et) ?_
 refine s_gval (g_false rfl rfl rfl rfl) rfl (fun hc => y_move rfl et) ?_
 obtain ⟨r1, hx1, h⟩ := bnd_some h
 replace hx1 := gd_some hx1
 refine s_gcallU (v := (vi r1)) (g_false rfl rfl rfl rfl) rfl (fun hc => (r_callF (vs := [vs a1 d1.length c1]) rfl ok_59 ⟨(ev_gv et hc), trivial⟩)) (fun hc => (c_shape_Size (Dj F noM) w0 hI.lt d1 a1 c1 ⟨(hI.get .z), trivial⟩ r1 (hx1 hc)).mono fun _ _ k => ⟨k.1, k.2.1⟩) ?_
 intro w1 hx2; replace hI := hI.ext hx2
 refine s_gval (g_false rfl rfl rfl rfl) rfl (fun hc => y_geq rfl (ev_gv et hc) (ev_gv et hc)) ?_
 refine sq (y_or rfl et et) ?_
 refine nk (cif h et (fun hb h => ?_) (fun hb h => ?_))
 ·refine sr (sac ?_)
  refine sac ?_
  refine nk (c_ret ?_)
  have hI := hI.add (c := Cl.sl (cInt .i64) none 0 ([] : List Int)) SlC.nil
  obtain rfl := some_inj h
  exact q_ret (vs := [vs none 0 0, vb false]) Tryz.results98 ⟨ev_tmp rfl rfl, ⟨ev_tmp rfl rfl, trivial⟩⟩ ⟨none, 0, rfl, hI.ext0, hI.fin ⟨.z, trivial⟩⟩
 refine c_skip (k_same (sr (l_alloc (cs := #[vi 0, vi 0, vi 0, vi 0, vi 0, vi 0]) hI gn rfl rfl zero_125 rfl ?_)))
 clear hI; intro b1 c3 w2 hI
 obtain ⟨c4, -, hI⟩ := hI.toArr (xs := (List.replicate 6 (0 : Int))) (enc := (Value.int .i64)) (N := 6) .z rfl rfl
 refine nk (c_seq (sr (sm ?_)))
 refine sq (y_lenl rfl u24 et) ?_
 refine sq (y_sub rfl et ev_const) ?_
 obtain ⟨i1, hx3, h⟩ := bnd_some h
 refine sq (binU (y_assign rfl et) (congrArg (Value.int .i64) (some_inj hx3))) ?_
 refine nk (c_block (c_loop (α := Nat × Int × Int × (List Int)) (fun x => fun w => ∃ C, Bun noM F w0 C w [MO.arr b1 125 (Value.int .i64) 6 (x.2.2.2)] [Cl.sl (cInt .i64) a1 c1 d1] ∧ m_shape_Point_l1 d1 (x.1) (x.2.1) (x.2.2.1) (x.2.2.2) = some r) (fun x _ => x.1) (fun x => [(0, vs a1 d1.length c1), (1, vi (x.2.1)), (6, vp b1 0), (7, vi (x.2.2.1))]) (fu, at1, i1, (List.replicate 6 (0 : Int))) ⟨_, hI.arr (.c .z .n) ⟨.z, trivial⟩, h⟩ ⟨rfl, rfl, rfl, rfl, trivial⟩ ?_))
 clear h hI; rintro ⟨fuel1, at2, i2, p1⟩ w3 ⟨c5, hI, h⟩
 dsimp only at hI h
 rcases fuel1 with _ | fuel1
 ·rw [m_shape_Point_l1] at h; cases h
 rw [m_shape_Point_l1] at h
 refine c_sub (e := [(0, vs a1 d1.length c1), (1, vi at2), (6, vp b1 0), (7, vi i2)]) ⟨rfl, rfl, rfl, rfl, trivial⟩ ?_
 refine c_seq (sr (sm ?_))
 refine sq (y_geq rfl et ev_const) ?_
 refine nk (cif h et (fun hb h => ?_) (fun hb h => ?_))
 ·refine c_skip (k_same (c_seq (c_block (sr (sm ?_)))))
  refine sm ?_
  refine sm ?_
  refine sm ?_
  obtain ⟨e1, hx4, h⟩ := bnd_some h
  obtain ⟨ad1, cs1, hA1, hr1, hq1⟩ := hI.clat .z hx4
  obtain rfl : cs1 = [vi e1] := hr1
  refine sq (y_indexAddr rfl u24 size_3 et et (lat_bd hx4) hA1) ?_
  refine sq (y_load1 (v := (vi e1)) rfl et u3 rfl hq1.1) ?_
  obtain ⟨ho1, h⟩ := chk_some h
  refine sq (y_rem rfl et et ho1) ?_
  obtain ⟨ho2, h⟩ := chk_some h
  refine sq (y_indexAddrN rfl et et u125 size_3 ho2) ?_
  refine l_storeArr (p := i2) (u := Int.tmod at2 e1) hI .z ho2 rfl rfl gn rfl rfl et et size_3 ?_
  clear hI; intro c6 w4 hI
  refine nk (c_region rfl ?_)
  refine sm ?_
  refine sm ?_
  refine sm ?_
  obtain ⟨e2, hx5, h⟩ := bnd_some h
  obtain ⟨ad2, cs2, hA2, hr2, hq2⟩ := hI.clat .z hx5
  obtain rfl : cs2 = [vi e2] := hr2
  refine sq (y_indexAddr rfl u24 size_3 et et (lat_bd hx5) hA2) ?_
  refine sq (y_load1 (v := (vi e2)) rfl et u3 rfl hq2.1) ?_
  obtain ⟨ho3, h⟩ := chk_some h
  refine sq (y_quo rfl et et ho3) ?_
  refine sa ?_
  refine nk (c_region rfl ?_)
  refine sm ?_
  refine sq (y_sub rfl et ev_const) ?_
  refine sa ?_
  refine s_nil ?_
  exact k_loop (fuel1, wi64 (Int.tdiv at2 e2), wi64 (i2 - 1), (p1).set (i2).toNat (Int.tmod at2 e1)) ⟨rfl, rfl, rfl, rfl, trivial⟩ ⟨_, hI.arr (.c .z .n) ⟨.z, trivial⟩, h⟩ (Nat.lt_succ_self _)
 refine c_exit ?_
 refine k_in ?_
 refine k_same (sr (sm ?_))
 refine sq (y_lenl rfl u24 et) ?_
 obtain ⟨zs1, hx6, h⟩ := bnd_some h
 refine sq (y_sliceArrU rfl et et u125 size_3 (hI.arrBlk .z).2 hx6) ?_
 obtain ⟨c7, hI⟩ := hI.relArr (c := (cInt .i64)) .z (fun _ _ _ => rfl)
 replace hI := hI.upto .z hx6
 obtain ⟨c8, f1, hB, hl2, hk1⟩ := hI.hands .n
 obtain ⟨r2, hx7, h⟩ := bnd_some h
 try dsimp only at h
 refine s_call gn rfl (r_callF (vs := [vs (some ⟨b1, 0, none⟩) zs1.length 6]) rfl ok_99 ⟨et, trivial⟩) (Calls.mono (c_slices_Clone_int_int_o c8 f1 w3 zs1 (some ⟨b1, 0, none⟩) 6 (hB.subs ⟨.z, trivial⟩) _ hx7) ?_)
 rintro _ w5 ⟨a3, c9, c10, rfl, hB2⟩
 obtain ⟨c11, hs1, hI⟩ := hk1 _ _ _ _ hB2
 replace hI : Bun noM F w0 c11 w5 [MO.row (cInt .i64) 3 a3 c9 r2] [Cl.sl (cInt .i64) (some ⟨b1, 0, none⟩) 6 zs1, Cl.sl (cInt .i64) (some ⟨b1, 0, none⟩) 6 p1, Cl.sl (cInt .i64) a1 c1 d1] := hI
 refine ⟨_, rfl, ?_⟩
 refine sa ?_
 refine sac ?_
 refine nk (c_ret ?_)
 obtain ⟨c12, hI⟩ := hI.release .z
 obtain rfl := some_inj h
 exact q_ret (vs := [vs a3 r2.length c9, vb true]) Tryz.results98 ⟨ev_tmp rfl rfl, ⟨ev_tmp rfl rfl, trivial⟩⟩ ⟨a3, c9, rfl, hI.ext0, hI.fin ⟨.z, trivial⟩⟩
theorem c_shape_Offset (F : NP) (w0 : World) (hF : ∀ k, F k → k < w0.heap.size) (d1 : List Int) (p1 : List Int) (a1 : Option Addr) (c1 : Nat) (a2 : Option Addr) (c2 : Nat) (hc : AllCl [Cl.sl (cInt .i64) a1 c1 d1, Cl.sl (cInt .i64) a2 c2 p1] F w0) (r : Int × Bool)
  (h : m_shape_Offset d1 p1 = some r) :
  Calls Tryz.prog 88 #[vs a1 d1.length c1, vs a2 p1.length c2] w0 fun e w => e = .returned (Value.tuple #[vi r.1, vb r.2]) ∧ Ext w0 w ∧ AllCl [] F w := by
 refine enterK Tryz.func88 rfl Tryz.ntmps88 rfl ?_
 have hI := Bun.start hF hc
 clear hc
 rw [m_shape_Offset] at h
 refine sr (sac ?_)
 refine sac ?_
 refine nk (c_seq (sr (sm ?_)))
 obtain ⟨r1, hx1, h⟩ := bnd_some h
 refine s_call gn rfl (r_callF (vs := [vs a1 d1.length c1]) rfl ok_58 ⟨et, trivial⟩) (Calls.mono (c_shape_Validate (Dj F noM) w0 hI.lt d1 a1 c1 ⟨(hI.get .z), trivial⟩ r1 hx1) ?_)
 rintro _ w1 ⟨rfl, hx2, hl1⟩
 refine ⟨_, rfl, ?_⟩
 replace hI := (hI.ext hx2)
 refine sq (y_neq rfl et ev_const) ?_
 refine sm ?_
 refine s_gval (g_false rfl rfl rfl rfl) rfl (fun hc => y_move rfl et) ?_
 refine s_gval (g_false rfl rfl rfl rfl) rfl (fun hc => y_lenl rfl u24 (ev_gv et hc)) ?_
 refine s_gval (g_false rfl rfl rfl rfl) rfl (fun hc => y_move rfl et) ?_
 refine s_gval (g_false rfl rfl rfl rfl) rfl (fun hc => y_lenl rfl u24 (ev_gv et hc)) ?_
 refine s_gval (g_false rfl rfl rfl rfl) rfl (fun hc => y_neq rfl (ev_gv et hc) (ev_gv et hc)) ?_
 refine sq (y_or rfl et et) ?_
 refine nk (cif h et (fun hb h => ?_) (fun hb h => ?_))
 ·refine sr (sac ?_)
  refine sac ?_
  refine nk (c_ret ?_)
  obtain rfl := some_inj h
  exact q_ret (vs := [vi 0, vb false]) Tryz.results88 ⟨ev_tmp rfl rfl, ⟨ev_tmp rfl rfl, trivial⟩⟩ (fq hI trivial)
 refine c_skip (k_same (sr (sac ?_)))
 refine nk (c_seq (sr (sm ?_)))
 refine sq (y_lenl rfl u24 et) ?_
 refine sq (y_move rfl ev_const) ?_
 refine nk (c_block (c_loop (α := Nat × Int × Int) (fun x => fun w => ∃ C, Bun noM F w0 C w [] [Cl.sl (cInt .i64) a2 c2 p1, Cl.sl (cInt .i64) a1 c1 d1] ∧ m_shape_Offset_l1 d1 p1 (x.1) (x.2.1) (x.2.2) = some r) (fun x _ => x.1) (fun x => [(1, vs a2 p1.length c2), (6, vi (x.2.1)), (19, vs a1 d1.length c1), (20, vi (d1.length : Int)), (21, vi (x.2.2))]) (fu, 0, 0) ⟨_, hI.arr .n ⟨(.s .z), .z, trivial⟩, h⟩ ⟨rfl, rfl, rfl, rfl, rfl, trivial⟩ ?_))
 clear h hI; rintro ⟨fuel1, at1, i1⟩ w2 ⟨c3, hI, h⟩
 dsimp only at hI h
 rcases fuel1 with _ | fuel1
 ·rw [m_shape_Offset_l1] at h; cases h
 rw [m_shape_Offset_l1] at h
 refine c_sub (e := [(1, vs a2 p1.length c2), (6, vi at1), (19, vs a1 d1.length c1), (20, vi (d1.length : Int)), (21, vi i1)]) ⟨rfl, rfl, rfl, rfl, rfl, trivial⟩ ?_
 refine sr (sq (y_lss rfl et et) ?_)
 refine nk (c_seq (cif h et (fun hb h => ?_) (fun hb h => ?_)))
 ·refine c_skip (k_same (c_seq (c_block (sr (sm ?_)))))
  obtain ⟨e1, hx3, h⟩ := bnd_some h
  obtain ⟨ad1, cs1, hA1, hr1, hq1⟩ := hI.clat (.s .z) hx3
  obtain rfl : cs1 = [vi e1] := hr1
  refine sq (y_indexAddr rfl u24 size_3 et et (lat_bd hx3) hA1) ?_
  refine sq (y_load1 (v := (vi e1)) rfl et u3 rfl hq1.1) ?_
  refine sa ?_
  refine sa ?_
  refine nk (c_seq (sr (sm ?_)))
  refine sm ?_
  obtain ⟨e2, hx4, h⟩ := bnd_some h
  obtain ⟨ad2, cs2, hA2, hr2, hq2⟩ := hI.clat .z hx4
  obtain rfl : cs2 = [vi e2] := hr2
  refine sq (y_indexAddr rfl u24 size_3 et et (lat_bd hx4) hA2) ?_
  refine sq (y_load1 (v := (vi e2)) rfl et u3 rfl hq2.1) ?_
  refine sq (y_lss rfl et ev_const) ?_
  refine sm ?_
  refine s_gval (g_false rfl rfl rfl rfl) rfl (fun hc => y_move rfl et) ?_
  refine s_gval (g_false rfl rfl rfl rfl) rfl (fun hc => y_move rfl et) ?_
  obtain ⟨e3, hx5, h⟩ := bnd_some h
  replace hx5 := gd_some hx5
  obtain ⟨ad3, cs3, hq3⟩ := hI.gclat .z hx5
  have hq4 : (!(decide (e2 < 0))) = true → CA (Dj F c3) w2 (ad3.add (Int.toNat i1 * 1)) [vi e3] := fun hc => by have k := hq3 hc; have e : cs3 = _ := k.2.1; rw [← e]; exact k.2.2
  refine s_gval (g_false rfl rfl rfl rfl) rfl (fun hc => (y_indexAddr rfl u24 size_3 (ev_gv et hc) (ev_gv et hc) (lat_bd (hx5 hc)) (hq3 hc).1)) ?_
  refine s_gval (g_false rfl rfl rfl rfl) rfl (fun hc => (y_load1 (v := (vi e3)) rfl (ev_gv et hc) u3 rfl (hq4 hc).1)) ?_
  refine s_gval (g_false rfl rfl rfl rfl) rfl (fun hc => y_move rfl et) ?_
  refine s_gval (g_false rfl rfl rfl rfl) rfl (fun hc => y_geq rfl (ev_gv et hc) (ev_gv et hc)) ?_
  refine sq (y_or rfl et et) ?_
  refine nk (cif h et (fun hb h => ?_) (fun hb h => ?_))
  ·refine sr (sac ?_)
   refine sac ?_
   refine s_nil ?_
   refine k_next (e := [(4, vi 0), (5, vb false)]) ⟨rfl, rfl, trivial⟩ ?_
   refine c_ret ?_
   obtain rfl := some_inj h
   exact q_ret (vs := [vi 0, vb false]) Tryz.results88 ⟨ev_tmp rfl rfl, ⟨ev_tmp rfl rfl, trivial⟩⟩ (fq hI trivial)
  refine c_skip (k_same (c_region rfl ?_))
  refine sm ?_
  refine sm ?_
  refine sq (y_mul rfl et et) ?_
  refine sm ?_
  refine sm ?_
  obtain ⟨e4, hx6, h⟩ := bnd_some h
  obtain ⟨ad4, cs4, hA4, hr4, hq5⟩ := hI.clat .z hx6
  obtain rfl : cs4 = [vi e4] := hr4
  refine sq (y_indexAddr rfl u24 size_3 et et (lat_bd hx6) hA4) ?_
  refine sq (y_load1 (v := (vi e4)) rfl et u3 rfl hq5.1) ?_
  refine sq (y_add rfl et et) ?_
  obtain ⟨at2, hx7, h⟩ := bnd_some h
  refine sq (binU (y_assign rfl et) (congrArg (Value.int .i64) (some_inj hx7))) ?_
  refine s_nil ?_
  refine k_next (e := [(1, vs a2 p1.length c2), (6, vi at2), (19, vs a1 d1.length c1), (20, vi (d1.length : Int)), (21, vi i1)]) ⟨rfl, rfl, rfl, rfl, rfl, trivial⟩ ?_
  refine c_region rfl ?_
  refine sq (y_add rfl et ev_const) ?_
  refine sm ?_
  refine s_nil ?_
  exact k_loop (fuel1, at2, wi64 (i1 + 1)) ⟨rfl, rfl, rfl, rfl, rfl, trivial⟩ ⟨_, hI.arr .n ⟨.z, (.s .z), trivial⟩, h⟩ (Nat.lt_succ_self _)
 refine c_exit ?_
 refine k_in ?_
 refine k_same (sr (sm ?_))
 refine sa ?_
 refine sac ?_
 refine nk (c_ret ?_)
 obtain rfl := some_inj h
 exact q_ret (vs := [vi at1, vb true]) Tryz.results88 ⟨ev_tmp rfl rfl, ⟨ev_tmp rfl rfl, trivial⟩⟩ (fq hI trivial)
theorem c_tensor_gather (F : NP) (w0 : World) (hF : ∀ k, F k → k < w0.heap.size) (t1 : GTensor) (dims1 : List Int) (from1 : ((List Int) → Option (List Int))) (a1 : Option Addr) (c1 : Nat) (a2 : Option Addr) (c2 : Nat) (a3 : Option Addr) (c3 : Nat) (fv1 : Value) (hc : AllCl [Cl.sl (cInt .i64) a1 c1 t1.Dims, Cl.sl cGVal a2 c2 t1.Vals, Cl.sl (cInt .i64) a3 c3 dims1, clFn_k3 fv1 from1] F w0) (r : GTensor)
  (h : m_tensor_gather t1 dims1 from1 = some r) :
  Calls Tryz.prog 66 #[(Value.agg (ATensor t1 a1 c1 a2 c2)), vs a3 dims1.length c3, fv1] w0 fun e w => ∃ (a4 : Option Addr) (c4 : Nat) (a5 : Option Addr) (c5 : Nat), e = .returned (Value.agg (ATensor r a4 c4 a5 c5)) ∧ Ext w0 w ∧ AllCl [Cl.sl (cInt .i64) a4 c4 r.Dims, Cl.sl cGVal a5 c5 r.Vals] F w := by
 refine enterK Tryz.func66 rfl Tryz.ntmps66 rfl ?_
 have hI := Bun.start hF hc
 clear hc
 rw [m_tensor_gather] at h
 refine sr (l_box (v := (Value.agg (ATensor t1 a1 c1 a2 c2))) (cs := (ATensor t1 a1 c1 a2 c2)) hI gn rfl rfl et rfl ?_)
 clear hI; intro b1 c6 w1 hI
 obtain ⟨c7, hI⟩ := hI.relBox .z
 refine l_alloc (cs := ZTensor) hI gn rfl rfl zero_27 rfl ?_
 clear hI; intro b2 c8 w2 hI
 refine nk (sr (sq (y_fieldAddr rfl et u27 rfl size_23 rfl) ?_))
 refine sq (y_loadN (l := (lType t1.Type_)) rfl et u23 rfl size_23 (hI.kblk (l := (lType t1.Type_)) .z rfl).1) ?_
 refine sm ?_
 refine sq (y_build (vs := [(0, (Value.agg (AType t1.Type_))), (1, vs a3 dims1.length c3)]) (cs := #[vi t1.Type_.Kind, vi t1.Type_.Bits, vi t1.Type_.Frac, vi t1.Type_.Round, vi t1.Type_.Over, vs a3 dims1.length c3, vs none 0 0]) rfl ⟨rfl, et, ⟨rfl, et, trivial⟩⟩ (by kernel_rfl)) ?_
 refine l_alloc (cs := ZTensor) hI gn rfl rfl zero_27 rfl ?_
 clear hI; intro b3 c9 w3 hI
 refine l_store (new := [vi t1.Type_.Kind, vi t1.Type_.Bits, vi t1.Type_.Frac, vi t1.Type_.Round, vi t1.Type_.Over, vs a3 dims1.length c3, vs none 0 0]) (cs' := #[vi t1.Type_.Kind, vi t1.Type_.Bits, vi t1.Type_.Frac, vi t1.Type_.Round, vi t1.Type_.Over, vs a3 dims1.length c3, vs none 0 0]) hI .z gn rfl rfl et et rfl size_27 rfl rfl rfl ?_
 clear hI; intro c10 w4 hI
 refine nk (c_seq (sr (sm ?_)))
 obtain ⟨r1, hx1, h⟩ := bnd_some h
 refine s_call gn rfl (r_callF (vs := [vs a3 dims1.length c3]) rfl ok_59 ⟨et, trivial⟩) (Calls.mono (c_shape_Size (Dj F c10) w4 hI.lt dims1 a3 c3 ⟨(hI.get (.s (.s (.s .z)))), trivial⟩ r1 hx1) ?_)
 rintro _ w5 ⟨rfl, hx2, hl1⟩
 refine ⟨_, rfl, ?_⟩
 replace hI := (hI.ext hx2)
 refine sq (y_move rfl ev_const) ?_
 refine nk (c_block ?_)
 have hI := hI.nil cGVal 36 none
 refine c_loop (α := Nat × Int × GTensor × (Option Addr) × Nat × (Option Addr) × Nat) (fun x => fun w => ∃ C, Bun noM F w0 C w [MO.row cGVal 36 (x.2.2.2.2.2.1) (x.2.2.2.2.2.2) (x.2.2.1).Vals, MO.box b2 27 ZTensor, MO.box b3 27 (ATensor (x.2.2.1) (x.2.2.2.1) (x.2.2.2.2.1) (x.2.2.2.2.2.1) (x.2.2.2.2.2.2))] [Cl.sl (cInt .i64) (x.2.2.2.1) (x.2.2.2.2.1) (x.2.2.1).Dims, Cl.sl (cInt .i64) a3 c3 dims1, clFn_k3 fv1 from1, Cl.blk b1 27 (ATensor t1 a1 c1 a2 c2), Cl.sl (cInt .i64) a1 c1 t1.Dims, Cl.sl cGVal a2 c2 t1.Vals] ∧ m_tensor_gather_l1 r1 dims1 from1 t1 (x.1) (x.2.1) (x.2.2.1) = some r) (fun x _ => x.1) (fun x => [(1, vs a3 dims1.length c3), (2, fv1), (3, vp b1 0), (6, vp b2 0), (7, vp b3 0), (18, vi r1), (19, vi (x.2.1))]) (fu, 0, (⟨t1.Type_, dims1, ([] : List GVal)⟩ : GTensor), a3, c3, none, 0) ⟨_, hI.arr (.c .z (.c (.s .z) (.c .z .n))) ⟨(.s (.s (.s .z))), (.s (.s (.s .z))), (.s (.s (.s (.s .z)))), .z, (.s .z), (.s (.s .z)), trivial⟩, h⟩ ⟨rfl, rfl, rfl, rfl, rfl, rfl, rfl, trivial⟩ ?_
 clear h hI; rintro ⟨fuel1, i1, out1, a6, c11, a7, c12⟩ w6 ⟨c13, hI, h⟩
 dsimp only at hI h
 rcases fuel1 with _ | fuel1
 ·rw [m_tensor_gather_l1] at h; cases h
 rw [m_tensor_gather_l1] at h
 refine c_sub (e := [(1, vs a3 dims1.length c3), (2, fv1), (3, vp b1 0), (6, vp b2 0), (7, vp b3 0), (18, vi r1), (19, vi i1)]) ⟨rfl, rfl, rfl, rfl, rfl, rfl, rfl, trivial⟩ ?_
 refine sr (sq (y_lss rfl et et) ?_)
 refine nk (c_seq (cif h et (fun hb h => ?_) (fun hb h => ?_)))
 ·refine c_skip (k_same (c_seq (c_block (sr (sm ?_)))))
  refine sa ?_
  refine nk (sr (sm ?_))
  refine sm ?_
  obtain ⟨r2, hx3, h⟩ := bnd_some h
  refine s_call gn rfl (r_callF (vs := [vs a3 dims1.length c3, vi i1]) rfl ok_98 ⟨et, ⟨et, trivial⟩⟩) (Calls.mono (c_shape_Point (Dj F c13) w6 hI.lt dims1 i1 a3 c3 ⟨(hI.get (.s .z)), trivial⟩ r2 hx3) ?_)
  rintro _ w7 ⟨a8, c14, rfl, hx4, hl2⟩
  refine ⟨_, rfl, ?_⟩
  replace hI := (hI.ext hx4).adds hl2
  refine sm ?_
  refine sq (y_extract rfl et rfl) ?_
  refine sq (y_extract rfl et rfl) ?_
  refine sa ?_
  refine sa ?_
  refine nk (c_seq (c_drawX [] false (.c (0, .q) (.c (1, .q) (.c (2, .q) (.c (3, .q) (.c (4, .s) (.c (5, .s) (.c (6, .q) (.c (7, .q) (.c (8, .q) (.c (9, .q) (.c (10, .q) .n))))))))))) hI (by kernel_rfl) (by kernel_rfl) ?_))
  clear hI; intro w8 hI
  refine a_q rfl gn rfl (fun w' => y_fieldAddr rfl et u27 rfl size_24 rfl) ?_
  refine a_read rfl gn rfl (fun w' hw' => (y_load1 (v := (vs a1 t1.Dims.length c1)) rfl et u24 rfl ((hI.kblk (l := [vs a1 t1.Dims.length c1]) (.s (.s (.s (.s .z)))) rfl).at_ (SX.any rfl hw')))) (by kernel_rfl) ?_
  refine a_q rfl gn rfl (fun w' => y_move rfl et) ?_
  refine a_q rfl gn rfl (fun w' => y_move rfl et) ?_
  obtain ⟨r3, hx5, h⟩ := bnd_some h
  refine la_callV (args := [vs a8 r2.1.length c14]) rfl gn rfl rfl et ⟨et, trivial⟩ (CallV.mono ((hI.get (.s (.s (.s .z)))).2 (Dj F c13) w8 (Sp.of_ext .rfl') hI.lt r2.1 a8 c14 r3 ⟨(hI.get .z), trivial⟩ hx5) ?_)
  rintro _ w9 ⟨a9, c15, rfl, hx6, hl3⟩
  refine ⟨_, rfl, _, Sp.of_ext hx6, ?_⟩
  replace hI := (hI.ext hx6).adds hl3
  obtain ⟨r4, hx7, h⟩ := bnd_some h
  refine la_call rfl gn rfl (r_callF (vs := [vs a1 t1.Dims.length c1, vs a9 r3.length c15]) rfl ok_88 ⟨et, ⟨et, trivial⟩⟩) (Calls.mono (c_shape_Offset (Dj F c13) w9 hI.lt t1.Dims r3 a1 c1 a9 c15 ⟨(hI.get (.s (.s (.s (.s (.s (.s .z))))))), (hI.get .z), trivial⟩ r4 hx7) ?_)
  rintro _ w10 ⟨rfl, hx8, hl4⟩
  refine ⟨_, rfl, hx8, ?_⟩
  replace hI := (hI.ext hx8)
  refine a_q rfl gn rfl (fun w' => y_move rfl et) ?_
  refine a_q rfl gn rfl (fun w' => y_extract rfl et rfl) ?_
  refine a_q rfl gn rfl (fun w' => y_extract rfl et rfl) ?_
  refine a_q rfl gn rfl (fun w' => y_assign rfl et) ?_
  refine a_q rfl gn rfl (fun w' => y_assign rfl et) ?_
  refine a_nil ?_
  refine k_same (c_drawX [8, 10] false (.c (0, .q) (.c (1, .q) (.c (2, .q) (.c (3, .q) (.c (4, .q) (.c (5, .q) (.c (6, .q) (.c (7, .s) (.c (8, .s) (.c (9, .q) (.c (10, .s) .n))))))))))) hI (by kernel_rfl) (by kernel_rfl) ?_)
  clear hI; intro w11 hI
  refine a_q rfl gn rfl (fun w' => y_fieldAddr rfl et u27 rfl size_25 rfl) ?_
  refine a_read rfl gn rfl (fun w' hw' => (y_load1 (v := (vs a7 out1.Vals.length c12)) rfl et u25 rfl ((CA.blk (hI.blk (.s (.s .z))) rfl).at_ (SX.any rfl hw')))) (by kernel_rfl) ?_
  refine a_q rfl gn rfl (fun w' => y_fieldAddr rfl et u27 rfl size_25 rfl) ?_
  refine a_read rfl gn rfl (fun w' hw' => (y_load1 (v := (vs a2 t1.Vals.length c2)) rfl et u25 rfl ((hI.kblk (l := [vs a2 t1.Vals.length c2]) (.s (.s (.s (.s (.s .z))))) rfl).at_ (SX.any rfl hw')))) (by kernel_rfl) ?_
  refine a_q rfl gn rfl (fun w' => y_move rfl et) ?_
  obtain ⟨e1, hx9, h⟩ := bnd_some h
  obtain ⟨ad1, cs1, hA1, hr1, hq1⟩ := hI.clat (.s (.s (.s (.s (.s (.s (.s .z))))))) hx9
  obtain rfl : cs1 = (lVal e1) := hr1
  refine a_q rfl gn rfl (fun w' => y_indexAddr rfl u25 size_36 et et (lat_bd hx9) hA1) ?_
  refine a_read rfl gn rfl (fun w' hw' => (y_loadN (l := (lVal e1)) rfl et u36 rfl size_36 (hq1.at_ (SX.any rfl hw')))) (by kernel_rfl) ?_
  refine la_lit (c := cGVal) (xs := ([e1] : List GVal)) (vs := [(0, (Value.agg (AVal e1)))]) (cs := (AVal e1)) (css := [(lVal e1)]) hI rfl gn rfl rfl u25 info_36 rfl ⟨rfl, et, trivial⟩ (by kernel_rfl) ⟨rfl, trivial⟩ rfl rfl rfl ?_
  clear hI; intro b4 c16 w12 hI
  refine a_turn (F := F) (C := c16) rfl rfl ?_
  obtain ⟨zs1, hx10, h⟩ := bnd_some h
  refine la_append (xs := out1.Vals) (ys := ([e1] : List GVal)) hI (.s .z) (hI.rd .z) hx10 rfl gn rfl rfl u25 info_36 rfl rfl et et ?_
  clear hI; intro a10 c17 c18 w13 hI
  refine a_q rfl gn rfl (fun w' => y_fieldAddr rfl et u27 rfl size_25 rfl) ?_
  refine la_store (new := [vs a10 zs1.length c17]) (cs' := #[vi out1.Type_.Kind, vi out1.Type_.Bits, vi out1.Type_.Frac, vi out1.Type_.Round, vi out1.Type_.Over, vs a6 out1.Dims.length c11, vs a10 zs1.length c17]) hI (.s (.s (.s .z))) rfl gn rfl rfl et et rfl size_25 rfl rfl rfl ?_
  clear hI; intro c19 w14 hI
  refine a_nil ?_
  refine k_next (e := [(1, vs a3 dims1.length c3), (2, fv1), (3, vp b1 0), (6, vp b2 0), (7, vp b3 0), (18, vi r1), (19, vi i1)]) ⟨rfl, rfl, rfl, rfl, rfl, rfl, rfl, trivial⟩ ?_
  refine c_region rfl ?_
  refine sq (y_add rfl et ev_const) ?_
  refine sm ?_
  refine s_nil ?_
  exact k_loop (fuel1, wi64 (i1 + 1), (⟨out1.Type_, out1.Dims, zs1⟩ : GTensor), a6, c11, a10, c17) ⟨rfl, rfl, rfl, rfl, rfl, rfl, rfl, trivial⟩ ⟨_, hI.arr (.c (.s .z) (.c (.s .z) (.c (.s .z) .n))) ⟨(.s (.s .z)), (.s (.s (.s .z))), (.s (.s (.s (.s .z)))), (.s (.s (.s (.s (.s .z))))), (.s (.s (.s (.s (.s (.s .z)))))), (.s (.s (.s (.s (.s (.s (.s .z))))))), trivial⟩, h⟩ (Nat.lt_succ_self _)
 refine c_exit ?_
 refine k_in ?_
 refine k_same (sr (sq (y_loadN (l := (lTensor out1 a6 c11 a7 c12)) rfl et u27 rfl size_27 (CellsAt.of_blk (hI.blk (.s (.s .z))) rfl)) ?_))
 refine l_store (new := (lTensor out1 a6 c11 a7 c12)) (cs' := (ATensor out1 a6 c11 a7 c12)) hI (.s .z) gn rfl rfl et et rfl size_27 rfl rfl rfl ?_
 clear hI; intro c20 w15 hI
 refine nk (c_ret ?_)
 obtain ⟨c21, hI⟩ := hI.release .z
 obtain rfl := some_inj h
 exact q_ret (vs := [(Value.agg (ATensor out1 a6 c11 a7 c12))]) Tryz.results66 ⟨⟨_, ev_tmp rfl rfl, load_agg (l := (lTensor out1 a6 c11 a7 c12)) u27 rfl size_27 (CellsAt.of_blk (hI.blk .z) rfl)⟩, trivial⟩ ⟨a6, c11, a7, c12, rfl, hI.ext0, hI.fin ⟨(.s .z), .z, trivial⟩⟩
theorem c_tensor_Permute (F : NP) (w0 : World) (hF : ∀ k, F k → k < w0.heap.size) (t1 : GTensor) (order1 : List Int) (a1 : Option Addr) (c1 : Nat) (a2 : Option Addr) (c2 : Nat) (a3 : Option Addr) (c3 : Nat) (hc : AllCl [Cl.sl (cInt .i64) a1 c1 t1.Dims, Cl.sl cGVal a2 c2 t1.Vals, Cl.sl (cInt .i64) a3 c3 order1] F w0) (r : GTensor × Int)
  (h : m_tensor_Permute t1 order1 = some r) :
  Calls Tryz.prog 30 #[(Value.agg (ATensor t1 a1 c1 a2 c2)), vs a3 order1.length c3] w0 fun e w => ∃ (a4 : Option Addr) (c4 : Nat) (a5 : Option Addr) (c5 : Nat), e = .returned (Value.tuple #[(Value.agg (ATensor r.1 a4 c4 a5 c5)), vi r.2]) ∧ Ext w0 w ∧ AllCl [Cl.sl (cInt .i64) a4 c4 r.1.Dims, Cl.sl cGVal a5 c5 r.1.Vals] F w := by
 refine enterK Tryz.func30 rfl Tryz.ntmps30 rfl ?_
 have hI := Bun.start hF hc
 clear hc
 rw [m_tensor_Permute] at h
 refine sr (l_box (v := (Value.agg (ATensor t1 a1 c1 a2 c2))) (cs := (ATensor t1 a1 c1 a2 c2)) hI gn rfl rfl et rfl ?_)
 clear hI; intro b1 c6 w1 hI
 obtain ⟨c7, hI⟩ := hI.relBox .z
 refine l_box (v := (vs a3 order1.length c3)) (cs := #[vs a3 order1.length c3]) hI gn rfl rfl et rfl ?_
 clear hI; intro b2 c8 w2 hI
 obtain ⟨c9, hI⟩ := hI.relBox .z
 refine l_alloc (cs := ZTensor) hI gn rfl rfl zero_27 rfl ?_
 clear hI; intro b3 c10 w3 hI
 refine sac ?_
 refine nk (c_seq (sr (sq (y_loadN (l := (lTensor t1 a1 c1 a2 c2)) rfl et u27 rfl size_27 (hI.kblk (l := (lTensor t1 a1 c1 a2 c2)) (.s .z) rfl).1) ?_)))
 obtain ⟨r1, hx1, h⟩ := bnd_some h
 refine s_call gn rfl (r_callF (vs := [(Value.agg (ATensor t1 a1 c1 a2 c2))]) rfl ok_25 ⟨et, trivial⟩) (Calls.mono (c_tensor_Validate (Dj F c10) w3 hI.lt t1 a1 c1 a2 c2 ⟨(hI.get (.s (.s .z))), (hI.get (.s (.s (.s .z)))), trivial⟩ r1 hx1) ?_)
 rintro _ w4 ⟨rfl, hx2, hl1⟩
 refine ⟨_, rfl, ?_⟩
 replace hI := (hI.ext hx2)
 refine sa ?_
 refine nk (sr (sm ?_))
 refine sq (y_neq rfl et ev_const) ?_
 refine nk (cif h et (fun hb h => ?_) (fun hb h => ?_))
 ·refine sr (sq (y_build (vs := []) (cs := ZTensor) rfl trivial (by kernel_rfl)) ?_)
  refine sm ?_
  refine l_store (new := zTensor) (cs' := ZTensor) hI .z gn rfl rfl et et rfl size_27 rfl rfl rfl ?_
  clear hI; intro c11 w5 hI
  refine sa ?_
  refine nk (c_ret ?_)
  have hI := hI.add (c := Cl.sl (cInt .i64) none 0 ([] : List Int)) SlC.nil
  have hI := hI.add (c := Cl.sl cGVal none 0 ([] : List GVal)) SlC.nil
  obtain rfl := some_inj h
  exact q_ret (vs := [(Value.agg ZTensor), vi r1]) Tryz.results30 ⟨⟨_, ev_tmp rfl rfl, load_agg (l := zTensor) u27 rfl size_27 (CellsAt.of_blk (hI.blk .z) rfl)⟩, ⟨ev_tmp rfl rfl, trivial⟩⟩ ⟨none, 0, none, 0, rfl, hI.ext0, hI.fin ⟨(.s .z), .z, trivial⟩⟩
 refine c_skip (k_same (sr (sq (y_fieldAddr rfl et u27 rfl size_24 rfl) ?_)))
 refine sq (y_load1 (v := (vs a1 t1.Dims.length c1)) rfl et u24 rfl (hI.kblk (l := [vs a1 t1.Dims.length c1]) (.s .z) rfl).1) ?_
 refine sq (y_load1 (v := (vs a3 order1.length c3)) rfl et u24 rfl (hI.kblk (l := [vs a3 order1.length c3]) .z rfl).1) ?_
 obtain ⟨r2, hx3, h⟩ := bnd_some h
 refine s_call gn rfl (r_callF (vs := [vs a1 t1.Dims.length c1, vs a3 order1.length c3]) rfl ok_65 ⟨et, ⟨et, trivial⟩⟩) (Calls.mono (c_shape_Permute (Dj F c10) w4 hI.lt t1.Dims order1 a1 c1 a3 c3 ⟨(hI.get (.s (.s .z))), (hI.get (.s (.s (.s (.s .z))))), trivial⟩ r2 hx3) ?_)
 rintro _ w6 ⟨a6, c12, rfl, hx4, hl2⟩
 refine ⟨_, rfl, ?_⟩
 replace hI := (hI.ext hx4).adds hl2
 refine sm ?_
 refine sq (y_extract rfl et rfl) ?_
 refine sq (y_extract rfl et rfl) ?_
 refine sa ?_
 refine sa ?_
 refine nk (c_seq (sr (sm ?_)))
 refine sq (y_neq rfl et ev_const) ?_
 refine nk (cif h et (fun hb h => ?_) (fun hb h => ?_))
 ·refine sr (sq (y_build (vs := []) (cs := ZTensor) rfl trivial (by kernel_rfl)) ?_)
  refine sm ?_
  refine l_store (new := zTensor) (cs' := ZTensor) hI .z gn rfl rfl et et rfl size_27 rfl rfl rfl ?_
  clear hI; intro c13 w7 hI
  refine sa ?_
  refine nk (c_ret ?_)
  have hI := hI.add (c := Cl.sl (cInt .i64) none 0 ([] : List Int)) SlC.nil
  have hI := hI.add (c := Cl.sl cGVal none 0 ([] : List GVal)) SlC.nil
  obtain rfl := some_inj h
  exact q_ret (vs := [(Value.agg ZTensor), vi r2.2]) Tryz.results30 ⟨⟨_, ev_tmp rfl rfl, load_agg (l := zTensor) u27 rfl size_27 (CellsAt.of_blk (hI.blk .z) rfl)⟩, ⟨ev_tmp rfl rfl, trivial⟩⟩ ⟨none, 0, none, 0, rfl, hI.ext0, hI.fin ⟨(.s .z), .z, trivial⟩⟩
 refine c_skip (k_same (sr (sq (y_loadN (l := (lTensor t1 a1 c1 a2 c2)) rfl et u27 rfl size_27 (hI.kblk (l := (lTensor t1 a1 c1 a2 c2)) (.s (.s .z)) rfl).1) ?_)))
 refine sm ?_
 refine sq (y_makeFunc (vs := []) (cap := [vp b2 0]) rfl rfl ⟨et, trivial⟩) ?_
 have hI := hI.add (c := clFn_k3 (Value.func (.func 67) #[] #[vp b2 0]) (fun y_1 => m_tensor_Permute_1 y_1 order1)) ⟨rfl, fun D' w' hs hl x_1 A_2 c_3 r k h => CallV.fn (cap := [vp b2 0]) ok_67 (c_tensor_Permute_1 D' w' hl x_1 order1 A_2 c_3 b2 a3 c3 ⟨k.1, (Cl.sp _ hs (hI.get (.s (.s (.s (.s (.s .z))))))), (Cl.sp _ hs (hI.get (.s .z))), trivial⟩ r h)⟩
 obtain ⟨r3, hx5, h⟩ := bnd_some h
 refine s_call gn rfl (r_callF (vs := [(Value.agg (ATensor t1 a1 c1 a2 c2)), vs a6 r2.1.length c12, (Value.func (.func 67) #[] #[vp b2 0])]) rfl ok_66 ⟨et, ⟨et, ⟨et, trivial⟩⟩⟩) (Calls.mono (c_tensor_gather (Dj F c10) w6 hI.lt t1 r2.1 (fun y_1 => m_tensor_Permute_1 y_1 order1) a1 c1 a2 c2 a6 c12 (Value.func (.func 67) #[] #[vp b2 0]) ⟨(hI.get (.s (.s (.s (.s .z))))), (hI.get (.s (.s (.s (.s (.s .z)))))), (hI.get (.s .z)), (hI.get .z), trivial⟩ r3 hx5) ?_)
 rintro _ w8 ⟨a7, c14, a8, c15, rfl, hx6, hl3⟩
 refine ⟨_, rfl, ?_⟩
 replace hI := (hI.ext hx6).adds hl3
 refine l_store (new := (lTensor r3 a7 c14 a8 c15)) (cs' := (ATensor r3 a7 c14 a8 c15)) hI .z gn rfl rfl et et rfl size_27 rfl rfl rfl ?_
 clear hI; intro c16 w9 hI
 refine sac ?_
 refine s_nil ?_
 refine k_next (e := [(4, vp b3 0), (5, vi 0)]) ⟨rfl, rfl, trivial⟩ ?_
 refine c_ret ?_
 obtain rfl := some_inj h
 exact q_ret (vs := [(Value.agg (ATensor r3 a7 c14 a8 c15)), vi 0]) Tryz.results30 ⟨⟨_, ev_tmp rfl rfl, load_agg (l := (lTensor r3 a7 c14 a8 c15)) u27 rfl size_27 (CellsAt.of_blk (hI.blk .z) rfl)⟩, ⟨ev_tmp rfl rfl, trivial⟩⟩ ⟨a7, c14, a8, c15, rfl, hI.ext0, hI.fin ⟨.z, (.s .z), trivial⟩⟩
theorem c_tensor_locate (F : NP) (w0 : World) (hF : ∀ k, F k → k < w0.heap.size) (t1 : GTensor) (p1 : List Int) (a1 : Option Addr) (c1 : Nat) (a2 : Option Addr) (c2 : Nat) (a3 : Option Addr) (c3 : Nat) (hc : AllCl [Cl.sl (cInt .i64) a1 c1 t1.Dims, Cl.sl cGVal a2 c2 t1.Vals, Cl.sl (cInt .i64) a3 c3 p1] F w0) (r : Int × Int)
  (h : m_tensor_locate t1 p1 = some r) :
  Calls Tryz.prog 52 #[(Value.agg (ATensor t1 a1 c1 a2 c2)), vs a3 p1.length c3] w0 fun e w => e = .returned (Value.tuple #[vi r.1, vi r.2]) ∧ Ext w0 w ∧ AllCl [] F w := by
 refine enterK Tryz.func52 rfl Tryz.ntmps52 rfl ?_
 have hI := Bun.start hF hc
 clear hc
 rw [m_tensor_locate] at h
 refine sr (l_box (v := (Value.agg (ATensor t1 a1 c1 a2 c2))) (cs := (ATensor t1 a1 c1 a2 c2)) hI gn rfl rfl et rfl ?_)
 clear hI; intro b1 c4 w1 hI
 obtain ⟨c5, hI⟩ := hI.relBox .z
 refine sac ?_
 refine sac ?_
 refine nk (c_seq (sr (sq (y_loadN (l := (lTensor t1 a1 c1 a2 c2)) rfl et u27 rfl size_27 (hI.kblk (l := (lTensor t1 a1 c1 a2 c2)) .z rfl).1) ?_)))
 obtain ⟨r1, hx1, h⟩ := bnd_some h
 refine s_call gn rfl (r_callF (vs := [(Value.agg (ATensor t1 a1 c1 a2 c2))]) rfl ok_25 ⟨et, trivial⟩) (Calls.mono (c_tensor_Validate (Dj F c5) w1 hI.lt t1 a1 c1 a2 c2 ⟨(hI.get (.s .z)), (hI.get (.s (.s .z))), trivial⟩ r1 hx1) ?_)
 rintro _ w2 ⟨rfl, hx2, hl1⟩
 refine ⟨_, rfl, ?_⟩
 replace hI := (hI.ext hx2)
 refine sa ?_
 refine nk (sr (sm ?_))
 refine sq (y_neq rfl et ev_const) ?_
 refine nk (cif h et (fun hb h => ?_) (fun hb h => ?_))
 ·refine sr (sm ?_)
  refine sac ?_
  refine sa ?_
  refine nk (c_ret ?_)
  obtain rfl := some_inj h
  exact q_ret (vs := [vi 0, vi r1]) Tryz.results52 ⟨ev_tmp rfl rfl, ⟨ev_tmp rfl rfl, trivial⟩⟩ (fq hI trivial)
 refine c_skip (k_same (c_seq (sr (sm ?_))))
 refine sq (y_lenl rfl u24 et) ?_
 refine sq (y_fieldAddr rfl et u27 rfl size_24 rfl) ?_
 refine sq (y_load1 (v := (vs a1 t1.Dims.length c1)) rfl et u24 rfl (hI.kblk (l := [vs a1 t1.Dims.length c1]) .z rfl).1) ?_
 refine sq (y_lenl rfl u24 et) ?_
 refine sq (y_neq rfl et et) ?_
 refine nk (cif h et (fun hb h => ?_) (fun hb h => ?_))
 ·refine sr (sac ?_)
  refine sac ?_
  refine nk (c_ret ?_)
  obtain rfl := some_inj h
  exact q_ret (vs := [vi 0, vi 11]) Tryz.results52 ⟨ev_tmp rfl rfl, ⟨ev_tmp rfl rfl, trivial⟩⟩ (fq hI trivial)
 refine c_skip (k_same (sr (sq (y_fieldAddr rfl et u27 rfl size_24 rfl) ?_)))
 refine sq (y_load1 (v := (vs a1 t1.Dims.length c1)) rfl et u24 rfl (hI.kblk (l := [vs a1 t1.Dims.length c1]) .z rfl).1) ?_
 refine sm ?_
 obtain ⟨r2, hx3, h⟩ := bnd_some h
 refine s_call gn rfl (r_callF (vs := [vs a1 t1.Dims.length c1, vs a3 p1.length c3]) rfl ok_88 ⟨et, ⟨et, trivial⟩⟩) (Calls.mono (c_shape_Offset (Dj F c5) w2 hI.lt t1.Dims p1 a1 c1 a3 c3 ⟨(hI.get (.s .z)), (hI.get (.s (.s (.s .z)))), trivial⟩ r2 hx3) ?_)
 rintro _ w3 ⟨rfl, hx4, hl2⟩
 refine ⟨_, rfl, ?_⟩
 replace hI := (hI.ext hx4)
 refine sm ?_
 refine sq (y_extract rfl et rfl) ?_
 refine sq (y_extract rfl et rfl) ?_
 refine sa ?_
 refine sa ?_
 refine nk (c_seq (sr (sm ?_)))
 refine sq (y_not rfl et) ?_
 refine s_nil ?_
 refine k_next (e := [(7, vi r2.1), (28, vb (!r2.2))]) ⟨rfl, rfl, trivial⟩ ?_
 refine cif h et (fun hb h => ?_) (fun hb h => ?_)
 ·refine sr (sac ?_)
  refine sac ?_
  refine nk (c_ret ?_)
  obtain rfl := some_inj h
  exact q_ret (vs := [vi 0, vi 12]) Tryz.results52 ⟨ev_tmp rfl rfl, ⟨ev_tmp rfl rfl, trivial⟩⟩ (fq hI trivial)
 refine c_skip (k_same (sr (sm ?_)))
 refine sa ?_
 refine sac ?_
 refine nk (c_ret ?_)
 obtain rfl := some_inj h
 exact q_ret (vs := [vi r2.1, vi 0]) Tryz.results52 ⟨ev_tmp rfl rfl, ⟨ev_tmp rfl rfl, trivial⟩⟩ (fq hI trivial)
theorem c_tensor_At (F : NP) (w0 : World) (hF : ∀ k, F k → k < w0.heap.size) (t1 : GTensor) (p1 : List Int) (a1 : Option Addr) (c1 : Nat) (a2 : Option Addr) (c2 : Nat) (a3 : Option Addr) (c3 : Nat) (hc : AllCl [Cl.sl (cInt .i64) a1 c1 t1.Dims, Cl.sl cGVal a2 c2 t1.Vals, Cl.sl (cInt .i64) a3 c3 p1] F w0) (r : GVal × Int)
  (h : m_tensor_At t1 p1 = some r) :
  Calls Tryz.prog 17 #[(Value.agg (ATensor t1 a1 c1 a2 c2)), vs a3 p1.length c3] w0 fun e w => e = .returned (Value.tuple #[(Value.agg (AVal r.1)), vi r.2]) ∧ Ext w0 w ∧ AllCl [] F w := by
 refine enterK Tryz.func17 rfl Tryz.ntmps17 rfl ?_
 have hI := Bun.start hF hc
 clear hc
 rw [m_tensor_At] at h
 refine sr (l_box (v := (Value.agg (ATensor t1 a1 c1 a2 c2))) (cs := (ATensor t1 a1 c1 a2 c2)) hI gn rfl rfl et rfl ?_)
 clear hI; intro b1 c4 w1 hI
 obtain ⟨c5, hI⟩ := hI.relBox .z
 refine l_alloc (cs := #[vi 0, vi 0]) hI gn rfl rfl zero_36 rfl ?_
 clear hI; intro b2 c6 w2 hI
 refine sac ?_
 refine nk (sr (sq (y_loadN (l := (lTensor t1 a1 c1 a2 c2)) rfl et u27 rfl size_27 (hI.kblk (l := (lTensor t1 a1 c1 a2 c2)) .z rfl).1) ?_))
 refine sm ?_
 obtain ⟨r1, hx1, h⟩ := bnd_some h
 refine s_call gn rfl (r_callF (vs := [(Value.agg (ATensor t1 a1 c1 a2 c2)), vs a3 p1.length c3]) rfl ok_52 ⟨et, ⟨et, trivial⟩⟩) (Calls.mono (c_tensor_locate (Dj F c6) w2 hI.lt t1 p1 a1 c1 a2 c2 a3 c3 ⟨(hI.get (.s .z)), (hI.get (.s (.s .z))), (hI.get (.s (.s (.s .z)))), trivial⟩ r1 hx1) ?_)
 rintro _ w3 ⟨rfl, hx2, hl1⟩
 refine ⟨_, rfl, ?_⟩
 replace hI := (hI.ext hx2)
 refine sm ?_
 refine sq (y_extract rfl et rfl) ?_
 refine sq (y_extract rfl et rfl) ?_
 refine sa ?_
 refine sa ?_
 refine nk (c_seq (sr (sm ?_)))
 refine sq (y_neq rfl et ev_const) ?_
 refine nk (cif h et (fun hb h => ?_) (fun hb h => ?_))
 ·refine sr (sq (y_build (vs := []) (cs := #[vi 0, vi 0]) rfl trivial (by kernel_rfl)) ?_)
  refine sm ?_
  refine l_store (new := [vi 0, vi 0]) (cs' := #[vi 0, vi 0]) hI .z gn rfl rfl et et rfl size_36 rfl rfl rfl ?_
  clear hI; intro c7 w4 hI
  refine sa ?_
  refine nk (c_ret ?_)
  obtain rfl := some_inj h
  exact q_ret (vs := [(Value.agg #[vi 0, vi 0]), vi r1.2]) Tryz.results17 ⟨⟨_, ev_tmp rfl rfl, load_agg (l := [vi 0, vi 0]) u36 rfl size_36 (CellsAt.of_blk (hI.blk .z) rfl)⟩, ⟨ev_tmp rfl rfl, trivial⟩⟩ (fq hI trivial)
 refine c_skip (k_same (sr (sq (y_fieldAddr rfl et u27 rfl size_25 rfl) ?_)))
 refine sq (y_load1 (v := (vs a2 t1.Vals.length c2)) rfl et u25 rfl (hI.kblk (l := [vs a2 t1.Vals.length c2]) .z rfl).1) ?_
 refine sm ?_
 obtain ⟨e1, hx3, h⟩ := bnd_some h
 obtain ⟨ad1, cs1, hA1, hr1, hq1⟩ := hI.clat (.s (.s .z)) hx3
 obtain rfl : cs1 = (lVal e1) := hr1
 refine sq (y_indexAddr rfl u25 size_36 et et (lat_bd hx3) hA1) ?_
 refine sq (y_loadN (l := (lVal e1)) rfl et u36 rfl size_36 hq1.1) ?_
 refine l_store (new := (lVal e1)) (cs' := (AVal e1)) hI .z gn rfl rfl et et rfl size_36 rfl rfl rfl ?_
 clear hI; intro c8 w5 hI
 refine sac ?_
 refine nk (c_ret ?_)
 obtain rfl := some_inj h
 exact q_ret (vs := [(Value.agg (AVal e1)), vi 0]) Tryz.results17 ⟨⟨_, ev_tmp rfl rfl, load_agg (l := (lVal e1)) u36 rfl size_36 (CellsAt.of_blk (hI.blk .z) rfl)⟩, ⟨ev_tmp rfl rfl, trivial⟩⟩ (fq hI trivial)
theorem c_fixed_ToFrac (F : NP) (w0 : World) (hF : ∀ k, F k → k < w0.heap.size) (t1 : GType) (v1 : GVal) (hc : AllCl [] F w0) (r : GVal × Int)
  (h : m_fixed_ToFrac t1 v1 = some r) :
  Calls Tryz.prog 140 #[(Value.agg (AType t1)), (Value.agg (AVal v1))] w0 fun e w => e = .returned (Value.tuple #[(Value.agg (AVal r.1)), vi r.2]) ∧ Ext w0 w ∧ AllCl [] F w := by
 refine enterK Tryz.func140 rfl Tryz.ntmps140 rfl ?_
 have hI := Bun.start hF hc
 clear hc
 rw [m_fixed_ToFrac] at h
 refine sr (l_box (v := (Value.agg (AType t1))) (cs := (AType t1)) hI gn rfl rfl et rfl ?_)
 clear hI; intro b1 c1 w1 hI
 obtain ⟨c2, hI⟩ := hI.relBox .z
 refine l_box (v := (Value.agg (AVal v1))) (cs := (AVal v1)) hI gn rfl rfl et rfl ?_
 clear hI; intro b2 c3 w2 hI
 obtain ⟨c4, hI⟩ := hI.relBox .z
 refine l_alloc (cs := #[vi 0, vi 0]) hI gn rfl rfl zero_36 rfl ?_
 clear hI; intro b3 c5 w3 hI
 refine sac ?_
 refine nk (c_seq (sr (sq (y_loadN (l := (lType t1)) rfl et u23 rfl size_23 (hI.kblk (l := (lType t1)) (.s .z) rfl).1) ?_)))
 refine sq (y_loadN (l := (lVal v1)) rfl et u36 rfl size_36 (hI.kblk (l := (lVal v1)) .z rfl).1) ?_
 refine l_lit (c := cGVal) (xs := ([v1] : List GVal)) (vs := [(0, (Value.agg (AVal v1)))]) (cs := (AVal v1)) (css := [(lVal v1)]) hI gn rfl rfl u25 info_36 rfl ⟨rfl, et, trivial⟩ (by kernel_rfl) ⟨rfl, trivial⟩ rfl rfl rfl ?_
 clear hI; intro b4 c6 w4 hI
 obtain ⟨r1, hx1, h⟩ := bnd_some h
 refine s_call gn rfl (r_callF (vs := [(Value.agg (AType t1)), vs (some ⟨b4, 0, none⟩) ([v1] : List GVal).length 1]) rfl ok_153 ⟨et, ⟨et, trivial⟩⟩) (Calls.mono (c_fixed_check noM w4 (fun _ k => k.elim) t1 ([v1] : List GVal) (some ⟨b4, 0, none⟩) 1 ⟨hI.lend .z, trivial⟩ r1 hx1) ?_)
 rintro _ w5 ⟨rfl, hx2, hl1⟩
 refine ⟨_, rfl, ?_⟩
 replace hI := (hI.ext hx2)
 refine sa ?_
 refine nk (sr (sm ?_))
 refine sq (y_neq rfl et ev_const) ?_
 refine nk (cif h et (fun hb h => ?_) (fun hb h => ?_))
 ·refine sr (sq (y_build (vs := []) (cs := #[vi 0, vi 0]) rfl trivial (by kernel_rfl)) ?_)
  refine sm ?_
  refine l_store (new := [vi 0, vi 0]) (cs' := #[vi 0, vi 0]) hI (.s .z) gn rfl rfl et et rfl size_36 rfl rfl rfl ?_
  clear hI; intro c7 w6 hI
  refine sa ?_
  refine nk (c_ret ?_)
  obtain rfl := some_inj h
  exact q_ret (vs := [(Value.agg #[vi 0, vi 0]), vi r1]) Tryz.results140 ⟨⟨_, ev_tmp rfl rfl, load_agg (l := [vi 0, vi 0]) u36 rfl size_36 (CellsAt.of_blk (hI.blk (.s .z)) rfl)⟩, ⟨ev_tmp rfl rfl, trivial⟩⟩ (fq hI trivial)
 refine c_skip (k_same (c_seq (c_drawX [8] false (.c (0, .q) (.c (1, .q) (.c (2, .q) (.c (3, .q) (.c (4, .q) (.c (5, .s) (.c (6, .q) (.c (7, .q) (.c (8, .s) (.c (9, .q) .n)))))))))) hI (by kernel_rfl) (by kernel_rfl) ?_)))
 clear hI; intro w7 hI
 refine a_q rfl gn rfl (fun w' => y_fieldAddr rfl et u36 rfl size_2 rfl) ?_
 refine a_read rfl gn rfl (fun w' hw' => (y_load1 (v := (vi v1.N)) rfl et u2 rfl ((hI.kblk (l := [vi v1.N]) .z rfl).at_ (SX.any rfl hw')))) (by kernel_rfl) ?_
 refine a_q rfl gn rfl (fun w' => y_fieldAddr rfl et u23 rfl size_3 rfl) ?_
 refine a_read rfl gn rfl (fun w' hw' => (y_load1 (v := (vi t1.Frac)) rfl et u3 rfl ((hI.kblk (l := [vi t1.Frac]) (.s .z) rfl).at_ (SX.any rfl hw')))) (by kernel_rfl) ?_
 obtain ⟨ho1, h⟩ := chk_some h
 refine a_q rfl gn rfl (fun w' => y_shl rfl ev_const et ho1) ?_
 obtain ⟨r2, hx3, h⟩ := bnd_some h
 refine la_call rfl gn rfl (r_callF (vs := [vi v1.N, (vi (wi64 (1 * 2 ^ (min (Int.toNat t1.Frac) 64))))]) rfl ok_150 ⟨et, ⟨et, trivial⟩⟩) (Calls.mono (c_frac_New (Dj F c6) w7 hI.lt v1.N (wi64 (1 * 2 ^ (min (Int.toNat t1.Frac) 64))) trivial r2 hx3) ?_)
 rintro _ w8 ⟨rfl, hx4, hl2⟩
 refine ⟨_, rfl, hx4, ?_⟩
 replace hI := (hI.ext hx4)
 refine a_q rfl gn rfl (fun w' => y_extract rfl et rfl) ?_
 refine a_q rfl gn rfl (fun w' => y_extract rfl et rfl) ?_
 refine a_turn (F := F) (C := c6) rfl rfl ?_
 refine la_store (new := (lVal r2.1)) (cs' := (AVal r2.1)) hI (.s .z) rfl gn rfl rfl et et rfl size_36 rfl rfl rfl ?_
 clear hI; intro c8 w9 hI
 refine a_q rfl gn rfl (fun w' => y_assign rfl et) ?_
 refine a_nil ?_
 refine k_same (c_ret ?_)
 obtain rfl := some_inj h
 exact q_ret (vs := [(Value.agg (AVal r2.1)), vi r2.2]) Tryz.results140 ⟨⟨_, ev_tmp rfl rfl, load_agg (l := (lVal r2.1)) u36 rfl size_36 (CellsAt.of_blk (hI.blk (.s .z)) rfl)⟩, ⟨ev_tmp rfl rfl, trivial⟩⟩ (fq hI trivial)
theorem c_value_fraction (F : NP) (w0 : World) (hF : ∀ k, F k → k < w0.heap.size) (t1 : GType) (v1 : GVal) (hc : AllCl [] F w0) (r : GVal)
  (h : m_value_fraction t1 v1 = some r) :
  Calls Tryz.prog 121 #[(Value.agg (AType t1)), (Value.agg (AVal v1))] w0 fun e w => e = .returned (Value.agg (AVal r)) ∧ Ext w0 w ∧ AllCl [] F w := by
 refine enterK Tryz.func121 rfl Tryz.ntmps121 rfl ?_
 have hI := Bun.start hF hc
 clear hc
 rw [m_value_fraction] at h
 refine sr (l_box (v := (Value.agg (AType t1))) (cs := (AType t1)) hI gn rfl rfl et rfl ?_)
 clear hI; intro b1 c1 w1 hI
 obtain ⟨c2, hI⟩ := hI.relBox .z
 refine l_box (v := (Value.agg (AVal v1))) (cs := (AVal v1)) hI gn rfl rfl et rfl ?_
 clear hI; intro b2 c3 w2 hI
 obtain ⟨c4, hI⟩ := hI.relBox .z
 refine l_alloc (cs := #[vi 0, vi 0]) hI gn rfl rfl zero_36 rfl ?_
 clear hI; intro b3 c5 w3 hI
 refine nk (c_seq (sr (sq (y_fieldAddr rfl et u23 rfl size_3 rfl) ?_)))
 refine sq (y_load1 (v := (vi t1.Kind)) rfl et u3 rfl (hI.kblk (l := [vi t1.Kind]) (.s .z) rfl).1) ?_
 refine sq (y_eql rfl et ev_const) ?_
 refine nk (cif h et (fun hb h => ?_) (fun hb h => ?_))
 ·refine sr (sq (y_loadN (l := (lType t1)) rfl et u23 rfl size_23 (hI.kblk (l := (lType t1)) (.s .z) rfl).1) ?_)
  refine sq (y_loadN (l := (lVal v1)) rfl et u36 rfl size_36 (hI.kblk (l := (lVal v1)) .z rfl).1) ?_
  obtain ⟨r1, hx1, h⟩ := bnd_some h
  refine s_call gn rfl (r_callF (vs := [(Value.agg (AType t1)), (Value.agg (AVal v1))]) rfl ok_140 ⟨et, ⟨et, trivial⟩⟩) (Calls.mono (c_fixed_ToFrac (Dj F c5) w3 hI.lt t1 v1 trivial r1 hx1) ?_)
  rintro _ w4 ⟨rfl, hx2, hl1⟩
  refine ⟨_, rfl, ?_⟩
  replace hI := (hI.ext hx2)
  refine sm ?_
  refine sq (y_extract rfl et rfl) ?_
  refine sq (y_extract rfl et rfl) ?_
  refine l_alloc (cs := #[vi 0, vi 0]) hI gn rfl rfl zero_36 rfl ?_
  clear hI; intro b4 c6 w5 hI
  refine l_store (new := (lVal r1.1)) (cs' := (AVal r1.1)) hI .z gn rfl rfl et et rfl size_36 rfl rfl rfl ?_
  clear hI; intro c7 w6 hI
  refine sa ?_
  refine nk (sr (sq (y_loadN (l := (lVal r1.1)) rfl et u36 rfl size_36 (CellsAt.of_blk (hI.blk .z) rfl)) ?_))
  refine l_store (new := (lVal r1.1)) (cs' := (AVal r1.1)) hI (.s .z) gn rfl rfl et et rfl size_36 rfl rfl rfl ?_
  clear hI; intro c8 w7 hI
  refine nk (c_ret ?_)
  obtain rfl := some_inj h
  exact q_ret (vs := [(Value.agg (AVal r1.1))]) Tryz.results121 ⟨⟨_, ev_tmp rfl rfl, load_agg (l := (lVal r1.1)) u36 rfl size_36 (CellsAt.of_blk (hI.blk (.s .z)) rfl)⟩, trivial⟩ (fq hI trivial)
 refine c_skip (k_same (sr (sq (y_loadN (l := (lVal v1)) rfl et u36 rfl size_36 (hI.kblk (l := (lVal v1)) .z rfl).1) ?_)))
 refine l_store (new := (lVal v1)) (cs' := (AVal v1)) hI .z gn rfl rfl et et rfl size_36 rfl rfl rfl ?_
 clear hI; intro c9 w8 hI
 refine nk (c_ret ?_)
 obtain rfl := some_inj h
 exact q_ret (vs := [(Value.agg (AVal v1))]) Tryz.results121 ⟨⟨_, ev_tmp rfl rfl, load_agg (l := (lVal v1)) u36 rfl size_36 (CellsAt.of_blk (hI.blk .z) rfl)⟩, trivial⟩ (fq hI trivial)
theorem c_strconv_FormatInt (F : NP) (w0 : World) (hF : ∀ k, F k → k < w0.heap.size) (i1 : Int) (base1 : Int) (hc : AllCl [clPow10] F w0) (r : List UInt8)
  (h : m_strconv_FormatInt i1 base1 = some r) :
  Calls Tryz.prog 139 #[vi i1, vi base1] w0 fun e w => e = .returned (str r) ∧ Ext w0 w ∧ AllCl [] F w := by
 refine enterK Tryz.func139 rfl Tryz.ntmps139 rfl ?_
 have hI := Bun.start hF hc
 clear hc
 rw [m_strconv_FormatInt] at h
 refine sr (sac ?_)
 refine nk (sr (sm ?_))
 refine sm ?_
 obtain ⟨r1, hx1, h⟩ := bnd_some h
 refine s_call gn rfl (r_callF (vs := [vi i1, vi base1]) rfl ok_152 ⟨et, ⟨et, trivial⟩⟩) (Calls.mono (c_internal_strconv_FormatInt (Dj F noM) w0 hI.lt i1 base1 ⟨(hI.get .z), trivial⟩ r1 hx1) ?_)
 rintro _ w1 ⟨rfl, hx2, hl1⟩
 refine ⟨_, rfl, ?_⟩
 replace hI := (hI.ext hx2)
 refine sa ?_
 refine nk (c_ret ?_)
 obtain rfl := some_inj h
 exact q_ret (vs := [(str r1)]) Tryz.results139 ⟨ev_tmp rfl rfl, trivial⟩ (fq hI trivial)
theorem c_frac_Format (F : NP) (w0 : World) (hF : ∀ k, F k → k < w0.heap.size) (a1 : GVal) (hc : AllCl [clPow10] F w0) (r : List UInt8)
  (h : m_frac_Format a1 = some r) :
  Calls Tryz.prog 120 #[(Value.agg (AVal a1))] w0 fun e w => e = .returned (str r) ∧ Ext w0 w ∧ AllCl [] F w := by
 refine enterK Tryz.func120 rfl Tryz.ntmps120 rfl ?_
 have hI := Bun.start hF hc
 clear hc
 rw [m_frac_Format] at h
 refine sr (l_box (v := (Value.agg (AVal a1))) (cs := (AVal a1)) hI gn rfl rfl et rfl ?_)
 clear hI; intro b1 c1 w1 hI
 obtain ⟨c2, hI⟩ := hI.relBox .z
 refine sac ?_
 refine nk (c_seq (c_block (sr (sq (y_loadN (l := (lVal a1)) rfl et u36 rfl size_36 (hI.kblk (l := (lVal a1)) .z rfl).1) ?_))))
 obtain ⟨r1, hx1, h⟩ := bnd_some h
 refine s_call gn rfl (r_callF (vs := [(Value.agg (AVal a1))]) rfl ok_91 ⟨et, trivial⟩) (Calls.mono (c_frac_Valid (Dj F c2) w1 hI.lt a1 trivial r1 hx1) ?_)
 rintro _ w2 ⟨rfl, hx2, hl1⟩
 refine ⟨_, rfl, ?_⟩
 replace hI := (hI.ext hx2)
 refine sq (y_not rfl et) ?_
 refine sa ?_
 refine nk (cif h et (fun hb h => ?_) (fun hb h => ?_))
 ·refine sr (sac ?_)
  refine nk (c_ret ?_)
  obtain rfl := some_inj h
  exact q_ret (vs := [(str ([] : List UInt8))]) Tryz.results120 ⟨ev_tmp rfl rfl, trivial⟩ (fq hI trivial)
 refine sr (sq (y_fieldAddr rfl et u36 rfl size_2 rfl) ?_)
 refine sq (y_load1 (v := (vi a1.D)) rfl et u2 rfl (hI.kblk (l := [vi a1.D]) .z rfl).1) ?_
 refine sq (y_eql rfl et ev_const) ?_
 refine sa ?_
 refine nk (cif h et (fun hb h => ?_) (fun hb h => ?_))
 ·refine sr (sq (y_fieldAddr rfl et u36 rfl size_2 rfl) ?_)
  refine sq (y_load1 (v := (vi a1.N)) rfl et u2 rfl (hI.kblk (l := [vi a1.N]) .z rfl).1) ?_
  obtain ⟨r2, hx3, h⟩ := bnd_some h
  refine s_call gn rfl (r_callF (vs := [vi a1.N, vi 10]) rfl ok_139 ⟨et, ⟨ev_const, trivial⟩⟩) (Calls.mono (c_strconv_FormatInt (Dj F c2) w2 hI.lt a1.N 10 ⟨(hI.get (.s .z)), trivial⟩ r2 hx3) ?_)
  rintro _ w3 ⟨rfl, hx4, hl2⟩
  refine ⟨_, rfl, ?_⟩
  replace hI := (hI.ext hx4)
  refine sa ?_
  refine nk (c_ret ?_)
  obtain rfl := some_inj h
  exact q_ret (vs := [(str r2)]) Tryz.results120 ⟨ev_tmp rfl rfl, trivial⟩ (fq hI trivial)
 refine c_skip (k_same (c_seq (c_drawX [] false (.c (0, .q) (.c (1, .q) (.c (4, .q) (.c (5, .q) (.c (2, .s) (.c (3, .q) (.c (6, .s) (.c (7, .q) (.c (8, .q) .n))))))))) hI (by kernel_rfl) (by kernel_rfl) ?_)))
 clear hI; intro w4 hI
 refine a_q rfl gn rfl (fun w' => y_fieldAddr rfl et u36 rfl size_2 rfl) ?_
 refine a_read rfl gn rfl (fun w' hw' => (y_load1 (v := (vi a1.N)) rfl et u2 rfl ((hI.kblk (l := [vi a1.N]) .z rfl).at_ (SX.any rfl hw')))) (by kernel_rfl) ?_
 refine a_q rfl gn rfl (fun w' => y_fieldAddr rfl et u36 rfl size_2 rfl) ?_
 refine a_read rfl gn rfl (fun w' hw' => (y_load1 (v := (vi a1.D)) rfl et u2 rfl ((hI.kblk (l := [vi a1.D]) .z rfl).at_ (SX.any rfl hw')))) (by kernel_rfl) ?_
 obtain ⟨r3, hx5, h⟩ := bnd_some h
 refine la_call rfl gn rfl (r_callF (vs := [vi a1.N, vi 10]) rfl ok_139 ⟨et, ⟨ev_const, trivial⟩⟩) (Calls.mono (c_strconv_FormatInt (Dj F c2) w4 hI.lt a1.N 10 ⟨(hI.get (.s .z)), trivial⟩ r3 hx5) ?_)
 rintro _ w5 ⟨rfl, hx6, hl3⟩
 refine ⟨_, rfl, hx6, ?_⟩
 replace hI := (hI.ext hx6)
 obtain ⟨s1, hx7, h⟩ := bnd_some h
 refine a_q rfl gn rfl (fun w' => y_catl rfl et ev_const hx7) ?_
 obtain ⟨r4, hx8, h⟩ := bnd_some h
 refine la_call rfl gn rfl (r_callF (vs := [vi a1.D, vi 10]) rfl ok_139 ⟨et, ⟨ev_const, trivial⟩⟩) (Calls.mono (c_strconv_FormatInt (Dj F c2) w5 hI.lt a1.D 10 ⟨(hI.get (.s .z)), trivial⟩ r4 hx8) ?_)
 rintro _ w6 ⟨rfl, hx9, hl4⟩
 refine ⟨_, rfl, hx9, ?_⟩
 replace hI := (hI.ext hx9)
 obtain ⟨s2, hx10, h⟩ := bnd_some h
 refine a_q rfl gn rfl (fun w' => y_catl rfl et et hx10) ?_
 refine a_q rfl gn rfl (fun w' => y_assign rfl et) ?_
 refine a_nil ?_
 refine k_same (c_ret ?_)
 obtain rfl := some_inj h
 exact q_ret (vs := [(str s2)]) Tryz.results120 ⟨ev_tmp rfl rfl, trivial⟩ (fq hI trivial)
theorem c_value_Format (F : NP) (w0 : World) (hF : ∀ k, F k → k < w0.heap.size) (t1 : GType) (v1 : GVal) (hc : AllCl [clPow10] F w0) (r : List UInt8)
  (h : m_value_Format t1 v1 = some r) :
  Calls Tryz.prog 95 #[(Value.agg (AType t1)), (Value.agg (AVal v1))] w0 fun e w => e = .returned (str r) ∧ Ext w0 w ∧ AllCl [] F w := by
 refine enterK Tryz.func95 rfl Tryz.ntmps95 rfl ?_
 have hI := Bun.start hF hc
 clear hc
 rw [m_value_Format] at h
 refine sr (l_box (v := (Value.agg (AType t1))) (cs := (AType t1)) hI gn rfl rfl et rfl ?_)
 clear hI; intro b1 c1 w1 hI
 obtain ⟨c2, hI⟩ := hI.relBox .z
 refine l_box (v := (Value.agg (AVal v1))) (cs := (AVal v1)) hI gn rfl rfl et rfl ?_
 clear hI; intro b2 c3 w2 hI
 obtain ⟨c4, hI⟩ := hI.relBox .z
 refine sac ?_
 refine nk (c_seq (sr (sq (y_loadN (l := (lType t1)) rfl et u23 rfl size_23 (hI.kblk (l := (lType t1)) (.s .z) rfl).1) ?_)))
 refine sq (y_loadN (l := (lVal v1)) rfl et u36 rfl size_36 (hI.kblk (l := (lVal v1)) .z rfl).1) ?_
 obtain ⟨r1, hx1, h⟩ := bnd_some h
 refine s_call gn rfl (r_callF (vs := [(Value.agg (AType t1)), (Value.agg (AVal v1))]) rfl ok_54 ⟨et, ⟨et, trivial⟩⟩) (Calls.mono (c_value_Valid (Dj F c4) w2 hI.lt t1 v1 trivial r1 hx1) ?_)
 rintro _ w3 ⟨rfl, hx2, hl1⟩
 refine ⟨_, rfl, ?_⟩
 replace hI := (hI.ext hx2)
 refine sq (y_not rfl et) ?_
 refine nk (cif h et (fun hb h => ?_) (fun hb h => ?_))
 ·refine sr (sac ?_)
  refine nk (c_ret ?_)
  obtain rfl := some_inj h
  exact q_ret (vs := [(str ([] : List UInt8))]) Tryz.results95 ⟨ev_tmp rfl rfl, trivial⟩ (fq hI trivial)
 refine c_skip (k_same (sr (sq (y_loadN (l := (lType t1)) rfl et u23 rfl size_23 (hI.kblk (l := (lType t1)) (.s .z) rfl).1) ?_)))
 refine sq (y_loadN (l := (lVal v1)) rfl et u36 rfl size_36 (hI.kblk (l := (lVal v1)) .z rfl).1) ?_
 obtain ⟨r2, hx3, h⟩ := bnd_some h
 refine s_call gn rfl (r_callF (vs := [(Value.agg (AType t1)), (Value.agg (AVal v1))]) rfl ok_121 ⟨et, ⟨et, trivial⟩⟩) (Calls.mono (c_value_fraction (Dj F c4) w3 hI.lt t1 v1 trivial r2 hx3) ?_)
 rintro _ w4 ⟨rfl, hx4, hl2⟩
 refine ⟨_, rfl, ?_⟩
 replace hI := (hI.ext hx4)
 obtain ⟨r3, hx5, h⟩ := bnd_some h
 refine s_call gn rfl (r_callF (vs := [(Value.agg (AVal r2))]) rfl ok_120 ⟨et, trivial⟩) (Calls.mono (c_frac_Format (Dj F c4) w4 hI.lt r2 ⟨(hI.get (.s (.s .z))), trivial⟩ r3 hx5) ?_)
 rintro _ w5 ⟨rfl, hx6, hl3⟩
 refine ⟨_, rfl, ?_⟩
 replace hI := (hI.ext hx6)
 refine sa ?_
 refine nk (c_ret ?_)
 obtain rfl := some_inj h
 exact q_ret (vs := [(str r3)]) Tryz.results95 ⟨ev_tmp rfl rfl, trivial⟩ (fq hI trivial)
theorem c_tensor_format_b (rec_ : (GType → (List Int) → (List GVal) → Option (List UInt8))) (hrec : ∀ (F : NP) (w0 : World) (hF : ∀ k, F k → k < w0.heap.size) (t1 : GType) (dims1 : List Int) (vals1 : List GVal) (a1 : Option Addr) (c1 : Nat) (a2 : Option Addr) (c2 : Nat) (hc : AllCl [Cl.sl (cInt .i64) a1 c1 dims1, Cl.sl cGVal a2 c2 vals1, clPow10] F w0) (r : List UInt8) (h : rec_ t1 dims1 vals1 = some r), Calls Tryz.prog 62 #[(Value.agg (AType t1)), vs a1 dims1.length c1, vs a2 vals1.length c2] w0 fun e w => e = .returned (str r) ∧ Ext w0 w ∧ AllCl [] F w)
  (F : NP) (w0 : World) (hF : ∀ k, F k → k < w0.heap.size) (t1 : GType) (dims1 : List Int) (vals1 : List GVal) (a1 : Option Addr) (c1 : Nat) (a2 : Option Addr) (c2 : Nat) (hc : AllCl [Cl.sl (cInt .i64) a1 c1 dims1, Cl.sl cGVal a2 c2 vals1, clPow10] F w0) (r : List UInt8) (h : m_tensor_format_b rec_ t1 dims1 vals1 = some r) : Calls Tryz.prog 62 #[(Value.agg (AType t1)), vs a1 dims1.length c1, vs a2 vals1.length c2] w0 fun e w => e = .returned (str r) ∧ Ext w0 w ∧ AllCl [] F w := by
 refine enterK Tryz.func62 rfl Tryz.ntmps62 rfl ?_
 have hI := Bun.start hF hc
 clear hc
 rw [m_tensor_format_b] at h
 refine sr (l_box (v := (Value.agg (AType t1))) (cs := (AType t1)) hI gn rfl rfl et rfl ?_)
 clear hI; intro b1 c3 w1 hI
 obtain ⟨c4, hI⟩ := hI.relBox .z
 refine sac ?_
 refine nk (c_seq (sr (sm ?_)))
 refine sq (y_lenl rfl u24 et) ?_
 refine sq (y_eql rfl et ev_const) ?_
 refine nk (cif h et (fun hb h => ?_) (fun hb h => ?_))
 ·refine c_seq (c_drawX [] false (.c (0, .q) (.c (1, .q) (.c (2, .q) (.c (3, .q) (.c (4, .s) (.c (5, .q) .n)))))) hI (by kernel_rfl) (by kernel_rfl) ?_)
  clear hI; intro w2 hI
  refine a_read rfl gn rfl (fun w' hw' => (y_loadN (l := (lType t1)) rfl et u23 rfl size_23 ((hI.kblk (l := (lType t1)) .z rfl).at_ (SX.any rfl hw')))) (by kernel_rfl) ?_
  refine a_q rfl gn rfl (fun w' => y_move rfl et) ?_
  obtain ⟨e1, hx1, h⟩ := bnd_some h
  obtain ⟨ad1, cs1, hA1, hr1, hq1⟩ := hI.clat (.s (.s .z)) hx1
  obtain rfl : cs1 = (lVal e1) := hr1
  refine a_q rfl gn rfl (fun w' => y_indexAddr rfl u25 size_36 et ev_const (lat_bd hx1) hA1) ?_
  refine a_read rfl gn rfl (fun w' hw' => (y_loadN (l := (lVal e1)) rfl et u36 rfl size_36 (hq1.at_ (SX.any rfl hw')))) (by kernel_rfl) ?_
  obtain ⟨r1, hx2, h⟩ := bnd_some h
  refine la_call rfl gn rfl (r_callF (vs := [(Value.agg (AType t1)), (Value.agg (AVal e1))]) rfl ok_95 ⟨et, ⟨et, trivial⟩⟩) (Calls.mono (c_value_Format (Dj F c4) w2 hI.lt t1 e1 ⟨(hI.get (.s (.s (.s .z)))), trivial⟩ r1 hx2) ?_)
  rintro _ w3 ⟨rfl, hx3, hl1⟩
  refine ⟨_, rfl, hx3, ?_⟩
  replace hI := (hI.ext hx3)
  refine a_q rfl gn rfl (fun w' => y_assign rfl et) ?_
  refine a_nil ?_
  refine k_same (c_ret ?_)
  obtain rfl := some_inj h
  exact q_ret (vs := [(str r1)]) Tryz.results62 ⟨ev_tmp rfl rfl, trivial⟩ (fq hI trivial)
 refine c_skip (k_same (sr (sm ?_)))
 refine sq (y_lenl rfl u25 et) ?_
 refine sm ?_
 obtain ⟨e2, hx4, h⟩ := bnd_some h
 obtain ⟨ad2, cs2, hA2, hr2, hq2⟩ := hI.clat (.s .z) hx4
 obtain rfl : cs2 = [vi e2] := hr2
 refine sq (y_indexAddr rfl u24 size_3 et ev_const (lat_bd hx4) hA2) ?_
 refine sq (y_load1 (v := (vi e2)) rfl et u3 rfl hq2.1) ?_
 obtain ⟨ho1, h⟩ := chk_some h
 refine sq (y_quo rfl et et ho1) ?_
 obtain ⟨part1, hx5, h⟩ := bnd_some h
 refine sq (binU (y_assign rfl et) (congrArg (Value.int .i64) (some_inj hx5))) ?_
 refine nk (sr (sac ?_))
 refine nk (c_seq (sr (sm ?_)))
 obtain ⟨e3, hx6, h⟩ := bnd_some h
 obtain ⟨ad3, cs3, hA3, hr3, hq3⟩ := hI.clat (.s .z) hx6
 obtain rfl : cs3 = [vi e3] := hr3
 refine sq (y_indexAddr rfl u24 size_3 et ev_const (lat_bd hx6) hA3) ?_
 refine sq (y_load1 (v := (vi e3)) rfl et u3 rfl hq3.1) ?_
 refine sq (y_move rfl ev_const) ?_
 refine nk (c_block (c_loop (α := Nat × (List UInt8) × Int) (fun x => fun w => ∃ C, Bun noM F w0 C w [] [Cl.sl (cInt .i64) a1 c1 dims1, Cl.sl cGVal a2 c2 vals1, Cl.blk b1 23 (AType t1), clPow10] ∧ m_tensor_format_l1 e3 dims1 vals1 part1 rec_ t1 (x.1) (x.2.1) (x.2.2) = some r) (fun x _ => x.1) (fun x => [(1, vs a1 dims1.length c1), (2, vs a2 vals1.length c2), (3, vp b1 0), (7, vi part1), (8, (str (x.2.1))), (26, vi e3), (27, vi (x.2.2))]) (fu, ([91] : List UInt8), 0) ⟨_, hI.arr .n ⟨(.s .z), (.s (.s .z)), .z, (.s (.s (.s .z))), trivial⟩, h⟩ ⟨rfl, rfl, rfl, rfl, rfl, rfl, rfl, trivial⟩ ?_))
 clear h hI; rintro ⟨fuel1, s1, i1⟩ w4 ⟨c5, hI, h⟩
 dsimp only at hI h
 rcases fuel1 with _ | fuel1
 ·rw [m_tensor_format_l1] at h; cases h
 rw [m_tensor_format_l1] at h
 refine c_sub (e := [(1, vs a1 dims1.length c1), (2, vs a2 vals1.length c2), (3, vp b1 0), (7, vi part1), (8, (str s1)), (26, vi e3), (27, vi i1)]) ⟨rfl, rfl, rfl, rfl, rfl, rfl, rfl, trivial⟩ ?_
 refine sr (sq (y_lss rfl et et) ?_)
 refine nk (c_seq (cif h et (fun hb h => ?_) (fun hb h => ?_)))
 ·refine c_skip (k_same (c_seq (c_block (sr (sm ?_)))))
  refine sa ?_
  refine nk (c_join (α := (List UInt8)) (fun _ => ⟨52, []⟩) (fun x => [(1, vs a1 dims1.length c1), (2, vs a2 vals1.length c2), (3, vp b1 0), (7, vi part1), (8, (str x)), (26, vi e3), (27, vi i1), (9, vi i1)]) (fun x => fun w => ∃ C, Bun noM F w0 C w [] [Cl.sl (cInt .i64) a1 c1 dims1, Cl.sl cGVal a2 c2 vals1, Cl.blk b1 23 (AType t1), clPow10] ∧ m_tensor_format_j1 dims1 vals1 i1 part1 rec_ t1 (m_tensor_format_l1 e3 dims1 vals1 part1 rec_ t1 fuel1) x = some r) ?_ ?_)
  ·clear h hI; rintro s2 w5 ⟨c6, hI, h⟩
   try dsimp only at hI h
   rw [m_tensor_format_j1] at h
   refine c_sub (e := [(1, vs a1 dims1.length c1), (2, vs a2 vals1.length c2), (3, vp b1 0), (7, vi part1), (8, (str s2)), (26, vi e3), (27, vi i1), (9, vi i1)]) ⟨rfl, rfl, rfl, rfl, rfl, rfl, rfl, rfl, trivial⟩ ?_
   refine c_drawX [] false (.c (0, .q) (.c (1, .q) (.c (2, .q) (.c (3, .q) (.c (4, .q) (.c (5, .q) (.c (6, .q) (.c (7, .q) (.c (8, .q) (.c (9, .q) (.c (10, .q) (.c (11, .q) (.c (12, .q) (.c (13, .s) (.c (14, .q) (.c (15, .q) .n)))))))))))))))) hI (by kernel_rfl) (by kernel_rfl) ?_
   clear hI; intro w6 hI
   refine a_q rfl gn rfl (fun w' => y_move rfl et) ?_
   refine a_read rfl gn rfl (fun w' hw' => (y_loadN (l := (lType t1)) rfl et u23 rfl size_23 ((hI.kblk (l := (lType t1)) (.s (.s .z)) rfl).at_ (SX.any rfl hw')))) (by kernel_rfl) ?_
   refine a_q rfl gn rfl (fun w' => y_move rfl et) ?_
   obtain ⟨zs1, hx7, h⟩ := bnd_some h
   obtain ⟨a3, hB1⟩ : ∃ B : Option Addr, B = (if c1 = Int.toNat 1 then a1 else Option.map (·.add (Int.toNat 1 * 1)) a1) := ⟨_, rfl⟩
   refine a_q rfl gn rfl (fun w' => y_lfrom rfl u24 size_3 et ev_const hx7 hB1) ?_
   replace hI := hI.from_ .z hx7 hB1
   refine a_q rfl gn rfl (fun w' => y_move rfl et) ?_
   refine a_q rfl gn rfl (fun w' => y_move rfl et) ?_
   refine a_q rfl gn rfl (fun w' => y_move rfl et) ?_
   refine a_q rfl gn rfl (fun w' => y_mul rfl et et) ?_
   refine a_q rfl gn rfl (fun w' => y_move rfl et) ?_
   refine a_q rfl gn rfl (fun w' => y_add rfl et ev_const) ?_
   refine a_q rfl gn rfl (fun w' => y_move rfl et) ?_
   refine a_q rfl gn rfl (fun w' => y_mul rfl et et) ?_
   obtain ⟨zs2, hx8, h⟩ := bnd_some h
   obtain ⟨a4, hB2⟩ : ∃ B : Option Addr, B = (if c2 = Int.toNat (wi64 (i1 * part1)) then a2 else Option.map (·.add (Int.toNat (wi64 (i1 * part1)) * 2)) a2) := ⟨_, rfl⟩
   refine a_q rfl gn rfl (fun w' => (y_lsub rfl u25 size_36 et et et hx8 (hI.cap_ (.s (.s .z))) hB2)) ?_
   replace hI := hI.sub (.s (.s .z)) hx8 hB2
   obtain ⟨r2, hx9, h⟩ := bnd_some h
   refine la_call rfl gn rfl (r_callF (vs := [(Value.agg (AType t1)), vs a3 zs1.length (c1 - Int.toNat 1), (vs a4 zs2.length (c2 - Int.toNat (wi64 (i1 * part1))))]) rfl ok_62 ⟨et, ⟨et, ⟨et, trivial⟩⟩⟩) (Calls.mono (hrec (Dj F c6) w6 hI.lt t1 zs1 zs2 a3 (c1 - Int.toNat 1) a4 (c2 - Int.toNat (wi64 (i1 * part1))) ⟨(hI.get (.s .z)), (hI.get .z), (hI.get (.s (.s (.s (.s (.s .z)))))), trivial⟩ r2 hx9) ?_)
   rintro _ w7 ⟨rfl, hx10, hl2⟩
   refine ⟨_, rfl, hx10, ?_⟩
   replace hI := (hI.ext hx10)
   obtain ⟨s3, hx11, h⟩ := bnd_some h
   refine a_q rfl gn rfl (fun w' => y_catl rfl et et hx11) ?_
   refine a_q rfl gn rfl (fun w' => y_assign rfl et) ?_
   refine a_nil ?_
   refine k_same (c_region rfl ?_)
   refine sq (y_add rfl et ev_const) ?_
   refine sm ?_
   refine s_nil ?_
   exact k_loop (fuel1, s3, wi64 (i1 + 1)) ⟨rfl, rfl, rfl, rfl, rfl, rfl, rfl, trivial⟩ ⟨_, hI.arr .n ⟨(.s (.s .z)), (.s (.s (.s .z))), (.s (.s (.s (.s .z)))), (.s (.s (.s (.s (.s .z))))), trivial⟩, h⟩ (Nat.lt_succ_self _)
  refine sr (sm ?_)
  refine sq (y_gtr rfl et ev_const) ?_
  refine nk (cif h et (fun hb h => ?_) (fun hb h => ?_))
  ·refine c_region rfl ?_
   refine sm ?_
   obtain ⟨s4, hx12, h⟩ := bnd_some h
   refine sq (y_catl rfl et ev_const hx12) ?_
   refine sa ?_
   refine s_nil ?_
   exact k_join s4 ⟨rfl, rfl, rfl, rfl, rfl, rfl, rfl, rfl, trivial⟩ ⟨_, hI.arr .n ⟨.z, (.s .z), (.s (.s .z)), (.s (.s (.s .z))), trivial⟩, h⟩ rfl
  exact c_skip (k_join s1 ⟨rfl, rfl, rfl, rfl, rfl, rfl, rfl, rfl, trivial⟩ ⟨_, hI.arr .n ⟨.z, (.s .z), (.s (.s .z)), (.s (.s (.s .z))), trivial⟩, h⟩ rfl)
 refine c_exit ?_
 refine k_in ?_
 refine k_same (sr (sm ?_))
 obtain ⟨s5, hx13, h⟩ := bnd_some h
 refine sq (y_catl rfl et ev_const hx13) ?_
 refine sa ?_
 refine nk (c_ret ?_)
 obtain rfl := some_inj h
 exact q_ret (vs := [(str s5)]) Tryz.results62 ⟨ev_tmp rfl rfl, trivial⟩ (fq hI trivial)
theorem c_tensor_format_r (n : Nat) : ∀ (F : NP) (w0 : World) (hF : ∀ k, F k → k < w0.heap.size) (t1 : GType) (dims1 : List Int) (vals1 : List GVal) (a1 : Option Addr) (c1 : Nat) (a2 : Option Addr) (c2 : Nat) (hc : AllCl [Cl.sl (cInt .i64) a1 c1 dims1, Cl.sl cGVal a2 c2 vals1, clPow10] F w0) (r : List UInt8) (h : m_tensor_format_r n t1 dims1 vals1 = some r), Calls Tryz.prog 62 #[(Value.agg (AType t1)), vs a1 dims1.length c1, vs a2 vals1.length c2] w0 fun e w => e = .returned (str r) ∧ Ext w0 w ∧ AllCl [] F w := by
 induction n with
 | zero => intro F w0 hF t1 dims1 vals1 a1 c1 a2 c2 hc r h; cases h
 | succ n ih => intro F w0 hF t1 dims1 vals1 a1 c1 a2 c2 hc r h; exact c_tensor_format_b (m_tensor_format_r n) ih F w0 hF t1 dims1 vals1 a1 c1 a2 c2 hc r h
theorem c_tensor_format (F : NP) (w0 : World) (hF : ∀ k, F k → k < w0.heap.size) (t1 : GType) (dims1 : List Int) (vals1 : List GVal) (a1 : Option Addr) (c1 : Nat) (a2 : Option Addr) (c2 : Nat) (hc : AllCl [Cl.sl (cInt .i64) a1 c1 dims1, Cl.sl cGVal a2 c2 vals1, clPow10] F w0) (r : List UInt8) (h : m_tensor_format t1 dims1 vals1 = some r) : Calls Tryz.prog 62 #[(Value.agg (AType t1)), vs a1 dims1.length c1, vs a2 vals1.length c2] w0 fun e w => e = .returned (str r) ∧ Ext w0 w ∧ AllCl [] F w := c_tensor_format_r fu F w0 hF t1 dims1 vals1 a1 c1 a2 c2 hc r h
theorem c_tensor_Format (F : NP) (w0 : World) (hF : ∀ k, F k → k < w0.heap.size) (t1 : GTensor) (a1 : Option Addr) (c1 : Nat) (a2 : Option Addr) (c2 : Nat) (hc : AllCl [Cl.sl (cInt .i64) a1 c1 t1.Dims, Cl.sl cGVal a2 c2 t1.Vals, clPow10] F w0) (r : List UInt8)
  (h : m_tensor_Format t1 = some r) :
  Calls Tryz.prog 27 #[(Value.agg (ATensor t1 a1 c1 a2 c2))] w0 fun e w => e = .returned (str r) ∧ Ext w0 w ∧ AllCl [] F w := by
 refine enterK Tryz.func27 rfl Tryz.ntmps27 rfl ?_
 have hI := Bun.start hF hc
 clear hc
 rw [m_tensor_Format] at h
 refine sr (l_box (v := (Value.agg (ATensor t1 a1 c1 a2 c2))) (cs := (ATensor t1 a1 c1 a2 c2)) hI gn rfl rfl et rfl ?_)
 clear hI; intro b1 c3 w1 hI
 obtain ⟨c4, hI⟩ := hI.relBox .z
 refine sac ?_
 refine nk (c_seq (sr (sq (y_loadN (l := (lTensor t1 a1 c1 a2 c2)) rfl et u27 rfl size_27 (hI.kblk (l := (lTensor t1 a1 c1 a2 c2)) .z rfl).1) ?_)))
 obtain ⟨r1, hx1, h⟩ := bnd_some h
 refine s_call gn rfl (r_callF (vs := [(Value.agg (ATensor t1 a1 c1 a2 c2))]) rfl ok_25 ⟨et, trivial⟩) (Calls.mono (c_tensor_Validate (Dj F c4) w1 hI.lt t1 a1 c1 a2 c2 ⟨(hI.get (.s .z)), (hI.get (.s (.s .z))), trivial⟩ r1 hx1) ?_)
 rintro _ w2 ⟨rfl, hx2, hl1⟩
 refine ⟨_, rfl, ?_⟩
 replace hI := (hI.ext hx2)
 refine sq (y_neq rfl et ev_const) ?_
 refine nk (cif h et (fun hb h => ?_) (fun hb h => ?_))
 ·refine sr (sac ?_)
  refine nk (c_ret ?_)
  obtain rfl := some_inj h
  exact q_ret (vs := [(str ([] : List UInt8))]) Tryz.results27 ⟨ev_tmp rfl rfl, trivial⟩ (fq hI trivial)
 refine c_skip (k_same (sr (sq (y_fieldAddr rfl et u27 rfl size_23 rfl) ?_)))
 refine sq (y_loadN (l := (lType t1.Type_)) rfl et u23 rfl size_23 (hI.kblk (l := (lType t1.Type_)) .z rfl).1) ?_
 refine sq (y_fieldAddr rfl et u27 rfl size_24 rfl) ?_
 refine sq (y_load1 (v := (vs a1 t1.Dims.length c1)) rfl et u24 rfl (hI.kblk (l := [vs a1 t1.Dims.length c1]) .z rfl).1) ?_
 refine sq (y_fieldAddr rfl et u27 rfl size_25 rfl) ?_
 refine sq (y_load1 (v := (vs a2 t1.Vals.length c2)) rfl et u25 rfl (hI.kblk (l := [vs a2 t1.Vals.length c2]) .z rfl).1) ?_
 obtain ⟨r2, hx3, h⟩ := bnd_some h
 refine s_call gn rfl (r_callF (vs := [(Value.agg (AType t1.Type_)), vs a1 t1.Dims.length c1, vs a2 t1.Vals.length c2]) rfl ok_62 ⟨et, ⟨et, ⟨et, trivial⟩⟩⟩) (Calls.mono (c_tensor_format (Dj F c4) w2 hI.lt t1.Type_ t1.Dims t1.Vals a1 c1 a2 c2 ⟨(hI.get (.s .z)), (hI.get (.s (.s .z))), (hI.get (.s (.s (.s .z)))), trivial⟩ r2 hx3) ?_)
 rintro _ w3 ⟨rfl, hx4, hl2⟩
 refine ⟨_, rfl, ?_⟩
 replace hI := (hI.ext hx4)
 refine sa ?_
 refine nk (c_ret ?_)
 obtain rfl := some_inj h
 exact q_ret (vs := [(str r2)]) Tryz.results27 ⟨ev_tmp rfl rfl, trivial⟩ (fq hI trivial)
theorem c_law12_examples (F : NP) (w0 : World) (hF : ∀ k, F k → k < w0.heap.size) (hc : AllCl [clPow10] F w0) (r : Bool)
  (h : m_law12_examples = some r) :
  Calls Tryz.prog 13 #[] w0 fun e w => e = .returned (vb r) ∧ Ext w0 w ∧ AllCl [] F w := by
 refine enterK Tryz.func13 rfl Tryz.ntmps13 rfl ?_
 have hI := Bun.start hF hc
 clear hc
 rw [m_law12_examples] at h
 refine sr (sac ?_)
 refine nk (sr (sq (y_build (vs := [(0, vi 3)]) (cs := #[vi 3, vi 0, vi 0, vi 0, vi 0]) rfl ⟨rfl, ev_const, trivial⟩ (by kernel_rfl)) ?_))
 refine l_lit (c := (cInt .i64)) (xs := ([2, 2] : List Int)) (vs := [(0, vi 2), (1, vi 2)]) (cs := #[vi 2, vi 2]) (css := [[vi 2], [vi 2]]) hI gn rfl rfl u24 info_3 rfl ⟨rfl, ev_const, ⟨rfl, ev_const, trivial⟩⟩ (by kernel_rfl) ⟨rfl, ⟨rfl, trivial⟩⟩ rfl rfl rfl ?_
 clear hI; intro b1 c1 w1 hI
 refine sq (y_build (vs := [(0, vi 1), (1, vi 1)]) (cs := #[vi 1, vi 1]) rfl ⟨rfl, ev_const, ⟨rfl, ev_const, trivial⟩⟩ (by kernel_rfl)) ?_
 refine sq (y_build (vs := [(0, vi 2), (1, vi 1)]) (cs := #[vi 2, vi 1]) rfl ⟨rfl, ev_const, ⟨rfl, ev_const, trivial⟩⟩ (by kernel_rfl)) ?_
 refine sq (y_build (vs := [(0, vi 3), (1, vi 1)]) (cs := #[vi 3, vi 1]) rfl ⟨rfl, ev_const, ⟨rfl, ev_const, trivial⟩⟩ (by kernel_rfl)) ?_
 refine sq (y_build (vs := [(0, vi 4), (1, vi 1)]) (cs := #[vi 4, vi 1]) rfl ⟨rfl, ev_const, ⟨rfl, ev_const, trivial⟩⟩ (by kernel_rfl)) ?_
 refine l_lit (c := cGVal) (xs := ([(⟨1, 1⟩ : GVal), (⟨2, 1⟩ : GVal), (⟨3, 1⟩ : GVal), (⟨4, 1⟩ : GVal)] : List GVal)) (vs := [(0, (Value.agg #[vi 1, vi 1])), (1, (Value.agg #[vi 2, vi 1])), (2, (Value.agg #[vi 3, vi 1])), (3, (Value.agg #[vi 4, vi 1]))]) (cs := #[vi 1, vi 1, vi 2, vi 1, vi 3, vi 1, vi 4, vi 1]) (css := [[vi 1, vi 1], [vi 2, vi 1], [vi 3, vi 1], [vi 4, vi 1]]) hI gn rfl rfl u25 info_36 rfl ⟨rfl, et, ⟨rfl, et, ⟨rfl, et, ⟨rfl, et, trivial⟩⟩⟩⟩ (by kernel_rfl) ⟨rfl, ⟨rfl, ⟨rfl, ⟨rfl, trivial⟩⟩⟩⟩ rfl rfl rfl ?_
 clear hI; intro b2 c2 w2 hI
 obtain ⟨c3, hI⟩ := hI.release (.s .z)
 obtain ⟨c4, hI⟩ := hI.release .z
 obtain ⟨r1, hx1, h⟩ := bnd_some h
 refine s_call gn rfl (r_callF (vs := [(Value.agg #[vi 3, vi 0, vi 0, vi 0, vi 0]), vs (some ⟨b1, 0, none⟩) ([2, 2] : List Int).length 2, (vs (some ⟨b2, 0, none⟩) ([(⟨1, 1⟩ : GVal), (⟨2, 1⟩ : GVal), (⟨3, 1⟩ : GVal), (⟨4, 1⟩ : GVal)] : List GVal).length 4)]) rfl ok_21 ⟨et, ⟨et, ⟨et, trivial⟩⟩⟩) (Calls.mono (c_tensor_New (Dj F c4) w2 hI.lt (⟨3, 0, 0, 0, 0⟩ : GType) ([2, 2] : List Int) ([(⟨1, 1⟩ : GVal), (⟨2, 1⟩ : GVal), (⟨3, 1⟩ : GVal), (⟨4, 1⟩ : GVal)] : List GVal) (some ⟨b1, 0, none⟩) 2 (some ⟨b2, 0, none⟩) 4 ⟨(hI.get (.s .z)), (hI.get .z), trivial⟩ r1 hx1) ?_)
 rintro _ w3 ⟨a1, c5, a2, c6, rfl, hx2, hl1⟩
 refine ⟨_, rfl, ?_⟩
 replace hI := (hI.ext hx2).adds hl1
 refine sm ?_
 refine sq (y_extract rfl et rfl) ?_
 refine sq (y_extract rfl et rfl) ?_
 refine l_alloc (cs := ZTensor) hI gn rfl rfl zero_27 rfl ?_
 clear hI; intro b3 c7 w4 hI
 refine l_store (new := (lTensor r1.1 a1 c5 a2 c6)) (cs' := (ATensor r1.1 a1 c5 a2 c6)) hI .z gn rfl rfl et et rfl size_27 rfl rfl rfl ?_
 clear hI; intro c8 w5 hI
 refine sa ?_
 refine nk (sr (sq (y_loadN (l := (lTensor r1.1 a1 c5 a2 c6)) rfl et u27 rfl size_27 (CellsAt.of_blk (hI.blk .z) rfl)) ?_))
 obtain ⟨r2, hx3, h⟩ := bnd_some h
 refine s_call gn rfl (r_callF (vs := [(Value.agg (ATensor r1.1 a1 c5 a2 c6)), vi 0, vi 1]) rfl ok_14 ⟨et, ⟨ev_const, ⟨ev_const, trivial⟩⟩⟩) (Calls.mono (c_tensor_Reduce (Dj F c8) w5 hI.lt r1.1 0 1 a1 c5 a2 c6 ⟨(hI.get .z), (hI.get (.s .z)), trivial⟩ r2 hx3) ?_)
 rintro _ w6 ⟨a3, c9, a4, c10, rfl, hx4, hl2⟩
 refine ⟨_, rfl, ?_⟩
 replace hI := (hI.ext hx4).adds hl2
 refine sm ?_
 refine sq (y_extract rfl et rfl) ?_
 refine sq (y_extract rfl et rfl) ?_
 refine l_alloc (cs := ZTensor) hI gn rfl rfl zero_27 rfl ?_
 clear hI; intro b4 c11 w7 hI
 refine l_store (new := (lTensor r2.1 a3 c9 a4 c10)) (cs' := (ATensor r2.1 a3 c9 a4 c10)) hI .z gn rfl rfl et et rfl size_27 rfl rfl rfl ?_
 clear hI; intro c12 w8 hI
 refine sa ?_
 refine nk (sr (sq (y_loadN (l := (lTensor r1.1 a1 c5 a2 c6)) rfl et u27 rfl size_27 (CellsAt.of_blk (hI.blk (.s .z)) rfl)) ?_))
 obtain ⟨r3, hx5, h⟩ := bnd_some h
 refine s_call gn rfl (r_callF (vs := [(Value.agg (ATensor r1.1 a1 c5 a2 c6)), vi 1, vi 5]) rfl ok_14 ⟨et, ⟨ev_const, ⟨ev_const, trivial⟩⟩⟩) (Calls.mono (c_tensor_Reduce (Dj F c12) w8 hI.lt r1.1 1 5 a1 c5 a2 c6 ⟨(hI.get (.s (.s .z))), (hI.get (.s (.s (.s .z)))), trivial⟩ r3 hx5) ?_)
 rintro _ w9 ⟨a5, c13, a6, c14, rfl, hx6, hl3⟩
 refine ⟨_, rfl, ?_⟩
 replace hI := (hI.ext hx6).adds hl3
 refine sm ?_
 refine sq (y_extract rfl et rfl) ?_
 refine sq (y_extract rfl et rfl) ?_
 refine l_alloc (cs := ZTensor) hI gn rfl rfl zero_27 rfl ?_
 clear hI; intro b5 c15 w10 hI
 refine l_store (new := (lTensor r3.1 a5 c13 a6 c14)) (cs' := (ATensor r3.1 a5 c13 a6 c14)) hI .z gn rfl rfl et et rfl size_27 rfl rfl rfl ?_
 clear hI; intro c16 w11 hI
 refine sa ?_
 refine nk (sr (sq (y_loadN (l := (lTensor r1.1 a1 c5 a2 c6)) rfl et u27 rfl size_27 (CellsAt.of_blk (hI.blk (.s (.s .z))) rfl)) ?_))
 refine l_lit (c := (cInt .i64)) (xs := ([1, 0] : List Int)) (vs := [(0, vi 1), (1, vi 0)]) (cs := #[vi 1, vi 0]) (css := [[vi 1], [vi 0]]) hI gn rfl rfl u24 info_3 rfl ⟨rfl, ev_const, ⟨rfl, ev_const, trivial⟩⟩ (by kernel_rfl) ⟨rfl, ⟨rfl, trivial⟩⟩ rfl rfl rfl ?_
 clear hI; intro b6 c17 w12 hI
 obtain ⟨c18, hI⟩ := hI.release .z
 obtain ⟨r4, hx7, h⟩ := bnd_some h
 refine s_call gn rfl (r_callF (vs := [(Value.agg (ATensor r1.1 a1 c5 a2 c6)), vs (some ⟨b6, 0, none⟩) ([1, 0] : List Int).length 2]) rfl ok_30 ⟨et, ⟨et, trivial⟩⟩) (Calls.mono (c_tensor_Permute (Dj F c18) w12 hI.lt r1.1 ([1, 0] : List Int) a1 c5 a2 c6 (some ⟨b6, 0, none⟩) 2 ⟨(hI.get (.s (.s (.s (.s (.s .z)))))), (hI.get (.s (.s (.s (.s (.s (.s .z))))))), (hI.get .z), trivial⟩ r4 hx7) ?_)
 rintro _ w13 ⟨a7, c19, a8, c20, rfl, hx8, hl4⟩
 refine ⟨_, rfl, ?_⟩
 replace hI := (hI.ext hx8).adds hl4
 refine sm ?_
 refine sq (y_extract rfl et rfl) ?_
 refine sq (y_extract rfl et rfl) ?_
 refine l_alloc (cs := ZTensor) hI gn rfl rfl zero_27 rfl ?_
 clear hI; intro b7 c21 w14 hI
 refine l_store (new := (lTensor r4.1 a7 c19 a8 c20)) (cs' := (ATensor r4.1 a7 c19 a8 c20)) hI .z gn rfl rfl et et rfl size_27 rfl rfl rfl ?_
 clear hI; intro c22 w15 hI
 refine sa ?_
 refine s_nil ?_
 refine k_next (e := [(1, vp b3 0), (2, vi r1.2), (3, vp b4 0), (4, vi r2.2), (5, vp b5 0), (6, vi r3.2), (7, vp b7 0), (8, vi r4.2)]) ⟨rfl, rfl, rfl, rfl, rfl, rfl, rfl, rfl, trivial⟩ ?_
 refine sr (sq (y_loadN (l := (lTensor r1.1 a1 c5 a2 c6)) rfl et u27 rfl size_27 (CellsAt.of_blk (hI.blk (.s (.s (.s .z)))) rfl)) ?_)
 refine l_lit (c := (cInt .i64)) (xs := ([0, 2] : List Int)) (vs := [(0, vi 0), (1, vi 2)]) (cs := #[vi 0, vi 2]) (css := [[vi 0], [vi 2]]) hI gn rfl rfl u24 info_3 rfl ⟨rfl, ev_const, ⟨rfl, ev_const, trivial⟩⟩ (by kernel_rfl) ⟨rfl, ⟨rfl, trivial⟩⟩ rfl rfl rfl ?_
 clear hI; intro b8 c23 w16 hI
 obtain ⟨r5, hx9, h⟩ := bnd_some h
 refine s_call gn rfl (r_callF (vs := [(Value.agg (ATensor r1.1 a1 c5 a2 c6)), vs (some ⟨b8, 0, none⟩) ([0, 2] : List Int).length 2]) rfl ok_17 ⟨et, ⟨et, trivial⟩⟩) (Calls.mono (c_tensor_At noM w16 (fun _ k => k.elim) r1.1 ([0, 2] : List Int) a1 c5 a2 c6 (some ⟨b8, 0, none⟩) 2 ⟨(hI.get0 (.s (.s (.s (.s (.s (.s (.s .z)))))))), (hI.get0 (.s (.s (.s (.s (.s (.s (.s (.s .z))))))))), hI.lend .z, trivial⟩ r5 hx9) ?_)
 rintro _ w17 ⟨rfl, hx10, hl5⟩
 refine ⟨_, rfl, ?_⟩
 replace hI := (hI.ext hx10)
 refine sm ?_
 refine sq (y_extract rfl et rfl) ?_
 refine sq (y_extract rfl et rfl) ?_
 refine l_alloc (cs := #[vi 0, vi 0]) hI gn rfl rfl zero_36 rfl ?_
 clear hI; intro b9 c24 w18 hI
 refine l_store (new := (lVal r5.1)) (cs' := (AVal r5.1)) hI .z gn rfl rfl et et rfl size_36 rfl rfl rfl ?_
 clear hI; intro c25 w19 hI
 refine sa ?_
 refine nk (sr (sq (y_loadN (l := (lTensor r1.1 a1 c5 a2 c6)) rfl et u27 rfl size_27 (CellsAt.of_blk (hI.blk (.s (.s (.s (.s (.s .z)))))) rfl)) ?_))
 refine l_lit (c := (cInt .i64)) (xs := ([0] : List Int)) (vs := [(0, vi 0)]) (cs := #[vi 0]) (css := [[vi 0]]) hI gn rfl rfl u24 info_3 rfl ⟨rfl, ev_const, trivial⟩ (by kernel_rfl) ⟨rfl, trivial⟩ rfl rfl rfl ?_
 clear hI; intro b10 c26 w20 hI
 obtain ⟨r6, hx11, h⟩ := bnd_some h
 refine s_call gn rfl (r_callF (vs := [(Value.agg (ATensor r1.1 a1 c5 a2 c6)), vs (some ⟨b10, 0, none⟩) ([0] : List Int).length 1]) rfl ok_17 ⟨et, ⟨et, trivial⟩⟩) (Calls.mono (c_tensor_At noM w20 (fun _ k => k.elim) r1.1 ([0] : List Int) a1 c5 a2 c6 (some ⟨b10, 0, none⟩) 1 ⟨(hI.get0 (.s (.s (.s (.s (.s (.s (.s .z)))))))), (hI.get0 (.s (.s (.s (.s (.s (.s (.s (.s .z))))))))), hI.lend .z, trivial⟩ r6 hx11) ?_)
 rintro _ w21 ⟨rfl, hx12, hl6⟩
 refine ⟨_, rfl, ?_⟩
 replace hI := (hI.ext hx12)
 refine sm ?_
 refine sq (y_extract rfl et rfl) ?_
 refine sq (y_extract rfl et rfl) ?_
 refine l_alloc (cs := #[vi 0, vi 0]) hI gn rfl rfl zero_36 rfl ?_
 clear hI; intro b11 c27 w22 hI
 refine l_store (new := (lVal r6.1)) (cs' := (AVal r6.1)) hI .z gn rfl rfl et et rfl size_36 rfl rfl rfl ?_
 clear hI; intro c28 w23 hI
 refine sa ?_
 refine nk (c_seq (sr (sm ?_)))
 refine sq (y_neq rfl et ev_const) ?_
 refine sm ?_
 refine s_gval (g_false rfl rfl rfl rfl) rfl (fun hc => y_move rfl et) ?_
 refine s_gval (g_false rfl rfl rfl rfl) rfl (fun hc => y_neq rfl (ev_gv et hc) ev_const) ?_
 refine sq (y_or rfl et et) ?_
 refine sm ?_
 refine s_gval (g_false rfl rfl rfl rfl) rfl (fun hc => y_move rfl et) ?_
 refine s_gval (g_false rfl rfl rfl rfl) rfl (fun hc => y_neq rfl (ev_gv et hc) ev_const) ?_
 refine sq (y_or rfl et et) ?_
 refine sm ?_
 refine s_gval (g_false rfl rfl rfl rfl) rfl (fun hc => y_move rfl et) ?_
 refine s_gval (g_false rfl rfl rfl rfl) rfl (fun hc => y_neq rfl (ev_gv et hc) ev_const) ?_
 refine sq (y_or rfl et et) ?_
 refine sm ?_
 refine s_gval (g_false rfl rfl rfl rfl) rfl (fun hc => y_move rfl et) ?_
 refine s_gval (g_false rfl rfl rfl rfl) rfl (fun hc => y_neq rfl (ev_gv et hc) ev_const) ?_
 refine sq (y_or rfl et et) ?_
 refine sm ?_
 refine s_gval (g_false rfl rfl rfl rfl) rfl (fun hc => y_move rfl et) ?_
 refine s_gval (g_false rfl rfl rfl rfl) rfl (fun hc => y_neq rfl (ev_gv et hc) ev_const) ?_
 refine sq (y_or rfl et et) ?_
 refine s_nil ?_
 refine k_next (e := [(1, vp b3 0), (3, vp b4 0), (5, vp b5 0), (7, vp b7 0), (73, (vb ((((((!decide (r1.2 = 0)) || (!decide (r2.2 = 0))) || (!decide (r3.2 = 0))) || (!decide (r4.2 = 0))) || (!decide (r5.2 = 12))) || (!decide (r6.2 = 11)))))]) ⟨rfl, rfl, rfl, rfl, rfl, trivial⟩ ?_
 refine cif h et (fun hb h => ?_) (fun hb h => ?_)
 ·refine sr (sac ?_)
  refine nk (c_ret ?_)
  obtain rfl := some_inj h
  exact q_ret (vs := [vb false]) Tryz.results13 ⟨ev_tmp rfl rfl, trivial⟩ (fq hI trivial)
 refine c_skip (k_same (sr (sq (y_loadN (l := (lTensor r1.1 a1 c5 a2 c6)) rfl et u27 rfl size_27 (CellsAt.of_blk (hI.blk (.s (.s (.s (.s (.s (.s (.s .z)))))))) rfl)) ?_)))
 obtain ⟨r7, hx13, h⟩ := bnd_some h
 refine s_call gn rfl (r_callF (vs := [(Value.agg (ATensor r1.1 a1 c5 a2 c6))]) rfl ok_27 ⟨et, trivial⟩) (Calls.mono (c_tensor_Format (Dj F c28) w23 hI.lt r1.1 a1 c5 a2 c6 ⟨(hI.get (.s (.s (.s (.s (.s (.s (.s .z)))))))), (hI.get (.s (.s (.s (.s (.s (.s (.s (.s .z))))))))), (hI.get (.s (.s (.s (.s (.s (.s (.s (.s (.s (.s (.s .z)))))))))))), trivial⟩ r7 hx13) ?_)
 rintro _ w24 ⟨rfl, hx14, hl7⟩
 refine ⟨_, rfl, ?_⟩
 replace hI := (hI.ext hx14)
 refine sq (y_eqs rfl et ev_const) ?_
 refine sm ?_
 refine s_gval (g_true rfl rfl rfl rfl) rfl (fun hc => (y_loadN (l := (lTensor r2.1 a3 c9 a4 c10)) rfl et u27 rfl size_27 (CellsAt.of_blk (hI.blk (.s (.s (.s (.s (.s (.s .z))))))) rfl))) ?_
 obtain ⟨ho1, h⟩ := chk_some h
 obtain ⟨r8, hx15, h⟩ := bnd_some h
 refine s_call (grd_as (g_true rfl rfl rfl rfl) ho1) rfl (r_callF (vs := [(Value.agg (ATensor r2.1 a3 c9 a4 c10))]) rfl ok_27 ⟨(ev_gv et ho1), trivial⟩) (Calls.mono (c_tensor_Format (Dj F c28) w24 hI.lt r2.1 a3 c9 a4 c10 ⟨(hI.get (.s (.s (.s (.s (.s .z)))))), (hI.get (.s (.s (.s (.s (.s (.s .z))))))), (hI.get (.s (.s (.s (.s (.s (.s (.s (.s (.s (.s (.s .z)))))))))))), trivial⟩ r8 hx15) ?_)
 rintro _ w25 ⟨rfl, hx16, hl8⟩
 refine ⟨_, rfl, ?_⟩
 replace hI := (hI.ext hx16)
 refine s_gval (g_true rfl rfl rfl rfl) rfl (fun hc => y_eqs rfl et ev_const) ?_
 refine sq (y_and rfl et et) ?_
 refine sm ?_
 refine s_gval (g_true rfl rfl rfl rfl) rfl (fun hc => (y_loadN (l := (lTensor r3.1 a5 c13 a6 c14)) rfl et u27 rfl size_27 (CellsAt.of_blk (hI.blk (.s (.s (.s (.s (.s .z)))))) rfl))) ?_
 obtain ⟨ho2, h⟩ := chk_some h
 obtain ⟨r9, hx17, h⟩ := bnd_some h
 refine s_call (grd_as (g_true rfl rfl rfl rfl) ho2) rfl (r_callF (vs := [(Value.agg (ATensor r3.1 a5 c13 a6 c14))]) rfl ok_27 ⟨(ev_gv et ho2), trivial⟩) (Calls.mono (c_tensor_Format (Dj F c28) w25 hI.lt r3.1 a5 c13 a6 c14 ⟨(hI.get (.s (.s (.s .z)))), (hI.get (.s (.s (.s (.s .z))))), (hI.get (.s (.s (.s (.s (.s (.s (.s (.s (.s (.s (.s .z)))))))))))), trivial⟩ r9 hx17) ?_)
 rintro _ w26 ⟨rfl, hx18, hl9⟩
 refine ⟨_, rfl, ?_⟩
 replace hI := (hI.ext hx18)
 refine s_gval (g_true rfl rfl rfl rfl) rfl (fun hc => y_eqs rfl et ev_const) ?_
 refine sq (y_and rfl et et) ?_
 refine sm ?_
 refine s_gval (g_true rfl rfl rfl rfl) rfl (fun hc => (y_loadN (l := (lTensor r4.1 a7 c19 a8 c20)) rfl et u27 rfl size_27 (CellsAt.of_blk (hI.blk (.s (.s (.s (.s .z))))) rfl))) ?_
 obtain ⟨ho3, h⟩ := chk_some h
 obtain ⟨r10, hx19, h⟩ := bnd_some h
 refine s_call (grd_as (g_true rfl rfl rfl rfl) ho3) rfl (r_callF (vs := [(Value.agg (ATensor r4.1 a7 c19 a8 c20))]) rfl ok_27 ⟨(ev_gv et ho3), trivial⟩) (Calls.mono (c_tensor_Format (Dj F c28) w26 hI.lt r4.1 a7 c19 a8 c20 ⟨(hI.get .z), (hI.get (.s .z)), (hI.get (.s (.s (.s (.s (.s (.s (.s (.s (.s (.s (.s .z)))))))))))), trivial⟩ r10 hx19) ?_)
 rintro _ w27 ⟨rfl, hx20, hl10⟩
 refine ⟨_, rfl, ?_⟩
 replace hI := (hI.ext hx20)
 refine s_gval (g_true rfl rfl rfl rfl) rfl (fun hc => y_eqs rfl et ev_const) ?_
 refine sq (y_and rfl et et) ?_
 refine sa ?_
 refine nk (c_ret ?_)
 obtain rfl := some_inj h
 exact q_ret (vs := [(vb ((((decide (r7 = ([91, 91, 49, 44, 32, 50, 93, 44, 32, 91, 51, 44, 32, 52, 93, 93] : List UInt8))) && (decide (r8 = ([91, 52, 44, 32, 54, 93] : List UInt8)))) && (decide (r9 = ([91, 91, 49, 44, 32, 51, 93, 44, 32, 91, 51, 44, 32, 55, 93, 93] : List UInt8)))) && (decide (r10 = ([91, 91, 49, 44, 32, 51, 93, 44, 32, 91, 50, 44, 32, 52, 93, 93] : List UInt8)))))]) Tryz.results13 ⟨ev_tmp rfl rfl, trivial⟩ (fq hI trivial)
theorem c_base_Type (F : NP) (w0 : World) (hF : ∀ k, F k → k < w0.heap.size) (t1 : GType) (hc : AllCl [] F w0) (r : Bool)
  (h : m_base_Type t1 = some r) :
  Calls Tryz.prog 60 #[(Value.agg (AType t1))] w0 fun e w => e = .returned (vb r) ∧ Ext w0 w ∧ AllCl [] F w := by
 refine enterK Tryz.func60 rfl Tryz.ntmps60 rfl ?_
 have hI := Bun.start hF hc
 clear hc
 rw [m_base_Type] at h
 refine sr (l_box (v := (Value.agg (AType t1))) (cs := (AType t1)) hI gn rfl rfl et rfl ?_)
 clear hI; intro b1 c1 w1 hI
 obtain ⟨c2, hI⟩ := hI.relBox .z
 refine sac ?_
 refine nk (c_seq (sr (sq (y_fieldAddr rfl et u23 rfl size_3 rfl) ?_)))
 refine sq (y_load1 (v := (vi t1.Kind)) rfl et u3 rfl (hI.kblk (l := [vi t1.Kind]) .z rfl).1) ?_
 refine sq (y_eql rfl et ev_const) ?_
 refine sm ?_
 refine s_gval (g_false rfl rfl rfl rfl) rfl (fun hc => y_fieldAddr rfl et u23 rfl size_3 rfl) ?_
 refine s_gval (g_false rfl rfl rfl rfl) rfl (fun hc => (y_load1 (v := (vi t1.Kind)) rfl (ev_gv et hc) u3 rfl (hI.kblk (l := [vi t1.Kind]) .z rfl).1)) ?_
 refine s_gval (g_false rfl rfl rfl rfl) rfl (fun hc => y_eql rfl (ev_gv et hc) ev_const) ?_
 refine sq (y_or rfl et et) ?_
 refine nk (cif h et (fun hb h => ?_) (fun hb h => ?_))
 ·refine sr (sq (y_fieldAddr rfl et u23 rfl size_3 rfl) ?_)
  refine sq (y_load1 (v := (vi t1.Bits)) rfl et u3 rfl (hI.kblk (l := [vi t1.Bits]) .z rfl).1) ?_
  refine sq (y_eql rfl et ev_const) ?_
  refine sm ?_
  refine s_gval (g_true rfl rfl rfl rfl) rfl (fun hc => y_fieldAddr rfl et u23 rfl size_3 rfl) ?_
  refine s_gval (g_true rfl rfl rfl rfl) rfl (fun hc => (y_load1 (v := (vi t1.Frac)) rfl (ev_gv et hc) u3 rfl (hI.kblk (l := [vi t1.Frac]) .z rfl).1)) ?_
  refine s_gval (g_true rfl rfl rfl rfl) rfl (fun hc => y_eql rfl (ev_gv et hc) ev_const) ?_
  refine sq (y_and rfl et et) ?_
  refine sm ?_
  refine s_gval (g_true rfl rfl rfl rfl) rfl (fun hc => y_fieldAddr rfl et u23 rfl size_3 rfl) ?_
  refine s_gval (g_true rfl rfl rfl rfl) rfl (fun hc => (y_load1 (v := (vi t1.Round)) rfl (ev_gv et hc) u3 rfl (hI.kblk (l := [vi t1.Round]) .z rfl).1)) ?_
  refine s_gval (g_true rfl rfl rfl rfl) rfl (fun hc => y_eql rfl (ev_gv et hc) ev_const) ?_
  refine sq (y_and rfl et et) ?_
  refine sm ?_
  refine s_gval (g_true rfl rfl rfl rfl) rfl (fun hc => y_fieldAddr rfl et u23 rfl size_3 rfl) ?_
  refine s_gval (g_true rfl rfl rfl rfl) rfl (fun hc => (y_load1 (v := (vi t1.Over)) rfl (ev_gv et hc) u3 rfl (hI.kblk (l := [vi t1.Over]) .z rfl).1)) ?_
  refine s_gval (g_true rfl rfl rfl rfl) rfl (fun hc => y_eql rfl (ev_gv et hc) ev_const) ?_
  refine sq (y_and rfl et et) ?_
  refine sa ?_
  refine s_nil ?_
  refine k_next (e := [(2, (vb ((((decide (t1.Bits = 0)) && (decide (t1.Frac = 0))) && (decide (t1.Round = 0))) && (decide (t1.Over = 0)))))]) ⟨rfl, trivial⟩ ?_
  refine c_ret ?_
  obtain rfl := some_inj h
  exact q_ret (vs := [(vb ((((decide (t1.Bits = 0)) && (decide (t1.Frac = 0))) && (decide (t1.Round = 0))) && (decide (t1.Over = 0))))]) Tryz.results60 ⟨ev_tmp rfl rfl, trivial⟩ (fq hI trivial)
 refine c_skip (k_same (sr (sq (y_fieldAddr rfl et u23 rfl size_3 rfl) ?_)))
 refine sq (y_load1 (v := (vi t1.Kind)) rfl et u3 rfl (hI.kblk (l := [vi t1.Kind]) .z rfl).1) ?_
 refine sq (y_eql rfl et ev_const) ?_
 refine sm ?_
 refine s_gval (g_true rfl rfl rfl rfl) rfl (fun hc => y_fieldAddr rfl et u23 rfl size_3 rfl) ?_
 refine s_gval (g_true rfl rfl rfl rfl) rfl (fun hc => (y_load1 (v := (vi t1.Bits)) rfl (ev_gv et hc) u3 rfl (hI.kblk (l := [vi t1.Bits]) .z rfl).1)) ?_
 refine s_gval (g_true rfl rfl rfl rfl) rfl (fun hc => y_geq rfl (ev_gv et hc) ev_const) ?_
 refine sq (y_and rfl et et) ?_
 refine sm ?_
 refine s_gval (g_true rfl rfl rfl rfl) rfl (fun hc => y_fieldAddr rfl et u23 rfl size_3 rfl) ?_
 refine s_gval (g_true rfl rfl rfl rfl) rfl (fun hc => (y_load1 (v := (vi t1.Bits)) rfl (ev_gv et hc) u3 rfl (hI.kblk (l := [vi t1.Bits]) .z rfl).1)) ?_
 refine s_gval (g_true rfl rfl rfl rfl) rfl (fun hc => y_leq rfl (ev_gv et hc) ev_const) ?_
 refine sq (y_and rfl et et) ?_
 refine sm ?_
 refine s_gval (g_true rfl rfl rfl rfl) rfl (fun hc => y_fieldAddr rfl et u23 rfl size_3 rfl) ?_
 refine s_gval (g_true rfl rfl rfl rfl) rfl (fun hc => (y_load1 (v := (vi t1.Frac)) rfl (ev_gv et hc) u3 rfl (hI.kblk (l := [vi t1.Frac]) .z rfl).1)) ?_
 refine s_gval (g_true rfl rfl rfl rfl) rfl (fun hc => y_geq rfl (ev_gv et hc) ev_const) ?_
 refine sq (y_and rfl et et) ?_
 refine sm ?_
 refine s_gval (g_true rfl rfl rfl rfl) rfl (fun hc => y_fieldAddr rfl et u23 rfl size_3 rfl) ?_
 refine s_gval (g_true rfl rfl rfl rfl) rfl (fun hc => (y_load1 (v := (vi t1.Frac)) rfl (ev_gv et hc) u3 rfl (hI.kblk (l := [vi t1.Frac]) .z rfl).1)) ?_
 refine s_gval (g_true rfl rfl rfl rfl) rfl (fun hc => y_leq rfl (ev_gv et hc) ev_const) ?_
 refine sq (y_and rfl et et) ?_
 refine sm ?_
 refine s_gval (g_true rfl rfl rfl rfl) rfl (fun hc => y_fieldAddr rfl et u23 rfl size_3 rfl) ?_
 refine s_gval (g_true rfl rfl rfl rfl) rfl (fun hc => (y_load1 (v := (vi t1.Round)) rfl (ev_gv et hc) u3 rfl (hI.kblk (l := [vi t1.Round]) .z rfl).1)) ?_
 refine s_gval (g_true rfl rfl rfl rfl) rfl (fun hc => y_geq rfl (ev_gv et hc) ev_const) ?_
 refine sq (y_and rfl et et) ?_
 refine sm ?_
 refine s_gval (g_true rfl rfl rfl rfl) rfl (fun hc => y_fieldAddr rfl et u23 rfl size_3 rfl) ?_
 refine s_gval (g_true rfl rfl rfl rfl) rfl (fun hc => (y_load1 (v := (vi t1.Round)) rfl (ev_gv et hc) u3 rfl (hI.kblk (l := [vi t1.Round]) .z rfl).1)) ?_
 refine s_gval (g_true rfl rfl rfl rfl) rfl (fun hc => y_leq rfl (ev_gv et hc) ev_const) ?_
 refine sq (y_and rfl et et) ?_
 refine sm ?_
 refine s_gval (g_true rfl rfl rfl rfl) rfl (fun hc => y_fieldAddr rfl et u23 rfl size_3 rfl) ?_
 refine s_gval (g_true rfl rfl rfl rfl) rfl (fun hc => (y_load1 (v := (vi t1.Over)) rfl (ev_gv et hc) u3 rfl (hI.kblk (l := [vi t1.Over]) .z rfl).1)) ?_
 refine s_gval (g_true rfl rfl rfl rfl) rfl (fun hc => y_eql rfl (ev_gv et hc) ev_const) ?_
 refine s_gval (g_true rfl rfl rfl rfl) rfl (fun hc => y_move rfl (ev_gv et hc)) ?_
 refine s_gval (g_false2 rfl rfl rfl rfl) rfl (fun hc => y_fieldAddr rfl et u23 rfl size_3 rfl) ?_
 refine s_gval (g_false2 rfl rfl rfl rfl) rfl (fun hc => (y_load1 (v := (vi t1.Over)) rfl (ev_gv et hc) u3 rfl (hI.kblk (l := [vi t1.Over]) .z rfl).1)) ?_
 refine s_gval (g_false2 rfl rfl rfl rfl) rfl (fun hc => y_eql rfl (ev_gv et hc) ev_const) ?_
 refine s_gval (g_true rfl rfl rfl rfl) rfl (fun hc => y_or2 rfl hc et et) ?_
 refine sq (y_and rfl et et) ?_
 refine sa ?_
 refine s_nil ?_
 refine k_next (e := [(2, (vb ((((((((decide (t1.Kind = 2)) && (decide (2 ≤ t1.Bits))) && (decide (t1.Bits ≤ 31))) && (decide (0 ≤ t1.Frac))) && (decide (t1.Frac ≤ 30))) && (decide (1 ≤ t1.Round))) && (decide (t1.Round ≤ 4))) && ((decide (t1.Over = 1)) || (decide (t1.Over = 2))))))]) ⟨rfl, trivial⟩ ?_
 refine c_ret ?_
 obtain rfl := some_inj h
 exact q_ret (vs := [(vb ((((((((decide (t1.Kind = 2)) && (decide (2 ≤ t1.Bits))) && (decide (t1.Bits ≤ 31))) && (decide (0 ≤ t1.Frac))) && (decide (t1.Frac ≤ 30))) && (decide (1 ≤ t1.Round))) && (decide (t1.Round ≤ 4))) && ((decide (t1.Over = 1)) || (decide (t1.Over = 2)))))]) Tryz.results60 ⟨ev_tmp rfl rfl, trivial⟩ (fq hI trivial)
theorem c_ref12_Shape (F : NP) (w0 : World) (hF : ∀ k, F k → k < w0.heap.size) (d1 : List Int) (a1 : Option Addr) (c1 : Nat) (hc : AllCl [Cl.sl (cInt .i64) a1 c1 d1] F w0) (r : Int)
  (h : m_ref12_Shape d1 = some r) :
  Calls Tryz.prog 61 #[vs a1 d1.length c1] w0 fun e w => e = .returned (vi r) ∧ Ext w0 w ∧ AllCl [] F w := by
 refine enterK Tryz.func61 rfl Tryz.ntmps61 rfl ?_
 have hI := Bun.start hF hc
 clear hc
 rw [m_ref12_Shape] at h
 refine sr (sac ?_)
 refine nk (c_seq (sr (sm ?_)))
 refine sq (y_lenl rfl u24 et) ?_
 refine sq (y_gtr rfl et ev_const) ?_
 refine nk (cif h et (fun hb h => ?_) (fun hb h => ?_))
 ·refine sr (sac ?_)
  refine nk (c_ret ?_)
  obtain rfl := some_inj h
  exact q_ret (vs := [vi 2]) Tryz.results61 ⟨ev_tmp rfl rfl, trivial⟩ (fq hI trivial)
 refine c_skip (k_same (c_join (α := Unit) (fun _ => ⟨39, []⟩) (fun _ => [(0, vs a1 d1.length c1)]) (fun _ => fun w => ∃ C, Bun noM F w0 C w [] [Cl.sl (cInt .i64) a1 c1 d1] ∧ m_ref12_Shape_j1 d1 = some r) ?_ ?_))
 ·clear h hI; rintro _ w1 ⟨c2, hI, h⟩
  try dsimp only at hI h
  rw [m_ref12_Shape_j1] at h
  refine c_sub (e := [(0, vs a1 d1.length c1)]) ⟨rfl, trivial⟩ ?_
  refine sr (sac ?_)
  refine nk (c_seq (sr (sac ?_)))
  refine nk (c_block (c_loop (α := Nat × Int × Int) (fun x => fun w => ∃ C, Bun noM F w0 C w [] [Cl.sl (cInt .i64) a1 c1 d1] ∧ m_ref12_Shape_l1 d1 (x.1) (x.2.1) (x.2.2) = some r) (fun x _ => x.1) (fun x => [(0, vs a1 d1.length c1), (4, vi (x.2.1)), (5, vi (x.2.2))]) (fu, 1, 0) ⟨_, hI.arr .n ⟨.z, trivial⟩, h⟩ ⟨rfl, rfl, rfl, trivial⟩ ?_))
  clear h hI; rintro ⟨fuel1, n1, i1⟩ w2 ⟨c3, hI, h⟩
  dsimp only at hI h
  rcases fuel1 with _ | fuel1
  ·rw [m_ref12_Shape_l1] at h; cases h
  rw [m_ref12_Shape_l1] at h
  refine c_sub (e := [(0, vs a1 d1.length c1), (4, vi n1), (5, vi i1)]) ⟨rfl, rfl, rfl, trivial⟩ ?_
  refine c_seq (sr (sm ?_))
  refine sm ?_
  refine sq (y_lenl rfl u24 et) ?_
  refine sq (y_lss rfl et et) ?_
  refine nk (cif h et (fun hb h => ?_) (fun hb h => ?_))
  ·refine c_skip (k_same (c_seq (c_block (c_seq (c_seq (c_drawX [] false (.c (0, .q) (.c (1, .q) (.c (2, .q) (.c (3, .q) (.c (4, .q) (.c (5, .q) (.c (6, .q) .n))))))) hI (by kernel_rfl) (by kernel_rfl) ?_))))))
   clear hI; intro w3 hI
   refine a_q rfl gn rfl (fun w' => y_move rfl et) ?_
   refine a_q rfl gn rfl (fun w' => y_move rfl et) ?_
   obtain ⟨e1, hx1, h⟩ := bnd_some h
   obtain ⟨ad1, cs1, hA1, hr1, hq1⟩ := hI.clat .z hx1
   obtain rfl : cs1 = [vi e1] := hr1
   refine a_q rfl gn rfl (fun w' => y_indexAddr rfl u24 size_3 et et (lat_bd hx1) hA1) ?_
   refine a_read rfl gn rfl (fun w' hw' => (y_load1 (v := (vi e1)) rfl et u3 rfl (hq1.at_ (SX.any rfl hw')))) (by kernel_rfl) ?_
   refine a_q rfl gn rfl (fun w' => y_move rfl et) ?_
   obtain ⟨ho1, h⟩ := chk_some h
   refine a_q rfl gn rfl (fun w' => y_quo rfl ev_const et ho1) ?_
   refine a_q rfl gn rfl (fun w' => y_gtr rfl et et) ?_
   refine a_nil ?_
   refine k_same (cif h et (fun hb h => ?_) (fun hb h => ?_))
   ·refine sr (sac ?_)
    refine nk (c_ret ?_)
    obtain rfl := some_inj h
    exact q_ret (vs := [vi 2]) Tryz.results61 ⟨ev_tmp rfl rfl, trivial⟩ (fq hI trivial)
   refine c_skip (k_same (c_region rfl ?_))
   refine sm ?_
   refine sm ?_
   refine sm ?_
   obtain ⟨e2, hx2, h⟩ := bnd_some h
   obtain ⟨ad2, cs2, hA2, hr2, hq2⟩ := hI.clat .z hx2
   obtain rfl : cs2 = [vi e2] := hr2
   refine sq (y_indexAddr rfl u24 size_3 et et (lat_bd hx2) hA2) ?_
   refine sq (y_load1 (v := (vi e2)) rfl et u3 rfl hq2.1) ?_
   refine sq (y_mul rfl et et) ?_
   refine sa ?_
   refine nk (c_region rfl ?_)
   refine sm ?_
   refine sq (y_add rfl et ev_const) ?_
   refine sa ?_
   refine s_nil ?_
   exact k_loop (fuel1, wi64 (n1 * e2), wi64 (i1 + 1)) ⟨rfl, rfl, rfl, trivial⟩ ⟨_, hI.arr .n ⟨.z, trivial⟩, h⟩ (Nat.lt_succ_self _)
  refine c_exit ?_
  refine k_in ?_
  refine k_same (sr (sac ?_))
  refine nk (c_ret ?_)
  obtain rfl := some_inj h
  exact q_ret (vs := [vi 0]) Tryz.results61 ⟨ev_tmp rfl rfl, trivial⟩ (fq hI trivial)
 refine sr (sac ?_)
 refine nk (c_block (c_loop (α := Nat × Int) (fun x => fun w => ∃ C, Bun noM F w0 C w [] [Cl.sl (cInt .i64) a1 c1 d1] ∧ m_ref12_Shape_l2 d1 (x.1) (x.2) = some r) (fun x _ => x.1) (fun x => [(0, vs a1 d1.length c1), (3, vi (x.2))]) (fu, 0) ⟨_, hI.arr .n ⟨.z, trivial⟩, h⟩ ⟨rfl, rfl, trivial⟩ ?_))
 clear h hI; rintro ⟨fuel2, i2⟩ w4 ⟨c4, hI, h⟩
 dsimp only at hI h
 rcases fuel2 with _ | fuel2
 ·rw [m_ref12_Shape_l2] at h; cases h
 rw [m_ref12_Shape_l2] at h
 refine c_sub (e := [(0, vs a1 d1.length c1), (3, vi i2)]) ⟨rfl, rfl, trivial⟩ ?_
 refine c_seq (sr (sm ?_))
 refine sm ?_
 refine sq (y_lenl rfl u24 et) ?_
 refine sq (y_lss rfl et et) ?_
 refine nk (cif h et (fun hb h => ?_) (fun hb h => ?_))
 ·refine c_skip (k_same (c_seq (c_block (sr (sm ?_)))))
  refine sm ?_
  obtain ⟨e3, hx3, h⟩ := bnd_some h
  obtain ⟨ad3, cs3, hA3, hr3, hq3⟩ := hI.clat .z hx3
  obtain rfl : cs3 = [vi e3] := hr3
  refine sq (y_indexAddr rfl u24 size_3 et et (lat_bd hx3) hA3) ?_
  refine sq (y_load1 (v := (vi e3)) rfl et u3 rfl hq3.1) ?_
  refine sq (y_lss rfl et ev_const) ?_
  refine nk (cif h et (fun hb h => ?_) (fun hb h => ?_))
  ·refine sr (sac ?_)
   refine nk (c_ret ?_)
   obtain rfl := some_inj h
   exact q_ret (vs := [vi 1]) Tryz.results61 ⟨ev_tmp rfl rfl, trivial⟩ (fq hI trivial)
  refine c_skip (k_same (c_region rfl ?_))
  refine sm ?_
  refine sq (y_add rfl et ev_const) ?_
  refine sa ?_
  refine s_nil ?_
  exact k_loop (fuel2, wi64 (i2 + 1)) ⟨rfl, rfl, trivial⟩ ⟨_, hI.arr .n ⟨.z, trivial⟩, h⟩ (Nat.lt_succ_self _)
 refine c_exit ?_
 refine k_in ?_
 exact k_join () ⟨rfl, trivial⟩ ⟨_, hI.arr .n ⟨.z, trivial⟩, h⟩ rfl
theorem c_ref12_Size (F : NP) (w0 : World) (hF : ∀ k, F k → k < w0.heap.size) (d1 : List Int) (a1 : Option Addr) (c1 : Nat) (hc : AllCl [Cl.sl (cInt .i64) a1 c1 d1] F w0) (r : Int)
  (h : m_ref12_Size d1 = some r) :
  Calls Tryz.prog 44 #[vs a1 d1.length c1] w0 fun e w => e = .returned (vi r) ∧ Ext w0 w ∧ AllCl [] F w := by
 refine enterK Tryz.func44 rfl Tryz.ntmps44 rfl ?_
 have hI := Bun.start hF hc
 clear hc
 rw [m_ref12_Size] at h
 refine sr (sac ?_)
 refine nk (sr (sac ?_))
 refine nk (c_seq (sr (sac ?_)))
 refine nk (c_block (c_loop (α := Nat × Int × Int) (fun x => fun w => ∃ C, Bun noM F w0 C w [] [Cl.sl (cInt .i64) a1 c1 d1] ∧ m_ref12_Size_l1 d1 (x.1) (x.2.1) (x.2.2) = some r) (fun x _ => x.1) (fun x => [(0, vs a1 d1.length c1), (3, vi (x.2.1)), (4, vi (x.2.2))]) (fu, 1, 0) ⟨_, hI.arr .n ⟨.z, trivial⟩, h⟩ ⟨rfl, rfl, rfl, trivial⟩ ?_))
 clear h hI; rintro ⟨fuel1, n1, i1⟩ w1 ⟨c2, hI, h⟩
 dsimp only at hI h
 rcases fuel1 with _ | fuel1
 ·rw [m_ref12_Size_l1] at h; cases h
 rw [m_ref12_Size_l1] at h
 refine c_sub (e := [(0, vs a1 d1.length c1), (3, vi n1), (4, vi i1)]) ⟨rfl, rfl, rfl, trivial⟩ ?_
 refine c_seq (sr (sm ?_))
 refine sm ?_
 refine sq (y_lenl rfl u24 et) ?_
 refine sq (y_lss rfl et et) ?_
 refine nk (cif h et (fun hb h => ?_) (fun hb h => ?_))
 ·refine c_skip (k_same (c_seq (c_block (c_region rfl ?_))))
  refine sm ?_
  refine sm ?_
  refine sm ?_
  obtain ⟨e1, hx1, h⟩ := bnd_some h
  obtain ⟨ad1, cs1, hA1, hr1, hq1⟩ := hI.clat .z hx1
  obtain rfl : cs1 = [vi e1] := hr1
  refine sq (y_indexAddr rfl u24 size_3 et et (lat_bd hx1) hA1) ?_
  refine sq (y_load1 (v := (vi e1)) rfl et u3 rfl hq1.1) ?_
  refine sq (y_mul rfl et et) ?_
  refine sa ?_
  refine nk (c_region rfl ?_)
  refine sm ?_
  refine sq (y_add rfl et ev_const) ?_
  refine sa ?_
  refine s_nil ?_
  exact k_loop (fuel1, wi64 (n1 * e1), wi64 (i1 + 1)) ⟨rfl, rfl, rfl, trivial⟩ ⟨_, hI.arr .n ⟨.z, trivial⟩, h⟩ (Nat.lt_succ_self _)
 refine c_exit ?_
 refine k_in ?_
 refine k_same (sr (sm ?_))
 refine sa ?_
 refine nk (c_ret ?_)
 obtain rfl := some_inj h
 exact q_ret (vs := [vi n1]) Tryz.results44 ⟨ev_tmp rfl rfl, trivial⟩ (fq hI trivial)
theorem c_base_gcd (F : NP) (w0 : World) (hF : ∀ k, F k → k < w0.heap.size) (a1 : Int) (b1 : Int) (hc : AllCl [] F w0) (r : Int)
  (h : m_base_gcd a1 b1 = some r) :
  Calls Tryz.prog 92 #[vi a1, vi b1] w0 fun e w => e = .returned (vi r) ∧ Ext w0 w ∧ AllCl [] F w := by
 refine enterK Tryz.func92 rfl Tryz.ntmps92 rfl ?_
 have hI := Bun.start hF hc
 clear hc
 rw [m_base_gcd] at h
 refine sr (sac ?_)
 refine nk (c_seq (c_block (c_loop (α := Nat × Int × Int) (fun x => fun w => ∃ C, Bun noM F w0 C w [] [] ∧ m_base_gcd_l1 (x.1) (x.2.1) (x.2.2) = some r) (fun x _ => x.1) (fun x => [(0, vi (x.2.1)), (1, vi (x.2.2))]) (fu, a1, b1) ⟨_, hI.arr .n trivial, h⟩ ⟨rfl, rfl, trivial⟩ ?_)))
 clear h hI; rintro ⟨fuel1, a2, b2⟩ w1 ⟨c1, hI, h⟩
 dsimp only at hI h
 rcases fuel1 with _ | fuel1
 ·rw [m_base_gcd_l1] at h; cases h
 rw [m_base_gcd_l1] at h
 refine c_sub (e := [(0, vi a2), (1, vi b2)]) ⟨rfl, rfl, trivial⟩ ?_
 refine c_seq (sr (sm ?_))
 refine sq (y_neq rfl et ev_const) ?_
 refine nk (cif h et (fun hb h => ?_) (fun hb h => ?_))
 ·refine c_skip (k_same (c_block (c_drawX [] false (.c (0, .q) (.c (1, .q) (.c (2, .q) (.c (3, .q) (.c (4, .q) (.c (5, .q) .n)))))) hI (by kernel_rfl) (by kernel_rfl) ?_)))
  clear hI; intro w2 hI
  refine a_q rfl gn rfl (fun w' => y_move rfl et) ?_
  refine a_q rfl gn rfl (fun w' => y_move rfl et) ?_
  refine a_q rfl gn rfl (fun w' => y_move rfl et) ?_
  obtain ⟨ho1, h⟩ := chk_some h
  refine a_q rfl gn rfl (fun w' => y_rem rfl et et ho1) ?_
  refine a_q rfl gn rfl (fun w' => y_assign rfl et) ?_
  refine a_q rfl gn rfl (fun w' => y_assign rfl et) ?_
  refine a_nil ?_
  exact k_loop (fuel1, b2, Int.tmod a2 b2) ⟨rfl, rfl, trivial⟩ ⟨_, hI.arr .n trivial, h⟩ (Nat.lt_succ_self _)
 refine c_exit ?_
 refine k_in ?_
 refine k_same (sr (sm ?_))
 refine sa ?_
 refine nk (c_ret ?_)
 obtain rfl := some_inj h
 exact q_ret (vs := [vi a2]) Tryz.results92 ⟨ev_tmp rfl rfl, trivial⟩ (fq hI trivial)
theorem c_base_Val (F : NP) (w0 : World) (hF : ∀ k, F k → k < w0.heap.size) (t1 : GType) (v1 : GVal) (hc : AllCl [] F w0) (r : Bool)
  (h : m_base_Val t1 v1 = some r) :
  Calls Tryz.prog 56 #[(Value.agg (AType t1)), (Value.agg (AVal v1))] w0 fun e w => e = .returned (vb r) ∧ Ext w0 w ∧ AllCl [] F w := by
 refine enterK Tryz.func56 rfl Tryz.ntmps56 rfl ?_
 have hI := Bun.start hF hc
 clear hc
 rw [m_base_Val] at h
 refine sr (l_box (v := (Value.agg (AType t1))) (cs := (AType t1)) hI gn rfl rfl et rfl ?_)
 clear hI; intro b1 c1 w1 hI
 obtain ⟨c2, hI⟩ := hI.relBox .z
 refine l_box (v := (Value.agg (AVal v1))) (cs := (AVal v1)) hI gn rfl rfl et rfl ?_
 clear hI; intro b2 c3 w2 hI
 obtain ⟨c4, hI⟩ := hI.relBox .z
 refine sac ?_
 refine nk (c_seq (sr (sq (y_fieldAddr rfl et u23 rfl size_3 rfl) ?_)))
 refine sq (y_load1 (v := (vi t1.Kind)) rfl et u3 rfl (hI.kblk (l := [vi t1.Kind]) (.s .z) rfl).1) ?_
 refine sq (y_eql rfl et ev_const) ?_
 refine nk (cif h et (fun hb h => ?_) (fun hb h => ?_))
 ·refine sr (sq (y_fieldAddr rfl et u23 rfl size_3 rfl) ?_)
  refine sq (y_load1 (v := (vi t1.Bits)) rfl et u3 rfl (hI.kblk (l := [vi t1.Bits]) (.s .z) rfl).1) ?_
  refine sq (y_sub rfl et ev_const) ?_
  obtain ⟨ho1, h⟩ := chk_some h
  refine sq (y_shl rfl ev_const et ho1) ?_
  obtain ⟨half1, hx1, h⟩ := bnd_some h
  refine sq (binU (y_assign rfl et) (congrArg (Value.int .i64) (some_inj hx1))) ?_
  refine nk (sr (sq (y_fieldAddr rfl et u36 rfl size_2 rfl) ?_))
  refine sq (y_load1 (v := (vi v1.D)) rfl et u2 rfl (hI.kblk (l := [vi v1.D]) .z rfl).1) ?_
  refine sq (y_eql rfl et ev_const) ?_
  refine sm ?_
  refine s_gval (g_true rfl rfl rfl rfl) rfl (fun hc => y_fieldAddr rfl et u36 rfl size_2 rfl) ?_
  refine s_gval (g_true rfl rfl rfl rfl) rfl (fun hc => (y_load1 (v := (vi v1.N)) rfl (ev_gv et hc) u2 rfl (hI.kblk (l := [vi v1.N]) .z rfl).1)) ?_
  refine s_gval (g_true rfl rfl rfl rfl) rfl (fun hc => y_move rfl et) ?_
  refine s_gval (g_true rfl rfl rfl rfl) rfl (fun hc => y_neg rfl (ev_gv et hc)) ?_
  refine s_gval (g_true rfl rfl rfl rfl) rfl (fun hc => y_geq rfl (ev_gv et hc) (ev_gv et hc)) ?_
  refine sq (y_and rfl et et) ?_
  refine sm ?_
  refine s_gval (g_true rfl rfl rfl rfl) rfl (fun hc => y_fieldAddr rfl et u36 rfl size_2 rfl) ?_
  refine s_gval (g_true rfl rfl rfl rfl) rfl (fun hc => (y_load1 (v := (vi v1.N)) rfl (ev_gv et hc) u2 rfl (hI.kblk (l := [vi v1.N]) .z rfl).1)) ?_
  refine s_gval (g_true rfl rfl rfl rfl) rfl (fun hc => y_move rfl et) ?_
  refine s_gval (g_true rfl rfl rfl rfl) rfl (fun hc => y_lss rfl (ev_gv et hc) (ev_gv et hc)) ?_
  refine sq (y_and rfl et et) ?_
  refine sa ?_
  refine s_nil ?_
  refine k_next (e := [(4, (vb (((decide (v1.D = 1)) && (decide (wi64 (-half1) ≤ v1.N))) && (decide (v1.N < half1)))))]) ⟨rfl, trivial⟩ ?_
  refine c_ret ?_
  obtain rfl := some_inj h
  exact q_ret (vs := [(vb (((decide (v1.D = 1)) && (decide (wi64 (-half1) ≤ v1.N))) && (decide (v1.N < half1))))]) Tryz.results56 ⟨ev_tmp rfl rfl, trivial⟩ (fq hI trivial)
 refine c_skip (k_same (c_seq (sr (sq (y_fieldAddr rfl et u36 rfl size_2 rfl) ?_))))
 refine sq (y_load1 (v := (vi v1.N)) rfl et u2 rfl (hI.kblk (l := [vi v1.N]) .z rfl).1) ?_
 refine sq (y_gtr rfl et ev_const) ?_
 refine sm ?_
 refine s_gval (g_false rfl rfl rfl rfl) rfl (fun hc => y_fieldAddr rfl et u36 rfl size_2 rfl) ?_
 refine s_gval (g_false rfl rfl rfl rfl) rfl (fun hc => (y_load1 (v := (vi v1.N)) rfl (ev_gv et hc) u2 rfl (hI.kblk (l := [vi v1.N]) .z rfl).1)) ?_
 refine s_gval (g_false rfl rfl rfl rfl) rfl (fun hc => y_lss rfl (ev_gv et hc) ev_const) ?_
 refine sq (y_or rfl et et) ?_
 refine sm ?_
 refine s_gval (g_false rfl rfl rfl rfl) rfl (fun hc => y_fieldAddr rfl et u36 rfl size_2 rfl) ?_
 refine s_gval (g_false rfl rfl rfl rfl) rfl (fun hc => (y_load1 (v := (vi v1.D)) rfl (ev_gv et hc) u2 rfl (hI.kblk (l := [vi v1.D]) .z rfl).1)) ?_
 refine s_gval (g_false rfl rfl rfl rfl) rfl (fun hc => y_lss rfl (ev_gv et hc) ev_const) ?_
 refine sq (y_or rfl et et) ?_
 refine sm ?_
 refine s_gval (g_false rfl rfl rfl rfl) rfl (fun hc => y_fieldAddr rfl et u36 rfl size_2 rfl) ?_
 refine s_gval (g_false rfl rfl rfl rfl) rfl (fun hc => (y_load1 (v := (vi v1.D)) rfl (ev_gv et hc) u2 rfl (hI.kblk (l := [vi v1.D]) .z rfl).1)) ?_
 refine s_gval (g_false rfl rfl rfl rfl) rfl (fun hc => y_gtr rfl (ev_gv et hc) ev_const) ?_
 refine sq (y_or rfl et et) ?_
 refine nk (cif h et (fun hb h => ?_) (fun hb h => ?_))
 ·refine sr (sac ?_)
  refine s_nil ?_
  refine k_next (e := [(4, vb false)]) ⟨rfl, trivial⟩ ?_
  refine c_ret ?_
  obtain rfl := some_inj h
  exact q_ret (vs := [vb false]) Tryz.results56 ⟨ev_tmp rfl rfl, trivial⟩ (fq hI trivial)
 refine c_skip (k_next (e := [(2, vp b1 0), (3, vp b2 0)]) ⟨rfl, rfl, trivial⟩ ?_)
 refine c_seq (sr (sq (y_fieldAddr rfl et u23 rfl size_3 rfl) ?_))
 refine sq (y_load1 (v := (vi t1.Kind)) rfl et u3 rfl (hI.kblk (l := [vi t1.Kind]) (.s .z) rfl).1) ?_
 refine sq (y_eql rfl et ev_const) ?_
 refine nk (cif h et (fun hb h => ?_) (fun hb h => ?_))
 ·refine sr (sq (y_fieldAddr rfl et u36 rfl size_2 rfl) ?_)
  refine sq (y_load1 (v := (vi v1.D)) rfl et u2 rfl (hI.kblk (l := [vi v1.D]) .z rfl).1) ?_
  refine sq (y_eql rfl et ev_const) ?_
  refine sa ?_
  refine nk (c_ret ?_)
  obtain rfl := some_inj h
  exact q_ret (vs := [(vb (decide (v1.D = 1)))]) Tryz.results56 ⟨ev_tmp rfl rfl, trivial⟩ (fq hI trivial)
 refine c_skip (k_same (sr (sq (y_fieldAddr rfl et u36 rfl size_2 rfl) ?_)))
 refine sq (y_load1 (v := (vi v1.N)) rfl et u2 rfl (hI.kblk (l := [vi v1.N]) .z rfl).1) ?_
 refine sq (y_fieldAddr rfl et u36 rfl size_2 rfl) ?_
 refine sq (y_load1 (v := (vi v1.N)) rfl et u2 rfl (hI.kblk (l := [vi v1.N]) .z rfl).1) ?_
 refine sq (y_neg rfl et) ?_
 refine sq (y_max rfl et et) ?_
 refine sq (y_fieldAddr rfl et u36 rfl size_2 rfl) ?_
 refine sq (y_load1 (v := (vi v1.D)) rfl et u2 rfl (hI.kblk (l := [vi v1.D]) .z rfl).1) ?_
 obtain ⟨r1, hx2, h⟩ := bnd_some h
 refine s_call gn rfl (r_callF (vs := [(vi (max v1.N (wi64 (-v1.N)))), vi v1.D]) rfl ok_92 ⟨et, ⟨et, trivial⟩⟩) (Calls.mono (c_base_gcd (Dj F c4) w2 hI.lt (max v1.N (wi64 (-v1.N))) v1.D trivial r1 hx2) ?_)
 rintro _ w3 ⟨rfl, hx3, hl1⟩
 refine ⟨_, rfl, ?_⟩
 replace hI := (hI.ext hx3)
 refine sq (y_eql rfl et ev_const) ?_
 refine sa ?_
 refine nk (c_ret ?_)
 obtain rfl := some_inj h
 exact q_ret (vs := [(vb (decide (r1 = 1)))]) Tryz.results56 ⟨ev_tmp rfl rfl, trivial⟩ (fq hI trivial)
theorem c_ref12_Validate (F : NP) (w0 : World) (hF : ∀ k, F k → k < w0.heap.size) (t1 : GTensor) (a1 : Option Addr) (c1 : Nat) (a2 : Option Addr) (c2 : Nat) (hc : AllCl [Cl.sl (cInt .i64) a1 c1 t1.Dims, Cl.sl cGVal a2 c2 t1.Vals] F w0) (r : Int)
  (h : m_ref12_Validate t1 = some r) :
  Calls Tryz.prog 26 #[(Value.agg (ATensor t1 a1 c1 a2 c2))] w0 fun e w => e = .returned (vi r) ∧ Ext w0 w ∧ AllCl [] F w := by
 refine enterK Tryz.func26 rfl Tryz.ntmps26 rfl ?_
 have hI := Bun.start hF hc
 clear hc
 rw [m_ref12_Validate] at h
 refine sr (l_box (v := (Value.agg (ATensor t1 a1 c1 a2 c2))) (cs := (ATensor t1 a1 c1 a2 c2)) hI gn rfl rfl et rfl ?_)
 clear hI; intro b1 c3 w1 hI
 obtain ⟨c4, hI⟩ := hI.relBox .z
 refine sac ?_
 refine nk (c_seq (sr (sq (y_fieldAddr rfl et u27 rfl size_23 rfl) ?_)))
 refine sq (y_loadN (l := (lType t1.Type_)) rfl et u23 rfl size_23 (hI.kblk (l := (lType t1.Type_)) .z rfl).1) ?_
 obtain ⟨r1, hx1, h⟩ := bnd_some h
 refine s_call gn rfl (r_callF (vs := [(Value.agg (AType t1.Type_))]) rfl ok_60 ⟨et, trivial⟩) (Calls.mono (c_base_Type (Dj F c4) w1 hI.lt t1.Type_ trivial r1 hx1) ?_)
 rintro _ w2 ⟨rfl, hx2, hl1⟩
 refine ⟨_, rfl, ?_⟩
 replace hI := (hI.ext hx2)
 refine sq (y_not rfl et) ?_
 refine nk (cif h et (fun hb h => ?_) (fun hb h => ?_))
 ·refine sr (sac ?_)
  refine nk (c_ret ?_)
  obtain rfl := some_inj h
  exact q_ret (vs := [vi 10]) Tryz.results26 ⟨ev_tmp rfl rfl, trivial⟩ (fq hI trivial)
 refine c_skip (k_same (c_seq (sr (sq (y_fieldAddr rfl et u27 rfl size_24 rfl) ?_))))
 refine sq (y_load1 (v := (vs a1 t1.Dims.length c1)) rfl et u24 rfl (hI.kblk (l := [vs a1 t1.Dims.length c1]) .z rfl).1) ?_
 obtain ⟨r2, hx3, h⟩ := bnd_some h
 refine s_call gn rfl (r_callF (vs := [vs a1 t1.Dims.length c1]) rfl ok_61 ⟨et, trivial⟩) (Calls.mono (c_ref12_Shape (Dj F c4) w2 hI.lt t1.Dims a1 c1 ⟨(hI.get (.s .z)), trivial⟩ r2 hx3) ?_)
 rintro _ w3 ⟨rfl, hx4, hl2⟩
 refine ⟨_, rfl, ?_⟩
 replace hI := (hI.ext hx4)
 refine sa ?_
 refine nk (sr (sm ?_))
 refine sq (y_neq rfl et ev_const) ?_
 refine nk (cif h et (fun hb h => ?_) (fun hb h => ?_))
 ·refine sr (sm ?_)
  refine sa ?_
  refine nk (c_ret ?_)
  obtain rfl := some_inj h
  exact q_ret (vs := [vi r2]) Tryz.results26 ⟨ev_tmp rfl rfl, trivial⟩ (fq hI trivial)
 refine c_skip (k_same (c_seq (c_seq (c_drawX [] false (.c (0, .q) (.c (1, .q) (.c (2, .q) (.c (3, .q) (.c (4, .q) (.c (5, .s) (.c (6, .q) .n))))))) hI (by kernel_rfl) (by kernel_rfl) ?_))))
 clear hI; intro w4 hI
 refine a_q rfl gn rfl (fun w' => y_fieldAddr rfl et u27 rfl size_25 rfl) ?_
 refine a_read rfl gn rfl (fun w' hw' => (y_load1 (v := (vs a2 t1.Vals.length c2)) rfl et u25 rfl ((hI.kblk (l := [vs a2 t1.Vals.length c2]) .z rfl).at_ (SX.any rfl hw')))) (by kernel_rfl) ?_
 refine a_q rfl gn rfl (fun w' => y_lenl rfl u25 et) ?_
 refine a_q rfl gn rfl (fun w' => y_fieldAddr rfl et u27 rfl size_24 rfl) ?_
 refine a_read rfl gn rfl (fun w' hw' => (y_load1 (v := (vs a1 t1.Dims.length c1)) rfl et u24 rfl ((hI.kblk (l := [vs a1 t1.Dims.length c1]) .z rfl).at_ (SX.any rfl hw')))) (by kernel_rfl) ?_
 obtain ⟨r3, hx5, h⟩ := bnd_some h
 refine la_call rfl gn rfl (r_callF (vs := [vs a1 t1.Dims.length c1]) rfl ok_44 ⟨et, trivial⟩) (Calls.mono (c_ref12_Size (Dj F c4) w4 hI.lt t1.Dims a1 c1 ⟨(hI.get (.s .z)), trivial⟩ r3 hx5) ?_)
 rintro _ w5 ⟨rfl, hx6, hl3⟩
 refine ⟨_, rfl, hx6, ?_⟩
 replace hI := (hI.ext hx6)
 refine a_q rfl gn rfl (fun w' => y_neq rfl et et) ?_
 refine a_nil ?_
 refine k_same (cif h et (fun hb h => ?_) (fun hb h => ?_))
 ·refine sr (sac ?_)
  refine nk (c_ret ?_)
  obtain rfl := some_inj h
  exact q_ret (vs := [vi 1]) Tryz.results26 ⟨ev_tmp rfl rfl, trivial⟩ (fq hI trivial)
 refine c_skip (k_same (c_seq (sr (sac ?_))))
 refine nk (c_block (c_loop (α := Nat × Int) (fun x => fun w => ∃ C, Bun noM F w0 C w [] [Cl.blk b1 27 (ATensor t1 a1 c1 a2 c2), Cl.sl (cInt .i64) a1 c1 t1.Dims, Cl.sl cGVal a2 c2 t1.Vals] ∧ m_ref12_Validate_l1 t1 (x.1) (x.2) = some r) (fun x _ => x.1) (fun x => [(1, vp b1 0), (4, vi (x.2))]) (fu, 0) ⟨_, hI.arr .n ⟨.z, (.s .z), (.s (.s .z)), trivial⟩, h⟩ ⟨rfl, rfl, trivial⟩ ?_))
 clear h hI; rintro ⟨fuel1, i1⟩ w6 ⟨c5, hI, h⟩
 dsimp only at hI h
 rcases fuel1 with _ | fuel1
 ·rw [m_ref12_Validate_l1] at h; cases h
 rw [m_ref12_Validate_l1] at h
 refine c_sub (e := [(1, vp b1 0), (4, vi i1)]) ⟨rfl, rfl, trivial⟩ ?_
 refine c_seq (sr (sm ?_))
 refine sq (y_fieldAddr rfl et u27 rfl size_25 rfl) ?_
 refine sq (y_load1 (v := (vs a2 t1.Vals.length c2)) rfl et u25 rfl (hI.kblk (l := [vs a2 t1.Vals.length c2]) .z rfl).1) ?_
 refine sq (y_lenl rfl u25 et) ?_
 refine sq (y_lss rfl et et) ?_
 refine nk (cif h et (fun hb h => ?_) (fun hb h => ?_))
 ·refine c_skip (k_same (c_seq (c_block (c_seq (c_drawX [] false (.c (0, .q) (.c (1, .q) (.c (2, .q) (.c (3, .q) (.c (4, .q) (.c (5, .q) (.c (6, .q) (.c (7, .s) (.c (8, .q) .n))))))))) hI (by kernel_rfl) (by kernel_rfl) ?_)))))
  clear hI; intro w7 hI
  refine a_q rfl gn rfl (fun w' => y_fieldAddr rfl et u27 rfl size_23 rfl) ?_
  refine a_read rfl gn rfl (fun w' hw' => (y_loadN (l := (lType t1.Type_)) rfl et u23 rfl size_23 ((hI.kblk (l := (lType t1.Type_)) .z rfl).at_ (SX.any rfl hw')))) (by kernel_rfl) ?_
  refine a_q rfl gn rfl (fun w' => y_fieldAddr rfl et u27 rfl size_25 rfl) ?_
  refine a_read rfl gn rfl (fun w' hw' => (y_load1 (v := (vs a2 t1.Vals.length c2)) rfl et u25 rfl ((hI.kblk (l := [vs a2 t1.Vals.length c2]) .z rfl).at_ (SX.any rfl hw')))) (by kernel_rfl) ?_
  refine a_q rfl gn rfl (fun w' => y_move rfl et) ?_
  obtain ⟨e1, hx7, h⟩ := bnd_some h
  obtain ⟨ad1, cs1, hA1, hr1, hq1⟩ := hI.clat (.s (.s .z)) hx7
  obtain rfl : cs1 = (lVal e1) := hr1
  refine a_q rfl gn rfl (fun w' => y_indexAddr rfl u25 size_36 et et (lat_bd hx7) hA1) ?_
  refine a_read rfl gn rfl (fun w' hw' => (y_loadN (l := (lVal e1)) rfl et u36 rfl size_36 (hq1.at_ (SX.any rfl hw')))) (by kernel_rfl) ?_
  obtain ⟨r4, hx8, h⟩ := bnd_some h
  refine la_call rfl gn rfl (r_callF (vs := [(Value.agg (AType t1.Type_)), (Value.agg (AVal e1))]) rfl ok_56 ⟨et, ⟨et, trivial⟩⟩) (Calls.mono (c_base_Val (Dj F c5) w7 hI.lt t1.Type_ e1 trivial r4 hx8) ?_)
  rintro _ w8 ⟨rfl, hx9, hl4⟩
  refine ⟨_, rfl, hx9, ?_⟩
  replace hI := (hI.ext hx9)
  refine a_q rfl gn rfl (fun w' => y_not rfl et) ?_
  refine a_nil ?_
  refine k_same (cif h et (fun hb h => ?_) (fun hb h => ?_))
  ·refine sr (sac ?_)
   refine nk (c_ret ?_)
   obtain rfl := some_inj h
   exact q_ret (vs := [vi 1]) Tryz.results26 ⟨ev_tmp rfl rfl, trivial⟩ (fq hI trivial)
  refine c_skip (k_same (c_region rfl ?_))
  refine sm ?_
  refine sq (y_add rfl et ev_const) ?_
  refine sa ?_
  refine s_nil ?_
  exact k_loop (fuel1, wi64 (i1 + 1)) ⟨rfl, rfl, trivial⟩ ⟨_, hI.arr .n ⟨.z, (.s .z), (.s (.s .z)), trivial⟩, h⟩ (Nat.lt_succ_self _)
 refine c_exit ?_
 refine k_in ?_
 refine k_same (sr (sac ?_))
 refine nk (c_ret ?_)
 obtain rfl := some_inj h
 exact q_ret (vs := [vi 0]) Tryz.results26 ⟨ev_tmp rfl rfl, trivial⟩ (fq hI trivial)
end Go.Proofs.YtlakfanockhngaaGreatDoor
