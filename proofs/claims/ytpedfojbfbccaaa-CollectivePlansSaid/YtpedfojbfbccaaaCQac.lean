/- Each call returns what its plain function gives: printed by a program of my own; Lean checks it. -/
import Derived.Test.YtpedfojbfbccaaaCQab
namespace Go.Proofs.Ytpedfojbfbccaaa
open Go Go.RowKit Go.Vc
set_option linter.unusedVariables false
set_option linter.unusedSimpArgs false

set_option maxRecDepth 100000 in
set_option maxHeartbeats 4000000 in
theorem c_shape_Slice (F : NP) (w0 : World) (hF : ∀ k, F k → k < w0.heap.size) (d1 : List Int) (axis1 : Int) (from1 : Int) (to1 : Int) (a1 : Option Addr) (c1 : Nat) (hc : AllCl [Cl.sl (cInt .i64) a1 c1 d1] F w0) (r : List Int × Int)
  (h : m_shape_Slice d1 axis1 from1 to1 = some r) :
  Calls Try.prog 50 #[(vs a1 d1.length c1), (vi axis1), (vi from1), (vi to1)] w0 fun e w => ∃ (a2 : Option Addr) (c2 : Nat), e = .returned (Value.tuple #[(vs a2 r.1.length c2), (vi r.2)]) ∧ Ext w0 w ∧ AllCl [Cl.sl (cInt .i64) a2 c2 r.1] F w := by
 refine enterK (l := [(vs a1 d1.length c1), (vi axis1), (vi from1), (vi to1)]) Try.func50 rfl Try.ntmps50 rfl ?_
 have hI := Bun.start hF hc
 clear hc
 rw [m_shape_Slice] at h
 refine c_seq ?_
 refine c_region rfl ?_
 refine sq (y_assign rfl ev_const) ?_
 refine sq (y_assign rfl ev_const) ?_
 refine s_nil ?_
 refine k_same ?_
 refine c_seq ?_
 refine c_seq ?_
 refine c_region rfl ?_
 refine sq (y_move rfl et) ?_
 obtain ⟨r1, hx1, h⟩ := bnd_some h
 refine s_call gn rfl (r_callF (vs := [(vs a1 d1.length c1)]) rfl ok_43 ⟨et, trivial⟩) (Calls.mono (c_shape_Validate (Dj F noM) w0 hI.lt d1 a1 c1 ⟨(hI.get .z), trivial⟩ r1 hx1) ?_)
 rintro _ w1 ⟨rfl, hx2, hl1⟩
 refine ⟨_, rfl, ?_⟩
 replace hI := (hI.ext hx2)
 refine sq (y_assign rfl et) ?_
 refine s_nil ?_
 refine k_same ?_
 refine c_seq ?_
 refine c_region rfl ?_
 refine sq (y_move rfl et) ?_
 refine sq (y_neq rfl et ev_const) ?_
 refine s_nil ?_
 refine k_same ?_
 refine c_cond (b := !decide (r1 = 0)) et (fun hb => ?_) (fun hb => ?_)
 ·replace h := ite_t hb h
  refine c_seq ?_
  refine c_region rfl ?_
  refine sq (y_move rfl et) ?_
  refine sq (y_assign rfl ev_const) ?_
  refine sq (y_assign rfl et) ?_
  refine s_nil ?_
  refine k_same ?_
  refine c_ret ?_
  have hI := hI.add (c := Cl.sl (cInt .i64) none 0 ([] : List Int)) SlC.nil
  obtain rfl := some_inj h
  exact q_ret (vs := [(vs none 0 0), (vi r1)]) Try.results50 ⟨ev_tmp rfl rfl, ⟨ev_tmp rfl rfl, trivial⟩⟩ ⟨none, 0, rfl, hI.ext0, hI.fin ⟨.z, trivial⟩⟩
 ·replace h := ite_f hb h
  refine c_skip ?_
  refine k_same ?_
  refine c_seq ?_
  refine c_seq ?_
  refine c_region rfl ?_
  refine sq (y_move rfl et) ?_
  refine sq (y_lss rfl et ev_const) ?_
  refine sq (y_move rfl et) ?_
  refine s_gval (g_false rfl rfl rfl rfl) rfl (fun hc => (y_move rfl et)) ?_
  refine s_gval (g_false rfl rfl rfl rfl) rfl (fun hc => (y_move rfl et)) ?_
  refine s_gval (g_false rfl rfl rfl rfl) rfl (fun hc => (y_lenl rfl Try.underlying22 (ev_gv et hc))) ?_
  refine s_gval (g_false rfl rfl rfl rfl) rfl (fun hc => (y_geq rfl (ev_gv et hc) (ev_gv et hc))) ?_
  refine sq (y_or rfl et et) ?_
  refine s_nil ?_
  refine k_same ?_
  refine c_cond (b := (decide (axis1 < 0)) || (decide ((d1.length : Int) ≤ axis1))) et (fun hb => ?_) (fun hb => ?_)
  ·replace h := ite_t hb h
   refine c_seq ?_
   refine c_region rfl ?_
   refine sq (y_assign rfl ev_const) ?_
   refine sq (y_assign rfl ev_const) ?_
   refine s_nil ?_
   refine k_same ?_
   refine c_ret ?_
   have hI := hI.add (c := Cl.sl (cInt .i64) none 0 ([] : List Int)) SlC.nil
   obtain rfl := some_inj h
   exact q_ret (vs := [(vs none 0 0), (vi 11)]) Try.results50 ⟨ev_tmp rfl rfl, ⟨ev_tmp rfl rfl, trivial⟩⟩ ⟨none, 0, rfl, hI.ext0, hI.fin ⟨.z, trivial⟩⟩
  ·replace h := ite_f hb h
   refine c_skip ?_
   refine k_same ?_
   refine c_seq ?_
   refine c_seq ?_
   refine c_region rfl ?_
   refine sq (y_move rfl et) ?_
   refine sq (y_lss rfl et ev_const) ?_
   refine sq (y_move rfl et) ?_
   refine s_gval (g_false rfl rfl rfl rfl) rfl (fun hc => (y_move rfl et)) ?_
   refine s_gval (g_false rfl rfl rfl rfl) rfl (fun hc => (y_move rfl et)) ?_
   refine s_gval (g_false rfl rfl rfl rfl) rfl (fun hc => (y_geq rfl (ev_gv et hc) (ev_gv et hc))) ?_
   refine sq (y_or rfl et et) ?_
   refine sq (y_move rfl et) ?_
   refine s_gval (g_false rfl rfl rfl rfl) rfl (fun hc => (y_move rfl et)) ?_
   refine s_gval (g_false rfl rfl rfl rfl) rfl (fun hc => (y_move rfl et)) ?_
   refine s_gval (g_false rfl rfl rfl rfl) rfl (fun hc => (y_move rfl et)) ?_
   obtain ⟨e1, hx3, h⟩ := bnd_some h
   replace hx3 := gd_some hx3
   obtain ⟨ad1, cs1, hq1⟩ := hI.gclat .z hx3
   have hq2 : (!((decide (from1 < 0)) || (decide (to1 ≤ from1)))) = true → CA (Dj F noM) w1 (ad1.add (Int.toNat axis1 * 1)) [(vi e1)] := fun hc => by have k := hq1 hc; have e : cs1 = _ := k.2.1; rw [← e]; exact k.2.2
   refine s_gval (g_false rfl rfl rfl rfl) rfl (fun hc => (y_indexAddr rfl Try.underlying22 size_3 (ev_gv et hc) (ev_gv et hc) (lat_bd (hx3 hc)) (hq1 hc).1)) ?_
   refine s_gval (g_false rfl rfl rfl rfl) rfl (fun hc => (y_load1 (v := (vi e1)) rfl (ev_gv et hc) Try.underlying3 rfl (hq2 hc).1)) ?_
   refine s_gval (g_false rfl rfl rfl rfl) rfl (fun hc => (y_gtr rfl (ev_gv et hc) (ev_gv et hc))) ?_
   refine sq (y_or rfl et et) ?_
   refine s_nil ?_
   refine k_next (e := [(0, (vs a1 d1.length c1)), (1, (vi axis1)), (2, (vi from1)), (3, (vi to1)), (39, (vb (((decide (from1 < 0)) || (decide (to1 ≤ from1))) || (decide (e1 < to1)))))]) ⟨rfl, rfl, rfl, rfl, rfl, trivial⟩ ?_
   refine c_cond (b := ((decide (from1 < 0)) || (decide (to1 ≤ from1))) || (decide (e1 < to1))) et (fun hb => ?_) (fun hb => ?_)
   ·replace h := ite_t hb h
    refine c_seq ?_
    refine c_region rfl ?_
    refine sq (y_assign rfl ev_const) ?_
    refine sq (y_assign rfl ev_const) ?_
    refine s_nil ?_
    refine k_same ?_
    refine c_ret ?_
    have hI := hI.add (c := Cl.sl (cInt .i64) none 0 ([] : List Int)) SlC.nil
    obtain rfl := some_inj h
    exact q_ret (vs := [(vs none 0 0), (vi 12)]) Try.results50 ⟨ev_tmp rfl rfl, ⟨ev_tmp rfl rfl, trivial⟩⟩ ⟨none, 0, rfl, hI.ext0, hI.fin ⟨.z, trivial⟩⟩
   ·replace h := ite_f hb h
    refine c_skip ?_
    refine k_same ?_
    refine c_seq ?_
    refine c_region rfl ?_
    refine sq (y_move rfl et) ?_
    obtain ⟨c3, f1, hB, hl2, hk1⟩ := hI.hands .n
    obtain ⟨r2, hx4, h⟩ := bnd_some h
    try dsimp only at h
    refine s_call gn rfl (r_callF (vs := [(vs a1 d1.length c1)]) rfl ok_39 ⟨et, trivial⟩) (Calls.mono (c_slices_Clone_int_int_o c3 f1 w1 d1 a1 c1 (hB.subs ⟨.z, trivial⟩) _ hx4) ?_)
    rintro _ w2 ⟨a3, c4, c5, rfl, hB2⟩
    obtain ⟨c6, hs1, hI⟩ := hk1 _ _ _ _ hB2
    replace hI : Bun noM F w0 c6 w2 [MO.row (cInt .i64) 3 a3 c4 r2] [Cl.sl (cInt .i64) a1 c1 d1] := hI
    refine ⟨_, rfl, ?_⟩
    refine sq (y_assign rfl et) ?_
    refine s_nil ?_
    refine k_same ?_
    refine c_seq ?_
    refine c_region rfl ?_
    refine sq (y_move rfl et) ?_
    refine sq (y_move rfl et) ?_
    refine sq (y_move rfl et) ?_
    refine sq (y_move rfl et) ?_
    refine sq (y_sub rfl et et) ?_
    obtain ⟨ho1, h⟩ := chk_some h
    obtain ⟨ad2, hA2⟩ := hI.addr .z ho1
    refine sq (y_indexAddr rfl Try.underlying22 size_3 et et ho1 hA2) ?_
    refine l_storeRow (p := Int.toNat axis1) (new := [(vi (wi64 (to1 - from1)))]) (off := 0) (x' := wi64 (to1 - from1)) hI .z gn rfl rfl (by have := ho1; omega) hA2 rfl et et rfl size_3 rfl (by show 0 + 1 ≤ 1; omega) (fun _ cs0 _ hr0 => by rw [spl_full (by have e := Cod.len _ hr0; exact e)]; exact rfl) ?_
    clear hI; intro c7 w3 hI
    refine s_nil ?_
    refine k_next (e := [(11, (vs a3 (r2.set (Int.toNat axis1) (wi64 (to1 - from1))).length c4))]) ⟨(lookset rfl), trivial⟩ ?_
    refine c_seq ?_
    refine c_region rfl ?_
    refine sq (y_move rfl et) ?_
    refine sq (y_assign rfl et) ?_
    refine sq (y_assign rfl ev_const) ?_
    refine s_nil ?_
    refine k_same ?_
    refine c_ret ?_
    obtain ⟨c8, hI⟩ := hI.release .z
    obtain rfl := some_inj h
    exact q_ret (vs := [(vs a3 (r2.set (Int.toNat axis1) (wi64 (to1 - from1))).length c4), (vi 0)]) Try.results50 ⟨ev_tmp rfl rfl, ⟨ev_tmp rfl rfl, trivial⟩⟩ ⟨a3, c4, rfl, hI.ext0, hI.fin ⟨.z, trivial⟩⟩

set_option maxRecDepth 100000 in
set_option maxHeartbeats 4000000 in
theorem c_tensor_Slice_1 (F : NP) (w0 : World) (hF : ∀ k, F k → k < w0.heap.size) (p1 : List Int) (a2 : Int) (a3 : Int) (a1 : Option Addr) (c1 : Nat) (b1 : Nat) (b2 : Nat) (hc : AllCl [Cl.sl (cInt .i64) a1 c1 p1, Cl.blk b1 3 #[(vi a2)], Cl.blk b2 3 #[(vi a3)]] F w0) (r : List Int)
  (h : m_tensor_Slice_1 p1 a2 a3 = some r) :
  Calls Try.prog 52 #[(vs a1 p1.length c1), (vp b1 0), (vp b2 0)] w0 fun e w => ∃ (a4 : Option Addr) (c2 : Nat), e = .returned (vs a4 r.length c2) ∧ Ext w0 w ∧ AllCl [Cl.sl (cInt .i64) a4 c2 r] F w := by
 refine enterK (l := [(vs a1 p1.length c1), (vp b1 0), (vp b2 0)]) Try.func52 rfl Try.ntmps52 rfl ?_
 have hI := Bun.start hF hc
 clear hc
 rw [m_tensor_Slice_1] at h
 refine c_seq ?_
 refine c_region rfl ?_
 refine sq (y_assign rfl ev_const) ?_
 refine s_nil ?_
 refine k_same ?_
 refine c_seq ?_
 refine c_region rfl ?_
 refine sq (y_move rfl et) ?_
 obtain ⟨zs1, hx1, h⟩ := bnd_some h
 replace hI := hI.nil (cInt .i64) 3 none
 refine l_append (xs := ([] : List Int)) (ys := p1) hI .z (hI.crd .z) hx1 gn rfl rfl Try.underlying22 info_3 rfl rfl ev_const et ?_
 clear hI; intro a5 c3 c4 w1 hI
 refine sq (y_assign rfl et) ?_
 refine s_nil ?_
 refine k_same ?_
 refine c_seq ?_
 refine c_drawX [7] false (.c (0, .q) (.c (1, .q) (.c (2, .q) (.c (3, .q) (.c (4, .q) (.c (5, .q) (.c (6, .q) (.c (7, .s) .n)))))))) hI (by kernel_rfl) (by kernel_rfl) ?_
 clear hI; intro w2 hI
 refine a_q rfl gn rfl (fun w' => (y_move rfl et)) ?_
 refine a_read rfl gn rfl (fun w' hw' => (y_load1 (v := (vi a2)) rfl et Try.underlying3 rfl ((hI.kblk (l := [(vi a2)]) (.s .z) rfl).at_ (SX.any rfl hw')))) (by kernel_rfl) ?_
 obtain ⟨e1, hx2, h⟩ := bnd_some h
 obtain ⟨ad1, cs1, hA1, hr1, hq1⟩ := hI.olat .z hx2
 obtain rfl : cs1 = [(vi e1)] := hr1
 refine a_q rfl gn rfl (fun w' => (y_indexAddr rfl Try.underlying22 size_3 et et (lat_bd hx2) hA1)) ?_
 refine a_read rfl gn rfl (fun w' hw' => (y_load1 (v := (vi e1)) rfl et Try.underlying3 rfl (hq1.at_ (SX.any rfl hw')))) (by kernel_rfl) ?_
 refine a_read rfl gn rfl (fun w' hw' => (y_load1 (v := (vi a3)) rfl et Try.underlying3 rfl ((hI.kblk (l := [(vi a3)]) (.s (.s .z)) rfl).at_ (SX.any rfl hw')))) (by kernel_rfl) ?_
 refine a_q rfl gn rfl (fun w' => (y_add rfl et et)) ?_
 obtain ⟨ho1, h⟩ := chk_some h
 obtain ⟨ad2, hA2⟩ := hI.addr .z ho1
 refine a_q rfl gn rfl (fun w' => (y_indexAddr rfl Try.underlying22 size_3 et et ho1 hA2)) ?_
 refine a_turn (F := F) (C := c4) rfl rfl ?_
 refine la_storeRow (p := Int.toNat a2) (new := [(vi (wi64 (e1 + a3)))]) (off := 0) (x' := wi64 (e1 + a3)) hI .z rfl gn rfl rfl (by have := ho1; omega) hA2 rfl et et rfl size_3 rfl (by show 0 + 1 ≤ 1; omega) (fun _ cs0 _ hr0 => by rw [spl_full (by have e := Cod.len _ hr0; exact e)]; exact rfl) ?_
 clear hI; intro c5 w3 hI
 refine a_nil ?_
 refine k_next (e := [(5, (vs a5 (zs1.set (Int.toNat a2) (wi64 (e1 + a3))).length c3))]) ⟨(lookset rfl), trivial⟩ ?_
 refine c_seq ?_
 refine c_region rfl ?_
 refine sq (y_move rfl et) ?_
 refine sq (y_assign rfl et) ?_
 refine s_nil ?_
 refine k_same ?_
 refine c_ret ?_
 obtain ⟨c6, hI⟩ := hI.release .z
 obtain rfl := some_inj h
 exact q_ret (vs := [(vs a5 (zs1.set (Int.toNat a2) (wi64 (e1 + a3))).length c3)]) Try.results52 ⟨ev_tmp rfl rfl, trivial⟩ ⟨a5, c3, rfl, hI.ext0, hI.fin ⟨.z, trivial⟩⟩

set_option maxRecDepth 100000 in
set_option maxHeartbeats 4000000 in
theorem c_shape_Point (F : NP) (w0 : World) (hF : ∀ k, F k → k < w0.heap.size) (d1 : List Int) (at1 : Int) (a1 : Option Addr) (c1 : Nat) (hc : AllCl [Cl.sl (cInt .i64) a1 c1 d1] F w0) (r : List Int × Bool)
  (h : m_shape_Point d1 at1 = some r) :
  Calls Try.prog 65 #[(vs a1 d1.length c1), (vi at1)] w0 fun e w => ∃ (a2 : Option Addr) (c2 : Nat), e = .returned (Value.tuple #[(vs a2 r.1.length c2), (vb r.2)]) ∧ Ext w0 w ∧ AllCl [Cl.sl (cInt .i64) a2 c2 r.1] F w := by
 refine enterK (l := [(vs a1 d1.length c1), (vi at1)]) Try.func65 rfl Try.ntmps65 rfl ?_
 have hI := Bun.start hF hc
 clear hc
 rw [m_shape_Point] at h
 refine c_seq ?_
 refine c_region rfl ?_
 refine sq (y_assign rfl ev_const) ?_
 refine sq (y_assign rfl ev_const) ?_
 refine s_nil ?_
 refine k_same ?_
 refine c_seq ?_
 refine c_seq ?_
 refine c_region rfl ?_
 refine sq (y_move rfl et) ?_
 refine sq (y_lss rfl et ev_const) ?_
 refine sq (y_move rfl et) ?_
 refine s_gval (g_false rfl rfl rfl rfl) rfl (fun hc => (y_move rfl et)) ?_
 refine s_gval (g_false rfl rfl rfl rfl) rfl (fun hc => (y_move rfl et)) ?_
 obtain ⟨r1, hx1, h⟩ := bnd_some h
 replace hx1 := gd_some hx1
 refine s_gcallU (v := (vi r1)) (g_false rfl rfl rfl rfl) rfl (fun hc => (r_callF (vs := [(vs a1 d1.length c1)]) rfl ok_38 ⟨(ev_gv et hc), trivial⟩)) (fun hc => (c_shape_Size (Dj F noM) w0 hI.lt d1 a1 c1 ⟨(hI.get .z), trivial⟩ r1 (hx1 hc)).mono fun _ _ k => ⟨k.1, k.2.1⟩) ?_
 intro w1 hx2; replace hI := hI.ext hx2
 refine s_gval (g_false rfl rfl rfl rfl) rfl (fun hc => (y_geq rfl (ev_gv et hc) (ev_gv et hc))) ?_
 refine sq (y_or rfl et et) ?_
 refine s_nil ?_
 refine k_same ?_
 refine c_cond (b := (decide (at1 < 0)) || (decide (r1 ≤ at1))) et (fun hb => ?_) (fun hb => ?_)
 ·replace h := ite_t hb h
  refine c_seq ?_
  refine c_region rfl ?_
  refine sq (y_assign rfl ev_const) ?_
  refine sq (y_assign rfl ev_const) ?_
  refine s_nil ?_
  refine k_same ?_
  refine c_ret ?_
  have hI := hI.add (c := Cl.sl (cInt .i64) none 0 ([] : List Int)) SlC.nil
  obtain rfl := some_inj h
  exact q_ret (vs := [(vs none 0 0), (vb false)]) Try.results65 ⟨ev_tmp rfl rfl, ⟨ev_tmp rfl rfl, trivial⟩⟩ ⟨none, 0, rfl, hI.ext0, hI.fin ⟨.z, trivial⟩⟩
 ·replace h := ite_f hb h
  refine c_skip ?_
  refine k_same ?_
  refine c_seq ?_
  refine c_region rfl ?_
  refine l_alloc (cs := #[(vi 0), (vi 0), (vi 0), (vi 0), (vi 0), (vi 0)]) hI gn rfl rfl zero_106 rfl ?_
  clear hI; intro b1 c3 w2 hI
  obtain ⟨c4, -, hI⟩ := hI.toArr (xs := (List.replicate 6 (0 : Int))) (enc := (Value.int .i64)) (N := 6) .z rfl rfl
  refine s_nil ?_
  refine k_same ?_
  refine c_seq ?_
  refine c_seq ?_
  refine c_region rfl ?_
  refine sq (y_move rfl et) ?_
  refine sq (y_lenl rfl Try.underlying22 et) ?_
  refine sq (y_sub rfl et ev_const) ?_
  obtain ⟨i1, hx3, h⟩ := bnd_some h
  refine sq (binU (y_assign rfl et) (congrArg (Value.int .i64) (some_inj hx3))) ?_
  refine s_nil ?_
  refine k_same ?_
  refine c_block ?_
  refine c_loop (α := Nat × Int × Int × (List Int)) (fun x => fun w => ∃ C, Bun noM F w0 C w [MO.arr b1 106 (Value.int .i64) 6 (x.2.2.2)] [Cl.sl (cInt .i64) a1 c1 d1] ∧ m_shape_Point_l1 d1 (x.1) (x.2.1) (x.2.2.1) (x.2.2.2) = some r) (fun x _ => x.1) (fun x => [(0, (vs a1 d1.length c1)), (1, (vi (x.2.1))), (6, (vp b1 0)), (7, (vi (x.2.2.1)))]) (fu, at1, i1, (List.replicate 6 (0 : Int))) ⟨_, hI.arr (.c .z .n) ⟨.z, trivial⟩, h⟩ ⟨rfl, rfl, rfl, rfl, trivial⟩ ?_
  clear h hI; rintro ⟨fuel1, at2, i2, p1⟩ w3 ⟨c5, hI, h⟩
  dsimp only at hI h
  rcases fuel1 with _ | fuel1
  ·rw [m_shape_Point_l1] at h; cases h
  rw [m_shape_Point_l1] at h
  refine c_sub (e := [(0, (vs a1 d1.length c1)), (1, (vi at2)), (6, (vp b1 0)), (7, (vi i2))]) ⟨rfl, rfl, rfl, rfl, trivial⟩ ?_
  refine c_seq ?_
  refine c_seq ?_
  refine c_region rfl ?_
  refine sq (y_move rfl et) ?_
  refine sq (y_geq rfl et ev_const) ?_
  refine s_nil ?_
  refine k_same ?_
  refine c_cond (b := decide (0 ≤ i2)) et (fun hb => ?_) (fun hb => ?_)
  ·replace h := ite_t hb h
   refine c_skip ?_
   refine k_same ?_
   refine c_seq ?_
   refine c_block ?_
   refine c_seq ?_
   refine c_region rfl ?_
   refine sq (y_move rfl et) ?_
   refine sq (y_move rfl et) ?_
   refine sq (y_move rfl et) ?_
   refine sq (y_move rfl et) ?_
   obtain ⟨e1, hx4, h⟩ := bnd_some h
   obtain ⟨ad1, cs1, hA1, hr1, hq1⟩ := hI.clat .z hx4
   obtain rfl : cs1 = [(vi e1)] := hr1
   refine sq (y_indexAddr rfl Try.underlying22 size_3 et et (lat_bd hx4) hA1) ?_
   refine sq (y_load1 (v := (vi e1)) rfl et Try.underlying3 rfl hq1.1) ?_
   obtain ⟨ho1, h⟩ := chk_some h
   refine sq (y_rem rfl et et ho1) ?_
   obtain ⟨ho2, h⟩ := chk_some h
   refine sq (y_indexAddrN rfl et et Try.underlying106 size_3 ho2) ?_
   refine l_storeArr (p := i2) (u := Int.tmod at2 e1) hI .z ho2 rfl rfl gn rfl rfl et et size_3 ?_
   clear hI; intro c6 w4 hI
   refine s_nil ?_
   refine k_same ?_
   refine c_region rfl ?_
   refine sq (y_move rfl et) ?_
   refine sq (y_move rfl et) ?_
   refine sq (y_move rfl et) ?_
   obtain ⟨e2, hx5, h⟩ := bnd_some h
   obtain ⟨ad2, cs2, hA2, hr2, hq2⟩ := hI.clat .z hx5
   obtain rfl : cs2 = [(vi e2)] := hr2
   refine sq (y_indexAddr rfl Try.underlying22 size_3 et et (lat_bd hx5) hA2) ?_
   refine sq (y_load1 (v := (vi e2)) rfl et Try.underlying3 rfl hq2.1) ?_
   obtain ⟨ho3, h⟩ := chk_some h
   refine sq (y_quo rfl et et ho3) ?_
   refine sq (y_assign rfl et) ?_
   refine s_nil ?_
   refine k_same ?_
   refine c_region rfl ?_
   refine sq (y_move rfl et) ?_
   refine sq (y_sub rfl et ev_const) ?_
   refine sq (y_assign rfl et) ?_
   refine s_nil ?_
   exact k_loop (fuel1, wi64 (Int.tdiv at2 e2), wi64 (i2 - 1), (p1).set (i2).toNat (Int.tmod at2 e1)) ⟨rfl, rfl, rfl, rfl, trivial⟩ ⟨_, hI.arr (.c .z .n) ⟨.z, trivial⟩, h⟩ (Nat.lt_succ_self _)
  ·replace h := ite_f hb h
   refine c_exit ?_
   refine k_in ?_
   refine k_same ?_
   refine c_seq ?_
   refine c_region rfl ?_
   refine sq (y_move rfl et) ?_
   refine sq (y_lenl rfl Try.underlying22 et) ?_
   obtain ⟨zs1, hx6, h⟩ := bnd_some h
   refine sq (y_sliceArrU rfl et et Try.underlying106 size_3 (hI.arrBlk .z).2 hx6) ?_
   obtain ⟨c7, hI⟩ := hI.relArr (c := (cInt .i64)) .z (fun _ _ _ => rfl)
   replace hI := hI.upto .z hx6
   obtain ⟨c8, f1, hB, hl2, hk1⟩ := hI.hands .n
   obtain ⟨r2, hx7, h⟩ := bnd_some h
   try dsimp only at h
   refine s_call gn rfl (r_callF (vs := [(vs (some ⟨b1, 0, none⟩) zs1.length 6)]) rfl ok_39 ⟨et, trivial⟩) (Calls.mono (c_slices_Clone_int_int_o c8 f1 w3 zs1 (some ⟨b1, 0, none⟩) 6 (hB.subs ⟨.z, trivial⟩) _ hx7) ?_)
   rintro _ w5 ⟨a3, c9, c10, rfl, hB2⟩
   obtain ⟨c11, hs1, hI⟩ := hk1 _ _ _ _ hB2
   replace hI : Bun noM F w0 c11 w5 [MO.row (cInt .i64) 3 a3 c9 r2] [Cl.sl (cInt .i64) (some ⟨b1, 0, none⟩) 6 zs1, Cl.sl (cInt .i64) (some ⟨b1, 0, none⟩) 6 p1, Cl.sl (cInt .i64) a1 c1 d1] := hI
   refine ⟨_, rfl, ?_⟩
   refine sq (y_assign rfl et) ?_
   refine sq (y_assign rfl ev_const) ?_
   refine s_nil ?_
   refine k_same ?_
   refine c_ret ?_
   obtain ⟨c12, hI⟩ := hI.release .z
   obtain rfl := some_inj h
   exact q_ret (vs := [(vs a3 r2.length c9), (vb true)]) Try.results65 ⟨ev_tmp rfl rfl, ⟨ev_tmp rfl rfl, trivial⟩⟩ ⟨a3, c9, rfl, hI.ext0, hI.fin ⟨.z, trivial⟩⟩

set_option maxRecDepth 100000 in
set_option maxHeartbeats 4000000 in
theorem c_shape_Offset (F : NP) (w0 : World) (hF : ∀ k, F k → k < w0.heap.size) (d1 : List Int) (p1 : List Int) (a1 : Option Addr) (c1 : Nat) (a2 : Option Addr) (c2 : Nat) (hc : AllCl [Cl.sl (cInt .i64) a1 c1 d1, Cl.sl (cInt .i64) a2 c2 p1] F w0) (r : Int × Bool)
  (h : m_shape_Offset d1 p1 = some r) :
  Calls Try.prog 66 #[(vs a1 d1.length c1), (vs a2 p1.length c2)] w0 fun e w => e = .returned (Value.tuple #[(vi r.1), (vb r.2)]) ∧ Ext w0 w ∧ AllCl [] F w := by
 refine enterK (l := [(vs a1 d1.length c1), (vs a2 p1.length c2)]) Try.func66 rfl Try.ntmps66 rfl ?_
 have hI := Bun.start hF hc
 clear hc
 rw [m_shape_Offset] at h
 refine c_seq ?_
 refine c_region rfl ?_
 refine sq (y_assign rfl ev_const) ?_
 refine sq (y_assign rfl ev_const) ?_
 refine s_nil ?_
 refine k_same ?_
 refine c_seq ?_
 refine c_seq ?_
 refine c_region rfl ?_
 refine sq (y_move rfl et) ?_
 obtain ⟨r1, hx1, h⟩ := bnd_some h
 refine s_call gn rfl (r_callF (vs := [(vs a1 d1.length c1)]) rfl ok_43 ⟨et, trivial⟩) (Calls.mono (c_shape_Validate (Dj F noM) w0 hI.lt d1 a1 c1 ⟨(hI.get .z), trivial⟩ r1 hx1) ?_)
 rintro _ w1 ⟨rfl, hx2, hl1⟩
 refine ⟨_, rfl, ?_⟩
 replace hI := (hI.ext hx2)
 refine sq (y_neq rfl et ev_const) ?_
 refine sq (y_move rfl et) ?_
 refine s_gval (g_false rfl rfl rfl rfl) rfl (fun hc => (y_move rfl et)) ?_
 refine s_gval (g_false rfl rfl rfl rfl) rfl (fun hc => (y_lenl rfl Try.underlying22 (ev_gv et hc))) ?_
 refine s_gval (g_false rfl rfl rfl rfl) rfl (fun hc => (y_move rfl et)) ?_
 refine s_gval (g_false rfl rfl rfl rfl) rfl (fun hc => (y_lenl rfl Try.underlying22 (ev_gv et hc))) ?_
 refine s_gval (g_false rfl rfl rfl rfl) rfl (fun hc => (y_neq rfl (ev_gv et hc) (ev_gv et hc))) ?_
 refine sq (y_or rfl et et) ?_
 refine s_nil ?_
 refine k_same ?_
 refine c_cond (b := (!decide (r1 = 0)) || (!decide ((p1.length : Int) = (d1.length : Int)))) et (fun hb => ?_) (fun hb => ?_)
 ·replace h := ite_t hb h
  refine c_seq ?_
  refine c_region rfl ?_
  refine sq (y_assign rfl ev_const) ?_
  refine sq (y_assign rfl ev_const) ?_
  refine s_nil ?_
  refine k_same ?_
  refine c_ret ?_
  obtain rfl := some_inj h
  exact q_ret (vs := [(vi 0), (vb false)]) Try.results66 ⟨ev_tmp rfl rfl, ⟨ev_tmp rfl rfl, trivial⟩⟩ ⟨rfl, hI.ext0, hI.fin trivial⟩
 ·replace h := ite_f hb h
  refine c_skip ?_
  refine k_same ?_
  refine c_seq ?_
  refine c_region rfl ?_
  refine sq (y_assign rfl ev_const) ?_
  refine s_nil ?_
  refine k_same ?_
  refine c_seq ?_
  refine c_seq ?_
  refine c_region rfl ?_
  refine sq (y_move rfl et) ?_
  refine sq (y_lenl rfl Try.underlying22 et) ?_
  refine sq (y_move rfl ev_const) ?_
  refine s_nil ?_
  refine k_same ?_
  refine c_block ?_
  refine c_loop (α := Nat × Int × Int) (fun x => fun w => ∃ C, Bun noM F w0 C w [] [Cl.sl (cInt .i64) a2 c2 p1, Cl.sl (cInt .i64) a1 c1 d1] ∧ m_shape_Offset_l1 d1 p1 (x.1) (x.2.1) (x.2.2) = some r) (fun x _ => x.1) (fun x => [(1, (vs a2 p1.length c2)), (6, (vi (x.2.1))), (19, (vs a1 d1.length c1)), (20, (vi (d1.length : Int))), (21, (vi (x.2.2)))]) (fu, 0, 0) ⟨_, hI.arr .n ⟨(.s .z), .z, trivial⟩, h⟩ ⟨rfl, rfl, rfl, rfl, rfl, trivial⟩ ?_
  clear h hI; rintro ⟨fuel1, at1, i1⟩ w2 ⟨c3, hI, h⟩
  dsimp only at hI h
  rcases fuel1 with _ | fuel1
  ·rw [m_shape_Offset_l1] at h; cases h
  rw [m_shape_Offset_l1] at h
  refine c_sub (e := [(1, (vs a2 p1.length c2)), (6, (vi at1)), (19, (vs a1 d1.length c1)), (20, (vi (d1.length : Int))), (21, (vi i1))]) ⟨rfl, rfl, rfl, rfl, rfl, trivial⟩ ?_
  refine c_seq ?_
  refine c_region rfl ?_
  refine sq (y_lss rfl et et) ?_
  refine s_nil ?_
  refine k_same ?_
  refine c_seq ?_
  refine c_cond (b := decide (i1 < (d1.length : Int))) et (fun hb => ?_) (fun hb => ?_)
  ·replace h := ite_t hb h
   refine c_skip ?_
   refine k_same ?_
   refine c_seq ?_
   refine c_block ?_
   refine c_seq ?_
   refine c_region rfl ?_
   refine sq (y_move rfl et) ?_
   obtain ⟨e1, hx3, h⟩ := bnd_some h
   obtain ⟨ad1, cs1, hA1, hr1, hq1⟩ := hI.clat (.s .z) hx3
   obtain rfl : cs1 = [(vi e1)] := hr1
   refine sq (y_indexAddr rfl Try.underlying22 size_3 et et (lat_bd hx3) hA1) ?_
   refine sq (y_load1 (v := (vi e1)) rfl et Try.underlying3 rfl hq1.1) ?_
   refine sq (y_assign rfl et) ?_
   refine sq (y_assign rfl et) ?_
   refine s_nil ?_
   refine k_same ?_
   refine c_seq ?_
   refine c_seq ?_
   refine c_region rfl ?_
   refine sq (y_move rfl et) ?_
   refine sq (y_move rfl et) ?_
   obtain ⟨e2, hx4, h⟩ := bnd_some h
   obtain ⟨ad2, cs2, hA2, hr2, hq2⟩ := hI.clat .z hx4
   obtain rfl : cs2 = [(vi e2)] := hr2
   refine sq (y_indexAddr rfl Try.underlying22 size_3 et et (lat_bd hx4) hA2) ?_
   refine sq (y_load1 (v := (vi e2)) rfl et Try.underlying3 rfl hq2.1) ?_
   refine sq (y_lss rfl et ev_const) ?_
   refine sq (y_move rfl et) ?_
   refine s_gval (g_false rfl rfl rfl rfl) rfl (fun hc => (y_move rfl et)) ?_
   refine s_gval (g_false rfl rfl rfl rfl) rfl (fun hc => (y_move rfl et)) ?_
   obtain ⟨e3, hx5, h⟩ := bnd_some h
   replace hx5 := gd_some hx5
   obtain ⟨ad3, cs3, hq3⟩ := hI.gclat .z hx5
   have hq4 : (!(decide (e2 < 0))) = true → CA (Dj F c3) w2 (ad3.add (Int.toNat i1 * 1)) [(vi e3)] := fun hc => by have k := hq3 hc; have e : cs3 = _ := k.2.1; rw [← e]; exact k.2.2
   refine s_gval (g_false rfl rfl rfl rfl) rfl (fun hc => (y_indexAddr rfl Try.underlying22 size_3 (ev_gv et hc) (ev_gv et hc) (lat_bd (hx5 hc)) (hq3 hc).1)) ?_
   refine s_gval (g_false rfl rfl rfl rfl) rfl (fun hc => (y_load1 (v := (vi e3)) rfl (ev_gv et hc) Try.underlying3 rfl (hq4 hc).1)) ?_
   refine s_gval (g_false rfl rfl rfl rfl) rfl (fun hc => (y_move rfl et)) ?_
   refine s_gval (g_false rfl rfl rfl rfl) rfl (fun hc => (y_geq rfl (ev_gv et hc) (ev_gv et hc))) ?_
   refine sq (y_or rfl et et) ?_
   refine s_nil ?_
   refine k_same ?_
   refine c_cond (b := (decide (e2 < 0)) || (decide (e1 ≤ e3))) et (fun hb => ?_) (fun hb => ?_)
   ·replace h := ite_t hb h
    refine c_seq ?_
    refine c_region rfl ?_
    refine sq (y_assign rfl ev_const) ?_
    refine sq (y_assign rfl ev_const) ?_
    refine s_nil ?_
    refine k_next (e := [(4, (vi 0)), (5, (vb false))]) ⟨rfl, rfl, trivial⟩ ?_
    refine c_ret ?_
    obtain rfl := some_inj h
    exact q_ret (vs := [(vi 0), (vb false)]) Try.results66 ⟨ev_tmp rfl rfl, ⟨ev_tmp rfl rfl, trivial⟩⟩ ⟨rfl, hI.ext0, hI.fin trivial⟩
   ·replace h := ite_f hb h
    refine c_skip ?_
    refine k_same ?_
    refine c_region rfl ?_
    refine sq (y_move rfl et) ?_
    refine sq (y_move rfl et) ?_
    refine sq (y_mul rfl et et) ?_
    refine sq (y_move rfl et) ?_
    refine sq (y_move rfl et) ?_
    obtain ⟨e4, hx6, h⟩ := bnd_some h
    obtain ⟨ad4, cs4, hA4, hr4, hq5⟩ := hI.clat .z hx6
    obtain rfl : cs4 = [(vi e4)] := hr4
    refine sq (y_indexAddr rfl Try.underlying22 size_3 et et (lat_bd hx6) hA4) ?_
    refine sq (y_load1 (v := (vi e4)) rfl et Try.underlying3 rfl hq5.1) ?_
    refine sq (y_add rfl et et) ?_
    obtain ⟨at2, hx7, h⟩ := bnd_some h
    refine sq (binU (y_assign rfl et) (congrArg (Value.int .i64) (some_inj hx7))) ?_
    refine s_nil ?_
    refine k_next (e := [(1, (vs a2 p1.length c2)), (6, (vi at2)), (19, (vs a1 d1.length c1)), (20, (vi (d1.length : Int))), (21, (vi i1))]) ⟨rfl, rfl, rfl, rfl, rfl, trivial⟩ ?_
    refine c_region rfl ?_
    refine sq (y_add rfl et ev_const) ?_
    refine sq (y_move rfl et) ?_
    refine s_nil ?_
    exact k_loop (fuel1, at2, wi64 (i1 + 1)) ⟨rfl, rfl, rfl, rfl, rfl, trivial⟩ ⟨_, hI.arr .n ⟨.z, (.s .z), trivial⟩, h⟩ (Nat.lt_succ_self _)
  ·replace h := ite_f hb h
   refine c_exit ?_
   refine k_in ?_
   refine k_same ?_
   refine c_seq ?_
   refine c_region rfl ?_
   refine sq (y_move rfl et) ?_
   refine sq (y_assign rfl et) ?_
   refine sq (y_assign rfl ev_const) ?_
   refine s_nil ?_
   refine k_same ?_
   refine c_ret ?_
   obtain rfl := some_inj h
   exact q_ret (vs := [(vi at1), (vb true)]) Try.results66 ⟨ev_tmp rfl rfl, ⟨ev_tmp rfl rfl, trivial⟩⟩ ⟨rfl, hI.ext0, hI.fin trivial⟩

set_option maxRecDepth 100000 in
set_option maxHeartbeats 4000000 in
theorem c_tensor_gather (F : NP) (w0 : World) (hF : ∀ k, F k → k < w0.heap.size) (t1 : GTensor) (dims1 : List Int) (from1 : ((List Int) → Option (List Int))) (a1 : Option Addr) (c1 : Nat) (a2 : Option Addr) (c2 : Nat) (a3 : Option Addr) (c3 : Nat) (fv1 : Value) (hc : AllCl [Cl.sl (cInt .i64) a1 c1 t1.Dims, Cl.sl cGVal a2 c2 t1.Vals, Cl.sl (cInt .i64) a3 c3 dims1, clFn_k3 fv1 from1] F w0) (r : GTensor)
  (h : m_tensor_gather t1 dims1 from1 = some r) :
  Calls Try.prog 51 #[(Value.agg #[(vi t1.Type_.Kind), (vi t1.Type_.Bits), (vi t1.Type_.Frac), (vi t1.Type_.Round), (vi t1.Type_.Over), (vs a1 t1.Dims.length c1), (vs a2 t1.Vals.length c2)]), (vs a3 dims1.length c3), fv1] w0 fun e w => ∃ (a4 : Option Addr) (c4 : Nat) (a5 : Option Addr) (c5 : Nat), e = .returned (Value.agg #[(vi r.Type_.Kind), (vi r.Type_.Bits), (vi r.Type_.Frac), (vi r.Type_.Round), (vi r.Type_.Over), (vs a4 r.Dims.length c4), (vs a5 r.Vals.length c5)]) ∧ Ext w0 w ∧ AllCl [Cl.sl (cInt .i64) a4 c4 r.Dims, Cl.sl cGVal a5 c5 r.Vals] F w := by
 refine enterK (l := [(Value.agg #[(vi t1.Type_.Kind), (vi t1.Type_.Bits), (vi t1.Type_.Frac), (vi t1.Type_.Round), (vi t1.Type_.Over), (vs a1 t1.Dims.length c1), (vs a2 t1.Vals.length c2)]), (vs a3 dims1.length c3), fv1]) Try.func51 rfl Try.ntmps51 rfl ?_
 have hI := Bun.start hF hc
 clear hc
 rw [m_tensor_gather] at h
 refine c_seq ?_
 refine c_region rfl ?_
 refine l_box (v := (Value.agg #[(vi t1.Type_.Kind), (vi t1.Type_.Bits), (vi t1.Type_.Frac), (vi t1.Type_.Round), (vi t1.Type_.Over), (vs a1 t1.Dims.length c1), (vs a2 t1.Vals.length c2)])) (cs := #[(vi t1.Type_.Kind), (vi t1.Type_.Bits), (vi t1.Type_.Frac), (vi t1.Type_.Round), (vi t1.Type_.Over), (vs a1 t1.Dims.length c1), (vs a2 t1.Vals.length c2)]) hI gn rfl rfl et rfl ?_
 clear hI; intro b1 c6 w1 hI
 obtain ⟨c7, hI⟩ := hI.relBox .z
 refine l_alloc (cs := #[(vi 0), (vi 0), (vi 0), (vi 0), (vi 0), (vs none 0 0), (vs none 0 0)]) hI gn rfl rfl zero_36 rfl ?_
 clear hI; intro b2 c8 w2 hI
 refine s_nil ?_
 refine k_same ?_
 refine c_seq ?_
 refine c_region rfl ?_
 refine sq (y_fieldAddr rfl et Try.underlying36 rfl size_33 rfl) ?_
 refine sq (y_loadN (l := [(vi t1.Type_.Kind), (vi t1.Type_.Bits), (vi t1.Type_.Frac), (vi t1.Type_.Round), (vi t1.Type_.Over)]) rfl et Try.underlying33 rfl size_33 (hI.kblk (l := [(vi t1.Type_.Kind), (vi t1.Type_.Bits), (vi t1.Type_.Frac), (vi t1.Type_.Round), (vi t1.Type_.Over)]) .z rfl).1) ?_
 refine sq (y_move rfl et) ?_
 refine sq (y_build (vs := [(0, (Value.agg #[(vi t1.Type_.Kind), (vi t1.Type_.Bits), (vi t1.Type_.Frac), (vi t1.Type_.Round), (vi t1.Type_.Over)])), (1, (vs a3 dims1.length c3))]) (cs := #[(vi t1.Type_.Kind), (vi t1.Type_.Bits), (vi t1.Type_.Frac), (vi t1.Type_.Round), (vi t1.Type_.Over), (vs a3 dims1.length c3), (vs none 0 0)]) rfl ⟨rfl, et, ⟨rfl, et, trivial⟩⟩ (by kernel_rfl)) ?_
 refine l_alloc (cs := #[(vi 0), (vi 0), (vi 0), (vi 0), (vi 0), (vs none 0 0), (vs none 0 0)]) hI gn rfl rfl zero_36 rfl ?_
 clear hI; intro b3 c9 w3 hI
 refine l_store (new := [(vi t1.Type_.Kind), (vi t1.Type_.Bits), (vi t1.Type_.Frac), (vi t1.Type_.Round), (vi t1.Type_.Over), (vs a3 dims1.length c3), (vs none 0 0)]) (cs' := #[(vi t1.Type_.Kind), (vi t1.Type_.Bits), (vi t1.Type_.Frac), (vi t1.Type_.Round), (vi t1.Type_.Over), (vs a3 dims1.length c3), (vs none 0 0)]) hI .z gn rfl rfl et et rfl size_36 rfl rfl rfl ?_
 clear hI; intro c10 w4 hI
 refine s_nil ?_
 refine k_same ?_
 refine c_seq ?_
 refine c_seq ?_
 refine c_region rfl ?_
 refine sq (y_move rfl et) ?_
 obtain ⟨r1, hx1, h⟩ := bnd_some h
 refine s_call gn rfl (r_callF (vs := [(vs a3 dims1.length c3)]) rfl ok_38 ⟨et, trivial⟩) (Calls.mono (c_shape_Size (Dj F c10) w4 hI.lt dims1 a3 c3 ⟨(hI.get (.s (.s (.s .z)))), trivial⟩ r1 hx1) ?_)
 rintro _ w5 ⟨rfl, hx2, hl1⟩
 refine ⟨_, rfl, ?_⟩
 replace hI := (hI.ext hx2)
 refine sq (y_move rfl ev_const) ?_
 refine s_nil ?_
 refine k_same ?_
 refine c_block ?_
 have hI := hI.nil cGVal 50 none
 refine c_loop (α := Nat × Int × GTensor × (Option Addr) × Nat × (Option Addr) × Nat) (fun x => fun w => ∃ C, Bun noM F w0 C w [MO.row cGVal 50 (x.2.2.2.2.2.1) (x.2.2.2.2.2.2) (x.2.2.1).Vals, MO.box b2 36 #[(vi 0), (vi 0), (vi 0), (vi 0), (vi 0), (vs none 0 0), (vs none 0 0)], MO.box b3 36 #[(vi (x.2.2.1).Type_.Kind), (vi (x.2.2.1).Type_.Bits), (vi (x.2.2.1).Type_.Frac), (vi (x.2.2.1).Type_.Round), (vi (x.2.2.1).Type_.Over), (vs (x.2.2.2.1) (x.2.2.1).Dims.length (x.2.2.2.2.1)), (vs (x.2.2.2.2.2.1) (x.2.2.1).Vals.length (x.2.2.2.2.2.2))]] [Cl.sl (cInt .i64) (x.2.2.2.1) (x.2.2.2.2.1) (x.2.2.1).Dims, Cl.sl (cInt .i64) a3 c3 dims1, clFn_k3 fv1 from1, Cl.blk b1 36 #[(vi t1.Type_.Kind), (vi t1.Type_.Bits), (vi t1.Type_.Frac), (vi t1.Type_.Round), (vi t1.Type_.Over), (vs a1 t1.Dims.length c1), (vs a2 t1.Vals.length c2)], Cl.sl (cInt .i64) a1 c1 t1.Dims, Cl.sl cGVal a2 c2 t1.Vals] ∧ m_tensor_gather_l1 r1 dims1 from1 t1 (x.1) (x.2.1) (x.2.2.1) = some r) (fun x _ => x.1) (fun x => [(1, (vs a3 dims1.length c3)), (2, fv1), (3, (vp b1 0)), (6, (vp b2 0)), (7, (vp b3 0)), (18, (vi r1)), (19, (vi (x.2.1)))]) (fu, 0, (⟨t1.Type_, dims1, ([] : List GVal)⟩ : GTensor), a3, c3, none, 0) ⟨_, hI.arr (.c .z (.c (.s .z) (.c .z .n))) ⟨(.s (.s (.s .z))), (.s (.s (.s .z))), (.s (.s (.s (.s .z)))), .z, (.s .z), (.s (.s .z)), trivial⟩, h⟩ ⟨rfl, rfl, rfl, rfl, rfl, rfl, rfl, trivial⟩ ?_
 clear h hI; rintro ⟨fuel1, i1, out1, a6, c11, a7, c12⟩ w6 ⟨c13, hI, h⟩
 dsimp only at hI h
 rcases fuel1 with _ | fuel1
 ·rw [m_tensor_gather_l1] at h; cases h
 rw [m_tensor_gather_l1] at h
 refine c_sub (e := [(1, (vs a3 dims1.length c3)), (2, fv1), (3, (vp b1 0)), (6, (vp b2 0)), (7, (vp b3 0)), (18, (vi r1)), (19, (vi i1))]) ⟨rfl, rfl, rfl, rfl, rfl, rfl, rfl, trivial⟩ ?_
 refine c_seq ?_
 refine c_region rfl ?_
 refine sq (y_lss rfl et et) ?_
 refine s_nil ?_
 refine k_same ?_
 refine c_seq ?_
 refine c_cond (b := decide (i1 < r1)) et (fun hb => ?_) (fun hb => ?_)
 ·replace h := ite_t hb h
  refine c_skip ?_
  refine k_same ?_
  refine c_seq ?_
  refine c_block ?_
  refine c_seq ?_
  refine c_region rfl ?_
  refine sq (y_move rfl et) ?_
  refine sq (y_assign rfl et) ?_
  refine s_nil ?_
  refine k_same ?_
  refine c_seq ?_
  refine c_region rfl ?_
  refine sq (y_move rfl et) ?_
  refine sq (y_move rfl et) ?_
  obtain ⟨r2, hx3, h⟩ := bnd_some h
  refine s_call gn rfl (r_callF (vs := [(vs a3 dims1.length c3), (vi i1)]) rfl ok_65 ⟨et, ⟨et, trivial⟩⟩) (Calls.mono (c_shape_Point (Dj F c13) w6 hI.lt dims1 i1 a3 c3 ⟨(hI.get (.s .z)), trivial⟩ r2 hx3) ?_)
  rintro _ w7 ⟨a8, c14, rfl, hx4, hl2⟩
  refine ⟨_, rfl, ?_⟩
  replace hI := (hI.ext hx4).adds hl2
  refine sq (y_move rfl et) ?_
  refine sq (y_extract rfl et rfl) ?_
  refine sq (y_extract rfl et rfl) ?_
  refine sq (y_assign rfl et) ?_
  refine sq (y_assign rfl et) ?_
  refine s_nil ?_
  refine k_same ?_
  refine c_seq ?_
  refine c_drawX [] false (.c (0, .q) (.c (1, .q) (.c (2, .q) (.c (3, .q) (.c (4, .s) (.c (5, .s) (.c (6, .q) (.c (7, .q) (.c (8, .q) (.c (9, .q) (.c (10, .q) .n))))))))))) hI (by kernel_rfl) (by kernel_rfl) ?_
  clear hI; intro w8 hI
  refine a_q rfl gn rfl (fun w' => (y_fieldAddr rfl et Try.underlying36 rfl size_22 rfl)) ?_
  refine a_read rfl gn rfl (fun w' hw' => (y_load1 (v := (vs a1 t1.Dims.length c1)) rfl et Try.underlying22 rfl ((hI.kblk (l := [(vs a1 t1.Dims.length c1)]) (.s (.s (.s (.s .z)))) rfl).at_ (SX.any rfl hw')))) (by kernel_rfl) ?_
  refine a_q rfl gn rfl (fun w' => (y_move rfl et)) ?_
  refine a_q rfl gn rfl (fun w' => (y_move rfl et)) ?_
  obtain ⟨r3, hx5, h⟩ := bnd_some h
  refine la_callV (args := [(vs a8 r2.1.length c14)]) rfl gn rfl rfl et ⟨et, trivial⟩ (CallV.mono ((hI.get (.s (.s (.s .z)))).2 (Dj F c13) w8 (Sp.of_ext .rfl') hI.lt r2.1 a8 c14 r3 ⟨(hI.get .z), trivial⟩ hx5) ?_)
  rintro _ w9 ⟨a9, c15, rfl, hx6, hl3⟩
  refine ⟨_, rfl, _, Sp.of_ext hx6, ?_⟩
  replace hI := (hI.ext hx6).adds hl3
  obtain ⟨r4, hx7, h⟩ := bnd_some h
  refine la_call rfl gn rfl (r_callF (vs := [(vs a1 t1.Dims.length c1), (vs a9 r3.length c15)]) rfl ok_66 ⟨et, ⟨et, trivial⟩⟩) (Calls.mono (c_shape_Offset (Dj F c13) w9 hI.lt t1.Dims r3 a1 c1 a9 c15 ⟨(hI.get (.s (.s (.s (.s (.s (.s .z))))))), (hI.get .z), trivial⟩ r4 hx7) ?_)
  rintro _ w10 ⟨rfl, hx8, hl4⟩
  refine ⟨_, rfl, hx8, ?_⟩
  replace hI := (hI.ext hx8)
  refine a_q rfl gn rfl (fun w' => (y_move rfl et)) ?_
  refine a_q rfl gn rfl (fun w' => (y_extract rfl et rfl)) ?_
  refine a_q rfl gn rfl (fun w' => (y_extract rfl et rfl)) ?_
  refine a_q rfl gn rfl (fun w' => (y_assign rfl et)) ?_
  refine a_q rfl gn rfl (fun w' => (y_assign rfl et)) ?_
  refine a_nil ?_
  refine k_same ?_
  refine c_drawX [8, 10] false (.c (0, .q) (.c (1, .q) (.c (2, .q) (.c (3, .q) (.c (4, .q) (.c (5, .q) (.c (6, .q) (.c (7, .s) (.c (8, .s) (.c (9, .q) (.c (10, .s) .n))))))))))) hI (by kernel_rfl) (by kernel_rfl) ?_
  clear hI; intro w11 hI
  refine a_q rfl gn rfl (fun w' => (y_fieldAddr rfl et Try.underlying36 rfl size_34 rfl)) ?_
  refine a_read rfl gn rfl (fun w' hw' => (y_load1 (v := (vs a7 out1.Vals.length c12)) rfl et Try.underlying34 rfl ((CA.blk (hI.blk (.s (.s .z))) rfl).at_ (SX.any rfl hw')))) (by kernel_rfl) ?_
  refine a_q rfl gn rfl (fun w' => (y_fieldAddr rfl et Try.underlying36 rfl size_34 rfl)) ?_
  refine a_read rfl gn rfl (fun w' hw' => (y_load1 (v := (vs a2 t1.Vals.length c2)) rfl et Try.underlying34 rfl ((hI.kblk (l := [(vs a2 t1.Vals.length c2)]) (.s (.s (.s (.s (.s .z))))) rfl).at_ (SX.any rfl hw')))) (by kernel_rfl) ?_
  refine a_q rfl gn rfl (fun w' => (y_move rfl et)) ?_
  obtain ⟨e1, hx9, h⟩ := bnd_some h
  obtain ⟨ad1, cs1, hA1, hr1, hq1⟩ := hI.clat (.s (.s (.s (.s (.s (.s (.s .z))))))) hx9
  obtain rfl : cs1 = [(vi e1.N), (vi e1.D)] := hr1
  refine a_q rfl gn rfl (fun w' => (y_indexAddr rfl Try.underlying34 size_50 et et (lat_bd hx9) hA1)) ?_
  refine a_read rfl gn rfl (fun w' hw' => (y_loadN (l := [(vi e1.N), (vi e1.D)]) rfl et Try.underlying50 rfl size_50 (hq1.at_ (SX.any rfl hw')))) (by kernel_rfl) ?_
  refine la_lit (c := cGVal) (xs := ([e1] : List GVal)) (vs := [(0, (Value.agg #[(vi e1.N), (vi e1.D)]))]) (cs := #[(vi e1.N), (vi e1.D)]) (css := [[(vi e1.N), (vi e1.D)]]) hI rfl gn rfl rfl Try.underlying34 info_50 rfl ⟨rfl, et, trivial⟩ (by kernel_rfl) ⟨rfl, trivial⟩ rfl rfl rfl ?_
  clear hI; intro b4 c16 w12 hI
  refine a_turn (F := F) (C := c16) rfl rfl ?_
  obtain ⟨zs1, hx10, h⟩ := bnd_some h
  refine la_append (xs := out1.Vals) (ys := ([e1] : List GVal)) hI (.s .z) (hI.rd .z) hx10 rfl gn rfl rfl Try.underlying34 info_50 rfl rfl et et ?_
  clear hI; intro a10 c17 c18 w13 hI
  refine a_q rfl gn rfl (fun w' => (y_fieldAddr rfl et Try.underlying36 rfl size_34 rfl)) ?_
  refine la_store (new := [(vs a10 zs1.length c17)]) (cs' := #[(vi out1.Type_.Kind), (vi out1.Type_.Bits), (vi out1.Type_.Frac), (vi out1.Type_.Round), (vi out1.Type_.Over), (vs a6 out1.Dims.length c11), (vs a10 zs1.length c17)]) hI (.s (.s (.s .z))) rfl gn rfl rfl et et rfl size_34 rfl rfl rfl ?_
  clear hI; intro c19 w14 hI
  refine a_nil ?_
  refine k_next (e := [(1, (vs a3 dims1.length c3)), (2, fv1), (3, (vp b1 0)), (6, (vp b2 0)), (7, (vp b3 0)), (18, (vi r1)), (19, (vi i1))]) ⟨rfl, rfl, rfl, rfl, rfl, rfl, rfl, trivial⟩ ?_
  refine c_region rfl ?_
  refine sq (y_add rfl et ev_const) ?_
  refine sq (y_move rfl et) ?_
  refine s_nil ?_
  exact k_loop (fuel1, wi64 (i1 + 1), (⟨out1.Type_, out1.Dims, zs1⟩ : GTensor), a6, c11, a10, c17) ⟨rfl, rfl, rfl, rfl, rfl, rfl, rfl, trivial⟩ ⟨_, hI.arr (.c (.s .z) (.c (.s .z) (.c (.s .z) .n))) ⟨(.s (.s .z)), (.s (.s (.s .z))), (.s (.s (.s (.s .z)))), (.s (.s (.s (.s (.s .z))))), (.s (.s (.s (.s (.s (.s .z)))))), (.s (.s (.s (.s (.s (.s (.s .z))))))), trivial⟩, h⟩ (Nat.lt_succ_self _)
 ·replace h := ite_f hb h
  refine c_exit ?_
  refine k_in ?_
  refine k_same ?_
  refine c_seq ?_
  refine c_region rfl ?_
  refine sq (y_loadN (l := [(vi out1.Type_.Kind), (vi out1.Type_.Bits), (vi out1.Type_.Frac), (vi out1.Type_.Round), (vi out1.Type_.Over), (vs a6 out1.Dims.length c11), (vs a7 out1.Vals.length c12)]) rfl et Try.underlying36 rfl size_36 (CellsAt.of_blk (hI.blk (.s (.s .z))) rfl)) ?_
  refine l_store (new := [(vi out1.Type_.Kind), (vi out1.Type_.Bits), (vi out1.Type_.Frac), (vi out1.Type_.Round), (vi out1.Type_.Over), (vs a6 out1.Dims.length c11), (vs a7 out1.Vals.length c12)]) (cs' := #[(vi out1.Type_.Kind), (vi out1.Type_.Bits), (vi out1.Type_.Frac), (vi out1.Type_.Round), (vi out1.Type_.Over), (vs a6 out1.Dims.length c11), (vs a7 out1.Vals.length c12)]) hI (.s .z) gn rfl rfl et et rfl size_36 rfl rfl rfl ?_
  clear hI; intro c20 w15 hI
  refine s_nil ?_
  refine k_same ?_
  refine c_ret ?_
  obtain ⟨c21, hI⟩ := hI.release .z
  obtain rfl := some_inj h
  exact q_ret (vs := [(Value.agg #[(vi out1.Type_.Kind), (vi out1.Type_.Bits), (vi out1.Type_.Frac), (vi out1.Type_.Round), (vi out1.Type_.Over), (vs a6 out1.Dims.length c11), (vs a7 out1.Vals.length c12)])]) Try.results51 ⟨⟨_, ev_tmp rfl rfl, load_agg (l := [(vi out1.Type_.Kind), (vi out1.Type_.Bits), (vi out1.Type_.Frac), (vi out1.Type_.Round), (vi out1.Type_.Over), (vs a6 out1.Dims.length c11), (vs a7 out1.Vals.length c12)]) Try.underlying36 rfl size_36 (CellsAt.of_blk (hI.blk .z) rfl)⟩, trivial⟩ ⟨a6, c11, a7, c12, rfl, hI.ext0, hI.fin ⟨(.s .z), .z, trivial⟩⟩

set_option maxRecDepth 100000 in
set_option maxHeartbeats 4000000 in
theorem c_tensor_Slice (F : NP) (w0 : World) (hF : ∀ k, F k → k < w0.heap.size) (t1 : GTensor) (axis1 : Int) (from1 : Int) (to1 : Int) (a1 : Option Addr) (c1 : Nat) (a2 : Option Addr) (c2 : Nat) (hc : AllCl [Cl.sl (cInt .i64) a1 c1 t1.Dims, Cl.sl cGVal a2 c2 t1.Vals] F w0) (r : GTensor × Int)
  (h : m_tensor_Slice t1 axis1 from1 to1 = some r) :
  Calls Try.prog 35 #[(Value.agg #[(vi t1.Type_.Kind), (vi t1.Type_.Bits), (vi t1.Type_.Frac), (vi t1.Type_.Round), (vi t1.Type_.Over), (vs a1 t1.Dims.length c1), (vs a2 t1.Vals.length c2)]), (vi axis1), (vi from1), (vi to1)] w0 fun e w => ∃ (a3 : Option Addr) (c3 : Nat) (a4 : Option Addr) (c4 : Nat), e = .returned (Value.tuple #[(Value.agg #[(vi r.1.Type_.Kind), (vi r.1.Type_.Bits), (vi r.1.Type_.Frac), (vi r.1.Type_.Round), (vi r.1.Type_.Over), (vs a3 r.1.Dims.length c3), (vs a4 r.1.Vals.length c4)]), (vi r.2)]) ∧ Ext w0 w ∧ AllCl [Cl.sl (cInt .i64) a3 c3 r.1.Dims, Cl.sl cGVal a4 c4 r.1.Vals] F w := by
 refine enterK (l := [(Value.agg #[(vi t1.Type_.Kind), (vi t1.Type_.Bits), (vi t1.Type_.Frac), (vi t1.Type_.Round), (vi t1.Type_.Over), (vs a1 t1.Dims.length c1), (vs a2 t1.Vals.length c2)]), (vi axis1), (vi from1), (vi to1)]) Try.func35 rfl Try.ntmps35 rfl ?_
 have hI := Bun.start hF hc
 clear hc
 rw [m_tensor_Slice] at h
 refine c_seq ?_
 refine c_region rfl ?_
 refine l_box (v := (Value.agg #[(vi t1.Type_.Kind), (vi t1.Type_.Bits), (vi t1.Type_.Frac), (vi t1.Type_.Round), (vi t1.Type_.Over), (vs a1 t1.Dims.length c1), (vs a2 t1.Vals.length c2)])) (cs := #[(vi t1.Type_.Kind), (vi t1.Type_.Bits), (vi t1.Type_.Frac), (vi t1.Type_.Round), (vi t1.Type_.Over), (vs a1 t1.Dims.length c1), (vs a2 t1.Vals.length c2)]) hI gn rfl rfl et rfl ?_
 clear hI; intro b1 c5 w1 hI
 obtain ⟨c6, hI⟩ := hI.relBox .z
 refine l_box (v := (vi axis1)) (cs := #[(vi axis1)]) hI gn rfl rfl et rfl ?_
 clear hI; intro b2 c7 w2 hI
 obtain ⟨c8, hI⟩ := hI.relBox .z
 refine l_box (v := (vi from1)) (cs := #[(vi from1)]) hI gn rfl rfl et rfl ?_
 clear hI; intro b3 c9 w3 hI
 obtain ⟨c10, hI⟩ := hI.relBox .z
 refine l_alloc (cs := #[(vi 0), (vi 0), (vi 0), (vi 0), (vi 0), (vs none 0 0), (vs none 0 0)]) hI gn rfl rfl zero_36 rfl ?_
 clear hI; intro b4 c11 w4 hI
 refine sq (y_assign rfl ev_const) ?_
 refine s_nil ?_
 refine k_same ?_
 refine c_seq ?_
 refine c_seq ?_
 refine c_region rfl ?_
 refine sq (y_loadN (l := [(vi t1.Type_.Kind), (vi t1.Type_.Bits), (vi t1.Type_.Frac), (vi t1.Type_.Round), (vi t1.Type_.Over), (vs a1 t1.Dims.length c1), (vs a2 t1.Vals.length c2)]) rfl et Try.underlying36 rfl size_36 (hI.kblk (l := [(vi t1.Type_.Kind), (vi t1.Type_.Bits), (vi t1.Type_.Frac), (vi t1.Type_.Round), (vi t1.Type_.Over), (vs a1 t1.Dims.length c1), (vs a2 t1.Vals.length c2)]) (.s (.s .z)) rfl).1) ?_
 obtain ⟨r1, hx1, h⟩ := bnd_some h
 refine s_call gn rfl (r_callF (vs := [(Value.agg #[(vi t1.Type_.Kind), (vi t1.Type_.Bits), (vi t1.Type_.Frac), (vi t1.Type_.Round), (vi t1.Type_.Over), (vs a1 t1.Dims.length c1), (vs a2 t1.Vals.length c2)])]) rfl ok_30 ⟨et, trivial⟩) (Calls.mono (c_tensor_Validate (Dj F c11) w4 hI.lt t1 a1 c1 a2 c2 ⟨(hI.get (.s (.s (.s .z)))), (hI.get (.s (.s (.s (.s .z))))), trivial⟩ r1 hx1) ?_)
 rintro _ w5 ⟨rfl, hx2, hl1⟩
 refine ⟨_, rfl, ?_⟩
 replace hI := (hI.ext hx2)
 refine sq (y_assign rfl et) ?_
 refine s_nil ?_
 refine k_same ?_
 refine c_seq ?_
 refine c_region rfl ?_
 refine sq (y_move rfl et) ?_
 refine sq (y_neq rfl et ev_const) ?_
 refine s_nil ?_
 refine k_same ?_
 refine c_cond (b := !decide (r1 = 0)) et (fun hb => ?_) (fun hb => ?_)
 ·replace h := ite_t hb h
  refine c_seq ?_
  refine c_region rfl ?_
  refine sq (y_build (vs := []) (cs := #[(vi 0), (vi 0), (vi 0), (vi 0), (vi 0), (vs none 0 0), (vs none 0 0)]) rfl trivial (by kernel_rfl)) ?_
  refine sq (y_move rfl et) ?_
  refine l_store (new := [(vi 0), (vi 0), (vi 0), (vi 0), (vi 0), (vs none 0 0), (vs none 0 0)]) (cs' := #[(vi 0), (vi 0), (vi 0), (vi 0), (vi 0), (vs none 0 0), (vs none 0 0)]) hI .z gn rfl rfl et et rfl size_36 rfl rfl rfl ?_
  clear hI; intro c12 w6 hI
  refine sq (y_assign rfl et) ?_
  refine s_nil ?_
  refine k_same ?_
  refine c_ret ?_
  have hI := hI.add (c := Cl.sl (cInt .i64) none 0 ([] : List Int)) SlC.nil
  have hI := hI.add (c := Cl.sl cGVal none 0 ([] : List GVal)) SlC.nil
  obtain rfl := some_inj h
  exact q_ret (vs := [(Value.agg #[(vi 0), (vi 0), (vi 0), (vi 0), (vi 0), (vs none 0 0), (vs none 0 0)]), (vi r1)]) Try.results35 ⟨⟨_, ev_tmp rfl rfl, load_agg (l := [(vi 0), (vi 0), (vi 0), (vi 0), (vi 0), (vs none 0 0), (vs none 0 0)]) Try.underlying36 rfl size_36 (CellsAt.of_blk (hI.blk .z) rfl)⟩, ⟨ev_tmp rfl rfl, trivial⟩⟩ ⟨none, 0, none, 0, rfl, hI.ext0, hI.fin ⟨(.s .z), .z, trivial⟩⟩
 ·replace h := ite_f hb h
  refine c_skip ?_
  refine k_same ?_
  refine c_seq ?_
  refine c_region rfl ?_
  refine sq (y_fieldAddr rfl et Try.underlying36 rfl size_22 rfl) ?_
  refine sq (y_load1 (v := (vs a1 t1.Dims.length c1)) rfl et Try.underlying22 rfl (hI.kblk (l := [(vs a1 t1.Dims.length c1)]) (.s (.s .z)) rfl).1) ?_
  refine sq (y_load1 (v := (vi axis1)) rfl et Try.underlying3 rfl (hI.kblk (l := [(vi axis1)]) (.s .z) rfl).1) ?_
  refine sq (y_load1 (v := (vi from1)) rfl et Try.underlying3 rfl (hI.kblk (l := [(vi from1)]) .z rfl).1) ?_
  refine sq (y_move rfl et) ?_
  obtain ⟨r2, hx3, h⟩ := bnd_some h
  refine s_call gn rfl (r_callF (vs := [(vs a1 t1.Dims.length c1), (vi axis1), (vi from1), (vi to1)]) rfl ok_50 ⟨et, ⟨et, ⟨et, ⟨et, trivial⟩⟩⟩⟩) (Calls.mono (c_shape_Slice (Dj F c11) w5 hI.lt t1.Dims axis1 from1 to1 a1 c1 ⟨(hI.get (.s (.s (.s .z)))), trivial⟩ r2 hx3) ?_)
  rintro _ w7 ⟨a5, c13, rfl, hx4, hl2⟩
  refine ⟨_, rfl, ?_⟩
  replace hI := (hI.ext hx4).adds hl2
  refine sq (y_move rfl et) ?_
  refine sq (y_extract rfl et rfl) ?_
  refine sq (y_extract rfl et rfl) ?_
  refine sq (y_assign rfl et) ?_
  refine sq (y_assign rfl et) ?_
  refine s_nil ?_
  refine k_same ?_
  refine c_seq ?_
  refine c_seq ?_
  refine c_region rfl ?_
  refine sq (y_move rfl et) ?_
  refine sq (y_neq rfl et ev_const) ?_
  refine s_nil ?_
  refine k_same ?_
  refine c_cond (b := !decide (r2.2 = 0)) et (fun hb => ?_) (fun hb => ?_)
  ·replace h := ite_t hb h
   refine c_seq ?_
   refine c_region rfl ?_
   refine sq (y_build (vs := []) (cs := #[(vi 0), (vi 0), (vi 0), (vi 0), (vi 0), (vs none 0 0), (vs none 0 0)]) rfl trivial (by kernel_rfl)) ?_
   refine sq (y_move rfl et) ?_
   refine l_store (new := [(vi 0), (vi 0), (vi 0), (vi 0), (vi 0), (vs none 0 0), (vs none 0 0)]) (cs' := #[(vi 0), (vi 0), (vi 0), (vi 0), (vi 0), (vs none 0 0), (vs none 0 0)]) hI .z gn rfl rfl et et rfl size_36 rfl rfl rfl ?_
   clear hI; intro c14 w8 hI
   refine sq (y_assign rfl et) ?_
   refine s_nil ?_
   refine k_next (e := [(8, (vp b4 0)), (9, (vi r2.2))]) ⟨rfl, rfl, trivial⟩ ?_
   refine c_ret ?_
   have hI := hI.add (c := Cl.sl (cInt .i64) none 0 ([] : List Int)) SlC.nil
   have hI := hI.add (c := Cl.sl cGVal none 0 ([] : List GVal)) SlC.nil
   obtain rfl := some_inj h
   exact q_ret (vs := [(Value.agg #[(vi 0), (vi 0), (vi 0), (vi 0), (vi 0), (vs none 0 0), (vs none 0 0)]), (vi r2.2)]) Try.results35 ⟨⟨_, ev_tmp rfl rfl, load_agg (l := [(vi 0), (vi 0), (vi 0), (vi 0), (vi 0), (vs none 0 0), (vs none 0 0)]) Try.underlying36 rfl size_36 (CellsAt.of_blk (hI.blk .z) rfl)⟩, ⟨ev_tmp rfl rfl, trivial⟩⟩ ⟨none, 0, none, 0, rfl, hI.ext0, hI.fin ⟨(.s .z), .z, trivial⟩⟩
  ·replace h := ite_f hb h
   refine c_skip ?_
   refine k_same ?_
   refine c_seq ?_
   refine c_region rfl ?_
   refine sq (y_loadN (l := [(vi t1.Type_.Kind), (vi t1.Type_.Bits), (vi t1.Type_.Frac), (vi t1.Type_.Round), (vi t1.Type_.Over), (vs a1 t1.Dims.length c1), (vs a2 t1.Vals.length c2)]) rfl et Try.underlying36 rfl size_36 (hI.kblk (l := [(vi t1.Type_.Kind), (vi t1.Type_.Bits), (vi t1.Type_.Frac), (vi t1.Type_.Round), (vi t1.Type_.Over), (vs a1 t1.Dims.length c1), (vs a2 t1.Vals.length c2)]) (.s (.s (.s .z))) rfl).1) ?_
   refine sq (y_move rfl et) ?_
   refine sq (y_makeFunc (vs := []) (cap := [(vp b2 0), (vp b3 0)]) rfl rfl ⟨et, ⟨et, trivial⟩⟩) ?_
   have hI := hI.add (c := clFn_k3 (Value.func (.func 52) #[] #[(vp b2 0), (vp b3 0)]) (fun y_1 => m_tensor_Slice_1 y_1 axis1 from1)) ⟨rfl, fun D' w' hs hl x_1 A_2 c_3 r k h => CallV.fn (cap := [(vp b2 0), (vp b3 0)]) ok_52 (c_tensor_Slice_1 D' w' hl x_1 axis1 from1 A_2 c_3 b2 b3 ⟨k.1, (Cl.sp _ hs (hI.get (.s (.s .z)))), (Cl.sp _ hs (hI.get (.s .z))), trivial⟩ r h)⟩
   obtain ⟨r3, hx5, h⟩ := bnd_some h
   refine s_call gn rfl (r_callF (vs := [(Value.agg #[(vi t1.Type_.Kind), (vi t1.Type_.Bits), (vi t1.Type_.Frac), (vi t1.Type_.Round), (vi t1.Type_.Over), (vs a1 t1.Dims.length c1), (vs a2 t1.Vals.length c2)]), (vs a5 r2.1.length c13), (Value.func (.func 52) #[] #[(vp b2 0), (vp b3 0)])]) rfl ok_51 ⟨et, ⟨et, ⟨et, trivial⟩⟩⟩) (Calls.mono (c_tensor_gather (Dj F c11) w7 hI.lt t1 r2.1 (fun y_1 => m_tensor_Slice_1 y_1 axis1 from1) a1 c1 a2 c2 a5 c13 (Value.func (.func 52) #[] #[(vp b2 0), (vp b3 0)]) ⟨(hI.get (.s (.s (.s (.s (.s .z)))))), (hI.get (.s (.s (.s (.s (.s (.s .z))))))), (hI.get (.s .z)), (hI.get .z), trivial⟩ r3 hx5) ?_)
   rintro _ w9 ⟨a6, c15, a7, c16, rfl, hx6, hl3⟩
   refine ⟨_, rfl, ?_⟩
   replace hI := (hI.ext hx6).adds hl3
   refine l_store (new := [(vi r3.Type_.Kind), (vi r3.Type_.Bits), (vi r3.Type_.Frac), (vi r3.Type_.Round), (vi r3.Type_.Over), (vs a6 r3.Dims.length c15), (vs a7 r3.Vals.length c16)]) (cs' := #[(vi r3.Type_.Kind), (vi r3.Type_.Bits), (vi r3.Type_.Frac), (vi r3.Type_.Round), (vi r3.Type_.Over), (vs a6 r3.Dims.length c15), (vs a7 r3.Vals.length c16)]) hI .z gn rfl rfl et et rfl size_36 rfl rfl rfl ?_
   clear hI; intro c17 w10 hI
   refine sq (y_assign rfl ev_const) ?_
   refine s_nil ?_
   refine k_next (e := [(8, (vp b4 0)), (9, (vi 0))]) ⟨rfl, rfl, trivial⟩ ?_
   refine c_ret ?_
   obtain rfl := some_inj h
   exact q_ret (vs := [(Value.agg #[(vi r3.Type_.Kind), (vi r3.Type_.Bits), (vi r3.Type_.Frac), (vi r3.Type_.Round), (vi r3.Type_.Over), (vs a6 r3.Dims.length c15), (vs a7 r3.Vals.length c16)]), (vi 0)]) Try.results35 ⟨⟨_, ev_tmp rfl rfl, load_agg (l := [(vi r3.Type_.Kind), (vi r3.Type_.Bits), (vi r3.Type_.Frac), (vi r3.Type_.Round), (vi r3.Type_.Over), (vs a6 r3.Dims.length c15), (vs a7 r3.Vals.length c16)]) Try.underlying36 rfl size_36 (CellsAt.of_blk (hI.blk .z) rfl)⟩, ⟨ev_tmp rfl rfl, trivial⟩⟩ ⟨a6, c15, a7, c16, rfl, hI.ext0, hI.fin ⟨.z, (.s .z), trivial⟩⟩

set_option maxRecDepth 100000 in
set_option maxHeartbeats 4000000 in
theorem c_collective_SliceLocal_1 (F : NP) (w0 : World) (hF : ∀ k, F k → k < w0.heap.size) (dev1 : Int) (a1 : List GTensor) (a3 : GMesh) (a5 : List GTensor) (a7 : Int) (a8 : Int) (a9 : Int) (a2 : Option Addr) (c1 : Nat) (b1 : Nat) (a4 : Option Addr) (c2 : Nat) (b2 : Nat) (a6 : Option Addr) (c3 : Nat) (b3 : Nat) (b4 : Nat) (b5 : Nat) (hc : AllCl [Cl.sl cGTensor a2 c1 a1, Cl.sl (cInt .i64) a4 c2 a3.Dims, Cl.blk b1 31 #[(vs a4 a3.Dims.length c2)], Cl.sl cGTensor a6 c3 a5, Cl.blk b2 38 #[(vs a6 a5.length c3)], Cl.blk b3 3 #[(vi a7)], Cl.blk b4 3 #[(vi a8)], Cl.blk b5 3 #[(vi a9)]] F w0) (r : GTensor × Int)
  (h : m_collective_SliceLocal_1 dev1 a1 a3 a5 a7 a8 a9 = some r) :
  Calls Try.prog 33 #[(vi dev1), (vs a2 a1.length c1), (vp b1 0), (vp b2 0), (vp b3 0), (vp b4 0), (vp b5 0)] w0 fun e w => ∃ (a10 : Option Addr) (c4 : Nat) (a11 : Option Addr) (c5 : Nat), e = .returned (Value.tuple #[(Value.agg #[(vi r.1.Type_.Kind), (vi r.1.Type_.Bits), (vi r.1.Type_.Frac), (vi r.1.Type_.Round), (vi r.1.Type_.Over), (vs a10 r.1.Dims.length c4), (vs a11 r.1.Vals.length c5)]), (vi r.2)]) ∧ Ext w0 w ∧ AllCl [Cl.sl (cInt .i64) a10 c4 r.1.Dims, Cl.sl cGVal a11 c5 r.1.Vals] F w := by
 refine enterK (l := [(vi dev1), (vs a2 a1.length c1), (vp b1 0), (vp b2 0), (vp b3 0), (vp b4 0), (vp b5 0)]) Try.func33 rfl Try.ntmps33 rfl ?_
 have hI := Bun.start hF hc
 clear hc
 rw [m_collective_SliceLocal_1] at h
 refine c_seq ?_
 refine c_region rfl ?_
 refine l_alloc (cs := #[(vi 0), (vi 0), (vi 0), (vi 0), (vi 0), (vs none 0 0), (vs none 0 0)]) hI gn rfl rfl zero_36 rfl ?_
 clear hI; intro b6 c6 w1 hI
 refine sq (y_assign rfl ev_const) ?_
 refine s_nil ?_
 refine k_same ?_
 refine c_seq ?_
 refine c_region rfl ?_
 refine sq (y_loadN (l := [(vs a4 a3.Dims.length c2)]) rfl et Try.underlying31 rfl size_31 (hI.kblk (l := [(vs a4 a3.Dims.length c2)]) (.s (.s .z)) rfl).1) ?_
 refine sq (y_move rfl et) ?_
 obtain ⟨r1, hx1, h⟩ := bnd_some h
 refine s_call gn rfl (r_callF (vs := [(Value.agg #[(vs a4 a3.Dims.length c2)]), (vi dev1)]) rfl ok_34 ⟨et, ⟨et, trivial⟩⟩) (Calls.mono (c_mesh_Coordinates (Dj F c6) w1 hI.lt a3 dev1 a4 c2 ⟨(hI.get (.s .z)), trivial⟩ r1 hx1) ?_)
 rintro _ w2 ⟨a12, c7, rfl, hx2, hl1⟩
 refine ⟨_, rfl, ?_⟩
 replace hI := (hI.ext hx2).adds hl1
 refine sq (y_move rfl et) ?_
 refine sq (y_extract rfl et rfl) ?_
 refine sq (y_extract rfl et rfl) ?_
 refine sq (y_assign rfl et) ?_
 refine sq (y_assign rfl et) ?_
 refine s_nil ?_
 refine k_same ?_
 refine c_seq ?_
 refine c_drawX [21] false (.c (0, .q) (.c (1, .q) (.c (2, .q) (.c (3, .q) (.c (4, .q) (.c (5, .q) (.c (6, .q) (.c (7, .q) (.c (8, .q) (.c (9, .q) (.c (10, .q) (.c (11, .q) (.c (12, .q) (.c (13, .q) (.c (14, .q) (.c (15, .q) (.c (16, .q) (.c (17, .q) (.c (18, .s) (.c (19, .q) (.c (20, .q) (.c (21, .s) (.c (22, .q) .n))))))))))))))))))))))) hI (by kernel_rfl) (by kernel_rfl) ?_
 clear hI; intro w3 hI
 refine a_read rfl gn rfl (fun w' hw' => (y_load1 (v := (vs a6 a5.length c3)) rfl et Try.underlying38 rfl ((hI.kblk (l := [(vs a6 a5.length c3)]) (.s (.s (.s (.s (.s .z))))) rfl).at_ (SX.any rfl hw')))) (by kernel_rfl) ?_
 refine a_q rfl gn rfl (fun w' => (y_move rfl et)) ?_
 obtain ⟨e1, hx3, h⟩ := bnd_some h
 obtain ⟨ad1, cs1, hA1, hr1, hq1⟩ := hI.clat (.s (.s (.s (.s .z)))) hx3
 obtain ⟨a13, c8, a14, c9, rfl, hf1, hf2⟩ := hr1
 have hI := hI.add (c := Cl.sl (cInt .i64) a13 c8 e1.Dims) hf1
 have hI := hI.add (c := Cl.sl cGVal a14 c9 e1.Vals) hf2
 refine a_q rfl gn rfl (fun w' => (y_indexAddr rfl Try.underlying38 size_36 et et (lat_bd hx3) hA1)) ?_
 refine a_read rfl gn rfl (fun w' hw' => (y_loadN (l := [(vi e1.Type_.Kind), (vi e1.Type_.Bits), (vi e1.Type_.Frac), (vi e1.Type_.Round), (vi e1.Type_.Over), (vs a13 e1.Dims.length c8), (vs a14 e1.Vals.length c9)]) rfl et Try.underlying36 rfl size_36 (hq1.at_ (SX.any rfl hw')))) (by kernel_rfl) ?_
 refine a_read rfl gn rfl (fun w' hw' => (y_load1 (v := (vi a7)) rfl et Try.underlying3 rfl ((hI.kblk (l := [(vi a7)]) (.s (.s (.s (.s (.s (.s (.s (.s .z)))))))) rfl).at_ (SX.any rfl hw')))) (by kernel_rfl) ?_
 refine a_q rfl gn rfl (fun w' => (y_move rfl et)) ?_
 refine a_read rfl gn rfl (fun w' hw' => (y_load1 (v := (vi a8)) rfl et Try.underlying3 rfl ((hI.kblk (l := [(vi a8)]) (.s (.s (.s (.s (.s (.s (.s (.s (.s .z))))))))) rfl).at_ (SX.any rfl hw')))) (by kernel_rfl) ?_
 obtain ⟨e2, hx4, h⟩ := bnd_some h
 obtain ⟨ad2, cs2, hA2, hr2, hq2⟩ := hI.clat (.s (.s .z)) hx4
 obtain rfl : cs2 = [(vi e2)] := hr2
 refine a_q rfl gn rfl (fun w' => (y_indexAddr rfl Try.underlying22 size_3 et et (lat_bd hx4) hA2)) ?_
 refine a_read rfl gn rfl (fun w' hw' => (y_load1 (v := (vi e2)) rfl et Try.underlying3 rfl (hq2.at_ (SX.any rfl hw')))) (by kernel_rfl) ?_
 refine a_read rfl gn rfl (fun w' hw' => (y_load1 (v := (vi a9)) rfl et Try.underlying3 rfl ((hI.kblk (l := [(vi a9)]) (.s (.s (.s (.s (.s (.s (.s (.s (.s (.s .z)))))))))) rfl).at_ (SX.any rfl hw')))) (by kernel_rfl) ?_
 refine a_q rfl gn rfl (fun w' => (y_mul rfl et et)) ?_
 refine a_q rfl gn rfl (fun w' => (y_move rfl et)) ?_
 refine a_read rfl gn rfl (fun w' hw' => (y_load1 (v := (vi a8)) rfl et Try.underlying3 rfl ((hI.kblk (l := [(vi a8)]) (.s (.s (.s (.s (.s (.s (.s (.s (.s .z))))))))) rfl).at_ (SX.any rfl hw')))) (by kernel_rfl) ?_
 obtain ⟨e3, hx5, h⟩ := bnd_some h
 obtain ⟨ad3, cs3, hA3, hr3, hq3⟩ := hI.clat (.s (.s .z)) hx5
 obtain rfl : cs3 = [(vi e3)] := hr3
 refine a_q rfl gn rfl (fun w' => (y_indexAddr rfl Try.underlying22 size_3 et et (lat_bd hx5) hA3)) ?_
 refine a_read rfl gn rfl (fun w' hw' => (y_load1 (v := (vi e3)) rfl et Try.underlying3 rfl (hq3.at_ (SX.any rfl hw')))) (by kernel_rfl) ?_
 refine a_q rfl gn rfl (fun w' => (y_add rfl et ev_const)) ?_
 refine a_read rfl gn rfl (fun w' hw' => (y_load1 (v := (vi a9)) rfl et Try.underlying3 rfl ((hI.kblk (l := [(vi a9)]) (.s (.s (.s (.s (.s (.s (.s (.s (.s (.s .z)))))))))) rfl).at_ (SX.any rfl hw')))) (by kernel_rfl) ?_
 refine a_q rfl gn rfl (fun w' => (y_mul rfl et et)) ?_
 obtain ⟨r2, hx6, h⟩ := bnd_some h
 refine la_call rfl gn rfl (r_callF (vs := [(Value.agg #[(vi e1.Type_.Kind), (vi e1.Type_.Bits), (vi e1.Type_.Frac), (vi e1.Type_.Round), (vi e1.Type_.Over), (vs a13 e1.Dims.length c8), (vs a14 e1.Vals.length c9)]), (vi a7), (vi (wi64 (e2 * a9))), (vi (wi64 ((wi64 (e3 + 1)) * a9)))]) rfl ok_35 ⟨et, ⟨et, ⟨et, ⟨et, trivial⟩⟩⟩⟩) (Calls.mono (c_tensor_Slice (Dj F c6) w3 hI.lt e1 a7 (wi64 (e2 * a9)) (wi64 ((wi64 (e3 + 1)) * a9)) a13 c8 a14 c9 ⟨(hI.get (.s .z)), (hI.get .z), trivial⟩ r2 hx6) ?_)
 rintro _ w4 ⟨a15, c10, a16, c11, rfl, hx7, hl2⟩
 refine ⟨_, rfl, hx7, ?_⟩
 replace hI := (hI.ext hx7).adds hl2
 refine a_q rfl gn rfl (fun w' => (y_extract rfl et rfl)) ?_
 refine a_q rfl gn rfl (fun w' => (y_extract rfl et rfl)) ?_
 refine a_turn (F := F) (C := c6) rfl rfl ?_
 refine la_store (new := [(vi r2.1.Type_.Kind), (vi r2.1.Type_.Bits), (vi r2.1.Type_.Frac), (vi r2.1.Type_.Round), (vi r2.1.Type_.Over), (vs a15 r2.1.Dims.length c10), (vs a16 r2.1.Vals.length c11)]) (cs' := #[(vi r2.1.Type_.Kind), (vi r2.1.Type_.Bits), (vi r2.1.Type_.Frac), (vi r2.1.Type_.Round), (vi r2.1.Type_.Over), (vs a15 r2.1.Dims.length c10), (vs a16 r2.1.Vals.length c11)]) hI .z rfl gn rfl rfl et et rfl size_36 rfl rfl rfl ?_
 clear hI; intro c12 w5 hI
 refine a_q rfl gn rfl (fun w' => (y_assign rfl et)) ?_
 refine a_nil ?_
 refine k_next (e := [(9, (vp b6 0)), (10, (vi r2.2))]) ⟨rfl, rfl, trivial⟩ ?_
 refine c_ret ?_
 obtain rfl := some_inj h
 exact q_ret (vs := [(Value.agg #[(vi r2.1.Type_.Kind), (vi r2.1.Type_.Bits), (vi r2.1.Type_.Frac), (vi r2.1.Type_.Round), (vi r2.1.Type_.Over), (vs a15 r2.1.Dims.length c10), (vs a16 r2.1.Vals.length c11)]), (vi r2.2)]) Try.results33 ⟨⟨_, ev_tmp rfl rfl, load_agg (l := [(vi r2.1.Type_.Kind), (vi r2.1.Type_.Bits), (vi r2.1.Type_.Frac), (vi r2.1.Type_.Round), (vi r2.1.Type_.Over), (vs a15 r2.1.Dims.length c10), (vs a16 r2.1.Vals.length c11)]) Try.underlying36 rfl size_36 (CellsAt.of_blk (hI.blk .z) rfl)⟩, ⟨ev_tmp rfl rfl, trivial⟩⟩ ⟨a15, c10, a16, c11, rfl, hI.ext0, hI.fin ⟨.z, (.s .z), trivial⟩⟩

set_option maxRecDepth 100000 in
set_option maxHeartbeats 4000000 in
theorem c_collective_SliceLocal (F : NP) (w0 : World) (hF : ∀ k, F k → k < w0.heap.size) (m1 : GMesh) (l1 : List GTensor) (axis1 : Int) (along1 : Int) (a1 : Option Addr) (c1 : Nat) (a2 : Option Addr) (c2 : Nat) (hc : AllCl [Cl.sl (cInt .i64) a1 c1 m1.Dims, Cl.sl cGTensor a2 c2 l1] F w0) (r : List GTensor × Int)
  (h : m_collective_SliceLocal m1 l1 axis1 along1 = some r) :
  Calls Try.prog 23 #[(Value.agg #[(vs a1 m1.Dims.length c1)]), (vs a2 l1.length c2), (vi axis1), (vi along1)] w0 fun e w => ∃ (a3 : Option Addr) (c3 : Nat), e = .returned (Value.tuple #[(vs a3 r.1.length c3), (vi r.2)]) ∧ Ext w0 w ∧ AllCl [Cl.sl cGTensor a3 c3 r.1] F w := by
 refine enterK (l := [(Value.agg #[(vs a1 m1.Dims.length c1)]), (vs a2 l1.length c2), (vi axis1), (vi along1)]) Try.func23 rfl Try.ntmps23 rfl ?_
 have hI := Bun.start hF hc
 clear hc
 rw [m_collective_SliceLocal] at h
 refine c_seq ?_
 refine c_region rfl ?_
 refine l_box (v := (Value.agg #[(vs a1 m1.Dims.length c1)])) (cs := #[(vs a1 m1.Dims.length c1)]) hI gn rfl rfl et rfl ?_
 clear hI; intro b1 c4 w1 hI
 obtain ⟨c5, hI⟩ := hI.relBox .z
 refine l_box (v := (vs a2 l1.length c2)) (cs := #[(vs a2 l1.length c2)]) hI gn rfl rfl et rfl ?_
 clear hI; intro b2 c6 w2 hI
 obtain ⟨c7, hI⟩ := hI.relBox .z
 refine l_box (v := (vi axis1)) (cs := #[(vi axis1)]) hI gn rfl rfl et rfl ?_
 clear hI; intro b3 c8 w3 hI
 obtain ⟨c9, hI⟩ := hI.relBox .z
 refine l_box (v := (vi along1)) (cs := #[(vi along1)]) hI gn rfl rfl et rfl ?_
 clear hI; intro b4 c10 w4 hI
 obtain ⟨c11, hI⟩ := hI.relBox .z
 refine sq (y_assign rfl ev_const) ?_
 refine sq (y_assign rfl ev_const) ?_
 refine s_nil ?_
 refine k_same ?_
 refine c_seq ?_
 refine c_seq ?_
 refine c_region rfl ?_
 refine sq (y_loadN (l := [(vs a1 m1.Dims.length c1)]) rfl et Try.underlying31 rfl size_31 (hI.kblk (l := [(vs a1 m1.Dims.length c1)]) (.s (.s (.s .z))) rfl).1) ?_
 refine sq (y_load1 (v := (vs a2 l1.length c2)) rfl et Try.underlying38 rfl (hI.kblk (l := [(vs a2 l1.length c2)]) (.s (.s .z)) rfl).1) ?_
 refine sq (y_load1 (v := (vi axis1)) rfl et Try.underlying3 rfl (hI.kblk (l := [(vi axis1)]) (.s .z) rfl).1) ?_
 refine sq (y_load1 (v := (vi along1)) rfl et Try.underlying3 rfl (hI.kblk (l := [(vi along1)]) .z rfl).1) ?_
 obtain ⟨r1, hx1, h⟩ := bnd_some h
 refine s_call gn rfl (r_callF (vs := [(Value.agg #[(vs a1 m1.Dims.length c1)]), (vs a2 l1.length c2), (vi axis1), (vi along1)]) rfl ok_15 ⟨et, ⟨et, ⟨et, ⟨et, trivial⟩⟩⟩⟩) (Calls.mono (c_collective_checkAxes (Dj F c11) w4 hI.lt m1 l1 axis1 along1 a1 c1 a2 c2 ⟨(hI.get (.s (.s (.s (.s .z))))), (hI.get (.s (.s (.s (.s (.s .z)))))), trivial⟩ r1 hx1) ?_)
 rintro _ w5 ⟨rfl, hx2, hl1⟩
 refine ⟨_, rfl, ?_⟩
 replace hI := (hI.ext hx2)
 refine sq (y_assign rfl et) ?_
 refine s_nil ?_
 refine k_same ?_
 refine c_seq ?_
 refine c_region rfl ?_
 refine sq (y_move rfl et) ?_
 refine sq (y_neq rfl et ev_const) ?_
 refine s_nil ?_
 refine k_same ?_
 refine c_cond (b := !decide (r1 = 0)) et (fun hb => ?_) (fun hb => ?_)
 ·replace h := ite_t hb h
  refine c_seq ?_
  refine c_region rfl ?_
  refine sq (y_move rfl et) ?_
  refine sq (y_assign rfl ev_const) ?_
  refine sq (y_assign rfl et) ?_
  refine s_nil ?_
  refine k_same ?_
  refine c_ret ?_
  have hI := hI.add (c := Cl.sl cGTensor none 0 ([] : List GTensor)) SlC.nil
  obtain rfl := some_inj h
  exact q_ret (vs := [(vs none 0 0), (vi r1)]) Try.results23 ⟨ev_tmp rfl rfl, ⟨ev_tmp rfl rfl, trivial⟩⟩ ⟨none, 0, rfl, hI.ext0, hI.fin ⟨.z, trivial⟩⟩
 ·replace h := ite_f hb h
  refine c_skip ?_
  refine k_same ?_
  refine c_seq ?_
  refine c_region rfl ?_
  refine sq (y_fieldAddr rfl et Try.underlying31 rfl size_22 rfl) ?_
  refine sq (y_load1 (v := (vs a1 m1.Dims.length c1)) rfl et Try.underlying22 rfl (hI.kblk (l := [(vs a1 m1.Dims.length c1)]) (.s (.s (.s .z))) rfl).1) ?_
  refine sq (y_load1 (v := (vi axis1)) rfl et Try.underlying3 rfl (hI.kblk (l := [(vi axis1)]) (.s .z) rfl).1) ?_
  obtain ⟨e1, hx3, h⟩ := bnd_some h
  obtain ⟨ad1, cs1, hA1, hr1, hq1⟩ := hI.clat (.s (.s (.s (.s .z)))) hx3
  obtain rfl : cs1 = [(vi e1)] := hr1
  refine sq (y_indexAddr rfl Try.underlying22 size_3 et et (lat_bd hx3) hA1) ?_
  refine sq (y_load1 (v := (vi e1)) rfl et Try.underlying3 rfl hq1.1) ?_
  refine sq (y_assign rfl et) ?_
  refine s_nil ?_
  refine k_same ?_
  refine c_seq ?_
  refine c_seq ?_
  refine c_drawX [] false (.c (0, .q) (.c (1, .q) (.c (2, .q) (.c (3, .q) (.c (4, .q) (.c (5, .q) (.c (6, .q) (.c (7, .q) (.c (8, .q) (.c (9, .q) .n)))))))))) hI (by kernel_rfl) (by kernel_rfl) ?_
  clear hI; intro w6 hI
  refine a_read rfl gn rfl (fun w' hw' => (y_load1 (v := (vs a2 l1.length c2)) rfl et Try.underlying38 rfl ((hI.kblk (l := [(vs a2 l1.length c2)]) (.s (.s .z)) rfl).at_ (SX.any rfl hw')))) (by kernel_rfl) ?_
  obtain ⟨e2, hx4, h⟩ := bnd_some h
  obtain ⟨ad2, cs2, hA2, hr2, hq2⟩ := hI.clat (.s (.s (.s (.s (.s .z))))) hx4
  obtain ⟨a4, c12, a5, c13, rfl, hf1, hf2⟩ := hr2
  have hI := hI.add (c := Cl.sl (cInt .i64) a4 c12 e2.Dims) hf1
  have hI := hI.add (c := Cl.sl cGVal a5 c13 e2.Vals) hf2
  refine a_q rfl gn rfl (fun w' => (y_indexAddr rfl Try.underlying38 size_36 et ev_const (lat_bd hx4) hA2)) ?_
  refine a_q rfl gn rfl (fun w' => (y_fieldAddr rfl et Try.underlying36 rfl size_22 rfl)) ?_
  refine a_read rfl gn rfl (fun w' hw' => (y_load1 (v := (vs a4 e2.Dims.length c12)) rfl et Try.underlying22 rfl ((CA.part hq2 rfl).at_ (SX.any rfl hw')))) (by kernel_rfl) ?_
  refine a_read rfl gn rfl (fun w' hw' => (y_load1 (v := (vi along1)) rfl et Try.underlying3 rfl ((hI.kblk (l := [(vi along1)]) (.s (.s .z)) rfl).at_ (SX.any rfl hw')))) (by kernel_rfl) ?_
  obtain ⟨e3, hx5, h⟩ := bnd_some h
  obtain ⟨ad3, cs3, hA3, hr3, hq3⟩ := hI.clat (.s .z) hx5
  obtain rfl : cs3 = [(vi e3)] := hr3
  refine a_q rfl gn rfl (fun w' => (y_indexAddr rfl Try.underlying22 size_3 et et (lat_bd hx5) hA3)) ?_
  refine a_read rfl gn rfl (fun w' hw' => (y_load1 (v := (vi e3)) rfl et Try.underlying3 rfl (hq3.at_ (SX.any rfl hw')))) (by kernel_rfl) ?_
  refine a_q rfl gn rfl (fun w' => (y_move rfl et)) ?_
  obtain ⟨ho1, h⟩ := chk_some h
  refine a_q rfl gn rfl (fun w' => (y_rem rfl et et ho1)) ?_
  refine a_q rfl gn rfl (fun w' => (y_neq rfl et ev_const)) ?_
  refine a_nil ?_
  refine k_next (e := [(4, (vp b1 0)), (5, (vp b2 0)), (6, (vp b3 0)), (7, (vp b4 0)), (11, (vi e1)), (36, (vb (!decide (Int.tmod e3 e1 = 0))))]) ⟨rfl, rfl, rfl, rfl, rfl, rfl, trivial⟩ ?_
  refine c_cond (b := !decide (Int.tmod e3 e1 = 0)) et (fun hb => ?_) (fun hb => ?_)
  ·replace h := ite_t hb h
   refine c_seq ?_
   refine c_region rfl ?_
   refine sq (y_assign rfl ev_const) ?_
   refine sq (y_assign rfl ev_const) ?_
   refine s_nil ?_
   refine k_same ?_
   refine c_ret ?_
   have hI := hI.add (c := Cl.sl cGTensor none 0 ([] : List GTensor)) SlC.nil
   obtain rfl := some_inj h
   exact q_ret (vs := [(vs none 0 0), (vi 15)]) Try.results23 ⟨ev_tmp rfl rfl, ⟨ev_tmp rfl rfl, trivial⟩⟩ ⟨none, 0, rfl, hI.ext0, hI.fin ⟨.z, trivial⟩⟩
  ·replace h := ite_f hb h
   refine c_skip ?_
   refine k_same ?_
   refine c_seq ?_
   refine c_drawX [10] false (.c (0, .q) (.c (1, .q) (.c (2, .q) (.c (3, .q) (.c (4, .q) (.c (5, .q) (.c (6, .q) (.c (7, .q) (.c (8, .q) (.c (9, .s) (.c (10, .s) .n))))))))))) hI (by kernel_rfl) (by kernel_rfl) ?_
   clear hI; intro w7 hI
   refine a_read rfl gn rfl (fun w' hw' => (y_load1 (v := (vs a2 l1.length c2)) rfl et Try.underlying38 rfl ((hI.kblk (l := [(vs a2 l1.length c2)]) (.s (.s (.s (.s .z)))) rfl).at_ (SX.any rfl hw')))) (by kernel_rfl) ?_
   obtain ⟨e4, hx6, h⟩ := bnd_some h
   obtain ⟨ad4, cs4, hA4, hr4, hq4⟩ := hI.clat (.s (.s (.s (.s (.s (.s (.s .z))))))) hx6
   obtain ⟨a6, c14, a7, c15, rfl, hf3, hf4⟩ := hr4
   have hI := hI.add (c := Cl.sl (cInt .i64) a6 c14 e4.Dims) hf3
   have hI := hI.add (c := Cl.sl cGVal a7 c15 e4.Vals) hf4
   refine a_q rfl gn rfl (fun w' => (y_indexAddr rfl Try.underlying38 size_36 et ev_const (lat_bd hx6) hA4)) ?_
   refine a_q rfl gn rfl (fun w' => (y_fieldAddr rfl et Try.underlying36 rfl size_22 rfl)) ?_
   refine a_read rfl gn rfl (fun w' hw' => (y_load1 (v := (vs a6 e4.Dims.length c14)) rfl et Try.underlying22 rfl ((CA.part hq4 rfl).at_ (SX.any rfl hw')))) (by kernel_rfl) ?_
   refine a_read rfl gn rfl (fun w' hw' => (y_load1 (v := (vi along1)) rfl et Try.underlying3 rfl ((hI.kblk (l := [(vi along1)]) (.s (.s (.s (.s .z)))) rfl).at_ (SX.any rfl hw')))) (by kernel_rfl) ?_
   obtain ⟨e5, hx7, h⟩ := bnd_some h
   obtain ⟨ad5, cs5, hA5, hr5, hq5⟩ := hI.clat (.s .z) hx7
   obtain rfl : cs5 = [(vi e5)] := hr5
   refine a_q rfl gn rfl (fun w' => (y_indexAddr rfl Try.underlying22 size_3 et et (lat_bd hx7) hA5)) ?_
   refine a_read rfl gn rfl (fun w' hw' => (y_load1 (v := (vi e5)) rfl et Try.underlying3 rfl (hq5.at_ (SX.any rfl hw')))) (by kernel_rfl) ?_
   refine a_q rfl gn rfl (fun w' => (y_move rfl et)) ?_
   refine a_q rfl gn rfl (fun w' => (y_quo rfl et et ho1)) ?_
   refine la_alloc (cs := #[(vi 0)]) hI rfl gn rfl rfl zero_3 rfl ?_
   clear hI; intro b5 c16 w8 hI
   refine a_turn (F := F) (C := c16) rfl rfl ?_
   refine la_store (new := [(vi (wi64 (Int.tdiv e5 e1)))]) (cs' := #[(vi (wi64 (Int.tdiv e5 e1)))]) hI .z rfl gn rfl rfl et et rfl size_3 rfl rfl rfl ?_
   clear hI; intro c17 w9 hI
   refine a_nil ?_
   refine k_same ?_
   refine c_seq ?_
   refine c_region rfl ?_
   refine sq (y_makeFunc (vs := []) (cap := [(vp b1 0), (vp b2 0), (vp b4 0), (vp b3 0), (vp b5 0)]) rfl rfl ⟨et, ⟨et, ⟨et, ⟨et, ⟨et, trivial⟩⟩⟩⟩⟩) ?_
   refine sq (y_build (vs := [(0, (Value.func (.func 33) #[] #[(vp b1 0), (vp b2 0), (vp b4 0), (vp b3 0), (vp b5 0)]))]) (cs := #[(Value.func (.func 33) #[] #[(vp b1 0), (vp b2 0), (vp b4 0), (vp b3 0), (vp b5 0)])]) rfl ⟨rfl, et, trivial⟩ (by kernel_rfl)) ?_
   refine l_alloc (cs := #[Value.nilFunc]) hI gn rfl rfl zero_56 rfl ?_
   clear hI; intro b6 c18 w10 hI
   refine l_store (new := [(Value.func (.func 33) #[] #[(vp b1 0), (vp b2 0), (vp b4 0), (vp b3 0), (vp b5 0)])]) (cs' := #[(Value.func (.func 33) #[] #[(vp b1 0), (vp b2 0), (vp b4 0), (vp b3 0), (vp b5 0)])]) hI .z gn rfl rfl et et rfl size_56 rfl rfl rfl ?_
   clear hI; intro c19 w11 hI
   refine s_nil ?_
   refine k_same ?_
   refine c_seq ?_
   refine c_region rfl ?_
   refine sq (y_loadN (l := [(Value.func (.func 33) #[] #[(vp b1 0), (vp b2 0), (vp b4 0), (vp b3 0), (vp b5 0)])]) rfl et Try.underlying56 rfl size_56 (CellsAt.of_blk (hI.blk .z) rfl)) ?_
   refine sq (y_loadN (l := [(vs a1 m1.Dims.length c1)]) rfl et Try.underlying31 rfl size_31 (hI.kblk (l := [(vs a1 m1.Dims.length c1)]) (.s (.s (.s (.s (.s (.s (.s .z))))))) rfl).1) ?_
   refine sq (y_load1 (v := (vs a2 l1.length c2)) rfl et Try.underlying38 rfl (hI.kblk (l := [(vs a2 l1.length c2)]) (.s (.s (.s (.s (.s (.s .z)))))) rfl).1) ?_
   refine sq (y_load1 (v := (vi axis1)) rfl et Try.underlying3 rfl (hI.kblk (l := [(vi axis1)]) (.s (.s (.s (.s (.s .z))))) rfl).1) ?_
   obtain ⟨c20, hI⟩ := hI.relBox (.s .z)
   have hI := hI.add (c := clFn_k1 (Value.func (.func 33) #[] #[(vp b1 0), (vp b2 0), (vp b4 0), (vp b3 0), (vp b5 0)]) (fun y_1 y_2 => m_collective_SliceLocal_1 y_1 y_2 m1 l1 along1 axis1 (wi64 (Int.tdiv e5 e1)))) ⟨rfl, fun D' w' hs hl x_1 x_2 A_3 c_4 r k h => CallV.fn (cap := [(vp b1 0), (vp b2 0), (vp b4 0), (vp b3 0), (vp b5 0)]) ok_33 (c_collective_SliceLocal_1 D' w' hl x_1 x_2 m1 l1 along1 axis1 (wi64 (Int.tdiv e5 e1)) A_3 c_4 b1 a1 c1 b2 a2 c2 b4 b3 b5 ⟨k.1, (Cl.sp _ hs (hI.get (.s (.s (.s (.s (.s (.s (.s (.s (.s .z))))))))))), (Cl.sp _ hs (hI.get (.s (.s (.s (.s (.s (.s (.s (.s .z)))))))))), (Cl.sp _ hs (hI.get (.s (.s (.s (.s (.s (.s (.s (.s (.s (.s .z)))))))))))), (Cl.sp _ hs (hI.get (.s (.s (.s (.s (.s (.s (.s .z))))))))), (Cl.sp _ hs (hI.get (.s (.s (.s (.s (.s .z))))))), (Cl.sp _ hs (hI.get (.s (.s (.s (.s (.s (.s .z)))))))), (Cl.sp _ hs (hI.get .z)), trivial⟩ r h)⟩
   obtain ⟨r2, hx8, h⟩ := bnd_some h
   refine s_call gn rfl (r_callF (vs := [(Value.agg #[(Value.func (.func 33) #[] #[(vp b1 0), (vp b2 0), (vp b4 0), (vp b3 0), (vp b5 0)])]), (Value.agg #[(vs a1 m1.Dims.length c1)]), (vs a2 l1.length c2), (vi axis1)]) rfl ok_18 ⟨et, ⟨et, ⟨et, ⟨et, trivial⟩⟩⟩⟩) (Calls.mono (c_collective_operation_apply (Dj F c20) w11 hI.lt (⟨(fun y_1 y_2 => m_collective_SliceLocal_1 y_1 y_2 m1 l1 along1 axis1 (wi64 (Int.tdiv e5 e1)))⟩ : Gcollective_operation) m1 l1 axis1 (Value.func (.func 33) #[] #[(vp b1 0), (vp b2 0), (vp b4 0), (vp b3 0), (vp b5 0)]) a1 c1 a2 c2 ⟨(hI.get .z), (hI.get (.s (.s (.s (.s (.s (.s (.s (.s (.s (.s .z))))))))))), (hI.get (.s (.s (.s (.s (.s (.s (.s (.s (.s (.s (.s .z)))))))))))), trivial⟩ r2 hx8) ?_)
   rintro _ w12 ⟨a8, c21, rfl, hx9, hl2⟩
   refine ⟨_, rfl, ?_⟩
   replace hI := (hI.ext hx9).adds hl2
   refine sq (y_extract rfl et rfl) ?_
   refine sq (y_extract rfl et rfl) ?_
   refine sq (y_assign rfl et) ?_
   refine sq (y_assign rfl et) ?_
   refine s_nil ?_
   refine k_next (e := [(8, (vs a8 r2.1.length c21)), (9, (vi r2.2))]) ⟨rfl, rfl, trivial⟩ ?_
   refine c_ret ?_
   obtain rfl := some_inj h
   exact q_ret (vs := [(vs a8 r2.1.length c21), (vi r2.2)]) Try.results23 ⟨ev_tmp rfl rfl, ⟨ev_tmp rfl rfl, trivial⟩⟩ ⟨a8, c21, rfl, hI.ext0, hI.fin ⟨.z, trivial⟩⟩

set_option maxRecDepth 100000 in
set_option maxHeartbeats 4000000 in
theorem c_collective_ReduceScatter (F : NP) (w0 : World) (hF : ∀ k, F k → k < w0.heap.size) (m1 : GMesh) (l1 : List GTensor) (axis1 : Int) (along1 : Int) (fold1 : Int) (a1 : Option Addr) (c1 : Nat) (a2 : Option Addr) (c2 : Nat) (hc : AllCl [Cl.sl (cInt .i64) a1 c1 m1.Dims, Cl.sl cGTensor a2 c2 l1] F w0) (r : List GTensor × Int)
  (h : m_collective_ReduceScatter m1 l1 axis1 along1 fold1 = some r) :
  Calls Try.prog 10 #[(Value.agg #[(vs a1 m1.Dims.length c1)]), (vs a2 l1.length c2), (vi axis1), (vi along1), (vi fold1)] w0 fun e w => ∃ (a3 : Option Addr) (c3 : Nat), e = .returned (Value.tuple #[(vs a3 r.1.length c3), (vi r.2)]) ∧ Ext w0 w ∧ AllCl [Cl.sl cGTensor a3 c3 r.1] F w := by
 refine enterK (l := [(Value.agg #[(vs a1 m1.Dims.length c1)]), (vs a2 l1.length c2), (vi axis1), (vi along1), (vi fold1)]) Try.func10 rfl Try.ntmps10 rfl ?_
 have hI := Bun.start hF hc
 clear hc
 rw [m_collective_ReduceScatter] at h
 refine c_seq ?_
 refine c_region rfl ?_
 refine l_box (v := (Value.agg #[(vs a1 m1.Dims.length c1)])) (cs := #[(vs a1 m1.Dims.length c1)]) hI gn rfl rfl et rfl ?_
 clear hI; intro b1 c4 w1 hI
 obtain ⟨c5, hI⟩ := hI.relBox .z
 refine sq (y_assign rfl ev_const) ?_
 refine sq (y_assign rfl ev_const) ?_
 refine s_nil ?_
 refine k_same ?_
 refine c_seq ?_
 refine c_region rfl ?_
 refine sq (y_loadN (l := [(vs a1 m1.Dims.length c1)]) rfl et Try.underlying31 rfl size_31 (hI.kblk (l := [(vs a1 m1.Dims.length c1)]) .z rfl).1) ?_
 refine sq (y_move rfl et) ?_
 refine sq (y_move rfl et) ?_
 refine sq (y_move rfl et) ?_
 obtain ⟨r1, hx1, h⟩ := bnd_some h
 refine s_call gn rfl (r_callF (vs := [(Value.agg #[(vs a1 m1.Dims.length c1)]), (vs a2 l1.length c2), (vi axis1), (vi fold1)]) rfl ok_9 ⟨et, ⟨et, ⟨et, ⟨et, trivial⟩⟩⟩⟩) (Calls.mono (c_collective_AllReduce (Dj F c5) w1 hI.lt m1 l1 axis1 fold1 a1 c1 a2 c2 ⟨(hI.get (.s .z)), (hI.get (.s (.s .z))), trivial⟩ r1 hx1) ?_)
 rintro _ w2 ⟨a4, c6, rfl, hx2, hl1⟩
 refine ⟨_, rfl, ?_⟩
 replace hI := (hI.ext hx2).adds hl1
 refine sq (y_move rfl et) ?_
 refine sq (y_extract rfl et rfl) ?_
 refine sq (y_extract rfl et rfl) ?_
 refine sq (y_assign rfl et) ?_
 refine sq (y_assign rfl et) ?_
 refine s_nil ?_
 refine k_same ?_
 refine c_seq ?_
 refine c_seq ?_
 refine c_region rfl ?_
 refine sq (y_move rfl et) ?_
 refine sq (y_neq rfl et ev_const) ?_
 refine s_nil ?_
 refine k_same ?_
 refine c_cond (b := !decide (r1.2 = 0)) et (fun hb => ?_) (fun hb => ?_)
 ·replace h := ite_t hb h
  refine c_seq ?_
  refine c_region rfl ?_
  refine sq (y_move rfl et) ?_
  refine sq (y_assign rfl ev_const) ?_
  refine sq (y_assign rfl et) ?_
  refine s_nil ?_
  refine k_same ?_
  refine c_ret ?_
  have hI := hI.add (c := Cl.sl cGTensor none 0 ([] : List GTensor)) SlC.nil
  obtain rfl := some_inj h
  exact q_ret (vs := [(vs none 0 0), (vi r1.2)]) Try.results10 ⟨ev_tmp rfl rfl, ⟨ev_tmp rfl rfl, trivial⟩⟩ ⟨none, 0, rfl, hI.ext0, hI.fin ⟨.z, trivial⟩⟩
 ·replace h := ite_f hb h
  refine c_skip ?_
  refine k_same ?_
  refine c_seq ?_
  refine c_region rfl ?_
  refine sq (y_loadN (l := [(vs a1 m1.Dims.length c1)]) rfl et Try.underlying31 rfl size_31 (hI.kblk (l := [(vs a1 m1.Dims.length c1)]) (.s .z) rfl).1) ?_
  refine sq (y_move rfl et) ?_
  refine sq (y_move rfl et) ?_
  refine sq (y_move rfl et) ?_
  obtain ⟨r2, hx3, h⟩ := bnd_some h
  refine s_call gn rfl (r_callF (vs := [(Value.agg #[(vs a1 m1.Dims.length c1)]), (vs a4 r1.1.length c6), (vi axis1), (vi along1)]) rfl ok_23 ⟨et, ⟨et, ⟨et, ⟨et, trivial⟩⟩⟩⟩) (Calls.mono (c_collective_SliceLocal (Dj F c5) w2 hI.lt m1 r1.1 axis1 along1 a1 c1 a4 c6 ⟨(hI.get (.s (.s .z))), (hI.get .z), trivial⟩ r2 hx3) ?_)
  rintro _ w3 ⟨a5, c7, rfl, hx4, hl2⟩
  refine ⟨_, rfl, ?_⟩
  replace hI := (hI.ext hx4).adds hl2
  refine sq (y_extract rfl et rfl) ?_
  refine sq (y_extract rfl et rfl) ?_
  refine sq (y_assign rfl et) ?_
  refine sq (y_assign rfl et) ?_
  refine s_nil ?_
  refine k_next (e := [(10, (vs a5 r2.1.length c7)), (11, (vi r2.2))]) ⟨rfl, rfl, trivial⟩ ?_
  refine c_ret ?_
  obtain rfl := some_inj h
  exact q_ret (vs := [(vs a5 r2.1.length c7), (vi r2.2)]) Try.results10 ⟨ev_tmp rfl rfl, ⟨ev_tmp rfl rfl, trivial⟩⟩ ⟨a5, c7, rfl, hI.ext0, hI.fin ⟨.z, trivial⟩⟩

set_option maxRecDepth 100000 in
set_option maxHeartbeats 4000000 in
theorem c_collective_plain (F : NP) (w0 : World) (hF : ∀ k, F k → k < w0.heap.size) (s1 : List Int) (a1 : Option Addr) (c1 : Nat) (hc : AllCl [Cl.sl (cInt .i64) a1 c1 s1] F w0) (r : Bool)
  (h : m_collective_plain s1 = some r) :
  Calls Try.prog 12 #[(vs a1 s1.length c1)] w0 fun e w => e = .returned (vb r) ∧ Ext w0 w ∧ AllCl [] F w := by
 refine enterK (l := [(vs a1 s1.length c1)]) Try.func12 rfl Try.ntmps12 rfl ?_
 have hI := Bun.start hF hc
 clear hc
 rw [m_collective_plain] at h
 refine c_seq ?_
 refine c_region rfl ?_
 refine sq (y_assign rfl ev_const) ?_
 refine s_nil ?_
 refine k_same ?_
 refine c_seq ?_
 refine c_seq ?_
 refine c_region rfl ?_
 refine sq (y_move rfl et) ?_
 refine sq (y_lenl rfl Try.underlying23 et) ?_
 refine sq (y_move rfl ev_const) ?_
 refine s_nil ?_
 refine k_same ?_
 refine c_block ?_
 refine c_loop (α := Nat × Int) (fun x => fun w => ∃ C, Bun noM F w0 C w [] [Cl.sl (cInt .i64) a1 c1 s1] ∧ m_collective_plain_l1 s1 (x.1) (x.2) = some r) (fun x _ => x.1) (fun x => [(0, (vs a1 s1.length c1)), (7, (vs a1 s1.length c1)), (8, (vi (s1.length : Int))), (9, (vi (x.2)))]) (fu, 0) ⟨_, hI.arr .n ⟨.z, trivial⟩, h⟩ ⟨rfl, rfl, rfl, rfl, trivial⟩ ?_
 clear h hI; rintro ⟨fuel1, i1⟩ w1 ⟨c2, hI, h⟩
 dsimp only at hI h
 rcases fuel1 with _ | fuel1
 ·rw [m_collective_plain_l1] at h; cases h
 rw [m_collective_plain_l1] at h
 refine c_sub (e := [(0, (vs a1 s1.length c1)), (7, (vs a1 s1.length c1)), (8, (vi (s1.length : Int))), (9, (vi i1))]) ⟨rfl, rfl, rfl, rfl, trivial⟩ ?_
 refine c_seq ?_
 refine c_region rfl ?_
 refine sq (y_lss rfl et et) ?_
 refine s_nil ?_
 refine k_same ?_
 refine c_seq ?_
 refine c_cond (b := decide (i1 < (s1.length : Int))) et (fun hb => ?_) (fun hb => ?_)
 ·replace h := ite_t hb h
  refine c_skip ?_
  refine k_same ?_
  refine c_join (α := Unit) (fun _ => ⟨33, []⟩) (fun _ => [(0, (vs a1 s1.length c1)), (7, (vs a1 s1.length c1)), (8, (vi (s1.length : Int))), (9, (vi i1))]) (fun _ => fun w => ∃ C, Bun noM F w0 C w [] [Cl.sl (cInt .i64) a1 c1 s1] ∧ m_collective_plain_j1 (m_collective_plain_l1 s1 fuel1) i1 = some r) ?_ ?_
  ·clear h hI; rintro _ w2 ⟨c3, hI, h⟩
   try dsimp only at hI h
   rw [m_collective_plain_j1] at h
   refine c_sub (e := [(0, (vs a1 s1.length c1)), (7, (vs a1 s1.length c1)), (8, (vi (s1.length : Int))), (9, (vi i1))]) ⟨rfl, rfl, rfl, rfl, trivial⟩ ?_
   refine c_region rfl ?_
   refine sq (y_add rfl et ev_const) ?_
   refine sq (y_move rfl et) ?_
   refine s_nil ?_
   exact k_loop (fuel1, wi64 (i1 + 1)) ⟨rfl, rfl, rfl, rfl, trivial⟩ ⟨_, hI.arr .n ⟨.z, trivial⟩, h⟩ (Nat.lt_succ_self _)
  ·skip
   refine c_block ?_
   refine c_seq ?_
   refine c_region rfl ?_
   refine sq (y_move rfl et) ?_
   obtain ⟨e1, hx1, h⟩ := bnd_some h
   obtain ⟨ad1, cs1, hA1, hr1, hq1⟩ := hI.clat .z hx1
   obtain rfl : cs1 = [(vi e1)] := hr1
   refine sq (y_indexAddr rfl Try.underlying23 size_3 et et (lat_bd hx1) hA1) ?_
   refine sq (y_load1 (v := (vi e1)) rfl et Try.underlying3 rfl hq1.1) ?_
   refine sq (y_assign rfl et) ?_
   refine sq (y_assign rfl et) ?_
   refine s_nil ?_
   refine k_same ?_
   refine c_seq ?_
   refine c_seq ?_
   refine c_region rfl ?_
   refine sq (y_move rfl et) ?_
   refine sq (y_lss rfl et ev_const) ?_
   refine s_nil ?_
   refine k_same ?_
   refine c_cond (b := decide (e1 < (-1))) et (fun hb => ?_) (fun hb => ?_)
   ·replace h := ite_t hb h
    refine c_seq ?_
    refine c_region rfl ?_
    refine sq (y_assign rfl ev_const) ?_
    refine s_nil ?_
    refine k_same ?_
    refine c_ret ?_
    obtain rfl := some_inj h
    exact q_ret (vs := [(vb false)]) Try.results12 ⟨ev_tmp rfl rfl, trivial⟩ ⟨rfl, hI.ext0, hI.fin trivial⟩
   ·replace h := ite_f hb h
    refine c_skip ?_
    refine k_same ?_
    refine c_seq ?_
    refine c_region rfl ?_
    refine sq (y_move rfl et) ?_
    refine sq (y_move rfl et) ?_
    obtain ⟨zs1, hx2, h⟩ := bnd_some h
    refine sq (y_lupto rfl Try.underlying23 size_3 et et hx2 (hI.cap_ .z)) ?_
    replace hI := hI.upto .z hx2
    refine sq (y_lenl rfl Try.underlying23 et) ?_
    refine sq (y_move rfl ev_const) ?_
    refine s_nil ?_
    refine k_same ?_
    refine c_block ?_
    refine c_loop (α := Nat × Int) (fun x => fun w => ∃ C, Bun noM F w0 C w [] [Cl.sl (cInt .i64) a1 c1 s1, Cl.sl (cInt .i64) a1 c1 zs1] ∧ m_collective_plain_l2 zs1 e1 (m_collective_plain_l1 s1 fuel1) i1 (x.1) (x.2) = some r) (fun x _ => x.1) (fun x => [(0, (vs a1 s1.length c1)), (7, (vs a1 s1.length c1)), (8, (vi (s1.length : Int))), (9, (vi i1)), (4, (vi e1)), (18, (vs a1 zs1.length c1)), (19, (vi (zs1.length : Int))), (20, (vi (x.2)))]) (fu, 0) ⟨_, hI.arr .n ⟨(.s .z), .z, trivial⟩, h⟩ ⟨rfl, rfl, rfl, rfl, rfl, rfl, rfl, rfl, trivial⟩ ?_
    clear h hI; rintro ⟨fuel2, i2⟩ w3 ⟨c4, hI, h⟩
    dsimp only at hI h
    rcases fuel2 with _ | fuel2
    ·rw [m_collective_plain_l2] at h; cases h
    rw [m_collective_plain_l2] at h
    refine c_sub (e := [(0, (vs a1 s1.length c1)), (7, (vs a1 s1.length c1)), (8, (vi (s1.length : Int))), (9, (vi i1)), (4, (vi e1)), (18, (vs a1 zs1.length c1)), (19, (vi (zs1.length : Int))), (20, (vi i2))]) ⟨rfl, rfl, rfl, rfl, rfl, rfl, rfl, rfl, trivial⟩ ?_
    refine c_seq ?_
    refine c_region rfl ?_
    refine sq (y_lss rfl et et) ?_
    refine s_nil ?_
    refine k_same ?_
    refine c_seq ?_
    refine c_cond (b := decide (i2 < (zs1.length : Int))) et (fun hb => ?_) (fun hb => ?_)
    ·replace h := ite_t hb h
     refine c_skip ?_
     refine k_same ?_
     refine c_seq ?_
     refine c_block ?_
     refine c_seq ?_
     refine c_region rfl ?_
     obtain ⟨e2, hx3, h⟩ := bnd_some h
     obtain ⟨ad2, cs2, hA2, hr2, hq2⟩ := hI.clat (.s .z) hx3
     obtain rfl : cs2 = [(vi e2)] := hr2
     refine sq (y_indexAddr rfl Try.underlying23 size_3 et et (lat_bd hx3) hA2) ?_
     refine sq (y_load1 (v := (vi e2)) rfl et Try.underlying3 rfl hq2.1) ?_
     refine sq (y_assign rfl et) ?_
     refine s_nil ?_
     refine k_same ?_
     refine c_seq ?_
     refine c_region rfl ?_
     refine sq (y_move rfl et) ?_
     refine sq (y_geq rfl et ev_const) ?_
     refine sq (y_move rfl et) ?_
     refine s_gval (g_true rfl rfl rfl rfl) rfl (fun hc => (y_move rfl et)) ?_
     refine s_gval (g_true rfl rfl rfl rfl) rfl (fun hc => (y_move rfl et)) ?_
     refine s_gval (g_true rfl rfl rfl rfl) rfl (fun hc => (y_eql rfl (ev_gv et hc) (ev_gv et hc))) ?_
     refine sq (y_and rfl et et) ?_
     refine s_nil ?_
     refine k_same ?_
     refine c_cond (b := (decide (0 ≤ e1)) && (decide (e1 = e2))) et (fun hb => ?_) (fun hb => ?_)
     ·replace h := ite_t hb h
      refine c_seq ?_
      refine c_region rfl ?_
      refine sq (y_assign rfl ev_const) ?_
      refine s_nil ?_
      refine k_same ?_
      refine c_ret ?_
      obtain rfl := some_inj h
      exact q_ret (vs := [(vb false)]) Try.results12 ⟨ev_tmp rfl rfl, trivial⟩ ⟨rfl, hI.ext0, hI.fin trivial⟩
     ·replace h := ite_f hb h
      refine c_skip ?_
      refine k_same ?_
      refine c_region rfl ?_
      refine sq (y_add rfl et ev_const) ?_
      refine sq (y_move rfl et) ?_
      refine s_nil ?_
      exact k_loop (fuel2, wi64 (i2 + 1)) ⟨rfl, rfl, rfl, rfl, rfl, rfl, rfl, rfl, trivial⟩ ⟨_, hI.arr .n ⟨.z, (.s .z), trivial⟩, h⟩ (Nat.lt_succ_self _)
    ·replace h := ite_f hb h
     refine c_exit ?_
     refine k_in ?_
     exact k_join () ⟨rfl, rfl, rfl, rfl, trivial⟩ ⟨_, hI.arr .n ⟨.z, trivial⟩, h⟩ rfl
 ·replace h := ite_f hb h
  refine c_exit ?_
  refine k_in ?_
  refine k_same ?_
  refine c_seq ?_
  refine c_region rfl ?_
  refine sq (y_assign rfl ev_const) ?_
  refine s_nil ?_
  refine k_same ?_
  refine c_ret ?_
  obtain rfl := some_inj h
  exact q_ret (vs := [(vb true)]) Try.results12 ⟨ev_tmp rfl rfl, trivial⟩ ⟨rfl, hI.ext0, hI.fin trivial⟩

set_option maxRecDepth 100000 in
set_option maxHeartbeats 4000000 in
theorem c_collective_receiver (F : NP) (w0 : World) (hF : ∀ k, F k → k < w0.heap.size) (from1 : List Int) (to1 : List Int) (x1 : Int) (a1 : Option Addr) (c1 : Nat) (a2 : Option Addr) (c2 : Nat) (hc : AllCl [Cl.sl (cInt .i64) a1 c1 from1, Cl.sl (cInt .i64) a2 c2 to1] F w0) (r : Int)
  (h : m_collective_receiver from1 to1 x1 = some r) :
  Calls Try.prog 13 #[(vs a1 from1.length c1), (vs a2 to1.length c2), (vi x1)] w0 fun e w => e = .returned (vi r) ∧ Ext w0 w ∧ AllCl [] F w := by
 refine enterK (l := [(vs a1 from1.length c1), (vs a2 to1.length c2), (vi x1)]) Try.func13 rfl Try.ntmps13 rfl ?_
 have hI := Bun.start hF hc
 clear hc
 rw [m_collective_receiver] at h
 refine c_seq ?_
 refine c_region rfl ?_
 refine sq (y_assign rfl ev_const) ?_
 refine s_nil ?_
 refine k_same ?_
 refine c_seq ?_
 refine c_seq ?_
 refine c_region rfl ?_
 refine sq (y_move rfl et) ?_
 refine sq (y_lenl rfl Try.underlying23 et) ?_
 refine sq (y_move rfl ev_const) ?_
 refine s_nil ?_
 refine k_same ?_
 refine c_block ?_
 refine c_loop (α := Nat × Int) (fun x => fun w => ∃ C, Bun noM F w0 C w [] [Cl.sl (cInt .i64) a1 c1 from1, Cl.sl (cInt .i64) a2 c2 to1] ∧ m_collective_receiver_l1 to1 x1 from1 (x.1) (x.2) = some r) (fun x _ => x.1) (fun x => [(0, (vs a1 from1.length c1)), (2, (vi x1)), (9, (vs a2 to1.length c2)), (10, (vi (to1.length : Int))), (11, (vi (x.2)))]) (fu, 0) ⟨_, hI.arr .n ⟨.z, (.s .z), trivial⟩, h⟩ ⟨rfl, rfl, rfl, rfl, rfl, trivial⟩ ?_
 clear h hI; rintro ⟨fuel1, i1⟩ w1 ⟨c3, hI, h⟩
 dsimp only at hI h
 rcases fuel1 with _ | fuel1
 ·rw [m_collective_receiver_l1] at h; cases h
 rw [m_collective_receiver_l1] at h
 refine c_sub (e := [(0, (vs a1 from1.length c1)), (2, (vi x1)), (9, (vs a2 to1.length c2)), (10, (vi (to1.length : Int))), (11, (vi i1))]) ⟨rfl, rfl, rfl, rfl, rfl, trivial⟩ ?_
 refine c_seq ?_
 refine c_region rfl ?_
 refine sq (y_lss rfl et et) ?_
 refine s_nil ?_
 refine k_same ?_
 refine c_seq ?_
 refine c_cond (b := decide (i1 < (to1.length : Int))) et (fun hb => ?_) (fun hb => ?_)
 ·replace h := ite_t hb h
  refine c_skip ?_
  refine k_same ?_
  refine c_seq ?_
  refine c_block ?_
  refine c_seq ?_
  refine c_region rfl ?_
  refine sq (y_move rfl et) ?_
  obtain ⟨e1, hx1, h⟩ := bnd_some h
  obtain ⟨ad1, cs1, hA1, hr1, hq1⟩ := hI.clat (.s .z) hx1
  obtain rfl : cs1 = [(vi e1)] := hr1
  refine sq (y_indexAddr rfl Try.underlying23 size_3 et et (lat_bd hx1) hA1) ?_
  refine sq (y_load1 (v := (vi e1)) rfl et Try.underlying3 rfl hq1.1) ?_
  refine sq (y_assign rfl et) ?_
  refine sq (y_assign rfl et) ?_
  refine s_nil ?_
  refine k_same ?_
  refine c_seq ?_
  refine c_region rfl ?_
  refine sq (y_move rfl et) ?_
  refine sq (y_move rfl et) ?_
  refine sq (y_eql rfl et et) ?_
  refine sq (y_move rfl et) ?_
  refine s_gval (g_true rfl rfl rfl rfl) rfl (fun hc => (y_move rfl et)) ?_
  refine s_gval (g_true rfl rfl rfl rfl) rfl (fun hc => (y_move rfl et)) ?_
  obtain ⟨e2, hx2, h⟩ := bnd_some h
  replace hx2 := gd_some hx2
  obtain ⟨ad2, cs2, hq2⟩ := hI.gclat .z hx2
  have hq3 : (decide (e1 = x1)) = true → CA (Dj F c3) w1 (ad2.add (Int.toNat i1 * 1)) [(vi e2)] := fun hc => by have k := hq2 hc; have e : cs2 = _ := k.2.1; rw [← e]; exact k.2.2
  refine s_gval (g_true rfl rfl rfl rfl) rfl (fun hc => (y_indexAddr rfl Try.underlying23 size_3 (ev_gv et hc) (ev_gv et hc) (lat_bd (hx2 hc)) (hq2 hc).1)) ?_
  refine s_gval (g_true rfl rfl rfl rfl) rfl (fun hc => (y_load1 (v := (vi e2)) rfl (ev_gv et hc) Try.underlying3 rfl (hq3 hc).1)) ?_
  refine s_gval (g_true rfl rfl rfl rfl) rfl (fun hc => (y_eql rfl (ev_gv et hc) ev_const)) ?_
  refine sq (y_and rfl et et) ?_
  refine s_nil ?_
  refine k_same ?_
  refine c_cond (b := (decide (e1 = x1)) && (decide (e2 = (-1)))) et (fun hb => ?_) (fun hb => ?_)
  ·replace h := ite_t hb h
   refine c_seq ?_
   refine c_region rfl ?_
   refine sq (y_move rfl et) ?_
   refine sq (y_assign rfl et) ?_
   refine s_nil ?_
   refine k_same ?_
   refine c_ret ?_
   obtain rfl := some_inj h
   exact q_ret (vs := [(vi i1)]) Try.results13 ⟨ev_tmp rfl rfl, trivial⟩ ⟨rfl, hI.ext0, hI.fin trivial⟩
  ·replace h := ite_f hb h
   refine c_skip ?_
   refine k_same ?_
   refine c_region rfl ?_
   refine sq (y_add rfl et ev_const) ?_
   refine sq (y_move rfl et) ?_
   refine s_nil ?_
   exact k_loop (fuel1, wi64 (i1 + 1)) ⟨rfl, rfl, rfl, rfl, rfl, trivial⟩ ⟨_, hI.arr .n ⟨.z, (.s .z), trivial⟩, h⟩ (Nat.lt_succ_self _)
 ·replace h := ite_f hb h
  refine c_exit ?_
  refine k_in ?_
  refine k_same ?_
  refine c_seq ?_
  refine c_region rfl ?_
  refine sq (y_assign rfl ev_const) ?_
  refine s_nil ?_
  refine k_same ?_
  refine c_ret ?_
  obtain rfl := some_inj h
  exact q_ret (vs := [(vi (-1))]) Try.results13 ⟨ev_tmp rfl rfl, trivial⟩ ⟨rfl, hI.ext0, hI.fin trivial⟩

set_option maxRecDepth 100000 in
set_option maxHeartbeats 4000000 in
theorem c_collective_Plan (F : NP) (w0 : World) (hF : ∀ k, F k → k < w0.heap.size) (from1 : List Int) (to1 : List Int) (a1 : Option Addr) (c1 : Nat) (a2 : Option Addr) (c2 : Nat) (hc : AllCl [Cl.sl (cInt .i64) a1 c1 from1, Cl.sl (cInt .i64) a2 c2 to1] F w0) (r : List GTransfer)
  (h : m_collective_Plan from1 to1 = some r) :
  Calls Try.prog 5 #[(vs a1 from1.length c1), (vs a2 to1.length c2)] w0 fun e w => ∃ (a3 : Option Addr) (c3 : Nat), e = .returned (vs a3 r.length c3) ∧ Ext w0 w ∧ AllCl [Cl.sl cGTransfer a3 c3 r] F w := by
 refine enterK (l := [(vs a1 from1.length c1), (vs a2 to1.length c2)]) Try.func5 rfl Try.ntmps5 rfl ?_
 have hI := Bun.start hF hc
 clear hc
 rw [m_collective_Plan] at h
 refine c_seq ?_
 refine c_region rfl ?_
 refine sq (y_assign rfl ev_const) ?_
 refine s_nil ?_
 refine k_same ?_
 refine c_seq ?_
 refine c_seq ?_
 refine c_region rfl ?_
 refine sq (y_move rfl et) ?_
 refine sq (y_lenl rfl Try.underlying23 et) ?_
 refine sq (y_move rfl et) ?_
 refine sq (y_lenl rfl Try.underlying23 et) ?_
 refine sq (y_neq rfl et et) ?_
 refine sq (y_move rfl et) ?_
 refine s_gval (g_false rfl rfl rfl rfl) rfl (fun hc => (y_move rfl et)) ?_
 obtain ⟨r1, hx1, h⟩ := bnd_some h
 replace hx1 := gd_some hx1
 refine s_gcallU (v := (vb r1)) (g_false rfl rfl rfl rfl) rfl (fun hc => (r_callF (vs := [(vs a1 from1.length c1)]) rfl ok_12 ⟨(ev_gv et hc), trivial⟩)) (fun hc => (c_collective_plain (Dj F noM) w0 hI.lt from1 a1 c1 ⟨(hI.get .z), trivial⟩ r1 (hx1 hc)).mono fun _ _ k => ⟨k.1, k.2.1⟩) ?_
 intro w1 hx2; replace hI := hI.ext hx2
 refine s_gval (g_false rfl rfl rfl rfl) rfl (fun hc => (y_not rfl (ev_gv et hc))) ?_
 refine sq (y_or rfl et et) ?_
 refine sq (y_move rfl et) ?_
 refine s_gval (g_false rfl rfl rfl rfl) rfl (fun hc => (y_move rfl et)) ?_
 obtain ⟨r2, hx3, h⟩ := bnd_some h
 replace hx3 := gd_some hx3
 refine s_gcallU (v := (vb r2)) (g_false rfl rfl rfl rfl) rfl (fun hc => (r_callF (vs := [(vs a2 to1.length c2)]) rfl ok_12 ⟨(ev_gv et hc), trivial⟩)) (fun hc => (c_collective_plain (Dj F noM) w1 hI.lt to1 a2 c2 ⟨(hI.get (.s .z)), trivial⟩ r2 (hx3 hc)).mono fun _ _ k => ⟨k.1, k.2.1⟩) ?_
 intro w2 hx4; replace hI := hI.ext hx4
 refine s_gval (g_false rfl rfl rfl rfl) rfl (fun hc => (y_not rfl (ev_gv et hc))) ?_
 refine sq (y_or rfl et et) ?_
 refine s_nil ?_
 refine k_same ?_
 refine c_cond (b := ((!decide ((from1.length : Int) = (to1.length : Int))) || (!r1)) || (!r2)) et (fun hb => ?_) (fun hb => ?_)
 ·replace h := ite_t hb h
  refine c_seq ?_
  refine c_region rfl ?_
  refine sq (y_assign rfl ev_const) ?_
  refine s_nil ?_
  refine k_same ?_
  refine c_ret ?_
  have hI := hI.add (c := Cl.sl cGTransfer none 0 ([] : List GTransfer)) SlC.nil
  obtain rfl := some_inj h
  exact q_ret (vs := [(vs none 0 0)]) Try.results5 ⟨ev_tmp rfl rfl, trivial⟩ ⟨none, 0, rfl, hI.ext0, hI.fin ⟨.z, trivial⟩⟩
 ·replace h := ite_f hb h
  refine c_skip ?_
  refine k_same ?_
  refine c_seq ?_
  refine c_region rfl ?_
  refine sq (y_assign rfl ev_const) ?_
  refine s_nil ?_
  refine k_same ?_
  refine c_seq ?_
  refine c_region rfl ?_
  refine l_makeMap (kInt .i64) Value.bool hI gn rfl rfl ?_
  clear hI; intro b1 c4 w3 hI
  refine sq (y_assign rfl et) ?_
  refine s_nil ?_
  refine k_same ?_
  refine c_join (α := (List GTransfer) × (List (Int × Bool)) × (Option Addr) × Nat) (fun _ => ⟨100, []⟩) (fun x => [(0, (vs a1 from1.length c1)), (1, (vs a2 to1.length c2)), (5, (vs (x.2.2.1) (x.1).length (x.2.2.2))), (6, (Value.map (some b1)))]) (fun x => fun w => ∃ C, Bun noM F w0 C w [MO.row cGTransfer 28 (x.2.2.1) (x.2.2.2) (x.1), MO.map (kInt .i64) Value.bool b1 (x.2.1)] [Cl.sl (cInt .i64) a1 c1 from1, Cl.sl (cInt .i64) a2 c2 to1] ∧ m_collective_Plan_j1 to1 from1 (x.1) (x.2.1) = some r) ?_ ?_
  ·clear h hI; rintro ⟨out1, m1, a4, c5⟩ w4 ⟨c6, hI, h⟩
   try dsimp only at hI h
   rw [m_collective_Plan_j1] at h
   refine c_sub (e := [(0, (vs a1 from1.length c1)), (1, (vs a2 to1.length c2)), (5, (vs a4 out1.length c5)), (6, (Value.map (some b1)))]) ⟨rfl, rfl, rfl, rfl, trivial⟩ ?_
   refine c_seq ?_
   refine c_seq ?_
   refine c_region rfl ?_
   refine sq (y_move rfl et) ?_
   refine sq (y_lenl rfl Try.underlying23 et) ?_
   refine sq (y_move rfl ev_const) ?_
   refine s_nil ?_
   refine k_same ?_
   refine c_block ?_
   refine c_loop (α := Nat × (List GTransfer) × Int × (Option Addr) × Nat) (fun x => fun w => ∃ C, Bun noM F w0 C w [MO.row cGTransfer 28 (x.2.2.2.1) (x.2.2.2.2) (x.2.1), MO.map (kInt .i64) Value.bool b1 m1] [Cl.sl (cInt .i64) a1 c1 from1, Cl.sl (cInt .i64) a2 c2 to1] ∧ m_collective_Plan_l1 to1 from1 m1 (x.1) (x.2.1) (x.2.2.1) = some r) (fun x _ => x.1) (fun x => [(0, (vs a1 from1.length c1)), (5, (vs (x.2.2.2.1) (x.2.1).length (x.2.2.2.2))), (6, (Value.map (some b1))), (68, (vs a2 to1.length c2)), (69, (vi (to1.length : Int))), (70, (vi (x.2.2.1)))]) (fu, out1, 0, a4, c5) ⟨_, hI.arr (.c .z (.c .z .n)) ⟨.z, (.s .z), trivial⟩, h⟩ ⟨rfl, rfl, rfl, rfl, rfl, rfl, trivial⟩ ?_
   clear h hI; rintro ⟨fuel1, out2, i1, a5, c7⟩ w5 ⟨c8, hI, h⟩
   dsimp only at hI h
   rcases fuel1 with _ | fuel1
   ·rw [m_collective_Plan_l1] at h; cases h
   rw [m_collective_Plan_l1] at h
   refine c_sub (e := [(0, (vs a1 from1.length c1)), (5, (vs a5 out2.length c7)), (6, (Value.map (some b1))), (68, (vs a2 to1.length c2)), (69, (vi (to1.length : Int))), (70, (vi i1))]) ⟨rfl, rfl, rfl, rfl, rfl, rfl, trivial⟩ ?_
   refine c_seq ?_
   refine c_region rfl ?_
   refine sq (y_lss rfl et et) ?_
   refine s_nil ?_
   refine k_same ?_
   refine c_seq ?_
   refine c_cond (b := decide (i1 < (to1.length : Int))) et (fun hb => ?_) (fun hb => ?_)
   ·replace h := ite_t hb h
    refine c_skip ?_
    refine k_same ?_
    refine c_join (α := (List GTransfer) × (Option Addr) × Nat) (fun _ => ⟨100, []⟩) (fun x => [(0, (vs a1 from1.length c1)), (5, (vs (x.2.1) (x.1).length (x.2.2))), (6, (Value.map (some b1))), (68, (vs a2 to1.length c2)), (69, (vi (to1.length : Int))), (70, (vi i1))]) (fun x => fun w => ∃ C, Bun noM F w0 C w [MO.row cGTransfer 28 (x.2.1) (x.2.2) (x.1), MO.map (kInt .i64) Value.bool b1 m1] [Cl.sl (cInt .i64) a1 c1 from1, Cl.sl (cInt .i64) a2 c2 to1] ∧ m_collective_Plan_j2 (m_collective_Plan_l1 to1 from1 m1 fuel1) i1 (x.1) = some r) ?_ ?_
    ·clear h hI; rintro ⟨out3, a6, c9⟩ w6 ⟨c10, hI, h⟩
     try dsimp only at hI h
     rw [m_collective_Plan_j2] at h
     refine c_sub (e := [(0, (vs a1 from1.length c1)), (5, (vs a6 out3.length c9)), (6, (Value.map (some b1))), (68, (vs a2 to1.length c2)), (69, (vi (to1.length : Int))), (70, (vi i1))]) ⟨rfl, rfl, rfl, rfl, rfl, rfl, trivial⟩ ?_
     refine c_region rfl ?_
     refine sq (y_add rfl et ev_const) ?_
     refine sq (y_move rfl et) ?_
     refine s_nil ?_
     exact k_loop (fuel1, out3, wi64 (i1 + 1), a6, c9) ⟨rfl, rfl, rfl, rfl, rfl, rfl, trivial⟩ ⟨_, hI.arr (.c .z (.c .z .n)) ⟨.z, (.s .z), trivial⟩, h⟩ (Nat.lt_succ_self _)
    ·skip
     refine c_block ?_
     refine c_seq ?_
     refine c_region rfl ?_
     refine sq (y_move rfl et) ?_
     obtain ⟨e1, hx5, h⟩ := bnd_some h
     obtain ⟨ad1, cs1, hA1, hr1, hq1⟩ := hI.clat (.s .z) hx5
     obtain rfl : cs1 = [(vi e1)] := hr1
     refine sq (y_indexAddr rfl Try.underlying23 size_3 et et (lat_bd hx5) hA1) ?_
     refine sq (y_load1 (v := (vi e1)) rfl et Try.underlying3 rfl hq1.1) ?_
     refine sq (y_assign rfl et) ?_
     refine sq (y_assign rfl et) ?_
     refine s_nil ?_
     refine k_same ?_
     refine c_seq ?_
     refine c_region rfl ?_
     refine sq (y_move rfl et) ?_
     refine sq (y_geq rfl et ev_const) ?_
     refine sq (y_move rfl et) ?_
     refine s_gval (g_true rfl rfl rfl rfl) rfl (fun hc => (y_move rfl et)) ?_
     refine s_gval (g_true rfl rfl rfl rfl) rfl (fun hc => (y_move rfl et)) ?_
     obtain ⟨e2, hx6, h⟩ := bnd_some h
     replace hx6 := gd_some hx6
     obtain ⟨ad2, cs2, hq2⟩ := hI.gclat .z hx6
     have hq3 : (decide (0 ≤ e1)) = true → CA (Dj F c8) w5 (ad2.add (Int.toNat i1 * 1)) [(vi e2)] := fun hc => by have k := hq2 hc; have e : cs2 = _ := k.2.1; rw [← e]; exact k.2.2
     refine s_gval (g_true rfl rfl rfl rfl) rfl (fun hc => (y_indexAddr rfl Try.underlying23 size_3 (ev_gv et hc) (ev_gv et hc) (lat_bd (hx6 hc)) (hq2 hc).1)) ?_
     refine s_gval (g_true rfl rfl rfl rfl) rfl (fun hc => (y_load1 (v := (vi e2)) rfl (ev_gv et hc) Try.underlying3 rfl (hq3 hc).1)) ?_
     refine s_gval (g_true rfl rfl rfl rfl) rfl (fun hc => (y_move rfl et)) ?_
     refine s_gval (g_true rfl rfl rfl rfl) rfl (fun hc => (y_neq rfl (ev_gv et hc) (ev_gv et hc))) ?_
     refine sq (y_and rfl et et) ?_
     refine sq (y_move rfl et) ?_
     refine s_gval (g_true rfl rfl rfl rfl) rfl (fun hc => (y_move rfl et)) ?_
     refine s_gval (g_true rfl rfl rfl rfl) rfl (fun hc => (y_move rfl et)) ?_
     refine s_gval (g_true rfl rfl rfl rfl) rfl (fun hc => (y_lookup rfl (ev_gv et hc) (ev_gv et hc) (hI.mlk (.s .z) Try.underlying45 Try.underlying3 (z0 := false) zero_4 i1))) ?_
     refine s_gval (g_true rfl rfl rfl rfl) rfl (fun hc => (y_not rfl (ev_gv et hc))) ?_
     refine sq (y_and rfl et et) ?_
     refine s_nil ?_
     refine k_same ?_
     refine c_cond (b := ((decide (0 ≤ e1)) && (!decide (e2 = e1))) && (!((mget m1 i1).getD false))) et (fun hb => ?_) (fun hb => ?_)
     ·replace h := ite_t hb h
      refine c_region rfl ?_
      refine sq (y_move rfl et) ?_
      refine sq (y_move rfl et) ?_
      refine sq (y_move rfl et) ?_
      refine sq (y_move rfl et) ?_
      refine sq (y_build (vs := [(0, (vi 4)), (1, (vi e1)), (2, (vi i1)), (3, (vi i1))]) (cs := #[(vi 4), (vi e1), (vi i1), (vi i1), (str ([] : List UInt8))]) rfl ⟨rfl, ev_const, ⟨rfl, et, ⟨rfl, et, ⟨rfl, et, trivial⟩⟩⟩⟩ (by kernel_rfl)) ?_
      refine l_lit (c := cGTransfer) (xs := ([(⟨4, e1, i1, i1, ([] : List UInt8)⟩ : GTransfer)] : List GTransfer)) (vs := [(0, (Value.agg #[(vi 4), (vi e1), (vi i1), (vi i1), (str ([] : List UInt8))]))]) (cs := #[(vi 4), (vi e1), (vi i1), (vi i1), (str ([] : List UInt8))]) (css := [[(vi 4), (vi e1), (vi i1), (vi i1), (str ([] : List UInt8))]]) hI gn rfl rfl Try.underlying25 info_28 rfl ⟨rfl, et, trivial⟩ (by kernel_rfl) ⟨rfl, trivial⟩ rfl rfl rfl ?_
      clear hI; intro b2 c11 w7 hI
      obtain ⟨zs1, hx7, h⟩ := bnd_some h
      refine l_append (xs := out2) (ys := ([(⟨4, e1, i1, i1, ([] : List UInt8)⟩ : GTransfer)] : List GTransfer)) hI (.s .z) (hI.rd .z) hx7 gn rfl rfl Try.underlying25 info_28 rfl rfl et et ?_
      clear hI; intro a7 c12 c13 w8 hI
      refine sq (y_assign rfl et) ?_
      refine s_nil ?_
      exact k_join (zs1, a7, c12) ⟨rfl, rfl, rfl, rfl, rfl, rfl, trivial⟩ ⟨_, hI.arr (.c (.s .z) (.c (.s .z) .n)) ⟨.z, (.s .z), trivial⟩, h⟩ rfl
     ·replace h := ite_f hb h
      refine c_skip ?_
      exact k_join (out2, a5, c7) ⟨rfl, rfl, rfl, rfl, rfl, rfl, trivial⟩ ⟨_, hI.arr (.c .z (.c .z .n)) ⟨.z, (.s .z), trivial⟩, h⟩ rfl
   ·replace h := ite_f hb h
    refine c_exit ?_
    refine k_in ?_
    refine k_same ?_
    refine c_seq ?_
    refine c_region rfl ?_
    refine sq (y_move rfl et) ?_
    refine sq (y_assign rfl et) ?_
    refine s_nil ?_
    refine k_same ?_
    refine c_ret ?_
    obtain ⟨c14, hI⟩ := hI.release .z
    obtain rfl := some_inj h
    exact q_ret (vs := [(vs a5 out2.length c7)]) Try.results5 ⟨ev_tmp rfl rfl, trivial⟩ ⟨a5, c7, rfl, hI.ext0, hI.fin ⟨.z, trivial⟩⟩
  ·skip
   refine c_seq ?_
   refine c_region rfl ?_
   refine sq (y_move rfl et) ?_
   refine sq (y_lenl rfl Try.underlying23 et) ?_
   refine sq (y_move rfl ev_const) ?_
   refine s_nil ?_
   refine k_same ?_
   refine c_block ?_
   have hI := hI.nil cGTransfer 28 none
   refine c_loop (α := Nat × (List GTransfer) × Int × (List (Int × Bool)) × (Option Addr) × Nat) (fun x => fun w => ∃ C, Bun noM F w0 C w [MO.row cGTransfer 28 (x.2.2.2.2.1) (x.2.2.2.2.2) (x.2.1), MO.map (kInt .i64) Value.bool b1 (x.2.2.2.1)] [Cl.sl (cInt .i64) a1 c1 from1, Cl.sl (cInt .i64) a2 c2 to1] ∧ m_collective_Plan_l2 from1 to1 (x.1) (x.2.1) (x.2.2.1) (x.2.2.2.1) = some r) (fun x _ => x.1) (fun x => [(0, (vs a1 from1.length c1)), (1, (vs a2 to1.length c2)), (5, (vs (x.2.2.2.2.1) (x.2.1).length (x.2.2.2.2.2))), (6, (Value.map (some b1))), (28, (vs a1 from1.length c1)), (29, (vi (from1.length : Int))), (30, (vi (x.2.2.1)))]) (fu, ([] : List GTransfer), 0, ([] : List (Int × Bool)), none, 0) ⟨_, hI.arr (.c .z (.c .z .n)) ⟨.z, (.s .z), trivial⟩, h⟩ ⟨rfl, rfl, rfl, rfl, rfl, rfl, rfl, trivial⟩ ?_
   clear h hI; rintro ⟨fuel2, out4, i2, m2, a8, c15⟩ w9 ⟨c16, hI, h⟩
   dsimp only at hI h
   rcases fuel2 with _ | fuel2
   ·rw [m_collective_Plan_l2] at h; cases h
   rw [m_collective_Plan_l2] at h
   refine c_sub (e := [(0, (vs a1 from1.length c1)), (1, (vs a2 to1.length c2)), (5, (vs a8 out4.length c15)), (6, (Value.map (some b1))), (28, (vs a1 from1.length c1)), (29, (vi (from1.length : Int))), (30, (vi i2))]) ⟨rfl, rfl, rfl, rfl, rfl, rfl, rfl, trivial⟩ ?_
   refine c_seq ?_
   refine c_region rfl ?_
   refine sq (y_lss rfl et et) ?_
   refine s_nil ?_
   refine k_same ?_
   refine c_seq ?_
   refine c_cond (b := decide (i2 < (from1.length : Int))) et (fun hb => ?_) (fun hb => ?_)
   ·replace h := ite_t hb h
    refine c_skip ?_
    refine k_same ?_
    refine c_join (α := (List GTransfer) × (List (Int × Bool)) × (Option Addr) × Nat) (fun _ => ⟨100, []⟩) (fun x => [(0, (vs a1 from1.length c1)), (1, (vs a2 to1.length c2)), (5, (vs (x.2.2.1) (x.1).length (x.2.2.2))), (6, (Value.map (some b1))), (28, (vs a1 from1.length c1)), (29, (vi (from1.length : Int))), (30, (vi i2))]) (fun x => fun w => ∃ C, Bun noM F w0 C w [MO.row cGTransfer 28 (x.2.2.1) (x.2.2.2) (x.1), MO.map (kInt .i64) Value.bool b1 (x.2.1)] [Cl.sl (cInt .i64) a1 c1 from1, Cl.sl (cInt .i64) a2 c2 to1] ∧ m_collective_Plan_j3 (m_collective_Plan_l2 from1 to1 fuel2) i2 (x.1) (x.2.1) = some r) ?_ ?_
    ·clear h hI; rintro ⟨out5, m3, a9, c17⟩ w10 ⟨c18, hI, h⟩
     try dsimp only at hI h
     rw [m_collective_Plan_j3] at h
     refine c_sub (e := [(0, (vs a1 from1.length c1)), (1, (vs a2 to1.length c2)), (5, (vs a9 out5.length c17)), (6, (Value.map (some b1))), (28, (vs a1 from1.length c1)), (29, (vi (from1.length : Int))), (30, (vi i2))]) ⟨rfl, rfl, rfl, rfl, rfl, rfl, rfl, trivial⟩ ?_
     refine c_region rfl ?_
     refine sq (y_add rfl et ev_const) ?_
     refine sq (y_move rfl et) ?_
     refine s_nil ?_
     exact k_loop (fuel2, out5, wi64 (i2 + 1), m3, a9, c17) ⟨rfl, rfl, rfl, rfl, rfl, rfl, rfl, trivial⟩ ⟨_, hI.arr (.c .z (.c .z .n)) ⟨.z, (.s .z), trivial⟩, h⟩ (Nat.lt_succ_self _)
    ·skip
     refine c_block ?_
     refine c_seq ?_
     refine c_region rfl ?_
     refine sq (y_move rfl et) ?_
     obtain ⟨e3, hx8, h⟩ := bnd_some h
     obtain ⟨ad3, cs3, hA3, hr3, hq4⟩ := hI.clat .z hx8
     obtain rfl : cs3 = [(vi e3)] := hr3
     refine sq (y_indexAddr rfl Try.underlying23 size_3 et et (lat_bd hx8) hA3) ?_
     refine sq (y_load1 (v := (vi e3)) rfl et Try.underlying3 rfl hq4.1) ?_
     refine sq (y_assign rfl et) ?_
     refine sq (y_assign rfl et) ?_
     refine s_nil ?_
     refine k_same ?_
     refine c_seq ?_
     refine c_seq ?_
     refine c_region rfl ?_
     refine sq (y_move rfl et) ?_
     refine sq (y_lss rfl et ev_const) ?_
     refine sq (y_move rfl et) ?_
     refine s_gval (g_false rfl rfl rfl rfl) rfl (fun hc => (y_move rfl et)) ?_
     refine s_gval (g_false rfl rfl rfl rfl) rfl (fun hc => (y_move rfl et)) ?_
     obtain ⟨e4, hx9, h⟩ := bnd_some h
     replace hx9 := gd_some hx9
     obtain ⟨ad4, cs4, hq5⟩ := hI.gclat (.s .z) hx9
     have hq6 : (!(decide (e3 < 0))) = true → CA (Dj F c16) w9 (ad4.add (Int.toNat i2 * 1)) [(vi e4)] := fun hc => by have k := hq5 hc; have e : cs4 = _ := k.2.1; rw [← e]; exact k.2.2
     refine s_gval (g_false rfl rfl rfl rfl) rfl (fun hc => (y_indexAddr rfl Try.underlying23 size_3 (ev_gv et hc) (ev_gv et hc) (lat_bd (hx9 hc)) (hq5 hc).1)) ?_
     refine s_gval (g_false rfl rfl rfl rfl) rfl (fun hc => (y_load1 (v := (vi e4)) rfl (ev_gv et hc) Try.underlying3 rfl (hq6 hc).1)) ?_
     refine s_gval (g_false rfl rfl rfl rfl) rfl (fun hc => (y_move rfl et)) ?_
     refine s_gval (g_false rfl rfl rfl rfl) rfl (fun hc => (y_eql rfl (ev_gv et hc) (ev_gv et hc))) ?_
     refine sq (y_or rfl et et) ?_
     refine s_nil ?_
     refine k_same ?_
     refine c_cond (b := (decide (e3 < 0)) || (decide (e4 = e3))) et (fun hb => ?_) (fun hb => ?_)
     ·replace h := ite_t hb h
      refine c_exit ?_
      refine k_in ?_
      exact k_join (out4, m2, a8, c15) ⟨rfl, rfl, rfl, rfl, rfl, rfl, rfl, trivial⟩ ⟨_, hI.arr (.c .z (.c .z .n)) ⟨.z, (.s .z), trivial⟩, h⟩ rfl
     ·replace h := ite_f hb h
      refine c_skip ?_
      refine k_same ?_
      refine c_seq ?_
      refine c_region rfl ?_
      refine sq (y_move rfl et) ?_
      refine sq (y_move rfl et) ?_
      refine sq (y_move rfl et) ?_
      obtain ⟨r3, hx10, h⟩ := bnd_some h
      refine s_call gn rfl (r_callF (vs := [(vs a1 from1.length c1), (vs a2 to1.length c2), (vi e3)]) rfl ok_13 ⟨et, ⟨et, ⟨et, trivial⟩⟩⟩) (Calls.mono (c_collective_receiver (Dj F c16) w9 hI.lt from1 to1 e3 a1 c1 a2 c2 ⟨(hI.get .z), (hI.get (.s .z)), trivial⟩ r3 hx10) ?_)
      rintro _ w11 ⟨rfl, hx11, hl3⟩
      refine ⟨_, rfl, ?_⟩
      replace hI := (hI.ext hx11)
      refine sq (y_assign rfl et) ?_
      refine s_nil ?_
      refine k_same ?_
      refine c_seq ?_
      refine c_region rfl ?_
      refine sq (y_move rfl et) ?_
      refine sq (y_geq rfl et ev_const) ?_
      refine s_nil ?_
      refine k_same ?_
      refine c_cond (b := decide (0 ≤ r3)) et (fun hb => ?_) (fun hb => ?_)
      ·replace h := ite_t hb h
       refine c_seq ?_
       refine c_region rfl ?_
       refine sq (y_move rfl et) ?_
       refine sq (y_move rfl et) ?_
       refine l_mapUpdate (k := r3) (u := true) hI (.s .z) gn rfl rfl et et ev_const Try.underlying45 Try.underlying3 ?_
       clear hI; intro c19 w12 hI
       refine s_nil ?_
       refine k_same ?_
       refine c_region rfl ?_
       refine sq (y_move rfl et) ?_
       refine sq (y_move rfl et) ?_
       refine sq (y_move rfl et) ?_
       refine sq (y_move rfl et) ?_
       refine sq (y_build (vs := [(0, (vi 3)), (1, (vi e3)), (2, (vi i2)), (3, (vi r3))]) (cs := #[(vi 3), (vi e3), (vi i2), (vi r3), (str ([] : List UInt8))]) rfl ⟨rfl, ev_const, ⟨rfl, et, ⟨rfl, et, ⟨rfl, et, trivial⟩⟩⟩⟩ (by kernel_rfl)) ?_
       refine l_lit (c := cGTransfer) (xs := ([(⟨3, e3, i2, r3, ([] : List UInt8)⟩ : GTransfer)] : List GTransfer)) (vs := [(0, (Value.agg #[(vi 3), (vi e3), (vi i2), (vi r3), (str ([] : List UInt8))]))]) (cs := #[(vi 3), (vi e3), (vi i2), (vi r3), (str ([] : List UInt8))]) (css := [[(vi 3), (vi e3), (vi i2), (vi r3), (str ([] : List UInt8))]]) hI gn rfl rfl Try.underlying25 info_28 rfl ⟨rfl, et, trivial⟩ (by kernel_rfl) ⟨rfl, trivial⟩ rfl rfl rfl ?_
       clear hI; intro b3 c20 w13 hI
       obtain ⟨zs2, hx12, h⟩ := bnd_some h
       refine l_append (xs := out4) (ys := ([(⟨3, e3, i2, r3, ([] : List UInt8)⟩ : GTransfer)] : List GTransfer)) hI (.s .z) (hI.rd .z) hx12 gn rfl rfl Try.underlying25 info_28 rfl rfl et et ?_
       clear hI; intro a10 c21 c22 w14 hI
       refine sq (y_assign rfl et) ?_
       refine s_nil ?_
       exact k_join (zs2, mput m2 r3 true, a10, c21) ⟨rfl, rfl, rfl, rfl, rfl, rfl, rfl, trivial⟩ ⟨_, hI.arr (.c (.s .z) (.c (.s .z) .n)) ⟨.z, (.s .z), trivial⟩, h⟩ rfl
      ·replace h := ite_f hb h
       refine c_region rfl ?_
       refine sq (y_move rfl et) ?_
       refine sq (y_move rfl et) ?_
       refine sq (y_move rfl et) ?_
       refine sq (y_move rfl et) ?_
       refine sq (y_build (vs := [(0, (vi 1)), (1, (vi e3)), (2, (vi i2)), (3, (vi i2))]) (cs := #[(vi 1), (vi e3), (vi i2), (vi i2), (str ([] : List UInt8))]) rfl ⟨rfl, ev_const, ⟨rfl, et, ⟨rfl, et, ⟨rfl, et, trivial⟩⟩⟩⟩ (by kernel_rfl)) ?_
       refine l_lit (c := cGTransfer) (xs := ([(⟨1, e3, i2, i2, ([] : List UInt8)⟩ : GTransfer)] : List GTransfer)) (vs := [(0, (Value.agg #[(vi 1), (vi e3), (vi i2), (vi i2), (str ([] : List UInt8))]))]) (cs := #[(vi 1), (vi e3), (vi i2), (vi i2), (str ([] : List UInt8))]) (css := [[(vi 1), (vi e3), (vi i2), (vi i2), (str ([] : List UInt8))]]) hI gn rfl rfl Try.underlying25 info_28 rfl ⟨rfl, et, trivial⟩ (by kernel_rfl) ⟨rfl, trivial⟩ rfl rfl rfl ?_
       clear hI; intro b4 c23 w15 hI
       obtain ⟨zs3, hx13, h⟩ := bnd_some h
       refine l_append (xs := out4) (ys := ([(⟨1, e3, i2, i2, ([] : List UInt8)⟩ : GTransfer)] : List GTransfer)) hI (.s .z) (hI.rd .z) hx13 gn rfl rfl Try.underlying25 info_28 rfl rfl et et ?_
       clear hI; intro a11 c24 c25 w16 hI
       refine sq (y_assign rfl et) ?_
       refine s_nil ?_
       exact k_join (zs3, m2, a11, c24) ⟨rfl, rfl, rfl, rfl, rfl, rfl, rfl, trivial⟩ ⟨_, hI.arr (.c (.s .z) (.c (.s .z) .n)) ⟨.z, (.s .z), trivial⟩, h⟩ rfl
   ·replace h := ite_f hb h
    refine c_exit ?_
    refine k_in ?_
    exact k_join (out4, m2, a8, c15) ⟨rfl, rfl, rfl, rfl, trivial⟩ ⟨_, hI.arr (.c .z (.c .z .n)) ⟨.z, (.s .z), trivial⟩, h⟩ rfl

set_option maxRecDepth 100000 in
set_option maxHeartbeats 4000000 in
theorem c_base_Ints (F : NP) (w0 : World) (hF : ∀ k, F k → k < w0.heap.size) (a1 : List Int) (b1 : List Int) (a2 : Option Addr) (c1 : Nat) (a3 : Option Addr) (c2 : Nat) (hc : AllCl [Cl.sl (cInt .i64) a2 c1 a1, Cl.sl (cInt .i64) a3 c2 b1] F w0) (r : Bool)
  (h : m_base_Ints a1 b1 = some r) :
  Calls Try.prog 36 #[(vs a2 a1.length c1), (vs a3 b1.length c2)] w0 fun e w => e = .returned (vb r) ∧ Ext w0 w ∧ AllCl [] F w := by
 refine enterK (l := [(vs a2 a1.length c1), (vs a3 b1.length c2)]) Try.func36 rfl Try.ntmps36 rfl ?_
 have hI := Bun.start hF hc
 clear hc
 rw [m_base_Ints] at h
 refine c_seq ?_
 refine c_region rfl ?_
 refine sq (y_assign rfl ev_const) ?_
 refine s_nil ?_
 refine k_same ?_
 refine c_seq ?_
 refine c_seq ?_
 refine c_region rfl ?_
 refine sq (y_move rfl et) ?_
 refine sq (y_lenl rfl Try.underlying22 et) ?_
 refine sq (y_move rfl et) ?_
 refine sq (y_lenl rfl Try.underlying22 et) ?_
 refine sq (y_neq rfl et et) ?_
 refine s_nil ?_
 refine k_same ?_
 refine c_cond (b := !decide ((a1.length : Int) = (b1.length : Int))) et (fun hb => ?_) (fun hb => ?_)
 ·replace h := ite_t hb h
  refine c_seq ?_
  refine c_region rfl ?_
  refine sq (y_assign rfl ev_const) ?_
  refine s_nil ?_
  refine k_same ?_
  refine c_ret ?_
  obtain rfl := some_inj h
  exact q_ret (vs := [(vb false)]) Try.results36 ⟨ev_tmp rfl rfl, trivial⟩ ⟨rfl, hI.ext0, hI.fin trivial⟩
 ·replace h := ite_f hb h
  refine c_skip ?_
  refine k_same ?_
  refine c_seq ?_
  refine c_seq ?_
  refine c_region rfl ?_
  refine sq (y_assign rfl ev_const) ?_
  refine s_nil ?_
  refine k_same ?_
  refine c_block ?_
  refine c_loop (α := Nat × Int) (fun x => fun w => ∃ C, Bun noM F w0 C w [] [Cl.sl (cInt .i64) a2 c1 a1, Cl.sl (cInt .i64) a3 c2 b1] ∧ m_base_Ints_l1 a1 b1 (x.1) (x.2) = some r) (fun x _ => x.1) (fun x => [(0, (vs a2 a1.length c1)), (1, (vs a3 b1.length c2)), (5, (vi (x.2)))]) (fu, 0) ⟨_, hI.arr .n ⟨.z, (.s .z), trivial⟩, h⟩ ⟨rfl, rfl, rfl, trivial⟩ ?_
  clear h hI; rintro ⟨fuel1, i1⟩ w1 ⟨c3, hI, h⟩
  dsimp only at hI h
  rcases fuel1 with _ | fuel1
  ·rw [m_base_Ints_l1] at h; cases h
  rw [m_base_Ints_l1] at h
  refine c_sub (e := [(0, (vs a2 a1.length c1)), (1, (vs a3 b1.length c2)), (5, (vi i1))]) ⟨rfl, rfl, rfl, trivial⟩ ?_
  refine c_seq ?_
  refine c_seq ?_
  refine c_region rfl ?_
  refine sq (y_move rfl et) ?_
  refine sq (y_move rfl et) ?_
  refine sq (y_lenl rfl Try.underlying22 et) ?_
  refine sq (y_lss rfl et et) ?_
  refine s_nil ?_
  refine k_same ?_
  refine c_cond (b := decide (i1 < (a1.length : Int))) et (fun hb => ?_) (fun hb => ?_)
  ·replace h := ite_t hb h
   refine c_skip ?_
   refine k_same ?_
   refine c_seq ?_
   refine c_block ?_
   refine c_seq ?_
   refine c_drawX [] false (.c (0, .q) (.c (1, .q) (.c (2, .q) (.c (3, .q) (.c (4, .q) (.c (5, .q) (.c (6, .q) (.c (7, .q) (.c (8, .q) .n))))))))) hI (by kernel_rfl) (by kernel_rfl) ?_
   clear hI; intro w2 hI
   refine a_q rfl gn rfl (fun w' => (y_move rfl et)) ?_
   refine a_q rfl gn rfl (fun w' => (y_move rfl et)) ?_
   obtain ⟨e1, hx1, h⟩ := bnd_some h
   obtain ⟨ad1, cs1, hA1, hr1, hq1⟩ := hI.clat .z hx1
   obtain rfl : cs1 = [(vi e1)] := hr1
   refine a_q rfl gn rfl (fun w' => (y_indexAddr rfl Try.underlying22 size_3 et et (lat_bd hx1) hA1)) ?_
   refine a_read rfl gn rfl (fun w' hw' => (y_load1 (v := (vi e1)) rfl et Try.underlying3 rfl (hq1.at_ (SX.any rfl hw')))) (by kernel_rfl) ?_
   refine a_q rfl gn rfl (fun w' => (y_move rfl et)) ?_
   refine a_q rfl gn rfl (fun w' => (y_move rfl et)) ?_
   obtain ⟨e2, hx2, h⟩ := bnd_some h
   obtain ⟨ad2, cs2, hA2, hr2, hq2⟩ := hI.clat (.s .z) hx2
   obtain rfl : cs2 = [(vi e2)] := hr2
   refine a_q rfl gn rfl (fun w' => (y_indexAddr rfl Try.underlying22 size_3 et et (lat_bd hx2) hA2)) ?_
   refine a_read rfl gn rfl (fun w' hw' => (y_load1 (v := (vi e2)) rfl et Try.underlying3 rfl (hq2.at_ (SX.any rfl hw')))) (by kernel_rfl) ?_
   refine a_q rfl gn rfl (fun w' => (y_neq rfl et et)) ?_
   refine a_nil ?_
   refine k_same ?_
   refine c_cond (b := !decide (e1 = e2)) et (fun hb => ?_) (fun hb => ?_)
   ·replace h := ite_t hb h
    refine c_seq ?_
    refine c_region rfl ?_
    refine sq (y_assign rfl ev_const) ?_
    refine s_nil ?_
    refine k_same ?_
    refine c_ret ?_
    obtain rfl := some_inj h
    exact q_ret (vs := [(vb false)]) Try.results36 ⟨ev_tmp rfl rfl, trivial⟩ ⟨rfl, hI.ext0, hI.fin trivial⟩
   ·replace h := ite_f hb h
    refine c_skip ?_
    refine k_same ?_
    refine c_region rfl ?_
    refine sq (y_move rfl et) ?_
    refine sq (y_add rfl et ev_const) ?_
    refine sq (y_assign rfl et) ?_
    refine s_nil ?_
    exact k_loop (fuel1, wi64 (i1 + 1)) ⟨rfl, rfl, rfl, trivial⟩ ⟨_, hI.arr .n ⟨.z, (.s .z), trivial⟩, h⟩ (Nat.lt_succ_self _)
  ·replace h := ite_f hb h
   refine c_exit ?_
   refine k_in ?_
   refine k_same ?_
   refine c_seq ?_
   refine c_region rfl ?_
   refine sq (y_assign rfl ev_const) ?_
   refine s_nil ?_
   refine k_same ?_
   refine c_ret ?_
   obtain rfl := some_inj h
   exact q_ret (vs := [(vb true)]) Try.results36 ⟨ev_tmp rfl rfl, trivial⟩ ⟨rfl, hI.ext0, hI.fin trivial⟩

set_option maxRecDepth 100000 in
set_option maxHeartbeats 4000000 in
theorem c_base_Vals (F : NP) (w0 : World) (hF : ∀ k, F k → k < w0.heap.size) (a1 : List GVal) (b1 : List GVal) (a2 : Option Addr) (c1 : Nat) (a3 : Option Addr) (c2 : Nat) (hc : AllCl [Cl.sl cGVal a2 c1 a1, Cl.sl cGVal a3 c2 b1] F w0) (r : Bool)
  (h : m_base_Vals a1 b1 = some r) :
  Calls Try.prog 37 #[(vs a2 a1.length c1), (vs a3 b1.length c2)] w0 fun e w => e = .returned (vb r) ∧ Ext w0 w ∧ AllCl [] F w := by
 refine enterK (l := [(vs a2 a1.length c1), (vs a3 b1.length c2)]) Try.func37 rfl Try.ntmps37 rfl ?_
 have hI := Bun.start hF hc
 clear hc
 rw [m_base_Vals] at h
 refine c_seq ?_
 refine c_region rfl ?_
 refine sq (y_assign rfl ev_const) ?_
 refine s_nil ?_
 refine k_same ?_
 refine c_seq ?_
 refine c_seq ?_
 refine c_region rfl ?_
 refine sq (y_move rfl et) ?_
 refine sq (y_lenl rfl Try.underlying34 et) ?_
 refine sq (y_move rfl et) ?_
 refine sq (y_lenl rfl Try.underlying34 et) ?_
 refine sq (y_neq rfl et et) ?_
 refine s_nil ?_
 refine k_same ?_
 refine c_cond (b := !decide ((a1.length : Int) = (b1.length : Int))) et (fun hb => ?_) (fun hb => ?_)
 ·replace h := ite_t hb h
  refine c_seq ?_
  refine c_region rfl ?_
  refine sq (y_assign rfl ev_const) ?_
  refine s_nil ?_
  refine k_same ?_
  refine c_ret ?_
  obtain rfl := some_inj h
  exact q_ret (vs := [(vb false)]) Try.results37 ⟨ev_tmp rfl rfl, trivial⟩ ⟨rfl, hI.ext0, hI.fin trivial⟩
 ·replace h := ite_f hb h
  refine c_skip ?_
  refine k_same ?_
  refine c_seq ?_
  refine c_seq ?_
  refine c_region rfl ?_
  refine sq (y_assign rfl ev_const) ?_
  refine s_nil ?_
  refine k_same ?_
  refine c_block ?_
  refine c_loop (α := Nat × Int) (fun x => fun w => ∃ C, Bun noM F w0 C w [] [Cl.sl cGVal a2 c1 a1, Cl.sl cGVal a3 c2 b1] ∧ m_base_Vals_l1 a1 b1 (x.1) (x.2) = some r) (fun x _ => x.1) (fun x => [(0, (vs a2 a1.length c1)), (1, (vs a3 b1.length c2)), (5, (vi (x.2)))]) (fu, 0) ⟨_, hI.arr .n ⟨.z, (.s .z), trivial⟩, h⟩ ⟨rfl, rfl, rfl, trivial⟩ ?_
  clear h hI; rintro ⟨fuel1, i1⟩ w1 ⟨c3, hI, h⟩
  dsimp only at hI h
  rcases fuel1 with _ | fuel1
  ·rw [m_base_Vals_l1] at h; cases h
  rw [m_base_Vals_l1] at h
  refine c_sub (e := [(0, (vs a2 a1.length c1)), (1, (vs a3 b1.length c2)), (5, (vi i1))]) ⟨rfl, rfl, rfl, trivial⟩ ?_
  refine c_seq ?_
  refine c_seq ?_
  refine c_region rfl ?_
  refine sq (y_move rfl et) ?_
  refine sq (y_move rfl et) ?_
  refine sq (y_lenl rfl Try.underlying34 et) ?_
  refine sq (y_lss rfl et et) ?_
  refine s_nil ?_
  refine k_same ?_
  refine c_cond (b := decide (i1 < (a1.length : Int))) et (fun hb => ?_) (fun hb => ?_)
  ·replace h := ite_t hb h
   refine c_skip ?_
   refine k_same ?_
   refine c_seq ?_
   refine c_block ?_
   refine c_seq ?_
   refine c_drawX [] false (.c (0, .q) (.c (1, .q) (.c (2, .q) (.c (3, .q) (.c (4, .q) (.c (5, .q) (.c (6, .q) (.c (7, .q) (.c (8, .q) .n))))))))) hI (by kernel_rfl) (by kernel_rfl) ?_
   clear hI; intro w2 hI
   refine a_q rfl gn rfl (fun w' => (y_move rfl et)) ?_
   refine a_q rfl gn rfl (fun w' => (y_move rfl et)) ?_
   obtain ⟨e1, hx1, h⟩ := bnd_some h
   obtain ⟨ad1, cs1, hA1, hr1, hq1⟩ := hI.clat .z hx1
   obtain rfl : cs1 = [(vi e1.N), (vi e1.D)] := hr1
   refine a_q rfl gn rfl (fun w' => (y_indexAddr rfl Try.underlying34 size_50 et et (lat_bd hx1) hA1)) ?_
   refine a_read rfl gn rfl (fun w' hw' => (y_loadN (l := [(vi e1.N), (vi e1.D)]) rfl et Try.underlying50 rfl size_50 (hq1.at_ (SX.any rfl hw')))) (by kernel_rfl) ?_
   refine a_q rfl gn rfl (fun w' => (y_move rfl et)) ?_
   refine a_q rfl gn rfl (fun w' => (y_move rfl et)) ?_
   obtain ⟨e2, hx2, h⟩ := bnd_some h
   obtain ⟨ad2, cs2, hA2, hr2, hq2⟩ := hI.clat (.s .z) hx2
   obtain rfl : cs2 = [(vi e2.N), (vi e2.D)] := hr2
   refine a_q rfl gn rfl (fun w' => (y_indexAddr rfl Try.underlying34 size_50 et et (lat_bd hx2) hA2)) ?_
   refine a_read rfl gn rfl (fun w' hw' => (y_loadN (l := [(vi e2.N), (vi e2.D)]) rfl et Try.underlying50 rfl size_50 (hq2.at_ (SX.any rfl hw')))) (by kernel_rfl) ?_
   refine a_q rfl gn rfl (fun w' => (y_bin rfl et et (eqstruct_50n ..) (eqguard_50 ..))) ?_
   refine a_nil ?_
   refine k_same ?_
   refine c_cond (b := !((decide (e1.N = e2.N)) && (decide (e1.D = e2.D)))) et (fun hb => ?_) (fun hb => ?_)
   ·replace h := ite_t hb h
    refine c_seq ?_
    refine c_region rfl ?_
    refine sq (y_assign rfl ev_const) ?_
    refine s_nil ?_
    refine k_same ?_
    refine c_ret ?_
    obtain rfl := some_inj h
    exact q_ret (vs := [(vb false)]) Try.results37 ⟨ev_tmp rfl rfl, trivial⟩ ⟨rfl, hI.ext0, hI.fin trivial⟩
   ·replace h := ite_f hb h
    refine c_skip ?_
    refine k_same ?_
    refine c_region rfl ?_
    refine sq (y_move rfl et) ?_
    refine sq (y_add rfl et ev_const) ?_
    refine sq (y_assign rfl et) ?_
    refine s_nil ?_
    exact k_loop (fuel1, wi64 (i1 + 1)) ⟨rfl, rfl, rfl, trivial⟩ ⟨_, hI.arr .n ⟨.z, (.s .z), trivial⟩, h⟩ (Nat.lt_succ_self _)
  ·replace h := ite_f hb h
   refine c_exit ?_
   refine k_in ?_
   refine k_same ?_
   refine c_seq ?_
   refine c_region rfl ?_
   refine sq (y_assign rfl ev_const) ?_
   refine s_nil ?_
   refine k_same ?_
   refine c_ret ?_
   obtain rfl := some_inj h
   exact q_ret (vs := [(vb true)]) Try.results37 ⟨ev_tmp rfl rfl, trivial⟩ ⟨rfl, hI.ext0, hI.fin trivial⟩

set_option maxRecDepth 100000 in
set_option maxHeartbeats 4000000 in
theorem c_base_Tensor (F : NP) (w0 : World) (hF : ∀ k, F k → k < w0.heap.size) (a1 : GTensor) (b1 : GTensor) (a2 : Option Addr) (c1 : Nat) (a3 : Option Addr) (c2 : Nat) (a4 : Option Addr) (c3 : Nat) (a5 : Option Addr) (c4 : Nat) (hc : AllCl [Cl.sl (cInt .i64) a2 c1 a1.Dims, Cl.sl cGVal a3 c2 a1.Vals, Cl.sl (cInt .i64) a4 c3 b1.Dims, Cl.sl cGVal a5 c4 b1.Vals] F w0) (r : Bool)
  (h : m_base_Tensor a1 b1 = some r) :
  Calls Try.prog 24 #[(Value.agg #[(vi a1.Type_.Kind), (vi a1.Type_.Bits), (vi a1.Type_.Frac), (vi a1.Type_.Round), (vi a1.Type_.Over), (vs a2 a1.Dims.length c1), (vs a3 a1.Vals.length c2)]), (Value.agg #[(vi b1.Type_.Kind), (vi b1.Type_.Bits), (vi b1.Type_.Frac), (vi b1.Type_.Round), (vi b1.Type_.Over), (vs a4 b1.Dims.length c3), (vs a5 b1.Vals.length c4)])] w0 fun e w => e = .returned (vb r) ∧ Ext w0 w ∧ AllCl [] F w := by
 refine enterK (l := [(Value.agg #[(vi a1.Type_.Kind), (vi a1.Type_.Bits), (vi a1.Type_.Frac), (vi a1.Type_.Round), (vi a1.Type_.Over), (vs a2 a1.Dims.length c1), (vs a3 a1.Vals.length c2)]), (Value.agg #[(vi b1.Type_.Kind), (vi b1.Type_.Bits), (vi b1.Type_.Frac), (vi b1.Type_.Round), (vi b1.Type_.Over), (vs a4 b1.Dims.length c3), (vs a5 b1.Vals.length c4)])]) Try.func24 rfl Try.ntmps24 rfl ?_
 have hI := Bun.start hF hc
 clear hc
 rw [m_base_Tensor] at h
 refine c_seq ?_
 refine c_region rfl ?_
 refine l_box (v := (Value.agg #[(vi a1.Type_.Kind), (vi a1.Type_.Bits), (vi a1.Type_.Frac), (vi a1.Type_.Round), (vi a1.Type_.Over), (vs a2 a1.Dims.length c1), (vs a3 a1.Vals.length c2)])) (cs := #[(vi a1.Type_.Kind), (vi a1.Type_.Bits), (vi a1.Type_.Frac), (vi a1.Type_.Round), (vi a1.Type_.Over), (vs a2 a1.Dims.length c1), (vs a3 a1.Vals.length c2)]) hI gn rfl rfl et rfl ?_
 clear hI; intro b2 c5 w1 hI
 obtain ⟨c6, hI⟩ := hI.relBox .z
 refine l_box (v := (Value.agg #[(vi b1.Type_.Kind), (vi b1.Type_.Bits), (vi b1.Type_.Frac), (vi b1.Type_.Round), (vi b1.Type_.Over), (vs a4 b1.Dims.length c3), (vs a5 b1.Vals.length c4)])) (cs := #[(vi b1.Type_.Kind), (vi b1.Type_.Bits), (vi b1.Type_.Frac), (vi b1.Type_.Round), (vi b1.Type_.Over), (vs a4 b1.Dims.length c3), (vs a5 b1.Vals.length c4)]) hI gn rfl rfl et rfl ?_
 clear hI; intro b3 c7 w2 hI
 obtain ⟨c8, hI⟩ := hI.relBox .z
 refine sq (y_assign rfl ev_const) ?_
 refine s_nil ?_
 refine k_same ?_
 refine c_seq ?_
 refine c_region rfl ?_
 refine sq (y_fieldAddr rfl et Try.underlying36 rfl size_33 rfl) ?_
 refine sq (y_loadN (l := [(vi a1.Type_.Kind), (vi a1.Type_.Bits), (vi a1.Type_.Frac), (vi a1.Type_.Round), (vi a1.Type_.Over)]) rfl et Try.underlying33 rfl size_33 (hI.kblk (l := [(vi a1.Type_.Kind), (vi a1.Type_.Bits), (vi a1.Type_.Frac), (vi a1.Type_.Round), (vi a1.Type_.Over)]) (.s .z) rfl).1) ?_
 refine sq (y_fieldAddr rfl et Try.underlying36 rfl size_33 rfl) ?_
 refine sq (y_loadN (l := [(vi b1.Type_.Kind), (vi b1.Type_.Bits), (vi b1.Type_.Frac), (vi b1.Type_.Round), (vi b1.Type_.Over)]) rfl et Try.underlying33 rfl size_33 (hI.kblk (l := [(vi b1.Type_.Kind), (vi b1.Type_.Bits), (vi b1.Type_.Frac), (vi b1.Type_.Round), (vi b1.Type_.Over)]) .z rfl).1) ?_
 refine sq (y_bin rfl et et (eqstruct_33 ..) (eqguard_33 ..)) ?_
 refine sq (y_move rfl et) ?_
 refine s_gval (g_true rfl rfl rfl rfl) rfl (fun hc => (y_fieldAddr rfl et Try.underlying36 rfl size_22 rfl)) ?_
 refine s_gval (g_true rfl rfl rfl rfl) rfl (fun hc => (y_load1 (v := (vs a2 a1.Dims.length c1)) rfl (ev_gv et hc) Try.underlying22 rfl (hI.kblk (l := [(vs a2 a1.Dims.length c1)]) (.s .z) rfl).1)) ?_
 refine s_gval (g_true rfl rfl rfl rfl) rfl (fun hc => (y_fieldAddr rfl et Try.underlying36 rfl size_22 rfl)) ?_
 refine s_gval (g_true rfl rfl rfl rfl) rfl (fun hc => (y_load1 (v := (vs a4 b1.Dims.length c3)) rfl (ev_gv et hc) Try.underlying22 rfl (hI.kblk (l := [(vs a4 b1.Dims.length c3)]) .z rfl).1)) ?_
 obtain ⟨r1, hx1, h⟩ := bnd_some h
 replace hx1 := gd_some hx1
 refine s_gcallU (v := (vb r1)) (g_true rfl rfl rfl rfl) rfl (fun hc => (r_callF (vs := [(vs a2 a1.Dims.length c1), (vs a4 b1.Dims.length c3)]) rfl ok_36 ⟨(ev_gv et hc), ⟨(ev_gv et hc), trivial⟩⟩)) (fun hc => (c_base_Ints (Dj F c8) w2 hI.lt a1.Dims b1.Dims a2 c1 a4 c3 ⟨(hI.get (.s (.s .z))), (hI.get (.s (.s (.s (.s .z))))), trivial⟩ r1 (hx1 hc)).mono fun _ _ k => ⟨k.1, k.2.1⟩) ?_
 intro w3 hx2; replace hI := hI.ext hx2
 refine sq (y_and rfl et et) ?_
 refine sq (y_move rfl et) ?_
 refine s_gval (g_true rfl rfl rfl rfl) rfl (fun hc => (y_fieldAddr rfl et Try.underlying36 rfl size_34 rfl)) ?_
 refine s_gval (g_true rfl rfl rfl rfl) rfl (fun hc => (y_load1 (v := (vs a3 a1.Vals.length c2)) rfl (ev_gv et hc) Try.underlying34 rfl (hI.kblk (l := [(vs a3 a1.Vals.length c2)]) (.s .z) rfl).1)) ?_
 refine s_gval (g_true rfl rfl rfl rfl) rfl (fun hc => (y_fieldAddr rfl et Try.underlying36 rfl size_34 rfl)) ?_
 refine s_gval (g_true rfl rfl rfl rfl) rfl (fun hc => (y_load1 (v := (vs a5 b1.Vals.length c4)) rfl (ev_gv et hc) Try.underlying34 rfl (hI.kblk (l := [(vs a5 b1.Vals.length c4)]) .z rfl).1)) ?_
 obtain ⟨r2, hx3, h⟩ := bnd_some h
 replace hx3 := gd_some hx3
 refine s_gcallU (v := (vb r2)) (g_true rfl rfl rfl rfl) rfl (fun hc => (r_callF (vs := [(vs a3 a1.Vals.length c2), (vs a5 b1.Vals.length c4)]) rfl ok_37 ⟨(ev_gv et hc), ⟨(ev_gv et hc), trivial⟩⟩)) (fun hc => (c_base_Vals (Dj F c8) w3 hI.lt a1.Vals b1.Vals a3 c2 a5 c4 ⟨(hI.get (.s (.s (.s .z)))), (hI.get (.s (.s (.s (.s (.s .z)))))), trivial⟩ r2 (hx3 hc)).mono fun _ _ k => ⟨k.1, k.2.1⟩) ?_
 intro w4 hx4; replace hI := hI.ext hx4
 refine sq (y_and rfl et et) ?_
 refine sq (y_assign rfl et) ?_
 refine s_nil ?_
 refine k_same ?_
 refine c_ret ?_
 obtain rfl := some_inj h
 exact q_ret (vs := [(vb ((((decide (a1.Type_.Kind = b1.Type_.Kind)) && (decide (a1.Type_.Bits = b1.Type_.Bits)) && (decide (a1.Type_.Frac = b1.Type_.Frac)) && (decide (a1.Type_.Round = b1.Type_.Round)) && (decide (a1.Type_.Over = b1.Type_.Over))) && r1) && r2))]) Try.results24 ⟨ev_tmp rfl rfl, trivial⟩ ⟨rfl, hI.ext0, hI.fin trivial⟩

set_option maxRecDepth 100000 in
set_option maxHeartbeats 4000000 in
theorem c_base_Tensors (F : NP) (w0 : World) (hF : ∀ k, F k → k < w0.heap.size) (a1 : List GTensor) (b1 : List GTensor) (a2 : Option Addr) (c1 : Nat) (a3 : Option Addr) (c2 : Nat) (hc : AllCl [Cl.sl cGTensor a2 c1 a1, Cl.sl cGTensor a3 c2 b1] F w0) (r : Bool)
  (h : m_base_Tensors a1 b1 = some r) :
  Calls Try.prog 11 #[(vs a2 a1.length c1), (vs a3 b1.length c2)] w0 fun e w => e = .returned (vb r) ∧ Ext w0 w ∧ AllCl [] F w := by
 refine enterK (l := [(vs a2 a1.length c1), (vs a3 b1.length c2)]) Try.func11 rfl Try.ntmps11 rfl ?_
 have hI := Bun.start hF hc
 clear hc
 rw [m_base_Tensors] at h
 refine c_seq ?_
 refine c_region rfl ?_
 refine sq (y_assign rfl ev_const) ?_
 refine s_nil ?_
 refine k_same ?_
 refine c_seq ?_
 refine c_seq ?_
 refine c_region rfl ?_
 refine sq (y_move rfl et) ?_
 refine sq (y_lenl rfl Try.underlying38 et) ?_
 refine sq (y_move rfl et) ?_
 refine sq (y_lenl rfl Try.underlying38 et) ?_
 refine sq (y_neq rfl et et) ?_
 refine s_nil ?_
 refine k_same ?_
 refine c_cond (b := !decide ((a1.length : Int) = (b1.length : Int))) et (fun hb => ?_) (fun hb => ?_)
 ·replace h := ite_t hb h
  refine c_seq ?_
  refine c_region rfl ?_
  refine sq (y_assign rfl ev_const) ?_
  refine s_nil ?_
  refine k_same ?_
  refine c_ret ?_
  obtain rfl := some_inj h
  exact q_ret (vs := [(vb false)]) Try.results11 ⟨ev_tmp rfl rfl, trivial⟩ ⟨rfl, hI.ext0, hI.fin trivial⟩
 ·replace h := ite_f hb h
  refine c_skip ?_
  refine k_same ?_
  refine c_seq ?_
  refine c_seq ?_
  refine c_region rfl ?_
  refine sq (y_assign rfl ev_const) ?_
  refine s_nil ?_
  refine k_same ?_
  refine c_block ?_
  refine c_loop (α := Nat × Int) (fun x => fun w => ∃ C, Bun noM F w0 C w [] [Cl.sl cGTensor a2 c1 a1, Cl.sl cGTensor a3 c2 b1] ∧ m_base_Tensors_l1 a1 b1 (x.1) (x.2) = some r) (fun x _ => x.1) (fun x => [(0, (vs a2 a1.length c1)), (1, (vs a3 b1.length c2)), (5, (vi (x.2)))]) (fu, 0) ⟨_, hI.arr .n ⟨.z, (.s .z), trivial⟩, h⟩ ⟨rfl, rfl, rfl, trivial⟩ ?_
  clear h hI; rintro ⟨fuel1, i1⟩ w1 ⟨c3, hI, h⟩
  dsimp only at hI h
  rcases fuel1 with _ | fuel1
  ·rw [m_base_Tensors_l1] at h; cases h
  rw [m_base_Tensors_l1] at h
  refine c_sub (e := [(0, (vs a2 a1.length c1)), (1, (vs a3 b1.length c2)), (5, (vi i1))]) ⟨rfl, rfl, rfl, trivial⟩ ?_
  refine c_seq ?_
  refine c_seq ?_
  refine c_region rfl ?_
  refine sq (y_move rfl et) ?_
  refine sq (y_move rfl et) ?_
  refine sq (y_lenl rfl Try.underlying38 et) ?_
  refine sq (y_lss rfl et et) ?_
  refine s_nil ?_
  refine k_same ?_
  refine c_cond (b := decide (i1 < (a1.length : Int))) et (fun hb => ?_) (fun hb => ?_)
  ·replace h := ite_t hb h
   refine c_skip ?_
   refine k_same ?_
   refine c_seq ?_
   refine c_block ?_
   refine c_seq ?_
   refine c_drawX [] false (.c (0, .q) (.c (1, .q) (.c (2, .q) (.c (3, .q) (.c (4, .q) (.c (5, .q) (.c (6, .q) (.c (7, .q) (.c (8, .s) (.c (9, .q) .n)))))))))) hI (by kernel_rfl) (by kernel_rfl) ?_
   clear hI; intro w2 hI
   refine a_q rfl gn rfl (fun w' => (y_move rfl et)) ?_
   refine a_q rfl gn rfl (fun w' => (y_move rfl et)) ?_
   obtain ⟨e1, hx1, h⟩ := bnd_some h
   obtain ⟨ad1, cs1, hA1, hr1, hq1⟩ := hI.clat .z hx1
   obtain ⟨a4, c4, a5, c5, rfl, hf1, hf2⟩ := hr1
   have hI := hI.add (c := Cl.sl (cInt .i64) a4 c4 e1.Dims) hf1
   have hI := hI.add (c := Cl.sl cGVal a5 c5 e1.Vals) hf2
   refine a_q rfl gn rfl (fun w' => (y_indexAddr rfl Try.underlying38 size_36 et et (lat_bd hx1) hA1)) ?_
   refine a_read rfl gn rfl (fun w' hw' => (y_loadN (l := [(vi e1.Type_.Kind), (vi e1.Type_.Bits), (vi e1.Type_.Frac), (vi e1.Type_.Round), (vi e1.Type_.Over), (vs a4 e1.Dims.length c4), (vs a5 e1.Vals.length c5)]) rfl et Try.underlying36 rfl size_36 (hq1.at_ (SX.any rfl hw')))) (by kernel_rfl) ?_
   refine a_q rfl gn rfl (fun w' => (y_move rfl et)) ?_
   refine a_q rfl gn rfl (fun w' => (y_move rfl et)) ?_
   obtain ⟨e2, hx2, h⟩ := bnd_some h
   obtain ⟨ad2, cs2, hA2, hr2, hq2⟩ := hI.clat (.s (.s (.s .z))) hx2
   obtain ⟨a6, c6, a7, c7, rfl, hf3, hf4⟩ := hr2
   have hI := hI.add (c := Cl.sl (cInt .i64) a6 c6 e2.Dims) hf3
   have hI := hI.add (c := Cl.sl cGVal a7 c7 e2.Vals) hf4
   refine a_q rfl gn rfl (fun w' => (y_indexAddr rfl Try.underlying38 size_36 et et (lat_bd hx2) hA2)) ?_
   refine a_read rfl gn rfl (fun w' hw' => (y_loadN (l := [(vi e2.Type_.Kind), (vi e2.Type_.Bits), (vi e2.Type_.Frac), (vi e2.Type_.Round), (vi e2.Type_.Over), (vs a6 e2.Dims.length c6), (vs a7 e2.Vals.length c7)]) rfl et Try.underlying36 rfl size_36 (hq2.at_ (SX.any rfl hw')))) (by kernel_rfl) ?_
   obtain ⟨r1, hx3, h⟩ := bnd_some h
   refine la_call rfl gn rfl (r_callF (vs := [(Value.agg #[(vi e1.Type_.Kind), (vi e1.Type_.Bits), (vi e1.Type_.Frac), (vi e1.Type_.Round), (vi e1.Type_.Over), (vs a4 e1.Dims.length c4), (vs a5 e1.Vals.length c5)]), (Value.agg #[(vi e2.Type_.Kind), (vi e2.Type_.Bits), (vi e2.Type_.Frac), (vi e2.Type_.Round), (vi e2.Type_.Over), (vs a6 e2.Dims.length c6), (vs a7 e2.Vals.length c7)])]) rfl ok_24 ⟨et, ⟨et, trivial⟩⟩) (Calls.mono (c_base_Tensor (Dj F c3) w2 hI.lt e1 e2 a4 c4 a5 c5 a6 c6 a7 c7 ⟨(hI.get (.s (.s (.s .z)))), (hI.get (.s (.s .z))), (hI.get (.s .z)), (hI.get .z), trivial⟩ r1 hx3) ?_)
   rintro _ w3 ⟨rfl, hx4, hl1⟩
   refine ⟨_, rfl, hx4, ?_⟩
   replace hI := (hI.ext hx4)
   refine a_q rfl gn rfl (fun w' => (y_not rfl et)) ?_
   refine a_nil ?_
   refine k_same ?_
   refine c_cond (b := !r1) et (fun hb => ?_) (fun hb => ?_)
   ·replace h := ite_t hb h
    refine c_seq ?_
    refine c_region rfl ?_
    refine sq (y_assign rfl ev_const) ?_
    refine s_nil ?_
    refine k_same ?_
    refine c_ret ?_
    obtain rfl := some_inj h
    exact q_ret (vs := [(vb false)]) Try.results11 ⟨ev_tmp rfl rfl, trivial⟩ ⟨rfl, hI.ext0, hI.fin trivial⟩
   ·replace h := ite_f hb h
    refine c_skip ?_
    refine k_same ?_
    refine c_region rfl ?_
    refine sq (y_move rfl et) ?_
    refine sq (y_add rfl et ev_const) ?_
    refine sq (y_assign rfl et) ?_
    refine s_nil ?_
    exact k_loop (fuel1, wi64 (i1 + 1)) ⟨rfl, rfl, rfl, trivial⟩ ⟨_, hI.arr .n ⟨(.s (.s (.s (.s .z)))), (.s (.s (.s (.s (.s .z))))), trivial⟩, h⟩ (Nat.lt_succ_self _)
  ·replace h := ite_f hb h
   refine c_exit ?_
   refine k_in ?_
   refine k_same ?_
   refine c_seq ?_
   refine c_region rfl ?_
   refine sq (y_assign rfl ev_const) ?_
   refine s_nil ?_
   refine k_same ?_
   refine c_ret ?_
   obtain rfl := some_inj h
   exact q_ret (vs := [(vb true)]) Try.results11 ⟨ev_tmp rfl rfl, trivial⟩ ⟨rfl, hI.ext0, hI.fin trivial⟩

set_option maxRecDepth 100000 in
set_option maxHeartbeats 4000000 in
theorem c_law53_examples (F : NP) (w0 : World) (hF : ∀ k, F k → k < w0.heap.size) (hc : AllCl [] F w0) (r : Bool)
  (h : m_law53_examples = some r) :
  Calls Try.prog 4 #[] w0 fun e w => e = .returned (vb r) ∧ Ext w0 w ∧ AllCl [] F w := by
 refine enterK (l := []) Try.func4 rfl Try.ntmps4 rfl ?_
 have hI := Bun.start hF hc
 clear hc
 rw [m_law53_examples] at h
 refine c_seq ?_
 refine c_region rfl ?_
 refine sq (y_assign rfl ev_const) ?_
 refine s_nil ?_
 refine k_same ?_
 refine c_seq ?_
 refine c_region rfl ?_
 refine l_lit (c := (cInt .i64)) (xs := ([2] : List Int)) (vs := [(0, (vi 2))]) (cs := #[(vi 2)]) (css := [[(vi 2)]]) hI gn rfl rfl Try.underlying22 info_3 rfl ⟨rfl, ev_const, trivial⟩ (by kernel_rfl) ⟨rfl, trivial⟩ rfl rfl rfl ?_
 clear hI; intro b1 c1 w1 hI
 refine sq (y_build (vs := [(0, (vs (some ⟨b1, 0, none⟩) ([2] : List Int).length 1))]) (cs := #[(vs (some ⟨b1, 0, none⟩) ([2] : List Int).length 1)]) rfl ⟨rfl, et, trivial⟩ (by kernel_rfl)) ?_
 refine l_alloc (cs := #[(vs none 0 0)]) hI gn rfl rfl zero_31 rfl ?_
 clear hI; intro b2 c2 w2 hI
 refine l_store (new := [(vs (some ⟨b1, 0, none⟩) ([2] : List Int).length 1)]) (cs' := #[(vs (some ⟨b1, 0, none⟩) ([2] : List Int).length 1)]) hI .z gn rfl rfl et et rfl size_31 rfl rfl rfl ?_
 clear hI; intro c3 w3 hI
 refine s_nil ?_
 refine k_same ?_
 refine c_seq ?_
 refine c_region rfl ?_
 refine l_lit (c := (cInt .i64)) (xs := ([1, 2] : List Int)) (vs := [(0, (vi 1)), (1, (vi 2))]) (cs := #[(vi 1), (vi 2)]) (css := [[(vi 1)], [(vi 2)]]) hI gn rfl rfl Try.underlying48 info_2 rfl ⟨rfl, ev_const, ⟨rfl, ev_const, trivial⟩⟩ (by kernel_rfl) ⟨rfl, ⟨rfl, trivial⟩⟩ rfl rfl rfl ?_
 clear hI; intro b3 c4 w4 hI
 obtain ⟨c5, hI⟩ := hI.release .z
 obtain ⟨r1, hx1, h⟩ := bnd_some h
 refine s_call gn rfl (r_callF (vs := [(vs (some ⟨b3, 0, none⟩) ([1, 2] : List Int).length 2)]) rfl ok_7 ⟨et, trivial⟩) (Calls.mono (c_law53_vector (Dj F c5) w4 hI.lt ([1, 2] : List Int) (some ⟨b3, 0, none⟩) 2 ⟨(hI.get .z), trivial⟩ r1 hx1) ?_)
 rintro _ w5 ⟨a1, c6, a2, c7, rfl, hx2, hl1⟩
 refine ⟨_, rfl, ?_⟩
 replace hI := (hI.ext hx2).adds hl1
 refine l_lit (c := (cInt .i64)) (xs := ([3, 4] : List Int)) (vs := [(0, (vi 3)), (1, (vi 4))]) (cs := #[(vi 3), (vi 4)]) (css := [[(vi 3)], [(vi 4)]]) hI gn rfl rfl Try.underlying48 info_2 rfl ⟨rfl, ev_const, ⟨rfl, ev_const, trivial⟩⟩ (by kernel_rfl) ⟨rfl, ⟨rfl, trivial⟩⟩ rfl rfl rfl ?_
 clear hI; intro b4 c8 w6 hI
 obtain ⟨c9, hI⟩ := hI.release .z
 obtain ⟨r2, hx3, h⟩ := bnd_some h
 refine s_call gn rfl (r_callF (vs := [(vs (some ⟨b4, 0, none⟩) ([3, 4] : List Int).length 2)]) rfl ok_7 ⟨et, trivial⟩) (Calls.mono (c_law53_vector (Dj F c9) w6 hI.lt ([3, 4] : List Int) (some ⟨b4, 0, none⟩) 2 ⟨(hI.get .z), trivial⟩ r2 hx3) ?_)
 rintro _ w7 ⟨a3, c10, a4, c11, rfl, hx4, hl2⟩
 refine ⟨_, rfl, ?_⟩
 replace hI := (hI.ext hx4).adds hl2
 refine l_lit (c := cGTensor) (xs := ([r1, r2] : List GTensor)) (vs := [(0, (Value.agg #[(vi r1.Type_.Kind), (vi r1.Type_.Bits), (vi r1.Type_.Frac), (vi r1.Type_.Round), (vi r1.Type_.Over), (vs a1 r1.Dims.length c6), (vs a2 r1.Vals.length c7)])), (1, (Value.agg #[(vi r2.Type_.Kind), (vi r2.Type_.Bits), (vi r2.Type_.Frac), (vi r2.Type_.Round), (vi r2.Type_.Over), (vs a3 r2.Dims.length c10), (vs a4 r2.Vals.length c11)]))]) (cs := #[(vi r1.Type_.Kind), (vi r1.Type_.Bits), (vi r1.Type_.Frac), (vi r1.Type_.Round), (vi r1.Type_.Over), (vs a1 r1.Dims.length c6), (vs a2 r1.Vals.length c7), (vi r2.Type_.Kind), (vi r2.Type_.Bits), (vi r2.Type_.Frac), (vi r2.Type_.Round), (vi r2.Type_.Over), (vs a3 r2.Dims.length c10), (vs a4 r2.Vals.length c11)]) (css := [[(vi r1.Type_.Kind), (vi r1.Type_.Bits), (vi r1.Type_.Frac), (vi r1.Type_.Round), (vi r1.Type_.Over), (vs a1 r1.Dims.length c6), (vs a2 r1.Vals.length c7)], [(vi r2.Type_.Kind), (vi r2.Type_.Bits), (vi r2.Type_.Frac), (vi r2.Type_.Round), (vi r2.Type_.Over), (vs a3 r2.Dims.length c10), (vs a4 r2.Vals.length c11)]]) hI gn rfl rfl Try.underlying38 info_36 rfl ⟨rfl, et, ⟨rfl, et, trivial⟩⟩ (by kernel_rfl) ⟨⟨a1, c6, a2, c7, rfl, hI.get (.s (.s (.s .z))), hI.get (.s (.s (.s (.s .z))))⟩, ⟨⟨a3, c10, a4, c11, rfl, hI.get .z, hI.get (.s .z)⟩, trivial⟩⟩ rfl rfl rfl ?_
 clear hI; intro b5 c12 w8 hI
 refine sq (y_assign rfl et) ?_
 refine s_nil ?_
 refine k_same ?_
 refine c_seq ?_
 refine c_region rfl ?_
 refine sq (y_loadN (l := [(vs (some ⟨b1, 0, none⟩) ([2] : List Int).length 1)]) rfl et Try.underlying31 rfl size_31 (CellsAt.of_blk (hI.blk (.s .z)) rfl)) ?_
 refine sq (y_move rfl et) ?_
 obtain ⟨c13, hI⟩ := hI.release (.s (.s .z))
 obtain ⟨c14, hI⟩ := hI.release .z
 obtain ⟨r3, hx5, h⟩ := bnd_some h
 refine s_call gn rfl (r_callF (vs := [(Value.agg #[(vs (some ⟨b1, 0, none⟩) ([2] : List Int).length 1)]), (vs (some ⟨b5, 0, none⟩) ([r1, r2] : List GTensor).length 2), (vi 0), (vi 0)]) rfl ok_8 ⟨et, ⟨et, ⟨ev_const, ⟨ev_const, trivial⟩⟩⟩⟩) (Calls.mono (c_collective_AllGather (Dj F c14) w8 hI.lt (⟨([2] : List Int)⟩ : GMesh) ([r1, r2] : List GTensor) 0 0 (some ⟨b1, 0, none⟩) 1 (some ⟨b5, 0, none⟩) 2 ⟨(hI.get (.s .z)), (hI.get .z), trivial⟩ r3 hx5) ?_)
 rintro _ w9 ⟨a5, c15, rfl, hx6, hl3⟩
 refine ⟨_, rfl, ?_⟩
 replace hI := (hI.ext hx6).adds hl3
 refine sq (y_move rfl et) ?_
 refine sq (y_extract rfl et rfl) ?_
 refine sq (y_extract rfl et rfl) ?_
 refine sq (y_assign rfl et) ?_
 refine sq (y_assign rfl et) ?_
 refine s_nil ?_
 refine k_same ?_
 refine c_seq ?_
 refine c_region rfl ?_
 refine sq (y_loadN (l := [(vs (some ⟨b1, 0, none⟩) ([2] : List Int).length 1)]) rfl et Try.underlying31 rfl size_31 (CellsAt.of_blk (hI.blk .z) rfl)) ?_
 refine sq (y_move rfl et) ?_
 obtain ⟨r4, hx7, h⟩ := bnd_some h
 refine s_call gn rfl (r_callF (vs := [(Value.agg #[(vs (some ⟨b1, 0, none⟩) ([2] : List Int).length 1)]), (vs (some ⟨b5, 0, none⟩) ([r1, r2] : List GTensor).length 2), (vi 0), (vi 1)]) rfl ok_9 ⟨et, ⟨et, ⟨ev_const, ⟨ev_const, trivial⟩⟩⟩⟩) (Calls.mono (c_collective_AllReduce (Dj F c14) w9 hI.lt (⟨([2] : List Int)⟩ : GMesh) ([r1, r2] : List GTensor) 0 1 (some ⟨b1, 0, none⟩) 1 (some ⟨b5, 0, none⟩) 2 ⟨(hI.get (.s (.s .z))), (hI.get (.s .z)), trivial⟩ r4 hx7) ?_)
 rintro _ w10 ⟨a6, c16, rfl, hx8, hl4⟩
 refine ⟨_, rfl, ?_⟩
 replace hI := (hI.ext hx8).adds hl4
 refine sq (y_move rfl et) ?_
 refine sq (y_extract rfl et rfl) ?_
 refine sq (y_extract rfl et rfl) ?_
 refine sq (y_assign rfl et) ?_
 refine sq (y_assign rfl et) ?_
 refine s_nil ?_
 refine k_same ?_
 refine c_seq ?_
 refine c_region rfl ?_
 refine sq (y_loadN (l := [(vs (some ⟨b1, 0, none⟩) ([2] : List Int).length 1)]) rfl et Try.underlying31 rfl size_31 (CellsAt.of_blk (hI.blk .z) rfl)) ?_
 refine sq (y_move rfl et) ?_
 obtain ⟨r5, hx9, h⟩ := bnd_some h
 refine s_call gn rfl (r_callF (vs := [(Value.agg #[(vs (some ⟨b1, 0, none⟩) ([2] : List Int).length 1)]), (vs (some ⟨b5, 0, none⟩) ([r1, r2] : List GTensor).length 2), (vi 0), (vi 0), (vi 1)]) rfl ok_10 ⟨et, ⟨et, ⟨ev_const, ⟨ev_const, ⟨ev_const, trivial⟩⟩⟩⟩⟩) (Calls.mono (c_collective_ReduceScatter (Dj F c14) w10 hI.lt (⟨([2] : List Int)⟩ : GMesh) ([r1, r2] : List GTensor) 0 0 1 (some ⟨b1, 0, none⟩) 1 (some ⟨b5, 0, none⟩) 2 ⟨(hI.get (.s (.s (.s .z)))), (hI.get (.s (.s .z))), trivial⟩ r5 hx9) ?_)
 rintro _ w11 ⟨a7, c17, rfl, hx10, hl5⟩
 refine ⟨_, rfl, ?_⟩
 replace hI := (hI.ext hx10).adds hl5
 refine sq (y_move rfl et) ?_
 refine sq (y_extract rfl et rfl) ?_
 refine sq (y_extract rfl et rfl) ?_
 refine sq (y_assign rfl et) ?_
 refine sq (y_assign rfl et) ?_
 refine s_nil ?_
 refine k_next (e := [(3, (vs a5 r3.1.length c15)), (4, (vi r3.2)), (5, (vs a6 r4.1.length c16)), (6, (vi r4.2)), (7, (vs a7 r5.1.length c17)), (8, (vi r5.2))]) ⟨rfl, rfl, rfl, rfl, rfl, rfl, trivial⟩ ?_
 refine c_seq ?_
 refine c_region rfl ?_
 refine l_lit (c := (cInt .i64)) (xs := ([0, (-1)] : List Int)) (vs := [(0, (vi 0)), (1, (vi (-1)))]) (cs := #[(vi 0), (vi (-1))]) (css := [[(vi 0)], [(vi (-1))]]) hI gn rfl rfl Try.underlying23 info_3 rfl ⟨rfl, ev_const, ⟨rfl, ev_const, trivial⟩⟩ (by kernel_rfl) ⟨rfl, ⟨rfl, trivial⟩⟩ rfl rfl rfl ?_
 clear hI; intro b6 c18 w12 hI
 refine l_lit (c := (cInt .i64)) (xs := ([(-1), 0] : List Int)) (vs := [(0, (vi (-1))), (1, (vi 0))]) (cs := #[(vi (-1)), (vi 0)]) (css := [[(vi (-1))], [(vi 0)]]) hI gn rfl rfl Try.underlying23 info_3 rfl ⟨rfl, ev_const, ⟨rfl, ev_const, trivial⟩⟩ (by kernel_rfl) ⟨rfl, ⟨rfl, trivial⟩⟩ rfl rfl rfl ?_
 clear hI; intro b7 c19 w13 hI
 obtain ⟨c20, hI⟩ := hI.release (.s .z)
 obtain ⟨c21, hI⟩ := hI.release .z
 obtain ⟨r6, hx11, h⟩ := bnd_some h
 refine s_call gn rfl (r_callF (vs := [(vs (some ⟨b6, 0, none⟩) ([0, (-1)] : List Int).length 2), (vs (some ⟨b7, 0, none⟩) ([(-1), 0] : List Int).length 2)]) rfl ok_5 ⟨et, ⟨et, trivial⟩⟩) (Calls.mono (c_collective_Plan (Dj F c21) w13 hI.lt ([0, (-1)] : List Int) ([(-1), 0] : List Int) (some ⟨b6, 0, none⟩) 2 (some ⟨b7, 0, none⟩) 2 ⟨(hI.get (.s .z)), (hI.get .z), trivial⟩ r6 hx11) ?_)
 rintro _ w14 ⟨a8, c22, rfl, hx12, hl6⟩
 refine ⟨_, rfl, ?_⟩
 replace hI := (hI.ext hx12).adds hl6
 refine sq (y_assign rfl et) ?_
 refine s_nil ?_
 refine k_same ?_
 refine c_seq ?_
 refine c_region rfl ?_
 refine sq (y_move rfl et) ?_
 refine sq (y_eql rfl et ev_const) ?_
 refine sq (y_move rfl et) ?_
 refine s_gval (g_true rfl rfl rfl rfl) rfl (fun hc => (y_move rfl et)) ?_
 refine s_gval (g_true rfl rfl rfl rfl) rfl (fun hc => (y_eql rfl (ev_gv et hc) ev_const)) ?_
 refine sq (y_and rfl et et) ?_
 refine sq (y_move rfl et) ?_
 refine s_gval (g_true rfl rfl rfl rfl) rfl (fun hc => (y_move rfl et)) ?_
 refine s_gval (g_true rfl rfl rfl rfl) rfl (fun hc => (y_eql rfl (ev_gv et hc) ev_const)) ?_
 refine sq (y_and rfl et et) ?_
 refine sq (y_move rfl et) ?_
 refine s_gval (g_true rfl rfl rfl rfl) rfl (fun hc => (y_move rfl et)) ?_
 obtain ⟨ho1, h⟩ := chk_some h
 refine l_lit (c := (cInt .i64)) (xs := ([1, 2, 3, 4] : List Int)) (vs := [(0, (vi 1)), (1, (vi 2)), (2, (vi 3)), (3, (vi 4))]) (cs := #[(vi 1), (vi 2), (vi 3), (vi 4)]) (css := [[(vi 1)], [(vi 2)], [(vi 3)], [(vi 4)]]) hI (grd_as (g_true rfl rfl rfl rfl) ho1) rfl rfl Try.underlying48 info_2 rfl ⟨rfl, ev_const, ⟨rfl, ev_const, ⟨rfl, ev_const, ⟨rfl, ev_const, trivial⟩⟩⟩⟩ (by kernel_rfl) ⟨rfl, ⟨rfl, ⟨rfl, ⟨rfl, trivial⟩⟩⟩⟩ rfl rfl rfl ?_
 clear hI; intro b8 c23 w15 hI
 obtain ⟨c24, hI⟩ := hI.release .z
 obtain ⟨r7, hx13, h⟩ := bnd_some h
 refine s_call (grd_as (g_true rfl rfl rfl rfl) ho1) rfl (r_callF (vs := [(vs (some ⟨b8, 0, none⟩) ([1, 2, 3, 4] : List Int).length 4)]) rfl ok_7 ⟨et, trivial⟩) (Calls.mono (c_law53_vector (Dj F c24) w15 hI.lt ([1, 2, 3, 4] : List Int) (some ⟨b8, 0, none⟩) 4 ⟨(hI.get .z), trivial⟩ r7 hx13) ?_)
 rintro _ w16 ⟨a9, c25, a10, c26, rfl, hx14, hl7⟩
 refine ⟨_, rfl, ?_⟩
 replace hI := (hI.ext hx14).adds hl7
 refine l_lit (c := (cInt .i64)) (xs := ([1, 2, 3, 4] : List Int)) (vs := [(0, (vi 1)), (1, (vi 2)), (2, (vi 3)), (3, (vi 4))]) (cs := #[(vi 1), (vi 2), (vi 3), (vi 4)]) (css := [[(vi 1)], [(vi 2)], [(vi 3)], [(vi 4)]]) hI (grd_as (g_true rfl rfl rfl rfl) ho1) rfl rfl Try.underlying48 info_2 rfl ⟨rfl, ev_const, ⟨rfl, ev_const, ⟨rfl, ev_const, ⟨rfl, ev_const, trivial⟩⟩⟩⟩ (by kernel_rfl) ⟨rfl, ⟨rfl, ⟨rfl, ⟨rfl, trivial⟩⟩⟩⟩ rfl rfl rfl ?_
 clear hI; intro b9 c27 w17 hI
 obtain ⟨c28, hI⟩ := hI.release .z
 obtain ⟨r8, hx15, h⟩ := bnd_some h
 refine s_call (grd_as (g_true rfl rfl rfl rfl) ho1) rfl (r_callF (vs := [(vs (some ⟨b9, 0, none⟩) ([1, 2, 3, 4] : List Int).length 4)]) rfl ok_7 ⟨et, trivial⟩) (Calls.mono (c_law53_vector (Dj F c28) w17 hI.lt ([1, 2, 3, 4] : List Int) (some ⟨b9, 0, none⟩) 4 ⟨(hI.get .z), trivial⟩ r8 hx15) ?_)
 rintro _ w18 ⟨a11, c29, a12, c30, rfl, hx16, hl8⟩
 refine ⟨_, rfl, ?_⟩
 replace hI := (hI.ext hx16).adds hl8
 refine l_lit (c := cGTensor) (xs := ([r7, r8] : List GTensor)) (vs := [(0, (Value.agg #[(vi r7.Type_.Kind), (vi r7.Type_.Bits), (vi r7.Type_.Frac), (vi r7.Type_.Round), (vi r7.Type_.Over), (vs a9 r7.Dims.length c25), (vs a10 r7.Vals.length c26)])), (1, (Value.agg #[(vi r8.Type_.Kind), (vi r8.Type_.Bits), (vi r8.Type_.Frac), (vi r8.Type_.Round), (vi r8.Type_.Over), (vs a11 r8.Dims.length c29), (vs a12 r8.Vals.length c30)]))]) (cs := #[(vi r7.Type_.Kind), (vi r7.Type_.Bits), (vi r7.Type_.Frac), (vi r7.Type_.Round), (vi r7.Type_.Over), (vs a9 r7.Dims.length c25), (vs a10 r7.Vals.length c26), (vi r8.Type_.Kind), (vi r8.Type_.Bits), (vi r8.Type_.Frac), (vi r8.Type_.Round), (vi r8.Type_.Over), (vs a11 r8.Dims.length c29), (vs a12 r8.Vals.length c30)]) (css := [[(vi r7.Type_.Kind), (vi r7.Type_.Bits), (vi r7.Type_.Frac), (vi r7.Type_.Round), (vi r7.Type_.Over), (vs a9 r7.Dims.length c25), (vs a10 r7.Vals.length c26)], [(vi r8.Type_.Kind), (vi r8.Type_.Bits), (vi r8.Type_.Frac), (vi r8.Type_.Round), (vi r8.Type_.Over), (vs a11 r8.Dims.length c29), (vs a12 r8.Vals.length c30)]]) hI (grd_as (g_true rfl rfl rfl rfl) ho1) rfl rfl Try.underlying38 info_36 rfl ⟨rfl, et, ⟨rfl, et, trivial⟩⟩ (by kernel_rfl) ⟨⟨a9, c25, a10, c26, rfl, hI.get (.s (.s (.s .z))), hI.get (.s (.s (.s (.s .z))))⟩, ⟨⟨a11, c29, a12, c30, rfl, hI.get .z, hI.get (.s .z)⟩, trivial⟩⟩ rfl rfl rfl ?_
 clear hI; intro b10 c31 w19 hI
 obtain ⟨r9, hx17, h⟩ := bnd_some h
 refine s_call (grd_as (g_true rfl rfl rfl rfl) ho1) rfl (r_callF (vs := [(vs a5 r3.1.length c15), (vs (some ⟨b10, 0, none⟩) ([r7, r8] : List GTensor).length 2)]) rfl ok_11 ⟨(ev_gv et ho1), ⟨et, trivial⟩⟩) (Calls.mono (c_base_Tensors noM w19 (fun _ k => k.elim) r3.1 ([r7, r8] : List GTensor) a5 c15 (some ⟨b10, 0, none⟩) 2 ⟨(hI.get0 (.s (.s (.s (.s (.s (.s (.s (.s (.s (.s (.s .z)))))))))))), hI.lend .z, trivial⟩ r9 hx17) ?_)
 rintro _ w20 ⟨rfl, hx18, hl9⟩
 refine ⟨_, rfl, ?_⟩
 replace hI := (hI.ext hx18)
 refine sq (y_andT rfl ho1 et et) ?_
 refine sq (y_move rfl et) ?_
 refine s_gval (g_true rfl rfl rfl rfl) rfl (fun hc => (y_move rfl et)) ?_
 obtain ⟨ho2, h⟩ := chk_some h
 refine l_lit (c := (cInt .i64)) (xs := ([4, 6] : List Int)) (vs := [(0, (vi 4)), (1, (vi 6))]) (cs := #[(vi 4), (vi 6)]) (css := [[(vi 4)], [(vi 6)]]) hI (grd_as (g_true rfl rfl rfl rfl) ho2) rfl rfl Try.underlying48 info_2 rfl ⟨rfl, ev_const, ⟨rfl, ev_const, trivial⟩⟩ (by kernel_rfl) ⟨rfl, ⟨rfl, trivial⟩⟩ rfl rfl rfl ?_
 clear hI; intro b11 c32 w21 hI
 obtain ⟨c33, hI⟩ := hI.release .z
 obtain ⟨r10, hx19, h⟩ := bnd_some h
 refine s_call (grd_as (g_true rfl rfl rfl rfl) ho2) rfl (r_callF (vs := [(vs (some ⟨b11, 0, none⟩) ([4, 6] : List Int).length 2)]) rfl ok_7 ⟨et, trivial⟩) (Calls.mono (c_law53_vector (Dj F c33) w21 hI.lt ([4, 6] : List Int) (some ⟨b11, 0, none⟩) 2 ⟨(hI.get .z), trivial⟩ r10 hx19) ?_)
 rintro _ w22 ⟨a13, c34, a14, c35, rfl, hx20, hl10⟩
 refine ⟨_, rfl, ?_⟩
 replace hI := (hI.ext hx20).adds hl10
 refine l_lit (c := (cInt .i64)) (xs := ([4, 6] : List Int)) (vs := [(0, (vi 4)), (1, (vi 6))]) (cs := #[(vi 4), (vi 6)]) (css := [[(vi 4)], [(vi 6)]]) hI (grd_as (g_true rfl rfl rfl rfl) ho2) rfl rfl Try.underlying48 info_2 rfl ⟨rfl, ev_const, ⟨rfl, ev_const, trivial⟩⟩ (by kernel_rfl) ⟨rfl, ⟨rfl, trivial⟩⟩ rfl rfl rfl ?_
 clear hI; intro b12 c36 w23 hI
 obtain ⟨c37, hI⟩ := hI.release .z
 obtain ⟨r11, hx21, h⟩ := bnd_some h
 refine s_call (grd_as (g_true rfl rfl rfl rfl) ho2) rfl (r_callF (vs := [(vs (some ⟨b12, 0, none⟩) ([4, 6] : List Int).length 2)]) rfl ok_7 ⟨et, trivial⟩) (Calls.mono (c_law53_vector (Dj F c37) w23 hI.lt ([4, 6] : List Int) (some ⟨b12, 0, none⟩) 2 ⟨(hI.get .z), trivial⟩ r11 hx21) ?_)
 rintro _ w24 ⟨a15, c38, a16, c39, rfl, hx22, hl11⟩
 refine ⟨_, rfl, ?_⟩
 replace hI := (hI.ext hx22).adds hl11
 refine l_lit (c := cGTensor) (xs := ([r10, r11] : List GTensor)) (vs := [(0, (Value.agg #[(vi r10.Type_.Kind), (vi r10.Type_.Bits), (vi r10.Type_.Frac), (vi r10.Type_.Round), (vi r10.Type_.Over), (vs a13 r10.Dims.length c34), (vs a14 r10.Vals.length c35)])), (1, (Value.agg #[(vi r11.Type_.Kind), (vi r11.Type_.Bits), (vi r11.Type_.Frac), (vi r11.Type_.Round), (vi r11.Type_.Over), (vs a15 r11.Dims.length c38), (vs a16 r11.Vals.length c39)]))]) (cs := #[(vi r10.Type_.Kind), (vi r10.Type_.Bits), (vi r10.Type_.Frac), (vi r10.Type_.Round), (vi r10.Type_.Over), (vs a13 r10.Dims.length c34), (vs a14 r10.Vals.length c35), (vi r11.Type_.Kind), (vi r11.Type_.Bits), (vi r11.Type_.Frac), (vi r11.Type_.Round), (vi r11.Type_.Over), (vs a15 r11.Dims.length c38), (vs a16 r11.Vals.length c39)]) (css := [[(vi r10.Type_.Kind), (vi r10.Type_.Bits), (vi r10.Type_.Frac), (vi r10.Type_.Round), (vi r10.Type_.Over), (vs a13 r10.Dims.length c34), (vs a14 r10.Vals.length c35)], [(vi r11.Type_.Kind), (vi r11.Type_.Bits), (vi r11.Type_.Frac), (vi r11.Type_.Round), (vi r11.Type_.Over), (vs a15 r11.Dims.length c38), (vs a16 r11.Vals.length c39)]]) hI (grd_as (g_true rfl rfl rfl rfl) ho2) rfl rfl Try.underlying38 info_36 rfl ⟨rfl, et, ⟨rfl, et, trivial⟩⟩ (by kernel_rfl) ⟨⟨a13, c34, a14, c35, rfl, hI.get (.s (.s (.s .z))), hI.get (.s (.s (.s (.s .z))))⟩, ⟨⟨a15, c38, a16, c39, rfl, hI.get .z, hI.get (.s .z)⟩, trivial⟩⟩ rfl rfl rfl ?_
 clear hI; intro b13 c40 w25 hI
 obtain ⟨r12, hx23, h⟩ := bnd_some h
 refine s_call (grd_as (g_true rfl rfl rfl rfl) ho2) rfl (r_callF (vs := [(vs a6 r4.1.length c16), (vs (some ⟨b13, 0, none⟩) ([r10, r11] : List GTensor).length 2)]) rfl ok_11 ⟨(ev_gv et ho2), ⟨et, trivial⟩⟩) (Calls.mono (c_base_Tensors noM w25 (fun _ k => k.elim) r4.1 ([r10, r11] : List GTensor) a6 c16 (some ⟨b13, 0, none⟩) 2 ⟨(hI.get0 (.s (.s (.s (.s (.s (.s (.s (.s (.s (.s (.s (.s (.s (.s (.s (.s .z))))))))))))))))), hI.lend .z, trivial⟩ r12 hx23) ?_)
 rintro _ w26 ⟨rfl, hx24, hl12⟩
 refine ⟨_, rfl, ?_⟩
 replace hI := (hI.ext hx24)
 refine sq (y_andT rfl ho2 et et) ?_
 refine sq (y_move rfl et) ?_
 refine s_gval (g_true rfl rfl rfl rfl) rfl (fun hc => (y_move rfl et)) ?_
 obtain ⟨ho3, h⟩ := chk_some h
 refine l_lit (c := (cInt .i64)) (xs := ([4] : List Int)) (vs := [(0, (vi 4))]) (cs := #[(vi 4)]) (css := [[(vi 4)]]) hI (grd_as (g_true rfl rfl rfl rfl) ho3) rfl rfl Try.underlying48 info_2 rfl ⟨rfl, ev_const, trivial⟩ (by kernel_rfl) ⟨rfl, trivial⟩ rfl rfl rfl ?_
 clear hI; intro b14 c41 w27 hI
 obtain ⟨c42, hI⟩ := hI.release .z
 obtain ⟨r13, hx25, h⟩ := bnd_some h
 refine s_call (grd_as (g_true rfl rfl rfl rfl) ho3) rfl (r_callF (vs := [(vs (some ⟨b14, 0, none⟩) ([4] : List Int).length 1)]) rfl ok_7 ⟨et, trivial⟩) (Calls.mono (c_law53_vector (Dj F c42) w27 hI.lt ([4] : List Int) (some ⟨b14, 0, none⟩) 1 ⟨(hI.get .z), trivial⟩ r13 hx25) ?_)
 rintro _ w28 ⟨a17, c43, a18, c44, rfl, hx26, hl13⟩
 refine ⟨_, rfl, ?_⟩
 replace hI := (hI.ext hx26).adds hl13
 refine l_lit (c := (cInt .i64)) (xs := ([6] : List Int)) (vs := [(0, (vi 6))]) (cs := #[(vi 6)]) (css := [[(vi 6)]]) hI (grd_as (g_true rfl rfl rfl rfl) ho3) rfl rfl Try.underlying48 info_2 rfl ⟨rfl, ev_const, trivial⟩ (by kernel_rfl) ⟨rfl, trivial⟩ rfl rfl rfl ?_
 clear hI; intro b15 c45 w29 hI
 obtain ⟨c46, hI⟩ := hI.release .z
 obtain ⟨r14, hx27, h⟩ := bnd_some h
 refine s_call (grd_as (g_true rfl rfl rfl rfl) ho3) rfl (r_callF (vs := [(vs (some ⟨b15, 0, none⟩) ([6] : List Int).length 1)]) rfl ok_7 ⟨et, trivial⟩) (Calls.mono (c_law53_vector (Dj F c46) w29 hI.lt ([6] : List Int) (some ⟨b15, 0, none⟩) 1 ⟨(hI.get .z), trivial⟩ r14 hx27) ?_)
 rintro _ w30 ⟨a19, c47, a20, c48, rfl, hx28, hl14⟩
 refine ⟨_, rfl, ?_⟩
 replace hI := (hI.ext hx28).adds hl14
 refine l_lit (c := cGTensor) (xs := ([r13, r14] : List GTensor)) (vs := [(0, (Value.agg #[(vi r13.Type_.Kind), (vi r13.Type_.Bits), (vi r13.Type_.Frac), (vi r13.Type_.Round), (vi r13.Type_.Over), (vs a17 r13.Dims.length c43), (vs a18 r13.Vals.length c44)])), (1, (Value.agg #[(vi r14.Type_.Kind), (vi r14.Type_.Bits), (vi r14.Type_.Frac), (vi r14.Type_.Round), (vi r14.Type_.Over), (vs a19 r14.Dims.length c47), (vs a20 r14.Vals.length c48)]))]) (cs := #[(vi r13.Type_.Kind), (vi r13.Type_.Bits), (vi r13.Type_.Frac), (vi r13.Type_.Round), (vi r13.Type_.Over), (vs a17 r13.Dims.length c43), (vs a18 r13.Vals.length c44), (vi r14.Type_.Kind), (vi r14.Type_.Bits), (vi r14.Type_.Frac), (vi r14.Type_.Round), (vi r14.Type_.Over), (vs a19 r14.Dims.length c47), (vs a20 r14.Vals.length c48)]) (css := [[(vi r13.Type_.Kind), (vi r13.Type_.Bits), (vi r13.Type_.Frac), (vi r13.Type_.Round), (vi r13.Type_.Over), (vs a17 r13.Dims.length c43), (vs a18 r13.Vals.length c44)], [(vi r14.Type_.Kind), (vi r14.Type_.Bits), (vi r14.Type_.Frac), (vi r14.Type_.Round), (vi r14.Type_.Over), (vs a19 r14.Dims.length c47), (vs a20 r14.Vals.length c48)]]) hI (grd_as (g_true rfl rfl rfl rfl) ho3) rfl rfl Try.underlying38 info_36 rfl ⟨rfl, et, ⟨rfl, et, trivial⟩⟩ (by kernel_rfl) ⟨⟨a17, c43, a18, c44, rfl, hI.get (.s (.s (.s .z))), hI.get (.s (.s (.s (.s .z))))⟩, ⟨⟨a19, c47, a20, c48, rfl, hI.get .z, hI.get (.s .z)⟩, trivial⟩⟩ rfl rfl rfl ?_
 clear hI; intro b16 c49 w31 hI
 obtain ⟨r15, hx29, h⟩ := bnd_some h
 refine s_call (grd_as (g_true rfl rfl rfl rfl) ho3) rfl (r_callF (vs := [(vs a7 r5.1.length c17), (vs (some ⟨b16, 0, none⟩) ([r13, r14] : List GTensor).length 2)]) rfl ok_11 ⟨(ev_gv et ho3), ⟨et, trivial⟩⟩) (Calls.mono (c_base_Tensors noM w31 (fun _ k => k.elim) r5.1 ([r13, r14] : List GTensor) a7 c17 (some ⟨b16, 0, none⟩) 2 ⟨(hI.get0 (.s (.s (.s (.s (.s (.s (.s (.s (.s (.s (.s (.s (.s (.s (.s (.s (.s (.s (.s (.s (.s .z)))))))))))))))))))))), hI.lend .z, trivial⟩ r15 hx29) ?_)
 rintro _ w32 ⟨rfl, hx30, hl15⟩
 refine ⟨_, rfl, ?_⟩
 replace hI := (hI.ext hx30)
 refine sq (y_andT rfl ho3 et et) ?_
 refine sq (y_move rfl et) ?_
 refine s_gval (g_true rfl rfl rfl rfl) rfl (fun hc => (y_move rfl et)) ?_
 refine s_gval (g_true rfl rfl rfl rfl) rfl (fun hc => (y_lenl rfl Try.underlying25 (ev_gv et hc))) ?_
 refine s_gval (g_true rfl rfl rfl rfl) rfl (fun hc => (y_eql rfl (ev_gv et hc) ev_const)) ?_
 refine sq (y_and rfl et et) ?_
 refine sq (y_move rfl et) ?_
 refine s_gval (g_true rfl rfl rfl rfl) rfl (fun hc => (y_move rfl et)) ?_
 obtain ⟨e1, hx31, h⟩ := bnd_some h
 replace hx31 := gd_some hx31
 obtain ⟨ad1, cs1, hq1⟩ := hI.gclat (.s (.s (.s (.s (.s (.s (.s (.s (.s (.s (.s (.s (.s (.s (.s (.s (.s (.s .z)))))))))))))))))) hx31
 have hq2 : (((((((decide (r3.2 = 0)) && (decide (r4.2 = 0))) && (decide (r5.2 = 0))) && r9) && r12) && r15) && (decide ((r6.length : Int) = 1))) = true → CA (Dj F c49) w32 (ad1.add (Int.toNat 0 * 5)) [(vi e1.Op), (vi e1.Mesh), (vi e1.From), (vi e1.To), (str e1.Name)] := fun hc => by have k := hq1 hc; have e : cs1 = _ := k.2.1; rw [← e]; exact k.2.2
 refine s_gval (g_true rfl rfl rfl rfl) rfl (fun hc => (y_indexAddr rfl Try.underlying25 size_28 (ev_gv et hc) ev_const (lat_bd (hx31 hc)) (hq1 hc).1)) ?_
 refine s_gval (g_true rfl rfl rfl rfl) rfl (fun hc => (y_loadN (l := [(vi e1.Op), (vi e1.Mesh), (vi e1.From), (vi e1.To), (str e1.Name)]) rfl (ev_gv et hc) Try.underlying28 rfl size_28 (hq2 hc).1)) ?_
 refine s_gval (g_true rfl rfl rfl rfl) rfl (fun hc => (y_build (vs := [(0, (vi 3)), (2, (vi 0)), (3, (vi 1))]) (cs := #[(vi 3), (vi 0), (vi 0), (vi 1), (str ([] : List UInt8))]) rfl ⟨rfl, ev_const, ⟨rfl, ev_const, ⟨rfl, ev_const, trivial⟩⟩⟩ (by kernel_rfl))) ?_
 refine s_gval (g_true rfl rfl rfl rfl) rfl (fun hc => (y_bin rfl (ev_gv et hc) (ev_gv et hc) (eqstruct_28 ..) (eqguard_28 ..))) ?_
 refine sq (y_and rfl et et) ?_
 refine sq (y_assign rfl et) ?_
 refine s_nil ?_
 refine k_next (e := [(0, (vb ((((((((decide (r3.2 = 0)) && (decide (r4.2 = 0))) && (decide (r5.2 = 0))) && r9) && r12) && r15) && (decide ((r6.length : Int) = 1))) && ((decide (e1.Op = 3)) && (decide (e1.Mesh = 0)) && (decide (e1.From = 0)) && (decide (e1.To = 1)) && (decide (e1.Name = ([] : List UInt8)))))))]) ⟨rfl, trivial⟩ ?_
 refine c_ret ?_
 obtain rfl := some_inj h
 exact q_ret (vs := [(vb ((((((((decide (r3.2 = 0)) && (decide (r4.2 = 0))) && (decide (r5.2 = 0))) && r9) && r12) && r15) && (decide ((r6.length : Int) = 1))) && ((decide (e1.Op = 3)) && (decide (e1.Mesh = 0)) && (decide (e1.From = 0)) && (decide (e1.To = 1)) && (decide (e1.Name = ([] : List UInt8))))))]) Try.results4 ⟨ev_tmp rfl rfl, trivial⟩ ⟨rfl, hI.ext0, hI.fin trivial⟩

set_option maxRecDepth 100000 in
set_option maxHeartbeats 4000000 in
theorem c_ref53_Plain (F : NP) (w0 : World) (hF : ∀ k, F k → k < w0.heap.size) (s1 : List Int) (a1 : Option Addr) (c1 : Nat) (hc : AllCl [Cl.sl (cInt .i64) a1 c1 s1] F w0) (r : Bool)
  (h : m_ref53_Plain s1 = some r) :
  Calls Try.prog 14 #[(vs a1 s1.length c1)] w0 fun e w => e = .returned (vb r) ∧ Ext w0 w ∧ AllCl [] F w := by
 refine enterK (l := [(vs a1 s1.length c1)]) Try.func14 rfl Try.ntmps14 rfl ?_
 have hI := Bun.start hF hc
 clear hc
 rw [m_ref53_Plain] at h
 refine c_seq ?_
 refine c_region rfl ?_
 refine sq (y_assign rfl ev_const) ?_
 refine s_nil ?_
 refine k_same ?_
 refine c_seq ?_
 refine c_seq ?_
 refine c_region rfl ?_
 refine sq (y_assign rfl ev_const) ?_
 refine s_nil ?_
 refine k_same ?_
 refine c_block ?_
 refine c_loop (α := Nat × Int) (fun x => fun w => ∃ C, Bun noM F w0 C w [] [Cl.sl (cInt .i64) a1 c1 s1] ∧ m_ref53_Plain_l1 s1 (x.1) (x.2) = some r) (fun x _ => x.1) (fun x => [(0, (vs a1 s1.length c1)), (3, (vi (x.2)))]) (fu, 0) ⟨_, hI.arr .n ⟨.z, trivial⟩, h⟩ ⟨rfl, rfl, trivial⟩ ?_
 clear h hI; rintro ⟨fuel1, i1⟩ w1 ⟨c2, hI, h⟩
 dsimp only at hI h
 rcases fuel1 with _ | fuel1
 ·rw [m_ref53_Plain_l1] at h; cases h
 rw [m_ref53_Plain_l1] at h
 refine c_sub (e := [(0, (vs a1 s1.length c1)), (3, (vi i1))]) ⟨rfl, rfl, trivial⟩ ?_
 refine c_seq ?_
 refine c_seq ?_
 refine c_region rfl ?_
 refine sq (y_move rfl et) ?_
 refine sq (y_move rfl et) ?_
 refine sq (y_lenl rfl Try.underlying23 et) ?_
 refine sq (y_lss rfl et et) ?_
 refine s_nil ?_
 refine k_same ?_
 refine c_cond (b := decide (i1 < (s1.length : Int))) et (fun hb => ?_) (fun hb => ?_)
 ·replace h := ite_t hb h
  refine c_skip ?_
  refine k_same ?_
  refine c_join (α := Unit) (fun _ => ⟨37, []⟩) (fun _ => [(0, (vs a1 s1.length c1)), (3, (vi i1))]) (fun _ => fun w => ∃ C, Bun noM F w0 C w [] [Cl.sl (cInt .i64) a1 c1 s1] ∧ m_ref53_Plain_j1 (m_ref53_Plain_l1 s1 fuel1) i1 = some r) ?_ ?_
  ·clear h hI; rintro _ w2 ⟨c3, hI, h⟩
   try dsimp only at hI h
   rw [m_ref53_Plain_j1] at h
   refine c_sub (e := [(0, (vs a1 s1.length c1)), (3, (vi i1))]) ⟨rfl, rfl, trivial⟩ ?_
   refine c_region rfl ?_
   refine sq (y_move rfl et) ?_
   refine sq (y_add rfl et ev_const) ?_
   refine sq (y_assign rfl et) ?_
   refine s_nil ?_
   exact k_loop (fuel1, wi64 (i1 + 1)) ⟨rfl, rfl, trivial⟩ ⟨_, hI.arr .n ⟨.z, trivial⟩, h⟩ (Nat.lt_succ_self _)
  ·skip
   refine c_block ?_
   refine c_join (α := Unit) (fun _ => ⟨37, []⟩) (fun _ => [(0, (vs a1 s1.length c1)), (3, (vi i1))]) (fun _ => fun w => ∃ C, Bun noM F w0 C w [] [Cl.sl (cInt .i64) a1 c1 s1] ∧ m_ref53_Plain_j2 s1 i1 (m_ref53_Plain_l1 s1 fuel1) = some r) ?_ ?_
   ·clear h hI; rintro _ w3 ⟨c4, hI, h⟩
    try dsimp only at hI h
    rw [m_ref53_Plain_j2] at h
    refine c_sub (e := [(0, (vs a1 s1.length c1)), (3, (vi i1))]) ⟨rfl, rfl, trivial⟩ ?_
    refine c_seq ?_
    refine c_region rfl ?_
    refine sq (y_move rfl et) ?_
    refine sq (y_move rfl et) ?_
    obtain ⟨e1, hx1, h⟩ := bnd_some h
    obtain ⟨ad1, cs1, hA1, hr1, hq1⟩ := hI.clat .z hx1
    obtain rfl : cs1 = [(vi e1)] := hr1
    refine sq (y_indexAddr rfl Try.underlying23 size_3 et et (lat_bd hx1) hA1) ?_
    refine sq (y_load1 (v := (vi e1)) rfl et Try.underlying3 rfl hq1.1) ?_
    refine sq (y_lss rfl et ev_const) ?_
    refine s_nil ?_
    refine k_same ?_
    refine c_cond (b := decide (e1 < (-1))) et (fun hb => ?_) (fun hb => ?_)
    ·replace h := ite_t hb h
     refine c_seq ?_
     refine c_region rfl ?_
     refine sq (y_assign rfl ev_const) ?_
     refine s_nil ?_
     refine k_same ?_
     refine c_ret ?_
     obtain rfl := some_inj h
     exact q_ret (vs := [(vb false)]) Try.results14 ⟨ev_tmp rfl rfl, trivial⟩ ⟨rfl, hI.ext0, hI.fin trivial⟩
    ·replace h := ite_f hb h
     refine c_skip ?_
     exact k_join () ⟨rfl, rfl, trivial⟩ ⟨_, hI.arr .n ⟨.z, trivial⟩, h⟩ rfl
   ·skip
    refine c_seq ?_
    refine c_region rfl ?_
    refine sq (y_assign rfl ev_const) ?_
    refine s_nil ?_
    refine k_same ?_
    refine c_block ?_
    refine c_loop (α := Nat × Int) (fun x => fun w => ∃ C, Bun noM F w0 C w [] [Cl.sl (cInt .i64) a1 c1 s1] ∧ m_ref53_Plain_l2 i1 s1 (m_ref53_Plain_l1 s1 fuel1) (x.1) (x.2) = some r) (fun x _ => x.1) (fun x => [(0, (vs a1 s1.length c1)), (3, (vi i1)), (4, (vi (x.2)))]) (fu, 0) ⟨_, hI.arr .n ⟨.z, trivial⟩, h⟩ ⟨rfl, rfl, rfl, trivial⟩ ?_
    clear h hI; rintro ⟨fuel2, k1⟩ w4 ⟨c5, hI, h⟩
    dsimp only at hI h
    rcases fuel2 with _ | fuel2
    ·rw [m_ref53_Plain_l2] at h; cases h
    rw [m_ref53_Plain_l2] at h
    refine c_sub (e := [(0, (vs a1 s1.length c1)), (3, (vi i1)), (4, (vi k1))]) ⟨rfl, rfl, rfl, trivial⟩ ?_
    refine c_seq ?_
    refine c_seq ?_
    refine c_region rfl ?_
    refine sq (y_move rfl et) ?_
    refine sq (y_move rfl et) ?_
    refine sq (y_lss rfl et et) ?_
    refine s_nil ?_
    refine k_same ?_
    refine c_cond (b := decide (k1 < i1)) et (fun hb => ?_) (fun hb => ?_)
    ·replace h := ite_t hb h
     refine c_skip ?_
     refine k_same ?_
     refine c_seq ?_
     refine c_block ?_
     refine c_seq ?_
     refine c_drawX [] false (.c (0, .q) (.c (1, .q) (.c (2, .q) (.c (3, .q) (.c (4, .q) (.c (5, .q) (.c (6, .q) (.c (7, .q) (.c (8, .q) (.c (9, .q) (.c (10, .q) (.c (11, .q) (.c (12, .q) (.c (13, .q) (.c (14, .q) (.c (15, .q) .n)))))))))))))))) hI (by kernel_rfl) (by kernel_rfl) ?_
     clear hI; intro w5 hI
     refine a_q rfl gn rfl (fun w' => (y_move rfl et)) ?_
     refine a_q rfl gn rfl (fun w' => (y_move rfl et)) ?_
     obtain ⟨e2, hx2, h⟩ := bnd_some h
     obtain ⟨ad2, cs2, hA2, hr2, hq2⟩ := hI.clat .z hx2
     obtain rfl : cs2 = [(vi e2)] := hr2
     refine a_q rfl gn rfl (fun w' => (y_indexAddr rfl Try.underlying23 size_3 et et (lat_bd hx2) hA2)) ?_
     refine a_read rfl gn rfl (fun w' hw' => (y_load1 (v := (vi e2)) rfl et Try.underlying3 rfl (hq2.at_ (SX.any rfl hw')))) (by kernel_rfl) ?_
     refine a_q rfl gn rfl (fun w' => (y_move rfl et)) ?_
     refine a_q rfl gn rfl (fun w' => (y_move rfl et)) ?_
     obtain ⟨e3, hx3, h⟩ := bnd_some h
     obtain ⟨ad3, cs3, hA3, hr3, hq3⟩ := hI.clat .z hx3
     obtain rfl : cs3 = [(vi e3)] := hr3
     refine a_q rfl gn rfl (fun w' => (y_indexAddr rfl Try.underlying23 size_3 et et (lat_bd hx3) hA3)) ?_
     refine a_read rfl gn rfl (fun w' hw' => (y_load1 (v := (vi e3)) rfl et Try.underlying3 rfl (hq3.at_ (SX.any rfl hw')))) (by kernel_rfl) ?_
     refine a_q rfl gn rfl (fun w' => (y_eql rfl et et)) ?_
     refine a_q rfl gn rfl (fun w' => (y_move rfl et)) ?_
     refine a_gval rfl (g_true rfl rfl rfl rfl) rfl (fun hc => fun w' => (y_move rfl et)) ?_
     refine a_gval rfl (g_true rfl rfl rfl rfl) rfl (fun hc => fun w' => (y_move rfl et)) ?_
     obtain ⟨e4, hx4, h⟩ := bnd_some h
     replace hx4 := gd_some hx4
     obtain ⟨ad4, cs4, hq4⟩ := hI.gclat .z hx4
     have hq5 : (decide (e2 = e3)) = true → CA (Dj F c5) w5 (ad4.add (Int.toNat i1 * 1)) [(vi e4)] := fun hc => by have k := hq4 hc; have e : cs4 = _ := k.2.1; rw [← e]; exact k.2.2
     refine a_gval rfl (g_true rfl rfl rfl rfl) rfl (fun hc => fun w' => (y_indexAddr rfl Try.underlying23 size_3 (ev_gv et hc) (ev_gv et hc) (lat_bd (hx4 hc)) (hq4 hc).1)) ?_
     refine a_gread rfl (g_true rfl rfl rfl rfl) rfl (fun hc => fun w' hw' => (y_load1 (v := (vi e4)) rfl (ev_gv et hc) Try.underlying3 rfl ((hq5 hc).at_ (SX.any rfl hw')))) (by kernel_rfl) ?_
     refine a_gval rfl (g_true rfl rfl rfl rfl) rfl (fun hc => fun w' => (y_geq rfl (ev_gv et hc) ev_const)) ?_
     refine a_q rfl gn rfl (fun w' => (y_and rfl et et)) ?_
     refine a_nil ?_
     refine k_same ?_
     refine c_cond (b := (decide (e2 = e3)) && (decide (0 ≤ e4))) et (fun hb => ?_) (fun hb => ?_)
     ·replace h := ite_t hb h
      refine c_seq ?_
      refine c_region rfl ?_
      refine sq (y_assign rfl ev_const) ?_
      refine s_nil ?_
      refine k_same ?_
      refine c_ret ?_
      obtain rfl := some_inj h
      exact q_ret (vs := [(vb false)]) Try.results14 ⟨ev_tmp rfl rfl, trivial⟩ ⟨rfl, hI.ext0, hI.fin trivial⟩
     ·replace h := ite_f hb h
      refine c_skip ?_
      refine k_same ?_
      refine c_region rfl ?_
      refine sq (y_move rfl et) ?_
      refine sq (y_add rfl et ev_const) ?_
      refine sq (y_assign rfl et) ?_
      refine s_nil ?_
      exact k_loop (fuel2, wi64 (k1 + 1)) ⟨rfl, rfl, rfl, trivial⟩ ⟨_, hI.arr .n ⟨.z, trivial⟩, h⟩ (Nat.lt_succ_self _)
    ·replace h := ite_f hb h
     refine c_exit ?_
     refine k_in ?_
     exact k_join () ⟨rfl, rfl, trivial⟩ ⟨_, hI.arr .n ⟨.z, trivial⟩, h⟩ rfl
 ·replace h := ite_f hb h
  refine c_exit ?_
  refine k_in ?_
  refine k_same ?_
  refine c_seq ?_
  refine c_region rfl ?_
  refine sq (y_assign rfl ev_const) ?_
  refine s_nil ?_
  refine k_same ?_
  refine c_ret ?_
  obtain rfl := some_inj h
  exact q_ret (vs := [(vb true)]) Try.results14 ⟨ev_tmp rfl rfl, trivial⟩ ⟨rfl, hI.ext0, hI.fin trivial⟩

set_option maxRecDepth 100000 in
set_option maxHeartbeats 4000000 in
theorem c_ref53_Plan (F : NP) (w0 : World) (hF : ∀ k, F k → k < w0.heap.size) (from1 : List Int) (to1 : List Int) (a1 : Option Addr) (c1 : Nat) (a2 : Option Addr) (c2 : Nat) (hc : AllCl [Cl.sl (cInt .i64) a1 c1 from1, Cl.sl (cInt .i64) a2 c2 to1] F w0) (r : List GTransfer)
  (h : m_ref53_Plan from1 to1 = some r) :
  Calls Try.prog 6 #[(vs a1 from1.length c1), (vs a2 to1.length c2)] w0 fun e w => ∃ (a3 : Option Addr) (c3 : Nat), e = .returned (vs a3 r.length c3) ∧ Ext w0 w ∧ AllCl [Cl.sl cGTransfer a3 c3 r] F w := by
 refine enterK (l := [(vs a1 from1.length c1), (vs a2 to1.length c2)]) Try.func6 rfl Try.ntmps6 rfl ?_
 have hI := Bun.start hF hc
 clear hc
 rw [m_ref53_Plan] at h
 refine c_seq ?_
 refine c_region rfl ?_
 refine sq (y_assign rfl ev_const) ?_
 refine s_nil ?_
 refine k_same ?_
 refine c_seq ?_
 refine c_seq ?_
 refine c_region rfl ?_
 refine sq (y_move rfl et) ?_
 refine sq (y_lenl rfl Try.underlying23 et) ?_
 refine sq (y_move rfl et) ?_
 refine sq (y_lenl rfl Try.underlying23 et) ?_
 refine sq (y_neq rfl et et) ?_
 refine sq (y_move rfl et) ?_
 refine s_gval (g_false rfl rfl rfl rfl) rfl (fun hc => (y_move rfl et)) ?_
 obtain ⟨r1, hx1, h⟩ := bnd_some h
 replace hx1 := gd_some hx1
 refine s_gcallU (v := (vb r1)) (g_false rfl rfl rfl rfl) rfl (fun hc => (r_callF (vs := [(vs a1 from1.length c1)]) rfl ok_14 ⟨(ev_gv et hc), trivial⟩)) (fun hc => (c_ref53_Plain (Dj F noM) w0 hI.lt from1 a1 c1 ⟨(hI.get .z), trivial⟩ r1 (hx1 hc)).mono fun _ _ k => ⟨k.1, k.2.1⟩) ?_
 intro w1 hx2; replace hI := hI.ext hx2
 refine s_gval (g_false rfl rfl rfl rfl) rfl (fun hc => (y_not rfl (ev_gv et hc))) ?_
 refine sq (y_or rfl et et) ?_
 refine sq (y_move rfl et) ?_
 refine s_gval (g_false rfl rfl rfl rfl) rfl (fun hc => (y_move rfl et)) ?_
 obtain ⟨r2, hx3, h⟩ := bnd_some h
 replace hx3 := gd_some hx3
 refine s_gcallU (v := (vb r2)) (g_false rfl rfl rfl rfl) rfl (fun hc => (r_callF (vs := [(vs a2 to1.length c2)]) rfl ok_14 ⟨(ev_gv et hc), trivial⟩)) (fun hc => (c_ref53_Plain (Dj F noM) w1 hI.lt to1 a2 c2 ⟨(hI.get (.s .z)), trivial⟩ r2 (hx3 hc)).mono fun _ _ k => ⟨k.1, k.2.1⟩) ?_
 intro w2 hx4; replace hI := hI.ext hx4
 refine s_gval (g_false rfl rfl rfl rfl) rfl (fun hc => (y_not rfl (ev_gv et hc))) ?_
 refine sq (y_or rfl et et) ?_
 refine s_nil ?_
 refine k_same ?_
 refine c_cond (b := ((!decide ((from1.length : Int) = (to1.length : Int))) || (!r1)) || (!r2)) et (fun hb => ?_) (fun hb => ?_)
 ·replace h := ite_t hb h
  refine c_seq ?_
  refine c_region rfl ?_
  refine sq (y_assign rfl ev_const) ?_
  refine s_nil ?_
  refine k_same ?_
  refine c_ret ?_
  have hI := hI.add (c := Cl.sl cGTransfer none 0 ([] : List GTransfer)) SlC.nil
  obtain rfl := some_inj h
  exact q_ret (vs := [(vs none 0 0)]) Try.results6 ⟨ev_tmp rfl rfl, trivial⟩ ⟨none, 0, rfl, hI.ext0, hI.fin ⟨.z, trivial⟩⟩
 ·replace h := ite_f hb h
  refine c_skip ?_
  refine k_same ?_
  refine c_seq ?_
  refine c_region rfl ?_
  refine sq (y_assign rfl ev_const) ?_
  refine s_nil ?_
  refine k_same ?_
  refine c_seq ?_
  refine c_region rfl ?_
  refine sq (y_move rfl et) ?_
  refine sq (y_lenl rfl Try.underlying23 et) ?_
  obtain ⟨zs1, hx5, h⟩ := bnd_some h
  refine l_make (c := cBool) hI hx5 gn  rfl rfl Try.underlying47 info_4 rfl rfl et et rfl ?_
  clear hI; intro b1 c4 w3 hI
  refine sq (y_assign rfl et) ?_
  refine s_nil ?_
  refine k_same ?_
  refine c_join (α := (List GTransfer) × (List Bool) × (Option Addr) × Nat × (Option Addr) × Nat) (fun _ => ⟨124, []⟩) (fun x => [(0, (vs a1 from1.length c1)), (1, (vs a2 to1.length c2)), (5, (vs (x.2.2.1) (x.1).length (x.2.2.2.1))), (6, (vs (x.2.2.2.2.1) (x.2.1).length (x.2.2.2.2.2)))]) (fun x => fun w => ∃ C, Bun noM F w0 C w [MO.row cGTransfer 28 (x.2.2.1) (x.2.2.2.1) (x.1), MO.row cBool 4 (x.2.2.2.2.1) (x.2.2.2.2.2) (x.2.1)] [Cl.sl (cInt .i64) a1 c1 from1, Cl.sl (cInt .i64) a2 c2 to1] ∧ m_ref53_Plan_j1 to1 from1 (x.1) (x.2.1) = some r) ?_ ?_
  ·clear h hI; rintro ⟨out1, done1, a4, c5, a5, c6⟩ w4 ⟨c7, hI, h⟩
   try dsimp only at hI h
   rw [m_ref53_Plan_j1] at h
   refine c_sub (e := [(0, (vs a1 from1.length c1)), (1, (vs a2 to1.length c2)), (5, (vs a4 out1.length c5)), (6, (vs a5 done1.length c6))]) ⟨rfl, rfl, rfl, rfl, trivial⟩ ?_
   refine c_seq ?_
   refine c_seq ?_
   refine c_region rfl ?_
   refine sq (y_assign rfl ev_const) ?_
   refine s_nil ?_
   refine k_same ?_
   refine c_block ?_
   refine c_loop (α := Nat × (List GTransfer) × Int × (Option Addr) × Nat) (fun x => fun w => ∃ C, Bun noM F w0 C w [MO.row cGTransfer 28 (x.2.2.2.1) (x.2.2.2.2) (x.2.1), MO.row cBool 4 a5 c6 done1] [Cl.sl (cInt .i64) a1 c1 from1, Cl.sl (cInt .i64) a2 c2 to1] ∧ m_ref53_Plan_l1 to1 from1 done1 (x.1) (x.2.1) (x.2.2.1) = some r) (fun x _ => x.1) (fun x => [(0, (vs a1 from1.length c1)), (1, (vs a2 to1.length c2)), (5, (vs (x.2.2.2.1) (x.2.1).length (x.2.2.2.2))), (6, (vs a5 done1.length c6)), (11, (vi (x.2.2.1)))]) (fu, out1, 0, a4, c5) ⟨_, hI.arr (.c .z (.c .z .n)) ⟨.z, (.s .z), trivial⟩, h⟩ ⟨rfl, rfl, rfl, rfl, rfl, trivial⟩ ?_
   clear h hI; rintro ⟨fuel1, out2, j1, a6, c8⟩ w5 ⟨c9, hI, h⟩
   dsimp only at hI h
   rcases fuel1 with _ | fuel1
   ·rw [m_ref53_Plan_l1] at h; cases h
   rw [m_ref53_Plan_l1] at h
   refine c_sub (e := [(0, (vs a1 from1.length c1)), (1, (vs a2 to1.length c2)), (5, (vs a6 out2.length c8)), (6, (vs a5 done1.length c6)), (11, (vi j1))]) ⟨rfl, rfl, rfl, rfl, rfl, trivial⟩ ?_
   refine c_seq ?_
   refine c_seq ?_
   refine c_region rfl ?_
   refine sq (y_move rfl et) ?_
   refine sq (y_move rfl et) ?_
   refine sq (y_lenl rfl Try.underlying23 et) ?_
   refine sq (y_lss rfl et et) ?_
   refine s_nil ?_
   refine k_same ?_
   refine c_cond (b := decide (j1 < (to1.length : Int))) et (fun hb => ?_) (fun hb => ?_)
   ·replace h := ite_t hb h
    refine c_skip ?_
    refine k_same ?_
    refine c_join (α := (List GTransfer) × (Option Addr) × Nat) (fun _ => ⟨124, []⟩) (fun x => [(0, (vs a1 from1.length c1)), (1, (vs a2 to1.length c2)), (5, (vs (x.2.1) (x.1).length (x.2.2))), (6, (vs a5 done1.length c6)), (11, (vi j1))]) (fun x => fun w => ∃ C, Bun noM F w0 C w [MO.row cGTransfer 28 (x.2.1) (x.2.2) (x.1), MO.row cBool 4 a5 c6 done1] [Cl.sl (cInt .i64) a1 c1 from1, Cl.sl (cInt .i64) a2 c2 to1] ∧ m_ref53_Plan_j2 (m_ref53_Plan_l1 to1 from1 done1 fuel1) j1 (x.1) = some r) ?_ ?_
    ·clear h hI; rintro ⟨out3, a7, c10⟩ w6 ⟨c11, hI, h⟩
     try dsimp only at hI h
     rw [m_ref53_Plan_j2] at h
     refine c_sub (e := [(0, (vs a1 from1.length c1)), (1, (vs a2 to1.length c2)), (5, (vs a7 out3.length c10)), (6, (vs a5 done1.length c6)), (11, (vi j1))]) ⟨rfl, rfl, rfl, rfl, rfl, trivial⟩ ?_
     refine c_region rfl ?_
     refine sq (y_move rfl et) ?_
     refine sq (y_add rfl et ev_const) ?_
     refine sq (y_assign rfl et) ?_
     refine s_nil ?_
     exact k_loop (fuel1, out3, wi64 (j1 + 1), a7, c10) ⟨rfl, rfl, rfl, rfl, rfl, trivial⟩ ⟨_, hI.arr (.c .z (.c .z .n)) ⟨.z, (.s .z), trivial⟩, h⟩ (Nat.lt_succ_self _)
    ·skip
     refine c_block ?_
     refine c_seq ?_
     refine c_drawX [] false (.c (0, .q) (.c (1, .q) (.c (2, .q) (.c (3, .q) (.c (4, .q) (.c (5, .q) (.c (6, .q) (.c (7, .q) (.c (8, .q) (.c (9, .q) (.c (10, .q) (.c (11, .q) (.c (12, .q) (.c (13, .q) (.c (14, .q) (.c (15, .q) (.c (16, .q) (.c (17, .q) (.c (18, .q) (.c (19, .q) (.c (20, .q) (.c (21, .q) (.c (22, .q) .n))))))))))))))))))))))) hI (by kernel_rfl) (by kernel_rfl) ?_
     clear hI; intro w7 hI
     refine a_q rfl gn rfl (fun w' => (y_move rfl et)) ?_
     refine a_q rfl gn rfl (fun w' => (y_move rfl et)) ?_
     obtain ⟨e1, hx6, h⟩ := bnd_some h
     obtain ⟨ad1, cs1, hA1, hr1, hq1⟩ := hI.clat (.s .z) hx6
     obtain rfl : cs1 = [(vi e1)] := hr1
     refine a_q rfl gn rfl (fun w' => (y_indexAddr rfl Try.underlying23 size_3 et et (lat_bd hx6) hA1)) ?_
     refine a_read rfl gn rfl (fun w' hw' => (y_load1 (v := (vi e1)) rfl et Try.underlying3 rfl (hq1.at_ (SX.any rfl hw')))) (by kernel_rfl) ?_
     refine a_q rfl gn rfl (fun w' => (y_geq rfl et ev_const)) ?_
     refine a_q rfl gn rfl (fun w' => (y_move rfl et)) ?_
     refine a_gval rfl (g_true rfl rfl rfl rfl) rfl (fun hc => fun w' => (y_move rfl et)) ?_
     refine a_gval rfl (g_true rfl rfl rfl rfl) rfl (fun hc => fun w' => (y_move rfl et)) ?_
     obtain ⟨e2, hx7, h⟩ := bnd_some h
     replace hx7 := gd_some hx7
     obtain ⟨ad2, cs2, hq2⟩ := hI.gclat .z hx7
     have hq3 : (decide (0 ≤ e1)) = true → CA (Dj F c9) w7 (ad2.add (Int.toNat j1 * 1)) [(vi e2)] := fun hc => by have k := hq2 hc; have e : cs2 = _ := k.2.1; rw [← e]; exact k.2.2
     refine a_gval rfl (g_true rfl rfl rfl rfl) rfl (fun hc => fun w' => (y_indexAddr rfl Try.underlying23 size_3 (ev_gv et hc) (ev_gv et hc) (lat_bd (hx7 hc)) (hq2 hc).1)) ?_
     refine a_gread rfl (g_true rfl rfl rfl rfl) rfl (fun hc => fun w' hw' => (y_load1 (v := (vi e2)) rfl (ev_gv et hc) Try.underlying3 rfl ((hq3 hc).at_ (SX.any rfl hw')))) (by kernel_rfl) ?_
     refine a_gval rfl (g_true rfl rfl rfl rfl) rfl (fun hc => fun w' => (y_move rfl et)) ?_
     refine a_gval rfl (g_true rfl rfl rfl rfl) rfl (fun hc => fun w' => (y_move rfl et)) ?_
     obtain ⟨e3, hx8, h⟩ := bnd_some h
     replace hx8 := gd_some hx8
     obtain ⟨ad3, cs3, hq4⟩ := hI.gclat (.s .z) hx8
     have hq5 : (decide (0 ≤ e1)) = true → CA (Dj F c9) w7 (ad3.add (Int.toNat j1 * 1)) [(vi e3)] := fun hc => by have k := hq4 hc; have e : cs3 = _ := k.2.1; rw [← e]; exact k.2.2
     refine a_gval rfl (g_true rfl rfl rfl rfl) rfl (fun hc => fun w' => (y_indexAddr rfl Try.underlying23 size_3 (ev_gv et hc) (ev_gv et hc) (lat_bd (hx8 hc)) (hq4 hc).1)) ?_
     refine a_gread rfl (g_true rfl rfl rfl rfl) rfl (fun hc => fun w' hw' => (y_load1 (v := (vi e3)) rfl (ev_gv et hc) Try.underlying3 rfl ((hq5 hc).at_ (SX.any rfl hw')))) (by kernel_rfl) ?_
     refine a_gval rfl (g_true rfl rfl rfl rfl) rfl (fun hc => fun w' => (y_neq rfl (ev_gv et hc) (ev_gv et hc))) ?_
     refine a_q rfl gn rfl (fun w' => (y_and rfl et et)) ?_
     refine a_q rfl gn rfl (fun w' => (y_move rfl et)) ?_
     refine a_gval rfl (g_true rfl rfl rfl rfl) rfl (fun hc => fun w' => (y_move rfl et)) ?_
     refine a_gval rfl (g_true rfl rfl rfl rfl) rfl (fun hc => fun w' => (y_move rfl et)) ?_
     obtain ⟨e4, hx9, h⟩ := bnd_some h
     replace hx9 := gd_some hx9
     obtain ⟨ad4, cs4, hq6⟩ := hI.golat (.s .z) hx9
     have hq7 : ((decide (0 ≤ e1)) && (!decide (e2 = e3))) = true → CA noM w7 (ad4.add (Int.toNat j1 * 1)) [(vb e4)] := fun hc => by have k := hq6 hc; have e : cs4 = _ := k.2.1; rw [← e]; exact k.2.2
     refine a_gval rfl (g_true rfl rfl rfl rfl) rfl (fun hc => fun w' => (y_indexAddr rfl Try.underlying47 size_4 (ev_gv et hc) (ev_gv et hc) (lat_bd (hx9 hc)) (hq6 hc).1)) ?_
     refine a_gread rfl (g_true rfl rfl rfl rfl) rfl (fun hc => fun w' hw' => (y_load1 (v := (vb e4)) rfl (ev_gv et hc) Try.underlying4 rfl ((hq7 hc).at_ (SX.any rfl hw')))) (by kernel_rfl) ?_
     refine a_gval rfl (g_true rfl rfl rfl rfl) rfl (fun hc => fun w' => (y_not rfl (ev_gv et hc))) ?_
     refine a_q rfl gn rfl (fun w' => (y_and rfl et et)) ?_
     refine a_nil ?_
     refine k_next (e := [(0, (vs a1 from1.length c1)), (1, (vs a2 to1.length c2)), (5, (vs a6 out2.length c8)), (6, (vs a5 done1.length c6)), (11, (vi j1)), (112, (vb (((decide (0 ≤ e1)) && (!decide (e2 = e3))) && (!e4))))]) ⟨rfl, rfl, rfl, rfl, rfl, rfl, trivial⟩ ?_
     refine c_cond (b := ((decide (0 ≤ e1)) && (!decide (e2 = e3))) && (!e4)) et (fun hb => ?_) (fun hb => ?_)
     ·replace h := ite_t hb h
      refine c_region rfl ?_
      refine sq (y_move rfl et) ?_
      refine sq (y_move rfl et) ?_
      refine sq (y_move rfl et) ?_
      obtain ⟨e5, hx10, h⟩ := bnd_some h
      obtain ⟨ad5, cs5, hA5, hr5, hq8⟩ := hI.clat (.s .z) hx10
      obtain rfl : cs5 = [(vi e5)] := hr5
      refine sq (y_indexAddr rfl Try.underlying23 size_3 et et (lat_bd hx10) hA5) ?_
      refine sq (y_load1 (v := (vi e5)) rfl et Try.underlying3 rfl hq8.1) ?_
      refine sq (y_move rfl et) ?_
      refine sq (y_move rfl et) ?_
      refine sq (y_build (vs := [(0, (vi 4)), (1, (vi e5)), (2, (vi j1)), (3, (vi j1))]) (cs := #[(vi 4), (vi e5), (vi j1), (vi j1), (str ([] : List UInt8))]) rfl ⟨rfl, ev_const, ⟨rfl, et, ⟨rfl, et, ⟨rfl, et, trivial⟩⟩⟩⟩ (by kernel_rfl)) ?_
      refine l_lit (c := cGTransfer) (xs := ([(⟨4, e5, j1, j1, ([] : List UInt8)⟩ : GTransfer)] : List GTransfer)) (vs := [(0, (Value.agg #[(vi 4), (vi e5), (vi j1), (vi j1), (str ([] : List UInt8))]))]) (cs := #[(vi 4), (vi e5), (vi j1), (vi j1), (str ([] : List UInt8))]) (css := [[(vi 4), (vi e5), (vi j1), (vi j1), (str ([] : List UInt8))]]) hI gn rfl rfl Try.underlying25 info_28 rfl ⟨rfl, et, trivial⟩ (by kernel_rfl) ⟨rfl, trivial⟩ rfl rfl rfl ?_
      clear hI; intro b2 c12 w8 hI
      obtain ⟨zs2, hx11, h⟩ := bnd_some h
      refine l_append (xs := out2) (ys := ([(⟨4, e5, j1, j1, ([] : List UInt8)⟩ : GTransfer)] : List GTransfer)) hI (.s .z) (hI.rd .z) hx11 gn rfl rfl Try.underlying25 info_28 rfl rfl et et ?_
      clear hI; intro a8 c13 c14 w9 hI
      refine sq (y_assign rfl et) ?_
      refine s_nil ?_
      exact k_join (zs2, a8, c13) ⟨rfl, rfl, rfl, rfl, rfl, trivial⟩ ⟨_, hI.arr (.c (.s .z) (.c (.s .z) .n)) ⟨.z, (.s .z), trivial⟩, h⟩ rfl
     ·replace h := ite_f hb h
      refine c_skip ?_
      exact k_join (out2, a6, c8) ⟨rfl, rfl, rfl, rfl, rfl, trivial⟩ ⟨_, hI.arr (.c .z (.c .z .n)) ⟨.z, (.s .z), trivial⟩, h⟩ rfl
   ·replace h := ite_f hb h
    refine c_exit ?_
    refine k_in ?_
    refine k_same ?_
    refine c_seq ?_
    refine c_region rfl ?_
    refine sq (y_move rfl et) ?_
    refine sq (y_assign rfl et) ?_
    refine s_nil ?_
    refine k_same ?_
    refine c_ret ?_
    obtain ⟨c15, hI⟩ := hI.release .z
    obtain rfl := some_inj h
    exact q_ret (vs := [(vs a6 out2.length c8)]) Try.results6 ⟨ev_tmp rfl rfl, trivial⟩ ⟨a6, c8, rfl, hI.ext0, hI.fin ⟨.z, trivial⟩⟩
  ·skip
   refine c_seq ?_
   refine c_region rfl ?_
   refine sq (y_assign rfl ev_const) ?_
   refine s_nil ?_
   refine k_same ?_
   refine c_block ?_
   have hI := hI.nil cGTransfer 28 none
   refine c_loop (α := Nat × (List GTransfer) × (List Bool) × Int × (Option Addr) × Nat × (Option Addr) × Nat) (fun x => fun w => ∃ C, Bun noM F w0 C w [MO.row cGTransfer 28 (x.2.2.2.2.1) (x.2.2.2.2.2.1) (x.2.1), MO.row cBool 4 (x.2.2.2.2.2.2.1) (x.2.2.2.2.2.2.2) (x.2.2.1)] [Cl.sl (cInt .i64) a1 c1 from1, Cl.sl (cInt .i64) a2 c2 to1] ∧ m_ref53_Plan_l2 from1 to1 (x.1) (x.2.1) (x.2.2.1) (x.2.2.2.1) = some r) (fun x _ => x.1) (fun x => [(0, (vs a1 from1.length c1)), (1, (vs a2 to1.length c2)), (5, (vs (x.2.2.2.2.1) (x.2.1).length (x.2.2.2.2.2.1))), (6, (vs (x.2.2.2.2.2.2.1) (x.2.2.1).length (x.2.2.2.2.2.2.2))), (7, (vi (x.2.2.2.1)))]) (fu, ([] : List GTransfer), zs1, 0, none, 0, some ⟨b1, 0, none⟩, ((to1.length : Int)).toNat) ⟨_, hI.arr (.c .z (.c .z .n)) ⟨.z, (.s .z), trivial⟩, h⟩ ⟨rfl, rfl, rfl, rfl, rfl, trivial⟩ ?_
   clear h hI; rintro ⟨fuel2, out4, done2, i1, a9, c16, a10, c17⟩ w10 ⟨c18, hI, h⟩
   dsimp only at hI h
   rcases fuel2 with _ | fuel2
   ·rw [m_ref53_Plan_l2] at h; cases h
   rw [m_ref53_Plan_l2] at h
   refine c_sub (e := [(0, (vs a1 from1.length c1)), (1, (vs a2 to1.length c2)), (5, (vs a9 out4.length c16)), (6, (vs a10 done2.length c17)), (7, (vi i1))]) ⟨rfl, rfl, rfl, rfl, rfl, trivial⟩ ?_
   refine c_seq ?_
   refine c_seq ?_
   refine c_region rfl ?_
   refine sq (y_move rfl et) ?_
   refine sq (y_move rfl et) ?_
   refine sq (y_lenl rfl Try.underlying23 et) ?_
   refine sq (y_lss rfl et et) ?_
   refine s_nil ?_
   refine k_same ?_
   refine c_cond (b := decide (i1 < (from1.length : Int))) et (fun hb => ?_) (fun hb => ?_)
   ·replace h := ite_t hb h
    refine c_skip ?_
    refine k_same ?_
    refine c_join (α := (List GTransfer) × (List Bool) × (Option Addr) × Nat × (Option Addr) × Nat) (fun _ => ⟨124, []⟩) (fun x => [(0, (vs a1 from1.length c1)), (1, (vs a2 to1.length c2)), (5, (vs (x.2.2.1) (x.1).length (x.2.2.2.1))), (6, (vs (x.2.2.2.2.1) (x.2.1).length (x.2.2.2.2.2))), (7, (vi i1))]) (fun x => fun w => ∃ C, Bun noM F w0 C w [MO.row cGTransfer 28 (x.2.2.1) (x.2.2.2.1) (x.1), MO.row cBool 4 (x.2.2.2.2.1) (x.2.2.2.2.2) (x.2.1)] [Cl.sl (cInt .i64) a1 c1 from1, Cl.sl (cInt .i64) a2 c2 to1] ∧ m_ref53_Plan_j3 (m_ref53_Plan_l2 from1 to1 fuel2) i1 (x.1) (x.2.1) = some r) ?_ ?_
    ·clear h hI; rintro ⟨out5, done3, a11, c19, a12, c20⟩ w11 ⟨c21, hI, h⟩
     try dsimp only at hI h
     rw [m_ref53_Plan_j3] at h
     refine c_sub (e := [(0, (vs a1 from1.length c1)), (1, (vs a2 to1.length c2)), (5, (vs a11 out5.length c19)), (6, (vs a12 done3.length c20)), (7, (vi i1))]) ⟨rfl, rfl, rfl, rfl, rfl, trivial⟩ ?_
     refine c_region rfl ?_
     refine sq (y_move rfl et) ?_
     refine sq (y_add rfl et ev_const) ?_
     refine sq (y_assign rfl et) ?_
     refine s_nil ?_
     exact k_loop (fuel2, out5, done3, wi64 (i1 + 1), a11, c19, a12, c20) ⟨rfl, rfl, rfl, rfl, rfl, trivial⟩ ⟨_, hI.arr (.c .z (.c .z .n)) ⟨.z, (.s .z), trivial⟩, h⟩ (Nat.lt_succ_self _)
    ·skip
     refine c_block ?_
     refine c_seq ?_
     refine c_region rfl ?_
     refine sq (y_move rfl et) ?_
     refine sq (y_move rfl et) ?_
     obtain ⟨e6, hx12, h⟩ := bnd_some h
     obtain ⟨ad6, cs6, hA6, hr6, hq9⟩ := hI.clat .z hx12
     obtain rfl : cs6 = [(vi e6)] := hr6
     refine sq (y_indexAddr rfl Try.underlying23 size_3 et et (lat_bd hx12) hA6) ?_
     refine sq (y_load1 (v := (vi e6)) rfl et Try.underlying3 rfl hq9.1) ?_
     refine sq (y_assign rfl et) ?_
     refine s_nil ?_
     refine k_same ?_
     refine c_seq ?_
     refine c_seq ?_
     refine c_region rfl ?_
     refine sq (y_move rfl et) ?_
     refine sq (y_lss rfl et ev_const) ?_
     refine sq (y_move rfl et) ?_
     refine s_gval (g_false rfl rfl rfl rfl) rfl (fun hc => (y_move rfl et)) ?_
     refine s_gval (g_false rfl rfl rfl rfl) rfl (fun hc => (y_move rfl et)) ?_
     obtain ⟨e7, hx13, h⟩ := bnd_some h
     replace hx13 := gd_some hx13
     obtain ⟨ad7, cs7, hq10⟩ := hI.gclat (.s .z) hx13
     have hq11 : (!(decide (e6 < 0))) = true → CA (Dj F c18) w10 (ad7.add (Int.toNat i1 * 1)) [(vi e7)] := fun hc => by have k := hq10 hc; have e : cs7 = _ := k.2.1; rw [← e]; exact k.2.2
     refine s_gval (g_false rfl rfl rfl rfl) rfl (fun hc => (y_indexAddr rfl Try.underlying23 size_3 (ev_gv et hc) (ev_gv et hc) (lat_bd (hx13 hc)) (hq10 hc).1)) ?_
     refine s_gval (g_false rfl rfl rfl rfl) rfl (fun hc => (y_load1 (v := (vi e7)) rfl (ev_gv et hc) Try.underlying3 rfl (hq11 hc).1)) ?_
     refine s_gval (g_false rfl rfl rfl rfl) rfl (fun hc => (y_move rfl et)) ?_
     refine s_gval (g_false rfl rfl rfl rfl) rfl (fun hc => (y_eql rfl (ev_gv et hc) (ev_gv et hc))) ?_
     refine sq (y_or rfl et et) ?_
     refine s_nil ?_
     refine k_same ?_
     refine c_cond (b := (decide (e6 < 0)) || (decide (e7 = e6))) et (fun hb => ?_) (fun hb => ?_)
     ·replace h := ite_t hb h
      refine c_exit ?_
      refine k_in ?_
      exact k_join (out4, done2, a9, c16, a10, c17) ⟨rfl, rfl, rfl, rfl, rfl, trivial⟩ ⟨_, hI.arr (.c .z (.c .z .n)) ⟨.z, (.s .z), trivial⟩, h⟩ rfl
     ·replace h := ite_f hb h
      refine c_skip ?_
      refine k_same ?_
      refine c_seq ?_
      refine c_region rfl ?_
      refine sq (y_move rfl et) ?_
      refine sq (y_move rfl et) ?_
      refine sq (y_move rfl et) ?_
      refine sq (y_build (vs := [(0, (vi 1)), (1, (vi e6)), (2, (vi i1)), (3, (vi i1))]) (cs := #[(vi 1), (vi e6), (vi i1), (vi i1), (str ([] : List UInt8))]) rfl ⟨rfl, ev_const, ⟨rfl, et, ⟨rfl, et, ⟨rfl, et, trivial⟩⟩⟩⟩ (by kernel_rfl)) ?_
      refine l_alloc (cs := #[(vi 0), (vi 0), (vi 0), (vi 0), (str ([] : List UInt8))]) hI gn rfl rfl zero_28 rfl ?_
      clear hI; intro b3 c22 w12 hI
      refine l_store (new := [(vi 1), (vi e6), (vi i1), (vi i1), (str ([] : List UInt8))]) (cs' := #[(vi 1), (vi e6), (vi i1), (vi i1), (str ([] : List UInt8))]) hI .z gn rfl rfl et et rfl size_28 rfl rfl rfl ?_
      clear hI; intro c23 w13 hI
      refine s_nil ?_
      refine k_same ?_
      refine c_join (α := (List Bool) × GTransfer × (Option Addr) × Nat) (fun _ => ⟨124, []⟩) (fun x => [(0, (vs a1 from1.length c1)), (1, (vs a2 to1.length c2)), (5, (vs a9 out4.length c16)), (6, (vs (x.2.2.1) (x.1).length (x.2.2.2))), (7, (vi i1)), (9, (vp b3 0))]) (fun x => fun w => ∃ C, Bun noM F w0 C w [MO.row cBool 4 (x.2.2.1) (x.2.2.2) (x.1), MO.row cGTransfer 28 a9 c16 out4, MO.box b3 28 #[(vi (x.2.1).Op), (vi (x.2.1).Mesh), (vi (x.2.1).From), (vi (x.2.1).To), (str (x.2.1).Name)]] [Cl.sl (cInt .i64) a1 c1 from1, Cl.sl (cInt .i64) a2 c2 to1] ∧ m_ref53_Plan_j4 out4 (m_ref53_Plan_l2 from1 to1 fuel2) i1 (x.1) (x.2.1) = some r) ?_ ?_
      ·clear h hI; rintro ⟨done4, t1, a13, c24⟩ w14 ⟨c25, hI, h⟩
       try dsimp only at hI h
       rw [m_ref53_Plan_j4] at h
       refine c_sub (e := [(0, (vs a1 from1.length c1)), (1, (vs a2 to1.length c2)), (5, (vs a9 out4.length c16)), (6, (vs a13 done4.length c24)), (7, (vi i1)), (9, (vp b3 0))]) ⟨rfl, rfl, rfl, rfl, rfl, rfl, trivial⟩ ?_
       refine c_region rfl ?_
       refine sq (y_move rfl et) ?_
       refine sq (y_loadN (l := [(vi t1.Op), (vi t1.Mesh), (vi t1.From), (vi t1.To), (str t1.Name)]) rfl et Try.underlying28 rfl size_28 (CellsAt.of_blk (hI.blk (.s (.s .z))) rfl)) ?_
       refine l_lit (c := cGTransfer) (xs := ([t1] : List GTransfer)) (vs := [(0, (Value.agg #[(vi t1.Op), (vi t1.Mesh), (vi t1.From), (vi t1.To), (str t1.Name)]))]) (cs := #[(vi t1.Op), (vi t1.Mesh), (vi t1.From), (vi t1.To), (str t1.Name)]) (css := [[(vi t1.Op), (vi t1.Mesh), (vi t1.From), (vi t1.To), (str t1.Name)]]) hI gn rfl rfl Try.underlying25 info_28 rfl ⟨rfl, et, trivial⟩ (by kernel_rfl) ⟨rfl, trivial⟩ rfl rfl rfl ?_
       clear hI; intro b4 c26 w15 hI
       obtain ⟨zs3, hx14, h⟩ := bnd_some h
       refine l_append (xs := out4) (ys := ([t1] : List GTransfer)) hI (.s (.s .z)) (hI.rd .z) hx14 gn rfl rfl Try.underlying25 info_28 rfl rfl et et ?_
       clear hI; intro a14 c27 c28 w16 hI
       refine sq (y_assign rfl et) ?_
       refine s_nil ?_
       exact k_join (zs3, done4, a14, c27, a13, c24) ⟨rfl, rfl, rfl, rfl, rfl, trivial⟩ ⟨_, hI.arr (.c (.s (.s .z)) (.c (.s .z) .n)) ⟨.z, (.s .z), trivial⟩, h⟩ rfl
      ·skip
       refine c_seq ?_
       refine c_region rfl ?_
       refine sq (y_assign rfl ev_const) ?_
       refine s_nil ?_
       refine k_same ?_
       refine c_block ?_
       refine c_loop (α := Nat × (List Bool) × Int × GTransfer × (Option Addr) × Nat) (fun x => fun w => ∃ C, Bun noM F w0 C w [MO.row cBool 4 (x.2.2.2.2.1) (x.2.2.2.2.2) (x.2.1), MO.row cGTransfer 28 a9 c16 out4, MO.box b3 28 #[(vi (x.2.2.2.1).Op), (vi (x.2.2.2.1).Mesh), (vi (x.2.2.2.1).From), (vi (x.2.2.2.1).To), (str (x.2.2.2.1).Name)]] [Cl.sl (cInt .i64) a1 c1 from1, Cl.sl (cInt .i64) a2 c2 to1] ∧ m_ref53_Plan_l3 to1 e6 from1 i1 out4 (m_ref53_Plan_l2 from1 to1 fuel2) (x.1) (x.2.1) (x.2.2.1) (x.2.2.2.1) = some r) (fun x _ => x.1) (fun x => [(0, (vs a1 from1.length c1)), (1, (vs a2 to1.length c2)), (5, (vs a9 out4.length c16)), (6, (vs (x.2.2.2.2.1) (x.2.1).length (x.2.2.2.2.2))), (7, (vi i1)), (8, (vi e6)), (9, (vp b3 0)), (10, (vi (x.2.2.1)))]) (fu, done2, 0, (⟨1, e6, i1, i1, ([] : List UInt8)⟩ : GTransfer), a10, c17) ⟨_, hI.arr (.c (.s (.s .z)) (.c (.s .z) (.c .z .n))) ⟨.z, (.s .z), trivial⟩, h⟩ ⟨rfl, rfl, rfl, rfl, rfl, rfl, rfl, rfl, trivial⟩ ?_
       clear h hI; rintro ⟨fuel3, done5, j2, t2, a15, c29⟩ w17 ⟨c30, hI, h⟩
       dsimp only at hI h
       rcases fuel3 with _ | fuel3
       ·rw [m_ref53_Plan_l3] at h; cases h
       rw [m_ref53_Plan_l3] at h
       refine c_sub (e := [(0, (vs a1 from1.length c1)), (1, (vs a2 to1.length c2)), (5, (vs a9 out4.length c16)), (6, (vs a15 done5.length c29)), (7, (vi i1)), (8, (vi e6)), (9, (vp b3 0)), (10, (vi j2))]) ⟨rfl, rfl, rfl, rfl, rfl, rfl, rfl, rfl, trivial⟩ ?_
       refine c_seq ?_
       refine c_seq ?_
       refine c_region rfl ?_
       refine sq (y_move rfl et) ?_
       refine sq (y_move rfl et) ?_
       refine sq (y_lenl rfl Try.underlying23 et) ?_
       refine sq (y_lss rfl et et) ?_
       refine s_nil ?_
       refine k_same ?_
       refine c_cond (b := decide (j2 < (to1.length : Int))) et (fun hb => ?_) (fun hb => ?_)
       ·replace h := ite_t hb h
        refine c_skip ?_
        refine k_same ?_
        refine c_join (α := (List Bool) × GTransfer × (Option Addr) × Nat) (fun _ => ⟨124, []⟩) (fun x => [(0, (vs a1 from1.length c1)), (1, (vs a2 to1.length c2)), (5, (vs a9 out4.length c16)), (6, (vs (x.2.2.1) (x.1).length (x.2.2.2))), (7, (vi i1)), (8, (vi e6)), (9, (vp b3 0)), (10, (vi j2))]) (fun x => fun w => ∃ C, Bun noM F w0 C w [MO.row cBool 4 (x.2.2.1) (x.2.2.2) (x.1), MO.row cGTransfer 28 a9 c16 out4, MO.box b3 28 #[(vi (x.2.1).Op), (vi (x.2.1).Mesh), (vi (x.2.1).From), (vi (x.2.1).To), (str (x.2.1).Name)]] [Cl.sl (cInt .i64) a1 c1 from1, Cl.sl (cInt .i64) a2 c2 to1] ∧ m_ref53_Plan_j5 (m_ref53_Plan_l3 to1 e6 from1 i1 out4 (m_ref53_Plan_l2 from1 to1 fuel2) fuel3) j2 (x.1) (x.2.1) = some r) ?_ ?_
        ·clear h hI; rintro ⟨done6, t3, a16, c31⟩ w18 ⟨c32, hI, h⟩
         try dsimp only at hI h
         rw [m_ref53_Plan_j5] at h
         refine c_sub (e := [(0, (vs a1 from1.length c1)), (1, (vs a2 to1.length c2)), (5, (vs a9 out4.length c16)), (6, (vs a16 done6.length c31)), (7, (vi i1)), (8, (vi e6)), (9, (vp b3 0)), (10, (vi j2))]) ⟨rfl, rfl, rfl, rfl, rfl, rfl, rfl, rfl, trivial⟩ ?_
         refine c_region rfl ?_
         refine sq (y_move rfl et) ?_
         refine sq (y_add rfl et ev_const) ?_
         refine sq (y_assign rfl et) ?_
         refine s_nil ?_
         exact k_loop (fuel3, done6, wi64 (j2 + 1), t3, a16, c31) ⟨rfl, rfl, rfl, rfl, rfl, rfl, rfl, rfl, trivial⟩ ⟨_, hI.arr (.c .z (.c .z (.c .z .n))) ⟨.z, (.s .z), trivial⟩, h⟩ (Nat.lt_succ_self _)
        ·skip
         refine c_block ?_
         refine c_seq ?_
         refine c_region rfl ?_
         refine sq (y_move rfl et) ?_
         refine sq (y_move rfl et) ?_
         obtain ⟨e8, hx15, h⟩ := bnd_some h
         obtain ⟨ad8, cs8, hA8, hr8, hq12⟩ := hI.clat (.s .z) hx15
         obtain rfl : cs8 = [(vi e8)] := hr8
         refine sq (y_indexAddr rfl Try.underlying23 size_3 et et (lat_bd hx15) hA8) ?_
         refine sq (y_load1 (v := (vi e8)) rfl et Try.underlying3 rfl hq12.1) ?_
         refine sq (y_move rfl et) ?_
         refine sq (y_eql rfl et et) ?_
         refine sq (y_move rfl et) ?_
         refine s_gval (g_true rfl rfl rfl rfl) rfl (fun hc => (y_move rfl et)) ?_
         refine s_gval (g_true rfl rfl rfl rfl) rfl (fun hc => (y_move rfl et)) ?_
         obtain ⟨e9, hx16, h⟩ := bnd_some h
         replace hx16 := gd_some hx16
         obtain ⟨ad9, cs9, hq13⟩ := hI.gclat .z hx16
         have hq14 : (decide (e8 = e6)) = true → CA (Dj F c30) w17 (ad9.add (Int.toNat j2 * 1)) [(vi e9)] := fun hc => by have k := hq13 hc; have e : cs9 = _ := k.2.1; rw [← e]; exact k.2.2
         refine s_gval (g_true rfl rfl rfl rfl) rfl (fun hc => (y_indexAddr rfl Try.underlying23 size_3 (ev_gv et hc) (ev_gv et hc) (lat_bd (hx16 hc)) (hq13 hc).1)) ?_
         refine s_gval (g_true rfl rfl rfl rfl) rfl (fun hc => (y_load1 (v := (vi e9)) rfl (ev_gv et hc) Try.underlying3 rfl (hq14 hc).1)) ?_
         refine s_gval (g_true rfl rfl rfl rfl) rfl (fun hc => (y_eql rfl (ev_gv et hc) ev_const)) ?_
         refine sq (y_and rfl et et) ?_
         refine s_nil ?_
         refine k_same ?_
         refine c_cond (b := (decide (e8 = e6)) && (decide (e9 = (-1)))) et (fun hb => ?_) (fun hb => ?_)
         ·replace h := ite_t hb h
          refine c_seq ?_
          refine c_region rfl ?_
          refine sq (y_move rfl et) ?_
          refine sq (y_move rfl et) ?_
          refine sq (y_move rfl et) ?_
          refine sq (y_build (vs := [(0, (vi 3)), (1, (vi e6)), (2, (vi i1)), (3, (vi j2))]) (cs := #[(vi 3), (vi e6), (vi i1), (vi j2), (str ([] : List UInt8))]) rfl ⟨rfl, ev_const, ⟨rfl, et, ⟨rfl, et, ⟨rfl, et, trivial⟩⟩⟩⟩ (by kernel_rfl)) ?_
          refine l_store (new := [(vi 3), (vi e6), (vi i1), (vi j2), (str ([] : List UInt8))]) (cs' := #[(vi 3), (vi e6), (vi i1), (vi j2), (str ([] : List UInt8))]) hI (.s (.s .z)) gn rfl rfl et et rfl size_28 rfl rfl rfl ?_
          clear hI; intro c33 w19 hI
          refine s_nil ?_
          refine k_same ?_
          refine c_region rfl ?_
          refine sq (y_move rfl et) ?_
          refine sq (y_move rfl et) ?_
          obtain ⟨ho1, h⟩ := chk_some h
          obtain ⟨ad10, hA10⟩ := hI.addr .z ho1
          refine sq (y_indexAddr rfl Try.underlying47 size_4 et et ho1 hA10) ?_
          refine l_storeRow (p := Int.toNat j2) (new := [(vb true)]) (off := 0) (x' := true) hI .z gn rfl rfl (by have := ho1; omega) hA10 rfl et ev_const rfl size_4 rfl (by show 0 + 1 ≤ 1; omega) (fun _ cs0 _ hr0 => by rw [spl_full (by have e := Cod.len _ hr0; exact e)]; exact rfl) ?_
          clear hI; intro c34 w20 hI
          refine s_nil ?_
          exact k_join (done5.set (Int.toNat j2) true, (⟨3, e6, i1, j2, ([] : List UInt8)⟩ : GTransfer), a15, c29) ⟨rfl, rfl, rfl, (lookset rfl), rfl, rfl, rfl, rfl, trivial⟩ ⟨_, hI.arr (.c .z (.c .z (.c .z .n))) ⟨.z, (.s .z), trivial⟩, h⟩ rfl
         ·replace h := ite_f hb h
          refine c_skip ?_
          exact k_join (done5, t2, a15, c29) ⟨rfl, rfl, rfl, rfl, rfl, rfl, rfl, rfl, trivial⟩ ⟨_, hI.arr (.c .z (.c .z (.c .z .n))) ⟨.z, (.s .z), trivial⟩, h⟩ rfl
       ·replace h := ite_f hb h
        refine c_exit ?_
        refine k_in ?_
        exact k_join (done5, t2, a15, c29) ⟨rfl, rfl, rfl, rfl, rfl, rfl, trivial⟩ ⟨_, hI.arr (.c .z (.c .z (.c .z .n))) ⟨.z, (.s .z), trivial⟩, h⟩ rfl
   ·replace h := ite_f hb h
    refine c_exit ?_
    refine k_in ?_
    exact k_join (out4, done2, a9, c16, a10, c17) ⟨rfl, rfl, rfl, rfl, trivial⟩ ⟨_, hI.arr (.c .z (.c .z .n)) ⟨.z, (.s .z), trivial⟩, h⟩ rfl

set_option maxRecDepth 100000 in
set_option maxHeartbeats 4000000 in
theorem c_law53_CollectivePlans (F : NP) (w0 : World) (hF : ∀ k, F k → k < w0.heap.size) (from1 : List Int) (to1 : List Int) (a1 : Option Addr) (c1 : Nat) (a2 : Option Addr) (c2 : Nat) (hc : AllCl [Cl.sl (cInt .i64) a1 c1 from1, Cl.sl (cInt .i64) a2 c2 to1] F w0) (r : Bool)
  (h : m_law53_CollectivePlans from1 to1 = some r) :
  Calls Try.prog 3 #[(vs a1 from1.length c1), (vs a2 to1.length c2)] w0 fun e w => e = .returned (vb r) ∧ Ext w0 w ∧ AllCl [] F w := by
 refine enterK (l := [(vs a1 from1.length c1), (vs a2 to1.length c2)]) Try.func3 rfl Try.ntmps3 rfl ?_
 have hI := Bun.start hF hc
 clear hc
 rw [m_law53_CollectivePlans] at h
 refine c_seq ?_
 refine c_region rfl ?_
 refine sq (y_assign rfl ev_const) ?_
 refine s_nil ?_
 refine k_same ?_
 refine c_seq ?_
 refine c_seq ?_
 refine c_region rfl ?_
 refine sq (y_move rfl et) ?_
 refine sq (y_lenl rfl Try.underlying23 et) ?_
 refine sq (y_gtr rfl et ev_const) ?_
 refine sq (y_move rfl et) ?_
 refine s_gval (g_false rfl rfl rfl rfl) rfl (fun hc => (y_move rfl et)) ?_
 refine s_gval (g_false rfl rfl rfl rfl) rfl (fun hc => (y_lenl rfl Try.underlying23 (ev_gv et hc))) ?_
 refine s_gval (g_false rfl rfl rfl rfl) rfl (fun hc => (y_gtr rfl (ev_gv et hc) ev_const)) ?_
 refine sq (y_or rfl et et) ?_
 refine s_nil ?_
 refine k_same ?_
 refine c_cond (b := (decide (40 < (from1.length : Int))) || (decide (40 < (to1.length : Int)))) et (fun hb => ?_) (fun hb => ?_)
 ·replace h := ite_t hb h
  refine c_seq ?_
  refine c_region rfl ?_
  obtain ⟨r1, hx1, h⟩ := bnd_some h
  refine s_call gn rfl (r_callF (vs := []) rfl ok_4 trivial) (Calls.mono (c_law53_examples (Dj F noM) w0 hI.lt trivial r1 hx1) ?_)
  rintro _ w1 ⟨rfl, hx2, hl1⟩
  refine ⟨_, rfl, ?_⟩
  replace hI := (hI.ext hx2)
  refine sq (y_assign rfl et) ?_
  refine s_nil ?_
  refine k_same ?_
  refine c_ret ?_
  obtain rfl := some_inj h
  exact q_ret (vs := [(vb r1)]) Try.results3 ⟨ev_tmp rfl rfl, trivial⟩ ⟨rfl, hI.ext0, hI.fin trivial⟩
 ·replace h := ite_f hb h
  refine c_skip ?_
  refine k_same ?_
  refine c_seq ?_
  refine c_region rfl ?_
  refine sq (y_move rfl et) ?_
  refine sq (y_move rfl et) ?_
  obtain ⟨r2, hx3, h⟩ := bnd_some h
  refine s_call gn rfl (r_callF (vs := [(vs a1 from1.length c1), (vs a2 to1.length c2)]) rfl ok_5 ⟨et, ⟨et, trivial⟩⟩) (Calls.mono (c_collective_Plan (Dj F noM) w0 hI.lt from1 to1 a1 c1 a2 c2 ⟨(hI.get .z), (hI.get (.s .z)), trivial⟩ r2 hx3) ?_)
  rintro _ w2 ⟨a3, c3, rfl, hx4, hl2⟩
  refine ⟨_, rfl, ?_⟩
  replace hI := (hI.ext hx4).adds hl2
  refine sq (y_assign rfl et) ?_
  refine s_nil ?_
  refine k_same ?_
  refine c_seq ?_
  refine c_region rfl ?_
  refine sq (y_move rfl et) ?_
  refine sq (y_move rfl et) ?_
  obtain ⟨r3, hx5, h⟩ := bnd_some h
  refine s_call gn rfl (r_callF (vs := [(vs a1 from1.length c1), (vs a2 to1.length c2)]) rfl ok_6 ⟨et, ⟨et, trivial⟩⟩) (Calls.mono (c_ref53_Plan (Dj F noM) w2 hI.lt from1 to1 a1 c1 a2 c2 ⟨(hI.get (.s .z)), (hI.get (.s (.s .z))), trivial⟩ r3 hx5) ?_)
  rintro _ w3 ⟨a4, c4, rfl, hx6, hl3⟩
  refine ⟨_, rfl, ?_⟩
  replace hI := (hI.ext hx6).adds hl3
  refine sq (y_assign rfl et) ?_
  refine s_nil ?_
  refine k_same ?_
  refine c_seq ?_
  refine c_seq ?_
  refine c_region rfl ?_
  refine sq (y_move rfl et) ?_
  refine sq (y_lenl rfl Try.underlying25 et) ?_
  refine sq (y_move rfl et) ?_
  refine sq (y_lenl rfl Try.underlying25 et) ?_
  refine sq (y_neq rfl et et) ?_
  refine s_nil ?_
  refine k_same ?_
  refine c_cond (b := !decide ((r2.length : Int) = (r3.length : Int))) et (fun hb => ?_) (fun hb => ?_)
  ·replace h := ite_t hb h
   refine c_seq ?_
   refine c_region rfl ?_
   refine sq (y_assign rfl ev_const) ?_
   refine s_nil ?_
   refine k_same ?_
   refine c_ret ?_
   obtain rfl := some_inj h
   exact q_ret (vs := [(vb false)]) Try.results3 ⟨ev_tmp rfl rfl, trivial⟩ ⟨rfl, hI.ext0, hI.fin trivial⟩
  ·replace h := ite_f hb h
   refine c_skip ?_
   refine k_same ?_
   refine c_seq ?_
   refine c_seq ?_
   refine c_region rfl ?_
   refine sq (y_assign rfl ev_const) ?_
   refine s_nil ?_
   refine k_same ?_
   refine c_block ?_
   refine c_loop (α := Nat × Int) (fun x => fun w => ∃ C, Bun noM F w0 C w [] [Cl.sl cGTransfer a3 c3 r2, Cl.sl cGTransfer a4 c4 r3] ∧ m_law53_CollectivePlans_l1 r2 r3 (x.1) (x.2) = some r) (fun x _ => x.1) (fun x => [(5, (vs a3 r2.length c3)), (6, (vs a4 r3.length c4)), (7, (vi (x.2)))]) (fu, 0) ⟨_, hI.arr .n ⟨(.s .z), .z, trivial⟩, h⟩ ⟨rfl, rfl, rfl, trivial⟩ ?_
   clear h hI; rintro ⟨fuel1, i1⟩ w4 ⟨c5, hI, h⟩
   dsimp only at hI h
   rcases fuel1 with _ | fuel1
   ·rw [m_law53_CollectivePlans_l1] at h; cases h
   rw [m_law53_CollectivePlans_l1] at h
   refine c_sub (e := [(5, (vs a3 r2.length c3)), (6, (vs a4 r3.length c4)), (7, (vi i1))]) ⟨rfl, rfl, rfl, trivial⟩ ?_
   refine c_seq ?_
   refine c_seq ?_
   refine c_region rfl ?_
   refine sq (y_move rfl et) ?_
   refine sq (y_move rfl et) ?_
   refine sq (y_lenl rfl Try.underlying25 et) ?_
   refine sq (y_lss rfl et et) ?_
   refine s_nil ?_
   refine k_same ?_
   refine c_cond (b := decide (i1 < (r2.length : Int))) et (fun hb => ?_) (fun hb => ?_)
   ·replace h := ite_t hb h
    refine c_skip ?_
    refine k_same ?_
    refine c_seq ?_
    refine c_block ?_
    refine c_seq ?_
    refine c_drawX [] false (.c (0, .q) (.c (1, .q) (.c (2, .q) (.c (3, .q) (.c (4, .q) (.c (5, .q) (.c (6, .q) (.c (7, .q) (.c (8, .q) .n))))))))) hI (by kernel_rfl) (by kernel_rfl) ?_
    clear hI; intro w5 hI
    refine a_q rfl gn rfl (fun w' => (y_move rfl et)) ?_
    refine a_q rfl gn rfl (fun w' => (y_move rfl et)) ?_
    obtain ⟨e1, hx7, h⟩ := bnd_some h
    obtain ⟨ad1, cs1, hA1, hr1, hq1⟩ := hI.clat .z hx7
    obtain rfl : cs1 = [(vi e1.Op), (vi e1.Mesh), (vi e1.From), (vi e1.To), (str e1.Name)] := hr1
    refine a_q rfl gn rfl (fun w' => (y_indexAddr rfl Try.underlying25 size_28 et et (lat_bd hx7) hA1)) ?_
    refine a_read rfl gn rfl (fun w' hw' => (y_loadN (l := [(vi e1.Op), (vi e1.Mesh), (vi e1.From), (vi e1.To), (str e1.Name)]) rfl et Try.underlying28 rfl size_28 (hq1.at_ (SX.any rfl hw')))) (by kernel_rfl) ?_
    refine a_q rfl gn rfl (fun w' => (y_move rfl et)) ?_
    refine a_q rfl gn rfl (fun w' => (y_move rfl et)) ?_
    obtain ⟨e2, hx8, h⟩ := bnd_some h
    obtain ⟨ad2, cs2, hA2, hr2, hq2⟩ := hI.clat (.s .z) hx8
    obtain rfl : cs2 = [(vi e2.Op), (vi e2.Mesh), (vi e2.From), (vi e2.To), (str e2.Name)] := hr2
    refine a_q rfl gn rfl (fun w' => (y_indexAddr rfl Try.underlying25 size_28 et et (lat_bd hx8) hA2)) ?_
    refine a_read rfl gn rfl (fun w' hw' => (y_loadN (l := [(vi e2.Op), (vi e2.Mesh), (vi e2.From), (vi e2.To), (str e2.Name)]) rfl et Try.underlying28 rfl size_28 (hq2.at_ (SX.any rfl hw')))) (by kernel_rfl) ?_
    refine a_q rfl gn rfl (fun w' => (y_bin rfl et et (eqstruct_28n ..) (eqguard_28 ..))) ?_
    refine a_nil ?_
    refine k_same ?_
    refine c_cond (b := !((decide (e1.Op = e2.Op)) && (decide (e1.Mesh = e2.Mesh)) && (decide (e1.From = e2.From)) && (decide (e1.To = e2.To)) && (decide (e1.Name = e2.Name)))) et (fun hb => ?_) (fun hb => ?_)
    ·replace h := ite_t hb h
     refine c_seq ?_
     refine c_region rfl ?_
     refine sq (y_assign rfl ev_const) ?_
     refine s_nil ?_
     refine k_same ?_
     refine c_ret ?_
     obtain rfl := some_inj h
     exact q_ret (vs := [(vb false)]) Try.results3 ⟨ev_tmp rfl rfl, trivial⟩ ⟨rfl, hI.ext0, hI.fin trivial⟩
    ·replace h := ite_f hb h
     refine c_skip ?_
     refine k_same ?_
     refine c_region rfl ?_
     refine sq (y_move rfl et) ?_
     refine sq (y_add rfl et ev_const) ?_
     refine sq (y_assign rfl et) ?_
     refine s_nil ?_
     exact k_loop (fuel1, wi64 (i1 + 1)) ⟨rfl, rfl, rfl, trivial⟩ ⟨_, hI.arr .n ⟨.z, (.s .z), trivial⟩, h⟩ (Nat.lt_succ_self _)
   ·replace h := ite_f hb h
    refine c_exit ?_
    refine k_in ?_
    refine k_same ?_
    refine c_seq ?_
    refine c_region rfl ?_
    obtain ⟨r4, hx9, h⟩ := bnd_some h
    refine s_call gn rfl (r_callF (vs := []) rfl ok_4 trivial) (Calls.mono (c_law53_examples (Dj F c5) w4 hI.lt trivial r4 hx9) ?_)
    rintro _ w6 ⟨rfl, hx10, hl4⟩
    refine ⟨_, rfl, ?_⟩
    replace hI := (hI.ext hx10)
    refine sq (y_assign rfl et) ?_
    refine s_nil ?_
    refine k_same ?_
    refine c_ret ?_
    obtain rfl := some_inj h
    exact q_ret (vs := [(vb r4)]) Try.results3 ⟨ev_tmp rfl rfl, trivial⟩ ⟨rfl, hI.ext0, hI.fin trivial⟩

end Go.Proofs.Ytpedfojbfbccaaa
