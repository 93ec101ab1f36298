import Derived.Test.YtlakfanockhngaaDoorSCQ2b
namespace Go.Proofs.YtlakfanockhngaaDoor
open Go Go.RowKit Go.Vc
set_option linter.unusedVariables false
set_option linter.unusedSimpArgs false
set_option maxRecDepth 100000 in
set_option maxHeartbeats 4000000 in
theorem c_shape_Slice (F : NP) (w0 : World) (hF : ∀ k, F k → k < w0.heap.size) (d1 : List Int) (axis1 : Int) (from1 : Int) (to1 : Int) (a1 : Option Addr) (c1 : Nat) (hc : AllCl [Cl.sl (cInt .i64) a1 c1 d1] F w0) (r : List Int × Int)
  (h : m_shape_Slice d1 axis1 from1 to1 = some r) :
  Calls Tryd.prog 30 #[(vs a1 d1.length c1), (vi axis1), (vi from1), (vi to1)] w0 fun e w => ∃ (a2 : Option Addr) (c2 : Nat), e = .returned (Value.tuple #[(vs a2 r.1.length c2), (vi r.2)]) ∧ Ext w0 w ∧ AllCl [Cl.sl (cInt .i64) a2 c2 r.1] F w := by
 refine enterK (l := [(vs a1 d1.length c1), (vi axis1), (vi from1), (vi to1)]) Tryd.func30 rfl Tryd.ntmps30 rfl ?_
 have hI := Bun.start hF hc
 clear hc
 rw [m_shape_Slice] at h
 refine sr ?_
 refine sac ?_
 refine sac ?_
 refine nk ?_
 refine c_seq ?_
 refine sr ?_
 refine sm ?_
 obtain ⟨r1, hx1, h⟩ := bnd_some h
 refine s_call gn rfl (r_callF (vs := [(vs a1 d1.length c1)]) rfl ok_42 ⟨et, trivial⟩) (Calls.mono (c_shape_Validate (Dj F noM) w0 hI.lt d1 a1 c1 ⟨(hI.get .z), trivial⟩ r1 hx1) ?_)
 rintro _ w1 ⟨rfl, hx2, hl1⟩
 refine ⟨_, rfl, ?_⟩
 replace hI := (hI.ext hx2)
 refine sa ?_
 refine nk ?_
 refine sr ?_
 refine sm ?_
 refine sq (y_neq rfl et ev_const) ?_
 refine nk ?_
 refine c_cond (b := !decide (r1 = 0)) et (fun hb => ?_) (fun hb => ?_)
 ·replace h := ite_t hb h
  refine sr ?_
  refine sm ?_
  refine sac ?_
  refine sa ?_
  refine nk ?_
  refine c_ret ?_
  have hI := hI.add (c := Cl.sl (cInt .i64) none 0 ([] : List Int)) SlC.nil
  obtain rfl := some_inj h
  exact q_ret (vs := [(vs none 0 0), (vi r1)]) Tryd.results30 ⟨ev_tmp rfl rfl, ⟨ev_tmp rfl rfl, trivial⟩⟩ ⟨none, 0, rfl, hI.ext0, hI.fin ⟨.z, trivial⟩⟩
 ·replace h := ite_f hb h
  refine c_skip ?_
  refine k_same ?_
  refine c_seq ?_
  refine sr ?_
  refine sm ?_
  refine sq (y_lss rfl et ev_const) ?_
  refine sm ?_
  refine s_gval (g_false rfl rfl rfl rfl) rfl (fun hc => (y_move rfl et)) ?_
  refine s_gval (g_false rfl rfl rfl rfl) rfl (fun hc => (y_move rfl et)) ?_
  refine s_gval (g_false rfl rfl rfl rfl) rfl (fun hc => (y_lenl rfl Tryd.underlying24 (ev_gv et hc))) ?_
  refine s_gval (g_false rfl rfl rfl rfl) rfl (fun hc => (y_geq rfl (ev_gv et hc) (ev_gv et hc))) ?_
  refine sq (y_or rfl et et) ?_
  refine nk ?_
  refine c_cond (b := (decide (axis1 < 0)) || (decide ((d1.length : Int) ≤ axis1))) et (fun hb => ?_) (fun hb => ?_)
  ·replace h := ite_t hb h
   refine sr ?_
   refine sac ?_
   refine sac ?_
   refine nk ?_
   refine c_ret ?_
   have hI := hI.add (c := Cl.sl (cInt .i64) none 0 ([] : List Int)) SlC.nil
   obtain rfl := some_inj h
   exact q_ret (vs := [(vs none 0 0), (vi 11)]) Tryd.results30 ⟨ev_tmp rfl rfl, ⟨ev_tmp rfl rfl, trivial⟩⟩ ⟨none, 0, rfl, hI.ext0, hI.fin ⟨.z, trivial⟩⟩
  ·replace h := ite_f hb h
   refine c_skip ?_
   refine k_same ?_
   refine c_seq ?_
   refine sr ?_
   refine sm ?_
   refine sq (y_lss rfl et ev_const) ?_
   refine sm ?_
   refine s_gval (g_false rfl rfl rfl rfl) rfl (fun hc => (y_move rfl et)) ?_
   refine s_gval (g_false rfl rfl rfl rfl) rfl (fun hc => (y_move rfl et)) ?_
   refine s_gval (g_false rfl rfl rfl rfl) rfl (fun hc => (y_geq rfl (ev_gv et hc) (ev_gv et hc))) ?_
   refine sq (y_or rfl et et) ?_
   refine sm ?_
   refine s_gval (g_false rfl rfl rfl rfl) rfl (fun hc => (y_move rfl et)) ?_
   refine s_gval (g_false rfl rfl rfl rfl) rfl (fun hc => (y_move rfl et)) ?_
   refine s_gval (g_false rfl rfl rfl rfl) rfl (fun hc => (y_move rfl et)) ?_
   obtain ⟨e1, hx3, h⟩ := bnd_some h
   replace hx3 := gd_some hx3
   obtain ⟨ad1, cs1, hq1⟩ := hI.gclat .z hx3
   have hq2 : (!((decide (from1 < 0)) || (decide (to1 ≤ from1)))) = true → CA (Dj F noM) w1 (ad1.add (Int.toNat axis1 * 1)) [(vi e1)] := fun hc => by have k := hq1 hc; have e : cs1 = _ := k.2.1; rw [← e]; exact k.2.2
   refine s_gval (g_false rfl rfl rfl rfl) rfl (fun hc => (y_indexAddr rfl Tryd.underlying24 size_3 (ev_gv et hc) (ev_gv et hc) (lat_bd (hx3 hc)) (hq1 hc).1)) ?_
   refine s_gval (g_false rfl rfl rfl rfl) rfl (fun hc => (y_load1 (v := (vi e1)) rfl (ev_gv et hc) Tryd.underlying3 rfl (hq2 hc).1)) ?_
   refine s_gval (g_false rfl rfl rfl rfl) rfl (fun hc => (y_gtr rfl (ev_gv et hc) (ev_gv et hc))) ?_
   refine sq (y_or rfl et et) ?_
   refine s_nil ?_
   refine k_next (e := [(0, (vs a1 d1.length c1)), (1, (vi axis1)), (2, (vi from1)), (3, (vi to1)), (39, (vb (((decide (from1 < 0)) || (decide (to1 ≤ from1))) || (decide (e1 < to1)))))]) ⟨rfl, rfl, rfl, rfl, rfl, trivial⟩ ?_
   refine c_cond (b := ((decide (from1 < 0)) || (decide (to1 ≤ from1))) || (decide (e1 < to1))) et (fun hb => ?_) (fun hb => ?_)
   ·replace h := ite_t hb h
    refine sr ?_
    refine sac ?_
    refine sac ?_
    refine nk ?_
    refine c_ret ?_
    have hI := hI.add (c := Cl.sl (cInt .i64) none 0 ([] : List Int)) SlC.nil
    obtain rfl := some_inj h
    exact q_ret (vs := [(vs none 0 0), (vi 12)]) Tryd.results30 ⟨ev_tmp rfl rfl, ⟨ev_tmp rfl rfl, trivial⟩⟩ ⟨none, 0, rfl, hI.ext0, hI.fin ⟨.z, trivial⟩⟩
   ·replace h := ite_f hb h
    refine c_skip ?_
    refine k_same ?_
    refine sr ?_
    refine sm ?_
    obtain ⟨c3, f1, hB, hl2, hk1⟩ := hI.hands .n
    obtain ⟨r2, hx4, h⟩ := bnd_some h
    try dsimp only at h
    refine s_call gn rfl (r_callF (vs := [(vs a1 d1.length c1)]) rfl ok_49 ⟨et, trivial⟩) (Calls.mono (c_slices_Clone_int_int_o c3 f1 w1 d1 a1 c1 (hB.subs ⟨.z, trivial⟩) _ hx4) ?_)
    rintro _ w2 ⟨a3, c4, c5, rfl, hB2⟩
    obtain ⟨c6, hs1, hI⟩ := hk1 _ _ _ _ hB2
    replace hI : Bun noM F w0 c6 w2 [MO.row (cInt .i64) 3 a3 c4 r2] [Cl.sl (cInt .i64) a1 c1 d1] := hI
    refine ⟨_, rfl, ?_⟩
    refine sa ?_
    refine nk ?_
    refine sr ?_
    refine sm ?_
    refine sm ?_
    refine sm ?_
    refine sm ?_
    refine sq (y_sub rfl et et) ?_
    obtain ⟨ho1, h⟩ := chk_some h
    obtain ⟨ad2, hA2⟩ := hI.addr .z ho1
    refine sq (y_indexAddr rfl Tryd.underlying24 size_3 et et ho1 hA2) ?_
    refine l_storeRow (p := Int.toNat axis1) (new := [(vi (wi64 (to1 - from1)))]) (off := 0) (x' := wi64 (to1 - from1)) hI .z gn rfl rfl (by have := ho1; omega) hA2 rfl et et rfl size_3 rfl (by show 0 + 1 ≤ 1; omega) (fun _ cs0 _ hr0 => by rw [spl_full (by have e := Cod.len _ hr0; exact e)]; exact rfl) ?_
    clear hI; intro c7 w3 hI
    refine s_nil ?_
    refine k_next (e := [(11, (vs a3 (r2.set (Int.toNat axis1) (wi64 (to1 - from1))).length c4))]) ⟨(lookset rfl), trivial⟩ ?_
    refine sr ?_
    refine sm ?_
    refine sa ?_
    refine sac ?_
    refine nk ?_
    refine c_ret ?_
    obtain ⟨c8, hI⟩ := hI.release .z
    obtain rfl := some_inj h
    exact q_ret (vs := [(vs a3 (r2.set (Int.toNat axis1) (wi64 (to1 - from1))).length c4), (vi 0)]) Tryd.results30 ⟨ev_tmp rfl rfl, ⟨ev_tmp rfl rfl, trivial⟩⟩ ⟨a3, c4, rfl, hI.ext0, hI.fin ⟨.z, trivial⟩⟩
set_option maxRecDepth 100000 in
set_option maxHeartbeats 4000000 in
theorem c_tensor_Slice_1 (F : NP) (w0 : World) (hF : ∀ k, F k → k < w0.heap.size) (p1 : List Int) (a2 : Int) (a3 : Int) (a1 : Option Addr) (c1 : Nat) (b1 : Nat) (b2 : Nat) (hc : AllCl [Cl.sl (cInt .i64) a1 c1 p1, Cl.blk b1 3 #[(vi a2)], Cl.blk b2 3 #[(vi a3)]] F w0) (r : List Int)
  (h : m_tensor_Slice_1 p1 a2 a3 = some r) :
  Calls Tryd.prog 32 #[(vs a1 p1.length c1), (vp b1 0), (vp b2 0)] w0 fun e w => ∃ (a4 : Option Addr) (c2 : Nat), e = .returned (vs a4 r.length c2) ∧ Ext w0 w ∧ AllCl [Cl.sl (cInt .i64) a4 c2 r] F w := by
 refine enterK (l := [(vs a1 p1.length c1), (vp b1 0), (vp b2 0)]) Tryd.func32 rfl Tryd.ntmps32 rfl ?_
 have hI := Bun.start hF hc
 clear hc
 rw [m_tensor_Slice_1] at h
 refine sr ?_
 refine sac ?_
 refine nk ?_
 refine sr ?_
 refine sm ?_
 obtain ⟨zs1, hx1, h⟩ := bnd_some h
 replace hI := hI.nil (cInt .i64) 3 none
 refine l_append (xs := ([] : List Int)) (ys := p1) hI .z (hI.crd .z) hx1 gn rfl rfl Tryd.underlying24 info_3 rfl rfl ev_const et ?_
 clear hI; intro a5 c3 c4 w1 hI
 refine sa ?_
 refine nk ?_
 refine c_seq ?_
 refine c_drawX [7] false (.c (0, .q) (.c (1, .q) (.c (2, .q) (.c (3, .q) (.c (4, .q) (.c (5, .q) (.c (6, .q) (.c (7, .s) .n)))))))) hI (by kernel_rfl) (by kernel_rfl) ?_
 clear hI; intro w2 hI
 refine a_q rfl gn rfl (fun w' => (y_move rfl et)) ?_
 refine a_read rfl gn rfl (fun w' hw' => (y_load1 (v := (vi a2)) rfl et Tryd.underlying3 rfl ((hI.kblk (l := [(vi a2)]) (.s .z) rfl).at_ (SX.any rfl hw')))) (by kernel_rfl) ?_
 obtain ⟨e1, hx2, h⟩ := bnd_some h
 obtain ⟨ad1, cs1, hA1, hr1, hq1⟩ := hI.olat .z hx2
 obtain rfl : cs1 = [(vi e1)] := hr1
 refine a_q rfl gn rfl (fun w' => (y_indexAddr rfl Tryd.underlying24 size_3 et et (lat_bd hx2) hA1)) ?_
 refine a_read rfl gn rfl (fun w' hw' => (y_load1 (v := (vi e1)) rfl et Tryd.underlying3 rfl (hq1.at_ (SX.any rfl hw')))) (by kernel_rfl) ?_
 refine a_read rfl gn rfl (fun w' hw' => (y_load1 (v := (vi a3)) rfl et Tryd.underlying3 rfl ((hI.kblk (l := [(vi a3)]) (.s (.s .z)) rfl).at_ (SX.any rfl hw')))) (by kernel_rfl) ?_
 refine a_q rfl gn rfl (fun w' => (y_add rfl et et)) ?_
 obtain ⟨ho1, h⟩ := chk_some h
 obtain ⟨ad2, hA2⟩ := hI.addr .z ho1
 refine a_q rfl gn rfl (fun w' => (y_indexAddr rfl Tryd.underlying24 size_3 et et ho1 hA2)) ?_
 refine a_turn (F := F) (C := c4) rfl rfl ?_
 refine la_storeRow (p := Int.toNat a2) (new := [(vi (wi64 (e1 + a3)))]) (off := 0) (x' := wi64 (e1 + a3)) hI .z rfl gn rfl rfl (by have := ho1; omega) hA2 rfl et et rfl size_3 rfl (by show 0 + 1 ≤ 1; omega) (fun _ cs0 _ hr0 => by rw [spl_full (by have e := Cod.len _ hr0; exact e)]; exact rfl) ?_
 clear hI; intro c5 w3 hI
 refine a_nil ?_
 refine k_next (e := [(5, (vs a5 (zs1.set (Int.toNat a2) (wi64 (e1 + a3))).length c3))]) ⟨(lookset rfl), trivial⟩ ?_
 refine sr ?_
 refine sm ?_
 refine sa ?_
 refine nk ?_
 refine c_ret ?_
 obtain ⟨c6, hI⟩ := hI.release .z
 obtain rfl := some_inj h
 exact q_ret (vs := [(vs a5 (zs1.set (Int.toNat a2) (wi64 (e1 + a3))).length c3)]) Tryd.results32 ⟨ev_tmp rfl rfl, trivial⟩ ⟨a5, c3, rfl, hI.ext0, hI.fin ⟨.z, trivial⟩⟩
set_option maxRecDepth 100000 in
set_option maxHeartbeats 4000000 in
theorem c_tensor_Slice (F : NP) (w0 : World) (hF : ∀ k, F k → k < w0.heap.size) (t1 : GTensor) (axis1 : Int) (from1 : Int) (to1 : Int) (a1 : Option Addr) (c1 : Nat) (a2 : Option Addr) (c2 : Nat) (hc : AllCl [Cl.sl (cInt .i64) a1 c1 t1.Dims, Cl.sl cGVal a2 c2 t1.Vals] F w0) (r : GTensor × Int)
  (h : m_tensor_Slice t1 axis1 from1 to1 = some r) :
  Calls Tryd.prog 13 #[(Value.agg #[(vi t1.Type_.Kind), (vi t1.Type_.Bits), (vi t1.Type_.Frac), (vi t1.Type_.Round), (vi t1.Type_.Over), (vs a1 t1.Dims.length c1), (vs a2 t1.Vals.length c2)]), (vi axis1), (vi from1), (vi to1)] w0 fun e w => ∃ (a3 : Option Addr) (c3 : Nat) (a4 : Option Addr) (c4 : Nat), e = .returned (Value.tuple #[(Value.agg #[(vi r.1.Type_.Kind), (vi r.1.Type_.Bits), (vi r.1.Type_.Frac), (vi r.1.Type_.Round), (vi r.1.Type_.Over), (vs a3 r.1.Dims.length c3), (vs a4 r.1.Vals.length c4)]), (vi r.2)]) ∧ Ext w0 w ∧ AllCl [Cl.sl (cInt .i64) a3 c3 r.1.Dims, Cl.sl cGVal a4 c4 r.1.Vals] F w := by
 refine enterK (l := [(Value.agg #[(vi t1.Type_.Kind), (vi t1.Type_.Bits), (vi t1.Type_.Frac), (vi t1.Type_.Round), (vi t1.Type_.Over), (vs a1 t1.Dims.length c1), (vs a2 t1.Vals.length c2)]), (vi axis1), (vi from1), (vi to1)]) Tryd.func13 rfl Tryd.ntmps13 rfl ?_
 have hI := Bun.start hF hc
 clear hc
 rw [m_tensor_Slice] at h
 refine sr ?_
 refine l_box (v := (Value.agg #[(vi t1.Type_.Kind), (vi t1.Type_.Bits), (vi t1.Type_.Frac), (vi t1.Type_.Round), (vi t1.Type_.Over), (vs a1 t1.Dims.length c1), (vs a2 t1.Vals.length c2)])) (cs := #[(vi t1.Type_.Kind), (vi t1.Type_.Bits), (vi t1.Type_.Frac), (vi t1.Type_.Round), (vi t1.Type_.Over), (vs a1 t1.Dims.length c1), (vs a2 t1.Vals.length c2)]) hI gn rfl rfl et rfl ?_
 clear hI; intro b1 c5 w1 hI
 obtain ⟨c6, hI⟩ := hI.relBox .z
 refine l_box (v := (vi axis1)) (cs := #[(vi axis1)]) hI gn rfl rfl et rfl ?_
 clear hI; intro b2 c7 w2 hI
 obtain ⟨c8, hI⟩ := hI.relBox .z
 refine l_box (v := (vi from1)) (cs := #[(vi from1)]) hI gn rfl rfl et rfl ?_
 clear hI; intro b3 c9 w3 hI
 obtain ⟨c10, hI⟩ := hI.relBox .z
 refine l_alloc (cs := #[(vi 0), (vi 0), (vi 0), (vi 0), (vi 0), (vs none 0 0), (vs none 0 0)]) hI gn rfl rfl zero_27 rfl ?_
 clear hI; intro b4 c11 w4 hI
 refine sac ?_
 refine nk ?_
 refine c_seq ?_
 refine sr ?_
 refine sq (y_loadN (l := [(vi t1.Type_.Kind), (vi t1.Type_.Bits), (vi t1.Type_.Frac), (vi t1.Type_.Round), (vi t1.Type_.Over), (vs a1 t1.Dims.length c1), (vs a2 t1.Vals.length c2)]) rfl et Tryd.underlying27 rfl size_27 (hI.kblk (l := [(vi t1.Type_.Kind), (vi t1.Type_.Bits), (vi t1.Type_.Frac), (vi t1.Type_.Round), (vi t1.Type_.Over), (vs a1 t1.Dims.length c1), (vs a2 t1.Vals.length c2)]) (.s (.s .z)) rfl).1) ?_
 obtain ⟨r1, hx1, h⟩ := bnd_some h
 refine s_call gn rfl (r_callF (vs := [(Value.agg #[(vi t1.Type_.Kind), (vi t1.Type_.Bits), (vi t1.Type_.Frac), (vi t1.Type_.Round), (vi t1.Type_.Over), (vs a1 t1.Dims.length c1), (vs a2 t1.Vals.length c2)])]) rfl ok_25 ⟨et, trivial⟩) (Calls.mono (c_tensor_Validate (Dj F c11) w4 hI.lt t1 a1 c1 a2 c2 ⟨(hI.get (.s (.s (.s .z)))), (hI.get (.s (.s (.s (.s .z))))), trivial⟩ r1 hx1) ?_)
 rintro _ w5 ⟨rfl, hx2, hl1⟩
 refine ⟨_, rfl, ?_⟩
 replace hI := (hI.ext hx2)
 refine sa ?_
 refine nk ?_
 refine sr ?_
 refine sm ?_
 refine sq (y_neq rfl et ev_const) ?_
 refine nk ?_
 refine c_cond (b := !decide (r1 = 0)) et (fun hb => ?_) (fun hb => ?_)
 ·replace h := ite_t hb h
  refine sr ?_
  refine sq (y_build (vs := []) (cs := #[(vi 0), (vi 0), (vi 0), (vi 0), (vi 0), (vs none 0 0), (vs none 0 0)]) rfl trivial (by kernel_rfl)) ?_
  refine sm ?_
  refine l_store (new := [(vi 0), (vi 0), (vi 0), (vi 0), (vi 0), (vs none 0 0), (vs none 0 0)]) (cs' := #[(vi 0), (vi 0), (vi 0), (vi 0), (vi 0), (vs none 0 0), (vs none 0 0)]) hI .z gn rfl rfl et et rfl size_27 rfl rfl rfl ?_
  clear hI; intro c12 w6 hI
  refine sa ?_
  refine nk ?_
  refine c_ret ?_
  have hI := hI.add (c := Cl.sl (cInt .i64) none 0 ([] : List Int)) SlC.nil
  have hI := hI.add (c := Cl.sl cGVal none 0 ([] : List GVal)) SlC.nil
  obtain rfl := some_inj h
  exact q_ret (vs := [(Value.agg #[(vi 0), (vi 0), (vi 0), (vi 0), (vi 0), (vs none 0 0), (vs none 0 0)]), (vi r1)]) Tryd.results13 ⟨⟨_, ev_tmp rfl rfl, load_agg (l := [(vi 0), (vi 0), (vi 0), (vi 0), (vi 0), (vs none 0 0), (vs none 0 0)]) Tryd.underlying27 rfl size_27 (CellsAt.of_blk (hI.blk .z) rfl)⟩, ⟨ev_tmp rfl rfl, trivial⟩⟩ ⟨none, 0, none, 0, rfl, hI.ext0, hI.fin ⟨(.s .z), .z, trivial⟩⟩
 ·replace h := ite_f hb h
  refine c_skip ?_
  refine k_same ?_
  refine sr ?_
  refine sq (y_fieldAddr rfl et Tryd.underlying27 rfl size_24 rfl) ?_
  refine sq (y_load1 (v := (vs a1 t1.Dims.length c1)) rfl et Tryd.underlying24 rfl (hI.kblk (l := [(vs a1 t1.Dims.length c1)]) (.s (.s .z)) rfl).1) ?_
  refine sq (y_load1 (v := (vi axis1)) rfl et Tryd.underlying3 rfl (hI.kblk (l := [(vi axis1)]) (.s .z) rfl).1) ?_
  refine sq (y_load1 (v := (vi from1)) rfl et Tryd.underlying3 rfl (hI.kblk (l := [(vi from1)]) .z rfl).1) ?_
  refine sm ?_
  obtain ⟨r2, hx3, h⟩ := bnd_some h
  refine s_call gn rfl (r_callF (vs := [(vs a1 t1.Dims.length c1), (vi axis1), (vi from1), (vi to1)]) rfl ok_30 ⟨et, ⟨et, ⟨et, ⟨et, trivial⟩⟩⟩⟩) (Calls.mono (c_shape_Slice (Dj F c11) w5 hI.lt t1.Dims axis1 from1 to1 a1 c1 ⟨(hI.get (.s (.s (.s .z)))), trivial⟩ r2 hx3) ?_)
  rintro _ w7 ⟨a5, c13, rfl, hx4, hl2⟩
  refine ⟨_, rfl, ?_⟩
  replace hI := (hI.ext hx4).adds hl2
  refine sm ?_
  refine sq (y_extract rfl et rfl) ?_
  refine sq (y_extract rfl et rfl) ?_
  refine sa ?_
  refine sa ?_
  refine nk ?_
  refine c_seq ?_
  refine sr ?_
  refine sm ?_
  refine sq (y_neq rfl et ev_const) ?_
  refine nk ?_
  refine c_cond (b := !decide (r2.2 = 0)) et (fun hb => ?_) (fun hb => ?_)
  ·replace h := ite_t hb h
   refine sr ?_
   refine sq (y_build (vs := []) (cs := #[(vi 0), (vi 0), (vi 0), (vi 0), (vi 0), (vs none 0 0), (vs none 0 0)]) rfl trivial (by kernel_rfl)) ?_
   refine sm ?_
   refine l_store (new := [(vi 0), (vi 0), (vi 0), (vi 0), (vi 0), (vs none 0 0), (vs none 0 0)]) (cs' := #[(vi 0), (vi 0), (vi 0), (vi 0), (vi 0), (vs none 0 0), (vs none 0 0)]) hI .z gn rfl rfl et et rfl size_27 rfl rfl rfl ?_
   clear hI; intro c14 w8 hI
   refine sa ?_
   refine s_nil ?_
   refine k_next (e := [(8, (vp b4 0)), (9, (vi r2.2))]) ⟨rfl, rfl, trivial⟩ ?_
   refine c_ret ?_
   have hI := hI.add (c := Cl.sl (cInt .i64) none 0 ([] : List Int)) SlC.nil
   have hI := hI.add (c := Cl.sl cGVal none 0 ([] : List GVal)) SlC.nil
   obtain rfl := some_inj h
   exact q_ret (vs := [(Value.agg #[(vi 0), (vi 0), (vi 0), (vi 0), (vi 0), (vs none 0 0), (vs none 0 0)]), (vi r2.2)]) Tryd.results13 ⟨⟨_, ev_tmp rfl rfl, load_agg (l := [(vi 0), (vi 0), (vi 0), (vi 0), (vi 0), (vs none 0 0), (vs none 0 0)]) Tryd.underlying27 rfl size_27 (CellsAt.of_blk (hI.blk .z) rfl)⟩, ⟨ev_tmp rfl rfl, trivial⟩⟩ ⟨none, 0, none, 0, rfl, hI.ext0, hI.fin ⟨(.s .z), .z, trivial⟩⟩
  ·replace h := ite_f hb h
   refine c_skip ?_
   refine k_same ?_
   refine sr ?_
   refine sq (y_loadN (l := [(vi t1.Type_.Kind), (vi t1.Type_.Bits), (vi t1.Type_.Frac), (vi t1.Type_.Round), (vi t1.Type_.Over), (vs a1 t1.Dims.length c1), (vs a2 t1.Vals.length c2)]) rfl et Tryd.underlying27 rfl size_27 (hI.kblk (l := [(vi t1.Type_.Kind), (vi t1.Type_.Bits), (vi t1.Type_.Frac), (vi t1.Type_.Round), (vi t1.Type_.Over), (vs a1 t1.Dims.length c1), (vs a2 t1.Vals.length c2)]) (.s (.s (.s .z))) rfl).1) ?_
   refine sm ?_
   refine sq (y_makeFunc (vs := []) (cap := [(vp b2 0), (vp b3 0)]) rfl rfl ⟨et, ⟨et, trivial⟩⟩) ?_
   have hI := hI.add (c := clFn_k3 (Value.func (.func 32) #[] #[(vp b2 0), (vp b3 0)]) (fun y_1 => m_tensor_Slice_1 y_1 axis1 from1)) ⟨rfl, fun D' w' hs hl x_1 A_2 c_3 r k h => CallV.fn (cap := [(vp b2 0), (vp b3 0)]) ok_32 (c_tensor_Slice_1 D' w' hl x_1 axis1 from1 A_2 c_3 b2 b3 ⟨k.1, (Cl.sp _ hs (hI.get (.s (.s .z)))), (Cl.sp _ hs (hI.get (.s .z))), trivial⟩ r h)⟩
   obtain ⟨r3, hx5, h⟩ := bnd_some h
   refine s_call gn rfl (r_callF (vs := [(Value.agg #[(vi t1.Type_.Kind), (vi t1.Type_.Bits), (vi t1.Type_.Frac), (vi t1.Type_.Round), (vi t1.Type_.Over), (vs a1 t1.Dims.length c1), (vs a2 t1.Vals.length c2)]), (vs a5 r2.1.length c13), (Value.func (.func 32) #[] #[(vp b2 0), (vp b3 0)])]) rfl ok_31 ⟨et, ⟨et, ⟨et, trivial⟩⟩⟩) (Calls.mono (c_tensor_gather (Dj F c11) w7 hI.lt t1 r2.1 (fun y_1 => m_tensor_Slice_1 y_1 axis1 from1) a1 c1 a2 c2 a5 c13 (Value.func (.func 32) #[] #[(vp b2 0), (vp b3 0)]) ⟨(hI.get (.s (.s (.s (.s (.s .z)))))), (hI.get (.s (.s (.s (.s (.s (.s .z))))))), (hI.get (.s .z)), (hI.get .z), trivial⟩ r3 hx5) ?_)
   rintro _ w9 ⟨a6, c15, a7, c16, rfl, hx6, hl3⟩
   refine ⟨_, rfl, ?_⟩
   replace hI := (hI.ext hx6).adds hl3
   refine l_store (new := [(vi r3.Type_.Kind), (vi r3.Type_.Bits), (vi r3.Type_.Frac), (vi r3.Type_.Round), (vi r3.Type_.Over), (vs a6 r3.Dims.length c15), (vs a7 r3.Vals.length c16)]) (cs' := #[(vi r3.Type_.Kind), (vi r3.Type_.Bits), (vi r3.Type_.Frac), (vi r3.Type_.Round), (vi r3.Type_.Over), (vs a6 r3.Dims.length c15), (vs a7 r3.Vals.length c16)]) hI .z gn rfl rfl et et rfl size_27 rfl rfl rfl ?_
   clear hI; intro c17 w10 hI
   refine sac ?_
   refine s_nil ?_
   refine k_next (e := [(8, (vp b4 0)), (9, (vi 0))]) ⟨rfl, rfl, trivial⟩ ?_
   refine c_ret ?_
   obtain rfl := some_inj h
   exact q_ret (vs := [(Value.agg #[(vi r3.Type_.Kind), (vi r3.Type_.Bits), (vi r3.Type_.Frac), (vi r3.Type_.Round), (vi r3.Type_.Over), (vs a6 r3.Dims.length c15), (vs a7 r3.Vals.length c16)]), (vi 0)]) Tryd.results13 ⟨⟨_, ev_tmp rfl rfl, load_agg (l := [(vi r3.Type_.Kind), (vi r3.Type_.Bits), (vi r3.Type_.Frac), (vi r3.Type_.Round), (vi r3.Type_.Over), (vs a6 r3.Dims.length c15), (vs a7 r3.Vals.length c16)]) Tryd.underlying27 rfl size_27 (CellsAt.of_blk (hI.blk .z) rfl)⟩, ⟨ev_tmp rfl rfl, trivial⟩⟩ ⟨a6, c15, a7, c16, rfl, hI.ext0, hI.fin ⟨.z, (.s .z), trivial⟩⟩
set_option maxRecDepth 100000 in
set_option maxHeartbeats 4000000 in
theorem c_base_Vals (F : NP) (w0 : World) (hF : ∀ k, F k → k < w0.heap.size) (a1 : List GVal) (b1 : List GVal) (a2 : Option Addr) (c1 : Nat) (a3 : Option Addr) (c2 : Nat) (hc : AllCl [Cl.sl cGVal a2 c1 a1, Cl.sl cGVal a3 c2 b1] F w0) (r : Bool)
  (h : m_base_Vals a1 b1 = some r) :
  Calls Tryd.prog 14 #[(vs a2 a1.length c1), (vs a3 b1.length c2)] w0 fun e w => e = .returned (vb r) ∧ Ext w0 w ∧ AllCl [] F w := by
 refine enterK (l := [(vs a2 a1.length c1), (vs a3 b1.length c2)]) Tryd.func14 rfl Tryd.ntmps14 rfl ?_
 have hI := Bun.start hF hc
 clear hc
 rw [m_base_Vals] at h
 refine sr ?_
 refine sac ?_
 refine nk ?_
 refine c_seq ?_
 refine sr ?_
 refine sm ?_
 refine sq (y_lenl rfl Tryd.underlying25 et) ?_
 refine sm ?_
 refine sq (y_lenl rfl Tryd.underlying25 et) ?_
 refine sq (y_neq rfl et et) ?_
 refine nk ?_
 refine c_cond (b := !decide ((a1.length : Int) = (b1.length : Int))) et (fun hb => ?_) (fun hb => ?_)
 ·replace h := ite_t hb h
  refine sr ?_
  refine sac ?_
  refine nk ?_
  refine c_ret ?_
  obtain rfl := some_inj h
  exact q_ret (vs := [(vb false)]) Tryd.results14 ⟨ev_tmp rfl rfl, trivial⟩ ⟨rfl, hI.ext0, hI.fin trivial⟩
 ·replace h := ite_f hb h
  refine c_skip ?_
  refine k_same ?_
  refine c_seq ?_
  refine sr ?_
  refine sac ?_
  refine nk ?_
  refine c_block ?_
  refine c_loop (α := Nat × Int) (fun x => fun w => ∃ C, Bun noM F w0 C w [] [Cl.sl cGVal a2 c1 a1, Cl.sl cGVal a3 c2 b1] ∧ m_base_Vals_l1 a1 b1 (x.1) (x.2) = some r) (fun x _ => x.1) (fun x => [(0, (vs a2 a1.length c1)), (1, (vs a3 b1.length c2)), (5, (vi (x.2)))]) (fu, 0) ⟨_, hI.arr .n ⟨.z, (.s .z), trivial⟩, h⟩ ⟨rfl, rfl, rfl, trivial⟩ ?_
  clear h hI; rintro ⟨fuel1, i1⟩ w1 ⟨c3, hI, h⟩
  dsimp only at hI h
  rcases fuel1 with _ | fuel1
  ·rw [m_base_Vals_l1] at h; cases h
  rw [m_base_Vals_l1] at h
  refine c_sub (e := [(0, (vs a2 a1.length c1)), (1, (vs a3 b1.length c2)), (5, (vi i1))]) ⟨rfl, rfl, rfl, trivial⟩ ?_
  refine c_seq ?_
  refine sr ?_
  refine sm ?_
  refine sm ?_
  refine sq (y_lenl rfl Tryd.underlying25 et) ?_
  refine sq (y_lss rfl et et) ?_
  refine nk ?_
  refine c_cond (b := decide (i1 < (a1.length : Int))) et (fun hb => ?_) (fun hb => ?_)
  ·replace h := ite_t hb h
   refine c_skip ?_
   refine k_same ?_
   refine c_seq ?_
   refine c_block ?_
   refine c_seq ?_
   refine c_drawX [] false (.c (0, .q) (.c (1, .q) (.c (2, .q) (.c (3, .q) (.c (4, .q) (.c (5, .q) (.c (6, .q) (.c (7, .q) (.c (8, .q) .n))))))))) hI (by kernel_rfl) (by kernel_rfl) ?_
   clear hI; intro w2 hI
   refine a_q rfl gn rfl (fun w' => (y_move rfl et)) ?_
   refine a_q rfl gn rfl (fun w' => (y_move rfl et)) ?_
   obtain ⟨e1, hx1, h⟩ := bnd_some h
   obtain ⟨ad1, cs1, hA1, hr1, hq1⟩ := hI.clat .z hx1
   obtain rfl : cs1 = [(vi e1.N), (vi e1.D)] := hr1
   refine a_q rfl gn rfl (fun w' => (y_indexAddr rfl Tryd.underlying25 size_29 et et (lat_bd hx1) hA1)) ?_
   refine a_read rfl gn rfl (fun w' hw' => (y_loadN (l := [(vi e1.N), (vi e1.D)]) rfl et Tryd.underlying29 rfl size_29 (hq1.at_ (SX.any rfl hw')))) (by kernel_rfl) ?_
   refine a_q rfl gn rfl (fun w' => (y_move rfl et)) ?_
   refine a_q rfl gn rfl (fun w' => (y_move rfl et)) ?_
   obtain ⟨e2, hx2, h⟩ := bnd_some h
   obtain ⟨ad2, cs2, hA2, hr2, hq2⟩ := hI.clat (.s .z) hx2
   obtain rfl : cs2 = [(vi e2.N), (vi e2.D)] := hr2
   refine a_q rfl gn rfl (fun w' => (y_indexAddr rfl Tryd.underlying25 size_29 et et (lat_bd hx2) hA2)) ?_
   refine a_read rfl gn rfl (fun w' hw' => (y_loadN (l := [(vi e2.N), (vi e2.D)]) rfl et Tryd.underlying29 rfl size_29 (hq2.at_ (SX.any rfl hw')))) (by kernel_rfl) ?_
   refine a_q rfl gn rfl (fun w' => (y_bin rfl et et (eqstruct_29n ..) (eqguard_29 ..))) ?_
   refine a_nil ?_
   refine k_same ?_
   refine c_cond (b := !((decide (e1.N = e2.N)) && (decide (e1.D = e2.D)))) et (fun hb => ?_) (fun hb => ?_)
   ·replace h := ite_t hb h
    refine sr ?_
    refine sac ?_
    refine nk ?_
    refine c_ret ?_
    obtain rfl := some_inj h
    exact q_ret (vs := [(vb false)]) Tryd.results14 ⟨ev_tmp rfl rfl, trivial⟩ ⟨rfl, hI.ext0, hI.fin trivial⟩
   ·replace h := ite_f hb h
    refine c_skip ?_
    refine k_same ?_
    refine c_region rfl ?_
    refine sm ?_
    refine sq (y_add rfl et ev_const) ?_
    refine sa ?_
    refine s_nil ?_
    exact k_loop (fuel1, wi64 (i1 + 1)) ⟨rfl, rfl, rfl, trivial⟩ ⟨_, hI.arr .n ⟨.z, (.s .z), trivial⟩, h⟩ (Nat.lt_succ_self _)
  ·replace h := ite_f hb h
   refine c_exit ?_
   refine k_in ?_
   refine k_same ?_
   refine sr ?_
   refine sac ?_
   refine nk ?_
   refine c_ret ?_
   obtain rfl := some_inj h
   exact q_ret (vs := [(vb true)]) Tryd.results14 ⟨ev_tmp rfl rfl, trivial⟩ ⟨rfl, hI.ext0, hI.fin trivial⟩
def tr_law12_TensorScanTotal_1_0 : Tr := (.c (18, .s) (.c (19, .q) .n))
set_option maxRecDepth 100000 in
set_option maxHeartbeats 4000000 in
theorem c_law12_TensorScanTotal (F : NP) (w0 : World) (hF : ∀ k, F k → k < w0.heap.size) (t1 : GTensor) (axis1 : Int) (a1 : Option Addr) (c1 : Nat) (a2 : Option Addr) (c2 : Nat) (hc : AllCl [Cl.sl (cInt .i64) a1 c1 t1.Dims, Cl.sl cGVal a2 c2 t1.Vals, clPow10] F w0) (r : Bool)
  (h : m_law12_TensorScanTotal t1 axis1 = some r) :
  Calls Tryd.prog 4 #[(Value.agg #[(vi t1.Type_.Kind), (vi t1.Type_.Bits), (vi t1.Type_.Frac), (vi t1.Type_.Round), (vi t1.Type_.Over), (vs a1 t1.Dims.length c1), (vs a2 t1.Vals.length c2)]), (vi axis1)] w0 fun e w => e = .returned (vb r) ∧ Ext w0 w ∧ AllCl [] F w := by
 refine enterK (l := [(Value.agg #[(vi t1.Type_.Kind), (vi t1.Type_.Bits), (vi t1.Type_.Frac), (vi t1.Type_.Round), (vi t1.Type_.Over), (vs a1 t1.Dims.length c1), (vs a2 t1.Vals.length c2)]), (vi axis1)]) Tryd.func4 rfl Tryd.ntmps4 rfl ?_
 have hI := Bun.start hF hc
 clear hc
 rw [m_law12_TensorScanTotal] at h
 refine sr ?_
 refine l_box (v := (Value.agg #[(vi t1.Type_.Kind), (vi t1.Type_.Bits), (vi t1.Type_.Frac), (vi t1.Type_.Round), (vi t1.Type_.Over), (vs a1 t1.Dims.length c1), (vs a2 t1.Vals.length c2)])) (cs := #[(vi t1.Type_.Kind), (vi t1.Type_.Bits), (vi t1.Type_.Frac), (vi t1.Type_.Round), (vi t1.Type_.Over), (vs a1 t1.Dims.length c1), (vs a2 t1.Vals.length c2)]) hI gn rfl rfl et rfl ?_
 clear hI; intro b1 c3 w1 hI
 obtain ⟨c4, hI⟩ := hI.relBox .z
 refine sac ?_
 refine nk ?_
 refine c_seq ?_
 refine sr ?_
 refine sq (y_loadN (l := [(vi t1.Type_.Kind), (vi t1.Type_.Bits), (vi t1.Type_.Frac), (vi t1.Type_.Round), (vi t1.Type_.Over), (vs a1 t1.Dims.length c1), (vs a2 t1.Vals.length c2)]) rfl et Tryd.underlying27 rfl size_27 (hI.kblk (l := [(vi t1.Type_.Kind), (vi t1.Type_.Bits), (vi t1.Type_.Frac), (vi t1.Type_.Round), (vi t1.Type_.Over), (vs a1 t1.Dims.length c1), (vs a2 t1.Vals.length c2)]) .z rfl).1) ?_
 obtain ⟨r1, hx1, h⟩ := bnd_some h
 refine s_call gn rfl (r_callF (vs := [(Value.agg #[(vi t1.Type_.Kind), (vi t1.Type_.Bits), (vi t1.Type_.Frac), (vi t1.Type_.Round), (vi t1.Type_.Over), (vs a1 t1.Dims.length c1), (vs a2 t1.Vals.length c2)]), (vi 1000)]) rfl ok_5 ⟨et, ⟨ev_const, trivial⟩⟩) (Calls.mono (c_law12_Small (Dj F c4) w1 hI.lt t1 1000 a1 c1 a2 c2 ⟨(hI.get (.s .z)), (hI.get (.s (.s .z))), trivial⟩ r1 hx1) ?_)
 rintro _ w2 ⟨rfl, hx2, hl1⟩
 refine ⟨_, rfl, ?_⟩
 replace hI := (hI.ext hx2)
 refine sq (y_not rfl et) ?_
 refine sm ?_
 refine s_gval (g_false rfl rfl rfl rfl) rfl (fun hc => (y_loadN (l := [(vi t1.Type_.Kind), (vi t1.Type_.Bits), (vi t1.Type_.Frac), (vi t1.Type_.Round), (vi t1.Type_.Over), (vs a1 t1.Dims.length c1), (vs a2 t1.Vals.length c2)]) rfl et Tryd.underlying27 rfl size_27 (hI.kblk (l := [(vi t1.Type_.Kind), (vi t1.Type_.Bits), (vi t1.Type_.Frac), (vi t1.Type_.Round), (vi t1.Type_.Over), (vs a1 t1.Dims.length c1), (vs a2 t1.Vals.length c2)]) .z rfl).1)) ?_
 obtain ⟨r2, hx3, h⟩ := bnd_some h
 replace hx3 := gd_some hx3
 refine s_gcallU (v := (vi r2)) (g_false rfl rfl rfl rfl) rfl (fun hc => (r_callF (vs := [(Value.agg #[(vi t1.Type_.Kind), (vi t1.Type_.Bits), (vi t1.Type_.Frac), (vi t1.Type_.Round), (vi t1.Type_.Over), (vs a1 t1.Dims.length c1), (vs a2 t1.Vals.length c2)])]) rfl ok_6 ⟨(ev_gv et hc), trivial⟩)) (fun hc => (c_ref12_Validate (Dj F c4) w2 hI.lt t1 a1 c1 a2 c2 ⟨(hI.get (.s .z)), (hI.get (.s (.s .z))), trivial⟩ r2 (hx3 hc)).mono fun _ _ k => ⟨k.1, k.2.1⟩) ?_
 intro w3 hx4; replace hI := hI.ext hx4
 refine s_gval (g_false rfl rfl rfl rfl) rfl (fun hc => (y_neq rfl (ev_gv et hc) ev_const)) ?_
 refine sq (y_or rfl et et) ?_
 refine sm ?_
 refine s_gval (g_false rfl rfl rfl rfl) rfl (fun hc => (y_move rfl et)) ?_
 refine s_gval (g_false rfl rfl rfl rfl) rfl (fun hc => (y_lss rfl (ev_gv et hc) ev_const)) ?_
 refine sq (y_or rfl et et) ?_
 refine sm ?_
 refine s_gval (g_false rfl rfl rfl rfl) rfl (fun hc => (y_move rfl et)) ?_
 refine s_gval (g_false rfl rfl rfl rfl) rfl (fun hc => (y_fieldAddr rfl et Tryd.underlying27 rfl size_24 rfl)) ?_
 refine s_gval (g_false rfl rfl rfl rfl) rfl (fun hc => (y_load1 (v := (vs a1 t1.Dims.length c1)) rfl (ev_gv et hc) Tryd.underlying24 rfl (hI.kblk (l := [(vs a1 t1.Dims.length c1)]) .z rfl).1)) ?_
 refine s_gval (g_false rfl rfl rfl rfl) rfl (fun hc => (y_lenl rfl Tryd.underlying24 (ev_gv et hc))) ?_
 refine s_gval (g_false rfl rfl rfl rfl) rfl (fun hc => (y_geq rfl (ev_gv et hc) (ev_gv et hc))) ?_
 refine sq (y_or rfl et et) ?_
 refine nk ?_
 refine c_cond (b := (((!r1) || (!decide (r2 = 0))) || (decide (axis1 < 0))) || (decide ((t1.Dims.length : Int) ≤ axis1))) et (fun hb => ?_) (fun hb => ?_)
 ·replace h := ite_t hb h
  refine sr ?_
  obtain ⟨r3, hx5, h⟩ := bnd_some h
  refine s_call gn rfl (r_callF (vs := []) rfl ok_7 trivial) (Calls.mono (c_law12_examples (Dj F c4) w3 hI.lt ⟨(hI.get (.s (.s (.s .z)))), trivial⟩ r3 hx5) ?_)
  rintro _ w4 ⟨rfl, hx6, hl3⟩
  refine ⟨_, rfl, ?_⟩
  replace hI := (hI.ext hx6)
  refine sa ?_
  refine nk ?_
  refine c_ret ?_
  obtain rfl := some_inj h
  exact q_ret (vs := [(vb r3)]) Tryd.results4 ⟨ev_tmp rfl rfl, trivial⟩ ⟨rfl, hI.ext0, hI.fin trivial⟩
 ·replace h := ite_f hb h
  refine c_skip ?_
  refine k_same ?_
  refine sr ?_
  refine sq (y_loadN (l := [(vi t1.Type_.Kind), (vi t1.Type_.Bits), (vi t1.Type_.Frac), (vi t1.Type_.Round), (vi t1.Type_.Over), (vs a1 t1.Dims.length c1), (vs a2 t1.Vals.length c2)]) rfl et Tryd.underlying27 rfl size_27 (hI.kblk (l := [(vi t1.Type_.Kind), (vi t1.Type_.Bits), (vi t1.Type_.Frac), (vi t1.Type_.Round), (vi t1.Type_.Over), (vs a1 t1.Dims.length c1), (vs a2 t1.Vals.length c2)]) .z rfl).1) ?_
  refine sm ?_
  obtain ⟨r4, hx7, h⟩ := bnd_some h
  refine s_call gn rfl (r_callF (vs := [(Value.agg #[(vi t1.Type_.Kind), (vi t1.Type_.Bits), (vi t1.Type_.Frac), (vi t1.Type_.Round), (vi t1.Type_.Over), (vs a1 t1.Dims.length c1), (vs a2 t1.Vals.length c2)]), (vi axis1), (vi 5)]) rfl ok_12 ⟨et, ⟨et, ⟨ev_const, trivial⟩⟩⟩) (Calls.mono (c_tensor_Reduce (Dj F c4) w3 hI.lt t1 axis1 5 a1 c1 a2 c2 ⟨(hI.get (.s .z)), (hI.get (.s (.s .z))), trivial⟩ r4 hx7) ?_)
  rintro _ w5 ⟨a3, c5, a4, c6, rfl, hx8, hl4⟩
  refine ⟨_, rfl, ?_⟩
  replace hI := (hI.ext hx8).adds hl4
  refine sm ?_
  refine sq (y_extract rfl et rfl) ?_
  refine sq (y_extract rfl et rfl) ?_
  refine l_alloc (cs := #[(vi 0), (vi 0), (vi 0), (vi 0), (vi 0), (vs none 0 0), (vs none 0 0)]) hI gn rfl rfl zero_27 rfl ?_
  clear hI; intro b2 c7 w6 hI
  refine l_store (new := [(vi r4.1.Type_.Kind), (vi r4.1.Type_.Bits), (vi r4.1.Type_.Frac), (vi r4.1.Type_.Round), (vi r4.1.Type_.Over), (vs a3 r4.1.Dims.length c5), (vs a4 r4.1.Vals.length c6)]) (cs' := #[(vi r4.1.Type_.Kind), (vi r4.1.Type_.Bits), (vi r4.1.Type_.Frac), (vi r4.1.Type_.Round), (vi r4.1.Type_.Over), (vs a3 r4.1.Dims.length c5), (vs a4 r4.1.Vals.length c6)]) hI .z gn rfl rfl et et rfl size_27 rfl rfl rfl ?_
  clear hI; intro c8 w7 hI
  refine sa ?_
  refine s_nil ?_
  refine k_next (e := [(1, (vi axis1)), (2, (vp b1 0)), (5, (vp b2 0)), (6, (vi r4.2))]) ⟨rfl, rfl, rfl, rfl, trivial⟩ ?_
  refine sr ?_
  refine sq (y_loadN (l := [(vi t1.Type_.Kind), (vi t1.Type_.Bits), (vi t1.Type_.Frac), (vi t1.Type_.Round), (vi t1.Type_.Over), (vs a1 t1.Dims.length c1), (vs a2 t1.Vals.length c2)]) rfl et Tryd.underlying27 rfl size_27 (hI.kblk (l := [(vi t1.Type_.Kind), (vi t1.Type_.Bits), (vi t1.Type_.Frac), (vi t1.Type_.Round), (vi t1.Type_.Over), (vs a1 t1.Dims.length c1), (vs a2 t1.Vals.length c2)]) (.s (.s .z)) rfl).1) ?_
  refine sm ?_
  obtain ⟨r5, hx9, h⟩ := bnd_some h
  refine s_call gn rfl (r_callF (vs := [(Value.agg #[(vi t1.Type_.Kind), (vi t1.Type_.Bits), (vi t1.Type_.Frac), (vi t1.Type_.Round), (vi t1.Type_.Over), (vs a1 t1.Dims.length c1), (vs a2 t1.Vals.length c2)]), (vi axis1), (vi 1)]) rfl ok_12 ⟨et, ⟨et, ⟨ev_const, trivial⟩⟩⟩) (Calls.mono (c_tensor_Reduce (Dj F c8) w7 hI.lt t1 axis1 1 a1 c1 a2 c2 ⟨(hI.get (.s (.s (.s .z)))), (hI.get (.s (.s (.s (.s .z))))), trivial⟩ r5 hx9) ?_)
  rintro _ w8 ⟨a5, c9, a6, c10, rfl, hx10, hl5⟩
  refine ⟨_, rfl, ?_⟩
  replace hI := (hI.ext hx10).adds hl5
  refine sm ?_
  refine sq (y_extract rfl et rfl) ?_
  refine sq (y_extract rfl et rfl) ?_
  refine l_alloc (cs := #[(vi 0), (vi 0), (vi 0), (vi 0), (vi 0), (vs none 0 0), (vs none 0 0)]) hI gn rfl rfl zero_27 rfl ?_
  clear hI; intro b3 c11 w9 hI
  refine l_store (new := [(vi r5.1.Type_.Kind), (vi r5.1.Type_.Bits), (vi r5.1.Type_.Frac), (vi r5.1.Type_.Round), (vi r5.1.Type_.Over), (vs a5 r5.1.Dims.length c9), (vs a6 r5.1.Vals.length c10)]) (cs' := #[(vi r5.1.Type_.Kind), (vi r5.1.Type_.Bits), (vi r5.1.Type_.Frac), (vi r5.1.Type_.Round), (vi r5.1.Type_.Over), (vs a5 r5.1.Dims.length c9), (vs a6 r5.1.Vals.length c10)]) hI .z gn rfl rfl et et rfl size_27 rfl rfl rfl ?_
  clear hI; intro c12 w10 hI
  refine sa ?_
  refine nk ?_
  refine c_seq ?_
  refine sr ?_
  refine sm ?_
  refine sm ?_
  refine sq (y_neq rfl et et) ?_
  refine nk ?_
  refine c_cond (b := !decide (r4.2 = r5.2)) et (fun hb => ?_) (fun hb => ?_)
  ·replace h := ite_t hb h
   refine sr ?_
   refine sac ?_
   refine nk ?_
   refine c_ret ?_
   obtain rfl := some_inj h
   exact q_ret (vs := [(vb false)]) Tryd.results4 ⟨ev_tmp rfl rfl, trivial⟩ ⟨rfl, hI.ext0, hI.fin trivial⟩
  ·replace h := ite_f hb h
   refine c_skip ?_
   refine k_same ?_
   refine c_seq ?_
   refine sr ?_
   refine sm ?_
   refine sq (y_neq rfl et ev_const) ?_
   refine nk ?_
   refine c_cond (b := !decide (r4.2 = 0)) et (fun hb => ?_) (fun hb => ?_)
   ·replace h := ite_t hb h
    refine sr ?_
    refine sm ?_
    refine sq (y_eql rfl et ev_const) ?_
    refine sm ?_
    obtain ⟨r6, hx11, h⟩ := bnd_some h
    replace hx11 := gd_some hx11
    refine s_gcallU (v := (vb r6)) (g_true rfl rfl rfl rfl) rfl (fun hc => (r_callF (vs := []) rfl ok_7 trivial)) (fun hc => (c_law12_examples (Dj F c12) w10 hI.lt ⟨(hI.get (.s (.s (.s (.s (.s (.s (.s .z)))))))), trivial⟩ r6 (hx11 hc)).mono fun _ _ k => ⟨k.1, k.2.1⟩) ?_
    intro w11 hx12; replace hI := hI.ext hx12
    refine sq (y_and rfl et et) ?_
    refine sa ?_
    refine nk ?_
    refine c_ret ?_
    obtain rfl := some_inj h
    exact q_ret (vs := [(vb ((decide (r4.2 = 3)) && r6))]) Tryd.results4 ⟨ev_tmp rfl rfl, trivial⟩ ⟨rfl, hI.ext0, hI.fin trivial⟩
   ·replace h := ite_f hb h
    refine c_skip ?_
    refine k_same ?_
    refine c_seq ?_
    obtain ⟨e1, hx13, h⟩ := bnd_some h
    obtain ⟨e2, hx14, h⟩ := bnd_some h
    obtain ⟨r7, hx15, h⟩ := bnd_some h
    refine c_drawX [18] false (.c (0, .q) (.c (1, .q) (.c (2, .q) (.c (3, .q) (.c (4, .q) (.c (5, .q) (.c (6, .q) (.c (7, .q) (.c (8, .q) (.c (9, .q) (.c (10, .q) (.c (11, .q) (.c (12, .q) (.two 13 (.c (14, .q) (.c (15, .q) (.c (16, .q) (.c (17, .s) tr_law12_TensorScanTotal_1_0)))) 17 (.c (13, .s) (.c (14, .q) (.c (15, .q) (.c (16, .q) tr_law12_TensorScanTotal_1_0)))))))))))))))))) hI (by kernel_rfl) (by kernel_rfl) ?_
    clear hI; intro w16 hI
    refine a_join (α := (Option Addr) × Nat × (Option Addr) × Nat × Nat × NP) (T := tr_law12_TensorScanTotal_1_0) (fun x => [(1, (vi axis1)), (2, (vp b1 0)), (5, (vp b2 0)), (6, (vi r4.2)), (7, (vp b3 0)), (8, (vi r5.2)), (9, (Value.pointer (some ⟨(x.2.2.2.2.1), 0, none⟩))), (37, (Value.tuple #[(Value.agg #[(vi r5.1.Type_.Kind), (vi r5.1.Type_.Bits), (vi r5.1.Type_.Frac), (vi r5.1.Type_.Round), (vi r5.1.Type_.Over), (vs a5 r5.1.Dims.length c9), (vs a6 r5.1.Vals.length c10)]), (vi r5.2)])), (38, (Value.agg #[(vi t1.Type_.Kind), (vi t1.Type_.Bits), (vi t1.Type_.Frac), (vi t1.Type_.Round), (vi t1.Type_.Over), (vs a1 t1.Dims.length c1), (vs a2 t1.Vals.length c2)])), (39, (vi axis1)), (40, (Value.tuple #[(Value.agg #[(vi r5.1.Type_.Kind), (vi r5.1.Type_.Bits), (vi r5.1.Type_.Frac), (vi r5.1.Type_.Round), (vi r5.1.Type_.Over), (vs a5 r5.1.Dims.length c9), (vs a6 r5.1.Vals.length c10)]), (vi r5.2)])), (41, (Value.agg #[(vi r5.1.Type_.Kind), (vi r5.1.Type_.Bits), (vi r5.1.Type_.Frac), (vi r5.1.Type_.Round), (vi r5.1.Type_.Over), (vs a5 r5.1.Dims.length c9), (vs a6 r5.1.Vals.length c10)])), (42, (vi r5.2)), (43, (vi r4.2)), (44, (vi r5.2)), (45, (vb (!decide (r4.2 = r5.2)))), (46, (vi r4.2)), (47, (vb (!decide (r4.2 = 0)))), (53, (Value.tuple #[(Value.agg #[(vi r7.1.Type_.Kind), (vi r7.1.Type_.Bits), (vi r7.1.Type_.Frac), (vi r7.1.Type_.Round), (vi r7.1.Type_.Over), (vs (x.1) r7.1.Dims.length (x.2.1)), (vs (x.2.2.1) r7.1.Vals.length (x.2.2.2.1))]), (vi r7.2)])), (54, (Value.agg #[(vi r4.1.Type_.Kind), (vi r4.1.Type_.Bits), (vi r4.1.Type_.Frac), (vi r4.1.Type_.Round), (vi r4.1.Type_.Over), (vs a3 r4.1.Dims.length c5), (vs a4 r4.1.Vals.length c6)])), (55, (vi axis1)), (56, (vp b1 5)), (57, (vs a1 t1.Dims.length c1)), (58, (vi axis1)), (60, (vi e1)), (61, (vi (wi64 (e1 - 1)))), (62, (vp b1 5)), (63, (vs a1 t1.Dims.length c1)), (64, (vi axis1)), (66, (vi e2)), (67, (Value.tuple #[(Value.agg #[(vi r7.1.Type_.Kind), (vi r7.1.Type_.Bits), (vi r7.1.Type_.Frac), (vi r7.1.Type_.Round), (vi r7.1.Type_.Over), (vs (x.1) r7.1.Dims.length (x.2.1)), (vs (x.2.2.1) r7.1.Vals.length (x.2.2.2.1))]), (vi r7.2)])), (68, (Value.agg #[(vi r7.1.Type_.Kind), (vi r7.1.Type_.Bits), (vi r7.1.Type_.Frac), (vi r7.1.Type_.Round), (vi r7.1.Type_.Over), (vs (x.1) r7.1.Dims.length (x.2.1)), (vs (x.2.2.1) r7.1.Vals.length (x.2.2.2.1))])), (69, (vi r7.2))]) (fun x w => Bun noM F w0 (x.2.2.2.2.2) w [MO.box (x.2.2.2.2.1) 27 #[(vi 0), (vi 0), (vi 0), (vi 0), (vi 0), (vs none 0 0), (vs none 0 0)], MO.box b3 27 #[(vi r5.1.Type_.Kind), (vi r5.1.Type_.Bits), (vi r5.1.Type_.Frac), (vi r5.1.Type_.Round), (vi r5.1.Type_.Over), (vs a5 r5.1.Dims.length c9), (vs a6 r5.1.Vals.length c10)], MO.box b2 27 #[(vi r4.1.Type_.Kind), (vi r4.1.Type_.Bits), (vi r4.1.Type_.Frac), (vi r4.1.Type_.Round), (vi r4.1.Type_.Over), (vs a3 r4.1.Dims.length c5), (vs a4 r4.1.Vals.length c6)]] [Cl.sl (cInt .i64) (x.1) (x.2.1) r7.1.Dims, Cl.sl cGVal (x.2.2.1) (x.2.2.2.1) r7.1.Vals, Cl.sl (cInt .i64) a5 c9 r5.1.Dims, Cl.sl cGVal a6 c10 r5.1.Vals, Cl.sl (cInt .i64) a3 c5 r4.1.Dims, Cl.sl cGVal a4 c6 r4.1.Vals, Cl.blk b1 27 #[(vi t1.Type_.Kind), (vi t1.Type_.Bits), (vi t1.Type_.Frac), (vi t1.Type_.Round), (vi t1.Type_.Over), (vs a1 t1.Dims.length c1), (vs a2 t1.Vals.length c2)], Cl.sl (cInt .i64) a1 c1 t1.Dims, Cl.sl cGVal a2 c2 t1.Vals, clPow10]) (fun x w => SN [18] (DM false F (x.2.2.2.2.2)) w) ?_ ?_
    ·clear hI; rintro ⟨a7, c13, a8, c14, b4, c17⟩ w15 hI
     try dsimp only at hI ⊢
     unfold tr_law12_TensorScanTotal_1_0
     refine a_turn (F := F) (C := c17) rfl rfl ?_
     refine la_store (new := [(vi r7.1.Type_.Kind), (vi r7.1.Type_.Bits), (vi r7.1.Type_.Frac), (vi r7.1.Type_.Round), (vi r7.1.Type_.Over), (vs a7 r7.1.Dims.length c13), (vs a8 r7.1.Vals.length c14)]) (cs' := #[(vi r7.1.Type_.Kind), (vi r7.1.Type_.Bits), (vi r7.1.Type_.Frac), (vi r7.1.Type_.Round), (vi r7.1.Type_.Over), (vs a7 r7.1.Dims.length c13), (vs a8 r7.1.Vals.length c14)]) hI .z rfl gn rfl rfl et et rfl size_27 rfl rfl rfl ?_
     clear hI; intro c16 w14 hI
     refine a_q rfl gn rfl (fun w' => (y_assign rfl et)) ?_
     refine a_nil ?_
     refine k_next (e := [(7, (vp b3 0)), (9, (vp b4 0)), (10, (vi r7.2))]) ⟨rfl, rfl, rfl, trivial⟩ ?_
     refine sr ?_
     refine sm ?_
     refine sq (y_eql rfl et ev_const) ?_
     refine sm ?_
     refine s_gval (g_true rfl rfl rfl rfl) rfl (fun hc => (y_fieldAddr rfl et Tryd.underlying27 rfl size_25 rfl)) ?_
     refine s_gval (g_true rfl rfl rfl rfl) rfl (fun hc => (y_load1 (v := (vs a8 r7.1.Vals.length c14)) rfl (ev_gv et hc) Tryd.underlying25 rfl (CellsAt.of_blk (hI.blk .z) rfl))) ?_
     refine s_gval (g_true rfl rfl rfl rfl) rfl (fun hc => (y_fieldAddr rfl et Tryd.underlying27 rfl size_25 rfl)) ?_
     refine s_gval (g_true rfl rfl rfl rfl) rfl (fun hc => (y_load1 (v := (vs a6 r5.1.Vals.length c10)) rfl (ev_gv et hc) Tryd.underlying25 rfl (CellsAt.of_blk (hI.blk (.s .z)) rfl))) ?_
     obtain ⟨r8, hx17, h⟩ := bnd_some h
     replace hx17 := gd_some hx17
     refine s_gcallU (v := (vb r8)) (g_true rfl rfl rfl rfl) rfl (fun hc => (r_callF (vs := [(vs a8 r7.1.Vals.length c14), (vs a6 r5.1.Vals.length c10)]) rfl ok_14 ⟨(ev_gv et hc), ⟨(ev_gv et hc), trivial⟩⟩)) (fun hc => (c_base_Vals (Dj F c16) w14 hI.lt r7.1.Vals r5.1.Vals a8 c14 a6 c10 ⟨(hI.get (.s .z)), (hI.get (.s (.s (.s .z)))), trivial⟩ r8 (hx17 hc)).mono fun _ _ k => ⟨k.1, k.2.1⟩) ?_
     intro w17 hx18; replace hI := hI.ext hx18
     refine sq (y_and rfl et et) ?_
     refine sm ?_
     obtain ⟨r9, hx19, h⟩ := bnd_some h
     replace hx19 := gd_some hx19
     refine s_gcallU (v := (vb r9)) (g_true rfl rfl rfl rfl) rfl (fun hc => (r_callF (vs := []) rfl ok_7 trivial)) (fun hc => (c_law12_examples (Dj F c16) w17 hI.lt ⟨(hI.get (.s (.s (.s (.s (.s (.s (.s (.s (.s .z)))))))))), trivial⟩ r9 (hx19 hc)).mono fun _ _ k => ⟨k.1, k.2.1⟩) ?_
     intro w18 hx20; replace hI := hI.ext hx20
     refine sq (y_and rfl et et) ?_
     refine sa ?_
     refine nk ?_
     refine c_ret ?_
     obtain rfl := some_inj h
     exact q_ret (vs := [(vb (((decide (r7.2 = 0)) && r8) && r9))]) Tryd.results4 ⟨ev_tmp rfl rfl, trivial⟩ ⟨rfl, hI.ext0, hI.fin trivial⟩
    intro hk_tr_law12_TensorScanTotal_1_0
    refine a_read rfl gn rfl (fun w' hw' => (y_loadN (l := [(vi r4.1.Type_.Kind), (vi r4.1.Type_.Bits), (vi r4.1.Type_.Frac), (vi r4.1.Type_.Round), (vi r4.1.Type_.Over), (vs a3 r4.1.Dims.length c5), (vs a4 r4.1.Vals.length c6)]) rfl et Tryd.underlying27 rfl size_27 ((CA.blk (hI.blk (.s .z)) rfl).at_ (SX.any rfl hw')))) (by kernel_rfl) ?_
    refine a_q rfl gn rfl (fun w' => (y_move rfl et)) ?_
    refine a_q rfl gn rfl (fun w' => (y_fieldAddr rfl et Tryd.underlying27 rfl size_24 rfl)) ?_
    refine a_read rfl gn rfl (fun w' hw' => (y_load1 (v := (vs a1 t1.Dims.length c1)) rfl et Tryd.underlying24 rfl ((hI.kblk (l := [(vs a1 t1.Dims.length c1)]) (.s (.s (.s (.s .z)))) rfl).at_ (SX.any rfl hw')))) (by kernel_rfl) ?_
    refine a_q rfl gn rfl (fun w' => (y_move rfl et)) ?_
    obtain ⟨ad1, cs1, hA1, hr1, hq1⟩ := hI.clat (.s (.s (.s (.s (.s .z))))) hx13
    obtain rfl : cs1 = [(vi e1)] := hr1
    refine a_q rfl gn rfl (fun w' => (y_indexAddr rfl Tryd.underlying24 size_3 et et (lat_bd hx13) hA1)) ?_
    refine a_read rfl gn rfl (fun w' hw' => (y_load1 (v := (vi e1)) rfl et Tryd.underlying3 rfl (hq1.at_ (SX.any rfl hw')))) (by kernel_rfl) ?_
    refine a_q rfl gn rfl (fun w' => (y_sub rfl et ev_const)) ?_
    refine a_q rfl gn rfl (fun w' => (y_fieldAddr rfl et Tryd.underlying27 rfl size_24 rfl)) ?_
    refine a_read rfl gn rfl (fun w' hw' => (y_load1 (v := (vs a1 t1.Dims.length c1)) rfl et Tryd.underlying24 rfl ((hI.kblk (l := [(vs a1 t1.Dims.length c1)]) (.s (.s (.s (.s .z)))) rfl).at_ (SX.any rfl hw')))) (by kernel_rfl) ?_
    refine a_q rfl gn rfl (fun w' => (y_move rfl et)) ?_
    obtain ⟨ad2, cs2, hA2, hr2, hq2⟩ := hI.clat (.s (.s (.s (.s (.s .z))))) hx14
    obtain rfl : cs2 = [(vi e2)] := hr2
    refine a_q rfl gn rfl (fun w' => (y_indexAddr rfl Tryd.underlying24 size_3 et et (lat_bd hx14) hA2)) ?_
    refine a_read rfl gn rfl (fun w' hw' => (y_load1 (v := (vi e2)) rfl et Tryd.underlying3 rfl (hq2.at_ (SX.any rfl hw')))) (by kernel_rfl) ?_
    refine a_two ?_ ?_
    ·skip
     refine la_call rfl gn rfl (r_callF (vs := [(Value.agg #[(vi r4.1.Type_.Kind), (vi r4.1.Type_.Bits), (vi r4.1.Type_.Frac), (vi r4.1.Type_.Round), (vi r4.1.Type_.Over), (vs a3 r4.1.Dims.length c5), (vs a4 r4.1.Vals.length c6)]), (vi axis1), (vi (wi64 (e1 - 1))), (vi e2)]) rfl ok_13 ⟨et, ⟨et, ⟨et, ⟨et, trivial⟩⟩⟩⟩) (Calls.mono (c_tensor_Slice (Dj F c12) w16 hI.lt r4.1 axis1 (wi64 (e1 - 1)) e2 a3 c5 a4 c6 ⟨(hI.get (.s (.s .z))), (hI.get (.s (.s (.s .z)))), trivial⟩ r7 hx15) ?_)
     rintro _ w12 ⟨a7, c13, a8, c14, rfl, hx16, hl7⟩
     refine ⟨_, rfl, hx16, ?_⟩
     replace hI := (hI.ext hx16).adds hl7
     refine a_q rfl gn rfl (fun w' => (y_move rfl et)) ?_
     refine a_q rfl gn rfl (fun w' => (y_extract rfl et rfl)) ?_
     refine a_q rfl gn rfl (fun w' => (y_extract rfl et rfl)) ?_
     refine la_alloc (cs := #[(vi 0), (vi 0), (vi 0), (vi 0), (vi 0), (vs none 0 0), (vs none 0 0)]) hI rfl gn rfl rfl zero_27 rfl ?_
     clear hI; intro b4 c15 w13 hI
     exact a_sub (hk_tr_law12_TensorScanTotal_1_0 (a7, c13, a8, c14, b4, c15) _ (hI.arr (.c .z (.c .z (.c .z .n))) ⟨.z, (.s .z), (.s (.s .z)), (.s (.s (.s .z))), (.s (.s (.s (.s .z)))), (.s (.s (.s (.s (.s .z))))), (.s (.s (.s (.s (.s (.s .z)))))), (.s (.s (.s (.s (.s (.s (.s .z))))))), (.s (.s (.s (.s (.s (.s (.s (.s .z)))))))), (.s (.s (.s (.s (.s (.s (.s (.s (.s .z))))))))), trivial⟩)) ⟨rfl, rfl, rfl, rfl, rfl, rfl, rfl, rfl, rfl, rfl, rfl, rfl, rfl, rfl, rfl, rfl, rfl, rfl, rfl, rfl, rfl, rfl, rfl, rfl, rfl, rfl, rfl, rfl, rfl, rfl, rfl, rfl, rfl, trivial⟩
    ·skip
     refine la_alloc (cs := #[(vi 0), (vi 0), (vi 0), (vi 0), (vi 0), (vs none 0 0), (vs none 0 0)]) hI rfl gn rfl rfl zero_27 rfl ?_
     clear hI; intro b4 c15 w13 hI
     refine la_call rfl gn rfl (r_callF (vs := [(Value.agg #[(vi r4.1.Type_.Kind), (vi r4.1.Type_.Bits), (vi r4.1.Type_.Frac), (vi r4.1.Type_.Round), (vi r4.1.Type_.Over), (vs a3 r4.1.Dims.length c5), (vs a4 r4.1.Vals.length c6)]), (vi axis1), (vi (wi64 (e1 - 1))), (vi e2)]) rfl ok_13 ⟨et, ⟨et, ⟨et, ⟨et, trivial⟩⟩⟩⟩) (Calls.mono (c_tensor_Slice (Dj F c15) w13 hI.lt r4.1 axis1 (wi64 (e1 - 1)) e2 a3 c5 a4 c6 ⟨(hI.get (.s (.s .z))), (hI.get (.s (.s (.s .z)))), trivial⟩ r7 hx15) ?_)
     rintro _ w12 ⟨a7, c13, a8, c14, rfl, hx16, hl7⟩
     refine ⟨_, rfl, hx16, ?_⟩
     replace hI := (hI.ext hx16).adds hl7
     refine a_q rfl gn rfl (fun w' => (y_move rfl et)) ?_
     refine a_q rfl gn rfl (fun w' => (y_extract rfl et rfl)) ?_
     refine a_q rfl gn rfl (fun w' => (y_extract rfl et rfl)) ?_
     exact a_sub (hk_tr_law12_TensorScanTotal_1_0 (a7, c13, a8, c14, b4, c15) _ (hI.arr (.c .z (.c .z (.c .z .n))) ⟨.z, (.s .z), (.s (.s .z)), (.s (.s (.s .z))), (.s (.s (.s (.s .z)))), (.s (.s (.s (.s (.s .z))))), (.s (.s (.s (.s (.s (.s .z)))))), (.s (.s (.s (.s (.s (.s (.s .z))))))), (.s (.s (.s (.s (.s (.s (.s (.s .z)))))))), (.s (.s (.s (.s (.s (.s (.s (.s (.s .z))))))))), trivial⟩)) ⟨rfl, rfl, rfl, rfl, rfl, rfl, rfl, rfl, rfl, rfl, rfl, rfl, rfl, rfl, rfl, rfl, rfl, rfl, rfl, rfl, rfl, rfl, rfl, rfl, rfl, rfl, rfl, rfl, rfl, rfl, rfl, rfl, rfl, trivial⟩
end Go.Proofs.YtlakfanockhngaaDoor
