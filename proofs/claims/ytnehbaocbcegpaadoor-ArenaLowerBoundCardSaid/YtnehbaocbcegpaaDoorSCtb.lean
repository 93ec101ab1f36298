import Derived.Test.YtnehbaocbcegpaaDoorSCta
namespace Go.Proofs.YtnehbaocbcegpaaDoor
open Go Go.RowKit Go.Vc
set_option linter.unusedVariables false
set_option linter.unusedSimpArgs false
set_option maxRecDepth 100000 in
set_option maxHeartbeats 4000000 in
theorem c_arena_Check (F : NP) (w0 : World) (hF : ∀ k, F k → k < w0.heap.size) (l1 : List GLifetime) (slots1 : List GSlot) (size1 : Int) (a1 : Option Addr) (c1 : Nat) (a2 : Option Addr) (c2 : Nat) (hc : AllCl [Cl.sl cGLifetime a1 c1 l1, Cl.sl cGSlot a2 c2 slots1, clSpace] F w0) (r : Int × Int)
  (h : m_arena_Check l1 slots1 size1 = some r) :
  Calls Tryd.prog 15 #[(vs a1 l1.length c1), (vs a2 slots1.length c2), (vi size1)] w0 fun e w => e = .returned (Value.tuple #[(vi r.1), (vi r.2)]) ∧ Ext w0 w ∧ AllCl [] F w := by
 refine enterK (l := [(vs a1 l1.length c1), (vs a2 slots1.length c2), (vi size1)]) Tryd.func15 rfl Tryd.ntmps15 rfl ?_
 have hI := Bun.start hF hc
 clear hc
 rw [m_arena_Check] at h
 refine sr ?_
 refine sac ?_
 refine sac ?_
 refine nk ?_
 refine c_seq ?_
 refine sr ?_
 refine sm ?_
 obtain ⟨r1, hx1, h⟩ := bnd_some h
 refine s_call gn rfl (r_callF (vs := [(vs a1 l1.length c1)]) rfl ok_19 ⟨et, trivial⟩) (Calls.mono (c_liveness_Validate (Dj F noM) w0 hI.lt l1 a1 c1 ⟨(hI.get .z), (hI.get (.s (.s .z))), trivial⟩ r1 hx1) ?_)
 rintro _ w1 ⟨rfl, hx2, hl1⟩
 refine ⟨_, rfl, ?_⟩
 replace hI := (hI.ext hx2)
 refine sa ?_
 refine nk ?_
 refine sr ?_
 refine sm ?_
 refine sq (y_neq rfl et ev_const) ?_
 refine nk ?_
 refine c_cond (b := !decide (r1 = 0)) et (fun hb => ?_) (fun hb => ?_)
 ·replace h := ite_t hb h
  refine sr ?_
  refine sm ?_
  refine sac ?_
  refine sa ?_
  refine nk ?_
  refine c_ret ?_
  obtain rfl := some_inj h
  exact q_ret (vs := [(vi 0), (vi r1)]) Tryd.results15 ⟨ev_tmp rfl rfl, ⟨ev_tmp rfl rfl, trivial⟩⟩ ⟨rfl, hI.ext0, hI.fin trivial⟩
 ·replace h := ite_f hb h
  refine c_skip ?_
  refine k_same ?_
  refine c_seq ?_
  refine sr ?_
  refine sm ?_
  refine sq (y_lenl rfl Tryd.underlying22 et) ?_
  refine sm ?_
  refine sq (y_lenl rfl Tryd.underlying25 et) ?_
  refine sq (y_neq rfl et et) ?_
  refine nk ?_
  refine c_cond (b := !decide ((l1.length : Int) = (slots1.length : Int))) et (fun hb => ?_) (fun hb => ?_)
  ·replace h := ite_t hb h
   refine sr ?_
   refine sac ?_
   refine sac ?_
   refine nk ?_
   refine c_ret ?_
   obtain rfl := some_inj h
   exact q_ret (vs := [(vi 0), (vi 15)]) Tryd.results15 ⟨ev_tmp rfl rfl, ⟨ev_tmp rfl rfl, trivial⟩⟩ ⟨rfl, hI.ext0, hI.fin trivial⟩
  ·replace h := ite_f hb h
   refine c_skip ?_
   refine k_same ?_
   refine c_seq ?_
   refine sr ?_
   refine sm ?_
   refine sq (y_lenl rfl Tryd.underlying25 et) ?_
   refine sq (y_move rfl ev_const) ?_
   refine nk ?_
   refine c_block ?_
   refine c_loop (α := Nat × Int) (fun x => fun w => ∃ C, Bun noM F w0 C w [] [Cl.sl cGLifetime a1 c1 l1, Cl.sl cGSlot a2 c2 slots1, clSpace] ∧ m_arena_Check_l1 slots1 l1 size1 (x.1) (x.2) = some r) (fun x _ => x.1) (fun x => [(0, (vs a1 l1.length c1)), (1, (vs a2 slots1.length c2)), (2, (vi size1)), (22, (vs a2 slots1.length c2)), (23, (vi (slots1.length : Int))), (24, (vi (x.2)))]) (fu, 0) ⟨_, hI.arr .n ⟨.z, (.s .z), (.s (.s .z)), trivial⟩, h⟩ ⟨rfl, rfl, rfl, rfl, rfl, rfl, trivial⟩ ?_
   clear h hI; rintro ⟨fuel1, i1⟩ w2 ⟨c3, hI, h⟩
   dsimp only at hI h
   rcases fuel1 with _ | fuel1
   ·rw [m_arena_Check_l1] at h; cases h
   rw [m_arena_Check_l1] at h
   refine c_sub (e := [(0, (vs a1 l1.length c1)), (1, (vs a2 slots1.length c2)), (2, (vi size1)), (22, (vs a2 slots1.length c2)), (23, (vi (slots1.length : Int))), (24, (vi i1))]) ⟨rfl, rfl, rfl, rfl, rfl, rfl, trivial⟩ ?_
   refine sr ?_
   refine sq (y_lss rfl et et) ?_
   refine nk ?_
   refine c_seq ?_
   refine c_cond (b := decide (i1 < (slots1.length : Int))) et (fun hb => ?_) (fun hb => ?_)
   ·replace h := ite_t hb h
    refine c_skip ?_
    refine k_same ?_
    refine c_join (α := Unit) (fun _ => ⟨91, []⟩) (fun _ => [(0, (vs a1 l1.length c1)), (1, (vs a2 slots1.length c2)), (2, (vi size1)), (22, (vs a2 slots1.length c2)), (23, (vi (slots1.length : Int))), (24, (vi i1))]) (fun _ => fun w => ∃ C, Bun noM F w0 C w [] [Cl.sl cGLifetime a1 c1 l1, Cl.sl cGSlot a2 c2 slots1, clSpace] ∧ m_arena_Check_j1 (m_arena_Check_l1 slots1 l1 size1 fuel1) i1 = some r) ?_ ?_
    ·clear h hI; rintro _ w3 ⟨c4, hI, h⟩
     try dsimp only at hI h
     rw [m_arena_Check_j1] at h
     refine c_sub (e := [(0, (vs a1 l1.length c1)), (1, (vs a2 slots1.length c2)), (2, (vi size1)), (22, (vs a2 slots1.length c2)), (23, (vi (slots1.length : Int))), (24, (vi i1))]) ⟨rfl, rfl, rfl, rfl, rfl, rfl, trivial⟩ ?_
     refine c_region rfl ?_
     refine sq (y_add rfl et ev_const) ?_
     refine sm ?_
     refine s_nil ?_
     exact k_loop (fuel1, wi64 (i1 + 1)) ⟨rfl, rfl, rfl, rfl, rfl, rfl, trivial⟩ ⟨_, hI.arr .n ⟨.z, (.s .z), (.s (.s .z)), trivial⟩, h⟩ (Nat.lt_succ_self _)
    ·skip
     refine c_block ?_
     refine sr ?_
     refine sm ?_
     obtain ⟨e1, hx3, h⟩ := bnd_some h
     obtain ⟨ad1, cs1, hA1, hr1, hq1⟩ := hI.clat (.s .z) hx3
     obtain rfl : cs1 = [(str e1.Name), (vi e1.At), (vi e1.Len)] := hr1
     refine sq (y_indexAddr rfl Tryd.underlying25 size_39 et et (lat_bd hx3) hA1) ?_
     refine sq (y_loadN (l := [(str e1.Name), (vi e1.At), (vi e1.Len)]) rfl et Tryd.underlying39 rfl size_39 hq1.1) ?_
     refine l_alloc (cs := #[(str ([] : List UInt8)), (vi 0), (vi 0)]) hI gn rfl rfl zero_39 rfl ?_
     clear hI; intro b1 c5 w4 hI
     refine sa ?_
     refine l_store (new := [(str e1.Name), (vi e1.At), (vi e1.Len)]) (cs' := #[(str e1.Name), (vi e1.At), (vi e1.Len)]) hI .z gn rfl rfl et et rfl size_39 rfl rfl rfl ?_
     clear hI; intro c6 w5 hI
     refine nk ?_
     refine c_seq ?_
     refine c_seq ?_
     refine c_drawX [] false (.c (0, .q) (.c (1, .q) (.c (2, .q) (.c (3, .q) (.c (4, .q) (.c (5, .q) (.c (6, .q) (.c (7, .q) (.c (8, .q) (.c (9, .q) (.c (10, .q) (.c (11, .q) (.c (12, .q) (.c (13, .q) (.c (14, .q) (.c (15, .q) (.c (16, .q) (.c (17, .q) .n)))))))))))))))))) hI (by kernel_rfl) (by kernel_rfl) ?_
     clear hI; intro w6 hI
     refine a_q rfl gn rfl (fun w' => (y_fieldAddr rfl et Tryd.underlying39 rfl size_9 rfl)) ?_
     refine a_read rfl gn rfl (fun w' hw' => (y_load1 (v := (str e1.Name)) rfl et Tryd.underlying9 rfl ((CA.blk (hI.blk .z) rfl).at_ (SX.any rfl hw')))) (by kernel_rfl) ?_
     refine a_q rfl gn rfl (fun w' => (y_move rfl et)) ?_
     refine a_q rfl gn rfl (fun w' => (y_move rfl et)) ?_
     obtain ⟨e2, hx4, h⟩ := bnd_some h
     obtain ⟨ad2, cs2, hA2, hr2, hq2⟩ := hI.clat .z hx4
     obtain rfl : cs2 = [(str e2.Name), (vi e2.From), (vi e2.To), (vi e2.Size)] := hr2
     refine a_q rfl gn rfl (fun w' => (y_indexAddr rfl Tryd.underlying22 size_37 et et (lat_bd hx4) hA2)) ?_
     refine a_q rfl gn rfl (fun w' => (y_fieldAddr rfl et Tryd.underlying37 rfl size_9 rfl)) ?_
     refine a_read rfl gn rfl (fun w' hw' => (y_load1 (v := (str e2.Name)) rfl et Tryd.underlying9 rfl ((CA.part hq2 rfl).at_ (SX.any rfl hw')))) (by kernel_rfl) ?_
     refine a_q rfl gn rfl (fun w' => (y_nes rfl et et)) ?_
     refine a_q rfl gn rfl (fun w' => (y_move rfl et)) ?_
     refine a_gval rfl (g_false rfl rfl rfl rfl) rfl (fun hc => fun w' => (y_fieldAddr rfl et Tryd.underlying39 rfl size_3 rfl)) ?_
     refine a_gread rfl (g_false rfl rfl rfl rfl) rfl (fun hc => fun w' hw' => (y_load1 (v := (vi e1.Len)) rfl (ev_gv et hc) Tryd.underlying3 rfl ((CA.blk (hI.blk .z) rfl).at_ (SX.any rfl hw')))) (by kernel_rfl) ?_
     refine a_gval rfl (g_false rfl rfl rfl rfl) rfl (fun hc => fun w' => (y_move rfl et)) ?_
     refine a_gval rfl (g_false rfl rfl rfl rfl) rfl (fun hc => fun w' => (y_move rfl et)) ?_
     obtain ⟨e3, hx5, h⟩ := bnd_some h
     replace hx5 := gd_some hx5
     obtain ⟨ad3, cs3, hq3⟩ := hI.gclat .z hx5
     have hq4 : (!(!decide (e1.Name = e2.Name))) = true → CA (Dj F c6) w6 (ad3.add (Int.toNat i1 * 4)) [(str e3.Name), (vi e3.From), (vi e3.To), (vi e3.Size)] := fun hc => by have k := hq3 hc; have e : cs3 = _ := k.2.1; rw [← e]; exact k.2.2
     refine a_gval rfl (g_false rfl rfl rfl rfl) rfl (fun hc => fun w' => (y_indexAddr rfl Tryd.underlying22 size_37 (ev_gv et hc) (ev_gv et hc) (lat_bd (hx5 hc)) (hq3 hc).1)) ?_
     refine a_gval rfl (g_false rfl rfl rfl rfl) rfl (fun hc => fun w' => (y_fieldAddr rfl (ev_gv et hc) Tryd.underlying37 rfl size_3 rfl)) ?_
     refine a_gread rfl (g_false rfl rfl rfl rfl) rfl (fun hc => fun w' hw' => (y_load1 (v := (vi e3.Size)) rfl (ev_gv et hc) Tryd.underlying3 rfl ((CA.part (hq4 hc) rfl).at_ (SX.any rfl hw')))) (by kernel_rfl) ?_
     refine a_gval rfl (g_false rfl rfl rfl rfl) rfl (fun hc => fun w' => (y_neq rfl (ev_gv et hc) (ev_gv et hc))) ?_
     refine a_q rfl gn rfl (fun w' => (y_or rfl et et)) ?_
     refine a_nil ?_
     refine k_same ?_
     refine c_cond (b := (!decide (e1.Name = e2.Name)) || (!decide (e1.Len = e3.Size))) et (fun hb => ?_) (fun hb => ?_)
     ·replace h := ite_t hb h
      refine sr ?_
      refine sm ?_
      refine sa ?_
      refine sac ?_
      refine s_nil ?_
      refine k_next (e := [(6, (vi i1)), (7, (vi 1))]) ⟨rfl, rfl, trivial⟩ ?_
      refine c_ret ?_
      obtain rfl := some_inj h
      exact q_ret (vs := [(vi i1), (vi 1)]) Tryd.results15 ⟨ev_tmp rfl rfl, ⟨ev_tmp rfl rfl, trivial⟩⟩ ⟨rfl, hI.ext0, hI.fin trivial⟩
     ·replace h := ite_f hb h
      refine c_skip ?_
      refine k_same ?_
      refine c_seq ?_
      refine sr ?_
      refine sq (y_fieldAddr rfl et Tryd.underlying39 rfl size_3 rfl) ?_
      refine sq (y_load1 (v := (vi e1.At)) rfl et Tryd.underlying3 rfl (CellsAt.of_blk (hI.blk .z) rfl)) ?_
      refine sq (y_lss rfl et ev_const) ?_
      refine sm ?_
      refine s_gval (g_false rfl rfl rfl rfl) rfl (fun hc => (y_fieldAddr rfl et Tryd.underlying39 rfl size_3 rfl)) ?_
      refine s_gval (g_false rfl rfl rfl rfl) rfl (fun hc => (y_load1 (v := (vi e1.At)) rfl (ev_gv et hc) Tryd.underlying3 rfl (CellsAt.of_blk (hI.blk .z) rfl))) ?_
      refine s_gval (g_false rfl rfl rfl rfl) rfl (fun hc => (y_move rfl et)) ?_
      refine s_gval (g_false rfl rfl rfl rfl) rfl (fun hc => (y_fieldAddr rfl et Tryd.underlying39 rfl size_3 rfl)) ?_
      refine s_gval (g_false rfl rfl rfl rfl) rfl (fun hc => (y_load1 (v := (vi e1.Len)) rfl (ev_gv et hc) Tryd.underlying3 rfl (CellsAt.of_blk (hI.blk .z) rfl))) ?_
      refine s_gval (g_false rfl rfl rfl rfl) rfl (fun hc => (y_sub rfl (ev_gv et hc) (ev_gv et hc))) ?_
      refine s_gval (g_false rfl rfl rfl rfl) rfl (fun hc => (y_gtr rfl (ev_gv et hc) (ev_gv et hc))) ?_
      refine sq (y_or rfl et et) ?_
      refine sm ?_
      refine s_gval (g_false rfl rfl rfl rfl) rfl (fun hc => (y_move rfl et)) ?_
      refine s_gval (g_false rfl rfl rfl rfl) rfl (fun hc => (y_fieldAddr rfl et Tryd.underlying39 rfl size_3 rfl)) ?_
      refine s_gval (g_false rfl rfl rfl rfl) rfl (fun hc => (y_load1 (v := (vi e1.Len)) rfl (ev_gv et hc) Tryd.underlying3 rfl (CellsAt.of_blk (hI.blk .z) rfl))) ?_
      refine s_gval (g_false rfl rfl rfl rfl) rfl (fun hc => (y_lss rfl (ev_gv et hc) (ev_gv et hc))) ?_
      refine sq (y_or rfl et et) ?_
      refine s_nil ?_
      refine k_next (e := [(0, (vs a1 l1.length c1)), (1, (vs a2 slots1.length c2)), (2, (vi size1)), (22, (vs a2 slots1.length c2)), (23, (vi (slots1.length : Int))), (24, (vi i1)), (10, (vp b1 0)), (9, (vi i1)), (65, (vb (((decide (e1.At < 0)) || (decide (wi64 (size1 - e1.Len) < e1.At))) || (decide (size1 < e1.Len)))))]) ⟨rfl, rfl, rfl, rfl, rfl, rfl, rfl, rfl, rfl, trivial⟩ ?_
      refine c_cond (b := ((decide (e1.At < 0)) || (decide (wi64 (size1 - e1.Len) < e1.At))) || (decide (size1 < e1.Len))) et (fun hb => ?_) (fun hb => ?_)
      ·replace h := ite_t hb h
       refine sr ?_
       refine sm ?_
       refine sa ?_
       refine sac ?_
       refine nk ?_
       refine c_ret ?_
       obtain rfl := some_inj h
       exact q_ret (vs := [(vi i1), (vi 22)]) Tryd.results15 ⟨ev_tmp rfl rfl, ⟨ev_tmp rfl rfl, trivial⟩⟩ ⟨rfl, hI.ext0, hI.fin trivial⟩
      ·replace h := ite_f hb h
       refine c_skip ?_
       refine k_same ?_
       refine sr ?_
       refine sm ?_
       refine sq (y_move rfl ev_const) ?_
       refine nk ?_
       refine c_block ?_
       refine c_loop (α := Nat × Int) (fun x => fun w => ∃ C, Bun noM F w0 C w [MO.box b1 39 #[(str e1.Name), (vi e1.At), (vi e1.Len)]] [Cl.sl cGLifetime a1 c1 l1, Cl.sl cGSlot a2 c2 slots1, clSpace] ∧ m_arena_Check_l2 i1 l1 slots1 e1 (m_arena_Check_l1 slots1 l1 size1 fuel1) (x.1) (x.2) = some r) (fun x _ => x.1) (fun x => [(0, (vs a1 l1.length c1)), (1, (vs a2 slots1.length c2)), (2, (vi size1)), (22, (vs a2 slots1.length c2)), (23, (vi (slots1.length : Int))), (24, (vi i1)), (10, (vp b1 0)), (9, (vi i1)), (67, (vi i1)), (68, (vi (x.2)))]) (fu, 0) ⟨_, hI.arr (.c .z .n) ⟨.z, (.s .z), (.s (.s .z)), trivial⟩, h⟩ ⟨rfl, rfl, rfl, rfl, rfl, rfl, rfl, rfl, rfl, rfl, trivial⟩ ?_
       clear h hI; rintro ⟨fuel2, i2⟩ w7 ⟨c7, hI, h⟩
       dsimp only at hI h
       rcases fuel2 with _ | fuel2
       ·rw [m_arena_Check_l2] at h; cases h
       rw [m_arena_Check_l2] at h
       refine c_sub (e := [(0, (vs a1 l1.length c1)), (1, (vs a2 slots1.length c2)), (2, (vi size1)), (22, (vs a2 slots1.length c2)), (23, (vi (slots1.length : Int))), (24, (vi i1)), (10, (vp b1 0)), (9, (vi i1)), (67, (vi i1)), (68, (vi i2))]) ⟨rfl, rfl, rfl, rfl, rfl, rfl, rfl, rfl, rfl, rfl, trivial⟩ ?_
       refine sr ?_
       refine sq (y_lss rfl et et) ?_
       refine nk ?_
       refine c_seq ?_
       refine c_cond (b := decide (i2 < i1)) et (fun hb => ?_) (fun hb => ?_)
       ·replace h := ite_t hb h
        refine c_skip ?_
        refine k_same ?_
        refine c_seq ?_
        refine c_block ?_
        refine sr ?_
        refine sm ?_
        refine sa ?_
        refine nk ?_
        refine c_seq ?_
        refine c_drawX [] false (.c (0, .q) (.c (1, .q) (.c (2, .q) (.c (3, .q) (.c (4, .q) (.c (5, .q) (.c (6, .q) (.c (7, .q) (.c (8, .s) (.c (9, .q) (.c (10, .q) (.c (11, .q) (.c (12, .q) (.c (13, .q) (.c (14, .q) (.c (15, .s) (.c (16, .q) .n))))))))))))))))) hI (by kernel_rfl) (by kernel_rfl) ?_
        clear hI; intro w8 hI
        refine a_q rfl gn rfl (fun w' => (y_move rfl et)) ?_
        refine a_q rfl gn rfl (fun w' => (y_move rfl et)) ?_
        obtain ⟨e4, hx6, h⟩ := bnd_some h
        obtain ⟨ad4, cs4, hA4, hr4, hq5⟩ := hI.clat .z hx6
        obtain rfl : cs4 = [(str e4.Name), (vi e4.From), (vi e4.To), (vi e4.Size)] := hr4
        refine a_q rfl gn rfl (fun w' => (y_indexAddr rfl Tryd.underlying22 size_37 et et (lat_bd hx6) hA4)) ?_
        refine a_read rfl gn rfl (fun w' hw' => (y_loadN (l := [(str e4.Name), (vi e4.From), (vi e4.To), (vi e4.Size)]) rfl et Tryd.underlying37 rfl size_37 (hq5.at_ (SX.any rfl hw')))) (by kernel_rfl) ?_
        refine a_q rfl gn rfl (fun w' => (y_move rfl et)) ?_
        refine a_q rfl gn rfl (fun w' => (y_move rfl et)) ?_
        obtain ⟨e5, hx7, h⟩ := bnd_some h
        obtain ⟨ad5, cs5, hA5, hr5, hq6⟩ := hI.clat .z hx7
        obtain rfl : cs5 = [(str e5.Name), (vi e5.From), (vi e5.To), (vi e5.Size)] := hr5
        refine a_q rfl gn rfl (fun w' => (y_indexAddr rfl Tryd.underlying22 size_37 et et (lat_bd hx7) hA5)) ?_
        refine a_read rfl gn rfl (fun w' hw' => (y_loadN (l := [(str e5.Name), (vi e5.From), (vi e5.To), (vi e5.Size)]) rfl et Tryd.underlying37 rfl size_37 (hq6.at_ (SX.any rfl hw')))) (by kernel_rfl) ?_
        obtain ⟨r2, hx8, h⟩ := bnd_some h
        refine la_call rfl gn rfl (r_callF (vs := [(Value.agg #[(str e4.Name), (vi e4.From), (vi e4.To), (vi e4.Size)]), (Value.agg #[(str e5.Name), (vi e5.From), (vi e5.To), (vi e5.Size)])]) rfl ok_26 ⟨et, ⟨et, trivial⟩⟩) (Calls.mono (c_liveness_Overlap (Dj F c7) w8 hI.lt e4 e5 trivial r2 hx8) ?_)
        rintro _ w9 ⟨rfl, hx9, hl2⟩
        refine ⟨_, rfl, hx9, ?_⟩
        replace hI := (hI.ext hx9)
        refine a_q rfl gn rfl (fun w' => (y_move rfl et)) ?_
        refine a_gval rfl (g_true rfl rfl rfl rfl) rfl (fun hc => fun w' => (y_move rfl et)) ?_
        refine a_gval rfl (g_true rfl rfl rfl rfl) rfl (fun hc => fun w' => (y_move rfl et)) ?_
        obtain ⟨e6, hx10, h⟩ := bnd_some h
        replace hx10 := gd_some hx10
        obtain ⟨ad6, cs6, hq7⟩ := hI.gclat (.s .z) hx10
        have hq8 : r2 = true → CA (Dj F c7) w9 (ad6.add (Int.toNat i2 * 3)) [(str e6.Name), (vi e6.At), (vi e6.Len)] := fun hc => by have k := hq7 hc; have e : cs6 = _ := k.2.1; rw [← e]; exact k.2.2
        refine a_gval rfl (g_true rfl rfl rfl rfl) rfl (fun hc => fun w' => (y_indexAddr rfl Tryd.underlying25 size_39 (ev_gv et hc) (ev_gv et hc) (lat_bd (hx10 hc)) (hq7 hc).1)) ?_
        refine a_gread rfl (g_true rfl rfl rfl rfl) rfl (fun hc => fun w' hw' => (y_loadN (l := [(str e6.Name), (vi e6.At), (vi e6.Len)]) rfl (ev_gv et hc) Tryd.underlying39 rfl size_39 ((hq8 hc).at_ (SX.any rfl hw')))) (by kernel_rfl) ?_
        refine a_gread rfl (g_true rfl rfl rfl rfl) rfl (fun hc => fun w' hw' => (y_loadN (l := [(str e1.Name), (vi e1.At), (vi e1.Len)]) rfl et Tryd.underlying39 rfl size_39 ((CA.blk (hI.blk .z) rfl).at_ (SX.any rfl hw')))) (by kernel_rfl) ?_
        obtain ⟨r3, hx11, h⟩ := bnd_some h
        replace hx11 := gd_some hx11
        refine la_gcallU (v := (vb r3)) rfl (g_true rfl rfl rfl rfl) rfl (fun hc => (r_callF (vs := [(Value.agg #[(str e6.Name), (vi e6.At), (vi e6.Len)]), (Value.agg #[(str e1.Name), (vi e1.At), (vi e1.Len)])]) rfl ok_27 ⟨(ev_gv et hc), ⟨(ev_gv et hc), trivial⟩⟩)) (fun hc => (c_arena_meet (Dj F c7) w9 hI.lt e6 e1 trivial r3 (hx11 hc)).mono fun _ _ k => ⟨k.1, k.2.1⟩) ?_
        intro w10 hx12; replace hI := hI.ext hx12
        refine a_q rfl gn rfl (fun w' => (y_and rfl et et)) ?_
        refine a_nil ?_
        refine k_same ?_
        refine c_cond (b := r2 && r3) et (fun hb => ?_) (fun hb => ?_)
        ·replace h := ite_t hb h
         refine sr ?_
         refine sm ?_
         refine sa ?_
         refine sac ?_
         refine s_nil ?_
         refine k_next (e := [(6, (vi i1)), (7, (vi 21))]) ⟨rfl, rfl, trivial⟩ ?_
         refine c_ret ?_
         obtain rfl := some_inj h
         exact q_ret (vs := [(vi i1), (vi 21)]) Tryd.results15 ⟨ev_tmp rfl rfl, ⟨ev_tmp rfl rfl, trivial⟩⟩ ⟨rfl, hI.ext0, hI.fin trivial⟩
        ·replace h := ite_f hb h
         refine c_skip ?_
         refine k_same ?_
         refine c_region rfl ?_
         refine sq (y_add rfl et ev_const) ?_
         refine sm ?_
         refine s_nil ?_
         exact k_loop (fuel2, wi64 (i2 + 1)) ⟨rfl, rfl, rfl, rfl, rfl, rfl, rfl, rfl, rfl, rfl, trivial⟩ ⟨_, hI.arr (.c .z .n) ⟨.z, (.s .z), (.s (.s .z)), trivial⟩, h⟩ (Nat.lt_succ_self _)
       ·replace h := ite_f hb h
        refine c_exit ?_
        refine k_in ?_
        exact k_join () ⟨rfl, rfl, rfl, rfl, rfl, rfl, trivial⟩ ⟨_, hI.arr .n ⟨.z, (.s .z), (.s (.s .z)), trivial⟩, h⟩ rfl
   ·replace h := ite_f hb h
    refine c_exit ?_
    refine k_in ?_
    refine k_same ?_
    refine sr ?_
    refine sac ?_
    refine sac ?_
    refine nk ?_
    refine c_ret ?_
    obtain rfl := some_inj h
    exact q_ret (vs := [(vi 0), (vi 0)]) Tryd.results15 ⟨ev_tmp rfl rfl, ⟨ev_tmp rfl rfl, trivial⟩⟩ ⟨rfl, hI.ext0, hI.fin trivial⟩
set_option maxRecDepth 100000 in
set_option maxHeartbeats 4000000 in
theorem c_slices_Index_int_int (F : NP) (w0 : World) (hF : ∀ k, F k → k < w0.heap.size) (s1 : List Int) (v1 : Int) (a1 : Option Addr) (c1 : Nat) (hc : AllCl [Cl.sl (cInt .i64) a1 c1 s1] F w0) (r : Int)
  (h : m_slices_Index_int_int s1 v1 = some r) :
  Calls Tryd.prog 37 #[(vs a1 s1.length c1), (vi v1)] w0 fun e w => e = .returned (vi r) ∧ Ext w0 w ∧ AllCl [] F w := by
 refine enterK (l := [(vs a1 s1.length c1), (vi v1)]) Tryd.func37 rfl Tryd.ntmps37 rfl ?_
 have hI := Bun.start hF hc
 clear hc
 rw [m_slices_Index_int_int] at h
 refine sr ?_
 refine sac ?_
 refine nk ?_
 refine c_seq ?_
 refine sr ?_
 refine sm ?_
 refine sq (y_lenl rfl Tryd.underlying41 et) ?_
 refine sq (y_move rfl ev_const) ?_
 refine nk ?_
 refine c_block ?_
 refine c_loop (α := Nat × Int) (fun x => fun w => ∃ C, Bun noM F w0 C w [] [Cl.sl (cInt .i64) a1 c1 s1] ∧ m_slices_Index_int_int_l1 s1 v1 (x.1) (x.2) = some r) (fun x _ => x.1) (fun x => [(0, (vs a1 s1.length c1)), (1, (vi v1)), (7, (vi (s1.length : Int))), (8, (vi (x.2)))]) (fu, 0) ⟨_, hI.arr .n ⟨.z, trivial⟩, h⟩ ⟨rfl, rfl, rfl, rfl, trivial⟩ ?_
 clear h hI; rintro ⟨fuel1, i1⟩ w1 ⟨c2, hI, h⟩
 dsimp only at hI h
 rcases fuel1 with _ | fuel1
 ·rw [m_slices_Index_int_int_l1] at h; cases h
 rw [m_slices_Index_int_int_l1] at h
 refine c_sub (e := [(0, (vs a1 s1.length c1)), (1, (vi v1)), (7, (vi (s1.length : Int))), (8, (vi i1))]) ⟨rfl, rfl, rfl, rfl, trivial⟩ ?_
 refine sr ?_
 refine sq (y_lss rfl et et) ?_
 refine nk ?_
 refine c_seq ?_
 refine c_cond (b := decide (i1 < (s1.length : Int))) et (fun hb => ?_) (fun hb => ?_)
 ·replace h := ite_t hb h
  refine c_skip ?_
  refine k_same ?_
  refine c_seq ?_
  refine c_block ?_
  refine sr ?_
  refine sm ?_
  refine sa ?_
  refine nk ?_
  refine sr ?_
  refine sm ?_
  refine sm ?_
  refine sm ?_
  obtain ⟨e1, hx1, h⟩ := bnd_some h
  obtain ⟨ad1, cs1, hA1, hr1, hq1⟩ := hI.clat .z hx1
  obtain rfl : cs1 = [(vi e1)] := hr1
  refine sq (y_indexAddr rfl Tryd.underlying41 size_3 et et (lat_bd hx1) hA1) ?_
  refine sq (y_load1 (v := (vi e1)) rfl et Tryd.underlying3 rfl hq1.1) ?_
  refine sq (y_eql rfl et et) ?_
  refine nk ?_
  refine c_cond (b := decide (v1 = e1)) et (fun hb => ?_) (fun hb => ?_)
  ·replace h := ite_t hb h
   refine sr ?_
   refine sm ?_
   refine sa ?_
   refine nk ?_
   refine c_ret ?_
   obtain rfl := some_inj h
   exact q_ret (vs := [(vi i1)]) Tryd.results37 ⟨ev_tmp rfl rfl, trivial⟩ ⟨rfl, hI.ext0, hI.fin trivial⟩
  ·replace h := ite_f hb h
   refine c_skip ?_
   refine k_same ?_
   refine c_region rfl ?_
   refine sq (y_add rfl et ev_const) ?_
   refine sm ?_
   refine s_nil ?_
   exact k_loop (fuel1, wi64 (i1 + 1)) ⟨rfl, rfl, rfl, rfl, trivial⟩ ⟨_, hI.arr .n ⟨.z, trivial⟩, h⟩ (Nat.lt_succ_self _)
 ·replace h := ite_f hb h
  refine c_exit ?_
  refine k_in ?_
  refine k_same ?_
  refine sr ?_
  refine sac ?_
  refine nk ?_
  refine c_ret ?_
  obtain rfl := some_inj h
  exact q_ret (vs := [(vi (-1))]) Tryd.results37 ⟨ev_tmp rfl rfl, trivial⟩ ⟨rfl, hI.ext0, hI.fin trivial⟩
set_option maxRecDepth 100000 in
set_option maxHeartbeats 4000000 in
theorem c_slices_Contains_int_int (F : NP) (w0 : World) (hF : ∀ k, F k → k < w0.heap.size) (s1 : List Int) (v1 : Int) (a1 : Option Addr) (c1 : Nat) (hc : AllCl [Cl.sl (cInt .i64) a1 c1 s1] F w0) (r : Bool)
  (h : m_slices_Contains_int_int s1 v1 = some r) :
  Calls Tryd.prog 29 #[(vs a1 s1.length c1), (vi v1)] w0 fun e w => e = .returned (vb r) ∧ Ext w0 w ∧ AllCl [] F w := by
 refine enterK (l := [(vs a1 s1.length c1), (vi v1)]) Tryd.func29 rfl Tryd.ntmps29 rfl ?_
 have hI := Bun.start hF hc
 clear hc
 rw [m_slices_Contains_int_int] at h
 refine sr ?_
 refine sac ?_
 refine nk ?_
 refine sr ?_
 refine sm ?_
 refine sm ?_
 obtain ⟨r1, hx1, h⟩ := bnd_some h
 refine s_call gn rfl (r_callF (vs := [(vs a1 s1.length c1), (vi v1)]) rfl ok_37 ⟨et, ⟨et, trivial⟩⟩) (Calls.mono (c_slices_Index_int_int (Dj F noM) w0 hI.lt s1 v1 a1 c1 ⟨(hI.get .z), trivial⟩ r1 hx1) ?_)
 rintro _ w1 ⟨rfl, hx2, hl1⟩
 refine ⟨_, rfl, ?_⟩
 replace hI := (hI.ext hx2)
 refine sq (y_geq rfl et ev_const) ?_
 refine sa ?_
 refine nk ?_
 refine c_ret ?_
 obtain rfl := some_inj h
 exact q_ret (vs := [(vb (decide (0 ≤ r1)))]) Tryd.results29 ⟨ev_tmp rfl rfl, trivial⟩ ⟨rfl, hI.ext0, hI.fin trivial⟩
def tr_arena_Optimal_1_w_4_4 : Tr := (.c (6, .s) .n)
def tr_arena_Optimal_1_w_4_3 : Tr := (.c (5, .s) tr_arena_Optimal_1_w_4_4)
def tr_arena_Optimal_1_w_4_2 : Tr := (.two 0 tr_arena_Optimal_1_w_4_3 5 (.c (0, .s) tr_arena_Optimal_1_w_4_4))
def tr_arena_Optimal_1_w_4_1 : Tr := (.c (2, .s) tr_arena_Optimal_1_w_4_3)
def tr_arena_Optimal_1_w_4_0 : Tr := (.c (4, .s) tr_arena_Optimal_1_w_4_3)
set_option maxRecDepth 100000 in
set_option maxHeartbeats 4000000 in
theorem c_arena_Optimal_1_w_b (rec_ : ((List Int) → (List GLifetime) → Int → Option (Unit × Int))) (hrec : ∀ (C0 F : NP) (w0 : World) (order1 : List Int) (a2 : List GLifetime) (a4 : Int) (a1 : Option Addr) (c1 : Nat) (b1 : Nat) (a3 : Option Addr) (c2 : Nat) (b2 : Nat) (b3 : Nat) (hI : Bun C0 F w0 C0 w0 [MO.box b2 3 #[(vi a4)]] [Cl.sl (cInt .i64) a1 c1 order1, Cl.sl cGLifetime a3 c2 a2, Cl.blk b1 22 #[(vs a3 a2.length c2)], Cl.blk b3 51 #[(Value.func (.func 28) #[] #[(vp b1 0), (vp b2 0), (vp b3 0)])]]) (r : Unit × Int) (h : rec_ order1 a2 a4 = some r), Calls Tryd.prog 28 #[(vs a1 order1.length c1), (vp b1 0), (vp b2 0), (vp b3 0)] w0 fun e w => ∃ (C : NP), e = .returned (Value.tuple #[]) ∧ Bun C0 F w0 C w [MO.box b2 3 #[(vi r.2)]] [])
  (C0 F : NP) (w0 : World) (order1 : List Int) (a2 : List GLifetime) (a4 : Int) (a1 : Option Addr) (c1 : Nat) (b1 : Nat) (a3 : Option Addr) (c2 : Nat) (b2 : Nat) (b3 : Nat) (hI : Bun C0 F w0 C0 w0 [MO.box b2 3 #[(vi a4)]] [Cl.sl (cInt .i64) a1 c1 order1, Cl.sl cGLifetime a3 c2 a2, Cl.blk b1 22 #[(vs a3 a2.length c2)], Cl.blk b3 51 #[(Value.func (.func 28) #[] #[(vp b1 0), (vp b2 0), (vp b3 0)])]]) (r : Unit × Int) (h : m_arena_Optimal_1_w_b rec_ order1 a2 a4 = some r) : Calls Tryd.prog 28 #[(vs a1 order1.length c1), (vp b1 0), (vp b2 0), (vp b3 0)] w0 fun e w => ∃ (C : NP), e = .returned (Value.tuple #[]) ∧ Bun C0 F w0 C w [MO.box b2 3 #[(vi r.2)]] [] := by
 refine enterK (l := [(vs a1 order1.length c1), (vp b1 0), (vp b2 0), (vp b3 0)]) Tryd.func28 rfl Tryd.ntmps28 rfl ?_
 rw [m_arena_Optimal_1_w_b] at h
 refine c_seq ?_
 refine sr ?_
 refine sm ?_
 refine sq (y_lenl rfl Tryd.underlying41 et) ?_
 refine sq (y_load1 (v := (vs a3 a2.length c2)) rfl et Tryd.underlying22 rfl (hI.kblk (l := [(vs a3 a2.length c2)]) (.s (.s .z)) rfl).1) ?_
 refine sq (y_lenl rfl Tryd.underlying22 et) ?_
 refine sq (y_eql rfl et et) ?_
 refine nk ?_
 refine c_cond (b := decide ((order1.length : Int) = (a2.length : Int))) et (fun hb => ?_) (fun hb => ?_)
 ·replace h := ite_t hb h
  refine c_seq ?_
  refine sr ?_
  refine sq (y_load1 (v := (vs a3 a2.length c2)) rfl et Tryd.underlying22 rfl (hI.kblk (l := [(vs a3 a2.length c2)]) (.s (.s .z)) rfl).1) ?_
  refine sm ?_
  obtain ⟨r1, hx1, h⟩ := bnd_some h
  refine s_call gn rfl (r_callF (vs := [(vs a3 a2.length c2), (vs a1 order1.length c1)]) rfl ok_20 ⟨et, ⟨et, trivial⟩⟩) (Calls.mono (c_arena_place (Dj F C0) w0 hI.lt a2 order1 a3 c2 a1 c1 ⟨(hI.get (.s .z)), (hI.get .z), trivial⟩ r1 hx1) ?_)
  rintro _ w1 ⟨a6, c3, rfl, hx2, hl1⟩
  refine ⟨_, rfl, ?_⟩
  replace hI := (hI.ext hx2).adds hl1
  refine sm ?_
  refine sq (y_extract rfl et rfl) ?_
  refine sq (y_extract rfl et rfl) ?_
  refine sa ?_
  refine sa ?_
  refine nk ?_
  refine sr ?_
  refine sq (y_load1 (v := (vi a4)) rfl et Tryd.underlying3 rfl (CellsAt.of_blk (hI.blk .z) rfl)) ?_
  refine sq (y_lss rfl et ev_const) ?_
  refine sm ?_
  refine s_gval (g_false rfl rfl rfl rfl) rfl (fun hc => (y_move rfl et)) ?_
  refine s_gval (g_false rfl rfl rfl rfl) rfl (fun hc => (y_load1 (v := (vi a4)) rfl et Tryd.underlying3 rfl (CellsAt.of_blk (hI.blk .z) rfl))) ?_
  refine s_gval (g_false rfl rfl rfl rfl) rfl (fun hc => (y_lss rfl (ev_gv et hc) (ev_gv et hc))) ?_
  refine sq (y_or rfl et et) ?_
  refine nk ?_
  refine c_cond (b := (decide (a4 < 0)) || (decide (r1.2 < a4))) et (fun hb => ?_) (fun hb => ?_)
  ·replace h := ite_t hb h
   refine c_region rfl ?_
   refine sm ?_
   refine l_store (new := [(vi r1.2)]) (cs' := #[(vi r1.2)]) hI .z gn rfl rfl et et rfl size_3 rfl rfl rfl ?_
   clear hI; intro c4 w2 hI
   refine s_nil ?_
   refine k_next (e := []) trivial ?_
   refine c_ret ?_
   obtain rfl := some_inj h
   exact q_ret (vs := []) Tryd.results28 trivial ⟨_, rfl, hI.arr (.c .z .n) trivial⟩
  ·replace h := ite_f hb h
   refine c_skip ?_
   refine k_next (e := []) trivial ?_
   refine c_ret ?_
   obtain rfl := some_inj h
   exact q_ret (vs := []) Tryd.results28 trivial ⟨_, rfl, hI.arr (.c .z .n) trivial⟩
 ·replace h := ite_f hb h
  refine c_skip ?_
  refine k_same ?_
  refine sr ?_
  refine sq (y_load1 (v := (vs a3 a2.length c2)) rfl et Tryd.underlying22 rfl (hI.kblk (l := [(vs a3 a2.length c2)]) (.s (.s .z)) rfl).1) ?_
  refine sq (y_lenl rfl Tryd.underlying22 et) ?_
  refine sq (y_move rfl ev_const) ?_
  refine nk ?_
  refine c_block ?_
  refine c_loop (α := Nat × Int × Int) (fun x => fun w => ∃ C, Bun C0 F w0 C w [MO.box b2 3 #[(vi (x.2.2))]] [Cl.sl (cInt .i64) a1 c1 order1, Cl.blk b3 51 #[(Value.func (.func 28) #[] #[(vp b1 0), (vp b2 0), (vp b3 0)])], Cl.blk b1 22 #[(vs a3 a2.length c2)], Cl.sl cGLifetime a3 c2 a2] ∧ m_arena_Optimal_1_w_l1 a2 order1 rec_ (x.1) (x.2.1) (x.2.2) = some r) (fun x _ => x.1) (fun x => [(0, (vs a1 order1.length c1)), (3, (vp b3 0)), (28, (vi (a2.length : Int))), (29, (vi (x.2.1)))]) (fu, 0, a4) ⟨_, hI.arr (.c .z .n) ⟨.z, (.s (.s (.s .z))), (.s (.s .z)), (.s .z), trivial⟩, h⟩ ⟨rfl, rfl, rfl, rfl, trivial⟩ ?_
  clear h hI; rintro ⟨fuel1, i1, a7⟩ w3 ⟨c5, hI, h⟩
  dsimp only at hI h
  rcases fuel1 with _ | fuel1
  ·rw [m_arena_Optimal_1_w_l1] at h; cases h
  rw [m_arena_Optimal_1_w_l1] at h
  refine c_sub (e := [(0, (vs a1 order1.length c1)), (3, (vp b3 0)), (28, (vi (a2.length : Int))), (29, (vi i1))]) ⟨rfl, rfl, rfl, rfl, trivial⟩ ?_
  refine sr ?_
  refine sq (y_lss rfl et et) ?_
  refine nk ?_
  refine c_seq ?_
  refine c_cond (b := decide (i1 < (a2.length : Int))) et (fun hb => ?_) (fun hb => ?_)
  ·replace h := ite_t hb h
   refine c_skip ?_
   refine k_same ?_
   refine c_join (α := Int) (fun _ => ⟨44, []⟩) (fun x => [(0, (vs a1 order1.length c1)), (3, (vp b3 0)), (28, (vi (a2.length : Int))), (29, (vi i1))]) (fun x => fun w => ∃ C, Bun C0 F w0 C w [MO.box b2 3 #[(vi x)]] [Cl.sl (cInt .i64) a1 c1 order1, Cl.blk b3 51 #[(Value.func (.func 28) #[] #[(vp b1 0), (vp b2 0), (vp b3 0)])], Cl.blk b1 22 #[(vs a3 a2.length c2)], Cl.sl cGLifetime a3 c2 a2] ∧ m_arena_Optimal_1_w_j1 (m_arena_Optimal_1_w_l1 a2 order1 rec_ fuel1) i1 x = some r) ?_ ?_
   ·clear h hI; rintro a8 w4 ⟨c6, hI, h⟩
    try dsimp only at hI h
    rw [m_arena_Optimal_1_w_j1] at h
    refine c_sub (e := [(0, (vs a1 order1.length c1)), (3, (vp b3 0)), (28, (vi (a2.length : Int))), (29, (vi i1))]) ⟨rfl, rfl, rfl, rfl, trivial⟩ ?_
    refine c_region rfl ?_
    refine sq (y_add rfl et ev_const) ?_
    refine sm ?_
    refine s_nil ?_
    exact k_loop (fuel1, wi64 (i1 + 1), a8) ⟨rfl, rfl, rfl, rfl, trivial⟩ ⟨_, hI.arr (.c .z .n) ⟨.z, (.s .z), (.s (.s .z)), (.s (.s (.s .z))), trivial⟩, h⟩ (Nat.lt_succ_self _)
   ·skip
    refine c_block ?_
    refine sr ?_
    refine sm ?_
    refine sa ?_
    refine nk ?_
    refine sr ?_
    refine sm ?_
    refine sm ?_
    obtain ⟨r2, hx3, h⟩ := bnd_some h
    refine s_call gn rfl (r_callF (vs := [(vs a1 order1.length c1), (vi i1)]) rfl ok_29 ⟨et, ⟨et, trivial⟩⟩) (Calls.mono (c_slices_Contains_int_int (Dj F c5) w3 hI.lt order1 i1 a1 c1 ⟨(hI.get .z), trivial⟩ r2 hx3) ?_)
    rintro _ w5 ⟨rfl, hx4, hl2⟩
    refine ⟨_, rfl, ?_⟩
    replace hI := (hI.ext hx4)
    refine sq (y_not rfl et) ?_
    refine nk ?_
    refine c_cond (b := !r2) et (fun hb => ?_) (fun hb => ?_)
    ·replace h := ite_t hb h
     obtain ⟨zs1, hx5, h⟩ := bnd_some h
     obtain ⟨zs2, hx6, h⟩ := bnd_some h
     obtain ⟨⟨r3, s1⟩, hx7, h⟩ := bnd_some h
     try dsimp only at h
     refine c_drawX [5, 6] false (.c (1, .q) (.c (3, .q) (.three 0 (.two 2 tr_arena_Optimal_1_w_4_0 4 tr_arena_Optimal_1_w_4_1) 2 (.two 0 tr_arena_Optimal_1_w_4_0 4 tr_arena_Optimal_1_w_4_2) 4 (.two 0 tr_arena_Optimal_1_w_4_1 2 tr_arena_Optimal_1_w_4_2)))) hI (by kernel_rfl) (by kernel_rfl) ?_
     clear hI; intro w15 hI
     refine a_join (α := Nat × (Option Addr) × Nat × NP) (T := tr_arena_Optimal_1_w_4_4) (fun x => [(0, (vs a1 order1.length c1)), (3, (vp b3 0)), (7, (vi i1)), (28, (vi (a2.length : Int))), (29, (vi i1)), (30, (vb (decide (i1 < (a2.length : Int))))), (31, (vi i1)), (32, (vs a1 order1.length c1)), (33, (vi i1)), (34, (vb r2)), (35, (vb (!r2))), (36, (Value.func (.func 28) #[] #[(vp b1 0), (vp b2 0), (vp b3 0)])), (37, (vs a1 order1.length c1)), (39, (vi i1)), (40, (vs (some ⟨(x.1), 0, none⟩) ([i1] : List Int).length 1)), (41, (vs (x.2.1) zs2.length (x.2.2.1)))]) (fun x w => Bun C0 F w0 (x.2.2.2) w [MO.row (cInt .i64) 3 (some ⟨(x.1), 0, none⟩) 1 ([i1] : List Int), MO.row (cInt .i64) 3 (x.2.1) (x.2.2.1) zs2, MO.box b2 3 #[(vi a7)]] [Cl.sl (cInt .i64) a1 c1 order1, Cl.blk b3 51 #[(Value.func (.func 28) #[] #[(vp b1 0), (vp b2 0), (vp b3 0)])], Cl.blk b1 22 #[(vs a3 a2.length c2)], Cl.sl cGLifetime a3 c2 a2]) (fun x w => SN [] (DM true F (x.2.2.2)) w) ?_ ?_
     ·clear hI; rintro ⟨b4, a10, c10, c20⟩ w14 hI
      try dsimp only at hI ⊢
      unfold tr_arena_Optimal_1_w_4_4
      obtain ⟨c12, hJ⟩ := hI.restart.release (.s .z)
      obtain ⟨hs1, hI⟩ := hI.back hJ
      clear hJ
      obtain ⟨c13, f1, hB, hl3, hk1⟩ := hI.hands (.r (.l .n))
      refine la_callX rfl gn rfl (r_call (fs := []) (vs := [(vs a10 zs2.length c10)]) (cap := [(vp b1 0), (vp b2 0), (vp b3 0)]) rfl et ok_28 ⟨et, trivial⟩) (Calls.mono (hrec c13 f1 w14 zs2 a2 a7 a10 c10 b1 a3 c2 b2 b3 (hB.subs ⟨.z, (.s (.s (.s (.s .z)))), (.s (.s (.s .z))), (.s (.s .z)), trivial⟩) _ hx7) ?_)
      rintro _ w9 ⟨c14, rfl, hB2⟩
      obtain ⟨c15, hs2, hI⟩ := hk1 _ _ _ _ hB2
      replace hI : Bun C0 F w0 c15 w9 [MO.box b2 3 #[(vi s1)], MO.row (cInt .i64) 3 (some ⟨b4, 0, none⟩) 1 ([i1] : List Int)] [Cl.sl (cInt .i64) a10 c10 zs2, Cl.sl (cInt .i64) a1 c1 order1, Cl.blk b3 51 #[(Value.func (.func 28) #[] #[(vp b1 0), (vp b2 0), (vp b3 0)])], Cl.blk b1 22 #[(vs a3 a2.length c2)], Cl.sl cGLifetime a3 c2 a2] := hI
      refine ⟨_, rfl, DM true F c15, (hs1.trans hs2), ?_⟩
      refine a_nil ?_
      exact k_join s1 ⟨rfl, rfl, rfl, rfl, trivial⟩ ⟨_, hI.arr (.c .z .n) ⟨(.s .z), (.s (.s .z)), (.s (.s (.s .z))), (.s (.s (.s (.s .z)))), trivial⟩, h⟩ rfl
     intro hk_tr_arena_Optimal_1_w_4_4
     refine a_join (α := (Option Addr) × Nat × Nat × NP) (T := tr_arena_Optimal_1_w_4_3) (fun x => [(0, (vs a1 order1.length c1)), (3, (vp b3 0)), (7, (vi i1)), (28, (vi (a2.length : Int))), (29, (vi i1)), (30, (vb (decide (i1 < (a2.length : Int))))), (31, (vi i1)), (32, (vs a1 order1.length c1)), (33, (vi i1)), (34, (vb r2)), (35, (vb (!r2))), (36, (Value.func (.func 28) #[] #[(vp b1 0), (vp b2 0), (vp b3 0)])), (37, (vs a1 order1.length c1)), (38, (vs (x.1) zs1.length (x.2.1))), (39, (vi i1)), (40, (vs (some ⟨(x.2.2.1), 0, none⟩) ([i1] : List Int).length 1))]) (fun x w => Bun C0 F w0 (x.2.2.2) w [MO.row (cInt .i64) 3 (some ⟨(x.2.2.1), 0, none⟩) 1 ([i1] : List Int), MO.row (cInt .i64) 3 (x.1) (x.2.1) zs1, MO.box b2 3 #[(vi a7)]] [Cl.sl (cInt .i64) a1 c1 order1, Cl.blk b3 51 #[(Value.func (.func 28) #[] #[(vp b1 0), (vp b2 0), (vp b3 0)])], Cl.blk b1 22 #[(vs a3 a2.length c2)], Cl.sl cGLifetime a3 c2 a2]) (fun x w => SN [5, 6] (DM false F (x.2.2.2)) w) ?_ ?_
     ·clear hI; rintro ⟨a9, c7, b4, c19⟩ w13 hI
      try dsimp only at hI ⊢
      unfold tr_arena_Optimal_1_w_4_3
      refine a_turn (F := F) (C := c19) rfl rfl ?_
      refine la_append (xs := zs1) (ys := ([i1] : List Int)) hI (.s .z) (hI.rd .z) hx6 rfl gn rfl rfl Tryd.underlying41 info_3 rfl rfl et et ?_
      clear hI; intro a10 c10 c11 w8 hI
      exact a_sub (hk_tr_arena_Optimal_1_w_4_4 (b4, a10, c10, c11) _ (hI.arr (.c .z (.c .z (.c .z .n))) ⟨.z, (.s .z), (.s (.s .z)), (.s (.s (.s .z))), trivial⟩)) ⟨rfl, rfl, rfl, rfl, rfl, rfl, rfl, rfl, rfl, rfl, rfl, rfl, rfl, rfl, rfl, rfl, trivial⟩
     intro hk_tr_arena_Optimal_1_w_4_3
     refine a_join (α := (Option Addr) × Nat × Nat × NP) (T := tr_arena_Optimal_1_w_4_2) (fun x => [(0, (vs a1 order1.length c1)), (3, (vp b3 0)), (7, (vi i1)), (28, (vi (a2.length : Int))), (29, (vi i1)), (30, (vb (decide (i1 < (a2.length : Int))))), (31, (vi i1)), (32, (vs a1 order1.length c1)), (33, (vi i1)), (34, (vb r2)), (35, (vb (!r2))), (37, (vs a1 order1.length c1)), (38, (vs (x.1) zs1.length (x.2.1))), (39, (vi i1)), (40, (vs (some ⟨(x.2.2.1), 0, none⟩) ([i1] : List Int).length 1))]) (fun x w => Bun C0 F w0 (x.2.2.2) w [MO.row (cInt .i64) 3 (some ⟨(x.2.2.1), 0, none⟩) 1 ([i1] : List Int), MO.row (cInt .i64) 3 (x.1) (x.2.1) zs1, MO.box b2 3 #[(vi a7)]] [Cl.sl (cInt .i64) a1 c1 order1, Cl.blk b3 51 #[(Value.func (.func 28) #[] #[(vp b1 0), (vp b2 0), (vp b3 0)])], Cl.blk b1 22 #[(vs a3 a2.length c2)], Cl.sl cGLifetime a3 c2 a2]) (fun x w => SN [5, 6] (DM false F (x.2.2.2)) w) ?_ ?_
     ·clear hI; rintro ⟨a9, c7, b4, c18⟩ w12 hI
      try dsimp only at hI ⊢
      unfold tr_arena_Optimal_1_w_4_2
      refine a_two ?_ ?_
      ·skip
       refine a_val rfl gn rfl (y_load1 (v := (Value.func (.func 28) #[] #[(vp b1 0), (vp b2 0), (vp b3 0)])) rfl et Tryd.underlying51 rfl (hI.kblk (l := [(Value.func (.func 28) #[] #[(vp b1 0), (vp b2 0), (vp b3 0)])]) (.s .z) rfl).1) SX.self ?_
       exact a_sub (hk_tr_arena_Optimal_1_w_4_3 (a9, c7, b4, c18) _ (hI.arr (.c .z (.c .z (.c .z .n))) ⟨.z, (.s .z), (.s (.s .z)), (.s (.s (.s .z))), trivial⟩)) ⟨rfl, rfl, rfl, rfl, rfl, rfl, rfl, rfl, rfl, rfl, rfl, rfl, rfl, rfl, rfl, rfl, trivial⟩
      ·skip
       refine a_turnT (F := F) (C := c18) rfl rfl ?_
       refine la_append (xs := zs1) (ys := ([i1] : List Int)) hI (.s .z) (hI.rd .z) hx6 rfl gn rfl rfl Tryd.underlying41 info_3 rfl rfl et et ?_
       clear hI; intro a10 c10 c11 w8 hI
       refine a_val rfl gn rfl (y_load1 (v := (Value.func (.func 28) #[] #[(vp b1 0), (vp b2 0), (vp b3 0)])) rfl et Tryd.underlying51 rfl (hI.kblk (l := [(Value.func (.func 28) #[] #[(vp b1 0), (vp b2 0), (vp b3 0)])]) (.s .z) rfl).1) SX.self ?_
       exact a_sub (hk_tr_arena_Optimal_1_w_4_4 (b4, a10, c10, c11) _ (hI.arr (.c .z (.c .z (.c .z .n))) ⟨.z, (.s .z), (.s (.s .z)), (.s (.s (.s .z))), trivial⟩)) ⟨rfl, rfl, rfl, rfl, rfl, rfl, rfl, rfl, rfl, rfl, rfl, rfl, rfl, rfl, rfl, rfl, trivial⟩
     intro hk_tr_arena_Optimal_1_w_4_2
     refine a_join (α := Nat × NP) (T := tr_arena_Optimal_1_w_4_1) (fun x => [(0, (vs a1 order1.length c1)), (3, (vp b3 0)), (7, (vi i1)), (28, (vi (a2.length : Int))), (29, (vi i1)), (30, (vb (decide (i1 < (a2.length : Int))))), (31, (vi i1)), (32, (vs a1 order1.length c1)), (33, (vi i1)), (34, (vb r2)), (35, (vb (!r2))), (36, (Value.func (.func 28) #[] #[(vp b1 0), (vp b2 0), (vp b3 0)])), (37, (vs a1 order1.length c1)), (39, (vi i1)), (40, (vs (some ⟨(x.1), 0, none⟩) ([i1] : List Int).length 1))]) (fun x w => Bun C0 F w0 (x.2) w [MO.row (cInt .i64) 3 (some ⟨(x.1), 0, none⟩) 1 ([i1] : List Int), MO.box b2 3 #[(vi a7)]] [Cl.sl (cInt .i64) a1 c1 order1, Cl.blk b3 51 #[(Value.func (.func 28) #[] #[(vp b1 0), (vp b2 0), (vp b3 0)])], Cl.blk b1 22 #[(vs a3 a2.length c2)], Cl.sl cGLifetime a3 c2 a2]) (fun x w => SN [5, 6] (DM false F (x.2)) w) ?_ ?_
     ·clear hI; rintro ⟨b4, c17⟩ w11 hI
      try dsimp only at hI ⊢
      unfold tr_arena_Optimal_1_w_4_1
      replace hI := hI.nil (cInt .i64) 3 none
      refine la_appendX (ys := order1) hI .z (hI.crd .z) hx5 rfl gn rfl rfl Tryd.underlying41 info_3 rfl rfl ev_const et ?_
      clear hI; intro a9 c7 c8 w6 hI
      exact a_sub (hk_tr_arena_Optimal_1_w_4_3 (a9, c7, b4, c8) _ (hI.arr (.c (.s .z) (.c .z (.c .z .n))) ⟨.z, (.s .z), (.s (.s .z)), (.s (.s (.s .z))), trivial⟩)) ⟨rfl, rfl, rfl, rfl, rfl, rfl, rfl, rfl, rfl, rfl, rfl, rfl, rfl, rfl, rfl, rfl, trivial⟩
     intro hk_tr_arena_Optimal_1_w_4_1
     refine a_join (α := (Option Addr) × Nat × NP) (T := tr_arena_Optimal_1_w_4_0) (fun x => [(0, (vs a1 order1.length c1)), (3, (vp b3 0)), (7, (vi i1)), (28, (vi (a2.length : Int))), (29, (vi i1)), (30, (vb (decide (i1 < (a2.length : Int))))), (31, (vi i1)), (32, (vs a1 order1.length c1)), (33, (vi i1)), (34, (vb r2)), (35, (vb (!r2))), (36, (Value.func (.func 28) #[] #[(vp b1 0), (vp b2 0), (vp b3 0)])), (37, (vs a1 order1.length c1)), (38, (vs (x.1) zs1.length (x.2.1))), (39, (vi i1))]) (fun x w => Bun C0 F w0 (x.2.2) w [MO.row (cInt .i64) 3 (x.1) (x.2.1) zs1, MO.box b2 3 #[(vi a7)]] [Cl.sl (cInt .i64) a1 c1 order1, Cl.blk b3 51 #[(Value.func (.func 28) #[] #[(vp b1 0), (vp b2 0), (vp b3 0)])], Cl.blk b1 22 #[(vs a3 a2.length c2)], Cl.sl cGLifetime a3 c2 a2]) (fun x w => SN [5, 6] (DM false F (x.2.2)) w) ?_ ?_
     ·clear hI; rintro ⟨a9, c7, c16⟩ w10 hI
      try dsimp only at hI ⊢
      unfold tr_arena_Optimal_1_w_4_0
      refine la_lit (c := (cInt .i64)) (xs := ([i1] : List Int)) (vs := [(0, (vi i1))]) (cs := #[(vi i1)]) (css := [[(vi i1)]]) hI rfl gn rfl rfl Tryd.underlying41 info_3 rfl ⟨rfl, et, trivial⟩ (by kernel_rfl) ⟨rfl, trivial⟩ rfl rfl rfl ?_
      clear hI; intro b4 c9 w7 hI
      exact a_sub (hk_tr_arena_Optimal_1_w_4_3 (a9, c7, b4, c9) _ (hI.arr (.c .z (.c .z (.c .z .n))) ⟨.z, (.s .z), (.s (.s .z)), (.s (.s (.s .z))), trivial⟩)) ⟨rfl, rfl, rfl, rfl, rfl, rfl, rfl, rfl, rfl, rfl, rfl, rfl, rfl, rfl, rfl, rfl, trivial⟩
     intro hk_tr_arena_Optimal_1_w_4_0
     refine a_q rfl gn rfl (fun w' => (y_move rfl et)) ?_
     refine a_q rfl gn rfl (fun w' => (y_move rfl et)) ?_
     refine a_three ?_ ?_ ?_
     ·skip
      refine a_val rfl gn rfl (y_load1 (v := (Value.func (.func 28) #[] #[(vp b1 0), (vp b2 0), (vp b3 0)])) rfl et Tryd.underlying51 rfl (hI.kblk (l := [(Value.func (.func 28) #[] #[(vp b1 0), (vp b2 0), (vp b3 0)])]) (.s .z) rfl).1) SX.self ?_
      refine a_two ?_ ?_
      ·skip
       replace hI := hI.nil (cInt .i64) 3 none
       refine la_appendX (ys := order1) hI .z (hI.crd .z) hx5 rfl gn rfl rfl Tryd.underlying41 info_3 rfl rfl ev_const et ?_
       clear hI; intro a9 c7 c8 w6 hI
       exact a_sub (hk_tr_arena_Optimal_1_w_4_0 (a9, c7, c8) _ (hI.arr (.c .z (.c .z .n)) ⟨.z, (.s .z), (.s (.s .z)), (.s (.s (.s .z))), trivial⟩)) ⟨rfl, rfl, rfl, rfl, rfl, rfl, rfl, rfl, rfl, rfl, rfl, rfl, rfl, rfl, rfl, trivial⟩
      ·skip
       refine la_lit (c := (cInt .i64)) (xs := ([i1] : List Int)) (vs := [(0, (vi i1))]) (cs := #[(vi i1)]) (css := [[(vi i1)]]) hI rfl gn rfl rfl Tryd.underlying41 info_3 rfl ⟨rfl, et, trivial⟩ (by kernel_rfl) ⟨rfl, trivial⟩ rfl rfl rfl ?_
       clear hI; intro b4 c9 w7 hI
       exact a_sub (hk_tr_arena_Optimal_1_w_4_1 (b4, c9) _ (hI.arr (.c .z (.c .z .n)) ⟨.z, (.s .z), (.s (.s .z)), (.s (.s (.s .z))), trivial⟩)) ⟨rfl, rfl, rfl, rfl, rfl, rfl, rfl, rfl, rfl, rfl, rfl, rfl, rfl, rfl, rfl, trivial⟩
     ·skip
      replace hI := hI.nil (cInt .i64) 3 none
      refine la_appendX (ys := order1) hI .z (hI.crd .z) hx5 rfl gn rfl rfl Tryd.underlying41 info_3 rfl rfl ev_const et ?_
      clear hI; intro a9 c7 c8 w6 hI
      refine a_two ?_ ?_
      ·skip
       refine a_val rfl gn rfl (y_load1 (v := (Value.func (.func 28) #[] #[(vp b1 0), (vp b2 0), (vp b3 0)])) rfl et Tryd.underlying51 rfl (hI.kblk (l := [(Value.func (.func 28) #[] #[(vp b1 0), (vp b2 0), (vp b3 0)])]) (.s .z) rfl).1) SX.self ?_
       exact a_sub (hk_tr_arena_Optimal_1_w_4_0 (a9, c7, c8) _ (hI.arr (.c .z (.c .z .n)) ⟨.z, (.s .z), (.s (.s .z)), (.s (.s (.s .z))), trivial⟩)) ⟨rfl, rfl, rfl, rfl, rfl, rfl, rfl, rfl, rfl, rfl, rfl, rfl, rfl, rfl, rfl, trivial⟩
      ·skip
       refine la_lit (c := (cInt .i64)) (xs := ([i1] : List Int)) (vs := [(0, (vi i1))]) (cs := #[(vi i1)]) (css := [[(vi i1)]]) hI rfl gn rfl rfl Tryd.underlying41 info_3 rfl ⟨rfl, et, trivial⟩ (by kernel_rfl) ⟨rfl, trivial⟩ rfl rfl rfl ?_
       clear hI; intro b4 c9 w7 hI
       exact a_sub (hk_tr_arena_Optimal_1_w_4_2 (a9, c7, b4, c9) _ (hI.arr (.c .z (.c .z (.c .z .n))) ⟨.z, (.s .z), (.s (.s .z)), (.s (.s (.s .z))), trivial⟩)) ⟨rfl, rfl, rfl, rfl, rfl, rfl, rfl, rfl, rfl, rfl, rfl, rfl, rfl, rfl, rfl, trivial⟩
     ·skip
      refine la_lit (c := (cInt .i64)) (xs := ([i1] : List Int)) (vs := [(0, (vi i1))]) (cs := #[(vi i1)]) (css := [[(vi i1)]]) hI rfl gn rfl rfl Tryd.underlying41 info_3 rfl ⟨rfl, et, trivial⟩ (by kernel_rfl) ⟨rfl, trivial⟩ rfl rfl rfl ?_
      clear hI; intro b4 c9 w7 hI
      refine a_two ?_ ?_
      ·skip
       refine a_val rfl gn rfl (y_load1 (v := (Value.func (.func 28) #[] #[(vp b1 0), (vp b2 0), (vp b3 0)])) rfl et Tryd.underlying51 rfl (hI.kblk (l := [(Value.func (.func 28) #[] #[(vp b1 0), (vp b2 0), (vp b3 0)])]) (.s .z) rfl).1) SX.self ?_
       exact a_sub (hk_tr_arena_Optimal_1_w_4_1 (b4, c9) _ (hI.arr (.c .z (.c .z .n)) ⟨.z, (.s .z), (.s (.s .z)), (.s (.s (.s .z))), trivial⟩)) ⟨rfl, rfl, rfl, rfl, rfl, rfl, rfl, rfl, rfl, rfl, rfl, rfl, rfl, rfl, rfl, trivial⟩
      ·skip
       replace hI := hI.nil (cInt .i64) 3 none
       refine la_appendX (ys := order1) hI .z (hI.crd .z) hx5 rfl gn rfl rfl Tryd.underlying41 info_3 rfl rfl ev_const et ?_
       clear hI; intro a9 c7 c8 w6 hI
       exact a_sub (hk_tr_arena_Optimal_1_w_4_2 (a9, c7, b4, c8) _ (hI.arr (.c (.s .z) (.c .z (.c .z .n))) ⟨.z, (.s .z), (.s (.s .z)), (.s (.s (.s .z))), trivial⟩)) ⟨rfl, rfl, rfl, rfl, rfl, rfl, rfl, rfl, rfl, rfl, rfl, rfl, rfl, rfl, rfl, trivial⟩
    ·replace h := ite_f hb h
     refine c_skip ?_
     exact k_join a7 ⟨rfl, rfl, rfl, rfl, trivial⟩ ⟨_, hI.arr (.c .z .n) ⟨.z, (.s .z), (.s (.s .z)), (.s (.s (.s .z))), trivial⟩, h⟩ rfl
  ·replace h := ite_f hb h
   refine c_exit ?_
   refine k_in ?_
   obtain rfl := some_inj h
   exact q_ret (vs := []) Tryd.results28 trivial ⟨_, rfl, hI.arr (.c .z .n) trivial⟩
theorem c_arena_Optimal_1_w_r (n : Nat) : ∀ (C0 F : NP) (w0 : World) (order1 : List Int) (a2 : List GLifetime) (a4 : Int) (a1 : Option Addr) (c1 : Nat) (b1 : Nat) (a3 : Option Addr) (c2 : Nat) (b2 : Nat) (b3 : Nat) (hI : Bun C0 F w0 C0 w0 [MO.box b2 3 #[(vi a4)]] [Cl.sl (cInt .i64) a1 c1 order1, Cl.sl cGLifetime a3 c2 a2, Cl.blk b1 22 #[(vs a3 a2.length c2)], Cl.blk b3 51 #[(Value.func (.func 28) #[] #[(vp b1 0), (vp b2 0), (vp b3 0)])]]) (r : Unit × Int) (h : m_arena_Optimal_1_w_r n order1 a2 a4 = some r), Calls Tryd.prog 28 #[(vs a1 order1.length c1), (vp b1 0), (vp b2 0), (vp b3 0)] w0 fun e w => ∃ (C : NP), e = .returned (Value.tuple #[]) ∧ Bun C0 F w0 C w [MO.box b2 3 #[(vi r.2)]] [] := by
 induction n with
 | zero => intro C0 F w0 order1 a2 a4 a1 c1 b1 a3 c2 b2 b3 hI r h; cases h
 | succ n ih => intro C0 F w0 order1 a2 a4 a1 c1 b1 a3 c2 b2 b3 hI r h; exact c_arena_Optimal_1_w_b (m_arena_Optimal_1_w_r n) ih C0 F w0 order1 a2 a4 a1 c1 b1 a3 c2 b2 b3 hI r h
theorem c_arena_Optimal_1_w (C0 F : NP) (w0 : World) (order1 : List Int) (a2 : List GLifetime) (a4 : Int) (a1 : Option Addr) (c1 : Nat) (b1 : Nat) (a3 : Option Addr) (c2 : Nat) (b2 : Nat) (b3 : Nat) (hI : Bun C0 F w0 C0 w0 [MO.box b2 3 #[(vi a4)]] [Cl.sl (cInt .i64) a1 c1 order1, Cl.sl cGLifetime a3 c2 a2, Cl.blk b1 22 #[(vs a3 a2.length c2)], Cl.blk b3 51 #[(Value.func (.func 28) #[] #[(vp b1 0), (vp b2 0), (vp b3 0)])]]) (r : Unit × Int) (h : m_arena_Optimal_1_w order1 a2 a4 = some r) : Calls Tryd.prog 28 #[(vs a1 order1.length c1), (vp b1 0), (vp b2 0), (vp b3 0)] w0 fun e w => ∃ (C : NP), e = .returned (Value.tuple #[]) ∧ Bun C0 F w0 C w [MO.box b2 3 #[(vi r.2)]] [] := c_arena_Optimal_1_w_r fu C0 F w0 order1 a2 a4 a1 c1 b1 a3 c2 b2 b3 hI r h
set_option maxRecDepth 100000 in
set_option maxHeartbeats 4000000 in
theorem c_arena_Optimal (F : NP) (w0 : World) (hF : ∀ k, F k → k < w0.heap.size) (l1 : List GLifetime) (a1 : Option Addr) (c1 : Nat) (hc : AllCl [Cl.sl cGLifetime a1 c1 l1, clSpace] F w0) (r : Int × Int)
  (h : m_arena_Optimal l1 = some r) :
  Calls Tryd.prog 17 #[(vs a1 l1.length c1)] w0 fun e w => e = .returned (Value.tuple #[(vi r.1), (vi r.2)]) ∧ Ext w0 w ∧ AllCl [] F w := by
 refine enterK (l := [(vs a1 l1.length c1)]) Tryd.func17 rfl Tryd.ntmps17 rfl ?_
 have hI := Bun.start hF hc
 clear hc
 rw [m_arena_Optimal] at h
 refine sr ?_
 refine l_box (v := (vs a1 l1.length c1)) (cs := #[(vs a1 l1.length c1)]) hI gn rfl rfl et rfl ?_
 clear hI; intro b1 c2 w1 hI
 obtain ⟨c3, hI⟩ := hI.relBox .z
 refine sac ?_
 refine sac ?_
 refine nk ?_
 refine c_seq ?_
 refine sr ?_
 refine sq (y_load1 (v := (vs a1 l1.length c1)) rfl et Tryd.underlying22 rfl (hI.kblk (l := [(vs a1 l1.length c1)]) .z rfl).1) ?_
 obtain ⟨r1, hx1, h⟩ := bnd_some h
 refine s_call gn rfl (r_callF (vs := [(vs a1 l1.length c1)]) rfl ok_19 ⟨et, trivial⟩) (Calls.mono (c_liveness_Validate (Dj F c3) w1 hI.lt l1 a1 c1 ⟨(hI.get (.s .z)), (hI.get (.s (.s .z))), trivial⟩ r1 hx1) ?_)
 rintro _ w2 ⟨rfl, hx2, hl1⟩
 refine ⟨_, rfl, ?_⟩
 replace hI := (hI.ext hx2)
 refine sa ?_
 refine nk ?_
 refine sr ?_
 refine sm ?_
 refine sq (y_neq rfl et ev_const) ?_
 refine nk ?_
 refine c_cond (b := !decide (r1 = 0)) et (fun hb => ?_) (fun hb => ?_)
 ·replace h := ite_t hb h
  refine sr ?_
  refine sm ?_
  refine sac ?_
  refine sa ?_
  refine nk ?_
  refine c_ret ?_
  obtain rfl := some_inj h
  exact q_ret (vs := [(vi 0), (vi r1)]) Tryd.results17 ⟨ev_tmp rfl rfl, ⟨ev_tmp rfl rfl, trivial⟩⟩ ⟨rfl, hI.ext0, hI.fin trivial⟩
 ·replace h := ite_f hb h
  refine c_skip ?_
  refine k_same ?_
  refine c_seq ?_
  refine sr ?_
  refine sq (y_load1 (v := (vs a1 l1.length c1)) rfl et Tryd.underlying22 rfl (hI.kblk (l := [(vs a1 l1.length c1)]) .z rfl).1) ?_
  refine sq (y_lenl rfl Tryd.underlying22 et) ?_
  refine sq (y_gtr rfl et ev_const) ?_
  refine nk ?_
  refine c_cond (b := decide (7 < (l1.length : Int))) et (fun hb => ?_) (fun hb => ?_)
  ·replace h := ite_t hb h
   refine sr ?_
   refine sac ?_
   refine sac ?_
   refine nk ?_
   refine c_ret ?_
   obtain rfl := some_inj h
   exact q_ret (vs := [(vi 0), (vi 2)]) Tryd.results17 ⟨ev_tmp rfl rfl, ⟨ev_tmp rfl rfl, trivial⟩⟩ ⟨rfl, hI.ext0, hI.fin trivial⟩
  ·replace h := ite_f hb h
   refine c_skip ?_
   refine k_same ?_
   refine sr ?_
   refine l_alloc (cs := #[(vi 0)]) hI gn rfl rfl zero_3 rfl ?_
   clear hI; intro b2 c4 w3 hI
   refine l_store (new := [(vi (-1))]) (cs' := #[(vi (-1))]) hI .z gn rfl rfl et ev_const rfl size_3 rfl rfl rfl ?_
   clear hI; intro c5 w4 hI
   refine nk ?_
   refine sr ?_
   refine l_alloc (cs := #[Value.nilFunc]) hI gn rfl rfl zero_51 rfl ?_
   clear hI; intro b3 c6 w5 hI
   refine nk ?_
   refine sr ?_
   refine sq (y_makeFunc (vs := []) (cap := [(vp b1 0), (vp b2 0), (vp b3 0)]) rfl rfl ⟨et, ⟨et, ⟨et, trivial⟩⟩⟩) ?_
   refine l_store (new := [(Value.func (.func 28) #[] #[(vp b1 0), (vp b2 0), (vp b3 0)])]) (cs' := #[(Value.func (.func 28) #[] #[(vp b1 0), (vp b2 0), (vp b3 0)])]) hI .z gn rfl rfl et et rfl size_51 rfl rfl rfl ?_
   clear hI; intro c7 w6 hI
   refine nk ?_
   refine sr ?_
   refine sq (y_load1 (v := (Value.func (.func 28) #[] #[(vp b1 0), (vp b2 0), (vp b3 0)])) rfl et Tryd.underlying51 rfl (CellsAt.of_blk (hI.blk .z) rfl)) ?_
   obtain ⟨c8, hI⟩ := hI.relBox .z
   have hI := hI.add (c := Cl.sl (cInt .i64) none 0 ([] : List Int)) SlC.nil
   obtain ⟨c9, f1, hB, hl2, hk1⟩ := hI.hands (.l .n)
   obtain ⟨⟨r2, s1⟩, hx3, h⟩ := bnd_some h
   try dsimp only at h
   refine s_call gn rfl (r_call (fs := []) (vs := [(vs none 0 0)]) (cap := [(vp b1 0), (vp b2 0), (vp b3 0)]) rfl et ok_28 ⟨ev_const, trivial⟩) (Calls.mono (c_arena_Optimal_1_w c9 f1 w6 ([] : List Int) l1 (-1) none 0 b1 a1 c1 b2 b3 (hB.subs ⟨.z, (.s (.s (.s .z))), (.s (.s .z)), (.s .z), trivial⟩) _ hx3) ?_)
   rintro _ w7 ⟨c10, rfl, hB2⟩
   obtain ⟨c11, hs1, hI⟩ := hk1 _ _ _ _ hB2
   replace hI : Bun noM F w0 c11 w7 [MO.box b2 3 #[(vi s1)]] [Cl.sl (cInt .i64) none 0 ([] : List Int), Cl.blk b3 51 #[(Value.func (.func 28) #[] #[(vp b1 0), (vp b2 0), (vp b3 0)])], Cl.blk b1 22 #[(vs a1 l1.length c1)], Cl.sl cGLifetime a1 c1 l1, clSpace] := hI
   refine ⟨_, rfl, ?_⟩
   refine nk ?_
   refine c_seq ?_
   refine sr ?_
   refine sq (y_load1 (v := (vi s1)) rfl et Tryd.underlying3 rfl (CellsAt.of_blk (hI.blk .z) rfl)) ?_
   refine sq (y_gtr rfl et ev_const) ?_
   refine nk ?_
   refine c_cond (b := decide (2147483647 < s1)) et (fun hb => ?_) (fun hb => ?_)
   ·replace h := ite_t hb h
    refine sr ?_
    refine sac ?_
    refine sac ?_
    refine nk ?_
    refine c_ret ?_
    obtain rfl := some_inj h
    exact q_ret (vs := [(vi 0), (vi 22)]) Tryd.results17 ⟨ev_tmp rfl rfl, ⟨ev_tmp rfl rfl, trivial⟩⟩ ⟨rfl, hI.ext0, hI.fin trivial⟩
   ·replace h := ite_f hb h
    refine c_skip ?_
    refine k_same ?_
    refine sr ?_
    refine sq (y_load1 (v := (vi s1)) rfl et Tryd.underlying3 rfl (CellsAt.of_blk (hI.blk .z) rfl)) ?_
    refine sq (y_max rfl et ev_const) ?_
    refine sa ?_
    refine sac ?_
    refine nk ?_
    refine c_ret ?_
    obtain rfl := some_inj h
    exact q_ret (vs := [(vi (max s1 0)), (vi 0)]) Tryd.results17 ⟨ev_tmp rfl rfl, ⟨ev_tmp rfl rfl, trivial⟩⟩ ⟨rfl, hI.ext0, hI.fin trivial⟩
set_option maxRecDepth 100000 in
set_option maxHeartbeats 4000000 in
theorem c_arena_LowerBound (F : NP) (w0 : World) (hF : ∀ k, F k → k < w0.heap.size) (l1 : List GLifetime) (a1 : Option Addr) (c1 : Nat) (hc : AllCl [Cl.sl cGLifetime a1 c1 l1, clSpace] F w0) (r : Int)
  (h : m_arena_LowerBound l1 = some r) :
  Calls Tryd.prog 16 #[(vs a1 l1.length c1)] w0 fun e w => e = .returned (vi r) ∧ Ext w0 w ∧ AllCl [] F w := by
 refine enterK (l := [(vs a1 l1.length c1)]) Tryd.func16 rfl Tryd.ntmps16 rfl ?_
 have hI := Bun.start hF hc
 clear hc
 rw [m_arena_LowerBound] at h
 refine sr ?_
 refine sac ?_
 refine nk ?_
 refine c_seq ?_
 refine sr ?_
 refine sm ?_
 obtain ⟨r1, hx1, h⟩ := bnd_some h
 refine s_call gn rfl (r_callF (vs := [(vs a1 l1.length c1)]) rfl ok_19 ⟨et, trivial⟩) (Calls.mono (c_liveness_Validate (Dj F noM) w0 hI.lt l1 a1 c1 ⟨(hI.get .z), (hI.get (.s .z)), trivial⟩ r1 hx1) ?_)
 rintro _ w1 ⟨rfl, hx2, hl1⟩
 refine ⟨_, rfl, ?_⟩
 replace hI := (hI.ext hx2)
 refine sq (y_neq rfl et ev_const) ?_
 refine nk ?_
 refine c_cond (b := !decide (r1 = 0)) et (fun hb => ?_) (fun hb => ?_)
 ·replace h := ite_t hb h
  refine sr ?_
  refine sac ?_
  refine nk ?_
  refine c_ret ?_
  obtain rfl := some_inj h
  exact q_ret (vs := [(vi 0)]) Tryd.results16 ⟨ev_tmp rfl rfl, trivial⟩ ⟨rfl, hI.ext0, hI.fin trivial⟩
 ·replace h := ite_f hb h
  refine c_skip ?_
  refine k_same ?_
  refine sr ?_
  refine sac ?_
  refine nk ?_
  refine c_seq ?_
  refine sr ?_
  refine sm ?_
  refine sq (y_lenl rfl Tryd.underlying22 et) ?_
  refine sq (y_move rfl ev_const) ?_
  refine nk ?_
  refine c_block ?_
  refine c_loop (α := Nat × Int × Int) (fun x => fun w => ∃ C, Bun noM F w0 C w [] [Cl.sl cGLifetime a1 c1 l1, clSpace] ∧ m_arena_LowerBound_l1 l1 (x.1) (x.2.1) (x.2.2) = some r) (fun x _ => x.1) (fun x => [(0, (vs a1 l1.length c1)), (3, (vi (x.2.1))), (12, (vs a1 l1.length c1)), (13, (vi (l1.length : Int))), (14, (vi (x.2.2)))]) (fu, 0, 0) ⟨_, hI.arr .n ⟨.z, (.s .z), trivial⟩, h⟩ ⟨rfl, rfl, rfl, rfl, rfl, trivial⟩ ?_
  clear h hI; rintro ⟨fuel1, most1, i1⟩ w2 ⟨c2, hI, h⟩
  dsimp only at hI h
  rcases fuel1 with _ | fuel1
  ·rw [m_arena_LowerBound_l1] at h; cases h
  rw [m_arena_LowerBound_l1] at h
  refine c_sub (e := [(0, (vs a1 l1.length c1)), (3, (vi most1)), (12, (vs a1 l1.length c1)), (13, (vi (l1.length : Int))), (14, (vi i1))]) ⟨rfl, rfl, rfl, rfl, rfl, trivial⟩ ?_
  refine sr ?_
  refine sq (y_lss rfl et et) ?_
  refine nk ?_
  refine c_seq ?_
  refine c_cond (b := decide (i1 < (l1.length : Int))) et (fun hb => ?_) (fun hb => ?_)
  ·replace h := ite_t hb h
   refine c_skip ?_
   refine k_same ?_
   refine c_join (α := Int) (fun _ => ⟨47, []⟩) (fun x => [(0, (vs a1 l1.length c1)), (3, (vi x)), (12, (vs a1 l1.length c1)), (13, (vi (l1.length : Int))), (14, (vi i1))]) (fun x => fun w => ∃ C, Bun noM F w0 C w [] [Cl.sl cGLifetime a1 c1 l1, clSpace] ∧ m_arena_LowerBound_j1 (m_arena_LowerBound_l1 l1 fuel1) i1 x = some r) ?_ ?_
   ·clear h hI; rintro most2 w3 ⟨c3, hI, h⟩
    try dsimp only at hI h
    rw [m_arena_LowerBound_j1] at h
    refine c_sub (e := [(0, (vs a1 l1.length c1)), (3, (vi most2)), (12, (vs a1 l1.length c1)), (13, (vi (l1.length : Int))), (14, (vi i1))]) ⟨rfl, rfl, rfl, rfl, rfl, trivial⟩ ?_
    refine c_region rfl ?_
    refine sq (y_add rfl et ev_const) ?_
    refine sm ?_
    refine s_nil ?_
    exact k_loop (fuel1, most2, wi64 (i1 + 1)) ⟨rfl, rfl, rfl, rfl, rfl, trivial⟩ ⟨_, hI.arr .n ⟨.z, (.s .z), trivial⟩, h⟩ (Nat.lt_succ_self _)
   ·skip
    refine c_block ?_
    refine sr ?_
    obtain ⟨e1, hx3, h⟩ := bnd_some h
    obtain ⟨ad1, cs1, hA1, hr1, hq1⟩ := hI.clat .z hx3
    obtain rfl : cs1 = [(str e1.Name), (vi e1.From), (vi e1.To), (vi e1.Size)] := hr1
    refine sq (y_indexAddr rfl Tryd.underlying22 size_37 et et (lat_bd hx3) hA1) ?_
    refine sq (y_loadN (l := [(str e1.Name), (vi e1.From), (vi e1.To), (vi e1.Size)]) rfl et Tryd.underlying37 rfl size_37 hq1.1) ?_
    refine l_alloc (cs := #[(str ([] : List UInt8)), (vi 0), (vi 0), (vi 0)]) hI gn rfl rfl zero_37 rfl ?_
    clear hI; intro b1 c4 w4 hI
    refine l_store (new := [(str e1.Name), (vi e1.From), (vi e1.To), (vi e1.Size)]) (cs' := #[(str e1.Name), (vi e1.From), (vi e1.To), (vi e1.Size)]) hI .z gn rfl rfl et et rfl size_37 rfl rfl rfl ?_
    clear hI; intro c5 w5 hI
    refine nk ?_
    refine sr ?_
    refine sac ?_
    refine nk ?_
    refine c_join (α := Int) (fun _ => ⟨47, []⟩) (fun x => [(0, (vs a1 l1.length c1)), (3, (vi most1)), (12, (vs a1 l1.length c1)), (13, (vi (l1.length : Int))), (14, (vi i1)), (6, (vi x))]) (fun x => fun w => ∃ C, Bun noM F w0 C w [] [Cl.sl cGLifetime a1 c1 l1, clSpace] ∧ m_arena_LowerBound_j2 (m_arena_LowerBound_l1 l1 fuel1) i1 most1 x = some r) ?_ ?_
    ·clear h hI; rintro total1 w6 ⟨c6, hI, h⟩
     try dsimp only at hI h
     rw [m_arena_LowerBound_j2] at h
     refine c_sub (e := [(0, (vs a1 l1.length c1)), (3, (vi most1)), (12, (vs a1 l1.length c1)), (13, (vi (l1.length : Int))), (14, (vi i1)), (6, (vi total1))]) ⟨rfl, rfl, rfl, rfl, rfl, rfl, trivial⟩ ?_
     refine c_region rfl ?_
     refine sm ?_
     refine sm ?_
     refine sq (y_max rfl et et) ?_
     refine sa ?_
     refine s_nil ?_
     exact k_join (max most1 total1) ⟨rfl, rfl, rfl, rfl, rfl, trivial⟩ ⟨_, hI.arr .n ⟨.z, (.s .z), trivial⟩, h⟩ rfl
    ·skip
     refine sr ?_
     refine sm ?_
     refine sq (y_lenl rfl Tryd.underlying22 et) ?_
     refine sq (y_move rfl ev_const) ?_
     refine nk ?_
     refine c_block ?_
     refine c_loop (α := Nat × Int × Int) (fun x => fun w => ∃ C, Bun noM F w0 C w [MO.box b1 37 #[(str e1.Name), (vi e1.From), (vi e1.To), (vi e1.Size)]] [Cl.sl cGLifetime a1 c1 l1, clSpace] ∧ m_arena_LowerBound_l2 l1 e1 (m_arena_LowerBound_l1 l1 fuel1) i1 most1 (x.1) (x.2.1) (x.2.2) = some r) (fun x _ => x.1) (fun x => [(0, (vs a1 l1.length c1)), (3, (vi most1)), (12, (vs a1 l1.length c1)), (13, (vi (l1.length : Int))), (14, (vi i1)), (5, (vp b1 0)), (6, (vi (x.2.1))), (18, (vs a1 l1.length c1)), (19, (vi (l1.length : Int))), (20, (vi (x.2.2)))]) (fu, 0, 0) ⟨_, hI.arr (.c .z .n) ⟨.z, (.s .z), trivial⟩, h⟩ ⟨rfl, rfl, rfl, rfl, rfl, rfl, rfl, rfl, rfl, rfl, trivial⟩ ?_
     clear h hI; rintro ⟨fuel2, total2, i2⟩ w7 ⟨c7, hI, h⟩
     dsimp only at hI h
     rcases fuel2 with _ | fuel2
     ·rw [m_arena_LowerBound_l2] at h; cases h
     rw [m_arena_LowerBound_l2] at h
     refine c_sub (e := [(0, (vs a1 l1.length c1)), (3, (vi most1)), (12, (vs a1 l1.length c1)), (13, (vi (l1.length : Int))), (14, (vi i1)), (5, (vp b1 0)), (6, (vi total2)), (18, (vs a1 l1.length c1)), (19, (vi (l1.length : Int))), (20, (vi i2))]) ⟨rfl, rfl, rfl, rfl, rfl, rfl, rfl, rfl, rfl, rfl, trivial⟩ ?_
     refine sr ?_
     refine sq (y_lss rfl et et) ?_
     refine nk ?_
     refine c_seq ?_
     refine c_cond (b := decide (i2 < (l1.length : Int))) et (fun hb => ?_) (fun hb => ?_)
     ·replace h := ite_t hb h
      refine c_skip ?_
      refine k_same ?_
      refine c_join (α := Int) (fun _ => ⟨47, []⟩) (fun x => [(0, (vs a1 l1.length c1)), (3, (vi most1)), (12, (vs a1 l1.length c1)), (13, (vi (l1.length : Int))), (14, (vi i1)), (5, (vp b1 0)), (6, (vi x)), (18, (vs a1 l1.length c1)), (19, (vi (l1.length : Int))), (20, (vi i2))]) (fun x => fun w => ∃ C, Bun noM F w0 C w [MO.box b1 37 #[(str e1.Name), (vi e1.From), (vi e1.To), (vi e1.Size)]] [Cl.sl cGLifetime a1 c1 l1, clSpace] ∧ m_arena_LowerBound_j3 (m_arena_LowerBound_l2 l1 e1 (m_arena_LowerBound_l1 l1 fuel1) i1 most1 fuel2) i2 x = some r) ?_ ?_
      ·clear h hI; rintro total3 w8 ⟨c8, hI, h⟩
       try dsimp only at hI h
       rw [m_arena_LowerBound_j3] at h
       refine c_sub (e := [(0, (vs a1 l1.length c1)), (3, (vi most1)), (12, (vs a1 l1.length c1)), (13, (vi (l1.length : Int))), (14, (vi i1)), (5, (vp b1 0)), (6, (vi total3)), (18, (vs a1 l1.length c1)), (19, (vi (l1.length : Int))), (20, (vi i2))]) ⟨rfl, rfl, rfl, rfl, rfl, rfl, rfl, rfl, rfl, rfl, trivial⟩ ?_
       refine c_region rfl ?_
       refine sq (y_add rfl et ev_const) ?_
       refine sm ?_
       refine s_nil ?_
       exact k_loop (fuel2, total3, wi64 (i2 + 1)) ⟨rfl, rfl, rfl, rfl, rfl, rfl, rfl, rfl, rfl, rfl, trivial⟩ ⟨_, hI.arr (.c .z .n) ⟨.z, (.s .z), trivial⟩, h⟩ (Nat.lt_succ_self _)
      ·skip
       refine c_block ?_
       refine sr ?_
       obtain ⟨e2, hx4, h⟩ := bnd_some h
       obtain ⟨ad2, cs2, hA2, hr2, hq2⟩ := hI.clat .z hx4
       obtain rfl : cs2 = [(str e2.Name), (vi e2.From), (vi e2.To), (vi e2.Size)] := hr2
       refine sq (y_indexAddr rfl Tryd.underlying22 size_37 et et (lat_bd hx4) hA2) ?_
       refine sq (y_loadN (l := [(str e2.Name), (vi e2.From), (vi e2.To), (vi e2.Size)]) rfl et Tryd.underlying37 rfl size_37 hq2.1) ?_
       refine l_alloc (cs := #[(str ([] : List UInt8)), (vi 0), (vi 0), (vi 0)]) hI gn rfl rfl zero_37 rfl ?_
       clear hI; intro b2 c9 w9 hI
       refine l_store (new := [(str e2.Name), (vi e2.From), (vi e2.To), (vi e2.Size)]) (cs' := #[(str e2.Name), (vi e2.From), (vi e2.To), (vi e2.Size)]) hI .z gn rfl rfl et et rfl size_37 rfl rfl rfl ?_
       clear hI; intro c10 w10 hI
       refine nk ?_
       refine sr ?_
       refine sq (y_fieldAddr rfl et Tryd.underlying37 rfl size_3 rfl) ?_
       refine sq (y_load1 (v := (vi e2.From)) rfl et Tryd.underlying3 rfl (CellsAt.of_blk (hI.blk .z) rfl)) ?_
       refine sq (y_fieldAddr rfl et Tryd.underlying37 rfl size_3 rfl) ?_
       refine sq (y_load1 (v := (vi e1.From)) rfl et Tryd.underlying3 rfl (CellsAt.of_blk (hI.blk (.s .z)) rfl)) ?_
       refine sq (y_leq rfl et et) ?_
       refine sm ?_
       refine s_gval (g_true rfl rfl rfl rfl) rfl (fun hc => (y_fieldAddr rfl et Tryd.underlying37 rfl size_3 rfl)) ?_
       refine s_gval (g_true rfl rfl rfl rfl) rfl (fun hc => (y_load1 (v := (vi e1.From)) rfl (ev_gv et hc) Tryd.underlying3 rfl (CellsAt.of_blk (hI.blk (.s .z)) rfl))) ?_
       refine s_gval (g_true rfl rfl rfl rfl) rfl (fun hc => (y_fieldAddr rfl et Tryd.underlying37 rfl size_3 rfl)) ?_
       refine s_gval (g_true rfl rfl rfl rfl) rfl (fun hc => (y_load1 (v := (vi e2.To)) rfl (ev_gv et hc) Tryd.underlying3 rfl (CellsAt.of_blk (hI.blk .z) rfl))) ?_
       refine s_gval (g_true rfl rfl rfl rfl) rfl (fun hc => (y_leq rfl (ev_gv et hc) (ev_gv et hc))) ?_
       refine sq (y_and rfl et et) ?_
       refine nk ?_
       refine c_cond (b := (decide (e2.From ≤ e1.From)) && (decide (e1.From ≤ e2.To))) et (fun hb => ?_) (fun hb => ?_)
       ·replace h := ite_t hb h
        refine c_region rfl ?_
        refine sm ?_
        refine sq (y_fieldAddr rfl et Tryd.underlying37 rfl size_3 rfl) ?_
        refine sq (y_load1 (v := (vi e2.Size)) rfl et Tryd.underlying3 rfl (CellsAt.of_blk (hI.blk .z) rfl)) ?_
        refine sq (y_add rfl et et) ?_
        refine sq (y_min rfl et ev_const) ?_
        obtain ⟨total4, hx5, h⟩ := bnd_some h
        refine sq (binU (y_assign rfl et) (congrArg (Value.int .i64) (some_inj hx5))) ?_
        refine s_nil ?_
        exact k_join total4 ⟨rfl, rfl, rfl, rfl, rfl, rfl, rfl, rfl, rfl, rfl, trivial⟩ ⟨_, hI.arr (.c (.s .z) .n) ⟨.z, (.s .z), trivial⟩, h⟩ rfl
       ·replace h := ite_f hb h
        refine c_skip ?_
        exact k_join total2 ⟨rfl, rfl, rfl, rfl, rfl, rfl, rfl, rfl, rfl, rfl, trivial⟩ ⟨_, hI.arr (.c (.s .z) .n) ⟨.z, (.s .z), trivial⟩, h⟩ rfl
     ·replace h := ite_f hb h
      refine c_exit ?_
      refine k_in ?_
      exact k_join total2 ⟨rfl, rfl, rfl, rfl, rfl, rfl, trivial⟩ ⟨_, hI.arr .n ⟨.z, (.s .z), trivial⟩, h⟩ rfl
  ·replace h := ite_f hb h
   refine c_exit ?_
   refine k_in ?_
   refine k_same ?_
   refine sr ?_
   refine sm ?_
   refine sa ?_
   refine nk ?_
   refine c_ret ?_
   obtain rfl := some_inj h
   exact q_ret (vs := [(vi most1)]) Tryd.results16 ⟨ev_tmp rfl rfl, trivial⟩ ⟨rfl, hI.ext0, hI.fin trivial⟩
set_option maxRecDepth 100000 in
set_option maxHeartbeats 4000000 in
theorem c_law42_examples (F : NP) (w0 : World) (hF : ∀ k, F k → k < w0.heap.size) (hc : AllCl [clSpace] F w0) (r : Bool)
  (h : m_law42_examples = some r) :
  Calls Tryd.prog 9 #[] w0 fun e w => e = .returned (vb r) ∧ Ext w0 w ∧ AllCl [] F w := by
 refine enterK (l := []) Tryd.func9 rfl Tryd.ntmps9 rfl ?_
 have hI := Bun.start hF hc
 clear hc
 rw [m_law42_examples] at h
 refine sr ?_
 refine sac ?_
 refine nk ?_
 refine sr ?_
 refine sq (y_build (vs := [(0, (str ([97] : List UInt8))), (1, (vi 0)), (2, (vi 1)), (3, (vi 4))]) (cs := #[(str ([97] : List UInt8)), (vi 0), (vi 1), (vi 4)]) rfl ⟨rfl, ev_const, ⟨rfl, ev_const, ⟨rfl, ev_const, ⟨rfl, ev_const, trivial⟩⟩⟩⟩ (by kernel_rfl)) ?_
 refine sq (y_build (vs := [(0, (str ([98] : List UInt8))), (1, (vi 2)), (2, (vi 3)), (3, (vi 4))]) (cs := #[(str ([98] : List UInt8)), (vi 2), (vi 3), (vi 4)]) rfl ⟨rfl, ev_const, ⟨rfl, ev_const, ⟨rfl, ev_const, ⟨rfl, ev_const, trivial⟩⟩⟩⟩ (by kernel_rfl)) ?_
 refine l_lit (c := cGLifetime) (xs := ([(⟨([97] : List UInt8), 0, 1, 4⟩ : GLifetime), (⟨([98] : List UInt8), 2, 3, 4⟩ : GLifetime)] : List GLifetime)) (vs := [(0, (Value.agg #[(str ([97] : List UInt8)), (vi 0), (vi 1), (vi 4)])), (1, (Value.agg #[(str ([98] : List UInt8)), (vi 2), (vi 3), (vi 4)]))]) (cs := #[(str ([97] : List UInt8)), (vi 0), (vi 1), (vi 4), (str ([98] : List UInt8)), (vi 2), (vi 3), (vi 4)]) (css := [[(str ([97] : List UInt8)), (vi 0), (vi 1), (vi 4)], [(str ([98] : List UInt8)), (vi 2), (vi 3), (vi 4)]]) hI gn rfl rfl Tryd.underlying22 info_37 rfl ⟨rfl, et, ⟨rfl, et, trivial⟩⟩ (by kernel_rfl) ⟨rfl, ⟨rfl, trivial⟩⟩ rfl rfl rfl ?_
 clear hI; intro b1 c1 w1 hI
 refine sa ?_
 refine nk ?_
 refine sr ?_
 refine sq (y_build (vs := [(0, (str ([97] : List UInt8))), (1, (vi 0)), (2, (vi 2)), (3, (vi 4))]) (cs := #[(str ([97] : List UInt8)), (vi 0), (vi 2), (vi 4)]) rfl ⟨rfl, ev_const, ⟨rfl, ev_const, ⟨rfl, ev_const, ⟨rfl, ev_const, trivial⟩⟩⟩⟩ (by kernel_rfl)) ?_
 refine sq (y_build (vs := [(0, (str ([98] : List UInt8))), (1, (vi 2)), (2, (vi 3)), (3, (vi 4))]) (cs := #[(str ([98] : List UInt8)), (vi 2), (vi 3), (vi 4)]) rfl ⟨rfl, ev_const, ⟨rfl, ev_const, ⟨rfl, ev_const, ⟨rfl, ev_const, trivial⟩⟩⟩⟩ (by kernel_rfl)) ?_
 refine l_lit (c := cGLifetime) (xs := ([(⟨([97] : List UInt8), 0, 2, 4⟩ : GLifetime), (⟨([98] : List UInt8), 2, 3, 4⟩ : GLifetime)] : List GLifetime)) (vs := [(0, (Value.agg #[(str ([97] : List UInt8)), (vi 0), (vi 2), (vi 4)])), (1, (Value.agg #[(str ([98] : List UInt8)), (vi 2), (vi 3), (vi 4)]))]) (cs := #[(str ([97] : List UInt8)), (vi 0), (vi 2), (vi 4), (str ([98] : List UInt8)), (vi 2), (vi 3), (vi 4)]) (css := [[(str ([97] : List UInt8)), (vi 0), (vi 2), (vi 4)], [(str ([98] : List UInt8)), (vi 2), (vi 3), (vi 4)]]) hI gn rfl rfl Tryd.underlying22 info_37 rfl ⟨rfl, et, ⟨rfl, et, trivial⟩⟩ (by kernel_rfl) ⟨rfl, ⟨rfl, trivial⟩⟩ rfl rfl rfl ?_
 clear hI; intro b2 c2 w2 hI
 refine sa ?_
 refine nk ?_
 refine sr ?_
 refine sm ?_
 obtain ⟨c3, hI⟩ := hI.release (.s .z)
 obtain ⟨r1, hx1, h⟩ := bnd_some h
 refine s_call gn rfl (r_callF (vs := [(vs (some ⟨b1, 0, none⟩) ([(⟨([97] : List UInt8), 0, 1, 4⟩ : GLifetime), (⟨([98] : List UInt8), 2, 3, 4⟩ : GLifetime)] : List GLifetime).length 2)]) rfl ok_10 ⟨et, trivial⟩) (Calls.mono (c_arena_Plan (Dj F c3) w2 hI.lt ([(⟨([97] : List UInt8), 0, 1, 4⟩ : GLifetime), (⟨([98] : List UInt8), 2, 3, 4⟩ : GLifetime)] : List GLifetime) (some ⟨b1, 0, none⟩) 2 ⟨(hI.get .z), (hI.get (.s .z)), trivial⟩ r1 hx1) ?_)
 rintro _ w3 ⟨a1, c4, rfl, hx2, hl1⟩
 refine ⟨_, rfl, ?_⟩
 replace hI := (hI.ext hx2).adds hl1
 refine sm ?_
 refine sq (y_extract rfl et rfl) ?_
 refine sq (y_extract rfl et rfl) ?_
 refine sq (y_extract rfl et rfl) ?_
 refine sa ?_
 refine sa ?_
 refine sa ?_
 refine nk ?_
 refine sr ?_
 refine sm ?_
 obtain ⟨c5, hI⟩ := hI.release .z
 obtain ⟨r2, hx3, h⟩ := bnd_some h
 refine s_call gn rfl (r_callF (vs := [(vs (some ⟨b2, 0, none⟩) ([(⟨([97] : List UInt8), 0, 2, 4⟩ : GLifetime), (⟨([98] : List UInt8), 2, 3, 4⟩ : GLifetime)] : List GLifetime).length 2)]) rfl ok_10 ⟨et, trivial⟩) (Calls.mono (c_arena_Plan (Dj F c5) w3 hI.lt ([(⟨([97] : List UInt8), 0, 2, 4⟩ : GLifetime), (⟨([98] : List UInt8), 2, 3, 4⟩ : GLifetime)] : List GLifetime) (some ⟨b2, 0, none⟩) 2 ⟨(hI.get .z), (hI.get (.s (.s (.s .z)))), trivial⟩ r2 hx3) ?_)
 rintro _ w4 ⟨a2, c6, rfl, hx4, hl2⟩
 refine ⟨_, rfl, ?_⟩
 replace hI := (hI.ext hx4).adds hl2
 refine sm ?_
 refine sq (y_extract rfl et rfl) ?_
 refine sq (y_extract rfl et rfl) ?_
 refine sq (y_extract rfl et rfl) ?_
 refine sa ?_
 refine sa ?_
 refine sa ?_
 refine nk ?_
 refine sr ?_
 refine sm ?_
 refine sq (y_build (vs := [(0, (str ([97] : List UInt8))), (2, (vi 4))]) (cs := #[(str ([97] : List UInt8)), (vi 0), (vi 4)]) rfl ⟨rfl, ev_const, ⟨rfl, ev_const, trivial⟩⟩ (by kernel_rfl)) ?_
 refine sq (y_build (vs := [(0, (str ([98] : List UInt8))), (2, (vi 4))]) (cs := #[(str ([98] : List UInt8)), (vi 0), (vi 4)]) rfl ⟨rfl, ev_const, ⟨rfl, ev_const, trivial⟩⟩ (by kernel_rfl)) ?_
 refine l_lit (c := cGSlot) (xs := ([(⟨([97] : List UInt8), 0, 4⟩ : GSlot), (⟨([98] : List UInt8), 0, 4⟩ : GSlot)] : List GSlot)) (vs := [(0, (Value.agg #[(str ([97] : List UInt8)), (vi 0), (vi 4)])), (1, (Value.agg #[(str ([98] : List UInt8)), (vi 0), (vi 4)]))]) (cs := #[(str ([97] : List UInt8)), (vi 0), (vi 4), (str ([98] : List UInt8)), (vi 0), (vi 4)]) (css := [[(str ([97] : List UInt8)), (vi 0), (vi 4)], [(str ([98] : List UInt8)), (vi 0), (vi 4)]]) hI gn rfl rfl Tryd.underlying25 info_39 rfl ⟨rfl, et, ⟨rfl, et, trivial⟩⟩ (by kernel_rfl) ⟨rfl, ⟨rfl, trivial⟩⟩ rfl rfl rfl ?_
 clear hI; intro b3 c7 w5 hI
 obtain ⟨r3, hx5, h⟩ := bnd_some h
 refine s_call gn rfl (r_callF (vs := [(vs (some ⟨b2, 0, none⟩) ([(⟨([97] : List UInt8), 0, 2, 4⟩ : GLifetime), (⟨([98] : List UInt8), 2, 3, 4⟩ : GLifetime)] : List GLifetime).length 2), (vs (some ⟨b3, 0, none⟩) ([(⟨([97] : List UInt8), 0, 4⟩ : GSlot), (⟨([98] : List UInt8), 0, 4⟩ : GSlot)] : List GSlot).length 2), (vi 8)]) rfl ok_15 ⟨et, ⟨et, ⟨ev_const, trivial⟩⟩⟩) (Calls.mono (c_arena_Check noM w5 (fun _ k => k.elim) ([(⟨([97] : List UInt8), 0, 2, 4⟩ : GLifetime), (⟨([98] : List UInt8), 2, 3, 4⟩ : GLifetime)] : List GLifetime) ([(⟨([97] : List UInt8), 0, 4⟩ : GSlot), (⟨([98] : List UInt8), 0, 4⟩ : GSlot)] : List GSlot) 8 (some ⟨b2, 0, none⟩) 2 (some ⟨b3, 0, none⟩) 2 ⟨(hI.get0 (.s .z)), hI.lend .z, hI.get0 (.s (.s (.s (.s .z)))), trivial⟩ r3 hx5) ?_)
 rintro _ w6 ⟨rfl, hx6, hl3⟩
 refine ⟨_, rfl, ?_⟩
 replace hI := (hI.ext hx6)
 refine sm ?_
 refine sq (y_extract rfl et rfl) ?_
 refine sq (y_extract rfl et rfl) ?_
 refine sa ?_
 refine sa ?_
 refine s_nil ?_
 refine k_next (e := [(2, (vs (some ⟨b2, 0, none⟩) ([(⟨([97] : List UInt8), 0, 2, 4⟩ : GLifetime), (⟨([98] : List UInt8), 2, 3, 4⟩ : GLifetime)] : List GLifetime).length 2)), (3, (vs a1 r1.1.length c4)), (4, (vi r1.2.1)), (5, (vi r1.2.2)), (6, (vs a2 r2.1.length c6)), (7, (vi r2.2.1)), (8, (vi r2.2.2)), (9, (vi r3.1)), (10, (vi r3.2))]) ⟨rfl, rfl, rfl, rfl, rfl, rfl, rfl, rfl, rfl, trivial⟩ ?_
 refine sr ?_
 refine sm ?_
 obtain ⟨r4, hx7, h⟩ := bnd_some h
 refine s_call gn rfl (r_callF (vs := [(vs (some ⟨b2, 0, none⟩) ([(⟨([97] : List UInt8), 0, 2, 4⟩ : GLifetime), (⟨([98] : List UInt8), 2, 3, 4⟩ : GLifetime)] : List GLifetime).length 2)]) rfl ok_17 ⟨et, trivial⟩) (Calls.mono (c_arena_Optimal (Dj F c7) w6 hI.lt ([(⟨([97] : List UInt8), 0, 2, 4⟩ : GLifetime), (⟨([98] : List UInt8), 2, 3, 4⟩ : GLifetime)] : List GLifetime) (some ⟨b2, 0, none⟩) 2 ⟨(hI.get (.s .z)), (hI.get (.s (.s (.s (.s .z))))), trivial⟩ r4 hx7) ?_)
 rintro _ w7 ⟨rfl, hx8, hl4⟩
 refine ⟨_, rfl, ?_⟩
 replace hI := (hI.ext hx8)
 refine sm ?_
 refine sq (y_extract rfl et rfl) ?_
 refine sq (y_extract rfl et rfl) ?_
 refine sa ?_
 refine sa ?_
 refine nk ?_
 refine sr ?_
 refine sm ?_
 refine sq (y_eql rfl et ev_const) ?_
 refine sm ?_
 refine s_gval (g_true rfl rfl rfl rfl) rfl (fun hc => (y_move rfl et)) ?_
 refine s_gval (g_true rfl rfl rfl rfl) rfl (fun hc => (y_eql rfl (ev_gv et hc) ev_const)) ?_
 refine sq (y_and rfl et et) ?_
 refine sm ?_
 refine s_gval (g_true rfl rfl rfl rfl) rfl (fun hc => (y_move rfl et)) ?_
 refine s_gval (g_true rfl rfl rfl rfl) rfl (fun hc => (y_eql rfl (ev_gv et hc) ev_const)) ?_
 refine sq (y_and rfl et et) ?_
 refine sm ?_
 refine s_gval (g_true rfl rfl rfl rfl) rfl (fun hc => (y_move rfl et)) ?_
 refine s_gval (g_true rfl rfl rfl rfl) rfl (fun hc => (y_lenl rfl Tryd.underlying25 (ev_gv et hc))) ?_
 refine s_gval (g_true rfl rfl rfl rfl) rfl (fun hc => (y_eql rfl (ev_gv et hc) ev_const)) ?_
 refine sq (y_and rfl et et) ?_
 refine sm ?_
 refine s_gval (g_true rfl rfl rfl rfl) rfl (fun hc => (y_move rfl et)) ?_
 refine s_gval (g_true rfl rfl rfl rfl) rfl (fun hc => (y_lenl rfl Tryd.underlying25 (ev_gv et hc))) ?_
 refine s_gval (g_true rfl rfl rfl rfl) rfl (fun hc => (y_eql rfl (ev_gv et hc) ev_const)) ?_
 refine sq (y_and rfl et et) ?_
 refine sm ?_
 refine s_gval (g_true rfl rfl rfl rfl) rfl (fun hc => (y_move rfl et)) ?_
 refine s_gval (g_true rfl rfl rfl rfl) rfl (fun hc => (y_eql rfl (ev_gv et hc) ev_const)) ?_
 refine sq (y_and rfl et et) ?_
 refine sm ?_
 refine s_gval (g_true rfl rfl rfl rfl) rfl (fun hc => (y_move rfl et)) ?_
 refine s_gval (g_true rfl rfl rfl rfl) rfl (fun hc => (y_eql rfl (ev_gv et hc) ev_const)) ?_
 refine sq (y_and rfl et et) ?_
 refine sm ?_
 refine s_gval (g_true rfl rfl rfl rfl) rfl (fun hc => (y_move rfl et)) ?_
 obtain ⟨e1, hx9, h⟩ := bnd_some h
 replace hx9 := gd_some hx9
 obtain ⟨ad1, cs1, hq1⟩ := hI.gclat (.s (.s .z)) hx9
 have hq2 : (((((((decide (r1.2.2 = 0)) && (decide (r2.2.2 = 0))) && (decide (r4.2 = 0))) && (decide ((r1.1.length : Int) = 2))) && (decide ((r2.1.length : Int) = 2))) && (decide (r1.2.1 = 4))) && (decide (r2.2.1 = 8))) = true → CA (Dj F c7) w7 (ad1.add (Int.toNat 1 * 3)) [(str e1.Name), (vi e1.At), (vi e1.Len)] := fun hc => by have k := hq1 hc; have e : cs1 = _ := k.2.1; rw [← e]; exact k.2.2
 refine s_gval (g_true rfl rfl rfl rfl) rfl (fun hc => (y_indexAddr rfl Tryd.underlying25 size_39 (ev_gv et hc) ev_const (lat_bd (hx9 hc)) (hq1 hc).1)) ?_
 refine s_gval (g_true rfl rfl rfl rfl) rfl (fun hc => (y_fieldAddr rfl (ev_gv et hc) Tryd.underlying39 rfl size_3 rfl)) ?_
 refine s_gval (g_true rfl rfl rfl rfl) rfl (fun hc => (y_load1 (v := (vi e1.At)) rfl (ev_gv et hc) Tryd.underlying3 rfl (CA.part (hq2 hc) rfl).1)) ?_
 refine s_gval (g_true rfl rfl rfl rfl) rfl (fun hc => (y_eql rfl (ev_gv et hc) ev_const)) ?_
 refine sq (y_and rfl et et) ?_
 refine sm ?_
 refine s_gval (g_true rfl rfl rfl rfl) rfl (fun hc => (y_move rfl et)) ?_
 obtain ⟨e2, hx10, h⟩ := bnd_some h
 replace hx10 := gd_some hx10
 obtain ⟨ad2, cs2, hq3⟩ := hI.gclat .z hx10
 have hq4 : ((((((((decide (r1.2.2 = 0)) && (decide (r2.2.2 = 0))) && (decide (r4.2 = 0))) && (decide ((r1.1.length : Int) = 2))) && (decide ((r2.1.length : Int) = 2))) && (decide (r1.2.1 = 4))) && (decide (r2.2.1 = 8))) && (decide (e1.At = 0))) = true → CA (Dj F c7) w7 (ad2.add (Int.toNat 0 * 3)) [(str e2.Name), (vi e2.At), (vi e2.Len)] := fun hc => by have k := hq3 hc; have e : cs2 = _ := k.2.1; rw [← e]; exact k.2.2
 refine s_gval (g_true rfl rfl rfl rfl) rfl (fun hc => (y_indexAddr rfl Tryd.underlying25 size_39 (ev_gv et hc) ev_const (lat_bd (hx10 hc)) (hq3 hc).1)) ?_
 refine s_gval (g_true rfl rfl rfl rfl) rfl (fun hc => (y_fieldAddr rfl (ev_gv et hc) Tryd.underlying39 rfl size_3 rfl)) ?_
 refine s_gval (g_true rfl rfl rfl rfl) rfl (fun hc => (y_load1 (v := (vi e2.At)) rfl (ev_gv et hc) Tryd.underlying3 rfl (CA.part (hq4 hc) rfl).1)) ?_
 refine s_gval (g_true rfl rfl rfl rfl) rfl (fun hc => (y_eql rfl (ev_gv et hc) ev_const)) ?_
 refine sq (y_and rfl et et) ?_
 refine sm ?_
 refine s_gval (g_true rfl rfl rfl rfl) rfl (fun hc => (y_move rfl et)) ?_
 obtain ⟨e3, hx11, h⟩ := bnd_some h
 replace hx11 := gd_some hx11
 obtain ⟨ad3, cs3, hq5⟩ := hI.gclat .z hx11
 have hq6 : (((((((((decide (r1.2.2 = 0)) && (decide (r2.2.2 = 0))) && (decide (r4.2 = 0))) && (decide ((r1.1.length : Int) = 2))) && (decide ((r2.1.length : Int) = 2))) && (decide (r1.2.1 = 4))) && (decide (r2.2.1 = 8))) && (decide (e1.At = 0))) && (decide (e2.At = 0))) = true → CA (Dj F c7) w7 (ad3.add (Int.toNat 1 * 3)) [(str e3.Name), (vi e3.At), (vi e3.Len)] := fun hc => by have k := hq5 hc; have e : cs3 = _ := k.2.1; rw [← e]; exact k.2.2
 refine s_gval (g_true rfl rfl rfl rfl) rfl (fun hc => (y_indexAddr rfl Tryd.underlying25 size_39 (ev_gv et hc) ev_const (lat_bd (hx11 hc)) (hq5 hc).1)) ?_
 refine s_gval (g_true rfl rfl rfl rfl) rfl (fun hc => (y_fieldAddr rfl (ev_gv et hc) Tryd.underlying39 rfl size_3 rfl)) ?_
 refine s_gval (g_true rfl rfl rfl rfl) rfl (fun hc => (y_load1 (v := (vi e3.At)) rfl (ev_gv et hc) Tryd.underlying3 rfl (CA.part (hq6 hc) rfl).1)) ?_
 refine s_gval (g_true rfl rfl rfl rfl) rfl (fun hc => (y_eql rfl (ev_gv et hc) ev_const)) ?_
 refine sq (y_and rfl et et) ?_
 refine sm ?_
 refine s_gval (g_true rfl rfl rfl rfl) rfl (fun hc => (y_move rfl et)) ?_
 obtain ⟨ho1, h⟩ := chk_some h
 obtain ⟨r5, hx12, h⟩ := bnd_some h
 refine s_call (grd_as (g_true rfl rfl rfl rfl) ho1) rfl (r_callF (vs := [(vs (some ⟨b2, 0, none⟩) ([(⟨([97] : List UInt8), 0, 2, 4⟩ : GLifetime), (⟨([98] : List UInt8), 2, 3, 4⟩ : GLifetime)] : List GLifetime).length 2)]) rfl ok_16 ⟨(ev_gv et ho1), trivial⟩) (Calls.mono (c_arena_LowerBound (Dj F c7) w7 hI.lt ([(⟨([97] : List UInt8), 0, 2, 4⟩ : GLifetime), (⟨([98] : List UInt8), 2, 3, 4⟩ : GLifetime)] : List GLifetime) (some ⟨b2, 0, none⟩) 2 ⟨(hI.get (.s .z)), (hI.get (.s (.s (.s (.s .z))))), trivial⟩ r5 hx12) ?_)
 rintro _ w8 ⟨rfl, hx13, hl5⟩
 refine ⟨_, rfl, ?_⟩
 replace hI := (hI.ext hx13)
 refine s_gval (g_true rfl rfl rfl rfl) rfl (fun hc => (y_eql rfl et ev_const)) ?_
 refine sq (y_and rfl et et) ?_
 refine sm ?_
 refine s_gval (g_true rfl rfl rfl rfl) rfl (fun hc => (y_move rfl et)) ?_
 refine s_gval (g_true rfl rfl rfl rfl) rfl (fun hc => (y_eql rfl (ev_gv et hc) ev_const)) ?_
 refine sq (y_and rfl et et) ?_
 refine sm ?_
 refine s_gval (g_true rfl rfl rfl rfl) rfl (fun hc => (y_move rfl et)) ?_
 refine s_gval (g_true rfl rfl rfl rfl) rfl (fun hc => (y_eql rfl (ev_gv et hc) ev_const)) ?_
 refine sq (y_and rfl et et) ?_
 refine sm ?_
 refine s_gval (g_true rfl rfl rfl rfl) rfl (fun hc => (y_move rfl et)) ?_
 refine s_gval (g_true rfl rfl rfl rfl) rfl (fun hc => (y_eql rfl (ev_gv et hc) ev_const)) ?_
 refine sq (y_and rfl et et) ?_
 refine sa ?_
 refine s_nil ?_
 refine k_next (e := [(0, (vb ((((((((((((((decide (r1.2.2 = 0)) && (decide (r2.2.2 = 0))) && (decide (r4.2 = 0))) && (decide ((r1.1.length : Int) = 2))) && (decide ((r2.1.length : Int) = 2))) && (decide (r1.2.1 = 4))) && (decide (r2.2.1 = 8))) && (decide (e1.At = 0))) && (decide (e2.At = 0))) && (decide (e3.At = 4))) && (decide (r5 = 8))) && (decide (r3.1 = 1))) && (decide (r3.2 = 21))) && (decide (r4.1 = 8)))))]) ⟨rfl, trivial⟩ ?_
 refine c_ret ?_
 obtain rfl := some_inj h
 exact q_ret (vs := [(vb ((((((((((((((decide (r1.2.2 = 0)) && (decide (r2.2.2 = 0))) && (decide (r4.2 = 0))) && (decide ((r1.1.length : Int) = 2))) && (decide ((r2.1.length : Int) = 2))) && (decide (r1.2.1 = 4))) && (decide (r2.2.1 = 8))) && (decide (e1.At = 0))) && (decide (e2.At = 0))) && (decide (e3.At = 4))) && (decide (r5 = 8))) && (decide (r3.1 = 1))) && (decide (r3.2 = 21))) && (decide (r4.1 = 8))))]) Tryd.results9 ⟨ev_tmp rfl rfl, trivial⟩ ⟨rfl, hI.ext0, hI.fin trivial⟩
set_option maxRecDepth 100000 in
set_option maxHeartbeats 4000000 in
theorem c_base_Words (F : NP) (w0 : World) (hF : ∀ k, F k → k < w0.heap.size) (hc : AllCl [] F w0) (r : List (List UInt8))
  (h : m_base_Words = some r) :
  Calls Tryd.prog 46 #[] w0 fun e w => ∃ (a1 : Option Addr) (c1 : Nat), e = .returned (vs a1 r.length c1) ∧ Ext w0 w ∧ AllCl [Cl.sl cStr a1 c1 r] F w := by
 refine enterK (l := []) Tryd.func46 rfl Tryd.ntmps46 rfl ?_
 have hI := Bun.start hF hc
 clear hc
 rw [m_base_Words] at h
 refine sr ?_
 refine sac ?_
 refine nk ?_
 refine sr ?_
 refine l_lit (c := cStr) (xs := ([([115, 105, 122, 101] : List UInt8), ([119, 104, 101, 114, 101] : List UInt8), ([105, 110] : List UInt8), ([100, 101, 102] : List UInt8), ([111, 117, 116] : List UInt8), ([115, 117, 109] : List UInt8), ([112, 114, 111, 100] : List UInt8), ([109, 105, 110] : List UInt8), ([109, 97, 120] : List UInt8), ([115, 99, 97, 110] : List UInt8), ([111, 118, 101, 114] : List UInt8), ([105, 102] : List UInt8), ([99, 97, 115, 116] : List UInt8), ([102, 114, 97, 99] : List UInt8), ([105, 110, 116] : List UInt8), ([102, 105, 120] : List UInt8), ([99, 101, 105, 108] : List UInt8), ([102, 108, 111, 111, 114] : List UInt8), ([122, 101, 114, 111] : List UInt8), ([101, 118, 101, 110] : List UInt8), ([115, 97, 116] : List UInt8), ([119, 114, 97, 112] : List UInt8)] : List (List UInt8))) (vs := [(0, (str ([115, 105, 122, 101] : List UInt8))), (1, (str ([119, 104, 101, 114, 101] : List UInt8))), (2, (str ([105, 110] : List UInt8))), (3, (str ([100, 101, 102] : List UInt8))), (4, (str ([111, 117, 116] : List UInt8))), (5, (str ([115, 117, 109] : List UInt8))), (6, (str ([112, 114, 111, 100] : List UInt8))), (7, (str ([109, 105, 110] : List UInt8))), (8, (str ([109, 97, 120] : List UInt8))), (9, (str ([115, 99, 97, 110] : List UInt8))), (10, (str ([111, 118, 101, 114] : List UInt8))), (11, (str ([105, 102] : List UInt8))), (12, (str ([99, 97, 115, 116] : List UInt8))), (13, (str ([102, 114, 97, 99] : List UInt8))), (14, (str ([105, 110, 116] : List UInt8))), (15, (str ([102, 105, 120] : List UInt8))), (16, (str ([99, 101, 105, 108] : List UInt8))), (17, (str ([102, 108, 111, 111, 114] : List UInt8))), (18, (str ([122, 101, 114, 111] : List UInt8))), (19, (str ([101, 118, 101, 110] : List UInt8))), (20, (str ([115, 97, 116] : List UInt8))), (21, (str ([119, 114, 97, 112] : List UInt8)))]) (cs := #[(str ([115, 105, 122, 101] : List UInt8)), (str ([119, 104, 101, 114, 101] : List UInt8)), (str ([105, 110] : List UInt8)), (str ([100, 101, 102] : List UInt8)), (str ([111, 117, 116] : List UInt8)), (str ([115, 117, 109] : List UInt8)), (str ([112, 114, 111, 100] : List UInt8)), (str ([109, 105, 110] : List UInt8)), (str ([109, 97, 120] : List UInt8)), (str ([115, 99, 97, 110] : List UInt8)), (str ([111, 118, 101, 114] : List UInt8)), (str ([105, 102] : List UInt8)), (str ([99, 97, 115, 116] : List UInt8)), (str ([102, 114, 97, 99] : List UInt8)), (str ([105, 110, 116] : List UInt8)), (str ([102, 105, 120] : List UInt8)), (str ([99, 101, 105, 108] : List UInt8)), (str ([102, 108, 111, 111, 114] : List UInt8)), (str ([122, 101, 114, 111] : List UInt8)), (str ([101, 118, 101, 110] : List UInt8)), (str ([115, 97, 116] : List UInt8)), (str ([119, 114, 97, 112] : List UInt8))]) (css := [[(str ([115, 105, 122, 101] : List UInt8))], [(str ([119, 104, 101, 114, 101] : List UInt8))], [(str ([105, 110] : List UInt8))], [(str ([100, 101, 102] : List UInt8))], [(str ([111, 117, 116] : List UInt8))], [(str ([115, 117, 109] : List UInt8))], [(str ([112, 114, 111, 100] : List UInt8))], [(str ([109, 105, 110] : List UInt8))], [(str ([109, 97, 120] : List UInt8))], [(str ([115, 99, 97, 110] : List UInt8))], [(str ([111, 118, 101, 114] : List UInt8))], [(str ([105, 102] : List UInt8))], [(str ([99, 97, 115, 116] : List UInt8))], [(str ([102, 114, 97, 99] : List UInt8))], [(str ([105, 110, 116] : List UInt8))], [(str ([102, 105, 120] : List UInt8))], [(str ([99, 101, 105, 108] : List UInt8))], [(str ([102, 108, 111, 111, 114] : List UInt8))], [(str ([122, 101, 114, 111] : List UInt8))], [(str ([101, 118, 101, 110] : List UInt8))], [(str ([115, 97, 116] : List UInt8))], [(str ([119, 114, 97, 112] : List UInt8))]]) hI gn rfl rfl Tryd.underlying67 info_9 rfl ⟨rfl, ev_const, ⟨rfl, ev_const, ⟨rfl, ev_const, ⟨rfl, ev_const, ⟨rfl, ev_const, ⟨rfl, ev_const, ⟨rfl, ev_const, ⟨rfl, ev_const, ⟨rfl, ev_const, ⟨rfl, ev_const, ⟨rfl, ev_const, ⟨rfl, ev_const, ⟨rfl, ev_const, ⟨rfl, ev_const, ⟨rfl, ev_const, ⟨rfl, ev_const, ⟨rfl, ev_const, ⟨rfl, ev_const, ⟨rfl, ev_const, ⟨rfl, ev_const, ⟨rfl, ev_const, ⟨rfl, ev_const, trivial⟩⟩⟩⟩⟩⟩⟩⟩⟩⟩⟩⟩⟩⟩⟩⟩⟩⟩⟩⟩⟩⟩ (by kernel_rfl) ⟨rfl, ⟨rfl, ⟨rfl, ⟨rfl, ⟨rfl, ⟨rfl, ⟨rfl, ⟨rfl, ⟨rfl, ⟨rfl, ⟨rfl, ⟨rfl, ⟨rfl, ⟨rfl, ⟨rfl, ⟨rfl, ⟨rfl, ⟨rfl, ⟨rfl, ⟨rfl, ⟨rfl, ⟨rfl, trivial⟩⟩⟩⟩⟩⟩⟩⟩⟩⟩⟩⟩⟩⟩⟩⟩⟩⟩⟩⟩⟩⟩ rfl rfl rfl ?_
 clear hI; intro b1 c2 w1 hI
 refine sa ?_
 refine nk ?_
 refine c_ret ?_
 obtain ⟨c3, hI⟩ := hI.release .z
 obtain rfl := some_inj h
 exact q_ret (vs := [(vs (some ⟨b1, 0, none⟩) ([([115, 105, 122, 101] : List UInt8), ([119, 104, 101, 114, 101] : List UInt8), ([105, 110] : List UInt8), ([100, 101, 102] : List UInt8), ([111, 117, 116] : List UInt8), ([115, 117, 109] : List UInt8), ([112, 114, 111, 100] : List UInt8), ([109, 105, 110] : List UInt8), ([109, 97, 120] : List UInt8), ([115, 99, 97, 110] : List UInt8), ([111, 118, 101, 114] : List UInt8), ([105, 102] : List UInt8), ([99, 97, 115, 116] : List UInt8), ([102, 114, 97, 99] : List UInt8), ([105, 110, 116] : List UInt8), ([102, 105, 120] : List UInt8), ([99, 101, 105, 108] : List UInt8), ([102, 108, 111, 111, 114] : List UInt8), ([122, 101, 114, 111] : List UInt8), ([101, 118, 101, 110] : List UInt8), ([115, 97, 116] : List UInt8), ([119, 114, 97, 112] : List UInt8)] : List (List UInt8)).length 22)]) Tryd.results46 ⟨ev_tmp rfl rfl, trivial⟩ ⟨some ⟨b1, 0, none⟩, 22, rfl, hI.ext0, hI.fin ⟨.z, trivial⟩⟩
set_option maxRecDepth 100000 in
set_option maxHeartbeats 4000000 in
theorem c_base_Has (F : NP) (w0 : World) (hF : ∀ k, F k → k < w0.heap.size) (l1 : List (List UInt8)) (s1 : List UInt8) (a1 : Option Addr) (c1 : Nat) (hc : AllCl [Cl.sl cStr a1 c1 l1] F w0) (r : Bool)
  (h : m_base_Has l1 s1 = some r) :
  Calls Tryd.prog 45 #[(vs a1 l1.length c1), (str s1)] w0 fun e w => e = .returned (vb r) ∧ Ext w0 w ∧ AllCl [] F w := by
 refine enterK (l := [(vs a1 l1.length c1), (str s1)]) Tryd.func45 rfl Tryd.ntmps45 rfl ?_
 have hI := Bun.start hF hc
 clear hc
 rw [m_base_Has] at h
 refine sr ?_
 refine sac ?_
 refine nk ?_
 refine c_seq ?_
 refine sr ?_
 refine sac ?_
 refine nk ?_
 refine c_block ?_
 refine c_loop (α := Nat × Int) (fun x => fun w => ∃ C, Bun noM F w0 C w [] [Cl.sl cStr a1 c1 l1] ∧ m_base_Has_l1 l1 s1 (x.1) (x.2) = some r) (fun x _ => x.1) (fun x => [(0, (vs a1 l1.length c1)), (1, (str s1)), (5, (vi (x.2)))]) (fu, 0) ⟨_, hI.arr .n ⟨.z, trivial⟩, h⟩ ⟨rfl, rfl, rfl, trivial⟩ ?_
 clear h hI; rintro ⟨fuel1, i1⟩ w1 ⟨c2, hI, h⟩
 dsimp only at hI h
 rcases fuel1 with _ | fuel1
 ·rw [m_base_Has_l1] at h; cases h
 rw [m_base_Has_l1] at h
 refine c_sub (e := [(0, (vs a1 l1.length c1)), (1, (str s1)), (5, (vi i1))]) ⟨rfl, rfl, rfl, trivial⟩ ?_
 refine c_seq ?_
 refine sr ?_
 refine sm ?_
 refine sm ?_
 refine sq (y_lenl rfl Tryd.underlying67 et) ?_
 refine sq (y_lss rfl et et) ?_
 refine nk ?_
 refine c_cond (b := decide (i1 < (l1.length : Int))) et (fun hb => ?_) (fun hb => ?_)
 ·replace h := ite_t hb h
  refine c_skip ?_
  refine k_same ?_
  refine c_seq ?_
  refine c_block ?_
  refine sr ?_
  refine sm ?_
  refine sm ?_
  obtain ⟨e1, hx1, h⟩ := bnd_some h
  obtain ⟨ad1, cs1, hA1, hr1, hq1⟩ := hI.clat .z hx1
  obtain rfl : cs1 = [(str e1)] := hr1
  refine sq (y_indexAddr rfl Tryd.underlying67 size_9 et et (lat_bd hx1) hA1) ?_
  refine sq (y_load1 (v := (str e1)) rfl et Tryd.underlying9 rfl hq1.1) ?_
  refine sm ?_
  refine sq (y_eqs rfl et et) ?_
  refine nk ?_
  refine c_cond (b := decide (e1 = s1)) et (fun hb => ?_) (fun hb => ?_)
  ·replace h := ite_t hb h
   refine sr ?_
   refine sac ?_
   refine nk ?_
   refine c_ret ?_
   obtain rfl := some_inj h
   exact q_ret (vs := [(vb true)]) Tryd.results45 ⟨ev_tmp rfl rfl, trivial⟩ ⟨rfl, hI.ext0, hI.fin trivial⟩
  ·replace h := ite_f hb h
   refine c_skip ?_
   refine k_same ?_
   refine c_region rfl ?_
   refine sm ?_
   refine sq (y_add rfl et ev_const) ?_
   refine sa ?_
   refine s_nil ?_
   exact k_loop (fuel1, wi64 (i1 + 1)) ⟨rfl, rfl, rfl, trivial⟩ ⟨_, hI.arr .n ⟨.z, trivial⟩, h⟩ (Nat.lt_succ_self _)
 ·replace h := ite_f hb h
  refine c_exit ?_
  refine k_in ?_
  refine k_same ?_
  refine sr ?_
  refine sac ?_
  refine nk ?_
  refine c_ret ?_
  obtain rfl := some_inj h
  exact q_ret (vs := [(vb false)]) Tryd.results45 ⟨ev_tmp rfl rfl, trivial⟩ ⟨rfl, hI.ext0, hI.fin trivial⟩
set_option maxRecDepth 100000 in
set_option maxHeartbeats 4000000 in
theorem c_base_Name (F : NP) (w0 : World) (hF : ∀ k, F k → k < w0.heap.size) (s1 : List UInt8) (hc : AllCl [] F w0) (r : Bool)
  (h : m_base_Name s1 = some r) :
  Calls Tryd.prog 34 #[(str s1)] w0 fun e w => e = .returned (vb r) ∧ Ext w0 w ∧ AllCl [] F w := by
 refine enterK (l := [(str s1)]) Tryd.func34 rfl Tryd.ntmps34 rfl ?_
 have hI := Bun.start hF hc
 clear hc
 rw [m_base_Name] at h
 refine sr ?_
 refine sac ?_
 refine nk ?_
 refine c_seq ?_
 refine sr ?_
 refine sm ?_
 refine sq (y_lens rfl Tryd.underlying9 et) ?_
 refine sq (y_lss rfl et ev_const) ?_
 refine sm ?_
 refine s_gval (g_false rfl rfl rfl rfl) rfl (fun hc => (y_move rfl et)) ?_
 refine s_gval (g_false rfl rfl rfl rfl) rfl (fun hc => (y_lens rfl Tryd.underlying9 (ev_gv et hc))) ?_
 refine s_gval (g_false rfl rfl rfl rfl) rfl (fun hc => (y_gtr rfl (ev_gv et hc) ev_const)) ?_
 refine sq (y_or rfl et et) ?_
 refine sm ?_
 obtain ⟨r1, hx1, h⟩ := bnd_some h
 replace hx1 := gd_some hx1
 refine s_gcallS (β := (Option Addr) × Nat) (fun x => (vs (x.1) r1.length (x.2))) (fun x w' => AllCl [Cl.sl cStr (x.1) (x.2) r1] (Dj F noM) w') (g_false rfl rfl rfl rfl) rfl (fun hc => (r_callF (vs := []) rfl ok_46 trivial)) (fun hc => (c_base_Words (Dj F noM) w0 hI.lt trivial r1 (hx1 hc)).mono fun _ _ ⟨a1, c1, k1_, k2_, k3_⟩ => ⟨(a1, c1), k1_, k2_, k3_⟩) ?_
 rintro ⟨a1, c1⟩ w1 hx2 hl1; replace hI := hI.ext hx2
 have hI := hI.add (c := Cl.gsl (!((decide ((s1.length : Int) < 1)) || (decide (16 < (s1.length : Int))))) cStr a1 c1 r1) (fun hc => (hl1 hc).1)
 refine s_gval (g_false rfl rfl rfl rfl) rfl (fun hc => (y_move rfl et)) ?_
 obtain ⟨r2, hx3, h⟩ := bnd_some h
 replace hx3 := gd_some hx3
 refine s_gcallU (v := (vb r2)) (g_false rfl rfl rfl rfl) rfl (fun hc => (r_callF (vs := [(vs a1 r1.length c1), (str s1)]) rfl ok_45 ⟨(ev_gv et hc), ⟨(ev_gv et hc), trivial⟩⟩)) (fun hc => (c_base_Has (Dj F noM) w1 hI.lt r1 s1 a1 c1 ⟨(hI.get .z hc), trivial⟩ r2 (hx3 hc)).mono fun _ _ k => ⟨k.1, k.2.1⟩) ?_
 intro w2 hx4; replace hI := hI.ext hx4
 refine sq (y_or rfl et et) ?_
 refine nk ?_
 refine c_cond (b := ((decide ((s1.length : Int) < 1)) || (decide (16 < (s1.length : Int)))) || r2) et (fun hb => ?_) (fun hb => ?_)
 ·replace h := ite_t hb h
  refine sr ?_
  refine sac ?_
  refine nk ?_
  refine c_ret ?_
  obtain rfl := some_inj h
  exact q_ret (vs := [(vb false)]) Tryd.results34 ⟨ev_tmp rfl rfl, trivial⟩ ⟨rfl, hI.ext0, hI.fin trivial⟩
 ·replace h := ite_f hb h
  refine c_skip ?_
  refine k_same ?_
  refine c_seq ?_
  refine sr ?_
  refine sac ?_
  refine nk ?_
  refine c_block ?_
  refine c_loop (α := Nat × Int) (fun x => fun w => ∃ C, Bun noM F w0 C w [] [] ∧ m_base_Name_l1 s1 (x.1) (x.2) = some r) (fun x _ => x.1) (fun x => [(0, (str s1)), (3, (vi (x.2)))]) (fu, 0) ⟨_, hI.arr .n trivial, h⟩ ⟨rfl, rfl, trivial⟩ ?_
  clear h hI; rintro ⟨fuel1, i1⟩ w3 ⟨c2, hI, h⟩
  dsimp only at hI h
  rcases fuel1 with _ | fuel1
  ·rw [m_base_Name_l1] at h; cases h
  rw [m_base_Name_l1] at h
  refine c_sub (e := [(0, (str s1)), (3, (vi i1))]) ⟨rfl, rfl, trivial⟩ ?_
  refine c_seq ?_
  refine sr ?_
  refine sm ?_
  refine sm ?_
  refine sq (y_lens rfl Tryd.underlying9 et) ?_
  refine sq (y_lss rfl et et) ?_
  refine nk ?_
  refine c_cond (b := decide (i1 < (s1.length : Int))) et (fun hb => ?_) (fun hb => ?_)
  ·replace h := ite_t hb h
   refine c_skip ?_
   refine k_same ?_
   refine c_seq ?_
   refine c_block ?_
   refine sr ?_
   refine sm ?_
   refine sm ?_
   obtain ⟨b1, hx5, h⟩ := bnd_some h
   refine sq (y_satl rfl Tryd.underlying9 et et hx5) ?_
   refine sa ?_
   refine nk ?_
   refine sr ?_
   refine sm ?_
   refine sq (y_geq rfl et ev_const) ?_
   refine sm ?_
   refine s_gval (g_true rfl rfl rfl rfl) rfl (fun hc => (y_move rfl et)) ?_
   refine s_gval (g_true rfl rfl rfl rfl) rfl (fun hc => (y_leq rfl (ev_gv et hc) ev_const)) ?_
   refine sq (y_and rfl et et) ?_
   refine sm ?_
   refine s_gval (g_false rfl rfl rfl rfl) rfl (fun hc => (y_move rfl et)) ?_
   refine s_gval (g_false rfl rfl rfl rfl) rfl (fun hc => (y_gtr rfl (ev_gv et hc) ev_const)) ?_
   refine s_gval (g_false rfl rfl rfl rfl) rfl (fun hc => (y_move rfl (ev_gv et hc))) ?_
   refine s_gval (g_true2 rfl rfl rfl rfl) rfl (fun hc => (y_move rfl et)) ?_
   refine s_gval (g_true2 rfl rfl rfl rfl) rfl (fun hc => (y_geq rfl (ev_gv et hc) ev_const)) ?_
   refine s_gval (g_true2 rfl rfl rfl rfl) rfl (fun hc => (y_move rfl (ev_gv et hc))) ?_
   refine s_gval (g_true2 rfl rfl rfl rfl) rfl (fun hc => (y_move rfl et)) ?_
   refine s_gval (g_true2 rfl rfl rfl rfl) rfl (fun hc => (y_leq rfl (ev_gv et hc) ev_const)) ?_
   refine s_gval (g_true2 rfl rfl rfl rfl) rfl (fun hc => (y_and2 rfl hc et et)) ?_
   refine s_gval (g_true2 rfl rfl rfl rfl) rfl (fun hc => (y_move rfl (ev_gv et hc))) ?_
   refine s_gval (g_false2 rfl rfl rfl rfl) rfl (fun hc => (y_move rfl et)) ?_
   refine s_gval (g_false2 rfl rfl rfl rfl) rfl (fun hc => (y_eql rfl (ev_gv et hc) ev_const)) ?_
   refine s_gval (g_true2 rfl rfl rfl rfl) rfl (fun hc => (y_or2 rfl hc et et)) ?_
   refine s_gval (g_false rfl rfl rfl rfl) rfl (fun hc => (y_and2 rfl hc et et)) ?_
   refine sq (y_or rfl et et) ?_
   refine sq (y_not rfl et) ?_
   refine s_nil ?_
   refine k_next (e := [(0, (str s1)), (3, (vi i1)), (49, (vb (!(((decide (97 ≤ b1)) && (decide (b1 ≤ 122))) || ((decide (0 < i1)) && (((decide (48 ≤ b1)) && (decide (b1 ≤ 57))) || (decide (b1 = 95))))))))]) ⟨rfl, rfl, rfl, trivial⟩ ?_
   refine c_cond (b := !(((decide (97 ≤ b1)) && (decide (b1 ≤ 122))) || ((decide (0 < i1)) && (((decide (48 ≤ b1)) && (decide (b1 ≤ 57))) || (decide (b1 = 95)))))) et (fun hb => ?_) (fun hb => ?_)
   ·replace h := ite_t hb h
    refine sr ?_
    refine sac ?_
    refine nk ?_
    refine c_ret ?_
    obtain rfl := some_inj h
    exact q_ret (vs := [(vb false)]) Tryd.results34 ⟨ev_tmp rfl rfl, trivial⟩ ⟨rfl, hI.ext0, hI.fin trivial⟩
   ·replace h := ite_f hb h
    refine c_skip ?_
    refine k_same ?_
    refine c_region rfl ?_
    refine sm ?_
    refine sq (y_add rfl et ev_const) ?_
    refine sa ?_
    refine s_nil ?_
    exact k_loop (fuel1, wi64 (i1 + 1)) ⟨rfl, rfl, trivial⟩ ⟨_, hI.arr .n trivial, h⟩ (Nat.lt_succ_self _)
  ·replace h := ite_f hb h
   refine c_exit ?_
   refine k_in ?_
   refine k_same ?_
   refine sr ?_
   refine sac ?_
   refine nk ?_
   refine c_ret ?_
   obtain rfl := some_inj h
   exact q_ret (vs := [(vb true)]) Tryd.results34 ⟨ev_tmp rfl rfl, trivial⟩ ⟨rfl, hI.ext0, hI.fin trivial⟩
set_option maxRecDepth 100000 in
set_option maxHeartbeats 4000000 in
theorem c_ref41_Validate (F : NP) (w0 : World) (hF : ∀ k, F k → k < w0.heap.size) (l1 : List GLifetime) (a1 : Option Addr) (c1 : Nat) (hc : AllCl [Cl.sl cGLifetime a1 c1 l1] F w0) (r : Int)
  (h : m_ref41_Validate l1 = some r) :
  Calls Tryd.prog 23 #[(vs a1 l1.length c1)] w0 fun e w => e = .returned (vi r) ∧ Ext w0 w ∧ AllCl [] F w := by
 refine enterK (l := [(vs a1 l1.length c1)]) Tryd.func23 rfl Tryd.ntmps23 rfl ?_
 have hI := Bun.start hF hc
 clear hc
 rw [m_ref41_Validate] at h
 refine sr ?_
 refine sac ?_
 refine nk ?_
 refine c_seq ?_
 refine sr ?_
 refine sac ?_
 refine nk ?_
 refine c_block ?_
 refine c_loop (α := Nat × Int) (fun x => fun w => ∃ C, Bun noM F w0 C w [] [Cl.sl cGLifetime a1 c1 l1] ∧ m_ref41_Validate_l1 l1 (x.1) (x.2) = some r) (fun x _ => x.1) (fun x => [(0, (vs a1 l1.length c1)), (3, (vi (x.2)))]) (fu, 0) ⟨_, hI.arr .n ⟨.z, trivial⟩, h⟩ ⟨rfl, rfl, trivial⟩ ?_
 clear h hI; rintro ⟨fuel1, i1⟩ w1 ⟨c2, hI, h⟩
 dsimp only at hI h
 rcases fuel1 with _ | fuel1
 ·rw [m_ref41_Validate_l1] at h; cases h
 rw [m_ref41_Validate_l1] at h
 refine c_sub (e := [(0, (vs a1 l1.length c1)), (3, (vi i1))]) ⟨rfl, rfl, trivial⟩ ?_
 refine c_seq ?_
 refine sr ?_
 refine sm ?_
 refine sm ?_
 refine sq (y_lenl rfl Tryd.underlying22 et) ?_
 refine sq (y_lss rfl et et) ?_
 refine nk ?_
 refine c_cond (b := decide (i1 < (l1.length : Int))) et (fun hb => ?_) (fun hb => ?_)
 ·replace h := ite_t hb h
  refine c_skip ?_
  refine k_same ?_
  refine c_join (α := Unit) (fun _ => ⟨69, []⟩) (fun _ => [(0, (vs a1 l1.length c1)), (3, (vi i1))]) (fun _ => fun w => ∃ C, Bun noM F w0 C w [] [Cl.sl cGLifetime a1 c1 l1] ∧ m_ref41_Validate_j1 (m_ref41_Validate_l1 l1 fuel1) i1 = some r) ?_ ?_
  ·clear h hI; rintro _ w2 ⟨c3, hI, h⟩
   try dsimp only at hI h
   rw [m_ref41_Validate_j1] at h
   refine c_sub (e := [(0, (vs a1 l1.length c1)), (3, (vi i1))]) ⟨rfl, rfl, trivial⟩ ?_
   refine c_region rfl ?_
   refine sm ?_
   refine sq (y_add rfl et ev_const) ?_
   refine sa ?_
   refine s_nil ?_
   exact k_loop (fuel1, wi64 (i1 + 1)) ⟨rfl, rfl, trivial⟩ ⟨_, hI.arr .n ⟨.z, trivial⟩, h⟩ (Nat.lt_succ_self _)
  ·skip
   refine c_block ?_
   refine c_seq ?_
   refine sr ?_
   refine sm ?_
   refine sm ?_
   obtain ⟨e1, hx1, h⟩ := bnd_some h
   obtain ⟨ad1, cs1, hA1, hr1, hq1⟩ := hI.clat .z hx1
   obtain rfl : cs1 = [(str e1.Name), (vi e1.From), (vi e1.To), (vi e1.Size)] := hr1
   refine sq (y_indexAddr rfl Tryd.underlying22 size_37 et et (lat_bd hx1) hA1) ?_
   refine sq (y_fieldAddr rfl et Tryd.underlying37 rfl size_9 rfl) ?_
   refine sq (y_load1 (v := (str e1.Name)) rfl et Tryd.underlying9 rfl (CA.part hq1 rfl).1) ?_
   obtain ⟨r1, hx2, h⟩ := bnd_some h
   refine s_call gn rfl (r_callF (vs := [(str e1.Name)]) rfl ok_34 ⟨et, trivial⟩) (Calls.mono (c_base_Name (Dj F c2) w1 hI.lt e1.Name trivial r1 hx2) ?_)
   rintro _ w3 ⟨rfl, hx3, hl1⟩
   refine ⟨_, rfl, ?_⟩
   replace hI := (hI.ext hx3)
   refine sq (y_not rfl et) ?_
   refine nk ?_
   refine c_cond (b := !r1) et (fun hb => ?_) (fun hb => ?_)
   ·replace h := ite_t hb h
    refine sr ?_
    refine sac ?_
    refine nk ?_
    refine c_ret ?_
    obtain rfl := some_inj h
    exact q_ret (vs := [(vi 7)]) Tryd.results23 ⟨ev_tmp rfl rfl, trivial⟩ ⟨rfl, hI.ext0, hI.fin trivial⟩
   ·replace h := ite_f hb h
    refine c_skip ?_
    refine k_same ?_
    refine c_join (α := Unit) (fun _ => ⟨69, []⟩) (fun _ => [(0, (vs a1 l1.length c1)), (3, (vi i1))]) (fun _ => fun w => ∃ C, Bun noM F w0 C w [] [Cl.sl cGLifetime a1 c1 l1] ∧ m_ref41_Validate_j2 l1 i1 (m_ref41_Validate_l1 l1 fuel1) = some r) ?_ ?_
    ·clear h hI; rintro _ w4 ⟨c4, hI, h⟩
     try dsimp only at hI h
     rw [m_ref41_Validate_j2] at h
     refine c_sub (e := [(0, (vs a1 l1.length c1)), (3, (vi i1))]) ⟨rfl, rfl, trivial⟩ ?_
     refine c_seq ?_
     refine c_drawX [] false (.c (0, .q) (.c (1, .q) (.c (2, .q) (.c (3, .q) (.c (4, .q) (.c (5, .q) (.c (6, .q) (.c (7, .q) (.c (8, .q) (.c (9, .q) (.c (10, .q) (.c (11, .q) (.c (12, .q) (.c (13, .q) (.c (14, .q) (.c (15, .q) (.c (16, .q) (.c (17, .q) (.c (18, .q) (.c (19, .q) (.c (20, .q) (.c (21, .q) (.c (22, .q) (.c (23, .q) (.c (24, .q) (.c (25, .q) (.c (26, .q) (.c (27, .q) (.c (28, .q) (.c (29, .q) (.c (30, .q) (.c (31, .q) (.c (32, .q) (.c (33, .q) (.c (34, .q) .n))))))))))))))))))))))))))))))))))) hI (by kernel_rfl) (by kernel_rfl) ?_
     clear hI; intro w5 hI
     refine a_q rfl gn rfl (fun w' => (y_move rfl et)) ?_
     refine a_q rfl gn rfl (fun w' => (y_move rfl et)) ?_
     obtain ⟨e2, hx4, h⟩ := bnd_some h
     obtain ⟨ad2, cs2, hA2, hr2, hq2⟩ := hI.clat .z hx4
     obtain rfl : cs2 = [(str e2.Name), (vi e2.From), (vi e2.To), (vi e2.Size)] := hr2
     refine a_q rfl gn rfl (fun w' => (y_indexAddr rfl Tryd.underlying22 size_37 et et (lat_bd hx4) hA2)) ?_
     refine a_q rfl gn rfl (fun w' => (y_fieldAddr rfl et Tryd.underlying37 rfl size_3 rfl)) ?_
     refine a_read rfl gn rfl (fun w' hw' => (y_load1 (v := (vi e2.From)) rfl et Tryd.underlying3 rfl ((CA.part hq2 rfl).at_ (SX.any rfl hw')))) (by kernel_rfl) ?_
     refine a_q rfl gn rfl (fun w' => (y_lss rfl et ev_const)) ?_
     refine a_q rfl gn rfl (fun w' => (y_move rfl et)) ?_
     refine a_gval rfl (g_false rfl rfl rfl rfl) rfl (fun hc => fun w' => (y_move rfl et)) ?_
     refine a_gval rfl (g_false rfl rfl rfl rfl) rfl (fun hc => fun w' => (y_move rfl et)) ?_
     obtain ⟨e3, hx5, h⟩ := bnd_some h
     replace hx5 := gd_some hx5
     obtain ⟨ad3, cs3, hq3⟩ := hI.gclat .z hx5
     have hq4 : (!(decide (e2.From < 0))) = true → CA (Dj F c4) w5 (ad3.add (Int.toNat i1 * 4)) [(str e3.Name), (vi e3.From), (vi e3.To), (vi e3.Size)] := fun hc => by have k := hq3 hc; have e : cs3 = _ := k.2.1; rw [← e]; exact k.2.2
     refine a_gval rfl (g_false rfl rfl rfl rfl) rfl (fun hc => fun w' => (y_indexAddr rfl Tryd.underlying22 size_37 (ev_gv et hc) (ev_gv et hc) (lat_bd (hx5 hc)) (hq3 hc).1)) ?_
     refine a_gval rfl (g_false rfl rfl rfl rfl) rfl (fun hc => fun w' => (y_fieldAddr rfl (ev_gv et hc) Tryd.underlying37 rfl size_3 rfl)) ?_
     refine a_gread rfl (g_false rfl rfl rfl rfl) rfl (fun hc => fun w' hw' => (y_load1 (v := (vi e3.To)) rfl (ev_gv et hc) Tryd.underlying3 rfl ((CA.part (hq4 hc) rfl).at_ (SX.any rfl hw')))) (by kernel_rfl) ?_
     refine a_gval rfl (g_false rfl rfl rfl rfl) rfl (fun hc => fun w' => (y_move rfl et)) ?_
     refine a_gval rfl (g_false rfl rfl rfl rfl) rfl (fun hc => fun w' => (y_move rfl et)) ?_
     obtain ⟨e4, hx6, h⟩ := bnd_some h
     replace hx6 := gd_some hx6
     obtain ⟨ad4, cs4, hq5⟩ := hI.gclat .z hx6
     have hq6 : (!(decide (e2.From < 0))) = true → CA (Dj F c4) w5 (ad4.add (Int.toNat i1 * 4)) [(str e4.Name), (vi e4.From), (vi e4.To), (vi e4.Size)] := fun hc => by have k := hq5 hc; have e : cs4 = _ := k.2.1; rw [← e]; exact k.2.2
     refine a_gval rfl (g_false rfl rfl rfl rfl) rfl (fun hc => fun w' => (y_indexAddr rfl Tryd.underlying22 size_37 (ev_gv et hc) (ev_gv et hc) (lat_bd (hx6 hc)) (hq5 hc).1)) ?_
     refine a_gval rfl (g_false rfl rfl rfl rfl) rfl (fun hc => fun w' => (y_fieldAddr rfl (ev_gv et hc) Tryd.underlying37 rfl size_3 rfl)) ?_
     refine a_gread rfl (g_false rfl rfl rfl rfl) rfl (fun hc => fun w' hw' => (y_load1 (v := (vi e4.From)) rfl (ev_gv et hc) Tryd.underlying3 rfl ((CA.part (hq6 hc) rfl).at_ (SX.any rfl hw')))) (by kernel_rfl) ?_
     refine a_gval rfl (g_false rfl rfl rfl rfl) rfl (fun hc => fun w' => (y_lss rfl (ev_gv et hc) (ev_gv et hc))) ?_
     refine a_q rfl gn rfl (fun w' => (y_or rfl et et)) ?_
     refine a_q rfl gn rfl (fun w' => (y_move rfl et)) ?_
     refine a_gval rfl (g_false rfl rfl rfl rfl) rfl (fun hc => fun w' => (y_move rfl et)) ?_
     refine a_gval rfl (g_false rfl rfl rfl rfl) rfl (fun hc => fun w' => (y_move rfl et)) ?_
     obtain ⟨e5, hx7, h⟩ := bnd_some h
     replace hx7 := gd_some hx7
     obtain ⟨ad5, cs5, hq7⟩ := hI.gclat .z hx7
     have hq8 : (!((decide (e2.From < 0)) || (decide (e3.To < e4.From)))) = true → CA (Dj F c4) w5 (ad5.add (Int.toNat i1 * 4)) [(str e5.Name), (vi e5.From), (vi e5.To), (vi e5.Size)] := fun hc => by have k := hq7 hc; have e : cs5 = _ := k.2.1; rw [← e]; exact k.2.2
     refine a_gval rfl (g_false rfl rfl rfl rfl) rfl (fun hc => fun w' => (y_indexAddr rfl Tryd.underlying22 size_37 (ev_gv et hc) (ev_gv et hc) (lat_bd (hx7 hc)) (hq7 hc).1)) ?_
     refine a_gval rfl (g_false rfl rfl rfl rfl) rfl (fun hc => fun w' => (y_fieldAddr rfl (ev_gv et hc) Tryd.underlying37 rfl size_3 rfl)) ?_
     refine a_gread rfl (g_false rfl rfl rfl rfl) rfl (fun hc => fun w' hw' => (y_load1 (v := (vi e5.Size)) rfl (ev_gv et hc) Tryd.underlying3 rfl ((CA.part (hq8 hc) rfl).at_ (SX.any rfl hw')))) (by kernel_rfl) ?_
     refine a_gval rfl (g_false rfl rfl rfl rfl) rfl (fun hc => fun w' => (y_lss rfl (ev_gv et hc) ev_const)) ?_
     refine a_q rfl gn rfl (fun w' => (y_or rfl et et)) ?_
     refine a_q rfl gn rfl (fun w' => (y_move rfl et)) ?_
     refine a_gval rfl (g_false rfl rfl rfl rfl) rfl (fun hc => fun w' => (y_move rfl et)) ?_
     refine a_gval rfl (g_false rfl rfl rfl rfl) rfl (fun hc => fun w' => (y_move rfl et)) ?_
     obtain ⟨e6, hx8, h⟩ := bnd_some h
     replace hx8 := gd_some hx8
     obtain ⟨ad6, cs6, hq9⟩ := hI.gclat .z hx8
     have hq10 : (!(((decide (e2.From < 0)) || (decide (e3.To < e4.From))) || (decide (e5.Size < 1)))) = true → CA (Dj F c4) w5 (ad6.add (Int.toNat i1 * 4)) [(str e6.Name), (vi e6.From), (vi e6.To), (vi e6.Size)] := fun hc => by have k := hq9 hc; have e : cs6 = _ := k.2.1; rw [← e]; exact k.2.2
     refine a_gval rfl (g_false rfl rfl rfl rfl) rfl (fun hc => fun w' => (y_indexAddr rfl Tryd.underlying22 size_37 (ev_gv et hc) (ev_gv et hc) (lat_bd (hx8 hc)) (hq9 hc).1)) ?_
     refine a_gval rfl (g_false rfl rfl rfl rfl) rfl (fun hc => fun w' => (y_fieldAddr rfl (ev_gv et hc) Tryd.underlying37 rfl size_3 rfl)) ?_
     refine a_gread rfl (g_false rfl rfl rfl rfl) rfl (fun hc => fun w' hw' => (y_load1 (v := (vi e6.Size)) rfl (ev_gv et hc) Tryd.underlying3 rfl ((CA.part (hq10 hc) rfl).at_ (SX.any rfl hw')))) (by kernel_rfl) ?_
     refine a_gval rfl (g_false rfl rfl rfl rfl) rfl (fun hc => fun w' => (y_gtr rfl (ev_gv et hc) ev_const)) ?_
     refine a_q rfl gn rfl (fun w' => (y_or rfl et et)) ?_
     refine a_nil ?_
     refine k_next (e := [(0, (vs a1 l1.length c1)), (3, (vi i1)), (68, (vb ((((decide (e2.From < 0)) || (decide (e3.To < e4.From))) || (decide (e5.Size < 1))) || (decide (4096 < e6.Size)))))]) ⟨rfl, rfl, rfl, trivial⟩ ?_
     refine c_cond (b := (((decide (e2.From < 0)) || (decide (e3.To < e4.From))) || (decide (e5.Size < 1))) || (decide (4096 < e6.Size))) et (fun hb => ?_) (fun hb => ?_)
     ·replace h := ite_t hb h
      refine sr ?_
      refine sac ?_
      refine nk ?_
      refine c_ret ?_
      obtain rfl := some_inj h
      exact q_ret (vs := [(vi 1)]) Tryd.results23 ⟨ev_tmp rfl rfl, trivial⟩ ⟨rfl, hI.ext0, hI.fin trivial⟩
     ·replace h := ite_f hb h
      refine c_skip ?_
      exact k_join () ⟨rfl, rfl, trivial⟩ ⟨_, hI.arr .n ⟨.z, trivial⟩, h⟩ rfl
    ·skip
     refine sr ?_
     refine sac ?_
     refine nk ?_
     refine c_block ?_
     refine c_loop (α := Nat × Int) (fun x => fun w => ∃ C, Bun noM F w0 C w [] [Cl.sl cGLifetime a1 c1 l1] ∧ m_ref41_Validate_l2 i1 l1 (m_ref41_Validate_l1 l1 fuel1) (x.1) (x.2) = some r) (fun x _ => x.1) (fun x => [(0, (vs a1 l1.length c1)), (3, (vi i1)), (4, (vi (x.2)))]) (fu, 0) ⟨_, hI.arr .n ⟨.z, trivial⟩, h⟩ ⟨rfl, rfl, rfl, trivial⟩ ?_
     clear h hI; rintro ⟨fuel2, k1⟩ w6 ⟨c5, hI, h⟩
     dsimp only at hI h
     rcases fuel2 with _ | fuel2
     ·rw [m_ref41_Validate_l2] at h; cases h
     rw [m_ref41_Validate_l2] at h
     refine c_sub (e := [(0, (vs a1 l1.length c1)), (3, (vi i1)), (4, (vi k1))]) ⟨rfl, rfl, rfl, trivial⟩ ?_
     refine c_seq ?_
     refine sr ?_
     refine sm ?_
     refine sm ?_
     refine sq (y_lss rfl et et) ?_
     refine nk ?_
     refine c_cond (b := decide (k1 < i1)) et (fun hb => ?_) (fun hb => ?_)
     ·replace h := ite_t hb h
      refine c_skip ?_
      refine k_same ?_
      refine c_seq ?_
      refine c_block ?_
      refine c_seq ?_
      refine c_drawX [] false (.c (0, .q) (.c (1, .q) (.c (2, .q) (.c (3, .q) (.c (4, .q) (.c (5, .q) (.c (6, .q) (.c (7, .q) (.c (8, .q) (.c (9, .q) (.c (10, .q) .n))))))))))) hI (by kernel_rfl) (by kernel_rfl) ?_
      clear hI; intro w7 hI
      refine a_q rfl gn rfl (fun w' => (y_move rfl et)) ?_
      refine a_q rfl gn rfl (fun w' => (y_move rfl et)) ?_
      obtain ⟨e7, hx9, h⟩ := bnd_some h
      obtain ⟨ad7, cs7, hA7, hr7, hq11⟩ := hI.clat .z hx9
      obtain rfl : cs7 = [(str e7.Name), (vi e7.From), (vi e7.To), (vi e7.Size)] := hr7
      refine a_q rfl gn rfl (fun w' => (y_indexAddr rfl Tryd.underlying22 size_37 et et (lat_bd hx9) hA7)) ?_
      refine a_q rfl gn rfl (fun w' => (y_fieldAddr rfl et Tryd.underlying37 rfl size_9 rfl)) ?_
      refine a_read rfl gn rfl (fun w' hw' => (y_load1 (v := (str e7.Name)) rfl et Tryd.underlying9 rfl ((CA.part hq11 rfl).at_ (SX.any rfl hw')))) (by kernel_rfl) ?_
      refine a_q rfl gn rfl (fun w' => (y_move rfl et)) ?_
      refine a_q rfl gn rfl (fun w' => (y_move rfl et)) ?_
      obtain ⟨e8, hx10, h⟩ := bnd_some h
      obtain ⟨ad8, cs8, hA8, hr8, hq12⟩ := hI.clat .z hx10
      obtain rfl : cs8 = [(str e8.Name), (vi e8.From), (vi e8.To), (vi e8.Size)] := hr8
      refine a_q rfl gn rfl (fun w' => (y_indexAddr rfl Tryd.underlying22 size_37 et et (lat_bd hx10) hA8)) ?_
      refine a_q rfl gn rfl (fun w' => (y_fieldAddr rfl et Tryd.underlying37 rfl size_9 rfl)) ?_
      refine a_read rfl gn rfl (fun w' hw' => (y_load1 (v := (str e8.Name)) rfl et Tryd.underlying9 rfl ((CA.part hq12 rfl).at_ (SX.any rfl hw')))) (by kernel_rfl) ?_
      refine a_q rfl gn rfl (fun w' => (y_eqs rfl et et)) ?_
      refine a_nil ?_
      refine k_same ?_
      refine c_cond (b := decide (e7.Name = e8.Name)) et (fun hb => ?_) (fun hb => ?_)
      ·replace h := ite_t hb h
       refine sr ?_
       refine sac ?_
       refine nk ?_
       refine c_ret ?_
       obtain rfl := some_inj h
       exact q_ret (vs := [(vi 8)]) Tryd.results23 ⟨ev_tmp rfl rfl, trivial⟩ ⟨rfl, hI.ext0, hI.fin trivial⟩
      ·replace h := ite_f hb h
       refine c_skip ?_
       refine k_same ?_
       refine c_region rfl ?_
       refine sm ?_
       refine sq (y_add rfl et ev_const) ?_
       refine sa ?_
       refine s_nil ?_
       exact k_loop (fuel2, wi64 (k1 + 1)) ⟨rfl, rfl, rfl, trivial⟩ ⟨_, hI.arr .n ⟨.z, trivial⟩, h⟩ (Nat.lt_succ_self _)
     ·replace h := ite_f hb h
      refine c_exit ?_
      refine k_in ?_
      exact k_join () ⟨rfl, rfl, trivial⟩ ⟨_, hI.arr .n ⟨.z, trivial⟩, h⟩ rfl
 ·replace h := ite_f hb h
  refine c_exit ?_
  refine k_in ?_
  refine k_same ?_
  refine sr ?_
  refine sac ?_
  refine nk ?_
  refine c_ret ?_
  obtain rfl := some_inj h
  exact q_ret (vs := [(vi 0)]) Tryd.results23 ⟨ev_tmp rfl rfl, trivial⟩ ⟨rfl, hI.ext0, hI.fin trivial⟩
set_option maxRecDepth 100000 in
set_option maxHeartbeats 4000000 in
theorem c_ref42_LowerBound (F : NP) (w0 : World) (hF : ∀ k, F k → k < w0.heap.size) (l1 : List GLifetime) (a1 : Option Addr) (c1 : Nat) (hc : AllCl [Cl.sl cGLifetime a1 c1 l1] F w0) (r : Int)
  (h : m_ref42_LowerBound l1 = some r) :
  Calls Tryd.prog 14 #[(vs a1 l1.length c1)] w0 fun e w => e = .returned (vi r) ∧ Ext w0 w ∧ AllCl [] F w := by
 refine enterK (l := [(vs a1 l1.length c1)]) Tryd.func14 rfl Tryd.ntmps14 rfl ?_
 have hI := Bun.start hF hc
 clear hc
 rw [m_ref42_LowerBound] at h
 refine sr ?_
 refine sac ?_
 refine nk ?_
 refine c_seq ?_
 refine sr ?_
 refine sm ?_
 obtain ⟨r1, hx1, h⟩ := bnd_some h
 refine s_call gn rfl (r_callF (vs := [(vs a1 l1.length c1)]) rfl ok_23 ⟨et, trivial⟩) (Calls.mono (c_ref41_Validate (Dj F noM) w0 hI.lt l1 a1 c1 ⟨(hI.get .z), trivial⟩ r1 hx1) ?_)
 rintro _ w1 ⟨rfl, hx2, hl1⟩
 refine ⟨_, rfl, ?_⟩
 replace hI := (hI.ext hx2)
 refine sq (y_neq rfl et ev_const) ?_
 refine nk ?_
 refine c_cond (b := !decide (r1 = 0)) et (fun hb => ?_) (fun hb => ?_)
 ·replace h := ite_t hb h
  refine sr ?_
  refine sac ?_
  refine nk ?_
  refine c_ret ?_
  obtain rfl := some_inj h
  exact q_ret (vs := [(vi 0)]) Tryd.results14 ⟨ev_tmp rfl rfl, trivial⟩ ⟨rfl, hI.ext0, hI.fin trivial⟩
 ·replace h := ite_f hb h
  refine c_skip ?_
  refine k_same ?_
  refine sr ?_
  refine sac ?_
  refine nk ?_
  refine c_seq ?_
  refine sr ?_
  refine sac ?_
  refine nk ?_
  refine c_block ?_
  refine c_loop (α := Nat × Int × Int) (fun x => fun w => ∃ C, Bun noM F w0 C w [] [Cl.sl cGLifetime a1 c1 l1] ∧ m_ref42_LowerBound_l1 l1 (x.1) (x.2.1) (x.2.2) = some r) (fun x _ => x.1) (fun x => [(0, (vs a1 l1.length c1)), (3, (vi (x.2.1))), (4, (vi (x.2.2)))]) (fu, 0, 0) ⟨_, hI.arr .n ⟨.z, trivial⟩, h⟩ ⟨rfl, rfl, rfl, trivial⟩ ?_
  clear h hI; rintro ⟨fuel1, most1, i1⟩ w2 ⟨c2, hI, h⟩
  dsimp only at hI h
  rcases fuel1 with _ | fuel1
  ·rw [m_ref42_LowerBound_l1] at h; cases h
  rw [m_ref42_LowerBound_l1] at h
  refine c_sub (e := [(0, (vs a1 l1.length c1)), (3, (vi most1)), (4, (vi i1))]) ⟨rfl, rfl, rfl, trivial⟩ ?_
  refine c_seq ?_
  refine sr ?_
  refine sm ?_
  refine sm ?_
  refine sq (y_lenl rfl Tryd.underlying22 et) ?_
  refine sq (y_lss rfl et et) ?_
  refine nk ?_
  refine c_cond (b := decide (i1 < (l1.length : Int))) et (fun hb => ?_) (fun hb => ?_)
  ·replace h := ite_t hb h
   refine c_skip ?_
   refine k_same ?_
   refine c_join (α := Int) (fun _ => ⟨59, []⟩) (fun x => [(0, (vs a1 l1.length c1)), (3, (vi x)), (4, (vi i1))]) (fun x => fun w => ∃ C, Bun noM F w0 C w [] [Cl.sl cGLifetime a1 c1 l1] ∧ m_ref42_LowerBound_j1 (m_ref42_LowerBound_l1 l1 fuel1) i1 x = some r) ?_ ?_
   ·clear h hI; rintro most2 w3 ⟨c3, hI, h⟩
    try dsimp only at hI h
    rw [m_ref42_LowerBound_j1] at h
    refine c_sub (e := [(0, (vs a1 l1.length c1)), (3, (vi most2)), (4, (vi i1))]) ⟨rfl, rfl, rfl, trivial⟩ ?_
    refine c_region rfl ?_
    refine sm ?_
    refine sq (y_add rfl et ev_const) ?_
    refine sa ?_
    refine s_nil ?_
    exact k_loop (fuel1, most2, wi64 (i1 + 1)) ⟨rfl, rfl, rfl, trivial⟩ ⟨_, hI.arr .n ⟨.z, trivial⟩, h⟩ (Nat.lt_succ_self _)
   ·skip
    refine c_block ?_
    refine sr ?_
    refine sac ?_
    refine nk ?_
    refine c_join (α := Int) (fun _ => ⟨59, []⟩) (fun x => [(0, (vs a1 l1.length c1)), (3, (vi most1)), (4, (vi i1)), (5, (vi x))]) (fun x => fun w => ∃ C, Bun noM F w0 C w [] [Cl.sl cGLifetime a1 c1 l1] ∧ m_ref42_LowerBound_j2 (m_ref42_LowerBound_l1 l1 fuel1) i1 most1 x = some r) ?_ ?_
    ·clear h hI; rintro n1 w4 ⟨c4, hI, h⟩
     try dsimp only at hI h
     rw [m_ref42_LowerBound_j2] at h
     refine c_sub (e := [(0, (vs a1 l1.length c1)), (3, (vi most1)), (4, (vi i1)), (5, (vi n1))]) ⟨rfl, rfl, rfl, rfl, trivial⟩ ?_
     refine c_region rfl ?_
     refine sm ?_
     refine sm ?_
     refine sq (y_max rfl et et) ?_
     refine sa ?_
     refine s_nil ?_
     exact k_join (max most1 n1) ⟨rfl, rfl, rfl, trivial⟩ ⟨_, hI.arr .n ⟨.z, trivial⟩, h⟩ rfl
    ·skip
     refine sr ?_
     refine sac ?_
     refine nk ?_
     refine c_block ?_
     refine c_loop (α := Nat × Int × Int) (fun x => fun w => ∃ C, Bun noM F w0 C w [] [Cl.sl cGLifetime a1 c1 l1] ∧ m_ref42_LowerBound_l2 l1 i1 (m_ref42_LowerBound_l1 l1 fuel1) most1 (x.1) (x.2.1) (x.2.2) = some r) (fun x _ => x.1) (fun x => [(0, (vs a1 l1.length c1)), (3, (vi most1)), (4, (vi i1)), (5, (vi (x.2.1))), (6, (vi (x.2.2)))]) (fu, 0, 0) ⟨_, hI.arr .n ⟨.z, trivial⟩, h⟩ ⟨rfl, rfl, rfl, rfl, rfl, trivial⟩ ?_
     clear h hI; rintro ⟨fuel2, n2, k1⟩ w5 ⟨c5, hI, h⟩
     dsimp only at hI h
     rcases fuel2 with _ | fuel2
     ·rw [m_ref42_LowerBound_l2] at h; cases h
     rw [m_ref42_LowerBound_l2] at h
     refine c_sub (e := [(0, (vs a1 l1.length c1)), (3, (vi most1)), (4, (vi i1)), (5, (vi n2)), (6, (vi k1))]) ⟨rfl, rfl, rfl, rfl, rfl, trivial⟩ ?_
     refine c_seq ?_
     refine sr ?_
     refine sm ?_
     refine sm ?_
     refine sq (y_lenl rfl Tryd.underlying22 et) ?_
     refine sq (y_lss rfl et et) ?_
     refine nk ?_
     refine c_cond (b := decide (k1 < (l1.length : Int))) et (fun hb => ?_) (fun hb => ?_)
     ·replace h := ite_t hb h
      refine c_skip ?_
      refine k_same ?_
      refine c_join (α := Int) (fun _ => ⟨59, []⟩) (fun x => [(0, (vs a1 l1.length c1)), (3, (vi most1)), (4, (vi i1)), (5, (vi x)), (6, (vi k1))]) (fun x => fun w => ∃ C, Bun noM F w0 C w [] [Cl.sl cGLifetime a1 c1 l1] ∧ m_ref42_LowerBound_j3 (m_ref42_LowerBound_l2 l1 i1 (m_ref42_LowerBound_l1 l1 fuel1) most1 fuel2) k1 x = some r) ?_ ?_
      ·clear h hI; rintro n3 w6 ⟨c6, hI, h⟩
       try dsimp only at hI h
       rw [m_ref42_LowerBound_j3] at h
       refine c_sub (e := [(0, (vs a1 l1.length c1)), (3, (vi most1)), (4, (vi i1)), (5, (vi n3)), (6, (vi k1))]) ⟨rfl, rfl, rfl, rfl, rfl, trivial⟩ ?_
       refine c_region rfl ?_
       refine sm ?_
       refine sq (y_add rfl et ev_const) ?_
       refine sa ?_
       refine s_nil ?_
       exact k_loop (fuel2, n3, wi64 (k1 + 1)) ⟨rfl, rfl, rfl, rfl, rfl, trivial⟩ ⟨_, hI.arr .n ⟨.z, trivial⟩, h⟩ (Nat.lt_succ_self _)
      ·skip
       refine c_block ?_
       refine c_seq ?_
       refine c_drawX [] false (.c (0, .q) (.c (1, .q) (.c (2, .q) (.c (3, .q) (.c (4, .q) (.c (5, .q) (.c (6, .q) (.c (7, .q) (.c (8, .q) (.c (9, .q) (.c (10, .q) (.c (11, .q) (.c (12, .q) (.c (13, .q) (.c (14, .q) (.c (15, .q) (.c (16, .q) (.c (17, .q) (.c (18, .q) (.c (19, .q) (.c (20, .q) (.c (21, .q) (.c (22, .q) (.c (23, .q) .n)))))))))))))))))))))))) hI (by kernel_rfl) (by kernel_rfl) ?_
       clear hI; intro w7 hI
       refine a_q rfl gn rfl (fun w' => (y_move rfl et)) ?_
       refine a_q rfl gn rfl (fun w' => (y_move rfl et)) ?_
       obtain ⟨e1, hx3, h⟩ := bnd_some h
       obtain ⟨ad1, cs1, hA1, hr1, hq1⟩ := hI.clat .z hx3
       obtain rfl : cs1 = [(str e1.Name), (vi e1.From), (vi e1.To), (vi e1.Size)] := hr1
       refine a_q rfl gn rfl (fun w' => (y_indexAddr rfl Tryd.underlying22 size_37 et et (lat_bd hx3) hA1)) ?_
       refine a_q rfl gn rfl (fun w' => (y_fieldAddr rfl et Tryd.underlying37 rfl size_3 rfl)) ?_
       refine a_read rfl gn rfl (fun w' hw' => (y_load1 (v := (vi e1.From)) rfl et Tryd.underlying3 rfl ((CA.part hq1 rfl).at_ (SX.any rfl hw')))) (by kernel_rfl) ?_
       refine a_q rfl gn rfl (fun w' => (y_move rfl et)) ?_
       refine a_q rfl gn rfl (fun w' => (y_move rfl et)) ?_
       obtain ⟨e2, hx4, h⟩ := bnd_some h
       obtain ⟨ad2, cs2, hA2, hr2, hq2⟩ := hI.clat .z hx4
       obtain rfl : cs2 = [(str e2.Name), (vi e2.From), (vi e2.To), (vi e2.Size)] := hr2
       refine a_q rfl gn rfl (fun w' => (y_indexAddr rfl Tryd.underlying22 size_37 et et (lat_bd hx4) hA2)) ?_
       refine a_q rfl gn rfl (fun w' => (y_fieldAddr rfl et Tryd.underlying37 rfl size_3 rfl)) ?_
       refine a_read rfl gn rfl (fun w' hw' => (y_load1 (v := (vi e2.From)) rfl et Tryd.underlying3 rfl ((CA.part hq2 rfl).at_ (SX.any rfl hw')))) (by kernel_rfl) ?_
       refine a_q rfl gn rfl (fun w' => (y_leq rfl et et)) ?_
       refine a_q rfl gn rfl (fun w' => (y_move rfl et)) ?_
       refine a_gval rfl (g_true rfl rfl rfl rfl) rfl (fun hc => fun w' => (y_move rfl et)) ?_
       refine a_gval rfl (g_true rfl rfl rfl rfl) rfl (fun hc => fun w' => (y_move rfl et)) ?_
       obtain ⟨e3, hx5, h⟩ := bnd_some h
       replace hx5 := gd_some hx5
       obtain ⟨ad3, cs3, hq3⟩ := hI.gclat .z hx5
       have hq4 : (decide (e1.From ≤ e2.From)) = true → CA (Dj F c5) w7 (ad3.add (Int.toNat i1 * 4)) [(str e3.Name), (vi e3.From), (vi e3.To), (vi e3.Size)] := fun hc => by have k := hq3 hc; have e : cs3 = _ := k.2.1; rw [← e]; exact k.2.2
       refine a_gval rfl (g_true rfl rfl rfl rfl) rfl (fun hc => fun w' => (y_indexAddr rfl Tryd.underlying22 size_37 (ev_gv et hc) (ev_gv et hc) (lat_bd (hx5 hc)) (hq3 hc).1)) ?_
       refine a_gval rfl (g_true rfl rfl rfl rfl) rfl (fun hc => fun w' => (y_fieldAddr rfl (ev_gv et hc) Tryd.underlying37 rfl size_3 rfl)) ?_
       refine a_gread rfl (g_true rfl rfl rfl rfl) rfl (fun hc => fun w' hw' => (y_load1 (v := (vi e3.From)) rfl (ev_gv et hc) Tryd.underlying3 rfl ((CA.part (hq4 hc) rfl).at_ (SX.any rfl hw')))) (by kernel_rfl) ?_
       refine a_gval rfl (g_true rfl rfl rfl rfl) rfl (fun hc => fun w' => (y_move rfl et)) ?_
       refine a_gval rfl (g_true rfl rfl rfl rfl) rfl (fun hc => fun w' => (y_move rfl et)) ?_
       obtain ⟨e4, hx6, h⟩ := bnd_some h
       replace hx6 := gd_some hx6
       obtain ⟨ad4, cs4, hq5⟩ := hI.gclat .z hx6
       have hq6 : (decide (e1.From ≤ e2.From)) = true → CA (Dj F c5) w7 (ad4.add (Int.toNat k1 * 4)) [(str e4.Name), (vi e4.From), (vi e4.To), (vi e4.Size)] := fun hc => by have k := hq5 hc; have e : cs4 = _ := k.2.1; rw [← e]; exact k.2.2
       refine a_gval rfl (g_true rfl rfl rfl rfl) rfl (fun hc => fun w' => (y_indexAddr rfl Tryd.underlying22 size_37 (ev_gv et hc) (ev_gv et hc) (lat_bd (hx6 hc)) (hq5 hc).1)) ?_
       refine a_gval rfl (g_true rfl rfl rfl rfl) rfl (fun hc => fun w' => (y_fieldAddr rfl (ev_gv et hc) Tryd.underlying37 rfl size_3 rfl)) ?_
       refine a_gread rfl (g_true rfl rfl rfl rfl) rfl (fun hc => fun w' hw' => (y_load1 (v := (vi e4.To)) rfl (ev_gv et hc) Tryd.underlying3 rfl ((CA.part (hq6 hc) rfl).at_ (SX.any rfl hw')))) (by kernel_rfl) ?_
       refine a_gval rfl (g_true rfl rfl rfl rfl) rfl (fun hc => fun w' => (y_leq rfl (ev_gv et hc) (ev_gv et hc))) ?_
       refine a_q rfl gn rfl (fun w' => (y_and rfl et et)) ?_
       refine a_nil ?_
       refine k_next (e := [(0, (vs a1 l1.length c1)), (3, (vi most1)), (4, (vi i1)), (5, (vi n2)), (6, (vi k1)), (45, (vb ((decide (e1.From ≤ e2.From)) && (decide (e3.From ≤ e4.To)))))]) ⟨rfl, rfl, rfl, rfl, rfl, rfl, trivial⟩ ?_
       refine c_cond (b := (decide (e1.From ≤ e2.From)) && (decide (e3.From ≤ e4.To))) et (fun hb => ?_) (fun hb => ?_)
       ·replace h := ite_t hb h
        refine c_region rfl ?_
        refine sm ?_
        refine sm ?_
        refine sm ?_
        obtain ⟨e5, hx7, h⟩ := bnd_some h
        obtain ⟨ad5, cs5, hA5, hr5, hq7⟩ := hI.clat .z hx7
        obtain rfl : cs5 = [(str e5.Name), (vi e5.From), (vi e5.To), (vi e5.Size)] := hr5
        refine sq (y_indexAddr rfl Tryd.underlying22 size_37 et et (lat_bd hx7) hA5) ?_
        refine sq (y_fieldAddr rfl et Tryd.underlying37 rfl size_3 rfl) ?_
        refine sq (y_load1 (v := (vi e5.Size)) rfl et Tryd.underlying3 rfl (CA.part hq7 rfl).1) ?_
        refine sq (y_min rfl et ev_const) ?_
        refine sq (y_add rfl et et) ?_
        refine sq (y_min rfl et ev_const) ?_
        obtain ⟨n4, hx8, h⟩ := bnd_some h
        refine sq (binU (y_assign rfl et) (congrArg (Value.int .i64) (some_inj hx8))) ?_
        refine s_nil ?_
        exact k_join n4 ⟨rfl, rfl, rfl, rfl, rfl, trivial⟩ ⟨_, hI.arr .n ⟨.z, trivial⟩, h⟩ rfl
       ·replace h := ite_f hb h
        refine c_skip ?_
        exact k_join n2 ⟨rfl, rfl, rfl, rfl, rfl, trivial⟩ ⟨_, hI.arr .n ⟨.z, trivial⟩, h⟩ rfl
     ·replace h := ite_f hb h
      refine c_exit ?_
      refine k_in ?_
      exact k_join n2 ⟨rfl, rfl, rfl, rfl, trivial⟩ ⟨_, hI.arr .n ⟨.z, trivial⟩, h⟩ rfl
  ·replace h := ite_f hb h
   refine c_exit ?_
   refine k_in ?_
   refine k_same ?_
   refine sr ?_
   refine sm ?_
   refine sa ?_
   refine nk ?_
   refine c_ret ?_
   obtain rfl := some_inj h
   exact q_ret (vs := [(vi most1)]) Tryd.results14 ⟨ev_tmp rfl rfl, trivial⟩ ⟨rfl, hI.ext0, hI.fin trivial⟩
set_option maxRecDepth 100000 in
set_option maxHeartbeats 4000000 in
theorem c_law42_ArenaLowerBound (F : NP) (w0 : World) (hF : ∀ k, F k → k < w0.heap.size) (l1 : List GLifetime) (a1 : Option Addr) (c1 : Nat) (hc : AllCl [Cl.sl cGLifetime a1 c1 l1, clSpace] F w0) (r : Bool)
  (h : m_law42_ArenaLowerBound l1 = some r) :
  Calls Tryd.prog 6 #[(vs a1 l1.length c1)] w0 fun e w => e = .returned (vb r) ∧ Ext w0 w ∧ AllCl [] F w := by
 refine enterK (l := [(vs a1 l1.length c1)]) Tryd.func6 rfl Tryd.ntmps6 rfl ?_
 have hI := Bun.start hF hc
 clear hc
 rw [m_law42_ArenaLowerBound] at h
 refine sr ?_
 refine sac ?_
 refine nk ?_
 refine sr ?_
 refine sm ?_
 obtain ⟨r1, hx1, h⟩ := bnd_some h
 refine s_call gn rfl (r_callF (vs := [(vs a1 l1.length c1), (vi 60)]) rfl ok_8 ⟨et, ⟨ev_const, trivial⟩⟩) (Calls.mono (c_law42_few (Dj F noM) w0 hI.lt l1 60 a1 c1 ⟨(hI.get .z), trivial⟩ r1 hx1) ?_)
 rintro _ w1 ⟨rfl, hx2, hl1⟩
 refine ⟨_, rfl, ?_⟩
 replace hI := (hI.ext hx2)
 refine sq (y_not rfl et) ?_
 refine sm ?_
 obtain ⟨r2, hx3, h⟩ := bnd_some h
 replace hx3 := gd_some hx3
 refine s_gcallU (v := (vb r2)) (g_true rfl rfl rfl rfl) rfl (fun hc => (r_callF (vs := []) rfl ok_9 trivial)) (fun hc => (c_law42_examples (Dj F noM) w1 hI.lt ⟨(hI.get (.s .z)), trivial⟩ r2 (hx3 hc)).mono fun _ _ k => ⟨k.1, k.2.1⟩) ?_
 intro w2 hx4; replace hI := hI.ext hx4
 refine sq (y_and rfl et et) ?_
 refine sm ?_
 refine s_gval (g_false rfl rfl rfl rfl) rfl (fun hc => (y_move rfl et)) ?_
 obtain ⟨r3, hx5, h⟩ := bnd_some h
 replace hx5 := gd_some hx5
 refine s_gcallU (v := (vb r3)) (g_false rfl rfl rfl rfl) rfl (fun hc => (r_callF (vs := [(vs a1 l1.length c1), (vi 60)]) rfl ok_8 ⟨(ev_gv et hc), ⟨ev_const, trivial⟩⟩)) (fun hc => (c_law42_few (Dj F noM) w2 hI.lt l1 60 a1 c1 ⟨(hI.get .z), trivial⟩ r3 (hx5 hc)).mono fun _ _ k => ⟨k.1, k.2.1⟩) ?_
 intro w3 hx6; replace hI := hI.ext hx6
 refine s_gval (g_false rfl rfl rfl rfl) rfl (fun hc => (y_move rfl (ev_gv et hc))) ?_
 refine s_gval (g_true2 rfl rfl rfl rfl) rfl (fun hc => (y_move rfl et)) ?_
 obtain ⟨r4, hx7, h⟩ := bnd_some h
 replace hx7 := gd_some hx7
 refine s_gcallU (v := (vi r4)) (g_true2 rfl rfl rfl rfl) rfl (fun hc => (r_callF (vs := [(vs a1 l1.length c1)]) rfl ok_16 ⟨(ev_gv et hc), trivial⟩)) (fun hc => (c_arena_LowerBound (Dj F noM) w3 hI.lt l1 a1 c1 ⟨(hI.get .z), (hI.get (.s .z)), trivial⟩ r4 (hx7 hc)).mono fun _ _ k => ⟨k.1, k.2.1⟩) ?_
 intro w4 hx8; replace hI := hI.ext hx8
 refine s_gval (g_true2 rfl rfl rfl rfl) rfl (fun hc => (y_move rfl et)) ?_
 obtain ⟨r5, hx9, h⟩ := bnd_some h
 replace hx9 := gd_some hx9
 refine s_gcallU (v := (vi r5)) (g_true2 rfl rfl rfl rfl) rfl (fun hc => (r_callF (vs := [(vs a1 l1.length c1)]) rfl ok_14 ⟨(ev_gv et hc), trivial⟩)) (fun hc => (c_ref42_LowerBound (Dj F noM) w4 hI.lt l1 a1 c1 ⟨(hI.get .z), trivial⟩ r5 (hx9 hc)).mono fun _ _ k => ⟨k.1, k.2.1⟩) ?_
 intro w5 hx10; replace hI := hI.ext hx10
 refine s_gval (g_true2 rfl rfl rfl rfl) rfl (fun hc => (y_eql rfl (ev_gv et hc) (ev_gv et hc))) ?_
 refine s_gval (g_false rfl rfl rfl rfl) rfl (fun hc => (y_and2 rfl hc et et)) ?_
 refine s_gval (g_false rfl rfl rfl rfl) rfl (fun hc => (y_move rfl (ev_gv et hc))) ?_
 obtain ⟨r6, hx11, h⟩ := bnd_some h
 replace hx11 := gd_some hx11
 refine s_gcallU (v := (vb r6)) (g_true2 rfl rfl rfl rfl) rfl (fun hc => (r_callF (vs := []) rfl ok_9 trivial)) (fun hc => (c_law42_examples (Dj F noM) w5 hI.lt ⟨(hI.get (.s .z)), trivial⟩ r6 (hx11 hc)).mono fun _ _ k => ⟨k.1, k.2.1⟩) ?_
 intro w6 hx12; replace hI := hI.ext hx12
 refine s_gval (g_false rfl rfl rfl rfl) rfl (fun hc => (y_and2 rfl hc et et)) ?_
 refine sq (y_or rfl et et) ?_
 refine sa ?_
 refine nk ?_
 refine c_ret ?_
 obtain rfl := some_inj h
 exact q_ret (vs := [(vb (((!r1) && r2) || ((r3 && (decide (r4 = r5))) && r6)))]) Tryd.results6 ⟨ev_tmp rfl rfl, trivial⟩ ⟨rfl, hI.ext0, hI.fin trivial⟩
end Go.Proofs.YtnehbaocbcegpaaDoor
