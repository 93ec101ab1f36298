import Derived.Test.YtaokohndeepbjaaSCtb
namespace Go.Proofs.Ytaokohndeepbjaa
open Go Go.RowKit Go.Vc
set_option linter.unusedVariables false
set_option linter.unusedSimpArgs false
set_option maxRecDepth 100000 in
set_option maxHeartbeats 4000000 in
theorem c_law10_AffineImages (F : NP) (w0 : World) (hF : ∀ k, F k → k < w0.heap.size) (m1 : List GLin) (names1 : List (List UInt8)) (ext1 : List Int) (to1 : List Int) (a1 : Option Addr) (c1 : Nat) (a2 : Option Addr) (c2 : Nat) (a3 : Option Addr) (c3 : Nat) (a4 : Option Addr) (c4 : Nat) (hc : AllCl [Cl.sl cGLin a1 c1 m1, Cl.sl cStr a2 c2 names1, Cl.sl (cInt .i64) a3 c3 ext1, Cl.sl (cInt .i64) a4 c4 to1] F w0) (r : Bool)
  (h : m_law10_AffineImages m1 names1 ext1 to1 = some r) :
  Calls Try.prog 4 #[(vs a1 m1.length c1), (vs a2 names1.length c2), (vs a3 ext1.length c3), (vs a4 to1.length c4)] w0 fun e w => e = .returned (vb r) ∧ Ext w0 w ∧ AllCl [] F w := by
 refine enterK (l := [(vs a1 m1.length c1), (vs a2 names1.length c2), (vs a3 ext1.length c3), (vs a4 to1.length c4)]) Try.func4 rfl Try.ntmps4 rfl ?_
 have hI := Bun.start hF hc
 clear hc
 rw [m_law10_AffineImages] at h
 refine sr ?_
 refine sac ?_
 refine nk ?_
 refine c_seq ?_
 refine sr ?_
 refine sm ?_
 refine sm ?_
 refine sm ?_
 obtain ⟨r1, hx1, h⟩ := bnd_some h
 refine s_call gn rfl (r_callF (vs := [(vs a1 m1.length c1), (vs a2 names1.length c2), (vs a3 ext1.length c3)]) rfl ok_7 ⟨et, ⟨et, ⟨et, trivial⟩⟩⟩) (Calls.mono (c_law10_few (Dj F noM) w0 hI.lt m1 names1 ext1 a1 c1 a2 c2 a3 c3 ⟨(hI.get .z), (hI.get (.s .z)), (hI.get (.s (.s .z))), trivial⟩ r1 hx1) ?_)
 rintro _ w1 ⟨rfl, hx2, hl1⟩
 refine ⟨_, rfl, ?_⟩
 replace hI := (hI.ext hx2)
 refine sq (y_not rfl et) ?_
 refine sm ?_
 refine s_gval (g_false rfl rfl rfl rfl) rfl (fun hc => (y_move rfl et)) ?_
 obtain ⟨r2, hx3, h⟩ := bnd_some h
 replace hx3 := gd_some hx3
 refine s_gcallU (v := (vb r2)) (g_false rfl rfl rfl rfl) rfl (fun hc => (r_callF (vs := [(vs a3 ext1.length c3), (vi 100)]) rfl ok_15 ⟨(ev_gv et hc), ⟨ev_const, trivial⟩⟩)) (fun hc => (c_ref10_Few (Dj F noM) w1 hI.lt ext1 100 a3 c3 ⟨(hI.get (.s (.s .z))), trivial⟩ r2 (hx3 hc)).mono fun _ _ k => ⟨k.1, k.2.1⟩) ?_
 intro w2 hx4; replace hI := hI.ext hx4
 refine s_gval (g_false rfl rfl rfl rfl) rfl (fun hc => (y_not rfl (ev_gv et hc))) ?_
 refine sq (y_or rfl et et) ?_
 refine sm ?_
 refine s_gval (g_false rfl rfl rfl rfl) rfl (fun hc => (y_move rfl et)) ?_
 refine s_gval (g_false rfl rfl rfl rfl) rfl (fun hc => (y_lenl rfl Try.underlying28 (ev_gv et hc))) ?_
 refine s_gval (g_false rfl rfl rfl rfl) rfl (fun hc => (y_gtr rfl (ev_gv et hc) ev_const)) ?_
 refine sq (y_or rfl et et) ?_
 refine nk ?_
 refine c_cond (b := ((!r1) || (!r2)) || (decide (40 < (to1.length : Int)))) et (fun hb => ?_) (fun hb => ?_)
 ·replace h := ite_t hb h
  refine sr ?_
  obtain ⟨r3, hx5, h⟩ := bnd_some h
  refine s_call gn rfl (r_callF (vs := []) rfl ok_9 trivial) (Calls.mono (c_law10_examples (Dj F noM) w2 hI.lt trivial r3 hx5) ?_)
  rintro _ w3 ⟨rfl, hx6, hl3⟩
  refine ⟨_, rfl, ?_⟩
  replace hI := (hI.ext hx6)
  refine sa ?_
  refine nk ?_
  refine c_ret ?_
  obtain rfl := some_inj h
  exact q_ret (vs := [(vb r3)]) Try.results4 ⟨ev_tmp rfl rfl, trivial⟩ ⟨rfl, hI.ext0, hI.fin trivial⟩
 ·replace h := ite_f hb h
  refine c_skip ?_
  refine k_same ?_
  refine sr ?_
  refine sm ?_
  refine sm ?_
  refine sm ?_
  obtain ⟨r4, hx7, h⟩ := bnd_some h
  refine s_call gn rfl (r_callF (vs := [(vs a1 m1.length c1), (vs a2 names1.length c2), (vs a3 ext1.length c3)]) rfl ok_16 ⟨et, ⟨et, ⟨et, trivial⟩⟩⟩) (Calls.mono (c_affine_Image (Dj F noM) w2 hI.lt m1 names1 ext1 a1 c1 a2 c2 a3 c3 ⟨(hI.get .z), (hI.get (.s .z)), (hI.get (.s (.s .z))), trivial⟩ r4 hx7) ?_)
  rintro _ w4 ⟨a5, c5, rfl, hx8, hl4⟩
  refine ⟨_, rfl, ?_⟩
  replace hI := (hI.ext hx8).adds hl4
  refine sm ?_
  refine sq (y_extract rfl et rfl) ?_
  refine sq (y_extract rfl et rfl) ?_
  refine sa ?_
  refine sa ?_
  refine nk ?_
  refine c_seq ?_
  refine sr ?_
  refine sm ?_
  refine sq (y_neq rfl et ev_const) ?_
  refine s_nil ?_
  refine k_next (e := [(0, (vs a1 m1.length c1)), (1, (vs a2 names1.length c2)), (2, (vs a3 ext1.length c3)), (3, (vs a4 to1.length c4)), (9, (vs a5 r4.1.length c5)), (47, (vb (!decide (r4.2 = 0))))]) ⟨rfl, rfl, rfl, rfl, rfl, rfl, trivial⟩ ?_
  refine c_cond (b := !decide (r4.2 = 0)) et (fun hb => ?_) (fun hb => ?_)
  ·replace h := ite_t hb h
   refine sr ?_
   refine sm ?_
   refine sq (y_lenl rfl Try.underlying35 et) ?_
   refine sq (y_eql rfl et ev_const) ?_
   refine sm ?_
   obtain ⟨r5, hx9, h⟩ := bnd_some h
   replace hx9 := gd_some hx9
   refine s_gcallU (v := (vb r5)) (g_true rfl rfl rfl rfl) rfl (fun hc => (r_callF (vs := []) rfl ok_9 trivial)) (fun hc => (c_law10_examples (Dj F noM) w4 hI.lt trivial r5 (hx9 hc)).mono fun _ _ k => ⟨k.1, k.2.1⟩) ?_
   intro w5 hx10; replace hI := hI.ext hx10
   refine sq (y_and rfl et et) ?_
   refine sa ?_
   refine nk ?_
   refine c_ret ?_
   obtain rfl := some_inj h
   exact q_ret (vs := [(vb ((decide ((r4.1.length : Int) = 0)) && r5))]) Try.results4 ⟨ev_tmp rfl rfl, trivial⟩ ⟨rfl, hI.ext0, hI.fin trivial⟩
  ·replace h := ite_f hb h
   refine c_skip ?_
   refine k_same ?_
   refine sr ?_
   refine sm ?_
   refine sm ?_
   refine sm ?_
   obtain ⟨r6, hx11, h⟩ := bnd_some h
   refine s_call gn rfl (r_callF (vs := [(vs a1 m1.length c1), (vs a2 names1.length c2), (vs a3 ext1.length c3)]) rfl ok_17 ⟨et, ⟨et, ⟨et, trivial⟩⟩⟩) (Calls.mono (c_affine_Injective (Dj F noM) w4 hI.lt m1 names1 ext1 a1 c1 a2 c2 a3 c3 ⟨(hI.get (.s .z)), (hI.get (.s (.s .z))), (hI.get (.s (.s (.s .z)))), trivial⟩ r6 hx11) ?_)
   rintro _ w6 ⟨rfl, hx12, hl6⟩
   refine ⟨_, rfl, ?_⟩
   replace hI := (hI.ext hx12)
   refine sm ?_
   refine sq (y_extract rfl et rfl) ?_
   refine sq (y_extract rfl et rfl) ?_
   refine sa ?_
   refine sa ?_
   refine nk ?_
   refine c_seq ?_
   refine sr ?_
   refine sm ?_
   refine sq (y_neq rfl et ev_const) ?_
   refine sm ?_
   refine s_gval (g_false rfl rfl rfl rfl) rfl (fun hc => (y_move rfl et)) ?_
   refine s_gval (g_false rfl rfl rfl rfl) rfl (fun hc => (y_move rfl et)) ?_
   refine s_gval (g_false rfl rfl rfl rfl) rfl (fun hc => (y_lenl rfl Try.underlying35 (ev_gv et hc))) ?_
   refine s_gval (g_false rfl rfl rfl rfl) rfl (fun hc => (y_move rfl et)) ?_
   obtain ⟨r7, hx13, h⟩ := bnd_some h
   replace hx13 := gd_some hx13
   refine s_gcallU (v := (vi r7)) (g_false rfl rfl rfl rfl) rfl (fun hc => (r_callF (vs := [(vs a3 ext1.length c3)]) rfl ok_18 ⟨(ev_gv et hc), trivial⟩)) (fun hc => (c_box_Count (Dj F noM) w6 hI.lt ext1 a3 c3 ⟨(hI.get (.s (.s (.s .z)))), trivial⟩ r7 (hx13 hc)).mono fun _ _ k => ⟨k.1, k.2.1⟩) ?_
   intro w7 hx14; replace hI := hI.ext hx14
   refine s_gval (g_false rfl rfl rfl rfl) rfl (fun hc => (y_eql rfl (ev_gv et hc) (ev_gv et hc))) ?_
   refine s_gval (g_false rfl rfl rfl rfl) rfl (fun hc => (y_neb rfl Try.underlying4 (ev_gv et hc) (ev_gv et hc))) ?_
   refine sq (y_or rfl et et) ?_
   refine nk ?_
   refine c_cond (b := (!decide (r6.2 = 0)) || (r6.1 != (decide ((r4.1.length : Int) = r7)))) et (fun hb => ?_) (fun hb => ?_)
   ·replace h := ite_t hb h
    refine sr ?_
    refine sac ?_
    refine s_nil ?_
    refine k_next (e := [(8, (vb false))]) ⟨rfl, trivial⟩ ?_
    refine c_ret ?_
    obtain rfl := some_inj h
    exact q_ret (vs := [(vb false)]) Try.results4 ⟨ev_tmp rfl rfl, trivial⟩ ⟨rfl, hI.ext0, hI.fin trivial⟩
   ·replace h := ite_f hb h
    refine c_skip ?_
    refine k_same ?_
    refine sr ?_
    refine sac ?_
    refine nk ?_
    refine c_join (α := Bool) (fun _ => ⟨159, []⟩) (fun x => [(0, (vs a1 m1.length c1)), (1, (vs a2 names1.length c2)), (2, (vs a3 ext1.length c3)), (3, (vs a4 to1.length c4)), (13, (vb x))]) (fun x => fun w => ∃ C, Bun noM F w0 C w [] [Cl.sl cGLin a1 c1 m1, Cl.sl cStr a2 c2 names1, Cl.sl (cInt .i64) a3 c3 ext1, Cl.sl (cInt .i64) a4 c4 to1] ∧ m_law10_AffineImages_j1 m1 names1 ext1 to1 x = some r) ?_ ?_
    ·clear h hI; rintro has1 w8 ⟨c6, hI, h⟩
     try dsimp only at hI h
     rw [m_law10_AffineImages_j1] at h
     refine c_sub (e := [(0, (vs a1 m1.length c1)), (1, (vs a2 names1.length c2)), (2, (vs a3 ext1.length c3)), (3, (vs a4 to1.length c4)), (13, (vb has1))]) ⟨rfl, rfl, rfl, rfl, rfl, trivial⟩ ?_
     refine sr ?_
     refine sm ?_
     refine sm ?_
     refine sm ?_
     refine sm ?_
     obtain ⟨r8, hx15, h⟩ := bnd_some h
     refine s_call gn rfl (r_callF (vs := [(vs a1 m1.length c1), (vs a2 names1.length c2), (vs a3 ext1.length c3), (vs a4 to1.length c4)]) rfl ok_20 ⟨et, ⟨et, ⟨et, ⟨et, trivial⟩⟩⟩⟩) (Calls.mono (c_affine_FirstPreimage (Dj F c6) w8 hI.lt m1 names1 ext1 to1 a1 c1 a2 c2 a3 c3 a4 c4 ⟨(hI.get .z), (hI.get (.s .z)), (hI.get (.s (.s .z))), (hI.get (.s (.s (.s .z)))), trivial⟩ r8 hx15) ?_)
     rintro _ w9 ⟨a6, c7, rfl, hx16, hl8⟩
     refine ⟨_, rfl, ?_⟩
     replace hI := (hI.ext hx16).adds hl8
     refine sm ?_
     refine sq (y_extract rfl et rfl) ?_
     refine sq (y_extract rfl et rfl) ?_
     refine sq (y_extract rfl et rfl) ?_
     refine sa ?_
     refine sa ?_
     refine sa ?_
     refine nk ?_
     refine sr ?_
     refine sm ?_
     refine sq (y_neq rfl et ev_const) ?_
     refine sm ?_
     refine s_gval (g_false rfl rfl rfl rfl) rfl (fun hc => (y_move rfl et)) ?_
     refine s_gval (g_false rfl rfl rfl rfl) rfl (fun hc => (y_move rfl et)) ?_
     refine s_gval (g_false rfl rfl rfl rfl) rfl (fun hc => (y_eqb rfl Try.underlying4 (ev_gv et hc) (ev_gv et hc))) ?_
     refine sq (y_or rfl et et) ?_
     refine sm ?_
     obtain ⟨r9, hx17, h⟩ := bnd_some h
     replace hx17 := gd_some hx17
     refine s_gcallU (v := (vb r9)) (g_true rfl rfl rfl rfl) rfl (fun hc => (r_callF (vs := []) rfl ok_9 trivial)) (fun hc => (c_law10_examples (Dj F c6) w9 hI.lt trivial r9 (hx17 hc)).mono fun _ _ k => ⟨k.1, k.2.1⟩) ?_
     intro w10 hx18; replace hI := hI.ext hx18
     refine sq (y_and rfl et et) ?_
     refine sa ?_
     refine s_nil ?_
     refine k_next (e := [(8, (vb (((!decide (r8.2.2 = 0)) || (r8.2.1 == has1)) && r9)))]) ⟨rfl, trivial⟩ ?_
     refine c_ret ?_
     obtain rfl := some_inj h
     exact q_ret (vs := [(vb (((!decide (r8.2.2 = 0)) || (r8.2.1 == has1)) && r9))]) Try.results4 ⟨ev_tmp rfl rfl, trivial⟩ ⟨rfl, hI.ext0, hI.fin trivial⟩
    ·skip
     refine sr ?_
     refine sac ?_
     refine nk ?_
     refine c_block ?_
     refine c_loop (α := Nat × Bool × Int) (fun x => fun w => ∃ C, Bun noM F w0 C w [] [Cl.sl cGLin a1 c1 m1, Cl.sl cStr a2 c2 names1, Cl.sl (cInt .i64) a3 c3 ext1, Cl.sl (cInt .i64) a4 c4 to1, Cl.sl (cSl (cInt .i64)) a5 c5 r4.1] ∧ m_law10_AffineImages_l1 r4 to1 m1 names1 ext1 (x.1) (x.2.1) (x.2.2) = some r) (fun x _ => x.1) (fun x => [(0, (vs a1 m1.length c1)), (1, (vs a2 names1.length c2)), (2, (vs a3 ext1.length c3)), (3, (vs a4 to1.length c4)), (9, (vs a5 r4.1.length c5)), (13, (vb (x.2.1))), (14, (vi (x.2.2)))]) (fu, false, 0) ⟨_, hI.arr .n ⟨(.s .z), (.s (.s .z)), (.s (.s (.s .z))), (.s (.s (.s (.s .z)))), .z, trivial⟩, h⟩ ⟨rfl, rfl, rfl, rfl, rfl, rfl, rfl, trivial⟩ ?_
     clear h hI; rintro ⟨fuel1, has2, i1⟩ w11 ⟨c8, hI, h⟩
     dsimp only at hI h
     rcases fuel1 with _ | fuel1
     ·rw [m_law10_AffineImages_l1] at h; cases h
     rw [m_law10_AffineImages_l1] at h
     refine c_sub (e := [(0, (vs a1 m1.length c1)), (1, (vs a2 names1.length c2)), (2, (vs a3 ext1.length c3)), (3, (vs a4 to1.length c4)), (9, (vs a5 r4.1.length c5)), (13, (vb has2)), (14, (vi i1))]) ⟨rfl, rfl, rfl, rfl, rfl, rfl, rfl, trivial⟩ ?_
     refine c_seq ?_
     refine sr ?_
     refine sm ?_
     refine sm ?_
     refine sq (y_lenl rfl Try.underlying35 et) ?_
     refine sq (y_lss rfl et et) ?_
     refine nk ?_
     refine c_cond (b := decide (i1 < (r4.1.length : Int))) et (fun hb => ?_) (fun hb => ?_)
     ·replace h := ite_t hb h
      refine c_skip ?_
      refine k_same ?_
      refine c_seq ?_
      refine c_block ?_
      refine c_seq ?_
      refine c_seq ?_
      refine c_drawX [] false (.c (0, .q) (.c (1, .q) (.c (2, .q) (.c (3, .q) (.c (4, .q) (.c (5, .q) (.c (6, .q) (.c (7, .q) (.c (8, .q) (.c (9, .q) (.c (10, .q) (.c (11, .q) (.c (12, .s) (.c (13, .q) (.c (14, .q) .n))))))))))))))) hI (by kernel_rfl) (by kernel_rfl) ?_
      clear hI; intro w12 hI
      refine a_q rfl gn rfl (fun w' => (y_move rfl et)) ?_
      refine a_q rfl gn rfl (fun w' => (y_gtr rfl et ev_const)) ?_
      refine a_q rfl gn rfl (fun w' => (y_move rfl et)) ?_
      refine a_gval rfl (g_true rfl rfl rfl rfl) rfl (fun hc => fun w' => (y_move rfl et)) ?_
      refine a_gval rfl (g_true rfl rfl rfl rfl) rfl (fun hc => fun w' => (y_move rfl et)) ?_
      refine a_gval rfl (g_true rfl rfl rfl rfl) rfl (fun hc => fun w' => (y_sub rfl (ev_gv et hc) ev_const)) ?_
      obtain ⟨e1, hx19, h⟩ := bnd_some h
      replace hx19 := gd_some hx19
      obtain ⟨ad1, cs1, hq1⟩ := hI.gclat (.s (.s (.s (.s .z)))) hx19
      obtain ⟨a7, c9, hq2⟩ : ∃ (a7 : Option Addr) (c9 : Nat), (decide (0 < i1)) = true → (a5 = some ad1 ∧ cs1 = [(vs a7 e1.length c9)] ∧ CA (Dj F c8) w12 (ad1.add (Int.toNat (wi64 (i1 - 1)) * 1)) cs1 ∧ SlC (cInt .i64) (Dj F c8) w12 a7 c9 e1) := by
       by_cases hc : (decide (0 < i1)) = true
       ·obtain ⟨k1, k2, k3⟩ := hq1 hc; obtain ⟨a7, c9, rfl, hf1⟩ := k2; exact ⟨a7, c9, fun _ => ⟨k1, rfl, k3, hf1⟩⟩
       ·exact ⟨default, default, fun k => absurd k hc⟩
      clear hq1
      have hI := hI.add (c := Cl.gsl (decide (0 < i1)) (cInt .i64) a7 c9 e1) (fun hc => (hq2 hc).2.2.2)
      have hq3 : (decide (0 < i1)) = true → CA (Dj F c8) w12 (ad1.add (Int.toNat (wi64 (i1 - 1)) * 1)) [(vs a7 e1.length c9)] := fun hc => by have k := hq2 hc; have e : cs1 = _ := k.2.1; rw [← e]; exact k.2.2.1
      refine a_gval rfl (g_true rfl rfl rfl rfl) rfl (fun hc => fun w' => (y_indexAddr rfl Try.underlying35 size_28 (ev_gv et hc) (ev_gv et hc) (lat_bd (hx19 hc)) (hq2 hc).1)) ?_
      refine a_gread rfl (g_true rfl rfl rfl rfl) rfl (fun hc => fun w' hw' => (y_load1 (v := (vs a7 e1.length c9)) rfl (ev_gv et hc) Try.underlying28 rfl ((hq3 hc).at_ (SX.any rfl hw')))) (by kernel_rfl) ?_
      refine a_gval rfl (g_true rfl rfl rfl rfl) rfl (fun hc => fun w' => (y_move rfl et)) ?_
      refine a_gval rfl (g_true rfl rfl rfl rfl) rfl (fun hc => fun w' => (y_move rfl et)) ?_
      obtain ⟨e2, hx20, h⟩ := bnd_some h
      replace hx20 := gd_some hx20
      obtain ⟨ad2, cs2, hq4⟩ := hI.gclat (.s (.s (.s (.s (.s .z))))) hx20
      obtain ⟨a8, c10, hq5⟩ : ∃ (a8 : Option Addr) (c10 : Nat), (decide (0 < i1)) = true → (a5 = some ad2 ∧ cs2 = [(vs a8 e2.length c10)] ∧ CA (Dj F c8) w12 (ad2.add (Int.toNat i1 * 1)) cs2 ∧ SlC (cInt .i64) (Dj F c8) w12 a8 c10 e2) := by
       by_cases hc : (decide (0 < i1)) = true
       ·obtain ⟨k1, k2, k3⟩ := hq4 hc; obtain ⟨a8, c10, rfl, hf2⟩ := k2; exact ⟨a8, c10, fun _ => ⟨k1, rfl, k3, hf2⟩⟩
       ·exact ⟨default, default, fun k => absurd k hc⟩
      clear hq4
      have hI := hI.add (c := Cl.gsl (decide (0 < i1)) (cInt .i64) a8 c10 e2) (fun hc => (hq5 hc).2.2.2)
      have hq6 : (decide (0 < i1)) = true → CA (Dj F c8) w12 (ad2.add (Int.toNat i1 * 1)) [(vs a8 e2.length c10)] := fun hc => by have k := hq5 hc; have e : cs2 = _ := k.2.1; rw [← e]; exact k.2.2.1
      refine a_gval rfl (g_true rfl rfl rfl rfl) rfl (fun hc => fun w' => (y_indexAddr rfl Try.underlying35 size_28 (ev_gv et hc) (ev_gv et hc) (lat_bd (hx20 hc)) (hq5 hc).1)) ?_
      refine a_gread rfl (g_true rfl rfl rfl rfl) rfl (fun hc => fun w' hw' => (y_load1 (v := (vs a8 e2.length c10)) rfl (ev_gv et hc) Try.underlying28 rfl ((hq6 hc).at_ (SX.any rfl hw')))) (by kernel_rfl) ?_
      obtain ⟨r10, hx21, h⟩ := bnd_some h
      replace hx21 := gd_some hx21
      refine la_gcallU (v := (vb r10)) rfl (g_true rfl rfl rfl rfl) rfl (fun hc => (r_callF (vs := [(vs a7 e1.length c9), (vs a8 e2.length c10)]) rfl ok_19 ⟨(ev_gv et hc), ⟨(ev_gv et hc), trivial⟩⟩)) (fun hc => (c_ref10_Less (Dj F c8) w12 hI.lt e1 e2 a7 c9 a8 c10 ⟨(hI.get (.s .z) hc), (hI.get .z hc), trivial⟩ r10 (hx21 hc)).mono fun _ _ k => ⟨k.1, k.2.1⟩) ?_
      intro w13 hx22; replace hI := hI.ext hx22
      refine a_gval rfl (g_true rfl rfl rfl rfl) rfl (fun hc => fun w' => (y_not rfl (ev_gv et hc))) ?_
      refine a_q rfl gn rfl (fun w' => (y_and rfl et et)) ?_
      refine a_nil ?_
      refine k_same ?_
      refine c_cond (b := (decide (0 < i1)) && (!r10)) et (fun hb => ?_) (fun hb => ?_)
      ·replace h := ite_t hb h
       refine sr ?_
       refine sac ?_
       refine s_nil ?_
       refine k_next (e := [(8, (vb false))]) ⟨rfl, trivial⟩ ?_
       refine c_ret ?_
       obtain rfl := some_inj h
       exact q_ret (vs := [(vb false)]) Try.results4 ⟨ev_tmp rfl rfl, trivial⟩ ⟨rfl, hI.ext0, hI.fin trivial⟩
      ·replace h := ite_f hb h
       refine c_skip ?_
       refine k_same ?_
       refine sr ?_
       refine sm ?_
       refine sm ?_
       refine s_gval (g_false rfl rfl rfl rfl) rfl (fun hc => (y_move rfl et)) ?_
       refine s_gval (g_false rfl rfl rfl rfl) rfl (fun hc => (y_move rfl et)) ?_
       obtain ⟨e3, hx23, h⟩ := bnd_some h
       replace hx23 := gd_some hx23
       obtain ⟨ad3, cs3, hq7⟩ := hI.gclat (.s (.s (.s (.s (.s (.s .z)))))) hx23
       obtain ⟨a9, c11, hq8⟩ : ∃ (a9 : Option Addr) (c11 : Nat), (!has2) = true → (a5 = some ad3 ∧ cs3 = [(vs a9 e3.length c11)] ∧ CA (Dj F c8) w13 (ad3.add (Int.toNat i1 * 1)) cs3 ∧ SlC (cInt .i64) (Dj F c8) w13 a9 c11 e3) := by
        by_cases hc : (!has2) = true
        ·obtain ⟨k1, k2, k3⟩ := hq7 hc; obtain ⟨a9, c11, rfl, hf3⟩ := k2; exact ⟨a9, c11, fun _ => ⟨k1, rfl, k3, hf3⟩⟩
        ·exact ⟨default, default, fun k => absurd k hc⟩
       clear hq7
       have hI := hI.add (c := Cl.gsl (!has2) (cInt .i64) a9 c11 e3) (fun hc => (hq8 hc).2.2.2)
       have hq9 : (!has2) = true → CA (Dj F c8) w13 (ad3.add (Int.toNat i1 * 1)) [(vs a9 e3.length c11)] := fun hc => by have k := hq8 hc; have e : cs3 = _ := k.2.1; rw [← e]; exact k.2.2.1
       refine s_gval (g_false rfl rfl rfl rfl) rfl (fun hc => (y_indexAddr rfl Try.underlying35 size_28 (ev_gv et hc) (ev_gv et hc) (lat_bd (hx23 hc)) (hq8 hc).1)) ?_
       refine s_gval (g_false rfl rfl rfl rfl) rfl (fun hc => (y_load1 (v := (vs a9 e3.length c11)) rfl (ev_gv et hc) Try.underlying28 rfl (hq9 hc).1)) ?_
       refine s_gval (g_false rfl rfl rfl rfl) rfl (fun hc => (y_move rfl et)) ?_
       obtain ⟨r11, hx24, h⟩ := bnd_some h
       replace hx24 := gd_some hx24
       refine s_gcallU (v := (vb r11)) (g_false rfl rfl rfl rfl) rfl (fun hc => (r_callF (vs := [(vs a9 e3.length c11), (vs a4 to1.length c4)]) rfl ok_14 ⟨(ev_gv et hc), ⟨(ev_gv et hc), trivial⟩⟩)) (fun hc => (c_base_Int64s (Dj F c8) w13 hI.lt e3 to1 a9 c11 a4 c4 ⟨(hI.get .z hc), (hI.get (.s (.s (.s (.s (.s (.s .z))))))), trivial⟩ r11 (hx24 hc)).mono fun _ _ k => ⟨k.1, k.2.1⟩) ?_
       intro w14 hx25; replace hI := hI.ext hx25
       refine sq (y_or rfl et et) ?_
       refine sa ?_
       refine s_nil ?_
       refine k_next (e := [(0, (vs a1 m1.length c1)), (1, (vs a2 names1.length c2)), (2, (vs a3 ext1.length c3)), (3, (vs a4 to1.length c4)), (9, (vs a5 r4.1.length c5)), (13, (vb (has2 || r11))), (14, (vi i1))]) ⟨rfl, rfl, rfl, rfl, rfl, rfl, rfl, trivial⟩ ?_
       refine sr ?_
       refine sm ?_
       refine sm ?_
       refine sm ?_
       refine sm ?_
       refine sm ?_
       obtain ⟨e4, hx26, h⟩ := bnd_some h
       obtain ⟨ad4, cs4, hA4, hr4, hq10⟩ := hI.clat (.s (.s (.s (.s (.s (.s (.s .z))))))) hx26
       obtain ⟨a10, c12, rfl, hf4⟩ := hr4
       have hI := hI.add (c := Cl.sl (cInt .i64) a10 c12 e4) hf4
       refine sq (y_indexAddr rfl Try.underlying35 size_28 et et (lat_bd hx26) hA4) ?_
       refine sq (y_load1 (v := (vs a10 e4.length c12)) rfl et Try.underlying28 rfl hq10.1) ?_
       obtain ⟨r12, hx27, h⟩ := bnd_some h
       refine s_call gn rfl (r_callF (vs := [(vs a1 m1.length c1), (vs a2 names1.length c2), (vs a3 ext1.length c3), (vs a10 e4.length c12)]) rfl ok_20 ⟨et, ⟨et, ⟨et, ⟨et, trivial⟩⟩⟩⟩) (Calls.mono (c_affine_FirstPreimage (Dj F c8) w14 hI.lt m1 names1 ext1 e4 a1 c1 a2 c2 a3 c3 a10 c12 ⟨(hI.get (.s (.s (.s (.s .z))))), (hI.get (.s (.s (.s (.s (.s .z)))))), (hI.get (.s (.s (.s (.s (.s (.s .z))))))), (hI.get .z), trivial⟩ r12 hx27) ?_)
       rintro _ w15 ⟨a11, c13, rfl, hx28, hl12⟩
       refine ⟨_, rfl, ?_⟩
       replace hI := (hI.ext hx28).adds hl12
       refine sm ?_
       refine sq (y_extract rfl et rfl) ?_
       refine sq (y_extract rfl et rfl) ?_
       refine sq (y_extract rfl et rfl) ?_
       refine sa ?_
       refine sa ?_
       refine sa ?_
       refine nk ?_
       refine sr ?_
       refine sm ?_
       refine sm ?_
       refine sm ?_
       obtain ⟨r13, hx29, h⟩ := bnd_some h
       refine s_call gn rfl (r_callF (vs := [(vs a1 m1.length c1), (vs a2 names1.length c2), (vs a11 r12.1.length c13)]) rfl ok_10 ⟨et, ⟨et, ⟨et, trivial⟩⟩⟩) (Calls.mono (c_affine_Apply (Dj F c8) w15 hI.lt m1 names1 r12.1 a1 c1 a2 c2 a11 c13 ⟨(hI.get (.s (.s (.s (.s (.s .z)))))), (hI.get (.s (.s (.s (.s (.s (.s .z))))))), (hI.get .z), trivial⟩ r13 hx29) ?_)
       rintro _ w16 ⟨a12, c14, rfl, hx30, hl13⟩
       refine ⟨_, rfl, ?_⟩
       replace hI := (hI.ext hx30).adds hl13
       refine sm ?_
       refine sq (y_extract rfl et rfl) ?_
       refine sq (y_extract rfl et rfl) ?_
       refine sa ?_
       refine sa ?_
       refine nk ?_
       refine sr ?_
       refine sm ?_
       refine sq (y_not rfl et) ?_
       refine sm ?_
       refine s_gval (g_false rfl rfl rfl rfl) rfl (fun hc => (y_move rfl et)) ?_
       refine s_gval (g_false rfl rfl rfl rfl) rfl (fun hc => (y_neq rfl (ev_gv et hc) ev_const)) ?_
       refine sq (y_or rfl et et) ?_
       refine sm ?_
       refine s_gval (g_false rfl rfl rfl rfl) rfl (fun hc => (y_move rfl et)) ?_
       refine s_gval (g_false rfl rfl rfl rfl) rfl (fun hc => (y_neq rfl (ev_gv et hc) ev_const)) ?_
       refine sq (y_or rfl et et) ?_
       refine sm ?_
       refine s_gval (g_false rfl rfl rfl rfl) rfl (fun hc => (y_move rfl et)) ?_
       refine s_gval (g_false rfl rfl rfl rfl) rfl (fun hc => (y_move rfl et)) ?_
       refine s_gval (g_false rfl rfl rfl rfl) rfl (fun hc => (y_move rfl et)) ?_
       obtain ⟨e5, hx31, h⟩ := bnd_some h
       replace hx31 := gd_some hx31
       obtain ⟨ad5, cs5, hq11⟩ := hI.gclat (.s (.s (.s (.s (.s (.s (.s (.s (.s (.s .z)))))))))) hx31
       obtain ⟨a13, c15, hq12⟩ : ∃ (a13 : Option Addr) (c15 : Nat), (!(((!r12.2.1) || (!decide (r12.2.2 = 0))) || (!decide (r13.2 = 0)))) = true → (a5 = some ad5 ∧ cs5 = [(vs a13 e5.length c15)] ∧ CA (Dj F c8) w16 (ad5.add (Int.toNat i1 * 1)) cs5 ∧ SlC (cInt .i64) (Dj F c8) w16 a13 c15 e5) := by
        by_cases hc : (!(((!r12.2.1) || (!decide (r12.2.2 = 0))) || (!decide (r13.2 = 0)))) = true
        ·obtain ⟨k1, k2, k3⟩ := hq11 hc; obtain ⟨a13, c15, rfl, hf5⟩ := k2; exact ⟨a13, c15, fun _ => ⟨k1, rfl, k3, hf5⟩⟩
        ·exact ⟨default, default, fun k => absurd k hc⟩
       clear hq11
       have hI := hI.add (c := Cl.gsl (!(((!r12.2.1) || (!decide (r12.2.2 = 0))) || (!decide (r13.2 = 0)))) (cInt .i64) a13 c15 e5) (fun hc => (hq12 hc).2.2.2)
       have hq13 : (!(((!r12.2.1) || (!decide (r12.2.2 = 0))) || (!decide (r13.2 = 0)))) = true → CA (Dj F c8) w16 (ad5.add (Int.toNat i1 * 1)) [(vs a13 e5.length c15)] := fun hc => by have k := hq12 hc; have e : cs5 = _ := k.2.1; rw [← e]; exact k.2.2.1
       refine s_gval (g_false rfl rfl rfl rfl) rfl (fun hc => (y_indexAddr rfl Try.underlying35 size_28 (ev_gv et hc) (ev_gv et hc) (lat_bd (hx31 hc)) (hq12 hc).1)) ?_
       refine s_gval (g_false rfl rfl rfl rfl) rfl (fun hc => (y_load1 (v := (vs a13 e5.length c15)) rfl (ev_gv et hc) Try.underlying28 rfl (hq13 hc).1)) ?_
       obtain ⟨r14, hx32, h⟩ := bnd_some h
       replace hx32 := gd_some hx32
       refine s_gcallU (v := (vb r14)) (g_false rfl rfl rfl rfl) rfl (fun hc => (r_callF (vs := [(vs a12 r13.1.length c14), (vs a13 e5.length c15)]) rfl ok_14 ⟨(ev_gv et hc), ⟨(ev_gv et hc), trivial⟩⟩)) (fun hc => (c_base_Int64s (Dj F c8) w16 hI.lt r13.1 e5 a12 c14 a13 c15 ⟨(hI.get (.s .z)), (hI.get .z hc), trivial⟩ r14 (hx32 hc)).mono fun _ _ k => ⟨k.1, k.2.1⟩) ?_
       intro w17 hx33; replace hI := hI.ext hx33
       refine s_gval (g_false rfl rfl rfl rfl) rfl (fun hc => (y_not rfl (ev_gv et hc))) ?_
       refine sq (y_or rfl et et) ?_
       refine s_nil ?_
       refine k_next (e := [(0, (vs a1 m1.length c1)), (1, (vs a2 names1.length c2)), (2, (vs a3 ext1.length c3)), (3, (vs a4 to1.length c4)), (9, (vs a5 r4.1.length c5)), (13, (vb (has2 || r11))), (14, (vi i1)), (139, (vb ((((!r12.2.1) || (!decide (r12.2.2 = 0))) || (!decide (r13.2 = 0))) || (!r14))))]) ⟨rfl, rfl, rfl, rfl, rfl, rfl, rfl, rfl, trivial⟩ ?_
       refine c_cond (b := (((!r12.2.1) || (!decide (r12.2.2 = 0))) || (!decide (r13.2 = 0))) || (!r14)) et (fun hb => ?_) (fun hb => ?_)
       ·replace h := ite_t hb h
        refine sr ?_
        refine sac ?_
        refine nk ?_
        refine c_ret ?_
        obtain rfl := some_inj h
        exact q_ret (vs := [(vb false)]) Try.results4 ⟨ev_tmp rfl rfl, trivial⟩ ⟨rfl, hI.ext0, hI.fin trivial⟩
       ·replace h := ite_f hb h
        refine c_skip ?_
        refine k_same ?_
        refine c_region rfl ?_
        refine sm ?_
        refine sq (y_add rfl et ev_const) ?_
        refine sa ?_
        refine s_nil ?_
        exact k_loop (fuel1, has2 || r11, wi64 (i1 + 1)) ⟨rfl, rfl, rfl, rfl, rfl, rfl, rfl, trivial⟩ ⟨_, hI.arr .n ⟨(.s (.s (.s (.s (.s (.s (.s .z))))))), (.s (.s (.s (.s (.s (.s (.s (.s .z)))))))), (.s (.s (.s (.s (.s (.s (.s (.s (.s .z))))))))), (.s (.s (.s (.s (.s (.s (.s (.s (.s (.s .z)))))))))), (.s (.s (.s (.s (.s (.s (.s (.s (.s (.s (.s .z))))))))))), trivial⟩, h⟩ (Nat.lt_succ_self _)
     ·replace h := ite_f hb h
      refine c_exit ?_
      refine k_in ?_
      exact k_join has2 ⟨rfl, rfl, rfl, rfl, rfl, trivial⟩ ⟨_, hI.arr .n ⟨.z, (.s .z), (.s (.s .z)), (.s (.s (.s .z))), trivial⟩, h⟩ rfl
end Go.Proofs.Ytaokohndeepbjaa
