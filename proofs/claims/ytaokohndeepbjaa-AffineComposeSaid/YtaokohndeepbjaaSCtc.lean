import Derived.Test.YtaokohndeepbjaaSCtb
namespace Go.Proofs.Ytaokohndeepbjaa
open Go Go.RowKit Go.Vc
set_option linter.unusedVariables false
set_option linter.unusedSimpArgs false
set_option maxRecDepth 100000 in
set_option maxHeartbeats 4000000 in
theorem c_lin_Const (F : NP) (w0 : World) (hF : ∀ k, F k → k < w0.heap.size) (k1 : Int) (hc : AllCl [] F w0) (r : GLin)
  (h : m_lin_Const k1 = some r) :
  Calls Try.prog 41 #[(vi k1)] w0 fun e w => ∃ (a1 : Option Addr) (c1 : Nat), e = .returned (Value.agg #[(vi r.K), (vs a1 r.L.length c1)]) ∧ Ext w0 w ∧ AllCl [Cl.sl cGMono a1 c1 r.L] F w := by
 refine enterK (l := [(vi k1)]) Try.func41 rfl Try.ntmps41 rfl ?_
 have hI := Bun.start hF hc
 clear hc
 rw [m_lin_Const] at h
 refine sr ?_
 refine l_alloc (cs := #[(vi 0), (vs none 0 0)]) hI gn rfl rfl zero_51 rfl ?_
 clear hI; intro b1 c2 w1 hI
 refine nk ?_
 refine sr ?_
 refine sm ?_
 refine sq (y_build (vs := [(0, (vi k1))]) (cs := #[(vi k1), (vs none 0 0)]) rfl ⟨rfl, et, trivial⟩ (by kernel_rfl)) ?_
 refine l_store (new := [(vi k1), (vs none 0 0)]) (cs' := #[(vi k1), (vs none 0 0)]) hI .z gn rfl rfl et et rfl size_51 rfl rfl rfl ?_
 clear hI; intro c3 w2 hI
 refine nk ?_
 refine c_ret ?_
 have hI := hI.add (c := Cl.sl cGMono none 0 ([] : List GMono)) SlC.nil
 obtain rfl := some_inj h
 exact q_ret (vs := [(Value.agg #[(vi k1), (vs none 0 0)])]) Try.results41 ⟨⟨_, ev_tmp rfl rfl, load_agg (l := [(vi k1), (vs none 0 0)]) Try.underlying51 rfl size_51 (CellsAt.of_blk (hI.blk .z) rfl)⟩, trivial⟩ ⟨none, 0, rfl, hI.ext0, hI.fin ⟨.z, trivial⟩⟩
set_option maxRecDepth 100000 in
set_option maxHeartbeats 4000000 in
theorem c_lin_times (F : NP) (w0 : World) (hF : ∀ k, F k → k < w0.heap.size) (a1 : Int) (b1 : Int) (hc : AllCl [] F w0) (r : Int × Bool)
  (h : m_lin_times a1 b1 = some r) :
  Calls Try.prog 62 #[(vi a1), (vi b1)] w0 fun e w => e = .returned (Value.tuple #[(vi r.1), (vb r.2)]) ∧ Ext w0 w ∧ AllCl [] F w := by
 refine enterK (l := [(vi a1), (vi b1)]) Try.func62 rfl Try.ntmps62 rfl ?_
 have hI := Bun.start hF hc
 clear hc
 rw [m_lin_times] at h
 refine sr ?_
 refine sac ?_
 refine sac ?_
 refine nk ?_
 refine sr ?_
 refine sm ?_
 obtain ⟨r1, hx1, h⟩ := bnd_some h
 refine s_call gn rfl (r_callF (vs := [(vi a1)]) rfl ok_69 ⟨et, trivial⟩) (Calls.mono (c_lin_magnitude (Dj F noM) w0 hI.lt a1 trivial r1 hx1) ?_)
 rintro _ w1 ⟨rfl, hx2, hl1⟩
 refine ⟨_, rfl, ?_⟩
 replace hI := (hI.ext hx2)
 refine sm ?_
 obtain ⟨r2, hx3, h⟩ := bnd_some h
 refine s_call gn rfl (r_callF (vs := [(vi b1)]) rfl ok_69 ⟨et, trivial⟩) (Calls.mono (c_lin_magnitude (Dj F noM) w1 hI.lt b1 trivial r2 hx3) ?_)
 rintro _ w2 ⟨rfl, hx4, hl2⟩
 refine ⟨_, rfl, ?_⟩
 replace hI := (hI.ext hx4)
 obtain ⟨r3, hx5, h⟩ := bnd_some h
 refine s_call gn rfl (r_callF (vs := [(Value.int .u64 r1), (Value.int .u64 r2)]) rfl ok_72 ⟨et, ⟨et, trivial⟩⟩) (Calls.mono (c_lin_product (Dj F noM) w2 hI.lt r1 r2 trivial r3 hx5) ?_)
 rintro _ w3 ⟨rfl, hx6, hl3⟩
 refine ⟨_, rfl, ?_⟩
 replace hI := (hI.ext hx6)
 refine sm ?_
 refine sq (y_extract rfl et rfl) ?_
 refine sq (y_extract rfl et rfl) ?_
 refine sa ?_
 refine sa ?_
 refine nk ?_
 refine sr ?_
 refine sm ?_
 refine sq (y_lss rfl et ev_const) ?_
 refine sm ?_
 refine sq (y_lss rfl et ev_const) ?_
 refine sq (y_neb rfl Try.underlying4 et et) ?_
 obtain ⟨negative1, hx7, h⟩ := bnd_some h
 refine sq (binU (y_assign rfl et) (congrArg Value.bool (some_inj hx7))) ?_
 refine nk ?_
 refine c_seq ?_
 refine c_block ?_
 refine sr ?_
 refine sm ?_
 refine sq (y_neq rfl et ev_const) ?_
 refine sm ?_
 refine s_gval (g_false rfl rfl rfl rfl) rfl (fun hc => (y_move rfl et)) ?_
 refine s_gval (g_false rfl rfl rfl rfl) rfl (fun hc => (y_gtr rfl (ev_gv et hc) ev_const)) ?_
 refine sq (y_or rfl et et) ?_
 refine sm ?_
 refine s_gval (g_false rfl rfl rfl rfl) rfl (fun hc => (y_move rfl et)) ?_
 refine s_gval (g_false rfl rfl rfl rfl) rfl (fun hc => (y_eql rfl (ev_gv et hc) ev_const)) ?_
 refine s_gval (g_false rfl rfl rfl rfl) rfl (fun hc => (y_move rfl (ev_gv et hc))) ?_
 refine s_gval (g_true2 rfl rfl rfl rfl) rfl (fun hc => (y_move rfl et)) ?_
 refine s_gval (g_true2 rfl rfl rfl rfl) rfl (fun hc => (y_not rfl (ev_gv et hc))) ?_
 refine s_gval (g_false rfl rfl rfl rfl) rfl (fun hc => (y_and2 rfl hc et et)) ?_
 refine sq (y_or rfl et et) ?_
 refine sa ?_
 refine s_nil ?_
 refine k_next (e := [(7, (Value.int .u64 r3.2)), (8, (vb negative1)), (22, (vb (((!decide (r3.1 = 0)) || (decide (9223372036854775808 < r3.2))) || ((decide (r3.2 = 9223372036854775808)) && (!negative1)))))]) ⟨rfl, rfl, rfl, trivial⟩ ?_
 refine c_cond (b := ((!decide (r3.1 = 0)) || (decide (9223372036854775808 < r3.2))) || ((decide (r3.2 = 9223372036854775808)) && (!negative1))) et (fun hb => ?_) (fun hb => ?_)
 ·replace h := ite_t hb h
  refine sr ?_
  refine sac ?_
  refine sac ?_
  refine nk ?_
  refine c_ret ?_
  obtain rfl := some_inj h
  exact q_ret (vs := [(vi 0), (vb false)]) Try.results62 ⟨ev_tmp rfl rfl, ⟨ev_tmp rfl rfl, trivial⟩⟩ ⟨rfl, hI.ext0, hI.fin trivial⟩
 ·replace h := ite_f hb h
  refine sr ?_
  refine sm ?_
  refine sa ?_
  refine nk ?_
  refine c_cond (b := negative1) et (fun hb => ?_) (fun hb => ?_)
  ·replace h := ite_t hb h
   refine sr ?_
   refine sm ?_
   refine sq (y_neg rfl et) ?_
   refine sq (y_conv rfl (by rw [Try.underlying102]; rfl) Try.underlying2 et) ?_
   refine sa ?_
   refine sac ?_
   refine nk ?_
   refine c_ret ?_
   obtain rfl := some_inj h
   exact q_ret (vs := [(vi (wi64 (wu64 (-r3.2)))), (vb true)]) Try.results62 ⟨ev_tmp rfl rfl, ⟨ev_tmp rfl rfl, trivial⟩⟩ ⟨rfl, hI.ext0, hI.fin trivial⟩
  ·replace h := ite_f hb h
   refine c_skip ?_
   refine k_same ?_
   refine sr ?_
   refine sm ?_
   refine sq (y_conv rfl (by rw [Try.underlying102]; rfl) Try.underlying2 et) ?_
   refine sa ?_
   refine sac ?_
   refine nk ?_
   refine c_ret ?_
   obtain rfl := some_inj h
   exact q_ret (vs := [(vi (wi64 r3.2)), (vb true)]) Try.results62 ⟨ev_tmp rfl rfl, ⟨ev_tmp rfl rfl, trivial⟩⟩ ⟨rfl, hI.ext0, hI.fin trivial⟩
set_option maxRecDepth 100000 in
set_option maxHeartbeats 4000000 in
theorem c_lin_Scale (F : NP) (w0 : World) (hF : ∀ k, F k → k < w0.heap.size) (a1 : GLin) (by1 : Int) (a2 : Option Addr) (c1 : Nat) (hc : AllCl [Cl.sl cGMono a2 c1 a1.L] F w0) (r : GLin × Int)
  (h : m_lin_Scale a1 by1 = some r) :
  Calls Try.prog 42 #[(Value.agg #[(vi a1.K), (vs a2 a1.L.length c1)]), (vi by1)] w0 fun e w => ∃ (a3 : Option Addr) (c2 : Nat), e = .returned (Value.tuple #[(Value.agg #[(vi r.1.K), (vs a3 r.1.L.length c2)]), (vi r.2)]) ∧ Ext w0 w ∧ AllCl [Cl.sl cGMono a3 c2 r.1.L] F w := by
 refine enterK (l := [(Value.agg #[(vi a1.K), (vs a2 a1.L.length c1)]), (vi by1)]) Try.func42 rfl Try.ntmps42 rfl ?_
 have hI := Bun.start hF hc
 clear hc
 rw [m_lin_Scale] at h
 refine sr ?_
 refine l_box (v := (Value.agg #[(vi a1.K), (vs a2 a1.L.length c1)])) (cs := #[(vi a1.K), (vs a2 a1.L.length c1)]) hI gn rfl rfl et rfl ?_
 clear hI; intro b1 c3 w1 hI
 obtain ⟨c4, hI⟩ := hI.relBox .z
 refine l_alloc (cs := #[(vi 0), (vs none 0 0)]) hI gn rfl rfl zero_51 rfl ?_
 clear hI; intro b2 c5 w2 hI
 refine sac ?_
 refine nk ?_
 refine c_seq ?_
 refine sr ?_
 refine sq (y_loadN (l := [(vi a1.K), (vs a2 a1.L.length c1)]) rfl et Try.underlying51 rfl size_51 (hI.kblk (l := [(vi a1.K), (vs a2 a1.L.length c1)]) .z rfl).1) ?_
 obtain ⟨r1, hx1, h⟩ := bnd_some h
 refine s_call gn rfl (r_callF (vs := [(Value.agg #[(vi a1.K), (vs a2 a1.L.length c1)])]) rfl ok_28 ⟨et, trivial⟩) (Calls.mono (c_lin_Validate (Dj F c5) w2 hI.lt a1 a2 c1 ⟨(hI.get (.s .z)), trivial⟩ r1 hx1) ?_)
 rintro _ w3 ⟨rfl, hx2, hl1⟩
 refine ⟨_, rfl, ?_⟩
 replace hI := (hI.ext hx2)
 refine sq (y_neq rfl et ev_const) ?_
 refine nk ?_
 refine c_cond (b := !decide (r1 = 0)) et (fun hb => ?_) (fun hb => ?_)
 ·replace h := ite_t hb h
  refine sr ?_
  refine sq (y_build (vs := []) (cs := #[(vi 0), (vs none 0 0)]) rfl trivial (by kernel_rfl)) ?_
  refine l_store (new := [(vi 0), (vs none 0 0)]) (cs' := #[(vi 0), (vs none 0 0)]) hI .z gn rfl rfl et et rfl size_51 rfl rfl rfl ?_
  clear hI; intro c6 w4 hI
  refine sac ?_
  refine nk ?_
  refine c_ret ?_
  have hI := hI.add (c := Cl.sl cGMono none 0 ([] : List GMono)) SlC.nil
  obtain rfl := some_inj h
  exact q_ret (vs := [(Value.agg #[(vi 0), (vs none 0 0)]), (vi 1)]) Try.results42 ⟨⟨_, ev_tmp rfl rfl, load_agg (l := [(vi 0), (vs none 0 0)]) Try.underlying51 rfl size_51 (CellsAt.of_blk (hI.blk .z) rfl)⟩, ⟨ev_tmp rfl rfl, trivial⟩⟩ ⟨none, 0, rfl, hI.ext0, hI.fin ⟨.z, trivial⟩⟩
 ·replace h := ite_f hb h
  refine c_skip ?_
  refine k_same ?_
  refine c_seq ?_
  refine sr ?_
  refine sm ?_
  refine sq (y_eql rfl et ev_const) ?_
  refine nk ?_
  refine c_cond (b := decide (by1 = 0)) et (fun hb => ?_) (fun hb => ?_)
  ·replace h := ite_t hb h
   refine sr ?_
   refine sq (y_build (vs := []) (cs := #[(vi 0), (vs none 0 0)]) rfl trivial (by kernel_rfl)) ?_
   refine l_store (new := [(vi 0), (vs none 0 0)]) (cs' := #[(vi 0), (vs none 0 0)]) hI .z gn rfl rfl et et rfl size_51 rfl rfl rfl ?_
   clear hI; intro c7 w5 hI
   refine sac ?_
   refine nk ?_
   refine c_ret ?_
   have hI := hI.add (c := Cl.sl cGMono none 0 ([] : List GMono)) SlC.nil
   obtain rfl := some_inj h
   exact q_ret (vs := [(Value.agg #[(vi 0), (vs none 0 0)]), (vi 0)]) Try.results42 ⟨⟨_, ev_tmp rfl rfl, load_agg (l := [(vi 0), (vs none 0 0)]) Try.underlying51 rfl size_51 (CellsAt.of_blk (hI.blk .z) rfl)⟩, ⟨ev_tmp rfl rfl, trivial⟩⟩ ⟨none, 0, rfl, hI.ext0, hI.fin ⟨.z, trivial⟩⟩
  ·replace h := ite_f hb h
   refine c_skip ?_
   refine k_same ?_
   refine sr ?_
   refine sq (y_fieldAddr rfl et Try.underlying51 rfl size_2 rfl) ?_
   refine sq (y_load1 (v := (vi a1.K)) rfl et Try.underlying2 rfl (hI.kblk (l := [(vi a1.K)]) .z rfl).1) ?_
   refine sm ?_
   obtain ⟨r2, hx3, h⟩ := bnd_some h
   refine s_call gn rfl (r_callF (vs := [(vi a1.K), (vi by1)]) rfl ok_62 ⟨et, ⟨et, trivial⟩⟩) (Calls.mono (c_lin_times (Dj F c5) w3 hI.lt a1.K by1 trivial r2 hx3) ?_)
   rintro _ w6 ⟨rfl, hx4, hl2⟩
   refine ⟨_, rfl, ?_⟩
   replace hI := (hI.ext hx4)
   refine sm ?_
   refine sq (y_extract rfl et rfl) ?_
   refine sq (y_extract rfl et rfl) ?_
   refine sa ?_
   refine sa ?_
   refine nk ?_
   refine sr ?_
   refine sm ?_
   refine sq (y_build (vs := [(0, (vi r2.1))]) (cs := #[(vi r2.1), (vs none 0 0)]) rfl ⟨rfl, et, trivial⟩ (by kernel_rfl)) ?_
   refine l_alloc (cs := #[(vi 0), (vs none 0 0)]) hI gn rfl rfl zero_51 rfl ?_
   clear hI; intro b3 c8 w7 hI
   refine l_store (new := [(vi r2.1), (vs none 0 0)]) (cs' := #[(vi r2.1), (vs none 0 0)]) hI .z gn rfl rfl et et rfl size_51 rfl rfl rfl ?_
   clear hI; intro c9 w8 hI
   refine nk ?_
   refine c_join (α := Bool × GLin × (Option Addr) × Nat) (fun _ => ⟨61, []⟩) (fun x => [(4, (vp b2 0)), (7, (vb (x.1))), (8, (vp b3 0))]) (fun x => fun w => ∃ C, Bun noM F w0 C w [MO.row cGMono 53 (x.2.2.1) (x.2.2.2) (x.2.1).L, MO.box b2 51 #[(vi 0), (vs none 0 0)], MO.box b3 51 #[(vi (x.2.1).K), (vs (x.2.2.1) (x.2.1).L.length (x.2.2.2))]] [] ∧ m_lin_Scale_j1 (x.1) (x.2.1) = some r) ?_ ?_
   ·clear h hI; rintro ⟨fits1, out1, a4, c10⟩ w9 ⟨c11, hI, h⟩
    try dsimp only at hI h
    rw [m_lin_Scale_j1] at h
    refine c_sub (e := [(4, (vp b2 0)), (7, (vb fits1)), (8, (vp b3 0))]) ⟨rfl, rfl, rfl, trivial⟩ ?_
    refine c_seq ?_
    refine sr ?_
    refine sm ?_
    refine sq (y_not rfl et) ?_
    refine nk ?_
    refine c_cond (b := !fits1) et (fun hb => ?_) (fun hb => ?_)
    ·replace h := ite_t hb h
     refine sr ?_
     refine sq (y_build (vs := []) (cs := #[(vi 0), (vs none 0 0)]) rfl trivial (by kernel_rfl)) ?_
     refine l_store (new := [(vi 0), (vs none 0 0)]) (cs' := #[(vi 0), (vs none 0 0)]) hI (.s .z) gn rfl rfl et et rfl size_51 rfl rfl rfl ?_
     clear hI; intro c12 w10 hI
     refine sac ?_
     refine nk ?_
     refine c_ret ?_
     have hI := hI.add (c := Cl.sl cGMono none 0 ([] : List GMono)) SlC.nil
     obtain rfl := some_inj h
     exact q_ret (vs := [(Value.agg #[(vi 0), (vs none 0 0)]), (vi 3)]) Try.results42 ⟨⟨_, ev_tmp rfl rfl, load_agg (l := [(vi 0), (vs none 0 0)]) Try.underlying51 rfl size_51 (CellsAt.of_blk (hI.blk (.s .z)) rfl)⟩, ⟨ev_tmp rfl rfl, trivial⟩⟩ ⟨none, 0, rfl, hI.ext0, hI.fin ⟨.z, trivial⟩⟩
    ·replace h := ite_f hb h
     refine c_skip ?_
     refine k_same ?_
     refine sr ?_
     refine sq (y_loadN (l := [(vi out1.K), (vs a4 out1.L.length c10)]) rfl et Try.underlying51 rfl size_51 (CellsAt.of_blk (hI.blk (.s (.s .z))) rfl)) ?_
     refine l_store (new := [(vi out1.K), (vs a4 out1.L.length c10)]) (cs' := #[(vi out1.K), (vs a4 out1.L.length c10)]) hI (.s .z) gn rfl rfl et et rfl size_51 rfl rfl rfl ?_
     clear hI; intro c13 w11 hI
     refine sac ?_
     refine nk ?_
     refine c_ret ?_
     obtain ⟨c14, hI⟩ := hI.release .z
     obtain rfl := some_inj h
     exact q_ret (vs := [(Value.agg #[(vi out1.K), (vs a4 out1.L.length c10)]), (vi 0)]) Try.results42 ⟨⟨_, ev_tmp rfl rfl, load_agg (l := [(vi out1.K), (vs a4 out1.L.length c10)]) Try.underlying51 rfl size_51 (CellsAt.of_blk (hI.blk .z) rfl)⟩, ⟨ev_tmp rfl rfl, trivial⟩⟩ ⟨a4, c10, rfl, hI.ext0, hI.fin ⟨.z, trivial⟩⟩
   ·skip
    refine sr ?_
    refine sq (y_fieldAddr rfl et Try.underlying51 rfl size_49 rfl) ?_
    refine sq (y_load1 (v := (vs a2 a1.L.length c1)) rfl et Try.underlying49 rfl (hI.kblk (l := [(vs a2 a1.L.length c1)]) .z rfl).1) ?_
    refine sq (y_lenl rfl Try.underlying49 et) ?_
    refine sq (y_move rfl ev_const) ?_
    refine nk ?_
    refine c_block ?_
    have hI := hI.nil cGMono 53 none
    refine c_loop (α := Nat × Bool × Int × GLin × (Option Addr) × Nat) (fun x => fun w => ∃ C, Bun noM F w0 C w [MO.row cGMono 53 (x.2.2.2.2.1) (x.2.2.2.2.2) (x.2.2.2.1).L, MO.box b2 51 #[(vi 0), (vs none 0 0)], MO.box b3 51 #[(vi (x.2.2.2.1).K), (vs (x.2.2.2.2.1) (x.2.2.2.1).L.length (x.2.2.2.2.2))]] [Cl.sl cGMono a2 c1 a1.L] ∧ m_lin_Scale_l1 a1 by1 (x.1) (x.2.1) (x.2.2.1) (x.2.2.2.1) = some r) (fun x _ => x.1) (fun x => [(1, (vi by1)), (4, (vp b2 0)), (7, (vb (x.2.1))), (8, (vp b3 0)), (30, (vs a2 a1.L.length c1)), (31, (vi (a1.L.length : Int))), (32, (vi (x.2.2.1)))]) (fu, r2.2, 0, (⟨r2.1, ([] : List GMono)⟩ : GLin), none, 0) ⟨_, hI.arr (.c .z (.c (.s .z) (.c .z .n))) ⟨(.s .z), trivial⟩, h⟩ ⟨rfl, rfl, rfl, rfl, rfl, rfl, rfl, trivial⟩ ?_
    clear h hI; rintro ⟨fuel1, fits2, i1, out2, a5, c15⟩ w12 ⟨c16, hI, h⟩
    dsimp only at hI h
    rcases fuel1 with _ | fuel1
    ·rw [m_lin_Scale_l1] at h; cases h
    rw [m_lin_Scale_l1] at h
    refine c_sub (e := [(1, (vi by1)), (4, (vp b2 0)), (7, (vb fits2)), (8, (vp b3 0)), (30, (vs a2 a1.L.length c1)), (31, (vi (a1.L.length : Int))), (32, (vi i1))]) ⟨rfl, rfl, rfl, rfl, rfl, rfl, rfl, trivial⟩ ?_
    refine sr ?_
    refine sq (y_lss rfl et et) ?_
    refine nk ?_
    refine c_seq ?_
    refine c_cond (b := decide (i1 < (a1.L.length : Int))) et (fun hb => ?_) (fun hb => ?_)
    ·replace h := ite_t hb h
     refine c_skip ?_
     refine k_same ?_
     refine c_seq ?_
     refine c_block ?_
     refine sr ?_
     obtain ⟨e1, hx5, h⟩ := bnd_some h
     obtain ⟨ad1, cs1, hA1, hr1, hq1⟩ := hI.clat .z hx5
     obtain rfl : cs1 = [(str e1.Name), (vi e1.By)] := hr1
     refine sq (y_indexAddr rfl Try.underlying49 size_53 et et (lat_bd hx5) hA1) ?_
     refine sq (y_loadN (l := [(str e1.Name), (vi e1.By)]) rfl et Try.underlying53 rfl size_53 hq1.1) ?_
     refine l_alloc (cs := #[(str ([] : List UInt8)), (vi 0)]) hI gn rfl rfl zero_53 rfl ?_
     clear hI; intro b4 c17 w13 hI
     refine l_store (new := [(str e1.Name), (vi e1.By)]) (cs' := #[(str e1.Name), (vi e1.By)]) hI .z gn rfl rfl et et rfl size_53 rfl rfl rfl ?_
     clear hI; intro c18 w14 hI
     refine nk ?_
     refine sr ?_
     refine sq (y_fieldAddr rfl et Try.underlying53 rfl size_2 rfl) ?_
     refine sq (y_load1 (v := (vi e1.By)) rfl et Try.underlying2 rfl (CellsAt.of_blk (hI.blk .z) rfl)) ?_
     refine sm ?_
     obtain ⟨r3, hx6, h⟩ := bnd_some h
     refine s_call gn rfl (r_callF (vs := [(vi e1.By), (vi by1)]) rfl ok_62 ⟨et, ⟨et, trivial⟩⟩) (Calls.mono (c_lin_times (Dj F c18) w14 hI.lt e1.By by1 trivial r3 hx6) ?_)
     rintro _ w15 ⟨rfl, hx7, hl3⟩
     refine ⟨_, rfl, ?_⟩
     replace hI := (hI.ext hx7)
     refine sm ?_
     refine sq (y_extract rfl et rfl) ?_
     refine sq (y_extract rfl et rfl) ?_
     refine sa ?_
     refine sa ?_
     refine nk ?_
     refine sr ?_
     refine sm ?_
     refine sm ?_
     refine s_gval (g_true rfl rfl rfl rfl) rfl (fun hc => (y_move rfl et)) ?_
     refine sq (y_and rfl et et) ?_
     refine sa ?_
     refine nk ?_
     refine c_region rfl ?_
     refine sq (y_fieldAddr rfl et Try.underlying51 rfl size_49 rfl) ?_
     refine sq (y_load1 (v := (vs a5 out2.L.length c15)) rfl et Try.underlying49 rfl (CellsAt.of_blk (hI.blk (.s (.s (.s .z)))) rfl)) ?_
     refine sq (y_fieldAddr rfl et Try.underlying53 rfl size_9 rfl) ?_
     refine sq (y_load1 (v := (str e1.Name)) rfl et Try.underlying9 rfl (CellsAt.of_blk (hI.blk .z) rfl)) ?_
     refine sm ?_
     refine sq (y_build (vs := [(0, (str e1.Name)), (1, (vi r3.1))]) (cs := #[(str e1.Name), (vi r3.1)]) rfl ⟨rfl, et, ⟨rfl, et, trivial⟩⟩ (by kernel_rfl)) ?_
     refine l_lit (c := cGMono) (xs := ([(⟨e1.Name, r3.1⟩ : GMono)] : List GMono)) (vs := [(0, (Value.agg #[(str e1.Name), (vi r3.1)]))]) (cs := #[(str e1.Name), (vi r3.1)]) (css := [[(str e1.Name), (vi r3.1)]]) hI gn rfl rfl Try.underlying49 info_53 rfl ⟨rfl, et, trivial⟩ (by kernel_rfl) ⟨rfl, trivial⟩ rfl rfl rfl ?_
     clear hI; intro b5 c19 w16 hI
     obtain ⟨zs1, hx8, h⟩ := bnd_some h
     refine l_append (xs := out2.L) (ys := ([(⟨e1.Name, r3.1⟩ : GMono)] : List GMono)) hI (.s (.s .z)) (hI.rd .z) hx8 gn rfl rfl Try.underlying49 info_53 rfl rfl et et ?_
     clear hI; intro a6 c20 c21 w17 hI
     refine sq (y_fieldAddr rfl et Try.underlying51 rfl size_49 rfl) ?_
     refine l_store (new := [(vs a6 zs1.length c20)]) (cs' := #[(vi out2.K), (vs a6 zs1.length c20)]) hI (.s (.s (.s (.s .z)))) gn rfl rfl et et rfl size_49 rfl rfl rfl ?_
     clear hI; intro c22 w18 hI
     refine s_nil ?_
     refine k_next (e := [(1, (vi by1)), (4, (vp b2 0)), (7, (vb (fits2 && r3.2))), (8, (vp b3 0)), (30, (vs a2 a1.L.length c1)), (31, (vi (a1.L.length : Int))), (32, (vi i1))]) ⟨rfl, rfl, rfl, rfl, rfl, rfl, rfl, trivial⟩ ?_
     refine c_region rfl ?_
     refine sq (y_add rfl et ev_const) ?_
     refine sm ?_
     refine s_nil ?_
     exact k_loop (fuel1, fits2 && r3.2, wi64 (i1 + 1), (⟨out2.K, zs1⟩ : GLin), a6, c20) ⟨rfl, rfl, rfl, rfl, rfl, rfl, rfl, trivial⟩ ⟨_, hI.arr (.c (.s (.s .z)) (.c (.s (.s .z)) (.c (.s (.s .z)) .n))) ⟨.z, trivial⟩, h⟩ (Nat.lt_succ_self _)
    ·replace h := ite_f hb h
     refine c_exit ?_
     refine k_in ?_
     exact k_join (fits2, out2, a5, c15) ⟨rfl, rfl, rfl, trivial⟩ ⟨_, hI.arr (.c .z (.c .z (.c .z .n))) trivial, h⟩ rfl
set_option maxRecDepth 100000 in
set_option maxHeartbeats 4000000 in
theorem c_lin_plus (F : NP) (w0 : World) (hF : ∀ k, F k → k < w0.heap.size) (a1 : Int) (b1 : Int) (hc : AllCl [] F w0) (r : Int × Bool)
  (h : m_lin_plus a1 b1 = some r) :
  Calls Try.prog 63 #[(vi a1), (vi b1)] w0 fun e w => e = .returned (Value.tuple #[(vi r.1), (vb r.2)]) ∧ Ext w0 w ∧ AllCl [] F w := by
 refine enterK (l := [(vi a1), (vi b1)]) Try.func63 rfl Try.ntmps63 rfl ?_
 have hI := Bun.start hF hc
 clear hc
 rw [m_lin_plus] at h
 refine sr ?_
 refine sac ?_
 refine sac ?_
 refine nk ?_
 refine sr ?_
 refine sm ?_
 refine sm ?_
 refine sq (y_add rfl et et) ?_
 refine sa ?_
 refine nk ?_
 refine sr ?_
 refine sm ?_
 refine sm ?_
 refine sm ?_
 refine sq (y_gtr rfl et et) ?_
 refine sm ?_
 refine sq (y_gtr rfl et ev_const) ?_
 refine sq (y_eqb rfl Try.underlying4 et et) ?_
 refine sa ?_
 refine sa ?_
 refine nk ?_
 refine c_ret ?_
 obtain rfl := some_inj h
 exact q_ret (vs := [(vi (wi64 (a1 + b1))), (vb ((decide (a1 < wi64 (a1 + b1))) == (decide (0 < b1))))]) Try.results63 ⟨ev_tmp rfl rfl, ⟨ev_tmp rfl rfl, trivial⟩⟩ ⟨rfl, hI.ext0, hI.fin trivial⟩
set_option maxRecDepth 100000 in
set_option maxHeartbeats 4000000 in
theorem c_lin_Add_1_w (C0 F : NP) (w0 : World) (name1 : List UInt8) (x1 : Int) (y1 : Int) (a1 : Bool) (a2 : GLin) (b1 : Nat) (b2 : Nat) (a3 : Option Addr) (c1 : Nat) (hI : Bun C0 F w0 C0 w0 [MO.box b1 4 #[(vb a1)], MO.box b2 51 #[(vi a2.K), (vs a3 a2.L.length c1)], MO.row cGMono 53 a3 c1 a2.L] []) (r : Unit × Bool × GLin)
  (h : m_lin_Add_1_w name1 x1 y1 a1 a2 = some r) :
  Calls Try.prog 65 #[(str name1), (vi x1), (vi y1), (vp b1 0), (vp b2 0)] w0 fun e w => ∃ (a4 : Option Addr) (c2 : Nat) (C : NP), e = .returned (Value.tuple #[]) ∧ Bun C0 F w0 C w [MO.box b1 4 #[(vb r.2.1)], MO.box b2 51 #[(vi r.2.2.K), (vs a4 r.2.2.L.length c2)], MO.row cGMono 53 a4 c2 r.2.2.L] [] := by
 refine enterK (l := [(str name1), (vi x1), (vi y1), (vp b1 0), (vp b2 0)]) Try.func65 rfl Try.ntmps65 rfl ?_
 rw [m_lin_Add_1_w] at h
 refine sr ?_
 refine sm ?_
 refine sm ?_
 obtain ⟨r1, hx1, h⟩ := bnd_some h
 refine s_call gn rfl (r_callF (vs := [(vi x1), (vi y1)]) rfl ok_63 ⟨et, ⟨et, trivial⟩⟩) (Calls.mono (c_lin_plus (Dj F C0) w0 hI.lt x1 y1 trivial r1 hx1) ?_)
 rintro _ w1 ⟨rfl, hx2, hl1⟩
 refine ⟨_, rfl, ?_⟩
 replace hI := (hI.ext hx2)
 refine sm ?_
 refine sq (y_extract rfl et rfl) ?_
 refine sq (y_extract rfl et rfl) ?_
 refine sa ?_
 refine sa ?_
 refine nk ?_
 refine sr ?_
 refine sq (y_load1 (v := (vb a1)) rfl et Try.underlying4 rfl (CellsAt.of_blk (hI.blk .z) rfl)) ?_
 refine sm ?_
 refine s_gval (g_true rfl rfl rfl rfl) rfl (fun hc => (y_move rfl et)) ?_
 refine sq (y_and rfl et et) ?_
 refine l_store (new := [(vb (a1 && r1.2))]) (cs' := #[(vb (a1 && r1.2))]) hI .z gn rfl rfl et et rfl size_4 rfl rfl rfl ?_
 clear hI; intro c3 w2 hI
 refine nk ?_
 refine sr ?_
 refine sm ?_
 refine sq (y_neq rfl et ev_const) ?_
 refine nk ?_
 refine c_cond (b := !decide (r1.1 = 0)) et (fun hb => ?_) (fun hb => ?_)
 ·replace h := ite_t hb h
  refine c_region rfl ?_
  refine sq (y_fieldAddr rfl et Try.underlying51 rfl size_49 rfl) ?_
  refine sq (y_load1 (v := (vs a3 a2.L.length c1)) rfl et Try.underlying49 rfl (CellsAt.of_blk (hI.blk (.s .z)) rfl)) ?_
  refine sm ?_
  refine sm ?_
  refine sq (y_build (vs := [(0, (str name1)), (1, (vi r1.1))]) (cs := #[(str name1), (vi r1.1)]) rfl ⟨rfl, et, ⟨rfl, et, trivial⟩⟩ (by kernel_rfl)) ?_
  refine l_lit (c := cGMono) (xs := ([(⟨name1, r1.1⟩ : GMono)] : List GMono)) (vs := [(0, (Value.agg #[(str name1), (vi r1.1)]))]) (cs := #[(str name1), (vi r1.1)]) (css := [[(str name1), (vi r1.1)]]) hI gn rfl rfl Try.underlying49 info_53 rfl ⟨rfl, et, trivial⟩ (by kernel_rfl) ⟨rfl, trivial⟩ rfl rfl rfl ?_
  clear hI; intro b3 c4 w3 hI
  obtain ⟨zs1, hx3, h⟩ := bnd_some h
  refine l_append (xs := a2.L) (ys := ([(⟨name1, r1.1⟩ : GMono)] : List GMono)) hI (.s (.s (.s .z))) (hI.rd .z) hx3 gn rfl rfl Try.underlying49 info_53 rfl rfl et et ?_
  clear hI; intro a5 c5 c6 w4 hI
  refine sq (y_fieldAddr rfl et Try.underlying51 rfl size_49 rfl) ?_
  refine l_store (new := [(vs a5 zs1.length c5)]) (cs' := #[(vi a2.K), (vs a5 zs1.length c5)]) hI (.s (.s .z)) gn rfl rfl et et rfl size_49 rfl rfl rfl ?_
  clear hI; intro c7 w5 hI
  refine s_nil ?_
  obtain rfl := some_inj h
  exact q_ret (vs := []) Try.results65 trivial ⟨a5, c5, _, rfl, hI.arr (.c (.s .z) (.c (.s .z) (.c (.s .z) .n))) trivial⟩
 ·replace h := ite_f hb h
  refine c_skip ?_
  obtain rfl := some_inj h
  exact q_ret (vs := []) Try.results65 trivial ⟨a3, c1, _, rfl, hI.arr (.c .z (.c .z (.c .z .n))) trivial⟩
set_option maxRecDepth 100000 in
set_option maxHeartbeats 4000000 in
theorem c_lin_merge_s {σ : Type} (I : StI σ) (C0 F : NP) (w0 : World) (a1 : List GMono) (b1 : List GMono) (each1 : ((List UInt8) → Int → Int → σ → Option (Unit × σ))) (s1 : σ) (a2 : Option Addr) (c1 : Nat) (a3 : Option Addr) (c2 : Nat) (fv1 : Value) (hI : Bun C0 F w0 C0 w0 [MO.st I s1] [Cl.sl cGMono a2 c1 a1, Cl.sl cGMono a3 c2 b1, clFnS_k6 I fv1 each1]) (r : Unit × σ)
  (h : m_lin_merge_s a1 b1 each1 s1 = some r) :
  Calls Try.prog 64 #[(vs a2 a1.length c1), (vs a3 b1.length c2), fv1] w0 fun e w => ∃ (C : NP), e = .returned (Value.tuple #[]) ∧ Bun C0 F w0 C w [MO.st I r.2] [] := by
 refine enterK (l := [(vs a2 a1.length c1), (vs a3 b1.length c2), fv1]) Try.func64 rfl Try.ntmps64 rfl ?_
 rw [m_lin_merge_s] at h
 refine c_block ?_
 refine c_loop (α := Nat × (List GMono) × (List GMono) × σ × (Option Addr) × Nat × (Option Addr) × Nat) (fun x => fun w => ∃ C, Bun C0 F w0 C w [MO.st I (x.2.2.2.1)] [Cl.sl cGMono (x.2.2.2.2.1) (x.2.2.2.2.2.1) (x.2.1), Cl.sl cGMono (x.2.2.2.2.2.2.1) (x.2.2.2.2.2.2.2) (x.2.2.1), clFnS_k6 I fv1 each1] ∧ m_lin_merge_s_l1 each1 (x.1) (x.2.1) (x.2.2.1) (x.2.2.2.1) = some r) (fun x _ => x.1) (fun x => [(0, (vs (x.2.2.2.2.1) (x.2.1).length (x.2.2.2.2.2.1))), (1, (vs (x.2.2.2.2.2.2.1) (x.2.2.1).length (x.2.2.2.2.2.2.2))), (2, fv1)]) (fu, a1, b1, s1, a2, c1, a3, c2) ⟨_, hI.arr (.c .z .n) ⟨.z, (.s .z), (.s (.s .z)), trivial⟩, h⟩ ⟨rfl, rfl, rfl, trivial⟩ ?_
 clear h hI; rintro ⟨fuel1, a4, b2, s2, a5, c3, a6, c4⟩ w1 ⟨c5, hI, h⟩
 dsimp only at hI h
 rcases fuel1 with _ | fuel1
 ·rw [m_lin_merge_s_l1] at h; cases h
 rw [m_lin_merge_s_l1] at h
 refine c_sub (e := [(0, (vs a5 a4.length c3)), (1, (vs a6 b2.length c4)), (2, fv1)]) ⟨rfl, rfl, rfl, trivial⟩ ?_
 refine c_seq ?_
 refine sr ?_
 refine sm ?_
 refine sq (y_lenl rfl Try.underlying49 et) ?_
 refine sq (y_gtr rfl et ev_const) ?_
 refine sm ?_
 refine s_gval (g_false rfl rfl rfl rfl) rfl (fun hc => (y_move rfl et)) ?_
 refine s_gval (g_false rfl rfl rfl rfl) rfl (fun hc => (y_lenl rfl Try.underlying49 (ev_gv et hc))) ?_
 refine s_gval (g_false rfl rfl rfl rfl) rfl (fun hc => (y_gtr rfl (ev_gv et hc) ev_const)) ?_
 refine sq (y_or rfl et et) ?_
 refine nk ?_
 refine c_cond (b := (decide (0 < (a4.length : Int))) || (decide (0 < (b2.length : Int)))) et (fun hb => ?_) (fun hb => ?_)
 ·replace h := ite_t hb h
  refine c_skip ?_
  refine k_same ?_
  refine c_block ?_
  refine c_block ?_
  refine c_seq ?_
  refine c_drawX [] false (.c (0, .q) (.c (1, .q) (.c (2, .q) (.c (3, .q) (.c (4, .q) (.c (5, .q) (.c (6, .q) (.c (7, .q) (.c (8, .q) (.c (9, .q) (.c (10, .q) (.c (11, .q) (.c (12, .q) (.c (13, .q) (.c (14, .q) (.c (15, .q) (.c (16, .q) (.c (17, .q) (.c (18, .q) (.c (19, .q) .n)))))))))))))))))))) hI (by kernel_rfl) (by kernel_rfl) ?_
  clear hI; intro w2 hI
  refine a_q rfl gn rfl (fun w' => (y_move rfl et)) ?_
  refine a_q rfl gn rfl (fun w' => (y_lenl rfl Try.underlying49 et)) ?_
  refine a_q rfl gn rfl (fun w' => (y_eql rfl et ev_const)) ?_
  refine a_q rfl gn rfl (fun w' => (y_move rfl et)) ?_
  refine a_gval rfl (g_false rfl rfl rfl rfl) rfl (fun hc => fun w' => (y_move rfl et)) ?_
  refine a_gval rfl (g_false rfl rfl rfl rfl) rfl (fun hc => fun w' => (y_lenl rfl Try.underlying49 (ev_gv et hc))) ?_
  refine a_gval rfl (g_false rfl rfl rfl rfl) rfl (fun hc => fun w' => (y_gtr rfl (ev_gv et hc) ev_const)) ?_
  refine a_gval rfl (g_false rfl rfl rfl rfl) rfl (fun hc => fun w' => (y_move rfl (ev_gv et hc))) ?_
  refine a_gval rfl (g_true2 rfl rfl rfl rfl) rfl (fun hc => fun w' => (y_move rfl et)) ?_
  obtain ⟨e1, hx1, h⟩ := bnd_some h
  replace hx1 := gd_some hx1
  obtain ⟨ad1, cs1, hq1⟩ := hI.gclat .z hx1
  have hq2 : ((!(decide ((b2.length : Int) = 0))) && (decide (0 < (a4.length : Int)))) = true → CA (Dj F c5) w2 (ad1.add (Int.toNat 0 * 2)) [(str e1.Name), (vi e1.By)] := fun hc => by have k := hq1 hc; have e : cs1 = _ := k.2.1; rw [← e]; exact k.2.2
  refine a_gval rfl (g_true2 rfl rfl rfl rfl) rfl (fun hc => fun w' => (y_indexAddr rfl Try.underlying49 size_53 (ev_gv et hc) ev_const (lat_bd (hx1 hc)) (hq1 hc).1)) ?_
  refine a_gval rfl (g_true2 rfl rfl rfl rfl) rfl (fun hc => fun w' => (y_fieldAddr rfl (ev_gv et hc) Try.underlying53 rfl size_9 rfl)) ?_
  refine a_gread rfl (g_true2 rfl rfl rfl rfl) rfl (fun hc => fun w' hw' => (y_load1 (v := (str e1.Name)) rfl (ev_gv et hc) Try.underlying9 rfl ((CA.part (hq2 hc) rfl).at_ (SX.any rfl hw')))) (by kernel_rfl) ?_
  refine a_gval rfl (g_true2 rfl rfl rfl rfl) rfl (fun hc => fun w' => (y_move rfl et)) ?_
  obtain ⟨e2, hx2, h⟩ := bnd_some h
  replace hx2 := gd_some hx2
  obtain ⟨ad2, cs2, hq3⟩ := hI.gclat (.s .z) hx2
  have hq4 : ((!(decide ((b2.length : Int) = 0))) && (decide (0 < (a4.length : Int)))) = true → CA (Dj F c5) w2 (ad2.add (Int.toNat 0 * 2)) [(str e2.Name), (vi e2.By)] := fun hc => by have k := hq3 hc; have e : cs2 = _ := k.2.1; rw [← e]; exact k.2.2
  refine a_gval rfl (g_true2 rfl rfl rfl rfl) rfl (fun hc => fun w' => (y_indexAddr rfl Try.underlying49 size_53 (ev_gv et hc) ev_const (lat_bd (hx2 hc)) (hq3 hc).1)) ?_
  refine a_gval rfl (g_true2 rfl rfl rfl rfl) rfl (fun hc => fun w' => (y_fieldAddr rfl (ev_gv et hc) Try.underlying53 rfl size_9 rfl)) ?_
  refine a_gread rfl (g_true2 rfl rfl rfl rfl) rfl (fun hc => fun w' hw' => (y_load1 (v := (str e2.Name)) rfl (ev_gv et hc) Try.underlying9 rfl ((CA.part (hq4 hc) rfl).at_ (SX.any rfl hw')))) (by kernel_rfl) ?_
  refine a_gval rfl (g_true2 rfl rfl rfl rfl) rfl (fun hc => fun w' => (y_lts rfl (ev_gv et hc) (ev_gv et hc))) ?_
  refine a_gval rfl (g_false rfl rfl rfl rfl) rfl (fun hc => fun w' => (y_and2 rfl hc et et)) ?_
  refine a_q rfl gn rfl (fun w' => (y_or rfl et et)) ?_
  refine a_q rfl gn rfl (fun w' => (y_assign rfl et)) ?_
  refine a_nil ?_
  refine k_next (e := [(0, (vs a5 a4.length c3)), (1, (vs a6 b2.length c4)), (2, fv1), (32, (vb ((decide ((b2.length : Int) = 0)) || ((decide (0 < (a4.length : Int))) && (Op.bytesLess e1.Name e2.Name)))))]) ⟨rfl, rfl, rfl, rfl, trivial⟩ ?_
  refine c_cond (b := (decide ((b2.length : Int) = 0)) || ((decide (0 < (a4.length : Int))) && (Op.bytesLess e1.Name e2.Name))) et (fun hb => ?_) (fun hb => ?_)
  ·replace h := ite_t hb h
   refine c_seq ?_
   refine c_drawX [9] false (.c (0, .q) (.c (1, .q) (.c (2, .q) (.c (3, .q) (.c (4, .q) (.c (5, .q) (.c (6, .q) (.c (7, .q) (.c (8, .q) (.c (9, .s) .n)))))))))) hI (by kernel_rfl) (by kernel_rfl) ?_
   clear hI; intro w3 hI
   refine a_q rfl gn rfl (fun w' => (y_move rfl et)) ?_
   refine a_q rfl gn rfl (fun w' => (y_move rfl et)) ?_
   obtain ⟨e3, hx3, h⟩ := bnd_some h
   obtain ⟨ad3, cs3, hA3, hr3, hq5⟩ := hI.clat .z hx3
   obtain rfl : cs3 = [(str e3.Name), (vi e3.By)] := hr3
   refine a_q rfl gn rfl (fun w' => (y_indexAddr rfl Try.underlying49 size_53 et ev_const (lat_bd hx3) hA3)) ?_
   refine a_q rfl gn rfl (fun w' => (y_fieldAddr rfl et Try.underlying53 rfl size_9 rfl)) ?_
   refine a_read rfl gn rfl (fun w' hw' => (y_load1 (v := (str e3.Name)) rfl et Try.underlying9 rfl ((CA.part hq5 rfl).at_ (SX.any rfl hw')))) (by kernel_rfl) ?_
   refine a_q rfl gn rfl (fun w' => (y_move rfl et)) ?_
   obtain ⟨e4, hx4, h⟩ := bnd_some h
   obtain ⟨ad4, cs4, hA4, hr4, hq6⟩ := hI.clat .z hx4
   obtain rfl : cs4 = [(str e4.Name), (vi e4.By)] := hr4
   refine a_q rfl gn rfl (fun w' => (y_indexAddr rfl Try.underlying49 size_53 et ev_const (lat_bd hx4) hA4)) ?_
   refine a_q rfl gn rfl (fun w' => (y_fieldAddr rfl et Try.underlying53 rfl size_2 rfl)) ?_
   refine a_read rfl gn rfl (fun w' hw' => (y_load1 (v := (vi e4.By)) rfl et Try.underlying2 rfl ((CA.part hq6 rfl).at_ (SX.any rfl hw')))) (by kernel_rfl) ?_
   refine a_turn (F := F) (C := c5) rfl rfl ?_
   obtain ⟨⟨r1, s3⟩, hx5, h⟩ := bnd_some h
   try dsimp only at h
   obtain ⟨c6, f1, hB, hl1, hk1⟩ := hI.hands (.l .n)
   refine la_callV (args := [(str e3.Name), (vi e4.By), (vi 0)]) rfl gn rfl rfl et ⟨et, ⟨et, ⟨ev_const, trivial⟩⟩⟩ (CallV.mono ((hI.get (.s (.s .z))).2 c6 f1 w3 (Sp.less hl1) e3.Name e4.By 0 s2 _ (hB.subs trivial) hx5) ?_)
   rintro _ w4 ⟨c7, rfl, hB2⟩
   obtain ⟨c8, hs1, hI⟩ := hk1 _ _ _ _ hB2
   replace hI : Bun C0 F w0 c8 w4 [MO.st I s3] [Cl.sl cGMono a5 c3 a4, Cl.sl cGMono a6 c4 b2, clFnS_k6 I fv1 each1] := hI
   refine ⟨_, rfl, DM true F c8, hs1, ?_⟩
   refine a_nil ?_
   refine k_same ?_
   refine c_region rfl ?_
   refine sm ?_
   obtain ⟨zs1, hx6, h⟩ := bnd_some h
   obtain ⟨a7, hB1⟩ : ∃ B : Option Addr, B = (if c3 = Int.toNat 1 then a5 else Option.map (·.add (Int.toNat 1 * 2)) a5) := ⟨_, rfl⟩
   refine sq (y_lfrom rfl Try.underlying49 size_53 et ev_const hx6 hB1) ?_
   replace hI := hI.from_ .z hx6 hB1
   refine sa ?_
   refine s_nil ?_
   exact k_loop (fuel1, zs1, b2, s3, a7, c3 - Int.toNat 1, a6, c4) ⟨rfl, rfl, rfl, trivial⟩ ⟨_, hI.arr (.c .z .n) ⟨.z, (.s (.s .z)), (.s (.s (.s .z))), trivial⟩, h⟩ (Nat.lt_succ_self _)
  ·replace h := ite_f hb h
   refine c_seq ?_
   refine c_drawX [] false (.c (0, .q) (.c (1, .q) (.c (2, .q) (.c (3, .q) (.c (4, .q) (.c (5, .q) (.c (6, .q) (.c (7, .q) (.c (8, .q) (.c (9, .q) (.c (10, .q) (.c (11, .q) (.c (12, .q) (.c (13, .q) (.c (14, .q) .n))))))))))))))) hI (by kernel_rfl) (by kernel_rfl) ?_
   clear hI; intro w5 hI
   refine a_q rfl gn rfl (fun w' => (y_move rfl et)) ?_
   refine a_q rfl gn rfl (fun w' => (y_lenl rfl Try.underlying49 et)) ?_
   refine a_q rfl gn rfl (fun w' => (y_eql rfl et ev_const)) ?_
   refine a_q rfl gn rfl (fun w' => (y_move rfl et)) ?_
   refine a_gval rfl (g_false rfl rfl rfl rfl) rfl (fun hc => fun w' => (y_move rfl et)) ?_
   obtain ⟨e5, hx7, h⟩ := bnd_some h
   replace hx7 := gd_some hx7
   obtain ⟨ad5, cs5, hq7⟩ := hI.gclat (.s .z) hx7
   have hq8 : (!(decide ((a4.length : Int) = 0))) = true → CA (Dj F c5) w5 (ad5.add (Int.toNat 0 * 2)) [(str e5.Name), (vi e5.By)] := fun hc => by have k := hq7 hc; have e : cs5 = _ := k.2.1; rw [← e]; exact k.2.2
   refine a_gval rfl (g_false rfl rfl rfl rfl) rfl (fun hc => fun w' => (y_indexAddr rfl Try.underlying49 size_53 (ev_gv et hc) ev_const (lat_bd (hx7 hc)) (hq7 hc).1)) ?_
   refine a_gval rfl (g_false rfl rfl rfl rfl) rfl (fun hc => fun w' => (y_fieldAddr rfl (ev_gv et hc) Try.underlying53 rfl size_9 rfl)) ?_
   refine a_gread rfl (g_false rfl rfl rfl rfl) rfl (fun hc => fun w' hw' => (y_load1 (v := (str e5.Name)) rfl (ev_gv et hc) Try.underlying9 rfl ((CA.part (hq8 hc) rfl).at_ (SX.any rfl hw')))) (by kernel_rfl) ?_
   refine a_gval rfl (g_false rfl rfl rfl rfl) rfl (fun hc => fun w' => (y_move rfl et)) ?_
   obtain ⟨e6, hx8, h⟩ := bnd_some h
   replace hx8 := gd_some hx8
   obtain ⟨ad6, cs6, hq9⟩ := hI.gclat .z hx8
   have hq10 : (!(decide ((a4.length : Int) = 0))) = true → CA (Dj F c5) w5 (ad6.add (Int.toNat 0 * 2)) [(str e6.Name), (vi e6.By)] := fun hc => by have k := hq9 hc; have e : cs6 = _ := k.2.1; rw [← e]; exact k.2.2
   refine a_gval rfl (g_false rfl rfl rfl rfl) rfl (fun hc => fun w' => (y_indexAddr rfl Try.underlying49 size_53 (ev_gv et hc) ev_const (lat_bd (hx8 hc)) (hq9 hc).1)) ?_
   refine a_gval rfl (g_false rfl rfl rfl rfl) rfl (fun hc => fun w' => (y_fieldAddr rfl (ev_gv et hc) Try.underlying53 rfl size_9 rfl)) ?_
   refine a_gread rfl (g_false rfl rfl rfl rfl) rfl (fun hc => fun w' hw' => (y_load1 (v := (str e6.Name)) rfl (ev_gv et hc) Try.underlying9 rfl ((CA.part (hq10 hc) rfl).at_ (SX.any rfl hw')))) (by kernel_rfl) ?_
   refine a_gval rfl (g_false rfl rfl rfl rfl) rfl (fun hc => fun w' => (y_lts rfl (ev_gv et hc) (ev_gv et hc))) ?_
   refine a_q rfl gn rfl (fun w' => (y_or rfl et et)) ?_
   refine a_q rfl gn rfl (fun w' => (y_assign rfl et)) ?_
   refine a_nil ?_
   refine k_same ?_
   refine c_cond (b := (decide ((a4.length : Int) = 0)) || (Op.bytesLess e5.Name e6.Name)) et (fun hb => ?_) (fun hb => ?_)
   ·replace h := ite_t hb h
    refine c_seq ?_
    refine c_drawX [9] false (.c (0, .q) (.c (1, .q) (.c (2, .q) (.c (3, .q) (.c (4, .q) (.c (5, .q) (.c (6, .q) (.c (7, .q) (.c (8, .q) (.c (9, .s) .n)))))))))) hI (by kernel_rfl) (by kernel_rfl) ?_
    clear hI; intro w6 hI
    refine a_q rfl gn rfl (fun w' => (y_move rfl et)) ?_
    refine a_q rfl gn rfl (fun w' => (y_move rfl et)) ?_
    obtain ⟨e7, hx9, h⟩ := bnd_some h
    obtain ⟨ad7, cs7, hA7, hr7, hq11⟩ := hI.clat (.s .z) hx9
    obtain rfl : cs7 = [(str e7.Name), (vi e7.By)] := hr7
    refine a_q rfl gn rfl (fun w' => (y_indexAddr rfl Try.underlying49 size_53 et ev_const (lat_bd hx9) hA7)) ?_
    refine a_q rfl gn rfl (fun w' => (y_fieldAddr rfl et Try.underlying53 rfl size_9 rfl)) ?_
    refine a_read rfl gn rfl (fun w' hw' => (y_load1 (v := (str e7.Name)) rfl et Try.underlying9 rfl ((CA.part hq11 rfl).at_ (SX.any rfl hw')))) (by kernel_rfl) ?_
    refine a_q rfl gn rfl (fun w' => (y_move rfl et)) ?_
    obtain ⟨e8, hx10, h⟩ := bnd_some h
    obtain ⟨ad8, cs8, hA8, hr8, hq12⟩ := hI.clat (.s .z) hx10
    obtain rfl : cs8 = [(str e8.Name), (vi e8.By)] := hr8
    refine a_q rfl gn rfl (fun w' => (y_indexAddr rfl Try.underlying49 size_53 et ev_const (lat_bd hx10) hA8)) ?_
    refine a_q rfl gn rfl (fun w' => (y_fieldAddr rfl et Try.underlying53 rfl size_2 rfl)) ?_
    refine a_read rfl gn rfl (fun w' hw' => (y_load1 (v := (vi e8.By)) rfl et Try.underlying2 rfl ((CA.part hq12 rfl).at_ (SX.any rfl hw')))) (by kernel_rfl) ?_
    refine a_turn (F := F) (C := c5) rfl rfl ?_
    obtain ⟨⟨r2, s4⟩, hx11, h⟩ := bnd_some h
    try dsimp only at h
    obtain ⟨c9, f2, hB, hl2, hk2⟩ := hI.hands (.l .n)
    refine la_callV (args := [(str e7.Name), (vi 0), (vi e8.By)]) rfl gn rfl rfl et ⟨et, ⟨ev_const, ⟨et, trivial⟩⟩⟩ (CallV.mono ((hI.get (.s (.s .z))).2 c9 f2 w6 (Sp.less hl2) e7.Name 0 e8.By s2 _ (hB.subs trivial) hx11) ?_)
    rintro _ w7 ⟨c10, rfl, hB2⟩
    obtain ⟨c11, hs2, hI⟩ := hk2 _ _ _ _ hB2
    replace hI : Bun C0 F w0 c11 w7 [MO.st I s4] [Cl.sl cGMono a5 c3 a4, Cl.sl cGMono a6 c4 b2, clFnS_k6 I fv1 each1] := hI
    refine ⟨_, rfl, DM true F c11, hs2, ?_⟩
    refine a_nil ?_
    refine k_next (e := [(0, (vs a5 a4.length c3)), (1, (vs a6 b2.length c4)), (2, fv1)]) ⟨rfl, rfl, rfl, trivial⟩ ?_
    refine c_region rfl ?_
    refine sm ?_
    obtain ⟨zs2, hx12, h⟩ := bnd_some h
    obtain ⟨a8, hB2⟩ : ∃ B : Option Addr, B = (if c4 = Int.toNat 1 then a6 else Option.map (·.add (Int.toNat 1 * 2)) a6) := ⟨_, rfl⟩
    refine sq (y_lfrom rfl Try.underlying49 size_53 et ev_const hx12 hB2) ?_
    replace hI := hI.from_ (.s .z) hx12 hB2
    refine sa ?_
    refine s_nil ?_
    exact k_loop (fuel1, a4, zs2, s4, a5, c3, a8, c4 - Int.toNat 1) ⟨rfl, rfl, rfl, trivial⟩ ⟨_, hI.arr (.c .z .n) ⟨(.s .z), .z, (.s (.s (.s .z))), trivial⟩, h⟩ (Nat.lt_succ_self _)
   ·replace h := ite_f hb h
    refine c_seq ?_
    refine c_drawX [13] false (.c (0, .q) (.c (1, .q) (.c (2, .q) (.c (3, .q) (.c (4, .q) (.c (5, .q) (.c (6, .q) (.c (7, .q) (.c (8, .q) (.c (9, .q) (.c (10, .q) (.c (11, .q) (.c (12, .q) (.c (13, .s) .n)))))))))))))) hI (by kernel_rfl) (by kernel_rfl) ?_
    clear hI; intro w8 hI
    refine a_q rfl gn rfl (fun w' => (y_move rfl et)) ?_
    refine a_q rfl gn rfl (fun w' => (y_move rfl et)) ?_
    obtain ⟨e9, hx13, h⟩ := bnd_some h
    obtain ⟨ad9, cs9, hA9, hr9, hq13⟩ := hI.clat .z hx13
    obtain rfl : cs9 = [(str e9.Name), (vi e9.By)] := hr9
    refine a_q rfl gn rfl (fun w' => (y_indexAddr rfl Try.underlying49 size_53 et ev_const (lat_bd hx13) hA9)) ?_
    refine a_q rfl gn rfl (fun w' => (y_fieldAddr rfl et Try.underlying53 rfl size_9 rfl)) ?_
    refine a_read rfl gn rfl (fun w' hw' => (y_load1 (v := (str e9.Name)) rfl et Try.underlying9 rfl ((CA.part hq13 rfl).at_ (SX.any rfl hw')))) (by kernel_rfl) ?_
    refine a_q rfl gn rfl (fun w' => (y_move rfl et)) ?_
    obtain ⟨e10, hx14, h⟩ := bnd_some h
    obtain ⟨ad10, cs10, hA10, hr10, hq14⟩ := hI.clat .z hx14
    obtain rfl : cs10 = [(str e10.Name), (vi e10.By)] := hr10
    refine a_q rfl gn rfl (fun w' => (y_indexAddr rfl Try.underlying49 size_53 et ev_const (lat_bd hx14) hA10)) ?_
    refine a_q rfl gn rfl (fun w' => (y_fieldAddr rfl et Try.underlying53 rfl size_2 rfl)) ?_
    refine a_read rfl gn rfl (fun w' hw' => (y_load1 (v := (vi e10.By)) rfl et Try.underlying2 rfl ((CA.part hq14 rfl).at_ (SX.any rfl hw')))) (by kernel_rfl) ?_
    refine a_q rfl gn rfl (fun w' => (y_move rfl et)) ?_
    obtain ⟨e11, hx15, h⟩ := bnd_some h
    obtain ⟨ad11, cs11, hA11, hr11, hq15⟩ := hI.clat (.s .z) hx15
    obtain rfl : cs11 = [(str e11.Name), (vi e11.By)] := hr11
    refine a_q rfl gn rfl (fun w' => (y_indexAddr rfl Try.underlying49 size_53 et ev_const (lat_bd hx15) hA11)) ?_
    refine a_q rfl gn rfl (fun w' => (y_fieldAddr rfl et Try.underlying53 rfl size_2 rfl)) ?_
    refine a_read rfl gn rfl (fun w' hw' => (y_load1 (v := (vi e11.By)) rfl et Try.underlying2 rfl ((CA.part hq15 rfl).at_ (SX.any rfl hw')))) (by kernel_rfl) ?_
    refine a_turn (F := F) (C := c5) rfl rfl ?_
    obtain ⟨⟨r3, s5⟩, hx16, h⟩ := bnd_some h
    try dsimp only at h
    obtain ⟨c12, f3, hB, hl3, hk3⟩ := hI.hands (.l .n)
    refine la_callV (args := [(str e9.Name), (vi e10.By), (vi e11.By)]) rfl gn rfl rfl et ⟨et, ⟨et, ⟨et, trivial⟩⟩⟩ (CallV.mono ((hI.get (.s (.s .z))).2 c12 f3 w8 (Sp.less hl3) e9.Name e10.By e11.By s2 _ (hB.subs trivial) hx16) ?_)
    rintro _ w9 ⟨c13, rfl, hB2⟩
    obtain ⟨c14, hs3, hI⟩ := hk3 _ _ _ _ hB2
    replace hI : Bun C0 F w0 c14 w9 [MO.st I s5] [Cl.sl cGMono a5 c3 a4, Cl.sl cGMono a6 c4 b2, clFnS_k6 I fv1 each1] := hI
    refine ⟨_, rfl, DM true F c14, hs3, ?_⟩
    refine a_nil ?_
    refine k_next (e := [(0, (vs a5 a4.length c3)), (1, (vs a6 b2.length c4)), (2, fv1)]) ⟨rfl, rfl, rfl, trivial⟩ ?_
    refine c_drawX [] false (.c (0, .q) (.c (1, .q) (.c (2, .q) (.c (3, .q) (.c (4, .q) (.c (5, .q) .n)))))) hI (by kernel_rfl) (by kernel_rfl) ?_
    clear hI; intro w10 hI
    refine a_q rfl gn rfl (fun w' => (y_move rfl et)) ?_
    obtain ⟨zs3, hx17, h⟩ := bnd_some h
    obtain ⟨a9, hB3⟩ : ∃ B : Option Addr, B = (if c3 = Int.toNat 1 then a5 else Option.map (·.add (Int.toNat 1 * 2)) a5) := ⟨_, rfl⟩
    refine a_q rfl gn rfl (fun w' => (y_lfrom rfl Try.underlying49 size_53 et ev_const hx17 hB3)) ?_
    replace hI := hI.from_ .z hx17 hB3
    refine a_q rfl gn rfl (fun w' => (y_move rfl et)) ?_
    obtain ⟨zs4, hx18, h⟩ := bnd_some h
    obtain ⟨a10, hB4⟩ : ∃ B : Option Addr, B = (if c4 = Int.toNat 1 then a6 else Option.map (·.add (Int.toNat 1 * 2)) a6) := ⟨_, rfl⟩
    refine a_q rfl gn rfl (fun w' => (y_lfrom rfl Try.underlying49 size_53 et ev_const hx18 hB4)) ?_
    replace hI := hI.from_ (.s (.s .z)) hx18 hB4
    refine a_q rfl gn rfl (fun w' => (y_assign rfl et)) ?_
    refine a_q rfl gn rfl (fun w' => (y_assign rfl et)) ?_
    refine a_nil ?_
    exact k_loop (fuel1, zs3, zs4, s5, a9, c3 - Int.toNat 1, a10, c4 - Int.toNat 1) ⟨rfl, rfl, rfl, trivial⟩ ⟨_, hI.arr (.c .z .n) ⟨(.s .z), .z, (.s (.s (.s (.s .z)))), trivial⟩, h⟩ (Nat.lt_succ_self _)
 ·replace h := ite_f hb h
  refine c_exit ?_
  refine k_in ?_
  obtain rfl := some_inj h
  exact q_ret (vs := []) Try.results64 trivial ⟨_, rfl, hI.arr (.c .z .n) trivial⟩
set_option maxRecDepth 100000 in
set_option maxHeartbeats 4000000 in
theorem c_lin_Add (F : NP) (w0 : World) (hF : ∀ k, F k → k < w0.heap.size) (a1 : GLin) (b1 : GLin) (a2 : Option Addr) (c1 : Nat) (a3 : Option Addr) (c2 : Nat) (hc : AllCl [Cl.sl cGMono a2 c1 a1.L, Cl.sl cGMono a3 c2 b1.L] F w0) (r : GLin × Int)
  (h : m_lin_Add a1 b1 = some r) :
  Calls Try.prog 44 #[(Value.agg #[(vi a1.K), (vs a2 a1.L.length c1)]), (Value.agg #[(vi b1.K), (vs a3 b1.L.length c2)])] w0 fun e w => ∃ (a4 : Option Addr) (c3 : Nat), e = .returned (Value.tuple #[(Value.agg #[(vi r.1.K), (vs a4 r.1.L.length c3)]), (vi r.2)]) ∧ Ext w0 w ∧ AllCl [Cl.sl cGMono a4 c3 r.1.L] F w := by
 refine enterK (l := [(Value.agg #[(vi a1.K), (vs a2 a1.L.length c1)]), (Value.agg #[(vi b1.K), (vs a3 b1.L.length c2)])]) Try.func44 rfl Try.ntmps44 rfl ?_
 have hI := Bun.start hF hc
 clear hc
 rw [m_lin_Add] at h
 refine sr ?_
 refine l_box (v := (Value.agg #[(vi a1.K), (vs a2 a1.L.length c1)])) (cs := #[(vi a1.K), (vs a2 a1.L.length c1)]) hI gn rfl rfl et rfl ?_
 clear hI; intro b2 c4 w1 hI
 obtain ⟨c5, hI⟩ := hI.relBox .z
 refine l_box (v := (Value.agg #[(vi b1.K), (vs a3 b1.L.length c2)])) (cs := #[(vi b1.K), (vs a3 b1.L.length c2)]) hI gn rfl rfl et rfl ?_
 clear hI; intro b3 c6 w2 hI
 obtain ⟨c7, hI⟩ := hI.relBox .z
 refine l_alloc (cs := #[(vi 0), (vs none 0 0)]) hI gn rfl rfl zero_51 rfl ?_
 clear hI; intro b4 c8 w3 hI
 refine sac ?_
 refine nk ?_
 refine c_seq ?_
 refine sr ?_
 refine sq (y_loadN (l := [(vi a1.K), (vs a2 a1.L.length c1)]) rfl et Try.underlying51 rfl size_51 (hI.kblk (l := [(vi a1.K), (vs a2 a1.L.length c1)]) (.s .z) rfl).1) ?_
 obtain ⟨r1, hx1, h⟩ := bnd_some h
 refine s_call gn rfl (r_callF (vs := [(Value.agg #[(vi a1.K), (vs a2 a1.L.length c1)])]) rfl ok_28 ⟨et, trivial⟩) (Calls.mono (c_lin_Validate (Dj F c8) w3 hI.lt a1 a2 c1 ⟨(hI.get (.s (.s .z))), trivial⟩ r1 hx1) ?_)
 rintro _ w4 ⟨rfl, hx2, hl1⟩
 refine ⟨_, rfl, ?_⟩
 replace hI := (hI.ext hx2)
 refine sq (y_neq rfl et ev_const) ?_
 refine sm ?_
 refine s_gval (g_false rfl rfl rfl rfl) rfl (fun hc => (y_loadN (l := [(vi b1.K), (vs a3 b1.L.length c2)]) rfl et Try.underlying51 rfl size_51 (hI.kblk (l := [(vi b1.K), (vs a3 b1.L.length c2)]) .z rfl).1)) ?_
 obtain ⟨r2, hx3, h⟩ := bnd_some h
 replace hx3 := gd_some hx3
 refine s_gcallU (v := (vi r2)) (g_false rfl rfl rfl rfl) rfl (fun hc => (r_callF (vs := [(Value.agg #[(vi b1.K), (vs a3 b1.L.length c2)])]) rfl ok_28 ⟨(ev_gv et hc), trivial⟩)) (fun hc => (c_lin_Validate (Dj F c8) w4 hI.lt b1 a3 c2 ⟨(hI.get (.s (.s (.s .z)))), trivial⟩ r2 (hx3 hc)).mono fun _ _ k => ⟨k.1, k.2.1⟩) ?_
 intro w5 hx4; replace hI := hI.ext hx4
 refine s_gval (g_false rfl rfl rfl rfl) rfl (fun hc => (y_neq rfl (ev_gv et hc) ev_const)) ?_
 refine sq (y_or rfl et et) ?_
 refine nk ?_
 refine c_cond (b := (!decide (r1 = 0)) || (!decide (r2 = 0))) et (fun hb => ?_) (fun hb => ?_)
 ·replace h := ite_t hb h
  refine sr ?_
  refine sq (y_build (vs := []) (cs := #[(vi 0), (vs none 0 0)]) rfl trivial (by kernel_rfl)) ?_
  refine l_store (new := [(vi 0), (vs none 0 0)]) (cs' := #[(vi 0), (vs none 0 0)]) hI .z gn rfl rfl et et rfl size_51 rfl rfl rfl ?_
  clear hI; intro c9 w6 hI
  refine sac ?_
  refine nk ?_
  refine c_ret ?_
  have hI := hI.add (c := Cl.sl cGMono none 0 ([] : List GMono)) SlC.nil
  obtain rfl := some_inj h
  exact q_ret (vs := [(Value.agg #[(vi 0), (vs none 0 0)]), (vi 1)]) Try.results44 ⟨⟨_, ev_tmp rfl rfl, load_agg (l := [(vi 0), (vs none 0 0)]) Try.underlying51 rfl size_51 (CellsAt.of_blk (hI.blk .z) rfl)⟩, ⟨ev_tmp rfl rfl, trivial⟩⟩ ⟨none, 0, rfl, hI.ext0, hI.fin ⟨.z, trivial⟩⟩
 ·replace h := ite_f hb h
  refine c_skip ?_
  refine k_same ?_
  refine sr ?_
  refine l_alloc (cs := #[(vi 0), (vs none 0 0)]) hI gn rfl rfl zero_51 rfl ?_
  clear hI; intro b5 c10 w7 hI
  refine nk ?_
  refine sr ?_
  refine l_alloc (cs := #[(vb false)]) hI gn rfl rfl zero_4 rfl ?_
  clear hI; intro b6 c11 w8 hI
  refine nk ?_
  refine sr ?_
  refine sq (y_fieldAddr rfl et Try.underlying51 rfl size_2 rfl) ?_
  refine sq (y_load1 (v := (vi a1.K)) rfl et Try.underlying2 rfl (hI.kblk (l := [(vi a1.K)]) (.s .z) rfl).1) ?_
  refine sq (y_fieldAddr rfl et Try.underlying51 rfl size_2 rfl) ?_
  refine sq (y_load1 (v := (vi b1.K)) rfl et Try.underlying2 rfl (hI.kblk (l := [(vi b1.K)]) .z rfl).1) ?_
  obtain ⟨r3, hx5, h⟩ := bnd_some h
  refine s_call gn rfl (r_callF (vs := [(vi a1.K), (vi b1.K)]) rfl ok_63 ⟨et, ⟨et, trivial⟩⟩) (Calls.mono (c_lin_plus (Dj F c11) w8 hI.lt a1.K b1.K trivial r3 hx5) ?_)
  rintro _ w9 ⟨rfl, hx6, hl3⟩
  refine ⟨_, rfl, ?_⟩
  replace hI := (hI.ext hx6)
  refine sm ?_
  refine sq (y_extract rfl et rfl) ?_
  refine sq (y_extract rfl et rfl) ?_
  refine sq (y_fieldAddr rfl et Try.underlying51 rfl size_2 rfl) ?_
  refine l_store (new := [(vi r3.1)]) (cs' := #[(vi r3.1), (vs none 0 0)]) hI (.s .z) gn rfl rfl et et rfl size_2 rfl rfl rfl ?_
  clear hI; intro c12 w10 hI
  refine l_store (new := [(vb r3.2)]) (cs' := #[(vb r3.2)]) hI .z gn rfl rfl et et rfl size_4 rfl rfl rfl ?_
  clear hI; intro c13 w11 hI
  refine nk ?_
  refine sr ?_
  refine sq (y_fieldAddr rfl et Try.underlying51 rfl size_49 rfl) ?_
  refine sq (y_load1 (v := (vs a2 a1.L.length c1)) rfl et Try.underlying49 rfl (hI.kblk (l := [(vs a2 a1.L.length c1)]) (.s .z) rfl).1) ?_
  refine sq (y_fieldAddr rfl et Try.underlying51 rfl size_49 rfl) ?_
  refine sq (y_load1 (v := (vs a3 b1.L.length c2)) rfl et Try.underlying49 rfl (hI.kblk (l := [(vs a3 b1.L.length c2)]) .z rfl).1) ?_
  refine sq (y_makeFunc (vs := []) (cap := [(vp b6 0), (vp b5 0)]) rfl rfl ⟨et, ⟨et, trivial⟩⟩) ?_
  have hI := hI.nil cGMono 53 none
  obtain ⟨c14, f1, hB, hl4, hk1⟩ := hI.hands (.l (.l (.l (.r .n))))
  replace hB := hB.ord (.c (.s .z) (.c (.s .z) (.c .z .n)))
  have hB : Bun c14 f1 w11 c14 w11 [MO.st (StI.of (fun (s : Bool × GLin) (b : (Option Addr) × Nat) => [MO.box b6 4 #[(vb (s.1))], MO.box b5 51 #[(vi ((s.2).K)), (vs (b.1) ((s.2).L).length (b.2))], MO.row cGMono 53 (b.1) (b.2) ((s.2).L)]) (fun (s : Bool × GLin) (b : (Option Addr) × Nat) => [])) (r3.2, (⟨r3.1, ([] : List GMono)⟩ : GLin))] _ := Bun.mkst (b := (none, 0)) hB trivial
  have hC := hB
  have hY1 : fnS_k6 (StI.of (fun (s : Bool × GLin) (b : (Option Addr) × Nat) => [MO.box b6 4 #[(vb (s.1))], MO.box b5 51 #[(vi ((s.2).K)), (vs (b.1) ((s.2).L).length (b.2))], MO.row cGMono 53 (b.1) (b.2) ((s.2).L)]) (fun (s : Bool × GLin) (b : (Option Addr) × Nat) => [])) (Value.func (.func 65) #[] #[(vp b6 0), (vp b5 0)]) (fun x_1 x_2 x_3 s => m_lin_Add_1_w x_1 x_2 x_3 (s.1) (s.2)) (Dj f1 c14) w11 := by
   refine ⟨rfl, fun C0 F w' hs x_1 x_2 x_3 s r hB h => ?_⟩
   obtain ⟨⟨a5, c15⟩, hB⟩ := Bun.unst hB
   refine CallV.fn (cap := [(vp b6 0), (vp b5 0)]) ok_65 (Calls.mono (c_lin_Add_1_w C0 F w' x_1 x_2 x_3 (s.1) (s.2) b6 b5 a5 c15 (hB.subs trivial) r h) ?_)
   rintro _ w'' ⟨z1, z2, C', rfl, hB2⟩
   exact ⟨C', rfl, (Bun.mkst (os := (fun (s : Bool × GLin) (b : (Option Addr) × Nat) => [MO.box b6 4 #[(vb (s.1))], MO.box b5 51 #[(vi ((s.2).K)), (vs (b.1) ((s.2).L).length (b.2))], MO.row cGMono 53 (b.1) (b.2) ((s.2).L)])) (cl := (fun (s : Bool × GLin) (b : (Option Addr) × Nat) => [])) (s := r.2) (b := (z1, z2)) hB2 trivial).subs trivial⟩
  obtain ⟨⟨r4, s1⟩, hx7, h⟩ := bnd_some h
  try dsimp only at h
  refine s_call gn rfl (r_callF (vs := [(vs a2 a1.L.length c1), (vs a3 b1.L.length c2), (Value.func (.func 65) #[] #[(vp b6 0), (vp b5 0)])]) rfl ok_64 ⟨et, ⟨et, ⟨et, trivial⟩⟩⟩) (Calls.mono (c_lin_merge_s (StI.of (fun (s : Bool × GLin) (b : (Option Addr) × Nat) => [MO.box b6 4 #[(vb (s.1))], MO.box b5 51 #[(vi ((s.2).K)), (vs (b.1) ((s.2).L).length (b.2))], MO.row cGMono 53 (b.1) (b.2) ((s.2).L)]) (fun (s : Bool × GLin) (b : (Option Addr) × Nat) => [])) c14 f1 w11 a1.L b1.L (fun x_1 x_2 x_3 s => m_lin_Add_1_w x_1 x_2 x_3 (s.1) (s.2)) (r3.2, (⟨r3.1, ([] : List GMono)⟩ : GLin)) a2 c1 a3 c2 (Value.func (.func 65) #[] #[(vp b6 0), (vp b5 0)]) ((hB.add (c := (clFnS_k6 (StI.of (fun (s : Bool × GLin) (b : (Option Addr) × Nat) => [MO.box b6 4 #[(vb (s.1))], MO.box b5 51 #[(vi ((s.2).K)), (vs (b.1) ((s.2).L).length (b.2))], MO.row cGMono 53 (b.1) (b.2) ((s.2).L)]) (fun (s : Bool × GLin) (b : (Option Addr) × Nat) => [])) (Value.func (.func 65) #[] #[(vp b6 0), (vp b5 0)]) (fun x_1 x_2 x_3 s => m_lin_Add_1_w x_1 x_2 x_3 (s.1) (s.2)))) hY1).subs ⟨(.s (.s (.s .z))), (.s (.s (.s (.s .z)))), .z, trivial⟩) _ hx7) ?_)
  rintro _ w12 ⟨c16, rfl, hB2⟩
  obtain ⟨⟨a6, c17⟩, hB2⟩ := Bun.unst hB2
  obtain ⟨c18, hs1, hI⟩ := hk1 _ _ _ _ hB2
  replace hI : Bun noM F w0 c18 w12 [MO.box b6 4 #[(vb (s1.1))], MO.box b5 51 #[(vi ((s1.2).K)), (vs a6 ((s1.2).L).length c17)], MO.row cGMono 53 a6 c17 ((s1.2).L), MO.box b4 51 #[(vi 0), (vs none 0 0)]] [Cl.blk b3 51 #[(vi b1.K), (vs a3 b1.L.length c2)], Cl.blk b2 51 #[(vi a1.K), (vs a2 a1.L.length c1)], Cl.sl cGMono a2 c1 a1.L, Cl.sl cGMono a3 c2 b1.L] := hI
  refine ⟨_, rfl, ?_⟩
  refine s_nil ?_
  refine k_next (e := [(4, (vp b4 0)), (6, (vp b5 0)), (7, (vp b6 0))]) ⟨rfl, rfl, rfl, trivial⟩ ?_
  refine c_seq ?_
  refine sr ?_
  refine sq (y_load1 (v := (vb (s1.1))) rfl et Try.underlying4 rfl (CellsAt.of_blk (hI.blk .z) rfl)) ?_
  refine sq (y_not rfl et) ?_
  refine nk ?_
  refine c_cond (b := !(s1.1)) et (fun hb => ?_) (fun hb => ?_)
  ·replace h := ite_t hb h
   refine sr ?_
   refine sq (y_build (vs := []) (cs := #[(vi 0), (vs none 0 0)]) rfl trivial (by kernel_rfl)) ?_
   refine l_store (new := [(vi 0), (vs none 0 0)]) (cs' := #[(vi 0), (vs none 0 0)]) hI (.s (.s (.s .z))) gn rfl rfl et et rfl size_51 rfl rfl rfl ?_
   clear hI; intro c19 w13 hI
   refine sac ?_
   refine nk ?_
   refine c_ret ?_
   have hI := hI.add (c := Cl.sl cGMono none 0 ([] : List GMono)) SlC.nil
   obtain rfl := some_inj h
   exact q_ret (vs := [(Value.agg #[(vi 0), (vs none 0 0)]), (vi 3)]) Try.results44 ⟨⟨_, ev_tmp rfl rfl, load_agg (l := [(vi 0), (vs none 0 0)]) Try.underlying51 rfl size_51 (CellsAt.of_blk (hI.blk (.s (.s (.s .z)))) rfl)⟩, ⟨ev_tmp rfl rfl, trivial⟩⟩ ⟨none, 0, rfl, hI.ext0, hI.fin ⟨.z, trivial⟩⟩
  ·replace h := ite_f hb h
   refine c_skip ?_
   refine k_same ?_
   refine sr ?_
   refine sq (y_loadN (l := [(vi ((s1.2).K)), (vs a6 ((s1.2).L).length c17)]) rfl et Try.underlying51 rfl size_51 (CellsAt.of_blk (hI.blk (.s .z)) rfl)) ?_
   refine l_store (new := [(vi ((s1.2).K)), (vs a6 ((s1.2).L).length c17)]) (cs' := #[(vi ((s1.2).K)), (vs a6 ((s1.2).L).length c17)]) hI (.s (.s (.s .z))) gn rfl rfl et et rfl size_51 rfl rfl rfl ?_
   clear hI; intro c20 w14 hI
   refine sac ?_
   refine nk ?_
   refine c_ret ?_
   obtain ⟨c21, hI⟩ := hI.release (.s (.s .z))
   obtain rfl := some_inj h
   exact q_ret (vs := [(Value.agg #[(vi ((s1.2).K)), (vs a6 ((s1.2).L).length c17)]), (vi 0)]) Try.results44 ⟨⟨_, ev_tmp rfl rfl, load_agg (l := [(vi ((s1.2).K)), (vs a6 ((s1.2).L).length c17)]) Try.underlying51 rfl size_51 (CellsAt.of_blk (hI.blk (.s (.s .z))) rfl)⟩, ⟨ev_tmp rfl rfl, trivial⟩⟩ ⟨a6, c17, rfl, hI.ext0, hI.fin ⟨.z, trivial⟩⟩
def tr_affine_Compose_18_1 : Tr := (.c (14, .s) (.c (15, .q) .n))
def tr_affine_Compose_18_0 : Tr := (.c (9, .s) (.c (10, .q) (.c (11, .q) (.c (12, .q) tr_affine_Compose_18_1))))
set_option maxRecDepth 100000 in
set_option maxHeartbeats 4000000 in
theorem c_affine_Compose (F : NP) (w0 : World) (hF : ∀ k, F k → k < w0.heap.size) (m1 : List GLin) (names1 : List (List UInt8)) (next1 : List GLin) (a1 : Option Addr) (c1 : Nat) (a2 : Option Addr) (c2 : Nat) (a3 : Option Addr) (c3 : Nat) (hc : AllCl [Cl.sl cGLin a1 c1 m1, Cl.sl cStr a2 c2 names1, Cl.sl cGLin a3 c3 next1] F w0) (r : List GLin × Int)
  (h : m_affine_Compose m1 names1 next1 = some r) :
  Calls Try.prog 21 #[(vs a1 m1.length c1), (vs a2 names1.length c2), (vs a3 next1.length c3)] w0 fun e w => ∃ (a4 : Option Addr) (c4 : Nat), e = .returned (Value.tuple #[(vs a4 r.1.length c4), (vi r.2)]) ∧ Ext w0 w ∧ AllCl [Cl.sl cGLin a4 c4 r.1] F w := by
 refine enterK (l := [(vs a1 m1.length c1), (vs a2 names1.length c2), (vs a3 next1.length c3)]) Try.func21 rfl Try.ntmps21 rfl ?_
 have hI := Bun.start hF hc
 clear hc
 rw [m_affine_Compose] at h
 refine sr ?_
 refine sac ?_
 refine sac ?_
 refine nk ?_
 refine c_seq ?_
 refine sr ?_
 refine sm ?_
 refine sm ?_
 obtain ⟨r1, hx1, h⟩ := bnd_some h
 refine s_call gn rfl (r_callF (vs := [(vs a1 m1.length c1), (vs a2 names1.length c2)]) rfl ok_12 ⟨et, ⟨et, trivial⟩⟩) (Calls.mono (c_affine_Validate (Dj F noM) w0 hI.lt m1 names1 a1 c1 a2 c2 ⟨(hI.get .z), (hI.get (.s .z)), trivial⟩ r1 hx1) ?_)
 rintro _ w1 ⟨rfl, hx2, hl1⟩
 refine ⟨_, rfl, ?_⟩
 replace hI := (hI.ext hx2)
 refine sa ?_
 refine nk ?_
 refine sr ?_
 refine sm ?_
 refine sq (y_neq rfl et ev_const) ?_
 refine nk ?_
 refine c_cond (b := !decide (r1 = 0)) et (fun hb => ?_) (fun hb => ?_)
 ·replace h := ite_t hb h
  refine sr ?_
  refine sm ?_
  refine sac ?_
  refine sa ?_
  refine nk ?_
  refine c_ret ?_
  have hI := hI.add (c := Cl.sl cGLin none 0 ([] : List GLin)) SlC.nil
  obtain rfl := some_inj h
  exact q_ret (vs := [(vs none 0 0), (vi r1)]) Try.results21 ⟨ev_tmp rfl rfl, ⟨ev_tmp rfl rfl, trivial⟩⟩ ⟨none, 0, rfl, hI.ext0, hI.fin ⟨.z, trivial⟩⟩
 ·replace h := ite_f hb h
  refine c_skip ?_
  refine k_same ?_
  refine c_seq ?_
  refine sr ?_
  refine sm ?_
  refine sm ?_
  obtain ⟨r2, hx3, h⟩ := bnd_some h
  refine s_call gn rfl (r_callF (vs := [(vs a3 next1.length c3), (vs a2 names1.length c2)]) rfl ok_12 ⟨et, ⟨et, trivial⟩⟩) (Calls.mono (c_affine_Validate (Dj F noM) w1 hI.lt next1 names1 a3 c3 a2 c2 ⟨(hI.get (.s (.s .z))), (hI.get (.s .z)), trivial⟩ r2 hx3) ?_)
  rintro _ w2 ⟨rfl, hx4, hl2⟩
  refine ⟨_, rfl, ?_⟩
  replace hI := (hI.ext hx4)
  refine sa ?_
  refine nk ?_
  refine sr ?_
  refine sm ?_
  refine sq (y_neq rfl et ev_const) ?_
  refine nk ?_
  refine c_cond (b := !decide (r2 = 0)) et (fun hb => ?_) (fun hb => ?_)
  ·replace h := ite_t hb h
   refine sr ?_
   refine sm ?_
   refine sac ?_
   refine sa ?_
   refine nk ?_
   refine c_ret ?_
   have hI := hI.add (c := Cl.sl cGLin none 0 ([] : List GLin)) SlC.nil
   obtain rfl := some_inj h
   exact q_ret (vs := [(vs none 0 0), (vi r2)]) Try.results21 ⟨ev_tmp rfl rfl, ⟨ev_tmp rfl rfl, trivial⟩⟩ ⟨none, 0, rfl, hI.ext0, hI.fin ⟨.z, trivial⟩⟩
  ·replace h := ite_f hb h
   refine c_skip ?_
   refine k_same ?_
   refine c_seq ?_
   refine sr ?_
   refine sm ?_
   refine sq (y_lenl rfl Try.underlying22 et) ?_
   refine sm ?_
   refine sq (y_lenl rfl Try.underlying23 et) ?_
   refine sq (y_neq rfl et et) ?_
   refine nk ?_
   refine c_cond (b := !decide ((m1.length : Int) = (names1.length : Int))) et (fun hb => ?_) (fun hb => ?_)
   ·replace h := ite_t hb h
    refine sr ?_
    refine sac ?_
    refine sac ?_
    refine nk ?_
    refine c_ret ?_
    have hI := hI.add (c := Cl.sl cGLin none 0 ([] : List GLin)) SlC.nil
    obtain rfl := some_inj h
    exact q_ret (vs := [(vs none 0 0), (vi 11)]) Try.results21 ⟨ev_tmp rfl rfl, ⟨ev_tmp rfl rfl, trivial⟩⟩ ⟨none, 0, rfl, hI.ext0, hI.fin ⟨.z, trivial⟩⟩
   ·replace h := ite_f hb h
    refine c_skip ?_
    refine k_same ?_
    refine sr ?_
    refine sac ?_
    refine nk ?_
    refine c_seq ?_
    refine sr ?_
    refine sm ?_
    refine sq (y_lenl rfl Try.underlying22 et) ?_
    refine sq (y_move rfl ev_const) ?_
    refine nk ?_
    refine c_block ?_
    have hI := hI.nil cGLin 51 none
    refine c_loop (α := Nat × (List GLin) × Int × (Option Addr) × Nat) (fun x => fun w => ∃ C, Bun noM F w0 C w [MO.row cGLin 51 (x.2.2.2.1) (x.2.2.2.2) (x.2.1)] [Cl.sl cGLin a1 c1 m1, Cl.sl cStr a2 c2 names1, Cl.sl cGLin a3 c3 next1] ∧ m_affine_Compose_l1 next1 names1 m1 (x.1) (x.2.1) (x.2.2.1) = some r) (fun x _ => x.1) (fun x => [(0, (vs a1 m1.length c1)), (1, (vs a2 names1.length c2)), (10, (vs (x.2.2.2.1) (x.2.1).length (x.2.2.2.2))), (35, (vs a3 next1.length c3)), (36, (vi (next1.length : Int))), (37, (vi (x.2.2.1)))]) (fu, ([] : List GLin), 0, none, 0) ⟨_, hI.arr (.c .z .n) ⟨.z, (.s .z), (.s (.s .z)), trivial⟩, h⟩ ⟨rfl, rfl, rfl, rfl, rfl, rfl, trivial⟩ ?_
    clear h hI; rintro ⟨fuel1, out1, i1, a5, c5⟩ w3 ⟨c6, hI, h⟩
    dsimp only at hI h
    rcases fuel1 with _ | fuel1
    ·rw [m_affine_Compose_l1] at h; cases h
    rw [m_affine_Compose_l1] at h
    refine c_sub (e := [(0, (vs a1 m1.length c1)), (1, (vs a2 names1.length c2)), (10, (vs a5 out1.length c5)), (35, (vs a3 next1.length c3)), (36, (vi (next1.length : Int))), (37, (vi i1))]) ⟨rfl, rfl, rfl, rfl, rfl, rfl, trivial⟩ ?_
    refine sr ?_
    refine sq (y_lss rfl et et) ?_
    refine nk ?_
    refine c_seq ?_
    refine c_cond (b := decide (i1 < (next1.length : Int))) et (fun hb => ?_) (fun hb => ?_)
    ·replace h := ite_t hb h
     refine c_skip ?_
     refine k_same ?_
     refine c_join (α := (List GLin) × (Option Addr) × Nat) (fun _ => ⟨83, []⟩) (fun x => [(0, (vs a1 m1.length c1)), (1, (vs a2 names1.length c2)), (10, (vs (x.2.1) (x.1).length (x.2.2))), (35, (vs a3 next1.length c3)), (36, (vi (next1.length : Int))), (37, (vi i1))]) (fun x => fun w => ∃ C, Bun noM F w0 C w [MO.row cGLin 51 (x.2.1) (x.2.2) (x.1)] [Cl.sl cGLin a1 c1 m1, Cl.sl cStr a2 c2 names1, Cl.sl cGLin a3 c3 next1] ∧ m_affine_Compose_j1 (m_affine_Compose_l1 next1 names1 m1 fuel1) i1 (x.1) = some r) ?_ ?_
     ·clear h hI; rintro ⟨out2, a6, c7⟩ w4 ⟨c8, hI, h⟩
      try dsimp only at hI h
      rw [m_affine_Compose_j1] at h
      refine c_sub (e := [(0, (vs a1 m1.length c1)), (1, (vs a2 names1.length c2)), (10, (vs a6 out2.length c7)), (35, (vs a3 next1.length c3)), (36, (vi (next1.length : Int))), (37, (vi i1))]) ⟨rfl, rfl, rfl, rfl, rfl, rfl, trivial⟩ ?_
      refine c_region rfl ?_
      refine sq (y_add rfl et ev_const) ?_
      refine sm ?_
      refine s_nil ?_
      exact k_loop (fuel1, out2, wi64 (i1 + 1), a6, c7) ⟨rfl, rfl, rfl, rfl, rfl, rfl, trivial⟩ ⟨_, hI.arr (.c .z .n) ⟨.z, (.s .z), (.s (.s .z)), trivial⟩, h⟩ (Nat.lt_succ_self _)
     ·skip
      refine c_block ?_
      refine sr ?_
      obtain ⟨e1, hx5, h⟩ := bnd_some h
      obtain ⟨ad1, cs1, hA1, hr1, hq1⟩ := hI.clat (.s (.s .z)) hx5
      obtain ⟨a7, c9, rfl, hf1⟩ := hr1
      have hI := hI.add (c := Cl.sl cGMono a7 c9 e1.L) hf1
      refine sq (y_indexAddr rfl Try.underlying22 size_51 et et (lat_bd hx5) hA1) ?_
      refine sq (y_loadN (l := [(vi e1.K), (vs a7 e1.L.length c9)]) rfl et Try.underlying51 rfl size_51 hq1.1) ?_
      refine l_alloc (cs := #[(vi 0), (vs none 0 0)]) hI gn rfl rfl zero_51 rfl ?_
      clear hI; intro b1 c10 w5 hI
      refine l_store (new := [(vi e1.K), (vs a7 e1.L.length c9)]) (cs' := #[(vi e1.K), (vs a7 e1.L.length c9)]) hI .z gn rfl rfl et et rfl size_51 rfl rfl rfl ?_
      clear hI; intro c11 w6 hI
      refine nk ?_
      refine sr ?_
      refine sq (y_fieldAddr rfl et Try.underlying51 rfl size_2 rfl) ?_
      refine sq (y_load1 (v := (vi e1.K)) rfl et Try.underlying2 rfl (CellsAt.of_blk (hI.blk .z) rfl)) ?_
      obtain ⟨r3, hx6, h⟩ := bnd_some h
      refine s_call gn rfl (r_callF (vs := [(vi e1.K)]) rfl ok_41 ⟨et, trivial⟩) (Calls.mono (c_lin_Const (Dj F c11) w6 hI.lt e1.K trivial r3 hx6) ?_)
      rintro _ w7 ⟨a8, c12, rfl, hx7, hl3⟩
      refine ⟨_, rfl, ?_⟩
      replace hI := (hI.ext hx7).adds hl3
      refine l_alloc (cs := #[(vi 0), (vs none 0 0)]) hI gn rfl rfl zero_51 rfl ?_
      clear hI; intro b2 c13 w8 hI
      refine l_store (new := [(vi r3.K), (vs a8 r3.L.length c12)]) (cs' := #[(vi r3.K), (vs a8 r3.L.length c12)]) hI .z gn rfl rfl et et rfl size_51 rfl rfl rfl ?_
      clear hI; intro c14 w9 hI
      refine nk ?_
      refine c_join (α := GLin × (Option Addr) × Nat) (fun _ => ⟨83, []⟩) (fun x => [(0, (vs a1 m1.length c1)), (1, (vs a2 names1.length c2)), (10, (vs a5 out1.length c5)), (35, (vs a3 next1.length c3)), (36, (vi (next1.length : Int))), (37, (vi i1)), (13, (vp b2 0))]) (fun x => fun w => ∃ C, Bun noM F w0 C w [MO.row cGLin 51 a5 c5 out1, MO.box b2 51 #[(vi (x.1).K), (vs (x.2.1) (x.1).L.length (x.2.2))]] [Cl.sl cGMono (x.2.1) (x.2.2) (x.1).L, Cl.sl cGLin a1 c1 m1, Cl.sl cStr a2 c2 names1, Cl.sl cGLin a3 c3 next1] ∧ m_affine_Compose_j2 out1 (m_affine_Compose_l1 next1 names1 m1 fuel1) i1 (x.1) = some r) ?_ ?_
      ·clear h hI; rintro ⟨sum1, a9, c15⟩ w10 ⟨c16, hI, h⟩
       try dsimp only at hI h
       rw [m_affine_Compose_j2] at h
       refine c_sub (e := [(0, (vs a1 m1.length c1)), (1, (vs a2 names1.length c2)), (10, (vs a5 out1.length c5)), (35, (vs a3 next1.length c3)), (36, (vi (next1.length : Int))), (37, (vi i1)), (13, (vp b2 0))]) ⟨rfl, rfl, rfl, rfl, rfl, rfl, rfl, trivial⟩ ?_
       refine c_region rfl ?_
       refine sm ?_
       refine sq (y_loadN (l := [(vi sum1.K), (vs a9 sum1.L.length c15)]) rfl et Try.underlying51 rfl size_51 (CellsAt.of_blk (hI.blk (.s .z)) rfl)) ?_
       refine l_lit (c := cGLin) (xs := ([sum1] : List GLin)) (vs := [(0, (Value.agg #[(vi sum1.K), (vs a9 sum1.L.length c15)]))]) (cs := #[(vi sum1.K), (vs a9 sum1.L.length c15)]) (css := [[(vi sum1.K), (vs a9 sum1.L.length c15)]]) hI gn rfl rfl Try.underlying22 info_51 rfl ⟨rfl, et, trivial⟩ (by kernel_rfl) ⟨⟨a9, c15, rfl, hI.get .z⟩, trivial⟩ rfl rfl rfl ?_
       clear hI; intro b3 c17 w11 hI
       obtain ⟨zs1, hx8, h⟩ := bnd_some h
       refine l_append (xs := out1) (ys := ([sum1] : List GLin)) hI (.s .z) (hI.rd .z) hx8 gn rfl rfl Try.underlying22 info_51 rfl rfl et et ?_
       clear hI; intro a10 c18 c19 w12 hI
       refine sa ?_
       refine s_nil ?_
       exact k_join (zs1, a10, c18) ⟨rfl, rfl, rfl, rfl, rfl, rfl, trivial⟩ ⟨_, hI.arr (.c (.s .z) .n) ⟨(.s .z), (.s (.s .z)), (.s (.s (.s .z))), trivial⟩, h⟩ rfl
      ·skip
       refine sr ?_
       refine sq (y_fieldAddr rfl et Try.underlying51 rfl size_49 rfl) ?_
       refine sq (y_load1 (v := (vs a7 e1.L.length c9)) rfl et Try.underlying49 rfl (CellsAt.of_blk (hI.blk (.s .z)) rfl)) ?_
       refine sq (y_lenl rfl Try.underlying49 et) ?_
       refine sq (y_move rfl ev_const) ?_
       refine nk ?_
       refine c_block ?_
       refine c_loop (α := Nat × Int × GLin × (Option Addr) × Nat) (fun x => fun w => ∃ C, Bun noM F w0 C w [MO.row cGLin 51 a5 c5 out1, MO.box b2 51 #[(vi (x.2.2.1).K), (vs (x.2.2.2.1) (x.2.2.1).L.length (x.2.2.2.2))]] [Cl.sl cGMono (x.2.2.2.1) (x.2.2.2.2) (x.2.2.1).L, Cl.sl cGLin a1 c1 m1, Cl.sl cStr a2 c2 names1, Cl.sl cGLin a3 c3 next1, Cl.sl cGMono a7 c9 e1.L] ∧ m_affine_Compose_l2 e1 names1 m1 out1 (m_affine_Compose_l1 next1 names1 m1 fuel1) i1 (x.1) (x.2.1) (x.2.2.1) = some r) (fun x _ => x.1) (fun x => [(0, (vs a1 m1.length c1)), (1, (vs a2 names1.length c2)), (10, (vs a5 out1.length c5)), (35, (vs a3 next1.length c3)), (36, (vi (next1.length : Int))), (37, (vi i1)), (13, (vp b2 0)), (45, (vs a7 e1.L.length c9)), (46, (vi (e1.L.length : Int))), (47, (vi (x.2.1)))]) (fu, 0, r3, a8, c12) ⟨_, hI.arr (.c (.s (.s .z)) (.c .z .n)) ⟨.z, (.s (.s .z)), (.s (.s (.s .z))), (.s (.s (.s (.s .z)))), (.s .z), trivial⟩, h⟩ ⟨rfl, rfl, rfl, rfl, rfl, rfl, rfl, rfl, rfl, rfl, trivial⟩ ?_
       clear h hI; rintro ⟨fuel2, i2, sum2, a11, c20⟩ w13 ⟨c21, hI, h⟩
       dsimp only at hI h
       rcases fuel2 with _ | fuel2
       ·rw [m_affine_Compose_l2] at h; cases h
       rw [m_affine_Compose_l2] at h
       refine c_sub (e := [(0, (vs a1 m1.length c1)), (1, (vs a2 names1.length c2)), (10, (vs a5 out1.length c5)), (35, (vs a3 next1.length c3)), (36, (vi (next1.length : Int))), (37, (vi i1)), (13, (vp b2 0)), (45, (vs a7 e1.L.length c9)), (46, (vi (e1.L.length : Int))), (47, (vi i2))]) ⟨rfl, rfl, rfl, rfl, rfl, rfl, rfl, rfl, rfl, rfl, trivial⟩ ?_
       refine sr ?_
       refine sq (y_lss rfl et et) ?_
       refine nk ?_
       refine c_seq ?_
       refine c_cond (b := decide (i2 < (e1.L.length : Int))) et (fun hb => ?_) (fun hb => ?_)
       ·replace h := ite_t hb h
        refine c_skip ?_
        refine k_same ?_
        refine c_seq ?_
        refine c_block ?_
        refine sr ?_
        obtain ⟨e2, hx9, h⟩ := bnd_some h
        obtain ⟨ad2, cs2, hA2, hr2, hq2⟩ := hI.clat (.s (.s (.s (.s .z)))) hx9
        obtain rfl : cs2 = [(str e2.Name), (vi e2.By)] := hr2
        refine sq (y_indexAddr rfl Try.underlying49 size_53 et et (lat_bd hx9) hA2) ?_
        refine sq (y_loadN (l := [(str e2.Name), (vi e2.By)]) rfl et Try.underlying53 rfl size_53 hq2.1) ?_
        refine l_alloc (cs := #[(str ([] : List UInt8)), (vi 0)]) hI gn rfl rfl zero_53 rfl ?_
        clear hI; intro b4 c22 w14 hI
        refine l_store (new := [(str e2.Name), (vi e2.By)]) (cs' := #[(str e2.Name), (vi e2.By)]) hI .z gn rfl rfl et et rfl size_53 rfl rfl rfl ?_
        clear hI; intro c23 w15 hI
        refine nk ?_
        refine c_seq ?_
        obtain ⟨r4, hx10, h⟩ := bnd_some h
        obtain ⟨e3, hx12, h⟩ := bnd_some h
        obtain ⟨r5, hx13, h⟩ := bnd_some h
        refine c_drawX [14] false (.c (0, .q) (.c (1, .q) (.c (2, .q) (.c (3, .q) (.c (7, .q) (.c (8, .q) (.two 4 (.c (5, .q) (.c (6, .q) (.two 9 (.c (10, .q) (.c (11, .q) (.c (12, .q) (.c (13, .s) tr_affine_Compose_18_1)))) 13 tr_affine_Compose_18_0))) 13 (.c (4, .s) (.c (5, .q) (.c (6, .q) tr_affine_Compose_18_0)))))))))) hI (by kernel_rfl) (by kernel_rfl) ?_
        clear hI; intro w22 hI
        refine a_join (α := (Option Addr) × Nat × (Option Addr) × Nat × Nat × NP) (T := tr_affine_Compose_18_1) (fun x => [(0, (vs a1 m1.length c1)), (1, (vs a2 names1.length c2)), (10, (vs a5 out1.length c5)), (13, (vp b2 0)), (15, (vp b4 0)), (16, (Value.pointer (some ⟨(x.2.2.2.2.1), 0, none⟩))), (35, (vs a3 next1.length c3)), (36, (vi (next1.length : Int))), (37, (vi i1)), (45, (vs a7 e1.L.length c9)), (46, (vi (e1.L.length : Int))), (47, (vi i2)), (48, (vb (decide (i2 < (e1.L.length : Int))))), (50, (Value.agg #[(str e2.Name), (vi e2.By)])), (51, (Value.tuple #[(Value.agg #[(vi r5.1.K), (vs (x.2.2.1) r5.1.L.length (x.2.2.2.1))]), (vi r5.2)])), (52, (vs a1 m1.length c1)), (53, (vs a2 names1.length c2)), (54, (vp b4 0)), (55, (str e2.Name)), (56, (vi r4)), (58, (Value.agg #[(vi e3.K), (vs (x.1) e3.L.length (x.2.1))])), (59, (vp b4 1)), (60, (vi e2.By)), (61, (Value.tuple #[(Value.agg #[(vi r5.1.K), (vs (x.2.2.1) r5.1.L.length (x.2.2.2.1))]), (vi r5.2)])), (62, (Value.agg #[(vi r5.1.K), (vs (x.2.2.1) r5.1.L.length (x.2.2.2.1))])), (63, (vi r5.2))]) (fun x w => Bun noM F w0 (x.2.2.2.2.2) w [MO.box (x.2.2.2.2.1) 51 #[(vi 0), (vs none 0 0)], MO.box b4 53 #[(str e2.Name), (vi e2.By)], MO.row cGLin 51 a5 c5 out1, MO.box b2 51 #[(vi sum2.K), (vs a11 sum2.L.length c20)]] [Cl.sl cGMono (x.2.2.1) (x.2.2.2.1) r5.1.L, Cl.sl cGMono (x.1) (x.2.1) e3.L, Cl.sl cGMono a11 c20 sum2.L, Cl.sl cGLin a1 c1 m1, Cl.sl cStr a2 c2 names1, Cl.sl cGLin a3 c3 next1, Cl.sl cGMono a7 c9 e1.L]) (fun x w => SN [14] (DM false F (x.2.2.2.2.2)) w) ?_ ?_
        ·clear hI; rintro ⟨a12, c24, a13, c25, b5, c29⟩ w21 hI
         try dsimp only at hI ⊢
         unfold tr_affine_Compose_18_1
         refine a_turn (F := F) (C := c29) rfl rfl ?_
         refine la_store (new := [(vi r5.1.K), (vs a13 r5.1.L.length c25)]) (cs' := #[(vi r5.1.K), (vs a13 r5.1.L.length c25)]) hI .z rfl gn rfl rfl et et rfl size_51 rfl rfl rfl ?_
         clear hI; intro c27 w19 hI
         refine a_q rfl gn rfl (fun w' => (y_assign rfl et)) ?_
         refine a_nil ?_
         refine k_same ?_
         refine c_seq ?_
         refine sr ?_
         refine sm ?_
         refine sq (y_neq rfl et ev_const) ?_
         refine nk ?_
         refine c_cond (b := !decide (r5.2 = 0)) et (fun hb => ?_) (fun hb => ?_)
         ·replace h := ite_t hb h
          refine sr ?_
          refine sm ?_
          refine sac ?_
          refine sa ?_
          refine s_nil ?_
          refine k_next (e := [(6, (vs none 0 0)), (7, (vi r5.2))]) ⟨rfl, rfl, trivial⟩ ?_
          refine c_ret ?_
          have hI := hI.add (c := Cl.sl cGLin none 0 ([] : List GLin)) SlC.nil
          obtain rfl := some_inj h
          exact q_ret (vs := [(vs none 0 0), (vi r5.2)]) Try.results21 ⟨ev_tmp rfl rfl, ⟨ev_tmp rfl rfl, trivial⟩⟩ ⟨none, 0, rfl, hI.ext0, hI.fin ⟨.z, trivial⟩⟩
         ·replace h := ite_f hb h
          refine c_skip ?_
          refine k_same ?_
          refine sr ?_
          refine sq (y_loadN (l := [(vi sum2.K), (vs a11 sum2.L.length c20)]) rfl et Try.underlying51 rfl size_51 (CellsAt.of_blk (hI.blk (.s (.s (.s .z)))) rfl)) ?_
          refine sq (y_loadN (l := [(vi r5.1.K), (vs a13 r5.1.L.length c25)]) rfl et Try.underlying51 rfl size_51 (CellsAt.of_blk (hI.blk .z) rfl)) ?_
          obtain ⟨r6, hx15, h⟩ := bnd_some h
          refine s_call gn rfl (r_callF (vs := [(Value.agg #[(vi sum2.K), (vs a11 sum2.L.length c20)]), (Value.agg #[(vi r5.1.K), (vs a13 r5.1.L.length c25)])]) rfl ok_44 ⟨et, ⟨et, trivial⟩⟩) (Calls.mono (c_lin_Add (Dj F c27) w19 hI.lt sum2 r5.1 a11 c20 a13 c25 ⟨(hI.get (.s (.s .z))), (hI.get .z), trivial⟩ r6 hx15) ?_)
          rintro _ w23 ⟨a14, c30, rfl, hx16, hl6⟩
          refine ⟨_, rfl, ?_⟩
          replace hI := (hI.ext hx16).adds hl6
          refine sm ?_
          refine sq (y_extract rfl et rfl) ?_
          refine sq (y_extract rfl et rfl) ?_
          refine l_store (new := [(vi r6.1.K), (vs a14 r6.1.L.length c30)]) (cs' := #[(vi r6.1.K), (vs a14 r6.1.L.length c30)]) hI (.s (.s (.s .z))) gn rfl rfl et et rfl size_51 rfl rfl rfl ?_
          clear hI; intro c31 w24 hI
          refine sa ?_
          refine s_nil ?_
          refine k_next (e := [(0, (vs a1 m1.length c1)), (1, (vs a2 names1.length c2)), (10, (vs a5 out1.length c5)), (13, (vp b2 0)), (35, (vs a3 next1.length c3)), (36, (vi (next1.length : Int))), (37, (vi i1)), (45, (vs a7 e1.L.length c9)), (46, (vi (e1.L.length : Int))), (47, (vi i2)), (17, (vi r6.2))]) ⟨rfl, rfl, rfl, rfl, rfl, rfl, rfl, rfl, rfl, rfl, rfl, trivial⟩ ?_
          refine sr ?_
          refine sm ?_
          refine sq (y_neq rfl et ev_const) ?_
          refine nk ?_
          refine c_cond (b := !decide (r6.2 = 0)) et (fun hb => ?_) (fun hb => ?_)
          ·replace h := ite_t hb h
           refine sr ?_
           refine sm ?_
           refine sac ?_
           refine sa ?_
           refine nk ?_
           refine c_ret ?_
           have hI := hI.add (c := Cl.sl cGLin none 0 ([] : List GLin)) SlC.nil
           obtain rfl := some_inj h
           exact q_ret (vs := [(vs none 0 0), (vi r6.2)]) Try.results21 ⟨ev_tmp rfl rfl, ⟨ev_tmp rfl rfl, trivial⟩⟩ ⟨none, 0, rfl, hI.ext0, hI.fin ⟨.z, trivial⟩⟩
          ·replace h := ite_f hb h
           refine c_skip ?_
           refine k_same ?_
           refine c_region rfl ?_
           refine sq (y_add rfl et ev_const) ?_
           refine sm ?_
           refine s_nil ?_
           exact k_loop (fuel2, wi64 (i2 + 1), r6.1, a14, c30) ⟨rfl, rfl, rfl, rfl, rfl, rfl, rfl, rfl, rfl, rfl, trivial⟩ ⟨_, hI.arr (.c (.s (.s .z)) (.c (.s (.s .z)) .n)) ⟨.z, (.s (.s (.s (.s .z)))), (.s (.s (.s (.s (.s .z))))), (.s (.s (.s (.s (.s (.s .z)))))), (.s (.s (.s (.s (.s (.s (.s .z))))))), trivial⟩, h⟩ (Nat.lt_succ_self _)
        intro hk_tr_affine_Compose_18_1
        refine a_join (α := (Option Addr) × Nat × Nat × NP) (T := tr_affine_Compose_18_0) (fun x => [(0, (vs a1 m1.length c1)), (1, (vs a2 names1.length c2)), (10, (vs a5 out1.length c5)), (13, (vp b2 0)), (15, (vp b4 0)), (16, (Value.pointer (some ⟨(x.2.2.1), 0, none⟩))), (35, (vs a3 next1.length c3)), (36, (vi (next1.length : Int))), (37, (vi i1)), (45, (vs a7 e1.L.length c9)), (46, (vi (e1.L.length : Int))), (47, (vi i2)), (48, (vb (decide (i2 < (e1.L.length : Int))))), (50, (Value.agg #[(str e2.Name), (vi e2.By)])), (52, (vs a1 m1.length c1)), (53, (vs a2 names1.length c2)), (54, (vp b4 0)), (55, (str e2.Name)), (56, (vi r4)), (58, (Value.agg #[(vi e3.K), (vs (x.1) e3.L.length (x.2.1))])), (59, (vp b4 1)), (60, (vi e2.By))]) (fun x w => Bun noM F w0 (x.2.2.2) w [MO.box (x.2.2.1) 51 #[(vi 0), (vs none 0 0)], MO.box b4 53 #[(str e2.Name), (vi e2.By)], MO.row cGLin 51 a5 c5 out1, MO.box b2 51 #[(vi sum2.K), (vs a11 sum2.L.length c20)]] [Cl.sl cGMono (x.1) (x.2.1) e3.L, Cl.sl cGMono a11 c20 sum2.L, Cl.sl cGLin a1 c1 m1, Cl.sl cStr a2 c2 names1, Cl.sl cGLin a3 c3 next1, Cl.sl cGMono a7 c9 e1.L]) (fun x w => SN [14] (DM false F (x.2.2.2)) w) ?_ ?_
        ·clear hI; rintro ⟨a12, c24, b5, c28⟩ w20 hI
         try dsimp only at hI ⊢
         unfold tr_affine_Compose_18_0
         refine la_call rfl gn rfl (r_callF (vs := [(Value.agg #[(vi e3.K), (vs a12 e3.L.length c24)]), (vi e2.By)]) rfl ok_42 ⟨et, ⟨et, trivial⟩⟩) (Calls.mono (c_lin_Scale (Dj F c28) w20 hI.lt e3 e2.By a12 c24 ⟨(hI.get .z), trivial⟩ r5 hx13) ?_)
         rintro _ w17 ⟨a13, c25, rfl, hx14, hl5⟩
         refine ⟨_, rfl, hx14, ?_⟩
         replace hI := (hI.ext hx14).adds hl5
         refine a_q rfl gn rfl (fun w' => (y_move rfl et)) ?_
         refine a_q rfl gn rfl (fun w' => (y_extract rfl et rfl)) ?_
         refine a_q rfl gn rfl (fun w' => (y_extract rfl et rfl)) ?_
         exact a_sub (hk_tr_affine_Compose_18_1 (a12, c24, a13, c25, b5, c28) _ (hI.arr (.c .z (.c .z (.c .z (.c .z .n)))) ⟨.z, (.s .z), (.s (.s .z)), (.s (.s (.s .z))), (.s (.s (.s (.s .z)))), (.s (.s (.s (.s (.s .z))))), (.s (.s (.s (.s (.s (.s .z)))))), trivial⟩)) ⟨rfl, rfl, rfl, rfl, rfl, rfl, rfl, rfl, rfl, rfl, rfl, rfl, rfl, rfl, rfl, rfl, rfl, rfl, rfl, rfl, rfl, rfl, rfl, rfl, rfl, rfl, trivial⟩
        intro hk_tr_affine_Compose_18_0
        refine a_q rfl gn rfl (fun w' => (y_move rfl et)) ?_
        refine a_q rfl gn rfl (fun w' => (y_move rfl et)) ?_
        refine a_q rfl gn rfl (fun w' => (y_fieldAddr rfl et Try.underlying53 rfl size_9 rfl)) ?_
        refine a_read rfl gn rfl (fun w' hw' => (y_load1 (v := (str e2.Name)) rfl et Try.underlying9 rfl ((CA.blk (hI.blk .z) rfl).at_ (SX.any rfl hw')))) (by kernel_rfl) ?_
        refine a_q rfl gn rfl (fun w' => (y_fieldAddr rfl et Try.underlying53 rfl size_2 rfl)) ?_
        refine a_read rfl gn rfl (fun w' hw' => (y_load1 (v := (vi e2.By)) rfl et Try.underlying2 rfl ((CA.blk (hI.blk .z) rfl).at_ (SX.any rfl hw')))) (by kernel_rfl) ?_
        refine a_two ?_ ?_
        ·skip
         refine la_call rfl gn rfl (r_callF (vs := [(vs a2 names1.length c2), (str e2.Name)]) rfl ok_43 ⟨et, ⟨et, trivial⟩⟩) (Calls.mono (c_slices_Index_string_string (Dj F c23) w22 hI.lt names1 e2.Name a2 c2 ⟨(hI.get (.s (.s .z))), trivial⟩ r4 hx10) ?_)
         rintro _ w16 ⟨rfl, hx11, hl4⟩
         refine ⟨_, rfl, hx11, ?_⟩
         replace hI := (hI.ext hx11)
         obtain ⟨ad3, cs3, hA3, hr3, hq3⟩ := hI.clat (.s .z) hx12
         obtain ⟨a12, c24, rfl, hf2⟩ := hr3
         have hI := hI.add (c := Cl.sl cGMono a12 c24 e3.L) hf2
         refine a_q rfl gn rfl (fun w' => (y_indexAddr rfl Try.underlying22 size_51 et et (lat_bd hx12) hA3)) ?_
         refine a_read rfl gn rfl (fun w' hw' => (y_loadN (l := [(vi e3.K), (vs a12 e3.L.length c24)]) rfl et Try.underlying51 rfl size_51 (hq3.at_ (SX.any rfl hw')))) (by kernel_rfl) ?_
         refine a_two ?_ ?_
         ·skip
          refine la_call rfl gn rfl (r_callF (vs := [(Value.agg #[(vi e3.K), (vs a12 e3.L.length c24)]), (vi e2.By)]) rfl ok_42 ⟨et, ⟨et, trivial⟩⟩) (Calls.mono (c_lin_Scale (Dj F c23) w16 hI.lt e3 e2.By a12 c24 ⟨(hI.get .z), trivial⟩ r5 hx13) ?_)
          rintro _ w17 ⟨a13, c25, rfl, hx14, hl5⟩
          refine ⟨_, rfl, hx14, ?_⟩
          replace hI := (hI.ext hx14).adds hl5
          refine a_q rfl gn rfl (fun w' => (y_move rfl et)) ?_
          refine a_q rfl gn rfl (fun w' => (y_extract rfl et rfl)) ?_
          refine a_q rfl gn rfl (fun w' => (y_extract rfl et rfl)) ?_
          refine la_alloc (cs := #[(vi 0), (vs none 0 0)]) hI rfl gn rfl rfl zero_51 rfl ?_
          clear hI; intro b5 c26 w18 hI
          exact a_sub (hk_tr_affine_Compose_18_1 (a12, c24, a13, c25, b5, c26) _ (hI.arr (.c .z (.c .z (.c .z (.c .z .n)))) ⟨.z, (.s .z), (.s (.s .z)), (.s (.s (.s .z))), (.s (.s (.s (.s .z)))), (.s (.s (.s (.s (.s .z))))), (.s (.s (.s (.s (.s (.s .z)))))), trivial⟩)) ⟨rfl, rfl, rfl, rfl, rfl, rfl, rfl, rfl, rfl, rfl, rfl, rfl, rfl, rfl, rfl, rfl, rfl, rfl, rfl, rfl, rfl, rfl, rfl, rfl, rfl, rfl, trivial⟩
         ·skip
          refine la_alloc (cs := #[(vi 0), (vs none 0 0)]) hI rfl gn rfl rfl zero_51 rfl ?_
          clear hI; intro b5 c26 w18 hI
          exact a_sub (hk_tr_affine_Compose_18_0 (a12, c24, b5, c26) _ (hI.arr (.c .z (.c .z (.c .z (.c .z .n)))) ⟨.z, (.s .z), (.s (.s .z)), (.s (.s (.s .z))), (.s (.s (.s (.s .z)))), (.s (.s (.s (.s (.s .z))))), trivial⟩)) ⟨rfl, rfl, rfl, rfl, rfl, rfl, rfl, rfl, rfl, rfl, rfl, rfl, rfl, rfl, rfl, rfl, rfl, rfl, rfl, rfl, rfl, rfl, trivial⟩
        ·skip
         refine la_alloc (cs := #[(vi 0), (vs none 0 0)]) hI rfl gn rfl rfl zero_51 rfl ?_
         clear hI; intro b5 c26 w18 hI
         refine la_call rfl gn rfl (r_callF (vs := [(vs a2 names1.length c2), (str e2.Name)]) rfl ok_43 ⟨et, ⟨et, trivial⟩⟩) (Calls.mono (c_slices_Index_string_string (Dj F c26) w18 hI.lt names1 e2.Name a2 c2 ⟨(hI.get (.s (.s .z))), trivial⟩ r4 hx10) ?_)
         rintro _ w16 ⟨rfl, hx11, hl4⟩
         refine ⟨_, rfl, hx11, ?_⟩
         replace hI := (hI.ext hx11)
         obtain ⟨ad3, cs3, hA3, hr3, hq3⟩ := hI.clat (.s .z) hx12
         obtain ⟨a12, c24, rfl, hf2⟩ := hr3
         have hI := hI.add (c := Cl.sl cGMono a12 c24 e3.L) hf2
         refine a_q rfl gn rfl (fun w' => (y_indexAddr rfl Try.underlying22 size_51 et et (lat_bd hx12) hA3)) ?_
         refine a_read rfl gn rfl (fun w' hw' => (y_loadN (l := [(vi e3.K), (vs a12 e3.L.length c24)]) rfl et Try.underlying51 rfl size_51 (hq3.at_ (SX.any rfl hw')))) (by kernel_rfl) ?_
         exact a_sub (hk_tr_affine_Compose_18_0 (a12, c24, b5, c26) _ (hI.arr (.c .z (.c .z (.c .z (.c .z .n)))) ⟨.z, (.s .z), (.s (.s .z)), (.s (.s (.s .z))), (.s (.s (.s (.s .z)))), (.s (.s (.s (.s (.s .z))))), trivial⟩)) ⟨rfl, rfl, rfl, rfl, rfl, rfl, rfl, rfl, rfl, rfl, rfl, rfl, rfl, rfl, rfl, rfl, rfl, rfl, rfl, rfl, rfl, rfl, trivial⟩
       ·replace h := ite_f hb h
        refine c_exit ?_
        refine k_in ?_
        exact k_join (sum2, a11, c20) ⟨rfl, rfl, rfl, rfl, rfl, rfl, rfl, trivial⟩ ⟨_, hI.arr (.c .z (.c .z .n)) ⟨.z, (.s .z), (.s (.s .z)), (.s (.s (.s .z))), trivial⟩, h⟩ rfl
    ·replace h := ite_f hb h
     refine c_exit ?_
     refine k_in ?_
     refine k_same ?_
     refine sr ?_
     refine sm ?_
     refine sa ?_
     refine sac ?_
     refine nk ?_
     refine c_ret ?_
     obtain ⟨c32, hI⟩ := hI.release .z
     obtain rfl := some_inj h
     exact q_ret (vs := [(vs a5 out1.length c5), (vi 0)]) Try.results21 ⟨ev_tmp rfl rfl, ⟨ev_tmp rfl rfl, trivial⟩⟩ ⟨a5, c5, rfl, hI.ext0, hI.fin ⟨.z, trivial⟩⟩
set_option maxRecDepth 100000 in
set_option maxHeartbeats 4000000 in
theorem c_base_Times (F : NP) (w0 : World) (hF : ∀ k, F k → k < w0.heap.size) (a1 : Int) (b1 : Int) (hc : AllCl [] F w0) (r : Int × Bool)
  (h : m_base_Times a1 b1 = some r) :
  Calls Try.prog 66 #[(vi a1), (vi b1)] w0 fun e w => e = .returned (Value.tuple #[(vi r.1), (vb r.2)]) ∧ Ext w0 w ∧ AllCl [] F w := by
 refine enterK (l := [(vi a1), (vi b1)]) Try.func66 rfl Try.ntmps66 rfl ?_
 have hI := Bun.start hF hc
 clear hc
 rw [m_base_Times] at h
 refine sr ?_
 refine sac ?_
 refine sac ?_
 refine nk ?_
 refine c_seq ?_
 refine sr ?_
 refine sm ?_
 refine sq (y_eql rfl et ev_const) ?_
 refine sm ?_
 refine s_gval (g_false rfl rfl rfl rfl) rfl (fun hc => (y_move rfl et)) ?_
 refine s_gval (g_false rfl rfl rfl rfl) rfl (fun hc => (y_eql rfl (ev_gv et hc) ev_const)) ?_
 refine sq (y_or rfl et et) ?_
 refine nk ?_
 refine c_cond (b := (decide (a1 = 0)) || (decide (b1 = 0))) et (fun hb => ?_) (fun hb => ?_)
 ·replace h := ite_t hb h
  refine sr ?_
  refine sac ?_
  refine sac ?_
  refine nk ?_
  refine c_ret ?_
  obtain rfl := some_inj h
  exact q_ret (vs := [(vi 0), (vb true)]) Try.results66 ⟨ev_tmp rfl rfl, ⟨ev_tmp rfl rfl, trivial⟩⟩ ⟨rfl, hI.ext0, hI.fin trivial⟩
 ·replace h := ite_f hb h
  refine c_skip ?_
  refine k_same ?_
  refine sr ?_
  refine sm ?_
  refine sm ?_
  refine sq (y_mul rfl et et) ?_
  refine sa ?_
  refine nk ?_
  refine c_seq ?_
  refine sr ?_
  refine sm ?_
  refine sq (y_eql rfl et ev_const) ?_
  refine sm ?_
  refine s_gval (g_true rfl rfl rfl rfl) rfl (fun hc => (y_move rfl et)) ?_
  refine s_gval (g_true rfl rfl rfl rfl) rfl (fun hc => (y_eql rfl (ev_gv et hc) ev_const)) ?_
  refine sq (y_and rfl et et) ?_
  refine sm ?_
  refine s_gval (g_false rfl rfl rfl rfl) rfl (fun hc => (y_move rfl et)) ?_
  refine s_gval (g_false rfl rfl rfl rfl) rfl (fun hc => (y_eql rfl (ev_gv et hc) ev_const)) ?_
  refine s_gval (g_false rfl rfl rfl rfl) rfl (fun hc => (y_move rfl (ev_gv et hc))) ?_
  refine s_gval (g_true2 rfl rfl rfl rfl) rfl (fun hc => (y_move rfl et)) ?_
  refine s_gval (g_true2 rfl rfl rfl rfl) rfl (fun hc => (y_eql rfl (ev_gv et hc) ev_const)) ?_
  refine s_gval (g_false rfl rfl rfl rfl) rfl (fun hc => (y_and2 rfl hc et et)) ?_
  refine sq (y_or rfl et et) ?_
  refine sm ?_
  refine s_gval (g_false rfl rfl rfl rfl) rfl (fun hc => (y_move rfl et)) ?_
  refine s_gval (g_false rfl rfl rfl rfl) rfl (fun hc => (y_move rfl et)) ?_
  obtain ⟨ho1, h⟩ := chk_some h
  refine s_gval (g_false rfl rfl rfl rfl) rfl (fun hc => (y_quo rfl (ev_gv et hc) (ev_gv et hc) (ho1 hc))) ?_
  refine s_gval (g_false rfl rfl rfl rfl) rfl (fun hc => (y_move rfl et)) ?_
  refine s_gval (g_false rfl rfl rfl rfl) rfl (fun hc => (y_neq rfl (ev_gv et hc) (ev_gv et hc))) ?_
  refine sq (y_or rfl et et) ?_
  refine s_nil ?_
  refine k_next (e := [(6, (vi (wi64 (a1 * b1)))), (36, (vb ((((decide (a1 = (-1))) && (decide (b1 = (-9223372036854775808)))) || ((decide (b1 = (-1))) && (decide (a1 = (-9223372036854775808))))) || (!decide (wi64 (Int.tdiv (wi64 (a1 * b1)) b1) = a1)))))]) ⟨rfl, rfl, trivial⟩ ?_
  refine c_cond (b := (((decide (a1 = (-1))) && (decide (b1 = (-9223372036854775808)))) || ((decide (b1 = (-1))) && (decide (a1 = (-9223372036854775808))))) || (!decide (wi64 (Int.tdiv (wi64 (a1 * b1)) b1) = a1))) et (fun hb => ?_) (fun hb => ?_)
  ·replace h := ite_t hb h
   refine sr ?_
   refine sac ?_
   refine sac ?_
   refine nk ?_
   refine c_ret ?_
   obtain rfl := some_inj h
   exact q_ret (vs := [(vi 0), (vb false)]) Try.results66 ⟨ev_tmp rfl rfl, ⟨ev_tmp rfl rfl, trivial⟩⟩ ⟨rfl, hI.ext0, hI.fin trivial⟩
  ·replace h := ite_f hb h
   refine c_skip ?_
   refine k_same ?_
   refine sr ?_
   refine sm ?_
   refine sa ?_
   refine sac ?_
   refine nk ?_
   refine c_ret ?_
   obtain rfl := some_inj h
   exact q_ret (vs := [(vi (wi64 (a1 * b1))), (vb true)]) Try.results66 ⟨ev_tmp rfl rfl, ⟨ev_tmp rfl rfl, trivial⟩⟩ ⟨rfl, hI.ext0, hI.fin trivial⟩
set_option maxRecDepth 100000 in
set_option maxHeartbeats 4000000 in
theorem c_base_Plus (F : NP) (w0 : World) (hF : ∀ k, F k → k < w0.heap.size) (a1 : Int) (b1 : Int) (hc : AllCl [] F w0) (r : Int × Bool)
  (h : m_base_Plus a1 b1 = some r) :
  Calls Try.prog 67 #[(vi a1), (vi b1)] w0 fun e w => e = .returned (Value.tuple #[(vi r.1), (vb r.2)]) ∧ Ext w0 w ∧ AllCl [] F w := by
 refine enterK (l := [(vi a1), (vi b1)]) Try.func67 rfl Try.ntmps67 rfl ?_
 have hI := Bun.start hF hc
 clear hc
 rw [m_base_Plus] at h
 refine sr ?_
 refine sac ?_
 refine sac ?_
 refine nk ?_
 refine c_seq ?_
 refine sr ?_
 refine sm ?_
 refine sq (y_gtr rfl et ev_const) ?_
 refine sm ?_
 refine s_gval (g_true rfl rfl rfl rfl) rfl (fun hc => (y_move rfl et)) ?_
 refine s_gval (g_true rfl rfl rfl rfl) rfl (fun hc => (y_move rfl et)) ?_
 refine s_gval (g_true rfl rfl rfl rfl) rfl (fun hc => (y_sub rfl ev_const (ev_gv et hc))) ?_
 refine s_gval (g_true rfl rfl rfl rfl) rfl (fun hc => (y_gtr rfl (ev_gv et hc) (ev_gv et hc))) ?_
 refine sq (y_and rfl et et) ?_
 refine sm ?_
 refine s_gval (g_false rfl rfl rfl rfl) rfl (fun hc => (y_move rfl et)) ?_
 refine s_gval (g_false rfl rfl rfl rfl) rfl (fun hc => (y_lss rfl (ev_gv et hc) ev_const)) ?_
 refine s_gval (g_false rfl rfl rfl rfl) rfl (fun hc => (y_move rfl (ev_gv et hc))) ?_
 refine s_gval (g_true2 rfl rfl rfl rfl) rfl (fun hc => (y_move rfl et)) ?_
 refine s_gval (g_true2 rfl rfl rfl rfl) rfl (fun hc => (y_move rfl et)) ?_
 refine s_gval (g_true2 rfl rfl rfl rfl) rfl (fun hc => (y_sub rfl ev_const (ev_gv et hc))) ?_
 refine s_gval (g_true2 rfl rfl rfl rfl) rfl (fun hc => (y_lss rfl (ev_gv et hc) (ev_gv et hc))) ?_
 refine s_gval (g_false rfl rfl rfl rfl) rfl (fun hc => (y_and2 rfl hc et et)) ?_
 refine sq (y_or rfl et et) ?_
 refine nk ?_
 refine c_cond (b := ((decide (0 < b1)) && (decide (wi64 (9223372036854775807 - b1) < a1))) || ((decide (b1 < 0)) && (decide (a1 < wi64 ((-9223372036854775808) - b1))))) et (fun hb => ?_) (fun hb => ?_)
 ·replace h := ite_t hb h
  refine sr ?_
  refine sac ?_
  refine sac ?_
  refine nk ?_
  refine c_ret ?_
  obtain rfl := some_inj h
  exact q_ret (vs := [(vi 0), (vb false)]) Try.results67 ⟨ev_tmp rfl rfl, ⟨ev_tmp rfl rfl, trivial⟩⟩ ⟨rfl, hI.ext0, hI.fin trivial⟩
 ·replace h := ite_f hb h
  refine c_skip ?_
  refine k_same ?_
  refine sr ?_
  refine sm ?_
  refine sm ?_
  refine sq (y_add rfl et et) ?_
  refine sa ?_
  refine sac ?_
  refine nk ?_
  refine c_ret ?_
  obtain rfl := some_inj h
  exact q_ret (vs := [(vi (wi64 (a1 + b1))), (vb true)]) Try.results67 ⟨ev_tmp rfl rfl, ⟨ev_tmp rfl rfl, trivial⟩⟩ ⟨rfl, hI.ext0, hI.fin trivial⟩
set_option maxRecDepth 100000 in
set_option maxHeartbeats 4000000 in
theorem c_ref10_plus (F : NP) (w0 : World) (hF : ∀ k, F k → k < w0.heap.size) (a1 : GLin) (b1 : GLin) (by1 : Int) (a2 : Option Addr) (c1 : Nat) (a3 : Option Addr) (c2 : Nat) (hc : AllCl [Cl.sl cGMono a2 c1 a1.L, Cl.sl cGMono a3 c2 b1.L] F w0) (r : GLin × Bool)
  (h : m_ref10_plus a1 b1 by1 = some r) :
  Calls Try.prog 45 #[(Value.agg #[(vi a1.K), (vs a2 a1.L.length c1)]), (Value.agg #[(vi b1.K), (vs a3 b1.L.length c2)]), (vi by1)] w0 fun e w => ∃ (a4 : Option Addr) (c3 : Nat), e = .returned (Value.tuple #[(Value.agg #[(vi r.1.K), (vs a4 r.1.L.length c3)]), (vb r.2)]) ∧ Ext w0 w ∧ AllCl [Cl.sl cGMono a4 c3 r.1.L] F w := by
 refine enterK (l := [(Value.agg #[(vi a1.K), (vs a2 a1.L.length c1)]), (Value.agg #[(vi b1.K), (vs a3 b1.L.length c2)]), (vi by1)]) Try.func45 rfl Try.ntmps45 rfl ?_
 have hI := Bun.start hF hc
 clear hc
 rw [m_ref10_plus] at h
 refine sr ?_
 refine l_box (v := (Value.agg #[(vi a1.K), (vs a2 a1.L.length c1)])) (cs := #[(vi a1.K), (vs a2 a1.L.length c1)]) hI gn rfl rfl et rfl ?_
 clear hI; intro b2 c4 w1 hI
 obtain ⟨c5, hI⟩ := hI.relBox .z
 refine l_box (v := (Value.agg #[(vi b1.K), (vs a3 b1.L.length c2)])) (cs := #[(vi b1.K), (vs a3 b1.L.length c2)]) hI gn rfl rfl et rfl ?_
 clear hI; intro b3 c6 w2 hI
 obtain ⟨c7, hI⟩ := hI.relBox .z
 refine l_alloc (cs := #[(vi 0), (vs none 0 0)]) hI gn rfl rfl zero_51 rfl ?_
 clear hI; intro b4 c8 w3 hI
 refine sac ?_
 refine nk ?_
 refine sr ?_
 refine sq (y_fieldAddr rfl et Try.underlying51 rfl size_2 rfl) ?_
 refine sq (y_load1 (v := (vi b1.K)) rfl et Try.underlying2 rfl (hI.kblk (l := [(vi b1.K)]) .z rfl).1) ?_
 refine sm ?_
 obtain ⟨r1, hx1, h⟩ := bnd_some h
 refine s_call gn rfl (r_callF (vs := [(vi b1.K), (vi by1)]) rfl ok_66 ⟨et, ⟨et, trivial⟩⟩) (Calls.mono (c_base_Times (Dj F c8) w3 hI.lt b1.K by1 trivial r1 hx1) ?_)
 rintro _ w4 ⟨rfl, hx2, hl1⟩
 refine ⟨_, rfl, ?_⟩
 replace hI := (hI.ext hx2)
 refine sm ?_
 refine sq (y_extract rfl et rfl) ?_
 refine sq (y_extract rfl et rfl) ?_
 refine sa ?_
 refine sa ?_
 refine nk ?_
 refine sr ?_
 refine sq (y_fieldAddr rfl et Try.underlying51 rfl size_2 rfl) ?_
 refine sq (y_load1 (v := (vi a1.K)) rfl et Try.underlying2 rfl (hI.kblk (l := [(vi a1.K)]) (.s .z) rfl).1) ?_
 refine sm ?_
 obtain ⟨r2, hx3, h⟩ := bnd_some h
 refine s_call gn rfl (r_callF (vs := [(vi a1.K), (vi r1.1)]) rfl ok_67 ⟨et, ⟨et, trivial⟩⟩) (Calls.mono (c_base_Plus (Dj F c8) w4 hI.lt a1.K r1.1 trivial r2 hx3) ?_)
 rintro _ w5 ⟨rfl, hx4, hl2⟩
 refine ⟨_, rfl, ?_⟩
 replace hI := (hI.ext hx4)
 refine sm ?_
 refine sq (y_extract rfl et rfl) ?_
 refine sq (y_extract rfl et rfl) ?_
 refine sa ?_
 refine sa ?_
 refine nk ?_
 refine sr ?_
 refine sm ?_
 refine sq (y_build (vs := [(0, (vi r2.1))]) (cs := #[(vi r2.1), (vs none 0 0)]) rfl ⟨rfl, et, trivial⟩ (by kernel_rfl)) ?_
 refine sm ?_
 refine sm ?_
 refine s_gval (g_true rfl rfl rfl rfl) rfl (fun hc => (y_move rfl et)) ?_
 refine sq (y_and rfl et et) ?_
 refine l_alloc (cs := #[(vi 0), (vs none 0 0)]) hI gn rfl rfl zero_51 rfl ?_
 clear hI; intro b5 c9 w6 hI
 refine l_store (new := [(vi r2.1), (vs none 0 0)]) (cs' := #[(vi r2.1), (vs none 0 0)]) hI .z gn rfl rfl et et rfl size_51 rfl rfl rfl ?_
 clear hI; intro c10 w7 hI
 refine sa ?_
 refine s_nil ?_
 refine k_next (e := [(2, (vi by1)), (3, (vp b2 0)), (4, (vp b3 0)), (6, (vp b4 0)), (12, (vp b5 0)), (13, (vb (r1.2 && r2.2)))]) ⟨rfl, rfl, rfl, rfl, rfl, rfl, trivial⟩ ?_
 refine sr ?_
 refine sac ?_
 refine sac ?_
 refine nk ?_
 refine c_seq ?_
 refine c_block ?_
 have hI := hI.nil cGMono 53 none
 refine c_loop (α := Nat × Bool × Int × Int × GLin × (Option Addr) × Nat) (fun x => fun w => ∃ C, Bun noM F w0 C w [MO.row cGMono 53 (x.2.2.2.2.2.1) (x.2.2.2.2.2.2) (x.2.2.2.2.1).L, MO.box b4 51 #[(vi 0), (vs none 0 0)], MO.box b5 51 #[(vi (x.2.2.2.2.1).K), (vs (x.2.2.2.2.2.1) (x.2.2.2.2.1).L.length (x.2.2.2.2.2.2))]] [Cl.blk b2 51 #[(vi a1.K), (vs a2 a1.L.length c1)], Cl.sl cGMono a2 c1 a1.L, Cl.blk b3 51 #[(vi b1.K), (vs a3 b1.L.length c2)], Cl.sl cGMono a3 c2 b1.L] ∧ m_ref10_plus_l1 a1 b1 by1 (x.1) (x.2.1) (x.2.2.1) (x.2.2.2.1) (x.2.2.2.2.1) = some r) (fun x _ => x.1) (fun x => [(2, (vi by1)), (3, (vp b2 0)), (4, (vp b3 0)), (6, (vp b4 0)), (12, (vp b5 0)), (13, (vb (x.2.1))), (14, (vi (x.2.2.1))), (15, (vi (x.2.2.2.1)))]) (fu, r1.2 && r2.2, 0, 0, (⟨r2.1, ([] : List GMono)⟩ : GLin), none, 0) ⟨_, hI.arr (.c .z (.c (.s .z) (.c .z .n))) ⟨(.s .z), (.s (.s .z)), .z, (.s (.s (.s .z))), trivial⟩, h⟩ ⟨rfl, rfl, rfl, rfl, rfl, rfl, rfl, rfl, trivial⟩ ?_
 clear h hI; rintro ⟨fuel1, good1, i1, j1, out1, a5, c11⟩ w8 ⟨c12, hI, h⟩
 dsimp only at hI h
 rcases fuel1 with _ | fuel1
 ·rw [m_ref10_plus_l1] at h; cases h
 rw [m_ref10_plus_l1] at h
 refine c_sub (e := [(2, (vi by1)), (3, (vp b2 0)), (4, (vp b3 0)), (6, (vp b4 0)), (12, (vp b5 0)), (13, (vb good1)), (14, (vi i1)), (15, (vi j1))]) ⟨rfl, rfl, rfl, rfl, rfl, rfl, rfl, rfl, trivial⟩ ?_
 refine c_seq ?_
 refine sr ?_
 refine sm ?_
 refine sq (y_fieldAddr rfl et Try.underlying51 rfl size_49 rfl) ?_
 refine sq (y_load1 (v := (vs a2 a1.L.length c1)) rfl et Try.underlying49 rfl (hI.kblk (l := [(vs a2 a1.L.length c1)]) .z rfl).1) ?_
 refine sq (y_lenl rfl Try.underlying49 et) ?_
 refine sq (y_lss rfl et et) ?_
 refine sm ?_
 refine s_gval (g_false rfl rfl rfl rfl) rfl (fun hc => (y_move rfl et)) ?_
 refine s_gval (g_false rfl rfl rfl rfl) rfl (fun hc => (y_fieldAddr rfl et Try.underlying51 rfl size_49 rfl)) ?_
 refine s_gval (g_false rfl rfl rfl rfl) rfl (fun hc => (y_load1 (v := (vs a3 b1.L.length c2)) rfl (ev_gv et hc) Try.underlying49 rfl (hI.kblk (l := [(vs a3 b1.L.length c2)]) (.s (.s .z)) rfl).1)) ?_
 refine s_gval (g_false rfl rfl rfl rfl) rfl (fun hc => (y_lenl rfl Try.underlying49 (ev_gv et hc))) ?_
 refine s_gval (g_false rfl rfl rfl rfl) rfl (fun hc => (y_lss rfl (ev_gv et hc) (ev_gv et hc))) ?_
 refine sq (y_or rfl et et) ?_
 refine nk ?_
 refine c_cond (b := (decide (i1 < (a1.L.length : Int))) || (decide (j1 < (b1.L.length : Int)))) et (fun hb => ?_) (fun hb => ?_)
 ·replace h := ite_t hb h
  refine c_skip ?_
  refine k_same ?_
  refine c_block ?_
  refine c_seq ?_
  refine c_seq ?_
  refine c_drawX [] false (.c (0, .q) (.c (1, .q) (.c (2, .q) (.c (3, .q) (.c (4, .q) (.c (5, .q) (.c (6, .q) (.c (7, .q) (.c (8, .q) (.c (9, .q) (.c (10, .q) (.c (11, .q) (.c (12, .q) (.c (13, .q) (.c (14, .q) (.c (15, .q) (.c (16, .q) (.c (17, .q) (.c (18, .q) (.c (19, .q) (.c (20, .q) (.c (21, .q) (.c (22, .q) (.c (23, .q) (.c (24, .q) (.c (25, .q) (.c (26, .q) .n))))))))))))))))))))))))))) hI (by kernel_rfl) (by kernel_rfl) ?_
  clear hI; intro w9 hI
  refine a_q rfl gn rfl (fun w' => (y_move rfl et)) ?_
  refine a_q rfl gn rfl (fun w' => (y_fieldAddr rfl et Try.underlying51 rfl size_49 rfl)) ?_
  refine a_read rfl gn rfl (fun w' hw' => (y_load1 (v := (vs a3 b1.L.length c2)) rfl et Try.underlying49 rfl ((hI.kblk (l := [(vs a3 b1.L.length c2)]) (.s (.s .z)) rfl).at_ (SX.any rfl hw')))) (by kernel_rfl) ?_
  refine a_q rfl gn rfl (fun w' => (y_lenl rfl Try.underlying49 et)) ?_
  refine a_q rfl gn rfl (fun w' => (y_geq rfl et et)) ?_
  refine a_q rfl gn rfl (fun w' => (y_move rfl et)) ?_
  refine a_gval rfl (g_false rfl rfl rfl rfl) rfl (fun hc => fun w' => (y_move rfl et)) ?_
  refine a_gval rfl (g_false rfl rfl rfl rfl) rfl (fun hc => fun w' => (y_fieldAddr rfl et Try.underlying51 rfl size_49 rfl)) ?_
  refine a_gread rfl (g_false rfl rfl rfl rfl) rfl (fun hc => fun w' hw' => (y_load1 (v := (vs a2 a1.L.length c1)) rfl (ev_gv et hc) Try.underlying49 rfl ((hI.kblk (l := [(vs a2 a1.L.length c1)]) .z rfl).at_ (SX.any rfl hw')))) (by kernel_rfl) ?_
  refine a_gval rfl (g_false rfl rfl rfl rfl) rfl (fun hc => fun w' => (y_lenl rfl Try.underlying49 (ev_gv et hc))) ?_
  refine a_gval rfl (g_false rfl rfl rfl rfl) rfl (fun hc => fun w' => (y_lss rfl (ev_gv et hc) (ev_gv et hc))) ?_
  refine a_gval rfl (g_false rfl rfl rfl rfl) rfl (fun hc => fun w' => (y_move rfl (ev_gv et hc))) ?_
  refine a_gval rfl (g_true2 rfl rfl rfl rfl) rfl (fun hc => fun w' => (y_fieldAddr rfl et Try.underlying51 rfl size_49 rfl)) ?_
  refine a_gread rfl (g_true2 rfl rfl rfl rfl) rfl (fun hc => fun w' hw' => (y_load1 (v := (vs a2 a1.L.length c1)) rfl (ev_gv et hc) Try.underlying49 rfl ((hI.kblk (l := [(vs a2 a1.L.length c1)]) .z rfl).at_ (SX.any rfl hw')))) (by kernel_rfl) ?_
  refine a_gval rfl (g_true2 rfl rfl rfl rfl) rfl (fun hc => fun w' => (y_move rfl et)) ?_
  obtain ⟨e1, hx5, h⟩ := bnd_some h
  replace hx5 := gd_some hx5
  obtain ⟨ad1, cs1, hq1⟩ := hI.gclat (.s .z) hx5
  have hq2 : ((!(decide ((b1.L.length : Int) ≤ j1))) && (decide (i1 < (a1.L.length : Int)))) = true → CA (Dj F c12) w9 (ad1.add (Int.toNat i1 * 2)) [(str e1.Name), (vi e1.By)] := fun hc => by have k := hq1 hc; have e : cs1 = _ := k.2.1; rw [← e]; exact k.2.2
  refine a_gval rfl (g_true2 rfl rfl rfl rfl) rfl (fun hc => fun w' => (y_indexAddr rfl Try.underlying49 size_53 (ev_gv et hc) (ev_gv et hc) (lat_bd (hx5 hc)) (hq1 hc).1)) ?_
  refine a_gval rfl (g_true2 rfl rfl rfl rfl) rfl (fun hc => fun w' => (y_fieldAddr rfl (ev_gv et hc) Try.underlying53 rfl size_9 rfl)) ?_
  refine a_gread rfl (g_true2 rfl rfl rfl rfl) rfl (fun hc => fun w' hw' => (y_load1 (v := (str e1.Name)) rfl (ev_gv et hc) Try.underlying9 rfl ((CA.part (hq2 hc) rfl).at_ (SX.any rfl hw')))) (by kernel_rfl) ?_
  refine a_gval rfl (g_true2 rfl rfl rfl rfl) rfl (fun hc => fun w' => (y_fieldAddr rfl et Try.underlying51 rfl size_49 rfl)) ?_
  refine a_gread rfl (g_true2 rfl rfl rfl rfl) rfl (fun hc => fun w' hw' => (y_load1 (v := (vs a3 b1.L.length c2)) rfl (ev_gv et hc) Try.underlying49 rfl ((hI.kblk (l := [(vs a3 b1.L.length c2)]) (.s (.s .z)) rfl).at_ (SX.any rfl hw')))) (by kernel_rfl) ?_
  refine a_gval rfl (g_true2 rfl rfl rfl rfl) rfl (fun hc => fun w' => (y_move rfl et)) ?_
  obtain ⟨e2, hx6, h⟩ := bnd_some h
  replace hx6 := gd_some hx6
  obtain ⟨ad2, cs2, hq3⟩ := hI.gclat (.s (.s (.s .z))) hx6
  have hq4 : ((!(decide ((b1.L.length : Int) ≤ j1))) && (decide (i1 < (a1.L.length : Int)))) = true → CA (Dj F c12) w9 (ad2.add (Int.toNat j1 * 2)) [(str e2.Name), (vi e2.By)] := fun hc => by have k := hq3 hc; have e : cs2 = _ := k.2.1; rw [← e]; exact k.2.2
  refine a_gval rfl (g_true2 rfl rfl rfl rfl) rfl (fun hc => fun w' => (y_indexAddr rfl Try.underlying49 size_53 (ev_gv et hc) (ev_gv et hc) (lat_bd (hx6 hc)) (hq3 hc).1)) ?_
  refine a_gval rfl (g_true2 rfl rfl rfl rfl) rfl (fun hc => fun w' => (y_fieldAddr rfl (ev_gv et hc) Try.underlying53 rfl size_9 rfl)) ?_
  refine a_gread rfl (g_true2 rfl rfl rfl rfl) rfl (fun hc => fun w' hw' => (y_load1 (v := (str e2.Name)) rfl (ev_gv et hc) Try.underlying9 rfl ((CA.part (hq4 hc) rfl).at_ (SX.any rfl hw')))) (by kernel_rfl) ?_
  refine a_gval rfl (g_true2 rfl rfl rfl rfl) rfl (fun hc => fun w' => (y_lts rfl (ev_gv et hc) (ev_gv et hc))) ?_
  refine a_gval rfl (g_false rfl rfl rfl rfl) rfl (fun hc => fun w' => (y_and2 rfl hc et et)) ?_
  refine a_q rfl gn rfl (fun w' => (y_or rfl et et)) ?_
  refine a_nil ?_
  refine k_next (e := [(2, (vi by1)), (3, (vp b2 0)), (4, (vp b3 0)), (6, (vp b4 0)), (12, (vp b5 0)), (13, (vb good1)), (14, (vi i1)), (15, (vi j1)), (79, (vb ((decide ((b1.L.length : Int) ≤ j1)) || ((decide (i1 < (a1.L.length : Int))) && (Op.bytesLess e1.Name e2.Name)))))]) ⟨rfl, rfl, rfl, rfl, rfl, rfl, rfl, rfl, rfl, trivial⟩ ?_
  refine c_cond (b := (decide ((b1.L.length : Int) ≤ j1)) || ((decide (i1 < (a1.L.length : Int))) && (Op.bytesLess e1.Name e2.Name))) et (fun hb => ?_) (fun hb => ?_)
  ·replace h := ite_t hb h
   refine c_seq ?_
   refine c_drawX [8, 10] false (.c (0, .q) (.c (1, .q) (.c (2, .q) (.c (3, .q) (.c (4, .q) (.c (5, .q) (.c (6, .q) (.c (7, .s) (.c (8, .s) (.c (9, .q) (.c (10, .s) .n))))))))))) hI (by kernel_rfl) (by kernel_rfl) ?_
   clear hI; intro w10 hI
   refine a_q rfl gn rfl (fun w' => (y_fieldAddr rfl et Try.underlying51 rfl size_49 rfl)) ?_
   refine a_read rfl gn rfl (fun w' hw' => (y_load1 (v := (vs a5 out1.L.length c11)) rfl et Try.underlying49 rfl ((CA.blk (hI.blk (.s (.s .z))) rfl).at_ (SX.any rfl hw')))) (by kernel_rfl) ?_
   refine a_q rfl gn rfl (fun w' => (y_fieldAddr rfl et Try.underlying51 rfl size_49 rfl)) ?_
   refine a_read rfl gn rfl (fun w' hw' => (y_load1 (v := (vs a2 a1.L.length c1)) rfl et Try.underlying49 rfl ((hI.kblk (l := [(vs a2 a1.L.length c1)]) .z rfl).at_ (SX.any rfl hw')))) (by kernel_rfl) ?_
   refine a_q rfl gn rfl (fun w' => (y_move rfl et)) ?_
   obtain ⟨e3, hx7, h⟩ := bnd_some h
   obtain ⟨ad3, cs3, hA3, hr3, hq5⟩ := hI.clat (.s .z) hx7
   obtain rfl : cs3 = [(str e3.Name), (vi e3.By)] := hr3
   refine a_q rfl gn rfl (fun w' => (y_indexAddr rfl Try.underlying49 size_53 et et (lat_bd hx7) hA3)) ?_
   refine a_read rfl gn rfl (fun w' hw' => (y_loadN (l := [(str e3.Name), (vi e3.By)]) rfl et Try.underlying53 rfl size_53 (hq5.at_ (SX.any rfl hw')))) (by kernel_rfl) ?_
   refine la_lit (c := cGMono) (xs := ([e3] : List GMono)) (vs := [(0, (Value.agg #[(str e3.Name), (vi e3.By)]))]) (cs := #[(str e3.Name), (vi e3.By)]) (css := [[(str e3.Name), (vi e3.By)]]) hI rfl gn rfl rfl Try.underlying49 info_53 rfl ⟨rfl, et, trivial⟩ (by kernel_rfl) ⟨rfl, trivial⟩ rfl rfl rfl ?_
   clear hI; intro b6 c13 w11 hI
   refine a_turn (F := F) (C := c13) rfl rfl ?_
   obtain ⟨zs1, hx8, h⟩ := bnd_some h
   refine la_append (xs := out1.L) (ys := ([e3] : List GMono)) hI (.s .z) (hI.rd .z) hx8 rfl gn rfl rfl Try.underlying49 info_53 rfl rfl et et ?_
   clear hI; intro a6 c14 c15 w12 hI
   refine a_q rfl gn rfl (fun w' => (y_fieldAddr rfl et Try.underlying51 rfl size_49 rfl)) ?_
   refine la_store (new := [(vs a6 zs1.length c14)]) (cs' := #[(vi out1.K), (vs a6 zs1.length c14)]) hI (.s (.s (.s .z))) rfl gn rfl rfl et et rfl size_49 rfl rfl rfl ?_
   clear hI; intro c16 w13 hI
   refine a_nil ?_
   refine k_same ?_
   refine sr ?_
   refine sm ?_
   refine sq (y_add rfl et ev_const) ?_
   refine sa ?_
   refine nk ?_
   refine c_exit ?_
   refine k_in ?_
   exact k_loop (fuel1, good1, wi64 (i1 + 1), j1, (⟨out1.K, zs1⟩ : GLin), a6, c14) ⟨rfl, rfl, rfl, rfl, rfl, rfl, rfl, rfl, trivial⟩ ⟨_, hI.arr (.c (.s .z) (.c (.s .z) (.c (.s .z) .n))) ⟨.z, (.s .z), (.s (.s .z)), (.s (.s (.s .z))), trivial⟩, h⟩ (Nat.lt_succ_self _)
  ·replace h := ite_f hb h
   refine c_skip ?_
   refine k_same ?_
   refine sr ?_
   refine sq (y_fieldAddr rfl et Try.underlying51 rfl size_49 rfl) ?_
   refine sq (y_load1 (v := (vs a3 b1.L.length c2)) rfl et Try.underlying49 rfl (hI.kblk (l := [(vs a3 b1.L.length c2)]) (.s (.s .z)) rfl).1) ?_
   refine sm ?_
   obtain ⟨e4, hx9, h⟩ := bnd_some h
   obtain ⟨ad4, cs4, hA4, hr4, hq6⟩ := hI.clat (.s (.s (.s .z))) hx9
   obtain rfl : cs4 = [(str e4.Name), (vi e4.By)] := hr4
   refine sq (y_indexAddr rfl Try.underlying49 size_53 et et (lat_bd hx9) hA4) ?_
   refine sq (y_fieldAddr rfl et Try.underlying53 rfl size_2 rfl) ?_
   refine sq (y_load1 (v := (vi e4.By)) rfl et Try.underlying2 rfl (CA.part hq6 rfl).1) ?_
   refine sm ?_
   obtain ⟨r3, hx10, h⟩ := bnd_some h
   refine s_call gn rfl (r_callF (vs := [(vi e4.By), (vi by1)]) rfl ok_66 ⟨et, ⟨et, trivial⟩⟩) (Calls.mono (c_base_Times (Dj F c12) w9 hI.lt e4.By by1 trivial r3 hx10) ?_)
   rintro _ w14 ⟨rfl, hx11, hl3⟩
   refine ⟨_, rfl, ?_⟩
   replace hI := (hI.ext hx11)
   refine sm ?_
   refine sq (y_extract rfl et rfl) ?_
   refine sq (y_extract rfl et rfl) ?_
   refine sa ?_
   refine sa ?_
   refine nk ?_
   refine sr ?_
   refine sq (y_fieldAddr rfl et Try.underlying51 rfl size_49 rfl) ?_
   refine sq (y_load1 (v := (vs a3 b1.L.length c2)) rfl et Try.underlying49 rfl (hI.kblk (l := [(vs a3 b1.L.length c2)]) (.s (.s .z)) rfl).1) ?_
   refine sm ?_
   obtain ⟨e5, hx12, h⟩ := bnd_some h
   obtain ⟨ad5, cs5, hA5, hr5, hq7⟩ := hI.clat (.s (.s (.s .z))) hx12
   obtain rfl : cs5 = [(str e5.Name), (vi e5.By)] := hr5
   refine sq (y_indexAddr rfl Try.underlying49 size_53 et et (lat_bd hx12) hA5) ?_
   refine sq (y_fieldAddr rfl et Try.underlying53 rfl size_9 rfl) ?_
   refine sq (y_load1 (v := (str e5.Name)) rfl et Try.underlying9 rfl (CA.part hq7 rfl).1) ?_
   refine sa ?_
   refine nk ?_
   refine sr ?_
   refine sm ?_
   refine sq (y_add rfl et ev_const) ?_
   refine sa ?_
   refine nk ?_
   refine c_join (α := Int × Int × Bool) (fun _ => ⟨160, []⟩) (fun x => [(2, (vi by1)), (3, (vp b2 0)), (4, (vp b3 0)), (6, (vp b4 0)), (12, (vp b5 0)), (13, (vb good1)), (14, (vi (x.1))), (15, (vi (wi64 (j1 + 1)))), (16, (vi (x.2.1))), (17, (vb (x.2.2))), (18, (str e5.Name))]) (fun x => fun w => ∃ C, Bun noM F w0 C w [MO.box b4 51 #[(vi 0), (vs none 0 0)], MO.box b5 51 #[(vi out1.K), (vs a5 out1.L.length c11)], MO.row cGMono 53 a5 c11 out1.L] [Cl.blk b2 51 #[(vi a1.K), (vs a2 a1.L.length c1)], Cl.sl cGMono a2 c1 a1.L, Cl.blk b3 51 #[(vi b1.K), (vs a3 b1.L.length c2)], Cl.sl cGMono a3 c2 b1.L] ∧ m_ref10_plus_j1 out1 e5 (m_ref10_plus_l1 a1 b1 by1 fuel1) good1 j1 (x.1) (x.2.1) (x.2.2) = some r) ?_ ?_
   ·clear h hI; rintro ⟨i2, n1, fit1⟩ w15 ⟨c17, hI, h⟩
    try dsimp only at hI h
    rw [m_ref10_plus_j1] at h
    refine c_sub (e := [(2, (vi by1)), (3, (vp b2 0)), (4, (vp b3 0)), (6, (vp b4 0)), (12, (vp b5 0)), (13, (vb good1)), (14, (vi i2)), (15, (vi (wi64 (j1 + 1)))), (16, (vi n1)), (17, (vb fit1)), (18, (str e5.Name))]) ⟨rfl, rfl, rfl, rfl, rfl, rfl, rfl, rfl, rfl, rfl, rfl, trivial⟩ ?_
    refine sr ?_
    refine sm ?_
    refine sm ?_
    refine s_gval (g_true rfl rfl rfl rfl) rfl (fun hc => (y_move rfl et)) ?_
    refine sq (y_and rfl et et) ?_
    refine sa ?_
    refine nk ?_
    refine sr ?_
    refine sm ?_
    refine sq (y_neq rfl et ev_const) ?_
    refine nk ?_
    refine c_cond (b := !decide (n1 = 0)) et (fun hb => ?_) (fun hb => ?_)
    ·replace h := ite_t hb h
     refine c_region rfl ?_
     refine sq (y_fieldAddr rfl et Try.underlying51 rfl size_49 rfl) ?_
     refine sq (y_load1 (v := (vs a5 out1.L.length c11)) rfl et Try.underlying49 rfl (CellsAt.of_blk (hI.blk (.s .z)) rfl)) ?_
     refine sm ?_
     refine sm ?_
     refine sq (y_build (vs := [(0, (str e5.Name)), (1, (vi n1))]) (cs := #[(str e5.Name), (vi n1)]) rfl ⟨rfl, et, ⟨rfl, et, trivial⟩⟩ (by kernel_rfl)) ?_
     refine l_lit (c := cGMono) (xs := ([(⟨e5.Name, n1⟩ : GMono)] : List GMono)) (vs := [(0, (Value.agg #[(str e5.Name), (vi n1)]))]) (cs := #[(str e5.Name), (vi n1)]) (css := [[(str e5.Name), (vi n1)]]) hI gn rfl rfl Try.underlying49 info_53 rfl ⟨rfl, et, trivial⟩ (by kernel_rfl) ⟨rfl, trivial⟩ rfl rfl rfl ?_
     clear hI; intro b7 c18 w16 hI
     obtain ⟨zs2, hx13, h⟩ := bnd_some h
     refine l_append (xs := out1.L) (ys := ([(⟨e5.Name, n1⟩ : GMono)] : List GMono)) hI (.s (.s (.s .z))) (hI.rd .z) hx13 gn rfl rfl Try.underlying49 info_53 rfl rfl et et ?_
     clear hI; intro a7 c19 c20 w17 hI
     refine sq (y_fieldAddr rfl et Try.underlying51 rfl size_49 rfl) ?_
     refine l_store (new := [(vs a7 zs2.length c19)]) (cs' := #[(vi out1.K), (vs a7 zs2.length c19)]) hI (.s (.s .z)) gn rfl rfl et et rfl size_49 rfl rfl rfl ?_
     clear hI; intro c21 w18 hI
     refine s_nil ?_
     exact k_loop (fuel1, good1 && fit1, i2, wi64 (j1 + 1), (⟨out1.K, zs2⟩ : GLin), a7, c19) ⟨rfl, rfl, rfl, rfl, rfl, rfl, rfl, rfl, trivial⟩ ⟨_, hI.arr (.c (.s (.s (.s .z))) (.c (.s .z) (.c (.s .z) .n))) ⟨.z, (.s .z), (.s (.s .z)), (.s (.s (.s .z))), trivial⟩, h⟩ (Nat.lt_succ_self _)
    ·replace h := ite_f hb h
     refine c_skip ?_
     exact k_loop (fuel1, good1 && fit1, i2, wi64 (j1 + 1), out1, a5, c11) ⟨rfl, rfl, rfl, rfl, rfl, rfl, rfl, rfl, trivial⟩ ⟨_, hI.arr (.c (.s (.s .z)) (.c .z (.c .z .n))) ⟨.z, (.s .z), (.s (.s .z)), (.s (.s (.s .z))), trivial⟩, h⟩ (Nat.lt_succ_self _)
   ·skip
    refine sr ?_
    refine sm ?_
    refine sq (y_fieldAddr rfl et Try.underlying51 rfl size_49 rfl) ?_
    refine sq (y_load1 (v := (vs a2 a1.L.length c1)) rfl et Try.underlying49 rfl (hI.kblk (l := [(vs a2 a1.L.length c1)]) .z rfl).1) ?_
    refine sq (y_lenl rfl Try.underlying49 et) ?_
    refine sq (y_lss rfl et et) ?_
    refine sm ?_
    refine s_gval (g_true rfl rfl rfl rfl) rfl (fun hc => (y_fieldAddr rfl et Try.underlying51 rfl size_49 rfl)) ?_
    refine s_gval (g_true rfl rfl rfl rfl) rfl (fun hc => (y_load1 (v := (vs a2 a1.L.length c1)) rfl (ev_gv et hc) Try.underlying49 rfl (hI.kblk (l := [(vs a2 a1.L.length c1)]) .z rfl).1)) ?_
    refine s_gval (g_true rfl rfl rfl rfl) rfl (fun hc => (y_move rfl et)) ?_
    obtain ⟨e6, hx14, h⟩ := bnd_some h
    replace hx14 := gd_some hx14
    obtain ⟨ad6, cs6, hq8⟩ := hI.gclat (.s .z) hx14
    have hq9 : (decide (i1 < (a1.L.length : Int))) = true → CA (Dj F c12) w14 (ad6.add (Int.toNat i1 * 2)) [(str e6.Name), (vi e6.By)] := fun hc => by have k := hq8 hc; have e : cs6 = _ := k.2.1; rw [← e]; exact k.2.2
    refine s_gval (g_true rfl rfl rfl rfl) rfl (fun hc => (y_indexAddr rfl Try.underlying49 size_53 (ev_gv et hc) (ev_gv et hc) (lat_bd (hx14 hc)) (hq8 hc).1)) ?_
    refine s_gval (g_true rfl rfl rfl rfl) rfl (fun hc => (y_fieldAddr rfl (ev_gv et hc) Try.underlying53 rfl size_9 rfl)) ?_
    refine s_gval (g_true rfl rfl rfl rfl) rfl (fun hc => (y_load1 (v := (str e6.Name)) rfl (ev_gv et hc) Try.underlying9 rfl (CA.part (hq9 hc) rfl).1)) ?_
    refine s_gval (g_true rfl rfl rfl rfl) rfl (fun hc => (y_move rfl et)) ?_
    refine s_gval (g_true rfl rfl rfl rfl) rfl (fun hc => (y_eqs rfl (ev_gv et hc) (ev_gv et hc))) ?_
    refine sq (y_and rfl et et) ?_
    refine s_nil ?_
    refine k_next (e := [(2, (vi by1)), (3, (vp b2 0)), (4, (vp b3 0)), (6, (vp b4 0)), (12, (vp b5 0)), (13, (vb good1)), (14, (vi i1)), (15, (vi (wi64 (j1 + 1)))), (16, (vi r3.1)), (17, (vb r3.2)), (18, (str e5.Name)), (125, (vb ((decide (i1 < (a1.L.length : Int))) && (decide (e6.Name = e5.Name)))))]) ⟨rfl, rfl, rfl, rfl, rfl, rfl, rfl, rfl, rfl, rfl, rfl, rfl, trivial⟩ ?_
    refine c_cond (b := (decide (i1 < (a1.L.length : Int))) && (decide (e6.Name = e5.Name))) et (fun hb => ?_) (fun hb => ?_)
    ·replace h := ite_t hb h
     refine sr ?_
     refine sq (y_fieldAddr rfl et Try.underlying51 rfl size_49 rfl) ?_
     refine sq (y_load1 (v := (vs a2 a1.L.length c1)) rfl et Try.underlying49 rfl (hI.kblk (l := [(vs a2 a1.L.length c1)]) .z rfl).1) ?_
     refine sm ?_
     obtain ⟨e7, hx15, h⟩ := bnd_some h
     obtain ⟨ad7, cs7, hA7, hr7, hq10⟩ := hI.clat (.s .z) hx15
     obtain rfl : cs7 = [(str e7.Name), (vi e7.By)] := hr7
     refine sq (y_indexAddr rfl Try.underlying49 size_53 et et (lat_bd hx15) hA7) ?_
     refine sq (y_fieldAddr rfl et Try.underlying53 rfl size_2 rfl) ?_
     refine sq (y_load1 (v := (vi e7.By)) rfl et Try.underlying2 rfl (CA.part hq10 rfl).1) ?_
     refine sm ?_
     obtain ⟨r4, hx16, h⟩ := bnd_some h
     refine s_call gn rfl (r_callF (vs := [(vi e7.By), (vi r3.1)]) rfl ok_67 ⟨et, ⟨et, trivial⟩⟩) (Calls.mono (c_base_Plus (Dj F c12) w14 hI.lt e7.By r3.1 trivial r4 hx16) ?_)
     rintro _ w19 ⟨rfl, hx17, hl4⟩
     refine ⟨_, rfl, ?_⟩
     replace hI := (hI.ext hx17)
     refine sm ?_
     refine sq (y_extract rfl et rfl) ?_
     refine sq (y_extract rfl et rfl) ?_
     refine sa ?_
     refine sa ?_
     refine nk ?_
     refine sr ?_
     refine sm ?_
     refine sa ?_
     refine nk ?_
     refine sr ?_
     refine sm ?_
     refine sm ?_
     refine s_gval (g_true rfl rfl rfl rfl) rfl (fun hc => (y_move rfl et)) ?_
     refine sq (y_and rfl et et) ?_
     refine sa ?_
     refine nk ?_
     refine c_region rfl ?_
     refine sm ?_
     refine sq (y_add rfl et ev_const) ?_
     refine sa ?_
     refine s_nil ?_
     exact k_join (wi64 (i1 + 1), r4.1, r3.2 && r4.2) ⟨rfl, rfl, rfl, rfl, rfl, rfl, rfl, rfl, rfl, rfl, rfl, trivial⟩ ⟨_, hI.arr (.c (.s .z) (.c (.s .z) (.c .z .n))) ⟨.z, (.s .z), (.s (.s .z)), (.s (.s (.s .z))), trivial⟩, h⟩ rfl
    ·replace h := ite_f hb h
     refine c_skip ?_
     exact k_join (i1, r3.1, r3.2) ⟨rfl, rfl, rfl, rfl, rfl, rfl, rfl, rfl, rfl, rfl, rfl, trivial⟩ ⟨_, hI.arr (.c (.s .z) (.c (.s .z) (.c .z .n))) ⟨.z, (.s .z), (.s (.s .z)), (.s (.s (.s .z))), trivial⟩, h⟩ rfl
 ·replace h := ite_f hb h
  refine c_exit ?_
  refine k_in ?_
  refine k_same ?_
  refine sr ?_
  refine sq (y_loadN (l := [(vi out1.K), (vs a5 out1.L.length c11)]) rfl et Try.underlying51 rfl size_51 (CellsAt.of_blk (hI.blk (.s (.s .z))) rfl)) ?_
  refine sm ?_
  refine l_store (new := [(vi out1.K), (vs a5 out1.L.length c11)]) (cs' := #[(vi out1.K), (vs a5 out1.L.length c11)]) hI (.s .z) gn rfl rfl et et rfl size_51 rfl rfl rfl ?_
  clear hI; intro c22 w20 hI
  refine sa ?_
  refine nk ?_
  refine c_ret ?_
  obtain ⟨c23, hI⟩ := hI.release .z
  obtain rfl := some_inj h
  exact q_ret (vs := [(Value.agg #[(vi out1.K), (vs a5 out1.L.length c11)]), (vb good1)]) Try.results45 ⟨⟨_, ev_tmp rfl rfl, load_agg (l := [(vi out1.K), (vs a5 out1.L.length c11)]) Try.underlying51 rfl size_51 (CellsAt.of_blk (hI.blk .z) rfl)⟩, ⟨ev_tmp rfl rfl, trivial⟩⟩ ⟨a5, c11, rfl, hI.ext0, hI.fin ⟨.z, trivial⟩⟩
def tr_ref10_Compose_18_1 : Tr := (.c (29, .s) (.c (30, .q) .n))
def tr_ref10_Compose_18_0 : Tr := (.c (24, .s) (.c (25, .q) (.c (26, .q) (.c (27, .q) tr_ref10_Compose_18_1))))
set_option maxRecDepth 100000 in
set_option maxHeartbeats 4000000 in
theorem c_ref10_Compose (F : NP) (w0 : World) (hF : ∀ k, F k → k < w0.heap.size) (m1 : List GLin) (names1 : List (List UInt8)) (next1 : List GLin) (a1 : Option Addr) (c1 : Nat) (a2 : Option Addr) (c2 : Nat) (a3 : Option Addr) (c3 : Nat) (hc : AllCl [Cl.sl cGLin a1 c1 m1, Cl.sl cStr a2 c2 names1, Cl.sl cGLin a3 c3 next1] F w0) (r : List GLin × Int)
  (h : m_ref10_Compose m1 names1 next1 = some r) :
  Calls Try.prog 22 #[(vs a1 m1.length c1), (vs a2 names1.length c2), (vs a3 next1.length c3)] w0 fun e w => ∃ (a4 : Option Addr) (c4 : Nat), e = .returned (Value.tuple #[(vs a4 r.1.length c4), (vi r.2)]) ∧ Ext w0 w ∧ AllCl [Cl.sl cGLin a4 c4 r.1] F w := by
 refine enterK (l := [(vs a1 m1.length c1), (vs a2 names1.length c2), (vs a3 next1.length c3)]) Try.func22 rfl Try.ntmps22 rfl ?_
 have hI := Bun.start hF hc
 clear hc
 rw [m_ref10_Compose] at h
 refine sr ?_
 refine sac ?_
 refine sac ?_
 refine nk ?_
 refine c_seq ?_
 refine sr ?_
 refine sm ?_
 refine sm ?_
 obtain ⟨r1, hx1, h⟩ := bnd_some h
 refine s_call gn rfl (r_callF (vs := [(vs a1 m1.length c1), (vs a2 names1.length c2)]) rfl ok_13 ⟨et, ⟨et, trivial⟩⟩) (Calls.mono (c_ref10_Validate (Dj F noM) w0 hI.lt m1 names1 a1 c1 a2 c2 ⟨(hI.get .z), (hI.get (.s .z)), trivial⟩ r1 hx1) ?_)
 rintro _ w1 ⟨rfl, hx2, hl1⟩
 refine ⟨_, rfl, ?_⟩
 replace hI := (hI.ext hx2)
 refine sa ?_
 refine nk ?_
 refine sr ?_
 refine sm ?_
 refine sq (y_neq rfl et ev_const) ?_
 refine nk ?_
 refine c_cond (b := !decide (r1 = 0)) et (fun hb => ?_) (fun hb => ?_)
 ·replace h := ite_t hb h
  refine sr ?_
  refine sm ?_
  refine sac ?_
  refine sa ?_
  refine nk ?_
  refine c_ret ?_
  have hI := hI.add (c := Cl.sl cGLin none 0 ([] : List GLin)) SlC.nil
  obtain rfl := some_inj h
  exact q_ret (vs := [(vs none 0 0), (vi r1)]) Try.results22 ⟨ev_tmp rfl rfl, ⟨ev_tmp rfl rfl, trivial⟩⟩ ⟨none, 0, rfl, hI.ext0, hI.fin ⟨.z, trivial⟩⟩
 ·replace h := ite_f hb h
  refine c_skip ?_
  refine k_same ?_
  refine c_seq ?_
  refine sr ?_
  refine sm ?_
  refine sm ?_
  obtain ⟨r2, hx3, h⟩ := bnd_some h
  refine s_call gn rfl (r_callF (vs := [(vs a3 next1.length c3), (vs a2 names1.length c2)]) rfl ok_13 ⟨et, ⟨et, trivial⟩⟩) (Calls.mono (c_ref10_Validate (Dj F noM) w1 hI.lt next1 names1 a3 c3 a2 c2 ⟨(hI.get (.s (.s .z))), (hI.get (.s .z)), trivial⟩ r2 hx3) ?_)
  rintro _ w2 ⟨rfl, hx4, hl2⟩
  refine ⟨_, rfl, ?_⟩
  replace hI := (hI.ext hx4)
  refine sa ?_
  refine nk ?_
  refine sr ?_
  refine sm ?_
  refine sq (y_neq rfl et ev_const) ?_
  refine nk ?_
  refine c_cond (b := !decide (r2 = 0)) et (fun hb => ?_) (fun hb => ?_)
  ·replace h := ite_t hb h
   refine sr ?_
   refine sm ?_
   refine sac ?_
   refine sa ?_
   refine nk ?_
   refine c_ret ?_
   have hI := hI.add (c := Cl.sl cGLin none 0 ([] : List GLin)) SlC.nil
   obtain rfl := some_inj h
   exact q_ret (vs := [(vs none 0 0), (vi r2)]) Try.results22 ⟨ev_tmp rfl rfl, ⟨ev_tmp rfl rfl, trivial⟩⟩ ⟨none, 0, rfl, hI.ext0, hI.fin ⟨.z, trivial⟩⟩
  ·replace h := ite_f hb h
   refine c_skip ?_
   refine k_same ?_
   refine c_seq ?_
   refine sr ?_
   refine sm ?_
   refine sq (y_lenl rfl Try.underlying22 et) ?_
   refine sm ?_
   refine sq (y_lenl rfl Try.underlying23 et) ?_
   refine sq (y_neq rfl et et) ?_
   refine nk ?_
   refine c_cond (b := !decide ((m1.length : Int) = (names1.length : Int))) et (fun hb => ?_) (fun hb => ?_)
   ·replace h := ite_t hb h
    refine sr ?_
    refine sac ?_
    refine sac ?_
    refine nk ?_
    refine c_ret ?_
    have hI := hI.add (c := Cl.sl cGLin none 0 ([] : List GLin)) SlC.nil
    obtain rfl := some_inj h
    exact q_ret (vs := [(vs none 0 0), (vi 11)]) Try.results22 ⟨ev_tmp rfl rfl, ⟨ev_tmp rfl rfl, trivial⟩⟩ ⟨none, 0, rfl, hI.ext0, hI.fin ⟨.z, trivial⟩⟩
   ·replace h := ite_f hb h
    refine c_skip ?_
    refine k_same ?_
    refine sr ?_
    refine sac ?_
    refine nk ?_
    refine c_seq ?_
    refine sr ?_
    refine sac ?_
    refine nk ?_
    refine c_block ?_
    have hI := hI.nil cGLin 51 none
    refine c_loop (α := Nat × (List GLin) × Int × (Option Addr) × Nat) (fun x => fun w => ∃ C, Bun noM F w0 C w [MO.row cGLin 51 (x.2.2.2.1) (x.2.2.2.2) (x.2.1)] [Cl.sl cGLin a1 c1 m1, Cl.sl cStr a2 c2 names1, Cl.sl cGLin a3 c3 next1] ∧ m_ref10_Compose_l1 next1 names1 m1 (x.1) (x.2.1) (x.2.2.1) = some r) (fun x _ => x.1) (fun x => [(0, (vs a1 m1.length c1)), (1, (vs a2 names1.length c2)), (2, (vs a3 next1.length c3)), (10, (vs (x.2.2.2.1) (x.2.1).length (x.2.2.2.2))), (11, (vi (x.2.2.1)))]) (fu, ([] : List GLin), 0, none, 0) ⟨_, hI.arr (.c .z .n) ⟨.z, (.s .z), (.s (.s .z)), trivial⟩, h⟩ ⟨rfl, rfl, rfl, rfl, rfl, trivial⟩ ?_
    clear h hI; rintro ⟨fuel1, out1, i1, a5, c5⟩ w3 ⟨c6, hI, h⟩
    dsimp only at hI h
    rcases fuel1 with _ | fuel1
    ·rw [m_ref10_Compose_l1] at h; cases h
    rw [m_ref10_Compose_l1] at h
    refine c_sub (e := [(0, (vs a1 m1.length c1)), (1, (vs a2 names1.length c2)), (2, (vs a3 next1.length c3)), (10, (vs a5 out1.length c5)), (11, (vi i1))]) ⟨rfl, rfl, rfl, rfl, rfl, trivial⟩ ?_
    refine c_seq ?_
    refine sr ?_
    refine sm ?_
    refine sm ?_
    refine sq (y_lenl rfl Try.underlying22 et) ?_
    refine sq (y_lss rfl et et) ?_
    refine nk ?_
    refine c_cond (b := decide (i1 < (next1.length : Int))) et (fun hb => ?_) (fun hb => ?_)
    ·replace h := ite_t hb h
     refine c_skip ?_
     refine k_same ?_
     refine c_join (α := (List GLin) × (Option Addr) × Nat) (fun _ => ⟨91, []⟩) (fun x => [(0, (vs a1 m1.length c1)), (1, (vs a2 names1.length c2)), (2, (vs a3 next1.length c3)), (10, (vs (x.2.1) (x.1).length (x.2.2))), (11, (vi i1))]) (fun x => fun w => ∃ C, Bun noM F w0 C w [MO.row cGLin 51 (x.2.1) (x.2.2) (x.1)] [Cl.sl cGLin a1 c1 m1, Cl.sl cStr a2 c2 names1, Cl.sl cGLin a3 c3 next1] ∧ m_ref10_Compose_j1 (m_ref10_Compose_l1 next1 names1 m1 fuel1) i1 (x.1) = some r) ?_ ?_
     ·clear h hI; rintro ⟨out2, a6, c7⟩ w4 ⟨c8, hI, h⟩
      try dsimp only at hI h
      rw [m_ref10_Compose_j1] at h
      refine c_sub (e := [(0, (vs a1 m1.length c1)), (1, (vs a2 names1.length c2)), (2, (vs a3 next1.length c3)), (10, (vs a6 out2.length c7)), (11, (vi i1))]) ⟨rfl, rfl, rfl, rfl, rfl, trivial⟩ ?_
      refine c_region rfl ?_
      refine sm ?_
      refine sq (y_add rfl et ev_const) ?_
      refine sa ?_
      refine s_nil ?_
      exact k_loop (fuel1, out2, wi64 (i1 + 1), a6, c7) ⟨rfl, rfl, rfl, rfl, rfl, trivial⟩ ⟨_, hI.arr (.c .z .n) ⟨.z, (.s .z), (.s (.s .z)), trivial⟩, h⟩ (Nat.lt_succ_self _)
     ·skip
      refine c_block ?_
      refine sr ?_
      refine sm ?_
      refine sm ?_
      obtain ⟨e1, hx5, h⟩ := bnd_some h
      obtain ⟨ad1, cs1, hA1, hr1, hq1⟩ := hI.clat (.s (.s .z)) hx5
      obtain ⟨a7, c9, rfl, hf1⟩ := hr1
      have hI := hI.add (c := Cl.sl cGMono a7 c9 e1.L) hf1
      refine sq (y_indexAddr rfl Try.underlying22 size_51 et et (lat_bd hx5) hA1) ?_
      refine sq (y_fieldAddr rfl et Try.underlying51 rfl size_2 rfl) ?_
      refine sq (y_load1 (v := (vi e1.K)) rfl et Try.underlying2 rfl (CA.part hq1 rfl).1) ?_
      refine sq (y_build (vs := [(0, (vi e1.K))]) (cs := #[(vi e1.K), (vs none 0 0)]) rfl ⟨rfl, et, trivial⟩ (by kernel_rfl)) ?_
      refine l_alloc (cs := #[(vi 0), (vs none 0 0)]) hI gn rfl rfl zero_51 rfl ?_
      clear hI; intro b1 c10 w5 hI
      refine l_store (new := [(vi e1.K), (vs none 0 0)]) (cs' := #[(vi e1.K), (vs none 0 0)]) hI .z gn rfl rfl et et rfl size_51 rfl rfl rfl ?_
      clear hI; intro c11 w6 hI
      refine nk ?_
      refine c_join (α := GLin × (Option Addr) × Nat) (fun _ => ⟨91, []⟩) (fun x => [(0, (vs a1 m1.length c1)), (1, (vs a2 names1.length c2)), (2, (vs a3 next1.length c3)), (10, (vs a5 out1.length c5)), (11, (vi i1)), (12, (vp b1 0))]) (fun x => fun w => ∃ C, Bun noM F w0 C w [MO.row cGLin 51 a5 c5 out1, MO.box b1 51 #[(vi (x.1).K), (vs (x.2.1) (x.1).L.length (x.2.2))]] [Cl.sl cGMono (x.2.1) (x.2.2) (x.1).L, Cl.sl cGLin a1 c1 m1, Cl.sl cStr a2 c2 names1, Cl.sl cGLin a3 c3 next1] ∧ m_ref10_Compose_j2 out1 (m_ref10_Compose_l1 next1 names1 m1 fuel1) i1 (x.1) = some r) ?_ ?_
      ·clear h hI; rintro ⟨l1, a8, c12⟩ w7 ⟨c13, hI, h⟩
       try dsimp only at hI h
       rw [m_ref10_Compose_j2] at h
       refine c_sub (e := [(0, (vs a1 m1.length c1)), (1, (vs a2 names1.length c2)), (2, (vs a3 next1.length c3)), (10, (vs a5 out1.length c5)), (11, (vi i1)), (12, (vp b1 0))]) ⟨rfl, rfl, rfl, rfl, rfl, rfl, trivial⟩ ?_
       refine c_region rfl ?_
       refine sm ?_
       refine sq (y_loadN (l := [(vi l1.K), (vs a8 l1.L.length c12)]) rfl et Try.underlying51 rfl size_51 (CellsAt.of_blk (hI.blk (.s .z)) rfl)) ?_
       refine l_lit (c := cGLin) (xs := ([l1] : List GLin)) (vs := [(0, (Value.agg #[(vi l1.K), (vs a8 l1.L.length c12)]))]) (cs := #[(vi l1.K), (vs a8 l1.L.length c12)]) (css := [[(vi l1.K), (vs a8 l1.L.length c12)]]) hI gn rfl rfl Try.underlying22 info_51 rfl ⟨rfl, et, trivial⟩ (by kernel_rfl) ⟨⟨a8, c12, rfl, hI.get .z⟩, trivial⟩ rfl rfl rfl ?_
       clear hI; intro b2 c14 w8 hI
       obtain ⟨zs1, hx6, h⟩ := bnd_some h
       refine l_append (xs := out1) (ys := ([l1] : List GLin)) hI (.s .z) (hI.rd .z) hx6 gn rfl rfl Try.underlying22 info_51 rfl rfl et et ?_
       clear hI; intro a9 c15 c16 w9 hI
       refine sa ?_
       refine s_nil ?_
       exact k_join (zs1, a9, c15) ⟨rfl, rfl, rfl, rfl, rfl, trivial⟩ ⟨_, hI.arr (.c (.s .z) .n) ⟨(.s .z), (.s (.s .z)), (.s (.s (.s .z))), trivial⟩, h⟩ rfl
      ·skip
       refine sr ?_
       refine sac ?_
       refine nk ?_
       refine c_block ?_
       have hI := hI.add (c := Cl.sl cGMono none 0 ([] : List GMono)) SlC.nil
       refine c_loop (α := Nat × Int × GLin × (Option Addr) × Nat) (fun x => fun w => ∃ C, Bun noM F w0 C w [MO.row cGLin 51 a5 c5 out1, MO.box b1 51 #[(vi (x.2.2.1).K), (vs (x.2.2.2.1) (x.2.2.1).L.length (x.2.2.2.2))]] [Cl.sl cGMono (x.2.2.2.1) (x.2.2.2.2) (x.2.2.1).L, Cl.sl cGLin a1 c1 m1, Cl.sl cStr a2 c2 names1, Cl.sl cGLin a3 c3 next1] ∧ m_ref10_Compose_l2 next1 i1 names1 m1 out1 (m_ref10_Compose_l1 next1 names1 m1 fuel1) (x.1) (x.2.1) (x.2.2.1) = some r) (fun x _ => x.1) (fun x => [(0, (vs a1 m1.length c1)), (1, (vs a2 names1.length c2)), (2, (vs a3 next1.length c3)), (10, (vs a5 out1.length c5)), (11, (vi i1)), (12, (vp b1 0)), (13, (vi (x.2.1)))]) (fu, 0, (⟨e1.K, ([] : List GMono)⟩ : GLin), none, 0) ⟨_, hI.arr (.c (.s .z) (.c .z .n)) ⟨.z, (.s (.s .z)), (.s (.s (.s .z))), (.s (.s (.s (.s .z)))), trivial⟩, h⟩ ⟨rfl, rfl, rfl, rfl, rfl, rfl, rfl, trivial⟩ ?_
       clear h hI; rintro ⟨fuel2, k1, l2, a10, c17⟩ w10 ⟨c18, hI, h⟩
       dsimp only at hI h
       rcases fuel2 with _ | fuel2
       ·rw [m_ref10_Compose_l2] at h; cases h
       rw [m_ref10_Compose_l2] at h
       refine c_sub (e := [(0, (vs a1 m1.length c1)), (1, (vs a2 names1.length c2)), (2, (vs a3 next1.length c3)), (10, (vs a5 out1.length c5)), (11, (vi i1)), (12, (vp b1 0)), (13, (vi k1))]) ⟨rfl, rfl, rfl, rfl, rfl, rfl, rfl, trivial⟩ ?_
       refine c_seq ?_
       refine sr ?_
       refine sm ?_
       refine sm ?_
       refine sm ?_
       obtain ⟨e2, hx7, h⟩ := bnd_some h
       obtain ⟨ad2, cs2, hA2, hr2, hq2⟩ := hI.clat (.s (.s (.s .z))) hx7
       obtain ⟨a11, c19, rfl, hf2⟩ := hr2
       have hI := hI.add (c := Cl.sl cGMono a11 c19 e2.L) hf2
       refine sq (y_indexAddr rfl Try.underlying22 size_51 et et (lat_bd hx7) hA2) ?_
       refine sq (y_fieldAddr rfl et Try.underlying51 rfl size_49 rfl) ?_
       refine sq (y_load1 (v := (vs a11 e2.L.length c19)) rfl et Try.underlying49 rfl (CA.part hq2 rfl).1) ?_
       refine sq (y_lenl rfl Try.underlying49 et) ?_
       refine sq (y_lss rfl et et) ?_
       refine nk ?_
       refine c_cond (b := decide (k1 < (e2.L.length : Int))) et (fun hb => ?_) (fun hb => ?_)
       ·replace h := ite_t hb h
        refine c_skip ?_
        refine k_same ?_
        refine c_seq ?_
        refine c_block ?_
        refine c_seq ?_
        obtain ⟨e3, hx8, h⟩ := bnd_some h
        obtain ⟨e4, hx9, h⟩ := bnd_some h
        obtain ⟨e5, hx10, h⟩ := bnd_some h
        obtain ⟨e6, hx11, h⟩ := bnd_some h
        obtain ⟨r3, hx12, h⟩ := bnd_some h
        obtain ⟨e7, hx14, h⟩ := bnd_some h
        obtain ⟨r4, hx15, h⟩ := bnd_some h
        refine c_drawX [29] false (.c (0, .q) (.c (1, .q) (.c (2, .q) (.c (3, .q) (.c (4, .q) (.c (5, .q) (.c (6, .q) (.c (7, .q) (.c (8, .q) (.c (9, .q) (.c (10, .q) (.c (11, .q) (.c (15, .q) (.c (16, .q) (.c (17, .q) (.c (18, .q) (.c (19, .q) (.c (20, .q) (.c (21, .q) (.c (22, .q) (.c (23, .q) (.two 12 (.c (13, .q) (.c (14, .q) (.two 24 (.c (25, .q) (.c (26, .q) (.c (27, .q) (.c (28, .s) tr_ref10_Compose_18_1)))) 28 tr_ref10_Compose_18_0))) 28 (.c (12, .s) (.c (13, .q) (.c (14, .q) tr_ref10_Compose_18_0))))))))))))))))))))))))) hI (by kernel_rfl) (by kernel_rfl) ?_
        clear hI; intro w17 hI
        refine a_join (α := (Option Addr) × Nat × (Option Addr) × Nat × (Option Addr) × Nat × (Option Addr) × Nat × Nat × NP) (T := tr_ref10_Compose_18_1) (fun x => [(0, (vs a1 m1.length c1)), (1, (vs a2 names1.length c2)), (2, (vs a3 next1.length c3)), (10, (vs a5 out1.length c5)), (11, (vi i1)), (12, (vp b1 0)), (13, (vi k1)), (14, (Value.pointer (some ⟨(x.2.2.2.2.2.2.2.2.1), 0, none⟩))), (45, (vi k1)), (46, (vs a3 next1.length c3)), (47, (vi i1)), (50, (vs a11 e2.L.length c19)), (51, (vi (e2.L.length : Int))), (52, (vb (decide (k1 < (e2.L.length : Int))))), (55, (Value.tuple #[(Value.agg #[(vi r4.1.K), (vs (x.2.2.2.2.2.2.1) r4.1.L.length (x.2.2.2.2.2.2.2.1))]), (vb r4.2)])), (56, (Value.agg #[(vi l2.K), (vs a10 l2.L.length c17)])), (57, (vs a1 m1.length c1)), (58, (vs a2 names1.length c2)), (59, (vs a3 next1.length c3)), (60, (vi i1)), (63, (vs (x.1) e3.L.length (x.2.1))), (64, (vi k1)), (67, (str e4.Name)), (68, (vi r3)), (70, (Value.agg #[(vi e7.K), (vs (x.2.2.1) e7.L.length (x.2.2.2.1))])), (71, (vs a3 next1.length c3)), (72, (vi i1)), (75, (vs (x.2.2.2.2.1) e5.L.length (x.2.2.2.2.2.1))), (76, (vi k1)), (79, (vi e6.By)), (80, (Value.tuple #[(Value.agg #[(vi r4.1.K), (vs (x.2.2.2.2.2.2.1) r4.1.L.length (x.2.2.2.2.2.2.2.1))]), (vb r4.2)])), (81, (Value.agg #[(vi r4.1.K), (vs (x.2.2.2.2.2.2.1) r4.1.L.length (x.2.2.2.2.2.2.2.1))])), (82, (vb r4.2))]) (fun x w => Bun noM F w0 (x.2.2.2.2.2.2.2.2.2) w [MO.box (x.2.2.2.2.2.2.2.2.1) 51 #[(vi 0), (vs none 0 0)], MO.row cGLin 51 a5 c5 out1, MO.box b1 51 #[(vi l2.K), (vs a10 l2.L.length c17)]] [Cl.sl cGMono (x.2.2.2.2.2.2.1) (x.2.2.2.2.2.2.2.1) r4.1.L, Cl.sl cGMono (x.2.2.1) (x.2.2.2.1) e7.L, Cl.sl cGMono (x.2.2.2.2.1) (x.2.2.2.2.2.1) e5.L, Cl.sl cGMono (x.1) (x.2.1) e3.L, Cl.sl cGMono a11 c19 e2.L, Cl.sl cGMono a10 c17 l2.L, Cl.sl cGLin a1 c1 m1, Cl.sl cStr a2 c2 names1, Cl.sl cGLin a3 c3 next1]) (fun x w => SN [29] (DM false F (x.2.2.2.2.2.2.2.2.2)) w) ?_ ?_
        ·clear hI; rintro ⟨a12, c20, a14, c22, a13, c21, a15, c23, b3, c27⟩ w16 hI
         try dsimp only at hI ⊢
         unfold tr_ref10_Compose_18_1
         refine a_turn (F := F) (C := c27) rfl rfl ?_
         refine la_store (new := [(vi r4.1.K), (vs a15 r4.1.L.length c23)]) (cs' := #[(vi r4.1.K), (vs a15 r4.1.L.length c23)]) hI .z rfl gn rfl rfl et et rfl size_51 rfl rfl rfl ?_
         clear hI; intro c25 w14 hI
         refine a_q rfl gn rfl (fun w' => (y_assign rfl et)) ?_
         refine a_nil ?_
         refine k_next (e := [(0, (vs a1 m1.length c1)), (1, (vs a2 names1.length c2)), (2, (vs a3 next1.length c3)), (10, (vs a5 out1.length c5)), (11, (vi i1)), (12, (vp b1 0)), (13, (vi k1)), (14, (vp b3 0)), (15, (vb r4.2))]) ⟨rfl, rfl, rfl, rfl, rfl, rfl, rfl, rfl, rfl, trivial⟩ ?_
         refine c_seq ?_
         refine sr ?_
         refine sm ?_
         refine sq (y_not rfl et) ?_
         refine nk ?_
         refine c_cond (b := !r4.2) et (fun hb => ?_) (fun hb => ?_)
         ·replace h := ite_t hb h
          refine sr ?_
          refine sac ?_
          refine sac ?_
          refine nk ?_
          refine c_ret ?_
          have hI := hI.add (c := Cl.sl cGLin none 0 ([] : List GLin)) SlC.nil
          obtain rfl := some_inj h
          exact q_ret (vs := [(vs none 0 0), (vi 3)]) Try.results22 ⟨ev_tmp rfl rfl, ⟨ev_tmp rfl rfl, trivial⟩⟩ ⟨none, 0, rfl, hI.ext0, hI.fin ⟨.z, trivial⟩⟩
         ·replace h := ite_f hb h
          refine c_skip ?_
          refine k_same ?_
          refine c_region rfl ?_
          refine sq (y_loadN (l := [(vi r4.1.K), (vs a15 r4.1.L.length c23)]) rfl et Try.underlying51 rfl size_51 (CellsAt.of_blk (hI.blk .z) rfl)) ?_
          refine l_store (new := [(vi r4.1.K), (vs a15 r4.1.L.length c23)]) (cs' := #[(vi r4.1.K), (vs a15 r4.1.L.length c23)]) hI (.s (.s .z)) gn rfl rfl et et rfl size_51 rfl rfl rfl ?_
          clear hI; intro c28 w18 hI
          refine nk ?_
          refine c_region rfl ?_
          refine sm ?_
          refine sq (y_add rfl et ev_const) ?_
          refine sa ?_
          refine s_nil ?_
          exact k_loop (fuel2, wi64 (k1 + 1), r4.1, a15, c23) ⟨rfl, rfl, rfl, rfl, rfl, rfl, rfl, trivial⟩ ⟨_, hI.arr (.c (.s .z) (.c (.s .z) .n)) ⟨.z, (.s (.s (.s (.s (.s (.s .z)))))), (.s (.s (.s (.s (.s (.s (.s .z))))))), (.s (.s (.s (.s (.s (.s (.s (.s .z)))))))), trivial⟩, h⟩ (Nat.lt_succ_self _)
        intro hk_tr_ref10_Compose_18_1
        refine a_join (α := (Option Addr) × Nat × (Option Addr) × Nat × (Option Addr) × Nat × Nat × NP) (T := tr_ref10_Compose_18_0) (fun x => [(0, (vs a1 m1.length c1)), (1, (vs a2 names1.length c2)), (2, (vs a3 next1.length c3)), (10, (vs a5 out1.length c5)), (11, (vi i1)), (12, (vp b1 0)), (13, (vi k1)), (14, (Value.pointer (some ⟨(x.2.2.2.2.2.2.1), 0, none⟩))), (45, (vi k1)), (46, (vs a3 next1.length c3)), (47, (vi i1)), (50, (vs a11 e2.L.length c19)), (51, (vi (e2.L.length : Int))), (52, (vb (decide (k1 < (e2.L.length : Int))))), (56, (Value.agg #[(vi l2.K), (vs a10 l2.L.length c17)])), (57, (vs a1 m1.length c1)), (58, (vs a2 names1.length c2)), (59, (vs a3 next1.length c3)), (60, (vi i1)), (63, (vs (x.1) e3.L.length (x.2.1))), (64, (vi k1)), (67, (str e4.Name)), (68, (vi r3)), (70, (Value.agg #[(vi e7.K), (vs (x.2.2.1) e7.L.length (x.2.2.2.1))])), (71, (vs a3 next1.length c3)), (72, (vi i1)), (75, (vs (x.2.2.2.2.1) e5.L.length (x.2.2.2.2.2.1))), (76, (vi k1)), (79, (vi e6.By))]) (fun x w => Bun noM F w0 (x.2.2.2.2.2.2.2) w [MO.box (x.2.2.2.2.2.2.1) 51 #[(vi 0), (vs none 0 0)], MO.row cGLin 51 a5 c5 out1, MO.box b1 51 #[(vi l2.K), (vs a10 l2.L.length c17)]] [Cl.sl cGMono (x.2.2.1) (x.2.2.2.1) e7.L, Cl.sl cGMono (x.2.2.2.2.1) (x.2.2.2.2.2.1) e5.L, Cl.sl cGMono (x.1) (x.2.1) e3.L, Cl.sl cGMono a11 c19 e2.L, Cl.sl cGMono a10 c17 l2.L, Cl.sl cGLin a1 c1 m1, Cl.sl cStr a2 c2 names1, Cl.sl cGLin a3 c3 next1]) (fun x w => SN [29] (DM false F (x.2.2.2.2.2.2.2)) w) ?_ ?_
        ·clear hI; rintro ⟨a12, c20, a14, c22, a13, c21, b3, c26⟩ w15 hI
         try dsimp only at hI ⊢
         unfold tr_ref10_Compose_18_0
         refine la_call rfl gn rfl (r_callF (vs := [(Value.agg #[(vi l2.K), (vs a10 l2.L.length c17)]), (Value.agg #[(vi e7.K), (vs a14 e7.L.length c22)]), (vi e6.By)]) rfl ok_45 ⟨et, ⟨et, ⟨et, trivial⟩⟩⟩) (Calls.mono (c_ref10_plus (Dj F c26) w15 hI.lt l2 e7 e6.By a10 c17 a14 c22 ⟨(hI.get (.s (.s (.s (.s .z))))), (hI.get .z), trivial⟩ r4 hx15) ?_)
         rintro _ w12 ⟨a15, c23, rfl, hx16, hl4⟩
         refine ⟨_, rfl, hx16, ?_⟩
         replace hI := (hI.ext hx16).adds hl4
         refine a_q rfl gn rfl (fun w' => (y_move rfl et)) ?_
         refine a_q rfl gn rfl (fun w' => (y_extract rfl et rfl)) ?_
         refine a_q rfl gn rfl (fun w' => (y_extract rfl et rfl)) ?_
         exact a_sub (hk_tr_ref10_Compose_18_1 (a12, c20, a14, c22, a13, c21, a15, c23, b3, c26) _ (hI.arr (.c .z (.c .z (.c .z .n))) ⟨.z, (.s .z), (.s (.s .z)), (.s (.s (.s .z))), (.s (.s (.s (.s .z)))), (.s (.s (.s (.s (.s .z))))), (.s (.s (.s (.s (.s (.s .z)))))), (.s (.s (.s (.s (.s (.s (.s .z))))))), (.s (.s (.s (.s (.s (.s (.s (.s .z)))))))), trivial⟩)) ⟨rfl, rfl, rfl, rfl, rfl, rfl, rfl, rfl, rfl, rfl, rfl, rfl, rfl, rfl, rfl, rfl, rfl, rfl, rfl, rfl, rfl, rfl, rfl, rfl, rfl, rfl, rfl, rfl, rfl, rfl, rfl, rfl, rfl, trivial⟩
        intro hk_tr_ref10_Compose_18_0
        refine a_read rfl gn rfl (fun w' hw' => (y_loadN (l := [(vi l2.K), (vs a10 l2.L.length c17)]) rfl et Try.underlying51 rfl size_51 ((CA.blk (hI.blk (.s .z)) rfl).at_ (SX.any rfl hw')))) (by kernel_rfl) ?_
        refine a_q rfl gn rfl (fun w' => (y_move rfl et)) ?_
        refine a_q rfl gn rfl (fun w' => (y_move rfl et)) ?_
        refine a_q rfl gn rfl (fun w' => (y_move rfl et)) ?_
        refine a_q rfl gn rfl (fun w' => (y_move rfl et)) ?_
        obtain ⟨ad3, cs3, hA3, hr3, hq3⟩ := hI.clat (.s (.s (.s (.s .z)))) hx8
        obtain ⟨a12, c20, rfl, hf3⟩ := hr3
        have hI := hI.add (c := Cl.sl cGMono a12 c20 e3.L) hf3
        refine a_q rfl gn rfl (fun w' => (y_indexAddr rfl Try.underlying22 size_51 et et (lat_bd hx8) hA3)) ?_
        refine a_q rfl gn rfl (fun w' => (y_fieldAddr rfl et Try.underlying51 rfl size_49 rfl)) ?_
        refine a_read rfl gn rfl (fun w' hw' => (y_load1 (v := (vs a12 e3.L.length c20)) rfl et Try.underlying49 rfl ((CA.part hq3 rfl).at_ (SX.any rfl hw')))) (by kernel_rfl) ?_
        refine a_q rfl gn rfl (fun w' => (y_move rfl et)) ?_
        obtain ⟨ad4, cs4, hA4, hr4, hq4⟩ := hI.clat .z hx9
        obtain rfl : cs4 = [(str e4.Name), (vi e4.By)] := hr4
        refine a_q rfl gn rfl (fun w' => (y_indexAddr rfl Try.underlying49 size_53 et et (lat_bd hx9) hA4)) ?_
        refine a_q rfl gn rfl (fun w' => (y_fieldAddr rfl et Try.underlying53 rfl size_9 rfl)) ?_
        refine a_read rfl gn rfl (fun w' hw' => (y_load1 (v := (str e4.Name)) rfl et Try.underlying9 rfl ((CA.part hq4 rfl).at_ (SX.any rfl hw')))) (by kernel_rfl) ?_
        refine a_q rfl gn rfl (fun w' => (y_move rfl et)) ?_
        refine a_q rfl gn rfl (fun w' => (y_move rfl et)) ?_
        obtain ⟨ad5, cs5, hA5, hr5, hq5⟩ := hI.clat (.s (.s (.s (.s (.s .z))))) hx10
        obtain ⟨a13, c21, rfl, hf4⟩ := hr5
        have hI := hI.add (c := Cl.sl cGMono a13 c21 e5.L) hf4
        refine a_q rfl gn rfl (fun w' => (y_indexAddr rfl Try.underlying22 size_51 et et (lat_bd hx10) hA5)) ?_
        refine a_q rfl gn rfl (fun w' => (y_fieldAddr rfl et Try.underlying51 rfl size_49 rfl)) ?_
        refine a_read rfl gn rfl (fun w' hw' => (y_load1 (v := (vs a13 e5.L.length c21)) rfl et Try.underlying49 rfl ((CA.part hq5 rfl).at_ (SX.any rfl hw')))) (by kernel_rfl) ?_
        refine a_q rfl gn rfl (fun w' => (y_move rfl et)) ?_
        obtain ⟨ad6, cs6, hA6, hr6, hq6⟩ := hI.clat .z hx11
        obtain rfl : cs6 = [(str e6.Name), (vi e6.By)] := hr6
        refine a_q rfl gn rfl (fun w' => (y_indexAddr rfl Try.underlying49 size_53 et et (lat_bd hx11) hA6)) ?_
        refine a_q rfl gn rfl (fun w' => (y_fieldAddr rfl et Try.underlying53 rfl size_2 rfl)) ?_
        refine a_read rfl gn rfl (fun w' hw' => (y_load1 (v := (vi e6.By)) rfl et Try.underlying2 rfl ((CA.part hq6 rfl).at_ (SX.any rfl hw')))) (by kernel_rfl) ?_
        refine a_two ?_ ?_
        ·skip
         refine la_call rfl gn rfl (r_callF (vs := [(vs a2 names1.length c2), (str e4.Name)]) rfl ok_46 ⟨et, ⟨et, trivial⟩⟩) (Calls.mono (c_ref10_Place (Dj F c18) w17 hI.lt names1 e4.Name a2 c2 ⟨(hI.get (.s (.s (.s (.s (.s .z)))))), trivial⟩ r3 hx12) ?_)
         rintro _ w11 ⟨rfl, hx13, hl3⟩
         refine ⟨_, rfl, hx13, ?_⟩
         replace hI := (hI.ext hx13)
         obtain ⟨ad7, cs7, hA7, hr7, hq7⟩ := hI.clat (.s (.s (.s (.s .z)))) hx14
         obtain ⟨a14, c22, rfl, hf5⟩ := hr7
         have hI := hI.add (c := Cl.sl cGMono a14 c22 e7.L) hf5
         refine a_q rfl gn rfl (fun w' => (y_indexAddr rfl Try.underlying22 size_51 et et (lat_bd hx14) hA7)) ?_
         refine a_read rfl gn rfl (fun w' hw' => (y_loadN (l := [(vi e7.K), (vs a14 e7.L.length c22)]) rfl et Try.underlying51 rfl size_51 (hq7.at_ (SX.any rfl hw')))) (by kernel_rfl) ?_
         refine a_two ?_ ?_
         ·skip
          refine la_call rfl gn rfl (r_callF (vs := [(Value.agg #[(vi l2.K), (vs a10 l2.L.length c17)]), (Value.agg #[(vi e7.K), (vs a14 e7.L.length c22)]), (vi e6.By)]) rfl ok_45 ⟨et, ⟨et, ⟨et, trivial⟩⟩⟩) (Calls.mono (c_ref10_plus (Dj F c18) w11 hI.lt l2 e7 e6.By a10 c17 a14 c22 ⟨(hI.get (.s (.s (.s (.s .z))))), (hI.get .z), trivial⟩ r4 hx15) ?_)
          rintro _ w12 ⟨a15, c23, rfl, hx16, hl4⟩
          refine ⟨_, rfl, hx16, ?_⟩
          replace hI := (hI.ext hx16).adds hl4
          refine a_q rfl gn rfl (fun w' => (y_move rfl et)) ?_
          refine a_q rfl gn rfl (fun w' => (y_extract rfl et rfl)) ?_
          refine a_q rfl gn rfl (fun w' => (y_extract rfl et rfl)) ?_
          refine la_alloc (cs := #[(vi 0), (vs none 0 0)]) hI rfl gn rfl rfl zero_51 rfl ?_
          clear hI; intro b3 c24 w13 hI
          exact a_sub (hk_tr_ref10_Compose_18_1 (a12, c20, a14, c22, a13, c21, a15, c23, b3, c24) _ (hI.arr (.c .z (.c .z (.c .z .n))) ⟨.z, (.s .z), (.s (.s .z)), (.s (.s (.s .z))), (.s (.s (.s (.s .z)))), (.s (.s (.s (.s (.s .z))))), (.s (.s (.s (.s (.s (.s .z)))))), (.s (.s (.s (.s (.s (.s (.s .z))))))), (.s (.s (.s (.s (.s (.s (.s (.s .z)))))))), trivial⟩)) ⟨rfl, rfl, rfl, rfl, rfl, rfl, rfl, rfl, rfl, rfl, rfl, rfl, rfl, rfl, rfl, rfl, rfl, rfl, rfl, rfl, rfl, rfl, rfl, rfl, rfl, rfl, rfl, rfl, rfl, rfl, rfl, rfl, rfl, trivial⟩
         ·skip
          refine la_alloc (cs := #[(vi 0), (vs none 0 0)]) hI rfl gn rfl rfl zero_51 rfl ?_
          clear hI; intro b3 c24 w13 hI
          exact a_sub (hk_tr_ref10_Compose_18_0 (a12, c20, a14, c22, a13, c21, b3, c24) _ (hI.arr (.c .z (.c .z (.c .z .n))) ⟨.z, (.s .z), (.s (.s .z)), (.s (.s (.s .z))), (.s (.s (.s (.s .z)))), (.s (.s (.s (.s (.s .z))))), (.s (.s (.s (.s (.s (.s .z)))))), (.s (.s (.s (.s (.s (.s (.s .z))))))), trivial⟩)) ⟨rfl, rfl, rfl, rfl, rfl, rfl, rfl, rfl, rfl, rfl, rfl, rfl, rfl, rfl, rfl, rfl, rfl, rfl, rfl, rfl, rfl, rfl, rfl, rfl, rfl, rfl, rfl, rfl, rfl, trivial⟩
        ·skip
         refine la_alloc (cs := #[(vi 0), (vs none 0 0)]) hI rfl gn rfl rfl zero_51 rfl ?_
         clear hI; intro b3 c24 w13 hI
         refine la_call rfl gn rfl (r_callF (vs := [(vs a2 names1.length c2), (str e4.Name)]) rfl ok_46 ⟨et, ⟨et, trivial⟩⟩) (Calls.mono (c_ref10_Place (Dj F c24) w13 hI.lt names1 e4.Name a2 c2 ⟨(hI.get (.s (.s (.s (.s (.s .z)))))), trivial⟩ r3 hx12) ?_)
         rintro _ w11 ⟨rfl, hx13, hl3⟩
         refine ⟨_, rfl, hx13, ?_⟩
         replace hI := (hI.ext hx13)
         obtain ⟨ad7, cs7, hA7, hr7, hq7⟩ := hI.clat (.s (.s (.s (.s .z)))) hx14
         obtain ⟨a14, c22, rfl, hf5⟩ := hr7
         have hI := hI.add (c := Cl.sl cGMono a14 c22 e7.L) hf5
         refine a_q rfl gn rfl (fun w' => (y_indexAddr rfl Try.underlying22 size_51 et et (lat_bd hx14) hA7)) ?_
         refine a_read rfl gn rfl (fun w' hw' => (y_loadN (l := [(vi e7.K), (vs a14 e7.L.length c22)]) rfl et Try.underlying51 rfl size_51 (hq7.at_ (SX.any rfl hw')))) (by kernel_rfl) ?_
         exact a_sub (hk_tr_ref10_Compose_18_0 (a12, c20, a14, c22, a13, c21, b3, c24) _ (hI.arr (.c .z (.c .z (.c .z .n))) ⟨.z, (.s .z), (.s (.s .z)), (.s (.s (.s .z))), (.s (.s (.s (.s .z)))), (.s (.s (.s (.s (.s .z))))), (.s (.s (.s (.s (.s (.s .z)))))), (.s (.s (.s (.s (.s (.s (.s .z))))))), trivial⟩)) ⟨rfl, rfl, rfl, rfl, rfl, rfl, rfl, rfl, rfl, rfl, rfl, rfl, rfl, rfl, rfl, rfl, rfl, rfl, rfl, rfl, rfl, rfl, rfl, rfl, rfl, rfl, rfl, rfl, rfl, trivial⟩
       ·replace h := ite_f hb h
        refine c_exit ?_
        refine k_in ?_
        exact k_join (l2, a10, c17) ⟨rfl, rfl, rfl, rfl, rfl, rfl, trivial⟩ ⟨_, hI.arr (.c .z (.c .z .n)) ⟨(.s .z), (.s (.s .z)), (.s (.s (.s .z))), (.s (.s (.s (.s .z)))), trivial⟩, h⟩ rfl
    ·replace h := ite_f hb h
     refine c_exit ?_
     refine k_in ?_
     refine k_same ?_
     refine sr ?_
     refine sm ?_
     refine sa ?_
     refine sac ?_
     refine nk ?_
     refine c_ret ?_
     obtain ⟨c29, hI⟩ := hI.release .z
     obtain rfl := some_inj h
     exact q_ret (vs := [(vs a5 out1.length c5), (vi 0)]) Try.results22 ⟨ev_tmp rfl rfl, ⟨ev_tmp rfl rfl, trivial⟩⟩ ⟨a5, c5, rfl, hI.ext0, hI.fin ⟨.z, trivial⟩⟩
set_option maxRecDepth 100000 in
set_option maxHeartbeats 4000000 in
theorem c_base_Lin (F : NP) (w0 : World) (hF : ∀ k, F k → k < w0.heap.size) (a1 : GLin) (b1 : GLin) (a2 : Option Addr) (c1 : Nat) (a3 : Option Addr) (c2 : Nat) (hc : AllCl [Cl.sl cGMono a2 c1 a1.L, Cl.sl cGMono a3 c2 b1.L] F w0) (r : Bool)
  (h : m_base_Lin a1 b1 = some r) :
  Calls Try.prog 47 #[(Value.agg #[(vi a1.K), (vs a2 a1.L.length c1)]), (Value.agg #[(vi b1.K), (vs a3 b1.L.length c2)])] w0 fun e w => e = .returned (vb r) ∧ Ext w0 w ∧ AllCl [] F w := by
 refine enterK (l := [(Value.agg #[(vi a1.K), (vs a2 a1.L.length c1)]), (Value.agg #[(vi b1.K), (vs a3 b1.L.length c2)])]) Try.func47 rfl Try.ntmps47 rfl ?_
 have hI := Bun.start hF hc
 clear hc
 rw [m_base_Lin] at h
 refine sr ?_
 refine l_box (v := (Value.agg #[(vi a1.K), (vs a2 a1.L.length c1)])) (cs := #[(vi a1.K), (vs a2 a1.L.length c1)]) hI gn rfl rfl et rfl ?_
 clear hI; intro b2 c3 w1 hI
 obtain ⟨c4, hI⟩ := hI.relBox .z
 refine l_box (v := (Value.agg #[(vi b1.K), (vs a3 b1.L.length c2)])) (cs := #[(vi b1.K), (vs a3 b1.L.length c2)]) hI gn rfl rfl et rfl ?_
 clear hI; intro b3 c5 w2 hI
 obtain ⟨c6, hI⟩ := hI.relBox .z
 refine sac ?_
 refine nk ?_
 refine c_seq ?_
 refine sr ?_
 refine sq (y_fieldAddr rfl et Try.underlying51 rfl size_2 rfl) ?_
 refine sq (y_load1 (v := (vi a1.K)) rfl et Try.underlying2 rfl (hI.kblk (l := [(vi a1.K)]) (.s .z) rfl).1) ?_
 refine sq (y_fieldAddr rfl et Try.underlying51 rfl size_2 rfl) ?_
 refine sq (y_load1 (v := (vi b1.K)) rfl et Try.underlying2 rfl (hI.kblk (l := [(vi b1.K)]) .z rfl).1) ?_
 refine sq (y_neq rfl et et) ?_
 refine sm ?_
 refine s_gval (g_false rfl rfl rfl rfl) rfl (fun hc => (y_fieldAddr rfl et Try.underlying51 rfl size_49 rfl)) ?_
 refine s_gval (g_false rfl rfl rfl rfl) rfl (fun hc => (y_load1 (v := (vs a2 a1.L.length c1)) rfl (ev_gv et hc) Try.underlying49 rfl (hI.kblk (l := [(vs a2 a1.L.length c1)]) (.s .z) rfl).1)) ?_
 refine s_gval (g_false rfl rfl rfl rfl) rfl (fun hc => (y_lenl rfl Try.underlying49 (ev_gv et hc))) ?_
 refine s_gval (g_false rfl rfl rfl rfl) rfl (fun hc => (y_fieldAddr rfl et Try.underlying51 rfl size_49 rfl)) ?_
 refine s_gval (g_false rfl rfl rfl rfl) rfl (fun hc => (y_load1 (v := (vs a3 b1.L.length c2)) rfl (ev_gv et hc) Try.underlying49 rfl (hI.kblk (l := [(vs a3 b1.L.length c2)]) .z rfl).1)) ?_
 refine s_gval (g_false rfl rfl rfl rfl) rfl (fun hc => (y_lenl rfl Try.underlying49 (ev_gv et hc))) ?_
 refine s_gval (g_false rfl rfl rfl rfl) rfl (fun hc => (y_neq rfl (ev_gv et hc) (ev_gv et hc))) ?_
 refine sq (y_or rfl et et) ?_
 refine nk ?_
 refine c_cond (b := (!decide (a1.K = b1.K)) || (!decide ((a1.L.length : Int) = (b1.L.length : Int)))) et (fun hb => ?_) (fun hb => ?_)
 ·replace h := ite_t hb h
  refine sr ?_
  refine sac ?_
  refine nk ?_
  refine c_ret ?_
  obtain rfl := some_inj h
  exact q_ret (vs := [(vb false)]) Try.results47 ⟨ev_tmp rfl rfl, trivial⟩ ⟨rfl, hI.ext0, hI.fin trivial⟩
 ·replace h := ite_f hb h
  refine c_skip ?_
  refine k_same ?_
  refine c_seq ?_
  refine sr ?_
  refine sac ?_
  refine nk ?_
  refine c_block ?_
  refine c_loop (α := Nat × Int) (fun x => fun w => ∃ C, Bun noM F w0 C w [] [Cl.blk b2 51 #[(vi a1.K), (vs a2 a1.L.length c1)], Cl.sl cGMono a2 c1 a1.L, Cl.blk b3 51 #[(vi b1.K), (vs a3 b1.L.length c2)], Cl.sl cGMono a3 c2 b1.L] ∧ m_base_Lin_l1 a1 b1 (x.1) (x.2) = some r) (fun x _ => x.1) (fun x => [(2, (vp b2 0)), (3, (vp b3 0)), (5, (vi (x.2)))]) (fu, 0) ⟨_, hI.arr .n ⟨(.s .z), (.s (.s .z)), .z, (.s (.s (.s .z))), trivial⟩, h⟩ ⟨rfl, rfl, rfl, trivial⟩ ?_
  clear h hI; rintro ⟨fuel1, i1⟩ w3 ⟨c7, hI, h⟩
  dsimp only at hI h
  rcases fuel1 with _ | fuel1
  ·rw [m_base_Lin_l1] at h; cases h
  rw [m_base_Lin_l1] at h
  refine c_sub (e := [(2, (vp b2 0)), (3, (vp b3 0)), (5, (vi i1))]) ⟨rfl, rfl, rfl, trivial⟩ ?_
  refine c_seq ?_
  refine sr ?_
  refine sm ?_
  refine sq (y_fieldAddr rfl et Try.underlying51 rfl size_49 rfl) ?_
  refine sq (y_load1 (v := (vs a2 a1.L.length c1)) rfl et Try.underlying49 rfl (hI.kblk (l := [(vs a2 a1.L.length c1)]) .z rfl).1) ?_
  refine sq (y_lenl rfl Try.underlying49 et) ?_
  refine sq (y_lss rfl et et) ?_
  refine nk ?_
  refine c_cond (b := decide (i1 < (a1.L.length : Int))) et (fun hb => ?_) (fun hb => ?_)
  ·replace h := ite_t hb h
   refine c_skip ?_
   refine k_same ?_
   refine c_seq ?_
   refine c_block ?_
   refine c_seq ?_
   refine c_drawX [] false (.c (0, .q) (.c (1, .q) (.c (2, .q) (.c (3, .q) (.c (4, .q) (.c (5, .q) (.c (6, .q) (.c (7, .q) (.c (8, .q) (.c (9, .q) (.c (10, .q) .n))))))))))) hI (by kernel_rfl) (by kernel_rfl) ?_
   clear hI; intro w4 hI
   refine a_q rfl gn rfl (fun w' => (y_fieldAddr rfl et Try.underlying51 rfl size_49 rfl)) ?_
   refine a_read rfl gn rfl (fun w' hw' => (y_load1 (v := (vs a2 a1.L.length c1)) rfl et Try.underlying49 rfl ((hI.kblk (l := [(vs a2 a1.L.length c1)]) .z rfl).at_ (SX.any rfl hw')))) (by kernel_rfl) ?_
   refine a_q rfl gn rfl (fun w' => (y_move rfl et)) ?_
   obtain ⟨e1, hx1, h⟩ := bnd_some h
   obtain ⟨ad1, cs1, hA1, hr1, hq1⟩ := hI.clat (.s .z) hx1
   obtain rfl : cs1 = [(str e1.Name), (vi e1.By)] := hr1
   refine a_q rfl gn rfl (fun w' => (y_indexAddr rfl Try.underlying49 size_53 et et (lat_bd hx1) hA1)) ?_
   refine a_read rfl gn rfl (fun w' hw' => (y_loadN (l := [(str e1.Name), (vi e1.By)]) rfl et Try.underlying53 rfl size_53 (hq1.at_ (SX.any rfl hw')))) (by kernel_rfl) ?_
   refine a_q rfl gn rfl (fun w' => (y_fieldAddr rfl et Try.underlying51 rfl size_49 rfl)) ?_
   refine a_read rfl gn rfl (fun w' hw' => (y_load1 (v := (vs a3 b1.L.length c2)) rfl et Try.underlying49 rfl ((hI.kblk (l := [(vs a3 b1.L.length c2)]) (.s (.s .z)) rfl).at_ (SX.any rfl hw')))) (by kernel_rfl) ?_
   refine a_q rfl gn rfl (fun w' => (y_move rfl et)) ?_
   obtain ⟨e2, hx2, h⟩ := bnd_some h
   obtain ⟨ad2, cs2, hA2, hr2, hq2⟩ := hI.clat (.s (.s (.s .z))) hx2
   obtain rfl : cs2 = [(str e2.Name), (vi e2.By)] := hr2
   refine a_q rfl gn rfl (fun w' => (y_indexAddr rfl Try.underlying49 size_53 et et (lat_bd hx2) hA2)) ?_
   refine a_read rfl gn rfl (fun w' hw' => (y_loadN (l := [(str e2.Name), (vi e2.By)]) rfl et Try.underlying53 rfl size_53 (hq2.at_ (SX.any rfl hw')))) (by kernel_rfl) ?_
   refine a_q rfl gn rfl (fun w' => (y_bin rfl et et (eqstruct_53n ..) (eqguard_53 ..))) ?_
   refine a_nil ?_
   refine k_same ?_
   refine c_cond (b := !((decide (e1.Name = e2.Name)) && (decide (e1.By = e2.By)))) et (fun hb => ?_) (fun hb => ?_)
   ·replace h := ite_t hb h
    refine sr ?_
    refine sac ?_
    refine nk ?_
    refine c_ret ?_
    obtain rfl := some_inj h
    exact q_ret (vs := [(vb false)]) Try.results47 ⟨ev_tmp rfl rfl, trivial⟩ ⟨rfl, hI.ext0, hI.fin trivial⟩
   ·replace h := ite_f hb h
    refine c_skip ?_
    refine k_same ?_
    refine c_region rfl ?_
    refine sm ?_
    refine sq (y_add rfl et ev_const) ?_
    refine sa ?_
    refine s_nil ?_
    exact k_loop (fuel1, wi64 (i1 + 1)) ⟨rfl, rfl, rfl, trivial⟩ ⟨_, hI.arr .n ⟨.z, (.s .z), (.s (.s .z)), (.s (.s (.s .z))), trivial⟩, h⟩ (Nat.lt_succ_self _)
  ·replace h := ite_f hb h
   refine c_exit ?_
   refine k_in ?_
   refine k_same ?_
   refine sr ?_
   refine sac ?_
   refine nk ?_
   refine c_ret ?_
   obtain rfl := some_inj h
   exact q_ret (vs := [(vb true)]) Try.results47 ⟨ev_tmp rfl rfl, trivial⟩ ⟨rfl, hI.ext0, hI.fin trivial⟩
set_option maxRecDepth 100000 in
set_option maxHeartbeats 4000000 in
theorem c_base_Lins (F : NP) (w0 : World) (hF : ∀ k, F k → k < w0.heap.size) (a1 : List GLin) (b1 : List GLin) (a2 : Option Addr) (c1 : Nat) (a3 : Option Addr) (c2 : Nat) (hc : AllCl [Cl.sl cGLin a2 c1 a1, Cl.sl cGLin a3 c2 b1] F w0) (r : Bool)
  (h : m_base_Lins a1 b1 = some r) :
  Calls Try.prog 23 #[(vs a2 a1.length c1), (vs a3 b1.length c2)] w0 fun e w => e = .returned (vb r) ∧ Ext w0 w ∧ AllCl [] F w := by
 refine enterK (l := [(vs a2 a1.length c1), (vs a3 b1.length c2)]) Try.func23 rfl Try.ntmps23 rfl ?_
 have hI := Bun.start hF hc
 clear hc
 rw [m_base_Lins] at h
 refine sr ?_
 refine sac ?_
 refine nk ?_
 refine c_seq ?_
 refine sr ?_
 refine sm ?_
 refine sq (y_lenl rfl Try.underlying22 et) ?_
 refine sm ?_
 refine sq (y_lenl rfl Try.underlying22 et) ?_
 refine sq (y_neq rfl et et) ?_
 refine nk ?_
 refine c_cond (b := !decide ((a1.length : Int) = (b1.length : Int))) et (fun hb => ?_) (fun hb => ?_)
 ·replace h := ite_t hb h
  refine sr ?_
  refine sac ?_
  refine nk ?_
  refine c_ret ?_
  obtain rfl := some_inj h
  exact q_ret (vs := [(vb false)]) Try.results23 ⟨ev_tmp rfl rfl, trivial⟩ ⟨rfl, hI.ext0, hI.fin trivial⟩
 ·replace h := ite_f hb h
  refine c_skip ?_
  refine k_same ?_
  refine c_seq ?_
  refine sr ?_
  refine sac ?_
  refine nk ?_
  refine c_block ?_
  refine c_loop (α := Nat × Int) (fun x => fun w => ∃ C, Bun noM F w0 C w [] [Cl.sl cGLin a2 c1 a1, Cl.sl cGLin a3 c2 b1] ∧ m_base_Lins_l1 a1 b1 (x.1) (x.2) = some r) (fun x _ => x.1) (fun x => [(0, (vs a2 a1.length c1)), (1, (vs a3 b1.length c2)), (5, (vi (x.2)))]) (fu, 0) ⟨_, hI.arr .n ⟨.z, (.s .z), trivial⟩, h⟩ ⟨rfl, rfl, rfl, trivial⟩ ?_
  clear h hI; rintro ⟨fuel1, i1⟩ w1 ⟨c3, hI, h⟩
  dsimp only at hI h
  rcases fuel1 with _ | fuel1
  ·rw [m_base_Lins_l1] at h; cases h
  rw [m_base_Lins_l1] at h
  refine c_sub (e := [(0, (vs a2 a1.length c1)), (1, (vs a3 b1.length c2)), (5, (vi i1))]) ⟨rfl, rfl, rfl, trivial⟩ ?_
  refine c_seq ?_
  refine sr ?_
  refine sm ?_
  refine sm ?_
  refine sq (y_lenl rfl Try.underlying22 et) ?_
  refine sq (y_lss rfl et et) ?_
  refine nk ?_
  refine c_cond (b := decide (i1 < (a1.length : Int))) et (fun hb => ?_) (fun hb => ?_)
  ·replace h := ite_t hb h
   refine c_skip ?_
   refine k_same ?_
   refine c_seq ?_
   refine c_block ?_
   refine c_seq ?_
   refine c_drawX [] false (.c (0, .q) (.c (1, .q) (.c (2, .q) (.c (3, .q) (.c (4, .q) (.c (5, .q) (.c (6, .q) (.c (7, .q) (.c (8, .s) (.c (9, .q) .n)))))))))) hI (by kernel_rfl) (by kernel_rfl) ?_
   clear hI; intro w2 hI
   refine a_q rfl gn rfl (fun w' => (y_move rfl et)) ?_
   refine a_q rfl gn rfl (fun w' => (y_move rfl et)) ?_
   obtain ⟨e1, hx1, h⟩ := bnd_some h
   obtain ⟨ad1, cs1, hA1, hr1, hq1⟩ := hI.clat .z hx1
   obtain ⟨a4, c4, rfl, hf1⟩ := hr1
   have hI := hI.add (c := Cl.sl cGMono a4 c4 e1.L) hf1
   refine a_q rfl gn rfl (fun w' => (y_indexAddr rfl Try.underlying22 size_51 et et (lat_bd hx1) hA1)) ?_
   refine a_read rfl gn rfl (fun w' hw' => (y_loadN (l := [(vi e1.K), (vs a4 e1.L.length c4)]) rfl et Try.underlying51 rfl size_51 (hq1.at_ (SX.any rfl hw')))) (by kernel_rfl) ?_
   refine a_q rfl gn rfl (fun w' => (y_move rfl et)) ?_
   refine a_q rfl gn rfl (fun w' => (y_move rfl et)) ?_
   obtain ⟨e2, hx2, h⟩ := bnd_some h
   obtain ⟨ad2, cs2, hA2, hr2, hq2⟩ := hI.clat (.s (.s .z)) hx2
   obtain ⟨a5, c5, rfl, hf2⟩ := hr2
   have hI := hI.add (c := Cl.sl cGMono a5 c5 e2.L) hf2
   refine a_q rfl gn rfl (fun w' => (y_indexAddr rfl Try.underlying22 size_51 et et (lat_bd hx2) hA2)) ?_
   refine a_read rfl gn rfl (fun w' hw' => (y_loadN (l := [(vi e2.K), (vs a5 e2.L.length c5)]) rfl et Try.underlying51 rfl size_51 (hq2.at_ (SX.any rfl hw')))) (by kernel_rfl) ?_
   obtain ⟨r1, hx3, h⟩ := bnd_some h
   refine la_call rfl gn rfl (r_callF (vs := [(Value.agg #[(vi e1.K), (vs a4 e1.L.length c4)]), (Value.agg #[(vi e2.K), (vs a5 e2.L.length c5)])]) rfl ok_47 ⟨et, ⟨et, trivial⟩⟩) (Calls.mono (c_base_Lin (Dj F c3) w2 hI.lt e1 e2 a4 c4 a5 c5 ⟨(hI.get (.s .z)), (hI.get .z), trivial⟩ r1 hx3) ?_)
   rintro _ w3 ⟨rfl, hx4, hl1⟩
   refine ⟨_, rfl, hx4, ?_⟩
   replace hI := (hI.ext hx4)
   refine a_q rfl gn rfl (fun w' => (y_not rfl et)) ?_
   refine a_nil ?_
   refine k_same ?_
   refine c_cond (b := !r1) et (fun hb => ?_) (fun hb => ?_)
   ·replace h := ite_t hb h
    refine sr ?_
    refine sac ?_
    refine nk ?_
    refine c_ret ?_
    obtain rfl := some_inj h
    exact q_ret (vs := [(vb false)]) Try.results23 ⟨ev_tmp rfl rfl, trivial⟩ ⟨rfl, hI.ext0, hI.fin trivial⟩
   ·replace h := ite_f hb h
    refine c_skip ?_
    refine k_same ?_
    refine c_region rfl ?_
    refine sm ?_
    refine sq (y_add rfl et ev_const) ?_
    refine sa ?_
    refine s_nil ?_
    exact k_loop (fuel1, wi64 (i1 + 1)) ⟨rfl, rfl, rfl, trivial⟩ ⟨_, hI.arr .n ⟨(.s (.s .z)), (.s (.s (.s .z))), trivial⟩, h⟩ (Nat.lt_succ_self _)
  ·replace h := ite_f hb h
   refine c_exit ?_
   refine k_in ?_
   refine k_same ?_
   refine sr ?_
   refine sac ?_
   refine nk ?_
   refine c_ret ?_
   obtain rfl := some_inj h
   exact q_ret (vs := [(vb true)]) Try.results23 ⟨ev_tmp rfl rfl, trivial⟩ ⟨rfl, hI.ext0, hI.fin trivial⟩
set_option maxRecDepth 100000 in
set_option maxHeartbeats 4000000 in
theorem c_law10_AffineCompose (F : NP) (w0 : World) (hF : ∀ k, F k → k < w0.heap.size) (m1 : List GLin) (names1 : List (List UInt8)) (next1 : List GLin) (a1 : Option Addr) (c1 : Nat) (a2 : Option Addr) (c2 : Nat) (a3 : Option Addr) (c3 : Nat) (hc : AllCl [Cl.sl cGLin a1 c1 m1, Cl.sl cStr a2 c2 names1, Cl.sl cGLin a3 c3 next1] F w0) (r : Bool)
  (h : m_law10_AffineCompose m1 names1 next1 = some r) :
  Calls Try.prog 5 #[(vs a1 m1.length c1), (vs a2 names1.length c2), (vs a3 next1.length c3)] w0 fun e w => e = .returned (vb r) ∧ Ext w0 w ∧ AllCl [] F w := by
 refine enterK (l := [(vs a1 m1.length c1), (vs a2 names1.length c2), (vs a3 next1.length c3)]) Try.func5 rfl Try.ntmps5 rfl ?_
 have hI := Bun.start hF hc
 clear hc
 rw [m_law10_AffineCompose] at h
 refine sr ?_
 refine sac ?_
 refine nk ?_
 refine c_seq ?_
 refine sr ?_
 refine sm ?_
 refine sm ?_
 have hI := hI.add (c := Cl.sl (cInt .i64) none 0 ([] : List Int)) SlC.nil
 obtain ⟨r1, hx1, h⟩ := bnd_some h
 refine s_call gn rfl (r_callF (vs := [(vs a1 m1.length c1), (vs a2 names1.length c2), (vs none 0 0)]) rfl ok_7 ⟨et, ⟨et, ⟨ev_const, trivial⟩⟩⟩) (Calls.mono (c_law10_few (Dj F noM) w0 hI.lt m1 names1 ([] : List Int) a1 c1 a2 c2 none 0 ⟨(hI.get (.s .z)), (hI.get (.s (.s .z))), (hI.get .z), trivial⟩ r1 hx1) ?_)
 rintro _ w1 ⟨rfl, hx2, hl1⟩
 refine ⟨_, rfl, ?_⟩
 replace hI := (hI.ext hx2)
 refine sq (y_not rfl et) ?_
 refine sm ?_
 refine s_gval (g_false rfl rfl rfl rfl) rfl (fun hc => (y_move rfl et)) ?_
 have hI := hI.add (c := Cl.sl cStr none 0 ([] : List (List UInt8))) SlC.nil
 obtain ⟨r2, hx3, h⟩ := bnd_some h
 replace hx3 := gd_some hx3
 refine s_gcallU (v := (vb r2)) (g_false rfl rfl rfl rfl) rfl (fun hc => (r_callF (vs := [(vs a3 next1.length c3), (vs none 0 0), (vs none 0 0)]) rfl ok_7 ⟨(ev_gv et hc), ⟨ev_const, ⟨ev_const, trivial⟩⟩⟩)) (fun hc => (c_law10_few (Dj F noM) w1 hI.lt next1 ([] : List (List UInt8)) ([] : List Int) a3 c3 none 0 none 0 ⟨(hI.get (.s (.s (.s (.s .z))))), (hI.get .z), (hI.get (.s .z)), trivial⟩ r2 (hx3 hc)).mono fun _ _ k => ⟨k.1, k.2.1⟩) ?_
 intro w2 hx4; replace hI := hI.ext hx4
 refine s_gval (g_false rfl rfl rfl rfl) rfl (fun hc => (y_not rfl (ev_gv et hc))) ?_
 refine sq (y_or rfl et et) ?_
 refine nk ?_
 refine c_cond (b := (!r1) || (!r2)) et (fun hb => ?_) (fun hb => ?_)
 ·replace h := ite_t hb h
  refine sr ?_
  obtain ⟨r3, hx5, h⟩ := bnd_some h
  refine s_call gn rfl (r_callF (vs := []) rfl ok_9 trivial) (Calls.mono (c_law10_examples (Dj F noM) w2 hI.lt trivial r3 hx5) ?_)
  rintro _ w3 ⟨rfl, hx6, hl3⟩
  refine ⟨_, rfl, ?_⟩
  replace hI := (hI.ext hx6)
  refine sa ?_
  refine nk ?_
  refine c_ret ?_
  obtain rfl := some_inj h
  exact q_ret (vs := [(vb r3)]) Try.results5 ⟨ev_tmp rfl rfl, trivial⟩ ⟨rfl, hI.ext0, hI.fin trivial⟩
 ·replace h := ite_f hb h
  refine c_skip ?_
  refine k_same ?_
  refine sr ?_
  refine sm ?_
  refine sm ?_
  refine sm ?_
  obtain ⟨r4, hx7, h⟩ := bnd_some h
  refine s_call gn rfl (r_callF (vs := [(vs a1 m1.length c1), (vs a2 names1.length c2), (vs a3 next1.length c3)]) rfl ok_21 ⟨et, ⟨et, ⟨et, trivial⟩⟩⟩) (Calls.mono (c_affine_Compose (Dj F noM) w2 hI.lt m1 names1 next1 a1 c1 a2 c2 a3 c3 ⟨(hI.get (.s (.s .z))), (hI.get (.s (.s (.s .z)))), (hI.get (.s (.s (.s (.s .z))))), trivial⟩ r4 hx7) ?_)
  rintro _ w4 ⟨a4, c4, rfl, hx8, hl4⟩
  refine ⟨_, rfl, ?_⟩
  replace hI := (hI.ext hx8).adds hl4
  refine sm ?_
  refine sq (y_extract rfl et rfl) ?_
  refine sq (y_extract rfl et rfl) ?_
  refine sa ?_
  refine sa ?_
  refine nk ?_
  refine sr ?_
  refine sm ?_
  refine sm ?_
  refine sm ?_
  obtain ⟨r5, hx9, h⟩ := bnd_some h
  refine s_call gn rfl (r_callF (vs := [(vs a1 m1.length c1), (vs a2 names1.length c2), (vs a3 next1.length c3)]) rfl ok_22 ⟨et, ⟨et, ⟨et, trivial⟩⟩⟩) (Calls.mono (c_ref10_Compose (Dj F noM) w4 hI.lt m1 names1 next1 a1 c1 a2 c2 a3 c3 ⟨(hI.get (.s (.s (.s .z)))), (hI.get (.s (.s (.s (.s .z))))), (hI.get (.s (.s (.s (.s (.s .z)))))), trivial⟩ r5 hx9) ?_)
  rintro _ w5 ⟨a5, c5, rfl, hx10, hl5⟩
  refine ⟨_, rfl, ?_⟩
  replace hI := (hI.ext hx10).adds hl5
  refine sm ?_
  refine sq (y_extract rfl et rfl) ?_
  refine sq (y_extract rfl et rfl) ?_
  refine sa ?_
  refine sa ?_
  refine s_nil ?_
  refine k_next (e := [(7, (vs a4 r4.1.length c4)), (8, (vi r4.2)), (9, (vs a5 r5.1.length c5)), (10, (vi r5.2))]) ⟨rfl, rfl, rfl, rfl, trivial⟩ ?_
  refine sr ?_
  refine sm ?_
  refine sm ?_
  obtain ⟨r6, hx11, h⟩ := bnd_some h
  refine s_call gn rfl (r_callF (vs := [(vs a4 r4.1.length c4), (vs a5 r5.1.length c5)]) rfl ok_23 ⟨et, ⟨et, trivial⟩⟩) (Calls.mono (c_base_Lins (Dj F noM) w5 hI.lt r4.1 r5.1 a4 c4 a5 c5 ⟨(hI.get (.s .z)), (hI.get .z), trivial⟩ r6 hx11) ?_)
  rintro _ w6 ⟨rfl, hx12, hl6⟩
  refine ⟨_, rfl, ?_⟩
  replace hI := (hI.ext hx12)
  refine sm ?_
  refine s_gval (g_true rfl rfl rfl rfl) rfl (fun hc => (y_move rfl et)) ?_
  refine s_gval (g_true rfl rfl rfl rfl) rfl (fun hc => (y_move rfl et)) ?_
  refine s_gval (g_true rfl rfl rfl rfl) rfl (fun hc => (y_eql rfl (ev_gv et hc) (ev_gv et hc))) ?_
  refine sq (y_and rfl et et) ?_
  refine sm ?_
  obtain ⟨r7, hx13, h⟩ := bnd_some h
  replace hx13 := gd_some hx13
  refine s_gcallU (v := (vb r7)) (g_true rfl rfl rfl rfl) rfl (fun hc => (r_callF (vs := []) rfl ok_9 trivial)) (fun hc => (c_law10_examples (Dj F noM) w6 hI.lt trivial r7 (hx13 hc)).mono fun _ _ k => ⟨k.1, k.2.1⟩) ?_
  intro w7 hx14; replace hI := hI.ext hx14
  refine sq (y_and rfl et et) ?_
  refine sa ?_
  refine nk ?_
  refine c_ret ?_
  obtain rfl := some_inj h
  exact q_ret (vs := [(vb ((r6 && (decide (r4.2 = r5.2))) && r7))]) Try.results5 ⟨ev_tmp rfl rfl, trivial⟩ ⟨rfl, hI.ext0, hI.fin trivial⟩
end Go.Proofs.Ytaokohndeepbjaa
