/- Each call returns what its plain function gives: printed by a program of my own; Lean checks it. -/
import Derived.Test.YtlakfanockhngaaGreatDoorSCQ2b
namespace Go.Proofs.YtlakfanockhngaaGreatDoor
open Go Go.RowKit Go.Vc
set_option linter.unusedVariables false
set_option linter.unusedSimpArgs false

set_option maxRecDepth 100000 in
set_option maxHeartbeats 4000000 in
theorem c_base_Ints (F : NP) (w0 : World) (hF : ∀ k, F k → k < w0.heap.size) (a1 : List Int) (b1 : List Int) (a2 : Option Addr) (c1 : Nat) (a3 : Option Addr) (c2 : Nat) (hc : AllCl [Cl.sl (cInt .i64) a2 c1 a1, Cl.sl (cInt .i64) a3 c2 b1] F w0) (r : Bool)
  (h : m_base_Ints a1 b1 = some r) :
  Calls Tryz.prog 50 #[(vs a2 a1.length c1), (vs a3 b1.length c2)] w0 fun e w => e = .returned (vb r) ∧ Ext w0 w ∧ AllCl [] F w := by
 refine enterK (l := [(vs a2 a1.length c1), (vs a3 b1.length c2)]) Tryz.func50 rfl Tryz.ntmps50 rfl ?_
 have hI := Bun.start hF hc
 clear hc
 rw [m_base_Ints] at h
 refine sr ?_
 refine sac ?_
 refine nk ?_
 refine c_seq ?_
 refine sr ?_
 refine sm ?_
 refine sq (y_lenl rfl Tryz.underlying24 et) ?_
 refine sm ?_
 refine sq (y_lenl rfl Tryz.underlying24 et) ?_
 refine sq (y_neq rfl et et) ?_
 refine nk ?_
 refine c_cond (b := !decide ((a1.length : Int) = (b1.length : Int))) et (fun hb => ?_) (fun hb => ?_)
 ·replace h := ite_t hb h
  refine sr ?_
  refine sac ?_
  refine nk ?_
  refine c_ret ?_
  obtain rfl := some_inj h
  exact q_ret (vs := [(vb false)]) Tryz.results50 ⟨ev_tmp rfl rfl, trivial⟩ ⟨rfl, hI.ext0, hI.fin trivial⟩
 ·replace h := ite_f hb h
  refine c_skip ?_
  refine k_same ?_
  refine c_seq ?_
  refine sr ?_
  refine sac ?_
  refine nk ?_
  refine c_block ?_
  refine c_loop (α := Nat × Int) (fun x => fun w => ∃ C, Bun noM F w0 C w [] [Cl.sl (cInt .i64) a2 c1 a1, Cl.sl (cInt .i64) a3 c2 b1] ∧ m_base_Ints_l1 a1 b1 (x.1) (x.2) = some r) (fun x _ => x.1) (fun x => [(0, (vs a2 a1.length c1)), (1, (vs a3 b1.length c2)), (5, (vi (x.2)))]) (fu, 0) ⟨_, hI.arr .n ⟨.z, (.s .z), trivial⟩, h⟩ ⟨rfl, rfl, rfl, trivial⟩ ?_
  clear h hI; rintro ⟨fuel1, i1⟩ w1 ⟨c3, hI, h⟩
  dsimp only at hI h
  rcases fuel1 with _ | fuel1
  ·rw [m_base_Ints_l1] at h; cases h
  rw [m_base_Ints_l1] at h
  refine c_sub (e := [(0, (vs a2 a1.length c1)), (1, (vs a3 b1.length c2)), (5, (vi i1))]) ⟨rfl, rfl, rfl, trivial⟩ ?_
  refine c_seq ?_
  refine sr ?_
  refine sm ?_
  refine sm ?_
  refine sq (y_lenl rfl Tryz.underlying24 et) ?_
  refine sq (y_lss rfl et et) ?_
  refine nk ?_
  refine c_cond (b := decide (i1 < (a1.length : Int))) et (fun hb => ?_) (fun hb => ?_)
  ·replace h := ite_t hb h
   refine c_skip ?_
   refine k_same ?_
   refine c_seq ?_
   refine c_block ?_
   refine c_seq ?_
   refine c_drawX [] false (.c (0, .q) (.c (1, .q) (.c (2, .q) (.c (3, .q) (.c (4, .q) (.c (5, .q) (.c (6, .q) (.c (7, .q) (.c (8, .q) .n))))))))) hI (by kernel_rfl) (by kernel_rfl) ?_
   clear hI; intro w2 hI
   refine a_q rfl gn rfl (fun w' => (y_move rfl et)) ?_
   refine a_q rfl gn rfl (fun w' => (y_move rfl et)) ?_
   obtain ⟨e1, hx1, h⟩ := bnd_some h
   obtain ⟨ad1, cs1, hA1, hr1, hq1⟩ := hI.clat .z hx1
   obtain rfl : cs1 = [(vi e1)] := hr1
   refine a_q rfl gn rfl (fun w' => (y_indexAddr rfl Tryz.underlying24 size_3 et et (lat_bd hx1) hA1)) ?_
   refine a_read rfl gn rfl (fun w' hw' => (y_load1 (v := (vi e1)) rfl et Tryz.underlying3 rfl (hq1.at_ (SX.any rfl hw')))) (by kernel_rfl) ?_
   refine a_q rfl gn rfl (fun w' => (y_move rfl et)) ?_
   refine a_q rfl gn rfl (fun w' => (y_move rfl et)) ?_
   obtain ⟨e2, hx2, h⟩ := bnd_some h
   obtain ⟨ad2, cs2, hA2, hr2, hq2⟩ := hI.clat (.s .z) hx2
   obtain rfl : cs2 = [(vi e2)] := hr2
   refine a_q rfl gn rfl (fun w' => (y_indexAddr rfl Tryz.underlying24 size_3 et et (lat_bd hx2) hA2)) ?_
   refine a_read rfl gn rfl (fun w' hw' => (y_load1 (v := (vi e2)) rfl et Tryz.underlying3 rfl (hq2.at_ (SX.any rfl hw')))) (by kernel_rfl) ?_
   refine a_q rfl gn rfl (fun w' => (y_neq rfl et et)) ?_
   refine a_nil ?_
   refine k_same ?_
   refine c_cond (b := !decide (e1 = e2)) et (fun hb => ?_) (fun hb => ?_)
   ·replace h := ite_t hb h
    refine sr ?_
    refine sac ?_
    refine nk ?_
    refine c_ret ?_
    obtain rfl := some_inj h
    exact q_ret (vs := [(vb false)]) Tryz.results50 ⟨ev_tmp rfl rfl, trivial⟩ ⟨rfl, hI.ext0, hI.fin trivial⟩
   ·replace h := ite_f hb h
    refine c_skip ?_
    refine k_same ?_
    refine c_region rfl ?_
    refine sm ?_
    refine sq (y_add rfl et ev_const) ?_
    refine sa ?_
    refine s_nil ?_
    exact k_loop (fuel1, wi64 (i1 + 1)) ⟨rfl, rfl, rfl, trivial⟩ ⟨_, hI.arr .n ⟨.z, (.s .z), trivial⟩, h⟩ (Nat.lt_succ_self _)
  ·replace h := ite_f hb h
   refine c_exit ?_
   refine k_in ?_
   refine k_same ?_
   refine sr ?_
   refine sac ?_
   refine nk ?_
   refine c_ret ?_
   obtain rfl := some_inj h
   exact q_ret (vs := [(vb true)]) Tryz.results50 ⟨ev_tmp rfl rfl, trivial⟩ ⟨rfl, hI.ext0, hI.fin trivial⟩

set_option maxRecDepth 100000 in
set_option maxHeartbeats 4000000 in
theorem c_base_Vals (F : NP) (w0 : World) (hF : ∀ k, F k → k < w0.heap.size) (a1 : List GVal) (b1 : List GVal) (a2 : Option Addr) (c1 : Nat) (a3 : Option Addr) (c2 : Nat) (hc : AllCl [Cl.sl cGVal a2 c1 a1, Cl.sl cGVal a3 c2 b1] F w0) (r : Bool)
  (h : m_base_Vals a1 b1 = some r) :
  Calls Tryz.prog 51 #[(vs a2 a1.length c1), (vs a3 b1.length c2)] w0 fun e w => e = .returned (vb r) ∧ Ext w0 w ∧ AllCl [] F w := by
 refine enterK (l := [(vs a2 a1.length c1), (vs a3 b1.length c2)]) Tryz.func51 rfl Tryz.ntmps51 rfl ?_
 have hI := Bun.start hF hc
 clear hc
 rw [m_base_Vals] at h
 refine sr ?_
 refine sac ?_
 refine nk ?_
 refine c_seq ?_
 refine sr ?_
 refine sm ?_
 refine sq (y_lenl rfl Tryz.underlying25 et) ?_
 refine sm ?_
 refine sq (y_lenl rfl Tryz.underlying25 et) ?_
 refine sq (y_neq rfl et et) ?_
 refine nk ?_
 refine c_cond (b := !decide ((a1.length : Int) = (b1.length : Int))) et (fun hb => ?_) (fun hb => ?_)
 ·replace h := ite_t hb h
  refine sr ?_
  refine sac ?_
  refine nk ?_
  refine c_ret ?_
  obtain rfl := some_inj h
  exact q_ret (vs := [(vb false)]) Tryz.results51 ⟨ev_tmp rfl rfl, trivial⟩ ⟨rfl, hI.ext0, hI.fin trivial⟩
 ·replace h := ite_f hb h
  refine c_skip ?_
  refine k_same ?_
  refine c_seq ?_
  refine sr ?_
  refine sac ?_
  refine nk ?_
  refine c_block ?_
  refine c_loop (α := Nat × Int) (fun x => fun w => ∃ C, Bun noM F w0 C w [] [Cl.sl cGVal a2 c1 a1, Cl.sl cGVal a3 c2 b1] ∧ m_base_Vals_l1 a1 b1 (x.1) (x.2) = some r) (fun x _ => x.1) (fun x => [(0, (vs a2 a1.length c1)), (1, (vs a3 b1.length c2)), (5, (vi (x.2)))]) (fu, 0) ⟨_, hI.arr .n ⟨.z, (.s .z), trivial⟩, h⟩ ⟨rfl, rfl, rfl, trivial⟩ ?_
  clear h hI; rintro ⟨fuel1, i1⟩ w1 ⟨c3, hI, h⟩
  dsimp only at hI h
  rcases fuel1 with _ | fuel1
  ·rw [m_base_Vals_l1] at h; cases h
  rw [m_base_Vals_l1] at h
  refine c_sub (e := [(0, (vs a2 a1.length c1)), (1, (vs a3 b1.length c2)), (5, (vi i1))]) ⟨rfl, rfl, rfl, trivial⟩ ?_
  refine c_seq ?_
  refine sr ?_
  refine sm ?_
  refine sm ?_
  refine sq (y_lenl rfl Tryz.underlying25 et) ?_
  refine sq (y_lss rfl et et) ?_
  refine nk ?_
  refine c_cond (b := decide (i1 < (a1.length : Int))) et (fun hb => ?_) (fun hb => ?_)
  ·replace h := ite_t hb h
   refine c_skip ?_
   refine k_same ?_
   refine c_seq ?_
   refine c_block ?_
   refine c_seq ?_
   refine c_drawX [] false (.c (0, .q) (.c (1, .q) (.c (2, .q) (.c (3, .q) (.c (4, .q) (.c (5, .q) (.c (6, .q) (.c (7, .q) (.c (8, .q) .n))))))))) hI (by kernel_rfl) (by kernel_rfl) ?_
   clear hI; intro w2 hI
   refine a_q rfl gn rfl (fun w' => (y_move rfl et)) ?_
   refine a_q rfl gn rfl (fun w' => (y_move rfl et)) ?_
   obtain ⟨e1, hx1, h⟩ := bnd_some h
   obtain ⟨ad1, cs1, hA1, hr1, hq1⟩ := hI.clat .z hx1
   obtain rfl : cs1 = [(vi e1.N), (vi e1.D)] := hr1
   refine a_q rfl gn rfl (fun w' => (y_indexAddr rfl Tryz.underlying25 size_36 et et (lat_bd hx1) hA1)) ?_
   refine a_read rfl gn rfl (fun w' hw' => (y_loadN (l := [(vi e1.N), (vi e1.D)]) rfl et Tryz.underlying36 rfl size_36 (hq1.at_ (SX.any rfl hw')))) (by kernel_rfl) ?_
   refine a_q rfl gn rfl (fun w' => (y_move rfl et)) ?_
   refine a_q rfl gn rfl (fun w' => (y_move rfl et)) ?_
   obtain ⟨e2, hx2, h⟩ := bnd_some h
   obtain ⟨ad2, cs2, hA2, hr2, hq2⟩ := hI.clat (.s .z) hx2
   obtain rfl : cs2 = [(vi e2.N), (vi e2.D)] := hr2
   refine a_q rfl gn rfl (fun w' => (y_indexAddr rfl Tryz.underlying25 size_36 et et (lat_bd hx2) hA2)) ?_
   refine a_read rfl gn rfl (fun w' hw' => (y_loadN (l := [(vi e2.N), (vi e2.D)]) rfl et Tryz.underlying36 rfl size_36 (hq2.at_ (SX.any rfl hw')))) (by kernel_rfl) ?_
   refine a_q rfl gn rfl (fun w' => (y_bin rfl et et (eqstruct_36n ..) (eqguard_36 ..))) ?_
   refine a_nil ?_
   refine k_same ?_
   refine c_cond (b := !((decide (e1.N = e2.N)) && (decide (e1.D = e2.D)))) et (fun hb => ?_) (fun hb => ?_)
   ·replace h := ite_t hb h
    refine sr ?_
    refine sac ?_
    refine nk ?_
    refine c_ret ?_
    obtain rfl := some_inj h
    exact q_ret (vs := [(vb false)]) Tryz.results51 ⟨ev_tmp rfl rfl, trivial⟩ ⟨rfl, hI.ext0, hI.fin trivial⟩
   ·replace h := ite_f hb h
    refine c_skip ?_
    refine k_same ?_
    refine c_region rfl ?_
    refine sm ?_
    refine sq (y_add rfl et ev_const) ?_
    refine sa ?_
    refine s_nil ?_
    exact k_loop (fuel1, wi64 (i1 + 1)) ⟨rfl, rfl, rfl, trivial⟩ ⟨_, hI.arr .n ⟨.z, (.s .z), trivial⟩, h⟩ (Nat.lt_succ_self _)
  ·replace h := ite_f hb h
   refine c_exit ?_
   refine k_in ?_
   refine k_same ?_
   refine sr ?_
   refine sac ?_
   refine nk ?_
   refine c_ret ?_
   obtain rfl := some_inj h
   exact q_ret (vs := [(vb true)]) Tryz.results51 ⟨ev_tmp rfl rfl, trivial⟩ ⟨rfl, hI.ext0, hI.fin trivial⟩

set_option maxRecDepth 100000 in
set_option maxHeartbeats 4000000 in
theorem c_base_Tensor (F : NP) (w0 : World) (hF : ∀ k, F k → k < w0.heap.size) (a1 : GTensor) (b1 : GTensor) (a2 : Option Addr) (c1 : Nat) (a3 : Option Addr) (c2 : Nat) (a4 : Option Addr) (c3 : Nat) (a5 : Option Addr) (c4 : Nat) (hc : AllCl [Cl.sl (cInt .i64) a2 c1 a1.Dims, Cl.sl cGVal a3 c2 a1.Vals, Cl.sl (cInt .i64) a4 c3 b1.Dims, Cl.sl cGVal a5 c4 b1.Vals] F w0) (r : Bool)
  (h : m_base_Tensor a1 b1 = some r) :
  Calls Tryz.prog 16 #[(Value.agg #[(vi a1.Type_.Kind), (vi a1.Type_.Bits), (vi a1.Type_.Frac), (vi a1.Type_.Round), (vi a1.Type_.Over), (vs a2 a1.Dims.length c1), (vs a3 a1.Vals.length c2)]), (Value.agg #[(vi b1.Type_.Kind), (vi b1.Type_.Bits), (vi b1.Type_.Frac), (vi b1.Type_.Round), (vi b1.Type_.Over), (vs a4 b1.Dims.length c3), (vs a5 b1.Vals.length c4)])] w0 fun e w => e = .returned (vb r) ∧ Ext w0 w ∧ AllCl [] F w := by
 refine enterK (l := [(Value.agg #[(vi a1.Type_.Kind), (vi a1.Type_.Bits), (vi a1.Type_.Frac), (vi a1.Type_.Round), (vi a1.Type_.Over), (vs a2 a1.Dims.length c1), (vs a3 a1.Vals.length c2)]), (Value.agg #[(vi b1.Type_.Kind), (vi b1.Type_.Bits), (vi b1.Type_.Frac), (vi b1.Type_.Round), (vi b1.Type_.Over), (vs a4 b1.Dims.length c3), (vs a5 b1.Vals.length c4)])]) Tryz.func16 rfl Tryz.ntmps16 rfl ?_
 have hI := Bun.start hF hc
 clear hc
 rw [m_base_Tensor] at h
 refine sr ?_
 refine l_box (v := (Value.agg #[(vi a1.Type_.Kind), (vi a1.Type_.Bits), (vi a1.Type_.Frac), (vi a1.Type_.Round), (vi a1.Type_.Over), (vs a2 a1.Dims.length c1), (vs a3 a1.Vals.length c2)])) (cs := #[(vi a1.Type_.Kind), (vi a1.Type_.Bits), (vi a1.Type_.Frac), (vi a1.Type_.Round), (vi a1.Type_.Over), (vs a2 a1.Dims.length c1), (vs a3 a1.Vals.length c2)]) hI gn rfl rfl et rfl ?_
 clear hI; intro b2 c5 w1 hI
 obtain ⟨c6, hI⟩ := hI.relBox .z
 refine l_box (v := (Value.agg #[(vi b1.Type_.Kind), (vi b1.Type_.Bits), (vi b1.Type_.Frac), (vi b1.Type_.Round), (vi b1.Type_.Over), (vs a4 b1.Dims.length c3), (vs a5 b1.Vals.length c4)])) (cs := #[(vi b1.Type_.Kind), (vi b1.Type_.Bits), (vi b1.Type_.Frac), (vi b1.Type_.Round), (vi b1.Type_.Over), (vs a4 b1.Dims.length c3), (vs a5 b1.Vals.length c4)]) hI gn rfl rfl et rfl ?_
 clear hI; intro b3 c7 w2 hI
 obtain ⟨c8, hI⟩ := hI.relBox .z
 refine sac ?_
 refine nk ?_
 refine sr ?_
 refine sq (y_fieldAddr rfl et Tryz.underlying27 rfl size_23 rfl) ?_
 refine sq (y_loadN (l := [(vi a1.Type_.Kind), (vi a1.Type_.Bits), (vi a1.Type_.Frac), (vi a1.Type_.Round), (vi a1.Type_.Over)]) rfl et Tryz.underlying23 rfl size_23 (hI.kblk (l := [(vi a1.Type_.Kind), (vi a1.Type_.Bits), (vi a1.Type_.Frac), (vi a1.Type_.Round), (vi a1.Type_.Over)]) (.s .z) rfl).1) ?_
 refine sq (y_fieldAddr rfl et Tryz.underlying27 rfl size_23 rfl) ?_
 refine sq (y_loadN (l := [(vi b1.Type_.Kind), (vi b1.Type_.Bits), (vi b1.Type_.Frac), (vi b1.Type_.Round), (vi b1.Type_.Over)]) rfl et Tryz.underlying23 rfl size_23 (hI.kblk (l := [(vi b1.Type_.Kind), (vi b1.Type_.Bits), (vi b1.Type_.Frac), (vi b1.Type_.Round), (vi b1.Type_.Over)]) .z rfl).1) ?_
 refine sq (y_bin rfl et et (eqstruct_23 ..) (eqguard_23 ..)) ?_
 refine sm ?_
 refine s_gval (g_true rfl rfl rfl rfl) rfl (fun hc => (y_fieldAddr rfl et Tryz.underlying27 rfl size_24 rfl)) ?_
 refine s_gval (g_true rfl rfl rfl rfl) rfl (fun hc => (y_load1 (v := (vs a2 a1.Dims.length c1)) rfl (ev_gv et hc) Tryz.underlying24 rfl (hI.kblk (l := [(vs a2 a1.Dims.length c1)]) (.s .z) rfl).1)) ?_
 refine s_gval (g_true rfl rfl rfl rfl) rfl (fun hc => (y_fieldAddr rfl et Tryz.underlying27 rfl size_24 rfl)) ?_
 refine s_gval (g_true rfl rfl rfl rfl) rfl (fun hc => (y_load1 (v := (vs a4 b1.Dims.length c3)) rfl (ev_gv et hc) Tryz.underlying24 rfl (hI.kblk (l := [(vs a4 b1.Dims.length c3)]) .z rfl).1)) ?_
 obtain ⟨r1, hx1, h⟩ := bnd_some h
 replace hx1 := gd_some hx1
 refine s_gcallU (v := (vb r1)) (g_true rfl rfl rfl rfl) rfl (fun hc => (r_callF (vs := [(vs a2 a1.Dims.length c1), (vs a4 b1.Dims.length c3)]) rfl ok_50 ⟨(ev_gv et hc), ⟨(ev_gv et hc), trivial⟩⟩)) (fun hc => (c_base_Ints (Dj F c8) w2 hI.lt a1.Dims b1.Dims a2 c1 a4 c3 ⟨(hI.get (.s (.s .z))), (hI.get (.s (.s (.s (.s .z))))), trivial⟩ r1 (hx1 hc)).mono fun _ _ k => ⟨k.1, k.2.1⟩) ?_
 intro w3 hx2; replace hI := hI.ext hx2
 refine sq (y_and rfl et et) ?_
 refine sm ?_
 refine s_gval (g_true rfl rfl rfl rfl) rfl (fun hc => (y_fieldAddr rfl et Tryz.underlying27 rfl size_25 rfl)) ?_
 refine s_gval (g_true rfl rfl rfl rfl) rfl (fun hc => (y_load1 (v := (vs a3 a1.Vals.length c2)) rfl (ev_gv et hc) Tryz.underlying25 rfl (hI.kblk (l := [(vs a3 a1.Vals.length c2)]) (.s .z) rfl).1)) ?_
 refine s_gval (g_true rfl rfl rfl rfl) rfl (fun hc => (y_fieldAddr rfl et Tryz.underlying27 rfl size_25 rfl)) ?_
 refine s_gval (g_true rfl rfl rfl rfl) rfl (fun hc => (y_load1 (v := (vs a5 b1.Vals.length c4)) rfl (ev_gv et hc) Tryz.underlying25 rfl (hI.kblk (l := [(vs a5 b1.Vals.length c4)]) .z rfl).1)) ?_
 obtain ⟨r2, hx3, h⟩ := bnd_some h
 replace hx3 := gd_some hx3
 refine s_gcallU (v := (vb r2)) (g_true rfl rfl rfl rfl) rfl (fun hc => (r_callF (vs := [(vs a3 a1.Vals.length c2), (vs a5 b1.Vals.length c4)]) rfl ok_51 ⟨(ev_gv et hc), ⟨(ev_gv et hc), trivial⟩⟩)) (fun hc => (c_base_Vals (Dj F c8) w3 hI.lt a1.Vals b1.Vals a3 c2 a5 c4 ⟨(hI.get (.s (.s (.s .z)))), (hI.get (.s (.s (.s (.s (.s .z)))))), trivial⟩ r2 (hx3 hc)).mono fun _ _ k => ⟨k.1, k.2.1⟩) ?_
 intro w4 hx4; replace hI := hI.ext hx4
 refine sq (y_and rfl et et) ?_
 refine sa ?_
 refine nk ?_
 refine c_ret ?_
 obtain rfl := some_inj h
 exact q_ret (vs := [(vb ((((decide (a1.Type_.Kind = b1.Type_.Kind)) && (decide (a1.Type_.Bits = b1.Type_.Bits)) && (decide (a1.Type_.Frac = b1.Type_.Frac)) && (decide (a1.Type_.Round = b1.Type_.Round)) && (decide (a1.Type_.Over = b1.Type_.Over))) && r1) && r2))]) Tryz.results16 ⟨ev_tmp rfl rfl, trivial⟩ ⟨rfl, hI.ext0, hI.fin trivial⟩

set_option maxRecDepth 100000 in
set_option maxHeartbeats 4000000 in
theorem c_ref12_New (F : NP) (w0 : World) (hF : ∀ k, F k → k < w0.heap.size) (t1 : GType) (dims1 : List Int) (vals1 : List GVal) (a1 : Option Addr) (c1 : Nat) (a2 : Option Addr) (c2 : Nat) (hc : AllCl [Cl.sl (cInt .i64) a1 c1 dims1, Cl.sl cGVal a2 c2 vals1] F w0) (r : GTensor × Int)
  (h : m_ref12_New t1 dims1 vals1 = some r) :
  Calls Tryz.prog 22 #[(Value.agg #[(vi t1.Kind), (vi t1.Bits), (vi t1.Frac), (vi t1.Round), (vi t1.Over)]), (vs a1 dims1.length c1), (vs a2 vals1.length c2)] w0 fun e w => ∃ (a3 : Option Addr) (c3 : Nat) (a4 : Option Addr) (c4 : Nat), e = .returned (Value.tuple #[(Value.agg #[(vi r.1.Type_.Kind), (vi r.1.Type_.Bits), (vi r.1.Type_.Frac), (vi r.1.Type_.Round), (vi r.1.Type_.Over), (vs a3 r.1.Dims.length c3), (vs a4 r.1.Vals.length c4)]), (vi r.2)]) ∧ Ext w0 w ∧ AllCl [Cl.sl (cInt .i64) a3 c3 r.1.Dims, Cl.sl cGVal a4 c4 r.1.Vals] F w := by
 refine enterK (l := [(Value.agg #[(vi t1.Kind), (vi t1.Bits), (vi t1.Frac), (vi t1.Round), (vi t1.Over)]), (vs a1 dims1.length c1), (vs a2 vals1.length c2)]) Tryz.func22 rfl Tryz.ntmps22 rfl ?_
 have hI := Bun.start hF hc
 clear hc
 rw [m_ref12_New] at h
 refine sr ?_
 refine l_box (v := (Value.agg #[(vi t1.Kind), (vi t1.Bits), (vi t1.Frac), (vi t1.Round), (vi t1.Over)])) (cs := #[(vi t1.Kind), (vi t1.Bits), (vi t1.Frac), (vi t1.Round), (vi t1.Over)]) hI gn rfl rfl et rfl ?_
 clear hI; intro b1 c5 w1 hI
 obtain ⟨c6, hI⟩ := hI.relBox .z
 refine l_alloc (cs := #[(vi 0), (vi 0), (vi 0), (vi 0), (vi 0), (vs none 0 0), (vs none 0 0)]) hI gn rfl rfl zero_27 rfl ?_
 clear hI; intro b2 c7 w2 hI
 refine sac ?_
 refine nk ?_
 refine sr ?_
 refine sq (y_loadN (l := [(vi t1.Kind), (vi t1.Bits), (vi t1.Frac), (vi t1.Round), (vi t1.Over)]) rfl et Tryz.underlying23 rfl size_23 (hI.kblk (l := [(vi t1.Kind), (vi t1.Bits), (vi t1.Frac), (vi t1.Round), (vi t1.Over)]) .z rfl).1) ?_
 refine sm ?_
 refine sm ?_
 refine sq (y_build (vs := [(0, (Value.agg #[(vi t1.Kind), (vi t1.Bits), (vi t1.Frac), (vi t1.Round), (vi t1.Over)])), (1, (vs a1 dims1.length c1)), (2, (vs a2 vals1.length c2))]) (cs := #[(vi t1.Kind), (vi t1.Bits), (vi t1.Frac), (vi t1.Round), (vi t1.Over), (vs a1 dims1.length c1), (vs a2 vals1.length c2)]) rfl ⟨rfl, et, ⟨rfl, et, ⟨rfl, et, trivial⟩⟩⟩ (by kernel_rfl)) ?_
 refine l_alloc (cs := #[(vi 0), (vi 0), (vi 0), (vi 0), (vi 0), (vs none 0 0), (vs none 0 0)]) hI gn rfl rfl zero_27 rfl ?_
 clear hI; intro b3 c8 w3 hI
 refine l_store (new := [(vi t1.Kind), (vi t1.Bits), (vi t1.Frac), (vi t1.Round), (vi t1.Over), (vs a1 dims1.length c1), (vs a2 vals1.length c2)]) (cs' := #[(vi t1.Kind), (vi t1.Bits), (vi t1.Frac), (vi t1.Round), (vi t1.Over), (vs a1 dims1.length c1), (vs a2 vals1.length c2)]) hI .z gn rfl rfl et et rfl size_27 rfl rfl rfl ?_
 clear hI; intro c9 w4 hI
 refine nk ?_
 refine c_seq ?_
 refine sr ?_
 refine sq (y_loadN (l := [(vi t1.Kind), (vi t1.Bits), (vi t1.Frac), (vi t1.Round), (vi t1.Over), (vs a1 dims1.length c1), (vs a2 vals1.length c2)]) rfl et Tryz.underlying27 rfl size_27 (CellsAt.of_blk (hI.blk .z) rfl)) ?_
 obtain ⟨r1, hx1, h⟩ := bnd_some h
 refine s_call gn rfl (r_callF (vs := [(Value.agg #[(vi t1.Kind), (vi t1.Bits), (vi t1.Frac), (vi t1.Round), (vi t1.Over), (vs a1 dims1.length c1), (vs a2 vals1.length c2)])]) rfl ok_26 ⟨et, trivial⟩) (Calls.mono (c_ref12_Validate (Dj F c9) w4 hI.lt (⟨t1, dims1, vals1⟩ : GTensor) a1 c1 a2 c2 ⟨(hI.get (.s .z)), (hI.get (.s (.s .z))), trivial⟩ r1 hx1) ?_)
 rintro _ w5 ⟨rfl, hx2, hl1⟩
 refine ⟨_, rfl, ?_⟩
 replace hI := (hI.ext hx2)
 refine sa ?_
 refine nk ?_
 refine sr ?_
 refine sm ?_
 refine sq (y_neq rfl et ev_const) ?_
 refine nk ?_
 refine c_cond (b := !decide (r1 = 0)) et (fun hb => ?_) (fun hb => ?_)
 ·replace h := ite_t hb h
  refine sr ?_
  refine sq (y_build (vs := []) (cs := #[(vi 0), (vi 0), (vi 0), (vi 0), (vi 0), (vs none 0 0), (vs none 0 0)]) rfl trivial (by kernel_rfl)) ?_
  refine sm ?_
  refine l_store (new := [(vi 0), (vi 0), (vi 0), (vi 0), (vi 0), (vs none 0 0), (vs none 0 0)]) (cs' := #[(vi 0), (vi 0), (vi 0), (vi 0), (vi 0), (vs none 0 0), (vs none 0 0)]) hI (.s .z) gn rfl rfl et et rfl size_27 rfl rfl rfl ?_
  clear hI; intro c10 w6 hI
  refine sa ?_
  refine nk ?_
  refine c_ret ?_
  have hI := hI.add (c := Cl.sl (cInt .i64) none 0 ([] : List Int)) SlC.nil
  have hI := hI.add (c := Cl.sl cGVal none 0 ([] : List GVal)) SlC.nil
  obtain rfl := some_inj h
  exact q_ret (vs := [(Value.agg #[(vi 0), (vi 0), (vi 0), (vi 0), (vi 0), (vs none 0 0), (vs none 0 0)]), (vi r1)]) Tryz.results22 ⟨⟨_, ev_tmp rfl rfl, load_agg (l := [(vi 0), (vi 0), (vi 0), (vi 0), (vi 0), (vs none 0 0), (vs none 0 0)]) Tryz.underlying27 rfl size_27 (CellsAt.of_blk (hI.blk (.s .z)) rfl)⟩, ⟨ev_tmp rfl rfl, trivial⟩⟩ ⟨none, 0, none, 0, rfl, hI.ext0, hI.fin ⟨(.s .z), .z, trivial⟩⟩
 ·replace h := ite_f hb h
  refine c_skip ?_
  refine k_same ?_
  refine sr ?_
  refine sq (y_loadN (l := [(vi t1.Kind), (vi t1.Bits), (vi t1.Frac), (vi t1.Round), (vi t1.Over), (vs a1 dims1.length c1), (vs a2 vals1.length c2)]) rfl et Tryz.underlying27 rfl size_27 (CellsAt.of_blk (hI.blk .z) rfl)) ?_
  refine l_store (new := [(vi t1.Kind), (vi t1.Bits), (vi t1.Frac), (vi t1.Round), (vi t1.Over), (vs a1 dims1.length c1), (vs a2 vals1.length c2)]) (cs' := #[(vi t1.Kind), (vi t1.Bits), (vi t1.Frac), (vi t1.Round), (vi t1.Over), (vs a1 dims1.length c1), (vs a2 vals1.length c2)]) hI (.s .z) gn rfl rfl et et rfl size_27 rfl rfl rfl ?_
  clear hI; intro c11 w7 hI
  refine sac ?_
  refine nk ?_
  refine c_ret ?_
  obtain rfl := some_inj h
  exact q_ret (vs := [(Value.agg #[(vi t1.Kind), (vi t1.Bits), (vi t1.Frac), (vi t1.Round), (vi t1.Over), (vs a1 dims1.length c1), (vs a2 vals1.length c2)]), (vi 0)]) Tryz.results22 ⟨⟨_, ev_tmp rfl rfl, load_agg (l := [(vi t1.Kind), (vi t1.Bits), (vi t1.Frac), (vi t1.Round), (vi t1.Over), (vs a1 dims1.length c1), (vs a2 vals1.length c2)]) Tryz.underlying27 rfl size_27 (CellsAt.of_blk (hI.blk (.s .z)) rfl)⟩, ⟨ev_tmp rfl rfl, trivial⟩⟩ ⟨a1, c1, a2, c2, rfl, hI.ext0, hI.fin ⟨(.s .z), (.s (.s .z)), trivial⟩⟩

def tr_tensor_Full_1_0 : Tr := (.c (5, .s) .n)
set_option maxRecDepth 100000 in
set_option maxHeartbeats 4000000 in
theorem c_tensor_Full (F : NP) (w0 : World) (hF : ∀ k, F k → k < w0.heap.size) (t1 : GType) (dims1 : List Int) (v1 : GVal) (a1 : Option Addr) (c1 : Nat) (hc : AllCl [Cl.sl (cInt .i64) a1 c1 dims1] F w0) (r : GTensor × Int)
  (h : m_tensor_Full t1 dims1 v1 = some r) :
  Calls Tryz.prog 23 #[(Value.agg #[(vi t1.Kind), (vi t1.Bits), (vi t1.Frac), (vi t1.Round), (vi t1.Over)]), (vs a1 dims1.length c1), (Value.agg #[(vi v1.N), (vi v1.D)])] w0 fun e w => ∃ (a2 : Option Addr) (c2 : Nat) (a3 : Option Addr) (c3 : Nat), e = .returned (Value.tuple #[(Value.agg #[(vi r.1.Type_.Kind), (vi r.1.Type_.Bits), (vi r.1.Type_.Frac), (vi r.1.Type_.Round), (vi r.1.Type_.Over), (vs a2 r.1.Dims.length c2), (vs a3 r.1.Vals.length c3)]), (vi r.2)]) ∧ Ext w0 w ∧ AllCl [Cl.sl (cInt .i64) a2 c2 r.1.Dims, Cl.sl cGVal a3 c3 r.1.Vals] F w := by
 refine enterK (l := [(Value.agg #[(vi t1.Kind), (vi t1.Bits), (vi t1.Frac), (vi t1.Round), (vi t1.Over)]), (vs a1 dims1.length c1), (Value.agg #[(vi v1.N), (vi v1.D)])]) Tryz.func23 rfl Tryz.ntmps23 rfl ?_
 have hI := Bun.start hF hc
 clear hc
 rw [m_tensor_Full] at h
 refine sr ?_
 refine l_box (v := (Value.agg #[(vi t1.Kind), (vi t1.Bits), (vi t1.Frac), (vi t1.Round), (vi t1.Over)])) (cs := #[(vi t1.Kind), (vi t1.Bits), (vi t1.Frac), (vi t1.Round), (vi t1.Over)]) hI gn rfl rfl et rfl ?_
 clear hI; intro b1 c4 w1 hI
 obtain ⟨c5, hI⟩ := hI.relBox .z
 refine l_box (v := (Value.agg #[(vi v1.N), (vi v1.D)])) (cs := #[(vi v1.N), (vi v1.D)]) hI gn rfl rfl et rfl ?_
 clear hI; intro b2 c6 w2 hI
 obtain ⟨c7, hI⟩ := hI.relBox .z
 refine l_alloc (cs := #[(vi 0), (vi 0), (vi 0), (vi 0), (vi 0), (vs none 0 0), (vs none 0 0)]) hI gn rfl rfl zero_27 rfl ?_
 clear hI; intro b3 c8 w3 hI
 refine sac ?_
 refine nk ?_
 refine c_seq ?_
 refine sr ?_
 refine sq (y_loadN (l := [(vi t1.Kind), (vi t1.Bits), (vi t1.Frac), (vi t1.Round), (vi t1.Over)]) rfl et Tryz.underlying23 rfl size_23 (hI.kblk (l := [(vi t1.Kind), (vi t1.Bits), (vi t1.Frac), (vi t1.Round), (vi t1.Over)]) (.s .z) rfl).1) ?_
 obtain ⟨r1, hx1, h⟩ := bnd_some h
 refine s_call gn rfl (r_callF (vs := [(Value.agg #[(vi t1.Kind), (vi t1.Bits), (vi t1.Frac), (vi t1.Round), (vi t1.Over)])]) rfl ok_57 ⟨et, trivial⟩) (Calls.mono (c_value_ValidateType (Dj F c8) w3 hI.lt t1 trivial r1 hx1) ?_)
 rintro _ w4 ⟨rfl, hx2, hl1⟩
 refine ⟨_, rfl, ?_⟩
 replace hI := (hI.ext hx2)
 refine sa ?_
 refine nk ?_
 refine sr ?_
 refine sm ?_
 refine sq (y_neq rfl et ev_const) ?_
 refine nk ?_
 refine c_cond (b := !decide (r1 = 0)) et (fun hb => ?_) (fun hb => ?_)
 ·replace h := ite_t hb h
  refine sr ?_
  refine sq (y_build (vs := []) (cs := #[(vi 0), (vi 0), (vi 0), (vi 0), (vi 0), (vs none 0 0), (vs none 0 0)]) rfl trivial (by kernel_rfl)) ?_
  refine sm ?_
  refine l_store (new := [(vi 0), (vi 0), (vi 0), (vi 0), (vi 0), (vs none 0 0), (vs none 0 0)]) (cs' := #[(vi 0), (vi 0), (vi 0), (vi 0), (vi 0), (vs none 0 0), (vs none 0 0)]) hI .z gn rfl rfl et et rfl size_27 rfl rfl rfl ?_
  clear hI; intro c9 w5 hI
  refine sa ?_
  refine nk ?_
  refine c_ret ?_
  have hI := hI.add (c := Cl.sl (cInt .i64) none 0 ([] : List Int)) SlC.nil
  have hI := hI.add (c := Cl.sl cGVal none 0 ([] : List GVal)) SlC.nil
  obtain rfl := some_inj h
  exact q_ret (vs := [(Value.agg #[(vi 0), (vi 0), (vi 0), (vi 0), (vi 0), (vs none 0 0), (vs none 0 0)]), (vi r1)]) Tryz.results23 ⟨⟨_, ev_tmp rfl rfl, load_agg (l := [(vi 0), (vi 0), (vi 0), (vi 0), (vi 0), (vs none 0 0), (vs none 0 0)]) Tryz.underlying27 rfl size_27 (CellsAt.of_blk (hI.blk .z) rfl)⟩, ⟨ev_tmp rfl rfl, trivial⟩⟩ ⟨none, 0, none, 0, rfl, hI.ext0, hI.fin ⟨(.s .z), .z, trivial⟩⟩
 ·replace h := ite_f hb h
  refine c_skip ?_
  refine k_same ?_
  refine c_seq ?_
  refine sr ?_
  refine sm ?_
  obtain ⟨r2, hx3, h⟩ := bnd_some h
  refine s_call gn rfl (r_callF (vs := [(vs a1 dims1.length c1)]) rfl ok_58 ⟨et, trivial⟩) (Calls.mono (c_shape_Validate (Dj F c8) w4 hI.lt dims1 a1 c1 ⟨(hI.get (.s (.s .z))), trivial⟩ r2 hx3) ?_)
  rintro _ w6 ⟨rfl, hx4, hl2⟩
  refine ⟨_, rfl, ?_⟩
  replace hI := (hI.ext hx4)
  refine sa ?_
  refine nk ?_
  refine sr ?_
  refine sm ?_
  refine sq (y_neq rfl et ev_const) ?_
  refine nk ?_
  refine c_cond (b := !decide (r2 = 0)) et (fun hb => ?_) (fun hb => ?_)
  ·replace h := ite_t hb h
   refine sr ?_
   refine sq (y_build (vs := []) (cs := #[(vi 0), (vi 0), (vi 0), (vi 0), (vi 0), (vs none 0 0), (vs none 0 0)]) rfl trivial (by kernel_rfl)) ?_
   refine sm ?_
   refine l_store (new := [(vi 0), (vi 0), (vi 0), (vi 0), (vi 0), (vs none 0 0), (vs none 0 0)]) (cs' := #[(vi 0), (vi 0), (vi 0), (vi 0), (vi 0), (vs none 0 0), (vs none 0 0)]) hI .z gn rfl rfl et et rfl size_27 rfl rfl rfl ?_
   clear hI; intro c10 w7 hI
   refine sa ?_
   refine nk ?_
   refine c_ret ?_
   have hI := hI.add (c := Cl.sl (cInt .i64) none 0 ([] : List Int)) SlC.nil
   have hI := hI.add (c := Cl.sl cGVal none 0 ([] : List GVal)) SlC.nil
   obtain rfl := some_inj h
   exact q_ret (vs := [(Value.agg #[(vi 0), (vi 0), (vi 0), (vi 0), (vi 0), (vs none 0 0), (vs none 0 0)]), (vi r2)]) Tryz.results23 ⟨⟨_, ev_tmp rfl rfl, load_agg (l := [(vi 0), (vi 0), (vi 0), (vi 0), (vi 0), (vs none 0 0), (vs none 0 0)]) Tryz.underlying27 rfl size_27 (CellsAt.of_blk (hI.blk .z) rfl)⟩, ⟨ev_tmp rfl rfl, trivial⟩⟩ ⟨none, 0, none, 0, rfl, hI.ext0, hI.fin ⟨(.s .z), .z, trivial⟩⟩
  ·replace h := ite_f hb h
   refine c_skip ?_
   refine k_same ?_
   refine c_seq ?_
   refine sr ?_
   refine sq (y_loadN (l := [(vi t1.Kind), (vi t1.Bits), (vi t1.Frac), (vi t1.Round), (vi t1.Over)]) rfl et Tryz.underlying23 rfl size_23 (hI.kblk (l := [(vi t1.Kind), (vi t1.Bits), (vi t1.Frac), (vi t1.Round), (vi t1.Over)]) (.s .z) rfl).1) ?_
   refine sq (y_loadN (l := [(vi v1.N), (vi v1.D)]) rfl et Tryz.underlying36 rfl size_36 (hI.kblk (l := [(vi v1.N), (vi v1.D)]) .z rfl).1) ?_
   obtain ⟨r3, hx5, h⟩ := bnd_some h
   refine s_call gn rfl (r_callF (vs := [(Value.agg #[(vi t1.Kind), (vi t1.Bits), (vi t1.Frac), (vi t1.Round), (vi t1.Over)]), (Value.agg #[(vi v1.N), (vi v1.D)])]) rfl ok_54 ⟨et, ⟨et, trivial⟩⟩) (Calls.mono (c_value_Valid (Dj F c8) w6 hI.lt t1 v1 trivial r3 hx5) ?_)
   rintro _ w8 ⟨rfl, hx6, hl3⟩
   refine ⟨_, rfl, ?_⟩
   replace hI := (hI.ext hx6)
   refine sq (y_not rfl et) ?_
   refine nk ?_
   refine c_cond (b := !r3) et (fun hb => ?_) (fun hb => ?_)
   ·replace h := ite_t hb h
    refine sr ?_
    refine sq (y_build (vs := []) (cs := #[(vi 0), (vi 0), (vi 0), (vi 0), (vi 0), (vs none 0 0), (vs none 0 0)]) rfl trivial (by kernel_rfl)) ?_
    refine l_store (new := [(vi 0), (vi 0), (vi 0), (vi 0), (vi 0), (vs none 0 0), (vs none 0 0)]) (cs' := #[(vi 0), (vi 0), (vi 0), (vi 0), (vi 0), (vs none 0 0), (vs none 0 0)]) hI .z gn rfl rfl et et rfl size_27 rfl rfl rfl ?_
    clear hI; intro c11 w9 hI
    refine sac ?_
    refine nk ?_
    refine c_ret ?_
    have hI := hI.add (c := Cl.sl (cInt .i64) none 0 ([] : List Int)) SlC.nil
    have hI := hI.add (c := Cl.sl cGVal none 0 ([] : List GVal)) SlC.nil
    obtain rfl := some_inj h
    exact q_ret (vs := [(Value.agg #[(vi 0), (vi 0), (vi 0), (vi 0), (vi 0), (vs none 0 0), (vs none 0 0)]), (vi 1)]) Tryz.results23 ⟨⟨_, ev_tmp rfl rfl, load_agg (l := [(vi 0), (vi 0), (vi 0), (vi 0), (vi 0), (vs none 0 0), (vs none 0 0)]) Tryz.underlying27 rfl size_27 (CellsAt.of_blk (hI.blk .z) rfl)⟩, ⟨ev_tmp rfl rfl, trivial⟩⟩ ⟨none, 0, none, 0, rfl, hI.ext0, hI.fin ⟨(.s .z), .z, trivial⟩⟩
   ·replace h := ite_f hb h
    refine c_skip ?_
    refine k_same ?_
    refine c_seq ?_
    obtain ⟨zs1, hx7, h⟩ := bnd_some h
    refine c_drawX [5] false (.c (0, .q) (.c (1, .q) (.two 2 (.c (3, .q) (.c (4, .s) tr_tensor_Full_1_0)) 4 (.c (2, .s) (.c (3, .q) tr_tensor_Full_1_0))))) hI (by kernel_rfl) (by kernel_rfl) ?_
    clear hI; intro w14 hI
    refine a_join (α := (Option Addr) × Nat × Nat × NP) (T := tr_tensor_Full_1_0) (fun x => [(0, (Value.agg #[(vi t1.Kind), (vi t1.Bits), (vi t1.Frac), (vi t1.Round), (vi t1.Over)])), (1, (vs a1 dims1.length c1)), (2, (Value.agg #[(vi v1.N), (vi v1.D)])), (3, (vp b1 0)), (5, (vp b2 0)), (6, (vp b3 0)), (7, (vi 0)), (8, (vi r1)), (9, (vi r2)), (10, (Value.pointer (some ⟨(x.2.2.1), 0, none⟩))), (11, (Value.agg #[(vi t1.Kind), (vi t1.Bits), (vi t1.Frac), (vi t1.Round), (vi t1.Over)])), (12, (vi r1)), (13, (vi r1)), (14, (vb (!decide (r1 = 0)))), (17, (vs a1 dims1.length c1)), (18, (vi r2)), (19, (vi r2)), (20, (vb (!decide (r2 = 0)))), (23, (Value.agg #[(vi t1.Kind), (vi t1.Bits), (vi t1.Frac), (vi t1.Round), (vi t1.Over)])), (24, (Value.agg #[(vi v1.N), (vi v1.D)])), (25, (vb r3)), (26, (vb (!r3))), (28, (Value.agg #[(vi t1.Kind), (vi t1.Bits), (vi t1.Frac), (vi t1.Round), (vi t1.Over)])), (29, (vs a1 dims1.length c1)), (30, (vs (x.1) zs1.length (x.2.1))), (31, (Value.agg #[(vi t1.Kind), (vi t1.Bits), (vi t1.Frac), (vi t1.Round), (vi t1.Over), (vs (x.1) zs1.length (x.2.1)), (vs none 0 0)]))]) (fun x w => Bun noM F w0 (x.2.2.2) w [MO.row (cInt .i64) 3 (x.1) (x.2.1) zs1, MO.box (x.2.2.1) 27 #[(vi 0), (vi 0), (vi 0), (vi 0), (vi 0), (vs none 0 0), (vs none 0 0)], MO.box b3 27 #[(vi 0), (vi 0), (vi 0), (vi 0), (vi 0), (vs none 0 0), (vs none 0 0)]] [Cl.blk b2 36 #[(vi v1.N), (vi v1.D)], Cl.blk b1 23 #[(vi t1.Kind), (vi t1.Bits), (vi t1.Frac), (vi t1.Round), (vi t1.Over)], Cl.sl (cInt .i64) a1 c1 dims1]) (fun x w => SN [5] (DM false F (x.2.2.2)) w) ?_ ?_
    ·clear hI; rintro ⟨a4, c12, b4, c16⟩ w13 hI
     try dsimp only at hI ⊢
     unfold tr_tensor_Full_1_0
     refine a_turn (F := F) (C := c16) rfl rfl ?_
     refine la_store (new := [(vi t1.Kind), (vi t1.Bits), (vi t1.Frac), (vi t1.Round), (vi t1.Over), (vs a4 zs1.length c12), (vs none 0 0)]) (cs' := #[(vi t1.Kind), (vi t1.Bits), (vi t1.Frac), (vi t1.Round), (vi t1.Over), (vs a4 zs1.length c12), (vs none 0 0)]) hI (.s .z) rfl gn rfl rfl et et rfl size_27 rfl rfl rfl ?_
     clear hI; intro c15 w12 hI
     refine a_nil ?_
     refine k_same ?_
     refine c_seq ?_
     refine sr ?_
     refine sm ?_
     obtain ⟨r4, hx8, h⟩ := bnd_some h
     refine s_call gn rfl (r_callF (vs := [(vs a1 dims1.length c1)]) rfl ok_59 ⟨et, trivial⟩) (Calls.mono (c_shape_Size (Dj F c15) w12 hI.lt dims1 a1 c1 ⟨(hI.get (.s (.s .z))), trivial⟩ r4 hx8) ?_)
     rintro _ w15 ⟨rfl, hx9, hl4⟩
     refine ⟨_, rfl, ?_⟩
     replace hI := (hI.ext hx9)
     refine sq (y_move rfl ev_const) ?_
     refine s_nil ?_
     refine k_next (e := [(5, (vp b2 0)), (6, (vp b3 0)), (10, (vp b4 0)), (33, (vi r4)), (34, (vi 0))]) ⟨rfl, rfl, rfl, rfl, rfl, trivial⟩ ?_
     refine c_block ?_
     have hI := hI.nil cGVal 36 none
     refine c_loop (α := Nat × Int × GTensor × (Option Addr) × Nat × (Option Addr) × Nat) (fun x => fun w => ∃ C, Bun noM F w0 C w [MO.row (cInt .i64) 3 (x.2.2.2.1) (x.2.2.2.2.1) (x.2.2.1).Dims, MO.row cGVal 36 (x.2.2.2.2.2.1) (x.2.2.2.2.2.2) (x.2.2.1).Vals, MO.box b3 27 #[(vi 0), (vi 0), (vi 0), (vi 0), (vi 0), (vs none 0 0), (vs none 0 0)], MO.box b4 27 #[(vi (x.2.2.1).Type_.Kind), (vi (x.2.2.1).Type_.Bits), (vi (x.2.2.1).Type_.Frac), (vi (x.2.2.1).Type_.Round), (vi (x.2.2.1).Type_.Over), (vs (x.2.2.2.1) (x.2.2.1).Dims.length (x.2.2.2.2.1)), (vs (x.2.2.2.2.2.1) (x.2.2.1).Vals.length (x.2.2.2.2.2.2))]] [Cl.blk b2 36 #[(vi v1.N), (vi v1.D)]] ∧ m_tensor_Full_l1 r4 v1 (x.1) (x.2.1) (x.2.2.1) = some r) (fun x _ => x.1) (fun x => [(5, (vp b2 0)), (6, (vp b3 0)), (10, (vp b4 0)), (33, (vi r4)), (34, (vi (x.2.1)))]) (fu, 0, (⟨t1, zs1, ([] : List GVal)⟩ : GTensor), a4, c12, none, 0) ⟨_, hI.arr (.c (.s .z) (.c .z (.c (.s .z) (.c .z .n)))) ⟨.z, trivial⟩, h⟩ ⟨rfl, rfl, rfl, rfl, rfl, trivial⟩ ?_
     clear h hI; rintro ⟨fuel1, i1, out1, a5, c17, a6, c18⟩ w16 ⟨c19, hI, h⟩
     dsimp only at hI h
     rcases fuel1 with _ | fuel1
     ·rw [m_tensor_Full_l1] at h; cases h
     rw [m_tensor_Full_l1] at h
     refine c_sub (e := [(5, (vp b2 0)), (6, (vp b3 0)), (10, (vp b4 0)), (33, (vi r4)), (34, (vi i1))]) ⟨rfl, rfl, rfl, rfl, rfl, trivial⟩ ?_
     refine sr ?_
     refine sq (y_lss rfl et et) ?_
     refine nk ?_
     refine c_seq ?_
     refine c_cond (b := decide (i1 < r4)) et (fun hb => ?_) (fun hb => ?_)
     ·replace h := ite_t hb h
      refine c_skip ?_
      refine k_same ?_
      refine c_seq ?_
      refine c_block ?_
      refine c_region rfl ?_
      refine sq (y_fieldAddr rfl et Tryz.underlying27 rfl size_25 rfl) ?_
      refine sq (y_load1 (v := (vs a6 out1.Vals.length c18)) rfl et Tryz.underlying25 rfl (CellsAt.of_blk (hI.blk (.s (.s (.s .z)))) rfl)) ?_
      refine sq (y_loadN (l := [(vi v1.N), (vi v1.D)]) rfl et Tryz.underlying36 rfl size_36 (hI.kblk (l := [(vi v1.N), (vi v1.D)]) .z rfl).1) ?_
      refine l_lit (c := cGVal) (xs := ([v1] : List GVal)) (vs := [(0, (Value.agg #[(vi v1.N), (vi v1.D)]))]) (cs := #[(vi v1.N), (vi v1.D)]) (css := [[(vi v1.N), (vi v1.D)]]) hI gn rfl rfl Tryz.underlying25 info_36 rfl ⟨rfl, et, trivial⟩ (by kernel_rfl) ⟨rfl, trivial⟩ rfl rfl rfl ?_
      clear hI; intro b5 c20 w17 hI
      obtain ⟨zs2, hx10, h⟩ := bnd_some h
      refine l_append (xs := out1.Vals) (ys := ([v1] : List GVal)) hI (.s (.s .z)) (hI.rd .z) hx10 gn rfl rfl Tryz.underlying25 info_36 rfl rfl et et ?_
      clear hI; intro a7 c21 c22 w18 hI
      refine sq (y_fieldAddr rfl et Tryz.underlying27 rfl size_25 rfl) ?_
      refine l_store (new := [(vs a7 zs2.length c21)]) (cs' := #[(vi out1.Type_.Kind), (vi out1.Type_.Bits), (vi out1.Type_.Frac), (vi out1.Type_.Round), (vi out1.Type_.Over), (vs a5 out1.Dims.length c17), (vs a7 zs2.length c21)]) hI (.s (.s (.s (.s .z)))) gn rfl rfl et et rfl size_25 rfl rfl rfl ?_
      clear hI; intro c23 w19 hI
      refine nk ?_
      refine c_region rfl ?_
      refine sq (y_add rfl et ev_const) ?_
      refine sm ?_
      refine s_nil ?_
      exact k_loop (fuel1, wi64 (i1 + 1), (⟨out1.Type_, out1.Dims, zs2⟩ : GTensor), a5, c17, a7, c21) ⟨rfl, rfl, rfl, rfl, rfl, trivial⟩ ⟨_, hI.arr (.c (.s .z) (.c (.s .z) (.c (.s .z) (.c (.s .z) .n)))) ⟨.z, trivial⟩, h⟩ (Nat.lt_succ_self _)
     ·replace h := ite_f hb h
      refine c_exit ?_
      refine k_in ?_
      refine k_same ?_
      refine sr ?_
      refine sq (y_loadN (l := [(vi out1.Type_.Kind), (vi out1.Type_.Bits), (vi out1.Type_.Frac), (vi out1.Type_.Round), (vi out1.Type_.Over), (vs a5 out1.Dims.length c17), (vs a6 out1.Vals.length c18)]) rfl et Tryz.underlying27 rfl size_27 (CellsAt.of_blk (hI.blk (.s (.s (.s .z)))) rfl)) ?_
      refine l_store (new := [(vi out1.Type_.Kind), (vi out1.Type_.Bits), (vi out1.Type_.Frac), (vi out1.Type_.Round), (vi out1.Type_.Over), (vs a5 out1.Dims.length c17), (vs a6 out1.Vals.length c18)]) (cs' := #[(vi out1.Type_.Kind), (vi out1.Type_.Bits), (vi out1.Type_.Frac), (vi out1.Type_.Round), (vi out1.Type_.Over), (vs a5 out1.Dims.length c17), (vs a6 out1.Vals.length c18)]) hI (.s (.s .z)) gn rfl rfl et et rfl size_27 rfl rfl rfl ?_
      clear hI; intro c24 w20 hI
      refine sac ?_
      refine nk ?_
      refine c_ret ?_
      obtain ⟨c25, hI⟩ := hI.release .z
      obtain ⟨c26, hI⟩ := hI.release .z
      obtain rfl := some_inj h
      exact q_ret (vs := [(Value.agg #[(vi out1.Type_.Kind), (vi out1.Type_.Bits), (vi out1.Type_.Frac), (vi out1.Type_.Round), (vi out1.Type_.Over), (vs a5 out1.Dims.length c17), (vs a6 out1.Vals.length c18)]), (vi 0)]) Tryz.results23 ⟨⟨_, ev_tmp rfl rfl, load_agg (l := [(vi out1.Type_.Kind), (vi out1.Type_.Bits), (vi out1.Type_.Frac), (vi out1.Type_.Round), (vi out1.Type_.Over), (vs a5 out1.Dims.length c17), (vs a6 out1.Vals.length c18)]) Tryz.underlying27 rfl size_27 (CellsAt.of_blk (hI.blk .z) rfl)⟩, ⟨ev_tmp rfl rfl, trivial⟩⟩ ⟨a5, c17, a6, c18, rfl, hI.ext0, hI.fin ⟨(.s .z), .z, trivial⟩⟩
    intro hk_tr_tensor_Full_1_0
    refine a_read rfl gn rfl (fun w' hw' => (y_loadN (l := [(vi t1.Kind), (vi t1.Bits), (vi t1.Frac), (vi t1.Round), (vi t1.Over)]) rfl et Tryz.underlying23 rfl size_23 ((hI.kblk (l := [(vi t1.Kind), (vi t1.Bits), (vi t1.Frac), (vi t1.Round), (vi t1.Over)]) (.s .z) rfl).at_ (SX.any rfl hw')))) (by kernel_rfl) ?_
    refine a_q rfl gn rfl (fun w' => (y_move rfl et)) ?_
    refine a_two ?_ ?_
    ·skip
     replace hI := hI.nil (cInt .i64) 3 none
     refine la_appendX (ys := dims1) hI .z (hI.crd (.s (.s .z))) hx7 rfl gn rfl rfl Tryz.underlying24 info_3 rfl rfl ev_const et ?_
     clear hI; intro a4 c12 c13 w10 hI
     refine a_q rfl gn rfl (fun w' => (y_build (vs := [(0, (Value.agg #[(vi t1.Kind), (vi t1.Bits), (vi t1.Frac), (vi t1.Round), (vi t1.Over)])), (1, (vs a4 zs1.length c12))]) (cs := #[(vi t1.Kind), (vi t1.Bits), (vi t1.Frac), (vi t1.Round), (vi t1.Over), (vs a4 zs1.length c12), (vs none 0 0)]) rfl ⟨rfl, et, ⟨rfl, et, trivial⟩⟩ (by kernel_rfl))) ?_
     refine la_alloc (cs := #[(vi 0), (vi 0), (vi 0), (vi 0), (vi 0), (vs none 0 0), (vs none 0 0)]) hI rfl gn rfl rfl zero_27 rfl ?_
     clear hI; intro b4 c14 w11 hI
     exact a_sub (hk_tr_tensor_Full_1_0 (a4, c12, b4, c14) _ (hI.arr (.c (.s .z) (.c .z (.c .z .n))) ⟨.z, (.s .z), (.s (.s .z)), trivial⟩)) ⟨rfl, rfl, rfl, rfl, rfl, rfl, rfl, rfl, rfl, rfl, rfl, rfl, rfl, rfl, rfl, rfl, rfl, rfl, rfl, rfl, rfl, rfl, rfl, rfl, rfl, rfl, trivial⟩
    ·skip
     refine la_alloc (cs := #[(vi 0), (vi 0), (vi 0), (vi 0), (vi 0), (vs none 0 0), (vs none 0 0)]) hI rfl gn rfl rfl zero_27 rfl ?_
     clear hI; intro b4 c14 w11 hI
     replace hI := hI.nil (cInt .i64) 3 none
     refine la_appendX (ys := dims1) hI .z (hI.crd (.s (.s .z))) hx7 rfl gn rfl rfl Tryz.underlying24 info_3 rfl rfl ev_const et ?_
     clear hI; intro a4 c12 c13 w10 hI
     refine a_q rfl gn rfl (fun w' => (y_build (vs := [(0, (Value.agg #[(vi t1.Kind), (vi t1.Bits), (vi t1.Frac), (vi t1.Round), (vi t1.Over)])), (1, (vs a4 zs1.length c12))]) (cs := #[(vi t1.Kind), (vi t1.Bits), (vi t1.Frac), (vi t1.Round), (vi t1.Over), (vs a4 zs1.length c12), (vs none 0 0)]) rfl ⟨rfl, et, ⟨rfl, et, trivial⟩⟩ (by kernel_rfl))) ?_
     exact a_sub (hk_tr_tensor_Full_1_0 (a4, c12, b4, c13) _ (hI.arr (.c .z (.c .z (.c .z .n))) ⟨.z, (.s .z), (.s (.s .z)), trivial⟩)) ⟨rfl, rfl, rfl, rfl, rfl, rfl, rfl, rfl, rfl, rfl, rfl, rfl, rfl, rfl, rfl, rfl, rfl, rfl, rfl, rfl, rfl, rfl, rfl, rfl, rfl, rfl, trivial⟩

set_option maxRecDepth 100000 in
set_option maxHeartbeats 4000000 in
theorem c_ref12_Full (F : NP) (w0 : World) (hF : ∀ k, F k → k < w0.heap.size) (t1 : GType) (dims1 : List Int) (v1 : GVal) (a1 : Option Addr) (c1 : Nat) (hc : AllCl [Cl.sl (cInt .i64) a1 c1 dims1] F w0) (r : GTensor × Int)
  (h : m_ref12_Full t1 dims1 v1 = some r) :
  Calls Tryz.prog 24 #[(Value.agg #[(vi t1.Kind), (vi t1.Bits), (vi t1.Frac), (vi t1.Round), (vi t1.Over)]), (vs a1 dims1.length c1), (Value.agg #[(vi v1.N), (vi v1.D)])] w0 fun e w => ∃ (a2 : Option Addr) (c2 : Nat) (a3 : Option Addr) (c3 : Nat), e = .returned (Value.tuple #[(Value.agg #[(vi r.1.Type_.Kind), (vi r.1.Type_.Bits), (vi r.1.Type_.Frac), (vi r.1.Type_.Round), (vi r.1.Type_.Over), (vs a2 r.1.Dims.length c2), (vs a3 r.1.Vals.length c3)]), (vi r.2)]) ∧ Ext w0 w ∧ AllCl [Cl.sl (cInt .i64) a2 c2 r.1.Dims, Cl.sl cGVal a3 c3 r.1.Vals] F w := by
 refine enterK (l := [(Value.agg #[(vi t1.Kind), (vi t1.Bits), (vi t1.Frac), (vi t1.Round), (vi t1.Over)]), (vs a1 dims1.length c1), (Value.agg #[(vi v1.N), (vi v1.D)])]) Tryz.func24 rfl Tryz.ntmps24 rfl ?_
 have hI := Bun.start hF hc
 clear hc
 rw [m_ref12_Full] at h
 refine sr ?_
 refine l_box (v := (Value.agg #[(vi t1.Kind), (vi t1.Bits), (vi t1.Frac), (vi t1.Round), (vi t1.Over)])) (cs := #[(vi t1.Kind), (vi t1.Bits), (vi t1.Frac), (vi t1.Round), (vi t1.Over)]) hI gn rfl rfl et rfl ?_
 clear hI; intro b1 c4 w1 hI
 obtain ⟨c5, hI⟩ := hI.relBox .z
 refine l_box (v := (Value.agg #[(vi v1.N), (vi v1.D)])) (cs := #[(vi v1.N), (vi v1.D)]) hI gn rfl rfl et rfl ?_
 clear hI; intro b2 c6 w2 hI
 obtain ⟨c7, hI⟩ := hI.relBox .z
 refine l_alloc (cs := #[(vi 0), (vi 0), (vi 0), (vi 0), (vi 0), (vs none 0 0), (vs none 0 0)]) hI gn rfl rfl zero_27 rfl ?_
 clear hI; intro b3 c8 w3 hI
 refine sac ?_
 refine nk ?_
 refine c_seq ?_
 refine sr ?_
 refine sq (y_loadN (l := [(vi t1.Kind), (vi t1.Bits), (vi t1.Frac), (vi t1.Round), (vi t1.Over)]) rfl et Tryz.underlying23 rfl size_23 (hI.kblk (l := [(vi t1.Kind), (vi t1.Bits), (vi t1.Frac), (vi t1.Round), (vi t1.Over)]) (.s .z) rfl).1) ?_
 obtain ⟨r1, hx1, h⟩ := bnd_some h
 refine s_call gn rfl (r_callF (vs := [(Value.agg #[(vi t1.Kind), (vi t1.Bits), (vi t1.Frac), (vi t1.Round), (vi t1.Over)])]) rfl ok_60 ⟨et, trivial⟩) (Calls.mono (c_base_Type (Dj F c8) w3 hI.lt t1 trivial r1 hx1) ?_)
 rintro _ w4 ⟨rfl, hx2, hl1⟩
 refine ⟨_, rfl, ?_⟩
 replace hI := (hI.ext hx2)
 refine sq (y_not rfl et) ?_
 refine nk ?_
 refine c_cond (b := !r1) et (fun hb => ?_) (fun hb => ?_)
 ·replace h := ite_t hb h
  refine sr ?_
  refine sq (y_build (vs := []) (cs := #[(vi 0), (vi 0), (vi 0), (vi 0), (vi 0), (vs none 0 0), (vs none 0 0)]) rfl trivial (by kernel_rfl)) ?_
  refine l_store (new := [(vi 0), (vi 0), (vi 0), (vi 0), (vi 0), (vs none 0 0), (vs none 0 0)]) (cs' := #[(vi 0), (vi 0), (vi 0), (vi 0), (vi 0), (vs none 0 0), (vs none 0 0)]) hI .z gn rfl rfl et et rfl size_27 rfl rfl rfl ?_
  clear hI; intro c9 w5 hI
  refine sac ?_
  refine nk ?_
  refine c_ret ?_
  have hI := hI.add (c := Cl.sl (cInt .i64) none 0 ([] : List Int)) SlC.nil
  have hI := hI.add (c := Cl.sl cGVal none 0 ([] : List GVal)) SlC.nil
  obtain rfl := some_inj h
  exact q_ret (vs := [(Value.agg #[(vi 0), (vi 0), (vi 0), (vi 0), (vi 0), (vs none 0 0), (vs none 0 0)]), (vi 10)]) Tryz.results24 ⟨⟨_, ev_tmp rfl rfl, load_agg (l := [(vi 0), (vi 0), (vi 0), (vi 0), (vi 0), (vs none 0 0), (vs none 0 0)]) Tryz.underlying27 rfl size_27 (CellsAt.of_blk (hI.blk .z) rfl)⟩, ⟨ev_tmp rfl rfl, trivial⟩⟩ ⟨none, 0, none, 0, rfl, hI.ext0, hI.fin ⟨(.s .z), .z, trivial⟩⟩
 ·replace h := ite_f hb h
  refine c_skip ?_
  refine k_same ?_
  refine c_seq ?_
  refine sr ?_
  refine sm ?_
  obtain ⟨r2, hx3, h⟩ := bnd_some h
  refine s_call gn rfl (r_callF (vs := [(vs a1 dims1.length c1)]) rfl ok_61 ⟨et, trivial⟩) (Calls.mono (c_ref12_Shape (Dj F c8) w4 hI.lt dims1 a1 c1 ⟨(hI.get (.s (.s .z))), trivial⟩ r2 hx3) ?_)
  rintro _ w6 ⟨rfl, hx4, hl2⟩
  refine ⟨_, rfl, ?_⟩
  replace hI := (hI.ext hx4)
  refine sa ?_
  refine nk ?_
  refine sr ?_
  refine sm ?_
  refine sq (y_neq rfl et ev_const) ?_
  refine nk ?_
  refine c_cond (b := !decide (r2 = 0)) et (fun hb => ?_) (fun hb => ?_)
  ·replace h := ite_t hb h
   refine sr ?_
   refine sq (y_build (vs := []) (cs := #[(vi 0), (vi 0), (vi 0), (vi 0), (vi 0), (vs none 0 0), (vs none 0 0)]) rfl trivial (by kernel_rfl)) ?_
   refine sm ?_
   refine l_store (new := [(vi 0), (vi 0), (vi 0), (vi 0), (vi 0), (vs none 0 0), (vs none 0 0)]) (cs' := #[(vi 0), (vi 0), (vi 0), (vi 0), (vi 0), (vs none 0 0), (vs none 0 0)]) hI .z gn rfl rfl et et rfl size_27 rfl rfl rfl ?_
   clear hI; intro c10 w7 hI
   refine sa ?_
   refine nk ?_
   refine c_ret ?_
   have hI := hI.add (c := Cl.sl (cInt .i64) none 0 ([] : List Int)) SlC.nil
   have hI := hI.add (c := Cl.sl cGVal none 0 ([] : List GVal)) SlC.nil
   obtain rfl := some_inj h
   exact q_ret (vs := [(Value.agg #[(vi 0), (vi 0), (vi 0), (vi 0), (vi 0), (vs none 0 0), (vs none 0 0)]), (vi r2)]) Tryz.results24 ⟨⟨_, ev_tmp rfl rfl, load_agg (l := [(vi 0), (vi 0), (vi 0), (vi 0), (vi 0), (vs none 0 0), (vs none 0 0)]) Tryz.underlying27 rfl size_27 (CellsAt.of_blk (hI.blk .z) rfl)⟩, ⟨ev_tmp rfl rfl, trivial⟩⟩ ⟨none, 0, none, 0, rfl, hI.ext0, hI.fin ⟨(.s .z), .z, trivial⟩⟩
  ·replace h := ite_f hb h
   refine c_skip ?_
   refine k_same ?_
   refine c_seq ?_
   refine sr ?_
   refine sq (y_loadN (l := [(vi t1.Kind), (vi t1.Bits), (vi t1.Frac), (vi t1.Round), (vi t1.Over)]) rfl et Tryz.underlying23 rfl size_23 (hI.kblk (l := [(vi t1.Kind), (vi t1.Bits), (vi t1.Frac), (vi t1.Round), (vi t1.Over)]) (.s .z) rfl).1) ?_
   refine sq (y_loadN (l := [(vi v1.N), (vi v1.D)]) rfl et Tryz.underlying36 rfl size_36 (hI.kblk (l := [(vi v1.N), (vi v1.D)]) .z rfl).1) ?_
   obtain ⟨r3, hx5, h⟩ := bnd_some h
   refine s_call gn rfl (r_callF (vs := [(Value.agg #[(vi t1.Kind), (vi t1.Bits), (vi t1.Frac), (vi t1.Round), (vi t1.Over)]), (Value.agg #[(vi v1.N), (vi v1.D)])]) rfl ok_56 ⟨et, ⟨et, trivial⟩⟩) (Calls.mono (c_base_Val (Dj F c8) w6 hI.lt t1 v1 trivial r3 hx5) ?_)
   rintro _ w8 ⟨rfl, hx6, hl3⟩
   refine ⟨_, rfl, ?_⟩
   replace hI := (hI.ext hx6)
   refine sq (y_not rfl et) ?_
   refine nk ?_
   refine c_cond (b := !r3) et (fun hb => ?_) (fun hb => ?_)
   ·replace h := ite_t hb h
    refine sr ?_
    refine sq (y_build (vs := []) (cs := #[(vi 0), (vi 0), (vi 0), (vi 0), (vi 0), (vs none 0 0), (vs none 0 0)]) rfl trivial (by kernel_rfl)) ?_
    refine l_store (new := [(vi 0), (vi 0), (vi 0), (vi 0), (vi 0), (vs none 0 0), (vs none 0 0)]) (cs' := #[(vi 0), (vi 0), (vi 0), (vi 0), (vi 0), (vs none 0 0), (vs none 0 0)]) hI .z gn rfl rfl et et rfl size_27 rfl rfl rfl ?_
    clear hI; intro c11 w9 hI
    refine sac ?_
    refine nk ?_
    refine c_ret ?_
    have hI := hI.add (c := Cl.sl (cInt .i64) none 0 ([] : List Int)) SlC.nil
    have hI := hI.add (c := Cl.sl cGVal none 0 ([] : List GVal)) SlC.nil
    obtain rfl := some_inj h
    exact q_ret (vs := [(Value.agg #[(vi 0), (vi 0), (vi 0), (vi 0), (vi 0), (vs none 0 0), (vs none 0 0)]), (vi 1)]) Tryz.results24 ⟨⟨_, ev_tmp rfl rfl, load_agg (l := [(vi 0), (vi 0), (vi 0), (vi 0), (vi 0), (vs none 0 0), (vs none 0 0)]) Tryz.underlying27 rfl size_27 (CellsAt.of_blk (hI.blk .z) rfl)⟩, ⟨ev_tmp rfl rfl, trivial⟩⟩ ⟨none, 0, none, 0, rfl, hI.ext0, hI.fin ⟨(.s .z), .z, trivial⟩⟩
   ·replace h := ite_f hb h
    refine c_skip ?_
    refine k_same ?_
    refine sr ?_
    refine sq (y_loadN (l := [(vi t1.Kind), (vi t1.Bits), (vi t1.Frac), (vi t1.Round), (vi t1.Over)]) rfl et Tryz.underlying23 rfl size_23 (hI.kblk (l := [(vi t1.Kind), (vi t1.Bits), (vi t1.Frac), (vi t1.Round), (vi t1.Over)]) (.s .z) rfl).1) ?_
    refine sm ?_
    refine sq (y_build (vs := [(0, (Value.agg #[(vi t1.Kind), (vi t1.Bits), (vi t1.Frac), (vi t1.Round), (vi t1.Over)])), (1, (vs a1 dims1.length c1))]) (cs := #[(vi t1.Kind), (vi t1.Bits), (vi t1.Frac), (vi t1.Round), (vi t1.Over), (vs a1 dims1.length c1), (vs none 0 0)]) rfl ⟨rfl, et, ⟨rfl, et, trivial⟩⟩ (by kernel_rfl)) ?_
    refine l_alloc (cs := #[(vi 0), (vi 0), (vi 0), (vi 0), (vi 0), (vs none 0 0), (vs none 0 0)]) hI gn rfl rfl zero_27 rfl ?_
    clear hI; intro b4 c12 w10 hI
    refine l_store (new := [(vi t1.Kind), (vi t1.Bits), (vi t1.Frac), (vi t1.Round), (vi t1.Over), (vs a1 dims1.length c1), (vs none 0 0)]) (cs' := #[(vi t1.Kind), (vi t1.Bits), (vi t1.Frac), (vi t1.Round), (vi t1.Over), (vs a1 dims1.length c1), (vs none 0 0)]) hI .z gn rfl rfl et et rfl size_27 rfl rfl rfl ?_
    clear hI; intro c13 w11 hI
    refine nk ?_
    refine c_seq ?_
    refine sr ?_
    refine sac ?_
    refine nk ?_
    refine c_block ?_
    have hI := hI.nil cGVal 36 none
    refine c_loop (α := Nat × Int × GTensor × (Option Addr) × Nat × (Option Addr) × Nat) (fun x => fun w => ∃ C, Bun noM F w0 C w [MO.row cGVal 36 (x.2.2.2.2.2.1) (x.2.2.2.2.2.2) (x.2.2.1).Vals, MO.box b3 27 #[(vi 0), (vi 0), (vi 0), (vi 0), (vi 0), (vs none 0 0), (vs none 0 0)], MO.box b4 27 #[(vi (x.2.2.1).Type_.Kind), (vi (x.2.2.1).Type_.Bits), (vi (x.2.2.1).Type_.Frac), (vi (x.2.2.1).Type_.Round), (vi (x.2.2.1).Type_.Over), (vs (x.2.2.2.1) (x.2.2.1).Dims.length (x.2.2.2.2.1)), (vs (x.2.2.2.2.2.1) (x.2.2.1).Vals.length (x.2.2.2.2.2.2))]] [Cl.sl (cInt .i64) (x.2.2.2.1) (x.2.2.2.2.1) (x.2.2.1).Dims, Cl.sl (cInt .i64) a1 c1 dims1, Cl.blk b2 36 #[(vi v1.N), (vi v1.D)]] ∧ m_ref12_Full_l1 dims1 v1 (x.1) (x.2.1) (x.2.2.1) = some r) (fun x _ => x.1) (fun x => [(1, (vs a1 dims1.length c1)), (5, (vp b2 0)), (6, (vp b3 0)), (9, (vp b4 0)), (10, (vi (x.2.1)))]) (fu, 0, (⟨t1, dims1, ([] : List GVal)⟩ : GTensor), a1, c1, none, 0) ⟨_, hI.arr (.c .z (.c (.s .z) (.c .z .n))) ⟨(.s (.s .z)), (.s (.s .z)), .z, trivial⟩, h⟩ ⟨rfl, rfl, rfl, rfl, rfl, trivial⟩ ?_
    clear h hI; rintro ⟨fuel1, i1, out1, a4, c14, a5, c15⟩ w12 ⟨c16, hI, h⟩
    dsimp only at hI h
    rcases fuel1 with _ | fuel1
    ·rw [m_ref12_Full_l1] at h; cases h
    rw [m_ref12_Full_l1] at h
    refine c_sub (e := [(1, (vs a1 dims1.length c1)), (5, (vp b2 0)), (6, (vp b3 0)), (9, (vp b4 0)), (10, (vi i1))]) ⟨rfl, rfl, rfl, rfl, rfl, trivial⟩ ?_
    refine c_seq ?_
    refine sr ?_
    refine sm ?_
    refine sm ?_
    obtain ⟨r4, hx7, h⟩ := bnd_some h
    refine s_call gn rfl (r_callF (vs := [(vs a1 dims1.length c1)]) rfl ok_44 ⟨et, trivial⟩) (Calls.mono (c_ref12_Size (Dj F c16) w12 hI.lt dims1 a1 c1 ⟨(hI.get (.s .z)), trivial⟩ r4 hx7) ?_)
    rintro _ w13 ⟨rfl, hx8, hl4⟩
    refine ⟨_, rfl, ?_⟩
    replace hI := (hI.ext hx8)
    refine sq (y_lss rfl et et) ?_
    refine nk ?_
    refine c_cond (b := decide (i1 < r4)) et (fun hb => ?_) (fun hb => ?_)
    ·replace h := ite_t hb h
     refine c_skip ?_
     refine k_same ?_
     refine c_seq ?_
     refine c_block ?_
     refine c_region rfl ?_
     refine sq (y_fieldAddr rfl et Tryz.underlying27 rfl size_25 rfl) ?_
     refine sq (y_load1 (v := (vs a5 out1.Vals.length c15)) rfl et Tryz.underlying25 rfl (CellsAt.of_blk (hI.blk (.s (.s .z))) rfl)) ?_
     refine sq (y_loadN (l := [(vi v1.N), (vi v1.D)]) rfl et Tryz.underlying36 rfl size_36 (hI.kblk (l := [(vi v1.N), (vi v1.D)]) (.s (.s .z)) rfl).1) ?_
     refine l_lit (c := cGVal) (xs := ([v1] : List GVal)) (vs := [(0, (Value.agg #[(vi v1.N), (vi v1.D)]))]) (cs := #[(vi v1.N), (vi v1.D)]) (css := [[(vi v1.N), (vi v1.D)]]) hI gn rfl rfl Tryz.underlying25 info_36 rfl ⟨rfl, et, trivial⟩ (by kernel_rfl) ⟨rfl, trivial⟩ rfl rfl rfl ?_
     clear hI; intro b5 c17 w14 hI
     obtain ⟨zs1, hx9, h⟩ := bnd_some h
     refine l_append (xs := out1.Vals) (ys := ([v1] : List GVal)) hI (.s .z) (hI.rd .z) hx9 gn rfl rfl Tryz.underlying25 info_36 rfl rfl et et ?_
     clear hI; intro a6 c18 c19 w15 hI
     refine sq (y_fieldAddr rfl et Tryz.underlying27 rfl size_25 rfl) ?_
     refine l_store (new := [(vs a6 zs1.length c18)]) (cs' := #[(vi out1.Type_.Kind), (vi out1.Type_.Bits), (vi out1.Type_.Frac), (vi out1.Type_.Round), (vi out1.Type_.Over), (vs a4 out1.Dims.length c14), (vs a6 zs1.length c18)]) hI (.s (.s (.s .z))) gn rfl rfl et et rfl size_25 rfl rfl rfl ?_
     clear hI; intro c20 w16 hI
     refine nk ?_
     refine c_region rfl ?_
     refine sm ?_
     refine sq (y_add rfl et ev_const) ?_
     refine sa ?_
     refine s_nil ?_
     exact k_loop (fuel1, wi64 (i1 + 1), (⟨out1.Type_, out1.Dims, zs1⟩ : GTensor), a4, c14, a6, c18) ⟨rfl, rfl, rfl, rfl, rfl, trivial⟩ ⟨_, hI.arr (.c (.s .z) (.c (.s .z) (.c (.s .z) .n))) ⟨.z, (.s .z), (.s (.s .z)), trivial⟩, h⟩ (Nat.lt_succ_self _)
    ·replace h := ite_f hb h
     refine c_exit ?_
     refine k_in ?_
     refine k_same ?_
     refine sr ?_
     refine sq (y_loadN (l := [(vi out1.Type_.Kind), (vi out1.Type_.Bits), (vi out1.Type_.Frac), (vi out1.Type_.Round), (vi out1.Type_.Over), (vs a4 out1.Dims.length c14), (vs a5 out1.Vals.length c15)]) rfl et Tryz.underlying27 rfl size_27 (CellsAt.of_blk (hI.blk (.s (.s .z))) rfl)) ?_
     refine l_store (new := [(vi out1.Type_.Kind), (vi out1.Type_.Bits), (vi out1.Type_.Frac), (vi out1.Type_.Round), (vi out1.Type_.Over), (vs a4 out1.Dims.length c14), (vs a5 out1.Vals.length c15)]) (cs' := #[(vi out1.Type_.Kind), (vi out1.Type_.Bits), (vi out1.Type_.Frac), (vi out1.Type_.Round), (vi out1.Type_.Over), (vs a4 out1.Dims.length c14), (vs a5 out1.Vals.length c15)]) hI (.s .z) gn rfl rfl et et rfl size_27 rfl rfl rfl ?_
     clear hI; intro c21 w17 hI
     refine sac ?_
     refine nk ?_
     refine c_ret ?_
     obtain ⟨c22, hI⟩ := hI.release .z
     obtain rfl := some_inj h
     exact q_ret (vs := [(Value.agg #[(vi out1.Type_.Kind), (vi out1.Type_.Bits), (vi out1.Type_.Frac), (vi out1.Type_.Round), (vi out1.Type_.Over), (vs a4 out1.Dims.length c14), (vs a5 out1.Vals.length c15)]), (vi 0)]) Tryz.results24 ⟨⟨_, ev_tmp rfl rfl, load_agg (l := [(vi out1.Type_.Kind), (vi out1.Type_.Bits), (vi out1.Type_.Frac), (vi out1.Type_.Round), (vi out1.Type_.Over), (vs a4 out1.Dims.length c14), (vs a5 out1.Vals.length c15)]) Tryz.underlying27 rfl size_27 (CellsAt.of_blk (hI.blk .z) rfl)⟩, ⟨ev_tmp rfl rfl, trivial⟩⟩ ⟨a4, c14, a5, c15, rfl, hI.ext0, hI.fin ⟨(.s .z), .z, trivial⟩⟩

set_option maxRecDepth 100000 in
set_option maxHeartbeats 4000000 in
theorem c_law12_TensorValidates (F : NP) (w0 : World) (hF : ∀ k, F k → k < w0.heap.size) (t1 : GTensor) (v1 : GVal) (a1 : Option Addr) (c1 : Nat) (a2 : Option Addr) (c2 : Nat) (hc : AllCl [Cl.sl (cInt .i64) a1 c1 t1.Dims, Cl.sl cGVal a2 c2 t1.Vals, clPow10] F w0) (r : Bool)
  (h : m_law12_TensorValidates t1 v1 = some r) :
  Calls Tryz.prog 5 #[(Value.agg #[(vi t1.Type_.Kind), (vi t1.Type_.Bits), (vi t1.Type_.Frac), (vi t1.Type_.Round), (vi t1.Type_.Over), (vs a1 t1.Dims.length c1), (vs a2 t1.Vals.length c2)]), (Value.agg #[(vi v1.N), (vi v1.D)])] w0 fun e w => e = .returned (vb r) ∧ Ext w0 w ∧ AllCl [] F w := by
 refine enterK (l := [(Value.agg #[(vi t1.Type_.Kind), (vi t1.Type_.Bits), (vi t1.Type_.Frac), (vi t1.Type_.Round), (vi t1.Type_.Over), (vs a1 t1.Dims.length c1), (vs a2 t1.Vals.length c2)]), (Value.agg #[(vi v1.N), (vi v1.D)])]) Tryz.func5 rfl Tryz.ntmps5 rfl ?_
 have hI := Bun.start hF hc
 clear hc
 rw [m_law12_TensorValidates] at h
 refine sr ?_
 refine l_box (v := (Value.agg #[(vi t1.Type_.Kind), (vi t1.Type_.Bits), (vi t1.Type_.Frac), (vi t1.Type_.Round), (vi t1.Type_.Over), (vs a1 t1.Dims.length c1), (vs a2 t1.Vals.length c2)])) (cs := #[(vi t1.Type_.Kind), (vi t1.Type_.Bits), (vi t1.Type_.Frac), (vi t1.Type_.Round), (vi t1.Type_.Over), (vs a1 t1.Dims.length c1), (vs a2 t1.Vals.length c2)]) hI gn rfl rfl et rfl ?_
 clear hI; intro b1 c3 w1 hI
 obtain ⟨c4, hI⟩ := hI.relBox .z
 refine l_box (v := (Value.agg #[(vi v1.N), (vi v1.D)])) (cs := #[(vi v1.N), (vi v1.D)]) hI gn rfl rfl et rfl ?_
 clear hI; intro b2 c5 w2 hI
 obtain ⟨c6, hI⟩ := hI.relBox .z
 refine sac ?_
 refine nk ?_
 refine c_seq ?_
 refine sr ?_
 refine sq (y_loadN (l := [(vi t1.Type_.Kind), (vi t1.Type_.Bits), (vi t1.Type_.Frac), (vi t1.Type_.Round), (vi t1.Type_.Over), (vs a1 t1.Dims.length c1), (vs a2 t1.Vals.length c2)]) rfl et Tryz.underlying27 rfl size_27 (hI.kblk (l := [(vi t1.Type_.Kind), (vi t1.Type_.Bits), (vi t1.Type_.Frac), (vi t1.Type_.Round), (vi t1.Type_.Over), (vs a1 t1.Dims.length c1), (vs a2 t1.Vals.length c2)]) (.s .z) rfl).1) ?_
 obtain ⟨r1, hx1, h⟩ := bnd_some h
 refine s_call gn rfl (r_callF (vs := [(Value.agg #[(vi t1.Type_.Kind), (vi t1.Type_.Bits), (vi t1.Type_.Frac), (vi t1.Type_.Round), (vi t1.Type_.Over), (vs a1 t1.Dims.length c1), (vs a2 t1.Vals.length c2)]), (vi 5000)]) rfl ok_12 ⟨et, ⟨ev_const, trivial⟩⟩) (Calls.mono (c_law12_Small (Dj F c6) w2 hI.lt t1 5000 a1 c1 a2 c2 ⟨(hI.get (.s (.s .z))), (hI.get (.s (.s (.s .z)))), trivial⟩ r1 hx1) ?_)
 rintro _ w3 ⟨rfl, hx2, hl1⟩
 refine ⟨_, rfl, ?_⟩
 replace hI := (hI.ext hx2)
 refine sq (y_not rfl et) ?_
 refine nk ?_
 refine c_cond (b := !r1) et (fun hb => ?_) (fun hb => ?_)
 ·replace h := ite_t hb h
  refine sr ?_
  obtain ⟨r2, hx3, h⟩ := bnd_some h
  refine s_call gn rfl (r_callF (vs := []) rfl ok_13 trivial) (Calls.mono (c_law12_examples (Dj F c6) w3 hI.lt ⟨(hI.get (.s (.s (.s (.s .z))))), trivial⟩ r2 hx3) ?_)
  rintro _ w4 ⟨rfl, hx4, hl2⟩
  refine ⟨_, rfl, ?_⟩
  replace hI := (hI.ext hx4)
  refine sa ?_
  refine nk ?_
  refine c_ret ?_
  obtain rfl := some_inj h
  exact q_ret (vs := [(vb r2)]) Tryz.results5 ⟨ev_tmp rfl rfl, trivial⟩ ⟨rfl, hI.ext0, hI.fin trivial⟩
 ·replace h := ite_f hb h
  refine c_skip ?_
  refine k_same ?_
  refine sr ?_
  refine sq (y_fieldAddr rfl et Tryz.underlying27 rfl size_23 rfl) ?_
  refine sq (y_loadN (l := [(vi t1.Type_.Kind), (vi t1.Type_.Bits), (vi t1.Type_.Frac), (vi t1.Type_.Round), (vi t1.Type_.Over)]) rfl et Tryz.underlying23 rfl size_23 (hI.kblk (l := [(vi t1.Type_.Kind), (vi t1.Type_.Bits), (vi t1.Type_.Frac), (vi t1.Type_.Round), (vi t1.Type_.Over)]) (.s .z) rfl).1) ?_
  refine sq (y_fieldAddr rfl et Tryz.underlying27 rfl size_24 rfl) ?_
  refine sq (y_load1 (v := (vs a1 t1.Dims.length c1)) rfl et Tryz.underlying24 rfl (hI.kblk (l := [(vs a1 t1.Dims.length c1)]) (.s .z) rfl).1) ?_
  refine sq (y_fieldAddr rfl et Tryz.underlying27 rfl size_25 rfl) ?_
  refine sq (y_load1 (v := (vs a2 t1.Vals.length c2)) rfl et Tryz.underlying25 rfl (hI.kblk (l := [(vs a2 t1.Vals.length c2)]) (.s .z) rfl).1) ?_
  obtain ⟨r3, hx5, h⟩ := bnd_some h
  refine s_call gn rfl (r_callF (vs := [(Value.agg #[(vi t1.Type_.Kind), (vi t1.Type_.Bits), (vi t1.Type_.Frac), (vi t1.Type_.Round), (vi t1.Type_.Over)]), (vs a1 t1.Dims.length c1), (vs a2 t1.Vals.length c2)]) rfl ok_21 ⟨et, ⟨et, ⟨et, trivial⟩⟩⟩) (Calls.mono (c_tensor_New (Dj F c6) w3 hI.lt t1.Type_ t1.Dims t1.Vals a1 c1 a2 c2 ⟨(hI.get (.s (.s .z))), (hI.get (.s (.s (.s .z)))), trivial⟩ r3 hx5) ?_)
  rintro _ w5 ⟨a3, c7, a4, c8, rfl, hx6, hl3⟩
  refine ⟨_, rfl, ?_⟩
  replace hI := (hI.ext hx6).adds hl3
  refine sm ?_
  refine sq (y_extract rfl et rfl) ?_
  refine sq (y_extract rfl et rfl) ?_
  refine l_alloc (cs := #[(vi 0), (vi 0), (vi 0), (vi 0), (vi 0), (vs none 0 0), (vs none 0 0)]) hI gn rfl rfl zero_27 rfl ?_
  clear hI; intro b3 c9 w6 hI
  refine l_store (new := [(vi r3.1.Type_.Kind), (vi r3.1.Type_.Bits), (vi r3.1.Type_.Frac), (vi r3.1.Type_.Round), (vi r3.1.Type_.Over), (vs a3 r3.1.Dims.length c7), (vs a4 r3.1.Vals.length c8)]) (cs' := #[(vi r3.1.Type_.Kind), (vi r3.1.Type_.Bits), (vi r3.1.Type_.Frac), (vi r3.1.Type_.Round), (vi r3.1.Type_.Over), (vs a3 r3.1.Dims.length c7), (vs a4 r3.1.Vals.length c8)]) hI .z gn rfl rfl et et rfl size_27 rfl rfl rfl ?_
  clear hI; intro c10 w7 hI
  refine sa ?_
  refine nk ?_
  refine sr ?_
  refine sq (y_fieldAddr rfl et Tryz.underlying27 rfl size_23 rfl) ?_
  refine sq (y_loadN (l := [(vi t1.Type_.Kind), (vi t1.Type_.Bits), (vi t1.Type_.Frac), (vi t1.Type_.Round), (vi t1.Type_.Over)]) rfl et Tryz.underlying23 rfl size_23 (hI.kblk (l := [(vi t1.Type_.Kind), (vi t1.Type_.Bits), (vi t1.Type_.Frac), (vi t1.Type_.Round), (vi t1.Type_.Over)]) (.s (.s (.s .z))) rfl).1) ?_
  refine sq (y_fieldAddr rfl et Tryz.underlying27 rfl size_24 rfl) ?_
  refine sq (y_load1 (v := (vs a1 t1.Dims.length c1)) rfl et Tryz.underlying24 rfl (hI.kblk (l := [(vs a1 t1.Dims.length c1)]) (.s (.s (.s .z))) rfl).1) ?_
  refine sq (y_fieldAddr rfl et Tryz.underlying27 rfl size_25 rfl) ?_
  refine sq (y_load1 (v := (vs a2 t1.Vals.length c2)) rfl et Tryz.underlying25 rfl (hI.kblk (l := [(vs a2 t1.Vals.length c2)]) (.s (.s (.s .z))) rfl).1) ?_
  obtain ⟨r4, hx7, h⟩ := bnd_some h
  refine s_call gn rfl (r_callF (vs := [(Value.agg #[(vi t1.Type_.Kind), (vi t1.Type_.Bits), (vi t1.Type_.Frac), (vi t1.Type_.Round), (vi t1.Type_.Over)]), (vs a1 t1.Dims.length c1), (vs a2 t1.Vals.length c2)]) rfl ok_22 ⟨et, ⟨et, ⟨et, trivial⟩⟩⟩) (Calls.mono (c_ref12_New (Dj F c10) w7 hI.lt t1.Type_ t1.Dims t1.Vals a1 c1 a2 c2 ⟨(hI.get (.s (.s (.s (.s .z))))), (hI.get (.s (.s (.s (.s (.s .z)))))), trivial⟩ r4 hx7) ?_)
  rintro _ w8 ⟨a5, c11, a6, c12, rfl, hx8, hl4⟩
  refine ⟨_, rfl, ?_⟩
  replace hI := (hI.ext hx8).adds hl4
  refine sm ?_
  refine sq (y_extract rfl et rfl) ?_
  refine sq (y_extract rfl et rfl) ?_
  refine l_alloc (cs := #[(vi 0), (vi 0), (vi 0), (vi 0), (vi 0), (vs none 0 0), (vs none 0 0)]) hI gn rfl rfl zero_27 rfl ?_
  clear hI; intro b4 c13 w9 hI
  refine l_store (new := [(vi r4.1.Type_.Kind), (vi r4.1.Type_.Bits), (vi r4.1.Type_.Frac), (vi r4.1.Type_.Round), (vi r4.1.Type_.Over), (vs a5 r4.1.Dims.length c11), (vs a6 r4.1.Vals.length c12)]) (cs' := #[(vi r4.1.Type_.Kind), (vi r4.1.Type_.Bits), (vi r4.1.Type_.Frac), (vi r4.1.Type_.Round), (vi r4.1.Type_.Over), (vs a5 r4.1.Dims.length c11), (vs a6 r4.1.Vals.length c12)]) hI .z gn rfl rfl et et rfl size_27 rfl rfl rfl ?_
  clear hI; intro c14 w10 hI
  refine sa ?_
  refine s_nil ?_
  refine k_next (e := [(2, (vp b1 0)), (3, (vp b2 0)), (5, (vp b3 0)), (6, (vi r3.2)), (7, (vp b4 0)), (8, (vi r4.2))]) ⟨rfl, rfl, rfl, rfl, rfl, rfl, trivial⟩ ?_
  refine sr ?_
  refine sq (y_fieldAddr rfl et Tryz.underlying27 rfl size_23 rfl) ?_
  refine sq (y_loadN (l := [(vi t1.Type_.Kind), (vi t1.Type_.Bits), (vi t1.Type_.Frac), (vi t1.Type_.Round), (vi t1.Type_.Over)]) rfl et Tryz.underlying23 rfl size_23 (hI.kblk (l := [(vi t1.Type_.Kind), (vi t1.Type_.Bits), (vi t1.Type_.Frac), (vi t1.Type_.Round), (vi t1.Type_.Over)]) (.s (.s (.s (.s (.s .z))))) rfl).1) ?_
  refine sq (y_fieldAddr rfl et Tryz.underlying27 rfl size_24 rfl) ?_
  refine sq (y_load1 (v := (vs a1 t1.Dims.length c1)) rfl et Tryz.underlying24 rfl (hI.kblk (l := [(vs a1 t1.Dims.length c1)]) (.s (.s (.s (.s (.s .z))))) rfl).1) ?_
  refine sq (y_loadN (l := [(vi v1.N), (vi v1.D)]) rfl et Tryz.underlying36 rfl size_36 (hI.kblk (l := [(vi v1.N), (vi v1.D)]) (.s (.s (.s (.s .z)))) rfl).1) ?_
  obtain ⟨r5, hx9, h⟩ := bnd_some h
  refine s_call gn rfl (r_callF (vs := [(Value.agg #[(vi t1.Type_.Kind), (vi t1.Type_.Bits), (vi t1.Type_.Frac), (vi t1.Type_.Round), (vi t1.Type_.Over)]), (vs a1 t1.Dims.length c1), (Value.agg #[(vi v1.N), (vi v1.D)])]) rfl ok_23 ⟨et, ⟨et, ⟨et, trivial⟩⟩⟩) (Calls.mono (c_tensor_Full (Dj F c14) w10 hI.lt t1.Type_ t1.Dims v1 a1 c1 ⟨(hI.get (.s (.s (.s (.s (.s (.s .z))))))), trivial⟩ r5 hx9) ?_)
  rintro _ w11 ⟨a7, c15, a8, c16, rfl, hx10, hl5⟩
  refine ⟨_, rfl, ?_⟩
  replace hI := (hI.ext hx10).adds hl5
  refine sm ?_
  refine sq (y_extract rfl et rfl) ?_
  refine sq (y_extract rfl et rfl) ?_
  refine l_alloc (cs := #[(vi 0), (vi 0), (vi 0), (vi 0), (vi 0), (vs none 0 0), (vs none 0 0)]) hI gn rfl rfl zero_27 rfl ?_
  clear hI; intro b5 c17 w12 hI
  refine l_store (new := [(vi r5.1.Type_.Kind), (vi r5.1.Type_.Bits), (vi r5.1.Type_.Frac), (vi r5.1.Type_.Round), (vi r5.1.Type_.Over), (vs a7 r5.1.Dims.length c15), (vs a8 r5.1.Vals.length c16)]) (cs' := #[(vi r5.1.Type_.Kind), (vi r5.1.Type_.Bits), (vi r5.1.Type_.Frac), (vi r5.1.Type_.Round), (vi r5.1.Type_.Over), (vs a7 r5.1.Dims.length c15), (vs a8 r5.1.Vals.length c16)]) hI .z gn rfl rfl et et rfl size_27 rfl rfl rfl ?_
  clear hI; intro c18 w13 hI
  refine sa ?_
  refine nk ?_
  refine sr ?_
  refine sq (y_fieldAddr rfl et Tryz.underlying27 rfl size_23 rfl) ?_
  refine sq (y_loadN (l := [(vi t1.Type_.Kind), (vi t1.Type_.Bits), (vi t1.Type_.Frac), (vi t1.Type_.Round), (vi t1.Type_.Over)]) rfl et Tryz.underlying23 rfl size_23 (hI.kblk (l := [(vi t1.Type_.Kind), (vi t1.Type_.Bits), (vi t1.Type_.Frac), (vi t1.Type_.Round), (vi t1.Type_.Over)]) (.s (.s (.s (.s (.s (.s (.s .z))))))) rfl).1) ?_
  refine sq (y_fieldAddr rfl et Tryz.underlying27 rfl size_24 rfl) ?_
  refine sq (y_load1 (v := (vs a1 t1.Dims.length c1)) rfl et Tryz.underlying24 rfl (hI.kblk (l := [(vs a1 t1.Dims.length c1)]) (.s (.s (.s (.s (.s (.s (.s .z))))))) rfl).1) ?_
  refine sq (y_loadN (l := [(vi v1.N), (vi v1.D)]) rfl et Tryz.underlying36 rfl size_36 (hI.kblk (l := [(vi v1.N), (vi v1.D)]) (.s (.s (.s (.s (.s (.s .z)))))) rfl).1) ?_
  obtain ⟨r6, hx11, h⟩ := bnd_some h
  refine s_call gn rfl (r_callF (vs := [(Value.agg #[(vi t1.Type_.Kind), (vi t1.Type_.Bits), (vi t1.Type_.Frac), (vi t1.Type_.Round), (vi t1.Type_.Over)]), (vs a1 t1.Dims.length c1), (Value.agg #[(vi v1.N), (vi v1.D)])]) rfl ok_24 ⟨et, ⟨et, ⟨et, trivial⟩⟩⟩) (Calls.mono (c_ref12_Full (Dj F c18) w13 hI.lt t1.Type_ t1.Dims v1 a1 c1 ⟨(hI.get (.s (.s (.s (.s (.s (.s (.s (.s .z))))))))), trivial⟩ r6 hx11) ?_)
  rintro _ w14 ⟨a9, c19, a10, c20, rfl, hx12, hl6⟩
  refine ⟨_, rfl, ?_⟩
  replace hI := (hI.ext hx12).adds hl6
  refine sm ?_
  refine sq (y_extract rfl et rfl) ?_
  refine sq (y_extract rfl et rfl) ?_
  refine l_alloc (cs := #[(vi 0), (vi 0), (vi 0), (vi 0), (vi 0), (vs none 0 0), (vs none 0 0)]) hI gn rfl rfl zero_27 rfl ?_
  clear hI; intro b6 c21 w15 hI
  refine l_store (new := [(vi r6.1.Type_.Kind), (vi r6.1.Type_.Bits), (vi r6.1.Type_.Frac), (vi r6.1.Type_.Round), (vi r6.1.Type_.Over), (vs a9 r6.1.Dims.length c19), (vs a10 r6.1.Vals.length c20)]) (cs' := #[(vi r6.1.Type_.Kind), (vi r6.1.Type_.Bits), (vi r6.1.Type_.Frac), (vi r6.1.Type_.Round), (vi r6.1.Type_.Over), (vs a9 r6.1.Dims.length c19), (vs a10 r6.1.Vals.length c20)]) hI .z gn rfl rfl et et rfl size_27 rfl rfl rfl ?_
  clear hI; intro c22 w16 hI
  refine sa ?_
  refine nk ?_
  refine c_seq ?_
  refine c_drawX [] false (.c (0, .q) (.c (2, .q) (.c (1, .s) (.c (3, .s) (.c (4, .q) (.c (5, .q) (.c (6, .q) (.c (7, .q) (.c (8, .s) (.c (9, .q) (.c (10, .q) (.c (11, .q) (.c (12, .q) (.c (13, .q) (.c (14, .q) (.c (15, .q) (.c (16, .q) (.c (17, .q) (.c (18, .s) (.c (19, .q) (.c (20, .q) (.c (21, .q) (.c (22, .q) (.c (23, .q) (.c (24, .q) (.c (25, .q) (.c (26, .s) (.c (27, .q) (.c (28, .q) .n))))))))))))))))))))))))))))) hI (by kernel_rfl) (by kernel_rfl) ?_
  clear hI; intro w17 hI
  refine a_read rfl gn rfl (fun w' hw' => (y_loadN (l := [(vi t1.Type_.Kind), (vi t1.Type_.Bits), (vi t1.Type_.Frac), (vi t1.Type_.Round), (vi t1.Type_.Over), (vs a1 t1.Dims.length c1), (vs a2 t1.Vals.length c2)]) rfl et Tryz.underlying27 rfl size_27 ((hI.kblk (l := [(vi t1.Type_.Kind), (vi t1.Type_.Bits), (vi t1.Type_.Frac), (vi t1.Type_.Round), (vi t1.Type_.Over), (vs a1 t1.Dims.length c1), (vs a2 t1.Vals.length c2)]) (.s (.s (.s (.s (.s (.s (.s (.s (.s .z))))))))) rfl).at_ (SX.any rfl hw')))) (by kernel_rfl) ?_
  refine a_read rfl gn rfl (fun w' hw' => (y_loadN (l := [(vi t1.Type_.Kind), (vi t1.Type_.Bits), (vi t1.Type_.Frac), (vi t1.Type_.Round), (vi t1.Type_.Over), (vs a1 t1.Dims.length c1), (vs a2 t1.Vals.length c2)]) rfl et Tryz.underlying27 rfl size_27 ((hI.kblk (l := [(vi t1.Type_.Kind), (vi t1.Type_.Bits), (vi t1.Type_.Frac), (vi t1.Type_.Round), (vi t1.Type_.Over), (vs a1 t1.Dims.length c1), (vs a2 t1.Vals.length c2)]) (.s (.s (.s (.s (.s (.s (.s (.s (.s .z))))))))) rfl).at_ (SX.any rfl hw')))) (by kernel_rfl) ?_
  obtain ⟨r7, hx13, h⟩ := bnd_some h
  refine la_call rfl gn rfl (r_callF (vs := [(Value.agg #[(vi t1.Type_.Kind), (vi t1.Type_.Bits), (vi t1.Type_.Frac), (vi t1.Type_.Round), (vi t1.Type_.Over), (vs a1 t1.Dims.length c1), (vs a2 t1.Vals.length c2)])]) rfl ok_25 ⟨et, trivial⟩) (Calls.mono (c_tensor_Validate (Dj F c22) w17 hI.lt t1 a1 c1 a2 c2 ⟨(hI.get (.s (.s (.s (.s (.s (.s (.s (.s (.s (.s .z))))))))))), (hI.get (.s (.s (.s (.s (.s (.s (.s (.s (.s (.s (.s .z)))))))))))), trivial⟩ r7 hx13) ?_)
  rintro _ w18 ⟨rfl, hx14, hl7⟩
  refine ⟨_, rfl, hx14, ?_⟩
  replace hI := (hI.ext hx14)
  obtain ⟨r8, hx15, h⟩ := bnd_some h
  refine la_call rfl gn rfl (r_callF (vs := [(Value.agg #[(vi t1.Type_.Kind), (vi t1.Type_.Bits), (vi t1.Type_.Frac), (vi t1.Type_.Round), (vi t1.Type_.Over), (vs a1 t1.Dims.length c1), (vs a2 t1.Vals.length c2)])]) rfl ok_26 ⟨et, trivial⟩) (Calls.mono (c_ref12_Validate (Dj F c22) w18 hI.lt t1 a1 c1 a2 c2 ⟨(hI.get (.s (.s (.s (.s (.s (.s (.s (.s (.s (.s .z))))))))))), (hI.get (.s (.s (.s (.s (.s (.s (.s (.s (.s (.s (.s .z)))))))))))), trivial⟩ r8 hx15) ?_)
  rintro _ w19 ⟨rfl, hx16, hl8⟩
  refine ⟨_, rfl, hx16, ?_⟩
  replace hI := (hI.ext hx16)
  refine a_q rfl gn rfl (fun w' => (y_eql rfl et et)) ?_
  refine a_q rfl gn rfl (fun w' => (y_move rfl et)) ?_
  refine a_gread rfl (g_true rfl rfl rfl rfl) rfl (fun hc => fun w' hw' => (y_loadN (l := [(vi r3.1.Type_.Kind), (vi r3.1.Type_.Bits), (vi r3.1.Type_.Frac), (vi r3.1.Type_.Round), (vi r3.1.Type_.Over), (vs a3 r3.1.Dims.length c7), (vs a4 r3.1.Vals.length c8)]) rfl et Tryz.underlying27 rfl size_27 ((CA.blk (hI.blk (.s (.s (.s .z)))) rfl).at_ (SX.any rfl hw')))) (by kernel_rfl) ?_
  refine a_gread rfl (g_true rfl rfl rfl rfl) rfl (fun hc => fun w' hw' => (y_loadN (l := [(vi r4.1.Type_.Kind), (vi r4.1.Type_.Bits), (vi r4.1.Type_.Frac), (vi r4.1.Type_.Round), (vi r4.1.Type_.Over), (vs a5 r4.1.Dims.length c11), (vs a6 r4.1.Vals.length c12)]) rfl et Tryz.underlying27 rfl size_27 ((CA.blk (hI.blk (.s (.s .z))) rfl).at_ (SX.any rfl hw')))) (by kernel_rfl) ?_
  obtain ⟨r9, hx17, h⟩ := bnd_some h
  replace hx17 := gd_some hx17
  refine la_gcallU (v := (vb r9)) rfl (g_true rfl rfl rfl rfl) rfl (fun hc => (r_callF (vs := [(Value.agg #[(vi r3.1.Type_.Kind), (vi r3.1.Type_.Bits), (vi r3.1.Type_.Frac), (vi r3.1.Type_.Round), (vi r3.1.Type_.Over), (vs a3 r3.1.Dims.length c7), (vs a4 r3.1.Vals.length c8)]), (Value.agg #[(vi r4.1.Type_.Kind), (vi r4.1.Type_.Bits), (vi r4.1.Type_.Frac), (vi r4.1.Type_.Round), (vi r4.1.Type_.Over), (vs a5 r4.1.Dims.length c11), (vs a6 r4.1.Vals.length c12)])]) rfl ok_16 ⟨(ev_gv et hc), ⟨(ev_gv et hc), trivial⟩⟩)) (fun hc => (c_base_Tensor (Dj F c22) w19 hI.lt r3.1 r4.1 a3 c7 a4 c8 a5 c11 a6 c12 ⟨(hI.get (.s (.s (.s (.s (.s (.s .z))))))), (hI.get (.s (.s (.s (.s (.s (.s (.s .z)))))))), (hI.get (.s (.s (.s (.s .z))))), (hI.get (.s (.s (.s (.s (.s .z)))))), trivial⟩ r9 (hx17 hc)).mono fun _ _ k => ⟨k.1, k.2.1⟩) ?_
  intro w20 hx18; replace hI := hI.ext hx18
  refine a_q rfl gn rfl (fun w' => (y_and rfl et et)) ?_
  refine a_q rfl gn rfl (fun w' => (y_move rfl et)) ?_
  refine a_gval rfl (g_true rfl rfl rfl rfl) rfl (fun hc => fun w' => (y_move rfl et)) ?_
  refine a_gval rfl (g_true rfl rfl rfl rfl) rfl (fun hc => fun w' => (y_move rfl et)) ?_
  refine a_gval rfl (g_true rfl rfl rfl rfl) rfl (fun hc => fun w' => (y_eql rfl (ev_gv et hc) (ev_gv et hc))) ?_
  refine a_q rfl gn rfl (fun w' => (y_and rfl et et)) ?_
  refine a_q rfl gn rfl (fun w' => (y_move rfl et)) ?_
  refine a_gread rfl (g_true rfl rfl rfl rfl) rfl (fun hc => fun w' hw' => (y_loadN (l := [(vi r5.1.Type_.Kind), (vi r5.1.Type_.Bits), (vi r5.1.Type_.Frac), (vi r5.1.Type_.Round), (vi r5.1.Type_.Over), (vs a7 r5.1.Dims.length c15), (vs a8 r5.1.Vals.length c16)]) rfl et Tryz.underlying27 rfl size_27 ((CA.blk (hI.blk (.s .z)) rfl).at_ (SX.any rfl hw')))) (by kernel_rfl) ?_
  refine a_gread rfl (g_true rfl rfl rfl rfl) rfl (fun hc => fun w' hw' => (y_loadN (l := [(vi r6.1.Type_.Kind), (vi r6.1.Type_.Bits), (vi r6.1.Type_.Frac), (vi r6.1.Type_.Round), (vi r6.1.Type_.Over), (vs a9 r6.1.Dims.length c19), (vs a10 r6.1.Vals.length c20)]) rfl et Tryz.underlying27 rfl size_27 ((CA.blk (hI.blk .z) rfl).at_ (SX.any rfl hw')))) (by kernel_rfl) ?_
  obtain ⟨r10, hx19, h⟩ := bnd_some h
  replace hx19 := gd_some hx19
  refine la_gcallU (v := (vb r10)) rfl (g_true rfl rfl rfl rfl) rfl (fun hc => (r_callF (vs := [(Value.agg #[(vi r5.1.Type_.Kind), (vi r5.1.Type_.Bits), (vi r5.1.Type_.Frac), (vi r5.1.Type_.Round), (vi r5.1.Type_.Over), (vs a7 r5.1.Dims.length c15), (vs a8 r5.1.Vals.length c16)]), (Value.agg #[(vi r6.1.Type_.Kind), (vi r6.1.Type_.Bits), (vi r6.1.Type_.Frac), (vi r6.1.Type_.Round), (vi r6.1.Type_.Over), (vs a9 r6.1.Dims.length c19), (vs a10 r6.1.Vals.length c20)])]) rfl ok_16 ⟨(ev_gv et hc), ⟨(ev_gv et hc), trivial⟩⟩)) (fun hc => (c_base_Tensor (Dj F c22) w20 hI.lt r5.1 r6.1 a7 c15 a8 c16 a9 c19 a10 c20 ⟨(hI.get (.s (.s .z))), (hI.get (.s (.s (.s .z)))), (hI.get .z), (hI.get (.s .z)), trivial⟩ r10 (hx19 hc)).mono fun _ _ k => ⟨k.1, k.2.1⟩) ?_
  intro w21 hx20; replace hI := hI.ext hx20
  refine a_q rfl gn rfl (fun w' => (y_and rfl et et)) ?_
  refine a_q rfl gn rfl (fun w' => (y_move rfl et)) ?_
  refine a_gval rfl (g_true rfl rfl rfl rfl) rfl (fun hc => fun w' => (y_move rfl et)) ?_
  refine a_gval rfl (g_true rfl rfl rfl rfl) rfl (fun hc => fun w' => (y_move rfl et)) ?_
  refine a_gval rfl (g_true rfl rfl rfl rfl) rfl (fun hc => fun w' => (y_eql rfl (ev_gv et hc) (ev_gv et hc))) ?_
  refine a_q rfl gn rfl (fun w' => (y_and rfl et et)) ?_
  refine a_q rfl gn rfl (fun w' => (y_move rfl et)) ?_
  obtain ⟨r11, hx21, h⟩ := bnd_some h
  replace hx21 := gd_some hx21
  refine la_gcallU (v := (vb r11)) rfl (g_true rfl rfl rfl rfl) rfl (fun hc => (r_callF (vs := []) rfl ok_13 trivial)) (fun hc => (c_law12_examples (Dj F c22) w21 hI.lt ⟨(hI.get (.s (.s (.s (.s (.s (.s (.s (.s (.s (.s (.s (.s .z))))))))))))), trivial⟩ r11 (hx21 hc)).mono fun _ _ k => ⟨k.1, k.2.1⟩) ?_
  intro w22 hx22; replace hI := hI.ext hx22
  refine a_q rfl gn rfl (fun w' => (y_and rfl et et)) ?_
  refine a_q rfl gn rfl (fun w' => (y_assign rfl et)) ?_
  refine a_nil ?_
  refine k_next (e := [(4, (vb ((((((decide (r7 = r8)) && r9) && (decide (r3.2 = r4.2))) && r10) && (decide (r5.2 = r6.2))) && r11)))]) ⟨rfl, trivial⟩ ?_
  refine c_ret ?_
  obtain rfl := some_inj h
  exact q_ret (vs := [(vb ((((((decide (r7 = r8)) && r9) && (decide (r3.2 = r4.2))) && r10) && (decide (r5.2 = r6.2))) && r11))]) Tryz.results5 ⟨ev_tmp rfl rfl, trivial⟩ ⟨rfl, hI.ext0, hI.fin trivial⟩

end Go.Proofs.YtlakfanockhngaaGreatDoor
