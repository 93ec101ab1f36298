/- Each call returns what its plain function gives: printed by a program of my own; Lean checks it. -/
import Derived.Test.YtlakfanockhngaaGreatDoorSCQ8b
namespace Go.Proofs.YtlakfanockhngaaGreatDoor
open Go Go.RowKit Go.Vc
set_option linter.unusedVariables false
set_option linter.unusedSimpArgs false

set_option maxRecDepth 100000 in
set_option maxHeartbeats 4000000 in
theorem c_base_Ints (F : NP) (w0 : World) (hF : ∀ k, F k → k < w0.heap.size) (a1 : List Int) (b1 : List Int) (a2 : Option Addr) (c1 : Nat) (a3 : Option Addr) (c2 : Nat) (hc : AllCl [Cl.sl (cInt .i64) a2 c1 a1, Cl.sl (cInt .i64) a3 c2 b1] F w0) (r : Bool)
  (h : m_base_Ints a1 b1 = some r) :
  Calls Tryz.prog 50 #[(vs a2 a1.length c1), (vs a3 b1.length c2)] w0 fun e w => e = .returned (vb r) ∧ Ext w0 w ∧ AllCl [] F w := by
 refine enterK (l := [(vs a2 a1.length c1), (vs a3 b1.length c2)]) Tryz.func50 rfl Tryz.ntmps50 rfl ?_
 have hI := Bun.start hF hc
 clear hc
 rw [m_base_Ints] at h
 refine sr ?_
 refine sac ?_
 refine nk ?_
 refine c_seq ?_
 refine sr ?_
 refine sm ?_
 refine sq (y_lenl rfl Tryz.underlying24 et) ?_
 refine sm ?_
 refine sq (y_lenl rfl Tryz.underlying24 et) ?_
 refine sq (y_neq rfl et et) ?_
 refine nk ?_
 refine c_cond (b := !decide ((a1.length : Int) = (b1.length : Int))) et (fun hb => ?_) (fun hb => ?_)
 ·replace h := ite_t hb h
  refine sr ?_
  refine sac ?_
  refine nk ?_
  refine c_ret ?_
  obtain rfl := some_inj h
  exact q_ret (vs := [(vb false)]) Tryz.results50 ⟨ev_tmp rfl rfl, trivial⟩ ⟨rfl, hI.ext0, hI.fin trivial⟩
 ·replace h := ite_f hb h
  refine c_skip ?_
  refine k_same ?_
  refine c_seq ?_
  refine sr ?_
  refine sac ?_
  refine nk ?_
  refine c_block ?_
  refine c_loop (α := Nat × Int) (fun x => fun w => ∃ C, Bun noM F w0 C w [] [Cl.sl (cInt .i64) a2 c1 a1, Cl.sl (cInt .i64) a3 c2 b1] ∧ m_base_Ints_l1 a1 b1 (x.1) (x.2) = some r) (fun x _ => x.1) (fun x => [(0, (vs a2 a1.length c1)), (1, (vs a3 b1.length c2)), (5, (vi (x.2)))]) (fu, 0) ⟨_, hI.arr .n ⟨.z, (.s .z), trivial⟩, h⟩ ⟨rfl, rfl, rfl, trivial⟩ ?_
  clear h hI; rintro ⟨fuel1, i1⟩ w1 ⟨c3, hI, h⟩
  dsimp only at hI h
  rcases fuel1 with _ | fuel1
  ·rw [m_base_Ints_l1] at h; cases h
  rw [m_base_Ints_l1] at h
  refine c_sub (e := [(0, (vs a2 a1.length c1)), (1, (vs a3 b1.length c2)), (5, (vi i1))]) ⟨rfl, rfl, rfl, trivial⟩ ?_
  refine c_seq ?_
  refine sr ?_
  refine sm ?_
  refine sm ?_
  refine sq (y_lenl rfl Tryz.underlying24 et) ?_
  refine sq (y_lss rfl et et) ?_
  refine nk ?_
  refine c_cond (b := decide (i1 < (a1.length : Int))) et (fun hb => ?_) (fun hb => ?_)
  ·replace h := ite_t hb h
   refine c_skip ?_
   refine k_same ?_
   refine c_seq ?_
   refine c_block ?_
   refine c_seq ?_
   refine c_drawX [] false (.c (0, .q) (.c (1, .q) (.c (2, .q) (.c (3, .q) (.c (4, .q) (.c (5, .q) (.c (6, .q) (.c (7, .q) (.c (8, .q) .n))))))))) hI (by kernel_rfl) (by kernel_rfl) ?_
   clear hI; intro w2 hI
   refine a_q rfl gn rfl (fun w' => (y_move rfl et)) ?_
   refine a_q rfl gn rfl (fun w' => (y_move rfl et)) ?_
   obtain ⟨e1, hx1, h⟩ := bnd_some h
   obtain ⟨ad1, cs1, hA1, hr1, hq1⟩ := hI.clat .z hx1
   obtain rfl : cs1 = [(vi e1)] := hr1
   refine a_q rfl gn rfl (fun w' => (y_indexAddr rfl Tryz.underlying24 size_3 et et (lat_bd hx1) hA1)) ?_
   refine a_read rfl gn rfl (fun w' hw' => (y_load1 (v := (vi e1)) rfl et Tryz.underlying3 rfl (hq1.at_ (SX.any rfl hw')))) (by kernel_rfl) ?_
   refine a_q rfl gn rfl (fun w' => (y_move rfl et)) ?_
   refine a_q rfl gn rfl (fun w' => (y_move rfl et)) ?_
   obtain ⟨e2, hx2, h⟩ := bnd_some h
   obtain ⟨ad2, cs2, hA2, hr2, hq2⟩ := hI.clat (.s .z) hx2
   obtain rfl : cs2 = [(vi e2)] := hr2
   refine a_q rfl gn rfl (fun w' => (y_indexAddr rfl Tryz.underlying24 size_3 et et (lat_bd hx2) hA2)) ?_
   refine a_read rfl gn rfl (fun w' hw' => (y_load1 (v := (vi e2)) rfl et Tryz.underlying3 rfl (hq2.at_ (SX.any rfl hw')))) (by kernel_rfl) ?_
   refine a_q rfl gn rfl (fun w' => (y_neq rfl et et)) ?_
   refine a_nil ?_
   refine k_same ?_
   refine c_cond (b := !decide (e1 = e2)) et (fun hb => ?_) (fun hb => ?_)
   ·replace h := ite_t hb h
    refine sr ?_
    refine sac ?_
    refine nk ?_
    refine c_ret ?_
    obtain rfl := some_inj h
    exact q_ret (vs := [(vb false)]) Tryz.results50 ⟨ev_tmp rfl rfl, trivial⟩ ⟨rfl, hI.ext0, hI.fin trivial⟩
   ·replace h := ite_f hb h
    refine c_skip ?_
    refine k_same ?_
    refine c_region rfl ?_
    refine sm ?_
    refine sq (y_add rfl et ev_const) ?_
    refine sa ?_
    refine s_nil ?_
    exact k_loop (fuel1, wi64 (i1 + 1)) ⟨rfl, rfl, rfl, trivial⟩ ⟨_, hI.arr .n ⟨.z, (.s .z), trivial⟩, h⟩ (Nat.lt_succ_self _)
  ·replace h := ite_f hb h
   refine c_exit ?_
   refine k_in ?_
   refine k_same ?_
   refine sr ?_
   refine sac ?_
   refine nk ?_
   refine c_ret ?_
   obtain rfl := some_inj h
   exact q_ret (vs := [(vb true)]) Tryz.results50 ⟨ev_tmp rfl rfl, trivial⟩ ⟨rfl, hI.ext0, hI.fin trivial⟩

set_option maxRecDepth 100000 in
set_option maxHeartbeats 4000000 in
theorem c_base_Vals (F : NP) (w0 : World) (hF : ∀ k, F k → k < w0.heap.size) (a1 : List GVal) (b1 : List GVal) (a2 : Option Addr) (c1 : Nat) (a3 : Option Addr) (c2 : Nat) (hc : AllCl [Cl.sl cGVal a2 c1 a1, Cl.sl cGVal a3 c2 b1] F w0) (r : Bool)
  (h : m_base_Vals a1 b1 = some r) :
  Calls Tryz.prog 51 #[(vs a2 a1.length c1), (vs a3 b1.length c2)] w0 fun e w => e = .returned (vb r) ∧ Ext w0 w ∧ AllCl [] F w := by
 refine enterK (l := [(vs a2 a1.length c1), (vs a3 b1.length c2)]) Tryz.func51 rfl Tryz.ntmps51 rfl ?_
 have hI := Bun.start hF hc
 clear hc
 rw [m_base_Vals] at h
 refine sr ?_
 refine sac ?_
 refine nk ?_
 refine c_seq ?_
 refine sr ?_
 refine sm ?_
 refine sq (y_lenl rfl Tryz.underlying25 et) ?_
 refine sm ?_
 refine sq (y_lenl rfl Tryz.underlying25 et) ?_
 refine sq (y_neq rfl et et) ?_
 refine nk ?_
 refine c_cond (b := !decide ((a1.length : Int) = (b1.length : Int))) et (fun hb => ?_) (fun hb => ?_)
 ·replace h := ite_t hb h
  refine sr ?_
  refine sac ?_
  refine nk ?_
  refine c_ret ?_
  obtain rfl := some_inj h
  exact q_ret (vs := [(vb false)]) Tryz.results51 ⟨ev_tmp rfl rfl, trivial⟩ ⟨rfl, hI.ext0, hI.fin trivial⟩
 ·replace h := ite_f hb h
  refine c_skip ?_
  refine k_same ?_
  refine c_seq ?_
  refine sr ?_
  refine sac ?_
  refine nk ?_
  refine c_block ?_
  refine c_loop (α := Nat × Int) (fun x => fun w => ∃ C, Bun noM F w0 C w [] [Cl.sl cGVal a2 c1 a1, Cl.sl cGVal a3 c2 b1] ∧ m_base_Vals_l1 a1 b1 (x.1) (x.2) = some r) (fun x _ => x.1) (fun x => [(0, (vs a2 a1.length c1)), (1, (vs a3 b1.length c2)), (5, (vi (x.2)))]) (fu, 0) ⟨_, hI.arr .n ⟨.z, (.s .z), trivial⟩, h⟩ ⟨rfl, rfl, rfl, trivial⟩ ?_
  clear h hI; rintro ⟨fuel1, i1⟩ w1 ⟨c3, hI, h⟩
  dsimp only at hI h
  rcases fuel1 with _ | fuel1
  ·rw [m_base_Vals_l1] at h; cases h
  rw [m_base_Vals_l1] at h
  refine c_sub (e := [(0, (vs a2 a1.length c1)), (1, (vs a3 b1.length c2)), (5, (vi i1))]) ⟨rfl, rfl, rfl, trivial⟩ ?_
  refine c_seq ?_
  refine sr ?_
  refine sm ?_
  refine sm ?_
  refine sq (y_lenl rfl Tryz.underlying25 et) ?_
  refine sq (y_lss rfl et et) ?_
  refine nk ?_
  refine c_cond (b := decide (i1 < (a1.length : Int))) et (fun hb => ?_) (fun hb => ?_)
  ·replace h := ite_t hb h
   refine c_skip ?_
   refine k_same ?_
   refine c_seq ?_
   refine c_block ?_
   refine c_seq ?_
   refine c_drawX [] false (.c (0, .q) (.c (1, .q) (.c (2, .q) (.c (3, .q) (.c (4, .q) (.c (5, .q) (.c (6, .q) (.c (7, .q) (.c (8, .q) .n))))))))) hI (by kernel_rfl) (by kernel_rfl) ?_
   clear hI; intro w2 hI
   refine a_q rfl gn rfl (fun w' => (y_move rfl et)) ?_
   refine a_q rfl gn rfl (fun w' => (y_move rfl et)) ?_
   obtain ⟨e1, hx1, h⟩ := bnd_some h
   obtain ⟨ad1, cs1, hA1, hr1, hq1⟩ := hI.clat .z hx1
   obtain rfl : cs1 = [(vi e1.N), (vi e1.D)] := hr1
   refine a_q rfl gn rfl (fun w' => (y_indexAddr rfl Tryz.underlying25 size_36 et et (lat_bd hx1) hA1)) ?_
   refine a_read rfl gn rfl (fun w' hw' => (y_loadN (l := [(vi e1.N), (vi e1.D)]) rfl et Tryz.underlying36 rfl size_36 (hq1.at_ (SX.any rfl hw')))) (by kernel_rfl) ?_
   refine a_q rfl gn rfl (fun w' => (y_move rfl et)) ?_
   refine a_q rfl gn rfl (fun w' => (y_move rfl et)) ?_
   obtain ⟨e2, hx2, h⟩ := bnd_some h
   obtain ⟨ad2, cs2, hA2, hr2, hq2⟩ := hI.clat (.s .z) hx2
   obtain rfl : cs2 = [(vi e2.N), (vi e2.D)] := hr2
   refine a_q rfl gn rfl (fun w' => (y_indexAddr rfl Tryz.underlying25 size_36 et et (lat_bd hx2) hA2)) ?_
   refine a_read rfl gn rfl (fun w' hw' => (y_loadN (l := [(vi e2.N), (vi e2.D)]) rfl et Tryz.underlying36 rfl size_36 (hq2.at_ (SX.any rfl hw')))) (by kernel_rfl) ?_
   refine a_q rfl gn rfl (fun w' => (y_bin rfl et et (eqstruct_36n ..) (eqguard_36 ..))) ?_
   refine a_nil ?_
   refine k_same ?_
   refine c_cond (b := !((decide (e1.N = e2.N)) && (decide (e1.D = e2.D)))) et (fun hb => ?_) (fun hb => ?_)
   ·replace h := ite_t hb h
    refine sr ?_
    refine sac ?_
    refine nk ?_
    refine c_ret ?_
    obtain rfl := some_inj h
    exact q_ret (vs := [(vb false)]) Tryz.results51 ⟨ev_tmp rfl rfl, trivial⟩ ⟨rfl, hI.ext0, hI.fin trivial⟩
   ·replace h := ite_f hb h
    refine c_skip ?_
    refine k_same ?_
    refine c_region rfl ?_
    refine sm ?_
    refine sq (y_add rfl et ev_const) ?_
    refine sa ?_
    refine s_nil ?_
    exact k_loop (fuel1, wi64 (i1 + 1)) ⟨rfl, rfl, rfl, trivial⟩ ⟨_, hI.arr .n ⟨.z, (.s .z), trivial⟩, h⟩ (Nat.lt_succ_self _)
  ·replace h := ite_f hb h
   refine c_exit ?_
   refine k_in ?_
   refine k_same ?_
   refine sr ?_
   refine sac ?_
   refine nk ?_
   refine c_ret ?_
   obtain rfl := some_inj h
   exact q_ret (vs := [(vb true)]) Tryz.results51 ⟨ev_tmp rfl rfl, trivial⟩ ⟨rfl, hI.ext0, hI.fin trivial⟩

set_option maxRecDepth 100000 in
set_option maxHeartbeats 4000000 in
theorem c_base_Tensor (F : NP) (w0 : World) (hF : ∀ k, F k → k < w0.heap.size) (a1 : GTensor) (b1 : GTensor) (a2 : Option Addr) (c1 : Nat) (a3 : Option Addr) (c2 : Nat) (a4 : Option Addr) (c3 : Nat) (a5 : Option Addr) (c4 : Nat) (hc : AllCl [Cl.sl (cInt .i64) a2 c1 a1.Dims, Cl.sl cGVal a3 c2 a1.Vals, Cl.sl (cInt .i64) a4 c3 b1.Dims, Cl.sl cGVal a5 c4 b1.Vals] F w0) (r : Bool)
  (h : m_base_Tensor a1 b1 = some r) :
  Calls Tryz.prog 16 #[(Value.agg #[(vi a1.Type_.Kind), (vi a1.Type_.Bits), (vi a1.Type_.Frac), (vi a1.Type_.Round), (vi a1.Type_.Over), (vs a2 a1.Dims.length c1), (vs a3 a1.Vals.length c2)]), (Value.agg #[(vi b1.Type_.Kind), (vi b1.Type_.Bits), (vi b1.Type_.Frac), (vi b1.Type_.Round), (vi b1.Type_.Over), (vs a4 b1.Dims.length c3), (vs a5 b1.Vals.length c4)])] w0 fun e w => e = .returned (vb r) ∧ Ext w0 w ∧ AllCl [] F w := by
 refine enterK (l := [(Value.agg #[(vi a1.Type_.Kind), (vi a1.Type_.Bits), (vi a1.Type_.Frac), (vi a1.Type_.Round), (vi a1.Type_.Over), (vs a2 a1.Dims.length c1), (vs a3 a1.Vals.length c2)]), (Value.agg #[(vi b1.Type_.Kind), (vi b1.Type_.Bits), (vi b1.Type_.Frac), (vi b1.Type_.Round), (vi b1.Type_.Over), (vs a4 b1.Dims.length c3), (vs a5 b1.Vals.length c4)])]) Tryz.func16 rfl Tryz.ntmps16 rfl ?_
 have hI := Bun.start hF hc
 clear hc
 rw [m_base_Tensor] at h
 refine sr ?_
 refine l_box (v := (Value.agg #[(vi a1.Type_.Kind), (vi a1.Type_.Bits), (vi a1.Type_.Frac), (vi a1.Type_.Round), (vi a1.Type_.Over), (vs a2 a1.Dims.length c1), (vs a3 a1.Vals.length c2)])) (cs := #[(vi a1.Type_.Kind), (vi a1.Type_.Bits), (vi a1.Type_.Frac), (vi a1.Type_.Round), (vi a1.Type_.Over), (vs a2 a1.Dims.length c1), (vs a3 a1.Vals.length c2)]) hI gn rfl rfl et rfl ?_
 clear hI; intro b2 c5 w1 hI
 obtain ⟨c6, hI⟩ := hI.relBox .z
 refine l_box (v := (Value.agg #[(vi b1.Type_.Kind), (vi b1.Type_.Bits), (vi b1.Type_.Frac), (vi b1.Type_.Round), (vi b1.Type_.Over), (vs a4 b1.Dims.length c3), (vs a5 b1.Vals.length c4)])) (cs := #[(vi b1.Type_.Kind), (vi b1.Type_.Bits), (vi b1.Type_.Frac), (vi b1.Type_.Round), (vi b1.Type_.Over), (vs a4 b1.Dims.length c3), (vs a5 b1.Vals.length c4)]) hI gn rfl rfl et rfl ?_
 clear hI; intro b3 c7 w2 hI
 obtain ⟨c8, hI⟩ := hI.relBox .z
 refine sac ?_
 refine nk ?_
 refine sr ?_
 refine sq (y_fieldAddr rfl et Tryz.underlying27 rfl size_23 rfl) ?_
 refine sq (y_loadN (l := [(vi a1.Type_.Kind), (vi a1.Type_.Bits), (vi a1.Type_.Frac), (vi a1.Type_.Round), (vi a1.Type_.Over)]) rfl et Tryz.underlying23 rfl size_23 (hI.kblk (l := [(vi a1.Type_.Kind), (vi a1.Type_.Bits), (vi a1.Type_.Frac), (vi a1.Type_.Round), (vi a1.Type_.Over)]) (.s .z) rfl).1) ?_
 refine sq (y_fieldAddr rfl et Tryz.underlying27 rfl size_23 rfl) ?_
 refine sq (y_loadN (l := [(vi b1.Type_.Kind), (vi b1.Type_.Bits), (vi b1.Type_.Frac), (vi b1.Type_.Round), (vi b1.Type_.Over)]) rfl et Tryz.underlying23 rfl size_23 (hI.kblk (l := [(vi b1.Type_.Kind), (vi b1.Type_.Bits), (vi b1.Type_.Frac), (vi b1.Type_.Round), (vi b1.Type_.Over)]) .z rfl).1) ?_
 refine sq (y_bin rfl et et (eqstruct_23 ..) (eqguard_23 ..)) ?_
 refine sm ?_
 refine s_gval (g_true rfl rfl rfl rfl) rfl (fun hc => (y_fieldAddr rfl et Tryz.underlying27 rfl size_24 rfl)) ?_
 refine s_gval (g_true rfl rfl rfl rfl) rfl (fun hc => (y_load1 (v := (vs a2 a1.Dims.length c1)) rfl (ev_gv et hc) Tryz.underlying24 rfl (hI.kblk (l := [(vs a2 a1.Dims.length c1)]) (.s .z) rfl).1)) ?_
 refine s_gval (g_true rfl rfl rfl rfl) rfl (fun hc => (y_fieldAddr rfl et Tryz.underlying27 rfl size_24 rfl)) ?_
 refine s_gval (g_true rfl rfl rfl rfl) rfl (fun hc => (y_load1 (v := (vs a4 b1.Dims.length c3)) rfl (ev_gv et hc) Tryz.underlying24 rfl (hI.kblk (l := [(vs a4 b1.Dims.length c3)]) .z rfl).1)) ?_
 obtain ⟨r1, hx1, h⟩ := bnd_some h
 replace hx1 := gd_some hx1
 refine s_gcallU (v := (vb r1)) (g_true rfl rfl rfl rfl) rfl (fun hc => (r_callF (vs := [(vs a2 a1.Dims.length c1), (vs a4 b1.Dims.length c3)]) rfl ok_50 ⟨(ev_gv et hc), ⟨(ev_gv et hc), trivial⟩⟩)) (fun hc => (c_base_Ints (Dj F c8) w2 hI.lt a1.Dims b1.Dims a2 c1 a4 c3 ⟨(hI.get (.s (.s .z))), (hI.get (.s (.s (.s (.s .z))))), trivial⟩ r1 (hx1 hc)).mono fun _ _ k => ⟨k.1, k.2.1⟩) ?_
 intro w3 hx2; replace hI := hI.ext hx2
 refine sq (y_and rfl et et) ?_
 refine sm ?_
 refine s_gval (g_true rfl rfl rfl rfl) rfl (fun hc => (y_fieldAddr rfl et Tryz.underlying27 rfl size_25 rfl)) ?_
 refine s_gval (g_true rfl rfl rfl rfl) rfl (fun hc => (y_load1 (v := (vs a3 a1.Vals.length c2)) rfl (ev_gv et hc) Tryz.underlying25 rfl (hI.kblk (l := [(vs a3 a1.Vals.length c2)]) (.s .z) rfl).1)) ?_
 refine s_gval (g_true rfl rfl rfl rfl) rfl (fun hc => (y_fieldAddr rfl et Tryz.underlying27 rfl size_25 rfl)) ?_
 refine s_gval (g_true rfl rfl rfl rfl) rfl (fun hc => (y_load1 (v := (vs a5 b1.Vals.length c4)) rfl (ev_gv et hc) Tryz.underlying25 rfl (hI.kblk (l := [(vs a5 b1.Vals.length c4)]) .z rfl).1)) ?_
 obtain ⟨r2, hx3, h⟩ := bnd_some h
 replace hx3 := gd_some hx3
 refine s_gcallU (v := (vb r2)) (g_true rfl rfl rfl rfl) rfl (fun hc => (r_callF (vs := [(vs a3 a1.Vals.length c2), (vs a5 b1.Vals.length c4)]) rfl ok_51 ⟨(ev_gv et hc), ⟨(ev_gv et hc), trivial⟩⟩)) (fun hc => (c_base_Vals (Dj F c8) w3 hI.lt a1.Vals b1.Vals a3 c2 a5 c4 ⟨(hI.get (.s (.s (.s .z)))), (hI.get (.s (.s (.s (.s (.s .z)))))), trivial⟩ r2 (hx3 hc)).mono fun _ _ k => ⟨k.1, k.2.1⟩) ?_
 intro w4 hx4; replace hI := hI.ext hx4
 refine sq (y_and rfl et et) ?_
 refine sa ?_
 refine nk ?_
 refine c_ret ?_
 obtain rfl := some_inj h
 exact q_ret (vs := [(vb ((((decide (a1.Type_.Kind = b1.Type_.Kind)) && (decide (a1.Type_.Bits = b1.Type_.Bits)) && (decide (a1.Type_.Frac = b1.Type_.Frac)) && (decide (a1.Type_.Round = b1.Type_.Round)) && (decide (a1.Type_.Over = b1.Type_.Over))) && r1) && r2))]) Tryz.results16 ⟨ev_tmp rfl rfl, trivial⟩ ⟨rfl, hI.ext0, hI.fin trivial⟩

set_option maxRecDepth 100000 in
set_option maxHeartbeats 4000000 in
theorem c_shape_Slice (F : NP) (w0 : World) (hF : ∀ k, F k → k < w0.heap.size) (d1 : List Int) (axis1 : Int) (from1 : Int) (to1 : Int) (a1 : Option Addr) (c1 : Nat) (hc : AllCl [Cl.sl (cInt .i64) a1 c1 d1] F w0) (r : List Int × Int)
  (h : m_shape_Slice d1 axis1 from1 to1 = some r) :
  Calls Tryz.prog 68 #[(vs a1 d1.length c1), (vi axis1), (vi from1), (vi to1)] w0 fun e w => ∃ (a2 : Option Addr) (c2 : Nat), e = .returned (Value.tuple #[(vs a2 r.1.length c2), (vi r.2)]) ∧ Ext w0 w ∧ AllCl [Cl.sl (cInt .i64) a2 c2 r.1] F w := by
 refine enterK (l := [(vs a1 d1.length c1), (vi axis1), (vi from1), (vi to1)]) Tryz.func68 rfl Tryz.ntmps68 rfl ?_
 have hI := Bun.start hF hc
 clear hc
 rw [m_shape_Slice] at h
 refine sr ?_
 refine sac ?_
 refine sac ?_
 refine nk ?_
 refine c_seq ?_
 refine sr ?_
 refine sm ?_
 obtain ⟨r1, hx1, h⟩ := bnd_some h
 refine s_call gn rfl (r_callF (vs := [(vs a1 d1.length c1)]) rfl ok_58 ⟨et, trivial⟩) (Calls.mono (c_shape_Validate (Dj F noM) w0 hI.lt d1 a1 c1 ⟨(hI.get .z), trivial⟩ r1 hx1) ?_)
 rintro _ w1 ⟨rfl, hx2, hl1⟩
 refine ⟨_, rfl, ?_⟩
 replace hI := (hI.ext hx2)
 refine sa ?_
 refine nk ?_
 refine sr ?_
 refine sm ?_
 refine sq (y_neq rfl et ev_const) ?_
 refine nk ?_
 refine c_cond (b := !decide (r1 = 0)) et (fun hb => ?_) (fun hb => ?_)
 ·replace h := ite_t hb h
  refine sr ?_
  refine sm ?_
  refine sac ?_
  refine sa ?_
  refine nk ?_
  refine c_ret ?_
  have hI := hI.add (c := Cl.sl (cInt .i64) none 0 ([] : List Int)) SlC.nil
  obtain rfl := some_inj h
  exact q_ret (vs := [(vs none 0 0), (vi r1)]) Tryz.results68 ⟨ev_tmp rfl rfl, ⟨ev_tmp rfl rfl, trivial⟩⟩ ⟨none, 0, rfl, hI.ext0, hI.fin ⟨.z, trivial⟩⟩
 ·replace h := ite_f hb h
  refine c_skip ?_
  refine k_same ?_
  refine c_seq ?_
  refine sr ?_
  refine sm ?_
  refine sq (y_lss rfl et ev_const) ?_
  refine sm ?_
  refine s_gval (g_false rfl rfl rfl rfl) rfl (fun hc => (y_move rfl et)) ?_
  refine s_gval (g_false rfl rfl rfl rfl) rfl (fun hc => (y_move rfl et)) ?_
  refine s_gval (g_false rfl rfl rfl rfl) rfl (fun hc => (y_lenl rfl Tryz.underlying24 (ev_gv et hc))) ?_
  refine s_gval (g_false rfl rfl rfl rfl) rfl (fun hc => (y_geq rfl (ev_gv et hc) (ev_gv et hc))) ?_
  refine sq (y_or rfl et et) ?_
  refine nk ?_
  refine c_cond (b := (decide (axis1 < 0)) || (decide ((d1.length : Int) ≤ axis1))) et (fun hb => ?_) (fun hb => ?_)
  ·replace h := ite_t hb h
   refine sr ?_
   refine sac ?_
   refine sac ?_
   refine nk ?_
   refine c_ret ?_
   have hI := hI.add (c := Cl.sl (cInt .i64) none 0 ([] : List Int)) SlC.nil
   obtain rfl := some_inj h
   exact q_ret (vs := [(vs none 0 0), (vi 11)]) Tryz.results68 ⟨ev_tmp rfl rfl, ⟨ev_tmp rfl rfl, trivial⟩⟩ ⟨none, 0, rfl, hI.ext0, hI.fin ⟨.z, trivial⟩⟩
  ·replace h := ite_f hb h
   refine c_skip ?_
   refine k_same ?_
   refine c_seq ?_
   refine sr ?_
   refine sm ?_
   refine sq (y_lss rfl et ev_const) ?_
   refine sm ?_
   refine s_gval (g_false rfl rfl rfl rfl) rfl (fun hc => (y_move rfl et)) ?_
   refine s_gval (g_false rfl rfl rfl rfl) rfl (fun hc => (y_move rfl et)) ?_
   refine s_gval (g_false rfl rfl rfl rfl) rfl (fun hc => (y_geq rfl (ev_gv et hc) (ev_gv et hc))) ?_
   refine sq (y_or rfl et et) ?_
   refine sm ?_
   refine s_gval (g_false rfl rfl rfl rfl) rfl (fun hc => (y_move rfl et)) ?_
   refine s_gval (g_false rfl rfl rfl rfl) rfl (fun hc => (y_move rfl et)) ?_
   refine s_gval (g_false rfl rfl rfl rfl) rfl (fun hc => (y_move rfl et)) ?_
   obtain ⟨e1, hx3, h⟩ := bnd_some h
   replace hx3 := gd_some hx3
   obtain ⟨ad1, cs1, hq1⟩ := hI.gclat .z hx3
   have hq2 : (!((decide (from1 < 0)) || (decide (to1 ≤ from1)))) = true → CA (Dj F noM) w1 (ad1.add (Int.toNat axis1 * 1)) [(vi e1)] := fun hc => by have k := hq1 hc; have e : cs1 = _ := k.2.1; rw [← e]; exact k.2.2
   refine s_gval (g_false rfl rfl rfl rfl) rfl (fun hc => (y_indexAddr rfl Tryz.underlying24 size_3 (ev_gv et hc) (ev_gv et hc) (lat_bd (hx3 hc)) (hq1 hc).1)) ?_
   refine s_gval (g_false rfl rfl rfl rfl) rfl (fun hc => (y_load1 (v := (vi e1)) rfl (ev_gv et hc) Tryz.underlying3 rfl (hq2 hc).1)) ?_
   refine s_gval (g_false rfl rfl rfl rfl) rfl (fun hc => (y_gtr rfl (ev_gv et hc) (ev_gv et hc))) ?_
   refine sq (y_or rfl et et) ?_
   refine s_nil ?_
   refine k_next (e := [(0, (vs a1 d1.length c1)), (1, (vi axis1)), (2, (vi from1)), (3, (vi to1)), (39, (vb (((decide (from1 < 0)) || (decide (to1 ≤ from1))) || (decide (e1 < to1)))))]) ⟨rfl, rfl, rfl, rfl, rfl, trivial⟩ ?_
   refine c_cond (b := ((decide (from1 < 0)) || (decide (to1 ≤ from1))) || (decide (e1 < to1))) et (fun hb => ?_) (fun hb => ?_)
   ·replace h := ite_t hb h
    refine sr ?_
    refine sac ?_
    refine sac ?_
    refine nk ?_
    refine c_ret ?_
    have hI := hI.add (c := Cl.sl (cInt .i64) none 0 ([] : List Int)) SlC.nil
    obtain rfl := some_inj h
    exact q_ret (vs := [(vs none 0 0), (vi 12)]) Tryz.results68 ⟨ev_tmp rfl rfl, ⟨ev_tmp rfl rfl, trivial⟩⟩ ⟨none, 0, rfl, hI.ext0, hI.fin ⟨.z, trivial⟩⟩
   ·replace h := ite_f hb h
    refine c_skip ?_
    refine k_same ?_
    refine sr ?_
    refine sm ?_
    obtain ⟨c3, f1, hB, hl2, hk1⟩ := hI.hands .n
    obtain ⟨r2, hx4, h⟩ := bnd_some h
    try dsimp only at h
    refine s_call gn rfl (r_callF (vs := [(vs a1 d1.length c1)]) rfl ok_99 ⟨et, trivial⟩) (Calls.mono (c_slices_Clone_int_int_o c3 f1 w1 d1 a1 c1 (hB.subs ⟨.z, trivial⟩) _ hx4) ?_)
    rintro _ w2 ⟨a3, c4, c5, rfl, hB2⟩
    obtain ⟨c6, hs1, hI⟩ := hk1 _ _ _ _ hB2
    replace hI : Bun noM F w0 c6 w2 [MO.row (cInt .i64) 3 a3 c4 r2] [Cl.sl (cInt .i64) a1 c1 d1] := hI
    refine ⟨_, rfl, ?_⟩
    refine sa ?_
    refine nk ?_
    refine sr ?_
    refine sm ?_
    refine sm ?_
    refine sm ?_
    refine sm ?_
    refine sq (y_sub rfl et et) ?_
    obtain ⟨ho1, h⟩ := chk_some h
    obtain ⟨ad2, hA2⟩ := hI.addr .z ho1
    refine sq (y_indexAddr rfl Tryz.underlying24 size_3 et et ho1 hA2) ?_
    refine l_storeRow (p := Int.toNat axis1) (new := [(vi (wi64 (to1 - from1)))]) (off := 0) (x' := wi64 (to1 - from1)) hI .z gn rfl rfl (by have := ho1; omega) hA2 rfl et et rfl size_3 rfl (by show 0 + 1 ≤ 1; omega) (fun _ cs0 _ hr0 => by rw [spl_full (by have e := Cod.len _ hr0; exact e)]; exact rfl) ?_
    clear hI; intro c7 w3 hI
    refine s_nil ?_
    refine k_next (e := [(11, (vs a3 (r2.set (Int.toNat axis1) (wi64 (to1 - from1))).length c4))]) ⟨(lookset rfl), trivial⟩ ?_
    refine sr ?_
    refine sm ?_
    refine sa ?_
    refine sac ?_
    refine nk ?_
    refine c_ret ?_
    obtain ⟨c8, hI⟩ := hI.release .z
    obtain rfl := some_inj h
    exact q_ret (vs := [(vs a3 (r2.set (Int.toNat axis1) (wi64 (to1 - from1))).length c4), (vi 0)]) Tryz.results68 ⟨ev_tmp rfl rfl, ⟨ev_tmp rfl rfl, trivial⟩⟩ ⟨a3, c4, rfl, hI.ext0, hI.fin ⟨.z, trivial⟩⟩

set_option maxRecDepth 100000 in
set_option maxHeartbeats 4000000 in
theorem c_tensor_Slice_1 (F : NP) (w0 : World) (hF : ∀ k, F k → k < w0.heap.size) (p1 : List Int) (a2 : Int) (a3 : Int) (a1 : Option Addr) (c1 : Nat) (b1 : Nat) (b2 : Nat) (hc : AllCl [Cl.sl (cInt .i64) a1 c1 p1, Cl.blk b1 3 #[(vi a2)], Cl.blk b2 3 #[(vi a3)]] F w0) (r : List Int)
  (h : m_tensor_Slice_1 p1 a2 a3 = some r) :
  Calls Tryz.prog 69 #[(vs a1 p1.length c1), (vp b1 0), (vp b2 0)] w0 fun e w => ∃ (a4 : Option Addr) (c2 : Nat), e = .returned (vs a4 r.length c2) ∧ Ext w0 w ∧ AllCl [Cl.sl (cInt .i64) a4 c2 r] F w := by
 refine enterK (l := [(vs a1 p1.length c1), (vp b1 0), (vp b2 0)]) Tryz.func69 rfl Tryz.ntmps69 rfl ?_
 have hI := Bun.start hF hc
 clear hc
 rw [m_tensor_Slice_1] at h
 refine sr ?_
 refine sac ?_
 refine nk ?_
 refine sr ?_
 refine sm ?_
 obtain ⟨zs1, hx1, h⟩ := bnd_some h
 replace hI := hI.nil (cInt .i64) 3 none
 refine l_append (xs := ([] : List Int)) (ys := p1) hI .z (hI.crd .z) hx1 gn rfl rfl Tryz.underlying24 info_3 rfl rfl ev_const et ?_
 clear hI; intro a5 c3 c4 w1 hI
 refine sa ?_
 refine nk ?_
 refine c_seq ?_
 refine c_drawX [7] false (.c (0, .q) (.c (1, .q) (.c (2, .q) (.c (3, .q) (.c (4, .q) (.c (5, .q) (.c (6, .q) (.c (7, .s) .n)))))))) hI (by kernel_rfl) (by kernel_rfl) ?_
 clear hI; intro w2 hI
 refine a_q rfl gn rfl (fun w' => (y_move rfl et)) ?_
 refine a_read rfl gn rfl (fun w' hw' => (y_load1 (v := (vi a2)) rfl et Tryz.underlying3 rfl ((hI.kblk (l := [(vi a2)]) (.s .z) rfl).at_ (SX.any rfl hw')))) (by kernel_rfl) ?_
 obtain ⟨e1, hx2, h⟩ := bnd_some h
 obtain ⟨ad1, cs1, hA1, hr1, hq1⟩ := hI.olat .z hx2
 obtain rfl : cs1 = [(vi e1)] := hr1
 refine a_q rfl gn rfl (fun w' => (y_indexAddr rfl Tryz.underlying24 size_3 et et (lat_bd hx2) hA1)) ?_
 refine a_read rfl gn rfl (fun w' hw' => (y_load1 (v := (vi e1)) rfl et Tryz.underlying3 rfl (hq1.at_ (SX.any rfl hw')))) (by kernel_rfl) ?_
 refine a_read rfl gn rfl (fun w' hw' => (y_load1 (v := (vi a3)) rfl et Tryz.underlying3 rfl ((hI.kblk (l := [(vi a3)]) (.s (.s .z)) rfl).at_ (SX.any rfl hw')))) (by kernel_rfl) ?_
 refine a_q rfl gn rfl (fun w' => (y_add rfl et et)) ?_
 obtain ⟨ho1, h⟩ := chk_some h
 obtain ⟨ad2, hA2⟩ := hI.addr .z ho1
 refine a_q rfl gn rfl (fun w' => (y_indexAddr rfl Tryz.underlying24 size_3 et et ho1 hA2)) ?_
 refine a_turn (F := F) (C := c4) rfl rfl ?_
 refine la_storeRow (p := Int.toNat a2) (new := [(vi (wi64 (e1 + a3)))]) (off := 0) (x' := wi64 (e1 + a3)) hI .z rfl gn rfl rfl (by have := ho1; omega) hA2 rfl et et rfl size_3 rfl (by show 0 + 1 ≤ 1; omega) (fun _ cs0 _ hr0 => by rw [spl_full (by have e := Cod.len _ hr0; exact e)]; exact rfl) ?_
 clear hI; intro c5 w3 hI
 refine a_nil ?_
 refine k_next (e := [(5, (vs a5 (zs1.set (Int.toNat a2) (wi64 (e1 + a3))).length c3))]) ⟨(lookset rfl), trivial⟩ ?_
 refine sr ?_
 refine sm ?_
 refine sa ?_
 refine nk ?_
 refine c_ret ?_
 obtain ⟨c6, hI⟩ := hI.release .z
 obtain rfl := some_inj h
 exact q_ret (vs := [(vs a5 (zs1.set (Int.toNat a2) (wi64 (e1 + a3))).length c3)]) Tryz.results69 ⟨ev_tmp rfl rfl, trivial⟩ ⟨a5, c3, rfl, hI.ext0, hI.fin ⟨.z, trivial⟩⟩

set_option maxRecDepth 100000 in
set_option maxHeartbeats 4000000 in
theorem c_tensor_Slice (F : NP) (w0 : World) (hF : ∀ k, F k → k < w0.heap.size) (t1 : GTensor) (axis1 : Int) (from1 : Int) (to1 : Int) (a1 : Option Addr) (c1 : Nat) (a2 : Option Addr) (c2 : Nat) (hc : AllCl [Cl.sl (cInt .i64) a1 c1 t1.Dims, Cl.sl cGVal a2 c2 t1.Vals] F w0) (r : GTensor × Int)
  (h : m_tensor_Slice t1 axis1 from1 to1 = some r) :
  Calls Tryz.prog 32 #[(Value.agg #[(vi t1.Type_.Kind), (vi t1.Type_.Bits), (vi t1.Type_.Frac), (vi t1.Type_.Round), (vi t1.Type_.Over), (vs a1 t1.Dims.length c1), (vs a2 t1.Vals.length c2)]), (vi axis1), (vi from1), (vi to1)] w0 fun e w => ∃ (a3 : Option Addr) (c3 : Nat) (a4 : Option Addr) (c4 : Nat), e = .returned (Value.tuple #[(Value.agg #[(vi r.1.Type_.Kind), (vi r.1.Type_.Bits), (vi r.1.Type_.Frac), (vi r.1.Type_.Round), (vi r.1.Type_.Over), (vs a3 r.1.Dims.length c3), (vs a4 r.1.Vals.length c4)]), (vi r.2)]) ∧ Ext w0 w ∧ AllCl [Cl.sl (cInt .i64) a3 c3 r.1.Dims, Cl.sl cGVal a4 c4 r.1.Vals] F w := by
 refine enterK (l := [(Value.agg #[(vi t1.Type_.Kind), (vi t1.Type_.Bits), (vi t1.Type_.Frac), (vi t1.Type_.Round), (vi t1.Type_.Over), (vs a1 t1.Dims.length c1), (vs a2 t1.Vals.length c2)]), (vi axis1), (vi from1), (vi to1)]) Tryz.func32 rfl Tryz.ntmps32 rfl ?_
 have hI := Bun.start hF hc
 clear hc
 rw [m_tensor_Slice] at h
 refine sr ?_
 refine l_box (v := (Value.agg #[(vi t1.Type_.Kind), (vi t1.Type_.Bits), (vi t1.Type_.Frac), (vi t1.Type_.Round), (vi t1.Type_.Over), (vs a1 t1.Dims.length c1), (vs a2 t1.Vals.length c2)])) (cs := #[(vi t1.Type_.Kind), (vi t1.Type_.Bits), (vi t1.Type_.Frac), (vi t1.Type_.Round), (vi t1.Type_.Over), (vs a1 t1.Dims.length c1), (vs a2 t1.Vals.length c2)]) hI gn rfl rfl et rfl ?_
 clear hI; intro b1 c5 w1 hI
 obtain ⟨c6, hI⟩ := hI.relBox .z
 refine l_box (v := (vi axis1)) (cs := #[(vi axis1)]) hI gn rfl rfl et rfl ?_
 clear hI; intro b2 c7 w2 hI
 obtain ⟨c8, hI⟩ := hI.relBox .z
 refine l_box (v := (vi from1)) (cs := #[(vi from1)]) hI gn rfl rfl et rfl ?_
 clear hI; intro b3 c9 w3 hI
 obtain ⟨c10, hI⟩ := hI.relBox .z
 refine l_alloc (cs := #[(vi 0), (vi 0), (vi 0), (vi 0), (vi 0), (vs none 0 0), (vs none 0 0)]) hI gn rfl rfl zero_27 rfl ?_
 clear hI; intro b4 c11 w4 hI
 refine sac ?_
 refine nk ?_
 refine c_seq ?_
 refine sr ?_
 refine sq (y_loadN (l := [(vi t1.Type_.Kind), (vi t1.Type_.Bits), (vi t1.Type_.Frac), (vi t1.Type_.Round), (vi t1.Type_.Over), (vs a1 t1.Dims.length c1), (vs a2 t1.Vals.length c2)]) rfl et Tryz.underlying27 rfl size_27 (hI.kblk (l := [(vi t1.Type_.Kind), (vi t1.Type_.Bits), (vi t1.Type_.Frac), (vi t1.Type_.Round), (vi t1.Type_.Over), (vs a1 t1.Dims.length c1), (vs a2 t1.Vals.length c2)]) (.s (.s .z)) rfl).1) ?_
 obtain ⟨r1, hx1, h⟩ := bnd_some h
 refine s_call gn rfl (r_callF (vs := [(Value.agg #[(vi t1.Type_.Kind), (vi t1.Type_.Bits), (vi t1.Type_.Frac), (vi t1.Type_.Round), (vi t1.Type_.Over), (vs a1 t1.Dims.length c1), (vs a2 t1.Vals.length c2)])]) rfl ok_25 ⟨et, trivial⟩) (Calls.mono (c_tensor_Validate (Dj F c11) w4 hI.lt t1 a1 c1 a2 c2 ⟨(hI.get (.s (.s (.s .z)))), (hI.get (.s (.s (.s (.s .z))))), trivial⟩ r1 hx1) ?_)
 rintro _ w5 ⟨rfl, hx2, hl1⟩
 refine ⟨_, rfl, ?_⟩
 replace hI := (hI.ext hx2)
 refine sa ?_
 refine nk ?_
 refine sr ?_
 refine sm ?_
 refine sq (y_neq rfl et ev_const) ?_
 refine nk ?_
 refine c_cond (b := !decide (r1 = 0)) et (fun hb => ?_) (fun hb => ?_)
 ·replace h := ite_t hb h
  refine sr ?_
  refine sq (y_build (vs := []) (cs := #[(vi 0), (vi 0), (vi 0), (vi 0), (vi 0), (vs none 0 0), (vs none 0 0)]) rfl trivial (by kernel_rfl)) ?_
  refine sm ?_
  refine l_store (new := [(vi 0), (vi 0), (vi 0), (vi 0), (vi 0), (vs none 0 0), (vs none 0 0)]) (cs' := #[(vi 0), (vi 0), (vi 0), (vi 0), (vi 0), (vs none 0 0), (vs none 0 0)]) hI .z gn rfl rfl et et rfl size_27 rfl rfl rfl ?_
  clear hI; intro c12 w6 hI
  refine sa ?_
  refine nk ?_
  refine c_ret ?_
  have hI := hI.add (c := Cl.sl (cInt .i64) none 0 ([] : List Int)) SlC.nil
  have hI := hI.add (c := Cl.sl cGVal none 0 ([] : List GVal)) SlC.nil
  obtain rfl := some_inj h
  exact q_ret (vs := [(Value.agg #[(vi 0), (vi 0), (vi 0), (vi 0), (vi 0), (vs none 0 0), (vs none 0 0)]), (vi r1)]) Tryz.results32 ⟨⟨_, ev_tmp rfl rfl, load_agg (l := [(vi 0), (vi 0), (vi 0), (vi 0), (vi 0), (vs none 0 0), (vs none 0 0)]) Tryz.underlying27 rfl size_27 (CellsAt.of_blk (hI.blk .z) rfl)⟩, ⟨ev_tmp rfl rfl, trivial⟩⟩ ⟨none, 0, none, 0, rfl, hI.ext0, hI.fin ⟨(.s .z), .z, trivial⟩⟩
 ·replace h := ite_f hb h
  refine c_skip ?_
  refine k_same ?_
  refine sr ?_
  refine sq (y_fieldAddr rfl et Tryz.underlying27 rfl size_24 rfl) ?_
  refine sq (y_load1 (v := (vs a1 t1.Dims.length c1)) rfl et Tryz.underlying24 rfl (hI.kblk (l := [(vs a1 t1.Dims.length c1)]) (.s (.s .z)) rfl).1) ?_
  refine sq (y_load1 (v := (vi axis1)) rfl et Tryz.underlying3 rfl (hI.kblk (l := [(vi axis1)]) (.s .z) rfl).1) ?_
  refine sq (y_load1 (v := (vi from1)) rfl et Tryz.underlying3 rfl (hI.kblk (l := [(vi from1)]) .z rfl).1) ?_
  refine sm ?_
  obtain ⟨r2, hx3, h⟩ := bnd_some h
  refine s_call gn rfl (r_callF (vs := [(vs a1 t1.Dims.length c1), (vi axis1), (vi from1), (vi to1)]) rfl ok_68 ⟨et, ⟨et, ⟨et, ⟨et, trivial⟩⟩⟩⟩) (Calls.mono (c_shape_Slice (Dj F c11) w5 hI.lt t1.Dims axis1 from1 to1 a1 c1 ⟨(hI.get (.s (.s (.s .z)))), trivial⟩ r2 hx3) ?_)
  rintro _ w7 ⟨a5, c13, rfl, hx4, hl2⟩
  refine ⟨_, rfl, ?_⟩
  replace hI := (hI.ext hx4).adds hl2
  refine sm ?_
  refine sq (y_extract rfl et rfl) ?_
  refine sq (y_extract rfl et rfl) ?_
  refine sa ?_
  refine sa ?_
  refine nk ?_
  refine c_seq ?_
  refine sr ?_
  refine sm ?_
  refine sq (y_neq rfl et ev_const) ?_
  refine nk ?_
  refine c_cond (b := !decide (r2.2 = 0)) et (fun hb => ?_) (fun hb => ?_)
  ·replace h := ite_t hb h
   refine sr ?_
   refine sq (y_build (vs := []) (cs := #[(vi 0), (vi 0), (vi 0), (vi 0), (vi 0), (vs none 0 0), (vs none 0 0)]) rfl trivial (by kernel_rfl)) ?_
   refine sm ?_
   refine l_store (new := [(vi 0), (vi 0), (vi 0), (vi 0), (vi 0), (vs none 0 0), (vs none 0 0)]) (cs' := #[(vi 0), (vi 0), (vi 0), (vi 0), (vi 0), (vs none 0 0), (vs none 0 0)]) hI .z gn rfl rfl et et rfl size_27 rfl rfl rfl ?_
   clear hI; intro c14 w8 hI
   refine sa ?_
   refine s_nil ?_
   refine k_next (e := [(8, (vp b4 0)), (9, (vi r2.2))]) ⟨rfl, rfl, trivial⟩ ?_
   refine c_ret ?_
   have hI := hI.add (c := Cl.sl (cInt .i64) none 0 ([] : List Int)) SlC.nil
   have hI := hI.add (c := Cl.sl cGVal none 0 ([] : List GVal)) SlC.nil
   obtain rfl := some_inj h
   exact q_ret (vs := [(Value.agg #[(vi 0), (vi 0), (vi 0), (vi 0), (vi 0), (vs none 0 0), (vs none 0 0)]), (vi r2.2)]) Tryz.results32 ⟨⟨_, ev_tmp rfl rfl, load_agg (l := [(vi 0), (vi 0), (vi 0), (vi 0), (vi 0), (vs none 0 0), (vs none 0 0)]) Tryz.underlying27 rfl size_27 (CellsAt.of_blk (hI.blk .z) rfl)⟩, ⟨ev_tmp rfl rfl, trivial⟩⟩ ⟨none, 0, none, 0, rfl, hI.ext0, hI.fin ⟨(.s .z), .z, trivial⟩⟩
  ·replace h := ite_f hb h
   refine c_skip ?_
   refine k_same ?_
   refine sr ?_
   refine sq (y_loadN (l := [(vi t1.Type_.Kind), (vi t1.Type_.Bits), (vi t1.Type_.Frac), (vi t1.Type_.Round), (vi t1.Type_.Over), (vs a1 t1.Dims.length c1), (vs a2 t1.Vals.length c2)]) rfl et Tryz.underlying27 rfl size_27 (hI.kblk (l := [(vi t1.Type_.Kind), (vi t1.Type_.Bits), (vi t1.Type_.Frac), (vi t1.Type_.Round), (vi t1.Type_.Over), (vs a1 t1.Dims.length c1), (vs a2 t1.Vals.length c2)]) (.s (.s (.s .z))) rfl).1) ?_
   refine sm ?_
   refine sq (y_makeFunc (vs := []) (cap := [(vp b2 0), (vp b3 0)]) rfl rfl ⟨et, ⟨et, trivial⟩⟩) ?_
   have hI := hI.add (c := clFn_k3 (Value.func (.func 69) #[] #[(vp b2 0), (vp b3 0)]) (fun y_1 => m_tensor_Slice_1 y_1 axis1 from1)) ⟨rfl, fun D' w' hs hl x_1 A_2 c_3 r k h => CallV.fn (cap := [(vp b2 0), (vp b3 0)]) ok_69 (c_tensor_Slice_1 D' w' hl x_1 axis1 from1 A_2 c_3 b2 b3 ⟨k.1, (Cl.sp _ hs (hI.get (.s (.s .z)))), (Cl.sp _ hs (hI.get (.s .z))), trivial⟩ r h)⟩
   obtain ⟨r3, hx5, h⟩ := bnd_some h
   refine s_call gn rfl (r_callF (vs := [(Value.agg #[(vi t1.Type_.Kind), (vi t1.Type_.Bits), (vi t1.Type_.Frac), (vi t1.Type_.Round), (vi t1.Type_.Over), (vs a1 t1.Dims.length c1), (vs a2 t1.Vals.length c2)]), (vs a5 r2.1.length c13), (Value.func (.func 69) #[] #[(vp b2 0), (vp b3 0)])]) rfl ok_66 ⟨et, ⟨et, ⟨et, trivial⟩⟩⟩) (Calls.mono (c_tensor_gather (Dj F c11) w7 hI.lt t1 r2.1 (fun y_1 => m_tensor_Slice_1 y_1 axis1 from1) a1 c1 a2 c2 a5 c13 (Value.func (.func 69) #[] #[(vp b2 0), (vp b3 0)]) ⟨(hI.get (.s (.s (.s (.s (.s .z)))))), (hI.get (.s (.s (.s (.s (.s (.s .z))))))), (hI.get (.s .z)), (hI.get .z), trivial⟩ r3 hx5) ?_)
   rintro _ w9 ⟨a6, c15, a7, c16, rfl, hx6, hl3⟩
   refine ⟨_, rfl, ?_⟩
   replace hI := (hI.ext hx6).adds hl3
   refine l_store (new := [(vi r3.Type_.Kind), (vi r3.Type_.Bits), (vi r3.Type_.Frac), (vi r3.Type_.Round), (vi r3.Type_.Over), (vs a6 r3.Dims.length c15), (vs a7 r3.Vals.length c16)]) (cs' := #[(vi r3.Type_.Kind), (vi r3.Type_.Bits), (vi r3.Type_.Frac), (vi r3.Type_.Round), (vi r3.Type_.Over), (vs a6 r3.Dims.length c15), (vs a7 r3.Vals.length c16)]) hI .z gn rfl rfl et et rfl size_27 rfl rfl rfl ?_
   clear hI; intro c17 w10 hI
   refine sac ?_
   refine s_nil ?_
   refine k_next (e := [(8, (vp b4 0)), (9, (vi 0))]) ⟨rfl, rfl, trivial⟩ ?_
   refine c_ret ?_
   obtain rfl := some_inj h
   exact q_ret (vs := [(Value.agg #[(vi r3.Type_.Kind), (vi r3.Type_.Bits), (vi r3.Type_.Frac), (vi r3.Type_.Round), (vi r3.Type_.Over), (vs a6 r3.Dims.length c15), (vs a7 r3.Vals.length c16)]), (vi 0)]) Tryz.results32 ⟨⟨_, ev_tmp rfl rfl, load_agg (l := [(vi r3.Type_.Kind), (vi r3.Type_.Bits), (vi r3.Type_.Frac), (vi r3.Type_.Round), (vi r3.Type_.Over), (vs a6 r3.Dims.length c15), (vs a7 r3.Vals.length c16)]) Tryz.underlying27 rfl size_27 (CellsAt.of_blk (hI.blk .z) rfl)⟩, ⟨ev_tmp rfl rfl, trivial⟩⟩ ⟨a6, c15, a7, c16, rfl, hI.ext0, hI.fin ⟨.z, (.s .z), trivial⟩⟩

set_option maxRecDepth 100000 in
set_option maxHeartbeats 4000000 in
theorem c_tensor_joinable (F : NP) (w0 : World) (hF : ∀ k, F k → k < w0.heap.size) (axis1 : Int) (l1 : List GTensor) (a1 : Option Addr) (c1 : Nat) (hc : AllCl [Cl.sl cGTensor a1 c1 l1] F w0) (r : Int)
  (h : m_tensor_joinable axis1 l1 = some r) :
  Calls Tryz.prog 71 #[(vi axis1), (vs a1 l1.length c1)] w0 fun e w => e = .returned (vi r) ∧ Ext w0 w ∧ AllCl [] F w := by
 refine enterK (l := [(vi axis1), (vs a1 l1.length c1)]) Tryz.func71 rfl Tryz.ntmps71 rfl ?_
 have hI := Bun.start hF hc
 clear hc
 rw [m_tensor_joinable] at h
 refine sr ?_
 refine sac ?_
 refine nk ?_
 refine c_seq ?_
 refine sr ?_
 refine sm ?_
 refine sq (y_lenl rfl Tryz.underlying58 et) ?_
 refine sq (y_eql rfl et ev_const) ?_
 refine nk ?_
 refine c_cond (b := decide ((l1.length : Int) = 0)) et (fun hb => ?_) (fun hb => ?_)
 ·replace h := ite_t hb h
  refine sr ?_
  refine sac ?_
  refine nk ?_
  refine c_ret ?_
  obtain rfl := some_inj h
  exact q_ret (vs := [(vi 1)]) Tryz.results71 ⟨ev_tmp rfl rfl, trivial⟩ ⟨rfl, hI.ext0, hI.fin trivial⟩
 ·replace h := ite_f hb h
  refine c_skip ?_
  refine k_same ?_
  refine c_join (α := Unit) (fun _ => ⟨91, []⟩) (fun _ => [(0, (vi axis1)), (1, (vs a1 l1.length c1))]) (fun _ => fun w => ∃ C, Bun noM F w0 C w [] [Cl.sl cGTensor a1 c1 l1] ∧ m_tensor_joinable_j1 l1 axis1 = some r) ?_ ?_
  ·clear h hI; rintro _ w1 ⟨c2, hI, h⟩
   try dsimp only at hI h
   rw [m_tensor_joinable_j1] at h
   refine c_sub (e := [(0, (vi axis1)), (1, (vs a1 l1.length c1))]) ⟨rfl, rfl, trivial⟩ ?_
   refine sr ?_
   refine sm ?_
   obtain ⟨e1, hx1, h⟩ := bnd_some h
   obtain ⟨ad1, cs1, hA1, hr1, hq1⟩ := hI.clat .z hx1
   obtain ⟨a2, c3, a3, c4, rfl, hf1, hf2⟩ := hr1
   have hI := hI.add (c := Cl.sl (cInt .i64) a2 c3 e1.Dims) hf1
   have hI := hI.add (c := Cl.sl cGVal a3 c4 e1.Vals) hf2
   refine sq (y_indexAddr rfl Tryz.underlying58 size_27 et ev_const (lat_bd hx1) hA1) ?_
   refine sq (y_loadN (l := [(vi e1.Type_.Kind), (vi e1.Type_.Bits), (vi e1.Type_.Frac), (vi e1.Type_.Round), (vi e1.Type_.Over), (vs a2 e1.Dims.length c3), (vs a3 e1.Vals.length c4)]) rfl et Tryz.underlying27 rfl size_27 hq1.1) ?_
   refine l_alloc (cs := #[(vi 0), (vi 0), (vi 0), (vi 0), (vi 0), (vs none 0 0), (vs none 0 0)]) hI gn rfl rfl zero_27 rfl ?_
   clear hI; intro b1 c5 w2 hI
   refine l_store (new := [(vi e1.Type_.Kind), (vi e1.Type_.Bits), (vi e1.Type_.Frac), (vi e1.Type_.Round), (vi e1.Type_.Over), (vs a2 e1.Dims.length c3), (vs a3 e1.Vals.length c4)]) (cs' := #[(vi e1.Type_.Kind), (vi e1.Type_.Bits), (vi e1.Type_.Frac), (vi e1.Type_.Round), (vi e1.Type_.Over), (vs a2 e1.Dims.length c3), (vs a3 e1.Vals.length c4)]) hI .z gn rfl rfl et et rfl size_27 rfl rfl rfl ?_
   clear hI; intro c6 w3 hI
   refine nk ?_
   refine c_join (α := Unit) (fun _ => ⟨91, []⟩) (fun _ => [(0, (vi axis1)), (1, (vs a1 l1.length c1)), (8, (vp b1 0))]) (fun _ => fun w => ∃ C, Bun noM F w0 C w [MO.box b1 27 #[(vi e1.Type_.Kind), (vi e1.Type_.Bits), (vi e1.Type_.Frac), (vi e1.Type_.Round), (vi e1.Type_.Over), (vs a2 e1.Dims.length c3), (vs a3 e1.Vals.length c4)]] [Cl.sl cGTensor a1 c1 l1, Cl.sl (cInt .i64) a2 c3 e1.Dims, Cl.sl cGVal a3 c4 e1.Vals] ∧ m_tensor_joinable_j2 axis1 e1 l1 = some r) ?_ ?_
   ·clear h hI; rintro _ w4 ⟨c7, hI, h⟩
    try dsimp only at hI h
    rw [m_tensor_joinable_j2] at h
    refine c_sub (e := [(0, (vi axis1)), (1, (vs a1 l1.length c1)), (8, (vp b1 0))]) ⟨rfl, rfl, rfl, trivial⟩ ?_
    refine c_seq ?_
    refine sr ?_
    refine sm ?_
    refine sq (y_lss rfl et ev_const) ?_
    refine sm ?_
    refine s_gval (g_false rfl rfl rfl rfl) rfl (fun hc => (y_move rfl et)) ?_
    refine s_gval (g_false rfl rfl rfl rfl) rfl (fun hc => (y_fieldAddr rfl et Tryz.underlying27 rfl size_24 rfl)) ?_
    refine s_gval (g_false rfl rfl rfl rfl) rfl (fun hc => (y_load1 (v := (vs a2 e1.Dims.length c3)) rfl (ev_gv et hc) Tryz.underlying24 rfl (CellsAt.of_blk (hI.blk .z) rfl))) ?_
    refine s_gval (g_false rfl rfl rfl rfl) rfl (fun hc => (y_lenl rfl Tryz.underlying24 (ev_gv et hc))) ?_
    refine s_gval (g_false rfl rfl rfl rfl) rfl (fun hc => (y_geq rfl (ev_gv et hc) (ev_gv et hc))) ?_
    refine sq (y_or rfl et et) ?_
    refine nk ?_
    refine c_cond (b := (decide (axis1 < 0)) || (decide ((e1.Dims.length : Int) ≤ axis1))) et (fun hb => ?_) (fun hb => ?_)
    ·replace h := ite_t hb h
     refine sr ?_
     refine sac ?_
     refine nk ?_
     refine c_ret ?_
     obtain rfl := some_inj h
     exact q_ret (vs := [(vi 11)]) Tryz.results71 ⟨ev_tmp rfl rfl, trivial⟩ ⟨rfl, hI.ext0, hI.fin trivial⟩
    ·replace h := ite_f hb h
     refine c_skip ?_
     refine k_same ?_
     refine c_seq ?_
     refine sr ?_
     refine sm ?_
     obtain ⟨zs1, hx2, h⟩ := bnd_some h
     obtain ⟨a4, hB1⟩ : ∃ B : Option Addr, B = (if c1 = Int.toNat 1 then a1 else Option.map (·.add (Int.toNat 1 * 7)) a1) := ⟨_, rfl⟩
     refine sq (y_lfrom rfl Tryz.underlying58 size_27 et ev_const hx2 hB1) ?_
     replace hI := hI.from_ .z hx2 hB1
     refine sq (y_lenl rfl Tryz.underlying58 et) ?_
     refine sq (y_move rfl ev_const) ?_
     refine nk ?_
     refine c_block ?_
     refine c_loop (α := Nat × Int) (fun x => fun w => ∃ C, Bun noM F w0 C w [MO.box b1 27 #[(vi e1.Type_.Kind), (vi e1.Type_.Bits), (vi e1.Type_.Frac), (vi e1.Type_.Round), (vi e1.Type_.Over), (vs a2 e1.Dims.length c3), (vs a3 e1.Vals.length c4)]] [Cl.sl (cInt .i64) a2 c3 e1.Dims, Cl.sl cGVal a3 c4 e1.Vals, Cl.sl cGTensor a4 (c1 - Int.toNat 1) zs1] ∧ m_tensor_joinable_l1 zs1 axis1 e1 (x.1) (x.2) = some r) (fun x _ => x.1) (fun x => [(0, (vi axis1)), (8, (vp b1 0)), (63, (vs a4 zs1.length (c1 - Int.toNat 1))), (64, (vi (zs1.length : Int))), (65, (vi (x.2)))]) (fu, 0) ⟨_, hI.arr (.c .z .n) ⟨(.s (.s .z)), (.s (.s (.s .z))), .z, trivial⟩, h⟩ ⟨rfl, rfl, rfl, rfl, rfl, trivial⟩ ?_
     clear h hI; rintro ⟨fuel1, i1⟩ w5 ⟨c8, hI, h⟩
     dsimp only at hI h
     rcases fuel1 with _ | fuel1
     ·rw [m_tensor_joinable_l1] at h; cases h
     rw [m_tensor_joinable_l1] at h
     refine c_sub (e := [(0, (vi axis1)), (8, (vp b1 0)), (63, (vs a4 zs1.length (c1 - Int.toNat 1))), (64, (vi (zs1.length : Int))), (65, (vi i1))]) ⟨rfl, rfl, rfl, rfl, rfl, trivial⟩ ?_
     refine sr ?_
     refine sq (y_lss rfl et et) ?_
     refine nk ?_
     refine c_seq ?_
     refine c_cond (b := decide (i1 < (zs1.length : Int))) et (fun hb => ?_) (fun hb => ?_)
     ·replace h := ite_t hb h
      refine c_skip ?_
      refine k_same ?_
      refine c_join (α := Unit) (fun _ => ⟨91, []⟩) (fun _ => [(0, (vi axis1)), (8, (vp b1 0)), (63, (vs a4 zs1.length (c1 - Int.toNat 1))), (64, (vi (zs1.length : Int))), (65, (vi i1))]) (fun _ => fun w => ∃ C, Bun noM F w0 C w [MO.box b1 27 #[(vi e1.Type_.Kind), (vi e1.Type_.Bits), (vi e1.Type_.Frac), (vi e1.Type_.Round), (vi e1.Type_.Over), (vs a2 e1.Dims.length c3), (vs a3 e1.Vals.length c4)]] [Cl.sl (cInt .i64) a2 c3 e1.Dims, Cl.sl cGVal a3 c4 e1.Vals, Cl.sl cGTensor a4 (c1 - Int.toNat 1) zs1] ∧ m_tensor_joinable_j3 (m_tensor_joinable_l1 zs1 axis1 e1 fuel1) i1 = some r) ?_ ?_
      ·clear h hI; rintro _ w6 ⟨c9, hI, h⟩
       try dsimp only at hI h
       rw [m_tensor_joinable_j3] at h
       refine c_sub (e := [(0, (vi axis1)), (8, (vp b1 0)), (63, (vs a4 zs1.length (c1 - Int.toNat 1))), (64, (vi (zs1.length : Int))), (65, (vi i1))]) ⟨rfl, rfl, rfl, rfl, rfl, trivial⟩ ?_
       refine c_region rfl ?_
       refine sq (y_add rfl et ev_const) ?_
       refine sm ?_
       refine s_nil ?_
       exact k_loop (fuel1, wi64 (i1 + 1)) ⟨rfl, rfl, rfl, rfl, rfl, trivial⟩ ⟨_, hI.arr (.c .z .n) ⟨.z, (.s .z), (.s (.s .z)), trivial⟩, h⟩ (Nat.lt_succ_self _)
      ·skip
       refine c_block ?_
       refine sr ?_
       obtain ⟨e2, hx3, h⟩ := bnd_some h
       obtain ⟨ad2, cs2, hA2, hr2, hq2⟩ := hI.clat (.s (.s .z)) hx3
       obtain ⟨a5, c10, a6, c11, rfl, hf3, hf4⟩ := hr2
       have hI := hI.add (c := Cl.sl (cInt .i64) a5 c10 e2.Dims) hf3
       have hI := hI.add (c := Cl.sl cGVal a6 c11 e2.Vals) hf4
       refine sq (y_indexAddr rfl Tryz.underlying58 size_27 et et (lat_bd hx3) hA2) ?_
       refine sq (y_loadN (l := [(vi e2.Type_.Kind), (vi e2.Type_.Bits), (vi e2.Type_.Frac), (vi e2.Type_.Round), (vi e2.Type_.Over), (vs a5 e2.Dims.length c10), (vs a6 e2.Vals.length c11)]) rfl et Tryz.underlying27 rfl size_27 hq2.1) ?_
       refine l_alloc (cs := #[(vi 0), (vi 0), (vi 0), (vi 0), (vi 0), (vs none 0 0), (vs none 0 0)]) hI gn rfl rfl zero_27 rfl ?_
       clear hI; intro b2 c12 w7 hI
       refine l_store (new := [(vi e2.Type_.Kind), (vi e2.Type_.Bits), (vi e2.Type_.Frac), (vi e2.Type_.Round), (vi e2.Type_.Over), (vs a5 e2.Dims.length c10), (vs a6 e2.Vals.length c11)]) (cs' := #[(vi e2.Type_.Kind), (vi e2.Type_.Bits), (vi e2.Type_.Frac), (vi e2.Type_.Round), (vi e2.Type_.Over), (vs a5 e2.Dims.length c10), (vs a6 e2.Vals.length c11)]) hI .z gn rfl rfl et et rfl size_27 rfl rfl rfl ?_
       clear hI; intro c13 w8 hI
       refine nk ?_
       refine sr ?_
       refine sq (y_fieldAddr rfl et Tryz.underlying27 rfl size_24 rfl) ?_
       refine sq (y_load1 (v := (vs a5 e2.Dims.length c10)) rfl et Tryz.underlying24 rfl (CellsAt.of_blk (hI.blk .z) rfl)) ?_
       refine sq (y_lenl rfl Tryz.underlying24 et) ?_
       refine sq (y_move rfl ev_const) ?_
       refine nk ?_
       refine c_block ?_
       refine c_loop (α := Nat × Int) (fun x => fun w => ∃ C, Bun noM F w0 C w [MO.box b1 27 #[(vi e1.Type_.Kind), (vi e1.Type_.Bits), (vi e1.Type_.Frac), (vi e1.Type_.Round), (vi e1.Type_.Over), (vs a2 e1.Dims.length c3), (vs a3 e1.Vals.length c4)]] [Cl.sl (cInt .i64) a2 c3 e1.Dims, Cl.sl cGVal a3 c4 e1.Vals, Cl.sl cGTensor a4 (c1 - Int.toNat 1) zs1, Cl.sl (cInt .i64) a5 c10 e2.Dims] ∧ m_tensor_joinable_l2 e2 axis1 e1 (m_tensor_joinable_l1 zs1 axis1 e1 fuel1) i1 (x.1) (x.2) = some r) (fun x _ => x.1) (fun x => [(0, (vi axis1)), (8, (vp b1 0)), (63, (vs a4 zs1.length (c1 - Int.toNat 1))), (64, (vi (zs1.length : Int))), (65, (vi i1)), (70, (vs a5 e2.Dims.length c10)), (71, (vi (e2.Dims.length : Int))), (72, (vi (x.2)))]) (fu, 0) ⟨_, hI.arr (.c (.s .z) .n) ⟨(.s (.s .z)), (.s (.s (.s .z))), (.s (.s (.s (.s .z)))), (.s .z), trivial⟩, h⟩ ⟨rfl, rfl, rfl, rfl, rfl, rfl, rfl, rfl, trivial⟩ ?_
       clear h hI; rintro ⟨fuel2, i2⟩ w9 ⟨c14, hI, h⟩
       dsimp only at hI h
       rcases fuel2 with _ | fuel2
       ·rw [m_tensor_joinable_l2] at h; cases h
       rw [m_tensor_joinable_l2] at h
       refine c_sub (e := [(0, (vi axis1)), (8, (vp b1 0)), (63, (vs a4 zs1.length (c1 - Int.toNat 1))), (64, (vi (zs1.length : Int))), (65, (vi i1)), (70, (vs a5 e2.Dims.length c10)), (71, (vi (e2.Dims.length : Int))), (72, (vi i2))]) ⟨rfl, rfl, rfl, rfl, rfl, rfl, rfl, rfl, trivial⟩ ?_
       refine sr ?_
       refine sq (y_lss rfl et et) ?_
       refine nk ?_
       refine c_seq ?_
       refine c_cond (b := decide (i2 < (e2.Dims.length : Int))) et (fun hb => ?_) (fun hb => ?_)
       ·replace h := ite_t hb h
        refine c_skip ?_
        refine k_same ?_
        refine c_seq ?_
        refine c_block ?_
        refine sr ?_
        refine sm ?_
        obtain ⟨e3, hx4, h⟩ := bnd_some h
        obtain ⟨ad3, cs3, hA3, hr3, hq3⟩ := hI.clat (.s (.s (.s .z))) hx4
        obtain rfl : cs3 = [(vi e3)] := hr3
        refine sq (y_indexAddr rfl Tryz.underlying24 size_3 et et (lat_bd hx4) hA3) ?_
        refine sq (y_load1 (v := (vi e3)) rfl et Tryz.underlying3 rfl hq3.1) ?_
        refine sa ?_
        refine sa ?_
        refine nk ?_
        refine sr ?_
        refine sm ?_
        refine sm ?_
        refine sq (y_neq rfl et et) ?_
        refine sm ?_
        refine s_gval (g_true rfl rfl rfl rfl) rfl (fun hc => (y_move rfl et)) ?_
        refine s_gval (g_true rfl rfl rfl rfl) rfl (fun hc => (y_fieldAddr rfl et Tryz.underlying27 rfl size_24 rfl)) ?_
        refine s_gval (g_true rfl rfl rfl rfl) rfl (fun hc => (y_load1 (v := (vs a2 e1.Dims.length c3)) rfl (ev_gv et hc) Tryz.underlying24 rfl (CellsAt.of_blk (hI.blk .z) rfl))) ?_
        refine s_gval (g_true rfl rfl rfl rfl) rfl (fun hc => (y_move rfl et)) ?_
        obtain ⟨e4, hx5, h⟩ := bnd_some h
        replace hx5 := gd_some hx5
        obtain ⟨ad4, cs4, hq4⟩ := hI.gclat .z hx5
        have hq5 : (!decide (i2 = axis1)) = true → CA (Dj F c14) w9 (ad4.add (Int.toNat i2 * 1)) [(vi e4)] := fun hc => by have k := hq4 hc; have e : cs4 = _ := k.2.1; rw [← e]; exact k.2.2
        refine s_gval (g_true rfl rfl rfl rfl) rfl (fun hc => (y_indexAddr rfl Tryz.underlying24 size_3 (ev_gv et hc) (ev_gv et hc) (lat_bd (hx5 hc)) (hq4 hc).1)) ?_
        refine s_gval (g_true rfl rfl rfl rfl) rfl (fun hc => (y_load1 (v := (vi e4)) rfl (ev_gv et hc) Tryz.underlying3 rfl (hq5 hc).1)) ?_
        refine s_gval (g_true rfl rfl rfl rfl) rfl (fun hc => (y_neq rfl (ev_gv et hc) (ev_gv et hc))) ?_
        refine sq (y_and rfl et et) ?_
        refine nk ?_
        refine c_cond (b := (!decide (i2 = axis1)) && (!decide (e3 = e4))) et (fun hb => ?_) (fun hb => ?_)
        ·replace h := ite_t hb h
         refine sr ?_
         refine sac ?_
         refine s_nil ?_
         refine k_next (e := [(4, (vi 15))]) ⟨rfl, trivial⟩ ?_
         refine c_ret ?_
         obtain rfl := some_inj h
         exact q_ret (vs := [(vi 15)]) Tryz.results71 ⟨ev_tmp rfl rfl, trivial⟩ ⟨rfl, hI.ext0, hI.fin trivial⟩
        ·replace h := ite_f hb h
         refine c_skip ?_
         refine k_same ?_
         refine c_region rfl ?_
         refine sq (y_add rfl et ev_const) ?_
         refine sm ?_
         refine s_nil ?_
         exact k_loop (fuel2, wi64 (i2 + 1)) ⟨rfl, rfl, rfl, rfl, rfl, rfl, rfl, rfl, trivial⟩ ⟨_, hI.arr (.c .z .n) ⟨.z, (.s .z), (.s (.s .z)), (.s (.s (.s .z))), trivial⟩, h⟩ (Nat.lt_succ_self _)
       ·replace h := ite_f hb h
        refine c_exit ?_
        refine k_in ?_
        exact k_join () ⟨rfl, rfl, rfl, rfl, rfl, trivial⟩ ⟨_, hI.arr (.c .z .n) ⟨.z, (.s .z), (.s (.s .z)), trivial⟩, h⟩ rfl
     ·replace h := ite_f hb h
      refine c_exit ?_
      refine k_in ?_
      refine k_same ?_
      refine sr ?_
      refine sac ?_
      refine nk ?_
      refine c_ret ?_
      obtain rfl := some_inj h
      exact q_ret (vs := [(vi 0)]) Tryz.results71 ⟨ev_tmp rfl rfl, trivial⟩ ⟨rfl, hI.ext0, hI.fin trivial⟩
   ·skip
    refine sr ?_
    refine sm ?_
    obtain ⟨zs2, hx6, h⟩ := bnd_some h
    obtain ⟨a7, hB2⟩ : ∃ B : Option Addr, B = (if c1 = Int.toNat 1 then a1 else Option.map (·.add (Int.toNat 1 * 7)) a1) := ⟨_, rfl⟩
    refine sq (y_lfrom rfl Tryz.underlying58 size_27 et ev_const hx6 hB2) ?_
    replace hI := hI.from_ (.s (.s .z)) hx6 hB2
    refine sq (y_lenl rfl Tryz.underlying58 et) ?_
    refine sq (y_move rfl ev_const) ?_
    refine nk ?_
    refine c_block ?_
    refine c_loop (α := Nat × Int) (fun x => fun w => ∃ C, Bun noM F w0 C w [MO.box b1 27 #[(vi e1.Type_.Kind), (vi e1.Type_.Bits), (vi e1.Type_.Frac), (vi e1.Type_.Round), (vi e1.Type_.Over), (vs a2 e1.Dims.length c3), (vs a3 e1.Vals.length c4)]] [Cl.sl cGTensor a1 c1 l1, Cl.sl (cInt .i64) a2 c3 e1.Dims, Cl.sl cGVal a3 c4 e1.Vals, Cl.sl cGTensor a7 (c1 - Int.toNat 1) zs2] ∧ m_tensor_joinable_l3 zs2 e1 axis1 l1 (x.1) (x.2) = some r) (fun x _ => x.1) (fun x => [(0, (vi axis1)), (1, (vs a1 l1.length c1)), (8, (vp b1 0)), (34, (vs a7 zs2.length (c1 - Int.toNat 1))), (35, (vi (zs2.length : Int))), (36, (vi (x.2)))]) (fu, 0) ⟨_, hI.arr (.c .z .n) ⟨(.s (.s (.s .z))), (.s (.s .z)), (.s .z), .z, trivial⟩, h⟩ ⟨rfl, rfl, rfl, rfl, rfl, rfl, trivial⟩ ?_
    clear h hI; rintro ⟨fuel3, i3⟩ w10 ⟨c15, hI, h⟩
    dsimp only at hI h
    rcases fuel3 with _ | fuel3
    ·rw [m_tensor_joinable_l3] at h; cases h
    rw [m_tensor_joinable_l3] at h
    refine c_sub (e := [(0, (vi axis1)), (1, (vs a1 l1.length c1)), (8, (vp b1 0)), (34, (vs a7 zs2.length (c1 - Int.toNat 1))), (35, (vi (zs2.length : Int))), (36, (vi i3))]) ⟨rfl, rfl, rfl, rfl, rfl, rfl, trivial⟩ ?_
    refine sr ?_
    refine sq (y_lss rfl et et) ?_
    refine nk ?_
    refine c_seq ?_
    refine c_cond (b := decide (i3 < (zs2.length : Int))) et (fun hb => ?_) (fun hb => ?_)
    ·replace h := ite_t hb h
     refine c_skip ?_
     refine k_same ?_
     refine c_seq ?_
     refine c_block ?_
     refine sr ?_
     obtain ⟨e5, hx7, h⟩ := bnd_some h
     obtain ⟨ad5, cs5, hA5, hr5, hq6⟩ := hI.clat (.s (.s (.s .z))) hx7
     obtain ⟨a8, c16, a9, c17, rfl, hf5, hf6⟩ := hr5
     have hI := hI.add (c := Cl.sl (cInt .i64) a8 c16 e5.Dims) hf5
     have hI := hI.add (c := Cl.sl cGVal a9 c17 e5.Vals) hf6
     refine sq (y_indexAddr rfl Tryz.underlying58 size_27 et et (lat_bd hx7) hA5) ?_
     refine sq (y_loadN (l := [(vi e5.Type_.Kind), (vi e5.Type_.Bits), (vi e5.Type_.Frac), (vi e5.Type_.Round), (vi e5.Type_.Over), (vs a8 e5.Dims.length c16), (vs a9 e5.Vals.length c17)]) rfl et Tryz.underlying27 rfl size_27 hq6.1) ?_
     refine l_alloc (cs := #[(vi 0), (vi 0), (vi 0), (vi 0), (vi 0), (vs none 0 0), (vs none 0 0)]) hI gn rfl rfl zero_27 rfl ?_
     clear hI; intro b3 c18 w11 hI
     refine l_store (new := [(vi e5.Type_.Kind), (vi e5.Type_.Bits), (vi e5.Type_.Frac), (vi e5.Type_.Round), (vi e5.Type_.Over), (vs a8 e5.Dims.length c16), (vs a9 e5.Vals.length c17)]) (cs' := #[(vi e5.Type_.Kind), (vi e5.Type_.Bits), (vi e5.Type_.Frac), (vi e5.Type_.Round), (vi e5.Type_.Over), (vs a8 e5.Dims.length c16), (vs a9 e5.Vals.length c17)]) hI .z gn rfl rfl et et rfl size_27 rfl rfl rfl ?_
     clear hI; intro c19 w12 hI
     refine nk ?_
     refine c_seq ?_
     refine sr ?_
     refine sq (y_fieldAddr rfl et Tryz.underlying27 rfl size_23 rfl) ?_
     refine sq (y_loadN (l := [(vi e5.Type_.Kind), (vi e5.Type_.Bits), (vi e5.Type_.Frac), (vi e5.Type_.Round), (vi e5.Type_.Over)]) rfl et Tryz.underlying23 rfl size_23 (CellsAt.of_blk (hI.blk .z) rfl)) ?_
     refine sq (y_fieldAddr rfl et Tryz.underlying27 rfl size_23 rfl) ?_
     refine sq (y_loadN (l := [(vi e1.Type_.Kind), (vi e1.Type_.Bits), (vi e1.Type_.Frac), (vi e1.Type_.Round), (vi e1.Type_.Over)]) rfl et Tryz.underlying23 rfl size_23 (CellsAt.of_blk (hI.blk (.s .z)) rfl)) ?_
     refine sq (y_bin rfl et et (eqstruct_23n ..) (eqguard_23 ..)) ?_
     refine nk ?_
     refine c_cond (b := !((decide (e5.Type_.Kind = e1.Type_.Kind)) && (decide (e5.Type_.Bits = e1.Type_.Bits)) && (decide (e5.Type_.Frac = e1.Type_.Frac)) && (decide (e5.Type_.Round = e1.Type_.Round)) && (decide (e5.Type_.Over = e1.Type_.Over)))) et (fun hb => ?_) (fun hb => ?_)
     ·replace h := ite_t hb h
      refine sr ?_
      refine sac ?_
      refine nk ?_
      refine c_ret ?_
      obtain rfl := some_inj h
      exact q_ret (vs := [(vi 10)]) Tryz.results71 ⟨ev_tmp rfl rfl, trivial⟩ ⟨rfl, hI.ext0, hI.fin trivial⟩
     ·replace h := ite_f hb h
      refine c_skip ?_
      refine k_same ?_
      refine sr ?_
      refine sq (y_fieldAddr rfl et Tryz.underlying27 rfl size_24 rfl) ?_
      refine sq (y_load1 (v := (vs a8 e5.Dims.length c16)) rfl et Tryz.underlying24 rfl (CellsAt.of_blk (hI.blk .z) rfl)) ?_
      refine sq (y_lenl rfl Tryz.underlying24 et) ?_
      refine sq (y_fieldAddr rfl et Tryz.underlying27 rfl size_24 rfl) ?_
      refine sq (y_load1 (v := (vs a2 e1.Dims.length c3)) rfl et Tryz.underlying24 rfl (CellsAt.of_blk (hI.blk (.s .z)) rfl)) ?_
      refine sq (y_lenl rfl Tryz.underlying24 et) ?_
      refine sq (y_neq rfl et et) ?_
      refine nk ?_
      refine c_cond (b := !decide ((e5.Dims.length : Int) = (e1.Dims.length : Int))) et (fun hb => ?_) (fun hb => ?_)
      ·replace h := ite_t hb h
       refine sr ?_
       refine sac ?_
       refine nk ?_
       refine c_ret ?_
       obtain rfl := some_inj h
       exact q_ret (vs := [(vi 11)]) Tryz.results71 ⟨ev_tmp rfl rfl, trivial⟩ ⟨rfl, hI.ext0, hI.fin trivial⟩
      ·replace h := ite_f hb h
       refine c_skip ?_
       refine k_same ?_
       refine c_region rfl ?_
       refine sq (y_add rfl et ev_const) ?_
       refine sm ?_
       refine s_nil ?_
       exact k_loop (fuel3, wi64 (i3 + 1)) ⟨rfl, rfl, rfl, rfl, rfl, rfl, trivial⟩ ⟨_, hI.arr (.c (.s .z) .n) ⟨(.s (.s .z)), (.s (.s (.s .z))), (.s (.s (.s (.s .z)))), (.s (.s (.s (.s (.s .z))))), trivial⟩, h⟩ (Nat.lt_succ_self _)
    ·replace h := ite_f hb h
     refine c_exit ?_
     refine k_in ?_
     exact k_join () ⟨rfl, rfl, rfl, trivial⟩ ⟨_, hI.arr (.c .z .n) ⟨.z, (.s .z), (.s (.s .z)), trivial⟩, h⟩ rfl
  ·skip
   refine sr ?_
   refine sm ?_
   refine sq (y_lenl rfl Tryz.underlying58 et) ?_
   refine sq (y_move rfl ev_const) ?_
   refine nk ?_
   refine c_block ?_
   refine c_loop (α := Nat × Int) (fun x => fun w => ∃ C, Bun noM F w0 C w [] [Cl.sl cGTensor a1 c1 l1] ∧ m_tensor_joinable_l4 l1 axis1 (x.1) (x.2) = some r) (fun x _ => x.1) (fun x => [(0, (vi axis1)), (1, (vs a1 l1.length c1)), (18, (vs a1 l1.length c1)), (19, (vi (l1.length : Int))), (20, (vi (x.2)))]) (fu, 0) ⟨_, hI.arr .n ⟨.z, trivial⟩, h⟩ ⟨rfl, rfl, rfl, rfl, rfl, trivial⟩ ?_
   clear h hI; rintro ⟨fuel4, i4⟩ w13 ⟨c20, hI, h⟩
   dsimp only at hI h
   rcases fuel4 with _ | fuel4
   ·rw [m_tensor_joinable_l4] at h; cases h
   rw [m_tensor_joinable_l4] at h
   refine c_sub (e := [(0, (vi axis1)), (1, (vs a1 l1.length c1)), (18, (vs a1 l1.length c1)), (19, (vi (l1.length : Int))), (20, (vi i4))]) ⟨rfl, rfl, rfl, rfl, rfl, trivial⟩ ?_
   refine sr ?_
   refine sq (y_lss rfl et et) ?_
   refine nk ?_
   refine c_seq ?_
   refine c_cond (b := decide (i4 < (l1.length : Int))) et (fun hb => ?_) (fun hb => ?_)
   ·replace h := ite_t hb h
    refine c_skip ?_
    refine k_same ?_
    refine c_seq ?_
    refine c_block ?_
    refine sr ?_
    obtain ⟨e6, hx8, h⟩ := bnd_some h
    obtain ⟨ad6, cs6, hA6, hr6, hq7⟩ := hI.clat .z hx8
    obtain ⟨a10, c21, a11, c22, rfl, hf7, hf8⟩ := hr6
    have hI := hI.add (c := Cl.sl (cInt .i64) a10 c21 e6.Dims) hf7
    have hI := hI.add (c := Cl.sl cGVal a11 c22 e6.Vals) hf8
    refine sq (y_indexAddr rfl Tryz.underlying58 size_27 et et (lat_bd hx8) hA6) ?_
    refine sq (y_loadN (l := [(vi e6.Type_.Kind), (vi e6.Type_.Bits), (vi e6.Type_.Frac), (vi e6.Type_.Round), (vi e6.Type_.Over), (vs a10 e6.Dims.length c21), (vs a11 e6.Vals.length c22)]) rfl et Tryz.underlying27 rfl size_27 hq7.1) ?_
    refine l_alloc (cs := #[(vi 0), (vi 0), (vi 0), (vi 0), (vi 0), (vs none 0 0), (vs none 0 0)]) hI gn rfl rfl zero_27 rfl ?_
    clear hI; intro b4 c23 w14 hI
    refine l_store (new := [(vi e6.Type_.Kind), (vi e6.Type_.Bits), (vi e6.Type_.Frac), (vi e6.Type_.Round), (vi e6.Type_.Over), (vs a10 e6.Dims.length c21), (vs a11 e6.Vals.length c22)]) (cs' := #[(vi e6.Type_.Kind), (vi e6.Type_.Bits), (vi e6.Type_.Frac), (vi e6.Type_.Round), (vi e6.Type_.Over), (vs a10 e6.Dims.length c21), (vs a11 e6.Vals.length c22)]) hI .z gn rfl rfl et et rfl size_27 rfl rfl rfl ?_
    clear hI; intro c24 w15 hI
    refine nk ?_
    refine sr ?_
    refine sq (y_loadN (l := [(vi e6.Type_.Kind), (vi e6.Type_.Bits), (vi e6.Type_.Frac), (vi e6.Type_.Round), (vi e6.Type_.Over), (vs a10 e6.Dims.length c21), (vs a11 e6.Vals.length c22)]) rfl et Tryz.underlying27 rfl size_27 (CellsAt.of_blk (hI.blk .z) rfl)) ?_
    obtain ⟨r1, hx9, h⟩ := bnd_some h
    refine s_call gn rfl (r_callF (vs := [(Value.agg #[(vi e6.Type_.Kind), (vi e6.Type_.Bits), (vi e6.Type_.Frac), (vi e6.Type_.Round), (vi e6.Type_.Over), (vs a10 e6.Dims.length c21), (vs a11 e6.Vals.length c22)])]) rfl ok_25 ⟨et, trivial⟩) (Calls.mono (c_tensor_Validate (Dj F c24) w15 hI.lt e6 a10 c21 a11 c22 ⟨(hI.get (.s .z)), (hI.get .z), trivial⟩ r1 hx9) ?_)
    rintro _ w16 ⟨rfl, hx10, hl1⟩
    refine ⟨_, rfl, ?_⟩
    replace hI := (hI.ext hx10)
    refine sa ?_
    refine nk ?_
    refine sr ?_
    refine sm ?_
    refine sq (y_neq rfl et ev_const) ?_
    refine nk ?_
    refine c_cond (b := !decide (r1 = 0)) et (fun hb => ?_) (fun hb => ?_)
    ·replace h := ite_t hb h
     refine sr ?_
     refine sm ?_
     refine sa ?_
     refine nk ?_
     refine c_ret ?_
     obtain rfl := some_inj h
     exact q_ret (vs := [(vi r1)]) Tryz.results71 ⟨ev_tmp rfl rfl, trivial⟩ ⟨rfl, hI.ext0, hI.fin trivial⟩
    ·replace h := ite_f hb h
     refine c_skip ?_
     refine k_same ?_
     refine c_region rfl ?_
     refine sq (y_add rfl et ev_const) ?_
     refine sm ?_
     refine s_nil ?_
     exact k_loop (fuel4, wi64 (i4 + 1)) ⟨rfl, rfl, rfl, rfl, rfl, trivial⟩ ⟨_, hI.arr .n ⟨(.s (.s .z)), trivial⟩, h⟩ (Nat.lt_succ_self _)
   ·replace h := ite_f hb h
    refine c_exit ?_
    refine k_in ?_
    exact k_join () ⟨rfl, rfl, trivial⟩ ⟨_, hI.arr .n ⟨.z, trivial⟩, h⟩ rfl

def tr_tensor_Concat_1_0 : Tr := (.c (11, .s) .n)
set_option maxRecDepth 100000 in
set_option maxHeartbeats 4000000 in
theorem c_tensor_Concat (F : NP) (w0 : World) (hF : ∀ k, F k → k < w0.heap.size) (axis1 : Int) (l1 : List GTensor) (a1 : Option Addr) (c1 : Nat) (hc : AllCl [Cl.sl cGTensor a1 c1 l1] F w0) (r : GTensor × Int)
  (h : m_tensor_Concat axis1 l1 = some r) :
  Calls Tryz.prog 38 #[(vi axis1), (vs a1 l1.length c1)] w0 fun e w => ∃ (a2 : Option Addr) (c2 : Nat) (a3 : Option Addr) (c3 : Nat), e = .returned (Value.tuple #[(Value.agg #[(vi r.1.Type_.Kind), (vi r.1.Type_.Bits), (vi r.1.Type_.Frac), (vi r.1.Type_.Round), (vi r.1.Type_.Over), (vs a2 r.1.Dims.length c2), (vs a3 r.1.Vals.length c3)]), (vi r.2)]) ∧ Ext w0 w ∧ AllCl [Cl.sl (cInt .i64) a2 c2 r.1.Dims, Cl.sl cGVal a3 c3 r.1.Vals] F w := by
 refine enterK (l := [(vi axis1), (vs a1 l1.length c1)]) Tryz.func38 rfl Tryz.ntmps38 rfl ?_
 have hI := Bun.start hF hc
 clear hc
 rw [m_tensor_Concat] at h
 refine sr ?_
 refine l_alloc (cs := #[(vi 0), (vi 0), (vi 0), (vi 0), (vi 0), (vs none 0 0), (vs none 0 0)]) hI gn rfl rfl zero_27 rfl ?_
 clear hI; intro b1 c4 w1 hI
 refine sac ?_
 refine nk ?_
 refine c_seq ?_
 refine sr ?_
 refine sm ?_
 refine sm ?_
 obtain ⟨r1, hx1, h⟩ := bnd_some h
 refine s_call gn rfl (r_callF (vs := [(vi axis1), (vs a1 l1.length c1)]) rfl ok_71 ⟨et, ⟨et, trivial⟩⟩) (Calls.mono (c_tensor_joinable (Dj F c4) w1 hI.lt axis1 l1 a1 c1 ⟨(hI.get .z), trivial⟩ r1 hx1) ?_)
 rintro _ w2 ⟨rfl, hx2, hl1⟩
 refine ⟨_, rfl, ?_⟩
 replace hI := (hI.ext hx2)
 refine sa ?_
 refine nk ?_
 refine sr ?_
 refine sm ?_
 refine sq (y_neq rfl et ev_const) ?_
 refine nk ?_
 refine c_cond (b := !decide (r1 = 0)) et (fun hb => ?_) (fun hb => ?_)
 ·replace h := ite_t hb h
  refine sr ?_
  refine sq (y_build (vs := []) (cs := #[(vi 0), (vi 0), (vi 0), (vi 0), (vi 0), (vs none 0 0), (vs none 0 0)]) rfl trivial (by kernel_rfl)) ?_
  refine sm ?_
  refine l_store (new := [(vi 0), (vi 0), (vi 0), (vi 0), (vi 0), (vs none 0 0), (vs none 0 0)]) (cs' := #[(vi 0), (vi 0), (vi 0), (vi 0), (vi 0), (vs none 0 0), (vs none 0 0)]) hI .z gn rfl rfl et et rfl size_27 rfl rfl rfl ?_
  clear hI; intro c5 w3 hI
  refine sa ?_
  refine nk ?_
  refine c_ret ?_
  have hI := hI.add (c := Cl.sl (cInt .i64) none 0 ([] : List Int)) SlC.nil
  have hI := hI.add (c := Cl.sl cGVal none 0 ([] : List GVal)) SlC.nil
  obtain rfl := some_inj h
  exact q_ret (vs := [(Value.agg #[(vi 0), (vi 0), (vi 0), (vi 0), (vi 0), (vs none 0 0), (vs none 0 0)]), (vi r1)]) Tryz.results38 ⟨⟨_, ev_tmp rfl rfl, load_agg (l := [(vi 0), (vi 0), (vi 0), (vi 0), (vi 0), (vs none 0 0), (vs none 0 0)]) Tryz.underlying27 rfl size_27 (CellsAt.of_blk (hI.blk .z) rfl)⟩, ⟨ev_tmp rfl rfl, trivial⟩⟩ ⟨none, 0, none, 0, rfl, hI.ext0, hI.fin ⟨(.s .z), .z, trivial⟩⟩
 ·replace h := ite_f hb h
  refine c_skip ?_
  refine k_same ?_
  refine sr ?_
  refine sac ?_
  refine nk ?_
  refine c_join (α := Unit) (fun _ => ⟨116, []⟩) (fun _ => [(0, (vi axis1)), (1, (vs a1 l1.length c1)), (4, (vp b1 0))]) (fun _ => fun w => ∃ C, Bun noM F w0 C w [MO.box b1 27 #[(vi 0), (vi 0), (vi 0), (vi 0), (vi 0), (vs none 0 0), (vs none 0 0)]] [Cl.sl cGTensor a1 c1 l1] ∧ m_tensor_Concat_j1 l1 axis1 = some r) ?_ ?_
  ·clear h hI; rintro _ w4 ⟨c6, hI, h⟩
   try dsimp only at hI h
   rw [m_tensor_Concat_j1] at h
   refine c_sub (e := [(0, (vi axis1)), (1, (vs a1 l1.length c1)), (4, (vp b1 0))]) ⟨rfl, rfl, rfl, trivial⟩ ?_
   refine c_seq ?_
   obtain ⟨e1, hx3, h⟩ := bnd_some h
   obtain ⟨e2, hx4, h⟩ := bnd_some h
   obtain ⟨zs1, hx5, h⟩ := bnd_some h
   refine c_drawX [11] false (.c (0, .q) (.c (1, .q) (.c (2, .q) (.c (3, .q) (.c (4, .q) (.c (5, .q) (.c (6, .q) (.c (7, .q) (.two 8 (.c (9, .q) (.c (10, .s) tr_tensor_Concat_1_0)) 10 (.c (8, .s) (.c (9, .q) tr_tensor_Concat_1_0))))))))))) hI (by kernel_rfl) (by kernel_rfl) ?_
   clear hI; intro w9 hI
   refine a_join (α := (Option Addr) × Nat × (Option Addr) × Nat × (Option Addr) × Nat × (Option Addr) × Nat × (Option Addr) × Nat × Nat × NP) (T := tr_tensor_Concat_1_0) (fun x => [(0, (vi axis1)), (1, (vs a1 l1.length c1)), (4, (vp b1 0)), (10, (Value.pointer (some ⟨(x.2.2.2.2.2.2.2.2.2.2.1), 0, none⟩))), (42, (vs a1 l1.length c1)), (45, (Value.agg #[(vi e1.Type_.Kind), (vi e1.Type_.Bits), (vi e1.Type_.Frac), (vi e1.Type_.Round), (vi e1.Type_.Over)])), (46, (vs a1 l1.length c1)), (49, (vs (x.2.2.2.2.1) e2.Dims.length (x.2.2.2.2.2.1))), (50, (vs (x.2.2.2.2.2.2.2.2.1) zs1.length (x.2.2.2.2.2.2.2.2.2.1))), (51, (Value.agg #[(vi e1.Type_.Kind), (vi e1.Type_.Bits), (vi e1.Type_.Frac), (vi e1.Type_.Round), (vi e1.Type_.Over), (vs (x.2.2.2.2.2.2.2.2.1) zs1.length (x.2.2.2.2.2.2.2.2.2.1)), (vs none 0 0)]))]) (fun x w => Bun noM F w0 (x.2.2.2.2.2.2.2.2.2.2.2) w [MO.row (cInt .i64) 3 (x.2.2.2.2.2.2.2.2.1) (x.2.2.2.2.2.2.2.2.2.1) zs1, MO.box (x.2.2.2.2.2.2.2.2.2.2.1) 27 #[(vi 0), (vi 0), (vi 0), (vi 0), (vi 0), (vs none 0 0), (vs none 0 0)], MO.box b1 27 #[(vi 0), (vi 0), (vi 0), (vi 0), (vi 0), (vs none 0 0), (vs none 0 0)]] [Cl.sl cGVal (x.2.2.2.2.2.2.1) (x.2.2.2.2.2.2.2.1) e2.Vals, Cl.sl (cInt .i64) (x.2.2.2.2.1) (x.2.2.2.2.2.1) e2.Dims, Cl.sl cGVal (x.2.2.1) (x.2.2.2.1) e1.Vals, Cl.sl (cInt .i64) (x.1) (x.2.1) e1.Dims, Cl.sl cGTensor a1 c1 l1]) (fun x w => SN [11] (DM false F (x.2.2.2.2.2.2.2.2.2.2.2)) w) ?_ ?_
   ·clear hI; rintro ⟨a4, c7, a5, c8, a6, c9, a7, c10, a8, c11, b2, c15⟩ w8 hI
    try dsimp only at hI ⊢
    unfold tr_tensor_Concat_1_0
    refine a_turn (F := F) (C := c15) rfl rfl ?_
    refine la_store (new := [(vi e1.Type_.Kind), (vi e1.Type_.Bits), (vi e1.Type_.Frac), (vi e1.Type_.Round), (vi e1.Type_.Over), (vs a8 zs1.length c11), (vs none 0 0)]) (cs' := #[(vi e1.Type_.Kind), (vi e1.Type_.Bits), (vi e1.Type_.Frac), (vi e1.Type_.Round), (vi e1.Type_.Over), (vs a8 zs1.length c11), (vs none 0 0)]) hI (.s .z) rfl gn rfl rfl et et rfl size_27 rfl rfl rfl ?_
    clear hI; intro c14 w7 hI
    refine a_nil ?_
    refine k_same ?_
    refine c_join (α := GTensor × (Option Addr) × Nat × (Option Addr) × Nat) (fun _ => ⟨116, []⟩) (fun x => [(0, (vi axis1)), (1, (vs a1 l1.length c1)), (4, (vp b1 0)), (10, (vp b2 0))]) (fun x => fun w => ∃ C, Bun noM F w0 C w [MO.row (cInt .i64) 3 (x.2.1) (x.2.2.1) (x.1).Dims, MO.row cGVal 36 (x.2.2.2.1) (x.2.2.2.2) (x.1).Vals, MO.box b1 27 #[(vi 0), (vi 0), (vi 0), (vi 0), (vi 0), (vs none 0 0), (vs none 0 0)], MO.box b2 27 #[(vi (x.1).Type_.Kind), (vi (x.1).Type_.Bits), (vi (x.1).Type_.Frac), (vi (x.1).Type_.Round), (vi (x.1).Type_.Over), (vs (x.2.1) (x.1).Dims.length (x.2.2.1)), (vs (x.2.2.2.1) (x.1).Vals.length (x.2.2.2.2))]] [Cl.sl cGTensor a1 c1 l1] ∧ m_tensor_Concat_j2 l1 axis1 (x.1) = some r) ?_ ?_
    ·clear h hI; rintro ⟨out1, a9, c16, a10, c17⟩ w10 ⟨c18, hI, h⟩
     try dsimp only at hI h
     rw [m_tensor_Concat_j2] at h
     refine c_sub (e := [(0, (vi axis1)), (1, (vs a1 l1.length c1)), (4, (vp b1 0)), (10, (vp b2 0))]) ⟨rfl, rfl, rfl, rfl, trivial⟩ ?_
     refine sr ?_
     refine sm ?_
     obtain ⟨e3, hx6, h⟩ := bnd_some h
     obtain ⟨ad3, cs3, hA3, hr3, hq3⟩ := hI.clat .z hx6
     obtain ⟨a11, c19, a12, c20, rfl, hf5, hf6⟩ := hr3
     have hI := hI.add (c := Cl.sl (cInt .i64) a11 c19 e3.Dims) hf5
     have hI := hI.add (c := Cl.sl cGVal a12 c20 e3.Vals) hf6
     refine sq (y_indexAddr rfl Tryz.underlying58 size_27 et ev_const (lat_bd hx6) hA3) ?_
     refine sq (y_fieldAddr rfl et Tryz.underlying27 rfl size_24 rfl) ?_
     refine sq (y_load1 (v := (vs a11 e3.Dims.length c19)) rfl et Tryz.underlying24 rfl (CA.part hq3 rfl).1) ?_
     refine sm ?_
     obtain ⟨r2, hx7, h⟩ := bnd_some h
     refine s_call gn rfl (r_callF (vs := [(vs a11 e3.Dims.length c19), (vi axis1)]) rfl ok_72 ⟨et, ⟨et, trivial⟩⟩) (Calls.mono (c_tensor_split (Dj F c18) w10 hI.lt e3.Dims axis1 a11 c19 ⟨(hI.get (.s .z)), trivial⟩ r2 hx7) ?_)
     rintro _ w11 ⟨rfl, hx8, hl2⟩
     refine ⟨_, rfl, ?_⟩
     replace hI := (hI.ext hx8)
     refine sm ?_
     refine sq (y_extract rfl et rfl) ?_
     refine sq (y_extract rfl et rfl) ?_
     refine sq (y_extract rfl et rfl) ?_
     refine sa ?_
     refine sa ?_
     refine sa ?_
     refine nk ?_
     refine c_seq ?_
     refine sr ?_
     refine sm ?_
     refine sq (y_move rfl ev_const) ?_
     refine nk ?_
     refine c_block ?_
     refine c_loop (α := Nat × Int × GTensor × (Option Addr) × Nat × (Option Addr) × Nat) (fun x => fun w => ∃ C, Bun noM F w0 C w [MO.row (cInt .i64) 3 (x.2.2.2.1) (x.2.2.2.2.1) (x.2.2.1).Dims, MO.row cGVal 36 (x.2.2.2.2.2.1) (x.2.2.2.2.2.2) (x.2.2.1).Vals, MO.box b1 27 #[(vi 0), (vi 0), (vi 0), (vi 0), (vi 0), (vs none 0 0), (vs none 0 0)], MO.box b2 27 #[(vi (x.2.2.1).Type_.Kind), (vi (x.2.2.1).Type_.Bits), (vi (x.2.2.1).Type_.Frac), (vi (x.2.2.1).Type_.Round), (vi (x.2.2.1).Type_.Over), (vs (x.2.2.2.1) (x.2.2.1).Dims.length (x.2.2.2.2.1)), (vs (x.2.2.2.2.2.1) (x.2.2.1).Vals.length (x.2.2.2.2.2.2))]] [Cl.sl cGTensor a1 c1 l1] ∧ m_tensor_Concat_l1 r2 l1 axis1 (x.1) (x.2.1) (x.2.2.1) = some r) (fun x _ => x.1) (fun x => [(0, (vi axis1)), (1, (vs a1 l1.length c1)), (4, (vp b1 0)), (10, (vp b2 0)), (15, (vi r2.2.2)), (82, (vi r2.1)), (83, (vi (x.2.1)))]) (fu, 0, out1, a9, c16, a10, c17) ⟨_, hI.arr (.c .z (.c .z (.c .z (.c .z .n)))) ⟨(.s (.s .z)), trivial⟩, h⟩ ⟨rfl, rfl, rfl, rfl, rfl, rfl, rfl, trivial⟩ ?_
     clear h hI; rintro ⟨fuel1, i1, out2, a13, c21, a14, c22⟩ w12 ⟨c23, hI, h⟩
     dsimp only at hI h
     rcases fuel1 with _ | fuel1
     ·rw [m_tensor_Concat_l1] at h; cases h
     rw [m_tensor_Concat_l1] at h
     refine c_sub (e := [(0, (vi axis1)), (1, (vs a1 l1.length c1)), (4, (vp b1 0)), (10, (vp b2 0)), (15, (vi r2.2.2)), (82, (vi r2.1)), (83, (vi i1))]) ⟨rfl, rfl, rfl, rfl, rfl, rfl, rfl, trivial⟩ ?_
     refine sr ?_
     refine sq (y_lss rfl et et) ?_
     refine nk ?_
     refine c_seq ?_
     refine c_cond (b := decide (i1 < r2.1)) et (fun hb => ?_) (fun hb => ?_)
     ·replace h := ite_t hb h
      refine c_skip ?_
      refine k_same ?_
      refine c_join (α := GTensor × (Option Addr) × Nat × (Option Addr) × Nat) (fun _ => ⟨116, []⟩) (fun x => [(0, (vi axis1)), (1, (vs a1 l1.length c1)), (4, (vp b1 0)), (10, (vp b2 0)), (15, (vi r2.2.2)), (82, (vi r2.1)), (83, (vi i1))]) (fun x => fun w => ∃ C, Bun noM F w0 C w [MO.row (cInt .i64) 3 (x.2.1) (x.2.2.1) (x.1).Dims, MO.row cGVal 36 (x.2.2.2.1) (x.2.2.2.2) (x.1).Vals, MO.box b1 27 #[(vi 0), (vi 0), (vi 0), (vi 0), (vi 0), (vs none 0 0), (vs none 0 0)], MO.box b2 27 #[(vi (x.1).Type_.Kind), (vi (x.1).Type_.Bits), (vi (x.1).Type_.Frac), (vi (x.1).Type_.Round), (vi (x.1).Type_.Over), (vs (x.2.1) (x.1).Dims.length (x.2.2.1)), (vs (x.2.2.2.1) (x.1).Vals.length (x.2.2.2.2))]] [Cl.sl cGTensor a1 c1 l1] ∧ m_tensor_Concat_j3 (m_tensor_Concat_l1 r2 l1 axis1 fuel1) i1 (x.1) = some r) ?_ ?_
      ·clear h hI; rintro ⟨out3, a15, c24, a16, c25⟩ w13 ⟨c26, hI, h⟩
       try dsimp only at hI h
       rw [m_tensor_Concat_j3] at h
       refine c_sub (e := [(0, (vi axis1)), (1, (vs a1 l1.length c1)), (4, (vp b1 0)), (10, (vp b2 0)), (15, (vi r2.2.2)), (82, (vi r2.1)), (83, (vi i1))]) ⟨rfl, rfl, rfl, rfl, rfl, rfl, rfl, trivial⟩ ?_
       refine c_region rfl ?_
       refine sq (y_add rfl et ev_const) ?_
       refine sm ?_
       refine s_nil ?_
       exact k_loop (fuel1, wi64 (i1 + 1), out3, a15, c24, a16, c25) ⟨rfl, rfl, rfl, rfl, rfl, rfl, rfl, trivial⟩ ⟨_, hI.arr (.c .z (.c .z (.c .z (.c .z .n)))) ⟨.z, trivial⟩, h⟩ (Nat.lt_succ_self _)
      ·skip
       refine c_block ?_
       refine sr ?_
       refine sm ?_
       refine sa ?_
       refine nk ?_
       refine sr ?_
       refine sm ?_
       refine sq (y_lenl rfl Tryz.underlying58 et) ?_
       refine sq (y_move rfl ev_const) ?_
       refine nk ?_
       refine c_block ?_
       refine c_loop (α := Nat × Int × GTensor × (Option Addr) × Nat × (Option Addr) × Nat) (fun x => fun w => ∃ C, Bun noM F w0 C w [MO.row (cInt .i64) 3 (x.2.2.2.1) (x.2.2.2.2.1) (x.2.2.1).Dims, MO.row cGVal 36 (x.2.2.2.2.2.1) (x.2.2.2.2.2.2) (x.2.2.1).Vals, MO.box b1 27 #[(vi 0), (vi 0), (vi 0), (vi 0), (vi 0), (vs none 0 0), (vs none 0 0)], MO.box b2 27 #[(vi (x.2.2.1).Type_.Kind), (vi (x.2.2.1).Type_.Bits), (vi (x.2.2.1).Type_.Frac), (vi (x.2.2.1).Type_.Round), (vi (x.2.2.1).Type_.Over), (vs (x.2.2.2.1) (x.2.2.1).Dims.length (x.2.2.2.2.1)), (vs (x.2.2.2.2.2.1) (x.2.2.1).Vals.length (x.2.2.2.2.2.2))]] [Cl.sl cGTensor a1 c1 l1] ∧ m_tensor_Concat_l2 l1 axis1 i1 r2 (m_tensor_Concat_l1 r2 l1 axis1 fuel1) (x.1) (x.2.1) (x.2.2.1) = some r) (fun x _ => x.1) (fun x => [(0, (vi axis1)), (1, (vs a1 l1.length c1)), (4, (vp b1 0)), (10, (vp b2 0)), (15, (vi r2.2.2)), (82, (vi r2.1)), (83, (vi i1)), (16, (vi i1)), (86, (vs a1 l1.length c1)), (87, (vi (l1.length : Int))), (88, (vi (x.2.1)))]) (fu, 0, out2, a13, c21, a14, c22) ⟨_, hI.arr (.c .z (.c .z (.c .z (.c .z .n)))) ⟨.z, trivial⟩, h⟩ ⟨rfl, rfl, rfl, rfl, rfl, rfl, rfl, rfl, rfl, rfl, rfl, trivial⟩ ?_
       clear h hI; rintro ⟨fuel2, i2, out4, a17, c27, a18, c28⟩ w14 ⟨c29, hI, h⟩
       dsimp only at hI h
       rcases fuel2 with _ | fuel2
       ·rw [m_tensor_Concat_l2] at h; cases h
       rw [m_tensor_Concat_l2] at h
       refine c_sub (e := [(0, (vi axis1)), (1, (vs a1 l1.length c1)), (4, (vp b1 0)), (10, (vp b2 0)), (15, (vi r2.2.2)), (82, (vi r2.1)), (83, (vi i1)), (16, (vi i1)), (86, (vs a1 l1.length c1)), (87, (vi (l1.length : Int))), (88, (vi i2))]) ⟨rfl, rfl, rfl, rfl, rfl, rfl, rfl, rfl, rfl, rfl, rfl, trivial⟩ ?_
       refine sr ?_
       refine sq (y_lss rfl et et) ?_
       refine nk ?_
       refine c_seq ?_
       refine c_cond (b := decide (i2 < (l1.length : Int))) et (fun hb => ?_) (fun hb => ?_)
       ·replace h := ite_t hb h
        refine c_skip ?_
        refine k_same ?_
        refine c_seq ?_
        refine c_block ?_
        refine sr ?_
        obtain ⟨e4, hx9, h⟩ := bnd_some h
        obtain ⟨ad4, cs4, hA4, hr4, hq4⟩ := hI.clat .z hx9
        obtain ⟨a19, c30, a20, c31, rfl, hf7, hf8⟩ := hr4
        have hI := hI.add (c := Cl.sl (cInt .i64) a19 c30 e4.Dims) hf7
        have hI := hI.add (c := Cl.sl cGVal a20 c31 e4.Vals) hf8
        refine sq (y_indexAddr rfl Tryz.underlying58 size_27 et et (lat_bd hx9) hA4) ?_
        refine sq (y_loadN (l := [(vi e4.Type_.Kind), (vi e4.Type_.Bits), (vi e4.Type_.Frac), (vi e4.Type_.Round), (vi e4.Type_.Over), (vs a19 e4.Dims.length c30), (vs a20 e4.Vals.length c31)]) rfl et Tryz.underlying27 rfl size_27 hq4.1) ?_
        refine l_alloc (cs := #[(vi 0), (vi 0), (vi 0), (vi 0), (vi 0), (vs none 0 0), (vs none 0 0)]) hI gn rfl rfl zero_27 rfl ?_
        clear hI; intro b3 c32 w15 hI
        refine l_store (new := [(vi e4.Type_.Kind), (vi e4.Type_.Bits), (vi e4.Type_.Frac), (vi e4.Type_.Round), (vi e4.Type_.Over), (vs a19 e4.Dims.length c30), (vs a20 e4.Vals.length c31)]) (cs' := #[(vi e4.Type_.Kind), (vi e4.Type_.Bits), (vi e4.Type_.Frac), (vi e4.Type_.Round), (vi e4.Type_.Over), (vs a19 e4.Dims.length c30), (vs a20 e4.Vals.length c31)]) hI .z gn rfl rfl et et rfl size_27 rfl rfl rfl ?_
        clear hI; intro c33 w16 hI
        refine nk ?_
        refine sr ?_
        refine sq (y_fieldAddr rfl et Tryz.underlying27 rfl size_24 rfl) ?_
        refine sq (y_load1 (v := (vs a19 e4.Dims.length c30)) rfl et Tryz.underlying24 rfl (CellsAt.of_blk (hI.blk .z) rfl)) ?_
        refine sm ?_
        obtain ⟨e5, hx10, h⟩ := bnd_some h
        obtain ⟨ad5, cs5, hA5, hr5, hq5⟩ := hI.clat (.s .z) hx10
        obtain rfl : cs5 = [(vi e5)] := hr5
        refine sq (y_indexAddr rfl Tryz.underlying24 size_3 et et (lat_bd hx10) hA5) ?_
        refine sq (y_load1 (v := (vi e5)) rfl et Tryz.underlying3 rfl hq5.1) ?_
        refine sm ?_
        refine sq (y_mul rfl et et) ?_
        refine sa ?_
        refine nk ?_
        refine c_drawX [12, 14] false (.c (0, .q) (.c (1, .q) (.c (2, .q) (.c (3, .q) (.c (4, .q) (.c (5, .q) (.c (6, .q) (.c (7, .q) (.c (8, .q) (.c (9, .q) (.c (10, .q) (.c (11, .q) (.c (12, .s) (.c (13, .q) (.c (14, .s) .n))))))))))))))) hI (by kernel_rfl) (by kernel_rfl) ?_
        clear hI; intro w17 hI
        refine a_q rfl gn rfl (fun w' => (y_fieldAddr rfl et Tryz.underlying27 rfl size_25 rfl)) ?_
        refine a_read rfl gn rfl (fun w' hw' => (y_load1 (v := (vs a18 out4.Vals.length c28)) rfl et Tryz.underlying25 rfl ((CA.blk (hI.blk (.s (.s (.s (.s .z))))) rfl).at_ (SX.any rfl hw')))) (by kernel_rfl) ?_
        refine a_q rfl gn rfl (fun w' => (y_fieldAddr rfl et Tryz.underlying27 rfl size_25 rfl)) ?_
        refine a_read rfl gn rfl (fun w' hw' => (y_load1 (v := (vs a20 e4.Vals.length c31)) rfl et Tryz.underlying25 rfl ((CA.blk (hI.blk .z) rfl).at_ (SX.any rfl hw')))) (by kernel_rfl) ?_
        refine a_q rfl gn rfl (fun w' => (y_move rfl et)) ?_
        refine a_q rfl gn rfl (fun w' => (y_move rfl et)) ?_
        refine a_q rfl gn rfl (fun w' => (y_mul rfl et et)) ?_
        refine a_q rfl gn rfl (fun w' => (y_move rfl et)) ?_
        refine a_q rfl gn rfl (fun w' => (y_add rfl et ev_const)) ?_
        refine a_q rfl gn rfl (fun w' => (y_move rfl et)) ?_
        refine a_q rfl gn rfl (fun w' => (y_mul rfl et et)) ?_
        obtain ⟨zs2, hx11, h⟩ := bnd_some h
        obtain ⟨a21, hB1⟩ : ∃ B : Option Addr, B = (if c31 = Int.toNat (wi64 (i1 * (wi64 (e5 * r2.2.2)))) then a20 else Option.map (·.add (Int.toNat (wi64 (i1 * (wi64 (e5 * r2.2.2)))) * 2)) a20) := ⟨_, rfl⟩
        refine a_q rfl gn rfl (fun w' => (y_lsub rfl Tryz.underlying25 size_36 et et et hx11 (hI.cap_ .z) hB1)) ?_
        replace hI := hI.sub .z hx11 hB1
        refine a_turn (F := F) (C := c33) rfl rfl ?_
        obtain ⟨zs3, hx12, h⟩ := bnd_some h
        refine la_append (xs := out4.Vals) (ys := zs2) hI (.s (.s .z)) (hI.crd .z) hx12 rfl gn rfl rfl Tryz.underlying25 info_36 rfl rfl et et ?_
        clear hI; intro a22 c34 c35 w18 hI
        refine a_q rfl gn rfl (fun w' => (y_fieldAddr rfl et Tryz.underlying27 rfl size_25 rfl)) ?_
        refine la_store (new := [(vs a22 zs3.length c34)]) (cs' := #[(vi out4.Type_.Kind), (vi out4.Type_.Bits), (vi out4.Type_.Frac), (vi out4.Type_.Round), (vi out4.Type_.Over), (vs a17 out4.Dims.length c27), (vs a22 zs3.length c34)]) hI (.s (.s (.s (.s .z)))) rfl gn rfl rfl et et rfl size_25 rfl rfl rfl ?_
        clear hI; intro c36 w19 hI
        refine a_nil ?_
        refine k_next (e := [(0, (vi axis1)), (1, (vs a1 l1.length c1)), (4, (vp b1 0)), (10, (vp b2 0)), (15, (vi r2.2.2)), (82, (vi r2.1)), (83, (vi i1)), (16, (vi i1)), (86, (vs a1 l1.length c1)), (87, (vi (l1.length : Int))), (88, (vi i2))]) ⟨rfl, rfl, rfl, rfl, rfl, rfl, rfl, rfl, rfl, rfl, rfl, trivial⟩ ?_
        refine c_region rfl ?_
        refine sq (y_add rfl et ev_const) ?_
        refine sm ?_
        refine s_nil ?_
        exact k_loop (fuel2, wi64 (i2 + 1), (⟨out4.Type_, out4.Dims, zs3⟩ : GTensor), a17, c27, a22, c34) ⟨rfl, rfl, rfl, rfl, rfl, rfl, rfl, rfl, rfl, rfl, rfl, trivial⟩ ⟨_, hI.arr (.c (.s .z) (.c (.s .z) (.c (.s .z) (.c (.s .z) .n)))) ⟨(.s (.s (.s .z))), trivial⟩, h⟩ (Nat.lt_succ_self _)
       ·replace h := ite_f hb h
        refine c_exit ?_
        refine k_in ?_
        exact k_join (out4, a17, c27, a18, c28) ⟨rfl, rfl, rfl, rfl, rfl, rfl, rfl, trivial⟩ ⟨_, hI.arr (.c .z (.c .z (.c .z (.c .z .n)))) ⟨.z, trivial⟩, h⟩ rfl
     ·replace h := ite_f hb h
      refine c_exit ?_
      refine k_in ?_
      refine k_same ?_
      refine sr ?_
      refine sq (y_loadN (l := [(vi out2.Type_.Kind), (vi out2.Type_.Bits), (vi out2.Type_.Frac), (vi out2.Type_.Round), (vi out2.Type_.Over), (vs a13 out2.Dims.length c21), (vs a14 out2.Vals.length c22)]) rfl et Tryz.underlying27 rfl size_27 (CellsAt.of_blk (hI.blk (.s (.s (.s .z)))) rfl)) ?_
      refine l_store (new := [(vi out2.Type_.Kind), (vi out2.Type_.Bits), (vi out2.Type_.Frac), (vi out2.Type_.Round), (vi out2.Type_.Over), (vs a13 out2.Dims.length c21), (vs a14 out2.Vals.length c22)]) (cs' := #[(vi out2.Type_.Kind), (vi out2.Type_.Bits), (vi out2.Type_.Frac), (vi out2.Type_.Round), (vi out2.Type_.Over), (vs a13 out2.Dims.length c21), (vs a14 out2.Vals.length c22)]) hI (.s (.s .z)) gn rfl rfl et et rfl size_27 rfl rfl rfl ?_
      clear hI; intro c37 w20 hI
      refine sac ?_
      refine nk ?_
      refine c_ret ?_
      obtain ⟨c38, hI⟩ := hI.release .z
      obtain ⟨c39, hI⟩ := hI.release .z
      obtain rfl := some_inj h
      exact q_ret (vs := [(Value.agg #[(vi out2.Type_.Kind), (vi out2.Type_.Bits), (vi out2.Type_.Frac), (vi out2.Type_.Round), (vi out2.Type_.Over), (vs a13 out2.Dims.length c21), (vs a14 out2.Vals.length c22)]), (vi 0)]) Tryz.results38 ⟨⟨_, ev_tmp rfl rfl, load_agg (l := [(vi out2.Type_.Kind), (vi out2.Type_.Bits), (vi out2.Type_.Frac), (vi out2.Type_.Round), (vi out2.Type_.Over), (vs a13 out2.Dims.length c21), (vs a14 out2.Vals.length c22)]) Tryz.underlying27 rfl size_27 (CellsAt.of_blk (hI.blk .z) rfl)⟩, ⟨ev_tmp rfl rfl, trivial⟩⟩ ⟨a13, c21, a14, c22, rfl, hI.ext0, hI.fin ⟨(.s .z), .z, trivial⟩⟩
    ·skip
     refine sr ?_
     refine sm ?_
     obtain ⟨zs4, hx13, h⟩ := bnd_some h
     obtain ⟨a23, hB2⟩ : ∃ B : Option Addr, B = (if c1 = Int.toNat 1 then a1 else Option.map (·.add (Int.toNat 1 * 7)) a1) := ⟨_, rfl⟩
     refine sq (y_lfrom rfl Tryz.underlying58 size_27 et ev_const hx13 hB2) ?_
     replace hI := hI.from_ (.s (.s (.s (.s .z)))) hx13 hB2
     refine sq (y_lenl rfl Tryz.underlying58 et) ?_
     refine sq (y_move rfl ev_const) ?_
     refine nk ?_
     refine c_block ?_
     have hI := hI.nil cGVal 36 none
     refine c_loop (α := Nat × Int × GTensor × (Option Addr) × Nat × (Option Addr) × Nat) (fun x => fun w => ∃ C, Bun noM F w0 C w [MO.row (cInt .i64) 3 (x.2.2.2.1) (x.2.2.2.2.1) (x.2.2.1).Dims, MO.row cGVal 36 (x.2.2.2.2.2.1) (x.2.2.2.2.2.2) (x.2.2.1).Vals, MO.box b1 27 #[(vi 0), (vi 0), (vi 0), (vi 0), (vi 0), (vs none 0 0), (vs none 0 0)], MO.box b2 27 #[(vi (x.2.2.1).Type_.Kind), (vi (x.2.2.1).Type_.Bits), (vi (x.2.2.1).Type_.Frac), (vi (x.2.2.1).Type_.Round), (vi (x.2.2.1).Type_.Over), (vs (x.2.2.2.1) (x.2.2.1).Dims.length (x.2.2.2.2.1)), (vs (x.2.2.2.2.2.1) (x.2.2.1).Vals.length (x.2.2.2.2.2.2))]] [Cl.sl cGTensor a1 c1 l1, Cl.sl cGTensor a23 (c1 - Int.toNat 1) zs4] ∧ m_tensor_Concat_l3 zs4 axis1 l1 (x.1) (x.2.1) (x.2.2.1) = some r) (fun x _ => x.1) (fun x => [(0, (vi axis1)), (1, (vs a1 l1.length c1)), (4, (vp b1 0)), (10, (vp b2 0)), (53, (vs a23 zs4.length (c1 - Int.toNat 1))), (54, (vi (zs4.length : Int))), (55, (vi (x.2.1)))]) (fu, 0, (⟨e1.Type_, zs1, ([] : List GVal)⟩ : GTensor), a8, c11, none, 0) ⟨_, hI.arr (.c (.s .z) (.c .z (.c (.s .z) (.c .z .n)))) ⟨(.s (.s (.s (.s (.s .z))))), .z, trivial⟩, h⟩ ⟨rfl, rfl, rfl, rfl, rfl, rfl, rfl, trivial⟩ ?_
     clear h hI; rintro ⟨fuel3, i3, out5, a24, c40, a25, c41⟩ w21 ⟨c42, hI, h⟩
     dsimp only at hI h
     rcases fuel3 with _ | fuel3
     ·rw [m_tensor_Concat_l3] at h; cases h
     rw [m_tensor_Concat_l3] at h
     refine c_sub (e := [(0, (vi axis1)), (1, (vs a1 l1.length c1)), (4, (vp b1 0)), (10, (vp b2 0)), (53, (vs a23 zs4.length (c1 - Int.toNat 1))), (54, (vi (zs4.length : Int))), (55, (vi i3))]) ⟨rfl, rfl, rfl, rfl, rfl, rfl, rfl, trivial⟩ ?_
     refine sr ?_
     refine sq (y_lss rfl et et) ?_
     refine nk ?_
     refine c_seq ?_
     refine c_cond (b := decide (i3 < (zs4.length : Int))) et (fun hb => ?_) (fun hb => ?_)
     ·replace h := ite_t hb h
      refine c_skip ?_
      refine k_same ?_
      refine c_seq ?_
      refine c_block ?_
      refine sr ?_
      obtain ⟨e6, hx14, h⟩ := bnd_some h
      obtain ⟨ad6, cs6, hA6, hr6, hq6⟩ := hI.clat (.s .z) hx14
      obtain ⟨a26, c43, a27, c44, rfl, hf9, hf10⟩ := hr6
      have hI := hI.add (c := Cl.sl (cInt .i64) a26 c43 e6.Dims) hf9
      have hI := hI.add (c := Cl.sl cGVal a27 c44 e6.Vals) hf10
      refine sq (y_indexAddr rfl Tryz.underlying58 size_27 et et (lat_bd hx14) hA6) ?_
      refine sq (y_loadN (l := [(vi e6.Type_.Kind), (vi e6.Type_.Bits), (vi e6.Type_.Frac), (vi e6.Type_.Round), (vi e6.Type_.Over), (vs a26 e6.Dims.length c43), (vs a27 e6.Vals.length c44)]) rfl et Tryz.underlying27 rfl size_27 hq6.1) ?_
      refine l_alloc (cs := #[(vi 0), (vi 0), (vi 0), (vi 0), (vi 0), (vs none 0 0), (vs none 0 0)]) hI gn rfl rfl zero_27 rfl ?_
      clear hI; intro b4 c45 w22 hI
      refine l_store (new := [(vi e6.Type_.Kind), (vi e6.Type_.Bits), (vi e6.Type_.Frac), (vi e6.Type_.Round), (vi e6.Type_.Over), (vs a26 e6.Dims.length c43), (vs a27 e6.Vals.length c44)]) (cs' := #[(vi e6.Type_.Kind), (vi e6.Type_.Bits), (vi e6.Type_.Frac), (vi e6.Type_.Round), (vi e6.Type_.Over), (vs a26 e6.Dims.length c43), (vs a27 e6.Vals.length c44)]) hI .z gn rfl rfl et et rfl size_27 rfl rfl rfl ?_
      clear hI; intro c46 w23 hI
      refine nk ?_
      refine c_drawX [12] false (.c (0, .q) (.c (1, .q) (.c (2, .q) (.c (3, .q) (.c (4, .q) (.c (5, .q) (.c (6, .q) (.c (7, .q) (.c (8, .q) (.c (9, .q) (.c (10, .q) (.c (11, .q) (.c (12, .s) .n))))))))))))) hI (by kernel_rfl) (by kernel_rfl) ?_
      clear hI; intro w24 hI
      refine a_q rfl gn rfl (fun w' => (y_fieldAddr rfl et Tryz.underlying27 rfl size_24 rfl)) ?_
      refine a_read rfl gn rfl (fun w' hw' => (y_load1 (v := (vs a24 out5.Dims.length c40)) rfl et Tryz.underlying24 rfl ((CA.blk (hI.blk (.s (.s (.s (.s .z))))) rfl).at_ (SX.any rfl hw')))) (by kernel_rfl) ?_
      refine a_q rfl gn rfl (fun w' => (y_move rfl et)) ?_
      obtain ⟨e7, hx15, h⟩ := bnd_some h
      obtain ⟨ad7, cs7, hA7, hr7, hq7⟩ := hI.olat (.s .z) hx15
      obtain rfl : cs7 = [(vi e7)] := hr7
      refine a_q rfl gn rfl (fun w' => (y_indexAddr rfl Tryz.underlying24 size_3 et et (lat_bd hx15) hA7)) ?_
      refine a_read rfl gn rfl (fun w' hw' => (y_load1 (v := (vi e7)) rfl et Tryz.underlying3 rfl (hq7.at_ (SX.any rfl hw')))) (by kernel_rfl) ?_
      refine a_q rfl gn rfl (fun w' => (y_fieldAddr rfl et Tryz.underlying27 rfl size_24 rfl)) ?_
      refine a_read rfl gn rfl (fun w' hw' => (y_load1 (v := (vs a26 e6.Dims.length c43)) rfl et Tryz.underlying24 rfl ((CA.blk (hI.blk .z) rfl).at_ (SX.any rfl hw')))) (by kernel_rfl) ?_
      refine a_q rfl gn rfl (fun w' => (y_move rfl et)) ?_
      obtain ⟨e8, hx16, h⟩ := bnd_some h
      obtain ⟨ad8, cs8, hA8, hr8, hq8⟩ := hI.clat (.s .z) hx16
      obtain rfl : cs8 = [(vi e8)] := hr8
      refine a_q rfl gn rfl (fun w' => (y_indexAddr rfl Tryz.underlying24 size_3 et et (lat_bd hx16) hA8)) ?_
      refine a_read rfl gn rfl (fun w' hw' => (y_load1 (v := (vi e8)) rfl et Tryz.underlying3 rfl (hq8.at_ (SX.any rfl hw')))) (by kernel_rfl) ?_
      refine a_q rfl gn rfl (fun w' => (y_add rfl et et)) ?_
      obtain ⟨ho1, h⟩ := chk_some h
      obtain ⟨ad9, hA9⟩ := hI.addr (.s .z) ho1
      refine a_q rfl gn rfl (fun w' => (y_indexAddr rfl Tryz.underlying24 size_3 et et ho1 hA9)) ?_
      refine a_turn (F := F) (C := c46) rfl rfl ?_
      refine la_storeRow (p := Int.toNat axis1) (new := [(vi (wi64 (e7 + e8)))]) (off := 0) (x' := wi64 (e7 + e8)) hI (.s .z) rfl gn rfl rfl (by have := ho1; omega) hA9 rfl et et rfl size_3 rfl (by show 0 + 1 ≤ 1; omega) (fun _ cs0 _ hr0 => by rw [spl_full (by have e := Cod.len _ hr0; exact e)]; exact rfl) ?_
      clear hI; intro c47 w25 hI
      refine a_nil ?_
      replace hI : Bun noM F w0 c47 w25 [MO.box b4 27 #[(vi e6.Type_.Kind), (vi e6.Type_.Bits), (vi e6.Type_.Frac), (vi e6.Type_.Round), (vi e6.Type_.Over), (vs a26 e6.Dims.length c43), (vs a27 e6.Vals.length c44)], MO.row (cInt .i64) 3 a24 c40 (out5.Dims.set (Int.toNat axis1) (wi64 (e7 + e8))), MO.row cGVal 36 a25 c41 out5.Vals, MO.box b1 27 #[(vi 0), (vi 0), (vi 0), (vi 0), (vi 0), (vs none 0 0), (vs none 0 0)], MO.box b2 27 #[(vi out5.Type_.Kind), (vi out5.Type_.Bits), (vi out5.Type_.Frac), (vi out5.Type_.Round), (vi out5.Type_.Over), (vs a24 (out5.Dims.set (Int.toNat axis1) (wi64 (e7 + e8))).length c40), (vs a25 out5.Vals.length c41)]] [Cl.sl cGVal a27 c44 e6.Vals, Cl.sl (cInt .i64) a26 c43 e6.Dims, Cl.sl cGTensor a1 c1 l1, Cl.sl cGTensor a23 (c1 - Int.toNat 1) zs4] := by simpa only [List.length_set, List.cons_append, List.nil_append] using hI
      refine k_next (e := [(0, (vi axis1)), (1, (vs a1 l1.length c1)), (4, (vp b1 0)), (10, (vp b2 0)), (53, (vs a23 zs4.length (c1 - Int.toNat 1))), (54, (vi (zs4.length : Int))), (55, (vi i3))]) ⟨rfl, rfl, rfl, rfl, rfl, rfl, rfl, trivial⟩ ?_
      refine c_region rfl ?_
      refine sq (y_add rfl et ev_const) ?_
      refine sm ?_
      refine s_nil ?_
      exact k_loop (fuel3, wi64 (i3 + 1), (⟨out5.Type_, out5.Dims.set (Int.toNat axis1) (wi64 (e7 + e8)), out5.Vals⟩ : GTensor), a24, c40, a25, c41) ⟨rfl, rfl, rfl, rfl, rfl, rfl, rfl, trivial⟩ ⟨_, hI.arr (.c (.s .z) (.c (.s .z) (.c (.s .z) (.c (.s .z) .n)))) ⟨(.s (.s .z)), (.s (.s (.s .z))), trivial⟩, h⟩ (Nat.lt_succ_self _)
     ·replace h := ite_f hb h
      refine c_exit ?_
      refine k_in ?_
      exact k_join (out5, a24, c40, a25, c41) ⟨rfl, rfl, rfl, rfl, trivial⟩ ⟨_, hI.arr (.c .z (.c .z (.c .z (.c .z .n)))) ⟨.z, trivial⟩, h⟩ rfl
   intro hk_tr_tensor_Concat_1_0
   refine a_q rfl gn rfl (fun w' => (y_move rfl et)) ?_
   obtain ⟨ad1, cs1, hA1, hr1, hq1⟩ := hI.clat .z hx3
   obtain ⟨a4, c7, a5, c8, rfl, hf1, hf2⟩ := hr1
   have hI := hI.add (c := Cl.sl (cInt .i64) a4 c7 e1.Dims) hf1
   have hI := hI.add (c := Cl.sl cGVal a5 c8 e1.Vals) hf2
   refine a_q rfl gn rfl (fun w' => (y_indexAddr rfl Tryz.underlying58 size_27 et ev_const (lat_bd hx3) hA1)) ?_
   refine a_q rfl gn rfl (fun w' => (y_fieldAddr rfl et Tryz.underlying27 rfl size_23 rfl)) ?_
   refine a_read rfl gn rfl (fun w' hw' => (y_loadN (l := [(vi e1.Type_.Kind), (vi e1.Type_.Bits), (vi e1.Type_.Frac), (vi e1.Type_.Round), (vi e1.Type_.Over)]) rfl et Tryz.underlying23 rfl size_23 ((CA.part hq1 rfl).at_ (SX.any rfl hw')))) (by kernel_rfl) ?_
   refine a_q rfl gn rfl (fun w' => (y_move rfl et)) ?_
   obtain ⟨ad2, cs2, hA2, hr2, hq2⟩ := hI.clat (.s (.s .z)) hx4
   obtain ⟨a6, c9, a7, c10, rfl, hf3, hf4⟩ := hr2
   have hI := hI.add (c := Cl.sl (cInt .i64) a6 c9 e2.Dims) hf3
   have hI := hI.add (c := Cl.sl cGVal a7 c10 e2.Vals) hf4
   refine a_q rfl gn rfl (fun w' => (y_indexAddr rfl Tryz.underlying58 size_27 et ev_const (lat_bd hx4) hA2)) ?_
   refine a_q rfl gn rfl (fun w' => (y_fieldAddr rfl et Tryz.underlying27 rfl size_24 rfl)) ?_
   refine a_read rfl gn rfl (fun w' hw' => (y_load1 (v := (vs a6 e2.Dims.length c9)) rfl et Tryz.underlying24 rfl ((CA.part hq2 rfl).at_ (SX.any rfl hw')))) (by kernel_rfl) ?_
   refine a_two ?_ ?_
   ·skip
    replace hI := hI.nil (cInt .i64) 3 none
    refine la_appendX (ys := e2.Dims) hI .z (hI.crd (.s .z)) hx5 rfl gn rfl rfl Tryz.underlying24 info_3 rfl rfl ev_const et ?_
    clear hI; intro a8 c11 c12 w5 hI
    refine a_q rfl gn rfl (fun w' => (y_build (vs := [(0, (Value.agg #[(vi e1.Type_.Kind), (vi e1.Type_.Bits), (vi e1.Type_.Frac), (vi e1.Type_.Round), (vi e1.Type_.Over)])), (1, (vs a8 zs1.length c11))]) (cs := #[(vi e1.Type_.Kind), (vi e1.Type_.Bits), (vi e1.Type_.Frac), (vi e1.Type_.Round), (vi e1.Type_.Over), (vs a8 zs1.length c11), (vs none 0 0)]) rfl ⟨rfl, et, ⟨rfl, et, trivial⟩⟩ (by kernel_rfl))) ?_
    refine la_alloc (cs := #[(vi 0), (vi 0), (vi 0), (vi 0), (vi 0), (vs none 0 0), (vs none 0 0)]) hI rfl gn rfl rfl zero_27 rfl ?_
    clear hI; intro b2 c13 w6 hI
    exact a_sub (hk_tr_tensor_Concat_1_0 (a4, c7, a5, c8, a6, c9, a7, c10, a8, c11, b2, c13) _ (hI.arr (.c (.s .z) (.c .z (.c .z .n))) ⟨.z, (.s .z), (.s (.s .z)), (.s (.s (.s .z))), (.s (.s (.s (.s .z)))), trivial⟩)) ⟨rfl, rfl, rfl, rfl, rfl, rfl, rfl, rfl, rfl, rfl, trivial⟩
   ·skip
    refine la_alloc (cs := #[(vi 0), (vi 0), (vi 0), (vi 0), (vi 0), (vs none 0 0), (vs none 0 0)]) hI rfl gn rfl rfl zero_27 rfl ?_
    clear hI; intro b2 c13 w6 hI
    replace hI := hI.nil (cInt .i64) 3 none
    refine la_appendX (ys := e2.Dims) hI .z (hI.crd (.s .z)) hx5 rfl gn rfl rfl Tryz.underlying24 info_3 rfl rfl ev_const et ?_
    clear hI; intro a8 c11 c12 w5 hI
    refine a_q rfl gn rfl (fun w' => (y_build (vs := [(0, (Value.agg #[(vi e1.Type_.Kind), (vi e1.Type_.Bits), (vi e1.Type_.Frac), (vi e1.Type_.Round), (vi e1.Type_.Over)])), (1, (vs a8 zs1.length c11))]) (cs := #[(vi e1.Type_.Kind), (vi e1.Type_.Bits), (vi e1.Type_.Frac), (vi e1.Type_.Round), (vi e1.Type_.Over), (vs a8 zs1.length c11), (vs none 0 0)]) rfl ⟨rfl, et, ⟨rfl, et, trivial⟩⟩ (by kernel_rfl))) ?_
    exact a_sub (hk_tr_tensor_Concat_1_0 (a4, c7, a5, c8, a6, c9, a7, c10, a8, c11, b2, c12) _ (hI.arr (.c .z (.c .z (.c .z .n))) ⟨.z, (.s .z), (.s (.s .z)), (.s (.s (.s .z))), (.s (.s (.s (.s .z)))), trivial⟩)) ⟨rfl, rfl, rfl, rfl, rfl, rfl, rfl, rfl, rfl, rfl, trivial⟩
  ·skip
   refine sr ?_
   refine sm ?_
   refine sq (y_lenl rfl Tryz.underlying58 et) ?_
   refine sq (y_move rfl ev_const) ?_
   refine nk ?_
   refine c_block ?_
   refine c_loop (α := Nat × Int × Int) (fun x => fun w => ∃ C, Bun noM F w0 C w [MO.box b1 27 #[(vi 0), (vi 0), (vi 0), (vi 0), (vi 0), (vs none 0 0), (vs none 0 0)]] [Cl.sl cGTensor a1 c1 l1] ∧ m_tensor_Concat_l4 l1 axis1 (x.1) (x.2.1) (x.2.2) = some r) (fun x _ => x.1) (fun x => [(0, (vi axis1)), (1, (vs a1 l1.length c1)), (4, (vp b1 0)), (7, (vi (x.2.1))), (27, (vs a1 l1.length c1)), (28, (vi (l1.length : Int))), (29, (vi (x.2.2)))]) (fu, 0, 0) ⟨_, hI.arr (.c .z .n) ⟨.z, trivial⟩, h⟩ ⟨rfl, rfl, rfl, rfl, rfl, rfl, rfl, trivial⟩ ?_
   clear h hI; rintro ⟨fuel4, size1, i4⟩ w26 ⟨c48, hI, h⟩
   dsimp only at hI h
   rcases fuel4 with _ | fuel4
   ·rw [m_tensor_Concat_l4] at h; cases h
   rw [m_tensor_Concat_l4] at h
   refine c_sub (e := [(0, (vi axis1)), (1, (vs a1 l1.length c1)), (4, (vp b1 0)), (7, (vi size1)), (27, (vs a1 l1.length c1)), (28, (vi (l1.length : Int))), (29, (vi i4))]) ⟨rfl, rfl, rfl, rfl, rfl, rfl, rfl, trivial⟩ ?_
   refine sr ?_
   refine sq (y_lss rfl et et) ?_
   refine nk ?_
   refine c_seq ?_
   refine c_cond (b := decide (i4 < (l1.length : Int))) et (fun hb => ?_) (fun hb => ?_)
   ·replace h := ite_t hb h
    refine c_skip ?_
    refine k_same ?_
    refine c_seq ?_
    refine c_block ?_
    refine sr ?_
    obtain ⟨e9, hx17, h⟩ := bnd_some h
    obtain ⟨ad10, cs9, hA10, hr9, hq9⟩ := hI.clat .z hx17
    obtain ⟨a28, c49, a29, c50, rfl, hf11, hf12⟩ := hr9
    have hI := hI.add (c := Cl.sl (cInt .i64) a28 c49 e9.Dims) hf11
    have hI := hI.add (c := Cl.sl cGVal a29 c50 e9.Vals) hf12
    refine sq (y_indexAddr rfl Tryz.underlying58 size_27 et et (lat_bd hx17) hA10) ?_
    refine sq (y_loadN (l := [(vi e9.Type_.Kind), (vi e9.Type_.Bits), (vi e9.Type_.Frac), (vi e9.Type_.Round), (vi e9.Type_.Over), (vs a28 e9.Dims.length c49), (vs a29 e9.Vals.length c50)]) rfl et Tryz.underlying27 rfl size_27 hq9.1) ?_
    refine l_alloc (cs := #[(vi 0), (vi 0), (vi 0), (vi 0), (vi 0), (vs none 0 0), (vs none 0 0)]) hI gn rfl rfl zero_27 rfl ?_
    clear hI; intro b5 c51 w27 hI
    refine l_store (new := [(vi e9.Type_.Kind), (vi e9.Type_.Bits), (vi e9.Type_.Frac), (vi e9.Type_.Round), (vi e9.Type_.Over), (vs a28 e9.Dims.length c49), (vs a29 e9.Vals.length c50)]) (cs' := #[(vi e9.Type_.Kind), (vi e9.Type_.Bits), (vi e9.Type_.Frac), (vi e9.Type_.Round), (vi e9.Type_.Over), (vs a28 e9.Dims.length c49), (vs a29 e9.Vals.length c50)]) hI .z gn rfl rfl et et rfl size_27 rfl rfl rfl ?_
    clear hI; intro c52 w28 hI
    refine nk ?_
    refine sr ?_
    refine sm ?_
    refine sq (y_fieldAddr rfl et Tryz.underlying27 rfl size_25 rfl) ?_
    refine sq (y_load1 (v := (vs a29 e9.Vals.length c50)) rfl et Tryz.underlying25 rfl (CellsAt.of_blk (hI.blk .z) rfl)) ?_
    refine sq (y_lenl rfl Tryz.underlying25 et) ?_
    refine sq (y_add rfl et et) ?_
    obtain ⟨size2, hx18, h⟩ := bnd_some h
    refine sq (binU (y_assign rfl et) (congrArg (Value.int .i64) (some_inj hx18))) ?_
    refine nk ?_
    refine sr ?_
    refine sm ?_
    refine sq (y_gtr rfl et ev_const) ?_
    refine nk ?_
    refine c_cond (b := decide (4096 < size2)) et (fun hb => ?_) (fun hb => ?_)
    ·replace h := ite_t hb h
     refine sr ?_
     refine sq (y_build (vs := []) (cs := #[(vi 0), (vi 0), (vi 0), (vi 0), (vi 0), (vs none 0 0), (vs none 0 0)]) rfl trivial (by kernel_rfl)) ?_
     refine l_store (new := [(vi 0), (vi 0), (vi 0), (vi 0), (vi 0), (vs none 0 0), (vs none 0 0)]) (cs' := #[(vi 0), (vi 0), (vi 0), (vi 0), (vi 0), (vs none 0 0), (vs none 0 0)]) hI (.s .z) gn rfl rfl et et rfl size_27 rfl rfl rfl ?_
     clear hI; intro c53 w29 hI
     refine sac ?_
     refine nk ?_
     refine c_ret ?_
     have hI := hI.add (c := Cl.sl (cInt .i64) none 0 ([] : List Int)) SlC.nil
     have hI := hI.add (c := Cl.sl cGVal none 0 ([] : List GVal)) SlC.nil
     obtain rfl := some_inj h
     exact q_ret (vs := [(Value.agg #[(vi 0), (vi 0), (vi 0), (vi 0), (vi 0), (vs none 0 0), (vs none 0 0)]), (vi 2)]) Tryz.results38 ⟨⟨_, ev_tmp rfl rfl, load_agg (l := [(vi 0), (vi 0), (vi 0), (vi 0), (vi 0), (vs none 0 0), (vs none 0 0)]) Tryz.underlying27 rfl size_27 (CellsAt.of_blk (hI.blk (.s .z)) rfl)⟩, ⟨ev_tmp rfl rfl, trivial⟩⟩ ⟨none, 0, none, 0, rfl, hI.ext0, hI.fin ⟨(.s .z), .z, trivial⟩⟩
    ·replace h := ite_f hb h
     refine c_skip ?_
     refine k_same ?_
     refine c_region rfl ?_
     refine sq (y_add rfl et ev_const) ?_
     refine sm ?_
     refine s_nil ?_
     exact k_loop (fuel4, size2, wi64 (i4 + 1)) ⟨rfl, rfl, rfl, rfl, rfl, rfl, rfl, trivial⟩ ⟨_, hI.arr (.c (.s .z) .n) ⟨(.s (.s .z)), trivial⟩, h⟩ (Nat.lt_succ_self _)
   ·replace h := ite_f hb h
    refine c_exit ?_
    refine k_in ?_
    exact k_join () ⟨rfl, rfl, rfl, trivial⟩ ⟨_, hI.arr (.c .z .n) ⟨.z, trivial⟩, h⟩ rfl

def tr_law12_TensorRoundTrips_2_0 : Tr := (.c (13, .s) (.c (14, .q) .n))
set_option maxRecDepth 100000 in
set_option maxHeartbeats 4000000 in
theorem c_law12_TensorRoundTrips (F : NP) (w0 : World) (hF : ∀ k, F k → k < w0.heap.size) (t1 : GTensor) (order1 : List Int) (axis1 : Int) (at1 : Int) (a1 : Option Addr) (c1 : Nat) (a2 : Option Addr) (c2 : Nat) (a3 : Option Addr) (c3 : Nat) (hc : AllCl [Cl.sl (cInt .i64) a1 c1 t1.Dims, Cl.sl cGVal a2 c2 t1.Vals, Cl.sl (cInt .i64) a3 c3 order1, clPow10] F w0) (r : Bool)
  (h : m_law12_TensorRoundTrips t1 order1 axis1 at1 = some r) :
  Calls Tryz.prog 11 #[(Value.agg #[(vi t1.Type_.Kind), (vi t1.Type_.Bits), (vi t1.Type_.Frac), (vi t1.Type_.Round), (vi t1.Type_.Over), (vs a1 t1.Dims.length c1), (vs a2 t1.Vals.length c2)]), (vs a3 order1.length c3), (vi axis1), (vi at1)] w0 fun e w => e = .returned (vb r) ∧ Ext w0 w ∧ AllCl [] F w := by
 refine enterK (l := [(Value.agg #[(vi t1.Type_.Kind), (vi t1.Type_.Bits), (vi t1.Type_.Frac), (vi t1.Type_.Round), (vi t1.Type_.Over), (vs a1 t1.Dims.length c1), (vs a2 t1.Vals.length c2)]), (vs a3 order1.length c3), (vi axis1), (vi at1)]) Tryz.func11 rfl Tryz.ntmps11 rfl ?_
 have hI := Bun.start hF hc
 clear hc
 rw [m_law12_TensorRoundTrips] at h
 refine sr ?_
 refine l_box (v := (Value.agg #[(vi t1.Type_.Kind), (vi t1.Type_.Bits), (vi t1.Type_.Frac), (vi t1.Type_.Round), (vi t1.Type_.Over), (vs a1 t1.Dims.length c1), (vs a2 t1.Vals.length c2)])) (cs := #[(vi t1.Type_.Kind), (vi t1.Type_.Bits), (vi t1.Type_.Frac), (vi t1.Type_.Round), (vi t1.Type_.Over), (vs a1 t1.Dims.length c1), (vs a2 t1.Vals.length c2)]) hI gn rfl rfl et rfl ?_
 clear hI; intro b1 c4 w1 hI
 obtain ⟨c5, hI⟩ := hI.relBox .z
 refine sac ?_
 refine nk ?_
 refine c_seq ?_
 refine sr ?_
 refine sq (y_loadN (l := [(vi t1.Type_.Kind), (vi t1.Type_.Bits), (vi t1.Type_.Frac), (vi t1.Type_.Round), (vi t1.Type_.Over), (vs a1 t1.Dims.length c1), (vs a2 t1.Vals.length c2)]) rfl et Tryz.underlying27 rfl size_27 (hI.kblk (l := [(vi t1.Type_.Kind), (vi t1.Type_.Bits), (vi t1.Type_.Frac), (vi t1.Type_.Round), (vi t1.Type_.Over), (vs a1 t1.Dims.length c1), (vs a2 t1.Vals.length c2)]) .z rfl).1) ?_
 obtain ⟨r1, hx1, h⟩ := bnd_some h
 refine s_call gn rfl (r_callF (vs := [(Value.agg #[(vi t1.Type_.Kind), (vi t1.Type_.Bits), (vi t1.Type_.Frac), (vi t1.Type_.Round), (vi t1.Type_.Over), (vs a1 t1.Dims.length c1), (vs a2 t1.Vals.length c2)]), (vi 500)]) rfl ok_12 ⟨et, ⟨ev_const, trivial⟩⟩) (Calls.mono (c_law12_Small (Dj F c5) w1 hI.lt t1 500 a1 c1 a2 c2 ⟨(hI.get (.s .z)), (hI.get (.s (.s .z))), trivial⟩ r1 hx1) ?_)
 rintro _ w2 ⟨rfl, hx2, hl1⟩
 refine ⟨_, rfl, ?_⟩
 replace hI := (hI.ext hx2)
 refine sq (y_not rfl et) ?_
 refine sm ?_
 refine s_gval (g_false rfl rfl rfl rfl) rfl (fun hc => (y_move rfl et)) ?_
 refine s_gval (g_false rfl rfl rfl rfl) rfl (fun hc => (y_lenl rfl Tryz.underlying24 (ev_gv et hc))) ?_
 refine s_gval (g_false rfl rfl rfl rfl) rfl (fun hc => (y_gtr rfl (ev_gv et hc) ev_const)) ?_
 refine sq (y_or rfl et et) ?_
 refine sm ?_
 refine s_gval (g_false rfl rfl rfl rfl) rfl (fun hc => (y_loadN (l := [(vi t1.Type_.Kind), (vi t1.Type_.Bits), (vi t1.Type_.Frac), (vi t1.Type_.Round), (vi t1.Type_.Over), (vs a1 t1.Dims.length c1), (vs a2 t1.Vals.length c2)]) rfl et Tryz.underlying27 rfl size_27 (hI.kblk (l := [(vi t1.Type_.Kind), (vi t1.Type_.Bits), (vi t1.Type_.Frac), (vi t1.Type_.Round), (vi t1.Type_.Over), (vs a1 t1.Dims.length c1), (vs a2 t1.Vals.length c2)]) .z rfl).1)) ?_
 obtain ⟨r2, hx3, h⟩ := bnd_some h
 replace hx3 := gd_some hx3
 refine s_gcallU (v := (vi r2)) (g_false rfl rfl rfl rfl) rfl (fun hc => (r_callF (vs := [(Value.agg #[(vi t1.Type_.Kind), (vi t1.Type_.Bits), (vi t1.Type_.Frac), (vi t1.Type_.Round), (vi t1.Type_.Over), (vs a1 t1.Dims.length c1), (vs a2 t1.Vals.length c2)])]) rfl ok_26 ⟨(ev_gv et hc), trivial⟩)) (fun hc => (c_ref12_Validate (Dj F c5) w2 hI.lt t1 a1 c1 a2 c2 ⟨(hI.get (.s .z)), (hI.get (.s (.s .z))), trivial⟩ r2 (hx3 hc)).mono fun _ _ k => ⟨k.1, k.2.1⟩) ?_
 intro w3 hx4; replace hI := hI.ext hx4
 refine s_gval (g_false rfl rfl rfl rfl) rfl (fun hc => (y_neq rfl (ev_gv et hc) ev_const)) ?_
 refine sq (y_or rfl et et) ?_
 refine nk ?_
 refine c_cond (b := ((!r1) || (decide (20 < (order1.length : Int)))) || (!decide (r2 = 0))) et (fun hb => ?_) (fun hb => ?_)
 ·replace h := ite_t hb h
  refine sr ?_
  obtain ⟨r3, hx5, h⟩ := bnd_some h
  refine s_call gn rfl (r_callF (vs := []) rfl ok_13 trivial) (Calls.mono (c_law12_examples (Dj F c5) w3 hI.lt ⟨(hI.get (.s (.s (.s (.s .z))))), trivial⟩ r3 hx5) ?_)
  rintro _ w4 ⟨rfl, hx6, hl3⟩
  refine ⟨_, rfl, ?_⟩
  replace hI := (hI.ext hx6)
  refine sa ?_
  refine nk ?_
  refine c_ret ?_
  obtain rfl := some_inj h
  exact q_ret (vs := [(vb r3)]) Tryz.results11 ⟨ev_tmp rfl rfl, trivial⟩ ⟨rfl, hI.ext0, hI.fin trivial⟩
 ·replace h := ite_f hb h
  refine c_skip ?_
  refine k_same ?_
  refine c_join (α := Unit) (fun _ => ⟨155, []⟩) (fun _ => [(1, (vs a3 order1.length c3)), (4, (vp b1 0))]) (fun _ => fun w => ∃ C, Bun noM F w0 C w [] [Cl.sl (cInt .i64) a3 c3 order1, Cl.blk b1 27 #[(vi t1.Type_.Kind), (vi t1.Type_.Bits), (vi t1.Type_.Frac), (vi t1.Type_.Round), (vi t1.Type_.Over), (vs a1 t1.Dims.length c1), (vs a2 t1.Vals.length c2)], Cl.sl (cInt .i64) a1 c1 t1.Dims, Cl.sl cGVal a2 c2 t1.Vals, clPow10] ∧ m_law12_TensorRoundTrips_j1 t1 order1 = some r) ?_ ?_
  ·clear h hI; rintro _ w5 ⟨c6, hI, h⟩
   try dsimp only at hI h
   rw [m_law12_TensorRoundTrips_j1] at h
   refine c_sub (e := [(1, (vs a3 order1.length c3)), (4, (vp b1 0))]) ⟨rfl, rfl, trivial⟩ ?_
   refine sr ?_
   refine sq (y_loadN (l := [(vi t1.Type_.Kind), (vi t1.Type_.Bits), (vi t1.Type_.Frac), (vi t1.Type_.Round), (vi t1.Type_.Over), (vs a1 t1.Dims.length c1), (vs a2 t1.Vals.length c2)]) rfl et Tryz.underlying27 rfl size_27 (hI.kblk (l := [(vi t1.Type_.Kind), (vi t1.Type_.Bits), (vi t1.Type_.Frac), (vi t1.Type_.Round), (vi t1.Type_.Over), (vs a1 t1.Dims.length c1), (vs a2 t1.Vals.length c2)]) (.s .z) rfl).1) ?_
   refine sm ?_
   obtain ⟨r4, hx7, h⟩ := bnd_some h
   refine s_call gn rfl (r_callF (vs := [(Value.agg #[(vi t1.Type_.Kind), (vi t1.Type_.Bits), (vi t1.Type_.Frac), (vi t1.Type_.Round), (vi t1.Type_.Over), (vs a1 t1.Dims.length c1), (vs a2 t1.Vals.length c2)]), (vs a3 order1.length c3)]) rfl ok_30 ⟨et, ⟨et, trivial⟩⟩) (Calls.mono (c_tensor_Permute (Dj F c6) w5 hI.lt t1 order1 a1 c1 a2 c2 a3 c3 ⟨(hI.get (.s (.s .z))), (hI.get (.s (.s (.s .z)))), (hI.get .z), trivial⟩ r4 hx7) ?_)
   rintro _ w6 ⟨a4, c7, a5, c8, rfl, hx8, hl4⟩
   refine ⟨_, rfl, ?_⟩
   replace hI := (hI.ext hx8).adds hl4
   refine sm ?_
   refine sq (y_extract rfl et rfl) ?_
   refine sq (y_extract rfl et rfl) ?_
   refine l_alloc (cs := #[(vi 0), (vi 0), (vi 0), (vi 0), (vi 0), (vs none 0 0), (vs none 0 0)]) hI gn rfl rfl zero_27 rfl ?_
   clear hI; intro b2 c9 w7 hI
   refine l_store (new := [(vi r4.1.Type_.Kind), (vi r4.1.Type_.Bits), (vi r4.1.Type_.Frac), (vi r4.1.Type_.Round), (vi r4.1.Type_.Over), (vs a4 r4.1.Dims.length c7), (vs a5 r4.1.Vals.length c8)]) (cs' := #[(vi r4.1.Type_.Kind), (vi r4.1.Type_.Bits), (vi r4.1.Type_.Frac), (vi r4.1.Type_.Round), (vi r4.1.Type_.Over), (vs a4 r4.1.Dims.length c7), (vs a5 r4.1.Vals.length c8)]) hI .z gn rfl rfl et et rfl size_27 rfl rfl rfl ?_
   clear hI; intro c10 w8 hI
   refine sa ?_
   refine nk ?_
   refine c_seq ?_
   refine sr ?_
   refine sm ?_
   refine sq (y_neq rfl et ev_const) ?_
   refine nk ?_
   refine c_cond (b := !decide (r4.2 = 0)) et (fun hb => ?_) (fun hb => ?_)
   ·replace h := ite_t hb h
    refine sr ?_
    obtain ⟨r5, hx9, h⟩ := bnd_some h
    refine s_call gn rfl (r_callF (vs := []) rfl ok_13 trivial) (Calls.mono (c_law12_examples (Dj F c10) w8 hI.lt ⟨(hI.get (.s (.s (.s (.s (.s (.s .z))))))), trivial⟩ r5 hx9) ?_)
    rintro _ w9 ⟨rfl, hx10, hl5⟩
    refine ⟨_, rfl, ?_⟩
    replace hI := (hI.ext hx10)
    refine sa ?_
    refine nk ?_
    refine c_ret ?_
    obtain rfl := some_inj h
    exact q_ret (vs := [(vb r5)]) Tryz.results11 ⟨ev_tmp rfl rfl, trivial⟩ ⟨rfl, hI.ext0, hI.fin trivial⟩
   ·replace h := ite_f hb h
    refine c_skip ?_
    refine k_same ?_
    refine sr ?_
    refine sm ?_
    refine sq (y_lenl rfl Tryz.underlying24 et) ?_
    obtain ⟨zs1, hx11, h⟩ := bnd_some h
    refine l_make (c := (cInt .i64)) hI hx11 gn  rfl rfl Tryz.underlying24 info_3 rfl rfl et et rfl ?_
    clear hI; intro b3 c11 w10 hI
    refine sa ?_
    refine nk ?_
    refine c_join (α := (List Int) × (Option Addr) × Nat) (fun _ => ⟨155, []⟩) (fun x => [(4, (vp b1 0)), (15, (vp b2 0)), (17, (vs (x.2.1) (x.1).length (x.2.2)))]) (fun x => fun w => ∃ C, Bun noM F w0 C w [MO.row (cInt .i64) 3 (x.2.1) (x.2.2) (x.1), MO.box b2 27 #[(vi r4.1.Type_.Kind), (vi r4.1.Type_.Bits), (vi r4.1.Type_.Frac), (vi r4.1.Type_.Round), (vi r4.1.Type_.Over), (vs a4 r4.1.Dims.length c7), (vs a5 r4.1.Vals.length c8)]] [Cl.blk b1 27 #[(vi t1.Type_.Kind), (vi t1.Type_.Bits), (vi t1.Type_.Frac), (vi t1.Type_.Round), (vi t1.Type_.Over), (vs a1 t1.Dims.length c1), (vs a2 t1.Vals.length c2)], Cl.sl (cInt .i64) a1 c1 t1.Dims, Cl.sl cGVal a2 c2 t1.Vals, Cl.sl (cInt .i64) a4 c7 r4.1.Dims, Cl.sl cGVal a5 c8 r4.1.Vals, clPow10] ∧ m_law12_TensorRoundTrips_j2 r4 t1 (x.1) = some r) ?_ ?_
    ·clear h hI; rintro ⟨back1, a6, c12⟩ w11 ⟨c13, hI, h⟩
     try dsimp only at hI h
     rw [m_law12_TensorRoundTrips_j2] at h
     refine c_sub (e := [(4, (vp b1 0)), (15, (vp b2 0)), (17, (vs a6 back1.length c12))]) ⟨rfl, rfl, rfl, trivial⟩ ?_
     refine sr ?_
     refine sq (y_loadN (l := [(vi r4.1.Type_.Kind), (vi r4.1.Type_.Bits), (vi r4.1.Type_.Frac), (vi r4.1.Type_.Round), (vi r4.1.Type_.Over), (vs a4 r4.1.Dims.length c7), (vs a5 r4.1.Vals.length c8)]) rfl et Tryz.underlying27 rfl size_27 (CellsAt.of_blk (hI.blk (.s .z)) rfl)) ?_
     refine sm ?_
     obtain ⟨c14, hI⟩ := hI.release .z
     obtain ⟨r6, hx12, h⟩ := bnd_some h
     refine s_call gn rfl (r_callF (vs := [(Value.agg #[(vi r4.1.Type_.Kind), (vi r4.1.Type_.Bits), (vi r4.1.Type_.Frac), (vi r4.1.Type_.Round), (vi r4.1.Type_.Over), (vs a4 r4.1.Dims.length c7), (vs a5 r4.1.Vals.length c8)]), (vs a6 back1.length c12)]) rfl ok_30 ⟨et, ⟨et, trivial⟩⟩) (Calls.mono (c_tensor_Permute (Dj F c14) w11 hI.lt r4.1 back1 a4 c7 a5 c8 a6 c12 ⟨(hI.get (.s (.s (.s (.s .z))))), (hI.get (.s (.s (.s (.s (.s .z)))))), (hI.get .z), trivial⟩ r6 hx12) ?_)
     rintro _ w12 ⟨a7, c15, a8, c16, rfl, hx13, hl6⟩
     refine ⟨_, rfl, ?_⟩
     replace hI := (hI.ext hx13).adds hl6
     refine sm ?_
     refine sq (y_extract rfl et rfl) ?_
     refine sq (y_extract rfl et rfl) ?_
     refine l_alloc (cs := #[(vi 0), (vi 0), (vi 0), (vi 0), (vi 0), (vs none 0 0), (vs none 0 0)]) hI gn rfl rfl zero_27 rfl ?_
     clear hI; intro b4 c17 w13 hI
     refine l_store (new := [(vi r6.1.Type_.Kind), (vi r6.1.Type_.Bits), (vi r6.1.Type_.Frac), (vi r6.1.Type_.Round), (vi r6.1.Type_.Over), (vs a7 r6.1.Dims.length c15), (vs a8 r6.1.Vals.length c16)]) (cs' := #[(vi r6.1.Type_.Kind), (vi r6.1.Type_.Bits), (vi r6.1.Type_.Frac), (vi r6.1.Type_.Round), (vi r6.1.Type_.Over), (vs a7 r6.1.Dims.length c15), (vs a8 r6.1.Vals.length c16)]) hI .z gn rfl rfl et et rfl size_27 rfl rfl rfl ?_
     clear hI; intro c18 w14 hI
     refine sa ?_
     refine nk ?_
     refine sr ?_
     refine sm ?_
     refine sq (y_eql rfl et ev_const) ?_
     refine sm ?_
     refine s_gval (g_true rfl rfl rfl rfl) rfl (fun hc => (y_loadN (l := [(vi r6.1.Type_.Kind), (vi r6.1.Type_.Bits), (vi r6.1.Type_.Frac), (vi r6.1.Type_.Round), (vi r6.1.Type_.Over), (vs a7 r6.1.Dims.length c15), (vs a8 r6.1.Vals.length c16)]) rfl et Tryz.underlying27 rfl size_27 (CellsAt.of_blk (hI.blk .z) rfl))) ?_
     refine s_gval (g_true rfl rfl rfl rfl) rfl (fun hc => (y_loadN (l := [(vi t1.Type_.Kind), (vi t1.Type_.Bits), (vi t1.Type_.Frac), (vi t1.Type_.Round), (vi t1.Type_.Over), (vs a1 t1.Dims.length c1), (vs a2 t1.Vals.length c2)]) rfl et Tryz.underlying27 rfl size_27 (hI.kblk (l := [(vi t1.Type_.Kind), (vi t1.Type_.Bits), (vi t1.Type_.Frac), (vi t1.Type_.Round), (vi t1.Type_.Over), (vs a1 t1.Dims.length c1), (vs a2 t1.Vals.length c2)]) (.s (.s (.s .z))) rfl).1)) ?_
     obtain ⟨r7, hx14, h⟩ := bnd_some h
     replace hx14 := gd_some hx14
     refine s_gcallU (v := (vb r7)) (g_true rfl rfl rfl rfl) rfl (fun hc => (r_callF (vs := [(Value.agg #[(vi r6.1.Type_.Kind), (vi r6.1.Type_.Bits), (vi r6.1.Type_.Frac), (vi r6.1.Type_.Round), (vi r6.1.Type_.Over), (vs a7 r6.1.Dims.length c15), (vs a8 r6.1.Vals.length c16)]), (Value.agg #[(vi t1.Type_.Kind), (vi t1.Type_.Bits), (vi t1.Type_.Frac), (vi t1.Type_.Round), (vi t1.Type_.Over), (vs a1 t1.Dims.length c1), (vs a2 t1.Vals.length c2)])]) rfl ok_16 ⟨(ev_gv et hc), ⟨(ev_gv et hc), trivial⟩⟩)) (fun hc => (c_base_Tensor (Dj F c18) w14 hI.lt r6.1 t1 a7 c15 a8 c16 a1 c1 a2 c2 ⟨(hI.get .z), (hI.get (.s .z)), (hI.get (.s (.s (.s (.s .z))))), (hI.get (.s (.s (.s (.s (.s .z)))))), trivial⟩ r7 (hx14 hc)).mono fun _ _ k => ⟨k.1, k.2.1⟩) ?_
     intro w15 hx15; replace hI := hI.ext hx15
     refine sq (y_and rfl et et) ?_
     refine sm ?_
     obtain ⟨r8, hx16, h⟩ := bnd_some h
     replace hx16 := gd_some hx16
     refine s_gcallU (v := (vb r8)) (g_true rfl rfl rfl rfl) rfl (fun hc => (r_callF (vs := []) rfl ok_13 trivial)) (fun hc => (c_law12_examples (Dj F c18) w15 hI.lt ⟨(hI.get (.s (.s (.s (.s (.s (.s (.s (.s .z))))))))), trivial⟩ r8 (hx16 hc)).mono fun _ _ k => ⟨k.1, k.2.1⟩) ?_
     intro w16 hx17; replace hI := hI.ext hx17
     refine sq (y_and rfl et et) ?_
     refine sa ?_
     refine nk ?_
     refine c_ret ?_
     obtain rfl := some_inj h
     exact q_ret (vs := [(vb (((decide (r6.2 = 0)) && r7) && r8))]) Tryz.results11 ⟨ev_tmp rfl rfl, trivial⟩ ⟨rfl, hI.ext0, hI.fin trivial⟩
    ·skip
     refine sr ?_
     refine sac ?_
     refine nk ?_
     refine c_block ?_
     refine c_loop (α := Nat × (List Int) × Int × (Option Addr) × Nat) (fun x => fun w => ∃ C, Bun noM F w0 C w [MO.row (cInt .i64) 3 (x.2.2.2.1) (x.2.2.2.2) (x.2.1), MO.box b2 27 #[(vi r4.1.Type_.Kind), (vi r4.1.Type_.Bits), (vi r4.1.Type_.Frac), (vi r4.1.Type_.Round), (vi r4.1.Type_.Over), (vs a4 r4.1.Dims.length c7), (vs a5 r4.1.Vals.length c8)]] [Cl.sl (cInt .i64) a3 c3 order1, Cl.blk b1 27 #[(vi t1.Type_.Kind), (vi t1.Type_.Bits), (vi t1.Type_.Frac), (vi t1.Type_.Round), (vi t1.Type_.Over), (vs a1 t1.Dims.length c1), (vs a2 t1.Vals.length c2)], Cl.sl (cInt .i64) a1 c1 t1.Dims, Cl.sl cGVal a2 c2 t1.Vals, Cl.sl (cInt .i64) a4 c7 r4.1.Dims, Cl.sl cGVal a5 c8 r4.1.Vals, clPow10] ∧ m_law12_TensorRoundTrips_l1 order1 r4 t1 (x.1) (x.2.1) (x.2.2.1) = some r) (fun x _ => x.1) (fun x => [(1, (vs a3 order1.length c3)), (4, (vp b1 0)), (15, (vp b2 0)), (17, (vs (x.2.2.2.1) (x.2.1).length (x.2.2.2.2))), (18, (vi (x.2.2.1)))]) (fu, zs1, 0, some ⟨b3, 0, none⟩, ((order1.length : Int)).toNat) ⟨_, hI.arr (.c .z (.c .z .n)) ⟨(.s (.s .z)), (.s (.s (.s .z))), (.s (.s (.s (.s .z)))), (.s (.s (.s (.s (.s .z))))), .z, (.s .z), (.s (.s (.s (.s (.s (.s .z)))))), trivial⟩, h⟩ ⟨rfl, rfl, rfl, rfl, rfl, trivial⟩ ?_
     clear h hI; rintro ⟨fuel1, back2, i1, a9, c19⟩ w17 ⟨c20, hI, h⟩
     dsimp only at hI h
     rcases fuel1 with _ | fuel1
     ·rw [m_law12_TensorRoundTrips_l1] at h; cases h
     rw [m_law12_TensorRoundTrips_l1] at h
     refine c_sub (e := [(1, (vs a3 order1.length c3)), (4, (vp b1 0)), (15, (vp b2 0)), (17, (vs a9 back2.length c19)), (18, (vi i1))]) ⟨rfl, rfl, rfl, rfl, rfl, trivial⟩ ?_
     refine c_seq ?_
     refine sr ?_
     refine sm ?_
     refine sm ?_
     refine sq (y_lenl rfl Tryz.underlying24 et) ?_
     refine sq (y_lss rfl et et) ?_
     refine nk ?_
     refine c_cond (b := decide (i1 < (order1.length : Int))) et (fun hb => ?_) (fun hb => ?_)
     ·replace h := ite_t hb h
      refine c_skip ?_
      refine k_same ?_
      refine c_seq ?_
      refine c_block ?_
      refine c_seq ?_
      refine sr ?_
      refine sm ?_
      refine sm ?_
      obtain ⟨e1, hx18, h⟩ := bnd_some h
      obtain ⟨ad1, cs1, hA1, hr1, hq1⟩ := hI.clat .z hx18
      obtain rfl : cs1 = [(vi e1)] := hr1
      refine sq (y_indexAddr rfl Tryz.underlying24 size_3 et et (lat_bd hx18) hA1) ?_
      refine sq (y_load1 (v := (vi e1)) rfl et Tryz.underlying3 rfl hq1.1) ?_
      refine sq (y_lss rfl et ev_const) ?_
      refine sm ?_
      refine s_gval (g_false rfl rfl rfl rfl) rfl (fun hc => (y_move rfl et)) ?_
      refine s_gval (g_false rfl rfl rfl rfl) rfl (fun hc => (y_move rfl et)) ?_
      obtain ⟨e2, hx19, h⟩ := bnd_some h
      replace hx19 := gd_some hx19
      obtain ⟨ad2, cs2, hq2⟩ := hI.gclat .z hx19
      have hq3 : (!(decide (e1 < 0))) = true → CA (Dj F c20) w17 (ad2.add (Int.toNat i1 * 1)) [(vi e2)] := fun hc => by have k := hq2 hc; have e : cs2 = _ := k.2.1; rw [← e]; exact k.2.2
      refine s_gval (g_false rfl rfl rfl rfl) rfl (fun hc => (y_indexAddr rfl Tryz.underlying24 size_3 (ev_gv et hc) (ev_gv et hc) (lat_bd (hx19 hc)) (hq2 hc).1)) ?_
      refine s_gval (g_false rfl rfl rfl rfl) rfl (fun hc => (y_load1 (v := (vi e2)) rfl (ev_gv et hc) Tryz.underlying3 rfl (hq3 hc).1)) ?_
      refine s_gval (g_false rfl rfl rfl rfl) rfl (fun hc => (y_move rfl et)) ?_
      refine s_gval (g_false rfl rfl rfl rfl) rfl (fun hc => (y_lenl rfl Tryz.underlying24 (ev_gv et hc))) ?_
      refine s_gval (g_false rfl rfl rfl rfl) rfl (fun hc => (y_geq rfl (ev_gv et hc) (ev_gv et hc))) ?_
      refine sq (y_or rfl et et) ?_
      refine nk ?_
      refine c_cond (b := (decide (e1 < 0)) || (decide ((back2.length : Int) ≤ e2))) et (fun hb => ?_) (fun hb => ?_)
      ·replace h := ite_t hb h
       refine sr ?_
       refine sac ?_
       refine nk ?_
       refine c_ret ?_
       obtain rfl := some_inj h
       exact q_ret (vs := [(vb false)]) Tryz.results11 ⟨ev_tmp rfl rfl, trivial⟩ ⟨rfl, hI.ext0, hI.fin trivial⟩
      ·replace h := ite_f hb h
       refine c_skip ?_
       refine k_same ?_
       refine c_region rfl ?_
       refine sm ?_
       refine sm ?_
       refine sm ?_
       obtain ⟨e3, hx20, h⟩ := bnd_some h
       obtain ⟨ad3, cs3, hA3, hr3, hq4⟩ := hI.clat .z hx20
       obtain rfl : cs3 = [(vi e3)] := hr3
       refine sq (y_indexAddr rfl Tryz.underlying24 size_3 et et (lat_bd hx20) hA3) ?_
       refine sq (y_load1 (v := (vi e3)) rfl et Tryz.underlying3 rfl hq4.1) ?_
       refine sm ?_
       obtain ⟨ho1, h⟩ := chk_some h
       obtain ⟨ad4, hA4⟩ := hI.addr .z ho1
       refine sq (y_indexAddr rfl Tryz.underlying24 size_3 et et ho1 hA4) ?_
       refine l_storeRow (p := Int.toNat e3) (new := [(vi i1)]) (off := 0) (x' := i1) hI .z gn rfl rfl (by have := ho1; omega) hA4 rfl et et rfl size_3 rfl (by show 0 + 1 ≤ 1; omega) (fun _ cs0 _ hr0 => by rw [spl_full (by have e := Cod.len _ hr0; exact e)]; exact rfl) ?_
       clear hI; intro c21 w18 hI
       refine s_nil ?_
       refine k_next (e := [(1, (vs a3 order1.length c3)), (4, (vp b1 0)), (15, (vp b2 0)), (17, (vs a9 (back2.set (Int.toNat e3) i1).length c19)), (18, (vi i1))]) ⟨rfl, rfl, rfl, (lookset rfl), rfl, trivial⟩ ?_
       refine c_region rfl ?_
       refine sm ?_
       refine sq (y_add rfl et ev_const) ?_
       refine sa ?_
       refine s_nil ?_
       exact k_loop (fuel1, back2.set (Int.toNat e3) i1, wi64 (i1 + 1), a9, c19) ⟨rfl, rfl, rfl, rfl, rfl, trivial⟩ ⟨_, hI.arr (.c .z (.c .z .n)) ⟨.z, (.s .z), (.s (.s .z)), (.s (.s (.s .z))), (.s (.s (.s (.s .z)))), (.s (.s (.s (.s (.s .z))))), (.s (.s (.s (.s (.s (.s .z)))))), trivial⟩, h⟩ (Nat.lt_succ_self _)
     ·replace h := ite_f hb h
      refine c_exit ?_
      refine k_in ?_
      exact k_join (back2, a9, c19) ⟨rfl, rfl, rfl, trivial⟩ ⟨_, hI.arr (.c .z (.c .z .n)) ⟨(.s .z), (.s (.s .z)), (.s (.s (.s .z))), (.s (.s (.s (.s .z)))), (.s (.s (.s (.s (.s .z))))), (.s (.s (.s (.s (.s (.s .z)))))), trivial⟩, h⟩ rfl
  ·skip
   refine sr ?_
   refine sm ?_
   refine sq (y_geq rfl et ev_const) ?_
   refine sm ?_
   refine s_gval (g_true rfl rfl rfl rfl) rfl (fun hc => (y_move rfl et)) ?_
   refine s_gval (g_true rfl rfl rfl rfl) rfl (fun hc => (y_fieldAddr rfl et Tryz.underlying27 rfl size_24 rfl)) ?_
   refine s_gval (g_true rfl rfl rfl rfl) rfl (fun hc => (y_load1 (v := (vs a1 t1.Dims.length c1)) rfl (ev_gv et hc) Tryz.underlying24 rfl (hI.kblk (l := [(vs a1 t1.Dims.length c1)]) .z rfl).1)) ?_
   refine s_gval (g_true rfl rfl rfl rfl) rfl (fun hc => (y_lenl rfl Tryz.underlying24 (ev_gv et hc))) ?_
   refine s_gval (g_true rfl rfl rfl rfl) rfl (fun hc => (y_lss rfl (ev_gv et hc) (ev_gv et hc))) ?_
   refine sq (y_and rfl et et) ?_
   refine sm ?_
   refine s_gval (g_true rfl rfl rfl rfl) rfl (fun hc => (y_move rfl et)) ?_
   refine s_gval (g_true rfl rfl rfl rfl) rfl (fun hc => (y_gtr rfl (ev_gv et hc) ev_const)) ?_
   refine sq (y_and rfl et et) ?_
   refine sm ?_
   refine s_gval (g_true rfl rfl rfl rfl) rfl (fun hc => (y_move rfl et)) ?_
   refine s_gval (g_true rfl rfl rfl rfl) rfl (fun hc => (y_fieldAddr rfl et Tryz.underlying27 rfl size_24 rfl)) ?_
   refine s_gval (g_true rfl rfl rfl rfl) rfl (fun hc => (y_load1 (v := (vs a1 t1.Dims.length c1)) rfl (ev_gv et hc) Tryz.underlying24 rfl (hI.kblk (l := [(vs a1 t1.Dims.length c1)]) .z rfl).1)) ?_
   refine s_gval (g_true rfl rfl rfl rfl) rfl (fun hc => (y_move rfl et)) ?_
   obtain ⟨e4, hx21, h⟩ := bnd_some h
   replace hx21 := gd_some hx21
   obtain ⟨ad5, cs4, hq5⟩ := hI.gclat (.s .z) hx21
   have hq6 : (((decide (0 ≤ axis1)) && (decide (axis1 < (t1.Dims.length : Int)))) && (decide (0 < at1))) = true → CA (Dj F c5) w3 (ad5.add (Int.toNat axis1 * 1)) [(vi e4)] := fun hc => by have k := hq5 hc; have e : cs4 = _ := k.2.1; rw [← e]; exact k.2.2
   refine s_gval (g_true rfl rfl rfl rfl) rfl (fun hc => (y_indexAddr rfl Tryz.underlying24 size_3 (ev_gv et hc) (ev_gv et hc) (lat_bd (hx21 hc)) (hq5 hc).1)) ?_
   refine s_gval (g_true rfl rfl rfl rfl) rfl (fun hc => (y_load1 (v := (vi e4)) rfl (ev_gv et hc) Tryz.underlying3 rfl (hq6 hc).1)) ?_
   refine s_gval (g_true rfl rfl rfl rfl) rfl (fun hc => (y_lss rfl (ev_gv et hc) (ev_gv et hc))) ?_
   refine sq (y_and rfl et et) ?_
   refine s_nil ?_
   refine k_next (e := [(1, (vs a3 order1.length c3)), (2, (vi axis1)), (3, (vi at1)), (4, (vp b1 0)), (56, (vb ((((decide (0 ≤ axis1)) && (decide (axis1 < (t1.Dims.length : Int)))) && (decide (0 < at1))) && (decide (at1 < e4)))))]) ⟨rfl, rfl, rfl, rfl, rfl, trivial⟩ ?_
   refine c_cond (b := (((decide (0 ≤ axis1)) && (decide (axis1 < (t1.Dims.length : Int)))) && (decide (0 < at1))) && (decide (at1 < e4))) et (fun hb => ?_) (fun hb => ?_)
   ·replace h := ite_t hb h
    refine sr ?_
    refine sq (y_loadN (l := [(vi t1.Type_.Kind), (vi t1.Type_.Bits), (vi t1.Type_.Frac), (vi t1.Type_.Round), (vi t1.Type_.Over), (vs a1 t1.Dims.length c1), (vs a2 t1.Vals.length c2)]) rfl et Tryz.underlying27 rfl size_27 (hI.kblk (l := [(vi t1.Type_.Kind), (vi t1.Type_.Bits), (vi t1.Type_.Frac), (vi t1.Type_.Round), (vi t1.Type_.Over), (vs a1 t1.Dims.length c1), (vs a2 t1.Vals.length c2)]) .z rfl).1) ?_
    refine sm ?_
    refine sm ?_
    obtain ⟨r9, hx22, h⟩ := bnd_some h
    refine s_call gn rfl (r_callF (vs := [(Value.agg #[(vi t1.Type_.Kind), (vi t1.Type_.Bits), (vi t1.Type_.Frac), (vi t1.Type_.Round), (vi t1.Type_.Over), (vs a1 t1.Dims.length c1), (vs a2 t1.Vals.length c2)]), (vi axis1), (vi 0), (vi at1)]) rfl ok_32 ⟨et, ⟨et, ⟨ev_const, ⟨et, trivial⟩⟩⟩⟩) (Calls.mono (c_tensor_Slice (Dj F c5) w3 hI.lt t1 axis1 0 at1 a1 c1 a2 c2 ⟨(hI.get (.s .z)), (hI.get (.s (.s .z))), trivial⟩ r9 hx22) ?_)
    rintro _ w19 ⟨a10, c22, a11, c23, rfl, hx23, hl9⟩
    refine ⟨_, rfl, ?_⟩
    replace hI := (hI.ext hx23).adds hl9
    refine sm ?_
    refine sq (y_extract rfl et rfl) ?_
    refine sq (y_extract rfl et rfl) ?_
    refine l_alloc (cs := #[(vi 0), (vi 0), (vi 0), (vi 0), (vi 0), (vs none 0 0), (vs none 0 0)]) hI gn rfl rfl zero_27 rfl ?_
    clear hI; intro b5 c24 w20 hI
    refine l_store (new := [(vi r9.1.Type_.Kind), (vi r9.1.Type_.Bits), (vi r9.1.Type_.Frac), (vi r9.1.Type_.Round), (vi r9.1.Type_.Over), (vs a10 r9.1.Dims.length c22), (vs a11 r9.1.Vals.length c23)]) (cs' := #[(vi r9.1.Type_.Kind), (vi r9.1.Type_.Bits), (vi r9.1.Type_.Frac), (vi r9.1.Type_.Round), (vi r9.1.Type_.Over), (vs a10 r9.1.Dims.length c22), (vs a11 r9.1.Vals.length c23)]) hI .z gn rfl rfl et et rfl size_27 rfl rfl rfl ?_
    clear hI; intro c25 w21 hI
    refine sa ?_
    refine nk ?_
    refine c_seq ?_
    obtain ⟨e5, hx24, h⟩ := bnd_some h
    obtain ⟨r10, hx25, h⟩ := bnd_some h
    refine c_drawX [13] false (.c (0, .q) (.c (1, .q) (.c (2, .q) (.c (3, .q) (.c (4, .q) (.c (5, .q) (.c (6, .q) (.c (7, .q) (.two 8 (.c (9, .q) (.c (10, .q) (.c (11, .q) (.c (12, .s) tr_law12_TensorRoundTrips_2_0)))) 12 (.c (8, .s) (.c (9, .q) (.c (10, .q) (.c (11, .q) tr_law12_TensorRoundTrips_2_0))))))))))))) hI (by kernel_rfl) (by kernel_rfl) ?_
    clear hI; intro w26 hI
    refine a_join (α := (Option Addr) × Nat × (Option Addr) × Nat × Nat × NP) (T := tr_law12_TensorRoundTrips_2_0) (fun x => [(1, (vs a3 order1.length c3)), (2, (vi axis1)), (3, (vi at1)), (4, (vp b1 0)), (9, (vp b5 0)), (10, (vi r9.2)), (11, (Value.pointer (some ⟨(x.2.2.2.2.1), 0, none⟩))), (56, (vb ((((decide (0 ≤ axis1)) && (decide (axis1 < (t1.Dims.length : Int)))) && (decide (0 < at1))) && (decide (at1 < e4))))), (57, (Value.tuple #[(Value.agg #[(vi r9.1.Type_.Kind), (vi r9.1.Type_.Bits), (vi r9.1.Type_.Frac), (vi r9.1.Type_.Round), (vi r9.1.Type_.Over), (vs a10 r9.1.Dims.length c22), (vs a11 r9.1.Vals.length c23)]), (vi r9.2)])), (58, (Value.agg #[(vi t1.Type_.Kind), (vi t1.Type_.Bits), (vi t1.Type_.Frac), (vi t1.Type_.Round), (vi t1.Type_.Over), (vs a1 t1.Dims.length c1), (vs a2 t1.Vals.length c2)])), (59, (vi axis1)), (60, (vi at1)), (61, (Value.tuple #[(Value.agg #[(vi r9.1.Type_.Kind), (vi r9.1.Type_.Bits), (vi r9.1.Type_.Frac), (vi r9.1.Type_.Round), (vi r9.1.Type_.Over), (vs a10 r9.1.Dims.length c22), (vs a11 r9.1.Vals.length c23)]), (vi r9.2)])), (62, (Value.agg #[(vi r9.1.Type_.Kind), (vi r9.1.Type_.Bits), (vi r9.1.Type_.Frac), (vi r9.1.Type_.Round), (vi r9.1.Type_.Over), (vs a10 r9.1.Dims.length c22), (vs a11 r9.1.Vals.length c23)])), (63, (vi r9.2)), (64, (Value.tuple #[(Value.agg #[(vi r10.1.Type_.Kind), (vi r10.1.Type_.Bits), (vi r10.1.Type_.Frac), (vi r10.1.Type_.Round), (vi r10.1.Type_.Over), (vs (x.1) r10.1.Dims.length (x.2.1)), (vs (x.2.2.1) r10.1.Vals.length (x.2.2.2.1))]), (vi r10.2)])), (65, (Value.agg #[(vi t1.Type_.Kind), (vi t1.Type_.Bits), (vi t1.Type_.Frac), (vi t1.Type_.Round), (vi t1.Type_.Over), (vs a1 t1.Dims.length c1), (vs a2 t1.Vals.length c2)])), (66, (vi axis1)), (67, (vi at1)), (68, (vp b1 5)), (69, (vs a1 t1.Dims.length c1)), (70, (vi axis1)), (72, (vi e5)), (73, (Value.tuple #[(Value.agg #[(vi r10.1.Type_.Kind), (vi r10.1.Type_.Bits), (vi r10.1.Type_.Frac), (vi r10.1.Type_.Round), (vi r10.1.Type_.Over), (vs (x.1) r10.1.Dims.length (x.2.1)), (vs (x.2.2.1) r10.1.Vals.length (x.2.2.2.1))]), (vi r10.2)])), (74, (Value.agg #[(vi r10.1.Type_.Kind), (vi r10.1.Type_.Bits), (vi r10.1.Type_.Frac), (vi r10.1.Type_.Round), (vi r10.1.Type_.Over), (vs (x.1) r10.1.Dims.length (x.2.1)), (vs (x.2.2.1) r10.1.Vals.length (x.2.2.2.1))])), (75, (vi r10.2))]) (fun x w => Bun noM F w0 (x.2.2.2.2.2) w [MO.box (x.2.2.2.2.1) 27 #[(vi 0), (vi 0), (vi 0), (vi 0), (vi 0), (vs none 0 0), (vs none 0 0)], MO.box b5 27 #[(vi r9.1.Type_.Kind), (vi r9.1.Type_.Bits), (vi r9.1.Type_.Frac), (vi r9.1.Type_.Round), (vi r9.1.Type_.Over), (vs a10 r9.1.Dims.length c22), (vs a11 r9.1.Vals.length c23)]] [Cl.sl (cInt .i64) (x.1) (x.2.1) r10.1.Dims, Cl.sl cGVal (x.2.2.1) (x.2.2.2.1) r10.1.Vals, Cl.sl (cInt .i64) a10 c22 r9.1.Dims, Cl.sl cGVal a11 c23 r9.1.Vals, Cl.blk b1 27 #[(vi t1.Type_.Kind), (vi t1.Type_.Bits), (vi t1.Type_.Frac), (vi t1.Type_.Round), (vi t1.Type_.Over), (vs a1 t1.Dims.length c1), (vs a2 t1.Vals.length c2)], Cl.sl (cInt .i64) a1 c1 t1.Dims, Cl.sl cGVal a2 c2 t1.Vals, Cl.sl (cInt .i64) a3 c3 order1, clPow10]) (fun x w => SN [13] (DM false F (x.2.2.2.2.2)) w) ?_ ?_
    ·clear hI; rintro ⟨a12, c26, a13, c27, b6, c30⟩ w25 hI
     try dsimp only at hI ⊢
     unfold tr_law12_TensorRoundTrips_2_0
     refine a_turn (F := F) (C := c30) rfl rfl ?_
     refine la_store (new := [(vi r10.1.Type_.Kind), (vi r10.1.Type_.Bits), (vi r10.1.Type_.Frac), (vi r10.1.Type_.Round), (vi r10.1.Type_.Over), (vs a12 r10.1.Dims.length c26), (vs a13 r10.1.Vals.length c27)]) (cs' := #[(vi r10.1.Type_.Kind), (vi r10.1.Type_.Bits), (vi r10.1.Type_.Frac), (vi r10.1.Type_.Round), (vi r10.1.Type_.Over), (vs a12 r10.1.Dims.length c26), (vs a13 r10.1.Vals.length c27)]) hI .z rfl gn rfl rfl et et rfl size_27 rfl rfl rfl ?_
     clear hI; intro c29 w24 hI
     refine a_q rfl gn rfl (fun w' => (y_assign rfl et)) ?_
     refine a_nil ?_
     refine k_same ?_
     refine sr ?_
     refine sm ?_
     refine sq (y_loadN (l := [(vi r9.1.Type_.Kind), (vi r9.1.Type_.Bits), (vi r9.1.Type_.Frac), (vi r9.1.Type_.Round), (vi r9.1.Type_.Over), (vs a10 r9.1.Dims.length c22), (vs a11 r9.1.Vals.length c23)]) rfl et Tryz.underlying27 rfl size_27 (CellsAt.of_blk (hI.blk (.s .z)) rfl)) ?_
     refine sq (y_loadN (l := [(vi r10.1.Type_.Kind), (vi r10.1.Type_.Bits), (vi r10.1.Type_.Frac), (vi r10.1.Type_.Round), (vi r10.1.Type_.Over), (vs a12 r10.1.Dims.length c26), (vs a13 r10.1.Vals.length c27)]) rfl et Tryz.underlying27 rfl size_27 (CellsAt.of_blk (hI.blk .z) rfl)) ?_
     refine l_lit (c := cGTensor) (xs := ([r9.1, r10.1] : List GTensor)) (vs := [(0, (Value.agg #[(vi r9.1.Type_.Kind), (vi r9.1.Type_.Bits), (vi r9.1.Type_.Frac), (vi r9.1.Type_.Round), (vi r9.1.Type_.Over), (vs a10 r9.1.Dims.length c22), (vs a11 r9.1.Vals.length c23)])), (1, (Value.agg #[(vi r10.1.Type_.Kind), (vi r10.1.Type_.Bits), (vi r10.1.Type_.Frac), (vi r10.1.Type_.Round), (vi r10.1.Type_.Over), (vs a12 r10.1.Dims.length c26), (vs a13 r10.1.Vals.length c27)]))]) (cs := #[(vi r9.1.Type_.Kind), (vi r9.1.Type_.Bits), (vi r9.1.Type_.Frac), (vi r9.1.Type_.Round), (vi r9.1.Type_.Over), (vs a10 r9.1.Dims.length c22), (vs a11 r9.1.Vals.length c23), (vi r10.1.Type_.Kind), (vi r10.1.Type_.Bits), (vi r10.1.Type_.Frac), (vi r10.1.Type_.Round), (vi r10.1.Type_.Over), (vs a12 r10.1.Dims.length c26), (vs a13 r10.1.Vals.length c27)]) (css := [[(vi r9.1.Type_.Kind), (vi r9.1.Type_.Bits), (vi r9.1.Type_.Frac), (vi r9.1.Type_.Round), (vi r9.1.Type_.Over), (vs a10 r9.1.Dims.length c22), (vs a11 r9.1.Vals.length c23)], [(vi r10.1.Type_.Kind), (vi r10.1.Type_.Bits), (vi r10.1.Type_.Frac), (vi r10.1.Type_.Round), (vi r10.1.Type_.Over), (vs a12 r10.1.Dims.length c26), (vs a13 r10.1.Vals.length c27)]]) hI gn rfl rfl Tryz.underlying58 info_27 rfl ⟨rfl, et, ⟨rfl, et, trivial⟩⟩ (by kernel_rfl) ⟨⟨a10, c22, a11, c23, rfl, hI.get (.s (.s .z)), hI.get (.s (.s (.s .z)))⟩, ⟨⟨a12, c26, a13, c27, rfl, hI.get .z, hI.get (.s .z)⟩, trivial⟩⟩ rfl rfl rfl ?_
     clear hI; intro b7 c31 w27 hI
     obtain ⟨c32, hI⟩ := hI.release .z
     obtain ⟨r11, hx27, h⟩ := bnd_some h
     refine s_call gn rfl (r_callF (vs := [(vi axis1), (vs (some ⟨b7, 0, none⟩) ([r9.1, r10.1] : List GTensor).length 2)]) rfl ok_38 ⟨et, ⟨et, trivial⟩⟩) (Calls.mono (c_tensor_Concat (Dj F c32) w27 hI.lt axis1 ([r9.1, r10.1] : List GTensor) (some ⟨b7, 0, none⟩) 2 ⟨(hI.get .z), trivial⟩ r11 hx27) ?_)
     rintro _ w28 ⟨a14, c33, a15, c34, rfl, hx28, hl11⟩
     refine ⟨_, rfl, ?_⟩
     replace hI := (hI.ext hx28).adds hl11
     refine sm ?_
     refine sq (y_extract rfl et rfl) ?_
     refine sq (y_extract rfl et rfl) ?_
     refine l_alloc (cs := #[(vi 0), (vi 0), (vi 0), (vi 0), (vi 0), (vs none 0 0), (vs none 0 0)]) hI gn rfl rfl zero_27 rfl ?_
     clear hI; intro b8 c35 w29 hI
     refine l_store (new := [(vi r11.1.Type_.Kind), (vi r11.1.Type_.Bits), (vi r11.1.Type_.Frac), (vi r11.1.Type_.Round), (vi r11.1.Type_.Over), (vs a14 r11.1.Dims.length c33), (vs a15 r11.1.Vals.length c34)]) (cs' := #[(vi r11.1.Type_.Kind), (vi r11.1.Type_.Bits), (vi r11.1.Type_.Frac), (vi r11.1.Type_.Round), (vi r11.1.Type_.Over), (vs a14 r11.1.Dims.length c33), (vs a15 r11.1.Vals.length c34)]) hI .z gn rfl rfl et et rfl size_27 rfl rfl rfl ?_
     clear hI; intro c36 w30 hI
     refine sa ?_
     refine s_nil ?_
     refine k_next (e := [(1, (vs a3 order1.length c3)), (4, (vp b1 0)), (10, (vi r9.2)), (12, (vi r10.2)), (13, (vp b8 0)), (14, (vi r11.2))]) ⟨rfl, rfl, rfl, rfl, rfl, rfl, trivial⟩ ?_
     refine sr ?_
     refine sm ?_
     refine sq (y_neq rfl et ev_const) ?_
     refine sm ?_
     refine s_gval (g_false rfl rfl rfl rfl) rfl (fun hc => (y_move rfl et)) ?_
     refine s_gval (g_false rfl rfl rfl rfl) rfl (fun hc => (y_neq rfl (ev_gv et hc) ev_const)) ?_
     refine sq (y_or rfl et et) ?_
     refine sm ?_
     refine s_gval (g_false rfl rfl rfl rfl) rfl (fun hc => (y_move rfl et)) ?_
     refine s_gval (g_false rfl rfl rfl rfl) rfl (fun hc => (y_neq rfl (ev_gv et hc) ev_const)) ?_
     refine sq (y_or rfl et et) ?_
     refine sm ?_
     refine s_gval (g_false rfl rfl rfl rfl) rfl (fun hc => (y_loadN (l := [(vi r11.1.Type_.Kind), (vi r11.1.Type_.Bits), (vi r11.1.Type_.Frac), (vi r11.1.Type_.Round), (vi r11.1.Type_.Over), (vs a14 r11.1.Dims.length c33), (vs a15 r11.1.Vals.length c34)]) rfl et Tryz.underlying27 rfl size_27 (CellsAt.of_blk (hI.blk .z) rfl))) ?_
     refine s_gval (g_false rfl rfl rfl rfl) rfl (fun hc => (y_loadN (l := [(vi t1.Type_.Kind), (vi t1.Type_.Bits), (vi t1.Type_.Frac), (vi t1.Type_.Round), (vi t1.Type_.Over), (vs a1 t1.Dims.length c1), (vs a2 t1.Vals.length c2)]) rfl et Tryz.underlying27 rfl size_27 (hI.kblk (l := [(vi t1.Type_.Kind), (vi t1.Type_.Bits), (vi t1.Type_.Frac), (vi t1.Type_.Round), (vi t1.Type_.Over), (vs a1 t1.Dims.length c1), (vs a2 t1.Vals.length c2)]) (.s (.s (.s (.s (.s (.s (.s .z))))))) rfl).1)) ?_
     obtain ⟨r12, hx29, h⟩ := bnd_some h
     replace hx29 := gd_some hx29
     refine s_gcallU (v := (vb r12)) (g_false rfl rfl rfl rfl) rfl (fun hc => (r_callF (vs := [(Value.agg #[(vi r11.1.Type_.Kind), (vi r11.1.Type_.Bits), (vi r11.1.Type_.Frac), (vi r11.1.Type_.Round), (vi r11.1.Type_.Over), (vs a14 r11.1.Dims.length c33), (vs a15 r11.1.Vals.length c34)]), (Value.agg #[(vi t1.Type_.Kind), (vi t1.Type_.Bits), (vi t1.Type_.Frac), (vi t1.Type_.Round), (vi t1.Type_.Over), (vs a1 t1.Dims.length c1), (vs a2 t1.Vals.length c2)])]) rfl ok_16 ⟨(ev_gv et hc), ⟨(ev_gv et hc), trivial⟩⟩)) (fun hc => (c_base_Tensor (Dj F c36) w30 hI.lt r11.1 t1 a14 c33 a15 c34 a1 c1 a2 c2 ⟨(hI.get .z), (hI.get (.s .z)), (hI.get (.s (.s (.s (.s (.s (.s (.s (.s .z))))))))), (hI.get (.s (.s (.s (.s (.s (.s (.s (.s (.s .z)))))))))), trivial⟩ r12 (hx29 hc)).mono fun _ _ k => ⟨k.1, k.2.1⟩) ?_
     intro w31 hx30; replace hI := hI.ext hx30
     refine s_gval (g_false rfl rfl rfl rfl) rfl (fun hc => (y_not rfl (ev_gv et hc))) ?_
     refine sq (y_or rfl et et) ?_
     refine nk ?_
     refine c_cond (b := (((!decide (r9.2 = 0)) || (!decide (r10.2 = 0))) || (!decide (r11.2 = 0))) || (!r12)) et (fun hb => ?_) (fun hb => ?_)
     ·replace h := ite_t hb h
      refine sr ?_
      refine sac ?_
      refine nk ?_
      refine c_ret ?_
      obtain rfl := some_inj h
      exact q_ret (vs := [(vb false)]) Tryz.results11 ⟨ev_tmp rfl rfl, trivial⟩ ⟨rfl, hI.ext0, hI.fin trivial⟩
     ·replace h := ite_f hb h
      refine c_skip ?_
      exact k_join () ⟨rfl, rfl, trivial⟩ ⟨_, hI.arr .n ⟨(.s (.s (.s (.s (.s (.s (.s (.s (.s (.s .z)))))))))), (.s (.s (.s (.s (.s (.s (.s .z))))))), (.s (.s (.s (.s (.s (.s (.s (.s .z)))))))), (.s (.s (.s (.s (.s (.s (.s (.s (.s .z))))))))), (.s (.s (.s (.s (.s (.s (.s (.s (.s (.s (.s .z))))))))))), trivial⟩, h⟩ rfl
    intro hk_tr_law12_TensorRoundTrips_2_0
    refine a_read rfl gn rfl (fun w' hw' => (y_loadN (l := [(vi t1.Type_.Kind), (vi t1.Type_.Bits), (vi t1.Type_.Frac), (vi t1.Type_.Round), (vi t1.Type_.Over), (vs a1 t1.Dims.length c1), (vs a2 t1.Vals.length c2)]) rfl et Tryz.underlying27 rfl size_27 ((hI.kblk (l := [(vi t1.Type_.Kind), (vi t1.Type_.Bits), (vi t1.Type_.Frac), (vi t1.Type_.Round), (vi t1.Type_.Over), (vs a1 t1.Dims.length c1), (vs a2 t1.Vals.length c2)]) (.s (.s .z)) rfl).at_ (SX.any rfl hw')))) (by kernel_rfl) ?_
    refine a_q rfl gn rfl (fun w' => (y_move rfl et)) ?_
    refine a_q rfl gn rfl (fun w' => (y_move rfl et)) ?_
    refine a_q rfl gn rfl (fun w' => (y_fieldAddr rfl et Tryz.underlying27 rfl size_24 rfl)) ?_
    refine a_read rfl gn rfl (fun w' hw' => (y_load1 (v := (vs a1 t1.Dims.length c1)) rfl et Tryz.underlying24 rfl ((hI.kblk (l := [(vs a1 t1.Dims.length c1)]) (.s (.s .z)) rfl).at_ (SX.any rfl hw')))) (by kernel_rfl) ?_
    refine a_q rfl gn rfl (fun w' => (y_move rfl et)) ?_
    obtain ⟨ad6, cs5, hA6, hr5, hq7⟩ := hI.clat (.s (.s (.s .z))) hx24
    obtain rfl : cs5 = [(vi e5)] := hr5
    refine a_q rfl gn rfl (fun w' => (y_indexAddr rfl Tryz.underlying24 size_3 et et (lat_bd hx24) hA6)) ?_
    refine a_read rfl gn rfl (fun w' hw' => (y_load1 (v := (vi e5)) rfl et Tryz.underlying3 rfl (hq7.at_ (SX.any rfl hw')))) (by kernel_rfl) ?_
    refine a_two ?_ ?_
    ·skip
     refine la_call rfl gn rfl (r_callF (vs := [(Value.agg #[(vi t1.Type_.Kind), (vi t1.Type_.Bits), (vi t1.Type_.Frac), (vi t1.Type_.Round), (vi t1.Type_.Over), (vs a1 t1.Dims.length c1), (vs a2 t1.Vals.length c2)]), (vi axis1), (vi at1), (vi e5)]) rfl ok_32 ⟨et, ⟨et, ⟨et, ⟨et, trivial⟩⟩⟩⟩) (Calls.mono (c_tensor_Slice (Dj F c25) w26 hI.lt t1 axis1 at1 e5 a1 c1 a2 c2 ⟨(hI.get (.s (.s (.s .z)))), (hI.get (.s (.s (.s (.s .z))))), trivial⟩ r10 hx25) ?_)
     rintro _ w22 ⟨a12, c26, a13, c27, rfl, hx26, hl10⟩
     refine ⟨_, rfl, hx26, ?_⟩
     replace hI := (hI.ext hx26).adds hl10
     refine a_q rfl gn rfl (fun w' => (y_move rfl et)) ?_
     refine a_q rfl gn rfl (fun w' => (y_extract rfl et rfl)) ?_
     refine a_q rfl gn rfl (fun w' => (y_extract rfl et rfl)) ?_
     refine la_alloc (cs := #[(vi 0), (vi 0), (vi 0), (vi 0), (vi 0), (vs none 0 0), (vs none 0 0)]) hI rfl gn rfl rfl zero_27 rfl ?_
     clear hI; intro b6 c28 w23 hI
     exact a_sub (hk_tr_law12_TensorRoundTrips_2_0 (a12, c26, a13, c27, b6, c28) _ (hI.arr (.c .z (.c .z .n)) ⟨.z, (.s .z), (.s (.s .z)), (.s (.s (.s .z))), (.s (.s (.s (.s .z)))), (.s (.s (.s (.s (.s .z))))), (.s (.s (.s (.s (.s (.s .z)))))), (.s (.s (.s (.s (.s (.s (.s .z))))))), (.s (.s (.s (.s (.s (.s (.s (.s .z)))))))), trivial⟩)) ⟨rfl, rfl, rfl, rfl, rfl, rfl, rfl, rfl, rfl, rfl, rfl, rfl, rfl, rfl, rfl, rfl, rfl, rfl, rfl, rfl, rfl, rfl, rfl, rfl, rfl, rfl, trivial⟩
    ·skip
     refine la_alloc (cs := #[(vi 0), (vi 0), (vi 0), (vi 0), (vi 0), (vs none 0 0), (vs none 0 0)]) hI rfl gn rfl rfl zero_27 rfl ?_
     clear hI; intro b6 c28 w23 hI
     refine la_call rfl gn rfl (r_callF (vs := [(Value.agg #[(vi t1.Type_.Kind), (vi t1.Type_.Bits), (vi t1.Type_.Frac), (vi t1.Type_.Round), (vi t1.Type_.Over), (vs a1 t1.Dims.length c1), (vs a2 t1.Vals.length c2)]), (vi axis1), (vi at1), (vi e5)]) rfl ok_32 ⟨et, ⟨et, ⟨et, ⟨et, trivial⟩⟩⟩⟩) (Calls.mono (c_tensor_Slice (Dj F c28) w23 hI.lt t1 axis1 at1 e5 a1 c1 a2 c2 ⟨(hI.get (.s (.s (.s .z)))), (hI.get (.s (.s (.s (.s .z))))), trivial⟩ r10 hx25) ?_)
     rintro _ w22 ⟨a12, c26, a13, c27, rfl, hx26, hl10⟩
     refine ⟨_, rfl, hx26, ?_⟩
     replace hI := (hI.ext hx26).adds hl10
     refine a_q rfl gn rfl (fun w' => (y_move rfl et)) ?_
     refine a_q rfl gn rfl (fun w' => (y_extract rfl et rfl)) ?_
     refine a_q rfl gn rfl (fun w' => (y_extract rfl et rfl)) ?_
     exact a_sub (hk_tr_law12_TensorRoundTrips_2_0 (a12, c26, a13, c27, b6, c28) _ (hI.arr (.c .z (.c .z .n)) ⟨.z, (.s .z), (.s (.s .z)), (.s (.s (.s .z))), (.s (.s (.s (.s .z)))), (.s (.s (.s (.s (.s .z))))), (.s (.s (.s (.s (.s (.s .z)))))), (.s (.s (.s (.s (.s (.s (.s .z))))))), (.s (.s (.s (.s (.s (.s (.s (.s .z)))))))), trivial⟩)) ⟨rfl, rfl, rfl, rfl, rfl, rfl, rfl, rfl, rfl, rfl, rfl, rfl, rfl, rfl, rfl, rfl, rfl, rfl, rfl, rfl, rfl, rfl, rfl, rfl, rfl, rfl, trivial⟩
   ·replace h := ite_f hb h
    refine c_skip ?_
    exact k_join () ⟨rfl, rfl, trivial⟩ ⟨_, hI.arr .n ⟨(.s (.s (.s .z))), .z, (.s .z), (.s (.s .z)), (.s (.s (.s (.s .z)))), trivial⟩, h⟩ rfl

end Go.Proofs.YtlakfanockhngaaGreatDoor
