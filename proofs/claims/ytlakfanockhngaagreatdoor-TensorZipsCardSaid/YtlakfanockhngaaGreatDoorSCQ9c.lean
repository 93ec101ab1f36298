/- Each call returns what its plain function gives: printed by a program of my own; Lean checks it. -/
import Derived.Test.YtlakfanockhngaaGreatDoorSCQ9b
namespace Go.Proofs.YtlakfanockhngaaGreatDoor
open Go Go.RowKit Go.Vc
set_option linter.unusedVariables false
set_option linter.unusedSimpArgs false

set_option maxRecDepth 100000 in
set_option maxHeartbeats 4000000 in
theorem c_ref04_Valid (F : NP) (w0 : World) (hF : ∀ k, F k → k < w0.heap.size) (t1 : GType) (v1 : GVal) (hc : AllCl [] F w0) (r : Bool)
  (h : m_ref04_Valid t1 v1 = some r) :
  Calls Tryz.prog 107 #[(Value.agg #[(vi t1.Kind), (vi t1.Bits), (vi t1.Frac), (vi t1.Round), (vi t1.Over)]), (Value.agg #[(vi v1.N), (vi v1.D)])] w0 fun e w => e = .returned (vb r) ∧ Ext w0 w ∧ AllCl [] F w := by
 refine enterK (l := [(Value.agg #[(vi t1.Kind), (vi t1.Bits), (vi t1.Frac), (vi t1.Round), (vi t1.Over)]), (Value.agg #[(vi v1.N), (vi v1.D)])]) Tryz.func107 rfl Tryz.ntmps107 rfl ?_
 have hI := Bun.start hF hc
 clear hc
 rw [m_ref04_Valid] at h
 refine sr ?_
 refine l_box (v := (Value.agg #[(vi t1.Kind), (vi t1.Bits), (vi t1.Frac), (vi t1.Round), (vi t1.Over)])) (cs := #[(vi t1.Kind), (vi t1.Bits), (vi t1.Frac), (vi t1.Round), (vi t1.Over)]) hI gn rfl rfl et rfl ?_
 clear hI; intro b1 c1 w1 hI
 obtain ⟨c2, hI⟩ := hI.relBox .z
 refine l_box (v := (Value.agg #[(vi v1.N), (vi v1.D)])) (cs := #[(vi v1.N), (vi v1.D)]) hI gn rfl rfl et rfl ?_
 clear hI; intro b2 c3 w2 hI
 obtain ⟨c4, hI⟩ := hI.relBox .z
 refine sac ?_
 refine nk ?_
 refine sr ?_
 refine sq (y_loadN (l := [(vi t1.Kind), (vi t1.Bits), (vi t1.Frac), (vi t1.Round), (vi t1.Over)]) rfl et Tryz.underlying23 rfl size_23 (hI.kblk (l := [(vi t1.Kind), (vi t1.Bits), (vi t1.Frac), (vi t1.Round), (vi t1.Over)]) (.s .z) rfl).1) ?_
 obtain ⟨r1, hx1, h⟩ := bnd_some h
 refine s_call gn rfl (r_callF (vs := [(Value.agg #[(vi t1.Kind), (vi t1.Bits), (vi t1.Frac), (vi t1.Round), (vi t1.Over)])]) rfl ok_60 ⟨et, trivial⟩) (Calls.mono (c_base_Type (Dj F c4) w2 hI.lt t1 trivial r1 hx1) ?_)
 rintro _ w3 ⟨rfl, hx2, hl1⟩
 refine ⟨_, rfl, ?_⟩
 replace hI := (hI.ext hx2)
 refine sm ?_
 refine s_gval (g_true rfl rfl rfl rfl) rfl (fun hc => (y_loadN (l := [(vi t1.Kind), (vi t1.Bits), (vi t1.Frac), (vi t1.Round), (vi t1.Over)]) rfl et Tryz.underlying23 rfl size_23 (hI.kblk (l := [(vi t1.Kind), (vi t1.Bits), (vi t1.Frac), (vi t1.Round), (vi t1.Over)]) (.s .z) rfl).1)) ?_
 refine s_gval (g_true rfl rfl rfl rfl) rfl (fun hc => (y_loadN (l := [(vi v1.N), (vi v1.D)]) rfl et Tryz.underlying36 rfl size_36 (hI.kblk (l := [(vi v1.N), (vi v1.D)]) .z rfl).1)) ?_
 obtain ⟨r2, hx3, h⟩ := bnd_some h
 replace hx3 := gd_some hx3
 refine s_gcallU (v := (vb r2)) (g_true rfl rfl rfl rfl) rfl (fun hc => (r_callF (vs := [(Value.agg #[(vi t1.Kind), (vi t1.Bits), (vi t1.Frac), (vi t1.Round), (vi t1.Over)]), (Value.agg #[(vi v1.N), (vi v1.D)])]) rfl ok_56 ⟨(ev_gv et hc), ⟨(ev_gv et hc), trivial⟩⟩)) (fun hc => (c_base_Val (Dj F c4) w3 hI.lt t1 v1 trivial r2 (hx3 hc)).mono fun _ _ k => ⟨k.1, k.2.1⟩) ?_
 intro w4 hx4; replace hI := hI.ext hx4
 refine sq (y_and rfl et et) ?_
 refine sa ?_
 refine nk ?_
 refine c_ret ?_
 obtain rfl := some_inj h
 exact q_ret (vs := [(vb (r1 && r2))]) Tryz.results107 ⟨ev_tmp rfl rfl, trivial⟩ ⟨rfl, hI.ext0, hI.fin trivial⟩

set_option maxRecDepth 100000 in
set_option maxHeartbeats 4000000 in
theorem c_ref01_Valid (F : NP) (w0 : World) (hF : ∀ k, F k → k < w0.heap.size) (v1 : GVal) (hc : AllCl [] F w0) (r : Bool)
  (h : m_ref01_Valid v1 = some r) :
  Calls Tryz.prog 113 #[(Value.agg #[(vi v1.N), (vi v1.D)])] w0 fun e w => e = .returned (vb r) ∧ Ext w0 w ∧ AllCl [] F w := by
 refine enterK (l := [(Value.agg #[(vi v1.N), (vi v1.D)])]) Tryz.func113 rfl Tryz.ntmps113 rfl ?_
 have hI := Bun.start hF hc
 clear hc
 rw [m_ref01_Valid] at h
 refine sr ?_
 refine l_box (v := (Value.agg #[(vi v1.N), (vi v1.D)])) (cs := #[(vi v1.N), (vi v1.D)]) hI gn rfl rfl et rfl ?_
 clear hI; intro b1 c1 w1 hI
 obtain ⟨c2, hI⟩ := hI.relBox .z
 refine sac ?_
 refine nk ?_
 refine sr ?_
 refine sq (y_build (vs := [(0, (vi 1))]) (cs := #[(vi 1), (vi 0), (vi 0), (vi 0), (vi 0)]) rfl ⟨rfl, ev_const, trivial⟩ (by kernel_rfl)) ?_
 refine sq (y_loadN (l := [(vi v1.N), (vi v1.D)]) rfl et Tryz.underlying36 rfl size_36 (hI.kblk (l := [(vi v1.N), (vi v1.D)]) .z rfl).1) ?_
 obtain ⟨r1, hx1, h⟩ := bnd_some h
 refine s_call gn rfl (r_callF (vs := [(Value.agg #[(vi 1), (vi 0), (vi 0), (vi 0), (vi 0)]), (Value.agg #[(vi v1.N), (vi v1.D)])]) rfl ok_56 ⟨et, ⟨et, trivial⟩⟩) (Calls.mono (c_base_Val (Dj F c2) w1 hI.lt (⟨1, 0, 0, 0, 0⟩ : GType) v1 trivial r1 hx1) ?_)
 rintro _ w2 ⟨rfl, hx2, hl1⟩
 refine ⟨_, rfl, ?_⟩
 replace hI := (hI.ext hx2)
 refine sa ?_
 refine nk ?_
 refine c_ret ?_
 obtain rfl := some_inj h
 exact q_ret (vs := [(vb r1)]) Tryz.results113 ⟨ev_tmp rfl rfl, trivial⟩ ⟨rfl, hI.ext0, hI.fin trivial⟩

set_option maxRecDepth 100000 in
set_option maxHeartbeats 4000000 in
theorem c_ref01_order (F : NP) (w0 : World) (hF : ∀ k, F k → k < w0.heap.size) (a1 : Int) (b1 : Int) (hc : AllCl [] F w0) (r : Int)
  (h : m_ref01_order a1 b1 = some r) :
  Calls Tryz.prog 135 #[(vi a1), (vi b1)] w0 fun e w => e = .returned (vi r) ∧ Ext w0 w ∧ AllCl [] F w := by
 refine enterK (l := [(vi a1), (vi b1)]) Tryz.func135 rfl Tryz.ntmps135 rfl ?_
 have hI := Bun.start hF hc
 clear hc
 rw [m_ref01_order] at h
 refine sr ?_
 refine sac ?_
 refine nk ?_
 refine c_seq ?_
 refine sr ?_
 refine sm ?_
 refine sm ?_
 refine sq (y_lss rfl et et) ?_
 refine nk ?_
 refine c_cond (b := decide (a1 < b1)) et (fun hb => ?_) (fun hb => ?_)
 ·replace h := ite_t hb h
  refine sr ?_
  refine sac ?_
  refine nk ?_
  refine c_ret ?_
  obtain rfl := some_inj h
  exact q_ret (vs := [(vi (-1))]) Tryz.results135 ⟨ev_tmp rfl rfl, trivial⟩ ⟨rfl, hI.ext0, hI.fin trivial⟩
 ·replace h := ite_f hb h
  refine c_skip ?_
  refine k_same ?_
  refine c_seq ?_
  refine sr ?_
  refine sm ?_
  refine sm ?_
  refine sq (y_gtr rfl et et) ?_
  refine nk ?_
  refine c_cond (b := decide (b1 < a1)) et (fun hb => ?_) (fun hb => ?_)
  ·replace h := ite_t hb h
   refine sr ?_
   refine sac ?_
   refine nk ?_
   refine c_ret ?_
   obtain rfl := some_inj h
   exact q_ret (vs := [(vi 1)]) Tryz.results135 ⟨ev_tmp rfl rfl, trivial⟩ ⟨rfl, hI.ext0, hI.fin trivial⟩
  ·replace h := ite_f hb h
   refine c_skip ?_
   refine k_same ?_
   refine sr ?_
   refine sac ?_
   refine nk ?_
   refine c_ret ?_
   obtain rfl := some_inj h
   exact q_ret (vs := [(vi 0)]) Tryz.results135 ⟨ev_tmp rfl rfl, trivial⟩ ⟨rfl, hI.ext0, hI.fin trivial⟩

set_option maxRecDepth 100000 in
set_option maxHeartbeats 4000000 in
theorem c_ref01_Compare (F : NP) (w0 : World) (hF : ∀ k, F k → k < w0.heap.size) (a1 : GVal) (b1 : GVal) (hc : AllCl [] F w0) (r : Int)
  (h : m_ref01_Compare a1 b1 = some r) :
  Calls Tryz.prog 108 #[(Value.agg #[(vi a1.N), (vi a1.D)]), (Value.agg #[(vi b1.N), (vi b1.D)])] w0 fun e w => e = .returned (vi r) ∧ Ext w0 w ∧ AllCl [] F w := by
 refine enterK (l := [(Value.agg #[(vi a1.N), (vi a1.D)]), (Value.agg #[(vi b1.N), (vi b1.D)])]) Tryz.func108 rfl Tryz.ntmps108 rfl ?_
 have hI := Bun.start hF hc
 clear hc
 rw [m_ref01_Compare] at h
 refine sr ?_
 refine l_box (v := (Value.agg #[(vi a1.N), (vi a1.D)])) (cs := #[(vi a1.N), (vi a1.D)]) hI gn rfl rfl et rfl ?_
 clear hI; intro b2 c1 w1 hI
 obtain ⟨c2, hI⟩ := hI.relBox .z
 refine l_box (v := (Value.agg #[(vi b1.N), (vi b1.D)])) (cs := #[(vi b1.N), (vi b1.D)]) hI gn rfl rfl et rfl ?_
 clear hI; intro b3 c3 w2 hI
 obtain ⟨c4, hI⟩ := hI.relBox .z
 refine sac ?_
 refine nk ?_
 refine c_seq ?_
 refine sr ?_
 refine sq (y_loadN (l := [(vi a1.N), (vi a1.D)]) rfl et Tryz.underlying36 rfl size_36 (hI.kblk (l := [(vi a1.N), (vi a1.D)]) (.s .z) rfl).1) ?_
 obtain ⟨r1, hx1, h⟩ := bnd_some h
 refine s_call gn rfl (r_callF (vs := [(Value.agg #[(vi a1.N), (vi a1.D)])]) rfl ok_113 ⟨et, trivial⟩) (Calls.mono (c_ref01_Valid (Dj F c4) w2 hI.lt a1 trivial r1 hx1) ?_)
 rintro _ w3 ⟨rfl, hx2, hl1⟩
 refine ⟨_, rfl, ?_⟩
 replace hI := (hI.ext hx2)
 refine sm ?_
 refine s_gval (g_true rfl rfl rfl rfl) rfl (fun hc => (y_loadN (l := [(vi b1.N), (vi b1.D)]) rfl et Tryz.underlying36 rfl size_36 (hI.kblk (l := [(vi b1.N), (vi b1.D)]) .z rfl).1)) ?_
 obtain ⟨r2, hx3, h⟩ := bnd_some h
 replace hx3 := gd_some hx3
 refine s_gcallU (v := (vb r2)) (g_true rfl rfl rfl rfl) rfl (fun hc => (r_callF (vs := [(Value.agg #[(vi b1.N), (vi b1.D)])]) rfl ok_113 ⟨(ev_gv et hc), trivial⟩)) (fun hc => (c_ref01_Valid (Dj F c4) w3 hI.lt b1 trivial r2 (hx3 hc)).mono fun _ _ k => ⟨k.1, k.2.1⟩) ?_
 intro w4 hx4; replace hI := hI.ext hx4
 refine sq (y_and rfl et et) ?_
 refine nk ?_
 refine c_cond (b := r1 && r2) et (fun hb => ?_) (fun hb => ?_)
 ·replace h := ite_t hb h
  refine sr ?_
  refine sq (y_fieldAddr rfl et Tryz.underlying36 rfl size_2 rfl) ?_
  refine sq (y_load1 (v := (vi a1.N)) rfl et Tryz.underlying2 rfl (hI.kblk (l := [(vi a1.N)]) (.s .z) rfl).1) ?_
  refine sq (y_fieldAddr rfl et Tryz.underlying36 rfl size_2 rfl) ?_
  refine sq (y_load1 (v := (vi b1.D)) rfl et Tryz.underlying2 rfl (hI.kblk (l := [(vi b1.D)]) .z rfl).1) ?_
  refine sq (y_mul rfl et et) ?_
  refine sq (y_fieldAddr rfl et Tryz.underlying36 rfl size_2 rfl) ?_
  refine sq (y_load1 (v := (vi b1.N)) rfl et Tryz.underlying2 rfl (hI.kblk (l := [(vi b1.N)]) .z rfl).1) ?_
  refine sq (y_fieldAddr rfl et Tryz.underlying36 rfl size_2 rfl) ?_
  refine sq (y_load1 (v := (vi a1.D)) rfl et Tryz.underlying2 rfl (hI.kblk (l := [(vi a1.D)]) (.s .z) rfl).1) ?_
  refine sq (y_mul rfl et et) ?_
  obtain ⟨r3, hx5, h⟩ := bnd_some h
  refine s_call gn rfl (r_callF (vs := [(vi (wi64 (a1.N * b1.D))), (vi (wi64 (b1.N * a1.D)))]) rfl ok_135 ⟨et, ⟨et, trivial⟩⟩) (Calls.mono (c_ref01_order (Dj F c4) w4 hI.lt (wi64 (a1.N * b1.D)) (wi64 (b1.N * a1.D)) trivial r3 hx5) ?_)
  rintro _ w5 ⟨rfl, hx6, hl3⟩
  refine ⟨_, rfl, ?_⟩
  replace hI := (hI.ext hx6)
  refine sa ?_
  refine nk ?_
  refine c_ret ?_
  obtain rfl := some_inj h
  exact q_ret (vs := [(vi r3)]) Tryz.results108 ⟨ev_tmp rfl rfl, trivial⟩ ⟨rfl, hI.ext0, hI.fin trivial⟩
 ·replace h := ite_f hb h
  refine c_skip ?_
  refine k_same ?_
  refine c_seq ?_
  refine sr ?_
  refine sq (y_fieldAddr rfl et Tryz.underlying36 rfl size_2 rfl) ?_
  refine sq (y_load1 (v := (vi a1.N)) rfl et Tryz.underlying2 rfl (hI.kblk (l := [(vi a1.N)]) (.s .z) rfl).1) ?_
  refine sq (y_fieldAddr rfl et Tryz.underlying36 rfl size_2 rfl) ?_
  refine sq (y_load1 (v := (vi b1.N)) rfl et Tryz.underlying2 rfl (hI.kblk (l := [(vi b1.N)]) .z rfl).1) ?_
  refine sq (y_neq rfl et et) ?_
  refine nk ?_
  refine c_cond (b := !decide (a1.N = b1.N)) et (fun hb => ?_) (fun hb => ?_)
  ·replace h := ite_t hb h
   refine sr ?_
   refine sq (y_fieldAddr rfl et Tryz.underlying36 rfl size_2 rfl) ?_
   refine sq (y_load1 (v := (vi a1.N)) rfl et Tryz.underlying2 rfl (hI.kblk (l := [(vi a1.N)]) (.s .z) rfl).1) ?_
   refine sq (y_fieldAddr rfl et Tryz.underlying36 rfl size_2 rfl) ?_
   refine sq (y_load1 (v := (vi b1.N)) rfl et Tryz.underlying2 rfl (hI.kblk (l := [(vi b1.N)]) .z rfl).1) ?_
   obtain ⟨r4, hx7, h⟩ := bnd_some h
   refine s_call gn rfl (r_callF (vs := [(vi a1.N), (vi b1.N)]) rfl ok_135 ⟨et, ⟨et, trivial⟩⟩) (Calls.mono (c_ref01_order (Dj F c4) w4 hI.lt a1.N b1.N trivial r4 hx7) ?_)
   rintro _ w6 ⟨rfl, hx8, hl4⟩
   refine ⟨_, rfl, ?_⟩
   replace hI := (hI.ext hx8)
   refine sa ?_
   refine nk ?_
   refine c_ret ?_
   obtain rfl := some_inj h
   exact q_ret (vs := [(vi r4)]) Tryz.results108 ⟨ev_tmp rfl rfl, trivial⟩ ⟨rfl, hI.ext0, hI.fin trivial⟩
  ·replace h := ite_f hb h
   refine c_skip ?_
   refine k_same ?_
   refine sr ?_
   refine sq (y_fieldAddr rfl et Tryz.underlying36 rfl size_2 rfl) ?_
   refine sq (y_load1 (v := (vi a1.D)) rfl et Tryz.underlying2 rfl (hI.kblk (l := [(vi a1.D)]) (.s .z) rfl).1) ?_
   refine sq (y_fieldAddr rfl et Tryz.underlying36 rfl size_2 rfl) ?_
   refine sq (y_load1 (v := (vi b1.D)) rfl et Tryz.underlying2 rfl (hI.kblk (l := [(vi b1.D)]) .z rfl).1) ?_
   obtain ⟨r5, hx9, h⟩ := bnd_some h
   refine s_call gn rfl (r_callF (vs := [(vi a1.D), (vi b1.D)]) rfl ok_135 ⟨et, ⟨et, trivial⟩⟩) (Calls.mono (c_ref01_order (Dj F c4) w4 hI.lt a1.D b1.D trivial r5 hx9) ?_)
   rintro _ w7 ⟨rfl, hx10, hl5⟩
   refine ⟨_, rfl, ?_⟩
   replace hI := (hI.ext hx10)
   refine sa ?_
   refine nk ?_
   refine c_ret ?_
   obtain rfl := some_inj h
   exact q_ret (vs := [(vi r5)]) Tryz.results108 ⟨ev_tmp rfl rfl, trivial⟩ ⟨rfl, hI.ext0, hI.fin trivial⟩

set_option maxRecDepth 100000 in
set_option maxHeartbeats 4000000 in
theorem c_ref04_Compare (F : NP) (w0 : World) (hF : ∀ k, F k → k < w0.heap.size) (t1 : GType) (a1 : GVal) (b1 : GVal) (hc : AllCl [] F w0) (r : Int)
  (h : m_ref04_Compare t1 a1 b1 = some r) :
  Calls Tryz.prog 80 #[(Value.agg #[(vi t1.Kind), (vi t1.Bits), (vi t1.Frac), (vi t1.Round), (vi t1.Over)]), (Value.agg #[(vi a1.N), (vi a1.D)]), (Value.agg #[(vi b1.N), (vi b1.D)])] w0 fun e w => e = .returned (vi r) ∧ Ext w0 w ∧ AllCl [] F w := by
 refine enterK (l := [(Value.agg #[(vi t1.Kind), (vi t1.Bits), (vi t1.Frac), (vi t1.Round), (vi t1.Over)]), (Value.agg #[(vi a1.N), (vi a1.D)]), (Value.agg #[(vi b1.N), (vi b1.D)])]) Tryz.func80 rfl Tryz.ntmps80 rfl ?_
 have hI := Bun.start hF hc
 clear hc
 rw [m_ref04_Compare] at h
 refine sr ?_
 refine l_box (v := (Value.agg #[(vi t1.Kind), (vi t1.Bits), (vi t1.Frac), (vi t1.Round), (vi t1.Over)])) (cs := #[(vi t1.Kind), (vi t1.Bits), (vi t1.Frac), (vi t1.Round), (vi t1.Over)]) hI gn rfl rfl et rfl ?_
 clear hI; intro b2 c1 w1 hI
 obtain ⟨c2, hI⟩ := hI.relBox .z
 refine l_box (v := (Value.agg #[(vi a1.N), (vi a1.D)])) (cs := #[(vi a1.N), (vi a1.D)]) hI gn rfl rfl et rfl ?_
 clear hI; intro b3 c3 w2 hI
 obtain ⟨c4, hI⟩ := hI.relBox .z
 refine l_box (v := (Value.agg #[(vi b1.N), (vi b1.D)])) (cs := #[(vi b1.N), (vi b1.D)]) hI gn rfl rfl et rfl ?_
 clear hI; intro b4 c5 w3 hI
 obtain ⟨c6, hI⟩ := hI.relBox .z
 refine sac ?_
 refine nk ?_
 refine c_seq ?_
 refine sr ?_
 refine sq (y_loadN (l := [(vi t1.Kind), (vi t1.Bits), (vi t1.Frac), (vi t1.Round), (vi t1.Over)]) rfl et Tryz.underlying23 rfl size_23 (hI.kblk (l := [(vi t1.Kind), (vi t1.Bits), (vi t1.Frac), (vi t1.Round), (vi t1.Over)]) (.s (.s .z)) rfl).1) ?_
 refine sq (y_loadN (l := [(vi a1.N), (vi a1.D)]) rfl et Tryz.underlying36 rfl size_36 (hI.kblk (l := [(vi a1.N), (vi a1.D)]) (.s .z) rfl).1) ?_
 obtain ⟨r1, hx1, h⟩ := bnd_some h
 refine s_call gn rfl (r_callF (vs := [(Value.agg #[(vi t1.Kind), (vi t1.Bits), (vi t1.Frac), (vi t1.Round), (vi t1.Over)]), (Value.agg #[(vi a1.N), (vi a1.D)])]) rfl ok_107 ⟨et, ⟨et, trivial⟩⟩) (Calls.mono (c_ref04_Valid (Dj F c6) w3 hI.lt t1 a1 trivial r1 hx1) ?_)
 rintro _ w4 ⟨rfl, hx2, hl1⟩
 refine ⟨_, rfl, ?_⟩
 replace hI := (hI.ext hx2)
 refine sq (y_not rfl et) ?_
 refine sm ?_
 refine s_gval (g_false rfl rfl rfl rfl) rfl (fun hc => (y_loadN (l := [(vi t1.Kind), (vi t1.Bits), (vi t1.Frac), (vi t1.Round), (vi t1.Over)]) rfl et Tryz.underlying23 rfl size_23 (hI.kblk (l := [(vi t1.Kind), (vi t1.Bits), (vi t1.Frac), (vi t1.Round), (vi t1.Over)]) (.s (.s .z)) rfl).1)) ?_
 refine s_gval (g_false rfl rfl rfl rfl) rfl (fun hc => (y_loadN (l := [(vi b1.N), (vi b1.D)]) rfl et Tryz.underlying36 rfl size_36 (hI.kblk (l := [(vi b1.N), (vi b1.D)]) .z rfl).1)) ?_
 obtain ⟨r2, hx3, h⟩ := bnd_some h
 replace hx3 := gd_some hx3
 refine s_gcallU (v := (vb r2)) (g_false rfl rfl rfl rfl) rfl (fun hc => (r_callF (vs := [(Value.agg #[(vi t1.Kind), (vi t1.Bits), (vi t1.Frac), (vi t1.Round), (vi t1.Over)]), (Value.agg #[(vi b1.N), (vi b1.D)])]) rfl ok_107 ⟨(ev_gv et hc), ⟨(ev_gv et hc), trivial⟩⟩)) (fun hc => (c_ref04_Valid (Dj F c6) w4 hI.lt t1 b1 trivial r2 (hx3 hc)).mono fun _ _ k => ⟨k.1, k.2.1⟩) ?_
 intro w5 hx4; replace hI := hI.ext hx4
 refine s_gval (g_false rfl rfl rfl rfl) rfl (fun hc => (y_not rfl (ev_gv et hc))) ?_
 refine sq (y_or rfl et et) ?_
 refine nk ?_
 refine c_cond (b := (!r1) || (!r2)) et (fun hb => ?_) (fun hb => ?_)
 ·replace h := ite_t hb h
  refine sr ?_
  refine sac ?_
  refine nk ?_
  refine c_ret ?_
  obtain rfl := some_inj h
  exact q_ret (vs := [(vi 0)]) Tryz.results80 ⟨ev_tmp rfl rfl, trivial⟩ ⟨rfl, hI.ext0, hI.fin trivial⟩
 ·replace h := ite_f hb h
  refine c_skip ?_
  refine k_same ?_
  refine sr ?_
  refine sq (y_loadN (l := [(vi a1.N), (vi a1.D)]) rfl et Tryz.underlying36 rfl size_36 (hI.kblk (l := [(vi a1.N), (vi a1.D)]) (.s .z) rfl).1) ?_
  refine sq (y_loadN (l := [(vi b1.N), (vi b1.D)]) rfl et Tryz.underlying36 rfl size_36 (hI.kblk (l := [(vi b1.N), (vi b1.D)]) .z rfl).1) ?_
  obtain ⟨r3, hx5, h⟩ := bnd_some h
  refine s_call gn rfl (r_callF (vs := [(Value.agg #[(vi a1.N), (vi a1.D)]), (Value.agg #[(vi b1.N), (vi b1.D)])]) rfl ok_108 ⟨et, ⟨et, trivial⟩⟩) (Calls.mono (c_ref01_Compare (Dj F c6) w5 hI.lt a1 b1 trivial r3 hx5) ?_)
  rintro _ w6 ⟨rfl, hx6, hl3⟩
  refine ⟨_, rfl, ?_⟩
  replace hI := (hI.ext hx6)
  refine sa ?_
  refine nk ?_
  refine c_ret ?_
  obtain rfl := some_inj h
  exact q_ret (vs := [(vi r3)]) Tryz.results80 ⟨ev_tmp rfl rfl, trivial⟩ ⟨rfl, hI.ext0, hI.fin trivial⟩

set_option maxRecDepth 100000 in
set_option maxHeartbeats 4000000 in
theorem c_ref04_floor (F : NP) (w0 : World) (hF : ∀ k, F k → k < w0.heap.size) (n1 : Int) (d1 : Int) (hc : AllCl [] F w0) (r : Int)
  (h : m_ref04_floor n1 d1 = some r) :
  Calls Tryz.prog 112 #[(vi n1), (vi d1)] w0 fun e w => e = .returned (vi r) ∧ Ext w0 w ∧ AllCl [] F w := by
 refine enterK (l := [(vi n1), (vi d1)]) Tryz.func112 rfl Tryz.ntmps112 rfl ?_
 have hI := Bun.start hF hc
 clear hc
 rw [m_ref04_floor] at h
 refine sr ?_
 refine sac ?_
 refine nk ?_
 refine sr ?_
 refine sm ?_
 refine sm ?_
 obtain ⟨ho1, h⟩ := chk_some h
 refine sq (y_quo rfl et et ho1) ?_
 refine sa ?_
 refine nk ?_
 refine c_seq ?_
 refine sr ?_
 refine sm ?_
 refine sm ?_
 refine sq (y_mul rfl et et) ?_
 refine sm ?_
 refine sq (y_gtr rfl et et) ?_
 refine nk ?_
 refine c_cond (b := decide (n1 < wi64 ((wi64 (Int.tdiv n1 d1)) * d1))) et (fun hb => ?_) (fun hb => ?_)
 ·replace h := ite_t hb h
  refine sr ?_
  refine sm ?_
  refine sq (y_sub rfl et ev_const) ?_
  refine sa ?_
  refine nk ?_
  refine c_ret ?_
  obtain rfl := some_inj h
  exact q_ret (vs := [(vi (wi64 ((wi64 (Int.tdiv n1 d1)) - 1)))]) Tryz.results112 ⟨ev_tmp rfl rfl, trivial⟩ ⟨rfl, hI.ext0, hI.fin trivial⟩
 ·replace h := ite_f hb h
  refine c_skip ?_
  refine k_same ?_
  refine sr ?_
  refine sm ?_
  refine sa ?_
  refine nk ?_
  refine c_ret ?_
  obtain rfl := some_inj h
  exact q_ret (vs := [(vi (wi64 (Int.tdiv n1 d1)))]) Tryz.results112 ⟨ev_tmp rfl rfl, trivial⟩ ⟨rfl, hI.ext0, hI.fin trivial⟩

set_option maxRecDepth 100000 in
set_option maxHeartbeats 4000000 in
theorem c_ref04_fit (F : NP) (w0 : World) (hF : ∀ k, F k → k < w0.heap.size) (t1 : GType) (n1 : Int) (hc : AllCl [] F w0) (r : GVal)
  (h : m_ref04_fit t1 n1 = some r) :
  Calls Tryz.prog 109 #[(Value.agg #[(vi t1.Kind), (vi t1.Bits), (vi t1.Frac), (vi t1.Round), (vi t1.Over)]), (vi n1)] w0 fun e w => e = .returned (Value.agg #[(vi r.N), (vi r.D)]) ∧ Ext w0 w ∧ AllCl [] F w := by
 refine enterK (l := [(Value.agg #[(vi t1.Kind), (vi t1.Bits), (vi t1.Frac), (vi t1.Round), (vi t1.Over)]), (vi n1)]) Tryz.func109 rfl Tryz.ntmps109 rfl ?_
 have hI := Bun.start hF hc
 clear hc
 rw [m_ref04_fit] at h
 refine sr ?_
 refine l_box (v := (Value.agg #[(vi t1.Kind), (vi t1.Bits), (vi t1.Frac), (vi t1.Round), (vi t1.Over)])) (cs := #[(vi t1.Kind), (vi t1.Bits), (vi t1.Frac), (vi t1.Round), (vi t1.Over)]) hI gn rfl rfl et rfl ?_
 clear hI; intro b1 c1 w1 hI
 obtain ⟨c2, hI⟩ := hI.relBox .z
 refine l_alloc (cs := #[(vi 0), (vi 0)]) hI gn rfl rfl zero_36 rfl ?_
 clear hI; intro b2 c3 w2 hI
 refine nk ?_
 refine sr ?_
 refine sq (y_fieldAddr rfl et Tryz.underlying23 rfl size_3 rfl) ?_
 refine sq (y_load1 (v := (vi t1.Bits)) rfl et Tryz.underlying3 rfl (hI.kblk (l := [(vi t1.Bits)]) .z rfl).1) ?_
 refine sq (y_sub rfl et ev_const) ?_
 refine sq (y_conv rfl (by rw [Tryz.underlying3]; rfl) Tryz.underlying128 et) ?_
 obtain ⟨ho1, h⟩ := chk_some h
 refine sq (y_shl rfl ev_const et ho1) ?_
 obtain ⟨half1, hx1, h⟩ := bnd_some h
 refine sq (binU (y_assign rfl et) (congrArg (Value.int .i64) (some_inj hx1))) ?_
 refine nk ?_
 refine c_join (α := Int) (fun _ => ⟨33, []⟩) (fun x => [(1, (vi x)), (4, (vp b2 0)), (5, (vi half1))]) (fun x => fun w => ∃ C, Bun noM F w0 C w [MO.box b2 36 #[(vi 0), (vi 0)]] [] ∧ m_ref04_fit_j1 half1 x = some r) ?_ ?_
 ·clear h hI; rintro n2 w3 ⟨c4, hI, h⟩
  try dsimp only at hI h
  rw [m_ref04_fit_j1] at h
  refine c_sub (e := [(1, (vi n2)), (4, (vp b2 0)), (5, (vi half1))]) ⟨rfl, rfl, rfl, trivial⟩ ?_
  refine sr ?_
  refine sm ?_
  refine sq (y_neg rfl et) ?_
  refine sm ?_
  refine sq (y_sub rfl et ev_const) ?_
  refine sm ?_
  refine sq (y_min rfl et et) ?_
  refine sq (y_max rfl et et) ?_
  refine sq (y_build (vs := [(0, (vi (max (wi64 (-half1)) (min (wi64 (half1 - 1)) n2)))), (1, (vi 1))]) (cs := #[(vi (max (wi64 (-half1)) (min (wi64 (half1 - 1)) n2))), (vi 1)]) rfl ⟨rfl, et, ⟨rfl, ev_const, trivial⟩⟩ (by kernel_rfl)) ?_
  refine l_store (new := [(vi (max (wi64 (-half1)) (min (wi64 (half1 - 1)) n2))), (vi 1)]) (cs' := #[(vi (max (wi64 (-half1)) (min (wi64 (half1 - 1)) n2))), (vi 1)]) hI .z gn rfl rfl et et rfl size_36 rfl rfl rfl ?_
  clear hI; intro c5 w4 hI
  refine nk ?_
  refine c_ret ?_
  obtain rfl := some_inj h
  exact q_ret (vs := [(Value.agg #[(vi (max (wi64 (-half1)) (min (wi64 (half1 - 1)) n2))), (vi 1)])]) Tryz.results109 ⟨⟨_, ev_tmp rfl rfl, load_agg (l := [(vi (max (wi64 (-half1)) (min (wi64 (half1 - 1)) n2))), (vi 1)]) Tryz.underlying36 rfl size_36 (CellsAt.of_blk (hI.blk .z) rfl)⟩, trivial⟩ ⟨rfl, hI.ext0, hI.fin trivial⟩
 ·skip
  refine sr ?_
  refine sq (y_fieldAddr rfl et Tryz.underlying23 rfl size_3 rfl) ?_
  refine sq (y_load1 (v := (vi t1.Over)) rfl et Tryz.underlying3 rfl (hI.kblk (l := [(vi t1.Over)]) .z rfl).1) ?_
  refine sq (y_eql rfl et ev_const) ?_
  refine nk ?_
  refine c_cond (b := decide (t1.Over = 2)) et (fun hb => ?_) (fun hb => ?_)
  ·replace h := ite_t hb h
   refine c_region rfl ?_
   refine sm ?_
   refine sm ?_
   refine sm ?_
   refine sq (y_add rfl et et) ?_
   refine sm ?_
   refine sq (y_mul rfl ev_const et) ?_
   obtain ⟨r1, hx2, h⟩ := bnd_some h
   refine s_call gn rfl (r_callF (vs := [(vi (wi64 (n1 + half1))), (vi (wi64 (2 * half1)))]) rfl ok_112 ⟨et, ⟨et, trivial⟩⟩) (Calls.mono (c_ref04_floor (Dj F c3) w2 hI.lt (wi64 (n1 + half1)) (wi64 (2 * half1)) trivial r1 hx2) ?_)
   rintro _ w5 ⟨rfl, hx3, hl1⟩
   refine ⟨_, rfl, ?_⟩
   replace hI := (hI.ext hx3)
   refine sq (y_mul rfl et ev_const) ?_
   refine sm ?_
   refine sq (y_mul rfl et et) ?_
   refine sq (y_sub rfl et et) ?_
   obtain ⟨n3, hx4, h⟩ := bnd_some h
   refine sq (binU (y_assign rfl et) (congrArg (Value.int .i64) (some_inj hx4))) ?_
   refine s_nil ?_
   exact k_join n3 ⟨rfl, rfl, rfl, trivial⟩ ⟨_, hI.arr (.c .z .n) trivial, h⟩ rfl
  ·replace h := ite_f hb h
   refine c_skip ?_
   exact k_join n1 ⟨rfl, rfl, rfl, trivial⟩ ⟨_, hI.arr (.c .z .n) trivial, h⟩ rfl

set_option maxRecDepth 100000 in
set_option maxHeartbeats 4000000 in
theorem c_ref04_round (F : NP) (w0 : World) (hF : ∀ k, F k → k < w0.heap.size) (n1 : Int) (d1 : Int) (how1 : Int) (hc : AllCl [] F w0) (r : Int)
  (h : m_ref04_round n1 d1 how1 = some r) :
  Calls Tryz.prog 110 #[(vi n1), (vi d1), (vi how1)] w0 fun e w => e = .returned (vi r) ∧ Ext w0 w ∧ AllCl [] F w := by
 refine enterK (l := [(vi n1), (vi d1), (vi how1)]) Tryz.func110 rfl Tryz.ntmps110 rfl ?_
 have hI := Bun.start hF hc
 clear hc
 rw [m_ref04_round] at h
 refine sr ?_
 refine sac ?_
 refine nk ?_
 refine sr ?_
 refine sm ?_
 refine sm ?_
 obtain ⟨r1, hx1, h⟩ := bnd_some h
 refine s_call gn rfl (r_callF (vs := [(vi n1), (vi d1)]) rfl ok_112 ⟨et, ⟨et, trivial⟩⟩) (Calls.mono (c_ref04_floor (Dj F noM) w0 hI.lt n1 d1 trivial r1 hx1) ?_)
 rintro _ w1 ⟨rfl, hx2, hl1⟩
 refine ⟨_, rfl, ?_⟩
 replace hI := (hI.ext hx2)
 refine sa ?_
 refine nk ?_
 refine sr ?_
 refine sm ?_
 refine sm ?_
 refine sm ?_
 refine sq (y_mul rfl et et) ?_
 refine sq (y_sub rfl et et) ?_
 obtain ⟨rest1, hx3, h⟩ := bnd_some h
 refine sq (binU (y_assign rfl et) (congrArg (Value.int .i64) (some_inj hx3))) ?_
 refine nk ?_
 refine c_seq ?_
 refine sr ?_
 refine sm ?_
 refine sq (y_eql rfl et ev_const) ?_
 refine sm ?_
 refine s_gval (g_false rfl rfl rfl rfl) rfl (fun hc => (y_move rfl et)) ?_
 refine s_gval (g_false rfl rfl rfl rfl) rfl (fun hc => (y_eql rfl (ev_gv et hc) ev_const)) ?_
 refine sq (y_or rfl et et) ?_
 refine nk ?_
 refine c_cond (b := (decide (rest1 = 0)) || (decide (how1 = 1))) et (fun hb => ?_) (fun hb => ?_)
 ·replace h := ite_t hb h
  refine sr ?_
  refine sm ?_
  refine sa ?_
  refine nk ?_
  refine c_ret ?_
  obtain rfl := some_inj h
  exact q_ret (vs := [(vi r1)]) Tryz.results110 ⟨ev_tmp rfl rfl, trivial⟩ ⟨rfl, hI.ext0, hI.fin trivial⟩
 ·replace h := ite_f hb h
  refine c_skip ?_
  refine k_same ?_
  refine c_seq ?_
  refine sr ?_
  refine sm ?_
  refine sq (y_eql rfl et ev_const) ?_
  refine nk ?_
  refine c_cond (b := decide (how1 = 2)) et (fun hb => ?_) (fun hb => ?_)
  ·replace h := ite_t hb h
   refine sr ?_
   refine sm ?_
   refine sq (y_add rfl et ev_const) ?_
   refine sa ?_
   refine nk ?_
   refine c_ret ?_
   obtain rfl := some_inj h
   exact q_ret (vs := [(vi (wi64 (r1 + 1)))]) Tryz.results110 ⟨ev_tmp rfl rfl, trivial⟩ ⟨rfl, hI.ext0, hI.fin trivial⟩
  ·replace h := ite_f hb h
   refine c_skip ?_
   refine k_same ?_
   refine c_seq ?_
   refine sr ?_
   refine sm ?_
   refine sq (y_eql rfl et ev_const) ?_
   refine nk ?_
   refine c_cond (b := decide (how1 = 3)) et (fun hb => ?_) (fun hb => ?_)
   ·replace h := ite_t hb h
    refine c_seq ?_
    refine sr ?_
    refine sm ?_
    refine sq (y_lss rfl et ev_const) ?_
    refine s_nil ?_
    refine k_next (e := [(7, (vi r1)), (31, (vb (decide (n1 < 0))))]) ⟨rfl, rfl, trivial⟩ ?_
    refine c_cond (b := decide (n1 < 0)) et (fun hb => ?_) (fun hb => ?_)
    ·replace h := ite_t hb h
     refine sr ?_
     refine sm ?_
     refine sq (y_add rfl et ev_const) ?_
     refine sa ?_
     refine nk ?_
     refine c_ret ?_
     obtain rfl := some_inj h
     exact q_ret (vs := [(vi (wi64 (r1 + 1)))]) Tryz.results110 ⟨ev_tmp rfl rfl, trivial⟩ ⟨rfl, hI.ext0, hI.fin trivial⟩
    ·replace h := ite_f hb h
     refine c_skip ?_
     refine k_same ?_
     refine sr ?_
     refine sm ?_
     refine sa ?_
     refine nk ?_
     refine c_ret ?_
     obtain rfl := some_inj h
     exact q_ret (vs := [(vi r1)]) Tryz.results110 ⟨ev_tmp rfl rfl, trivial⟩ ⟨rfl, hI.ext0, hI.fin trivial⟩
   ·replace h := ite_f hb h
    refine c_skip ?_
    refine k_same ?_
    refine c_seq ?_
    refine sr ?_
    refine sm ?_
    refine sm ?_
    refine sm ?_
    refine sq (y_sub rfl et et) ?_
    refine sq (y_gtr rfl et et) ?_
    refine sm ?_
    refine s_gval (g_false rfl rfl rfl rfl) rfl (fun hc => (y_move rfl et)) ?_
    refine s_gval (g_false rfl rfl rfl rfl) rfl (fun hc => (y_move rfl et)) ?_
    refine s_gval (g_false rfl rfl rfl rfl) rfl (fun hc => (y_move rfl et)) ?_
    refine s_gval (g_false rfl rfl rfl rfl) rfl (fun hc => (y_sub rfl (ev_gv et hc) (ev_gv et hc))) ?_
    refine s_gval (g_false rfl rfl rfl rfl) rfl (fun hc => (y_eql rfl (ev_gv et hc) (ev_gv et hc))) ?_
    refine s_gval (g_false rfl rfl rfl rfl) rfl (fun hc => (y_move rfl (ev_gv et hc))) ?_
    refine s_gval (g_true2 rfl rfl rfl rfl) rfl (fun hc => (y_move rfl et)) ?_
    refine s_gval (g_true2 rfl rfl rfl rfl) rfl (fun hc => (y_rem rfl (ev_gv et hc) ev_const (by decide))) ?_
    refine s_gval (g_true2 rfl rfl rfl rfl) rfl (fun hc => (y_neq rfl (ev_gv et hc) ev_const)) ?_
    refine s_gval (g_false rfl rfl rfl rfl) rfl (fun hc => (y_and2 rfl hc et et)) ?_
    refine sq (y_or rfl et et) ?_
    refine s_nil ?_
    refine k_next (e := [(7, (vi r1)), (51, (vb ((decide (wi64 (d1 - rest1) < rest1)) || ((decide (rest1 = wi64 (d1 - rest1))) && (!decide (Int.tmod r1 2 = 0))))))]) ⟨rfl, rfl, trivial⟩ ?_
    refine c_cond (b := (decide (wi64 (d1 - rest1) < rest1)) || ((decide (rest1 = wi64 (d1 - rest1))) && (!decide (Int.tmod r1 2 = 0)))) et (fun hb => ?_) (fun hb => ?_)
    ·replace h := ite_t hb h
     refine sr ?_
     refine sm ?_
     refine sq (y_add rfl et ev_const) ?_
     refine sa ?_
     refine nk ?_
     refine c_ret ?_
     obtain rfl := some_inj h
     exact q_ret (vs := [(vi (wi64 (r1 + 1)))]) Tryz.results110 ⟨ev_tmp rfl rfl, trivial⟩ ⟨rfl, hI.ext0, hI.fin trivial⟩
    ·replace h := ite_f hb h
     refine c_skip ?_
     refine k_same ?_
     refine sr ?_
     refine sm ?_
     refine sa ?_
     refine nk ?_
     refine c_ret ?_
     obtain rfl := some_inj h
     exact q_ret (vs := [(vi r1)]) Tryz.results110 ⟨ev_tmp rfl rfl, trivial⟩ ⟨rfl, hI.ext0, hI.fin trivial⟩

set_option maxRecDepth 100000 in
set_option maxHeartbeats 4000000 in
theorem c_ref04_fix (F : NP) (w0 : World) (hF : ∀ k, F k → k < w0.heap.size) (op1 : Int) (t1 : GType) (a1 : Int) (b1 : Int) (hc : AllCl [] F w0) (r : GVal × Int)
  (h : m_ref04_fix op1 t1 a1 b1 = some r) :
  Calls Tryz.prog 81 #[(vi op1), (Value.agg #[(vi t1.Kind), (vi t1.Bits), (vi t1.Frac), (vi t1.Round), (vi t1.Over)]), (vi a1), (vi b1)] w0 fun e w => e = .returned (Value.tuple #[(Value.agg #[(vi r.1.N), (vi r.1.D)]), (vi r.2)]) ∧ Ext w0 w ∧ AllCl [] F w := by
 refine enterK (l := [(vi op1), (Value.agg #[(vi t1.Kind), (vi t1.Bits), (vi t1.Frac), (vi t1.Round), (vi t1.Over)]), (vi a1), (vi b1)]) Tryz.func81 rfl Tryz.ntmps81 rfl ?_
 have hI := Bun.start hF hc
 clear hc
 rw [m_ref04_fix] at h
 refine sr ?_
 refine l_box (v := (Value.agg #[(vi t1.Kind), (vi t1.Bits), (vi t1.Frac), (vi t1.Round), (vi t1.Over)])) (cs := #[(vi t1.Kind), (vi t1.Bits), (vi t1.Frac), (vi t1.Round), (vi t1.Over)]) hI gn rfl rfl et rfl ?_
 clear hI; intro b2 c1 w1 hI
 obtain ⟨c2, hI⟩ := hI.relBox .z
 refine l_alloc (cs := #[(vi 0), (vi 0)]) hI gn rfl rfl zero_36 rfl ?_
 clear hI; intro b3 c3 w2 hI
 refine sac ?_
 refine nk ?_
 refine c_seq ?_
 refine sr ?_
 refine sm ?_
 refine nk ?_
 refine c_block ?_
 refine sr ?_
 refine sq (y_eql rfl et ev_const) ?_
 refine sa ?_
 refine nk ?_
 refine c_cond (b := decide (op1 = 4)) et (fun hb => ?_) (fun hb => ?_)
 ·replace h := ite_t hb h
  refine sr ?_
  refine sq (y_loadN (l := [(vi t1.Kind), (vi t1.Bits), (vi t1.Frac), (vi t1.Round), (vi t1.Over)]) rfl et Tryz.underlying23 rfl size_23 (hI.kblk (l := [(vi t1.Kind), (vi t1.Bits), (vi t1.Frac), (vi t1.Round), (vi t1.Over)]) .z rfl).1) ?_
  refine sm ?_
  refine sm ?_
  refine sq (y_add rfl et et) ?_
  obtain ⟨r1, hx1, h⟩ := bnd_some h
  refine s_call gn rfl (r_callF (vs := [(Value.agg #[(vi t1.Kind), (vi t1.Bits), (vi t1.Frac), (vi t1.Round), (vi t1.Over)]), (vi (wi64 (a1 + b1)))]) rfl ok_109 ⟨et, ⟨et, trivial⟩⟩) (Calls.mono (c_ref04_fit (Dj F c3) w2 hI.lt t1 (wi64 (a1 + b1)) trivial r1 hx1) ?_)
  rintro _ w3 ⟨rfl, hx2, hl1⟩
  refine ⟨_, rfl, ?_⟩
  replace hI := (hI.ext hx2)
  refine l_store (new := [(vi r1.N), (vi r1.D)]) (cs' := #[(vi r1.N), (vi r1.D)]) hI .z gn rfl rfl et et rfl size_36 rfl rfl rfl ?_
  clear hI; intro c4 w4 hI
  refine sac ?_
  refine nk ?_
  refine c_ret ?_
  obtain rfl := some_inj h
  exact q_ret (vs := [(Value.agg #[(vi r1.N), (vi r1.D)]), (vi 0)]) Tryz.results81 ⟨⟨_, ev_tmp rfl rfl, load_agg (l := [(vi r1.N), (vi r1.D)]) Tryz.underlying36 rfl size_36 (CellsAt.of_blk (hI.blk .z) rfl)⟩, ⟨ev_tmp rfl rfl, trivial⟩⟩ ⟨rfl, hI.ext0, hI.fin trivial⟩
 ·replace h := ite_f hb h
  refine sr ?_
  refine sq (y_eql rfl et ev_const) ?_
  refine sa ?_
  refine nk ?_
  refine c_cond (b := decide (op1 = 5)) et (fun hb => ?_) (fun hb => ?_)
  ·replace h := ite_t hb h
   refine sr ?_
   refine sq (y_loadN (l := [(vi t1.Kind), (vi t1.Bits), (vi t1.Frac), (vi t1.Round), (vi t1.Over)]) rfl et Tryz.underlying23 rfl size_23 (hI.kblk (l := [(vi t1.Kind), (vi t1.Bits), (vi t1.Frac), (vi t1.Round), (vi t1.Over)]) .z rfl).1) ?_
   refine sm ?_
   refine sm ?_
   refine sq (y_sub rfl et et) ?_
   obtain ⟨r2, hx3, h⟩ := bnd_some h
   refine s_call gn rfl (r_callF (vs := [(Value.agg #[(vi t1.Kind), (vi t1.Bits), (vi t1.Frac), (vi t1.Round), (vi t1.Over)]), (vi (wi64 (a1 - b1)))]) rfl ok_109 ⟨et, ⟨et, trivial⟩⟩) (Calls.mono (c_ref04_fit (Dj F c3) w2 hI.lt t1 (wi64 (a1 - b1)) trivial r2 hx3) ?_)
   rintro _ w5 ⟨rfl, hx4, hl2⟩
   refine ⟨_, rfl, ?_⟩
   replace hI := (hI.ext hx4)
   refine l_store (new := [(vi r2.N), (vi r2.D)]) (cs' := #[(vi r2.N), (vi r2.D)]) hI .z gn rfl rfl et et rfl size_36 rfl rfl rfl ?_
   clear hI; intro c5 w6 hI
   refine sac ?_
   refine nk ?_
   refine c_ret ?_
   obtain rfl := some_inj h
   exact q_ret (vs := [(Value.agg #[(vi r2.N), (vi r2.D)]), (vi 0)]) Tryz.results81 ⟨⟨_, ev_tmp rfl rfl, load_agg (l := [(vi r2.N), (vi r2.D)]) Tryz.underlying36 rfl size_36 (CellsAt.of_blk (hI.blk .z) rfl)⟩, ⟨ev_tmp rfl rfl, trivial⟩⟩ ⟨rfl, hI.ext0, hI.fin trivial⟩
  ·replace h := ite_f hb h
   refine sr ?_
   refine sq (y_eql rfl et ev_const) ?_
   refine sa ?_
   refine nk ?_
   refine c_cond (b := decide (op1 = 6)) et (fun hb => ?_) (fun hb => ?_)
   ·replace h := ite_t hb h
    refine c_seq ?_
    refine c_drawX [10] false (.c (0, .q) (.c (1, .q) (.c (2, .q) (.c (3, .q) (.c (4, .q) (.c (6, .q) (.c (7, .q) (.c (5, .s) (.c (8, .s) (.c (9, .s) (.c (10, .s) (.c (11, .q) .n)))))))))))) hI (by kernel_rfl) (by kernel_rfl) ?_
    clear hI; intro w7 hI
    refine a_read rfl gn rfl (fun w' hw' => (y_loadN (l := [(vi t1.Kind), (vi t1.Bits), (vi t1.Frac), (vi t1.Round), (vi t1.Over)]) rfl et Tryz.underlying23 rfl size_23 ((hI.kblk (l := [(vi t1.Kind), (vi t1.Bits), (vi t1.Frac), (vi t1.Round), (vi t1.Over)]) .z rfl).at_ (SX.any rfl hw')))) (by kernel_rfl) ?_
    refine a_q rfl gn rfl (fun w' => (y_move rfl et)) ?_
    refine a_q rfl gn rfl (fun w' => (y_move rfl et)) ?_
    refine a_q rfl gn rfl (fun w' => (y_mul rfl et et)) ?_
    refine a_read rfl gn rfl (fun w' hw' => (y_loadN (l := [(vi t1.Kind), (vi t1.Bits), (vi t1.Frac), (vi t1.Round), (vi t1.Over)]) rfl et Tryz.underlying23 rfl size_23 ((hI.kblk (l := [(vi t1.Kind), (vi t1.Bits), (vi t1.Frac), (vi t1.Round), (vi t1.Over)]) .z rfl).at_ (SX.any rfl hw')))) (by kernel_rfl) ?_
    refine a_q rfl gn rfl (fun w' => (y_fieldAddr rfl et Tryz.underlying23 rfl size_3 rfl)) ?_
    refine a_read rfl gn rfl (fun w' hw' => (y_load1 (v := (vi t1.Round)) rfl et Tryz.underlying3 rfl ((hI.kblk (l := [(vi t1.Round)]) .z rfl).at_ (SX.any rfl hw')))) (by kernel_rfl) ?_
    obtain ⟨r3, hx5, h⟩ := bnd_some h
    refine la_call rfl gn rfl (r_callF (vs := [(Value.agg #[(vi t1.Kind), (vi t1.Bits), (vi t1.Frac), (vi t1.Round), (vi t1.Over)])]) rfl ok_111 ⟨et, trivial⟩) (Calls.mono (c_ref04_step (Dj F c3) w7 hI.lt t1 trivial r3 hx5) ?_)
    rintro _ w8 ⟨rfl, hx6, hl3⟩
    refine ⟨_, rfl, hx6, ?_⟩
    replace hI := (hI.ext hx6)
    obtain ⟨r4, hx7, h⟩ := bnd_some h
    refine la_call rfl gn rfl (r_callF (vs := [(vi (wi64 (a1 * b1))), (vi r3), (vi t1.Round)]) rfl ok_110 ⟨et, ⟨et, ⟨et, trivial⟩⟩⟩) (Calls.mono (c_ref04_round (Dj F c3) w8 hI.lt (wi64 (a1 * b1)) r3 t1.Round trivial r4 hx7) ?_)
    rintro _ w9 ⟨rfl, hx8, hl4⟩
    refine ⟨_, rfl, hx8, ?_⟩
    replace hI := (hI.ext hx8)
    obtain ⟨r5, hx9, h⟩ := bnd_some h
    refine la_call rfl gn rfl (r_callF (vs := [(Value.agg #[(vi t1.Kind), (vi t1.Bits), (vi t1.Frac), (vi t1.Round), (vi t1.Over)]), (vi r4)]) rfl ok_109 ⟨et, ⟨et, trivial⟩⟩) (Calls.mono (c_ref04_fit (Dj F c3) w9 hI.lt t1 r4 trivial r5 hx9) ?_)
    rintro _ w10 ⟨rfl, hx10, hl5⟩
    refine ⟨_, rfl, hx10, ?_⟩
    replace hI := (hI.ext hx10)
    refine a_turn (F := F) (C := c3) rfl rfl ?_
    refine la_store (new := [(vi r5.N), (vi r5.D)]) (cs' := #[(vi r5.N), (vi r5.D)]) hI .z rfl gn rfl rfl et et rfl size_36 rfl rfl rfl ?_
    clear hI; intro c6 w11 hI
    refine a_q rfl gn rfl (fun w' => (y_assign rfl ev_const)) ?_
    refine a_nil ?_
    refine k_same ?_
    refine c_ret ?_
    obtain rfl := some_inj h
    exact q_ret (vs := [(Value.agg #[(vi r5.N), (vi r5.D)]), (vi 0)]) Tryz.results81 ⟨⟨_, ev_tmp rfl rfl, load_agg (l := [(vi r5.N), (vi r5.D)]) Tryz.underlying36 rfl size_36 (CellsAt.of_blk (hI.blk .z) rfl)⟩, ⟨ev_tmp rfl rfl, trivial⟩⟩ ⟨rfl, hI.ext0, hI.fin trivial⟩
   ·replace h := ite_f hb h
    refine sr ?_
    refine sq (y_eql rfl et ev_const) ?_
    refine sa ?_
    refine nk ?_
    refine c_cond (b := decide (op1 = 8)) et (fun hb => ?_) (fun hb => ?_)
    ·replace h := ite_t hb h
     refine sr ?_
     refine sq (y_loadN (l := [(vi t1.Kind), (vi t1.Bits), (vi t1.Frac), (vi t1.Round), (vi t1.Over)]) rfl et Tryz.underlying23 rfl size_23 (hI.kblk (l := [(vi t1.Kind), (vi t1.Bits), (vi t1.Frac), (vi t1.Round), (vi t1.Over)]) .z rfl).1) ?_
     refine sm ?_
     refine sq (y_neg rfl et) ?_
     obtain ⟨r6, hx11, h⟩ := bnd_some h
     refine s_call gn rfl (r_callF (vs := [(Value.agg #[(vi t1.Kind), (vi t1.Bits), (vi t1.Frac), (vi t1.Round), (vi t1.Over)]), (vi (wi64 (-a1)))]) rfl ok_109 ⟨et, ⟨et, trivial⟩⟩) (Calls.mono (c_ref04_fit (Dj F c3) w2 hI.lt t1 (wi64 (-a1)) trivial r6 hx11) ?_)
     rintro _ w12 ⟨rfl, hx12, hl6⟩
     refine ⟨_, rfl, ?_⟩
     replace hI := (hI.ext hx12)
     refine l_store (new := [(vi r6.N), (vi r6.D)]) (cs' := #[(vi r6.N), (vi r6.D)]) hI .z gn rfl rfl et et rfl size_36 rfl rfl rfl ?_
     clear hI; intro c7 w13 hI
     refine sac ?_
     refine nk ?_
     refine c_ret ?_
     obtain rfl := some_inj h
     exact q_ret (vs := [(Value.agg #[(vi r6.N), (vi r6.D)]), (vi 0)]) Tryz.results81 ⟨⟨_, ev_tmp rfl rfl, load_agg (l := [(vi r6.N), (vi r6.D)]) Tryz.underlying36 rfl size_36 (CellsAt.of_blk (hI.blk .z) rfl)⟩, ⟨ev_tmp rfl rfl, trivial⟩⟩ ⟨rfl, hI.ext0, hI.fin trivial⟩
    ·replace h := ite_f hb h
     refine c_skip ?_
     refine k_same ?_
     refine c_seq ?_
     refine sr ?_
     refine sm ?_
     refine sq (y_eql rfl et ev_const) ?_
     refine nk ?_
     refine c_cond (b := decide (b1 = 0)) et (fun hb => ?_) (fun hb => ?_)
     ·replace h := ite_t hb h
      refine sr ?_
      refine sq (y_build (vs := []) (cs := #[(vi 0), (vi 0)]) rfl trivial (by kernel_rfl)) ?_
      refine l_store (new := [(vi 0), (vi 0)]) (cs' := #[(vi 0), (vi 0)]) hI .z gn rfl rfl et et rfl size_36 rfl rfl rfl ?_
      clear hI; intro c8 w14 hI
      refine sac ?_
      refine nk ?_
      refine c_ret ?_
      obtain rfl := some_inj h
      exact q_ret (vs := [(Value.agg #[(vi 0), (vi 0)]), (vi 4)]) Tryz.results81 ⟨⟨_, ev_tmp rfl rfl, load_agg (l := [(vi 0), (vi 0)]) Tryz.underlying36 rfl size_36 (CellsAt.of_blk (hI.blk .z) rfl)⟩, ⟨ev_tmp rfl rfl, trivial⟩⟩ ⟨rfl, hI.ext0, hI.fin trivial⟩
     ·replace h := ite_f hb h
      refine c_skip ?_
      refine k_same ?_
      refine c_join (α := Int × Int) (fun _ => ⟨62, []⟩) (fun x => [(2, (vi (x.1))), (3, (vi (x.2))), (5, (vp b2 0)), (8, (vp b3 0))]) (fun x => fun w => ∃ C, Bun noM F w0 C w [MO.box b3 36 #[(vi 0), (vi 0)]] [Cl.blk b2 23 #[(vi t1.Kind), (vi t1.Bits), (vi t1.Frac), (vi t1.Round), (vi t1.Over)]] ∧ m_ref04_fix_j1 t1 (x.1) (x.2) = some r) ?_ ?_
      ·clear h hI; rintro ⟨a2, b4⟩ w15 ⟨c9, hI, h⟩
       try dsimp only at hI h
       rw [m_ref04_fix_j1] at h
       refine c_sub (e := [(2, (vi a2)), (3, (vi b4)), (5, (vp b2 0)), (8, (vp b3 0))]) ⟨rfl, rfl, rfl, rfl, trivial⟩ ?_
       refine c_seq ?_
       refine c_drawX [10] false (.c (0, .q) (.c (1, .q) (.c (2, .q) (.c (5, .q) (.c (6, .q) (.c (7, .q) (.c (3, .s) (.c (4, .q) (.c (8, .s) (.c (9, .s) (.c (10, .s) (.c (11, .q) .n)))))))))))) hI (by kernel_rfl) (by kernel_rfl) ?_
       clear hI; intro w16 hI
       refine a_read rfl gn rfl (fun w' hw' => (y_loadN (l := [(vi t1.Kind), (vi t1.Bits), (vi t1.Frac), (vi t1.Round), (vi t1.Over)]) rfl et Tryz.underlying23 rfl size_23 ((hI.kblk (l := [(vi t1.Kind), (vi t1.Bits), (vi t1.Frac), (vi t1.Round), (vi t1.Over)]) .z rfl).at_ (SX.any rfl hw')))) (by kernel_rfl) ?_
       refine a_q rfl gn rfl (fun w' => (y_move rfl et)) ?_
       refine a_read rfl gn rfl (fun w' hw' => (y_loadN (l := [(vi t1.Kind), (vi t1.Bits), (vi t1.Frac), (vi t1.Round), (vi t1.Over)]) rfl et Tryz.underlying23 rfl size_23 ((hI.kblk (l := [(vi t1.Kind), (vi t1.Bits), (vi t1.Frac), (vi t1.Round), (vi t1.Over)]) .z rfl).at_ (SX.any rfl hw')))) (by kernel_rfl) ?_
       refine a_q rfl gn rfl (fun w' => (y_move rfl et)) ?_
       refine a_q rfl gn rfl (fun w' => (y_fieldAddr rfl et Tryz.underlying23 rfl size_3 rfl)) ?_
       refine a_read rfl gn rfl (fun w' hw' => (y_load1 (v := (vi t1.Round)) rfl et Tryz.underlying3 rfl ((hI.kblk (l := [(vi t1.Round)]) .z rfl).at_ (SX.any rfl hw')))) (by kernel_rfl) ?_
       obtain ⟨r7, hx13, h⟩ := bnd_some h
       refine la_call rfl gn rfl (r_callF (vs := [(Value.agg #[(vi t1.Kind), (vi t1.Bits), (vi t1.Frac), (vi t1.Round), (vi t1.Over)])]) rfl ok_111 ⟨et, trivial⟩) (Calls.mono (c_ref04_step (Dj F c9) w16 hI.lt t1 trivial r7 hx13) ?_)
       rintro _ w17 ⟨rfl, hx14, hl7⟩
       refine ⟨_, rfl, hx14, ?_⟩
       replace hI := (hI.ext hx14)
       refine a_q rfl gn rfl (fun w' => (y_mul rfl et et)) ?_
       obtain ⟨r8, hx15, h⟩ := bnd_some h
       refine la_call rfl gn rfl (r_callF (vs := [(vi (wi64 (a2 * r7))), (vi b4), (vi t1.Round)]) rfl ok_110 ⟨et, ⟨et, ⟨et, trivial⟩⟩⟩) (Calls.mono (c_ref04_round (Dj F c9) w17 hI.lt (wi64 (a2 * r7)) b4 t1.Round trivial r8 hx15) ?_)
       rintro _ w18 ⟨rfl, hx16, hl8⟩
       refine ⟨_, rfl, hx16, ?_⟩
       replace hI := (hI.ext hx16)
       obtain ⟨r9, hx17, h⟩ := bnd_some h
       refine la_call rfl gn rfl (r_callF (vs := [(Value.agg #[(vi t1.Kind), (vi t1.Bits), (vi t1.Frac), (vi t1.Round), (vi t1.Over)]), (vi r8)]) rfl ok_109 ⟨et, ⟨et, trivial⟩⟩) (Calls.mono (c_ref04_fit (Dj F c9) w18 hI.lt t1 r8 trivial r9 hx17) ?_)
       rintro _ w19 ⟨rfl, hx18, hl9⟩
       refine ⟨_, rfl, hx18, ?_⟩
       replace hI := (hI.ext hx18)
       refine a_turn (F := F) (C := c9) rfl rfl ?_
       refine la_store (new := [(vi r9.N), (vi r9.D)]) (cs' := #[(vi r9.N), (vi r9.D)]) hI .z rfl gn rfl rfl et et rfl size_36 rfl rfl rfl ?_
       clear hI; intro c10 w20 hI
       refine a_q rfl gn rfl (fun w' => (y_assign rfl ev_const)) ?_
       refine a_nil ?_
       refine k_same ?_
       refine c_ret ?_
       obtain rfl := some_inj h
       exact q_ret (vs := [(Value.agg #[(vi r9.N), (vi r9.D)]), (vi 0)]) Tryz.results81 ⟨⟨_, ev_tmp rfl rfl, load_agg (l := [(vi r9.N), (vi r9.D)]) Tryz.underlying36 rfl size_36 (CellsAt.of_blk (hI.blk .z) rfl)⟩, ⟨ev_tmp rfl rfl, trivial⟩⟩ ⟨rfl, hI.ext0, hI.fin trivial⟩
      ·skip
       refine sr ?_
       refine sm ?_
       refine sq (y_lss rfl et ev_const) ?_
       refine nk ?_
       refine c_cond (b := decide (b1 < 0)) et (fun hb => ?_) (fun hb => ?_)
       ·replace h := ite_t hb h
        refine sr ?_
        refine sm ?_
        refine sq (y_neg rfl et) ?_
        refine sa ?_
        refine nk ?_
        refine c_region rfl ?_
        refine sm ?_
        refine sq (y_neg rfl et) ?_
        refine sa ?_
        refine s_nil ?_
        exact k_join (wi64 (-a1), wi64 (-b1)) ⟨rfl, rfl, rfl, rfl, trivial⟩ ⟨_, hI.arr (.c .z .n) ⟨.z, trivial⟩, h⟩ rfl
       ·replace h := ite_f hb h
        refine c_skip ?_
        exact k_join (a1, b1) ⟨rfl, rfl, rfl, rfl, trivial⟩ ⟨_, hI.arr (.c .z .n) ⟨.z, trivial⟩, h⟩ rfl

set_option maxRecDepth 100000 in
set_option maxHeartbeats 4000000 in
theorem c_ref04_whole (F : NP) (w0 : World) (hF : ∀ k, F k → k < w0.heap.size) (op1 : Int) (a1 : Int) (b1 : Int) (hc : AllCl [] F w0) (r : GVal × Int)
  (h : m_ref04_whole op1 a1 b1 = some r) :
  Calls Tryz.prog 82 #[(vi op1), (vi a1), (vi b1)] w0 fun e w => e = .returned (Value.tuple #[(Value.agg #[(vi r.1.N), (vi r.1.D)]), (vi r.2)]) ∧ Ext w0 w ∧ AllCl [] F w := by
 refine enterK (l := [(vi op1), (vi a1), (vi b1)]) Tryz.func82 rfl Tryz.ntmps82 rfl ?_
 have hI := Bun.start hF hc
 clear hc
 rw [m_ref04_whole] at h
 refine sr ?_
 refine l_alloc (cs := #[(vi 0), (vi 0)]) hI gn rfl rfl zero_36 rfl ?_
 clear hI; intro b2 c1 w1 hI
 refine sac ?_
 refine nk ?_
 refine sr ?_
 refine sm ?_
 refine sq (y_neg rfl et) ?_
 refine sa ?_
 refine nk ?_
 refine c_join (α := Int) (fun _ => ⟨50, []⟩) (fun x => [(6, (vp b2 0)), (8, (vi x))]) (fun x => fun w => ∃ C, Bun noM F w0 C w [MO.box b2 36 #[(vi 0), (vi 0)]] [] ∧ m_ref04_whole_j1 x = some r) ?_ ?_
 ·clear h hI; rintro n1 w2 ⟨c2, hI, h⟩
  try dsimp only at hI h
  rw [m_ref04_whole_j1] at h
  refine c_sub (e := [(6, (vp b2 0)), (8, (vi n1))]) ⟨rfl, rfl, trivial⟩ ?_
  refine c_seq ?_
  refine sr ?_
  refine sm ?_
  refine sq (y_gtr rfl et ev_const) ?_
  refine sm ?_
  refine s_gval (g_false rfl rfl rfl rfl) rfl (fun hc => (y_move rfl et)) ?_
  refine s_gval (g_false rfl rfl rfl rfl) rfl (fun hc => (y_lss rfl (ev_gv et hc) ev_const)) ?_
  refine sq (y_or rfl et et) ?_
  refine nk ?_
  refine c_cond (b := (decide (2147483647 < n1)) || (decide (n1 < (-2147483647)))) et (fun hb => ?_) (fun hb => ?_)
  ·replace h := ite_t hb h
   refine sr ?_
   refine sq (y_build (vs := []) (cs := #[(vi 0), (vi 0)]) rfl trivial (by kernel_rfl)) ?_
   refine l_store (new := [(vi 0), (vi 0)]) (cs' := #[(vi 0), (vi 0)]) hI .z gn rfl rfl et et rfl size_36 rfl rfl rfl ?_
   clear hI; intro c3 w3 hI
   refine sac ?_
   refine nk ?_
   refine c_ret ?_
   obtain rfl := some_inj h
   exact q_ret (vs := [(Value.agg #[(vi 0), (vi 0)]), (vi 3)]) Tryz.results82 ⟨⟨_, ev_tmp rfl rfl, load_agg (l := [(vi 0), (vi 0)]) Tryz.underlying36 rfl size_36 (CellsAt.of_blk (hI.blk .z) rfl)⟩, ⟨ev_tmp rfl rfl, trivial⟩⟩ ⟨rfl, hI.ext0, hI.fin trivial⟩
  ·replace h := ite_f hb h
   refine c_skip ?_
   refine k_same ?_
   refine sr ?_
   refine sm ?_
   refine sq (y_build (vs := [(0, (vi n1)), (1, (vi 1))]) (cs := #[(vi n1), (vi 1)]) rfl ⟨rfl, et, ⟨rfl, ev_const, trivial⟩⟩ (by kernel_rfl)) ?_
   refine l_store (new := [(vi n1), (vi 1)]) (cs' := #[(vi n1), (vi 1)]) hI .z gn rfl rfl et et rfl size_36 rfl rfl rfl ?_
   clear hI; intro c4 w4 hI
   refine sac ?_
   refine nk ?_
   refine c_ret ?_
   obtain rfl := some_inj h
   exact q_ret (vs := [(Value.agg #[(vi n1), (vi 1)]), (vi 0)]) Tryz.results82 ⟨⟨_, ev_tmp rfl rfl, load_agg (l := [(vi n1), (vi 1)]) Tryz.underlying36 rfl size_36 (CellsAt.of_blk (hI.blk .z) rfl)⟩, ⟨ev_tmp rfl rfl, trivial⟩⟩ ⟨rfl, hI.ext0, hI.fin trivial⟩
 ·skip
  refine sr ?_
  refine sm ?_
  refine nk ?_
  refine c_block ?_
  refine sr ?_
  refine sq (y_eql rfl et ev_const) ?_
  refine sa ?_
  refine nk ?_
  refine c_cond (b := decide (op1 = 4)) et (fun hb => ?_) (fun hb => ?_)
  ·replace h := ite_t hb h
   refine c_region rfl ?_
   refine sm ?_
   refine sm ?_
   refine sq (y_add rfl et et) ?_
   refine sa ?_
   refine s_nil ?_
   exact k_join (wi64 (a1 + b1)) ⟨rfl, rfl, trivial⟩ ⟨_, hI.arr (.c .z .n) trivial, h⟩ rfl
  ·replace h := ite_f hb h
   refine sr ?_
   refine sq (y_eql rfl et ev_const) ?_
   refine sa ?_
   refine nk ?_
   refine c_cond (b := decide (op1 = 5)) et (fun hb => ?_) (fun hb => ?_)
   ·replace h := ite_t hb h
    refine c_region rfl ?_
    refine sm ?_
    refine sm ?_
    refine sq (y_sub rfl et et) ?_
    refine sa ?_
    refine s_nil ?_
    exact k_join (wi64 (a1 - b1)) ⟨rfl, rfl, trivial⟩ ⟨_, hI.arr (.c .z .n) trivial, h⟩ rfl
   ·replace h := ite_f hb h
    refine sr ?_
    refine sq (y_eql rfl et ev_const) ?_
    refine sa ?_
    refine nk ?_
    refine c_cond (b := decide (op1 = 6)) et (fun hb => ?_) (fun hb => ?_)
    ·replace h := ite_t hb h
     refine c_region rfl ?_
     refine sm ?_
     refine sm ?_
     refine sq (y_mul rfl et et) ?_
     refine sa ?_
     refine s_nil ?_
     exact k_join (wi64 (a1 * b1)) ⟨rfl, rfl, trivial⟩ ⟨_, hI.arr (.c .z .n) trivial, h⟩ rfl
    ·replace h := ite_f hb h
     refine sr ?_
     refine sq (y_eql rfl et ev_const) ?_
     refine sa ?_
     refine nk ?_
     refine c_cond (b := decide (op1 = 7)) et (fun hb => ?_) (fun hb => ?_)
     ·replace h := ite_t hb h
      refine c_seq ?_
      refine sr ?_
      refine sm ?_
      refine sq (y_eql rfl et ev_const) ?_
      refine nk ?_
      refine c_cond (b := decide (b1 = 0)) et (fun hb => ?_) (fun hb => ?_)
      ·replace h := ite_t hb h
       refine sr ?_
       refine sq (y_build (vs := []) (cs := #[(vi 0), (vi 0)]) rfl trivial (by kernel_rfl)) ?_
       refine l_store (new := [(vi 0), (vi 0)]) (cs' := #[(vi 0), (vi 0)]) hI .z gn rfl rfl et et rfl size_36 rfl rfl rfl ?_
       clear hI; intro c5 w5 hI
       refine sac ?_
       refine nk ?_
       refine c_ret ?_
       obtain rfl := some_inj h
       exact q_ret (vs := [(Value.agg #[(vi 0), (vi 0)]), (vi 4)]) Tryz.results82 ⟨⟨_, ev_tmp rfl rfl, load_agg (l := [(vi 0), (vi 0)]) Tryz.underlying36 rfl size_36 (CellsAt.of_blk (hI.blk .z) rfl)⟩, ⟨ev_tmp rfl rfl, trivial⟩⟩ ⟨rfl, hI.ext0, hI.fin trivial⟩
      ·replace h := ite_f hb h
       refine c_skip ?_
       refine k_same ?_
       refine c_seq ?_
       refine sr ?_
       refine sm ?_
       refine sq (y_lss rfl et ev_const) ?_
       refine nk ?_
       refine c_cond (b := decide (b1 < 0)) et (fun hb => ?_) (fun hb => ?_)
       ·replace h := ite_t hb h
        refine sr ?_
        refine sm ?_
        refine sq (y_neg rfl et) ?_
        refine sa ?_
        refine nk ?_
        refine c_region rfl ?_
        refine sm ?_
        refine sq (y_neg rfl et) ?_
        refine sa ?_
        refine nk ?_
        refine c_region rfl ?_
        refine sm ?_
        refine sm ?_
        obtain ⟨r1, hx1, h⟩ := bnd_some h
        refine s_call gn rfl (r_callF (vs := [(vi (wi64 (-a1))), (vi (wi64 (-b1)))]) rfl ok_112 ⟨et, ⟨et, trivial⟩⟩) (Calls.mono (c_ref04_floor (Dj F c1) w1 hI.lt (wi64 (-a1)) (wi64 (-b1)) trivial r1 hx1) ?_)
        rintro _ w6 ⟨rfl, hx2, hl1⟩
        refine ⟨_, rfl, ?_⟩
        replace hI := (hI.ext hx2)
        refine sa ?_
        refine s_nil ?_
        exact k_join r1 ⟨rfl, rfl, trivial⟩ ⟨_, hI.arr (.c .z .n) trivial, h⟩ rfl
       ·replace h := ite_f hb h
        refine c_skip ?_
        refine k_same ?_
        refine c_region rfl ?_
        refine sm ?_
        refine sm ?_
        obtain ⟨r2, hx3, h⟩ := bnd_some h
        refine s_call gn rfl (r_callF (vs := [(vi a1), (vi b1)]) rfl ok_112 ⟨et, ⟨et, trivial⟩⟩) (Calls.mono (c_ref04_floor (Dj F c1) w1 hI.lt a1 b1 trivial r2 hx3) ?_)
        rintro _ w7 ⟨rfl, hx4, hl2⟩
        refine ⟨_, rfl, ?_⟩
        replace hI := (hI.ext hx4)
        refine sa ?_
        refine s_nil ?_
        exact k_join r2 ⟨rfl, rfl, trivial⟩ ⟨_, hI.arr (.c .z .n) trivial, h⟩ rfl
     ·replace h := ite_f hb h
      refine c_skip ?_
      exact k_join (wi64 (-a1)) ⟨rfl, rfl, trivial⟩ ⟨_, hI.arr (.c .z .n) trivial, h⟩ rfl

set_option maxRecDepth 100000 in
set_option maxHeartbeats 4000000 in
theorem c_ref01_size (F : NP) (w0 : World) (hF : ∀ k, F k → k < w0.heap.size) (n1 : Int) (hc : AllCl [] F w0) (r : Int)
  (h : m_ref01_size n1 = some r) :
  Calls Tryz.prog 137 #[(vi n1)] w0 fun e w => e = .returned (Value.int .u64 r) ∧ Ext w0 w ∧ AllCl [] F w := by
 refine enterK (l := [(vi n1)]) Tryz.func137 rfl Tryz.ntmps137 rfl ?_
 have hI := Bun.start hF hc
 clear hc
 rw [m_ref01_size] at h
 refine sr ?_
 refine sac ?_
 refine nk ?_
 refine c_seq ?_
 refine sr ?_
 refine sm ?_
 refine sq (y_lss rfl et ev_const) ?_
 refine nk ?_
 refine c_cond (b := decide (n1 < 0)) et (fun hb => ?_) (fun hb => ?_)
 ·replace h := ite_t hb h
  refine sr ?_
  refine sm ?_
  refine sq (y_add rfl et ev_const) ?_
  refine sq (y_neg rfl et) ?_
  refine sq (y_conv rfl (by rw [Tryz.underlying2]; rfl) Tryz.underlying120 et) ?_
  refine sq (y_add rfl et ev_const) ?_
  refine sa ?_
  refine nk ?_
  refine c_ret ?_
  obtain rfl := some_inj h
  exact q_ret (vs := [(Value.int .u64 (wu64 ((wu64 (wi64 (-(wi64 (n1 + 1))))) + 1)))]) Tryz.results137 ⟨ev_tmp rfl rfl, trivial⟩ ⟨rfl, hI.ext0, hI.fin trivial⟩
 ·replace h := ite_f hb h
  refine c_skip ?_
  refine k_same ?_
  refine sr ?_
  refine sm ?_
  refine sq (y_conv rfl (by rw [Tryz.underlying2]; rfl) Tryz.underlying120 et) ?_
  refine sa ?_
  refine nk ?_
  refine c_ret ?_
  obtain rfl := some_inj h
  exact q_ret (vs := [(Value.int .u64 (wu64 n1))]) Tryz.results137 ⟨ev_tmp rfl rfl, trivial⟩ ⟨rfl, hI.ext0, hI.fin trivial⟩

set_option maxRecDepth 100000 in
set_option maxHeartbeats 4000000 in
theorem c_ref01_gcd (F : NP) (w0 : World) (hF : ∀ k, F k → k < w0.heap.size) (a1 : Int) (b1 : Int) (hc : AllCl [] F w0) (r : Int)
  (h : m_ref01_gcd a1 b1 = some r) :
  Calls Tryz.prog 151 #[(Value.int .u64 a1), (Value.int .u64 b1)] w0 fun e w => e = .returned (Value.int .u64 r) ∧ Ext w0 w ∧ AllCl [] F w := by
 refine enterK (l := [(Value.int .u64 a1), (Value.int .u64 b1)]) Tryz.func151 rfl Tryz.ntmps151 rfl ?_
 have hI := Bun.start hF hc
 clear hc
 rw [m_ref01_gcd] at h
 refine sr ?_
 refine sac ?_
 refine nk ?_
 refine c_seq ?_
 refine c_block ?_
 refine c_loop (α := Nat × Int × Int) (fun x => fun w => ∃ C, Bun noM F w0 C w [] [] ∧ m_ref01_gcd_l1 (x.1) (x.2.1) (x.2.2) = some r) (fun x _ => x.1) (fun x => [(0, (Value.int .u64 (x.2.1))), (1, (Value.int .u64 (x.2.2)))]) (fu, a1, b1) ⟨_, hI.arr .n trivial, h⟩ ⟨rfl, rfl, trivial⟩ ?_
 clear h hI; rintro ⟨fuel1, a2, b2⟩ w1 ⟨c1, hI, h⟩
 dsimp only at hI h
 rcases fuel1 with _ | fuel1
 ·rw [m_ref01_gcd_l1] at h; cases h
 rw [m_ref01_gcd_l1] at h
 refine c_sub (e := [(0, (Value.int .u64 a2)), (1, (Value.int .u64 b2))]) ⟨rfl, rfl, trivial⟩ ?_
 refine c_seq ?_
 refine sr ?_
 refine sm ?_
 refine sq (y_neq rfl et ev_const) ?_
 refine nk ?_
 refine c_cond (b := !decide (b2 = 0)) et (fun hb => ?_) (fun hb => ?_)
 ·replace h := ite_t hb h
  refine c_skip ?_
  refine k_same ?_
  refine c_block ?_
  refine c_drawX [] false (.c (0, .q) (.c (1, .q) (.c (2, .q) (.c (3, .q) (.c (4, .q) (.c (5, .q) .n)))))) hI (by kernel_rfl) (by kernel_rfl) ?_
  clear hI; intro w2 hI
  refine a_q rfl gn rfl (fun w' => (y_move rfl et)) ?_
  refine a_q rfl gn rfl (fun w' => (y_move rfl et)) ?_
  refine a_q rfl gn rfl (fun w' => (y_move rfl et)) ?_
  obtain ⟨ho1, h⟩ := chk_some h
  refine a_q rfl gn rfl (fun w' => (y_rem rfl et et ho1)) ?_
  refine a_q rfl gn rfl (fun w' => (y_assign rfl et)) ?_
  refine a_q rfl gn rfl (fun w' => (y_assign rfl et)) ?_
  refine a_nil ?_
  exact k_loop (fuel1, b2, Int.tmod a2 b2) ⟨rfl, rfl, trivial⟩ ⟨_, hI.arr .n trivial, h⟩ (Nat.lt_succ_self _)
 ·replace h := ite_f hb h
  refine c_exit ?_
  refine k_in ?_
  refine k_same ?_
  refine sr ?_
  refine sm ?_
  refine sa ?_
  refine nk ?_
  refine c_ret ?_
  obtain rfl := some_inj h
  exact q_ret (vs := [(Value.int .u64 a2)]) Tryz.results151 ⟨ev_tmp rfl rfl, trivial⟩ ⟨rfl, hI.ext0, hI.fin trivial⟩

set_option maxRecDepth 100000 in
set_option maxHeartbeats 4000000 in
theorem c_ref01_made (F : NP) (w0 : World) (hF : ∀ k, F k → k < w0.heap.size) (minus1 : Bool) (n1 : Int) (d1 : Int) (hc : AllCl [] F w0) (r : GVal × Int)
  (h : m_ref01_made minus1 n1 d1 = some r) :
  Calls Tryz.prog 136 #[(vb minus1), (Value.int .u64 n1), (Value.int .u64 d1)] w0 fun e w => e = .returned (Value.tuple #[(Value.agg #[(vi r.1.N), (vi r.1.D)]), (vi r.2)]) ∧ Ext w0 w ∧ AllCl [] F w := by
 refine enterK (l := [(vb minus1), (Value.int .u64 n1), (Value.int .u64 d1)]) Tryz.func136 rfl Tryz.ntmps136 rfl ?_
 have hI := Bun.start hF hc
 clear hc
 rw [m_ref01_made] at h
 refine sr ?_
 refine l_alloc (cs := #[(vi 0), (vi 0)]) hI gn rfl rfl zero_36 rfl ?_
 clear hI; intro b1 c1 w1 hI
 refine sac ?_
 refine nk ?_
 refine sr ?_
 refine sm ?_
 refine sm ?_
 obtain ⟨r1, hx1, h⟩ := bnd_some h
 refine s_call gn rfl (r_callF (vs := [(Value.int .u64 n1), (Value.int .u64 d1)]) rfl ok_151 ⟨et, ⟨et, trivial⟩⟩) (Calls.mono (c_ref01_gcd (Dj F c1) w1 hI.lt n1 d1 trivial r1 hx1) ?_)
 rintro _ w2 ⟨rfl, hx2, hl1⟩
 refine ⟨_, rfl, ?_⟩
 replace hI := (hI.ext hx2)
 refine sa ?_
 refine nk ?_
 refine sr ?_
 refine sm ?_
 refine sm ?_
 obtain ⟨ho1, h⟩ := chk_some h
 refine sq (y_quo rfl et et ho1) ?_
 refine sa ?_
 refine nk ?_
 refine sr ?_
 refine sm ?_
 refine sm ?_
 refine sq (y_quo rfl et et ho1) ?_
 refine sa ?_
 refine nk ?_
 refine c_seq ?_
 refine sr ?_
 refine sm ?_
 refine sq (y_gtr rfl et ev_const) ?_
 refine sm ?_
 refine s_gval (g_false rfl rfl rfl rfl) rfl (fun hc => (y_move rfl et)) ?_
 refine s_gval (g_false rfl rfl rfl rfl) rfl (fun hc => (y_gtr rfl (ev_gv et hc) ev_const)) ?_
 refine sq (y_or rfl et et) ?_
 refine nk ?_
 refine c_cond (b := (decide (2147483647 < wu64 (Int.tdiv n1 r1))) || (decide (2147483647 < wu64 (Int.tdiv d1 r1)))) et (fun hb => ?_) (fun hb => ?_)
 ·replace h := ite_t hb h
  refine sr ?_
  refine sq (y_build (vs := []) (cs := #[(vi 0), (vi 0)]) rfl trivial (by kernel_rfl)) ?_
  refine l_store (new := [(vi 0), (vi 0)]) (cs' := #[(vi 0), (vi 0)]) hI .z gn rfl rfl et et rfl size_36 rfl rfl rfl ?_
  clear hI; intro c2 w3 hI
  refine sac ?_
  refine nk ?_
  refine c_ret ?_
  obtain rfl := some_inj h
  exact q_ret (vs := [(Value.agg #[(vi 0), (vi 0)]), (vi 3)]) Tryz.results136 ⟨⟨_, ev_tmp rfl rfl, load_agg (l := [(vi 0), (vi 0)]) Tryz.underlying36 rfl size_36 (CellsAt.of_blk (hI.blk .z) rfl)⟩, ⟨ev_tmp rfl rfl, trivial⟩⟩ ⟨rfl, hI.ext0, hI.fin trivial⟩
 ·replace h := ite_f hb h
  refine c_skip ?_
  refine k_same ?_
  refine c_seq ?_
  refine sr ?_
  refine sm ?_
  refine nk ?_
  refine c_cond (b := minus1) et (fun hb => ?_) (fun hb => ?_)
  ·replace h := ite_t hb h
   refine sr ?_
   refine sm ?_
   refine sq (y_conv rfl (by rw [Tryz.underlying120]; rfl) Tryz.underlying2 et) ?_
   refine sq (y_neg rfl et) ?_
   refine sm ?_
   refine sq (y_conv rfl (by rw [Tryz.underlying120]; rfl) Tryz.underlying2 et) ?_
   refine sq (y_build (vs := [(0, (vi (wi64 (-(wi64 (wu64 (Int.tdiv n1 r1))))))), (1, (vi (wi64 (wu64 (Int.tdiv d1 r1)))))]) (cs := #[(vi (wi64 (-(wi64 (wu64 (Int.tdiv n1 r1)))))), (vi (wi64 (wu64 (Int.tdiv d1 r1))))]) rfl ⟨rfl, et, ⟨rfl, et, trivial⟩⟩ (by kernel_rfl)) ?_
   refine l_store (new := [(vi (wi64 (-(wi64 (wu64 (Int.tdiv n1 r1)))))), (vi (wi64 (wu64 (Int.tdiv d1 r1))))]) (cs' := #[(vi (wi64 (-(wi64 (wu64 (Int.tdiv n1 r1)))))), (vi (wi64 (wu64 (Int.tdiv d1 r1))))]) hI .z gn rfl rfl et et rfl size_36 rfl rfl rfl ?_
   clear hI; intro c3 w4 hI
   refine sac ?_
   refine s_nil ?_
   refine k_next (e := [(6, (vp b1 0)), (7, (vi 0))]) ⟨rfl, rfl, trivial⟩ ?_
   refine c_ret ?_
   obtain rfl := some_inj h
   exact q_ret (vs := [(Value.agg #[(vi (wi64 (-(wi64 (wu64 (Int.tdiv n1 r1)))))), (vi (wi64 (wu64 (Int.tdiv d1 r1))))]), (vi 0)]) Tryz.results136 ⟨⟨_, ev_tmp rfl rfl, load_agg (l := [(vi (wi64 (-(wi64 (wu64 (Int.tdiv n1 r1)))))), (vi (wi64 (wu64 (Int.tdiv d1 r1))))]) Tryz.underlying36 rfl size_36 (CellsAt.of_blk (hI.blk .z) rfl)⟩, ⟨ev_tmp rfl rfl, trivial⟩⟩ ⟨rfl, hI.ext0, hI.fin trivial⟩
  ·replace h := ite_f hb h
   refine c_skip ?_
   refine k_same ?_
   refine sr ?_
   refine sm ?_
   refine sq (y_conv rfl (by rw [Tryz.underlying120]; rfl) Tryz.underlying2 et) ?_
   refine sm ?_
   refine sq (y_conv rfl (by rw [Tryz.underlying120]; rfl) Tryz.underlying2 et) ?_
   refine sq (y_build (vs := [(0, (vi (wi64 (wu64 (Int.tdiv n1 r1))))), (1, (vi (wi64 (wu64 (Int.tdiv d1 r1)))))]) (cs := #[(vi (wi64 (wu64 (Int.tdiv n1 r1)))), (vi (wi64 (wu64 (Int.tdiv d1 r1))))]) rfl ⟨rfl, et, ⟨rfl, et, trivial⟩⟩ (by kernel_rfl)) ?_
   refine l_store (new := [(vi (wi64 (wu64 (Int.tdiv n1 r1)))), (vi (wi64 (wu64 (Int.tdiv d1 r1))))]) (cs' := #[(vi (wi64 (wu64 (Int.tdiv n1 r1)))), (vi (wi64 (wu64 (Int.tdiv d1 r1))))]) hI .z gn rfl rfl et et rfl size_36 rfl rfl rfl ?_
   clear hI; intro c4 w5 hI
   refine sac ?_
   refine s_nil ?_
   refine k_next (e := [(6, (vp b1 0)), (7, (vi 0))]) ⟨rfl, rfl, trivial⟩ ?_
   refine c_ret ?_
   obtain rfl := some_inj h
   exact q_ret (vs := [(Value.agg #[(vi (wi64 (wu64 (Int.tdiv n1 r1)))), (vi (wi64 (wu64 (Int.tdiv d1 r1))))]), (vi 0)]) Tryz.results136 ⟨⟨_, ev_tmp rfl rfl, load_agg (l := [(vi (wi64 (wu64 (Int.tdiv n1 r1)))), (vi (wi64 (wu64 (Int.tdiv d1 r1))))]) Tryz.underlying36 rfl size_36 (CellsAt.of_blk (hI.blk .z) rfl)⟩, ⟨ev_tmp rfl rfl, trivial⟩⟩ ⟨rfl, hI.ext0, hI.fin trivial⟩

set_option maxRecDepth 100000 in
set_option maxHeartbeats 4000000 in
theorem c_ref01_New (F : NP) (w0 : World) (hF : ∀ k, F k → k < w0.heap.size) (n1 : Int) (d1 : Int) (hc : AllCl [] F w0) (r : GVal × Int)
  (h : m_ref01_New n1 d1 = some r) :
  Calls Tryz.prog 114 #[(vi n1), (vi d1)] w0 fun e w => e = .returned (Value.tuple #[(Value.agg #[(vi r.1.N), (vi r.1.D)]), (vi r.2)]) ∧ Ext w0 w ∧ AllCl [] F w := by
 refine enterK (l := [(vi n1), (vi d1)]) Tryz.func114 rfl Tryz.ntmps114 rfl ?_
 have hI := Bun.start hF hc
 clear hc
 rw [m_ref01_New] at h
 refine sr ?_
 refine l_alloc (cs := #[(vi 0), (vi 0)]) hI gn rfl rfl zero_36 rfl ?_
 clear hI; intro b1 c1 w1 hI
 refine sac ?_
 refine nk ?_
 refine c_seq ?_
 refine sr ?_
 refine sm ?_
 refine sq (y_eql rfl et ev_const) ?_
 refine nk ?_
 refine c_cond (b := decide (d1 = 0)) et (fun hb => ?_) (fun hb => ?_)
 ·replace h := ite_t hb h
  refine sr ?_
  refine sq (y_build (vs := []) (cs := #[(vi 0), (vi 0)]) rfl trivial (by kernel_rfl)) ?_
  refine l_store (new := [(vi 0), (vi 0)]) (cs' := #[(vi 0), (vi 0)]) hI .z gn rfl rfl et et rfl size_36 rfl rfl rfl ?_
  clear hI; intro c2 w2 hI
  refine sac ?_
  refine nk ?_
  refine c_ret ?_
  obtain rfl := some_inj h
  exact q_ret (vs := [(Value.agg #[(vi 0), (vi 0)]), (vi 4)]) Tryz.results114 ⟨⟨_, ev_tmp rfl rfl, load_agg (l := [(vi 0), (vi 0)]) Tryz.underlying36 rfl size_36 (CellsAt.of_blk (hI.blk .z) rfl)⟩, ⟨ev_tmp rfl rfl, trivial⟩⟩ ⟨rfl, hI.ext0, hI.fin trivial⟩
 ·replace h := ite_f hb h
  refine c_skip ?_
  refine k_same ?_
  refine sr ?_
  refine sm ?_
  refine sq (y_lss rfl et ev_const) ?_
  refine sm ?_
  refine sq (y_lss rfl et ev_const) ?_
  refine sq (y_neb rfl Tryz.underlying4 et et) ?_
  refine sm ?_
  obtain ⟨r1, hx1, h⟩ := bnd_some h
  refine s_call gn rfl (r_callF (vs := [(vi n1)]) rfl ok_137 ⟨et, trivial⟩) (Calls.mono (c_ref01_size (Dj F c1) w1 hI.lt n1 trivial r1 hx1) ?_)
  rintro _ w3 ⟨rfl, hx2, hl1⟩
  refine ⟨_, rfl, ?_⟩
  replace hI := (hI.ext hx2)
  refine sm ?_
  obtain ⟨r2, hx3, h⟩ := bnd_some h
  refine s_call gn rfl (r_callF (vs := [(vi d1)]) rfl ok_137 ⟨et, trivial⟩) (Calls.mono (c_ref01_size (Dj F c1) w3 hI.lt d1 trivial r2 hx3) ?_)
  rintro _ w4 ⟨rfl, hx4, hl2⟩
  refine ⟨_, rfl, ?_⟩
  replace hI := (hI.ext hx4)
  obtain ⟨r3, hx5, h⟩ := bnd_some h
  refine s_call gn rfl (r_callF (vs := [(vb ((decide (n1 < 0)) != (decide (d1 < 0)))), (Value.int .u64 r1), (Value.int .u64 r2)]) rfl ok_136 ⟨et, ⟨et, ⟨et, trivial⟩⟩⟩) (Calls.mono (c_ref01_made (Dj F c1) w4 hI.lt ((decide (n1 < 0)) != (decide (d1 < 0))) r1 r2 trivial r3 hx5) ?_)
  rintro _ w5 ⟨rfl, hx6, hl3⟩
  refine ⟨_, rfl, ?_⟩
  replace hI := (hI.ext hx6)
  refine sq (y_extract rfl et rfl) ?_
  refine sq (y_extract rfl et rfl) ?_
  refine l_store (new := [(vi r3.1.N), (vi r3.1.D)]) (cs' := #[(vi r3.1.N), (vi r3.1.D)]) hI .z gn rfl rfl et et rfl size_36 rfl rfl rfl ?_
  clear hI; intro c3 w6 hI
  refine sa ?_
  refine nk ?_
  refine c_ret ?_
  obtain rfl := some_inj h
  exact q_ret (vs := [(Value.agg #[(vi r3.1.N), (vi r3.1.D)]), (vi r3.2)]) Tryz.results114 ⟨⟨_, ev_tmp rfl rfl, load_agg (l := [(vi r3.1.N), (vi r3.1.D)]) Tryz.underlying36 rfl size_36 (CellsAt.of_blk (hI.blk .z) rfl)⟩, ⟨ev_tmp rfl rfl, trivial⟩⟩ ⟨rfl, hI.ext0, hI.fin trivial⟩

set_option maxRecDepth 100000 in
set_option maxHeartbeats 4000000 in
theorem c_ref01_Add (F : NP) (w0 : World) (hF : ∀ k, F k → k < w0.heap.size) (a1 : GVal) (b1 : GVal) (hc : AllCl [] F w0) (r : GVal × Int)
  (h : m_ref01_Add a1 b1 = some r) :
  Calls Tryz.prog 83 #[(Value.agg #[(vi a1.N), (vi a1.D)]), (Value.agg #[(vi b1.N), (vi b1.D)])] w0 fun e w => e = .returned (Value.tuple #[(Value.agg #[(vi r.1.N), (vi r.1.D)]), (vi r.2)]) ∧ Ext w0 w ∧ AllCl [] F w := by
 refine enterK (l := [(Value.agg #[(vi a1.N), (vi a1.D)]), (Value.agg #[(vi b1.N), (vi b1.D)])]) Tryz.func83 rfl Tryz.ntmps83 rfl ?_
 have hI := Bun.start hF hc
 clear hc
 rw [m_ref01_Add] at h
 refine sr ?_
 refine l_box (v := (Value.agg #[(vi a1.N), (vi a1.D)])) (cs := #[(vi a1.N), (vi a1.D)]) hI gn rfl rfl et rfl ?_
 clear hI; intro b2 c1 w1 hI
 obtain ⟨c2, hI⟩ := hI.relBox .z
 refine l_box (v := (Value.agg #[(vi b1.N), (vi b1.D)])) (cs := #[(vi b1.N), (vi b1.D)]) hI gn rfl rfl et rfl ?_
 clear hI; intro b3 c3 w2 hI
 obtain ⟨c4, hI⟩ := hI.relBox .z
 refine l_alloc (cs := #[(vi 0), (vi 0)]) hI gn rfl rfl zero_36 rfl ?_
 clear hI; intro b4 c5 w3 hI
 refine sac ?_
 refine nk ?_
 refine c_seq ?_
 refine sr ?_
 refine sq (y_loadN (l := [(vi a1.N), (vi a1.D)]) rfl et Tryz.underlying36 rfl size_36 (hI.kblk (l := [(vi a1.N), (vi a1.D)]) (.s .z) rfl).1) ?_
 obtain ⟨r1, hx1, h⟩ := bnd_some h
 refine s_call gn rfl (r_callF (vs := [(Value.agg #[(vi a1.N), (vi a1.D)])]) rfl ok_113 ⟨et, trivial⟩) (Calls.mono (c_ref01_Valid (Dj F c5) w3 hI.lt a1 trivial r1 hx1) ?_)
 rintro _ w4 ⟨rfl, hx2, hl1⟩
 refine ⟨_, rfl, ?_⟩
 replace hI := (hI.ext hx2)
 refine sq (y_not rfl et) ?_
 refine sm ?_
 refine s_gval (g_false rfl rfl rfl rfl) rfl (fun hc => (y_loadN (l := [(vi b1.N), (vi b1.D)]) rfl et Tryz.underlying36 rfl size_36 (hI.kblk (l := [(vi b1.N), (vi b1.D)]) .z rfl).1)) ?_
 obtain ⟨r2, hx3, h⟩ := bnd_some h
 replace hx3 := gd_some hx3
 refine s_gcallU (v := (vb r2)) (g_false rfl rfl rfl rfl) rfl (fun hc => (r_callF (vs := [(Value.agg #[(vi b1.N), (vi b1.D)])]) rfl ok_113 ⟨(ev_gv et hc), trivial⟩)) (fun hc => (c_ref01_Valid (Dj F c5) w4 hI.lt b1 trivial r2 (hx3 hc)).mono fun _ _ k => ⟨k.1, k.2.1⟩) ?_
 intro w5 hx4; replace hI := hI.ext hx4
 refine s_gval (g_false rfl rfl rfl rfl) rfl (fun hc => (y_not rfl (ev_gv et hc))) ?_
 refine sq (y_or rfl et et) ?_
 refine nk ?_
 refine c_cond (b := (!r1) || (!r2)) et (fun hb => ?_) (fun hb => ?_)
 ·replace h := ite_t hb h
  refine sr ?_
  refine sq (y_build (vs := []) (cs := #[(vi 0), (vi 0)]) rfl trivial (by kernel_rfl)) ?_
  refine l_store (new := [(vi 0), (vi 0)]) (cs' := #[(vi 0), (vi 0)]) hI .z gn rfl rfl et et rfl size_36 rfl rfl rfl ?_
  clear hI; intro c6 w6 hI
  refine sac ?_
  refine nk ?_
  refine c_ret ?_
  obtain rfl := some_inj h
  exact q_ret (vs := [(Value.agg #[(vi 0), (vi 0)]), (vi 1)]) Tryz.results83 ⟨⟨_, ev_tmp rfl rfl, load_agg (l := [(vi 0), (vi 0)]) Tryz.underlying36 rfl size_36 (CellsAt.of_blk (hI.blk .z) rfl)⟩, ⟨ev_tmp rfl rfl, trivial⟩⟩ ⟨rfl, hI.ext0, hI.fin trivial⟩
 ·replace h := ite_f hb h
  refine c_skip ?_
  refine k_same ?_
  refine sr ?_
  refine sq (y_fieldAddr rfl et Tryz.underlying36 rfl size_2 rfl) ?_
  refine sq (y_load1 (v := (vi a1.N)) rfl et Tryz.underlying2 rfl (hI.kblk (l := [(vi a1.N)]) (.s .z) rfl).1) ?_
  refine sq (y_fieldAddr rfl et Tryz.underlying36 rfl size_2 rfl) ?_
  refine sq (y_load1 (v := (vi b1.D)) rfl et Tryz.underlying2 rfl (hI.kblk (l := [(vi b1.D)]) .z rfl).1) ?_
  refine sq (y_mul rfl et et) ?_
  refine sq (y_fieldAddr rfl et Tryz.underlying36 rfl size_2 rfl) ?_
  refine sq (y_load1 (v := (vi b1.N)) rfl et Tryz.underlying2 rfl (hI.kblk (l := [(vi b1.N)]) .z rfl).1) ?_
  refine sq (y_fieldAddr rfl et Tryz.underlying36 rfl size_2 rfl) ?_
  refine sq (y_load1 (v := (vi a1.D)) rfl et Tryz.underlying2 rfl (hI.kblk (l := [(vi a1.D)]) (.s .z) rfl).1) ?_
  refine sq (y_mul rfl et et) ?_
  refine sq (y_add rfl et et) ?_
  refine sq (y_fieldAddr rfl et Tryz.underlying36 rfl size_2 rfl) ?_
  refine sq (y_load1 (v := (vi a1.D)) rfl et Tryz.underlying2 rfl (hI.kblk (l := [(vi a1.D)]) (.s .z) rfl).1) ?_
  refine sq (y_fieldAddr rfl et Tryz.underlying36 rfl size_2 rfl) ?_
  refine sq (y_load1 (v := (vi b1.D)) rfl et Tryz.underlying2 rfl (hI.kblk (l := [(vi b1.D)]) .z rfl).1) ?_
  refine sq (y_mul rfl et et) ?_
  obtain ⟨r3, hx5, h⟩ := bnd_some h
  refine s_call gn rfl (r_callF (vs := [(vi (wi64 ((wi64 (a1.N * b1.D)) + (wi64 (b1.N * a1.D))))), (vi (wi64 (a1.D * b1.D)))]) rfl ok_114 ⟨et, ⟨et, trivial⟩⟩) (Calls.mono (c_ref01_New (Dj F c5) w5 hI.lt (wi64 ((wi64 (a1.N * b1.D)) + (wi64 (b1.N * a1.D)))) (wi64 (a1.D * b1.D)) trivial r3 hx5) ?_)
  rintro _ w7 ⟨rfl, hx6, hl3⟩
  refine ⟨_, rfl, ?_⟩
  replace hI := (hI.ext hx6)
  refine sq (y_extract rfl et rfl) ?_
  refine sq (y_extract rfl et rfl) ?_
  refine l_store (new := [(vi r3.1.N), (vi r3.1.D)]) (cs' := #[(vi r3.1.N), (vi r3.1.D)]) hI .z gn rfl rfl et et rfl size_36 rfl rfl rfl ?_
  clear hI; intro c7 w8 hI
  refine sa ?_
  refine s_nil ?_
  refine k_next (e := [(4, (vp b4 0)), (5, (vi r3.2))]) ⟨rfl, rfl, trivial⟩ ?_
  refine c_ret ?_
  obtain rfl := some_inj h
  exact q_ret (vs := [(Value.agg #[(vi r3.1.N), (vi r3.1.D)]), (vi r3.2)]) Tryz.results83 ⟨⟨_, ev_tmp rfl rfl, load_agg (l := [(vi r3.1.N), (vi r3.1.D)]) Tryz.underlying36 rfl size_36 (CellsAt.of_blk (hI.blk .z) rfl)⟩, ⟨ev_tmp rfl rfl, trivial⟩⟩ ⟨rfl, hI.ext0, hI.fin trivial⟩

set_option maxRecDepth 100000 in
set_option maxHeartbeats 4000000 in
theorem c_ref01_Sub (F : NP) (w0 : World) (hF : ∀ k, F k → k < w0.heap.size) (a1 : GVal) (b1 : GVal) (hc : AllCl [] F w0) (r : GVal × Int)
  (h : m_ref01_Sub a1 b1 = some r) :
  Calls Tryz.prog 84 #[(Value.agg #[(vi a1.N), (vi a1.D)]), (Value.agg #[(vi b1.N), (vi b1.D)])] w0 fun e w => e = .returned (Value.tuple #[(Value.agg #[(vi r.1.N), (vi r.1.D)]), (vi r.2)]) ∧ Ext w0 w ∧ AllCl [] F w := by
 refine enterK (l := [(Value.agg #[(vi a1.N), (vi a1.D)]), (Value.agg #[(vi b1.N), (vi b1.D)])]) Tryz.func84 rfl Tryz.ntmps84 rfl ?_
 have hI := Bun.start hF hc
 clear hc
 rw [m_ref01_Sub] at h
 refine sr ?_
 refine l_box (v := (Value.agg #[(vi a1.N), (vi a1.D)])) (cs := #[(vi a1.N), (vi a1.D)]) hI gn rfl rfl et rfl ?_
 clear hI; intro b2 c1 w1 hI
 obtain ⟨c2, hI⟩ := hI.relBox .z
 refine l_box (v := (Value.agg #[(vi b1.N), (vi b1.D)])) (cs := #[(vi b1.N), (vi b1.D)]) hI gn rfl rfl et rfl ?_
 clear hI; intro b3 c3 w2 hI
 obtain ⟨c4, hI⟩ := hI.relBox .z
 refine l_alloc (cs := #[(vi 0), (vi 0)]) hI gn rfl rfl zero_36 rfl ?_
 clear hI; intro b4 c5 w3 hI
 refine sac ?_
 refine nk ?_
 refine c_seq ?_
 refine sr ?_
 refine sq (y_loadN (l := [(vi a1.N), (vi a1.D)]) rfl et Tryz.underlying36 rfl size_36 (hI.kblk (l := [(vi a1.N), (vi a1.D)]) (.s .z) rfl).1) ?_
 obtain ⟨r1, hx1, h⟩ := bnd_some h
 refine s_call gn rfl (r_callF (vs := [(Value.agg #[(vi a1.N), (vi a1.D)])]) rfl ok_113 ⟨et, trivial⟩) (Calls.mono (c_ref01_Valid (Dj F c5) w3 hI.lt a1 trivial r1 hx1) ?_)
 rintro _ w4 ⟨rfl, hx2, hl1⟩
 refine ⟨_, rfl, ?_⟩
 replace hI := (hI.ext hx2)
 refine sq (y_not rfl et) ?_
 refine sm ?_
 refine s_gval (g_false rfl rfl rfl rfl) rfl (fun hc => (y_loadN (l := [(vi b1.N), (vi b1.D)]) rfl et Tryz.underlying36 rfl size_36 (hI.kblk (l := [(vi b1.N), (vi b1.D)]) .z rfl).1)) ?_
 obtain ⟨r2, hx3, h⟩ := bnd_some h
 replace hx3 := gd_some hx3
 refine s_gcallU (v := (vb r2)) (g_false rfl rfl rfl rfl) rfl (fun hc => (r_callF (vs := [(Value.agg #[(vi b1.N), (vi b1.D)])]) rfl ok_113 ⟨(ev_gv et hc), trivial⟩)) (fun hc => (c_ref01_Valid (Dj F c5) w4 hI.lt b1 trivial r2 (hx3 hc)).mono fun _ _ k => ⟨k.1, k.2.1⟩) ?_
 intro w5 hx4; replace hI := hI.ext hx4
 refine s_gval (g_false rfl rfl rfl rfl) rfl (fun hc => (y_not rfl (ev_gv et hc))) ?_
 refine sq (y_or rfl et et) ?_
 refine nk ?_
 refine c_cond (b := (!r1) || (!r2)) et (fun hb => ?_) (fun hb => ?_)
 ·replace h := ite_t hb h
  refine sr ?_
  refine sq (y_build (vs := []) (cs := #[(vi 0), (vi 0)]) rfl trivial (by kernel_rfl)) ?_
  refine l_store (new := [(vi 0), (vi 0)]) (cs' := #[(vi 0), (vi 0)]) hI .z gn rfl rfl et et rfl size_36 rfl rfl rfl ?_
  clear hI; intro c6 w6 hI
  refine sac ?_
  refine nk ?_
  refine c_ret ?_
  obtain rfl := some_inj h
  exact q_ret (vs := [(Value.agg #[(vi 0), (vi 0)]), (vi 1)]) Tryz.results84 ⟨⟨_, ev_tmp rfl rfl, load_agg (l := [(vi 0), (vi 0)]) Tryz.underlying36 rfl size_36 (CellsAt.of_blk (hI.blk .z) rfl)⟩, ⟨ev_tmp rfl rfl, trivial⟩⟩ ⟨rfl, hI.ext0, hI.fin trivial⟩
 ·replace h := ite_f hb h
  refine c_skip ?_
  refine k_same ?_
  refine sr ?_
  refine sq (y_fieldAddr rfl et Tryz.underlying36 rfl size_2 rfl) ?_
  refine sq (y_load1 (v := (vi a1.N)) rfl et Tryz.underlying2 rfl (hI.kblk (l := [(vi a1.N)]) (.s .z) rfl).1) ?_
  refine sq (y_fieldAddr rfl et Tryz.underlying36 rfl size_2 rfl) ?_
  refine sq (y_load1 (v := (vi b1.D)) rfl et Tryz.underlying2 rfl (hI.kblk (l := [(vi b1.D)]) .z rfl).1) ?_
  refine sq (y_mul rfl et et) ?_
  refine sq (y_fieldAddr rfl et Tryz.underlying36 rfl size_2 rfl) ?_
  refine sq (y_load1 (v := (vi b1.N)) rfl et Tryz.underlying2 rfl (hI.kblk (l := [(vi b1.N)]) .z rfl).1) ?_
  refine sq (y_fieldAddr rfl et Tryz.underlying36 rfl size_2 rfl) ?_
  refine sq (y_load1 (v := (vi a1.D)) rfl et Tryz.underlying2 rfl (hI.kblk (l := [(vi a1.D)]) (.s .z) rfl).1) ?_
  refine sq (y_mul rfl et et) ?_
  refine sq (y_sub rfl et et) ?_
  refine sq (y_fieldAddr rfl et Tryz.underlying36 rfl size_2 rfl) ?_
  refine sq (y_load1 (v := (vi a1.D)) rfl et Tryz.underlying2 rfl (hI.kblk (l := [(vi a1.D)]) (.s .z) rfl).1) ?_
  refine sq (y_fieldAddr rfl et Tryz.underlying36 rfl size_2 rfl) ?_
  refine sq (y_load1 (v := (vi b1.D)) rfl et Tryz.underlying2 rfl (hI.kblk (l := [(vi b1.D)]) .z rfl).1) ?_
  refine sq (y_mul rfl et et) ?_
  obtain ⟨r3, hx5, h⟩ := bnd_some h
  refine s_call gn rfl (r_callF (vs := [(vi (wi64 ((wi64 (a1.N * b1.D)) - (wi64 (b1.N * a1.D))))), (vi (wi64 (a1.D * b1.D)))]) rfl ok_114 ⟨et, ⟨et, trivial⟩⟩) (Calls.mono (c_ref01_New (Dj F c5) w5 hI.lt (wi64 ((wi64 (a1.N * b1.D)) - (wi64 (b1.N * a1.D)))) (wi64 (a1.D * b1.D)) trivial r3 hx5) ?_)
  rintro _ w7 ⟨rfl, hx6, hl3⟩
  refine ⟨_, rfl, ?_⟩
  replace hI := (hI.ext hx6)
  refine sq (y_extract rfl et rfl) ?_
  refine sq (y_extract rfl et rfl) ?_
  refine l_store (new := [(vi r3.1.N), (vi r3.1.D)]) (cs' := #[(vi r3.1.N), (vi r3.1.D)]) hI .z gn rfl rfl et et rfl size_36 rfl rfl rfl ?_
  clear hI; intro c7 w8 hI
  refine sa ?_
  refine s_nil ?_
  refine k_next (e := [(4, (vp b4 0)), (5, (vi r3.2))]) ⟨rfl, rfl, trivial⟩ ?_
  refine c_ret ?_
  obtain rfl := some_inj h
  exact q_ret (vs := [(Value.agg #[(vi r3.1.N), (vi r3.1.D)]), (vi r3.2)]) Tryz.results84 ⟨⟨_, ev_tmp rfl rfl, load_agg (l := [(vi r3.1.N), (vi r3.1.D)]) Tryz.underlying36 rfl size_36 (CellsAt.of_blk (hI.blk .z) rfl)⟩, ⟨ev_tmp rfl rfl, trivial⟩⟩ ⟨rfl, hI.ext0, hI.fin trivial⟩

set_option maxRecDepth 100000 in
set_option maxHeartbeats 4000000 in
theorem c_ref01_Mul (F : NP) (w0 : World) (hF : ∀ k, F k → k < w0.heap.size) (a1 : GVal) (b1 : GVal) (hc : AllCl [] F w0) (r : GVal × Int)
  (h : m_ref01_Mul a1 b1 = some r) :
  Calls Tryz.prog 85 #[(Value.agg #[(vi a1.N), (vi a1.D)]), (Value.agg #[(vi b1.N), (vi b1.D)])] w0 fun e w => e = .returned (Value.tuple #[(Value.agg #[(vi r.1.N), (vi r.1.D)]), (vi r.2)]) ∧ Ext w0 w ∧ AllCl [] F w := by
 refine enterK (l := [(Value.agg #[(vi a1.N), (vi a1.D)]), (Value.agg #[(vi b1.N), (vi b1.D)])]) Tryz.func85 rfl Tryz.ntmps85 rfl ?_
 have hI := Bun.start hF hc
 clear hc
 rw [m_ref01_Mul] at h
 refine sr ?_
 refine l_box (v := (Value.agg #[(vi a1.N), (vi a1.D)])) (cs := #[(vi a1.N), (vi a1.D)]) hI gn rfl rfl et rfl ?_
 clear hI; intro b2 c1 w1 hI
 obtain ⟨c2, hI⟩ := hI.relBox .z
 refine l_box (v := (Value.agg #[(vi b1.N), (vi b1.D)])) (cs := #[(vi b1.N), (vi b1.D)]) hI gn rfl rfl et rfl ?_
 clear hI; intro b3 c3 w2 hI
 obtain ⟨c4, hI⟩ := hI.relBox .z
 refine l_alloc (cs := #[(vi 0), (vi 0)]) hI gn rfl rfl zero_36 rfl ?_
 clear hI; intro b4 c5 w3 hI
 refine sac ?_
 refine nk ?_
 refine c_seq ?_
 refine sr ?_
 refine sq (y_loadN (l := [(vi a1.N), (vi a1.D)]) rfl et Tryz.underlying36 rfl size_36 (hI.kblk (l := [(vi a1.N), (vi a1.D)]) (.s .z) rfl).1) ?_
 obtain ⟨r1, hx1, h⟩ := bnd_some h
 refine s_call gn rfl (r_callF (vs := [(Value.agg #[(vi a1.N), (vi a1.D)])]) rfl ok_113 ⟨et, trivial⟩) (Calls.mono (c_ref01_Valid (Dj F c5) w3 hI.lt a1 trivial r1 hx1) ?_)
 rintro _ w4 ⟨rfl, hx2, hl1⟩
 refine ⟨_, rfl, ?_⟩
 replace hI := (hI.ext hx2)
 refine sq (y_not rfl et) ?_
 refine sm ?_
 refine s_gval (g_false rfl rfl rfl rfl) rfl (fun hc => (y_loadN (l := [(vi b1.N), (vi b1.D)]) rfl et Tryz.underlying36 rfl size_36 (hI.kblk (l := [(vi b1.N), (vi b1.D)]) .z rfl).1)) ?_
 obtain ⟨r2, hx3, h⟩ := bnd_some h
 replace hx3 := gd_some hx3
 refine s_gcallU (v := (vb r2)) (g_false rfl rfl rfl rfl) rfl (fun hc => (r_callF (vs := [(Value.agg #[(vi b1.N), (vi b1.D)])]) rfl ok_113 ⟨(ev_gv et hc), trivial⟩)) (fun hc => (c_ref01_Valid (Dj F c5) w4 hI.lt b1 trivial r2 (hx3 hc)).mono fun _ _ k => ⟨k.1, k.2.1⟩) ?_
 intro w5 hx4; replace hI := hI.ext hx4
 refine s_gval (g_false rfl rfl rfl rfl) rfl (fun hc => (y_not rfl (ev_gv et hc))) ?_
 refine sq (y_or rfl et et) ?_
 refine nk ?_
 refine c_cond (b := (!r1) || (!r2)) et (fun hb => ?_) (fun hb => ?_)
 ·replace h := ite_t hb h
  refine sr ?_
  refine sq (y_build (vs := []) (cs := #[(vi 0), (vi 0)]) rfl trivial (by kernel_rfl)) ?_
  refine l_store (new := [(vi 0), (vi 0)]) (cs' := #[(vi 0), (vi 0)]) hI .z gn rfl rfl et et rfl size_36 rfl rfl rfl ?_
  clear hI; intro c6 w6 hI
  refine sac ?_
  refine nk ?_
  refine c_ret ?_
  obtain rfl := some_inj h
  exact q_ret (vs := [(Value.agg #[(vi 0), (vi 0)]), (vi 1)]) Tryz.results85 ⟨⟨_, ev_tmp rfl rfl, load_agg (l := [(vi 0), (vi 0)]) Tryz.underlying36 rfl size_36 (CellsAt.of_blk (hI.blk .z) rfl)⟩, ⟨ev_tmp rfl rfl, trivial⟩⟩ ⟨rfl, hI.ext0, hI.fin trivial⟩
 ·replace h := ite_f hb h
  refine c_skip ?_
  refine k_same ?_
  refine sr ?_
  refine sq (y_fieldAddr rfl et Tryz.underlying36 rfl size_2 rfl) ?_
  refine sq (y_load1 (v := (vi a1.N)) rfl et Tryz.underlying2 rfl (hI.kblk (l := [(vi a1.N)]) (.s .z) rfl).1) ?_
  refine sq (y_fieldAddr rfl et Tryz.underlying36 rfl size_2 rfl) ?_
  refine sq (y_load1 (v := (vi b1.N)) rfl et Tryz.underlying2 rfl (hI.kblk (l := [(vi b1.N)]) .z rfl).1) ?_
  refine sq (y_mul rfl et et) ?_
  refine sq (y_fieldAddr rfl et Tryz.underlying36 rfl size_2 rfl) ?_
  refine sq (y_load1 (v := (vi a1.D)) rfl et Tryz.underlying2 rfl (hI.kblk (l := [(vi a1.D)]) (.s .z) rfl).1) ?_
  refine sq (y_fieldAddr rfl et Tryz.underlying36 rfl size_2 rfl) ?_
  refine sq (y_load1 (v := (vi b1.D)) rfl et Tryz.underlying2 rfl (hI.kblk (l := [(vi b1.D)]) .z rfl).1) ?_
  refine sq (y_mul rfl et et) ?_
  obtain ⟨r3, hx5, h⟩ := bnd_some h
  refine s_call gn rfl (r_callF (vs := [(vi (wi64 (a1.N * b1.N))), (vi (wi64 (a1.D * b1.D)))]) rfl ok_114 ⟨et, ⟨et, trivial⟩⟩) (Calls.mono (c_ref01_New (Dj F c5) w5 hI.lt (wi64 (a1.N * b1.N)) (wi64 (a1.D * b1.D)) trivial r3 hx5) ?_)
  rintro _ w7 ⟨rfl, hx6, hl3⟩
  refine ⟨_, rfl, ?_⟩
  replace hI := (hI.ext hx6)
  refine sq (y_extract rfl et rfl) ?_
  refine sq (y_extract rfl et rfl) ?_
  refine l_store (new := [(vi r3.1.N), (vi r3.1.D)]) (cs' := #[(vi r3.1.N), (vi r3.1.D)]) hI .z gn rfl rfl et et rfl size_36 rfl rfl rfl ?_
  clear hI; intro c7 w8 hI
  refine sa ?_
  refine s_nil ?_
  refine k_next (e := [(4, (vp b4 0)), (5, (vi r3.2))]) ⟨rfl, rfl, trivial⟩ ?_
  refine c_ret ?_
  obtain rfl := some_inj h
  exact q_ret (vs := [(Value.agg #[(vi r3.1.N), (vi r3.1.D)]), (vi r3.2)]) Tryz.results85 ⟨⟨_, ev_tmp rfl rfl, load_agg (l := [(vi r3.1.N), (vi r3.1.D)]) Tryz.underlying36 rfl size_36 (CellsAt.of_blk (hI.blk .z) rfl)⟩, ⟨ev_tmp rfl rfl, trivial⟩⟩ ⟨rfl, hI.ext0, hI.fin trivial⟩

set_option maxRecDepth 100000 in
set_option maxHeartbeats 4000000 in
theorem c_ref01_Div (F : NP) (w0 : World) (hF : ∀ k, F k → k < w0.heap.size) (a1 : GVal) (b1 : GVal) (hc : AllCl [] F w0) (r : GVal × Int)
  (h : m_ref01_Div a1 b1 = some r) :
  Calls Tryz.prog 86 #[(Value.agg #[(vi a1.N), (vi a1.D)]), (Value.agg #[(vi b1.N), (vi b1.D)])] w0 fun e w => e = .returned (Value.tuple #[(Value.agg #[(vi r.1.N), (vi r.1.D)]), (vi r.2)]) ∧ Ext w0 w ∧ AllCl [] F w := by
 refine enterK (l := [(Value.agg #[(vi a1.N), (vi a1.D)]), (Value.agg #[(vi b1.N), (vi b1.D)])]) Tryz.func86 rfl Tryz.ntmps86 rfl ?_
 have hI := Bun.start hF hc
 clear hc
 rw [m_ref01_Div] at h
 refine sr ?_
 refine l_box (v := (Value.agg #[(vi a1.N), (vi a1.D)])) (cs := #[(vi a1.N), (vi a1.D)]) hI gn rfl rfl et rfl ?_
 clear hI; intro b2 c1 w1 hI
 obtain ⟨c2, hI⟩ := hI.relBox .z
 refine l_box (v := (Value.agg #[(vi b1.N), (vi b1.D)])) (cs := #[(vi b1.N), (vi b1.D)]) hI gn rfl rfl et rfl ?_
 clear hI; intro b3 c3 w2 hI
 obtain ⟨c4, hI⟩ := hI.relBox .z
 refine l_alloc (cs := #[(vi 0), (vi 0)]) hI gn rfl rfl zero_36 rfl ?_
 clear hI; intro b4 c5 w3 hI
 refine sac ?_
 refine nk ?_
 refine c_seq ?_
 refine sr ?_
 refine sq (y_loadN (l := [(vi a1.N), (vi a1.D)]) rfl et Tryz.underlying36 rfl size_36 (hI.kblk (l := [(vi a1.N), (vi a1.D)]) (.s .z) rfl).1) ?_
 obtain ⟨r1, hx1, h⟩ := bnd_some h
 refine s_call gn rfl (r_callF (vs := [(Value.agg #[(vi a1.N), (vi a1.D)])]) rfl ok_113 ⟨et, trivial⟩) (Calls.mono (c_ref01_Valid (Dj F c5) w3 hI.lt a1 trivial r1 hx1) ?_)
 rintro _ w4 ⟨rfl, hx2, hl1⟩
 refine ⟨_, rfl, ?_⟩
 replace hI := (hI.ext hx2)
 refine sq (y_not rfl et) ?_
 refine sm ?_
 refine s_gval (g_false rfl rfl rfl rfl) rfl (fun hc => (y_loadN (l := [(vi b1.N), (vi b1.D)]) rfl et Tryz.underlying36 rfl size_36 (hI.kblk (l := [(vi b1.N), (vi b1.D)]) .z rfl).1)) ?_
 obtain ⟨r2, hx3, h⟩ := bnd_some h
 replace hx3 := gd_some hx3
 refine s_gcallU (v := (vb r2)) (g_false rfl rfl rfl rfl) rfl (fun hc => (r_callF (vs := [(Value.agg #[(vi b1.N), (vi b1.D)])]) rfl ok_113 ⟨(ev_gv et hc), trivial⟩)) (fun hc => (c_ref01_Valid (Dj F c5) w4 hI.lt b1 trivial r2 (hx3 hc)).mono fun _ _ k => ⟨k.1, k.2.1⟩) ?_
 intro w5 hx4; replace hI := hI.ext hx4
 refine s_gval (g_false rfl rfl rfl rfl) rfl (fun hc => (y_not rfl (ev_gv et hc))) ?_
 refine sq (y_or rfl et et) ?_
 refine nk ?_
 refine c_cond (b := (!r1) || (!r2)) et (fun hb => ?_) (fun hb => ?_)
 ·replace h := ite_t hb h
  refine sr ?_
  refine sq (y_build (vs := []) (cs := #[(vi 0), (vi 0)]) rfl trivial (by kernel_rfl)) ?_
  refine l_store (new := [(vi 0), (vi 0)]) (cs' := #[(vi 0), (vi 0)]) hI .z gn rfl rfl et et rfl size_36 rfl rfl rfl ?_
  clear hI; intro c6 w6 hI
  refine sac ?_
  refine nk ?_
  refine c_ret ?_
  obtain rfl := some_inj h
  exact q_ret (vs := [(Value.agg #[(vi 0), (vi 0)]), (vi 1)]) Tryz.results86 ⟨⟨_, ev_tmp rfl rfl, load_agg (l := [(vi 0), (vi 0)]) Tryz.underlying36 rfl size_36 (CellsAt.of_blk (hI.blk .z) rfl)⟩, ⟨ev_tmp rfl rfl, trivial⟩⟩ ⟨rfl, hI.ext0, hI.fin trivial⟩
 ·replace h := ite_f hb h
  refine c_skip ?_
  refine k_same ?_
  refine sr ?_
  refine sq (y_fieldAddr rfl et Tryz.underlying36 rfl size_2 rfl) ?_
  refine sq (y_load1 (v := (vi a1.N)) rfl et Tryz.underlying2 rfl (hI.kblk (l := [(vi a1.N)]) (.s .z) rfl).1) ?_
  refine sq (y_fieldAddr rfl et Tryz.underlying36 rfl size_2 rfl) ?_
  refine sq (y_load1 (v := (vi b1.D)) rfl et Tryz.underlying2 rfl (hI.kblk (l := [(vi b1.D)]) .z rfl).1) ?_
  refine sq (y_mul rfl et et) ?_
  refine sq (y_fieldAddr rfl et Tryz.underlying36 rfl size_2 rfl) ?_
  refine sq (y_load1 (v := (vi a1.D)) rfl et Tryz.underlying2 rfl (hI.kblk (l := [(vi a1.D)]) (.s .z) rfl).1) ?_
  refine sq (y_fieldAddr rfl et Tryz.underlying36 rfl size_2 rfl) ?_
  refine sq (y_load1 (v := (vi b1.N)) rfl et Tryz.underlying2 rfl (hI.kblk (l := [(vi b1.N)]) .z rfl).1) ?_
  refine sq (y_mul rfl et et) ?_
  obtain ⟨r3, hx5, h⟩ := bnd_some h
  refine s_call gn rfl (r_callF (vs := [(vi (wi64 (a1.N * b1.D))), (vi (wi64 (a1.D * b1.N)))]) rfl ok_114 ⟨et, ⟨et, trivial⟩⟩) (Calls.mono (c_ref01_New (Dj F c5) w5 hI.lt (wi64 (a1.N * b1.D)) (wi64 (a1.D * b1.N)) trivial r3 hx5) ?_)
  rintro _ w7 ⟨rfl, hx6, hl3⟩
  refine ⟨_, rfl, ?_⟩
  replace hI := (hI.ext hx6)
  refine sq (y_extract rfl et rfl) ?_
  refine sq (y_extract rfl et rfl) ?_
  refine l_store (new := [(vi r3.1.N), (vi r3.1.D)]) (cs' := #[(vi r3.1.N), (vi r3.1.D)]) hI .z gn rfl rfl et et rfl size_36 rfl rfl rfl ?_
  clear hI; intro c7 w8 hI
  refine sa ?_
  refine s_nil ?_
  refine k_next (e := [(4, (vp b4 0)), (5, (vi r3.2))]) ⟨rfl, rfl, trivial⟩ ?_
  refine c_ret ?_
  obtain rfl := some_inj h
  exact q_ret (vs := [(Value.agg #[(vi r3.1.N), (vi r3.1.D)]), (vi r3.2)]) Tryz.results86 ⟨⟨_, ev_tmp rfl rfl, load_agg (l := [(vi r3.1.N), (vi r3.1.D)]) Tryz.underlying36 rfl size_36 (CellsAt.of_blk (hI.blk .z) rfl)⟩, ⟨ev_tmp rfl rfl, trivial⟩⟩ ⟨rfl, hI.ext0, hI.fin trivial⟩

set_option maxRecDepth 100000 in
set_option maxHeartbeats 4000000 in
theorem c_ref01_Neg (F : NP) (w0 : World) (hF : ∀ k, F k → k < w0.heap.size) (a1 : GVal) (hc : AllCl [] F w0) (r : GVal)
  (h : m_ref01_Neg a1 = some r) :
  Calls Tryz.prog 87 #[(Value.agg #[(vi a1.N), (vi a1.D)])] w0 fun e w => e = .returned (Value.agg #[(vi r.N), (vi r.D)]) ∧ Ext w0 w ∧ AllCl [] F w := by
 refine enterK (l := [(Value.agg #[(vi a1.N), (vi a1.D)])]) Tryz.func87 rfl Tryz.ntmps87 rfl ?_
 have hI := Bun.start hF hc
 clear hc
 rw [m_ref01_Neg] at h
 refine sr ?_
 refine l_box (v := (Value.agg #[(vi a1.N), (vi a1.D)])) (cs := #[(vi a1.N), (vi a1.D)]) hI gn rfl rfl et rfl ?_
 clear hI; intro b1 c1 w1 hI
 obtain ⟨c2, hI⟩ := hI.relBox .z
 refine l_alloc (cs := #[(vi 0), (vi 0)]) hI gn rfl rfl zero_36 rfl ?_
 clear hI; intro b2 c3 w2 hI
 refine nk ?_
 refine c_seq ?_
 refine sr ?_
 refine sq (y_loadN (l := [(vi a1.N), (vi a1.D)]) rfl et Tryz.underlying36 rfl size_36 (hI.kblk (l := [(vi a1.N), (vi a1.D)]) .z rfl).1) ?_
 obtain ⟨r1, hx1, h⟩ := bnd_some h
 refine s_call gn rfl (r_callF (vs := [(Value.agg #[(vi a1.N), (vi a1.D)])]) rfl ok_113 ⟨et, trivial⟩) (Calls.mono (c_ref01_Valid (Dj F c3) w2 hI.lt a1 trivial r1 hx1) ?_)
 rintro _ w3 ⟨rfl, hx2, hl1⟩
 refine ⟨_, rfl, ?_⟩
 replace hI := (hI.ext hx2)
 refine sq (y_not rfl et) ?_
 refine nk ?_
 refine c_cond (b := !r1) et (fun hb => ?_) (fun hb => ?_)
 ·replace h := ite_t hb h
  refine sr ?_
  refine sq (y_build (vs := []) (cs := #[(vi 0), (vi 0)]) rfl trivial (by kernel_rfl)) ?_
  refine l_store (new := [(vi 0), (vi 0)]) (cs' := #[(vi 0), (vi 0)]) hI .z gn rfl rfl et et rfl size_36 rfl rfl rfl ?_
  clear hI; intro c4 w4 hI
  refine nk ?_
  refine c_ret ?_
  obtain rfl := some_inj h
  exact q_ret (vs := [(Value.agg #[(vi 0), (vi 0)])]) Tryz.results87 ⟨⟨_, ev_tmp rfl rfl, load_agg (l := [(vi 0), (vi 0)]) Tryz.underlying36 rfl size_36 (CellsAt.of_blk (hI.blk .z) rfl)⟩, trivial⟩ ⟨rfl, hI.ext0, hI.fin trivial⟩
 ·replace h := ite_f hb h
  refine c_skip ?_
  refine k_same ?_
  refine sr ?_
  refine sq (y_fieldAddr rfl et Tryz.underlying36 rfl size_2 rfl) ?_
  refine sq (y_load1 (v := (vi a1.N)) rfl et Tryz.underlying2 rfl (hI.kblk (l := [(vi a1.N)]) .z rfl).1) ?_
  refine sq (y_neg rfl et) ?_
  refine sq (y_fieldAddr rfl et Tryz.underlying36 rfl size_2 rfl) ?_
  refine sq (y_load1 (v := (vi a1.D)) rfl et Tryz.underlying2 rfl (hI.kblk (l := [(vi a1.D)]) .z rfl).1) ?_
  refine sq (y_build (vs := [(0, (vi (wi64 (-a1.N)))), (1, (vi a1.D))]) (cs := #[(vi (wi64 (-a1.N))), (vi a1.D)]) rfl ⟨rfl, et, ⟨rfl, et, trivial⟩⟩ (by kernel_rfl)) ?_
  refine l_store (new := [(vi (wi64 (-a1.N))), (vi a1.D)]) (cs' := #[(vi (wi64 (-a1.N))), (vi a1.D)]) hI .z gn rfl rfl et et rfl size_36 rfl rfl rfl ?_
  clear hI; intro c5 w5 hI
  refine nk ?_
  refine c_ret ?_
  obtain rfl := some_inj h
  exact q_ret (vs := [(Value.agg #[(vi (wi64 (-a1.N))), (vi a1.D)])]) Tryz.results87 ⟨⟨_, ev_tmp rfl rfl, load_agg (l := [(vi (wi64 (-a1.N))), (vi a1.D)]) Tryz.underlying36 rfl size_36 (CellsAt.of_blk (hI.blk .z) rfl)⟩, trivial⟩ ⟨rfl, hI.ext0, hI.fin trivial⟩

set_option maxRecDepth 100000 in
set_option maxHeartbeats 4000000 in
theorem c_ref04_Apply (F : NP) (w0 : World) (hF : ∀ k, F k → k < w0.heap.size) (op1 : Int) (t1 : GType) (a1 : GVal) (b1 : GVal) (hc : AllCl [] F w0) (r : GVal × Int)
  (h : m_ref04_Apply op1 t1 a1 b1 = some r) :
  Calls Tryz.prog 48 #[(vi op1), (Value.agg #[(vi t1.Kind), (vi t1.Bits), (vi t1.Frac), (vi t1.Round), (vi t1.Over)]), (Value.agg #[(vi a1.N), (vi a1.D)]), (Value.agg #[(vi b1.N), (vi b1.D)])] w0 fun e w => e = .returned (Value.tuple #[(Value.agg #[(vi r.1.N), (vi r.1.D)]), (vi r.2)]) ∧ Ext w0 w ∧ AllCl [] F w := by
 refine enterK (l := [(vi op1), (Value.agg #[(vi t1.Kind), (vi t1.Bits), (vi t1.Frac), (vi t1.Round), (vi t1.Over)]), (Value.agg #[(vi a1.N), (vi a1.D)]), (Value.agg #[(vi b1.N), (vi b1.D)])]) Tryz.func48 rfl Tryz.ntmps48 rfl ?_
 have hI := Bun.start hF hc
 clear hc
 rw [m_ref04_Apply] at h
 refine sr ?_
 refine l_box (v := (Value.agg #[(vi t1.Kind), (vi t1.Bits), (vi t1.Frac), (vi t1.Round), (vi t1.Over)])) (cs := #[(vi t1.Kind), (vi t1.Bits), (vi t1.Frac), (vi t1.Round), (vi t1.Over)]) hI gn rfl rfl et rfl ?_
 clear hI; intro b2 c1 w1 hI
 obtain ⟨c2, hI⟩ := hI.relBox .z
 refine l_box (v := (Value.agg #[(vi a1.N), (vi a1.D)])) (cs := #[(vi a1.N), (vi a1.D)]) hI gn rfl rfl et rfl ?_
 clear hI; intro b3 c3 w2 hI
 obtain ⟨c4, hI⟩ := hI.relBox .z
 refine l_box (v := (Value.agg #[(vi b1.N), (vi b1.D)])) (cs := #[(vi b1.N), (vi b1.D)]) hI gn rfl rfl et rfl ?_
 clear hI; intro b4 c5 w3 hI
 obtain ⟨c6, hI⟩ := hI.relBox .z
 refine l_alloc (cs := #[(vi 0), (vi 0)]) hI gn rfl rfl zero_36 rfl ?_
 clear hI; intro b5 c7 w4 hI
 refine sac ?_
 refine nk ?_
 refine c_seq ?_
 refine sr ?_
 refine sm ?_
 refine sq (y_lss rfl et ev_const) ?_
 refine sm ?_
 refine s_gval (g_false rfl rfl rfl rfl) rfl (fun hc => (y_move rfl et)) ?_
 refine s_gval (g_false rfl rfl rfl rfl) rfl (fun hc => (y_gtr rfl (ev_gv et hc) ev_const)) ?_
 refine sq (y_or rfl et et) ?_
 refine nk ?_
 refine c_cond (b := (decide (op1 < 4)) || (decide (10 < op1))) et (fun hb => ?_) (fun hb => ?_)
 ·replace h := ite_t hb h
  refine sr ?_
  refine sq (y_build (vs := []) (cs := #[(vi 0), (vi 0)]) rfl trivial (by kernel_rfl)) ?_
  refine l_store (new := [(vi 0), (vi 0)]) (cs' := #[(vi 0), (vi 0)]) hI .z gn rfl rfl et et rfl size_36 rfl rfl rfl ?_
  clear hI; intro c8 w5 hI
  refine sac ?_
  refine nk ?_
  refine c_ret ?_
  obtain rfl := some_inj h
  exact q_ret (vs := [(Value.agg #[(vi 0), (vi 0)]), (vi 1)]) Tryz.results48 ⟨⟨_, ev_tmp rfl rfl, load_agg (l := [(vi 0), (vi 0)]) Tryz.underlying36 rfl size_36 (CellsAt.of_blk (hI.blk .z) rfl)⟩, ⟨ev_tmp rfl rfl, trivial⟩⟩ ⟨rfl, hI.ext0, hI.fin trivial⟩
 ·replace h := ite_f hb h
  refine c_skip ?_
  refine k_same ?_
  refine c_seq ?_
  refine sr ?_
  refine sq (y_loadN (l := [(vi t1.Kind), (vi t1.Bits), (vi t1.Frac), (vi t1.Round), (vi t1.Over)]) rfl et Tryz.underlying23 rfl size_23 (hI.kblk (l := [(vi t1.Kind), (vi t1.Bits), (vi t1.Frac), (vi t1.Round), (vi t1.Over)]) (.s (.s .z)) rfl).1) ?_
  obtain ⟨r1, hx1, h⟩ := bnd_some h
  refine s_call gn rfl (r_callF (vs := [(Value.agg #[(vi t1.Kind), (vi t1.Bits), (vi t1.Frac), (vi t1.Round), (vi t1.Over)])]) rfl ok_60 ⟨et, trivial⟩) (Calls.mono (c_base_Type (Dj F c7) w4 hI.lt t1 trivial r1 hx1) ?_)
  rintro _ w6 ⟨rfl, hx2, hl1⟩
  refine ⟨_, rfl, ?_⟩
  replace hI := (hI.ext hx2)
  refine sq (y_not rfl et) ?_
  refine nk ?_
  refine c_cond (b := !r1) et (fun hb => ?_) (fun hb => ?_)
  ·replace h := ite_t hb h
   refine sr ?_
   refine sq (y_build (vs := []) (cs := #[(vi 0), (vi 0)]) rfl trivial (by kernel_rfl)) ?_
   refine l_store (new := [(vi 0), (vi 0)]) (cs' := #[(vi 0), (vi 0)]) hI .z gn rfl rfl et et rfl size_36 rfl rfl rfl ?_
   clear hI; intro c9 w7 hI
   refine sac ?_
   refine nk ?_
   refine c_ret ?_
   obtain rfl := some_inj h
   exact q_ret (vs := [(Value.agg #[(vi 0), (vi 0)]), (vi 10)]) Tryz.results48 ⟨⟨_, ev_tmp rfl rfl, load_agg (l := [(vi 0), (vi 0)]) Tryz.underlying36 rfl size_36 (CellsAt.of_blk (hI.blk .z) rfl)⟩, ⟨ev_tmp rfl rfl, trivial⟩⟩ ⟨rfl, hI.ext0, hI.fin trivial⟩
  ·replace h := ite_f hb h
   refine c_skip ?_
   refine k_same ?_
   refine c_seq ?_
   refine sr ?_
   refine sq (y_loadN (l := [(vi t1.Kind), (vi t1.Bits), (vi t1.Frac), (vi t1.Round), (vi t1.Over)]) rfl et Tryz.underlying23 rfl size_23 (hI.kblk (l := [(vi t1.Kind), (vi t1.Bits), (vi t1.Frac), (vi t1.Round), (vi t1.Over)]) (.s (.s .z)) rfl).1) ?_
   refine sq (y_loadN (l := [(vi a1.N), (vi a1.D)]) rfl et Tryz.underlying36 rfl size_36 (hI.kblk (l := [(vi a1.N), (vi a1.D)]) (.s .z) rfl).1) ?_
   obtain ⟨r2, hx3, h⟩ := bnd_some h
   refine s_call gn rfl (r_callF (vs := [(Value.agg #[(vi t1.Kind), (vi t1.Bits), (vi t1.Frac), (vi t1.Round), (vi t1.Over)]), (Value.agg #[(vi a1.N), (vi a1.D)])]) rfl ok_56 ⟨et, ⟨et, trivial⟩⟩) (Calls.mono (c_base_Val (Dj F c7) w6 hI.lt t1 a1 trivial r2 hx3) ?_)
   rintro _ w8 ⟨rfl, hx4, hl2⟩
   refine ⟨_, rfl, ?_⟩
   replace hI := (hI.ext hx4)
   refine sq (y_not rfl et) ?_
   refine sm ?_
   refine s_gval (g_false rfl rfl rfl rfl) rfl (fun hc => (y_move rfl et)) ?_
   refine s_gval (g_false rfl rfl rfl rfl) rfl (fun hc => (y_neq rfl (ev_gv et hc) ev_const)) ?_
   refine s_gval (g_false rfl rfl rfl rfl) rfl (fun hc => (y_move rfl (ev_gv et hc))) ?_
   refine s_gval (g_true2 rfl rfl rfl rfl) rfl (fun hc => (y_loadN (l := [(vi t1.Kind), (vi t1.Bits), (vi t1.Frac), (vi t1.Round), (vi t1.Over)]) rfl et Tryz.underlying23 rfl size_23 (hI.kblk (l := [(vi t1.Kind), (vi t1.Bits), (vi t1.Frac), (vi t1.Round), (vi t1.Over)]) (.s (.s .z)) rfl).1)) ?_
   refine s_gval (g_true2 rfl rfl rfl rfl) rfl (fun hc => (y_loadN (l := [(vi b1.N), (vi b1.D)]) rfl et Tryz.underlying36 rfl size_36 (hI.kblk (l := [(vi b1.N), (vi b1.D)]) .z rfl).1)) ?_
   obtain ⟨r3, hx5, h⟩ := bnd_some h
   replace hx5 := gd_some hx5
   refine s_gcallU (v := (vb r3)) (g_true2 rfl rfl rfl rfl) rfl (fun hc => (r_callF (vs := [(Value.agg #[(vi t1.Kind), (vi t1.Bits), (vi t1.Frac), (vi t1.Round), (vi t1.Over)]), (Value.agg #[(vi b1.N), (vi b1.D)])]) rfl ok_56 ⟨(ev_gv et hc), ⟨(ev_gv et hc), trivial⟩⟩)) (fun hc => (c_base_Val (Dj F c7) w8 hI.lt t1 b1 trivial r3 (hx5 hc)).mono fun _ _ k => ⟨k.1, k.2.1⟩) ?_
   intro w9 hx6; replace hI := hI.ext hx6
   refine s_gval (g_true2 rfl rfl rfl rfl) rfl (fun hc => (y_not rfl (ev_gv et hc))) ?_
   refine s_gval (g_false rfl rfl rfl rfl) rfl (fun hc => (y_and2 rfl hc et et)) ?_
   refine sq (y_or rfl et et) ?_
   refine s_nil ?_
   refine k_next (e := [(0, (vi op1)), (5, (vp b2 0)), (6, (vp b3 0)), (7, (vp b4 0)), (8, (vp b5 0)), (34, (vb ((!r2) || ((!decide (op1 = 8)) && (!r3)))))]) ⟨rfl, rfl, rfl, rfl, rfl, rfl, trivial⟩ ?_
   refine c_cond (b := (!r2) || ((!decide (op1 = 8)) && (!r3))) et (fun hb => ?_) (fun hb => ?_)
   ·replace h := ite_t hb h
    refine sr ?_
    refine sq (y_build (vs := []) (cs := #[(vi 0), (vi 0)]) rfl trivial (by kernel_rfl)) ?_
    refine l_store (new := [(vi 0), (vi 0)]) (cs' := #[(vi 0), (vi 0)]) hI .z gn rfl rfl et et rfl size_36 rfl rfl rfl ?_
    clear hI; intro c10 w10 hI
    refine sac ?_
    refine nk ?_
    refine c_ret ?_
    obtain rfl := some_inj h
    exact q_ret (vs := [(Value.agg #[(vi 0), (vi 0)]), (vi 1)]) Tryz.results48 ⟨⟨_, ev_tmp rfl rfl, load_agg (l := [(vi 0), (vi 0)]) Tryz.underlying36 rfl size_36 (CellsAt.of_blk (hI.blk .z) rfl)⟩, ⟨ev_tmp rfl rfl, trivial⟩⟩ ⟨rfl, hI.ext0, hI.fin trivial⟩
   ·replace h := ite_f hb h
    refine c_skip ?_
    refine k_same ?_
    refine c_seq ?_
    refine sr ?_
    refine sm ?_
    refine sq (y_eql rfl et ev_const) ?_
    refine sm ?_
    refine s_gval (g_false rfl rfl rfl rfl) rfl (fun hc => (y_move rfl et)) ?_
    refine s_gval (g_false rfl rfl rfl rfl) rfl (fun hc => (y_eql rfl (ev_gv et hc) ev_const)) ?_
    refine sq (y_or rfl et et) ?_
    refine nk ?_
    refine c_cond (b := (decide (op1 = 9)) || (decide (op1 = 10))) et (fun hb => ?_) (fun hb => ?_)
    ·replace h := ite_t hb h
     refine c_seq ?_
     refine sr ?_
     refine sq (y_loadN (l := [(vi t1.Kind), (vi t1.Bits), (vi t1.Frac), (vi t1.Round), (vi t1.Over)]) rfl et Tryz.underlying23 rfl size_23 (hI.kblk (l := [(vi t1.Kind), (vi t1.Bits), (vi t1.Frac), (vi t1.Round), (vi t1.Over)]) (.s (.s .z)) rfl).1) ?_
     refine sq (y_loadN (l := [(vi a1.N), (vi a1.D)]) rfl et Tryz.underlying36 rfl size_36 (hI.kblk (l := [(vi a1.N), (vi a1.D)]) (.s .z) rfl).1) ?_
     refine sq (y_loadN (l := [(vi b1.N), (vi b1.D)]) rfl et Tryz.underlying36 rfl size_36 (hI.kblk (l := [(vi b1.N), (vi b1.D)]) .z rfl).1) ?_
     obtain ⟨r4, hx7, h⟩ := bnd_some h
     refine s_call gn rfl (r_callF (vs := [(Value.agg #[(vi t1.Kind), (vi t1.Bits), (vi t1.Frac), (vi t1.Round), (vi t1.Over)]), (Value.agg #[(vi a1.N), (vi a1.D)]), (Value.agg #[(vi b1.N), (vi b1.D)])]) rfl ok_80 ⟨et, ⟨et, ⟨et, trivial⟩⟩⟩) (Calls.mono (c_ref04_Compare (Dj F c7) w9 hI.lt t1 a1 b1 trivial r4 hx7) ?_)
     rintro _ w11 ⟨rfl, hx8, hl4⟩
     refine ⟨_, rfl, ?_⟩
     replace hI := (hI.ext hx8)
     refine sq (y_gtr rfl et ev_const) ?_
     refine sm ?_
     refine sq (y_eql rfl et ev_const) ?_
     refine sq (y_eqb rfl Tryz.underlying4 et et) ?_
     refine nk ?_
     refine c_cond (b := (decide (0 < r4)) == (decide (op1 = 9))) et (fun hb => ?_) (fun hb => ?_)
     ·replace h := ite_t hb h
      refine sr ?_
      refine sq (y_loadN (l := [(vi b1.N), (vi b1.D)]) rfl et Tryz.underlying36 rfl size_36 (hI.kblk (l := [(vi b1.N), (vi b1.D)]) .z rfl).1) ?_
      refine l_store (new := [(vi b1.N), (vi b1.D)]) (cs' := #[(vi b1.N), (vi b1.D)]) hI .z gn rfl rfl et et rfl size_36 rfl rfl rfl ?_
      clear hI; intro c11 w12 hI
      refine sac ?_
      refine nk ?_
      refine c_ret ?_
      obtain rfl := some_inj h
      exact q_ret (vs := [(Value.agg #[(vi b1.N), (vi b1.D)]), (vi 0)]) Tryz.results48 ⟨⟨_, ev_tmp rfl rfl, load_agg (l := [(vi b1.N), (vi b1.D)]) Tryz.underlying36 rfl size_36 (CellsAt.of_blk (hI.blk .z) rfl)⟩, ⟨ev_tmp rfl rfl, trivial⟩⟩ ⟨rfl, hI.ext0, hI.fin trivial⟩
     ·replace h := ite_f hb h
      refine c_skip ?_
      refine k_same ?_
      refine sr ?_
      refine sq (y_loadN (l := [(vi a1.N), (vi a1.D)]) rfl et Tryz.underlying36 rfl size_36 (hI.kblk (l := [(vi a1.N), (vi a1.D)]) (.s .z) rfl).1) ?_
      refine l_store (new := [(vi a1.N), (vi a1.D)]) (cs' := #[(vi a1.N), (vi a1.D)]) hI .z gn rfl rfl et et rfl size_36 rfl rfl rfl ?_
      clear hI; intro c12 w13 hI
      refine sac ?_
      refine nk ?_
      refine c_ret ?_
      obtain rfl := some_inj h
      exact q_ret (vs := [(Value.agg #[(vi a1.N), (vi a1.D)]), (vi 0)]) Tryz.results48 ⟨⟨_, ev_tmp rfl rfl, load_agg (l := [(vi a1.N), (vi a1.D)]) Tryz.underlying36 rfl size_36 (CellsAt.of_blk (hI.blk .z) rfl)⟩, ⟨ev_tmp rfl rfl, trivial⟩⟩ ⟨rfl, hI.ext0, hI.fin trivial⟩
    ·replace h := ite_f hb h
     refine c_skip ?_
     refine k_same ?_
     refine c_seq ?_
     refine sr ?_
     refine sq (y_fieldAddr rfl et Tryz.underlying23 rfl size_3 rfl) ?_
     refine sq (y_load1 (v := (vi t1.Kind)) rfl et Tryz.underlying3 rfl (hI.kblk (l := [(vi t1.Kind)]) (.s (.s .z)) rfl).1) ?_
     refine sq (y_eql rfl et ev_const) ?_
     refine nk ?_
     refine c_cond (b := decide (t1.Kind = 2)) et (fun hb => ?_) (fun hb => ?_)
     ·replace h := ite_t hb h
      refine sr ?_
      refine sm ?_
      refine sq (y_loadN (l := [(vi t1.Kind), (vi t1.Bits), (vi t1.Frac), (vi t1.Round), (vi t1.Over)]) rfl et Tryz.underlying23 rfl size_23 (hI.kblk (l := [(vi t1.Kind), (vi t1.Bits), (vi t1.Frac), (vi t1.Round), (vi t1.Over)]) (.s (.s .z)) rfl).1) ?_
      refine sq (y_fieldAddr rfl et Tryz.underlying36 rfl size_2 rfl) ?_
      refine sq (y_load1 (v := (vi a1.N)) rfl et Tryz.underlying2 rfl (hI.kblk (l := [(vi a1.N)]) (.s .z) rfl).1) ?_
      refine sq (y_fieldAddr rfl et Tryz.underlying36 rfl size_2 rfl) ?_
      refine sq (y_load1 (v := (vi b1.N)) rfl et Tryz.underlying2 rfl (hI.kblk (l := [(vi b1.N)]) .z rfl).1) ?_
      obtain ⟨r5, hx9, h⟩ := bnd_some h
      refine s_call gn rfl (r_callF (vs := [(vi op1), (Value.agg #[(vi t1.Kind), (vi t1.Bits), (vi t1.Frac), (vi t1.Round), (vi t1.Over)]), (vi a1.N), (vi b1.N)]) rfl ok_81 ⟨et, ⟨et, ⟨et, ⟨et, trivial⟩⟩⟩⟩) (Calls.mono (c_ref04_fix (Dj F c7) w9 hI.lt op1 t1 a1.N b1.N trivial r5 hx9) ?_)
      rintro _ w14 ⟨rfl, hx10, hl5⟩
      refine ⟨_, rfl, ?_⟩
      replace hI := (hI.ext hx10)
      refine sq (y_extract rfl et rfl) ?_
      refine sq (y_extract rfl et rfl) ?_
      refine l_store (new := [(vi r5.1.N), (vi r5.1.D)]) (cs' := #[(vi r5.1.N), (vi r5.1.D)]) hI .z gn rfl rfl et et rfl size_36 rfl rfl rfl ?_
      clear hI; intro c13 w15 hI
      refine sa ?_
      refine nk ?_
      refine c_ret ?_
      obtain rfl := some_inj h
      exact q_ret (vs := [(Value.agg #[(vi r5.1.N), (vi r5.1.D)]), (vi r5.2)]) Tryz.results48 ⟨⟨_, ev_tmp rfl rfl, load_agg (l := [(vi r5.1.N), (vi r5.1.D)]) Tryz.underlying36 rfl size_36 (CellsAt.of_blk (hI.blk .z) rfl)⟩, ⟨ev_tmp rfl rfl, trivial⟩⟩ ⟨rfl, hI.ext0, hI.fin trivial⟩
     ·replace h := ite_f hb h
      refine c_skip ?_
      refine k_same ?_
      refine c_seq ?_
      refine sr ?_
      refine sq (y_fieldAddr rfl et Tryz.underlying23 rfl size_3 rfl) ?_
      refine sq (y_load1 (v := (vi t1.Kind)) rfl et Tryz.underlying3 rfl (hI.kblk (l := [(vi t1.Kind)]) (.s (.s .z)) rfl).1) ?_
      refine sq (y_eql rfl et ev_const) ?_
      refine nk ?_
      refine c_cond (b := decide (t1.Kind = 3)) et (fun hb => ?_) (fun hb => ?_)
      ·replace h := ite_t hb h
       refine sr ?_
       refine sm ?_
       refine sq (y_fieldAddr rfl et Tryz.underlying36 rfl size_2 rfl) ?_
       refine sq (y_load1 (v := (vi a1.N)) rfl et Tryz.underlying2 rfl (hI.kblk (l := [(vi a1.N)]) (.s .z) rfl).1) ?_
       refine sq (y_fieldAddr rfl et Tryz.underlying36 rfl size_2 rfl) ?_
       refine sq (y_load1 (v := (vi b1.N)) rfl et Tryz.underlying2 rfl (hI.kblk (l := [(vi b1.N)]) .z rfl).1) ?_
       obtain ⟨r6, hx11, h⟩ := bnd_some h
       refine s_call gn rfl (r_callF (vs := [(vi op1), (vi a1.N), (vi b1.N)]) rfl ok_82 ⟨et, ⟨et, ⟨et, trivial⟩⟩⟩) (Calls.mono (c_ref04_whole (Dj F c7) w9 hI.lt op1 a1.N b1.N trivial r6 hx11) ?_)
       rintro _ w16 ⟨rfl, hx12, hl6⟩
       refine ⟨_, rfl, ?_⟩
       replace hI := (hI.ext hx12)
       refine sq (y_extract rfl et rfl) ?_
       refine sq (y_extract rfl et rfl) ?_
       refine l_store (new := [(vi r6.1.N), (vi r6.1.D)]) (cs' := #[(vi r6.1.N), (vi r6.1.D)]) hI .z gn rfl rfl et et rfl size_36 rfl rfl rfl ?_
       clear hI; intro c14 w17 hI
       refine sa ?_
       refine s_nil ?_
       refine k_next (e := [(8, (vp b5 0)), (9, (vi r6.2))]) ⟨rfl, rfl, trivial⟩ ?_
       refine c_ret ?_
       obtain rfl := some_inj h
       exact q_ret (vs := [(Value.agg #[(vi r6.1.N), (vi r6.1.D)]), (vi r6.2)]) Tryz.results48 ⟨⟨_, ev_tmp rfl rfl, load_agg (l := [(vi r6.1.N), (vi r6.1.D)]) Tryz.underlying36 rfl size_36 (CellsAt.of_blk (hI.blk .z) rfl)⟩, ⟨ev_tmp rfl rfl, trivial⟩⟩ ⟨rfl, hI.ext0, hI.fin trivial⟩
      ·replace h := ite_f hb h
       refine c_skip ?_
       refine k_same ?_
       refine c_seq ?_
       refine sr ?_
       refine sm ?_
       refine nk ?_
       refine c_block ?_
       refine sr ?_
       refine sq (y_eql rfl et ev_const) ?_
       refine sa ?_
       refine nk ?_
       refine c_cond (b := decide (op1 = 4)) et (fun hb => ?_) (fun hb => ?_)
       ·replace h := ite_t hb h
        refine sr ?_
        refine sq (y_loadN (l := [(vi a1.N), (vi a1.D)]) rfl et Tryz.underlying36 rfl size_36 (hI.kblk (l := [(vi a1.N), (vi a1.D)]) (.s .z) rfl).1) ?_
        refine sq (y_loadN (l := [(vi b1.N), (vi b1.D)]) rfl et Tryz.underlying36 rfl size_36 (hI.kblk (l := [(vi b1.N), (vi b1.D)]) .z rfl).1) ?_
        obtain ⟨r7, hx13, h⟩ := bnd_some h
        refine s_call gn rfl (r_callF (vs := [(Value.agg #[(vi a1.N), (vi a1.D)]), (Value.agg #[(vi b1.N), (vi b1.D)])]) rfl ok_83 ⟨et, ⟨et, trivial⟩⟩) (Calls.mono (c_ref01_Add (Dj F c7) w9 hI.lt a1 b1 trivial r7 hx13) ?_)
        rintro _ w18 ⟨rfl, hx14, hl7⟩
        refine ⟨_, rfl, ?_⟩
        replace hI := (hI.ext hx14)
        refine sq (y_extract rfl et rfl) ?_
        refine sq (y_extract rfl et rfl) ?_
        refine l_store (new := [(vi r7.1.N), (vi r7.1.D)]) (cs' := #[(vi r7.1.N), (vi r7.1.D)]) hI .z gn rfl rfl et et rfl size_36 rfl rfl rfl ?_
        clear hI; intro c15 w19 hI
        refine sa ?_
        refine s_nil ?_
        refine k_next (e := [(8, (vp b5 0)), (9, (vi r7.2))]) ⟨rfl, rfl, trivial⟩ ?_
        refine c_ret ?_
        obtain rfl := some_inj h
        exact q_ret (vs := [(Value.agg #[(vi r7.1.N), (vi r7.1.D)]), (vi r7.2)]) Tryz.results48 ⟨⟨_, ev_tmp rfl rfl, load_agg (l := [(vi r7.1.N), (vi r7.1.D)]) Tryz.underlying36 rfl size_36 (CellsAt.of_blk (hI.blk .z) rfl)⟩, ⟨ev_tmp rfl rfl, trivial⟩⟩ ⟨rfl, hI.ext0, hI.fin trivial⟩
       ·replace h := ite_f hb h
        refine sr ?_
        refine sq (y_eql rfl et ev_const) ?_
        refine sa ?_
        refine nk ?_
        refine c_cond (b := decide (op1 = 5)) et (fun hb => ?_) (fun hb => ?_)
        ·replace h := ite_t hb h
         refine sr ?_
         refine sq (y_loadN (l := [(vi a1.N), (vi a1.D)]) rfl et Tryz.underlying36 rfl size_36 (hI.kblk (l := [(vi a1.N), (vi a1.D)]) (.s .z) rfl).1) ?_
         refine sq (y_loadN (l := [(vi b1.N), (vi b1.D)]) rfl et Tryz.underlying36 rfl size_36 (hI.kblk (l := [(vi b1.N), (vi b1.D)]) .z rfl).1) ?_
         obtain ⟨r8, hx15, h⟩ := bnd_some h
         refine s_call gn rfl (r_callF (vs := [(Value.agg #[(vi a1.N), (vi a1.D)]), (Value.agg #[(vi b1.N), (vi b1.D)])]) rfl ok_84 ⟨et, ⟨et, trivial⟩⟩) (Calls.mono (c_ref01_Sub (Dj F c7) w9 hI.lt a1 b1 trivial r8 hx15) ?_)
         rintro _ w20 ⟨rfl, hx16, hl8⟩
         refine ⟨_, rfl, ?_⟩
         replace hI := (hI.ext hx16)
         refine sq (y_extract rfl et rfl) ?_
         refine sq (y_extract rfl et rfl) ?_
         refine l_store (new := [(vi r8.1.N), (vi r8.1.D)]) (cs' := #[(vi r8.1.N), (vi r8.1.D)]) hI .z gn rfl rfl et et rfl size_36 rfl rfl rfl ?_
         clear hI; intro c16 w21 hI
         refine sa ?_
         refine s_nil ?_
         refine k_next (e := [(8, (vp b5 0)), (9, (vi r8.2))]) ⟨rfl, rfl, trivial⟩ ?_
         refine c_ret ?_
         obtain rfl := some_inj h
         exact q_ret (vs := [(Value.agg #[(vi r8.1.N), (vi r8.1.D)]), (vi r8.2)]) Tryz.results48 ⟨⟨_, ev_tmp rfl rfl, load_agg (l := [(vi r8.1.N), (vi r8.1.D)]) Tryz.underlying36 rfl size_36 (CellsAt.of_blk (hI.blk .z) rfl)⟩, ⟨ev_tmp rfl rfl, trivial⟩⟩ ⟨rfl, hI.ext0, hI.fin trivial⟩
        ·replace h := ite_f hb h
         refine sr ?_
         refine sq (y_eql rfl et ev_const) ?_
         refine sa ?_
         refine nk ?_
         refine c_cond (b := decide (op1 = 6)) et (fun hb => ?_) (fun hb => ?_)
         ·replace h := ite_t hb h
          refine sr ?_
          refine sq (y_loadN (l := [(vi a1.N), (vi a1.D)]) rfl et Tryz.underlying36 rfl size_36 (hI.kblk (l := [(vi a1.N), (vi a1.D)]) (.s .z) rfl).1) ?_
          refine sq (y_loadN (l := [(vi b1.N), (vi b1.D)]) rfl et Tryz.underlying36 rfl size_36 (hI.kblk (l := [(vi b1.N), (vi b1.D)]) .z rfl).1) ?_
          obtain ⟨r9, hx17, h⟩ := bnd_some h
          refine s_call gn rfl (r_callF (vs := [(Value.agg #[(vi a1.N), (vi a1.D)]), (Value.agg #[(vi b1.N), (vi b1.D)])]) rfl ok_85 ⟨et, ⟨et, trivial⟩⟩) (Calls.mono (c_ref01_Mul (Dj F c7) w9 hI.lt a1 b1 trivial r9 hx17) ?_)
          rintro _ w22 ⟨rfl, hx18, hl9⟩
          refine ⟨_, rfl, ?_⟩
          replace hI := (hI.ext hx18)
          refine sq (y_extract rfl et rfl) ?_
          refine sq (y_extract rfl et rfl) ?_
          refine l_store (new := [(vi r9.1.N), (vi r9.1.D)]) (cs' := #[(vi r9.1.N), (vi r9.1.D)]) hI .z gn rfl rfl et et rfl size_36 rfl rfl rfl ?_
          clear hI; intro c17 w23 hI
          refine sa ?_
          refine s_nil ?_
          refine k_next (e := [(8, (vp b5 0)), (9, (vi r9.2))]) ⟨rfl, rfl, trivial⟩ ?_
          refine c_ret ?_
          obtain rfl := some_inj h
          exact q_ret (vs := [(Value.agg #[(vi r9.1.N), (vi r9.1.D)]), (vi r9.2)]) Tryz.results48 ⟨⟨_, ev_tmp rfl rfl, load_agg (l := [(vi r9.1.N), (vi r9.1.D)]) Tryz.underlying36 rfl size_36 (CellsAt.of_blk (hI.blk .z) rfl)⟩, ⟨ev_tmp rfl rfl, trivial⟩⟩ ⟨rfl, hI.ext0, hI.fin trivial⟩
         ·replace h := ite_f hb h
          refine sr ?_
          refine sq (y_eql rfl et ev_const) ?_
          refine sa ?_
          refine nk ?_
          refine c_cond (b := decide (op1 = 7)) et (fun hb => ?_) (fun hb => ?_)
          ·replace h := ite_t hb h
           refine sr ?_
           refine sq (y_loadN (l := [(vi a1.N), (vi a1.D)]) rfl et Tryz.underlying36 rfl size_36 (hI.kblk (l := [(vi a1.N), (vi a1.D)]) (.s .z) rfl).1) ?_
           refine sq (y_loadN (l := [(vi b1.N), (vi b1.D)]) rfl et Tryz.underlying36 rfl size_36 (hI.kblk (l := [(vi b1.N), (vi b1.D)]) .z rfl).1) ?_
           obtain ⟨r10, hx19, h⟩ := bnd_some h
           refine s_call gn rfl (r_callF (vs := [(Value.agg #[(vi a1.N), (vi a1.D)]), (Value.agg #[(vi b1.N), (vi b1.D)])]) rfl ok_86 ⟨et, ⟨et, trivial⟩⟩) (Calls.mono (c_ref01_Div (Dj F c7) w9 hI.lt a1 b1 trivial r10 hx19) ?_)
           rintro _ w24 ⟨rfl, hx20, hl10⟩
           refine ⟨_, rfl, ?_⟩
           replace hI := (hI.ext hx20)
           refine sq (y_extract rfl et rfl) ?_
           refine sq (y_extract rfl et rfl) ?_
           refine l_store (new := [(vi r10.1.N), (vi r10.1.D)]) (cs' := #[(vi r10.1.N), (vi r10.1.D)]) hI .z gn rfl rfl et et rfl size_36 rfl rfl rfl ?_
           clear hI; intro c18 w25 hI
           refine sa ?_
           refine s_nil ?_
           refine k_next (e := [(8, (vp b5 0)), (9, (vi r10.2))]) ⟨rfl, rfl, trivial⟩ ?_
           refine c_ret ?_
           obtain rfl := some_inj h
           exact q_ret (vs := [(Value.agg #[(vi r10.1.N), (vi r10.1.D)]), (vi r10.2)]) Tryz.results48 ⟨⟨_, ev_tmp rfl rfl, load_agg (l := [(vi r10.1.N), (vi r10.1.D)]) Tryz.underlying36 rfl size_36 (CellsAt.of_blk (hI.blk .z) rfl)⟩, ⟨ev_tmp rfl rfl, trivial⟩⟩ ⟨rfl, hI.ext0, hI.fin trivial⟩
          ·replace h := ite_f hb h
           refine c_skip ?_
           refine k_next (e := [(6, (vp b3 0)), (8, (vp b5 0))]) ⟨rfl, rfl, trivial⟩ ?_
           refine sr ?_
           refine sq (y_loadN (l := [(vi a1.N), (vi a1.D)]) rfl et Tryz.underlying36 rfl size_36 (hI.kblk (l := [(vi a1.N), (vi a1.D)]) (.s .z) rfl).1) ?_
           obtain ⟨r11, hx21, h⟩ := bnd_some h
           refine s_call gn rfl (r_callF (vs := [(Value.agg #[(vi a1.N), (vi a1.D)])]) rfl ok_87 ⟨et, trivial⟩) (Calls.mono (c_ref01_Neg (Dj F c7) w9 hI.lt a1 trivial r11 hx21) ?_)
           rintro _ w26 ⟨rfl, hx22, hl11⟩
           refine ⟨_, rfl, ?_⟩
           replace hI := (hI.ext hx22)
           refine l_store (new := [(vi r11.N), (vi r11.D)]) (cs' := #[(vi r11.N), (vi r11.D)]) hI .z gn rfl rfl et et rfl size_36 rfl rfl rfl ?_
           clear hI; intro c19 w27 hI
           refine sac ?_
           refine nk ?_
           refine c_ret ?_
           obtain rfl := some_inj h
           exact q_ret (vs := [(Value.agg #[(vi r11.N), (vi r11.D)]), (vi 0)]) Tryz.results48 ⟨⟨_, ev_tmp rfl rfl, load_agg (l := [(vi r11.N), (vi r11.D)]) Tryz.underlying36 rfl size_36 (CellsAt.of_blk (hI.blk .z) rfl)⟩, ⟨ev_tmp rfl rfl, trivial⟩⟩ ⟨rfl, hI.ext0, hI.fin trivial⟩

set_option maxRecDepth 100000 in
set_option maxHeartbeats 4000000 in
theorem c_base_Ints (F : NP) (w0 : World) (hF : ∀ k, F k → k < w0.heap.size) (a1 : List Int) (b1 : List Int) (a2 : Option Addr) (c1 : Nat) (a3 : Option Addr) (c2 : Nat) (hc : AllCl [Cl.sl (cInt .i64) a2 c1 a1, Cl.sl (cInt .i64) a3 c2 b1] F w0) (r : Bool)
  (h : m_base_Ints a1 b1 = some r) :
  Calls Tryz.prog 50 #[(vs a2 a1.length c1), (vs a3 b1.length c2)] w0 fun e w => e = .returned (vb r) ∧ Ext w0 w ∧ AllCl [] F w := by
 refine enterK (l := [(vs a2 a1.length c1), (vs a3 b1.length c2)]) Tryz.func50 rfl Tryz.ntmps50 rfl ?_
 have hI := Bun.start hF hc
 clear hc
 rw [m_base_Ints] at h
 refine sr ?_
 refine sac ?_
 refine nk ?_
 refine c_seq ?_
 refine sr ?_
 refine sm ?_
 refine sq (y_lenl rfl Tryz.underlying24 et) ?_
 refine sm ?_
 refine sq (y_lenl rfl Tryz.underlying24 et) ?_
 refine sq (y_neq rfl et et) ?_
 refine nk ?_
 refine c_cond (b := !decide ((a1.length : Int) = (b1.length : Int))) et (fun hb => ?_) (fun hb => ?_)
 ·replace h := ite_t hb h
  refine sr ?_
  refine sac ?_
  refine nk ?_
  refine c_ret ?_
  obtain rfl := some_inj h
  exact q_ret (vs := [(vb false)]) Tryz.results50 ⟨ev_tmp rfl rfl, trivial⟩ ⟨rfl, hI.ext0, hI.fin trivial⟩
 ·replace h := ite_f hb h
  refine c_skip ?_
  refine k_same ?_
  refine c_seq ?_
  refine sr ?_
  refine sac ?_
  refine nk ?_
  refine c_block ?_
  refine c_loop (α := Nat × Int) (fun x => fun w => ∃ C, Bun noM F w0 C w [] [Cl.sl (cInt .i64) a2 c1 a1, Cl.sl (cInt .i64) a3 c2 b1] ∧ m_base_Ints_l1 a1 b1 (x.1) (x.2) = some r) (fun x _ => x.1) (fun x => [(0, (vs a2 a1.length c1)), (1, (vs a3 b1.length c2)), (5, (vi (x.2)))]) (fu, 0) ⟨_, hI.arr .n ⟨.z, (.s .z), trivial⟩, h⟩ ⟨rfl, rfl, rfl, trivial⟩ ?_
  clear h hI; rintro ⟨fuel1, i1⟩ w1 ⟨c3, hI, h⟩
  dsimp only at hI h
  rcases fuel1 with _ | fuel1
  ·rw [m_base_Ints_l1] at h; cases h
  rw [m_base_Ints_l1] at h
  refine c_sub (e := [(0, (vs a2 a1.length c1)), (1, (vs a3 b1.length c2)), (5, (vi i1))]) ⟨rfl, rfl, rfl, trivial⟩ ?_
  refine c_seq ?_
  refine sr ?_
  refine sm ?_
  refine sm ?_
  refine sq (y_lenl rfl Tryz.underlying24 et) ?_
  refine sq (y_lss rfl et et) ?_
  refine nk ?_
  refine c_cond (b := decide (i1 < (a1.length : Int))) et (fun hb => ?_) (fun hb => ?_)
  ·replace h := ite_t hb h
   refine c_skip ?_
   refine k_same ?_
   refine c_seq ?_
   refine c_block ?_
   refine c_seq ?_
   refine c_drawX [] false (.c (0, .q) (.c (1, .q) (.c (2, .q) (.c (3, .q) (.c (4, .q) (.c (5, .q) (.c (6, .q) (.c (7, .q) (.c (8, .q) .n))))))))) hI (by kernel_rfl) (by kernel_rfl) ?_
   clear hI; intro w2 hI
   refine a_q rfl gn rfl (fun w' => (y_move rfl et)) ?_
   refine a_q rfl gn rfl (fun w' => (y_move rfl et)) ?_
   obtain ⟨e1, hx1, h⟩ := bnd_some h
   obtain ⟨ad1, cs1, hA1, hr1, hq1⟩ := hI.clat .z hx1
   obtain rfl : cs1 = [(vi e1)] := hr1
   refine a_q rfl gn rfl (fun w' => (y_indexAddr rfl Tryz.underlying24 size_3 et et (lat_bd hx1) hA1)) ?_
   refine a_read rfl gn rfl (fun w' hw' => (y_load1 (v := (vi e1)) rfl et Tryz.underlying3 rfl (hq1.at_ (SX.any rfl hw')))) (by kernel_rfl) ?_
   refine a_q rfl gn rfl (fun w' => (y_move rfl et)) ?_
   refine a_q rfl gn rfl (fun w' => (y_move rfl et)) ?_
   obtain ⟨e2, hx2, h⟩ := bnd_some h
   obtain ⟨ad2, cs2, hA2, hr2, hq2⟩ := hI.clat (.s .z) hx2
   obtain rfl : cs2 = [(vi e2)] := hr2
   refine a_q rfl gn rfl (fun w' => (y_indexAddr rfl Tryz.underlying24 size_3 et et (lat_bd hx2) hA2)) ?_
   refine a_read rfl gn rfl (fun w' hw' => (y_load1 (v := (vi e2)) rfl et Tryz.underlying3 rfl (hq2.at_ (SX.any rfl hw')))) (by kernel_rfl) ?_
   refine a_q rfl gn rfl (fun w' => (y_neq rfl et et)) ?_
   refine a_nil ?_
   refine k_same ?_
   refine c_cond (b := !decide (e1 = e2)) et (fun hb => ?_) (fun hb => ?_)
   ·replace h := ite_t hb h
    refine sr ?_
    refine sac ?_
    refine nk ?_
    refine c_ret ?_
    obtain rfl := some_inj h
    exact q_ret (vs := [(vb false)]) Tryz.results50 ⟨ev_tmp rfl rfl, trivial⟩ ⟨rfl, hI.ext0, hI.fin trivial⟩
   ·replace h := ite_f hb h
    refine c_skip ?_
    refine k_same ?_
    refine c_region rfl ?_
    refine sm ?_
    refine sq (y_add rfl et ev_const) ?_
    refine sa ?_
    refine s_nil ?_
    exact k_loop (fuel1, wi64 (i1 + 1)) ⟨rfl, rfl, rfl, trivial⟩ ⟨_, hI.arr .n ⟨.z, (.s .z), trivial⟩, h⟩ (Nat.lt_succ_self _)
  ·replace h := ite_f hb h
   refine c_exit ?_
   refine k_in ?_
   refine k_same ?_
   refine sr ?_
   refine sac ?_
   refine nk ?_
   refine c_ret ?_
   obtain rfl := some_inj h
   exact q_ret (vs := [(vb true)]) Tryz.results50 ⟨ev_tmp rfl rfl, trivial⟩ ⟨rfl, hI.ext0, hI.fin trivial⟩

set_option maxRecDepth 100000 in
set_option maxHeartbeats 4000000 in
theorem c_base_Vals (F : NP) (w0 : World) (hF : ∀ k, F k → k < w0.heap.size) (a1 : List GVal) (b1 : List GVal) (a2 : Option Addr) (c1 : Nat) (a3 : Option Addr) (c2 : Nat) (hc : AllCl [Cl.sl cGVal a2 c1 a1, Cl.sl cGVal a3 c2 b1] F w0) (r : Bool)
  (h : m_base_Vals a1 b1 = some r) :
  Calls Tryz.prog 51 #[(vs a2 a1.length c1), (vs a3 b1.length c2)] w0 fun e w => e = .returned (vb r) ∧ Ext w0 w ∧ AllCl [] F w := by
 refine enterK (l := [(vs a2 a1.length c1), (vs a3 b1.length c2)]) Tryz.func51 rfl Tryz.ntmps51 rfl ?_
 have hI := Bun.start hF hc
 clear hc
 rw [m_base_Vals] at h
 refine sr ?_
 refine sac ?_
 refine nk ?_
 refine c_seq ?_
 refine sr ?_
 refine sm ?_
 refine sq (y_lenl rfl Tryz.underlying25 et) ?_
 refine sm ?_
 refine sq (y_lenl rfl Tryz.underlying25 et) ?_
 refine sq (y_neq rfl et et) ?_
 refine nk ?_
 refine c_cond (b := !decide ((a1.length : Int) = (b1.length : Int))) et (fun hb => ?_) (fun hb => ?_)
 ·replace h := ite_t hb h
  refine sr ?_
  refine sac ?_
  refine nk ?_
  refine c_ret ?_
  obtain rfl := some_inj h
  exact q_ret (vs := [(vb false)]) Tryz.results51 ⟨ev_tmp rfl rfl, trivial⟩ ⟨rfl, hI.ext0, hI.fin trivial⟩
 ·replace h := ite_f hb h
  refine c_skip ?_
  refine k_same ?_
  refine c_seq ?_
  refine sr ?_
  refine sac ?_
  refine nk ?_
  refine c_block ?_
  refine c_loop (α := Nat × Int) (fun x => fun w => ∃ C, Bun noM F w0 C w [] [Cl.sl cGVal a2 c1 a1, Cl.sl cGVal a3 c2 b1] ∧ m_base_Vals_l1 a1 b1 (x.1) (x.2) = some r) (fun x _ => x.1) (fun x => [(0, (vs a2 a1.length c1)), (1, (vs a3 b1.length c2)), (5, (vi (x.2)))]) (fu, 0) ⟨_, hI.arr .n ⟨.z, (.s .z), trivial⟩, h⟩ ⟨rfl, rfl, rfl, trivial⟩ ?_
  clear h hI; rintro ⟨fuel1, i1⟩ w1 ⟨c3, hI, h⟩
  dsimp only at hI h
  rcases fuel1 with _ | fuel1
  ·rw [m_base_Vals_l1] at h; cases h
  rw [m_base_Vals_l1] at h
  refine c_sub (e := [(0, (vs a2 a1.length c1)), (1, (vs a3 b1.length c2)), (5, (vi i1))]) ⟨rfl, rfl, rfl, trivial⟩ ?_
  refine c_seq ?_
  refine sr ?_
  refine sm ?_
  refine sm ?_
  refine sq (y_lenl rfl Tryz.underlying25 et) ?_
  refine sq (y_lss rfl et et) ?_
  refine nk ?_
  refine c_cond (b := decide (i1 < (a1.length : Int))) et (fun hb => ?_) (fun hb => ?_)
  ·replace h := ite_t hb h
   refine c_skip ?_
   refine k_same ?_
   refine c_seq ?_
   refine c_block ?_
   refine c_seq ?_
   refine c_drawX [] false (.c (0, .q) (.c (1, .q) (.c (2, .q) (.c (3, .q) (.c (4, .q) (.c (5, .q) (.c (6, .q) (.c (7, .q) (.c (8, .q) .n))))))))) hI (by kernel_rfl) (by kernel_rfl) ?_
   clear hI; intro w2 hI
   refine a_q rfl gn rfl (fun w' => (y_move rfl et)) ?_
   refine a_q rfl gn rfl (fun w' => (y_move rfl et)) ?_
   obtain ⟨e1, hx1, h⟩ := bnd_some h
   obtain ⟨ad1, cs1, hA1, hr1, hq1⟩ := hI.clat .z hx1
   obtain rfl : cs1 = [(vi e1.N), (vi e1.D)] := hr1
   refine a_q rfl gn rfl (fun w' => (y_indexAddr rfl Tryz.underlying25 size_36 et et (lat_bd hx1) hA1)) ?_
   refine a_read rfl gn rfl (fun w' hw' => (y_loadN (l := [(vi e1.N), (vi e1.D)]) rfl et Tryz.underlying36 rfl size_36 (hq1.at_ (SX.any rfl hw')))) (by kernel_rfl) ?_
   refine a_q rfl gn rfl (fun w' => (y_move rfl et)) ?_
   refine a_q rfl gn rfl (fun w' => (y_move rfl et)) ?_
   obtain ⟨e2, hx2, h⟩ := bnd_some h
   obtain ⟨ad2, cs2, hA2, hr2, hq2⟩ := hI.clat (.s .z) hx2
   obtain rfl : cs2 = [(vi e2.N), (vi e2.D)] := hr2
   refine a_q rfl gn rfl (fun w' => (y_indexAddr rfl Tryz.underlying25 size_36 et et (lat_bd hx2) hA2)) ?_
   refine a_read rfl gn rfl (fun w' hw' => (y_loadN (l := [(vi e2.N), (vi e2.D)]) rfl et Tryz.underlying36 rfl size_36 (hq2.at_ (SX.any rfl hw')))) (by kernel_rfl) ?_
   refine a_q rfl gn rfl (fun w' => (y_bin rfl et et (eqstruct_36n ..) (eqguard_36 ..))) ?_
   refine a_nil ?_
   refine k_same ?_
   refine c_cond (b := !((decide (e1.N = e2.N)) && (decide (e1.D = e2.D)))) et (fun hb => ?_) (fun hb => ?_)
   ·replace h := ite_t hb h
    refine sr ?_
    refine sac ?_
    refine nk ?_
    refine c_ret ?_
    obtain rfl := some_inj h
    exact q_ret (vs := [(vb false)]) Tryz.results51 ⟨ev_tmp rfl rfl, trivial⟩ ⟨rfl, hI.ext0, hI.fin trivial⟩
   ·replace h := ite_f hb h
    refine c_skip ?_
    refine k_same ?_
    refine c_region rfl ?_
    refine sm ?_
    refine sq (y_add rfl et ev_const) ?_
    refine sa ?_
    refine s_nil ?_
    exact k_loop (fuel1, wi64 (i1 + 1)) ⟨rfl, rfl, rfl, trivial⟩ ⟨_, hI.arr .n ⟨.z, (.s .z), trivial⟩, h⟩ (Nat.lt_succ_self _)
  ·replace h := ite_f hb h
   refine c_exit ?_
   refine k_in ?_
   refine k_same ?_
   refine sr ?_
   refine sac ?_
   refine nk ?_
   refine c_ret ?_
   obtain rfl := some_inj h
   exact q_ret (vs := [(vb true)]) Tryz.results51 ⟨ev_tmp rfl rfl, trivial⟩ ⟨rfl, hI.ext0, hI.fin trivial⟩

set_option maxRecDepth 100000 in
set_option maxHeartbeats 4000000 in
theorem c_base_Tensor (F : NP) (w0 : World) (hF : ∀ k, F k → k < w0.heap.size) (a1 : GTensor) (b1 : GTensor) (a2 : Option Addr) (c1 : Nat) (a3 : Option Addr) (c2 : Nat) (a4 : Option Addr) (c3 : Nat) (a5 : Option Addr) (c4 : Nat) (hc : AllCl [Cl.sl (cInt .i64) a2 c1 a1.Dims, Cl.sl cGVal a3 c2 a1.Vals, Cl.sl (cInt .i64) a4 c3 b1.Dims, Cl.sl cGVal a5 c4 b1.Vals] F w0) (r : Bool)
  (h : m_base_Tensor a1 b1 = some r) :
  Calls Tryz.prog 16 #[(Value.agg #[(vi a1.Type_.Kind), (vi a1.Type_.Bits), (vi a1.Type_.Frac), (vi a1.Type_.Round), (vi a1.Type_.Over), (vs a2 a1.Dims.length c1), (vs a3 a1.Vals.length c2)]), (Value.agg #[(vi b1.Type_.Kind), (vi b1.Type_.Bits), (vi b1.Type_.Frac), (vi b1.Type_.Round), (vi b1.Type_.Over), (vs a4 b1.Dims.length c3), (vs a5 b1.Vals.length c4)])] w0 fun e w => e = .returned (vb r) ∧ Ext w0 w ∧ AllCl [] F w := by
 refine enterK (l := [(Value.agg #[(vi a1.Type_.Kind), (vi a1.Type_.Bits), (vi a1.Type_.Frac), (vi a1.Type_.Round), (vi a1.Type_.Over), (vs a2 a1.Dims.length c1), (vs a3 a1.Vals.length c2)]), (Value.agg #[(vi b1.Type_.Kind), (vi b1.Type_.Bits), (vi b1.Type_.Frac), (vi b1.Type_.Round), (vi b1.Type_.Over), (vs a4 b1.Dims.length c3), (vs a5 b1.Vals.length c4)])]) Tryz.func16 rfl Tryz.ntmps16 rfl ?_
 have hI := Bun.start hF hc
 clear hc
 rw [m_base_Tensor] at h
 refine sr ?_
 refine l_box (v := (Value.agg #[(vi a1.Type_.Kind), (vi a1.Type_.Bits), (vi a1.Type_.Frac), (vi a1.Type_.Round), (vi a1.Type_.Over), (vs a2 a1.Dims.length c1), (vs a3 a1.Vals.length c2)])) (cs := #[(vi a1.Type_.Kind), (vi a1.Type_.Bits), (vi a1.Type_.Frac), (vi a1.Type_.Round), (vi a1.Type_.Over), (vs a2 a1.Dims.length c1), (vs a3 a1.Vals.length c2)]) hI gn rfl rfl et rfl ?_
 clear hI; intro b2 c5 w1 hI
 obtain ⟨c6, hI⟩ := hI.relBox .z
 refine l_box (v := (Value.agg #[(vi b1.Type_.Kind), (vi b1.Type_.Bits), (vi b1.Type_.Frac), (vi b1.Type_.Round), (vi b1.Type_.Over), (vs a4 b1.Dims.length c3), (vs a5 b1.Vals.length c4)])) (cs := #[(vi b1.Type_.Kind), (vi b1.Type_.Bits), (vi b1.Type_.Frac), (vi b1.Type_.Round), (vi b1.Type_.Over), (vs a4 b1.Dims.length c3), (vs a5 b1.Vals.length c4)]) hI gn rfl rfl et rfl ?_
 clear hI; intro b3 c7 w2 hI
 obtain ⟨c8, hI⟩ := hI.relBox .z
 refine sac ?_
 refine nk ?_
 refine sr ?_
 refine sq (y_fieldAddr rfl et Tryz.underlying27 rfl size_23 rfl) ?_
 refine sq (y_loadN (l := [(vi a1.Type_.Kind), (vi a1.Type_.Bits), (vi a1.Type_.Frac), (vi a1.Type_.Round), (vi a1.Type_.Over)]) rfl et Tryz.underlying23 rfl size_23 (hI.kblk (l := [(vi a1.Type_.Kind), (vi a1.Type_.Bits), (vi a1.Type_.Frac), (vi a1.Type_.Round), (vi a1.Type_.Over)]) (.s .z) rfl).1) ?_
 refine sq (y_fieldAddr rfl et Tryz.underlying27 rfl size_23 rfl) ?_
 refine sq (y_loadN (l := [(vi b1.Type_.Kind), (vi b1.Type_.Bits), (vi b1.Type_.Frac), (vi b1.Type_.Round), (vi b1.Type_.Over)]) rfl et Tryz.underlying23 rfl size_23 (hI.kblk (l := [(vi b1.Type_.Kind), (vi b1.Type_.Bits), (vi b1.Type_.Frac), (vi b1.Type_.Round), (vi b1.Type_.Over)]) .z rfl).1) ?_
 refine sq (y_bin rfl et et (eqstruct_23 ..) (eqguard_23 ..)) ?_
 refine sm ?_
 refine s_gval (g_true rfl rfl rfl rfl) rfl (fun hc => (y_fieldAddr rfl et Tryz.underlying27 rfl size_24 rfl)) ?_
 refine s_gval (g_true rfl rfl rfl rfl) rfl (fun hc => (y_load1 (v := (vs a2 a1.Dims.length c1)) rfl (ev_gv et hc) Tryz.underlying24 rfl (hI.kblk (l := [(vs a2 a1.Dims.length c1)]) (.s .z) rfl).1)) ?_
 refine s_gval (g_true rfl rfl rfl rfl) rfl (fun hc => (y_fieldAddr rfl et Tryz.underlying27 rfl size_24 rfl)) ?_
 refine s_gval (g_true rfl rfl rfl rfl) rfl (fun hc => (y_load1 (v := (vs a4 b1.Dims.length c3)) rfl (ev_gv et hc) Tryz.underlying24 rfl (hI.kblk (l := [(vs a4 b1.Dims.length c3)]) .z rfl).1)) ?_
 obtain ⟨r1, hx1, h⟩ := bnd_some h
 replace hx1 := gd_some hx1
 refine s_gcallU (v := (vb r1)) (g_true rfl rfl rfl rfl) rfl (fun hc => (r_callF (vs := [(vs a2 a1.Dims.length c1), (vs a4 b1.Dims.length c3)]) rfl ok_50 ⟨(ev_gv et hc), ⟨(ev_gv et hc), trivial⟩⟩)) (fun hc => (c_base_Ints (Dj F c8) w2 hI.lt a1.Dims b1.Dims a2 c1 a4 c3 ⟨(hI.get (.s (.s .z))), (hI.get (.s (.s (.s (.s .z))))), trivial⟩ r1 (hx1 hc)).mono fun _ _ k => ⟨k.1, k.2.1⟩) ?_
 intro w3 hx2; replace hI := hI.ext hx2
 refine sq (y_and rfl et et) ?_
 refine sm ?_
 refine s_gval (g_true rfl rfl rfl rfl) rfl (fun hc => (y_fieldAddr rfl et Tryz.underlying27 rfl size_25 rfl)) ?_
 refine s_gval (g_true rfl rfl rfl rfl) rfl (fun hc => (y_load1 (v := (vs a3 a1.Vals.length c2)) rfl (ev_gv et hc) Tryz.underlying25 rfl (hI.kblk (l := [(vs a3 a1.Vals.length c2)]) (.s .z) rfl).1)) ?_
 refine s_gval (g_true rfl rfl rfl rfl) rfl (fun hc => (y_fieldAddr rfl et Tryz.underlying27 rfl size_25 rfl)) ?_
 refine s_gval (g_true rfl rfl rfl rfl) rfl (fun hc => (y_load1 (v := (vs a5 b1.Vals.length c4)) rfl (ev_gv et hc) Tryz.underlying25 rfl (hI.kblk (l := [(vs a5 b1.Vals.length c4)]) .z rfl).1)) ?_
 obtain ⟨r2, hx3, h⟩ := bnd_some h
 replace hx3 := gd_some hx3
 refine s_gcallU (v := (vb r2)) (g_true rfl rfl rfl rfl) rfl (fun hc => (r_callF (vs := [(vs a3 a1.Vals.length c2), (vs a5 b1.Vals.length c4)]) rfl ok_51 ⟨(ev_gv et hc), ⟨(ev_gv et hc), trivial⟩⟩)) (fun hc => (c_base_Vals (Dj F c8) w3 hI.lt a1.Vals b1.Vals a3 c2 a5 c4 ⟨(hI.get (.s (.s (.s .z)))), (hI.get (.s (.s (.s (.s (.s .z)))))), trivial⟩ r2 (hx3 hc)).mono fun _ _ k => ⟨k.1, k.2.1⟩) ?_
 intro w4 hx4; replace hI := hI.ext hx4
 refine sq (y_and rfl et et) ?_
 refine sa ?_
 refine nk ?_
 refine c_ret ?_
 obtain rfl := some_inj h
 exact q_ret (vs := [(vb ((((decide (a1.Type_.Kind = b1.Type_.Kind)) && (decide (a1.Type_.Bits = b1.Type_.Bits)) && (decide (a1.Type_.Frac = b1.Type_.Frac)) && (decide (a1.Type_.Round = b1.Type_.Round)) && (decide (a1.Type_.Over = b1.Type_.Over))) && r1) && r2))]) Tryz.results16 ⟨ev_tmp rfl rfl, trivial⟩ ⟨rfl, hI.ext0, hI.fin trivial⟩

set_option maxRecDepth 100000 in
set_option maxHeartbeats 4000000 in
theorem c_slices_Equal_int_int (F : NP) (w0 : World) (hF : ∀ k, F k → k < w0.heap.size) (s1_1 : List Int) (s2_1 : List Int) (a1 : Option Addr) (c1 : Nat) (a2 : Option Addr) (c2 : Nat) (hc : AllCl [Cl.sl (cInt .i64) a1 c1 s1_1, Cl.sl (cInt .i64) a2 c2 s2_1] F w0) (r : Bool)
  (h : m_slices_Equal_int_int s1_1 s2_1 = some r) :
  Calls Tryz.prog 97 #[(vs a1 s1_1.length c1), (vs a2 s2_1.length c2)] w0 fun e w => e = .returned (vb r) ∧ Ext w0 w ∧ AllCl [] F w := by
 refine enterK (l := [(vs a1 s1_1.length c1), (vs a2 s2_1.length c2)]) Tryz.func97 rfl Tryz.ntmps97 rfl ?_
 have hI := Bun.start hF hc
 clear hc
 rw [m_slices_Equal_int_int] at h
 refine sr ?_
 refine sac ?_
 refine nk ?_
 refine c_seq ?_
 refine sr ?_
 refine sm ?_
 refine sq (y_lenl rfl Tryz.underlying24 et) ?_
 refine sm ?_
 refine sq (y_lenl rfl Tryz.underlying24 et) ?_
 refine sq (y_neq rfl et et) ?_
 refine nk ?_
 refine c_cond (b := !decide ((s1_1.length : Int) = (s2_1.length : Int))) et (fun hb => ?_) (fun hb => ?_)
 ·replace h := ite_t hb h
  refine sr ?_
  refine sac ?_
  refine nk ?_
  refine c_ret ?_
  obtain rfl := some_inj h
  exact q_ret (vs := [(vb false)]) Tryz.results97 ⟨ev_tmp rfl rfl, trivial⟩ ⟨rfl, hI.ext0, hI.fin trivial⟩
 ·replace h := ite_f hb h
  refine c_skip ?_
  refine k_same ?_
  refine c_seq ?_
  refine sr ?_
  refine sm ?_
  refine sq (y_lenl rfl Tryz.underlying24 et) ?_
  refine sq (y_move rfl ev_const) ?_
  refine nk ?_
  refine c_block ?_
  refine c_loop (α := Nat × Int) (fun x => fun w => ∃ C, Bun noM F w0 C w [] [Cl.sl (cInt .i64) a1 c1 s1_1, Cl.sl (cInt .i64) a2 c2 s2_1] ∧ m_slices_Equal_int_int_l1 s1_1 s2_1 (x.1) (x.2) = some r) (fun x _ => x.1) (fun x => [(0, (vs a1 s1_1.length c1)), (1, (vs a2 s2_1.length c2)), (12, (vi (s1_1.length : Int))), (13, (vi (x.2)))]) (fu, 0) ⟨_, hI.arr .n ⟨.z, (.s .z), trivial⟩, h⟩ ⟨rfl, rfl, rfl, rfl, trivial⟩ ?_
  clear h hI; rintro ⟨fuel1, i1⟩ w1 ⟨c3, hI, h⟩
  dsimp only at hI h
  rcases fuel1 with _ | fuel1
  ·rw [m_slices_Equal_int_int_l1] at h; cases h
  rw [m_slices_Equal_int_int_l1] at h
  refine c_sub (e := [(0, (vs a1 s1_1.length c1)), (1, (vs a2 s2_1.length c2)), (12, (vi (s1_1.length : Int))), (13, (vi i1))]) ⟨rfl, rfl, rfl, rfl, trivial⟩ ?_
  refine sr ?_
  refine sq (y_lss rfl et et) ?_
  refine nk ?_
  refine c_seq ?_
  refine c_cond (b := decide (i1 < (s1_1.length : Int))) et (fun hb => ?_) (fun hb => ?_)
  ·replace h := ite_t hb h
   refine c_skip ?_
   refine k_same ?_
   refine c_seq ?_
   refine c_block ?_
   refine sr ?_
   refine sm ?_
   refine sa ?_
   refine nk ?_
   refine c_seq ?_
   refine c_drawX [] false (.c (0, .q) (.c (1, .q) (.c (2, .q) (.c (3, .q) (.c (4, .q) (.c (5, .q) (.c (6, .q) (.c (7, .q) (.c (8, .q) .n))))))))) hI (by kernel_rfl) (by kernel_rfl) ?_
   clear hI; intro w2 hI
   refine a_q rfl gn rfl (fun w' => (y_move rfl et)) ?_
   refine a_q rfl gn rfl (fun w' => (y_move rfl et)) ?_
   obtain ⟨e1, hx1, h⟩ := bnd_some h
   obtain ⟨ad1, cs1, hA1, hr1, hq1⟩ := hI.clat .z hx1
   obtain rfl : cs1 = [(vi e1)] := hr1
   refine a_q rfl gn rfl (fun w' => (y_indexAddr rfl Tryz.underlying24 size_3 et et (lat_bd hx1) hA1)) ?_
   refine a_read rfl gn rfl (fun w' hw' => (y_load1 (v := (vi e1)) rfl et Tryz.underlying3 rfl (hq1.at_ (SX.any rfl hw')))) (by kernel_rfl) ?_
   refine a_q rfl gn rfl (fun w' => (y_move rfl et)) ?_
   refine a_q rfl gn rfl (fun w' => (y_move rfl et)) ?_
   obtain ⟨e2, hx2, h⟩ := bnd_some h
   obtain ⟨ad2, cs2, hA2, hr2, hq2⟩ := hI.clat (.s .z) hx2
   obtain rfl : cs2 = [(vi e2)] := hr2
   refine a_q rfl gn rfl (fun w' => (y_indexAddr rfl Tryz.underlying24 size_3 et et (lat_bd hx2) hA2)) ?_
   refine a_read rfl gn rfl (fun w' hw' => (y_load1 (v := (vi e2)) rfl et Tryz.underlying3 rfl (hq2.at_ (SX.any rfl hw')))) (by kernel_rfl) ?_
   refine a_q rfl gn rfl (fun w' => (y_neq rfl et et)) ?_
   refine a_nil ?_
   refine k_same ?_
   refine c_cond (b := !decide (e1 = e2)) et (fun hb => ?_) (fun hb => ?_)
   ·replace h := ite_t hb h
    refine sr ?_
    refine sac ?_
    refine nk ?_
    refine c_ret ?_
    obtain rfl := some_inj h
    exact q_ret (vs := [(vb false)]) Tryz.results97 ⟨ev_tmp rfl rfl, trivial⟩ ⟨rfl, hI.ext0, hI.fin trivial⟩
   ·replace h := ite_f hb h
    refine c_skip ?_
    refine k_same ?_
    refine c_region rfl ?_
    refine sq (y_add rfl et ev_const) ?_
    refine sm ?_
    refine s_nil ?_
    exact k_loop (fuel1, wi64 (i1 + 1)) ⟨rfl, rfl, rfl, rfl, trivial⟩ ⟨_, hI.arr .n ⟨.z, (.s .z), trivial⟩, h⟩ (Nat.lt_succ_self _)
  ·replace h := ite_f hb h
   refine c_exit ?_
   refine k_in ?_
   refine k_same ?_
   refine sr ?_
   refine sac ?_
   refine nk ?_
   refine c_ret ?_
   obtain rfl := some_inj h
   exact q_ret (vs := [(vb true)]) Tryz.results97 ⟨ev_tmp rfl rfl, trivial⟩ ⟨rfl, hI.ext0, hI.fin trivial⟩

set_option maxRecDepth 100000 in
set_option maxHeartbeats 4000000 in
theorem c_shape_Same (F : NP) (w0 : World) (hF : ∀ k, F k → k < w0.heap.size) (a1 : List Int) (b1 : List Int) (a2 : Option Addr) (c1 : Nat) (a3 : Option Addr) (c2 : Nat) (hc : AllCl [Cl.sl (cInt .i64) a2 c1 a1, Cl.sl (cInt .i64) a3 c2 b1] F w0) (r : Bool)
  (h : m_shape_Same a1 b1 = some r) :
  Calls Tryz.prog 64 #[(vs a2 a1.length c1), (vs a3 b1.length c2)] w0 fun e w => e = .returned (vb r) ∧ Ext w0 w ∧ AllCl [] F w := by
 refine enterK (l := [(vs a2 a1.length c1), (vs a3 b1.length c2)]) Tryz.func64 rfl Tryz.ntmps64 rfl ?_
 have hI := Bun.start hF hc
 clear hc
 rw [m_shape_Same] at h
 refine sr ?_
 refine sac ?_
 refine nk ?_
 refine sr ?_
 refine sm ?_
 refine sm ?_
 obtain ⟨r1, hx1, h⟩ := bnd_some h
 refine s_call gn rfl (r_callF (vs := [(vs a2 a1.length c1), (vs a3 b1.length c2)]) rfl ok_97 ⟨et, ⟨et, trivial⟩⟩) (Calls.mono (c_slices_Equal_int_int (Dj F noM) w0 hI.lt a1 b1 a2 c1 a3 c2 ⟨(hI.get .z), (hI.get (.s .z)), trivial⟩ r1 hx1) ?_)
 rintro _ w1 ⟨rfl, hx2, hl1⟩
 refine ⟨_, rfl, ?_⟩
 replace hI := (hI.ext hx2)
 refine sa ?_
 refine nk ?_
 refine c_ret ?_
 obtain rfl := some_inj h
 exact q_ret (vs := [(vb r1)]) Tryz.results64 ⟨ev_tmp rfl rfl, trivial⟩ ⟨rfl, hI.ext0, hI.fin trivial⟩

set_option maxRecDepth 100000 in
set_option maxHeartbeats 4000000 in
theorem c_law12_apply (F : NP) (w0 : World) (hF : ∀ k, F k → k < w0.heap.size) (t1 : GType) (op1 : Int) (bad1 : Bool) (x1 : GVal) (y1 : GVal) (hc : AllCl [] F w0) (r : GVal × Int)
  (h : m_law12_apply t1 op1 bad1 x1 y1 = some r) :
  Calls Tryz.prog 36 #[(Value.agg #[(vi t1.Kind), (vi t1.Bits), (vi t1.Frac), (vi t1.Round), (vi t1.Over)]), (vi op1), (vb bad1), (Value.agg #[(vi x1.N), (vi x1.D)]), (Value.agg #[(vi y1.N), (vi y1.D)])] w0 fun e w => e = .returned (Value.tuple #[(Value.agg #[(vi r.1.N), (vi r.1.D)]), (vi r.2)]) ∧ Ext w0 w ∧ AllCl [] F w := by
 refine enterK (l := [(Value.agg #[(vi t1.Kind), (vi t1.Bits), (vi t1.Frac), (vi t1.Round), (vi t1.Over)]), (vi op1), (vb bad1), (Value.agg #[(vi x1.N), (vi x1.D)]), (Value.agg #[(vi y1.N), (vi y1.D)])]) Tryz.func36 rfl Tryz.ntmps36 rfl ?_
 have hI := Bun.start hF hc
 clear hc
 rw [m_law12_apply] at h
 refine sr ?_
 refine l_box (v := (Value.agg #[(vi t1.Kind), (vi t1.Bits), (vi t1.Frac), (vi t1.Round), (vi t1.Over)])) (cs := #[(vi t1.Kind), (vi t1.Bits), (vi t1.Frac), (vi t1.Round), (vi t1.Over)]) hI gn rfl rfl et rfl ?_
 clear hI; intro b1 c1 w1 hI
 obtain ⟨c2, hI⟩ := hI.relBox .z
 refine l_box (v := (Value.agg #[(vi x1.N), (vi x1.D)])) (cs := #[(vi x1.N), (vi x1.D)]) hI gn rfl rfl et rfl ?_
 clear hI; intro b2 c3 w2 hI
 obtain ⟨c4, hI⟩ := hI.relBox .z
 refine l_box (v := (Value.agg #[(vi y1.N), (vi y1.D)])) (cs := #[(vi y1.N), (vi y1.D)]) hI gn rfl rfl et rfl ?_
 clear hI; intro b3 c5 w3 hI
 obtain ⟨c6, hI⟩ := hI.relBox .z
 refine l_alloc (cs := #[(vi 0), (vi 0)]) hI gn rfl rfl zero_36 rfl ?_
 clear hI; intro b4 c7 w4 hI
 refine sac ?_
 refine nk ?_
 refine c_seq ?_
 refine sr ?_
 refine sm ?_
 refine nk ?_
 refine c_cond (b := bad1) et (fun hb => ?_) (fun hb => ?_)
 ·replace h := ite_t hb h
  refine sr ?_
  refine sq (y_build (vs := [(0, (vi 1))]) (cs := #[(vi 1), (vi 0)]) rfl ⟨rfl, ev_const, trivial⟩ (by kernel_rfl)) ?_
  refine l_store (new := [(vi 1), (vi 0)]) (cs' := #[(vi 1), (vi 0)]) hI .z gn rfl rfl et et rfl size_36 rfl rfl rfl ?_
  clear hI; intro c8 w5 hI
  refine sac ?_
  refine nk ?_
  refine c_ret ?_
  obtain rfl := some_inj h
  exact q_ret (vs := [(Value.agg #[(vi 1), (vi 0)]), (vi 0)]) Tryz.results36 ⟨⟨_, ev_tmp rfl rfl, load_agg (l := [(vi 1), (vi 0)]) Tryz.underlying36 rfl size_36 (CellsAt.of_blk (hI.blk .z) rfl)⟩, ⟨ev_tmp rfl rfl, trivial⟩⟩ ⟨rfl, hI.ext0, hI.fin trivial⟩
 ·replace h := ite_f hb h
  refine c_skip ?_
  refine k_same ?_
  refine sr ?_
  refine sm ?_
  refine sq (y_loadN (l := [(vi t1.Kind), (vi t1.Bits), (vi t1.Frac), (vi t1.Round), (vi t1.Over)]) rfl et Tryz.underlying23 rfl size_23 (hI.kblk (l := [(vi t1.Kind), (vi t1.Bits), (vi t1.Frac), (vi t1.Round), (vi t1.Over)]) (.s (.s .z)) rfl).1) ?_
  refine sq (y_loadN (l := [(vi x1.N), (vi x1.D)]) rfl et Tryz.underlying36 rfl size_36 (hI.kblk (l := [(vi x1.N), (vi x1.D)]) (.s .z) rfl).1) ?_
  refine sq (y_loadN (l := [(vi y1.N), (vi y1.D)]) rfl et Tryz.underlying36 rfl size_36 (hI.kblk (l := [(vi y1.N), (vi y1.D)]) .z rfl).1) ?_
  obtain ⟨r1, hx1, h⟩ := bnd_some h
  refine s_call gn rfl (r_callF (vs := [(vi op1), (Value.agg #[(vi t1.Kind), (vi t1.Bits), (vi t1.Frac), (vi t1.Round), (vi t1.Over)]), (Value.agg #[(vi x1.N), (vi x1.D)]), (Value.agg #[(vi y1.N), (vi y1.D)])]) rfl ok_48 ⟨et, ⟨et, ⟨et, ⟨et, trivial⟩⟩⟩⟩) (Calls.mono (c_ref04_Apply (Dj F c7) w4 hI.lt op1 t1 x1 y1 trivial r1 hx1) ?_)
  rintro _ w6 ⟨rfl, hx2, hl1⟩
  refine ⟨_, rfl, ?_⟩
  replace hI := (hI.ext hx2)
  refine sq (y_extract rfl et rfl) ?_
  refine sq (y_extract rfl et rfl) ?_
  refine l_store (new := [(vi r1.1.N), (vi r1.1.D)]) (cs' := #[(vi r1.1.N), (vi r1.1.D)]) hI .z gn rfl rfl et et rfl size_36 rfl rfl rfl ?_
  clear hI; intro c9 w7 hI
  refine sa ?_
  refine nk ?_
  refine c_ret ?_
  obtain rfl := some_inj h
  exact q_ret (vs := [(Value.agg #[(vi r1.1.N), (vi r1.1.D)]), (vi r1.2)]) Tryz.results36 ⟨⟨_, ev_tmp rfl rfl, load_agg (l := [(vi r1.1.N), (vi r1.1.D)]) Tryz.underlying36 rfl size_36 (CellsAt.of_blk (hI.blk .z) rfl)⟩, ⟨ev_tmp rfl rfl, trivial⟩⟩ ⟨rfl, hI.ext0, hI.fin trivial⟩

set_option maxRecDepth 100000 in
set_option maxHeartbeats 4000000 in
theorem c_ref12_Pair (F : NP) (w0 : World) (hF : ∀ k, F k → k < w0.heap.size) (a1 : GTensor) (b1 : GTensor) (a2 : Option Addr) (c1 : Nat) (a3 : Option Addr) (c2 : Nat) (a4 : Option Addr) (c3 : Nat) (a5 : Option Addr) (c4 : Nat) (hc : AllCl [Cl.sl (cInt .i64) a2 c1 a1.Dims, Cl.sl cGVal a3 c2 a1.Vals, Cl.sl (cInt .i64) a4 c3 b1.Dims, Cl.sl cGVal a5 c4 b1.Vals] F w0) (r : Int)
  (h : m_ref12_Pair a1 b1 = some r) :
  Calls Tryz.prog 70 #[(Value.agg #[(vi a1.Type_.Kind), (vi a1.Type_.Bits), (vi a1.Type_.Frac), (vi a1.Type_.Round), (vi a1.Type_.Over), (vs a2 a1.Dims.length c1), (vs a3 a1.Vals.length c2)]), (Value.agg #[(vi b1.Type_.Kind), (vi b1.Type_.Bits), (vi b1.Type_.Frac), (vi b1.Type_.Round), (vi b1.Type_.Over), (vs a4 b1.Dims.length c3), (vs a5 b1.Vals.length c4)])] w0 fun e w => e = .returned (vi r) ∧ Ext w0 w ∧ AllCl [] F w := by
 refine enterK (l := [(Value.agg #[(vi a1.Type_.Kind), (vi a1.Type_.Bits), (vi a1.Type_.Frac), (vi a1.Type_.Round), (vi a1.Type_.Over), (vs a2 a1.Dims.length c1), (vs a3 a1.Vals.length c2)]), (Value.agg #[(vi b1.Type_.Kind), (vi b1.Type_.Bits), (vi b1.Type_.Frac), (vi b1.Type_.Round), (vi b1.Type_.Over), (vs a4 b1.Dims.length c3), (vs a5 b1.Vals.length c4)])]) Tryz.func70 rfl Tryz.ntmps70 rfl ?_
 have hI := Bun.start hF hc
 clear hc
 rw [m_ref12_Pair] at h
 refine sr ?_
 refine l_box (v := (Value.agg #[(vi a1.Type_.Kind), (vi a1.Type_.Bits), (vi a1.Type_.Frac), (vi a1.Type_.Round), (vi a1.Type_.Over), (vs a2 a1.Dims.length c1), (vs a3 a1.Vals.length c2)])) (cs := #[(vi a1.Type_.Kind), (vi a1.Type_.Bits), (vi a1.Type_.Frac), (vi a1.Type_.Round), (vi a1.Type_.Over), (vs a2 a1.Dims.length c1), (vs a3 a1.Vals.length c2)]) hI gn rfl rfl et rfl ?_
 clear hI; intro b2 c5 w1 hI
 obtain ⟨c6, hI⟩ := hI.relBox .z
 refine l_box (v := (Value.agg #[(vi b1.Type_.Kind), (vi b1.Type_.Bits), (vi b1.Type_.Frac), (vi b1.Type_.Round), (vi b1.Type_.Over), (vs a4 b1.Dims.length c3), (vs a5 b1.Vals.length c4)])) (cs := #[(vi b1.Type_.Kind), (vi b1.Type_.Bits), (vi b1.Type_.Frac), (vi b1.Type_.Round), (vi b1.Type_.Over), (vs a4 b1.Dims.length c3), (vs a5 b1.Vals.length c4)]) hI gn rfl rfl et rfl ?_
 clear hI; intro b3 c7 w2 hI
 obtain ⟨c8, hI⟩ := hI.relBox .z
 refine sac ?_
 refine nk ?_
 refine c_seq ?_
 refine sr ?_
 refine sq (y_loadN (l := [(vi a1.Type_.Kind), (vi a1.Type_.Bits), (vi a1.Type_.Frac), (vi a1.Type_.Round), (vi a1.Type_.Over), (vs a2 a1.Dims.length c1), (vs a3 a1.Vals.length c2)]) rfl et Tryz.underlying27 rfl size_27 (hI.kblk (l := [(vi a1.Type_.Kind), (vi a1.Type_.Bits), (vi a1.Type_.Frac), (vi a1.Type_.Round), (vi a1.Type_.Over), (vs a2 a1.Dims.length c1), (vs a3 a1.Vals.length c2)]) (.s .z) rfl).1) ?_
 obtain ⟨r1, hx1, h⟩ := bnd_some h
 refine s_call gn rfl (r_callF (vs := [(Value.agg #[(vi a1.Type_.Kind), (vi a1.Type_.Bits), (vi a1.Type_.Frac), (vi a1.Type_.Round), (vi a1.Type_.Over), (vs a2 a1.Dims.length c1), (vs a3 a1.Vals.length c2)])]) rfl ok_26 ⟨et, trivial⟩) (Calls.mono (c_ref12_Validate (Dj F c8) w2 hI.lt a1 a2 c1 a3 c2 ⟨(hI.get (.s (.s .z))), (hI.get (.s (.s (.s .z)))), trivial⟩ r1 hx1) ?_)
 rintro _ w3 ⟨rfl, hx2, hl1⟩
 refine ⟨_, rfl, ?_⟩
 replace hI := (hI.ext hx2)
 refine sa ?_
 refine nk ?_
 refine sr ?_
 refine sm ?_
 refine sq (y_neq rfl et ev_const) ?_
 refine nk ?_
 refine c_cond (b := !decide (r1 = 0)) et (fun hb => ?_) (fun hb => ?_)
 ·replace h := ite_t hb h
  refine sr ?_
  refine sm ?_
  refine sa ?_
  refine nk ?_
  refine c_ret ?_
  obtain rfl := some_inj h
  exact q_ret (vs := [(vi r1)]) Tryz.results70 ⟨ev_tmp rfl rfl, trivial⟩ ⟨rfl, hI.ext0, hI.fin trivial⟩
 ·replace h := ite_f hb h
  refine c_skip ?_
  refine k_same ?_
  refine c_seq ?_
  refine sr ?_
  refine sq (y_loadN (l := [(vi b1.Type_.Kind), (vi b1.Type_.Bits), (vi b1.Type_.Frac), (vi b1.Type_.Round), (vi b1.Type_.Over), (vs a4 b1.Dims.length c3), (vs a5 b1.Vals.length c4)]) rfl et Tryz.underlying27 rfl size_27 (hI.kblk (l := [(vi b1.Type_.Kind), (vi b1.Type_.Bits), (vi b1.Type_.Frac), (vi b1.Type_.Round), (vi b1.Type_.Over), (vs a4 b1.Dims.length c3), (vs a5 b1.Vals.length c4)]) .z rfl).1) ?_
  obtain ⟨r2, hx3, h⟩ := bnd_some h
  refine s_call gn rfl (r_callF (vs := [(Value.agg #[(vi b1.Type_.Kind), (vi b1.Type_.Bits), (vi b1.Type_.Frac), (vi b1.Type_.Round), (vi b1.Type_.Over), (vs a4 b1.Dims.length c3), (vs a5 b1.Vals.length c4)])]) rfl ok_26 ⟨et, trivial⟩) (Calls.mono (c_ref12_Validate (Dj F c8) w3 hI.lt b1 a4 c3 a5 c4 ⟨(hI.get (.s (.s (.s (.s .z))))), (hI.get (.s (.s (.s (.s (.s .z)))))), trivial⟩ r2 hx3) ?_)
  rintro _ w4 ⟨rfl, hx4, hl2⟩
  refine ⟨_, rfl, ?_⟩
  replace hI := (hI.ext hx4)
  refine sa ?_
  refine nk ?_
  refine sr ?_
  refine sm ?_
  refine sq (y_neq rfl et ev_const) ?_
  refine nk ?_
  refine c_cond (b := !decide (r2 = 0)) et (fun hb => ?_) (fun hb => ?_)
  ·replace h := ite_t hb h
   refine sr ?_
   refine sm ?_
   refine sa ?_
   refine nk ?_
   refine c_ret ?_
   obtain rfl := some_inj h
   exact q_ret (vs := [(vi r2)]) Tryz.results70 ⟨ev_tmp rfl rfl, trivial⟩ ⟨rfl, hI.ext0, hI.fin trivial⟩
  ·replace h := ite_f hb h
   refine c_skip ?_
   refine k_same ?_
   refine c_seq ?_
   refine sr ?_
   refine sq (y_fieldAddr rfl et Tryz.underlying27 rfl size_23 rfl) ?_
   refine sq (y_loadN (l := [(vi a1.Type_.Kind), (vi a1.Type_.Bits), (vi a1.Type_.Frac), (vi a1.Type_.Round), (vi a1.Type_.Over)]) rfl et Tryz.underlying23 rfl size_23 (hI.kblk (l := [(vi a1.Type_.Kind), (vi a1.Type_.Bits), (vi a1.Type_.Frac), (vi a1.Type_.Round), (vi a1.Type_.Over)]) (.s .z) rfl).1) ?_
   refine sq (y_fieldAddr rfl et Tryz.underlying27 rfl size_23 rfl) ?_
   refine sq (y_loadN (l := [(vi b1.Type_.Kind), (vi b1.Type_.Bits), (vi b1.Type_.Frac), (vi b1.Type_.Round), (vi b1.Type_.Over)]) rfl et Tryz.underlying23 rfl size_23 (hI.kblk (l := [(vi b1.Type_.Kind), (vi b1.Type_.Bits), (vi b1.Type_.Frac), (vi b1.Type_.Round), (vi b1.Type_.Over)]) .z rfl).1) ?_
   refine sq (y_bin rfl et et (eqstruct_23n ..) (eqguard_23 ..)) ?_
   refine nk ?_
   refine c_cond (b := !((decide (a1.Type_.Kind = b1.Type_.Kind)) && (decide (a1.Type_.Bits = b1.Type_.Bits)) && (decide (a1.Type_.Frac = b1.Type_.Frac)) && (decide (a1.Type_.Round = b1.Type_.Round)) && (decide (a1.Type_.Over = b1.Type_.Over)))) et (fun hb => ?_) (fun hb => ?_)
   ·replace h := ite_t hb h
    refine sr ?_
    refine sac ?_
    refine nk ?_
    refine c_ret ?_
    obtain rfl := some_inj h
    exact q_ret (vs := [(vi 10)]) Tryz.results70 ⟨ev_tmp rfl rfl, trivial⟩ ⟨rfl, hI.ext0, hI.fin trivial⟩
   ·replace h := ite_f hb h
    refine c_skip ?_
    refine k_same ?_
    refine c_seq ?_
    refine sr ?_
    refine sq (y_fieldAddr rfl et Tryz.underlying27 rfl size_24 rfl) ?_
    refine sq (y_load1 (v := (vs a2 a1.Dims.length c1)) rfl et Tryz.underlying24 rfl (hI.kblk (l := [(vs a2 a1.Dims.length c1)]) (.s .z) rfl).1) ?_
    refine sq (y_fieldAddr rfl et Tryz.underlying27 rfl size_24 rfl) ?_
    refine sq (y_load1 (v := (vs a4 b1.Dims.length c3)) rfl et Tryz.underlying24 rfl (hI.kblk (l := [(vs a4 b1.Dims.length c3)]) .z rfl).1) ?_
    obtain ⟨r3, hx5, h⟩ := bnd_some h
    refine s_call gn rfl (r_callF (vs := [(vs a2 a1.Dims.length c1), (vs a4 b1.Dims.length c3)]) rfl ok_50 ⟨et, ⟨et, trivial⟩⟩) (Calls.mono (c_base_Ints (Dj F c8) w4 hI.lt a1.Dims b1.Dims a2 c1 a4 c3 ⟨(hI.get (.s (.s .z))), (hI.get (.s (.s (.s (.s .z))))), trivial⟩ r3 hx5) ?_)
    rintro _ w5 ⟨rfl, hx6, hl3⟩
    refine ⟨_, rfl, ?_⟩
    replace hI := (hI.ext hx6)
    refine sq (y_not rfl et) ?_
    refine s_nil ?_
    refine k_next (e := [(27, (vb (!r3)))]) ⟨rfl, trivial⟩ ?_
    refine c_cond (b := !r3) et (fun hb => ?_) (fun hb => ?_)
    ·replace h := ite_t hb h
     refine sr ?_
     refine sac ?_
     refine nk ?_
     refine c_ret ?_
     obtain rfl := some_inj h
     exact q_ret (vs := [(vi 15)]) Tryz.results70 ⟨ev_tmp rfl rfl, trivial⟩ ⟨rfl, hI.ext0, hI.fin trivial⟩
    ·replace h := ite_f hb h
     refine c_skip ?_
     refine k_same ?_
     refine sr ?_
     refine sac ?_
     refine nk ?_
     refine c_ret ?_
     obtain rfl := some_inj h
     exact q_ret (vs := [(vi 0)]) Tryz.results70 ⟨ev_tmp rfl rfl, trivial⟩ ⟨rfl, hI.ext0, hI.fin trivial⟩

def tr_law12_zip_4_0 : Tr := .n
def tr_law12_zip_7_0 : Tr := (.c (21, .s) (.c (22, .q) .n))
set_option maxRecDepth 100000 in
set_option maxHeartbeats 4000000 in
theorem c_law12_zip (F : NP) (w0 : World) (hF : ∀ k, F k → k < w0.heap.size) (a1 : GTensor) (b1 : GTensor) (op1 : Int) (stop1 : Int) (a2 : Option Addr) (c1 : Nat) (a3 : Option Addr) (c2 : Nat) (a4 : Option Addr) (c3 : Nat) (a5 : Option Addr) (c4 : Nat) (hc : AllCl [Cl.sl (cInt .i64) a2 c1 a1.Dims, Cl.sl cGVal a3 c2 a1.Vals, Cl.sl (cInt .i64) a4 c3 b1.Dims, Cl.sl cGVal a5 c4 b1.Vals] F w0) (r : GTensor × Int × Int)
  (h : m_law12_zip a1 b1 op1 stop1 = some r) :
  Calls Tryz.prog 37 #[(Value.agg #[(vi a1.Type_.Kind), (vi a1.Type_.Bits), (vi a1.Type_.Frac), (vi a1.Type_.Round), (vi a1.Type_.Over), (vs a2 a1.Dims.length c1), (vs a3 a1.Vals.length c2)]), (Value.agg #[(vi b1.Type_.Kind), (vi b1.Type_.Bits), (vi b1.Type_.Frac), (vi b1.Type_.Round), (vi b1.Type_.Over), (vs a4 b1.Dims.length c3), (vs a5 b1.Vals.length c4)]), (vi op1), (vi stop1)] w0 fun e w => ∃ (a6 : Option Addr) (c5 : Nat) (a7 : Option Addr) (c6 : Nat), e = .returned (Value.tuple #[(Value.agg #[(vi r.1.Type_.Kind), (vi r.1.Type_.Bits), (vi r.1.Type_.Frac), (vi r.1.Type_.Round), (vi r.1.Type_.Over), (vs a6 r.1.Dims.length c5), (vs a7 r.1.Vals.length c6)]), (vi r.2.1), (vi r.2.2)]) ∧ Ext w0 w ∧ AllCl [Cl.sl (cInt .i64) a6 c5 r.1.Dims, Cl.sl cGVal a7 c6 r.1.Vals] F w := by
 refine enterK (l := [(Value.agg #[(vi a1.Type_.Kind), (vi a1.Type_.Bits), (vi a1.Type_.Frac), (vi a1.Type_.Round), (vi a1.Type_.Over), (vs a2 a1.Dims.length c1), (vs a3 a1.Vals.length c2)]), (Value.agg #[(vi b1.Type_.Kind), (vi b1.Type_.Bits), (vi b1.Type_.Frac), (vi b1.Type_.Round), (vi b1.Type_.Over), (vs a4 b1.Dims.length c3), (vs a5 b1.Vals.length c4)]), (vi op1), (vi stop1)]) Tryz.func37 rfl Tryz.ntmps37 rfl ?_
 have hI := Bun.start hF hc
 clear hc
 rw [m_law12_zip] at h
 refine sr ?_
 refine l_box (v := (Value.agg #[(vi a1.Type_.Kind), (vi a1.Type_.Bits), (vi a1.Type_.Frac), (vi a1.Type_.Round), (vi a1.Type_.Over), (vs a2 a1.Dims.length c1), (vs a3 a1.Vals.length c2)])) (cs := #[(vi a1.Type_.Kind), (vi a1.Type_.Bits), (vi a1.Type_.Frac), (vi a1.Type_.Round), (vi a1.Type_.Over), (vs a2 a1.Dims.length c1), (vs a3 a1.Vals.length c2)]) hI gn rfl rfl et rfl ?_
 clear hI; intro b2 c7 w1 hI
 obtain ⟨c8, hI⟩ := hI.relBox .z
 refine l_box (v := (Value.agg #[(vi b1.Type_.Kind), (vi b1.Type_.Bits), (vi b1.Type_.Frac), (vi b1.Type_.Round), (vi b1.Type_.Over), (vs a4 b1.Dims.length c3), (vs a5 b1.Vals.length c4)])) (cs := #[(vi b1.Type_.Kind), (vi b1.Type_.Bits), (vi b1.Type_.Frac), (vi b1.Type_.Round), (vi b1.Type_.Over), (vs a4 b1.Dims.length c3), (vs a5 b1.Vals.length c4)]) hI gn rfl rfl et rfl ?_
 clear hI; intro b3 c9 w2 hI
 obtain ⟨c10, hI⟩ := hI.relBox .z
 refine l_alloc (cs := #[(vi 0), (vi 0), (vi 0), (vi 0), (vi 0), (vs none 0 0), (vs none 0 0)]) hI gn rfl rfl zero_27 rfl ?_
 clear hI; intro b4 c11 w3 hI
 refine sac ?_
 refine sac ?_
 refine nk ?_
 refine c_seq ?_
 refine sr ?_
 refine sq (y_loadN (l := [(vi a1.Type_.Kind), (vi a1.Type_.Bits), (vi a1.Type_.Frac), (vi a1.Type_.Round), (vi a1.Type_.Over), (vs a2 a1.Dims.length c1), (vs a3 a1.Vals.length c2)]) rfl et Tryz.underlying27 rfl size_27 (hI.kblk (l := [(vi a1.Type_.Kind), (vi a1.Type_.Bits), (vi a1.Type_.Frac), (vi a1.Type_.Round), (vi a1.Type_.Over), (vs a2 a1.Dims.length c1), (vs a3 a1.Vals.length c2)]) (.s .z) rfl).1) ?_
 refine sq (y_loadN (l := [(vi b1.Type_.Kind), (vi b1.Type_.Bits), (vi b1.Type_.Frac), (vi b1.Type_.Round), (vi b1.Type_.Over), (vs a4 b1.Dims.length c3), (vs a5 b1.Vals.length c4)]) rfl et Tryz.underlying27 rfl size_27 (hI.kblk (l := [(vi b1.Type_.Kind), (vi b1.Type_.Bits), (vi b1.Type_.Frac), (vi b1.Type_.Round), (vi b1.Type_.Over), (vs a4 b1.Dims.length c3), (vs a5 b1.Vals.length c4)]) .z rfl).1) ?_
 obtain ⟨r1, hx1, h⟩ := bnd_some h
 refine s_call gn rfl (r_callF (vs := [(Value.agg #[(vi a1.Type_.Kind), (vi a1.Type_.Bits), (vi a1.Type_.Frac), (vi a1.Type_.Round), (vi a1.Type_.Over), (vs a2 a1.Dims.length c1), (vs a3 a1.Vals.length c2)]), (Value.agg #[(vi b1.Type_.Kind), (vi b1.Type_.Bits), (vi b1.Type_.Frac), (vi b1.Type_.Round), (vi b1.Type_.Over), (vs a4 b1.Dims.length c3), (vs a5 b1.Vals.length c4)])]) rfl ok_70 ⟨et, ⟨et, trivial⟩⟩) (Calls.mono (c_ref12_Pair (Dj F c11) w3 hI.lt a1 b1 a2 c1 a3 c2 a4 c3 a5 c4 ⟨(hI.get (.s (.s .z))), (hI.get (.s (.s (.s .z)))), (hI.get (.s (.s (.s (.s .z))))), (hI.get (.s (.s (.s (.s (.s .z)))))), trivial⟩ r1 hx1) ?_)
 rintro _ w4 ⟨rfl, hx2, hl1⟩
 refine ⟨_, rfl, ?_⟩
 replace hI := (hI.ext hx2)
 refine sa ?_
 refine nk ?_
 refine sr ?_
 refine sm ?_
 refine sq (y_neq rfl et ev_const) ?_
 refine nk ?_
 refine c_cond (b := !decide (r1 = 0)) et (fun hb => ?_) (fun hb => ?_)
 ·replace h := ite_t hb h
  refine sr ?_
  refine sq (y_build (vs := []) (cs := #[(vi 0), (vi 0), (vi 0), (vi 0), (vi 0), (vs none 0 0), (vs none 0 0)]) rfl trivial (by kernel_rfl)) ?_
  refine sm ?_
  refine l_store (new := [(vi 0), (vi 0), (vi 0), (vi 0), (vi 0), (vs none 0 0), (vs none 0 0)]) (cs' := #[(vi 0), (vi 0), (vi 0), (vi 0), (vi 0), (vs none 0 0), (vs none 0 0)]) hI .z gn rfl rfl et et rfl size_27 rfl rfl rfl ?_
  clear hI; intro c12 w5 hI
  refine sac ?_
  refine sa ?_
  refine nk ?_
  refine c_ret ?_
  have hI := hI.add (c := Cl.sl (cInt .i64) none 0 ([] : List Int)) SlC.nil
  have hI := hI.add (c := Cl.sl cGVal none 0 ([] : List GVal)) SlC.nil
  obtain rfl := some_inj h
  exact q_ret (vs := [(Value.agg #[(vi 0), (vi 0), (vi 0), (vi 0), (vi 0), (vs none 0 0), (vs none 0 0)]), (vi 0), (vi r1)]) Tryz.results37 ⟨⟨_, ev_tmp rfl rfl, load_agg (l := [(vi 0), (vi 0), (vi 0), (vi 0), (vi 0), (vs none 0 0), (vs none 0 0)]) Tryz.underlying27 rfl size_27 (CellsAt.of_blk (hI.blk .z) rfl)⟩, ⟨ev_tmp rfl rfl, ⟨ev_tmp rfl rfl, trivial⟩⟩⟩ ⟨none, 0, none, 0, rfl, hI.ext0, hI.fin ⟨(.s .z), .z, trivial⟩⟩
 ·replace h := ite_f hb h
  refine c_skip ?_
  refine k_same ?_
  refine sr ?_
  refine sq (y_fieldAddr rfl et Tryz.underlying27 rfl size_23 rfl) ?_
  refine sq (y_loadN (l := [(vi a1.Type_.Kind), (vi a1.Type_.Bits), (vi a1.Type_.Frac), (vi a1.Type_.Round), (vi a1.Type_.Over)]) rfl et Tryz.underlying23 rfl size_23 (hI.kblk (l := [(vi a1.Type_.Kind), (vi a1.Type_.Bits), (vi a1.Type_.Frac), (vi a1.Type_.Round), (vi a1.Type_.Over)]) (.s .z) rfl).1) ?_
  refine sq (y_fieldAddr rfl et Tryz.underlying27 rfl size_24 rfl) ?_
  refine sq (y_load1 (v := (vs a2 a1.Dims.length c1)) rfl et Tryz.underlying24 rfl (hI.kblk (l := [(vs a2 a1.Dims.length c1)]) (.s .z) rfl).1) ?_
  refine sq (y_build (vs := [(0, (Value.agg #[(vi a1.Type_.Kind), (vi a1.Type_.Bits), (vi a1.Type_.Frac), (vi a1.Type_.Round), (vi a1.Type_.Over)])), (1, (vs a2 a1.Dims.length c1))]) (cs := #[(vi a1.Type_.Kind), (vi a1.Type_.Bits), (vi a1.Type_.Frac), (vi a1.Type_.Round), (vi a1.Type_.Over), (vs a2 a1.Dims.length c1), (vs none 0 0)]) rfl ⟨rfl, et, ⟨rfl, et, trivial⟩⟩ (by kernel_rfl)) ?_
  refine l_alloc (cs := #[(vi 0), (vi 0), (vi 0), (vi 0), (vi 0), (vs none 0 0), (vs none 0 0)]) hI gn rfl rfl zero_27 rfl ?_
  clear hI; intro b5 c13 w6 hI
  refine l_store (new := [(vi a1.Type_.Kind), (vi a1.Type_.Bits), (vi a1.Type_.Frac), (vi a1.Type_.Round), (vi a1.Type_.Over), (vs a2 a1.Dims.length c1), (vs none 0 0)]) (cs' := #[(vi a1.Type_.Kind), (vi a1.Type_.Bits), (vi a1.Type_.Frac), (vi a1.Type_.Round), (vi a1.Type_.Over), (vs a2 a1.Dims.length c1), (vs none 0 0)]) hI .z gn rfl rfl et et rfl size_27 rfl rfl rfl ?_
  clear hI; intro c14 w7 hI
  refine nk ?_
  refine c_join (α := GTensor × (Option Addr) × Nat × (Option Addr) × Nat) (fun _ => ⟨80, []⟩) (fun x => [(4, (vp b2 0)), (8, (vp b4 0)), (12, (vp b5 0))]) (fun x => fun w => ∃ C, Bun noM F w0 C w [MO.row cGVal 36 (x.2.2.2.1) (x.2.2.2.2) (x.1).Vals, MO.box b4 27 #[(vi 0), (vi 0), (vi 0), (vi 0), (vi 0), (vs none 0 0), (vs none 0 0)], MO.box b5 27 #[(vi (x.1).Type_.Kind), (vi (x.1).Type_.Bits), (vi (x.1).Type_.Frac), (vi (x.1).Type_.Round), (vi (x.1).Type_.Over), (vs (x.2.1) (x.1).Dims.length (x.2.2.1)), (vs (x.2.2.2.1) (x.1).Vals.length (x.2.2.2.2))]] [Cl.sl (cInt .i64) (x.2.1) (x.2.2.1) (x.1).Dims, Cl.blk b2 27 #[(vi a1.Type_.Kind), (vi a1.Type_.Bits), (vi a1.Type_.Frac), (vi a1.Type_.Round), (vi a1.Type_.Over), (vs a2 a1.Dims.length c1), (vs a3 a1.Vals.length c2)], Cl.sl (cInt .i64) a2 c1 a1.Dims, Cl.sl cGVal a3 c2 a1.Vals] ∧ m_law12_zip_j1 a1 (x.1) = some r) ?_ ?_
  ·clear h hI; rintro ⟨out1, a8, c15, a9, c16⟩ w8 ⟨c17, hI, h⟩
   try dsimp only at hI h
   rw [m_law12_zip_j1] at h
   refine c_sub (e := [(4, (vp b2 0)), (8, (vp b4 0)), (12, (vp b5 0))]) ⟨rfl, rfl, rfl, trivial⟩ ?_
   refine c_seq ?_
   refine c_drawX [4] false (.c (0, .q) (.c (1, .q) (.two 2 (.c (3, .q) (.c (4, .s) (.c (5, .q) (.c (6, .q) tr_law12_zip_4_0)))) 4 (.c (2, .s) (.c (3, .q) (.c (5, .q) (.c (6, .q) tr_law12_zip_4_0))))))) hI (by kernel_rfl) (by kernel_rfl) ?_
   clear hI; intro w11 hI
   refine a_join (α := NP) (T := tr_law12_zip_4_0) (fun x => [(4, (vp b2 0)), (8, (vp b4 0)), (9, (vi (a1.Vals.length : Int))), (10, (vi 0)), (12, (vp b5 0)), (76, (Value.agg #[(vi out1.Type_.Kind), (vi out1.Type_.Bits), (vi out1.Type_.Frac), (vi out1.Type_.Round), (vi out1.Type_.Over), (vs a8 out1.Dims.length c15), (vs a9 out1.Vals.length c16)])), (77, (vp b2 6)), (78, (vs a3 a1.Vals.length c2)), (79, (vi (a1.Vals.length : Int)))]) (fun x w => Bun noM F w0 x w [MO.row cGVal 36 a9 c16 out1.Vals, MO.box b4 27 #[(vi out1.Type_.Kind), (vi out1.Type_.Bits), (vi out1.Type_.Frac), (vi out1.Type_.Round), (vi out1.Type_.Over), (vs a8 out1.Dims.length c15), (vs a9 out1.Vals.length c16)], MO.box b5 27 #[(vi out1.Type_.Kind), (vi out1.Type_.Bits), (vi out1.Type_.Frac), (vi out1.Type_.Round), (vi out1.Type_.Over), (vs a8 out1.Dims.length c15), (vs a9 out1.Vals.length c16)]] [Cl.sl (cInt .i64) a8 c15 out1.Dims, Cl.blk b2 27 #[(vi a1.Type_.Kind), (vi a1.Type_.Bits), (vi a1.Type_.Frac), (vi a1.Type_.Round), (vi a1.Type_.Over), (vs a2 a1.Dims.length c1), (vs a3 a1.Vals.length c2)], Cl.sl (cInt .i64) a2 c1 a1.Dims, Cl.sl cGVal a3 c2 a1.Vals]) (fun x w => SN [] (DM true F x) w) ?_ ?_
   ·clear hI; rintro c19 w10 hI
    try dsimp only at hI ⊢
    unfold tr_law12_zip_4_0
    refine a_nil ?_
    refine k_same ?_
    refine c_ret ?_
    obtain ⟨c20, hI⟩ := hI.release .z
    obtain rfl := some_inj h
    exact q_ret (vs := [(Value.agg #[(vi out1.Type_.Kind), (vi out1.Type_.Bits), (vi out1.Type_.Frac), (vi out1.Type_.Round), (vi out1.Type_.Over), (vs a8 out1.Dims.length c15), (vs a9 out1.Vals.length c16)]), (vi (a1.Vals.length : Int)), (vi 0)]) Tryz.results37 ⟨⟨_, ev_tmp rfl rfl, load_agg (l := [(vi out1.Type_.Kind), (vi out1.Type_.Bits), (vi out1.Type_.Frac), (vi out1.Type_.Round), (vi out1.Type_.Over), (vs a8 out1.Dims.length c15), (vs a9 out1.Vals.length c16)]) Tryz.underlying27 rfl size_27 (CellsAt.of_blk (hI.blk .z) rfl)⟩, ⟨ev_tmp rfl rfl, ⟨ev_tmp rfl rfl, trivial⟩⟩⟩ ⟨a8, c15, a9, c16, rfl, hI.ext0, hI.fin ⟨(.s .z), .z, trivial⟩⟩
   intro hk_tr_law12_zip_4_0
   refine a_read rfl gn rfl (fun w' hw' => (y_loadN (l := [(vi out1.Type_.Kind), (vi out1.Type_.Bits), (vi out1.Type_.Frac), (vi out1.Type_.Round), (vi out1.Type_.Over), (vs a8 out1.Dims.length c15), (vs a9 out1.Vals.length c16)]) rfl et Tryz.underlying27 rfl size_27 ((CA.blk (hI.blk (.s (.s .z))) rfl).at_ (SX.any rfl hw')))) (by kernel_rfl) ?_
   refine a_q rfl gn rfl (fun w' => (y_fieldAddr rfl et Tryz.underlying27 rfl size_25 rfl)) ?_
   refine a_two ?_ ?_
   ·skip
    refine a_val rfl gn rfl (y_load1 (v := (vs a3 a1.Vals.length c2)) rfl et Tryz.underlying25 rfl (hI.kblk (l := [(vs a3 a1.Vals.length c2)]) (.s .z) rfl).1) SX.self ?_
    refine a_q rfl gn rfl (fun w' => (y_lenl rfl Tryz.underlying25 et)) ?_
    refine a_turn (F := F) (C := c17) rfl rfl ?_
    refine la_store (new := [(vi out1.Type_.Kind), (vi out1.Type_.Bits), (vi out1.Type_.Frac), (vi out1.Type_.Round), (vi out1.Type_.Over), (vs a8 out1.Dims.length c15), (vs a9 out1.Vals.length c16)]) (cs' := #[(vi out1.Type_.Kind), (vi out1.Type_.Bits), (vi out1.Type_.Frac), (vi out1.Type_.Round), (vi out1.Type_.Over), (vs a8 out1.Dims.length c15), (vs a9 out1.Vals.length c16)]) hI (.s .z) rfl gn rfl rfl et et rfl size_27 rfl rfl rfl ?_
    clear hI; intro c18 w9 hI
    refine a_q rfl gn rfl (fun w' => (y_assign rfl et)) ?_
    refine a_q rfl gn rfl (fun w' => (y_assign rfl ev_const)) ?_
    exact a_sub (hk_tr_law12_zip_4_0 c18 _ (hI.arr (.c .z (.c .z (.c .z .n))) ⟨.z, (.s .z), (.s (.s .z)), (.s (.s (.s .z))), trivial⟩)) ⟨rfl, rfl, rfl, rfl, rfl, rfl, rfl, rfl, rfl, trivial⟩
   ·skip
    refine a_turnT (F := F) (C := c17) rfl rfl ?_
    refine la_store (new := [(vi out1.Type_.Kind), (vi out1.Type_.Bits), (vi out1.Type_.Frac), (vi out1.Type_.Round), (vi out1.Type_.Over), (vs a8 out1.Dims.length c15), (vs a9 out1.Vals.length c16)]) (cs' := #[(vi out1.Type_.Kind), (vi out1.Type_.Bits), (vi out1.Type_.Frac), (vi out1.Type_.Round), (vi out1.Type_.Over), (vs a8 out1.Dims.length c15), (vs a9 out1.Vals.length c16)]) hI (.s .z) rfl gn rfl rfl et et rfl size_27 rfl rfl rfl ?_
    clear hI; intro c18 w9 hI
    refine a_val rfl gn rfl (y_load1 (v := (vs a3 a1.Vals.length c2)) rfl et Tryz.underlying25 rfl (hI.kblk (l := [(vs a3 a1.Vals.length c2)]) (.s .z) rfl).1) SX.self ?_
    refine a_q rfl gn rfl (fun w' => (y_lenl rfl Tryz.underlying25 et)) ?_
    refine a_q rfl gn rfl (fun w' => (y_assign rfl et)) ?_
    refine a_q rfl gn rfl (fun w' => (y_assign rfl ev_const)) ?_
    exact a_sub (hk_tr_law12_zip_4_0 c18 _ (hI.arr (.c .z (.c .z (.c .z .n))) ⟨.z, (.s .z), (.s (.s .z)), (.s (.s (.s .z))), trivial⟩)) ⟨rfl, rfl, rfl, rfl, rfl, rfl, rfl, rfl, rfl, trivial⟩
  ·skip
   refine sr ?_
   refine sac ?_
   refine nk ?_
   refine c_block ?_
   have hI := hI.nil cGVal 36 none
   refine c_loop (α := Nat × Int × GTensor × (Option Addr) × Nat × (Option Addr) × Nat) (fun x => fun w => ∃ C, Bun noM F w0 C w [MO.row cGVal 36 (x.2.2.2.2.2.1) (x.2.2.2.2.2.2) (x.2.2.1).Vals, MO.box b4 27 #[(vi 0), (vi 0), (vi 0), (vi 0), (vi 0), (vs none 0 0), (vs none 0 0)], MO.box b5 27 #[(vi (x.2.2.1).Type_.Kind), (vi (x.2.2.1).Type_.Bits), (vi (x.2.2.1).Type_.Frac), (vi (x.2.2.1).Type_.Round), (vi (x.2.2.1).Type_.Over), (vs (x.2.2.2.1) (x.2.2.1).Dims.length (x.2.2.2.2.1)), (vs (x.2.2.2.2.2.1) (x.2.2.1).Vals.length (x.2.2.2.2.2.2))]] [Cl.sl (cInt .i64) (x.2.2.2.1) (x.2.2.2.2.1) (x.2.2.1).Dims, Cl.blk b2 27 #[(vi a1.Type_.Kind), (vi a1.Type_.Bits), (vi a1.Type_.Frac), (vi a1.Type_.Round), (vi a1.Type_.Over), (vs a2 a1.Dims.length c1), (vs a3 a1.Vals.length c2)], Cl.sl (cInt .i64) a2 c1 a1.Dims, Cl.sl cGVal a3 c2 a1.Vals, Cl.blk b3 27 #[(vi b1.Type_.Kind), (vi b1.Type_.Bits), (vi b1.Type_.Frac), (vi b1.Type_.Round), (vi b1.Type_.Over), (vs a4 b1.Dims.length c3), (vs a5 b1.Vals.length c4)], Cl.sl (cInt .i64) a4 c3 b1.Dims, Cl.sl cGVal a5 c4 b1.Vals] ∧ m_law12_zip_l1 a1 b1 op1 stop1 (x.1) (x.2.1) (x.2.2.1) = some r) (fun x _ => x.1) (fun x => [(2, (vi op1)), (3, (vi stop1)), (4, (vp b2 0)), (5, (vp b3 0)), (8, (vp b4 0)), (12, (vp b5 0)), (13, (vi (x.2.1)))]) (fu, 0, (⟨a1.Type_, a1.Dims, ([] : List GVal)⟩ : GTensor), a2, c1, none, 0) ⟨_, hI.arr (.c .z (.c (.s .z) (.c .z .n))) ⟨(.s (.s .z)), (.s .z), (.s (.s .z)), (.s (.s (.s .z))), .z, (.s (.s (.s (.s .z)))), (.s (.s (.s (.s (.s .z))))), trivial⟩, h⟩ ⟨rfl, rfl, rfl, rfl, rfl, rfl, rfl, trivial⟩ ?_
   clear h hI; rintro ⟨fuel1, i1, out2, a10, c21, a11, c22⟩ w12 ⟨c23, hI, h⟩
   dsimp only at hI h
   rcases fuel1 with _ | fuel1
   ·rw [m_law12_zip_l1] at h; cases h
   rw [m_law12_zip_l1] at h
   refine c_sub (e := [(2, (vi op1)), (3, (vi stop1)), (4, (vp b2 0)), (5, (vp b3 0)), (8, (vp b4 0)), (12, (vp b5 0)), (13, (vi i1))]) ⟨rfl, rfl, rfl, rfl, rfl, rfl, rfl, trivial⟩ ?_
   refine c_seq ?_
   refine sr ?_
   refine sm ?_
   refine sq (y_fieldAddr rfl et Tryz.underlying27 rfl size_25 rfl) ?_
   refine sq (y_load1 (v := (vs a3 a1.Vals.length c2)) rfl et Tryz.underlying25 rfl (hI.kblk (l := [(vs a3 a1.Vals.length c2)]) (.s .z) rfl).1) ?_
   refine sq (y_lenl rfl Tryz.underlying25 et) ?_
   refine sq (y_lss rfl et et) ?_
   refine nk ?_
   refine c_cond (b := decide (i1 < (a1.Vals.length : Int))) et (fun hb => ?_) (fun hb => ?_)
   ·replace h := ite_t hb h
    refine c_skip ?_
    refine k_same ?_
    refine c_seq ?_
    refine c_block ?_
    refine c_seq ?_
    obtain ⟨e1, hx3, h⟩ := bnd_some h
    obtain ⟨e2, hx4, h⟩ := bnd_some h
    obtain ⟨r2, hx5, h⟩ := bnd_some h
    refine c_drawX [21] false (.c (0, .q) (.c (1, .q) (.c (2, .q) (.c (3, .q) (.c (4, .q) (.c (5, .q) (.c (6, .q) (.c (7, .q) (.c (8, .q) (.c (9, .q) (.c (10, .q) (.c (11, .q) (.c (12, .q) (.c (13, .q) (.c (14, .q) (.c (15, .q) (.two 16 (.c (17, .q) (.c (18, .q) (.c (19, .q) (.c (20, .s) tr_law12_zip_7_0)))) 20 (.c (16, .s) (.c (17, .q) (.c (18, .q) (.c (19, .q) tr_law12_zip_7_0))))))))))))))))))))) hI (by kernel_rfl) (by kernel_rfl) ?_
    clear hI; intro w17 hI
    refine a_join (α := Nat × NP) (T := tr_law12_zip_7_0) (fun x => [(2, (vi op1)), (3, (vi stop1)), (4, (vp b2 0)), (5, (vp b3 0)), (8, (vp b4 0)), (12, (vp b5 0)), (13, (vi i1)), (14, (Value.pointer (some ⟨(x.1), 0, none⟩))), (28, (vi i1)), (29, (vp b2 6)), (30, (vs a3 a1.Vals.length c2)), (31, (vi (a1.Vals.length : Int))), (32, (vb (decide (i1 < (a1.Vals.length : Int))))), (35, (Value.tuple #[(Value.agg #[(vi r2.1.N), (vi r2.1.D)]), (vi r2.2)])), (36, (vp b2 0)), (37, (Value.agg #[(vi a1.Type_.Kind), (vi a1.Type_.Bits), (vi a1.Type_.Frac), (vi a1.Type_.Round), (vi a1.Type_.Over)])), (38, (vi op1)), (39, (vi i1)), (40, (vi stop1)), (41, (vb (decide (i1 = stop1)))), (42, (vp b2 6)), (43, (vs a3 a1.Vals.length c2)), (44, (vi i1)), (46, (Value.agg #[(vi e1.N), (vi e1.D)])), (47, (vp b3 6)), (48, (vs a5 b1.Vals.length c4)), (49, (vi i1)), (51, (Value.agg #[(vi e2.N), (vi e2.D)])), (52, (Value.tuple #[(Value.agg #[(vi r2.1.N), (vi r2.1.D)]), (vi r2.2)])), (53, (Value.agg #[(vi r2.1.N), (vi r2.1.D)])), (54, (vi r2.2))]) (fun x w => Bun noM F w0 (x.2) w [MO.box (x.1) 36 #[(vi 0), (vi 0)], MO.row cGVal 36 a11 c22 out2.Vals, MO.box b4 27 #[(vi 0), (vi 0), (vi 0), (vi 0), (vi 0), (vs none 0 0), (vs none 0 0)], MO.box b5 27 #[(vi out2.Type_.Kind), (vi out2.Type_.Bits), (vi out2.Type_.Frac), (vi out2.Type_.Round), (vi out2.Type_.Over), (vs a10 out2.Dims.length c21), (vs a11 out2.Vals.length c22)]] [Cl.sl (cInt .i64) a10 c21 out2.Dims, Cl.blk b2 27 #[(vi a1.Type_.Kind), (vi a1.Type_.Bits), (vi a1.Type_.Frac), (vi a1.Type_.Round), (vi a1.Type_.Over), (vs a2 a1.Dims.length c1), (vs a3 a1.Vals.length c2)], Cl.sl (cInt .i64) a2 c1 a1.Dims, Cl.sl cGVal a3 c2 a1.Vals, Cl.blk b3 27 #[(vi b1.Type_.Kind), (vi b1.Type_.Bits), (vi b1.Type_.Frac), (vi b1.Type_.Round), (vi b1.Type_.Over), (vs a4 b1.Dims.length c3), (vs a5 b1.Vals.length c4)], Cl.sl (cInt .i64) a4 c3 b1.Dims, Cl.sl cGVal a5 c4 b1.Vals]) (fun x w => SN [21] (DM false F (x.2)) w) ?_ ?_
    ·clear hI; rintro ⟨b6, c26⟩ w16 hI
     try dsimp only at hI ⊢
     unfold tr_law12_zip_7_0
     refine a_turn (F := F) (C := c26) rfl rfl ?_
     refine la_store (new := [(vi r2.1.N), (vi r2.1.D)]) (cs' := #[(vi r2.1.N), (vi r2.1.D)]) hI .z rfl gn rfl rfl et et rfl size_36 rfl rfl rfl ?_
     clear hI; intro c25 w15 hI
     refine a_q rfl gn rfl (fun w' => (y_assign rfl et)) ?_
     refine a_nil ?_
     refine k_same ?_
     refine c_join (α := Int) (fun _ => ⟨80, []⟩) (fun x => [(2, (vi op1)), (3, (vi stop1)), (4, (vp b2 0)), (5, (vp b3 0)), (8, (vp b4 0)), (12, (vp b5 0)), (13, (vi i1)), (14, (vp b6 0)), (15, (vi x))]) (fun x => fun w => ∃ C, Bun noM F w0 C w [MO.box b4 27 #[(vi 0), (vi 0), (vi 0), (vi 0), (vi 0), (vs none 0 0), (vs none 0 0)], MO.box b5 27 #[(vi out2.Type_.Kind), (vi out2.Type_.Bits), (vi out2.Type_.Frac), (vi out2.Type_.Round), (vi out2.Type_.Over), (vs a10 out2.Dims.length c21), (vs a11 out2.Vals.length c22)], MO.row cGVal 36 a11 c22 out2.Vals, MO.box b6 36 #[(vi r2.1.N), (vi r2.1.D)]] [Cl.blk b2 27 #[(vi a1.Type_.Kind), (vi a1.Type_.Bits), (vi a1.Type_.Frac), (vi a1.Type_.Round), (vi a1.Type_.Over), (vs a2 a1.Dims.length c1), (vs a3 a1.Vals.length c2)], Cl.sl (cInt .i64) a2 c1 a1.Dims, Cl.sl cGVal a3 c2 a1.Vals, Cl.blk b3 27 #[(vi b1.Type_.Kind), (vi b1.Type_.Bits), (vi b1.Type_.Frac), (vi b1.Type_.Round), (vi b1.Type_.Over), (vs a4 b1.Dims.length c3), (vs a5 b1.Vals.length c4)], Cl.sl (cInt .i64) a4 c3 b1.Dims, Cl.sl cGVal a5 c4 b1.Vals, Cl.sl (cInt .i64) a10 c21 out2.Dims] ∧ m_law12_zip_j2 i1 out2 r2 (m_law12_zip_l1 a1 b1 op1 stop1 fuel1) x = some r) ?_ ?_
     ·clear h hI; rintro e3 w18 ⟨c27, hI, h⟩
      try dsimp only at hI h
      rw [m_law12_zip_j2] at h
      refine c_sub (e := [(2, (vi op1)), (3, (vi stop1)), (4, (vp b2 0)), (5, (vp b3 0)), (8, (vp b4 0)), (12, (vp b5 0)), (13, (vi i1)), (14, (vp b6 0)), (15, (vi e3))]) ⟨rfl, rfl, rfl, rfl, rfl, rfl, rfl, rfl, rfl, trivial⟩ ?_
      refine c_seq ?_
      refine sr ?_
      refine sm ?_
      refine sq (y_neq rfl et ev_const) ?_
      refine nk ?_
      refine c_cond (b := !decide (e3 = 0)) et (fun hb => ?_) (fun hb => ?_)
      ·replace h := ite_t hb h
       refine sr ?_
       refine sq (y_build (vs := []) (cs := #[(vi 0), (vi 0), (vi 0), (vi 0), (vi 0), (vs none 0 0), (vs none 0 0)]) rfl trivial (by kernel_rfl)) ?_
       refine sm ?_
       refine sq (y_add rfl et ev_const) ?_
       refine sm ?_
       refine l_store (new := [(vi 0), (vi 0), (vi 0), (vi 0), (vi 0), (vs none 0 0), (vs none 0 0)]) (cs' := #[(vi 0), (vi 0), (vi 0), (vi 0), (vi 0), (vs none 0 0), (vs none 0 0)]) hI .z gn rfl rfl et et rfl size_27 rfl rfl rfl ?_
       clear hI; intro c28 w19 hI
       refine sa ?_
       refine sa ?_
       refine nk ?_
       refine c_ret ?_
       have hI := hI.add (c := Cl.sl (cInt .i64) none 0 ([] : List Int)) SlC.nil
       have hI := hI.add (c := Cl.sl cGVal none 0 ([] : List GVal)) SlC.nil
       obtain rfl := some_inj h
       exact q_ret (vs := [(Value.agg #[(vi 0), (vi 0), (vi 0), (vi 0), (vi 0), (vs none 0 0), (vs none 0 0)]), (vi (wi64 (i1 + 1))), (vi e3)]) Tryz.results37 ⟨⟨_, ev_tmp rfl rfl, load_agg (l := [(vi 0), (vi 0), (vi 0), (vi 0), (vi 0), (vs none 0 0), (vs none 0 0)]) Tryz.underlying27 rfl size_27 (CellsAt.of_blk (hI.blk .z) rfl)⟩, ⟨ev_tmp rfl rfl, ⟨ev_tmp rfl rfl, trivial⟩⟩⟩ ⟨none, 0, none, 0, rfl, hI.ext0, hI.fin ⟨(.s .z), .z, trivial⟩⟩
      ·replace h := ite_f hb h
       refine c_skip ?_
       refine k_same ?_
       refine c_region rfl ?_
       refine sq (y_fieldAddr rfl et Tryz.underlying27 rfl size_25 rfl) ?_
       refine sq (y_load1 (v := (vs a11 out2.Vals.length c22)) rfl et Tryz.underlying25 rfl (CellsAt.of_blk (hI.blk (.s .z)) rfl)) ?_
       refine sq (y_loadN (l := [(vi r2.1.N), (vi r2.1.D)]) rfl et Tryz.underlying36 rfl size_36 (CellsAt.of_blk (hI.blk (.s (.s (.s .z)))) rfl)) ?_
       refine l_lit (c := cGVal) (xs := ([r2.1] : List GVal)) (vs := [(0, (Value.agg #[(vi r2.1.N), (vi r2.1.D)]))]) (cs := #[(vi r2.1.N), (vi r2.1.D)]) (css := [[(vi r2.1.N), (vi r2.1.D)]]) hI gn rfl rfl Tryz.underlying25 info_36 rfl ⟨rfl, et, trivial⟩ (by kernel_rfl) ⟨rfl, trivial⟩ rfl rfl rfl ?_
       clear hI; intro b7 c29 w20 hI
       obtain ⟨zs1, hx7, h⟩ := bnd_some h
       refine l_append (xs := out2.Vals) (ys := ([r2.1] : List GVal)) hI (.s (.s (.s .z))) (hI.rd .z) hx7 gn rfl rfl Tryz.underlying25 info_36 rfl rfl et et ?_
       clear hI; intro a12 c30 c31 w21 hI
       refine sq (y_fieldAddr rfl et Tryz.underlying27 rfl size_25 rfl) ?_
       refine l_store (new := [(vs a12 zs1.length c30)]) (cs' := #[(vi out2.Type_.Kind), (vi out2.Type_.Bits), (vi out2.Type_.Frac), (vi out2.Type_.Round), (vi out2.Type_.Over), (vs a10 out2.Dims.length c21), (vs a12 zs1.length c30)]) hI (.s (.s .z)) gn rfl rfl et et rfl size_25 rfl rfl rfl ?_
       clear hI; intro c32 w22 hI
       refine nk ?_
       refine c_region rfl ?_
       refine sm ?_
       refine sq (y_add rfl et ev_const) ?_
       refine sa ?_
       refine s_nil ?_
       exact k_loop (fuel1, wi64 (i1 + 1), (⟨out2.Type_, out2.Dims, zs1⟩ : GTensor), a10, c21, a12, c30) ⟨rfl, rfl, rfl, rfl, rfl, rfl, rfl, trivial⟩ ⟨_, hI.arr (.c (.s (.s (.s .z))) (.c (.s .z) (.c (.s .z) .n))) ⟨(.s (.s (.s (.s (.s (.s .z)))))), .z, (.s .z), (.s (.s .z)), (.s (.s (.s .z))), (.s (.s (.s (.s .z)))), (.s (.s (.s (.s (.s .z))))), trivial⟩, h⟩ (Nat.lt_succ_self _)
     ·skip
      refine sr ?_
      refine sm ?_
      refine sq (y_eql rfl et ev_const) ?_
      refine sm ?_
      refine s_gval (g_true rfl rfl rfl rfl) rfl (fun hc => (y_fieldAddr rfl et Tryz.underlying27 rfl size_23 rfl)) ?_
      refine s_gval (g_true rfl rfl rfl rfl) rfl (fun hc => (y_loadN (l := [(vi a1.Type_.Kind), (vi a1.Type_.Bits), (vi a1.Type_.Frac), (vi a1.Type_.Round), (vi a1.Type_.Over)]) rfl (ev_gv et hc) Tryz.underlying23 rfl size_23 (hI.kblk (l := [(vi a1.Type_.Kind), (vi a1.Type_.Bits), (vi a1.Type_.Frac), (vi a1.Type_.Round), (vi a1.Type_.Over)]) (.s .z) rfl).1)) ?_
      refine s_gval (g_true rfl rfl rfl rfl) rfl (fun hc => (y_loadN (l := [(vi r2.1.N), (vi r2.1.D)]) rfl et Tryz.underlying36 rfl size_36 (CellsAt.of_blk (hI.blk .z) rfl))) ?_
      obtain ⟨r3, hx8, h⟩ := bnd_some h
      replace hx8 := gd_some hx8
      refine s_gcallU (v := (vb r3)) (g_true rfl rfl rfl rfl) rfl (fun hc => (r_callF (vs := [(Value.agg #[(vi a1.Type_.Kind), (vi a1.Type_.Bits), (vi a1.Type_.Frac), (vi a1.Type_.Round), (vi a1.Type_.Over)]), (Value.agg #[(vi r2.1.N), (vi r2.1.D)])]) rfl ok_56 ⟨(ev_gv et hc), ⟨(ev_gv et hc), trivial⟩⟩)) (fun hc => (c_base_Val (Dj F c25) w15 hI.lt a1.Type_ r2.1 trivial r3 (hx8 hc)).mono fun _ _ k => ⟨k.1, k.2.1⟩) ?_
      intro w23 hx9; replace hI := hI.ext hx9
      refine s_gval (g_true rfl rfl rfl rfl) rfl (fun hc => (y_not rfl (ev_gv et hc))) ?_
      refine sq (y_and rfl et et) ?_
      refine s_nil ?_
      refine k_next (e := [(2, (vi op1)), (3, (vi stop1)), (4, (vp b2 0)), (5, (vp b3 0)), (8, (vp b4 0)), (12, (vp b5 0)), (13, (vi i1)), (14, (vp b6 0)), (15, (vi r2.2)), (63, (vb ((decide (r2.2 = 0)) && (!r3))))]) ⟨rfl, rfl, rfl, rfl, rfl, rfl, rfl, rfl, rfl, rfl, trivial⟩ ?_
      refine c_cond (b := (decide (r2.2 = 0)) && (!r3)) et (fun hb => ?_) (fun hb => ?_)
      ·replace h := ite_t hb h
       refine c_region rfl ?_
       refine sac ?_
       refine s_nil ?_
       exact k_join 1 ⟨rfl, rfl, rfl, rfl, rfl, rfl, rfl, rfl, rfl, trivial⟩ ⟨_, hI.arr (.c (.s (.s .z)) (.c (.s (.s .z)) (.c (.s .z) (.c .z .n)))) ⟨(.s .z), (.s (.s .z)), (.s (.s (.s .z))), (.s (.s (.s (.s .z)))), (.s (.s (.s (.s (.s .z))))), (.s (.s (.s (.s (.s (.s .z)))))), .z, trivial⟩, h⟩ rfl
      ·replace h := ite_f hb h
       refine c_skip ?_
       exact k_join r2.2 ⟨rfl, rfl, rfl, rfl, rfl, rfl, rfl, rfl, rfl, trivial⟩ ⟨_, hI.arr (.c (.s (.s .z)) (.c (.s (.s .z)) (.c (.s .z) (.c .z .n)))) ⟨(.s .z), (.s (.s .z)), (.s (.s (.s .z))), (.s (.s (.s (.s .z)))), (.s (.s (.s (.s (.s .z))))), (.s (.s (.s (.s (.s (.s .z)))))), .z, trivial⟩, h⟩ rfl
    intro hk_tr_law12_zip_7_0
    refine a_q rfl gn rfl (fun w' => (y_fieldAddr rfl et Tryz.underlying27 rfl size_23 rfl)) ?_
    refine a_read rfl gn rfl (fun w' hw' => (y_loadN (l := [(vi a1.Type_.Kind), (vi a1.Type_.Bits), (vi a1.Type_.Frac), (vi a1.Type_.Round), (vi a1.Type_.Over)]) rfl et Tryz.underlying23 rfl size_23 ((hI.kblk (l := [(vi a1.Type_.Kind), (vi a1.Type_.Bits), (vi a1.Type_.Frac), (vi a1.Type_.Round), (vi a1.Type_.Over)]) (.s .z) rfl).at_ (SX.any rfl hw')))) (by kernel_rfl) ?_
    refine a_q rfl gn rfl (fun w' => (y_move rfl et)) ?_
    refine a_q rfl gn rfl (fun w' => (y_move rfl et)) ?_
    refine a_q rfl gn rfl (fun w' => (y_move rfl et)) ?_
    refine a_q rfl gn rfl (fun w' => (y_eql rfl et et)) ?_
    refine a_q rfl gn rfl (fun w' => (y_fieldAddr rfl et Tryz.underlying27 rfl size_25 rfl)) ?_
    refine a_read rfl gn rfl (fun w' hw' => (y_load1 (v := (vs a3 a1.Vals.length c2)) rfl et Tryz.underlying25 rfl ((hI.kblk (l := [(vs a3 a1.Vals.length c2)]) (.s .z) rfl).at_ (SX.any rfl hw')))) (by kernel_rfl) ?_
    refine a_q rfl gn rfl (fun w' => (y_move rfl et)) ?_
    obtain ⟨ad1, cs1, hA1, hr1, hq1⟩ := hI.clat (.s (.s (.s .z))) hx3
    obtain rfl : cs1 = [(vi e1.N), (vi e1.D)] := hr1
    refine a_q rfl gn rfl (fun w' => (y_indexAddr rfl Tryz.underlying25 size_36 et et (lat_bd hx3) hA1)) ?_
    refine a_read rfl gn rfl (fun w' hw' => (y_loadN (l := [(vi e1.N), (vi e1.D)]) rfl et Tryz.underlying36 rfl size_36 (hq1.at_ (SX.any rfl hw')))) (by kernel_rfl) ?_
    refine a_q rfl gn rfl (fun w' => (y_fieldAddr rfl et Tryz.underlying27 rfl size_25 rfl)) ?_
    refine a_read rfl gn rfl (fun w' hw' => (y_load1 (v := (vs a5 b1.Vals.length c4)) rfl et Tryz.underlying25 rfl ((hI.kblk (l := [(vs a5 b1.Vals.length c4)]) (.s (.s (.s (.s .z)))) rfl).at_ (SX.any rfl hw')))) (by kernel_rfl) ?_
    refine a_q rfl gn rfl (fun w' => (y_move rfl et)) ?_
    obtain ⟨ad2, cs2, hA2, hr2, hq2⟩ := hI.clat (.s (.s (.s (.s (.s (.s .z)))))) hx4
    obtain rfl : cs2 = [(vi e2.N), (vi e2.D)] := hr2
    refine a_q rfl gn rfl (fun w' => (y_indexAddr rfl Tryz.underlying25 size_36 et et (lat_bd hx4) hA2)) ?_
    refine a_read rfl gn rfl (fun w' hw' => (y_loadN (l := [(vi e2.N), (vi e2.D)]) rfl et Tryz.underlying36 rfl size_36 (hq2.at_ (SX.any rfl hw')))) (by kernel_rfl) ?_
    refine a_two ?_ ?_
    ·skip
     refine la_call rfl gn rfl (r_callF (vs := [(Value.agg #[(vi a1.Type_.Kind), (vi a1.Type_.Bits), (vi a1.Type_.Frac), (vi a1.Type_.Round), (vi a1.Type_.Over)]), (vi op1), (vb (decide (i1 = stop1))), (Value.agg #[(vi e1.N), (vi e1.D)]), (Value.agg #[(vi e2.N), (vi e2.D)])]) rfl ok_36 ⟨et, ⟨et, ⟨et, ⟨et, ⟨et, trivial⟩⟩⟩⟩⟩) (Calls.mono (c_law12_apply (Dj F c23) w17 hI.lt a1.Type_ op1 (decide (i1 = stop1)) e1 e2 trivial r2 hx5) ?_)
     rintro _ w13 ⟨rfl, hx6, hl2⟩
     refine ⟨_, rfl, hx6, ?_⟩
     replace hI := (hI.ext hx6)
     refine a_q rfl gn rfl (fun w' => (y_move rfl et)) ?_
     refine a_q rfl gn rfl (fun w' => (y_extract rfl et rfl)) ?_
     refine a_q rfl gn rfl (fun w' => (y_extract rfl et rfl)) ?_
     refine la_alloc (cs := #[(vi 0), (vi 0)]) hI rfl gn rfl rfl zero_36 rfl ?_
     clear hI; intro b6 c24 w14 hI
     exact a_sub (hk_tr_law12_zip_7_0 (b6, c24) _ (hI.arr (.c .z (.c .z (.c .z (.c .z .n)))) ⟨.z, (.s .z), (.s (.s .z)), (.s (.s (.s .z))), (.s (.s (.s (.s .z)))), (.s (.s (.s (.s (.s .z))))), (.s (.s (.s (.s (.s (.s .z)))))), trivial⟩)) ⟨rfl, rfl, rfl, rfl, rfl, rfl, rfl, rfl, rfl, rfl, rfl, rfl, rfl, rfl, rfl, rfl, rfl, rfl, rfl, rfl, rfl, rfl, rfl, rfl, rfl, rfl, rfl, rfl, rfl, rfl, rfl, trivial⟩
    ·skip
     refine la_alloc (cs := #[(vi 0), (vi 0)]) hI rfl gn rfl rfl zero_36 rfl ?_
     clear hI; intro b6 c24 w14 hI
     refine la_call rfl gn rfl (r_callF (vs := [(Value.agg #[(vi a1.Type_.Kind), (vi a1.Type_.Bits), (vi a1.Type_.Frac), (vi a1.Type_.Round), (vi a1.Type_.Over)]), (vi op1), (vb (decide (i1 = stop1))), (Value.agg #[(vi e1.N), (vi e1.D)]), (Value.agg #[(vi e2.N), (vi e2.D)])]) rfl ok_36 ⟨et, ⟨et, ⟨et, ⟨et, ⟨et, trivial⟩⟩⟩⟩⟩) (Calls.mono (c_law12_apply (Dj F c24) w14 hI.lt a1.Type_ op1 (decide (i1 = stop1)) e1 e2 trivial r2 hx5) ?_)
     rintro _ w13 ⟨rfl, hx6, hl2⟩
     refine ⟨_, rfl, hx6, ?_⟩
     replace hI := (hI.ext hx6)
     refine a_q rfl gn rfl (fun w' => (y_move rfl et)) ?_
     refine a_q rfl gn rfl (fun w' => (y_extract rfl et rfl)) ?_
     refine a_q rfl gn rfl (fun w' => (y_extract rfl et rfl)) ?_
     exact a_sub (hk_tr_law12_zip_7_0 (b6, c24) _ (hI.arr (.c .z (.c .z (.c .z (.c .z .n)))) ⟨.z, (.s .z), (.s (.s .z)), (.s (.s (.s .z))), (.s (.s (.s (.s .z)))), (.s (.s (.s (.s (.s .z))))), (.s (.s (.s (.s (.s (.s .z)))))), trivial⟩)) ⟨rfl, rfl, rfl, rfl, rfl, rfl, rfl, rfl, rfl, rfl, rfl, rfl, rfl, rfl, rfl, rfl, rfl, rfl, rfl, rfl, rfl, rfl, rfl, rfl, rfl, rfl, rfl, rfl, rfl, rfl, rfl, trivial⟩
   ·replace h := ite_f hb h
    refine c_exit ?_
    refine k_in ?_
    exact k_join (out2, a10, c21, a11, c22) ⟨rfl, rfl, rfl, trivial⟩ ⟨_, hI.arr (.c .z (.c .z (.c .z .n))) ⟨.z, (.s .z), (.s (.s .z)), (.s (.s (.s .z))), trivial⟩, h⟩ rfl

def tr_tensor_Zip_s_3_0 : Tr := (.c (12, .s) (.c (13, .q) .n))
set_option maxRecDepth 100000 in
set_option maxHeartbeats 4000000 in
theorem c_tensor_Zip_s {σ : Type} (I : StI σ) (C0 F : NP) (w0 : World) (a1 : GTensor) (b1 : GTensor) (f1 : (GVal → GVal → σ → Option ((GVal × Int) × σ))) (s1 : σ) (a2 : Option Addr) (c1 : Nat) (a3 : Option Addr) (c2 : Nat) (a4 : Option Addr) (c3 : Nat) (a5 : Option Addr) (c4 : Nat) (fv1 : Value) (hI : Bun C0 F w0 C0 w0 [MO.st I s1] [Cl.sl (cInt .i64) a2 c1 a1.Dims, Cl.sl cGVal a3 c2 a1.Vals, Cl.sl (cInt .i64) a4 c3 b1.Dims, Cl.sl cGVal a5 c4 b1.Vals, clFnS_k4 I fv1 f1]) (r : (GTensor × Int) × σ)
  (h : m_tensor_Zip_s a1 b1 f1 s1 = some r) :
  Calls Tryz.prog 34 #[(Value.agg #[(vi a1.Type_.Kind), (vi a1.Type_.Bits), (vi a1.Type_.Frac), (vi a1.Type_.Round), (vi a1.Type_.Over), (vs a2 a1.Dims.length c1), (vs a3 a1.Vals.length c2)]), (Value.agg #[(vi b1.Type_.Kind), (vi b1.Type_.Bits), (vi b1.Type_.Frac), (vi b1.Type_.Round), (vi b1.Type_.Over), (vs a4 b1.Dims.length c3), (vs a5 b1.Vals.length c4)]), fv1] w0 fun e w => ∃ (a6 : Option Addr) (c5 : Nat) (a7 : Option Addr) (c6 : Nat) (C : NP), e = .returned (Value.tuple #[(Value.agg #[(vi r.1.1.Type_.Kind), (vi r.1.1.Type_.Bits), (vi r.1.1.Type_.Frac), (vi r.1.1.Type_.Round), (vi r.1.1.Type_.Over), (vs a6 r.1.1.Dims.length c5), (vs a7 r.1.1.Vals.length c6)]), (vi r.1.2)]) ∧ Bun C0 F w0 C w [MO.st I r.2] [Cl.sl (cInt .i64) a6 c5 r.1.1.Dims, Cl.sl cGVal a7 c6 r.1.1.Vals] := by
 refine enterK (l := [(Value.agg #[(vi a1.Type_.Kind), (vi a1.Type_.Bits), (vi a1.Type_.Frac), (vi a1.Type_.Round), (vi a1.Type_.Over), (vs a2 a1.Dims.length c1), (vs a3 a1.Vals.length c2)]), (Value.agg #[(vi b1.Type_.Kind), (vi b1.Type_.Bits), (vi b1.Type_.Frac), (vi b1.Type_.Round), (vi b1.Type_.Over), (vs a4 b1.Dims.length c3), (vs a5 b1.Vals.length c4)]), fv1]) Tryz.func34 rfl Tryz.ntmps34 rfl ?_
 rw [m_tensor_Zip_s] at h
 refine sr ?_
 refine l_box (v := (Value.agg #[(vi a1.Type_.Kind), (vi a1.Type_.Bits), (vi a1.Type_.Frac), (vi a1.Type_.Round), (vi a1.Type_.Over), (vs a2 a1.Dims.length c1), (vs a3 a1.Vals.length c2)])) (cs := #[(vi a1.Type_.Kind), (vi a1.Type_.Bits), (vi a1.Type_.Frac), (vi a1.Type_.Round), (vi a1.Type_.Over), (vs a2 a1.Dims.length c1), (vs a3 a1.Vals.length c2)]) hI gn rfl rfl et rfl ?_
 clear hI; intro b2 c7 w1 hI
 obtain ⟨c8, hI⟩ := hI.relBox .z
 refine l_box (v := (Value.agg #[(vi b1.Type_.Kind), (vi b1.Type_.Bits), (vi b1.Type_.Frac), (vi b1.Type_.Round), (vi b1.Type_.Over), (vs a4 b1.Dims.length c3), (vs a5 b1.Vals.length c4)])) (cs := #[(vi b1.Type_.Kind), (vi b1.Type_.Bits), (vi b1.Type_.Frac), (vi b1.Type_.Round), (vi b1.Type_.Over), (vs a4 b1.Dims.length c3), (vs a5 b1.Vals.length c4)]) hI gn rfl rfl et rfl ?_
 clear hI; intro b3 c9 w2 hI
 obtain ⟨c10, hI⟩ := hI.relBox .z
 refine l_alloc (cs := #[(vi 0), (vi 0), (vi 0), (vi 0), (vi 0), (vs none 0 0), (vs none 0 0)]) hI gn rfl rfl zero_27 rfl ?_
 clear hI; intro b4 c11 w3 hI
 refine sac ?_
 refine nk ?_
 refine c_seq ?_
 refine sr ?_
 refine sm ?_
 refine sq (y_eqfn rfl et ev_const Tryz.underlying54 (hI.get (.s (.s (.s (.s (.s (.s .z))))))).1) ?_
 refine nk ?_
 refine c_cond (b := false) et (fun hb => by cases hb) (fun _ => ?_)
 refine c_skip ?_
 refine k_same ?_
 refine c_seq ?_
 refine sr ?_
 refine sq (y_loadN (l := [(vi a1.Type_.Kind), (vi a1.Type_.Bits), (vi a1.Type_.Frac), (vi a1.Type_.Round), (vi a1.Type_.Over), (vs a2 a1.Dims.length c1), (vs a3 a1.Vals.length c2)]) rfl et Tryz.underlying27 rfl size_27 (hI.kblk (l := [(vi a1.Type_.Kind), (vi a1.Type_.Bits), (vi a1.Type_.Frac), (vi a1.Type_.Round), (vi a1.Type_.Over), (vs a2 a1.Dims.length c1), (vs a3 a1.Vals.length c2)]) (.s .z) rfl).1) ?_
 obtain ⟨r1, hx1, h⟩ := bnd_some h
 refine s_call gn rfl (r_callF (vs := [(Value.agg #[(vi a1.Type_.Kind), (vi a1.Type_.Bits), (vi a1.Type_.Frac), (vi a1.Type_.Round), (vi a1.Type_.Over), (vs a2 a1.Dims.length c1), (vs a3 a1.Vals.length c2)])]) rfl ok_25 ⟨et, trivial⟩) (Calls.mono (c_tensor_Validate (Dj F c11) w3 hI.lt a1 a2 c1 a3 c2 ⟨(hI.get (.s (.s .z))), (hI.get (.s (.s (.s .z)))), trivial⟩ r1 hx1) ?_)
 rintro _ w4 ⟨rfl, hx2, hl1⟩
 refine ⟨_, rfl, ?_⟩
 replace hI := (hI.ext hx2)
 refine sa ?_
 refine nk ?_
 refine sr ?_
 refine sm ?_
 refine sq (y_neq rfl et ev_const) ?_
 refine nk ?_
 refine c_cond (b := !decide (r1 = 0)) et (fun hb => ?_) (fun hb => ?_)
 ·replace h := ite_t hb h
  refine sr ?_
  refine sq (y_build (vs := []) (cs := #[(vi 0), (vi 0), (vi 0), (vi 0), (vi 0), (vs none 0 0), (vs none 0 0)]) rfl trivial (by kernel_rfl)) ?_
  refine sm ?_
  refine l_store (new := [(vi 0), (vi 0), (vi 0), (vi 0), (vi 0), (vs none 0 0), (vs none 0 0)]) (cs' := #[(vi 0), (vi 0), (vi 0), (vi 0), (vi 0), (vs none 0 0), (vs none 0 0)]) hI .z gn rfl rfl et et rfl size_27 rfl rfl rfl ?_
  clear hI; intro c12 w5 hI
  refine sa ?_
  refine nk ?_
  refine c_ret ?_
  have hI := hI.add (c := Cl.sl (cInt .i64) none 0 ([] : List Int)) SlC.nil
  have hI := hI.add (c := Cl.sl cGVal none 0 ([] : List GVal)) SlC.nil
  obtain rfl := some_inj h
  exact q_ret (vs := [(Value.agg #[(vi 0), (vi 0), (vi 0), (vi 0), (vi 0), (vs none 0 0), (vs none 0 0)]), (vi r1)]) Tryz.results34 ⟨⟨_, ev_tmp rfl rfl, load_agg (l := [(vi 0), (vi 0), (vi 0), (vi 0), (vi 0), (vs none 0 0), (vs none 0 0)]) Tryz.underlying27 rfl size_27 (CellsAt.of_blk (hI.blk .z) rfl)⟩, ⟨ev_tmp rfl rfl, trivial⟩⟩ ⟨none, 0, none, 0, _, rfl, hI.arr (.c (.s .z) .n) ⟨(.s .z), .z, trivial⟩⟩
 ·replace h := ite_f hb h
  refine c_skip ?_
  refine k_same ?_
  refine c_seq ?_
  refine sr ?_
  refine sq (y_loadN (l := [(vi b1.Type_.Kind), (vi b1.Type_.Bits), (vi b1.Type_.Frac), (vi b1.Type_.Round), (vi b1.Type_.Over), (vs a4 b1.Dims.length c3), (vs a5 b1.Vals.length c4)]) rfl et Tryz.underlying27 rfl size_27 (hI.kblk (l := [(vi b1.Type_.Kind), (vi b1.Type_.Bits), (vi b1.Type_.Frac), (vi b1.Type_.Round), (vi b1.Type_.Over), (vs a4 b1.Dims.length c3), (vs a5 b1.Vals.length c4)]) .z rfl).1) ?_
  obtain ⟨r2, hx3, h⟩ := bnd_some h
  refine s_call gn rfl (r_callF (vs := [(Value.agg #[(vi b1.Type_.Kind), (vi b1.Type_.Bits), (vi b1.Type_.Frac), (vi b1.Type_.Round), (vi b1.Type_.Over), (vs a4 b1.Dims.length c3), (vs a5 b1.Vals.length c4)])]) rfl ok_25 ⟨et, trivial⟩) (Calls.mono (c_tensor_Validate (Dj F c11) w4 hI.lt b1 a4 c3 a5 c4 ⟨(hI.get (.s (.s (.s (.s .z))))), (hI.get (.s (.s (.s (.s (.s .z)))))), trivial⟩ r2 hx3) ?_)
  rintro _ w6 ⟨rfl, hx4, hl2⟩
  refine ⟨_, rfl, ?_⟩
  replace hI := (hI.ext hx4)
  refine sa ?_
  refine nk ?_
  refine sr ?_
  refine sm ?_
  refine sq (y_neq rfl et ev_const) ?_
  refine nk ?_
  refine c_cond (b := !decide (r2 = 0)) et (fun hb => ?_) (fun hb => ?_)
  ·replace h := ite_t hb h
   refine sr ?_
   refine sq (y_build (vs := []) (cs := #[(vi 0), (vi 0), (vi 0), (vi 0), (vi 0), (vs none 0 0), (vs none 0 0)]) rfl trivial (by kernel_rfl)) ?_
   refine sm ?_
   refine l_store (new := [(vi 0), (vi 0), (vi 0), (vi 0), (vi 0), (vs none 0 0), (vs none 0 0)]) (cs' := #[(vi 0), (vi 0), (vi 0), (vi 0), (vi 0), (vs none 0 0), (vs none 0 0)]) hI .z gn rfl rfl et et rfl size_27 rfl rfl rfl ?_
   clear hI; intro c13 w7 hI
   refine sa ?_
   refine nk ?_
   refine c_ret ?_
   have hI := hI.add (c := Cl.sl (cInt .i64) none 0 ([] : List Int)) SlC.nil
   have hI := hI.add (c := Cl.sl cGVal none 0 ([] : List GVal)) SlC.nil
   obtain rfl := some_inj h
   exact q_ret (vs := [(Value.agg #[(vi 0), (vi 0), (vi 0), (vi 0), (vi 0), (vs none 0 0), (vs none 0 0)]), (vi r2)]) Tryz.results34 ⟨⟨_, ev_tmp rfl rfl, load_agg (l := [(vi 0), (vi 0), (vi 0), (vi 0), (vi 0), (vs none 0 0), (vs none 0 0)]) Tryz.underlying27 rfl size_27 (CellsAt.of_blk (hI.blk .z) rfl)⟩, ⟨ev_tmp rfl rfl, trivial⟩⟩ ⟨none, 0, none, 0, _, rfl, hI.arr (.c (.s .z) .n) ⟨(.s .z), .z, trivial⟩⟩
  ·replace h := ite_f hb h
   refine c_skip ?_
   refine k_same ?_
   refine c_seq ?_
   refine sr ?_
   refine sq (y_fieldAddr rfl et Tryz.underlying27 rfl size_23 rfl) ?_
   refine sq (y_loadN (l := [(vi a1.Type_.Kind), (vi a1.Type_.Bits), (vi a1.Type_.Frac), (vi a1.Type_.Round), (vi a1.Type_.Over)]) rfl et Tryz.underlying23 rfl size_23 (hI.kblk (l := [(vi a1.Type_.Kind), (vi a1.Type_.Bits), (vi a1.Type_.Frac), (vi a1.Type_.Round), (vi a1.Type_.Over)]) (.s .z) rfl).1) ?_
   refine sq (y_fieldAddr rfl et Tryz.underlying27 rfl size_23 rfl) ?_
   refine sq (y_loadN (l := [(vi b1.Type_.Kind), (vi b1.Type_.Bits), (vi b1.Type_.Frac), (vi b1.Type_.Round), (vi b1.Type_.Over)]) rfl et Tryz.underlying23 rfl size_23 (hI.kblk (l := [(vi b1.Type_.Kind), (vi b1.Type_.Bits), (vi b1.Type_.Frac), (vi b1.Type_.Round), (vi b1.Type_.Over)]) .z rfl).1) ?_
   refine sq (y_bin rfl et et (eqstruct_23n ..) (eqguard_23 ..)) ?_
   refine nk ?_
   refine c_cond (b := !((decide (a1.Type_.Kind = b1.Type_.Kind)) && (decide (a1.Type_.Bits = b1.Type_.Bits)) && (decide (a1.Type_.Frac = b1.Type_.Frac)) && (decide (a1.Type_.Round = b1.Type_.Round)) && (decide (a1.Type_.Over = b1.Type_.Over)))) et (fun hb => ?_) (fun hb => ?_)
   ·replace h := ite_t hb h
    refine sr ?_
    refine sq (y_build (vs := []) (cs := #[(vi 0), (vi 0), (vi 0), (vi 0), (vi 0), (vs none 0 0), (vs none 0 0)]) rfl trivial (by kernel_rfl)) ?_
    refine l_store (new := [(vi 0), (vi 0), (vi 0), (vi 0), (vi 0), (vs none 0 0), (vs none 0 0)]) (cs' := #[(vi 0), (vi 0), (vi 0), (vi 0), (vi 0), (vs none 0 0), (vs none 0 0)]) hI .z gn rfl rfl et et rfl size_27 rfl rfl rfl ?_
    clear hI; intro c14 w8 hI
    refine sac ?_
    refine nk ?_
    refine c_ret ?_
    have hI := hI.add (c := Cl.sl (cInt .i64) none 0 ([] : List Int)) SlC.nil
    have hI := hI.add (c := Cl.sl cGVal none 0 ([] : List GVal)) SlC.nil
    obtain rfl := some_inj h
    exact q_ret (vs := [(Value.agg #[(vi 0), (vi 0), (vi 0), (vi 0), (vi 0), (vs none 0 0), (vs none 0 0)]), (vi 10)]) Tryz.results34 ⟨⟨_, ev_tmp rfl rfl, load_agg (l := [(vi 0), (vi 0), (vi 0), (vi 0), (vi 0), (vs none 0 0), (vs none 0 0)]) Tryz.underlying27 rfl size_27 (CellsAt.of_blk (hI.blk .z) rfl)⟩, ⟨ev_tmp rfl rfl, trivial⟩⟩ ⟨none, 0, none, 0, _, rfl, hI.arr (.c (.s .z) .n) ⟨(.s .z), .z, trivial⟩⟩
   ·replace h := ite_f hb h
    refine c_skip ?_
    refine k_same ?_
    refine c_seq ?_
    refine sr ?_
    refine sq (y_fieldAddr rfl et Tryz.underlying27 rfl size_24 rfl) ?_
    refine sq (y_load1 (v := (vs a2 a1.Dims.length c1)) rfl et Tryz.underlying24 rfl (hI.kblk (l := [(vs a2 a1.Dims.length c1)]) (.s .z) rfl).1) ?_
    refine sq (y_fieldAddr rfl et Tryz.underlying27 rfl size_24 rfl) ?_
    refine sq (y_load1 (v := (vs a4 b1.Dims.length c3)) rfl et Tryz.underlying24 rfl (hI.kblk (l := [(vs a4 b1.Dims.length c3)]) .z rfl).1) ?_
    obtain ⟨r3, hx5, h⟩ := bnd_some h
    refine s_call gn rfl (r_callF (vs := [(vs a2 a1.Dims.length c1), (vs a4 b1.Dims.length c3)]) rfl ok_64 ⟨et, ⟨et, trivial⟩⟩) (Calls.mono (c_shape_Same (Dj F c11) w6 hI.lt a1.Dims b1.Dims a2 c1 a4 c3 ⟨(hI.get (.s (.s .z))), (hI.get (.s (.s (.s (.s .z))))), trivial⟩ r3 hx5) ?_)
    rintro _ w9 ⟨rfl, hx6, hl3⟩
    refine ⟨_, rfl, ?_⟩
    replace hI := (hI.ext hx6)
    refine sq (y_not rfl et) ?_
    refine s_nil ?_
    refine k_next (e := [(2, fv1), (3, (vp b2 0)), (4, (vp b3 0)), (6, (vp b4 0)), (41, (vb (!r3)))]) ⟨rfl, rfl, rfl, rfl, rfl, trivial⟩ ?_
    refine c_cond (b := !r3) et (fun hb => ?_) (fun hb => ?_)
    ·replace h := ite_t hb h
     refine sr ?_
     refine sq (y_build (vs := []) (cs := #[(vi 0), (vi 0), (vi 0), (vi 0), (vi 0), (vs none 0 0), (vs none 0 0)]) rfl trivial (by kernel_rfl)) ?_
     refine l_store (new := [(vi 0), (vi 0), (vi 0), (vi 0), (vi 0), (vs none 0 0), (vs none 0 0)]) (cs' := #[(vi 0), (vi 0), (vi 0), (vi 0), (vi 0), (vs none 0 0), (vs none 0 0)]) hI .z gn rfl rfl et et rfl size_27 rfl rfl rfl ?_
     clear hI; intro c15 w10 hI
     refine sac ?_
     refine nk ?_
     refine c_ret ?_
     have hI := hI.add (c := Cl.sl (cInt .i64) none 0 ([] : List Int)) SlC.nil
     have hI := hI.add (c := Cl.sl cGVal none 0 ([] : List GVal)) SlC.nil
     obtain rfl := some_inj h
     exact q_ret (vs := [(Value.agg #[(vi 0), (vi 0), (vi 0), (vi 0), (vi 0), (vs none 0 0), (vs none 0 0)]), (vi 15)]) Tryz.results34 ⟨⟨_, ev_tmp rfl rfl, load_agg (l := [(vi 0), (vi 0), (vi 0), (vi 0), (vi 0), (vs none 0 0), (vs none 0 0)]) Tryz.underlying27 rfl size_27 (CellsAt.of_blk (hI.blk .z) rfl)⟩, ⟨ev_tmp rfl rfl, trivial⟩⟩ ⟨none, 0, none, 0, _, rfl, hI.arr (.c (.s .z) .n) ⟨(.s .z), .z, trivial⟩⟩
    ·replace h := ite_f hb h
     refine c_skip ?_
     refine k_same ?_
     refine sr ?_
     refine sq (y_loadN (l := [(vi a1.Type_.Kind), (vi a1.Type_.Bits), (vi a1.Type_.Frac), (vi a1.Type_.Round), (vi a1.Type_.Over), (vs a2 a1.Dims.length c1), (vs a3 a1.Vals.length c2)]) rfl et Tryz.underlying27 rfl size_27 (hI.kblk (l := [(vi a1.Type_.Kind), (vi a1.Type_.Bits), (vi a1.Type_.Frac), (vi a1.Type_.Round), (vi a1.Type_.Over), (vs a2 a1.Dims.length c1), (vs a3 a1.Vals.length c2)]) (.s .z) rfl).1) ?_
     obtain ⟨c16, f2, hB, hl4, hk1⟩ := hI.hands (.r (.r .n))
     obtain ⟨r4, hx7, h⟩ := bnd_some h
     try dsimp only at h
     refine s_call gn rfl (r_callF (vs := [(Value.agg #[(vi a1.Type_.Kind), (vi a1.Type_.Bits), (vi a1.Type_.Frac), (vi a1.Type_.Round), (vi a1.Type_.Over), (vs a2 a1.Dims.length c1), (vs a3 a1.Vals.length c2)])]) rfl ok_55 ⟨et, trivial⟩) (Calls.mono (c_tensor_clone_o c16 f2 w9 a1 a2 c1 a3 c2 (hB.subs ⟨(.s (.s .z)), (.s (.s (.s .z))), trivial⟩) _ hx7) ?_)
     rintro _ w11 ⟨a8, c17, a9, c18, c19, rfl, hB2⟩
     obtain ⟨c20, hs1, hI⟩ := hk1 _ _ _ _ hB2
     replace hI : Bun C0 F w0 c20 w11 [MO.row (cInt .i64) 3 a8 c17 r4.Dims, MO.row cGVal 36 a9 c18 r4.Vals, MO.box b4 27 #[(vi 0), (vi 0), (vi 0), (vi 0), (vi 0), (vs none 0 0), (vs none 0 0)], MO.st I s1] [Cl.blk b3 27 #[(vi b1.Type_.Kind), (vi b1.Type_.Bits), (vi b1.Type_.Frac), (vi b1.Type_.Round), (vi b1.Type_.Over), (vs a4 b1.Dims.length c3), (vs a5 b1.Vals.length c4)], Cl.blk b2 27 #[(vi a1.Type_.Kind), (vi a1.Type_.Bits), (vi a1.Type_.Frac), (vi a1.Type_.Round), (vi a1.Type_.Over), (vs a2 a1.Dims.length c1), (vs a3 a1.Vals.length c2)], Cl.sl (cInt .i64) a2 c1 a1.Dims, Cl.sl cGVal a3 c2 a1.Vals, Cl.sl (cInt .i64) a4 c3 b1.Dims, Cl.sl cGVal a5 c4 b1.Vals, clFnS_k4 I fv1 f1] := hI
     refine ⟨_, rfl, ?_⟩
     refine l_alloc (cs := #[(vi 0), (vi 0), (vi 0), (vi 0), (vi 0), (vs none 0 0), (vs none 0 0)]) hI gn rfl rfl zero_27 rfl ?_
     clear hI; intro b5 c21 w12 hI
     refine l_store (new := [(vi r4.Type_.Kind), (vi r4.Type_.Bits), (vi r4.Type_.Frac), (vi r4.Type_.Round), (vi r4.Type_.Over), (vs a8 r4.Dims.length c17), (vs a9 r4.Vals.length c18)]) (cs' := #[(vi r4.Type_.Kind), (vi r4.Type_.Bits), (vi r4.Type_.Frac), (vi r4.Type_.Round), (vi r4.Type_.Over), (vs a8 r4.Dims.length c17), (vs a9 r4.Vals.length c18)]) hI .z gn rfl rfl et et rfl size_27 rfl rfl rfl ?_
     clear hI; intro c22 w13 hI
     refine nk ?_
     refine c_seq ?_
     refine sr ?_
     refine sq (y_fieldAddr rfl et Tryz.underlying27 rfl size_25 rfl) ?_
     refine sq (y_load1 (v := (vs a3 a1.Vals.length c2)) rfl et Tryz.underlying25 rfl (hI.kblk (l := [(vs a3 a1.Vals.length c2)]) (.s .z) rfl).1) ?_
     refine sq (y_lenl rfl Tryz.underlying25 et) ?_
     refine sq (y_move rfl ev_const) ?_
     refine nk ?_
     refine c_block ?_
     refine c_loop (α := Nat × Int × GTensor × σ × (Option Addr) × Nat × (Option Addr) × Nat) (fun x => fun w => ∃ C, Bun C0 F w0 C w [MO.row (cInt .i64) 3 (x.2.2.2.2.1) (x.2.2.2.2.2.1) (x.2.2.1).Dims, MO.row cGVal 36 (x.2.2.2.2.2.2.1) (x.2.2.2.2.2.2.2) (x.2.2.1).Vals, MO.st I (x.2.2.2.1), MO.box b4 27 #[(vi 0), (vi 0), (vi 0), (vi 0), (vi 0), (vs none 0 0), (vs none 0 0)], MO.box b5 27 #[(vi (x.2.2.1).Type_.Kind), (vi (x.2.2.1).Type_.Bits), (vi (x.2.2.1).Type_.Frac), (vi (x.2.2.1).Type_.Round), (vi (x.2.2.1).Type_.Over), (vs (x.2.2.2.2.1) (x.2.2.1).Dims.length (x.2.2.2.2.2.1)), (vs (x.2.2.2.2.2.2.1) (x.2.2.1).Vals.length (x.2.2.2.2.2.2.2))]] [clFnS_k4 I fv1 f1, Cl.blk b2 27 #[(vi a1.Type_.Kind), (vi a1.Type_.Bits), (vi a1.Type_.Frac), (vi a1.Type_.Round), (vi a1.Type_.Over), (vs a2 a1.Dims.length c1), (vs a3 a1.Vals.length c2)], Cl.sl (cInt .i64) a2 c1 a1.Dims, Cl.sl cGVal a3 c2 a1.Vals, Cl.blk b3 27 #[(vi b1.Type_.Kind), (vi b1.Type_.Bits), (vi b1.Type_.Frac), (vi b1.Type_.Round), (vi b1.Type_.Over), (vs a4 b1.Dims.length c3), (vs a5 b1.Vals.length c4)], Cl.sl (cInt .i64) a4 c3 b1.Dims, Cl.sl cGVal a5 c4 b1.Vals] ∧ m_tensor_Zip_s_l1 a1 b1 f1 (x.1) (x.2.1) (x.2.2.1) (x.2.2.2.1) = some r) (fun x _ => x.1) (fun x => [(2, fv1), (3, (vp b2 0)), (4, (vp b3 0)), (6, (vp b4 0)), (10, (vp b5 0)), (46, (vs a3 a1.Vals.length c2)), (47, (vi (a1.Vals.length : Int))), (48, (vi (x.2.1)))]) (fu, 0, r4, s1, a8, c17, a9, c18) ⟨_, hI.arr (.c (.s .z) (.c (.s .z) (.c (.s (.s .z)) (.c (.s .z) (.c .z .n))))) ⟨(.s (.s (.s (.s (.s (.s .z)))))), (.s .z), (.s (.s .z)), (.s (.s (.s .z))), .z, (.s (.s (.s (.s .z)))), (.s (.s (.s (.s (.s .z))))), trivial⟩, h⟩ ⟨rfl, rfl, rfl, rfl, rfl, rfl, rfl, rfl, trivial⟩ ?_
     clear h hI; rintro ⟨fuel1, i1, out1, s2, a10, c23, a11, c24⟩ w14 ⟨c25, hI, h⟩
     dsimp only at hI h
     rcases fuel1 with _ | fuel1
     ·rw [m_tensor_Zip_s_l1] at h; cases h
     rw [m_tensor_Zip_s_l1] at h
     refine c_sub (e := [(2, fv1), (3, (vp b2 0)), (4, (vp b3 0)), (6, (vp b4 0)), (10, (vp b5 0)), (46, (vs a3 a1.Vals.length c2)), (47, (vi (a1.Vals.length : Int))), (48, (vi i1))]) ⟨rfl, rfl, rfl, rfl, rfl, rfl, rfl, rfl, trivial⟩ ?_
     refine sr ?_
     refine sq (y_lss rfl et et) ?_
     refine nk ?_
     refine c_seq ?_
     refine c_cond (b := decide (i1 < (a1.Vals.length : Int))) et (fun hb => ?_) (fun hb => ?_)
     ·replace h := ite_t hb h
      refine c_skip ?_
      refine k_same ?_
      refine c_seq ?_
      refine c_block ?_
      refine sr ?_
      refine sm ?_
      obtain ⟨e1, hx8, h⟩ := bnd_some h
      obtain ⟨ad1, cs1, hA1, hr1, hq1⟩ := hI.clat (.s (.s (.s .z))) hx8
      obtain rfl : cs1 = [(vi e1.N), (vi e1.D)] := hr1
      refine sq (y_indexAddr rfl Tryz.underlying25 size_36 et et (lat_bd hx8) hA1) ?_
      refine sq (y_loadN (l := [(vi e1.N), (vi e1.D)]) rfl et Tryz.underlying36 rfl size_36 hq1.1) ?_
      refine l_alloc (cs := #[(vi 0), (vi 0)]) hI gn rfl rfl zero_36 rfl ?_
      clear hI; intro b6 c26 w15 hI
      refine sa ?_
      refine l_store (new := [(vi e1.N), (vi e1.D)]) (cs' := #[(vi e1.N), (vi e1.D)]) hI .z gn rfl rfl et et rfl size_36 rfl rfl rfl ?_
      clear hI; intro c27 w16 hI
      refine nk ?_
      refine c_seq ?_
      obtain ⟨e2, hx9, h⟩ := bnd_some h
      obtain ⟨⟨r5, s3⟩, hx10, h⟩ := bnd_some h
      try dsimp only at h
      refine c_drawX [7, 12] false (.c (0, .q) (.c (1, .q) (.c (2, .q) (.c (3, .q) (.c (4, .q) (.c (5, .q) (.c (6, .q) (.two 7 (.c (8, .q) (.c (9, .q) (.c (10, .q) (.c (11, .s) tr_tensor_Zip_s_3_0)))) 11 (.c (7, .s) (.c (8, .q) (.c (9, .q) (.c (10, .q) tr_tensor_Zip_s_3_0)))))))))))) hI (by kernel_rfl) (by kernel_rfl) ?_
      clear hI; intro w21 hI
      refine a_join (α := Nat × NP) (T := tr_tensor_Zip_s_3_0) (fun x => [(2, fv1), (3, (vp b2 0)), (4, (vp b3 0)), (6, (vp b4 0)), (10, (vp b5 0)), (11, (vi i1)), (12, (vp b6 0)), (13, (Value.pointer (some ⟨(x.1), 0, none⟩))), (46, (vs a3 a1.Vals.length c2)), (47, (vi (a1.Vals.length : Int))), (48, (vi i1)), (49, (vb (decide (i1 < (a1.Vals.length : Int))))), (50, (vi i1)), (52, (Value.agg #[(vi e1.N), (vi e1.D)])), (53, (Value.tuple #[(Value.agg #[(vi r5.1.N), (vi r5.1.D)]), (vi r5.2)])), (54, fv1), (55, (Value.agg #[(vi e1.N), (vi e1.D)])), (56, (vp b3 6)), (57, (vs a5 b1.Vals.length c4)), (58, (vi i1)), (60, (Value.agg #[(vi e2.N), (vi e2.D)])), (61, (Value.tuple #[(Value.agg #[(vi r5.1.N), (vi r5.1.D)]), (vi r5.2)])), (62, (Value.agg #[(vi r5.1.N), (vi r5.1.D)])), (63, (vi r5.2))]) (fun x w => Bun C0 F w0 (x.2) w [MO.st I s3, MO.box (x.1) 36 #[(vi 0), (vi 0)], MO.box b6 36 #[(vi e1.N), (vi e1.D)], MO.row (cInt .i64) 3 a10 c23 out1.Dims, MO.row cGVal 36 a11 c24 out1.Vals, MO.box b4 27 #[(vi 0), (vi 0), (vi 0), (vi 0), (vi 0), (vs none 0 0), (vs none 0 0)], MO.box b5 27 #[(vi out1.Type_.Kind), (vi out1.Type_.Bits), (vi out1.Type_.Frac), (vi out1.Type_.Round), (vi out1.Type_.Over), (vs a10 out1.Dims.length c23), (vs a11 out1.Vals.length c24)]] [clFnS_k4 I fv1 f1, Cl.blk b2 27 #[(vi a1.Type_.Kind), (vi a1.Type_.Bits), (vi a1.Type_.Frac), (vi a1.Type_.Round), (vi a1.Type_.Over), (vs a2 a1.Dims.length c1), (vs a3 a1.Vals.length c2)], Cl.sl (cInt .i64) a2 c1 a1.Dims, Cl.sl cGVal a3 c2 a1.Vals, Cl.blk b3 27 #[(vi b1.Type_.Kind), (vi b1.Type_.Bits), (vi b1.Type_.Frac), (vi b1.Type_.Round), (vi b1.Type_.Over), (vs a4 b1.Dims.length c3), (vs a5 b1.Vals.length c4)], Cl.sl (cInt .i64) a4 c3 b1.Dims, Cl.sl cGVal a5 c4 b1.Vals]) (fun x w => SN [] (DM true F (x.2)) w) ?_ ?_
      ·clear hI; rintro ⟨b7, c33⟩ w20 hI
       try dsimp only at hI ⊢
       unfold tr_tensor_Zip_s_3_0
       refine la_store (new := [(vi r5.1.N), (vi r5.1.D)]) (cs' := #[(vi r5.1.N), (vi r5.1.D)]) hI (.s .z) rfl gn rfl rfl et et rfl size_36 rfl rfl rfl ?_
       clear hI; intro c32 w19 hI
       refine a_q rfl gn rfl (fun w' => (y_assign rfl et)) ?_
       refine a_nil ?_
       refine k_same ?_
       refine c_seq ?_
       refine sr ?_
       refine sm ?_
       refine sq (y_neq rfl et ev_const) ?_
       refine nk ?_
       refine c_cond (b := !decide (r5.2 = 0)) et (fun hb => ?_) (fun hb => ?_)
       ·replace h := ite_t hb h
        refine sr ?_
        refine sq (y_build (vs := []) (cs := #[(vi 0), (vi 0), (vi 0), (vi 0), (vi 0), (vs none 0 0), (vs none 0 0)]) rfl trivial (by kernel_rfl)) ?_
        refine sm ?_
        refine l_store (new := [(vi 0), (vi 0), (vi 0), (vi 0), (vi 0), (vs none 0 0), (vs none 0 0)]) (cs' := #[(vi 0), (vi 0), (vi 0), (vi 0), (vi 0), (vs none 0 0), (vs none 0 0)]) hI (.s (.s (.s (.s (.s .z))))) gn rfl rfl et et rfl size_27 rfl rfl rfl ?_
        clear hI; intro c34 w22 hI
        refine sa ?_
        refine s_nil ?_
        refine k_next (e := [(6, (vp b4 0)), (7, (vi r5.2))]) ⟨rfl, rfl, trivial⟩ ?_
        refine c_ret ?_
        have hI := hI.add (c := Cl.sl (cInt .i64) none 0 ([] : List Int)) SlC.nil
        have hI := hI.add (c := Cl.sl cGVal none 0 ([] : List GVal)) SlC.nil
        obtain rfl := some_inj h
        exact q_ret (vs := [(Value.agg #[(vi 0), (vi 0), (vi 0), (vi 0), (vi 0), (vs none 0 0), (vs none 0 0)]), (vi r5.2)]) Tryz.results34 ⟨⟨_, ev_tmp rfl rfl, load_agg (l := [(vi 0), (vi 0), (vi 0), (vi 0), (vi 0), (vs none 0 0), (vs none 0 0)]) Tryz.underlying27 rfl size_27 (CellsAt.of_blk (hI.blk (.s (.s (.s (.s (.s .z)))))) rfl)⟩, ⟨ev_tmp rfl rfl, trivial⟩⟩ ⟨none, 0, none, 0, _, rfl, hI.arr (.c .z .n) ⟨(.s .z), .z, trivial⟩⟩
       ·replace h := ite_f hb h
        refine c_skip ?_
        refine k_same ?_
        refine c_seq ?_
        refine sr ?_
        refine sq (y_fieldAddr rfl et Tryz.underlying27 rfl size_23 rfl) ?_
        refine sq (y_loadN (l := [(vi a1.Type_.Kind), (vi a1.Type_.Bits), (vi a1.Type_.Frac), (vi a1.Type_.Round), (vi a1.Type_.Over)]) rfl et Tryz.underlying23 rfl size_23 (hI.kblk (l := [(vi a1.Type_.Kind), (vi a1.Type_.Bits), (vi a1.Type_.Frac), (vi a1.Type_.Round), (vi a1.Type_.Over)]) (.s .z) rfl).1) ?_
        refine sq (y_loadN (l := [(vi r5.1.N), (vi r5.1.D)]) rfl et Tryz.underlying36 rfl size_36 (CellsAt.of_blk (hI.blk (.s .z)) rfl)) ?_
        obtain ⟨r6, hx11, h⟩ := bnd_some h
        refine s_call gn rfl (r_callF (vs := [(Value.agg #[(vi a1.Type_.Kind), (vi a1.Type_.Bits), (vi a1.Type_.Frac), (vi a1.Type_.Round), (vi a1.Type_.Over)]), (Value.agg #[(vi r5.1.N), (vi r5.1.D)])]) rfl ok_54 ⟨et, ⟨et, trivial⟩⟩) (Calls.mono (c_value_Valid (Dj F c32) w19 hI.lt a1.Type_ r5.1 trivial r6 hx11) ?_)
        rintro _ w23 ⟨rfl, hx12, hl6⟩
        refine ⟨_, rfl, ?_⟩
        replace hI := (hI.ext hx12)
        refine sq (y_not rfl et) ?_
        refine nk ?_
        refine c_cond (b := !r6) et (fun hb => ?_) (fun hb => ?_)
        ·replace h := ite_t hb h
         refine sr ?_
         refine sq (y_build (vs := []) (cs := #[(vi 0), (vi 0), (vi 0), (vi 0), (vi 0), (vs none 0 0), (vs none 0 0)]) rfl trivial (by kernel_rfl)) ?_
         refine l_store (new := [(vi 0), (vi 0), (vi 0), (vi 0), (vi 0), (vs none 0 0), (vs none 0 0)]) (cs' := #[(vi 0), (vi 0), (vi 0), (vi 0), (vi 0), (vs none 0 0), (vs none 0 0)]) hI (.s (.s (.s (.s (.s .z))))) gn rfl rfl et et rfl size_27 rfl rfl rfl ?_
         clear hI; intro c35 w24 hI
         refine sac ?_
         refine s_nil ?_
         refine k_next (e := [(6, (vp b4 0)), (7, (vi 1))]) ⟨rfl, rfl, trivial⟩ ?_
         refine c_ret ?_
         have hI := hI.add (c := Cl.sl (cInt .i64) none 0 ([] : List Int)) SlC.nil
         have hI := hI.add (c := Cl.sl cGVal none 0 ([] : List GVal)) SlC.nil
         obtain rfl := some_inj h
         exact q_ret (vs := [(Value.agg #[(vi 0), (vi 0), (vi 0), (vi 0), (vi 0), (vs none 0 0), (vs none 0 0)]), (vi 1)]) Tryz.results34 ⟨⟨_, ev_tmp rfl rfl, load_agg (l := [(vi 0), (vi 0), (vi 0), (vi 0), (vi 0), (vs none 0 0), (vs none 0 0)]) Tryz.underlying27 rfl size_27 (CellsAt.of_blk (hI.blk (.s (.s (.s (.s (.s .z)))))) rfl)⟩, ⟨ev_tmp rfl rfl, trivial⟩⟩ ⟨none, 0, none, 0, _, rfl, hI.arr (.c .z .n) ⟨(.s .z), .z, trivial⟩⟩
        ·replace h := ite_f hb h
         refine c_skip ?_
         refine k_same ?_
         refine c_region rfl ?_
         refine sq (y_fieldAddr rfl et Tryz.underlying27 rfl size_25 rfl) ?_
         refine sq (y_load1 (v := (vs a11 out1.Vals.length c24)) rfl et Tryz.underlying25 rfl (CellsAt.of_blk (hI.blk (.s (.s (.s (.s (.s (.s .z))))))) rfl)) ?_
         refine sm ?_
         refine sq (y_loadN (l := [(vi r5.1.N), (vi r5.1.D)]) rfl et Tryz.underlying36 rfl size_36 (CellsAt.of_blk (hI.blk (.s .z)) rfl)) ?_
         obtain ⟨ho1, h⟩ := chk_some h
         obtain ⟨ad3, hA3⟩ := hI.addr (.s (.s (.s (.s .z)))) ho1
         refine sq (y_indexAddr rfl Tryz.underlying25 size_36 et et ho1 hA3) ?_
         refine l_storeRow (p := Int.toNat i1) (new := [(vi r5.1.N), (vi r5.1.D)]) (off := 0) (x' := r5.1) hI (.s (.s (.s (.s .z)))) gn rfl rfl (by have := ho1; omega) hA3 rfl et et rfl size_36 rfl (by show 0 + 2 ≤ 2; omega) (fun _ cs0 _ hr0 => by rw [spl_full (by have e := Cod.len _ hr0; exact e)]; exact rfl) ?_
         clear hI; intro c36 w25 hI
         refine s_nil ?_
         replace hI : Bun C0 F w0 c36 w25 [MO.st I s3, MO.box b7 36 #[(vi r5.1.N), (vi r5.1.D)], MO.box b6 36 #[(vi e1.N), (vi e1.D)], MO.row (cInt .i64) 3 a10 c23 out1.Dims, MO.row cGVal 36 a11 c24 (out1.Vals.set (Int.toNat i1) r5.1), MO.box b4 27 #[(vi 0), (vi 0), (vi 0), (vi 0), (vi 0), (vs none 0 0), (vs none 0 0)], MO.box b5 27 #[(vi out1.Type_.Kind), (vi out1.Type_.Bits), (vi out1.Type_.Frac), (vi out1.Type_.Round), (vi out1.Type_.Over), (vs a10 out1.Dims.length c23), (vs a11 (out1.Vals.set (Int.toNat i1) r5.1).length c24)]] [clFnS_k4 I fv1 f1, Cl.blk b2 27 #[(vi a1.Type_.Kind), (vi a1.Type_.Bits), (vi a1.Type_.Frac), (vi a1.Type_.Round), (vi a1.Type_.Over), (vs a2 a1.Dims.length c1), (vs a3 a1.Vals.length c2)], Cl.sl (cInt .i64) a2 c1 a1.Dims, Cl.sl cGVal a3 c2 a1.Vals, Cl.blk b3 27 #[(vi b1.Type_.Kind), (vi b1.Type_.Bits), (vi b1.Type_.Frac), (vi b1.Type_.Round), (vi b1.Type_.Over), (vs a4 b1.Dims.length c3), (vs a5 b1.Vals.length c4)], Cl.sl (cInt .i64) a4 c3 b1.Dims, Cl.sl cGVal a5 c4 b1.Vals] := by simpa only [List.length_set, List.cons_append, List.nil_append] using hI
         refine k_next (e := [(2, fv1), (3, (vp b2 0)), (4, (vp b3 0)), (6, (vp b4 0)), (10, (vp b5 0)), (46, (vs a3 a1.Vals.length c2)), (47, (vi (a1.Vals.length : Int))), (48, (vi i1))]) ⟨rfl, rfl, rfl, rfl, rfl, rfl, rfl, rfl, trivial⟩ ?_
         refine c_region rfl ?_
         refine sq (y_add rfl et ev_const) ?_
         refine sm ?_
         refine s_nil ?_
         exact k_loop (fuel1, wi64 (i1 + 1), (⟨out1.Type_, out1.Dims, out1.Vals.set (Int.toNat i1) r5.1⟩ : GTensor), s3, a10, c23, a11, c24) ⟨rfl, rfl, rfl, rfl, rfl, rfl, rfl, rfl, trivial⟩ ⟨_, hI.arr (.c (.s (.s (.s .z))) (.c (.s (.s (.s .z))) (.c .z (.c (.s (.s .z)) (.c (.s (.s .z)) .n))))) ⟨.z, (.s .z), (.s (.s .z)), (.s (.s (.s .z))), (.s (.s (.s (.s .z)))), (.s (.s (.s (.s (.s .z))))), (.s (.s (.s (.s (.s (.s .z)))))), trivial⟩, h⟩ (Nat.lt_succ_self _)
      intro hk_tr_tensor_Zip_s_3_0
      refine a_q rfl gn rfl (fun w' => (y_move rfl et)) ?_
      refine a_read rfl gn rfl (fun w' hw' => (y_loadN (l := [(vi e1.N), (vi e1.D)]) rfl et Tryz.underlying36 rfl size_36 ((CA.blk (hI.blk .z) rfl).at_ (SX.any rfl hw')))) (by kernel_rfl) ?_
      refine a_q rfl gn rfl (fun w' => (y_fieldAddr rfl et Tryz.underlying27 rfl size_25 rfl)) ?_
      refine a_read rfl gn rfl (fun w' hw' => (y_load1 (v := (vs a5 b1.Vals.length c4)) rfl et Tryz.underlying25 rfl ((hI.kblk (l := [(vs a5 b1.Vals.length c4)]) (.s (.s (.s (.s .z)))) rfl).at_ (SX.any rfl hw')))) (by kernel_rfl) ?_
      refine a_q rfl gn rfl (fun w' => (y_move rfl et)) ?_
      obtain ⟨ad2, cs2, hA2, hr2, hq2⟩ := hI.clat (.s (.s (.s (.s (.s (.s .z)))))) hx9
      obtain rfl : cs2 = [(vi e2.N), (vi e2.D)] := hr2
      refine a_q rfl gn rfl (fun w' => (y_indexAddr rfl Tryz.underlying25 size_36 et et (lat_bd hx9) hA2)) ?_
      refine a_read rfl gn rfl (fun w' hw' => (y_loadN (l := [(vi e2.N), (vi e2.D)]) rfl et Tryz.underlying36 rfl size_36 (hq2.at_ (SX.any rfl hw')))) (by kernel_rfl) ?_
      refine a_two ?_ ?_
      ·skip
       refine a_turnT (F := F) (C := c27) rfl rfl ?_
       obtain ⟨c28, f3, hB, hl5, hk2⟩ := hI.hands (.r (.r (.r (.l (.r (.r .n))))))
       refine la_callV (args := [(Value.agg #[(vi e1.N), (vi e1.D)]), (Value.agg #[(vi e2.N), (vi e2.D)])]) rfl gn rfl rfl et ⟨et, ⟨et, trivial⟩⟩ (CallV.mono ((hI.get .z).2 c28 f3 w21 (Sp.less hl5) e1 e2 s2 _ (hB.subs trivial) hx10) ?_)
       rintro _ w17 ⟨c29, rfl, hB2⟩
       obtain ⟨c30, hs2, hI⟩ := hk2 _ _ _ _ hB2
       replace hI : Bun C0 F w0 c30 w17 [MO.st I s3, MO.box b6 36 #[(vi e1.N), (vi e1.D)], MO.row (cInt .i64) 3 a10 c23 out1.Dims, MO.row cGVal 36 a11 c24 out1.Vals, MO.box b4 27 #[(vi 0), (vi 0), (vi 0), (vi 0), (vi 0), (vs none 0 0), (vs none 0 0)], MO.box b5 27 #[(vi out1.Type_.Kind), (vi out1.Type_.Bits), (vi out1.Type_.Frac), (vi out1.Type_.Round), (vi out1.Type_.Over), (vs a10 out1.Dims.length c23), (vs a11 out1.Vals.length c24)]] [clFnS_k4 I fv1 f1, Cl.blk b2 27 #[(vi a1.Type_.Kind), (vi a1.Type_.Bits), (vi a1.Type_.Frac), (vi a1.Type_.Round), (vi a1.Type_.Over), (vs a2 a1.Dims.length c1), (vs a3 a1.Vals.length c2)], Cl.sl (cInt .i64) a2 c1 a1.Dims, Cl.sl cGVal a3 c2 a1.Vals, Cl.blk b3 27 #[(vi b1.Type_.Kind), (vi b1.Type_.Bits), (vi b1.Type_.Frac), (vi b1.Type_.Round), (vi b1.Type_.Over), (vs a4 b1.Dims.length c3), (vs a5 b1.Vals.length c4)], Cl.sl (cInt .i64) a4 c3 b1.Dims, Cl.sl cGVal a5 c4 b1.Vals] := hI
       refine ⟨_, rfl, DM true F c30, hs2, ?_⟩
       refine a_q rfl gn rfl (fun w' => (y_move rfl et)) ?_
       refine a_q rfl gn rfl (fun w' => (y_extract rfl et rfl)) ?_
       refine a_q rfl gn rfl (fun w' => (y_extract rfl et rfl)) ?_
       refine la_alloc (cs := #[(vi 0), (vi 0)]) hI rfl gn rfl rfl zero_36 rfl ?_
       clear hI; intro b7 c31 w18 hI
       exact a_sub (hk_tr_tensor_Zip_s_3_0 (b7, c31) _ (hI.arr (.c (.s .z) (.c .z (.c .z (.c .z (.c .z (.c .z (.c .z .n))))))) ⟨.z, (.s .z), (.s (.s .z)), (.s (.s (.s .z))), (.s (.s (.s (.s .z)))), (.s (.s (.s (.s (.s .z))))), (.s (.s (.s (.s (.s (.s .z)))))), trivial⟩)) ⟨rfl, rfl, rfl, rfl, rfl, rfl, rfl, rfl, rfl, rfl, rfl, rfl, rfl, rfl, rfl, rfl, rfl, rfl, rfl, rfl, rfl, rfl, rfl, rfl, trivial⟩
      ·skip
       refine la_alloc (cs := #[(vi 0), (vi 0)]) hI rfl gn rfl rfl zero_36 rfl ?_
       clear hI; intro b7 c31 w18 hI
       refine a_turn (F := F) (C := c31) rfl rfl ?_
       obtain ⟨c28, f3, hB, hl5, hk2⟩ := hI.hands (.r (.r (.r (.r (.l (.r (.r .n)))))))
       refine la_callV (args := [(Value.agg #[(vi e1.N), (vi e1.D)]), (Value.agg #[(vi e2.N), (vi e2.D)])]) rfl gn rfl rfl et ⟨et, ⟨et, trivial⟩⟩ (CallV.mono ((hI.get .z).2 c28 f3 w18 (Sp.less hl5) e1 e2 s2 _ (hB.subs trivial) hx10) ?_)
       rintro _ w17 ⟨c29, rfl, hB2⟩
       obtain ⟨c30, hs2, hI⟩ := hk2 _ _ _ _ hB2
       replace hI : Bun C0 F w0 c30 w17 [MO.st I s3, MO.box b7 36 #[(vi 0), (vi 0)], MO.box b6 36 #[(vi e1.N), (vi e1.D)], MO.row (cInt .i64) 3 a10 c23 out1.Dims, MO.row cGVal 36 a11 c24 out1.Vals, MO.box b4 27 #[(vi 0), (vi 0), (vi 0), (vi 0), (vi 0), (vs none 0 0), (vs none 0 0)], MO.box b5 27 #[(vi out1.Type_.Kind), (vi out1.Type_.Bits), (vi out1.Type_.Frac), (vi out1.Type_.Round), (vi out1.Type_.Over), (vs a10 out1.Dims.length c23), (vs a11 out1.Vals.length c24)]] [clFnS_k4 I fv1 f1, Cl.blk b2 27 #[(vi a1.Type_.Kind), (vi a1.Type_.Bits), (vi a1.Type_.Frac), (vi a1.Type_.Round), (vi a1.Type_.Over), (vs a2 a1.Dims.length c1), (vs a3 a1.Vals.length c2)], Cl.sl (cInt .i64) a2 c1 a1.Dims, Cl.sl cGVal a3 c2 a1.Vals, Cl.blk b3 27 #[(vi b1.Type_.Kind), (vi b1.Type_.Bits), (vi b1.Type_.Frac), (vi b1.Type_.Round), (vi b1.Type_.Over), (vs a4 b1.Dims.length c3), (vs a5 b1.Vals.length c4)], Cl.sl (cInt .i64) a4 c3 b1.Dims, Cl.sl cGVal a5 c4 b1.Vals] := hI
       refine ⟨_, rfl, DM true F c30, hs2, ?_⟩
       refine a_q rfl gn rfl (fun w' => (y_move rfl et)) ?_
       refine a_q rfl gn rfl (fun w' => (y_extract rfl et rfl)) ?_
       refine a_q rfl gn rfl (fun w' => (y_extract rfl et rfl)) ?_
       exact a_sub (hk_tr_tensor_Zip_s_3_0 (b7, c30) _ (hI.arr (.c .z (.c .z (.c .z (.c .z (.c .z (.c .z (.c .z .n))))))) ⟨.z, (.s .z), (.s (.s .z)), (.s (.s (.s .z))), (.s (.s (.s (.s .z)))), (.s (.s (.s (.s (.s .z))))), (.s (.s (.s (.s (.s (.s .z)))))), trivial⟩)) ⟨rfl, rfl, rfl, rfl, rfl, rfl, rfl, rfl, rfl, rfl, rfl, rfl, rfl, rfl, rfl, rfl, rfl, rfl, rfl, rfl, rfl, rfl, rfl, rfl, trivial⟩
     ·replace h := ite_f hb h
      refine c_exit ?_
      refine k_in ?_
      refine k_same ?_
      refine sr ?_
      refine sq (y_loadN (l := [(vi out1.Type_.Kind), (vi out1.Type_.Bits), (vi out1.Type_.Frac), (vi out1.Type_.Round), (vi out1.Type_.Over), (vs a10 out1.Dims.length c23), (vs a11 out1.Vals.length c24)]) rfl et Tryz.underlying27 rfl size_27 (CellsAt.of_blk (hI.blk (.s (.s (.s (.s .z))))) rfl)) ?_
      refine l_store (new := [(vi out1.Type_.Kind), (vi out1.Type_.Bits), (vi out1.Type_.Frac), (vi out1.Type_.Round), (vi out1.Type_.Over), (vs a10 out1.Dims.length c23), (vs a11 out1.Vals.length c24)]) (cs' := #[(vi out1.Type_.Kind), (vi out1.Type_.Bits), (vi out1.Type_.Frac), (vi out1.Type_.Round), (vi out1.Type_.Over), (vs a10 out1.Dims.length c23), (vs a11 out1.Vals.length c24)]) hI (.s (.s (.s .z))) gn rfl rfl et et rfl size_27 rfl rfl rfl ?_
      clear hI; intro c37 w26 hI
      refine sac ?_
      refine nk ?_
      refine c_ret ?_
      obtain ⟨c38, hI⟩ := hI.release .z
      obtain ⟨c39, hI⟩ := hI.release .z
      obtain rfl := some_inj h
      exact q_ret (vs := [(Value.agg #[(vi out1.Type_.Kind), (vi out1.Type_.Bits), (vi out1.Type_.Frac), (vi out1.Type_.Round), (vi out1.Type_.Over), (vs a10 out1.Dims.length c23), (vs a11 out1.Vals.length c24)]), (vi 0)]) Tryz.results34 ⟨⟨_, ev_tmp rfl rfl, load_agg (l := [(vi out1.Type_.Kind), (vi out1.Type_.Bits), (vi out1.Type_.Frac), (vi out1.Type_.Round), (vi out1.Type_.Over), (vs a10 out1.Dims.length c23), (vs a11 out1.Vals.length c24)]) Tryz.underlying27 rfl size_27 (CellsAt.of_blk (hI.blk (.s .z)) rfl)⟩, ⟨ev_tmp rfl rfl, trivial⟩⟩ ⟨a10, c23, a11, c24, _, rfl, hI.arr (.c .z .n) ⟨(.s .z), .z, trivial⟩⟩

set_option maxRecDepth 100000 in
set_option maxHeartbeats 4000000 in
theorem c_law12_TensorZips_1_w (C0 F : NP) (w0 : World) (x1 : GVal) (y1 : GVal) (a1 : Int) (a2 : GTensor) (a5 : Int) (a6 : Int) (b1 : Nat) (b2 : Nat) (a3 : Option Addr) (c1 : Nat) (a4 : Option Addr) (c2 : Nat) (b3 : Nat) (b4 : Nat) (hI : Bun C0 F w0 C0 w0 [MO.box b1 3 #[(vi a1)]] [Cl.sl (cInt .i64) a3 c1 a2.Dims, Cl.sl cGVal a4 c2 a2.Vals, Cl.blk b2 27 #[(vi a2.Type_.Kind), (vi a2.Type_.Bits), (vi a2.Type_.Frac), (vi a2.Type_.Round), (vi a2.Type_.Over), (vs a3 a2.Dims.length c1), (vs a4 a2.Vals.length c2)], Cl.blk b3 3 #[(vi a5)], Cl.blk b4 3 #[(vi a6)]]) (r : (GVal × Int) × Int)
  (h : m_law12_TensorZips_1_w x1 y1 a1 a2 a5 a6 = some r) :
  Calls Tryz.prog 35 #[(Value.agg #[(vi x1.N), (vi x1.D)]), (Value.agg #[(vi y1.N), (vi y1.D)]), (vp b1 0), (vp b2 0), (vp b3 0), (vp b4 0)] w0 fun e w => ∃ (C : NP), e = .returned (Value.tuple #[(Value.agg #[(vi r.1.1.N), (vi r.1.1.D)]), (vi r.1.2)]) ∧ Bun C0 F w0 C w [MO.box b1 3 #[(vi r.2)]] [] := by
 refine enterK (l := [(Value.agg #[(vi x1.N), (vi x1.D)]), (Value.agg #[(vi y1.N), (vi y1.D)]), (vp b1 0), (vp b2 0), (vp b3 0), (vp b4 0)]) Tryz.func35 rfl Tryz.ntmps35 rfl ?_
 rw [m_law12_TensorZips_1_w] at h
 refine sr ?_
 refine l_box (v := (Value.agg #[(vi x1.N), (vi x1.D)])) (cs := #[(vi x1.N), (vi x1.D)]) hI gn rfl rfl et rfl ?_
 clear hI; intro b5 c3 w1 hI
 obtain ⟨c4, hI⟩ := hI.relBox .z
 refine l_box (v := (Value.agg #[(vi y1.N), (vi y1.D)])) (cs := #[(vi y1.N), (vi y1.D)]) hI gn rfl rfl et rfl ?_
 clear hI; intro b6 c5 w2 hI
 obtain ⟨c6, hI⟩ := hI.relBox .z
 refine l_alloc (cs := #[(vi 0), (vi 0)]) hI gn rfl rfl zero_36 rfl ?_
 clear hI; intro b7 c7 w3 hI
 refine sac ?_
 refine nk ?_
 refine sr ?_
 refine sq (y_load1 (v := (vi a1)) rfl et Tryz.underlying3 rfl (CellsAt.of_blk (hI.blk (.s .z)) rfl)) ?_
 refine sq (y_add rfl et ev_const) ?_
 refine l_store (new := [(vi (wi64 (a1 + 1)))]) (cs' := #[(vi (wi64 (a1 + 1)))]) hI (.s .z) gn rfl rfl et et rfl size_3 rfl rfl rfl ?_
 clear hI; intro c8 w4 hI
 refine nk ?_
 refine sr ?_
 refine sq (y_fieldAddr rfl et Tryz.underlying27 rfl size_23 rfl) ?_
 refine sq (y_loadN (l := [(vi a2.Type_.Kind), (vi a2.Type_.Bits), (vi a2.Type_.Frac), (vi a2.Type_.Round), (vi a2.Type_.Over)]) rfl et Tryz.underlying23 rfl size_23 (hI.kblk (l := [(vi a2.Type_.Kind), (vi a2.Type_.Bits), (vi a2.Type_.Frac), (vi a2.Type_.Round), (vi a2.Type_.Over)]) (.s (.s (.s (.s .z)))) rfl).1) ?_
 refine sq (y_load1 (v := (vi a5)) rfl et Tryz.underlying3 rfl (hI.kblk (l := [(vi a5)]) (.s (.s (.s (.s (.s .z))))) rfl).1) ?_
 refine sq (y_load1 (v := (vi (wi64 (a1 + 1)))) rfl et Tryz.underlying3 rfl (CellsAt.of_blk (hI.blk (.s .z)) rfl)) ?_
 refine sq (y_sub rfl et ev_const) ?_
 refine sq (y_load1 (v := (vi a6)) rfl et Tryz.underlying3 rfl (hI.kblk (l := [(vi a6)]) (.s (.s (.s (.s (.s (.s .z)))))) rfl).1) ?_
 refine sq (y_eql rfl et et) ?_
 refine sq (y_loadN (l := [(vi x1.N), (vi x1.D)]) rfl et Tryz.underlying36 rfl size_36 (hI.kblk (l := [(vi x1.N), (vi x1.D)]) (.s .z) rfl).1) ?_
 refine sq (y_loadN (l := [(vi y1.N), (vi y1.D)]) rfl et Tryz.underlying36 rfl size_36 (hI.kblk (l := [(vi y1.N), (vi y1.D)]) .z rfl).1) ?_
 obtain ⟨r1, hx1, h⟩ := bnd_some h
 refine s_call gn rfl (r_callF (vs := [(Value.agg #[(vi a2.Type_.Kind), (vi a2.Type_.Bits), (vi a2.Type_.Frac), (vi a2.Type_.Round), (vi a2.Type_.Over)]), (vi a5), (vb (decide (wi64 ((wi64 (a1 + 1)) - 1) = a6))), (Value.agg #[(vi x1.N), (vi x1.D)]), (Value.agg #[(vi y1.N), (vi y1.D)])]) rfl ok_36 ⟨et, ⟨et, ⟨et, ⟨et, ⟨et, trivial⟩⟩⟩⟩⟩) (Calls.mono (c_law12_apply (Dj F c8) w4 hI.lt a2.Type_ a5 (decide (wi64 ((wi64 (a1 + 1)) - 1) = a6)) x1 y1 trivial r1 hx1) ?_)
 rintro _ w5 ⟨rfl, hx2, hl1⟩
 refine ⟨_, rfl, ?_⟩
 replace hI := (hI.ext hx2)
 refine sq (y_extract rfl et rfl) ?_
 refine sq (y_extract rfl et rfl) ?_
 refine l_store (new := [(vi r1.1.N), (vi r1.1.D)]) (cs' := #[(vi r1.1.N), (vi r1.1.D)]) hI .z gn rfl rfl et et rfl size_36 rfl rfl rfl ?_
 clear hI; intro c9 w6 hI
 refine sa ?_
 refine nk ?_
 refine c_ret ?_
 obtain rfl := some_inj h
 exact q_ret (vs := [(Value.agg #[(vi r1.1.N), (vi r1.1.D)]), (vi r1.2)]) Tryz.results35 ⟨⟨_, ev_tmp rfl rfl, load_agg (l := [(vi r1.1.N), (vi r1.1.D)]) Tryz.underlying36 rfl size_36 (CellsAt.of_blk (hI.blk .z) rfl)⟩, ⟨ev_tmp rfl rfl, trivial⟩⟩ ⟨_, rfl, hI.arr (.c (.s .z) .n) trivial⟩

set_option maxRecDepth 100000 in
set_option maxHeartbeats 4000000 in
theorem c_tensor_Zip_o (C0 F : NP) (w0 : World) (a1 : GTensor) (b1 : GTensor) (a2 : Option Addr) (c1 : Nat) (a3 : Option Addr) (c2 : Nat) (a4 : Option Addr) (c3 : Nat) (a5 : Option Addr) (c4 : Nat) (hI : Bun C0 F w0 C0 w0 [] [Cl.sl (cInt .i64) a2 c1 a1.Dims, Cl.sl cGVal a3 c2 a1.Vals, Cl.sl (cInt .i64) a4 c3 b1.Dims, Cl.sl cGVal a5 c4 b1.Vals]) (r : (GTensor × Int))
  (h : m_tensor_Zip_o a1 b1 = some r) :
  Calls Tryz.prog 34 #[(Value.agg #[(vi a1.Type_.Kind), (vi a1.Type_.Bits), (vi a1.Type_.Frac), (vi a1.Type_.Round), (vi a1.Type_.Over), (vs a2 a1.Dims.length c1), (vs a3 a1.Vals.length c2)]), (Value.agg #[(vi b1.Type_.Kind), (vi b1.Type_.Bits), (vi b1.Type_.Frac), (vi b1.Type_.Round), (vi b1.Type_.Over), (vs a4 b1.Dims.length c3), (vs a5 b1.Vals.length c4)]), Value.nilFunc] w0 fun e w => ∃ (a6 : Option Addr) (c5 : Nat) (a7 : Option Addr) (c6 : Nat) (C : NP), e = .returned (Value.tuple #[(Value.agg #[(vi r.1.Type_.Kind), (vi r.1.Type_.Bits), (vi r.1.Type_.Frac), (vi r.1.Type_.Round), (vi r.1.Type_.Over), (vs a6 r.1.Dims.length c5), (vs a7 r.1.Vals.length c6)]), (vi r.2)]) ∧ Bun C0 F w0 C w [] [Cl.sl (cInt .i64) a6 c5 r.1.Dims, Cl.sl cGVal a7 c6 r.1.Vals] := by
 refine enterK (l := [(Value.agg #[(vi a1.Type_.Kind), (vi a1.Type_.Bits), (vi a1.Type_.Frac), (vi a1.Type_.Round), (vi a1.Type_.Over), (vs a2 a1.Dims.length c1), (vs a3 a1.Vals.length c2)]), (Value.agg #[(vi b1.Type_.Kind), (vi b1.Type_.Bits), (vi b1.Type_.Frac), (vi b1.Type_.Round), (vi b1.Type_.Over), (vs a4 b1.Dims.length c3), (vs a5 b1.Vals.length c4)]), Value.nilFunc]) Tryz.func34 rfl Tryz.ntmps34 rfl ?_
 rw [m_tensor_Zip_o] at h
 refine sr ?_
 refine l_box (v := (Value.agg #[(vi a1.Type_.Kind), (vi a1.Type_.Bits), (vi a1.Type_.Frac), (vi a1.Type_.Round), (vi a1.Type_.Over), (vs a2 a1.Dims.length c1), (vs a3 a1.Vals.length c2)])) (cs := #[(vi a1.Type_.Kind), (vi a1.Type_.Bits), (vi a1.Type_.Frac), (vi a1.Type_.Round), (vi a1.Type_.Over), (vs a2 a1.Dims.length c1), (vs a3 a1.Vals.length c2)]) hI gn rfl rfl et rfl ?_
 clear hI; intro b2 c7 w1 hI
 obtain ⟨c8, hI⟩ := hI.relBox .z
 refine l_box (v := (Value.agg #[(vi b1.Type_.Kind), (vi b1.Type_.Bits), (vi b1.Type_.Frac), (vi b1.Type_.Round), (vi b1.Type_.Over), (vs a4 b1.Dims.length c3), (vs a5 b1.Vals.length c4)])) (cs := #[(vi b1.Type_.Kind), (vi b1.Type_.Bits), (vi b1.Type_.Frac), (vi b1.Type_.Round), (vi b1.Type_.Over), (vs a4 b1.Dims.length c3), (vs a5 b1.Vals.length c4)]) hI gn rfl rfl et rfl ?_
 clear hI; intro b3 c9 w2 hI
 obtain ⟨c10, hI⟩ := hI.relBox .z
 refine l_alloc (cs := #[(vi 0), (vi 0), (vi 0), (vi 0), (vi 0), (vs none 0 0), (vs none 0 0)]) hI gn rfl rfl zero_27 rfl ?_
 clear hI; intro b4 c11 w3 hI
 refine sac ?_
 refine nk ?_
 refine c_seq ?_
 refine sr ?_
 refine sm ?_
 refine sq (y_eqfnN rfl et ev_const Tryz.underlying54) ?_
 refine nk ?_
 refine c_cond (b := true) et (fun _ => ?_) (fun hb => by cases hb)
 refine sr ?_
 refine sq (y_build (vs := []) (cs := #[(vi 0), (vi 0), (vi 0), (vi 0), (vi 0), (vs none 0 0), (vs none 0 0)]) rfl trivial (by kernel_rfl)) ?_
 refine l_store (new := [(vi 0), (vi 0), (vi 0), (vi 0), (vi 0), (vs none 0 0), (vs none 0 0)]) (cs' := #[(vi 0), (vi 0), (vi 0), (vi 0), (vi 0), (vs none 0 0), (vs none 0 0)]) hI .z gn rfl rfl et et rfl size_27 rfl rfl rfl ?_
 clear hI; intro c12 w4 hI
 refine sac ?_
 refine nk ?_
 refine c_ret ?_
 have hI := hI.add (c := Cl.sl (cInt .i64) none 0 ([] : List Int)) SlC.nil
 have hI := hI.add (c := Cl.sl cGVal none 0 ([] : List GVal)) SlC.nil
 obtain rfl := some_inj h
 exact q_ret (vs := [(Value.agg #[(vi 0), (vi 0), (vi 0), (vi 0), (vi 0), (vs none 0 0), (vs none 0 0)]), (vi 1)]) Tryz.results34 ⟨⟨_, ev_tmp rfl rfl, load_agg (l := [(vi 0), (vi 0), (vi 0), (vi 0), (vi 0), (vs none 0 0), (vs none 0 0)]) Tryz.underlying27 rfl size_27 (CellsAt.of_blk (hI.blk .z) rfl)⟩, ⟨ev_tmp rfl rfl, trivial⟩⟩ ⟨none, 0, none, 0, _, rfl, hI.arr .n ⟨(.s .z), .z, trivial⟩⟩

end Go.Proofs.YtlakfanockhngaaGreatDoor
