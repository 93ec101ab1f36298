import Derived.Test.YtnehbaocbcegpaaDoorSCtb
namespace Go.Proofs.YtnehbaocbcegpaaDoor
open Go Go.RowKit Go.Vc
set_option linter.unusedVariables false
set_option linter.unusedSimpArgs false
set_option maxRecDepth 100000 in
set_option maxHeartbeats 4000000 in
theorem c_ref42_Optimal (F : NP) (w0 : World) (hF : ∀ k, F k → k < w0.heap.size) (l1 : List GLifetime) (a1 : Option Addr) (c1 : Nat) (hc : AllCl [Cl.sl cGLifetime a1 c1 l1] F w0) (r : Int × Int)
  (h : m_ref42_Optimal l1 = some r) :
  Calls Tryd.prog 18 #[(vs a1 l1.length c1)] w0 fun e w => e = .returned (Value.tuple #[(vi r.1), (vi r.2)]) ∧ Ext w0 w ∧ AllCl [] F w := by
 refine enterK (l := [(vs a1 l1.length c1)]) Tryd.func18 rfl Tryd.ntmps18 rfl ?_
 have hI := Bun.start hF hc
 clear hc
 rw [m_ref42_Optimal] at h
 refine sr ?_
 refine sac ?_
 refine sac ?_
 refine nk ?_
 refine c_seq ?_
 refine sr ?_
 refine sm ?_
 obtain ⟨r1, hx1, h⟩ := bnd_some h
 refine s_call gn rfl (r_callF (vs := [(vs a1 l1.length c1)]) rfl ok_23 ⟨et, trivial⟩) (Calls.mono (c_ref41_Validate (Dj F noM) w0 hI.lt l1 a1 c1 ⟨(hI.get .z), trivial⟩ r1 hx1) ?_)
 rintro _ w1 ⟨rfl, hx2, hl1⟩
 refine ⟨_, rfl, ?_⟩
 replace hI := (hI.ext hx2)
 refine sa ?_
 refine nk ?_
 refine sr ?_
 refine sm ?_
 refine sq (y_neq rfl et ev_const) ?_
 refine nk ?_
 refine c_cond (b := !decide (r1 = 0)) et (fun hb => ?_) (fun hb => ?_)
 ·replace h := ite_t hb h
  refine sr ?_
  refine sm ?_
  refine sac ?_
  refine sa ?_
  refine nk ?_
  refine c_ret ?_
  obtain rfl := some_inj h
  exact q_ret (vs := [(vi 0), (vi r1)]) Tryd.results18 ⟨ev_tmp rfl rfl, ⟨ev_tmp rfl rfl, trivial⟩⟩ ⟨rfl, hI.ext0, hI.fin trivial⟩
 ·replace h := ite_f hb h
  refine c_skip ?_
  refine k_same ?_
  refine c_seq ?_
  refine sr ?_
  refine sm ?_
  refine sq (y_lenl rfl Tryd.underlying22 et) ?_
  refine sq (y_gtr rfl et ev_const) ?_
  refine nk ?_
  refine c_cond (b := decide (7 < (l1.length : Int))) et (fun hb => ?_) (fun hb => ?_)
  ·replace h := ite_t hb h
   refine sr ?_
   refine sac ?_
   refine sac ?_
   refine nk ?_
   refine c_ret ?_
   obtain rfl := some_inj h
   exact q_ret (vs := [(vi 0), (vi 2)]) Tryd.results18 ⟨ev_tmp rfl rfl, ⟨ev_tmp rfl rfl, trivial⟩⟩ ⟨rfl, hI.ext0, hI.fin trivial⟩
  ·replace h := ite_f hb h
   refine c_skip ?_
   refine k_same ?_
   refine sr ?_
   refine sm ?_
   have hI := hI.add (c := Cl.sl (cInt .i64) none 0 ([] : List Int)) SlC.nil
   obtain ⟨r2, hx3, h⟩ := bnd_some h
   refine s_call gn rfl (r_callF (vs := [(vs a1 l1.length c1), (vs none 0 0)]) rfl ok_30 ⟨et, ⟨ev_const, trivial⟩⟩) (Calls.mono (c_ref42_orders (Dj F noM) w1 hI.lt l1 ([] : List Int) a1 c1 none 0 ⟨(hI.get (.s .z)), (hI.get .z), trivial⟩ r2 hx3) ?_)
   rintro _ w2 ⟨rfl, hx4, hl2⟩
   refine ⟨_, rfl, ?_⟩
   replace hI := (hI.ext hx4)
   refine sa ?_
   refine nk ?_
   refine c_seq ?_
   refine sr ?_
   refine sm ?_
   refine sq (y_lss rfl et ev_const) ?_
   refine nk ?_
   refine c_cond (b := decide (r2 < 0)) et (fun hb => ?_) (fun hb => ?_)
   ·replace h := ite_t hb h
    refine sr ?_
    refine sac ?_
    refine sac ?_
    refine nk ?_
    refine c_ret ?_
    obtain rfl := some_inj h
    exact q_ret (vs := [(vi 0), (vi 22)]) Tryd.results18 ⟨ev_tmp rfl rfl, ⟨ev_tmp rfl rfl, trivial⟩⟩ ⟨rfl, hI.ext0, hI.fin trivial⟩
   ·replace h := ite_f hb h
    refine c_skip ?_
    refine k_same ?_
    refine sr ?_
    refine sm ?_
    refine sa ?_
    refine sac ?_
    refine nk ?_
    refine c_ret ?_
    obtain rfl := some_inj h
    exact q_ret (vs := [(vi r2), (vi 0)]) Tryd.results18 ⟨ev_tmp rfl rfl, ⟨ev_tmp rfl rfl, trivial⟩⟩ ⟨rfl, hI.ext0, hI.fin trivial⟩
set_option maxRecDepth 100000 in
set_option maxHeartbeats 4000000 in
theorem c_law42_ArenaOptimal (F : NP) (w0 : World) (hF : ∀ k, F k → k < w0.heap.size) (l1 : List GLifetime) (a1 : Option Addr) (c1 : Nat) (hc : AllCl [Cl.sl cGLifetime a1 c1 l1, clSpace] F w0) (r : Bool)
  (h : m_law42_ArenaOptimal l1 = some r) :
  Calls Tryd.prog 7 #[(vs a1 l1.length c1)] w0 fun e w => e = .returned (vb r) ∧ Ext w0 w ∧ AllCl [] F w := by
 refine enterK (l := [(vs a1 l1.length c1)]) Tryd.func7 rfl Tryd.ntmps7 rfl ?_
 have hI := Bun.start hF hc
 clear hc
 rw [m_law42_ArenaOptimal] at h
 refine sr ?_
 refine sac ?_
 refine nk ?_
 refine c_seq ?_
 refine sr ?_
 refine sm ?_
 obtain ⟨r1, hx1, h⟩ := bnd_some h
 refine s_call gn rfl (r_callF (vs := [(vs a1 l1.length c1), (vi 12)]) rfl ok_8 ⟨et, ⟨ev_const, trivial⟩⟩) (Calls.mono (c_law42_few (Dj F noM) w0 hI.lt l1 12 a1 c1 ⟨(hI.get .z), trivial⟩ r1 hx1) ?_)
 rintro _ w1 ⟨rfl, hx2, hl1⟩
 refine ⟨_, rfl, ?_⟩
 replace hI := (hI.ext hx2)
 refine sq (y_not rfl et) ?_
 refine nk ?_
 refine c_cond (b := !r1) et (fun hb => ?_) (fun hb => ?_)
 ·replace h := ite_t hb h
  refine sr ?_
  obtain ⟨r2, hx3, h⟩ := bnd_some h
  refine s_call gn rfl (r_callF (vs := []) rfl ok_9 trivial) (Calls.mono (c_law42_examples (Dj F noM) w1 hI.lt ⟨(hI.get (.s .z)), trivial⟩ r2 hx3) ?_)
  rintro _ w2 ⟨rfl, hx4, hl2⟩
  refine ⟨_, rfl, ?_⟩
  replace hI := (hI.ext hx4)
  refine sa ?_
  refine nk ?_
  refine c_ret ?_
  obtain rfl := some_inj h
  exact q_ret (vs := [(vb r2)]) Tryd.results7 ⟨ev_tmp rfl rfl, trivial⟩ ⟨rfl, hI.ext0, hI.fin trivial⟩
 ·replace h := ite_f hb h
  refine c_skip ?_
  refine k_same ?_
  refine sr ?_
  refine sm ?_
  obtain ⟨r3, hx5, h⟩ := bnd_some h
  refine s_call gn rfl (r_callF (vs := [(vs a1 l1.length c1)]) rfl ok_17 ⟨et, trivial⟩) (Calls.mono (c_arena_Optimal (Dj F noM) w1 hI.lt l1 a1 c1 ⟨(hI.get .z), (hI.get (.s .z)), trivial⟩ r3 hx5) ?_)
  rintro _ w3 ⟨rfl, hx6, hl3⟩
  refine ⟨_, rfl, ?_⟩
  replace hI := (hI.ext hx6)
  refine sm ?_
  refine sq (y_extract rfl et rfl) ?_
  refine sq (y_extract rfl et rfl) ?_
  refine sa ?_
  refine sa ?_
  refine nk ?_
  refine sr ?_
  refine sm ?_
  obtain ⟨r4, hx7, h⟩ := bnd_some h
  refine s_call gn rfl (r_callF (vs := [(vs a1 l1.length c1)]) rfl ok_18 ⟨et, trivial⟩) (Calls.mono (c_ref42_Optimal (Dj F noM) w3 hI.lt l1 a1 c1 ⟨(hI.get .z), trivial⟩ r4 hx7) ?_)
  rintro _ w4 ⟨rfl, hx8, hl4⟩
  refine ⟨_, rfl, ?_⟩
  replace hI := (hI.ext hx8)
  refine sm ?_
  refine sq (y_extract rfl et rfl) ?_
  refine sq (y_extract rfl et rfl) ?_
  refine sa ?_
  refine sa ?_
  refine nk ?_
  refine sr ?_
  refine sm ?_
  refine sm ?_
  refine sq (y_eql rfl et et) ?_
  refine sm ?_
  refine s_gval (g_true rfl rfl rfl rfl) rfl (fun hc => (y_move rfl et)) ?_
  refine s_gval (g_true rfl rfl rfl rfl) rfl (fun hc => (y_move rfl et)) ?_
  refine s_gval (g_true rfl rfl rfl rfl) rfl (fun hc => (y_eql rfl (ev_gv et hc) (ev_gv et hc))) ?_
  refine sq (y_and rfl et et) ?_
  refine sm ?_
  obtain ⟨r5, hx9, h⟩ := bnd_some h
  replace hx9 := gd_some hx9
  refine s_gcallU (v := (vb r5)) (g_true rfl rfl rfl rfl) rfl (fun hc => (r_callF (vs := []) rfl ok_9 trivial)) (fun hc => (c_law42_examples (Dj F noM) w4 hI.lt ⟨(hI.get (.s .z)), trivial⟩ r5 (hx9 hc)).mono fun _ _ k => ⟨k.1, k.2.1⟩) ?_
  intro w5 hx10; replace hI := hI.ext hx10
  refine sq (y_and rfl et et) ?_
  refine sa ?_
  refine s_nil ?_
  refine k_next (e := [(2, (vb (((decide (r3.1 = r4.1)) && (decide (r3.2 = r4.2))) && r5)))]) ⟨rfl, trivial⟩ ?_
  refine c_ret ?_
  obtain rfl := some_inj h
  exact q_ret (vs := [(vb (((decide (r3.1 = r4.1)) && (decide (r3.2 = r4.2))) && r5))]) Tryd.results7 ⟨ev_tmp rfl rfl, trivial⟩ ⟨rfl, hI.ext0, hI.fin trivial⟩
end Go.Proofs.YtnehbaocbcegpaaDoor
