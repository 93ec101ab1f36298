/- Each call returns what its plain function gives: printed by a program of my own; Lean checks it. -/
import Derived.Test.YtpedfojbfbccaaaGreatSCQ3c
namespace Go.Proofs.YtpedfojbfbccaaaGreat
open Go Go.RowKit Go.Vc
set_option linter.unusedVariables false
set_option linter.unusedSimpArgs false

set_option maxRecDepth 100000 in
set_option maxHeartbeats 4000000 in
theorem c_ref04_One (F : NP) (w0 : World) (hF : ∀ k, F k → k < w0.heap.size) (t1 : GType) (hc : AllCl [] F w0) (r : GVal × Int)
  (h : m_ref04_One t1 = some r) :
  Calls Tryz.prog 97 #[(Value.agg (AType t1))] w0 fun e w => e = .returned (Value.tuple #[(Value.agg (AVal r.1)), (vi r.2)]) ∧ Ext w0 w ∧ AllCl [] F w := by
 refine enterK (l := [(Value.agg (AType t1))]) Tryz.func97 rfl Tryz.ntmps97 rfl ?_
 have hI := Bun.start hF hc
 clear hc
 rw [m_ref04_One] at h
 refine sr (l_box (v := (Value.agg (AType t1))) (cs := (AType t1)) hI gn rfl rfl et rfl ?_)
 clear hI; intro b1 c1 w1 hI
 obtain ⟨c2, hI⟩ := hI.relBox .z
 refine l_alloc (cs := #[(vi 0), (vi 0)]) hI gn rfl rfl zero_68 rfl ?_
 clear hI; intro b2 c3 w2 hI
 refine sac ?_
 refine nk (c_seq (sr (sq (y_loadN (l := (lType t1)) rfl et u38 rfl size_38 (hI.kblk (l := (lType t1)) .z rfl).1) ?_)))
 obtain ⟨r1, hx1, h⟩ := bnd_some h
 refine s_call gn rfl (r_callF (vs := [(Value.agg (AType t1))]) rfl ok_56 ⟨et, trivial⟩) (Calls.mono (c_base_Type (Dj F c3) w2 hI.lt t1 trivial r1 hx1) ?_)
 rintro _ w3 ⟨rfl, hx2, hl1⟩
 refine ⟨_, rfl, ?_⟩
 replace hI := (hI.ext hx2)
 refine sq (y_not rfl et) ?_
 refine nk (c_cond (b := !r1) et (fun hb => ?_) (fun hb => ?_))
 ·replace h := ite_t hb h
  refine sr (sq (y_build (vs := []) (cs := #[(vi 0), (vi 0)]) rfl trivial (by kernel_rfl)) ?_)
  refine l_store (new := [(vi 0), (vi 0)]) (cs' := #[(vi 0), (vi 0)]) hI .z gn rfl rfl et et rfl size_68 rfl rfl rfl ?_
  clear hI; intro c4 w4 hI
  refine sac ?_
  refine nk (c_ret ?_)
  obtain rfl := some_inj h
  exact q_ret (vs := [(Value.agg #[(vi 0), (vi 0)]), (vi 10)]) Tryz.results97 ⟨⟨_, ev_tmp rfl rfl, load_agg (l := [(vi 0), (vi 0)]) u68 rfl size_68 (CellsAt.of_blk (hI.blk .z) rfl)⟩, ⟨ev_tmp rfl rfl, trivial⟩⟩ ⟨rfl, hI.ext0, hI.fin trivial⟩
 ·replace h := ite_f hb h
  refine c_skip (k_same (sr (sq (y_build (vs := [(0, (vi 1)), (1, (vi 1))]) (cs := #[(vi 1), (vi 1)]) rfl ⟨rfl, ev_const, ⟨rfl, ev_const, trivial⟩⟩ (by kernel_rfl)) ?_)))
  refine l_alloc (cs := #[(vi 0), (vi 0)]) hI gn rfl rfl zero_68 rfl ?_
  clear hI; intro b3 c5 w5 hI
  refine l_store (new := [(vi 1), (vi 1)]) (cs' := #[(vi 1), (vi 1)]) hI .z gn rfl rfl et et rfl size_68 rfl rfl rfl ?_
  clear hI; intro c6 w6 hI
  refine nk (c_join (α := GVal) (fun _ => ⟨22, []⟩) (fun x => [(1, (vp b1 0)), (2, (vp b2 0)), (4, (vp b3 0))]) (fun x => fun w => ∃ C, Bun noM F w0 C w [MO.box b2 68 #[(vi 0), (vi 0)], MO.box b3 68 (AVal x)] [Cl.blk b1 38 (AType t1)] ∧ m_ref04_One_j1 t1 x = some r) ?_ ?_)
  ·clear h hI; rintro v1 w7 ⟨c7, hI, h⟩
   try dsimp only at hI h
   rw [m_ref04_One_j1] at h
   refine c_sub (e := [(1, (vp b1 0)), (2, (vp b2 0)), (4, (vp b3 0))]) ⟨rfl, rfl, rfl, trivial⟩ ?_
   refine c_seq (sr (sq (y_loadN (l := (lType t1)) rfl et u38 rfl size_38 (hI.kblk (l := (lType t1)) .z rfl).1) ?_))
   refine sq (y_loadN (l := (lVal v1)) rfl et u68 rfl size_68 (CellsAt.of_blk (hI.blk (.s .z)) rfl)) ?_
   obtain ⟨r2, hx3, h⟩ := bnd_some h
   refine s_call gn rfl (r_callF (vs := [(Value.agg (AType t1)), (Value.agg (AVal v1))]) rfl ok_59 ⟨et, ⟨et, trivial⟩⟩) (Calls.mono (c_base_Val (Dj F c7) w7 hI.lt t1 v1 trivial r2 hx3) ?_)
   rintro _ w8 ⟨rfl, hx4, hl2⟩
   refine ⟨_, rfl, ?_⟩
   replace hI := (hI.ext hx4)
   refine sq (y_not rfl et) ?_
   refine nk (c_cond (b := !r2) et (fun hb => ?_) (fun hb => ?_))
   ·replace h := ite_t hb h
    refine sr (sq (y_build (vs := []) (cs := #[(vi 0), (vi 0)]) rfl trivial (by kernel_rfl)) ?_)
    refine l_store (new := [(vi 0), (vi 0)]) (cs' := #[(vi 0), (vi 0)]) hI .z gn rfl rfl et et rfl size_68 rfl rfl rfl ?_
    clear hI; intro c8 w9 hI
    refine sac ?_
    refine nk (c_ret ?_)
    obtain rfl := some_inj h
    exact q_ret (vs := [(Value.agg #[(vi 0), (vi 0)]), (vi 3)]) Tryz.results97 ⟨⟨_, ev_tmp rfl rfl, load_agg (l := [(vi 0), (vi 0)]) u68 rfl size_68 (CellsAt.of_blk (hI.blk .z) rfl)⟩, ⟨ev_tmp rfl rfl, trivial⟩⟩ ⟨rfl, hI.ext0, hI.fin trivial⟩
   ·replace h := ite_f hb h
    refine c_skip (k_same (sr (sq (y_loadN (l := (lVal v1)) rfl et u68 rfl size_68 (CellsAt.of_blk (hI.blk (.s .z)) rfl)) ?_)))
    refine l_store (new := (lVal v1)) (cs' := (AVal v1)) hI .z gn rfl rfl et et rfl size_68 rfl rfl rfl ?_
    clear hI; intro c9 w10 hI
    refine sac ?_
    refine nk (c_ret ?_)
    obtain rfl := some_inj h
    exact q_ret (vs := [(Value.agg (AVal v1)), (vi 0)]) Tryz.results97 ⟨⟨_, ev_tmp rfl rfl, load_agg (l := (lVal v1)) u68 rfl size_68 (CellsAt.of_blk (hI.blk .z) rfl)⟩, ⟨ev_tmp rfl rfl, trivial⟩⟩ ⟨rfl, hI.ext0, hI.fin trivial⟩
  ·skip
   refine sr (sq (y_fieldAddr rfl et u38 rfl size_3 rfl) ?_)
   refine sq (y_load1 (v := (vi t1.Kind)) rfl et u3 rfl (hI.kblk (l := [(vi t1.Kind)]) .z rfl).1) ?_
   refine sq (y_eql rfl et ev_const) ?_
   refine nk (c_cond (b := decide (t1.Kind = 2)) et (fun hb => ?_) (fun hb => ?_))
   ·replace h := ite_t hb h
    refine c_region rfl ?_
    refine sq (y_loadN (l := (lType t1)) rfl et u38 rfl size_38 (hI.kblk (l := (lType t1)) .z rfl).1) ?_
    obtain ⟨r3, hx5, h⟩ := bnd_some h
    refine s_call gn rfl (r_callF (vs := [(Value.agg (AType t1))]) rfl ok_118 ⟨et, trivial⟩) (Calls.mono (c_ref04_step (Dj F c6) w6 hI.lt t1 trivial r3 hx5) ?_)
    rintro _ w11 ⟨rfl, hx6, hl3⟩
    refine ⟨_, rfl, ?_⟩
    replace hI := (hI.ext hx6)
    refine sq (y_fieldAddr rfl et u68 rfl size_2 rfl) ?_
    refine l_store (new := [(vi r3)]) (cs' := #[(vi r3), (vi 1)]) hI .z gn rfl rfl et et rfl size_2 rfl rfl rfl ?_
    clear hI; intro c10 w12 hI
    refine s_nil ?_
    exact k_join (⟨r3, 1⟩ : GVal) ⟨rfl, rfl, rfl, trivial⟩ ⟨_, hI.arr (.c (.s .z) (.c .z .n)) ⟨.z, trivial⟩, h⟩ rfl
   ·replace h := ite_f hb h
    exact c_skip (k_join (⟨1, 1⟩ : GVal) ⟨rfl, rfl, rfl, trivial⟩ ⟨_, hI.arr (.c (.s .z) (.c .z .n)) ⟨.z, trivial⟩, h⟩ rfl)

set_option maxRecDepth 100000 in
set_option maxHeartbeats 4000000 in
theorem c_ref04_Identity (F : NP) (w0 : World) (hF : ∀ k, F k → k < w0.heap.size) (fold1 : Int) (t1 : GType) (hc : AllCl [] F w0) (r : GVal × Bool)
  (h : m_ref04_Identity fold1 t1 = some r) :
  Calls Tryz.prog 78 #[(vi fold1), (Value.agg (AType t1))] w0 fun e w => e = .returned (Value.tuple #[(Value.agg (AVal r.1)), (vb r.2)]) ∧ Ext w0 w ∧ AllCl [] F w := by
 refine enterK (l := [(vi fold1), (Value.agg (AType t1))]) Tryz.func78 rfl Tryz.ntmps78 rfl ?_
 have hI := Bun.start hF hc
 clear hc
 rw [m_ref04_Identity] at h
 refine sr (l_box (v := (Value.agg (AType t1))) (cs := (AType t1)) hI gn rfl rfl et rfl ?_)
 clear hI; intro b1 c1 w1 hI
 obtain ⟨c2, hI⟩ := hI.relBox .z
 refine l_alloc (cs := #[(vi 0), (vi 0)]) hI gn rfl rfl zero_68 rfl ?_
 clear hI; intro b2 c3 w2 hI
 refine sac ?_
 refine nk (c_seq (sr (sq (y_loadN (l := (lType t1)) rfl et u38 rfl size_38 (hI.kblk (l := (lType t1)) .z rfl).1) ?_)))
 obtain ⟨r1, hx1, h⟩ := bnd_some h
 refine s_call gn rfl (r_callF (vs := [(Value.agg (AType t1))]) rfl ok_56 ⟨et, trivial⟩) (Calls.mono (c_base_Type (Dj F c3) w2 hI.lt t1 trivial r1 hx1) ?_)
 rintro _ w3 ⟨rfl, hx2, hl1⟩
 refine ⟨_, rfl, ?_⟩
 replace hI := (hI.ext hx2)
 refine sm ?_
 refine s_gval (g_true rfl rfl rfl rfl) rfl (fun hc => (y_move rfl et)) ?_
 refine s_gval (g_true rfl rfl rfl rfl) rfl (fun hc => (y_eql rfl (ev_gv et hc) ev_const)) ?_
 refine s_gval (g_true rfl rfl rfl rfl) rfl (fun hc => (y_move rfl (ev_gv et hc))) ?_
 refine s_gval (g_false2 rfl rfl rfl rfl) rfl (fun hc => (y_move rfl et)) ?_
 refine s_gval (g_false2 rfl rfl rfl rfl) rfl (fun hc => (y_eql rfl (ev_gv et hc) ev_const)) ?_
 refine s_gval (g_true rfl rfl rfl rfl) rfl (fun hc => (y_or2 rfl hc et et)) ?_
 refine sq (y_and rfl et et) ?_
 refine nk (c_cond (b := r1 && ((decide (fold1 = 1)) || (decide (fold1 = 5)))) et (fun hb => ?_) (fun hb => ?_))
 ·replace h := ite_t hb h
  refine sr (sq (y_loadN (l := (lType t1)) rfl et u38 rfl size_38 (hI.kblk (l := (lType t1)) .z rfl).1) ?_)
  obtain ⟨r2, hx3, h⟩ := bnd_some h
  refine s_call gn rfl (r_callF (vs := [(Value.agg (AType t1))]) rfl ok_96 ⟨et, trivial⟩) (Calls.mono (c_ref04_Zero (Dj F c3) w3 hI.lt t1 trivial r2 hx3) ?_)
  rintro _ w4 ⟨rfl, hx4, hl2⟩
  refine ⟨_, rfl, ?_⟩
  replace hI := (hI.ext hx4)
  refine l_store (new := (lVal r2)) (cs' := (AVal r2)) hI .z gn rfl rfl et et rfl size_68 rfl rfl rfl ?_
  clear hI; intro c4 w5 hI
  refine sac ?_
  refine nk (c_ret ?_)
  obtain rfl := some_inj h
  exact q_ret (vs := [(Value.agg (AVal r2)), (vb true)]) Tryz.results78 ⟨⟨_, ev_tmp rfl rfl, load_agg (l := (lVal r2)) u68 rfl size_68 (CellsAt.of_blk (hI.blk .z) rfl)⟩, ⟨ev_tmp rfl rfl, trivial⟩⟩ ⟨rfl, hI.ext0, hI.fin trivial⟩
 ·replace h := ite_f hb h
  refine c_skip (k_same (c_seq (sr (sm ?_))))
  refine sq (y_eql rfl et ev_const) ?_
  refine nk (c_cond (b := decide (fold1 = 2)) et (fun hb => ?_) (fun hb => ?_))
  ·replace h := ite_t hb h
   refine sr (sq (y_loadN (l := (lType t1)) rfl et u38 rfl size_38 (hI.kblk (l := (lType t1)) .z rfl).1) ?_)
   obtain ⟨r3, hx5, h⟩ := bnd_some h
   refine s_call gn rfl (r_callF (vs := [(Value.agg (AType t1))]) rfl ok_97 ⟨et, trivial⟩) (Calls.mono (c_ref04_One (Dj F c3) w3 hI.lt t1 trivial r3 hx5) ?_)
   rintro _ w6 ⟨rfl, hx6, hl3⟩
   refine ⟨_, rfl, ?_⟩
   replace hI := (hI.ext hx6)
   refine sm ?_
   refine sq (y_extract rfl et rfl) ?_
   refine sq (y_extract rfl et rfl) ?_
   refine l_alloc (cs := #[(vi 0), (vi 0)]) hI gn rfl rfl zero_68 rfl ?_
   clear hI; intro b3 c5 w7 hI
   refine l_store (new := (lVal r3.1)) (cs' := (AVal r3.1)) hI .z gn rfl rfl et et rfl size_68 rfl rfl rfl ?_
   clear hI; intro c6 w8 hI
   refine sa ?_
   refine nk (sr (sq (y_loadN (l := (lVal r3.1)) rfl et u68 rfl size_68 (CellsAt.of_blk (hI.blk .z) rfl)) ?_))
   refine sm ?_
   refine sq (y_eql rfl et ev_const) ?_
   refine l_store (new := (lVal r3.1)) (cs' := (AVal r3.1)) hI (.s .z) gn rfl rfl et et rfl size_68 rfl rfl rfl ?_
   clear hI; intro c7 w9 hI
   refine sa ?_
   refine s_nil ?_
   refine k_next (e := [(4, (vp b2 0)), (5, (vb (decide (r3.2 = 0))))]) ⟨rfl, rfl, trivial⟩ ?_
   refine c_ret ?_
   obtain rfl := some_inj h
   exact q_ret (vs := [(Value.agg (AVal r3.1)), (vb (decide (r3.2 = 0)))]) Tryz.results78 ⟨⟨_, ev_tmp rfl rfl, load_agg (l := (lVal r3.1)) u68 rfl size_68 (CellsAt.of_blk (hI.blk (.s .z)) rfl)⟩, ⟨ev_tmp rfl rfl, trivial⟩⟩ ⟨rfl, hI.ext0, hI.fin trivial⟩
  ·replace h := ite_f hb h
   refine c_skip (k_same (sr (sq (y_build (vs := []) (cs := #[(vi 0), (vi 0)]) rfl trivial (by kernel_rfl)) ?_)))
   refine l_store (new := [(vi 0), (vi 0)]) (cs' := #[(vi 0), (vi 0)]) hI .z gn rfl rfl et et rfl size_68 rfl rfl rfl ?_
   clear hI; intro c8 w10 hI
   refine sac ?_
   refine nk (c_ret ?_)
   obtain rfl := some_inj h
   exact q_ret (vs := [(Value.agg #[(vi 0), (vi 0)]), (vb false)]) Tryz.results78 ⟨⟨_, ev_tmp rfl rfl, load_agg (l := [(vi 0), (vi 0)]) u68 rfl size_68 (CellsAt.of_blk (hI.blk .z) rfl)⟩, ⟨ev_tmp rfl rfl, trivial⟩⟩ ⟨rfl, hI.ext0, hI.fin trivial⟩

set_option maxRecDepth 100000 in
set_option maxHeartbeats 4000000 in
theorem c_ref04_Operator (F : NP) (w0 : World) (hF : ∀ k, F k → k < w0.heap.size) (fold1 : Int) (hc : AllCl [] F w0) (r : Int)
  (h : m_ref04_Operator fold1 = some r) :
  Calls Tryz.prog 80 #[(vi fold1)] w0 fun e w => e = .returned (vi r) ∧ Ext w0 w ∧ AllCl [] F w := by
 refine enterK (l := [(vi fold1)]) Tryz.func80 rfl Tryz.ntmps80 rfl ?_
 have hI := Bun.start hF hc
 clear hc
 rw [m_ref04_Operator] at h
 refine sr (sac ?_)
 refine nk (c_seq (sr (sm ?_)))
 refine nk (c_block (sr (sq (y_eql rfl et ev_const) ?_)))
 refine sa ?_
 refine nk (c_cond (b := decide (fold1 = 2)) et (fun hb => ?_) (fun hb => ?_))
 ·replace h := ite_t hb h
  refine sr (sac ?_)
  refine nk (c_ret ?_)
  obtain rfl := some_inj h
  exact q_ret (vs := [(vi 6)]) Tryz.results80 ⟨ev_tmp rfl rfl, trivial⟩ ⟨rfl, hI.ext0, hI.fin trivial⟩
 ·replace h := ite_f hb h
  refine sr (sq (y_eql rfl et ev_const) ?_)
  refine sa ?_
  refine nk (c_cond (b := decide (fold1 = 3)) et (fun hb => ?_) (fun hb => ?_))
  ·replace h := ite_t hb h
   refine sr (sac ?_)
   refine nk (c_ret ?_)
   obtain rfl := some_inj h
   exact q_ret (vs := [(vi 9)]) Tryz.results80 ⟨ev_tmp rfl rfl, trivial⟩ ⟨rfl, hI.ext0, hI.fin trivial⟩
  ·replace h := ite_f hb h
   refine sr (sq (y_eql rfl et ev_const) ?_)
   refine sa ?_
   refine nk (c_cond (b := decide (fold1 = 4)) et (fun hb => ?_) (fun hb => ?_))
   ·replace h := ite_t hb h
    refine sr (sac ?_)
    refine nk (c_ret ?_)
    obtain rfl := some_inj h
    exact q_ret (vs := [(vi 10)]) Tryz.results80 ⟨ev_tmp rfl rfl, trivial⟩ ⟨rfl, hI.ext0, hI.fin trivial⟩
   ·replace h := ite_f hb h
    refine c_skip (k_same (sr (sac ?_)))
    refine nk (c_ret ?_)
    obtain rfl := some_inj h
    exact q_ret (vs := [(vi 4)]) Tryz.results80 ⟨ev_tmp rfl rfl, trivial⟩ ⟨rfl, hI.ext0, hI.fin trivial⟩

set_option maxRecDepth 100000 in
set_option maxHeartbeats 4000000 in
theorem c_ref04_Valid (F : NP) (w0 : World) (hF : ∀ k, F k → k < w0.heap.size) (t1 : GType) (v1 : GVal) (hc : AllCl [] F w0) (r : Bool)
  (h : m_ref04_Valid t1 v1 = some r) :
  Calls Tryz.prog 119 #[(Value.agg (AType t1)), (Value.agg (AVal v1))] w0 fun e w => e = .returned (vb r) ∧ Ext w0 w ∧ AllCl [] F w := by
 refine enterK (l := [(Value.agg (AType t1)), (Value.agg (AVal v1))]) Tryz.func119 rfl Tryz.ntmps119 rfl ?_
 have hI := Bun.start hF hc
 clear hc
 rw [m_ref04_Valid] at h
 refine sr (l_box (v := (Value.agg (AType t1))) (cs := (AType t1)) hI gn rfl rfl et rfl ?_)
 clear hI; intro b1 c1 w1 hI
 obtain ⟨c2, hI⟩ := hI.relBox .z
 refine l_box (v := (Value.agg (AVal v1))) (cs := (AVal v1)) hI gn rfl rfl et rfl ?_
 clear hI; intro b2 c3 w2 hI
 obtain ⟨c4, hI⟩ := hI.relBox .z
 refine sac ?_
 refine nk (sr (sq (y_loadN (l := (lType t1)) rfl et u38 rfl size_38 (hI.kblk (l := (lType t1)) (.s .z) rfl).1) ?_))
 obtain ⟨r1, hx1, h⟩ := bnd_some h
 refine s_call gn rfl (r_callF (vs := [(Value.agg (AType t1))]) rfl ok_56 ⟨et, trivial⟩) (Calls.mono (c_base_Type (Dj F c4) w2 hI.lt t1 trivial r1 hx1) ?_)
 rintro _ w3 ⟨rfl, hx2, hl1⟩
 refine ⟨_, rfl, ?_⟩
 replace hI := (hI.ext hx2)
 refine sm ?_
 refine s_gval (g_true rfl rfl rfl rfl) rfl (fun hc => (y_loadN (l := (lType t1)) rfl et u38 rfl size_38 (hI.kblk (l := (lType t1)) (.s .z) rfl).1)) ?_
 refine s_gval (g_true rfl rfl rfl rfl) rfl (fun hc => (y_loadN (l := (lVal v1)) rfl et u68 rfl size_68 (hI.kblk (l := (lVal v1)) .z rfl).1)) ?_
 obtain ⟨r2, hx3, h⟩ := bnd_some h
 replace hx3 := gd_some hx3
 refine s_gcallU (v := (vb r2)) (g_true rfl rfl rfl rfl) rfl (fun hc => (r_callF (vs := [(Value.agg (AType t1)), (Value.agg (AVal v1))]) rfl ok_59 ⟨(ev_gv et hc), ⟨(ev_gv et hc), trivial⟩⟩)) (fun hc => (c_base_Val (Dj F c4) w3 hI.lt t1 v1 trivial r2 (hx3 hc)).mono fun _ _ k => ⟨k.1, k.2.1⟩) ?_
 intro w4 hx4; replace hI := hI.ext hx4
 refine sq (y_and rfl et et) ?_
 refine sa ?_
 refine nk (c_ret ?_)
 obtain rfl := some_inj h
 exact q_ret (vs := [(vb (r1 && r2))]) Tryz.results119 ⟨ev_tmp rfl rfl, trivial⟩ ⟨rfl, hI.ext0, hI.fin trivial⟩

set_option maxRecDepth 100000 in
set_option maxHeartbeats 4000000 in
theorem c_ref01_Valid (F : NP) (w0 : World) (hF : ∀ k, F k → k < w0.heap.size) (v1 : GVal) (hc : AllCl [] F w0) (r : Bool)
  (h : m_ref01_Valid v1 = some r) :
  Calls Tryz.prog 124 #[(Value.agg (AVal v1))] w0 fun e w => e = .returned (vb r) ∧ Ext w0 w ∧ AllCl [] F w := by
 refine enterK (l := [(Value.agg (AVal v1))]) Tryz.func124 rfl Tryz.ntmps124 rfl ?_
 have hI := Bun.start hF hc
 clear hc
 rw [m_ref01_Valid] at h
 refine sr (l_box (v := (Value.agg (AVal v1))) (cs := (AVal v1)) hI gn rfl rfl et rfl ?_)
 clear hI; intro b1 c1 w1 hI
 obtain ⟨c2, hI⟩ := hI.relBox .z
 refine sac ?_
 refine nk (sr (sq (y_build (vs := [(0, (vi 1))]) (cs := #[(vi 1), (vi 0), (vi 0), (vi 0), (vi 0)]) rfl ⟨rfl, ev_const, trivial⟩ (by kernel_rfl)) ?_))
 refine sq (y_loadN (l := (lVal v1)) rfl et u68 rfl size_68 (hI.kblk (l := (lVal v1)) .z rfl).1) ?_
 obtain ⟨r1, hx1, h⟩ := bnd_some h
 refine s_call gn rfl (r_callF (vs := [(Value.agg #[(vi 1), (vi 0), (vi 0), (vi 0), (vi 0)]), (Value.agg (AVal v1))]) rfl ok_59 ⟨et, ⟨et, trivial⟩⟩) (Calls.mono (c_base_Val (Dj F c2) w1 hI.lt (⟨1, 0, 0, 0, 0⟩ : GType) v1 trivial r1 hx1) ?_)
 rintro _ w2 ⟨rfl, hx2, hl1⟩
 refine ⟨_, rfl, ?_⟩
 replace hI := (hI.ext hx2)
 refine sa ?_
 refine nk (c_ret ?_)
 obtain rfl := some_inj h
 exact q_ret (vs := [(vb r1)]) Tryz.results124 ⟨ev_tmp rfl rfl, trivial⟩ ⟨rfl, hI.ext0, hI.fin trivial⟩

set_option maxRecDepth 100000 in
set_option maxHeartbeats 4000000 in
theorem c_ref01_order (F : NP) (w0 : World) (hF : ∀ k, F k → k < w0.heap.size) (a1 : Int) (b1 : Int) (hc : AllCl [] F w0) (r : Int)
  (h : m_ref01_order a1 b1 = some r) :
  Calls Tryz.prog 143 #[(vi a1), (vi b1)] w0 fun e w => e = .returned (vi r) ∧ Ext w0 w ∧ AllCl [] F w := by
 refine enterK (l := [(vi a1), (vi b1)]) Tryz.func143 rfl Tryz.ntmps143 rfl ?_
 have hI := Bun.start hF hc
 clear hc
 rw [m_ref01_order] at h
 refine sr (sac ?_)
 refine nk (c_seq (sr (sm ?_)))
 refine sm ?_
 refine sq (y_lss rfl et et) ?_
 refine nk (c_cond (b := decide (a1 < b1)) et (fun hb => ?_) (fun hb => ?_))
 ·replace h := ite_t hb h
  refine sr (sac ?_)
  refine nk (c_ret ?_)
  obtain rfl := some_inj h
  exact q_ret (vs := [(vi (-1))]) Tryz.results143 ⟨ev_tmp rfl rfl, trivial⟩ ⟨rfl, hI.ext0, hI.fin trivial⟩
 ·replace h := ite_f hb h
  refine c_skip (k_same (c_seq (sr (sm ?_))))
  refine sm ?_
  refine sq (y_gtr rfl et et) ?_
  refine nk (c_cond (b := decide (b1 < a1)) et (fun hb => ?_) (fun hb => ?_))
  ·replace h := ite_t hb h
   refine sr (sac ?_)
   refine nk (c_ret ?_)
   obtain rfl := some_inj h
   exact q_ret (vs := [(vi 1)]) Tryz.results143 ⟨ev_tmp rfl rfl, trivial⟩ ⟨rfl, hI.ext0, hI.fin trivial⟩
  ·replace h := ite_f hb h
   refine c_skip (k_same (sr (sac ?_)))
   refine nk (c_ret ?_)
   obtain rfl := some_inj h
   exact q_ret (vs := [(vi 0)]) Tryz.results143 ⟨ev_tmp rfl rfl, trivial⟩ ⟨rfl, hI.ext0, hI.fin trivial⟩

set_option maxRecDepth 100000 in
set_option maxHeartbeats 4000000 in
theorem c_ref01_Compare (F : NP) (w0 : World) (hF : ∀ k, F k → k < w0.heap.size) (a1 : GVal) (b1 : GVal) (hc : AllCl [] F w0) (r : Int)
  (h : m_ref01_Compare a1 b1 = some r) :
  Calls Tryz.prog 120 #[(Value.agg (AVal a1)), (Value.agg (AVal b1))] w0 fun e w => e = .returned (vi r) ∧ Ext w0 w ∧ AllCl [] F w := by
 refine enterK (l := [(Value.agg (AVal a1)), (Value.agg (AVal b1))]) Tryz.func120 rfl Tryz.ntmps120 rfl ?_
 have hI := Bun.start hF hc
 clear hc
 rw [m_ref01_Compare] at h
 refine sr (l_box (v := (Value.agg (AVal a1))) (cs := (AVal a1)) hI gn rfl rfl et rfl ?_)
 clear hI; intro b2 c1 w1 hI
 obtain ⟨c2, hI⟩ := hI.relBox .z
 refine l_box (v := (Value.agg (AVal b1))) (cs := (AVal b1)) hI gn rfl rfl et rfl ?_
 clear hI; intro b3 c3 w2 hI
 obtain ⟨c4, hI⟩ := hI.relBox .z
 refine sac ?_
 refine nk (c_seq (sr (sq (y_loadN (l := (lVal a1)) rfl et u68 rfl size_68 (hI.kblk (l := (lVal a1)) (.s .z) rfl).1) ?_)))
 obtain ⟨r1, hx1, h⟩ := bnd_some h
 refine s_call gn rfl (r_callF (vs := [(Value.agg (AVal a1))]) rfl ok_124 ⟨et, trivial⟩) (Calls.mono (c_ref01_Valid (Dj F c4) w2 hI.lt a1 trivial r1 hx1) ?_)
 rintro _ w3 ⟨rfl, hx2, hl1⟩
 refine ⟨_, rfl, ?_⟩
 replace hI := (hI.ext hx2)
 refine sm ?_
 refine s_gval (g_true rfl rfl rfl rfl) rfl (fun hc => (y_loadN (l := (lVal b1)) rfl et u68 rfl size_68 (hI.kblk (l := (lVal b1)) .z rfl).1)) ?_
 obtain ⟨r2, hx3, h⟩ := bnd_some h
 replace hx3 := gd_some hx3
 refine s_gcallU (v := (vb r2)) (g_true rfl rfl rfl rfl) rfl (fun hc => (r_callF (vs := [(Value.agg (AVal b1))]) rfl ok_124 ⟨(ev_gv et hc), trivial⟩)) (fun hc => (c_ref01_Valid (Dj F c4) w3 hI.lt b1 trivial r2 (hx3 hc)).mono fun _ _ k => ⟨k.1, k.2.1⟩) ?_
 intro w4 hx4; replace hI := hI.ext hx4
 refine sq (y_and rfl et et) ?_
 refine nk (c_cond (b := r1 && r2) et (fun hb => ?_) (fun hb => ?_))
 ·replace h := ite_t hb h
  refine sr (sq (y_fieldAddr rfl et u68 rfl size_2 rfl) ?_)
  refine sq (y_load1 (v := (vi a1.N)) rfl et u2 rfl (hI.kblk (l := [(vi a1.N)]) (.s .z) rfl).1) ?_
  refine sq (y_fieldAddr rfl et u68 rfl size_2 rfl) ?_
  refine sq (y_load1 (v := (vi b1.D)) rfl et u2 rfl (hI.kblk (l := [(vi b1.D)]) .z rfl).1) ?_
  refine sq (y_mul rfl et et) ?_
  refine sq (y_fieldAddr rfl et u68 rfl size_2 rfl) ?_
  refine sq (y_load1 (v := (vi b1.N)) rfl et u2 rfl (hI.kblk (l := [(vi b1.N)]) .z rfl).1) ?_
  refine sq (y_fieldAddr rfl et u68 rfl size_2 rfl) ?_
  refine sq (y_load1 (v := (vi a1.D)) rfl et u2 rfl (hI.kblk (l := [(vi a1.D)]) (.s .z) rfl).1) ?_
  refine sq (y_mul rfl et et) ?_
  obtain ⟨r3, hx5, h⟩ := bnd_some h
  refine s_call gn rfl (r_callF (vs := [(vi (wi64 (a1.N * b1.D))), (vi (wi64 (b1.N * a1.D)))]) rfl ok_143 ⟨et, ⟨et, trivial⟩⟩) (Calls.mono (c_ref01_order (Dj F c4) w4 hI.lt (wi64 (a1.N * b1.D)) (wi64 (b1.N * a1.D)) trivial r3 hx5) ?_)
  rintro _ w5 ⟨rfl, hx6, hl3⟩
  refine ⟨_, rfl, ?_⟩
  replace hI := (hI.ext hx6)
  refine sa ?_
  refine nk (c_ret ?_)
  obtain rfl := some_inj h
  exact q_ret (vs := [(vi r3)]) Tryz.results120 ⟨ev_tmp rfl rfl, trivial⟩ ⟨rfl, hI.ext0, hI.fin trivial⟩
 ·replace h := ite_f hb h
  refine c_skip (k_same (c_seq (sr (sq (y_fieldAddr rfl et u68 rfl size_2 rfl) ?_))))
  refine sq (y_load1 (v := (vi a1.N)) rfl et u2 rfl (hI.kblk (l := [(vi a1.N)]) (.s .z) rfl).1) ?_
  refine sq (y_fieldAddr rfl et u68 rfl size_2 rfl) ?_
  refine sq (y_load1 (v := (vi b1.N)) rfl et u2 rfl (hI.kblk (l := [(vi b1.N)]) .z rfl).1) ?_
  refine sq (y_neq rfl et et) ?_
  refine nk (c_cond (b := !decide (a1.N = b1.N)) et (fun hb => ?_) (fun hb => ?_))
  ·replace h := ite_t hb h
   refine sr (sq (y_fieldAddr rfl et u68 rfl size_2 rfl) ?_)
   refine sq (y_load1 (v := (vi a1.N)) rfl et u2 rfl (hI.kblk (l := [(vi a1.N)]) (.s .z) rfl).1) ?_
   refine sq (y_fieldAddr rfl et u68 rfl size_2 rfl) ?_
   refine sq (y_load1 (v := (vi b1.N)) rfl et u2 rfl (hI.kblk (l := [(vi b1.N)]) .z rfl).1) ?_
   obtain ⟨r4, hx7, h⟩ := bnd_some h
   refine s_call gn rfl (r_callF (vs := [(vi a1.N), (vi b1.N)]) rfl ok_143 ⟨et, ⟨et, trivial⟩⟩) (Calls.mono (c_ref01_order (Dj F c4) w4 hI.lt a1.N b1.N trivial r4 hx7) ?_)
   rintro _ w6 ⟨rfl, hx8, hl4⟩
   refine ⟨_, rfl, ?_⟩
   replace hI := (hI.ext hx8)
   refine sa ?_
   refine nk (c_ret ?_)
   obtain rfl := some_inj h
   exact q_ret (vs := [(vi r4)]) Tryz.results120 ⟨ev_tmp rfl rfl, trivial⟩ ⟨rfl, hI.ext0, hI.fin trivial⟩
  ·replace h := ite_f hb h
   refine c_skip (k_same (sr (sq (y_fieldAddr rfl et u68 rfl size_2 rfl) ?_)))
   refine sq (y_load1 (v := (vi a1.D)) rfl et u2 rfl (hI.kblk (l := [(vi a1.D)]) (.s .z) rfl).1) ?_
   refine sq (y_fieldAddr rfl et u68 rfl size_2 rfl) ?_
   refine sq (y_load1 (v := (vi b1.D)) rfl et u2 rfl (hI.kblk (l := [(vi b1.D)]) .z rfl).1) ?_
   obtain ⟨r5, hx9, h⟩ := bnd_some h
   refine s_call gn rfl (r_callF (vs := [(vi a1.D), (vi b1.D)]) rfl ok_143 ⟨et, ⟨et, trivial⟩⟩) (Calls.mono (c_ref01_order (Dj F c4) w4 hI.lt a1.D b1.D trivial r5 hx9) ?_)
   rintro _ w7 ⟨rfl, hx10, hl5⟩
   refine ⟨_, rfl, ?_⟩
   replace hI := (hI.ext hx10)
   refine sa ?_
   refine nk (c_ret ?_)
   obtain rfl := some_inj h
   exact q_ret (vs := [(vi r5)]) Tryz.results120 ⟨ev_tmp rfl rfl, trivial⟩ ⟨rfl, hI.ext0, hI.fin trivial⟩

set_option maxRecDepth 100000 in
set_option maxHeartbeats 4000000 in
theorem c_ref04_Compare (F : NP) (w0 : World) (hF : ∀ k, F k → k < w0.heap.size) (t1 : GType) (a1 : GVal) (b1 : GVal) (hc : AllCl [] F w0) (r : Int)
  (h : m_ref04_Compare t1 a1 b1 = some r) :
  Calls Tryz.prog 98 #[(Value.agg (AType t1)), (Value.agg (AVal a1)), (Value.agg (AVal b1))] w0 fun e w => e = .returned (vi r) ∧ Ext w0 w ∧ AllCl [] F w := by
 refine enterK (l := [(Value.agg (AType t1)), (Value.agg (AVal a1)), (Value.agg (AVal b1))]) Tryz.func98 rfl Tryz.ntmps98 rfl ?_
 have hI := Bun.start hF hc
 clear hc
 rw [m_ref04_Compare] at h
 refine sr (l_box (v := (Value.agg (AType t1))) (cs := (AType t1)) hI gn rfl rfl et rfl ?_)
 clear hI; intro b2 c1 w1 hI
 obtain ⟨c2, hI⟩ := hI.relBox .z
 refine l_box (v := (Value.agg (AVal a1))) (cs := (AVal a1)) hI gn rfl rfl et rfl ?_
 clear hI; intro b3 c3 w2 hI
 obtain ⟨c4, hI⟩ := hI.relBox .z
 refine l_box (v := (Value.agg (AVal b1))) (cs := (AVal b1)) hI gn rfl rfl et rfl ?_
 clear hI; intro b4 c5 w3 hI
 obtain ⟨c6, hI⟩ := hI.relBox .z
 refine sac ?_
 refine nk (c_seq (sr (sq (y_loadN (l := (lType t1)) rfl et u38 rfl size_38 (hI.kblk (l := (lType t1)) (.s (.s .z)) rfl).1) ?_)))
 refine sq (y_loadN (l := (lVal a1)) rfl et u68 rfl size_68 (hI.kblk (l := (lVal a1)) (.s .z) rfl).1) ?_
 obtain ⟨r1, hx1, h⟩ := bnd_some h
 refine s_call gn rfl (r_callF (vs := [(Value.agg (AType t1)), (Value.agg (AVal a1))]) rfl ok_119 ⟨et, ⟨et, trivial⟩⟩) (Calls.mono (c_ref04_Valid (Dj F c6) w3 hI.lt t1 a1 trivial r1 hx1) ?_)
 rintro _ w4 ⟨rfl, hx2, hl1⟩
 refine ⟨_, rfl, ?_⟩
 replace hI := (hI.ext hx2)
 refine sq (y_not rfl et) ?_
 refine sm ?_
 refine s_gval (g_false rfl rfl rfl rfl) rfl (fun hc => (y_loadN (l := (lType t1)) rfl et u38 rfl size_38 (hI.kblk (l := (lType t1)) (.s (.s .z)) rfl).1)) ?_
 refine s_gval (g_false rfl rfl rfl rfl) rfl (fun hc => (y_loadN (l := (lVal b1)) rfl et u68 rfl size_68 (hI.kblk (l := (lVal b1)) .z rfl).1)) ?_
 obtain ⟨r2, hx3, h⟩ := bnd_some h
 replace hx3 := gd_some hx3
 refine s_gcallU (v := (vb r2)) (g_false rfl rfl rfl rfl) rfl (fun hc => (r_callF (vs := [(Value.agg (AType t1)), (Value.agg (AVal b1))]) rfl ok_119 ⟨(ev_gv et hc), ⟨(ev_gv et hc), trivial⟩⟩)) (fun hc => (c_ref04_Valid (Dj F c6) w4 hI.lt t1 b1 trivial r2 (hx3 hc)).mono fun _ _ k => ⟨k.1, k.2.1⟩) ?_
 intro w5 hx4; replace hI := hI.ext hx4
 refine s_gval (g_false rfl rfl rfl rfl) rfl (fun hc => (y_not rfl (ev_gv et hc))) ?_
 refine sq (y_or rfl et et) ?_
 refine nk (c_cond (b := (!r1) || (!r2)) et (fun hb => ?_) (fun hb => ?_))
 ·replace h := ite_t hb h
  refine sr (sac ?_)
  refine nk (c_ret ?_)
  obtain rfl := some_inj h
  exact q_ret (vs := [(vi 0)]) Tryz.results98 ⟨ev_tmp rfl rfl, trivial⟩ ⟨rfl, hI.ext0, hI.fin trivial⟩
 ·replace h := ite_f hb h
  refine c_skip (k_same (sr (sq (y_loadN (l := (lVal a1)) rfl et u68 rfl size_68 (hI.kblk (l := (lVal a1)) (.s .z) rfl).1) ?_)))
  refine sq (y_loadN (l := (lVal b1)) rfl et u68 rfl size_68 (hI.kblk (l := (lVal b1)) .z rfl).1) ?_
  obtain ⟨r3, hx5, h⟩ := bnd_some h
  refine s_call gn rfl (r_callF (vs := [(Value.agg (AVal a1)), (Value.agg (AVal b1))]) rfl ok_120 ⟨et, ⟨et, trivial⟩⟩) (Calls.mono (c_ref01_Compare (Dj F c6) w5 hI.lt a1 b1 trivial r3 hx5) ?_)
  rintro _ w6 ⟨rfl, hx6, hl3⟩
  refine ⟨_, rfl, ?_⟩
  replace hI := (hI.ext hx6)
  refine sa ?_
  refine nk (c_ret ?_)
  obtain rfl := some_inj h
  exact q_ret (vs := [(vi r3)]) Tryz.results98 ⟨ev_tmp rfl rfl, trivial⟩ ⟨rfl, hI.ext0, hI.fin trivial⟩

set_option maxRecDepth 100000 in
set_option maxHeartbeats 4000000 in
theorem c_ref04_floor (F : NP) (w0 : World) (hF : ∀ k, F k → k < w0.heap.size) (n1 : Int) (d1 : Int) (hc : AllCl [] F w0) (r : Int)
  (h : m_ref04_floor n1 d1 = some r) :
  Calls Tryz.prog 123 #[(vi n1), (vi d1)] w0 fun e w => e = .returned (vi r) ∧ Ext w0 w ∧ AllCl [] F w := by
 refine enterK (l := [(vi n1), (vi d1)]) Tryz.func123 rfl Tryz.ntmps123 rfl ?_
 have hI := Bun.start hF hc
 clear hc
 rw [m_ref04_floor] at h
 refine sr (sac ?_)
 refine nk (sr (sm ?_))
 refine sm ?_
 obtain ⟨ho1, h⟩ := chk_some h
 refine sq (y_quo rfl et et ho1) ?_
 refine sa ?_
 refine nk (c_seq (sr (sm ?_)))
 refine sm ?_
 refine sq (y_mul rfl et et) ?_
 refine sm ?_
 refine sq (y_gtr rfl et et) ?_
 refine nk (c_cond (b := decide (n1 < wi64 ((wi64 (Int.tdiv n1 d1)) * d1))) et (fun hb => ?_) (fun hb => ?_))
 ·replace h := ite_t hb h
  refine sr (sm ?_)
  refine sq (y_sub rfl et ev_const) ?_
  refine sa ?_
  refine nk (c_ret ?_)
  obtain rfl := some_inj h
  exact q_ret (vs := [(vi (wi64 ((wi64 (Int.tdiv n1 d1)) - 1)))]) Tryz.results123 ⟨ev_tmp rfl rfl, trivial⟩ ⟨rfl, hI.ext0, hI.fin trivial⟩
 ·replace h := ite_f hb h
  refine c_skip (k_same (sr (sm ?_)))
  refine sa ?_
  refine nk (c_ret ?_)
  obtain rfl := some_inj h
  exact q_ret (vs := [(vi (wi64 (Int.tdiv n1 d1)))]) Tryz.results123 ⟨ev_tmp rfl rfl, trivial⟩ ⟨rfl, hI.ext0, hI.fin trivial⟩

set_option maxRecDepth 100000 in
set_option maxHeartbeats 4000000 in
theorem c_ref04_fit (F : NP) (w0 : World) (hF : ∀ k, F k → k < w0.heap.size) (t1 : GType) (n1 : Int) (hc : AllCl [] F w0) (r : GVal)
  (h : m_ref04_fit t1 n1 = some r) :
  Calls Tryz.prog 121 #[(Value.agg (AType t1)), (vi n1)] w0 fun e w => e = .returned (Value.agg (AVal r)) ∧ Ext w0 w ∧ AllCl [] F w := by
 refine enterK (l := [(Value.agg (AType t1)), (vi n1)]) Tryz.func121 rfl Tryz.ntmps121 rfl ?_
 have hI := Bun.start hF hc
 clear hc
 rw [m_ref04_fit] at h
 refine sr (l_box (v := (Value.agg (AType t1))) (cs := (AType t1)) hI gn rfl rfl et rfl ?_)
 clear hI; intro b1 c1 w1 hI
 obtain ⟨c2, hI⟩ := hI.relBox .z
 refine l_alloc (cs := #[(vi 0), (vi 0)]) hI gn rfl rfl zero_68 rfl ?_
 clear hI; intro b2 c3 w2 hI
 refine nk (sr (sq (y_fieldAddr rfl et u38 rfl size_3 rfl) ?_))
 refine sq (y_load1 (v := (vi t1.Bits)) rfl et u3 rfl (hI.kblk (l := [(vi t1.Bits)]) .z rfl).1) ?_
 refine sq (y_sub rfl et ev_const) ?_
 refine sq (y_conv rfl (by rw [u3]; rfl) u133 et) ?_
 obtain ⟨ho1, h⟩ := chk_some h
 refine sq (y_shl rfl ev_const et ho1) ?_
 obtain ⟨half1, hx1, h⟩ := bnd_some h
 refine sq (binU (y_assign rfl et) (congrArg (Value.int .i64) (some_inj hx1))) ?_
 refine nk (c_join (α := Int) (fun _ => ⟨33, []⟩) (fun x => [(1, (vi x)), (4, (vp b2 0)), (5, (vi half1))]) (fun x => fun w => ∃ C, Bun noM F w0 C w [MO.box b2 68 #[(vi 0), (vi 0)]] [] ∧ m_ref04_fit_j1 half1 x = some r) ?_ ?_)
 ·clear h hI; rintro n2 w3 ⟨c4, hI, h⟩
  try dsimp only at hI h
  rw [m_ref04_fit_j1] at h
  refine c_sub (e := [(1, (vi n2)), (4, (vp b2 0)), (5, (vi half1))]) ⟨rfl, rfl, rfl, trivial⟩ ?_
  refine sr (sm ?_)
  refine sq (y_neg rfl et) ?_
  refine sm ?_
  refine sq (y_sub rfl et ev_const) ?_
  refine sm ?_
  refine sq (y_min rfl et et) ?_
  refine sq (y_max rfl et et) ?_
  refine sq (y_build (vs := [(0, (vi (max (wi64 (-half1)) (min (wi64 (half1 - 1)) n2)))), (1, (vi 1))]) (cs := #[(vi (max (wi64 (-half1)) (min (wi64 (half1 - 1)) n2))), (vi 1)]) rfl ⟨rfl, et, ⟨rfl, ev_const, trivial⟩⟩ (by kernel_rfl)) ?_
  refine l_store (new := [(vi (max (wi64 (-half1)) (min (wi64 (half1 - 1)) n2))), (vi 1)]) (cs' := #[(vi (max (wi64 (-half1)) (min (wi64 (half1 - 1)) n2))), (vi 1)]) hI .z gn rfl rfl et et rfl size_68 rfl rfl rfl ?_
  clear hI; intro c5 w4 hI
  refine nk (c_ret ?_)
  obtain rfl := some_inj h
  exact q_ret (vs := [(Value.agg #[(vi (max (wi64 (-half1)) (min (wi64 (half1 - 1)) n2))), (vi 1)])]) Tryz.results121 ⟨⟨_, ev_tmp rfl rfl, load_agg (l := [(vi (max (wi64 (-half1)) (min (wi64 (half1 - 1)) n2))), (vi 1)]) u68 rfl size_68 (CellsAt.of_blk (hI.blk .z) rfl)⟩, trivial⟩ ⟨rfl, hI.ext0, hI.fin trivial⟩
 ·skip
  refine sr (sq (y_fieldAddr rfl et u38 rfl size_3 rfl) ?_)
  refine sq (y_load1 (v := (vi t1.Over)) rfl et u3 rfl (hI.kblk (l := [(vi t1.Over)]) .z rfl).1) ?_
  refine sq (y_eql rfl et ev_const) ?_
  refine nk (c_cond (b := decide (t1.Over = 2)) et (fun hb => ?_) (fun hb => ?_))
  ·replace h := ite_t hb h
   refine c_region rfl ?_
   refine sm ?_
   refine sm ?_
   refine sm ?_
   refine sq (y_add rfl et et) ?_
   refine sm ?_
   refine sq (y_mul rfl ev_const et) ?_
   obtain ⟨r1, hx2, h⟩ := bnd_some h
   refine s_call gn rfl (r_callF (vs := [(vi (wi64 (n1 + half1))), (vi (wi64 (2 * half1)))]) rfl ok_123 ⟨et, ⟨et, trivial⟩⟩) (Calls.mono (c_ref04_floor (Dj F c3) w2 hI.lt (wi64 (n1 + half1)) (wi64 (2 * half1)) trivial r1 hx2) ?_)
   rintro _ w5 ⟨rfl, hx3, hl1⟩
   refine ⟨_, rfl, ?_⟩
   replace hI := (hI.ext hx3)
   refine sq (y_mul rfl et ev_const) ?_
   refine sm ?_
   refine sq (y_mul rfl et et) ?_
   refine sq (y_sub rfl et et) ?_
   obtain ⟨n3, hx4, h⟩ := bnd_some h
   refine sq (binU (y_assign rfl et) (congrArg (Value.int .i64) (some_inj hx4))) ?_
   refine s_nil ?_
   exact k_join n3 ⟨rfl, rfl, rfl, trivial⟩ ⟨_, hI.arr (.c .z .n) trivial, h⟩ rfl
  ·replace h := ite_f hb h
   exact c_skip (k_join n1 ⟨rfl, rfl, rfl, trivial⟩ ⟨_, hI.arr (.c .z .n) trivial, h⟩ rfl)

set_option maxRecDepth 100000 in
set_option maxHeartbeats 4000000 in
theorem c_ref04_round (F : NP) (w0 : World) (hF : ∀ k, F k → k < w0.heap.size) (n1 : Int) (d1 : Int) (how1 : Int) (hc : AllCl [] F w0) (r : Int)
  (h : m_ref04_round n1 d1 how1 = some r) :
  Calls Tryz.prog 122 #[(vi n1), (vi d1), (vi how1)] w0 fun e w => e = .returned (vi r) ∧ Ext w0 w ∧ AllCl [] F w := by
 refine enterK (l := [(vi n1), (vi d1), (vi how1)]) Tryz.func122 rfl Tryz.ntmps122 rfl ?_
 have hI := Bun.start hF hc
 clear hc
 rw [m_ref04_round] at h
 refine sr (sac ?_)
 refine nk (sr (sm ?_))
 refine sm ?_
 obtain ⟨r1, hx1, h⟩ := bnd_some h
 refine s_call gn rfl (r_callF (vs := [(vi n1), (vi d1)]) rfl ok_123 ⟨et, ⟨et, trivial⟩⟩) (Calls.mono (c_ref04_floor (Dj F noM) w0 hI.lt n1 d1 trivial r1 hx1) ?_)
 rintro _ w1 ⟨rfl, hx2, hl1⟩
 refine ⟨_, rfl, ?_⟩
 replace hI := (hI.ext hx2)
 refine sa ?_
 refine nk (sr (sm ?_))
 refine sm ?_
 refine sm ?_
 refine sq (y_mul rfl et et) ?_
 refine sq (y_sub rfl et et) ?_
 obtain ⟨rest1, hx3, h⟩ := bnd_some h
 refine sq (binU (y_assign rfl et) (congrArg (Value.int .i64) (some_inj hx3))) ?_
 refine nk (c_seq (sr (sm ?_)))
 refine sq (y_eql rfl et ev_const) ?_
 refine sm ?_
 refine s_gval (g_false rfl rfl rfl rfl) rfl (fun hc => (y_move rfl et)) ?_
 refine s_gval (g_false rfl rfl rfl rfl) rfl (fun hc => (y_eql rfl (ev_gv et hc) ev_const)) ?_
 refine sq (y_or rfl et et) ?_
 refine nk (c_cond (b := (decide (rest1 = 0)) || (decide (how1 = 1))) et (fun hb => ?_) (fun hb => ?_))
 ·replace h := ite_t hb h
  refine sr (sm ?_)
  refine sa ?_
  refine nk (c_ret ?_)
  obtain rfl := some_inj h
  exact q_ret (vs := [(vi r1)]) Tryz.results122 ⟨ev_tmp rfl rfl, trivial⟩ ⟨rfl, hI.ext0, hI.fin trivial⟩
 ·replace h := ite_f hb h
  refine c_skip (k_same (c_seq (sr (sm ?_))))
  refine sq (y_eql rfl et ev_const) ?_
  refine nk (c_cond (b := decide (how1 = 2)) et (fun hb => ?_) (fun hb => ?_))
  ·replace h := ite_t hb h
   refine sr (sm ?_)
   refine sq (y_add rfl et ev_const) ?_
   refine sa ?_
   refine nk (c_ret ?_)
   obtain rfl := some_inj h
   exact q_ret (vs := [(vi (wi64 (r1 + 1)))]) Tryz.results122 ⟨ev_tmp rfl rfl, trivial⟩ ⟨rfl, hI.ext0, hI.fin trivial⟩
  ·replace h := ite_f hb h
   refine c_skip (k_same (c_seq (sr (sm ?_))))
   refine sq (y_eql rfl et ev_const) ?_
   refine nk (c_cond (b := decide (how1 = 3)) et (fun hb => ?_) (fun hb => ?_))
   ·replace h := ite_t hb h
    refine c_seq (sr (sm ?_))
    refine sq (y_lss rfl et ev_const) ?_
    refine s_nil ?_
    refine k_next (e := [(7, (vi r1)), (31, (vb (decide (n1 < 0))))]) ⟨rfl, rfl, trivial⟩ ?_
    refine c_cond (b := decide (n1 < 0)) et (fun hb => ?_) (fun hb => ?_)
    ·replace h := ite_t hb h
     refine sr (sm ?_)
     refine sq (y_add rfl et ev_const) ?_
     refine sa ?_
     refine nk (c_ret ?_)
     obtain rfl := some_inj h
     exact q_ret (vs := [(vi (wi64 (r1 + 1)))]) Tryz.results122 ⟨ev_tmp rfl rfl, trivial⟩ ⟨rfl, hI.ext0, hI.fin trivial⟩
    ·replace h := ite_f hb h
     refine c_skip (k_same (sr (sm ?_)))
     refine sa ?_
     refine nk (c_ret ?_)
     obtain rfl := some_inj h
     exact q_ret (vs := [(vi r1)]) Tryz.results122 ⟨ev_tmp rfl rfl, trivial⟩ ⟨rfl, hI.ext0, hI.fin trivial⟩
   ·replace h := ite_f hb h
    refine c_skip (k_same (c_seq (sr (sm ?_))))
    refine sm ?_
    refine sm ?_
    refine sq (y_sub rfl et et) ?_
    refine sq (y_gtr rfl et et) ?_
    refine sm ?_
    refine s_gval (g_false rfl rfl rfl rfl) rfl (fun hc => (y_move rfl et)) ?_
    refine s_gval (g_false rfl rfl rfl rfl) rfl (fun hc => (y_move rfl et)) ?_
    refine s_gval (g_false rfl rfl rfl rfl) rfl (fun hc => (y_move rfl et)) ?_
    refine s_gval (g_false rfl rfl rfl rfl) rfl (fun hc => (y_sub rfl (ev_gv et hc) (ev_gv et hc))) ?_
    refine s_gval (g_false rfl rfl rfl rfl) rfl (fun hc => (y_eql rfl (ev_gv et hc) (ev_gv et hc))) ?_
    refine s_gval (g_false rfl rfl rfl rfl) rfl (fun hc => (y_move rfl (ev_gv et hc))) ?_
    refine s_gval (g_true2 rfl rfl rfl rfl) rfl (fun hc => (y_move rfl et)) ?_
    refine s_gval (g_true2 rfl rfl rfl rfl) rfl (fun hc => (y_rem rfl (ev_gv et hc) ev_const (by decide))) ?_
    refine s_gval (g_true2 rfl rfl rfl rfl) rfl (fun hc => (y_neq rfl (ev_gv et hc) ev_const)) ?_
    refine s_gval (g_false rfl rfl rfl rfl) rfl (fun hc => (y_and2 rfl hc et et)) ?_
    refine sq (y_or rfl et et) ?_
    refine s_nil ?_
    refine k_next (e := [(7, (vi r1)), (51, (vb ((decide (wi64 (d1 - rest1) < rest1)) || ((decide (rest1 = wi64 (d1 - rest1))) && (!decide (Int.tmod r1 2 = 0))))))]) ⟨rfl, rfl, trivial⟩ ?_
    refine c_cond (b := (decide (wi64 (d1 - rest1) < rest1)) || ((decide (rest1 = wi64 (d1 - rest1))) && (!decide (Int.tmod r1 2 = 0)))) et (fun hb => ?_) (fun hb => ?_)
    ·replace h := ite_t hb h
     refine sr (sm ?_)
     refine sq (y_add rfl et ev_const) ?_
     refine sa ?_
     refine nk (c_ret ?_)
     obtain rfl := some_inj h
     exact q_ret (vs := [(vi (wi64 (r1 + 1)))]) Tryz.results122 ⟨ev_tmp rfl rfl, trivial⟩ ⟨rfl, hI.ext0, hI.fin trivial⟩
    ·replace h := ite_f hb h
     refine c_skip (k_same (sr (sm ?_)))
     refine sa ?_
     refine nk (c_ret ?_)
     obtain rfl := some_inj h
     exact q_ret (vs := [(vi r1)]) Tryz.results122 ⟨ev_tmp rfl rfl, trivial⟩ ⟨rfl, hI.ext0, hI.fin trivial⟩

set_option maxRecDepth 100000 in
set_option maxHeartbeats 4000000 in
theorem c_ref04_fix (F : NP) (w0 : World) (hF : ∀ k, F k → k < w0.heap.size) (op1 : Int) (t1 : GType) (a1 : Int) (b1 : Int) (hc : AllCl [] F w0) (r : GVal × Int)
  (h : m_ref04_fix op1 t1 a1 b1 = some r) :
  Calls Tryz.prog 99 #[(vi op1), (Value.agg (AType t1)), (vi a1), (vi b1)] w0 fun e w => e = .returned (Value.tuple #[(Value.agg (AVal r.1)), (vi r.2)]) ∧ Ext w0 w ∧ AllCl [] F w := by
 refine enterK (l := [(vi op1), (Value.agg (AType t1)), (vi a1), (vi b1)]) Tryz.func99 rfl Tryz.ntmps99 rfl ?_
 have hI := Bun.start hF hc
 clear hc
 rw [m_ref04_fix] at h
 refine sr (l_box (v := (Value.agg (AType t1))) (cs := (AType t1)) hI gn rfl rfl et rfl ?_)
 clear hI; intro b2 c1 w1 hI
 obtain ⟨c2, hI⟩ := hI.relBox .z
 refine l_alloc (cs := #[(vi 0), (vi 0)]) hI gn rfl rfl zero_68 rfl ?_
 clear hI; intro b3 c3 w2 hI
 refine sac ?_
 refine nk (c_seq (sr (sm ?_)))
 refine nk (c_block (sr (sq (y_eql rfl et ev_const) ?_)))
 refine sa ?_
 refine nk (c_cond (b := decide (op1 = 4)) et (fun hb => ?_) (fun hb => ?_))
 ·replace h := ite_t hb h
  refine sr (sq (y_loadN (l := (lType t1)) rfl et u38 rfl size_38 (hI.kblk (l := (lType t1)) .z rfl).1) ?_)
  refine sm ?_
  refine sm ?_
  refine sq (y_add rfl et et) ?_
  obtain ⟨r1, hx1, h⟩ := bnd_some h
  refine s_call gn rfl (r_callF (vs := [(Value.agg (AType t1)), (vi (wi64 (a1 + b1)))]) rfl ok_121 ⟨et, ⟨et, trivial⟩⟩) (Calls.mono (c_ref04_fit (Dj F c3) w2 hI.lt t1 (wi64 (a1 + b1)) trivial r1 hx1) ?_)
  rintro _ w3 ⟨rfl, hx2, hl1⟩
  refine ⟨_, rfl, ?_⟩
  replace hI := (hI.ext hx2)
  refine l_store (new := (lVal r1)) (cs' := (AVal r1)) hI .z gn rfl rfl et et rfl size_68 rfl rfl rfl ?_
  clear hI; intro c4 w4 hI
  refine sac ?_
  refine nk (c_ret ?_)
  obtain rfl := some_inj h
  exact q_ret (vs := [(Value.agg (AVal r1)), (vi 0)]) Tryz.results99 ⟨⟨_, ev_tmp rfl rfl, load_agg (l := (lVal r1)) u68 rfl size_68 (CellsAt.of_blk (hI.blk .z) rfl)⟩, ⟨ev_tmp rfl rfl, trivial⟩⟩ ⟨rfl, hI.ext0, hI.fin trivial⟩
 ·replace h := ite_f hb h
  refine sr (sq (y_eql rfl et ev_const) ?_)
  refine sa ?_
  refine nk (c_cond (b := decide (op1 = 5)) et (fun hb => ?_) (fun hb => ?_))
  ·replace h := ite_t hb h
   refine sr (sq (y_loadN (l := (lType t1)) rfl et u38 rfl size_38 (hI.kblk (l := (lType t1)) .z rfl).1) ?_)
   refine sm ?_
   refine sm ?_
   refine sq (y_sub rfl et et) ?_
   obtain ⟨r2, hx3, h⟩ := bnd_some h
   refine s_call gn rfl (r_callF (vs := [(Value.agg (AType t1)), (vi (wi64 (a1 - b1)))]) rfl ok_121 ⟨et, ⟨et, trivial⟩⟩) (Calls.mono (c_ref04_fit (Dj F c3) w2 hI.lt t1 (wi64 (a1 - b1)) trivial r2 hx3) ?_)
   rintro _ w5 ⟨rfl, hx4, hl2⟩
   refine ⟨_, rfl, ?_⟩
   replace hI := (hI.ext hx4)
   refine l_store (new := (lVal r2)) (cs' := (AVal r2)) hI .z gn rfl rfl et et rfl size_68 rfl rfl rfl ?_
   clear hI; intro c5 w6 hI
   refine sac ?_
   refine nk (c_ret ?_)
   obtain rfl := some_inj h
   exact q_ret (vs := [(Value.agg (AVal r2)), (vi 0)]) Tryz.results99 ⟨⟨_, ev_tmp rfl rfl, load_agg (l := (lVal r2)) u68 rfl size_68 (CellsAt.of_blk (hI.blk .z) rfl)⟩, ⟨ev_tmp rfl rfl, trivial⟩⟩ ⟨rfl, hI.ext0, hI.fin trivial⟩
  ·replace h := ite_f hb h
   refine sr (sq (y_eql rfl et ev_const) ?_)
   refine sa ?_
   refine nk (c_cond (b := decide (op1 = 6)) et (fun hb => ?_) (fun hb => ?_))
   ·replace h := ite_t hb h
    refine c_seq (c_drawX [10] false (.c (0, .q) (.c (1, .q) (.c (2, .q) (.c (3, .q) (.c (4, .q) (.c (6, .q) (.c (7, .q) (.c (5, .s) (.c (8, .s) (.c (9, .s) (.c (10, .s) (.c (11, .q) .n)))))))))))) hI (by kernel_rfl) (by kernel_rfl) ?_)
    clear hI; intro w7 hI
    refine a_read rfl gn rfl (fun w' hw' => (y_loadN (l := (lType t1)) rfl et u38 rfl size_38 ((hI.kblk (l := (lType t1)) .z rfl).at_ (SX.any rfl hw')))) (by kernel_rfl) ?_
    refine a_q rfl gn rfl (fun w' => (y_move rfl et)) ?_
    refine a_q rfl gn rfl (fun w' => (y_move rfl et)) ?_
    refine a_q rfl gn rfl (fun w' => (y_mul rfl et et)) ?_
    refine a_read rfl gn rfl (fun w' hw' => (y_loadN (l := (lType t1)) rfl et u38 rfl size_38 ((hI.kblk (l := (lType t1)) .z rfl).at_ (SX.any rfl hw')))) (by kernel_rfl) ?_
    refine a_q rfl gn rfl (fun w' => (y_fieldAddr rfl et u38 rfl size_3 rfl)) ?_
    refine a_read rfl gn rfl (fun w' hw' => (y_load1 (v := (vi t1.Round)) rfl et u3 rfl ((hI.kblk (l := [(vi t1.Round)]) .z rfl).at_ (SX.any rfl hw')))) (by kernel_rfl) ?_
    obtain ⟨r3, hx5, h⟩ := bnd_some h
    refine la_call rfl gn rfl (r_callF (vs := [(Value.agg (AType t1))]) rfl ok_118 ⟨et, trivial⟩) (Calls.mono (c_ref04_step (Dj F c3) w7 hI.lt t1 trivial r3 hx5) ?_)
    rintro _ w8 ⟨rfl, hx6, hl3⟩
    refine ⟨_, rfl, hx6, ?_⟩
    replace hI := (hI.ext hx6)
    obtain ⟨r4, hx7, h⟩ := bnd_some h
    refine la_call rfl gn rfl (r_callF (vs := [(vi (wi64 (a1 * b1))), (vi r3), (vi t1.Round)]) rfl ok_122 ⟨et, ⟨et, ⟨et, trivial⟩⟩⟩) (Calls.mono (c_ref04_round (Dj F c3) w8 hI.lt (wi64 (a1 * b1)) r3 t1.Round trivial r4 hx7) ?_)
    rintro _ w9 ⟨rfl, hx8, hl4⟩
    refine ⟨_, rfl, hx8, ?_⟩
    replace hI := (hI.ext hx8)
    obtain ⟨r5, hx9, h⟩ := bnd_some h
    refine la_call rfl gn rfl (r_callF (vs := [(Value.agg (AType t1)), (vi r4)]) rfl ok_121 ⟨et, ⟨et, trivial⟩⟩) (Calls.mono (c_ref04_fit (Dj F c3) w9 hI.lt t1 r4 trivial r5 hx9) ?_)
    rintro _ w10 ⟨rfl, hx10, hl5⟩
    refine ⟨_, rfl, hx10, ?_⟩
    replace hI := (hI.ext hx10)
    refine a_turn (F := F) (C := c3) rfl rfl ?_
    refine la_store (new := (lVal r5)) (cs' := (AVal r5)) hI .z rfl gn rfl rfl et et rfl size_68 rfl rfl rfl ?_
    clear hI; intro c6 w11 hI
    refine a_q rfl gn rfl (fun w' => (y_assign rfl ev_const)) ?_
    refine a_nil ?_
    refine k_same (c_ret ?_)
    obtain rfl := some_inj h
    exact q_ret (vs := [(Value.agg (AVal r5)), (vi 0)]) Tryz.results99 ⟨⟨_, ev_tmp rfl rfl, load_agg (l := (lVal r5)) u68 rfl size_68 (CellsAt.of_blk (hI.blk .z) rfl)⟩, ⟨ev_tmp rfl rfl, trivial⟩⟩ ⟨rfl, hI.ext0, hI.fin trivial⟩
   ·replace h := ite_f hb h
    refine sr (sq (y_eql rfl et ev_const) ?_)
    refine sa ?_
    refine nk (c_cond (b := decide (op1 = 8)) et (fun hb => ?_) (fun hb => ?_))
    ·replace h := ite_t hb h
     refine sr (sq (y_loadN (l := (lType t1)) rfl et u38 rfl size_38 (hI.kblk (l := (lType t1)) .z rfl).1) ?_)
     refine sm ?_
     refine sq (y_neg rfl et) ?_
     obtain ⟨r6, hx11, h⟩ := bnd_some h
     refine s_call gn rfl (r_callF (vs := [(Value.agg (AType t1)), (vi (wi64 (-a1)))]) rfl ok_121 ⟨et, ⟨et, trivial⟩⟩) (Calls.mono (c_ref04_fit (Dj F c3) w2 hI.lt t1 (wi64 (-a1)) trivial r6 hx11) ?_)
     rintro _ w12 ⟨rfl, hx12, hl6⟩
     refine ⟨_, rfl, ?_⟩
     replace hI := (hI.ext hx12)
     refine l_store (new := (lVal r6)) (cs' := (AVal r6)) hI .z gn rfl rfl et et rfl size_68 rfl rfl rfl ?_
     clear hI; intro c7 w13 hI
     refine sac ?_
     refine nk (c_ret ?_)
     obtain rfl := some_inj h
     exact q_ret (vs := [(Value.agg (AVal r6)), (vi 0)]) Tryz.results99 ⟨⟨_, ev_tmp rfl rfl, load_agg (l := (lVal r6)) u68 rfl size_68 (CellsAt.of_blk (hI.blk .z) rfl)⟩, ⟨ev_tmp rfl rfl, trivial⟩⟩ ⟨rfl, hI.ext0, hI.fin trivial⟩
    ·replace h := ite_f hb h
     refine c_skip (k_same (c_seq (sr (sm ?_))))
     refine sq (y_eql rfl et ev_const) ?_
     refine nk (c_cond (b := decide (b1 = 0)) et (fun hb => ?_) (fun hb => ?_))
     ·replace h := ite_t hb h
      refine sr (sq (y_build (vs := []) (cs := #[(vi 0), (vi 0)]) rfl trivial (by kernel_rfl)) ?_)
      refine l_store (new := [(vi 0), (vi 0)]) (cs' := #[(vi 0), (vi 0)]) hI .z gn rfl rfl et et rfl size_68 rfl rfl rfl ?_
      clear hI; intro c8 w14 hI
      refine sac ?_
      refine nk (c_ret ?_)
      obtain rfl := some_inj h
      exact q_ret (vs := [(Value.agg #[(vi 0), (vi 0)]), (vi 4)]) Tryz.results99 ⟨⟨_, ev_tmp rfl rfl, load_agg (l := [(vi 0), (vi 0)]) u68 rfl size_68 (CellsAt.of_blk (hI.blk .z) rfl)⟩, ⟨ev_tmp rfl rfl, trivial⟩⟩ ⟨rfl, hI.ext0, hI.fin trivial⟩
     ·replace h := ite_f hb h
      refine c_skip (k_same (c_join (α := Int × Int) (fun _ => ⟨62, []⟩) (fun x => [(2, (vi (x.1))), (3, (vi (x.2))), (5, (vp b2 0)), (8, (vp b3 0))]) (fun x => fun w => ∃ C, Bun noM F w0 C w [MO.box b3 68 #[(vi 0), (vi 0)]] [Cl.blk b2 38 (AType t1)] ∧ m_ref04_fix_j1 t1 (x.1) (x.2) = some r) ?_ ?_))
      ·clear h hI; rintro ⟨a2, b4⟩ w15 ⟨c9, hI, h⟩
       try dsimp only at hI h
       rw [m_ref04_fix_j1] at h
       refine c_sub (e := [(2, (vi a2)), (3, (vi b4)), (5, (vp b2 0)), (8, (vp b3 0))]) ⟨rfl, rfl, rfl, rfl, trivial⟩ ?_
       refine c_seq (c_drawX [10] false (.c (0, .q) (.c (1, .q) (.c (2, .q) (.c (5, .q) (.c (6, .q) (.c (7, .q) (.c (3, .s) (.c (4, .q) (.c (8, .s) (.c (9, .s) (.c (10, .s) (.c (11, .q) .n)))))))))))) hI (by kernel_rfl) (by kernel_rfl) ?_)
       clear hI; intro w16 hI
       refine a_read rfl gn rfl (fun w' hw' => (y_loadN (l := (lType t1)) rfl et u38 rfl size_38 ((hI.kblk (l := (lType t1)) .z rfl).at_ (SX.any rfl hw')))) (by kernel_rfl) ?_
       refine a_q rfl gn rfl (fun w' => (y_move rfl et)) ?_
       refine a_read rfl gn rfl (fun w' hw' => (y_loadN (l := (lType t1)) rfl et u38 rfl size_38 ((hI.kblk (l := (lType t1)) .z rfl).at_ (SX.any rfl hw')))) (by kernel_rfl) ?_
       refine a_q rfl gn rfl (fun w' => (y_move rfl et)) ?_
       refine a_q rfl gn rfl (fun w' => (y_fieldAddr rfl et u38 rfl size_3 rfl)) ?_
       refine a_read rfl gn rfl (fun w' hw' => (y_load1 (v := (vi t1.Round)) rfl et u3 rfl ((hI.kblk (l := [(vi t1.Round)]) .z rfl).at_ (SX.any rfl hw')))) (by kernel_rfl) ?_
       obtain ⟨r7, hx13, h⟩ := bnd_some h
       refine la_call rfl gn rfl (r_callF (vs := [(Value.agg (AType t1))]) rfl ok_118 ⟨et, trivial⟩) (Calls.mono (c_ref04_step (Dj F c9) w16 hI.lt t1 trivial r7 hx13) ?_)
       rintro _ w17 ⟨rfl, hx14, hl7⟩
       refine ⟨_, rfl, hx14, ?_⟩
       replace hI := (hI.ext hx14)
       refine a_q rfl gn rfl (fun w' => (y_mul rfl et et)) ?_
       obtain ⟨r8, hx15, h⟩ := bnd_some h
       refine la_call rfl gn rfl (r_callF (vs := [(vi (wi64 (a2 * r7))), (vi b4), (vi t1.Round)]) rfl ok_122 ⟨et, ⟨et, ⟨et, trivial⟩⟩⟩) (Calls.mono (c_ref04_round (Dj F c9) w17 hI.lt (wi64 (a2 * r7)) b4 t1.Round trivial r8 hx15) ?_)
       rintro _ w18 ⟨rfl, hx16, hl8⟩
       refine ⟨_, rfl, hx16, ?_⟩
       replace hI := (hI.ext hx16)
       obtain ⟨r9, hx17, h⟩ := bnd_some h
       refine la_call rfl gn rfl (r_callF (vs := [(Value.agg (AType t1)), (vi r8)]) rfl ok_121 ⟨et, ⟨et, trivial⟩⟩) (Calls.mono (c_ref04_fit (Dj F c9) w18 hI.lt t1 r8 trivial r9 hx17) ?_)
       rintro _ w19 ⟨rfl, hx18, hl9⟩
       refine ⟨_, rfl, hx18, ?_⟩
       replace hI := (hI.ext hx18)
       refine a_turn (F := F) (C := c9) rfl rfl ?_
       refine la_store (new := (lVal r9)) (cs' := (AVal r9)) hI .z rfl gn rfl rfl et et rfl size_68 rfl rfl rfl ?_
       clear hI; intro c10 w20 hI
       refine a_q rfl gn rfl (fun w' => (y_assign rfl ev_const)) ?_
       refine a_nil ?_
       refine k_same (c_ret ?_)
       obtain rfl := some_inj h
       exact q_ret (vs := [(Value.agg (AVal r9)), (vi 0)]) Tryz.results99 ⟨⟨_, ev_tmp rfl rfl, load_agg (l := (lVal r9)) u68 rfl size_68 (CellsAt.of_blk (hI.blk .z) rfl)⟩, ⟨ev_tmp rfl rfl, trivial⟩⟩ ⟨rfl, hI.ext0, hI.fin trivial⟩
      ·skip
       refine sr (sm ?_)
       refine sq (y_lss rfl et ev_const) ?_
       refine nk (c_cond (b := decide (b1 < 0)) et (fun hb => ?_) (fun hb => ?_))
       ·replace h := ite_t hb h
        refine sr (sm ?_)
        refine sq (y_neg rfl et) ?_
        refine sa ?_
        refine nk (c_region rfl ?_)
        refine sm ?_
        refine sq (y_neg rfl et) ?_
        refine sa ?_
        refine s_nil ?_
        exact k_join (wi64 (-a1), wi64 (-b1)) ⟨rfl, rfl, rfl, rfl, trivial⟩ ⟨_, hI.arr (.c .z .n) ⟨.z, trivial⟩, h⟩ rfl
       ·replace h := ite_f hb h
        exact c_skip (k_join (a1, b1) ⟨rfl, rfl, rfl, rfl, trivial⟩ ⟨_, hI.arr (.c .z .n) ⟨.z, trivial⟩, h⟩ rfl)

set_option maxRecDepth 100000 in
set_option maxHeartbeats 4000000 in
theorem c_ref04_whole (F : NP) (w0 : World) (hF : ∀ k, F k → k < w0.heap.size) (op1 : Int) (a1 : Int) (b1 : Int) (hc : AllCl [] F w0) (r : GVal × Int)
  (h : m_ref04_whole op1 a1 b1 = some r) :
  Calls Tryz.prog 100 #[(vi op1), (vi a1), (vi b1)] w0 fun e w => e = .returned (Value.tuple #[(Value.agg (AVal r.1)), (vi r.2)]) ∧ Ext w0 w ∧ AllCl [] F w := by
 refine enterK (l := [(vi op1), (vi a1), (vi b1)]) Tryz.func100 rfl Tryz.ntmps100 rfl ?_
 have hI := Bun.start hF hc
 clear hc
 rw [m_ref04_whole] at h
 refine sr (l_alloc (cs := #[(vi 0), (vi 0)]) hI gn rfl rfl zero_68 rfl ?_)
 clear hI; intro b2 c1 w1 hI
 refine sac ?_
 refine nk (sr (sm ?_))
 refine sq (y_neg rfl et) ?_
 refine sa ?_
 refine nk (c_join (α := Int) (fun _ => ⟨50, []⟩) (fun x => [(6, (vp b2 0)), (8, (vi x))]) (fun x => fun w => ∃ C, Bun noM F w0 C w [MO.box b2 68 #[(vi 0), (vi 0)]] [] ∧ m_ref04_whole_j1 x = some r) ?_ ?_)
 ·clear h hI; rintro n1 w2 ⟨c2, hI, h⟩
  try dsimp only at hI h
  rw [m_ref04_whole_j1] at h
  refine c_sub (e := [(6, (vp b2 0)), (8, (vi n1))]) ⟨rfl, rfl, trivial⟩ ?_
  refine c_seq (sr (sm ?_))
  refine sq (y_gtr rfl et ev_const) ?_
  refine sm ?_
  refine s_gval (g_false rfl rfl rfl rfl) rfl (fun hc => (y_move rfl et)) ?_
  refine s_gval (g_false rfl rfl rfl rfl) rfl (fun hc => (y_lss rfl (ev_gv et hc) ev_const)) ?_
  refine sq (y_or rfl et et) ?_
  refine nk (c_cond (b := (decide (2147483647 < n1)) || (decide (n1 < (-2147483647)))) et (fun hb => ?_) (fun hb => ?_))
  ·replace h := ite_t hb h
   refine sr (sq (y_build (vs := []) (cs := #[(vi 0), (vi 0)]) rfl trivial (by kernel_rfl)) ?_)
   refine l_store (new := [(vi 0), (vi 0)]) (cs' := #[(vi 0), (vi 0)]) hI .z gn rfl rfl et et rfl size_68 rfl rfl rfl ?_
   clear hI; intro c3 w3 hI
   refine sac ?_
   refine nk (c_ret ?_)
   obtain rfl := some_inj h
   exact q_ret (vs := [(Value.agg #[(vi 0), (vi 0)]), (vi 3)]) Tryz.results100 ⟨⟨_, ev_tmp rfl rfl, load_agg (l := [(vi 0), (vi 0)]) u68 rfl size_68 (CellsAt.of_blk (hI.blk .z) rfl)⟩, ⟨ev_tmp rfl rfl, trivial⟩⟩ ⟨rfl, hI.ext0, hI.fin trivial⟩
  ·replace h := ite_f hb h
   refine c_skip (k_same (sr (sm ?_)))
   refine sq (y_build (vs := [(0, (vi n1)), (1, (vi 1))]) (cs := #[(vi n1), (vi 1)]) rfl ⟨rfl, et, ⟨rfl, ev_const, trivial⟩⟩ (by kernel_rfl)) ?_
   refine l_store (new := [(vi n1), (vi 1)]) (cs' := #[(vi n1), (vi 1)]) hI .z gn rfl rfl et et rfl size_68 rfl rfl rfl ?_
   clear hI; intro c4 w4 hI
   refine sac ?_
   refine nk (c_ret ?_)
   obtain rfl := some_inj h
   exact q_ret (vs := [(Value.agg #[(vi n1), (vi 1)]), (vi 0)]) Tryz.results100 ⟨⟨_, ev_tmp rfl rfl, load_agg (l := [(vi n1), (vi 1)]) u68 rfl size_68 (CellsAt.of_blk (hI.blk .z) rfl)⟩, ⟨ev_tmp rfl rfl, trivial⟩⟩ ⟨rfl, hI.ext0, hI.fin trivial⟩
 ·skip
  refine sr (sm ?_)
  refine nk (c_block (sr (sq (y_eql rfl et ev_const) ?_)))
  refine sa ?_
  refine nk (c_cond (b := decide (op1 = 4)) et (fun hb => ?_) (fun hb => ?_))
  ·replace h := ite_t hb h
   refine c_region rfl ?_
   refine sm ?_
   refine sm ?_
   refine sq (y_add rfl et et) ?_
   refine sa ?_
   refine s_nil ?_
   exact k_join (wi64 (a1 + b1)) ⟨rfl, rfl, trivial⟩ ⟨_, hI.arr (.c .z .n) trivial, h⟩ rfl
  ·replace h := ite_f hb h
   refine sr (sq (y_eql rfl et ev_const) ?_)
   refine sa ?_
   refine nk (c_cond (b := decide (op1 = 5)) et (fun hb => ?_) (fun hb => ?_))
   ·replace h := ite_t hb h
    refine c_region rfl ?_
    refine sm ?_
    refine sm ?_
    refine sq (y_sub rfl et et) ?_
    refine sa ?_
    refine s_nil ?_
    exact k_join (wi64 (a1 - b1)) ⟨rfl, rfl, trivial⟩ ⟨_, hI.arr (.c .z .n) trivial, h⟩ rfl
   ·replace h := ite_f hb h
    refine sr (sq (y_eql rfl et ev_const) ?_)
    refine sa ?_
    refine nk (c_cond (b := decide (op1 = 6)) et (fun hb => ?_) (fun hb => ?_))
    ·replace h := ite_t hb h
     refine c_region rfl ?_
     refine sm ?_
     refine sm ?_
     refine sq (y_mul rfl et et) ?_
     refine sa ?_
     refine s_nil ?_
     exact k_join (wi64 (a1 * b1)) ⟨rfl, rfl, trivial⟩ ⟨_, hI.arr (.c .z .n) trivial, h⟩ rfl
    ·replace h := ite_f hb h
     refine sr (sq (y_eql rfl et ev_const) ?_)
     refine sa ?_
     refine nk (c_cond (b := decide (op1 = 7)) et (fun hb => ?_) (fun hb => ?_))
     ·replace h := ite_t hb h
      refine c_seq (sr (sm ?_))
      refine sq (y_eql rfl et ev_const) ?_
      refine nk (c_cond (b := decide (b1 = 0)) et (fun hb => ?_) (fun hb => ?_))
      ·replace h := ite_t hb h
       refine sr (sq (y_build (vs := []) (cs := #[(vi 0), (vi 0)]) rfl trivial (by kernel_rfl)) ?_)
       refine l_store (new := [(vi 0), (vi 0)]) (cs' := #[(vi 0), (vi 0)]) hI .z gn rfl rfl et et rfl size_68 rfl rfl rfl ?_
       clear hI; intro c5 w5 hI
       refine sac ?_
       refine nk (c_ret ?_)
       obtain rfl := some_inj h
       exact q_ret (vs := [(Value.agg #[(vi 0), (vi 0)]), (vi 4)]) Tryz.results100 ⟨⟨_, ev_tmp rfl rfl, load_agg (l := [(vi 0), (vi 0)]) u68 rfl size_68 (CellsAt.of_blk (hI.blk .z) rfl)⟩, ⟨ev_tmp rfl rfl, trivial⟩⟩ ⟨rfl, hI.ext0, hI.fin trivial⟩
      ·replace h := ite_f hb h
       refine c_skip (k_same (c_seq (sr (sm ?_))))
       refine sq (y_lss rfl et ev_const) ?_
       refine nk (c_cond (b := decide (b1 < 0)) et (fun hb => ?_) (fun hb => ?_))
       ·replace h := ite_t hb h
        refine sr (sm ?_)
        refine sq (y_neg rfl et) ?_
        refine sa ?_
        refine nk (c_region rfl ?_)
        refine sm ?_
        refine sq (y_neg rfl et) ?_
        refine sa ?_
        refine nk (c_region rfl ?_)
        refine sm ?_
        refine sm ?_
        obtain ⟨r1, hx1, h⟩ := bnd_some h
        refine s_call gn rfl (r_callF (vs := [(vi (wi64 (-a1))), (vi (wi64 (-b1)))]) rfl ok_123 ⟨et, ⟨et, trivial⟩⟩) (Calls.mono (c_ref04_floor (Dj F c1) w1 hI.lt (wi64 (-a1)) (wi64 (-b1)) trivial r1 hx1) ?_)
        rintro _ w6 ⟨rfl, hx2, hl1⟩
        refine ⟨_, rfl, ?_⟩
        replace hI := (hI.ext hx2)
        refine sa ?_
        refine s_nil ?_
        exact k_join r1 ⟨rfl, rfl, trivial⟩ ⟨_, hI.arr (.c .z .n) trivial, h⟩ rfl
       ·replace h := ite_f hb h
        refine c_skip (k_same (c_region rfl ?_))
        refine sm ?_
        refine sm ?_
        obtain ⟨r2, hx3, h⟩ := bnd_some h
        refine s_call gn rfl (r_callF (vs := [(vi a1), (vi b1)]) rfl ok_123 ⟨et, ⟨et, trivial⟩⟩) (Calls.mono (c_ref04_floor (Dj F c1) w1 hI.lt a1 b1 trivial r2 hx3) ?_)
        rintro _ w7 ⟨rfl, hx4, hl2⟩
        refine ⟨_, rfl, ?_⟩
        replace hI := (hI.ext hx4)
        refine sa ?_
        refine s_nil ?_
        exact k_join r2 ⟨rfl, rfl, trivial⟩ ⟨_, hI.arr (.c .z .n) trivial, h⟩ rfl
     ·replace h := ite_f hb h
      exact c_skip (k_join (wi64 (-a1)) ⟨rfl, rfl, trivial⟩ ⟨_, hI.arr (.c .z .n) trivial, h⟩ rfl)

set_option maxRecDepth 100000 in
set_option maxHeartbeats 4000000 in
theorem c_ref01_size (F : NP) (w0 : World) (hF : ∀ k, F k → k < w0.heap.size) (n1 : Int) (hc : AllCl [] F w0) (r : Int)
  (h : m_ref01_size n1 = some r) :
  Calls Tryz.prog 145 #[(vi n1)] w0 fun e w => e = .returned (Value.int .u64 r) ∧ Ext w0 w ∧ AllCl [] F w := by
 refine enterK (l := [(vi n1)]) Tryz.func145 rfl Tryz.ntmps145 rfl ?_
 have hI := Bun.start hF hc
 clear hc
 rw [m_ref01_size] at h
 refine sr (sac ?_)
 refine nk (c_seq (sr (sm ?_)))
 refine sq (y_lss rfl et ev_const) ?_
 refine nk (c_cond (b := decide (n1 < 0)) et (fun hb => ?_) (fun hb => ?_))
 ·replace h := ite_t hb h
  refine sr (sm ?_)
  refine sq (y_add rfl et ev_const) ?_
  refine sq (y_neg rfl et) ?_
  refine sq (y_conv rfl (by rw [u2]; rfl) u129 et) ?_
  refine sq (y_add rfl et ev_const) ?_
  refine sa ?_
  refine nk (c_ret ?_)
  obtain rfl := some_inj h
  exact q_ret (vs := [(Value.int .u64 (wu64 ((wu64 (wi64 (-(wi64 (n1 + 1))))) + 1)))]) Tryz.results145 ⟨ev_tmp rfl rfl, trivial⟩ ⟨rfl, hI.ext0, hI.fin trivial⟩
 ·replace h := ite_f hb h
  refine c_skip (k_same (sr (sm ?_)))
  refine sq (y_conv rfl (by rw [u2]; rfl) u129 et) ?_
  refine sa ?_
  refine nk (c_ret ?_)
  obtain rfl := some_inj h
  exact q_ret (vs := [(Value.int .u64 (wu64 n1))]) Tryz.results145 ⟨ev_tmp rfl rfl, trivial⟩ ⟨rfl, hI.ext0, hI.fin trivial⟩

set_option maxRecDepth 100000 in
set_option maxHeartbeats 4000000 in
theorem c_ref01_gcd (F : NP) (w0 : World) (hF : ∀ k, F k → k < w0.heap.size) (a1 : Int) (b1 : Int) (hc : AllCl [] F w0) (r : Int)
  (h : m_ref01_gcd a1 b1 = some r) :
  Calls Tryz.prog 156 #[(Value.int .u64 a1), (Value.int .u64 b1)] w0 fun e w => e = .returned (Value.int .u64 r) ∧ Ext w0 w ∧ AllCl [] F w := by
 refine enterK (l := [(Value.int .u64 a1), (Value.int .u64 b1)]) Tryz.func156 rfl Tryz.ntmps156 rfl ?_
 have hI := Bun.start hF hc
 clear hc
 rw [m_ref01_gcd] at h
 refine sr (sac ?_)
 refine nk (c_seq (c_block (c_loop (α := Nat × Int × Int) (fun x => fun w => ∃ C, Bun noM F w0 C w [] [] ∧ m_ref01_gcd_l1 (x.1) (x.2.1) (x.2.2) = some r) (fun x _ => x.1) (fun x => [(0, (Value.int .u64 (x.2.1))), (1, (Value.int .u64 (x.2.2)))]) (fu, a1, b1) ⟨_, hI.arr .n trivial, h⟩ ⟨rfl, rfl, trivial⟩ ?_)))
 clear h hI; rintro ⟨fuel1, a2, b2⟩ w1 ⟨c1, hI, h⟩
 dsimp only at hI h
 rcases fuel1 with _ | fuel1
 ·rw [m_ref01_gcd_l1] at h; cases h
 rw [m_ref01_gcd_l1] at h
 refine c_sub (e := [(0, (Value.int .u64 a2)), (1, (Value.int .u64 b2))]) ⟨rfl, rfl, trivial⟩ ?_
 refine c_seq (sr (sm ?_))
 refine sq (y_neq rfl et ev_const) ?_
 refine nk (c_cond (b := !decide (b2 = 0)) et (fun hb => ?_) (fun hb => ?_))
 ·replace h := ite_t hb h
  refine c_skip (k_same (c_block (c_drawX [] false (.c (0, .q) (.c (1, .q) (.c (2, .q) (.c (3, .q) (.c (4, .q) (.c (5, .q) .n)))))) hI (by kernel_rfl) (by kernel_rfl) ?_)))
  clear hI; intro w2 hI
  refine a_q rfl gn rfl (fun w' => (y_move rfl et)) ?_
  refine a_q rfl gn rfl (fun w' => (y_move rfl et)) ?_
  refine a_q rfl gn rfl (fun w' => (y_move rfl et)) ?_
  obtain ⟨ho1, h⟩ := chk_some h
  refine a_q rfl gn rfl (fun w' => (y_rem rfl et et ho1)) ?_
  refine a_q rfl gn rfl (fun w' => (y_assign rfl et)) ?_
  refine a_q rfl gn rfl (fun w' => (y_assign rfl et)) ?_
  refine a_nil ?_
  exact k_loop (fuel1, b2, Int.tmod a2 b2) ⟨rfl, rfl, trivial⟩ ⟨_, hI.arr .n trivial, h⟩ (Nat.lt_succ_self _)
 ·replace h := ite_f hb h
  refine c_exit ?_
  refine k_in ?_
  refine k_same (sr (sm ?_))
  refine sa ?_
  refine nk (c_ret ?_)
  obtain rfl := some_inj h
  exact q_ret (vs := [(Value.int .u64 a2)]) Tryz.results156 ⟨ev_tmp rfl rfl, trivial⟩ ⟨rfl, hI.ext0, hI.fin trivial⟩

set_option maxRecDepth 100000 in
set_option maxHeartbeats 4000000 in
theorem c_ref01_made (F : NP) (w0 : World) (hF : ∀ k, F k → k < w0.heap.size) (minus1 : Bool) (n1 : Int) (d1 : Int) (hc : AllCl [] F w0) (r : GVal × Int)
  (h : m_ref01_made minus1 n1 d1 = some r) :
  Calls Tryz.prog 144 #[(vb minus1), (Value.int .u64 n1), (Value.int .u64 d1)] w0 fun e w => e = .returned (Value.tuple #[(Value.agg (AVal r.1)), (vi r.2)]) ∧ Ext w0 w ∧ AllCl [] F w := by
 refine enterK (l := [(vb minus1), (Value.int .u64 n1), (Value.int .u64 d1)]) Tryz.func144 rfl Tryz.ntmps144 rfl ?_
 have hI := Bun.start hF hc
 clear hc
 rw [m_ref01_made] at h
 refine sr (l_alloc (cs := #[(vi 0), (vi 0)]) hI gn rfl rfl zero_68 rfl ?_)
 clear hI; intro b1 c1 w1 hI
 refine sac ?_
 refine nk (sr (sm ?_))
 refine sm ?_
 obtain ⟨r1, hx1, h⟩ := bnd_some h
 refine s_call gn rfl (r_callF (vs := [(Value.int .u64 n1), (Value.int .u64 d1)]) rfl ok_156 ⟨et, ⟨et, trivial⟩⟩) (Calls.mono (c_ref01_gcd (Dj F c1) w1 hI.lt n1 d1 trivial r1 hx1) ?_)
 rintro _ w2 ⟨rfl, hx2, hl1⟩
 refine ⟨_, rfl, ?_⟩
 replace hI := (hI.ext hx2)
 refine sa ?_
 refine nk (sr (sm ?_))
 refine sm ?_
 obtain ⟨ho1, h⟩ := chk_some h
 refine sq (y_quo rfl et et ho1) ?_
 refine sa ?_
 refine nk (sr (sm ?_))
 refine sm ?_
 refine sq (y_quo rfl et et ho1) ?_
 refine sa ?_
 refine nk (c_seq (sr (sm ?_)))
 refine sq (y_gtr rfl et ev_const) ?_
 refine sm ?_
 refine s_gval (g_false rfl rfl rfl rfl) rfl (fun hc => (y_move rfl et)) ?_
 refine s_gval (g_false rfl rfl rfl rfl) rfl (fun hc => (y_gtr rfl (ev_gv et hc) ev_const)) ?_
 refine sq (y_or rfl et et) ?_
 refine nk (c_cond (b := (decide (2147483647 < wu64 (Int.tdiv n1 r1))) || (decide (2147483647 < wu64 (Int.tdiv d1 r1)))) et (fun hb => ?_) (fun hb => ?_))
 ·replace h := ite_t hb h
  refine sr (sq (y_build (vs := []) (cs := #[(vi 0), (vi 0)]) rfl trivial (by kernel_rfl)) ?_)
  refine l_store (new := [(vi 0), (vi 0)]) (cs' := #[(vi 0), (vi 0)]) hI .z gn rfl rfl et et rfl size_68 rfl rfl rfl ?_
  clear hI; intro c2 w3 hI
  refine sac ?_
  refine nk (c_ret ?_)
  obtain rfl := some_inj h
  exact q_ret (vs := [(Value.agg #[(vi 0), (vi 0)]), (vi 3)]) Tryz.results144 ⟨⟨_, ev_tmp rfl rfl, load_agg (l := [(vi 0), (vi 0)]) u68 rfl size_68 (CellsAt.of_blk (hI.blk .z) rfl)⟩, ⟨ev_tmp rfl rfl, trivial⟩⟩ ⟨rfl, hI.ext0, hI.fin trivial⟩
 ·replace h := ite_f hb h
  refine c_skip (k_same (c_seq (sr (sm ?_))))
  refine nk (c_cond (b := minus1) et (fun hb => ?_) (fun hb => ?_))
  ·replace h := ite_t hb h
   refine sr (sm ?_)
   refine sq (y_conv rfl (by rw [u129]; rfl) u2 et) ?_
   refine sq (y_neg rfl et) ?_
   refine sm ?_
   refine sq (y_conv rfl (by rw [u129]; rfl) u2 et) ?_
   refine sq (y_build (vs := [(0, (vi (wi64 (-(wi64 (wu64 (Int.tdiv n1 r1))))))), (1, (vi (wi64 (wu64 (Int.tdiv d1 r1)))))]) (cs := #[(vi (wi64 (-(wi64 (wu64 (Int.tdiv n1 r1)))))), (vi (wi64 (wu64 (Int.tdiv d1 r1))))]) rfl ⟨rfl, et, ⟨rfl, et, trivial⟩⟩ (by kernel_rfl)) ?_
   refine l_store (new := [(vi (wi64 (-(wi64 (wu64 (Int.tdiv n1 r1)))))), (vi (wi64 (wu64 (Int.tdiv d1 r1))))]) (cs' := #[(vi (wi64 (-(wi64 (wu64 (Int.tdiv n1 r1)))))), (vi (wi64 (wu64 (Int.tdiv d1 r1))))]) hI .z gn rfl rfl et et rfl size_68 rfl rfl rfl ?_
   clear hI; intro c3 w4 hI
   refine sac ?_
   refine s_nil ?_
   refine k_next (e := [(6, (vp b1 0)), (7, (vi 0))]) ⟨rfl, rfl, trivial⟩ ?_
   refine c_ret ?_
   obtain rfl := some_inj h
   exact q_ret (vs := [(Value.agg #[(vi (wi64 (-(wi64 (wu64 (Int.tdiv n1 r1)))))), (vi (wi64 (wu64 (Int.tdiv d1 r1))))]), (vi 0)]) Tryz.results144 ⟨⟨_, ev_tmp rfl rfl, load_agg (l := [(vi (wi64 (-(wi64 (wu64 (Int.tdiv n1 r1)))))), (vi (wi64 (wu64 (Int.tdiv d1 r1))))]) u68 rfl size_68 (CellsAt.of_blk (hI.blk .z) rfl)⟩, ⟨ev_tmp rfl rfl, trivial⟩⟩ ⟨rfl, hI.ext0, hI.fin trivial⟩
  ·replace h := ite_f hb h
   refine c_skip (k_same (sr (sm ?_)))
   refine sq (y_conv rfl (by rw [u129]; rfl) u2 et) ?_
   refine sm ?_
   refine sq (y_conv rfl (by rw [u129]; rfl) u2 et) ?_
   refine sq (y_build (vs := [(0, (vi (wi64 (wu64 (Int.tdiv n1 r1))))), (1, (vi (wi64 (wu64 (Int.tdiv d1 r1)))))]) (cs := #[(vi (wi64 (wu64 (Int.tdiv n1 r1)))), (vi (wi64 (wu64 (Int.tdiv d1 r1))))]) rfl ⟨rfl, et, ⟨rfl, et, trivial⟩⟩ (by kernel_rfl)) ?_
   refine l_store (new := [(vi (wi64 (wu64 (Int.tdiv n1 r1)))), (vi (wi64 (wu64 (Int.tdiv d1 r1))))]) (cs' := #[(vi (wi64 (wu64 (Int.tdiv n1 r1)))), (vi (wi64 (wu64 (Int.tdiv d1 r1))))]) hI .z gn rfl rfl et et rfl size_68 rfl rfl rfl ?_
   clear hI; intro c4 w5 hI
   refine sac ?_
   refine s_nil ?_
   refine k_next (e := [(6, (vp b1 0)), (7, (vi 0))]) ⟨rfl, rfl, trivial⟩ ?_
   refine c_ret ?_
   obtain rfl := some_inj h
   exact q_ret (vs := [(Value.agg #[(vi (wi64 (wu64 (Int.tdiv n1 r1)))), (vi (wi64 (wu64 (Int.tdiv d1 r1))))]), (vi 0)]) Tryz.results144 ⟨⟨_, ev_tmp rfl rfl, load_agg (l := [(vi (wi64 (wu64 (Int.tdiv n1 r1)))), (vi (wi64 (wu64 (Int.tdiv d1 r1))))]) u68 rfl size_68 (CellsAt.of_blk (hI.blk .z) rfl)⟩, ⟨ev_tmp rfl rfl, trivial⟩⟩ ⟨rfl, hI.ext0, hI.fin trivial⟩

set_option maxRecDepth 100000 in
set_option maxHeartbeats 4000000 in
theorem c_ref01_New (F : NP) (w0 : World) (hF : ∀ k, F k → k < w0.heap.size) (n1 : Int) (d1 : Int) (hc : AllCl [] F w0) (r : GVal × Int)
  (h : m_ref01_New n1 d1 = some r) :
  Calls Tryz.prog 125 #[(vi n1), (vi d1)] w0 fun e w => e = .returned (Value.tuple #[(Value.agg (AVal r.1)), (vi r.2)]) ∧ Ext w0 w ∧ AllCl [] F w := by
 refine enterK (l := [(vi n1), (vi d1)]) Tryz.func125 rfl Tryz.ntmps125 rfl ?_
 have hI := Bun.start hF hc
 clear hc
 rw [m_ref01_New] at h
 refine sr (l_alloc (cs := #[(vi 0), (vi 0)]) hI gn rfl rfl zero_68 rfl ?_)
 clear hI; intro b1 c1 w1 hI
 refine sac ?_
 refine nk (c_seq (sr (sm ?_)))
 refine sq (y_eql rfl et ev_const) ?_
 refine nk (c_cond (b := decide (d1 = 0)) et (fun hb => ?_) (fun hb => ?_))
 ·replace h := ite_t hb h
  refine sr (sq (y_build (vs := []) (cs := #[(vi 0), (vi 0)]) rfl trivial (by kernel_rfl)) ?_)
  refine l_store (new := [(vi 0), (vi 0)]) (cs' := #[(vi 0), (vi 0)]) hI .z gn rfl rfl et et rfl size_68 rfl rfl rfl ?_
  clear hI; intro c2 w2 hI
  refine sac ?_
  refine nk (c_ret ?_)
  obtain rfl := some_inj h
  exact q_ret (vs := [(Value.agg #[(vi 0), (vi 0)]), (vi 4)]) Tryz.results125 ⟨⟨_, ev_tmp rfl rfl, load_agg (l := [(vi 0), (vi 0)]) u68 rfl size_68 (CellsAt.of_blk (hI.blk .z) rfl)⟩, ⟨ev_tmp rfl rfl, trivial⟩⟩ ⟨rfl, hI.ext0, hI.fin trivial⟩
 ·replace h := ite_f hb h
  refine c_skip (k_same (sr (sm ?_)))
  refine sq (y_lss rfl et ev_const) ?_
  refine sm ?_
  refine sq (y_lss rfl et ev_const) ?_
  refine sq (y_neb rfl u4 et et) ?_
  refine sm ?_
  obtain ⟨r1, hx1, h⟩ := bnd_some h
  refine s_call gn rfl (r_callF (vs := [(vi n1)]) rfl ok_145 ⟨et, trivial⟩) (Calls.mono (c_ref01_size (Dj F c1) w1 hI.lt n1 trivial r1 hx1) ?_)
  rintro _ w3 ⟨rfl, hx2, hl1⟩
  refine ⟨_, rfl, ?_⟩
  replace hI := (hI.ext hx2)
  refine sm ?_
  obtain ⟨r2, hx3, h⟩ := bnd_some h
  refine s_call gn rfl (r_callF (vs := [(vi d1)]) rfl ok_145 ⟨et, trivial⟩) (Calls.mono (c_ref01_size (Dj F c1) w3 hI.lt d1 trivial r2 hx3) ?_)
  rintro _ w4 ⟨rfl, hx4, hl2⟩
  refine ⟨_, rfl, ?_⟩
  replace hI := (hI.ext hx4)
  obtain ⟨r3, hx5, h⟩ := bnd_some h
  refine s_call gn rfl (r_callF (vs := [(vb ((decide (n1 < 0)) != (decide (d1 < 0)))), (Value.int .u64 r1), (Value.int .u64 r2)]) rfl ok_144 ⟨et, ⟨et, ⟨et, trivial⟩⟩⟩) (Calls.mono (c_ref01_made (Dj F c1) w4 hI.lt ((decide (n1 < 0)) != (decide (d1 < 0))) r1 r2 trivial r3 hx5) ?_)
  rintro _ w5 ⟨rfl, hx6, hl3⟩
  refine ⟨_, rfl, ?_⟩
  replace hI := (hI.ext hx6)
  refine sq (y_extract rfl et rfl) ?_
  refine sq (y_extract rfl et rfl) ?_
  refine l_store (new := (lVal r3.1)) (cs' := (AVal r3.1)) hI .z gn rfl rfl et et rfl size_68 rfl rfl rfl ?_
  clear hI; intro c3 w6 hI
  refine sa ?_
  refine nk (c_ret ?_)
  obtain rfl := some_inj h
  exact q_ret (vs := [(Value.agg (AVal r3.1)), (vi r3.2)]) Tryz.results125 ⟨⟨_, ev_tmp rfl rfl, load_agg (l := (lVal r3.1)) u68 rfl size_68 (CellsAt.of_blk (hI.blk .z) rfl)⟩, ⟨ev_tmp rfl rfl, trivial⟩⟩ ⟨rfl, hI.ext0, hI.fin trivial⟩

set_option maxRecDepth 100000 in
set_option maxHeartbeats 4000000 in
theorem c_ref01_Add (F : NP) (w0 : World) (hF : ∀ k, F k → k < w0.heap.size) (a1 : GVal) (b1 : GVal) (hc : AllCl [] F w0) (r : GVal × Int)
  (h : m_ref01_Add a1 b1 = some r) :
  Calls Tryz.prog 101 #[(Value.agg (AVal a1)), (Value.agg (AVal b1))] w0 fun e w => e = .returned (Value.tuple #[(Value.agg (AVal r.1)), (vi r.2)]) ∧ Ext w0 w ∧ AllCl [] F w := by
 refine enterK (l := [(Value.agg (AVal a1)), (Value.agg (AVal b1))]) Tryz.func101 rfl Tryz.ntmps101 rfl ?_
 have hI := Bun.start hF hc
 clear hc
 rw [m_ref01_Add] at h
 refine sr (l_box (v := (Value.agg (AVal a1))) (cs := (AVal a1)) hI gn rfl rfl et rfl ?_)
 clear hI; intro b2 c1 w1 hI
 obtain ⟨c2, hI⟩ := hI.relBox .z
 refine l_box (v := (Value.agg (AVal b1))) (cs := (AVal b1)) hI gn rfl rfl et rfl ?_
 clear hI; intro b3 c3 w2 hI
 obtain ⟨c4, hI⟩ := hI.relBox .z
 refine l_alloc (cs := #[(vi 0), (vi 0)]) hI gn rfl rfl zero_68 rfl ?_
 clear hI; intro b4 c5 w3 hI
 refine sac ?_
 refine nk (c_seq (sr (sq (y_loadN (l := (lVal a1)) rfl et u68 rfl size_68 (hI.kblk (l := (lVal a1)) (.s .z) rfl).1) ?_)))
 obtain ⟨r1, hx1, h⟩ := bnd_some h
 refine s_call gn rfl (r_callF (vs := [(Value.agg (AVal a1))]) rfl ok_124 ⟨et, trivial⟩) (Calls.mono (c_ref01_Valid (Dj F c5) w3 hI.lt a1 trivial r1 hx1) ?_)
 rintro _ w4 ⟨rfl, hx2, hl1⟩
 refine ⟨_, rfl, ?_⟩
 replace hI := (hI.ext hx2)
 refine sq (y_not rfl et) ?_
 refine sm ?_
 refine s_gval (g_false rfl rfl rfl rfl) rfl (fun hc => (y_loadN (l := (lVal b1)) rfl et u68 rfl size_68 (hI.kblk (l := (lVal b1)) .z rfl).1)) ?_
 obtain ⟨r2, hx3, h⟩ := bnd_some h
 replace hx3 := gd_some hx3
 refine s_gcallU (v := (vb r2)) (g_false rfl rfl rfl rfl) rfl (fun hc => (r_callF (vs := [(Value.agg (AVal b1))]) rfl ok_124 ⟨(ev_gv et hc), trivial⟩)) (fun hc => (c_ref01_Valid (Dj F c5) w4 hI.lt b1 trivial r2 (hx3 hc)).mono fun _ _ k => ⟨k.1, k.2.1⟩) ?_
 intro w5 hx4; replace hI := hI.ext hx4
 refine s_gval (g_false rfl rfl rfl rfl) rfl (fun hc => (y_not rfl (ev_gv et hc))) ?_
 refine sq (y_or rfl et et) ?_
 refine nk (c_cond (b := (!r1) || (!r2)) et (fun hb => ?_) (fun hb => ?_))
 ·replace h := ite_t hb h
  refine sr (sq (y_build (vs := []) (cs := #[(vi 0), (vi 0)]) rfl trivial (by kernel_rfl)) ?_)
  refine l_store (new := [(vi 0), (vi 0)]) (cs' := #[(vi 0), (vi 0)]) hI .z gn rfl rfl et et rfl size_68 rfl rfl rfl ?_
  clear hI; intro c6 w6 hI
  refine sac ?_
  refine nk (c_ret ?_)
  obtain rfl := some_inj h
  exact q_ret (vs := [(Value.agg #[(vi 0), (vi 0)]), (vi 1)]) Tryz.results101 ⟨⟨_, ev_tmp rfl rfl, load_agg (l := [(vi 0), (vi 0)]) u68 rfl size_68 (CellsAt.of_blk (hI.blk .z) rfl)⟩, ⟨ev_tmp rfl rfl, trivial⟩⟩ ⟨rfl, hI.ext0, hI.fin trivial⟩
 ·replace h := ite_f hb h
  refine c_skip (k_same (sr (sq (y_fieldAddr rfl et u68 rfl size_2 rfl) ?_)))
  refine sq (y_load1 (v := (vi a1.N)) rfl et u2 rfl (hI.kblk (l := [(vi a1.N)]) (.s .z) rfl).1) ?_
  refine sq (y_fieldAddr rfl et u68 rfl size_2 rfl) ?_
  refine sq (y_load1 (v := (vi b1.D)) rfl et u2 rfl (hI.kblk (l := [(vi b1.D)]) .z rfl).1) ?_
  refine sq (y_mul rfl et et) ?_
  refine sq (y_fieldAddr rfl et u68 rfl size_2 rfl) ?_
  refine sq (y_load1 (v := (vi b1.N)) rfl et u2 rfl (hI.kblk (l := [(vi b1.N)]) .z rfl).1) ?_
  refine sq (y_fieldAddr rfl et u68 rfl size_2 rfl) ?_
  refine sq (y_load1 (v := (vi a1.D)) rfl et u2 rfl (hI.kblk (l := [(vi a1.D)]) (.s .z) rfl).1) ?_
  refine sq (y_mul rfl et et) ?_
  refine sq (y_add rfl et et) ?_
  refine sq (y_fieldAddr rfl et u68 rfl size_2 rfl) ?_
  refine sq (y_load1 (v := (vi a1.D)) rfl et u2 rfl (hI.kblk (l := [(vi a1.D)]) (.s .z) rfl).1) ?_
  refine sq (y_fieldAddr rfl et u68 rfl size_2 rfl) ?_
  refine sq (y_load1 (v := (vi b1.D)) rfl et u2 rfl (hI.kblk (l := [(vi b1.D)]) .z rfl).1) ?_
  refine sq (y_mul rfl et et) ?_
  obtain ⟨r3, hx5, h⟩ := bnd_some h
  refine s_call gn rfl (r_callF (vs := [(vi (wi64 ((wi64 (a1.N * b1.D)) + (wi64 (b1.N * a1.D))))), (vi (wi64 (a1.D * b1.D)))]) rfl ok_125 ⟨et, ⟨et, trivial⟩⟩) (Calls.mono (c_ref01_New (Dj F c5) w5 hI.lt (wi64 ((wi64 (a1.N * b1.D)) + (wi64 (b1.N * a1.D)))) (wi64 (a1.D * b1.D)) trivial r3 hx5) ?_)
  rintro _ w7 ⟨rfl, hx6, hl3⟩
  refine ⟨_, rfl, ?_⟩
  replace hI := (hI.ext hx6)
  refine sq (y_extract rfl et rfl) ?_
  refine sq (y_extract rfl et rfl) ?_
  refine l_store (new := (lVal r3.1)) (cs' := (AVal r3.1)) hI .z gn rfl rfl et et rfl size_68 rfl rfl rfl ?_
  clear hI; intro c7 w8 hI
  refine sa ?_
  refine s_nil ?_
  refine k_next (e := [(4, (vp b4 0)), (5, (vi r3.2))]) ⟨rfl, rfl, trivial⟩ ?_
  refine c_ret ?_
  obtain rfl := some_inj h
  exact q_ret (vs := [(Value.agg (AVal r3.1)), (vi r3.2)]) Tryz.results101 ⟨⟨_, ev_tmp rfl rfl, load_agg (l := (lVal r3.1)) u68 rfl size_68 (CellsAt.of_blk (hI.blk .z) rfl)⟩, ⟨ev_tmp rfl rfl, trivial⟩⟩ ⟨rfl, hI.ext0, hI.fin trivial⟩

set_option maxRecDepth 100000 in
set_option maxHeartbeats 4000000 in
theorem c_ref01_Sub (F : NP) (w0 : World) (hF : ∀ k, F k → k < w0.heap.size) (a1 : GVal) (b1 : GVal) (hc : AllCl [] F w0) (r : GVal × Int)
  (h : m_ref01_Sub a1 b1 = some r) :
  Calls Tryz.prog 102 #[(Value.agg (AVal a1)), (Value.agg (AVal b1))] w0 fun e w => e = .returned (Value.tuple #[(Value.agg (AVal r.1)), (vi r.2)]) ∧ Ext w0 w ∧ AllCl [] F w := by
 refine enterK (l := [(Value.agg (AVal a1)), (Value.agg (AVal b1))]) Tryz.func102 rfl Tryz.ntmps102 rfl ?_
 have hI := Bun.start hF hc
 clear hc
 rw [m_ref01_Sub] at h
 refine sr (l_box (v := (Value.agg (AVal a1))) (cs := (AVal a1)) hI gn rfl rfl et rfl ?_)
 clear hI; intro b2 c1 w1 hI
 obtain ⟨c2, hI⟩ := hI.relBox .z
 refine l_box (v := (Value.agg (AVal b1))) (cs := (AVal b1)) hI gn rfl rfl et rfl ?_
 clear hI; intro b3 c3 w2 hI
 obtain ⟨c4, hI⟩ := hI.relBox .z
 refine l_alloc (cs := #[(vi 0), (vi 0)]) hI gn rfl rfl zero_68 rfl ?_
 clear hI; intro b4 c5 w3 hI
 refine sac ?_
 refine nk (c_seq (sr (sq (y_loadN (l := (lVal a1)) rfl et u68 rfl size_68 (hI.kblk (l := (lVal a1)) (.s .z) rfl).1) ?_)))
 obtain ⟨r1, hx1, h⟩ := bnd_some h
 refine s_call gn rfl (r_callF (vs := [(Value.agg (AVal a1))]) rfl ok_124 ⟨et, trivial⟩) (Calls.mono (c_ref01_Valid (Dj F c5) w3 hI.lt a1 trivial r1 hx1) ?_)
 rintro _ w4 ⟨rfl, hx2, hl1⟩
 refine ⟨_, rfl, ?_⟩
 replace hI := (hI.ext hx2)
 refine sq (y_not rfl et) ?_
 refine sm ?_
 refine s_gval (g_false rfl rfl rfl rfl) rfl (fun hc => (y_loadN (l := (lVal b1)) rfl et u68 rfl size_68 (hI.kblk (l := (lVal b1)) .z rfl).1)) ?_
 obtain ⟨r2, hx3, h⟩ := bnd_some h
 replace hx3 := gd_some hx3
 refine s_gcallU (v := (vb r2)) (g_false rfl rfl rfl rfl) rfl (fun hc => (r_callF (vs := [(Value.agg (AVal b1))]) rfl ok_124 ⟨(ev_gv et hc), trivial⟩)) (fun hc => (c_ref01_Valid (Dj F c5) w4 hI.lt b1 trivial r2 (hx3 hc)).mono fun _ _ k => ⟨k.1, k.2.1⟩) ?_
 intro w5 hx4; replace hI := hI.ext hx4
 refine s_gval (g_false rfl rfl rfl rfl) rfl (fun hc => (y_not rfl (ev_gv et hc))) ?_
 refine sq (y_or rfl et et) ?_
 refine nk (c_cond (b := (!r1) || (!r2)) et (fun hb => ?_) (fun hb => ?_))
 ·replace h := ite_t hb h
  refine sr (sq (y_build (vs := []) (cs := #[(vi 0), (vi 0)]) rfl trivial (by kernel_rfl)) ?_)
  refine l_store (new := [(vi 0), (vi 0)]) (cs' := #[(vi 0), (vi 0)]) hI .z gn rfl rfl et et rfl size_68 rfl rfl rfl ?_
  clear hI; intro c6 w6 hI
  refine sac ?_
  refine nk (c_ret ?_)
  obtain rfl := some_inj h
  exact q_ret (vs := [(Value.agg #[(vi 0), (vi 0)]), (vi 1)]) Tryz.results102 ⟨⟨_, ev_tmp rfl rfl, load_agg (l := [(vi 0), (vi 0)]) u68 rfl size_68 (CellsAt.of_blk (hI.blk .z) rfl)⟩, ⟨ev_tmp rfl rfl, trivial⟩⟩ ⟨rfl, hI.ext0, hI.fin trivial⟩
 ·replace h := ite_f hb h
  refine c_skip (k_same (sr (sq (y_fieldAddr rfl et u68 rfl size_2 rfl) ?_)))
  refine sq (y_load1 (v := (vi a1.N)) rfl et u2 rfl (hI.kblk (l := [(vi a1.N)]) (.s .z) rfl).1) ?_
  refine sq (y_fieldAddr rfl et u68 rfl size_2 rfl) ?_
  refine sq (y_load1 (v := (vi b1.D)) rfl et u2 rfl (hI.kblk (l := [(vi b1.D)]) .z rfl).1) ?_
  refine sq (y_mul rfl et et) ?_
  refine sq (y_fieldAddr rfl et u68 rfl size_2 rfl) ?_
  refine sq (y_load1 (v := (vi b1.N)) rfl et u2 rfl (hI.kblk (l := [(vi b1.N)]) .z rfl).1) ?_
  refine sq (y_fieldAddr rfl et u68 rfl size_2 rfl) ?_
  refine sq (y_load1 (v := (vi a1.D)) rfl et u2 rfl (hI.kblk (l := [(vi a1.D)]) (.s .z) rfl).1) ?_
  refine sq (y_mul rfl et et) ?_
  refine sq (y_sub rfl et et) ?_
  refine sq (y_fieldAddr rfl et u68 rfl size_2 rfl) ?_
  refine sq (y_load1 (v := (vi a1.D)) rfl et u2 rfl (hI.kblk (l := [(vi a1.D)]) (.s .z) rfl).1) ?_
  refine sq (y_fieldAddr rfl et u68 rfl size_2 rfl) ?_
  refine sq (y_load1 (v := (vi b1.D)) rfl et u2 rfl (hI.kblk (l := [(vi b1.D)]) .z rfl).1) ?_
  refine sq (y_mul rfl et et) ?_
  obtain ⟨r3, hx5, h⟩ := bnd_some h
  refine s_call gn rfl (r_callF (vs := [(vi (wi64 ((wi64 (a1.N * b1.D)) - (wi64 (b1.N * a1.D))))), (vi (wi64 (a1.D * b1.D)))]) rfl ok_125 ⟨et, ⟨et, trivial⟩⟩) (Calls.mono (c_ref01_New (Dj F c5) w5 hI.lt (wi64 ((wi64 (a1.N * b1.D)) - (wi64 (b1.N * a1.D)))) (wi64 (a1.D * b1.D)) trivial r3 hx5) ?_)
  rintro _ w7 ⟨rfl, hx6, hl3⟩
  refine ⟨_, rfl, ?_⟩
  replace hI := (hI.ext hx6)
  refine sq (y_extract rfl et rfl) ?_
  refine sq (y_extract rfl et rfl) ?_
  refine l_store (new := (lVal r3.1)) (cs' := (AVal r3.1)) hI .z gn rfl rfl et et rfl size_68 rfl rfl rfl ?_
  clear hI; intro c7 w8 hI
  refine sa ?_
  refine s_nil ?_
  refine k_next (e := [(4, (vp b4 0)), (5, (vi r3.2))]) ⟨rfl, rfl, trivial⟩ ?_
  refine c_ret ?_
  obtain rfl := some_inj h
  exact q_ret (vs := [(Value.agg (AVal r3.1)), (vi r3.2)]) Tryz.results102 ⟨⟨_, ev_tmp rfl rfl, load_agg (l := (lVal r3.1)) u68 rfl size_68 (CellsAt.of_blk (hI.blk .z) rfl)⟩, ⟨ev_tmp rfl rfl, trivial⟩⟩ ⟨rfl, hI.ext0, hI.fin trivial⟩

set_option maxRecDepth 100000 in
set_option maxHeartbeats 4000000 in
theorem c_ref01_Mul (F : NP) (w0 : World) (hF : ∀ k, F k → k < w0.heap.size) (a1 : GVal) (b1 : GVal) (hc : AllCl [] F w0) (r : GVal × Int)
  (h : m_ref01_Mul a1 b1 = some r) :
  Calls Tryz.prog 103 #[(Value.agg (AVal a1)), (Value.agg (AVal b1))] w0 fun e w => e = .returned (Value.tuple #[(Value.agg (AVal r.1)), (vi r.2)]) ∧ Ext w0 w ∧ AllCl [] F w := by
 refine enterK (l := [(Value.agg (AVal a1)), (Value.agg (AVal b1))]) Tryz.func103 rfl Tryz.ntmps103 rfl ?_
 have hI := Bun.start hF hc
 clear hc
 rw [m_ref01_Mul] at h
 refine sr (l_box (v := (Value.agg (AVal a1))) (cs := (AVal a1)) hI gn rfl rfl et rfl ?_)
 clear hI; intro b2 c1 w1 hI
 obtain ⟨c2, hI⟩ := hI.relBox .z
 refine l_box (v := (Value.agg (AVal b1))) (cs := (AVal b1)) hI gn rfl rfl et rfl ?_
 clear hI; intro b3 c3 w2 hI
 obtain ⟨c4, hI⟩ := hI.relBox .z
 refine l_alloc (cs := #[(vi 0), (vi 0)]) hI gn rfl rfl zero_68 rfl ?_
 clear hI; intro b4 c5 w3 hI
 refine sac ?_
 refine nk (c_seq (sr (sq (y_loadN (l := (lVal a1)) rfl et u68 rfl size_68 (hI.kblk (l := (lVal a1)) (.s .z) rfl).1) ?_)))
 obtain ⟨r1, hx1, h⟩ := bnd_some h
 refine s_call gn rfl (r_callF (vs := [(Value.agg (AVal a1))]) rfl ok_124 ⟨et, trivial⟩) (Calls.mono (c_ref01_Valid (Dj F c5) w3 hI.lt a1 trivial r1 hx1) ?_)
 rintro _ w4 ⟨rfl, hx2, hl1⟩
 refine ⟨_, rfl, ?_⟩
 replace hI := (hI.ext hx2)
 refine sq (y_not rfl et) ?_
 refine sm ?_
 refine s_gval (g_false rfl rfl rfl rfl) rfl (fun hc => (y_loadN (l := (lVal b1)) rfl et u68 rfl size_68 (hI.kblk (l := (lVal b1)) .z rfl).1)) ?_
 obtain ⟨r2, hx3, h⟩ := bnd_some h
 replace hx3 := gd_some hx3
 refine s_gcallU (v := (vb r2)) (g_false rfl rfl rfl rfl) rfl (fun hc => (r_callF (vs := [(Value.agg (AVal b1))]) rfl ok_124 ⟨(ev_gv et hc), trivial⟩)) (fun hc => (c_ref01_Valid (Dj F c5) w4 hI.lt b1 trivial r2 (hx3 hc)).mono fun _ _ k => ⟨k.1, k.2.1⟩) ?_
 intro w5 hx4; replace hI := hI.ext hx4
 refine s_gval (g_false rfl rfl rfl rfl) rfl (fun hc => (y_not rfl (ev_gv et hc))) ?_
 refine sq (y_or rfl et et) ?_
 refine nk (c_cond (b := (!r1) || (!r2)) et (fun hb => ?_) (fun hb => ?_))
 ·replace h := ite_t hb h
  refine sr (sq (y_build (vs := []) (cs := #[(vi 0), (vi 0)]) rfl trivial (by kernel_rfl)) ?_)
  refine l_store (new := [(vi 0), (vi 0)]) (cs' := #[(vi 0), (vi 0)]) hI .z gn rfl rfl et et rfl size_68 rfl rfl rfl ?_
  clear hI; intro c6 w6 hI
  refine sac ?_
  refine nk (c_ret ?_)
  obtain rfl := some_inj h
  exact q_ret (vs := [(Value.agg #[(vi 0), (vi 0)]), (vi 1)]) Tryz.results103 ⟨⟨_, ev_tmp rfl rfl, load_agg (l := [(vi 0), (vi 0)]) u68 rfl size_68 (CellsAt.of_blk (hI.blk .z) rfl)⟩, ⟨ev_tmp rfl rfl, trivial⟩⟩ ⟨rfl, hI.ext0, hI.fin trivial⟩
 ·replace h := ite_f hb h
  refine c_skip (k_same (sr (sq (y_fieldAddr rfl et u68 rfl size_2 rfl) ?_)))
  refine sq (y_load1 (v := (vi a1.N)) rfl et u2 rfl (hI.kblk (l := [(vi a1.N)]) (.s .z) rfl).1) ?_
  refine sq (y_fieldAddr rfl et u68 rfl size_2 rfl) ?_
  refine sq (y_load1 (v := (vi b1.N)) rfl et u2 rfl (hI.kblk (l := [(vi b1.N)]) .z rfl).1) ?_
  refine sq (y_mul rfl et et) ?_
  refine sq (y_fieldAddr rfl et u68 rfl size_2 rfl) ?_
  refine sq (y_load1 (v := (vi a1.D)) rfl et u2 rfl (hI.kblk (l := [(vi a1.D)]) (.s .z) rfl).1) ?_
  refine sq (y_fieldAddr rfl et u68 rfl size_2 rfl) ?_
  refine sq (y_load1 (v := (vi b1.D)) rfl et u2 rfl (hI.kblk (l := [(vi b1.D)]) .z rfl).1) ?_
  refine sq (y_mul rfl et et) ?_
  obtain ⟨r3, hx5, h⟩ := bnd_some h
  refine s_call gn rfl (r_callF (vs := [(vi (wi64 (a1.N * b1.N))), (vi (wi64 (a1.D * b1.D)))]) rfl ok_125 ⟨et, ⟨et, trivial⟩⟩) (Calls.mono (c_ref01_New (Dj F c5) w5 hI.lt (wi64 (a1.N * b1.N)) (wi64 (a1.D * b1.D)) trivial r3 hx5) ?_)
  rintro _ w7 ⟨rfl, hx6, hl3⟩
  refine ⟨_, rfl, ?_⟩
  replace hI := (hI.ext hx6)
  refine sq (y_extract rfl et rfl) ?_
  refine sq (y_extract rfl et rfl) ?_
  refine l_store (new := (lVal r3.1)) (cs' := (AVal r3.1)) hI .z gn rfl rfl et et rfl size_68 rfl rfl rfl ?_
  clear hI; intro c7 w8 hI
  refine sa ?_
  refine s_nil ?_
  refine k_next (e := [(4, (vp b4 0)), (5, (vi r3.2))]) ⟨rfl, rfl, trivial⟩ ?_
  refine c_ret ?_
  obtain rfl := some_inj h
  exact q_ret (vs := [(Value.agg (AVal r3.1)), (vi r3.2)]) Tryz.results103 ⟨⟨_, ev_tmp rfl rfl, load_agg (l := (lVal r3.1)) u68 rfl size_68 (CellsAt.of_blk (hI.blk .z) rfl)⟩, ⟨ev_tmp rfl rfl, trivial⟩⟩ ⟨rfl, hI.ext0, hI.fin trivial⟩

set_option maxRecDepth 100000 in
set_option maxHeartbeats 4000000 in
theorem c_ref01_Div (F : NP) (w0 : World) (hF : ∀ k, F k → k < w0.heap.size) (a1 : GVal) (b1 : GVal) (hc : AllCl [] F w0) (r : GVal × Int)
  (h : m_ref01_Div a1 b1 = some r) :
  Calls Tryz.prog 104 #[(Value.agg (AVal a1)), (Value.agg (AVal b1))] w0 fun e w => e = .returned (Value.tuple #[(Value.agg (AVal r.1)), (vi r.2)]) ∧ Ext w0 w ∧ AllCl [] F w := by
 refine enterK (l := [(Value.agg (AVal a1)), (Value.agg (AVal b1))]) Tryz.func104 rfl Tryz.ntmps104 rfl ?_
 have hI := Bun.start hF hc
 clear hc
 rw [m_ref01_Div] at h
 refine sr (l_box (v := (Value.agg (AVal a1))) (cs := (AVal a1)) hI gn rfl rfl et rfl ?_)
 clear hI; intro b2 c1 w1 hI
 obtain ⟨c2, hI⟩ := hI.relBox .z
 refine l_box (v := (Value.agg (AVal b1))) (cs := (AVal b1)) hI gn rfl rfl et rfl ?_
 clear hI; intro b3 c3 w2 hI
 obtain ⟨c4, hI⟩ := hI.relBox .z
 refine l_alloc (cs := #[(vi 0), (vi 0)]) hI gn rfl rfl zero_68 rfl ?_
 clear hI; intro b4 c5 w3 hI
 refine sac ?_
 refine nk (c_seq (sr (sq (y_loadN (l := (lVal a1)) rfl et u68 rfl size_68 (hI.kblk (l := (lVal a1)) (.s .z) rfl).1) ?_)))
 obtain ⟨r1, hx1, h⟩ := bnd_some h
 refine s_call gn rfl (r_callF (vs := [(Value.agg (AVal a1))]) rfl ok_124 ⟨et, trivial⟩) (Calls.mono (c_ref01_Valid (Dj F c5) w3 hI.lt a1 trivial r1 hx1) ?_)
 rintro _ w4 ⟨rfl, hx2, hl1⟩
 refine ⟨_, rfl, ?_⟩
 replace hI := (hI.ext hx2)
 refine sq (y_not rfl et) ?_
 refine sm ?_
 refine s_gval (g_false rfl rfl rfl rfl) rfl (fun hc => (y_loadN (l := (lVal b1)) rfl et u68 rfl size_68 (hI.kblk (l := (lVal b1)) .z rfl).1)) ?_
 obtain ⟨r2, hx3, h⟩ := bnd_some h
 replace hx3 := gd_some hx3
 refine s_gcallU (v := (vb r2)) (g_false rfl rfl rfl rfl) rfl (fun hc => (r_callF (vs := [(Value.agg (AVal b1))]) rfl ok_124 ⟨(ev_gv et hc), trivial⟩)) (fun hc => (c_ref01_Valid (Dj F c5) w4 hI.lt b1 trivial r2 (hx3 hc)).mono fun _ _ k => ⟨k.1, k.2.1⟩) ?_
 intro w5 hx4; replace hI := hI.ext hx4
 refine s_gval (g_false rfl rfl rfl rfl) rfl (fun hc => (y_not rfl (ev_gv et hc))) ?_
 refine sq (y_or rfl et et) ?_
 refine nk (c_cond (b := (!r1) || (!r2)) et (fun hb => ?_) (fun hb => ?_))
 ·replace h := ite_t hb h
  refine sr (sq (y_build (vs := []) (cs := #[(vi 0), (vi 0)]) rfl trivial (by kernel_rfl)) ?_)
  refine l_store (new := [(vi 0), (vi 0)]) (cs' := #[(vi 0), (vi 0)]) hI .z gn rfl rfl et et rfl size_68 rfl rfl rfl ?_
  clear hI; intro c6 w6 hI
  refine sac ?_
  refine nk (c_ret ?_)
  obtain rfl := some_inj h
  exact q_ret (vs := [(Value.agg #[(vi 0), (vi 0)]), (vi 1)]) Tryz.results104 ⟨⟨_, ev_tmp rfl rfl, load_agg (l := [(vi 0), (vi 0)]) u68 rfl size_68 (CellsAt.of_blk (hI.blk .z) rfl)⟩, ⟨ev_tmp rfl rfl, trivial⟩⟩ ⟨rfl, hI.ext0, hI.fin trivial⟩
 ·replace h := ite_f hb h
  refine c_skip (k_same (sr (sq (y_fieldAddr rfl et u68 rfl size_2 rfl) ?_)))
  refine sq (y_load1 (v := (vi a1.N)) rfl et u2 rfl (hI.kblk (l := [(vi a1.N)]) (.s .z) rfl).1) ?_
  refine sq (y_fieldAddr rfl et u68 rfl size_2 rfl) ?_
  refine sq (y_load1 (v := (vi b1.D)) rfl et u2 rfl (hI.kblk (l := [(vi b1.D)]) .z rfl).1) ?_
  refine sq (y_mul rfl et et) ?_
  refine sq (y_fieldAddr rfl et u68 rfl size_2 rfl) ?_
  refine sq (y_load1 (v := (vi a1.D)) rfl et u2 rfl (hI.kblk (l := [(vi a1.D)]) (.s .z) rfl).1) ?_
  refine sq (y_fieldAddr rfl et u68 rfl size_2 rfl) ?_
  refine sq (y_load1 (v := (vi b1.N)) rfl et u2 rfl (hI.kblk (l := [(vi b1.N)]) .z rfl).1) ?_
  refine sq (y_mul rfl et et) ?_
  obtain ⟨r3, hx5, h⟩ := bnd_some h
  refine s_call gn rfl (r_callF (vs := [(vi (wi64 (a1.N * b1.D))), (vi (wi64 (a1.D * b1.N)))]) rfl ok_125 ⟨et, ⟨et, trivial⟩⟩) (Calls.mono (c_ref01_New (Dj F c5) w5 hI.lt (wi64 (a1.N * b1.D)) (wi64 (a1.D * b1.N)) trivial r3 hx5) ?_)
  rintro _ w7 ⟨rfl, hx6, hl3⟩
  refine ⟨_, rfl, ?_⟩
  replace hI := (hI.ext hx6)
  refine sq (y_extract rfl et rfl) ?_
  refine sq (y_extract rfl et rfl) ?_
  refine l_store (new := (lVal r3.1)) (cs' := (AVal r3.1)) hI .z gn rfl rfl et et rfl size_68 rfl rfl rfl ?_
  clear hI; intro c7 w8 hI
  refine sa ?_
  refine s_nil ?_
  refine k_next (e := [(4, (vp b4 0)), (5, (vi r3.2))]) ⟨rfl, rfl, trivial⟩ ?_
  refine c_ret ?_
  obtain rfl := some_inj h
  exact q_ret (vs := [(Value.agg (AVal r3.1)), (vi r3.2)]) Tryz.results104 ⟨⟨_, ev_tmp rfl rfl, load_agg (l := (lVal r3.1)) u68 rfl size_68 (CellsAt.of_blk (hI.blk .z) rfl)⟩, ⟨ev_tmp rfl rfl, trivial⟩⟩ ⟨rfl, hI.ext0, hI.fin trivial⟩

set_option maxRecDepth 100000 in
set_option maxHeartbeats 4000000 in
theorem c_ref01_Neg (F : NP) (w0 : World) (hF : ∀ k, F k → k < w0.heap.size) (a1 : GVal) (hc : AllCl [] F w0) (r : GVal)
  (h : m_ref01_Neg a1 = some r) :
  Calls Tryz.prog 105 #[(Value.agg (AVal a1))] w0 fun e w => e = .returned (Value.agg (AVal r)) ∧ Ext w0 w ∧ AllCl [] F w := by
 refine enterK (l := [(Value.agg (AVal a1))]) Tryz.func105 rfl Tryz.ntmps105 rfl ?_
 have hI := Bun.start hF hc
 clear hc
 rw [m_ref01_Neg] at h
 refine sr (l_box (v := (Value.agg (AVal a1))) (cs := (AVal a1)) hI gn rfl rfl et rfl ?_)
 clear hI; intro b1 c1 w1 hI
 obtain ⟨c2, hI⟩ := hI.relBox .z
 refine l_alloc (cs := #[(vi 0), (vi 0)]) hI gn rfl rfl zero_68 rfl ?_
 clear hI; intro b2 c3 w2 hI
 refine nk (c_seq (sr (sq (y_loadN (l := (lVal a1)) rfl et u68 rfl size_68 (hI.kblk (l := (lVal a1)) .z rfl).1) ?_)))
 obtain ⟨r1, hx1, h⟩ := bnd_some h
 refine s_call gn rfl (r_callF (vs := [(Value.agg (AVal a1))]) rfl ok_124 ⟨et, trivial⟩) (Calls.mono (c_ref01_Valid (Dj F c3) w2 hI.lt a1 trivial r1 hx1) ?_)
 rintro _ w3 ⟨rfl, hx2, hl1⟩
 refine ⟨_, rfl, ?_⟩
 replace hI := (hI.ext hx2)
 refine sq (y_not rfl et) ?_
 refine nk (c_cond (b := !r1) et (fun hb => ?_) (fun hb => ?_))
 ·replace h := ite_t hb h
  refine sr (sq (y_build (vs := []) (cs := #[(vi 0), (vi 0)]) rfl trivial (by kernel_rfl)) ?_)
  refine l_store (new := [(vi 0), (vi 0)]) (cs' := #[(vi 0), (vi 0)]) hI .z gn rfl rfl et et rfl size_68 rfl rfl rfl ?_
  clear hI; intro c4 w4 hI
  refine nk (c_ret ?_)
  obtain rfl := some_inj h
  exact q_ret (vs := [(Value.agg #[(vi 0), (vi 0)])]) Tryz.results105 ⟨⟨_, ev_tmp rfl rfl, load_agg (l := [(vi 0), (vi 0)]) u68 rfl size_68 (CellsAt.of_blk (hI.blk .z) rfl)⟩, trivial⟩ ⟨rfl, hI.ext0, hI.fin trivial⟩
 ·replace h := ite_f hb h
  refine c_skip (k_same (sr (sq (y_fieldAddr rfl et u68 rfl size_2 rfl) ?_)))
  refine sq (y_load1 (v := (vi a1.N)) rfl et u2 rfl (hI.kblk (l := [(vi a1.N)]) .z rfl).1) ?_
  refine sq (y_neg rfl et) ?_
  refine sq (y_fieldAddr rfl et u68 rfl size_2 rfl) ?_
  refine sq (y_load1 (v := (vi a1.D)) rfl et u2 rfl (hI.kblk (l := [(vi a1.D)]) .z rfl).1) ?_
  refine sq (y_build (vs := [(0, (vi (wi64 (-a1.N)))), (1, (vi a1.D))]) (cs := #[(vi (wi64 (-a1.N))), (vi a1.D)]) rfl ⟨rfl, et, ⟨rfl, et, trivial⟩⟩ (by kernel_rfl)) ?_
  refine l_store (new := [(vi (wi64 (-a1.N))), (vi a1.D)]) (cs' := #[(vi (wi64 (-a1.N))), (vi a1.D)]) hI .z gn rfl rfl et et rfl size_68 rfl rfl rfl ?_
  clear hI; intro c5 w5 hI
  refine nk (c_ret ?_)
  obtain rfl := some_inj h
  exact q_ret (vs := [(Value.agg #[(vi (wi64 (-a1.N))), (vi a1.D)])]) Tryz.results105 ⟨⟨_, ev_tmp rfl rfl, load_agg (l := [(vi (wi64 (-a1.N))), (vi a1.D)]) u68 rfl size_68 (CellsAt.of_blk (hI.blk .z) rfl)⟩, trivial⟩ ⟨rfl, hI.ext0, hI.fin trivial⟩

set_option maxRecDepth 100000 in
set_option maxHeartbeats 4000000 in
theorem c_ref04_Apply (F : NP) (w0 : World) (hF : ∀ k, F k → k < w0.heap.size) (op1 : Int) (t1 : GType) (a1 : GVal) (b1 : GVal) (hc : AllCl [] F w0) (r : GVal × Int)
  (h : m_ref04_Apply op1 t1 a1 b1 = some r) :
  Calls Tryz.prog 79 #[(vi op1), (Value.agg (AType t1)), (Value.agg (AVal a1)), (Value.agg (AVal b1))] w0 fun e w => e = .returned (Value.tuple #[(Value.agg (AVal r.1)), (vi r.2)]) ∧ Ext w0 w ∧ AllCl [] F w := by
 refine enterK (l := [(vi op1), (Value.agg (AType t1)), (Value.agg (AVal a1)), (Value.agg (AVal b1))]) Tryz.func79 rfl Tryz.ntmps79 rfl ?_
 have hI := Bun.start hF hc
 clear hc
 rw [m_ref04_Apply] at h
 refine sr (l_box (v := (Value.agg (AType t1))) (cs := (AType t1)) hI gn rfl rfl et rfl ?_)
 clear hI; intro b2 c1 w1 hI
 obtain ⟨c2, hI⟩ := hI.relBox .z
 refine l_box (v := (Value.agg (AVal a1))) (cs := (AVal a1)) hI gn rfl rfl et rfl ?_
 clear hI; intro b3 c3 w2 hI
 obtain ⟨c4, hI⟩ := hI.relBox .z
 refine l_box (v := (Value.agg (AVal b1))) (cs := (AVal b1)) hI gn rfl rfl et rfl ?_
 clear hI; intro b4 c5 w3 hI
 obtain ⟨c6, hI⟩ := hI.relBox .z
 refine l_alloc (cs := #[(vi 0), (vi 0)]) hI gn rfl rfl zero_68 rfl ?_
 clear hI; intro b5 c7 w4 hI
 refine sac ?_
 refine nk (c_seq (sr (sm ?_)))
 refine sq (y_lss rfl et ev_const) ?_
 refine sm ?_
 refine s_gval (g_false rfl rfl rfl rfl) rfl (fun hc => (y_move rfl et)) ?_
 refine s_gval (g_false rfl rfl rfl rfl) rfl (fun hc => (y_gtr rfl (ev_gv et hc) ev_const)) ?_
 refine sq (y_or rfl et et) ?_
 refine nk (c_cond (b := (decide (op1 < 4)) || (decide (10 < op1))) et (fun hb => ?_) (fun hb => ?_))
 ·replace h := ite_t hb h
  refine sr (sq (y_build (vs := []) (cs := #[(vi 0), (vi 0)]) rfl trivial (by kernel_rfl)) ?_)
  refine l_store (new := [(vi 0), (vi 0)]) (cs' := #[(vi 0), (vi 0)]) hI .z gn rfl rfl et et rfl size_68 rfl rfl rfl ?_
  clear hI; intro c8 w5 hI
  refine sac ?_
  refine nk (c_ret ?_)
  obtain rfl := some_inj h
  exact q_ret (vs := [(Value.agg #[(vi 0), (vi 0)]), (vi 1)]) Tryz.results79 ⟨⟨_, ev_tmp rfl rfl, load_agg (l := [(vi 0), (vi 0)]) u68 rfl size_68 (CellsAt.of_blk (hI.blk .z) rfl)⟩, ⟨ev_tmp rfl rfl, trivial⟩⟩ ⟨rfl, hI.ext0, hI.fin trivial⟩
 ·replace h := ite_f hb h
  refine c_skip (k_same (c_seq (sr (sq (y_loadN (l := (lType t1)) rfl et u38 rfl size_38 (hI.kblk (l := (lType t1)) (.s (.s .z)) rfl).1) ?_))))
  obtain ⟨r1, hx1, h⟩ := bnd_some h
  refine s_call gn rfl (r_callF (vs := [(Value.agg (AType t1))]) rfl ok_56 ⟨et, trivial⟩) (Calls.mono (c_base_Type (Dj F c7) w4 hI.lt t1 trivial r1 hx1) ?_)
  rintro _ w6 ⟨rfl, hx2, hl1⟩
  refine ⟨_, rfl, ?_⟩
  replace hI := (hI.ext hx2)
  refine sq (y_not rfl et) ?_
  refine nk (c_cond (b := !r1) et (fun hb => ?_) (fun hb => ?_))
  ·replace h := ite_t hb h
   refine sr (sq (y_build (vs := []) (cs := #[(vi 0), (vi 0)]) rfl trivial (by kernel_rfl)) ?_)
   refine l_store (new := [(vi 0), (vi 0)]) (cs' := #[(vi 0), (vi 0)]) hI .z gn rfl rfl et et rfl size_68 rfl rfl rfl ?_
   clear hI; intro c9 w7 hI
   refine sac ?_
   refine nk (c_ret ?_)
   obtain rfl := some_inj h
   exact q_ret (vs := [(Value.agg #[(vi 0), (vi 0)]), (vi 10)]) Tryz.results79 ⟨⟨_, ev_tmp rfl rfl, load_agg (l := [(vi 0), (vi 0)]) u68 rfl size_68 (CellsAt.of_blk (hI.blk .z) rfl)⟩, ⟨ev_tmp rfl rfl, trivial⟩⟩ ⟨rfl, hI.ext0, hI.fin trivial⟩
  ·replace h := ite_f hb h
   refine c_skip (k_same (c_seq (sr (sq (y_loadN (l := (lType t1)) rfl et u38 rfl size_38 (hI.kblk (l := (lType t1)) (.s (.s .z)) rfl).1) ?_))))
   refine sq (y_loadN (l := (lVal a1)) rfl et u68 rfl size_68 (hI.kblk (l := (lVal a1)) (.s .z) rfl).1) ?_
   obtain ⟨r2, hx3, h⟩ := bnd_some h
   refine s_call gn rfl (r_callF (vs := [(Value.agg (AType t1)), (Value.agg (AVal a1))]) rfl ok_59 ⟨et, ⟨et, trivial⟩⟩) (Calls.mono (c_base_Val (Dj F c7) w6 hI.lt t1 a1 trivial r2 hx3) ?_)
   rintro _ w8 ⟨rfl, hx4, hl2⟩
   refine ⟨_, rfl, ?_⟩
   replace hI := (hI.ext hx4)
   refine sq (y_not rfl et) ?_
   refine sm ?_
   refine s_gval (g_false rfl rfl rfl rfl) rfl (fun hc => (y_move rfl et)) ?_
   refine s_gval (g_false rfl rfl rfl rfl) rfl (fun hc => (y_neq rfl (ev_gv et hc) ev_const)) ?_
   refine s_gval (g_false rfl rfl rfl rfl) rfl (fun hc => (y_move rfl (ev_gv et hc))) ?_
   refine s_gval (g_true2 rfl rfl rfl rfl) rfl (fun hc => (y_loadN (l := (lType t1)) rfl et u38 rfl size_38 (hI.kblk (l := (lType t1)) (.s (.s .z)) rfl).1)) ?_
   refine s_gval (g_true2 rfl rfl rfl rfl) rfl (fun hc => (y_loadN (l := (lVal b1)) rfl et u68 rfl size_68 (hI.kblk (l := (lVal b1)) .z rfl).1)) ?_
   obtain ⟨r3, hx5, h⟩ := bnd_some h
   replace hx5 := gd_some hx5
   refine s_gcallU (v := (vb r3)) (g_true2 rfl rfl rfl rfl) rfl (fun hc => (r_callF (vs := [(Value.agg (AType t1)), (Value.agg (AVal b1))]) rfl ok_59 ⟨(ev_gv et hc), ⟨(ev_gv et hc), trivial⟩⟩)) (fun hc => (c_base_Val (Dj F c7) w8 hI.lt t1 b1 trivial r3 (hx5 hc)).mono fun _ _ k => ⟨k.1, k.2.1⟩) ?_
   intro w9 hx6; replace hI := hI.ext hx6
   refine s_gval (g_true2 rfl rfl rfl rfl) rfl (fun hc => (y_not rfl (ev_gv et hc))) ?_
   refine s_gval (g_false rfl rfl rfl rfl) rfl (fun hc => (y_and2 rfl hc et et)) ?_
   refine sq (y_or rfl et et) ?_
   refine s_nil ?_
   refine k_next (e := [(0, (vi op1)), (5, (vp b2 0)), (6, (vp b3 0)), (7, (vp b4 0)), (8, (vp b5 0)), (34, (vb ((!r2) || ((!decide (op1 = 8)) && (!r3)))))]) ⟨rfl, rfl, rfl, rfl, rfl, rfl, trivial⟩ ?_
   refine c_cond (b := (!r2) || ((!decide (op1 = 8)) && (!r3))) et (fun hb => ?_) (fun hb => ?_)
   ·replace h := ite_t hb h
    refine sr (sq (y_build (vs := []) (cs := #[(vi 0), (vi 0)]) rfl trivial (by kernel_rfl)) ?_)
    refine l_store (new := [(vi 0), (vi 0)]) (cs' := #[(vi 0), (vi 0)]) hI .z gn rfl rfl et et rfl size_68 rfl rfl rfl ?_
    clear hI; intro c10 w10 hI
    refine sac ?_
    refine nk (c_ret ?_)
    obtain rfl := some_inj h
    exact q_ret (vs := [(Value.agg #[(vi 0), (vi 0)]), (vi 1)]) Tryz.results79 ⟨⟨_, ev_tmp rfl rfl, load_agg (l := [(vi 0), (vi 0)]) u68 rfl size_68 (CellsAt.of_blk (hI.blk .z) rfl)⟩, ⟨ev_tmp rfl rfl, trivial⟩⟩ ⟨rfl, hI.ext0, hI.fin trivial⟩
   ·replace h := ite_f hb h
    refine c_skip (k_same (c_seq (sr (sm ?_))))
    refine sq (y_eql rfl et ev_const) ?_
    refine sm ?_
    refine s_gval (g_false rfl rfl rfl rfl) rfl (fun hc => (y_move rfl et)) ?_
    refine s_gval (g_false rfl rfl rfl rfl) rfl (fun hc => (y_eql rfl (ev_gv et hc) ev_const)) ?_
    refine sq (y_or rfl et et) ?_
    refine nk (c_cond (b := (decide (op1 = 9)) || (decide (op1 = 10))) et (fun hb => ?_) (fun hb => ?_))
    ·replace h := ite_t hb h
     refine c_seq (sr (sq (y_loadN (l := (lType t1)) rfl et u38 rfl size_38 (hI.kblk (l := (lType t1)) (.s (.s .z)) rfl).1) ?_))
     refine sq (y_loadN (l := (lVal a1)) rfl et u68 rfl size_68 (hI.kblk (l := (lVal a1)) (.s .z) rfl).1) ?_
     refine sq (y_loadN (l := (lVal b1)) rfl et u68 rfl size_68 (hI.kblk (l := (lVal b1)) .z rfl).1) ?_
     obtain ⟨r4, hx7, h⟩ := bnd_some h
     refine s_call gn rfl (r_callF (vs := [(Value.agg (AType t1)), (Value.agg (AVal a1)), (Value.agg (AVal b1))]) rfl ok_98 ⟨et, ⟨et, ⟨et, trivial⟩⟩⟩) (Calls.mono (c_ref04_Compare (Dj F c7) w9 hI.lt t1 a1 b1 trivial r4 hx7) ?_)
     rintro _ w11 ⟨rfl, hx8, hl4⟩
     refine ⟨_, rfl, ?_⟩
     replace hI := (hI.ext hx8)
     refine sq (y_gtr rfl et ev_const) ?_
     refine sm ?_
     refine sq (y_eql rfl et ev_const) ?_
     refine sq (y_eqb rfl u4 et et) ?_
     refine nk (c_cond (b := (decide (0 < r4)) == (decide (op1 = 9))) et (fun hb => ?_) (fun hb => ?_))
     ·replace h := ite_t hb h
      refine sr (sq (y_loadN (l := (lVal b1)) rfl et u68 rfl size_68 (hI.kblk (l := (lVal b1)) .z rfl).1) ?_)
      refine l_store (new := (lVal b1)) (cs' := (AVal b1)) hI .z gn rfl rfl et et rfl size_68 rfl rfl rfl ?_
      clear hI; intro c11 w12 hI
      refine sac ?_
      refine nk (c_ret ?_)
      obtain rfl := some_inj h
      exact q_ret (vs := [(Value.agg (AVal b1)), (vi 0)]) Tryz.results79 ⟨⟨_, ev_tmp rfl rfl, load_agg (l := (lVal b1)) u68 rfl size_68 (CellsAt.of_blk (hI.blk .z) rfl)⟩, ⟨ev_tmp rfl rfl, trivial⟩⟩ ⟨rfl, hI.ext0, hI.fin trivial⟩
     ·replace h := ite_f hb h
      refine c_skip (k_same (sr (sq (y_loadN (l := (lVal a1)) rfl et u68 rfl size_68 (hI.kblk (l := (lVal a1)) (.s .z) rfl).1) ?_)))
      refine l_store (new := (lVal a1)) (cs' := (AVal a1)) hI .z gn rfl rfl et et rfl size_68 rfl rfl rfl ?_
      clear hI; intro c12 w13 hI
      refine sac ?_
      refine nk (c_ret ?_)
      obtain rfl := some_inj h
      exact q_ret (vs := [(Value.agg (AVal a1)), (vi 0)]) Tryz.results79 ⟨⟨_, ev_tmp rfl rfl, load_agg (l := (lVal a1)) u68 rfl size_68 (CellsAt.of_blk (hI.blk .z) rfl)⟩, ⟨ev_tmp rfl rfl, trivial⟩⟩ ⟨rfl, hI.ext0, hI.fin trivial⟩
    ·replace h := ite_f hb h
     refine c_skip (k_same (c_seq (sr (sq (y_fieldAddr rfl et u38 rfl size_3 rfl) ?_))))
     refine sq (y_load1 (v := (vi t1.Kind)) rfl et u3 rfl (hI.kblk (l := [(vi t1.Kind)]) (.s (.s .z)) rfl).1) ?_
     refine sq (y_eql rfl et ev_const) ?_
     refine nk (c_cond (b := decide (t1.Kind = 2)) et (fun hb => ?_) (fun hb => ?_))
     ·replace h := ite_t hb h
      refine sr (sm ?_)
      refine sq (y_loadN (l := (lType t1)) rfl et u38 rfl size_38 (hI.kblk (l := (lType t1)) (.s (.s .z)) rfl).1) ?_
      refine sq (y_fieldAddr rfl et u68 rfl size_2 rfl) ?_
      refine sq (y_load1 (v := (vi a1.N)) rfl et u2 rfl (hI.kblk (l := [(vi a1.N)]) (.s .z) rfl).1) ?_
      refine sq (y_fieldAddr rfl et u68 rfl size_2 rfl) ?_
      refine sq (y_load1 (v := (vi b1.N)) rfl et u2 rfl (hI.kblk (l := [(vi b1.N)]) .z rfl).1) ?_
      obtain ⟨r5, hx9, h⟩ := bnd_some h
      refine s_call gn rfl (r_callF (vs := [(vi op1), (Value.agg (AType t1)), (vi a1.N), (vi b1.N)]) rfl ok_99 ⟨et, ⟨et, ⟨et, ⟨et, trivial⟩⟩⟩⟩) (Calls.mono (c_ref04_fix (Dj F c7) w9 hI.lt op1 t1 a1.N b1.N trivial r5 hx9) ?_)
      rintro _ w14 ⟨rfl, hx10, hl5⟩
      refine ⟨_, rfl, ?_⟩
      replace hI := (hI.ext hx10)
      refine sq (y_extract rfl et rfl) ?_
      refine sq (y_extract rfl et rfl) ?_
      refine l_store (new := (lVal r5.1)) (cs' := (AVal r5.1)) hI .z gn rfl rfl et et rfl size_68 rfl rfl rfl ?_
      clear hI; intro c13 w15 hI
      refine sa ?_
      refine nk (c_ret ?_)
      obtain rfl := some_inj h
      exact q_ret (vs := [(Value.agg (AVal r5.1)), (vi r5.2)]) Tryz.results79 ⟨⟨_, ev_tmp rfl rfl, load_agg (l := (lVal r5.1)) u68 rfl size_68 (CellsAt.of_blk (hI.blk .z) rfl)⟩, ⟨ev_tmp rfl rfl, trivial⟩⟩ ⟨rfl, hI.ext0, hI.fin trivial⟩
     ·replace h := ite_f hb h
      refine c_skip (k_same (c_seq (sr (sq (y_fieldAddr rfl et u38 rfl size_3 rfl) ?_))))
      refine sq (y_load1 (v := (vi t1.Kind)) rfl et u3 rfl (hI.kblk (l := [(vi t1.Kind)]) (.s (.s .z)) rfl).1) ?_
      refine sq (y_eql rfl et ev_const) ?_
      refine nk (c_cond (b := decide (t1.Kind = 3)) et (fun hb => ?_) (fun hb => ?_))
      ·replace h := ite_t hb h
       refine sr (sm ?_)
       refine sq (y_fieldAddr rfl et u68 rfl size_2 rfl) ?_
       refine sq (y_load1 (v := (vi a1.N)) rfl et u2 rfl (hI.kblk (l := [(vi a1.N)]) (.s .z) rfl).1) ?_
       refine sq (y_fieldAddr rfl et u68 rfl size_2 rfl) ?_
       refine sq (y_load1 (v := (vi b1.N)) rfl et u2 rfl (hI.kblk (l := [(vi b1.N)]) .z rfl).1) ?_
       obtain ⟨r6, hx11, h⟩ := bnd_some h
       refine s_call gn rfl (r_callF (vs := [(vi op1), (vi a1.N), (vi b1.N)]) rfl ok_100 ⟨et, ⟨et, ⟨et, trivial⟩⟩⟩) (Calls.mono (c_ref04_whole (Dj F c7) w9 hI.lt op1 a1.N b1.N trivial r6 hx11) ?_)
       rintro _ w16 ⟨rfl, hx12, hl6⟩
       refine ⟨_, rfl, ?_⟩
       replace hI := (hI.ext hx12)
       refine sq (y_extract rfl et rfl) ?_
       refine sq (y_extract rfl et rfl) ?_
       refine l_store (new := (lVal r6.1)) (cs' := (AVal r6.1)) hI .z gn rfl rfl et et rfl size_68 rfl rfl rfl ?_
       clear hI; intro c14 w17 hI
       refine sa ?_
       refine s_nil ?_
       refine k_next (e := [(8, (vp b5 0)), (9, (vi r6.2))]) ⟨rfl, rfl, trivial⟩ ?_
       refine c_ret ?_
       obtain rfl := some_inj h
       exact q_ret (vs := [(Value.agg (AVal r6.1)), (vi r6.2)]) Tryz.results79 ⟨⟨_, ev_tmp rfl rfl, load_agg (l := (lVal r6.1)) u68 rfl size_68 (CellsAt.of_blk (hI.blk .z) rfl)⟩, ⟨ev_tmp rfl rfl, trivial⟩⟩ ⟨rfl, hI.ext0, hI.fin trivial⟩
      ·replace h := ite_f hb h
       refine c_skip (k_same (c_seq (sr (sm ?_))))
       refine nk (c_block (sr (sq (y_eql rfl et ev_const) ?_)))
       refine sa ?_
       refine nk (c_cond (b := decide (op1 = 4)) et (fun hb => ?_) (fun hb => ?_))
       ·replace h := ite_t hb h
        refine sr (sq (y_loadN (l := (lVal a1)) rfl et u68 rfl size_68 (hI.kblk (l := (lVal a1)) (.s .z) rfl).1) ?_)
        refine sq (y_loadN (l := (lVal b1)) rfl et u68 rfl size_68 (hI.kblk (l := (lVal b1)) .z rfl).1) ?_
        obtain ⟨r7, hx13, h⟩ := bnd_some h
        refine s_call gn rfl (r_callF (vs := [(Value.agg (AVal a1)), (Value.agg (AVal b1))]) rfl ok_101 ⟨et, ⟨et, trivial⟩⟩) (Calls.mono (c_ref01_Add (Dj F c7) w9 hI.lt a1 b1 trivial r7 hx13) ?_)
        rintro _ w18 ⟨rfl, hx14, hl7⟩
        refine ⟨_, rfl, ?_⟩
        replace hI := (hI.ext hx14)
        refine sq (y_extract rfl et rfl) ?_
        refine sq (y_extract rfl et rfl) ?_
        refine l_store (new := (lVal r7.1)) (cs' := (AVal r7.1)) hI .z gn rfl rfl et et rfl size_68 rfl rfl rfl ?_
        clear hI; intro c15 w19 hI
        refine sa ?_
        refine s_nil ?_
        refine k_next (e := [(8, (vp b5 0)), (9, (vi r7.2))]) ⟨rfl, rfl, trivial⟩ ?_
        refine c_ret ?_
        obtain rfl := some_inj h
        exact q_ret (vs := [(Value.agg (AVal r7.1)), (vi r7.2)]) Tryz.results79 ⟨⟨_, ev_tmp rfl rfl, load_agg (l := (lVal r7.1)) u68 rfl size_68 (CellsAt.of_blk (hI.blk .z) rfl)⟩, ⟨ev_tmp rfl rfl, trivial⟩⟩ ⟨rfl, hI.ext0, hI.fin trivial⟩
       ·replace h := ite_f hb h
        refine sr (sq (y_eql rfl et ev_const) ?_)
        refine sa ?_
        refine nk (c_cond (b := decide (op1 = 5)) et (fun hb => ?_) (fun hb => ?_))
        ·replace h := ite_t hb h
         refine sr (sq (y_loadN (l := (lVal a1)) rfl et u68 rfl size_68 (hI.kblk (l := (lVal a1)) (.s .z) rfl).1) ?_)
         refine sq (y_loadN (l := (lVal b1)) rfl et u68 rfl size_68 (hI.kblk (l := (lVal b1)) .z rfl).1) ?_
         obtain ⟨r8, hx15, h⟩ := bnd_some h
         refine s_call gn rfl (r_callF (vs := [(Value.agg (AVal a1)), (Value.agg (AVal b1))]) rfl ok_102 ⟨et, ⟨et, trivial⟩⟩) (Calls.mono (c_ref01_Sub (Dj F c7) w9 hI.lt a1 b1 trivial r8 hx15) ?_)
         rintro _ w20 ⟨rfl, hx16, hl8⟩
         refine ⟨_, rfl, ?_⟩
         replace hI := (hI.ext hx16)
         refine sq (y_extract rfl et rfl) ?_
         refine sq (y_extract rfl et rfl) ?_
         refine l_store (new := (lVal r8.1)) (cs' := (AVal r8.1)) hI .z gn rfl rfl et et rfl size_68 rfl rfl rfl ?_
         clear hI; intro c16 w21 hI
         refine sa ?_
         refine s_nil ?_
         refine k_next (e := [(8, (vp b5 0)), (9, (vi r8.2))]) ⟨rfl, rfl, trivial⟩ ?_
         refine c_ret ?_
         obtain rfl := some_inj h
         exact q_ret (vs := [(Value.agg (AVal r8.1)), (vi r8.2)]) Tryz.results79 ⟨⟨_, ev_tmp rfl rfl, load_agg (l := (lVal r8.1)) u68 rfl size_68 (CellsAt.of_blk (hI.blk .z) rfl)⟩, ⟨ev_tmp rfl rfl, trivial⟩⟩ ⟨rfl, hI.ext0, hI.fin trivial⟩
        ·replace h := ite_f hb h
         refine sr (sq (y_eql rfl et ev_const) ?_)
         refine sa ?_
         refine nk (c_cond (b := decide (op1 = 6)) et (fun hb => ?_) (fun hb => ?_))
         ·replace h := ite_t hb h
          refine sr (sq (y_loadN (l := (lVal a1)) rfl et u68 rfl size_68 (hI.kblk (l := (lVal a1)) (.s .z) rfl).1) ?_)
          refine sq (y_loadN (l := (lVal b1)) rfl et u68 rfl size_68 (hI.kblk (l := (lVal b1)) .z rfl).1) ?_
          obtain ⟨r9, hx17, h⟩ := bnd_some h
          refine s_call gn rfl (r_callF (vs := [(Value.agg (AVal a1)), (Value.agg (AVal b1))]) rfl ok_103 ⟨et, ⟨et, trivial⟩⟩) (Calls.mono (c_ref01_Mul (Dj F c7) w9 hI.lt a1 b1 trivial r9 hx17) ?_)
          rintro _ w22 ⟨rfl, hx18, hl9⟩
          refine ⟨_, rfl, ?_⟩
          replace hI := (hI.ext hx18)
          refine sq (y_extract rfl et rfl) ?_
          refine sq (y_extract rfl et rfl) ?_
          refine l_store (new := (lVal r9.1)) (cs' := (AVal r9.1)) hI .z gn rfl rfl et et rfl size_68 rfl rfl rfl ?_
          clear hI; intro c17 w23 hI
          refine sa ?_
          refine s_nil ?_
          refine k_next (e := [(8, (vp b5 0)), (9, (vi r9.2))]) ⟨rfl, rfl, trivial⟩ ?_
          refine c_ret ?_
          obtain rfl := some_inj h
          exact q_ret (vs := [(Value.agg (AVal r9.1)), (vi r9.2)]) Tryz.results79 ⟨⟨_, ev_tmp rfl rfl, load_agg (l := (lVal r9.1)) u68 rfl size_68 (CellsAt.of_blk (hI.blk .z) rfl)⟩, ⟨ev_tmp rfl rfl, trivial⟩⟩ ⟨rfl, hI.ext0, hI.fin trivial⟩
         ·replace h := ite_f hb h
          refine sr (sq (y_eql rfl et ev_const) ?_)
          refine sa ?_
          refine nk (c_cond (b := decide (op1 = 7)) et (fun hb => ?_) (fun hb => ?_))
          ·replace h := ite_t hb h
           refine sr (sq (y_loadN (l := (lVal a1)) rfl et u68 rfl size_68 (hI.kblk (l := (lVal a1)) (.s .z) rfl).1) ?_)
           refine sq (y_loadN (l := (lVal b1)) rfl et u68 rfl size_68 (hI.kblk (l := (lVal b1)) .z rfl).1) ?_
           obtain ⟨r10, hx19, h⟩ := bnd_some h
           refine s_call gn rfl (r_callF (vs := [(Value.agg (AVal a1)), (Value.agg (AVal b1))]) rfl ok_104 ⟨et, ⟨et, trivial⟩⟩) (Calls.mono (c_ref01_Div (Dj F c7) w9 hI.lt a1 b1 trivial r10 hx19) ?_)
           rintro _ w24 ⟨rfl, hx20, hl10⟩
           refine ⟨_, rfl, ?_⟩
           replace hI := (hI.ext hx20)
           refine sq (y_extract rfl et rfl) ?_
           refine sq (y_extract rfl et rfl) ?_
           refine l_store (new := (lVal r10.1)) (cs' := (AVal r10.1)) hI .z gn rfl rfl et et rfl size_68 rfl rfl rfl ?_
           clear hI; intro c18 w25 hI
           refine sa ?_
           refine s_nil ?_
           refine k_next (e := [(8, (vp b5 0)), (9, (vi r10.2))]) ⟨rfl, rfl, trivial⟩ ?_
           refine c_ret ?_
           obtain rfl := some_inj h
           exact q_ret (vs := [(Value.agg (AVal r10.1)), (vi r10.2)]) Tryz.results79 ⟨⟨_, ev_tmp rfl rfl, load_agg (l := (lVal r10.1)) u68 rfl size_68 (CellsAt.of_blk (hI.blk .z) rfl)⟩, ⟨ev_tmp rfl rfl, trivial⟩⟩ ⟨rfl, hI.ext0, hI.fin trivial⟩
          ·replace h := ite_f hb h
           refine c_skip (k_next (e := [(6, (vp b3 0)), (8, (vp b5 0))]) ⟨rfl, rfl, trivial⟩ ?_)
           refine sr (sq (y_loadN (l := (lVal a1)) rfl et u68 rfl size_68 (hI.kblk (l := (lVal a1)) (.s .z) rfl).1) ?_)
           obtain ⟨r11, hx21, h⟩ := bnd_some h
           refine s_call gn rfl (r_callF (vs := [(Value.agg (AVal a1))]) rfl ok_105 ⟨et, trivial⟩) (Calls.mono (c_ref01_Neg (Dj F c7) w9 hI.lt a1 trivial r11 hx21) ?_)
           rintro _ w26 ⟨rfl, hx22, hl11⟩
           refine ⟨_, rfl, ?_⟩
           replace hI := (hI.ext hx22)
           refine l_store (new := (lVal r11)) (cs' := (AVal r11)) hI .z gn rfl rfl et et rfl size_68 rfl rfl rfl ?_
           clear hI; intro c19 w27 hI
           refine sac ?_
           refine nk (c_ret ?_)
           obtain rfl := some_inj h
           exact q_ret (vs := [(Value.agg (AVal r11)), (vi 0)]) Tryz.results79 ⟨⟨_, ev_tmp rfl rfl, load_agg (l := (lVal r11)) u68 rfl size_68 (CellsAt.of_blk (hI.blk .z) rfl)⟩, ⟨ev_tmp rfl rfl, trivial⟩⟩ ⟨rfl, hI.ext0, hI.fin trivial⟩

set_option maxRecDepth 100000 in
set_option maxHeartbeats 4000000 in
theorem c_ref04_Reduce (F : NP) (w0 : World) (hF : ∀ k, F k → k < w0.heap.size) (fold1 : Int) (t1 : GType) (l1 : List GVal) (a1 : Option Addr) (c1 : Nat) (hc : AllCl [Cl.sl cGVal a1 c1 l1] F w0) (r : GVal × Int)
  (h : m_ref04_Reduce fold1 t1 l1 = some r) :
  Calls Tryz.prog 47 #[(vi fold1), (Value.agg (AType t1)), (vs a1 l1.length c1)] w0 fun e w => e = .returned (Value.tuple #[(Value.agg (AVal r.1)), (vi r.2)]) ∧ Ext w0 w ∧ AllCl [] F w := by
 refine enterK (l := [(vi fold1), (Value.agg (AType t1)), (vs a1 l1.length c1)]) Tryz.func47 rfl Tryz.ntmps47 rfl ?_
 have hI := Bun.start hF hc
 clear hc
 rw [m_ref04_Reduce] at h
 refine sr (l_box (v := (Value.agg (AType t1))) (cs := (AType t1)) hI gn rfl rfl et rfl ?_)
 clear hI; intro b1 c2 w1 hI
 obtain ⟨c3, hI⟩ := hI.relBox .z
 refine l_alloc (cs := #[(vi 0), (vi 0)]) hI gn rfl rfl zero_68 rfl ?_
 clear hI; intro b2 c4 w2 hI
 refine sac ?_
 refine nk (c_seq (sr (sm ?_)))
 refine sq (y_lss rfl et ev_const) ?_
 refine sm ?_
 refine s_gval (g_false rfl rfl rfl rfl) rfl (fun hc => (y_move rfl et)) ?_
 refine s_gval (g_false rfl rfl rfl rfl) rfl (fun hc => (y_gtr rfl (ev_gv et hc) ev_const)) ?_
 refine sq (y_or rfl et et) ?_
 refine nk (c_cond (b := (decide (fold1 < 1)) || (decide (5 < fold1))) et (fun hb => ?_) (fun hb => ?_))
 ·replace h := ite_t hb h
  refine sr (sq (y_build (vs := []) (cs := #[(vi 0), (vi 0)]) rfl trivial (by kernel_rfl)) ?_)
  refine l_store (new := [(vi 0), (vi 0)]) (cs' := #[(vi 0), (vi 0)]) hI .z gn rfl rfl et et rfl size_68 rfl rfl rfl ?_
  clear hI; intro c5 w3 hI
  refine sac ?_
  refine nk (c_ret ?_)
  obtain rfl := some_inj h
  exact q_ret (vs := [(Value.agg #[(vi 0), (vi 0)]), (vi 1)]) Tryz.results47 ⟨⟨_, ev_tmp rfl rfl, load_agg (l := [(vi 0), (vi 0)]) u68 rfl size_68 (CellsAt.of_blk (hI.blk .z) rfl)⟩, ⟨ev_tmp rfl rfl, trivial⟩⟩ ⟨rfl, hI.ext0, hI.fin trivial⟩
 ·replace h := ite_f hb h
  refine c_skip (k_same (c_seq (sr (sq (y_loadN (l := (lType t1)) rfl et u38 rfl size_38 (hI.kblk (l := (lType t1)) .z rfl).1) ?_))))
  obtain ⟨r1, hx1, h⟩ := bnd_some h
  refine s_call gn rfl (r_callF (vs := [(Value.agg (AType t1))]) rfl ok_56 ⟨et, trivial⟩) (Calls.mono (c_base_Type (Dj F c4) w2 hI.lt t1 trivial r1 hx1) ?_)
  rintro _ w4 ⟨rfl, hx2, hl1⟩
  refine ⟨_, rfl, ?_⟩
  replace hI := (hI.ext hx2)
  refine sq (y_not rfl et) ?_
  refine nk (c_cond (b := !r1) et (fun hb => ?_) (fun hb => ?_))
  ·replace h := ite_t hb h
   refine sr (sq (y_build (vs := []) (cs := #[(vi 0), (vi 0)]) rfl trivial (by kernel_rfl)) ?_)
   refine l_store (new := [(vi 0), (vi 0)]) (cs' := #[(vi 0), (vi 0)]) hI .z gn rfl rfl et et rfl size_68 rfl rfl rfl ?_
   clear hI; intro c6 w5 hI
   refine sac ?_
   refine nk (c_ret ?_)
   obtain rfl := some_inj h
   exact q_ret (vs := [(Value.agg #[(vi 0), (vi 0)]), (vi 10)]) Tryz.results47 ⟨⟨_, ev_tmp rfl rfl, load_agg (l := [(vi 0), (vi 0)]) u68 rfl size_68 (CellsAt.of_blk (hI.blk .z) rfl)⟩, ⟨ev_tmp rfl rfl, trivial⟩⟩ ⟨rfl, hI.ext0, hI.fin trivial⟩
  ·replace h := ite_f hb h
   refine c_skip (k_same (c_join (α := Unit) (fun _ => ⟨79, []⟩) (fun _ => [(0, (vi fold1)), (2, (vs a1 l1.length c1)), (4, (vp b1 0)), (6, (vp b2 0))]) (fun _ => fun w => ∃ C, Bun noM F w0 C w [MO.box b2 68 #[(vi 0), (vi 0)]] [Cl.sl cGVal a1 c1 l1, Cl.blk b1 38 (AType t1)] ∧ m_ref04_Reduce_j1 l1 fold1 t1 = some r) ?_ ?_))
   ·clear h hI; rintro _ w6 ⟨c7, hI, h⟩
    try dsimp only at hI h
    rw [m_ref04_Reduce_j1] at h
    refine c_sub (e := [(0, (vi fold1)), (2, (vs a1 l1.length c1)), (4, (vp b1 0)), (6, (vp b2 0))]) ⟨rfl, rfl, rfl, rfl, trivial⟩ ?_
    refine c_seq (sr (sm ?_))
    refine sq (y_lenl rfl u39 et) ?_
    refine sq (y_eql rfl et ev_const) ?_
    refine nk (c_cond (b := decide ((l1.length : Int) = 0)) et (fun hb => ?_) (fun hb => ?_))
    ·replace h := ite_t hb h
     refine sr (sm ?_)
     refine sq (y_loadN (l := (lType t1)) rfl et u38 rfl size_38 (hI.kblk (l := (lType t1)) (.s .z) rfl).1) ?_
     obtain ⟨r2, hx3, h⟩ := bnd_some h
     refine s_call gn rfl (r_callF (vs := [(vi fold1), (Value.agg (AType t1))]) rfl ok_78 ⟨et, ⟨et, trivial⟩⟩) (Calls.mono (c_ref04_Identity (Dj F c7) w6 hI.lt fold1 t1 trivial r2 hx3) ?_)
     rintro _ w7 ⟨rfl, hx4, hl2⟩
     refine ⟨_, rfl, ?_⟩
     replace hI := (hI.ext hx4)
     refine sm ?_
     refine sq (y_extract rfl et rfl) ?_
     refine sq (y_extract rfl et rfl) ?_
     refine l_alloc (cs := #[(vi 0), (vi 0)]) hI gn rfl rfl zero_68 rfl ?_
     clear hI; intro b3 c8 w8 hI
     refine l_store (new := (lVal r2.1)) (cs' := (AVal r2.1)) hI .z gn rfl rfl et et rfl size_68 rfl rfl rfl ?_
     clear hI; intro c9 w9 hI
     refine sa ?_
     refine nk (c_seq (sr (sm ?_)))
     refine sq (y_not rfl et) ?_
     refine nk (c_cond (b := !r2.2) et (fun hb => ?_) (fun hb => ?_))
     ·replace h := ite_t hb h
      refine sr (sq (y_build (vs := []) (cs := #[(vi 0), (vi 0)]) rfl trivial (by kernel_rfl)) ?_)
      refine l_store (new := [(vi 0), (vi 0)]) (cs' := #[(vi 0), (vi 0)]) hI (.s .z) gn rfl rfl et et rfl size_68 rfl rfl rfl ?_
      clear hI; intro c10 w10 hI
      refine sac ?_
      refine nk (c_ret ?_)
      obtain rfl := some_inj h
      exact q_ret (vs := [(Value.agg #[(vi 0), (vi 0)]), (vi 1)]) Tryz.results47 ⟨⟨_, ev_tmp rfl rfl, load_agg (l := [(vi 0), (vi 0)]) u68 rfl size_68 (CellsAt.of_blk (hI.blk (.s .z)) rfl)⟩, ⟨ev_tmp rfl rfl, trivial⟩⟩ ⟨rfl, hI.ext0, hI.fin trivial⟩
     ·replace h := ite_f hb h
      refine c_skip (k_same (sr (sq (y_loadN (l := (lVal r2.1)) rfl et u68 rfl size_68 (CellsAt.of_blk (hI.blk .z) rfl)) ?_)))
      refine l_store (new := (lVal r2.1)) (cs' := (AVal r2.1)) hI (.s .z) gn rfl rfl et et rfl size_68 rfl rfl rfl ?_
      clear hI; intro c11 w11 hI
      refine sac ?_
      refine nk (c_ret ?_)
      obtain rfl := some_inj h
      exact q_ret (vs := [(Value.agg (AVal r2.1)), (vi 0)]) Tryz.results47 ⟨⟨_, ev_tmp rfl rfl, load_agg (l := (lVal r2.1)) u68 rfl size_68 (CellsAt.of_blk (hI.blk (.s .z)) rfl)⟩, ⟨ev_tmp rfl rfl, trivial⟩⟩ ⟨rfl, hI.ext0, hI.fin trivial⟩
    ·replace h := ite_f hb h
     refine c_skip (k_same (sr (sm ?_)))
     obtain ⟨e1, hx5, h⟩ := bnd_some h
     obtain ⟨ad1, cs1, hA1, hr1, hq1⟩ := hI.clat .z hx5
     obtain rfl : cs1 = (lVal e1) := hr1
     refine sq (y_indexAddr rfl u39 size_68 et ev_const (lat_bd hx5) hA1) ?_
     refine sq (y_loadN (l := (lVal e1)) rfl et u68 rfl size_68 hq1.1) ?_
     refine l_alloc (cs := #[(vi 0), (vi 0)]) hI gn rfl rfl zero_68 rfl ?_
     clear hI; intro b4 c12 w12 hI
     refine l_store (new := (lVal e1)) (cs' := (AVal e1)) hI .z gn rfl rfl et et rfl size_68 rfl rfl rfl ?_
     clear hI; intro c13 w13 hI
     refine sac ?_
     refine nk (c_seq (sr (sac ?_)))
     refine nk (c_block (c_loop (α := Nat × Int × Int × GVal) (fun x => fun w => ∃ C, Bun noM F w0 C w [MO.box b2 68 #[(vi 0), (vi 0)], MO.box b4 68 (AVal (x.2.2.2))] [Cl.sl cGVal a1 c1 l1, Cl.blk b1 38 (AType t1)] ∧ m_ref04_Reduce_l1 l1 fold1 t1 (x.1) (x.2.1) (x.2.2.1) (x.2.2.2) = some r) (fun x _ => x.1) (fun x => [(0, (vi fold1)), (2, (vs a1 l1.length c1)), (4, (vp b1 0)), (6, (vp b2 0)), (11, (vp b4 0)), (12, (vi (x.2.1))), (13, (vi (x.2.2.1)))]) (fu, 0, 1, e1) ⟨_, hI.arr (.c (.s .z) (.c .z .n)) ⟨.z, (.s .z), trivial⟩, h⟩ ⟨rfl, rfl, rfl, rfl, rfl, rfl, rfl, trivial⟩ ?_))
     clear h hI; rintro ⟨fuel1, e2, i1, v1⟩ w14 ⟨c14, hI, h⟩
     dsimp only at hI h
     rcases fuel1 with _ | fuel1
     ·rw [m_ref04_Reduce_l1] at h; cases h
     rw [m_ref04_Reduce_l1] at h
     refine c_sub (e := [(0, (vi fold1)), (2, (vs a1 l1.length c1)), (4, (vp b1 0)), (6, (vp b2 0)), (11, (vp b4 0)), (12, (vi e2)), (13, (vi i1))]) ⟨rfl, rfl, rfl, rfl, rfl, rfl, rfl, trivial⟩ ?_
     refine c_seq (sr (sm ?_))
     refine sm ?_
     refine sq (y_lenl rfl u39 et) ?_
     refine sq (y_lss rfl et et) ?_
     refine sm ?_
     refine s_gval (g_true rfl rfl rfl rfl) rfl (fun hc => (y_move rfl et)) ?_
     refine s_gval (g_true rfl rfl rfl rfl) rfl (fun hc => (y_eql rfl (ev_gv et hc) ev_const)) ?_
     refine sq (y_and rfl et et) ?_
     refine nk (c_cond (b := (decide (i1 < (l1.length : Int))) && (decide (e2 = 0))) et (fun hb => ?_) (fun hb => ?_))
     ·replace h := ite_t hb h
      refine c_skip (k_same (c_seq (c_block (c_drawX [12] false (.c (0, .q) (.c (2, .q) (.c (3, .q) (.c (4, .q) (.c (5, .q) (.c (6, .q) (.c (7, .q) (.c (1, .s) (.c (8, .s) (.c (9, .q) (.c (10, .q) (.c (11, .q) (.c (12, .s) (.c (13, .q) .n)))))))))))))) hI (by kernel_rfl) (by kernel_rfl) ?_))))
      clear hI; intro w15 hI
      refine a_q rfl gn rfl (fun w' => (y_move rfl et)) ?_
      refine a_read rfl gn rfl (fun w' hw' => (y_loadN (l := (lType t1)) rfl et u38 rfl size_38 ((hI.kblk (l := (lType t1)) (.s .z) rfl).at_ (SX.any rfl hw')))) (by kernel_rfl) ?_
      refine a_read rfl gn rfl (fun w' hw' => (y_loadN (l := (lVal v1)) rfl et u68 rfl size_68 ((CA.blk (hI.blk (.s .z)) rfl).at_ (SX.any rfl hw')))) (by kernel_rfl) ?_
      refine a_q rfl gn rfl (fun w' => (y_move rfl et)) ?_
      refine a_q rfl gn rfl (fun w' => (y_move rfl et)) ?_
      obtain ⟨e3, hx6, h⟩ := bnd_some h
      obtain ⟨ad2, cs2, hA2, hr2, hq2⟩ := hI.clat .z hx6
      obtain rfl : cs2 = (lVal e3) := hr2
      refine a_q rfl gn rfl (fun w' => (y_indexAddr rfl u39 size_68 et et (lat_bd hx6) hA2)) ?_
      refine a_read rfl gn rfl (fun w' hw' => (y_loadN (l := (lVal e3)) rfl et u68 rfl size_68 (hq2.at_ (SX.any rfl hw')))) (by kernel_rfl) ?_
      obtain ⟨r3, hx7, h⟩ := bnd_some h
      refine la_call rfl gn rfl (r_callF (vs := [(vi fold1)]) rfl ok_80 ⟨et, trivial⟩) (Calls.mono (c_ref04_Operator (Dj F c14) w15 hI.lt fold1 trivial r3 hx7) ?_)
      rintro _ w16 ⟨rfl, hx8, hl3⟩
      refine ⟨_, rfl, hx8, ?_⟩
      replace hI := (hI.ext hx8)
      obtain ⟨r4, hx9, h⟩ := bnd_some h
      refine la_call rfl gn rfl (r_callF (vs := [(vi r3), (Value.agg (AType t1)), (Value.agg (AVal v1)), (Value.agg (AVal e3))]) rfl ok_79 ⟨et, ⟨et, ⟨et, ⟨et, trivial⟩⟩⟩⟩) (Calls.mono (c_ref04_Apply (Dj F c14) w16 hI.lt r3 t1 v1 e3 trivial r4 hx9) ?_)
      rintro _ w17 ⟨rfl, hx10, hl4⟩
      refine ⟨_, rfl, hx10, ?_⟩
      replace hI := (hI.ext hx10)
      refine a_q rfl gn rfl (fun w' => (y_move rfl et)) ?_
      refine a_q rfl gn rfl (fun w' => (y_extract rfl et rfl)) ?_
      refine a_q rfl gn rfl (fun w' => (y_extract rfl et rfl)) ?_
      refine a_turn (F := F) (C := c14) rfl rfl ?_
      refine la_store (new := (lVal r4.1)) (cs' := (AVal r4.1)) hI (.s .z) rfl gn rfl rfl et et rfl size_68 rfl rfl rfl ?_
      clear hI; intro c15 w18 hI
      refine a_q rfl gn rfl (fun w' => (y_assign rfl et)) ?_
      refine a_nil ?_
      refine k_same (c_region rfl ?_)
      refine sm ?_
      refine sq (y_add rfl et ev_const) ?_
      refine sa ?_
      refine s_nil ?_
      exact k_loop (fuel1, r4.2, wi64 (i1 + 1), r4.1) ⟨rfl, rfl, rfl, rfl, rfl, rfl, rfl, trivial⟩ ⟨_, hI.arr (.c .z (.c .z .n)) ⟨.z, (.s .z), trivial⟩, h⟩ (Nat.lt_succ_self _)
     ·replace h := ite_f hb h
      refine c_exit ?_
      refine k_in ?_
      refine k_same (sr (sq (y_loadN (l := (lVal v1)) rfl et u68 rfl size_68 (CellsAt.of_blk (hI.blk (.s .z)) rfl)) ?_))
      refine sm ?_
      refine l_store (new := (lVal v1)) (cs' := (AVal v1)) hI .z gn rfl rfl et et rfl size_68 rfl rfl rfl ?_
      clear hI; intro c16 w19 hI
      refine sa ?_
      refine nk (c_ret ?_)
      obtain rfl := some_inj h
      exact q_ret (vs := [(Value.agg (AVal v1)), (vi e2)]) Tryz.results47 ⟨⟨_, ev_tmp rfl rfl, load_agg (l := (lVal v1)) u68 rfl size_68 (CellsAt.of_blk (hI.blk .z) rfl)⟩, ⟨ev_tmp rfl rfl, trivial⟩⟩ ⟨rfl, hI.ext0, hI.fin trivial⟩
   ·skip
    refine sr (sac ?_)
    refine nk (c_block (c_loop (α := Nat × Int) (fun x => fun w => ∃ C, Bun noM F w0 C w [MO.box b2 68 #[(vi 0), (vi 0)]] [Cl.sl cGVal a1 c1 l1, Cl.blk b1 38 (AType t1)] ∧ m_ref04_Reduce_l2 l1 t1 fold1 (x.1) (x.2) = some r) (fun x _ => x.1) (fun x => [(0, (vi fold1)), (2, (vs a1 l1.length c1)), (4, (vp b1 0)), (6, (vp b2 0)), (8, (vi (x.2)))]) (fu, 0) ⟨_, hI.arr (.c .z .n) ⟨(.s .z), .z, trivial⟩, h⟩ ⟨rfl, rfl, rfl, rfl, rfl, trivial⟩ ?_))
    clear h hI; rintro ⟨fuel2, i2⟩ w20 ⟨c17, hI, h⟩
    dsimp only at hI h
    rcases fuel2 with _ | fuel2
    ·rw [m_ref04_Reduce_l2] at h; cases h
    rw [m_ref04_Reduce_l2] at h
    refine c_sub (e := [(0, (vi fold1)), (2, (vs a1 l1.length c1)), (4, (vp b1 0)), (6, (vp b2 0)), (8, (vi i2))]) ⟨rfl, rfl, rfl, rfl, rfl, trivial⟩ ?_
    refine c_seq (sr (sm ?_))
    refine sm ?_
    refine sq (y_lenl rfl u39 et) ?_
    refine sq (y_lss rfl et et) ?_
    refine nk (c_cond (b := decide (i2 < (l1.length : Int))) et (fun hb => ?_) (fun hb => ?_))
    ·replace h := ite_t hb h
     refine c_skip (k_same (c_seq (c_block (c_seq (c_drawX [] false (.c (0, .q) (.c (1, .q) (.c (2, .q) (.c (3, .q) (.c (4, .q) (.c (5, .s) (.c (6, .q) .n))))))) hI (by kernel_rfl) (by kernel_rfl) ?_)))))
     clear hI; intro w21 hI
     refine a_read rfl gn rfl (fun w' hw' => (y_loadN (l := (lType t1)) rfl et u38 rfl size_38 ((hI.kblk (l := (lType t1)) (.s .z) rfl).at_ (SX.any rfl hw')))) (by kernel_rfl) ?_
     refine a_q rfl gn rfl (fun w' => (y_move rfl et)) ?_
     refine a_q rfl gn rfl (fun w' => (y_move rfl et)) ?_
     obtain ⟨e4, hx11, h⟩ := bnd_some h
     obtain ⟨ad3, cs3, hA3, hr3, hq3⟩ := hI.clat .z hx11
     obtain rfl : cs3 = (lVal e4) := hr3
     refine a_q rfl gn rfl (fun w' => (y_indexAddr rfl u39 size_68 et et (lat_bd hx11) hA3)) ?_
     refine a_read rfl gn rfl (fun w' hw' => (y_loadN (l := (lVal e4)) rfl et u68 rfl size_68 (hq3.at_ (SX.any rfl hw')))) (by kernel_rfl) ?_
     obtain ⟨r5, hx12, h⟩ := bnd_some h
     refine la_call rfl gn rfl (r_callF (vs := [(Value.agg (AType t1)), (Value.agg (AVal e4))]) rfl ok_59 ⟨et, ⟨et, trivial⟩⟩) (Calls.mono (c_base_Val (Dj F c17) w21 hI.lt t1 e4 trivial r5 hx12) ?_)
     rintro _ w22 ⟨rfl, hx13, hl5⟩
     refine ⟨_, rfl, hx13, ?_⟩
     replace hI := (hI.ext hx13)
     refine a_q rfl gn rfl (fun w' => (y_not rfl et)) ?_
     refine a_nil ?_
     refine k_same (c_cond (b := !r5) et (fun hb => ?_) (fun hb => ?_))
     ·replace h := ite_t hb h
      refine sr (sq (y_build (vs := []) (cs := #[(vi 0), (vi 0)]) rfl trivial (by kernel_rfl)) ?_)
      refine l_store (new := [(vi 0), (vi 0)]) (cs' := #[(vi 0), (vi 0)]) hI .z gn rfl rfl et et rfl size_68 rfl rfl rfl ?_
      clear hI; intro c18 w23 hI
      refine sac ?_
      refine nk (c_ret ?_)
      obtain rfl := some_inj h
      exact q_ret (vs := [(Value.agg #[(vi 0), (vi 0)]), (vi 1)]) Tryz.results47 ⟨⟨_, ev_tmp rfl rfl, load_agg (l := [(vi 0), (vi 0)]) u68 rfl size_68 (CellsAt.of_blk (hI.blk .z) rfl)⟩, ⟨ev_tmp rfl rfl, trivial⟩⟩ ⟨rfl, hI.ext0, hI.fin trivial⟩
     ·replace h := ite_f hb h
      refine c_skip (k_same (c_region rfl ?_))
      refine sm ?_
      refine sq (y_add rfl et ev_const) ?_
      refine sa ?_
      refine s_nil ?_
      exact k_loop (fuel2, wi64 (i2 + 1)) ⟨rfl, rfl, rfl, rfl, rfl, trivial⟩ ⟨_, hI.arr (.c .z .n) ⟨.z, (.s .z), trivial⟩, h⟩ (Nat.lt_succ_self _)
    ·replace h := ite_f hb h
     refine c_exit ?_
     refine k_in ?_
     exact k_join () ⟨rfl, rfl, rfl, rfl, trivial⟩ ⟨_, hI.arr (.c .z .n) ⟨.z, (.s .z), trivial⟩, h⟩ rfl

set_option maxRecDepth 100000 in
set_option maxHeartbeats 4000000 in
theorem c_ref53_AllReduce (F : NP) (w0 : World) (hF : ∀ k, F k → k < w0.heap.size) (m1 : GMesh) (l1 : List GTensor) (axis1 : Int) (fold1 : Int) (a1 : Option Addr) (c1 : Nat) (a2 : Option Addr) (c2 : Nat) (hc : AllCl [Cl.sl (cInt .i64) a1 c1 m1.Dims, Cl.sl cGTensor a2 c2 l1] F w0) (r : List GTensor × Int)
  (h : m_ref53_AllReduce m1 l1 axis1 fold1 = some r) :
  Calls Tryz.prog 17 #[(Value.agg #[(vs a1 m1.Dims.length c1)]), (vs a2 l1.length c2), (vi axis1), (vi fold1)] w0 fun e w => ∃ (a3 : Option Addr) (c3 : Nat), e = .returned (Value.tuple #[(vs a3 r.1.length c3), (vi r.2)]) ∧ Ext w0 w ∧ AllCl [Cl.sl cGTensor a3 c3 r.1] F w := by
 refine enterK (l := [(Value.agg #[(vs a1 m1.Dims.length c1)]), (vs a2 l1.length c2), (vi axis1), (vi fold1)]) Tryz.func17 rfl Tryz.ntmps17 rfl ?_
 have hI := Bun.start hF hc
 clear hc
 rw [m_ref53_AllReduce] at h
 refine sr (l_box (v := (Value.agg #[(vs a1 m1.Dims.length c1)])) (cs := #[(vs a1 m1.Dims.length c1)]) hI gn rfl rfl et rfl ?_)
 clear hI; intro b1 c4 w1 hI
 obtain ⟨c5, hI⟩ := hI.relBox .z
 refine sac ?_
 refine sac ?_
 refine nk (c_seq (sr (sq (y_loadN (l := [(vs a1 m1.Dims.length c1)]) rfl et u24 rfl size_24 (hI.kblk (l := [(vs a1 m1.Dims.length c1)]) .z rfl).1) ?_)))
 refine sm ?_
 obtain ⟨r1, hx1, h⟩ := bnd_some h
 refine s_call gn rfl (r_callF (vs := [(Value.agg #[(vs a1 m1.Dims.length c1)]), (vs a2 l1.length c2)]) rfl ok_20 ⟨et, ⟨et, trivial⟩⟩) (Calls.mono (c_ref53_Check (Dj F c5) w1 hI.lt m1 l1 a1 c1 a2 c2 ⟨(hI.get (.s .z)), (hI.get (.s (.s .z))), trivial⟩ r1 hx1) ?_)
 rintro _ w2 ⟨rfl, hx2, hl1⟩
 refine ⟨_, rfl, ?_⟩
 replace hI := (hI.ext hx2)
 refine sa ?_
 refine nk (sr (sm ?_))
 refine sq (y_neq rfl et ev_const) ?_
 refine nk (c_cond (b := !decide (r1 = 0)) et (fun hb => ?_) (fun hb => ?_))
 ·replace h := ite_t hb h
  refine sr (sm ?_)
  refine sac ?_
  refine sa ?_
  refine nk (c_ret ?_)
  have hI := hI.add (c := Cl.sl cGTensor none 0 ([] : List GTensor)) SlC.nil
  obtain rfl := some_inj h
  exact q_ret (vs := [(vs none 0 0), (vi r1)]) Tryz.results17 ⟨ev_tmp rfl rfl, ⟨ev_tmp rfl rfl, trivial⟩⟩ ⟨none, 0, rfl, hI.ext0, hI.fin ⟨.z, trivial⟩⟩
 ·replace h := ite_f hb h
  refine c_skip (k_same (c_seq (sr (sm ?_))))
  refine sq (y_lss rfl et ev_const) ?_
  refine sm ?_
  refine s_gval (g_false rfl rfl rfl rfl) rfl (fun hc => (y_move rfl et)) ?_
  refine s_gval (g_false rfl rfl rfl rfl) rfl (fun hc => (y_fieldAddr rfl et u24 rfl size_22 rfl)) ?_
  refine s_gval (g_false rfl rfl rfl rfl) rfl (fun hc => (y_load1 (v := (vs a1 m1.Dims.length c1)) rfl (ev_gv et hc) u22 rfl (hI.kblk (l := [(vs a1 m1.Dims.length c1)]) .z rfl).1)) ?_
  refine s_gval (g_false rfl rfl rfl rfl) rfl (fun hc => (y_lenl rfl u22 (ev_gv et hc))) ?_
  refine s_gval (g_false rfl rfl rfl rfl) rfl (fun hc => (y_geq rfl (ev_gv et hc) (ev_gv et hc))) ?_
  refine sq (y_or rfl et et) ?_
  refine nk (c_cond (b := (decide (axis1 < 0)) || (decide ((m1.Dims.length : Int) ≤ axis1))) et (fun hb => ?_) (fun hb => ?_))
  ·replace h := ite_t hb h
   refine sr (sac ?_)
   refine sac ?_
   refine nk (c_ret ?_)
   have hI := hI.add (c := Cl.sl cGTensor none 0 ([] : List GTensor)) SlC.nil
   obtain rfl := some_inj h
   exact q_ret (vs := [(vs none 0 0), (vi 23)]) Tryz.results17 ⟨ev_tmp rfl rfl, ⟨ev_tmp rfl rfl, trivial⟩⟩ ⟨none, 0, rfl, hI.ext0, hI.fin ⟨.z, trivial⟩⟩
  ·replace h := ite_f hb h
   refine c_skip (k_same (c_seq (sr (sm ?_))))
   refine sq (y_lss rfl et ev_const) ?_
   refine sm ?_
   refine s_gval (g_false rfl rfl rfl rfl) rfl (fun hc => (y_move rfl et)) ?_
   refine s_gval (g_false rfl rfl rfl rfl) rfl (fun hc => (y_gtr rfl (ev_gv et hc) ev_const)) ?_
   refine sq (y_or rfl et et) ?_
   refine nk (c_cond (b := (decide (fold1 < 1)) || (decide (4 < fold1))) et (fun hb => ?_) (fun hb => ?_))
   ·replace h := ite_t hb h
    refine sr (sac ?_)
    refine sac ?_
    refine s_nil ?_
    refine k_next (e := [(8, (vs none 0 0)), (9, (vi 1))]) ⟨rfl, rfl, trivial⟩ ?_
    refine c_ret ?_
    have hI := hI.add (c := Cl.sl cGTensor none 0 ([] : List GTensor)) SlC.nil
    obtain rfl := some_inj h
    exact q_ret (vs := [(vs none 0 0), (vi 1)]) Tryz.results17 ⟨ev_tmp rfl rfl, ⟨ev_tmp rfl rfl, trivial⟩⟩ ⟨none, 0, rfl, hI.ext0, hI.fin ⟨.z, trivial⟩⟩
   ·replace h := ite_f hb h
    refine c_skip (k_next (e := [(1, (vs a2 l1.length c2)), (2, (vi axis1)), (3, (vi fold1)), (4, (vp b1 0))]) ⟨rfl, rfl, rfl, rfl, trivial⟩ ?_)
    refine sr (sac ?_)
    refine nk (c_seq (sr (sac ?_)))
    refine nk (c_block ?_)
    have hI := hI.nil cGTensor 41 none
    refine c_loop (α := Nat × (List GTensor) × Int × (Option Addr) × Nat) (fun x => fun w => ∃ C, Bun noM F w0 C w [MO.row cGTensor 41 (x.2.2.2.1) (x.2.2.2.2) (x.2.1)] [Cl.sl cGTensor a2 c2 l1, Cl.blk b1 24 #[(vs a1 m1.Dims.length c1)], Cl.sl (cInt .i64) a1 c1 m1.Dims] ∧ m_ref53_AllReduce_l1 l1 m1 axis1 fold1 (x.1) (x.2.1) (x.2.2.1) = some r) (fun x _ => x.1) (fun x => [(1, (vs a2 l1.length c2)), (2, (vi axis1)), (3, (vi fold1)), (4, (vp b1 0)), (11, (vs (x.2.2.2.1) (x.2.1).length (x.2.2.2.2))), (12, (vi (x.2.2.1)))]) (fu, ([] : List GTensor), 0, none, 0) ⟨_, hI.arr (.c .z .n) ⟨(.s (.s .z)), .z, (.s .z), trivial⟩, h⟩ ⟨rfl, rfl, rfl, rfl, rfl, rfl, trivial⟩ ?_
    clear h hI; rintro ⟨fuel1, out1, i1, a4, c6⟩ w3 ⟨c7, hI, h⟩
    dsimp only at hI h
    rcases fuel1 with _ | fuel1
    ·rw [m_ref53_AllReduce_l1] at h; cases h
    rw [m_ref53_AllReduce_l1] at h
    refine c_sub (e := [(1, (vs a2 l1.length c2)), (2, (vi axis1)), (3, (vi fold1)), (4, (vp b1 0)), (11, (vs a4 out1.length c6)), (12, (vi i1))]) ⟨rfl, rfl, rfl, rfl, rfl, rfl, trivial⟩ ?_
    refine c_seq (sr (sm ?_))
    refine sm ?_
    refine sq (y_lenl rfl u25 et) ?_
    refine sq (y_lss rfl et et) ?_
    refine nk (c_cond (b := decide (i1 < (l1.length : Int))) et (fun hb => ?_) (fun hb => ?_))
    ·replace h := ite_t hb h
     refine c_skip (k_same (c_join (α := (List GTensor) × (Option Addr) × Nat) (fun _ => ⟨111, []⟩) (fun x => [(1, (vs a2 l1.length c2)), (2, (vi axis1)), (3, (vi fold1)), (4, (vp b1 0)), (11, (vs (x.2.1) (x.1).length (x.2.2))), (12, (vi i1))]) (fun x => fun w => ∃ C, Bun noM F w0 C w [MO.row cGTensor 41 (x.2.1) (x.2.2) (x.1)] [Cl.sl cGTensor a2 c2 l1, Cl.blk b1 24 #[(vs a1 m1.Dims.length c1)], Cl.sl (cInt .i64) a1 c1 m1.Dims] ∧ m_ref53_AllReduce_j1 (m_ref53_AllReduce_l1 l1 m1 axis1 fold1 fuel1) i1 (x.1) = some r) ?_ ?_))
     ·clear h hI; rintro ⟨out2, a5, c8⟩ w4 ⟨c9, hI, h⟩
      try dsimp only at hI h
      rw [m_ref53_AllReduce_j1] at h
      refine c_sub (e := [(1, (vs a2 l1.length c2)), (2, (vi axis1)), (3, (vi fold1)), (4, (vp b1 0)), (11, (vs a5 out2.length c8)), (12, (vi i1))]) ⟨rfl, rfl, rfl, rfl, rfl, rfl, trivial⟩ ?_
      refine c_region rfl ?_
      refine sm ?_
      refine sq (y_add rfl et ev_const) ?_
      refine sa ?_
      refine s_nil ?_
      exact k_loop (fuel1, out2, wi64 (i1 + 1), a5, c8) ⟨rfl, rfl, rfl, rfl, rfl, rfl, trivial⟩ ⟨_, hI.arr (.c .z .n) ⟨.z, (.s .z), (.s (.s .z)), trivial⟩, h⟩ (Nat.lt_succ_self _)
     ·skip
      refine c_block (sr (sq (y_loadN (l := [(vs a1 m1.Dims.length c1)]) rfl et u24 rfl size_24 (hI.kblk (l := [(vs a1 m1.Dims.length c1)]) (.s .z) rfl).1) ?_))
      refine sm ?_
      refine sm ?_
      obtain ⟨r2, hx3, h⟩ := bnd_some h
      refine s_call gn rfl (r_callF (vs := [(Value.agg #[(vs a1 m1.Dims.length c1)]), (vi axis1), (vi i1)]) rfl ok_36 ⟨et, ⟨et, ⟨et, trivial⟩⟩⟩) (Calls.mono (c_ref51_Group (Dj F c7) w3 hI.lt m1 axis1 i1 a1 c1 ⟨(hI.get (.s (.s .z))), trivial⟩ r2 hx3) ?_)
      rintro _ w5 ⟨a6, c10, rfl, hx4, hl2⟩
      refine ⟨_, rfl, ?_⟩
      replace hI := (hI.ext hx4).adds hl2
      refine sa ?_
      refine nk (c_seq (c_drawX [10] false (.c (0, .q) (.c (1, .q) (.c (2, .q) (.c (3, .q) (.c (4, .q) (.c (5, .q) (.c (6, .q) (.c (7, .q) (.c (8, .q) (.c (9, .s) (.c (10, .s) .n))))))))))) hI (by kernel_rfl) (by kernel_rfl) ?_))
      clear hI; intro w6 hI
      refine a_q rfl gn rfl (fun w' => (y_move rfl et)) ?_
      obtain ⟨e1, hx5, h⟩ := bnd_some h
      obtain ⟨ad1, cs1, hA1, hr1, hq1⟩ := hI.clat (.s .z) hx5
      obtain ⟨a7, c11, a8, c12, rfl, hf1, hf2⟩ := hr1
      have hI := hI.add (c := Cl.sl (cInt .i64) a7 c11 e1.Dims) hf1
      have hI := hI.add (c := Cl.sl cGVal a8 c12 e1.Vals) hf2
      refine a_q rfl gn rfl (fun w' => (y_indexAddr rfl u25 size_41 et ev_const (lat_bd hx5) hA1)) ?_
      refine a_q rfl gn rfl (fun w' => (y_fieldAddr rfl et u41 rfl size_38 rfl)) ?_
      refine a_read rfl gn rfl (fun w' hw' => (y_loadN (l := (lType e1.Type_)) rfl et u38 rfl size_38 ((CA.part hq1 rfl).at_ (SX.any rfl hw')))) (by kernel_rfl) ?_
      refine a_q rfl gn rfl (fun w' => (y_move rfl et)) ?_
      obtain ⟨e2, hx6, h⟩ := bnd_some h
      obtain ⟨ad2, cs2, hA2, hr2, hq2⟩ := hI.clat (.s (.s (.s .z))) hx6
      obtain ⟨a9, c13, a10, c14, rfl, hf3, hf4⟩ := hr2
      have hI := hI.add (c := Cl.sl (cInt .i64) a9 c13 e2.Dims) hf3
      have hI := hI.add (c := Cl.sl cGVal a10 c14 e2.Vals) hf4
      refine a_q rfl gn rfl (fun w' => (y_indexAddr rfl u25 size_41 et ev_const (lat_bd hx6) hA2)) ?_
      refine a_q rfl gn rfl (fun w' => (y_fieldAddr rfl et u41 rfl size_22 rfl)) ?_
      refine a_read rfl gn rfl (fun w' hw' => (y_load1 (v := (vs a9 e2.Dims.length c13)) rfl et u22 rfl ((CA.part hq2 rfl).at_ (SX.any rfl hw')))) (by kernel_rfl) ?_
      refine a_q rfl gn rfl (fun w' => (y_build (vs := [(0, (Value.agg (AType e1.Type_))), (1, (vs a9 e2.Dims.length c13))]) (cs := #[(vi e1.Type_.Kind), (vi e1.Type_.Bits), (vi e1.Type_.Frac), (vi e1.Type_.Round), (vi e1.Type_.Over), (vs a9 e2.Dims.length c13), (vs none 0 0)]) rfl ⟨rfl, et, ⟨rfl, et, trivial⟩⟩ (by kernel_rfl))) ?_
      refine la_alloc (cs := ZTensor) hI rfl gn rfl rfl zero_41 rfl ?_
      clear hI; intro b2 c15 w7 hI
      refine a_turn (F := F) (C := c15) rfl rfl ?_
      refine la_store (new := [(vi e1.Type_.Kind), (vi e1.Type_.Bits), (vi e1.Type_.Frac), (vi e1.Type_.Round), (vi e1.Type_.Over), (vs a9 e2.Dims.length c13), (vs none 0 0)]) (cs' := #[(vi e1.Type_.Kind), (vi e1.Type_.Bits), (vi e1.Type_.Frac), (vi e1.Type_.Round), (vi e1.Type_.Over), (vs a9 e2.Dims.length c13), (vs none 0 0)]) hI .z rfl gn rfl rfl et et rfl size_41 rfl rfl rfl ?_
      clear hI; intro c16 w8 hI
      refine a_nil ?_
      refine k_same (c_join (α := GTensor × (Option Addr) × Nat × (Option Addr) × Nat) (fun _ => ⟨111, []⟩) (fun x => [(1, (vs a2 l1.length c2)), (2, (vi axis1)), (3, (vi fold1)), (4, (vp b1 0)), (11, (vs a4 out1.length c6)), (12, (vi i1)), (14, (vp b2 0))]) (fun x => fun w => ∃ C, Bun noM F w0 C w [MO.row cGVal 68 (x.2.2.2.1) (x.2.2.2.2) (x.1).Vals, MO.row cGTensor 41 a4 c6 out1, MO.box b2 41 (ATensor (x.1) (x.2.1) (x.2.2.1) (x.2.2.2.1) (x.2.2.2.2))] [Cl.sl (cInt .i64) (x.2.1) (x.2.2.1) (x.1).Dims, Cl.sl cGTensor a2 c2 l1, Cl.blk b1 24 #[(vs a1 m1.Dims.length c1)], Cl.sl (cInt .i64) a1 c1 m1.Dims] ∧ m_ref53_AllReduce_j2 out1 (m_ref53_AllReduce_l1 l1 m1 axis1 fold1 fuel1) i1 (x.1) = some r) ?_ ?_)
      ·clear h hI; rintro ⟨t1, a11, c17, a12, c18⟩ w9 ⟨c19, hI, h⟩
       try dsimp only at hI h
       rw [m_ref53_AllReduce_j2] at h
       refine c_sub (e := [(1, (vs a2 l1.length c2)), (2, (vi axis1)), (3, (vi fold1)), (4, (vp b1 0)), (11, (vs a4 out1.length c6)), (12, (vi i1)), (14, (vp b2 0))]) ⟨rfl, rfl, rfl, rfl, rfl, rfl, rfl, trivial⟩ ?_
       refine c_region rfl ?_
       refine sm ?_
       refine sq (y_loadN (l := (lTensor t1 a11 c17 a12 c18)) rfl et u41 rfl size_41 (CellsAt.of_blk (hI.blk (.s (.s .z))) rfl)) ?_
       obtain ⟨c20, hI⟩ := hI.release .z
       refine l_lit (c := cGTensor) (xs := ([t1] : List GTensor)) (vs := [(0, (Value.agg (ATensor t1 a11 c17 a12 c18)))]) (cs := (ATensor t1 a11 c17 a12 c18)) (css := [(lTensor t1 a11 c17 a12 c18)]) hI gn rfl rfl u25 info_41 rfl ⟨rfl, et, trivial⟩ (by kernel_rfl) ⟨⟨a11, c17, a12, c18, rfl, hI.get (.s .z), hI.get .z⟩, trivial⟩ rfl rfl rfl ?_
       clear hI; intro b3 c21 w10 hI
       obtain ⟨zs1, hx7, h⟩ := bnd_some h
       refine l_append (xs := out1) (ys := ([t1] : List GTensor)) hI (.s .z) (hI.rd .z) hx7 gn rfl rfl u25 info_41 rfl rfl et et ?_
       clear hI; intro a13 c22 c23 w11 hI
       refine sa ?_
       refine s_nil ?_
       exact k_join (zs1, a13, c22) ⟨rfl, rfl, rfl, rfl, rfl, rfl, trivial⟩ ⟨_, hI.arr (.c (.s .z) .n) ⟨(.s (.s .z)), (.s (.s (.s .z))), (.s (.s (.s (.s .z)))), trivial⟩, h⟩ rfl
      ·skip
       refine sr (sac ?_)
       refine nk (c_block ?_)
       have hI := hI.nil cGVal 68 none
       refine c_loop (α := Nat × Int × GTensor × (Option Addr) × Nat × (Option Addr) × Nat) (fun x => fun w => ∃ C, Bun noM F w0 C w [MO.row cGVal 68 (x.2.2.2.2.2.1) (x.2.2.2.2.2.2) (x.2.2.1).Vals, MO.row cGTensor 41 a4 c6 out1, MO.box b2 41 (ATensor (x.2.2.1) (x.2.2.2.1) (x.2.2.2.2.1) (x.2.2.2.2.2.1) (x.2.2.2.2.2.2))] [Cl.sl (cInt .i64) (x.2.2.2.1) (x.2.2.2.2.1) (x.2.2.1).Dims, Cl.sl cGTensor a2 c2 l1, Cl.blk b1 24 #[(vs a1 m1.Dims.length c1)], Cl.sl (cInt .i64) a1 c1 m1.Dims, Cl.sl (cInt .i64) a6 c10 r2] ∧ m_ref53_AllReduce_l2 l1 r2 fold1 out1 (m_ref53_AllReduce_l1 l1 m1 axis1 fold1 fuel1) i1 (x.1) (x.2.1) (x.2.2.1) = some r) (fun x _ => x.1) (fun x => [(1, (vs a2 l1.length c2)), (2, (vi axis1)), (3, (vi fold1)), (4, (vp b1 0)), (11, (vs a4 out1.length c6)), (12, (vi i1)), (13, (vs a6 r2.length c10)), (14, (vp b2 0)), (15, (vi (x.2.1)))]) (fu, 0, (⟨e1.Type_, e2.Dims, ([] : List GVal)⟩ : GTensor), a9, c13, none, 0) ⟨_, hI.arr (.c .z (.c (.s .z) (.c .z .n))) ⟨(.s .z), (.s (.s (.s (.s (.s .z))))), (.s (.s (.s (.s (.s (.s .z)))))), (.s (.s (.s (.s (.s (.s (.s .z))))))), (.s (.s (.s (.s .z)))), trivial⟩, h⟩ ⟨rfl, rfl, rfl, rfl, rfl, rfl, rfl, rfl, rfl, trivial⟩ ?_
       clear h hI; rintro ⟨fuel2, n1, t2, a14, c24, a15, c25⟩ w12 ⟨c26, hI, h⟩
       dsimp only at hI h
       rcases fuel2 with _ | fuel2
       ·rw [m_ref53_AllReduce_l2] at h; cases h
       rw [m_ref53_AllReduce_l2] at h
       refine c_sub (e := [(1, (vs a2 l1.length c2)), (2, (vi axis1)), (3, (vi fold1)), (4, (vp b1 0)), (11, (vs a4 out1.length c6)), (12, (vi i1)), (13, (vs a6 r2.length c10)), (14, (vp b2 0)), (15, (vi n1))]) ⟨rfl, rfl, rfl, rfl, rfl, rfl, rfl, rfl, rfl, trivial⟩ ?_
       refine c_seq (sr (sm ?_))
       refine sm ?_
       obtain ⟨e3, hx8, h⟩ := bnd_some h
       obtain ⟨ad3, cs3, hA3, hr3, hq3⟩ := hI.clat (.s .z) hx8
       obtain ⟨a16, c27, a17, c28, rfl, hf5, hf6⟩ := hr3
       have hI := hI.add (c := Cl.sl (cInt .i64) a16 c27 e3.Dims) hf5
       have hI := hI.add (c := Cl.sl cGVal a17 c28 e3.Vals) hf6
       refine sq (y_indexAddr rfl u25 size_41 et ev_const (lat_bd hx8) hA3) ?_
       refine sq (y_fieldAddr rfl et u41 rfl size_39 rfl) ?_
       refine sq (y_load1 (v := (vs a17 e3.Vals.length c28)) rfl et u39 rfl (CA.part hq3 rfl).1) ?_
       refine sq (y_lenl rfl u39 et) ?_
       refine sq (y_lss rfl et et) ?_
       refine nk (c_cond (b := decide (n1 < (e3.Vals.length : Int))) et (fun hb => ?_) (fun hb => ?_))
       ·replace h := ite_t hb h
        refine c_skip (k_same (c_join (α := GTensor × (Option Addr) × Nat × (Option Addr) × Nat) (fun _ => ⟨111, []⟩) (fun x => [(1, (vs a2 l1.length c2)), (2, (vi axis1)), (3, (vi fold1)), (4, (vp b1 0)), (11, (vs a4 out1.length c6)), (12, (vi i1)), (13, (vs a6 r2.length c10)), (14, (vp b2 0)), (15, (vi n1))]) (fun x => fun w => ∃ C, Bun noM F w0 C w [MO.row cGVal 68 (x.2.2.2.1) (x.2.2.2.2) (x.1).Vals, MO.row cGTensor 41 a4 c6 out1, MO.box b2 41 (ATensor (x.1) (x.2.1) (x.2.2.1) (x.2.2.2.1) (x.2.2.2.2))] [Cl.sl (cInt .i64) (x.2.1) (x.2.2.1) (x.1).Dims, Cl.sl cGTensor a2 c2 l1, Cl.blk b1 24 #[(vs a1 m1.Dims.length c1)], Cl.sl (cInt .i64) a1 c1 m1.Dims, Cl.sl (cInt .i64) a6 c10 r2] ∧ m_ref53_AllReduce_j3 (m_ref53_AllReduce_l2 l1 r2 fold1 out1 (m_ref53_AllReduce_l1 l1 m1 axis1 fold1 fuel1) i1 fuel2) n1 (x.1) = some r) ?_ ?_))
        ·clear h hI; rintro ⟨t3, a18, c29, a19, c30⟩ w13 ⟨c31, hI, h⟩
         try dsimp only at hI h
         rw [m_ref53_AllReduce_j3] at h
         refine c_sub (e := [(1, (vs a2 l1.length c2)), (2, (vi axis1)), (3, (vi fold1)), (4, (vp b1 0)), (11, (vs a4 out1.length c6)), (12, (vi i1)), (13, (vs a6 r2.length c10)), (14, (vp b2 0)), (15, (vi n1))]) ⟨rfl, rfl, rfl, rfl, rfl, rfl, rfl, rfl, rfl, trivial⟩ ?_
         refine c_region rfl ?_
         refine sm ?_
         refine sq (y_add rfl et ev_const) ?_
         refine sa ?_
         refine s_nil ?_
         exact k_loop (fuel2, wi64 (n1 + 1), t3, a18, c29, a19, c30) ⟨rfl, rfl, rfl, rfl, rfl, rfl, rfl, rfl, rfl, trivial⟩ ⟨_, hI.arr (.c .z (.c .z (.c .z .n))) ⟨.z, (.s .z), (.s (.s .z)), (.s (.s (.s .z))), (.s (.s (.s (.s .z)))), trivial⟩, h⟩ (Nat.lt_succ_self _)
        ·skip
         refine c_block (sr (sac ?_))
         refine nk (c_join (α := (List GVal) × (Option Addr) × Nat) (fun _ => ⟨111, []⟩) (fun x => [(1, (vs a2 l1.length c2)), (2, (vi axis1)), (3, (vi fold1)), (4, (vp b1 0)), (11, (vs a4 out1.length c6)), (12, (vi i1)), (13, (vs a6 r2.length c10)), (14, (vp b2 0)), (15, (vi n1)), (16, (vs (x.2.1) (x.1).length (x.2.2)))]) (fun x => fun w => ∃ C, Bun noM F w0 C w [MO.row cGVal 68 (x.2.1) (x.2.2) (x.1), MO.row cGTensor 41 a4 c6 out1, MO.box b2 41 (ATensor t2 a14 c24 a15 c25), MO.row cGVal 68 a15 c25 t2.Vals] [Cl.sl cGTensor a2 c2 l1, Cl.blk b1 24 #[(vs a1 m1.Dims.length c1)], Cl.sl (cInt .i64) a1 c1 m1.Dims, Cl.sl (cInt .i64) a6 c10 r2, Cl.sl (cInt .i64) a14 c24 t2.Dims] ∧ m_ref53_AllReduce_j4 fold1 t2 (m_ref53_AllReduce_l2 l1 r2 fold1 out1 (m_ref53_AllReduce_l1 l1 m1 axis1 fold1 fuel1) i1 fuel2) n1 (x.1) = some r) ?_ ?_)
         ·clear h hI; rintro ⟨vals1, a20, c32⟩ w14 ⟨c33, hI, h⟩
          try dsimp only at hI h
          rw [m_ref53_AllReduce_j4] at h
          refine c_sub (e := [(1, (vs a2 l1.length c2)), (2, (vi axis1)), (3, (vi fold1)), (4, (vp b1 0)), (11, (vs a4 out1.length c6)), (12, (vi i1)), (13, (vs a6 r2.length c10)), (14, (vp b2 0)), (15, (vi n1)), (16, (vs a20 vals1.length c32))]) ⟨rfl, rfl, rfl, rfl, rfl, rfl, rfl, rfl, rfl, rfl, trivial⟩ ?_
          refine sr (sm ?_)
          refine sq (y_fieldAddr rfl et u41 rfl size_38 rfl) ?_
          refine sq (y_loadN (l := (lType t2.Type_)) rfl et u38 rfl size_38 (CellsAt.of_blk (hI.blk (.s (.s .z))) rfl)) ?_
          refine sm ?_
          obtain ⟨r3, hx9, h⟩ := bnd_some h
          refine s_call gn rfl (r_callF (vs := [(vi fold1), (Value.agg (AType t2.Type_)), (vs a20 vals1.length c32)]) rfl ok_47 ⟨et, ⟨et, ⟨et, trivial⟩⟩⟩) (Calls.mono (c_ref04_Reduce noM w14 (fun _ k => k.elim) fold1 t2.Type_ vals1 a20 c32 ⟨hI.lend .z, trivial⟩ r3 hx9) ?_)
          rintro _ w15 ⟨rfl, hx10, hl3⟩
          refine ⟨_, rfl, ?_⟩
          replace hI := (hI.ext hx10)
          refine sm ?_
          refine sq (y_extract rfl et rfl) ?_
          refine sq (y_extract rfl et rfl) ?_
          refine l_alloc (cs := #[(vi 0), (vi 0)]) hI gn rfl rfl zero_68 rfl ?_
          clear hI; intro b4 c34 w16 hI
          refine l_store (new := (lVal r3.1)) (cs' := (AVal r3.1)) hI .z gn rfl rfl et et rfl size_68 rfl rfl rfl ?_
          clear hI; intro c35 w17 hI
          refine sa ?_
          refine nk (c_seq (sr (sm ?_)))
          refine sq (y_neq rfl et ev_const) ?_
          refine nk (c_cond (b := !decide (r3.2 = 0)) et (fun hb => ?_) (fun hb => ?_))
          ·replace h := ite_t hb h
           refine sr (sm ?_)
           refine sac ?_
           refine sa ?_
           refine nk (c_ret ?_)
           have hI := hI.add (c := Cl.sl cGTensor none 0 ([] : List GTensor)) SlC.nil
           obtain rfl := some_inj h
           exact q_ret (vs := [(vs none 0 0), (vi r3.2)]) Tryz.results17 ⟨ev_tmp rfl rfl, ⟨ev_tmp rfl rfl, trivial⟩⟩ ⟨none, 0, rfl, hI.ext0, hI.fin ⟨.z, trivial⟩⟩
          ·replace h := ite_f hb h
           refine c_skip (k_same (c_region rfl ?_))
           refine sq (y_fieldAddr rfl et u41 rfl size_39 rfl) ?_
           refine sq (y_load1 (v := (vs a15 t2.Vals.length c25)) rfl et u39 rfl (CellsAt.of_blk (hI.blk (.s (.s (.s .z)))) rfl)) ?_
           refine sq (y_loadN (l := (lVal r3.1)) rfl et u68 rfl size_68 (CellsAt.of_blk (hI.blk .z) rfl)) ?_
           refine l_lit (c := cGVal) (xs := ([r3.1] : List GVal)) (vs := [(0, (Value.agg (AVal r3.1)))]) (cs := (AVal r3.1)) (css := [(lVal r3.1)]) hI gn rfl rfl u39 info_68 rfl ⟨rfl, et, trivial⟩ (by kernel_rfl) ⟨rfl, trivial⟩ rfl rfl rfl ?_
           clear hI; intro b5 c36 w18 hI
           obtain ⟨zs2, hx11, h⟩ := bnd_some h
           refine l_append (xs := t2.Vals) (ys := ([r3.1] : List GVal)) hI (.s (.s (.s (.s (.s .z))))) (hI.rd .z) hx11 gn rfl rfl u39 info_68 rfl rfl et et ?_
           clear hI; intro a21 c37 c38 w19 hI
           refine sq (y_fieldAddr rfl et u41 rfl size_39 rfl) ?_
           refine l_store (new := [(vs a21 zs2.length c37)]) (cs' := #[(vi t2.Type_.Kind), (vi t2.Type_.Bits), (vi t2.Type_.Frac), (vi t2.Type_.Round), (vi t2.Type_.Over), (vs a14 t2.Dims.length c24), (vs a21 zs2.length c37)]) hI (.s (.s (.s (.s .z)))) gn rfl rfl et et rfl size_39 rfl rfl rfl ?_
           clear hI; intro c39 w20 hI
           refine s_nil ?_
           exact k_join ((⟨t2.Type_, t2.Dims, zs2⟩ : GTensor), a14, c24, a21, c37) ⟨rfl, rfl, rfl, rfl, rfl, rfl, rfl, rfl, rfl, trivial⟩ ⟨_, hI.arr (.c (.s (.s (.s (.s (.s .z))))) (.c (.s (.s (.s .z))) (.c (.s (.s (.s .z))) .n))) ⟨(.s (.s (.s (.s .z)))), .z, (.s .z), (.s (.s .z)), (.s (.s (.s .z))), trivial⟩, h⟩ rfl
         ·skip
          refine sr (sac ?_)
          refine nk (c_block ?_)
          have hI := hI.nil cGVal 68 none
          refine c_loop (α := Nat × (List GVal) × Int × (Option Addr) × Nat) (fun x => fun w => ∃ C, Bun noM F w0 C w [MO.row cGVal 68 (x.2.2.2.1) (x.2.2.2.2) (x.2.1), MO.row cGTensor 41 a4 c6 out1, MO.box b2 41 (ATensor t2 a14 c24 a15 c25), MO.row cGVal 68 a15 c25 t2.Vals] [Cl.sl cGTensor a2 c2 l1, Cl.blk b1 24 #[(vs a1 m1.Dims.length c1)], Cl.sl (cInt .i64) a1 c1 m1.Dims, Cl.sl (cInt .i64) a6 c10 r2, Cl.sl (cInt .i64) a14 c24 t2.Dims] ∧ m_ref53_AllReduce_l3 r2 l1 n1 fold1 t2 (m_ref53_AllReduce_l2 l1 r2 fold1 out1 (m_ref53_AllReduce_l1 l1 m1 axis1 fold1 fuel1) i1 fuel2) (x.1) (x.2.1) (x.2.2.1) = some r) (fun x _ => x.1) (fun x => [(1, (vs a2 l1.length c2)), (2, (vi axis1)), (3, (vi fold1)), (4, (vp b1 0)), (11, (vs a4 out1.length c6)), (12, (vi i1)), (13, (vs a6 r2.length c10)), (14, (vp b2 0)), (15, (vi n1)), (16, (vs (x.2.2.2.1) (x.2.1).length (x.2.2.2.2))), (17, (vi (x.2.2.1)))]) (fu, ([] : List GVal), 0, none, 0) ⟨_, hI.arr (.c .z (.c (.s .z) (.c (.s .z) (.c .z .n)))) ⟨(.s (.s (.s .z))), (.s (.s (.s (.s .z)))), (.s (.s (.s (.s (.s .z))))), (.s (.s (.s (.s (.s (.s .z)))))), (.s (.s .z)), trivial⟩, h⟩ ⟨rfl, rfl, rfl, rfl, rfl, rfl, rfl, rfl, rfl, rfl, rfl, trivial⟩ ?_
          clear h hI; rintro ⟨fuel3, vals2, k1, a22, c40⟩ w21 ⟨c41, hI, h⟩
          dsimp only at hI h
          rcases fuel3 with _ | fuel3
          ·rw [m_ref53_AllReduce_l3] at h; cases h
          rw [m_ref53_AllReduce_l3] at h
          refine c_sub (e := [(1, (vs a2 l1.length c2)), (2, (vi axis1)), (3, (vi fold1)), (4, (vp b1 0)), (11, (vs a4 out1.length c6)), (12, (vi i1)), (13, (vs a6 r2.length c10)), (14, (vp b2 0)), (15, (vi n1)), (16, (vs a22 vals2.length c40)), (17, (vi k1))]) ⟨rfl, rfl, rfl, rfl, rfl, rfl, rfl, rfl, rfl, rfl, rfl, trivial⟩ ?_
          refine c_seq (sr (sm ?_))
          refine sm ?_
          refine sq (y_lenl rfl u22 et) ?_
          refine sq (y_lss rfl et et) ?_
          refine nk (c_cond (b := decide (k1 < (r2.length : Int))) et (fun hb => ?_) (fun hb => ?_))
          ·replace h := ite_t hb h
           refine c_skip (k_same (c_seq (c_block (c_region rfl ?_))))
           refine sm ?_
           refine sm ?_
           refine sm ?_
           refine sm ?_
           obtain ⟨e4, hx12, h⟩ := bnd_some h
           obtain ⟨ad4, cs4, hA4, hr4, hq4⟩ := hI.clat (.s (.s (.s .z))) hx12
           obtain rfl : cs4 = [(vi e4)] := hr4
           refine sq (y_indexAddr rfl u22 size_3 et et (lat_bd hx12) hA4) ?_
           refine sq (y_load1 (v := (vi e4)) rfl et u3 rfl hq4.1) ?_
           obtain ⟨e5, hx13, h⟩ := bnd_some h
           obtain ⟨ad5, cs5, hA5, hr5, hq5⟩ := hI.clat .z hx13
           obtain ⟨a23, c42, a24, c43, rfl, hf7, hf8⟩ := hr5
           have hI := hI.add (c := Cl.sl (cInt .i64) a23 c42 e5.Dims) hf7
           have hI := hI.add (c := Cl.sl cGVal a24 c43 e5.Vals) hf8
           refine sq (y_indexAddr rfl u25 size_41 et et (lat_bd hx13) hA5) ?_
           refine sq (y_fieldAddr rfl et u41 rfl size_39 rfl) ?_
           refine sq (y_load1 (v := (vs a24 e5.Vals.length c43)) rfl et u39 rfl (CA.part hq5 rfl).1) ?_
           refine sm ?_
           obtain ⟨e6, hx14, h⟩ := bnd_some h
           obtain ⟨ad6, cs6, hA6, hr6, hq6⟩ := hI.clat .z hx14
           obtain rfl : cs6 = (lVal e6) := hr6
           refine sq (y_indexAddr rfl u39 size_68 et et (lat_bd hx14) hA6) ?_
           refine sq (y_loadN (l := (lVal e6)) rfl et u68 rfl size_68 hq6.1) ?_
           refine l_lit (c := cGVal) (xs := ([e6] : List GVal)) (vs := [(0, (Value.agg (AVal e6)))]) (cs := (AVal e6)) (css := [(lVal e6)]) hI gn rfl rfl u39 info_68 rfl ⟨rfl, et, trivial⟩ (by kernel_rfl) ⟨rfl, trivial⟩ rfl rfl rfl ?_
           clear hI; intro b6 c44 w22 hI
           obtain ⟨zs3, hx15, h⟩ := bnd_some h
           refine l_append (xs := vals2) (ys := ([e6] : List GVal)) hI (.s .z) (hI.rd .z) hx15 gn rfl rfl u39 info_68 rfl rfl et et ?_
           clear hI; intro a25 c45 c46 w23 hI
           refine sa ?_
           refine nk (c_region rfl ?_)
           refine sm ?_
           refine sq (y_add rfl et ev_const) ?_
           refine sa ?_
           refine s_nil ?_
           exact k_loop (fuel3, zs3, wi64 (k1 + 1), a25, c45) ⟨rfl, rfl, rfl, rfl, rfl, rfl, rfl, rfl, rfl, rfl, rfl, trivial⟩ ⟨_, hI.arr (.c (.s .z) (.c (.s .z) (.c (.s .z) (.c (.s .z) .n)))) ⟨(.s (.s .z)), (.s (.s (.s .z))), (.s (.s (.s (.s .z)))), (.s (.s (.s (.s (.s .z))))), (.s (.s (.s (.s (.s (.s .z)))))), trivial⟩, h⟩ (Nat.lt_succ_self _)
          ·replace h := ite_f hb h
           refine c_exit ?_
           refine k_in ?_
           exact k_join (vals2, a22, c40) ⟨rfl, rfl, rfl, rfl, rfl, rfl, rfl, rfl, rfl, rfl, trivial⟩ ⟨_, hI.arr (.c .z (.c .z (.c .z (.c .z .n)))) ⟨.z, (.s .z), (.s (.s .z)), (.s (.s (.s .z))), (.s (.s (.s (.s .z)))), trivial⟩, h⟩ rfl
       ·replace h := ite_f hb h
        refine c_exit ?_
        refine k_in ?_
        exact k_join (t2, a14, c24, a15, c25) ⟨rfl, rfl, rfl, rfl, rfl, rfl, rfl, trivial⟩ ⟨_, hI.arr (.c .z (.c .z (.c .z .n))) ⟨(.s (.s .z)), (.s (.s (.s .z))), (.s (.s (.s (.s .z)))), (.s (.s (.s (.s (.s .z))))), trivial⟩, h⟩ rfl
    ·replace h := ite_f hb h
     refine c_exit ?_
     refine k_in ?_
     refine k_same (sr (sm ?_))
     refine sa ?_
     refine sac ?_
     refine nk (c_ret ?_)
     obtain ⟨c47, hI⟩ := hI.release .z
     obtain rfl := some_inj h
     exact q_ret (vs := [(vs a4 out1.length c6), (vi 0)]) Tryz.results17 ⟨ev_tmp rfl rfl, ⟨ev_tmp rfl rfl, trivial⟩⟩ ⟨a4, c6, rfl, hI.ext0, hI.fin ⟨.z, trivial⟩⟩

set_option maxRecDepth 100000 in
set_option maxHeartbeats 4000000 in
theorem c_ref53_ReduceScatter (F : NP) (w0 : World) (hF : ∀ k, F k → k < w0.heap.size) (m1 : GMesh) (l1 : List GTensor) (axis1 : Int) (along1 : Int) (fold1 : Int) (a1 : Option Addr) (c1 : Nat) (a2 : Option Addr) (c2 : Nat) (hc : AllCl [Cl.sl (cInt .i64) a1 c1 m1.Dims, Cl.sl cGTensor a2 c2 l1] F w0) (r : List GTensor × Int)
  (h : m_ref53_ReduceScatter m1 l1 axis1 along1 fold1 = some r) :
  Calls Tryz.prog 19 #[(Value.agg #[(vs a1 m1.Dims.length c1)]), (vs a2 l1.length c2), (vi axis1), (vi along1), (vi fold1)] w0 fun e w => ∃ (a3 : Option Addr) (c3 : Nat), e = .returned (Value.tuple #[(vs a3 r.1.length c3), (vi r.2)]) ∧ Ext w0 w ∧ AllCl [Cl.sl cGTensor a3 c3 r.1] F w := by
 refine enterK (l := [(Value.agg #[(vs a1 m1.Dims.length c1)]), (vs a2 l1.length c2), (vi axis1), (vi along1), (vi fold1)]) Tryz.func19 rfl Tryz.ntmps19 rfl ?_
 have hI := Bun.start hF hc
 clear hc
 rw [m_ref53_ReduceScatter] at h
 refine sr (l_box (v := (Value.agg #[(vs a1 m1.Dims.length c1)])) (cs := #[(vs a1 m1.Dims.length c1)]) hI gn rfl rfl et rfl ?_)
 clear hI; intro b1 c4 w1 hI
 obtain ⟨c5, hI⟩ := hI.relBox .z
 refine sac ?_
 refine sac ?_
 refine nk (sr (sq (y_loadN (l := [(vs a1 m1.Dims.length c1)]) rfl et u24 rfl size_24 (hI.kblk (l := [(vs a1 m1.Dims.length c1)]) .z rfl).1) ?_))
 refine sm ?_
 refine sm ?_
 refine sm ?_
 obtain ⟨r1, hx1, h⟩ := bnd_some h
 refine s_call gn rfl (r_callF (vs := [(Value.agg #[(vs a1 m1.Dims.length c1)]), (vs a2 l1.length c2), (vi axis1), (vi fold1)]) rfl ok_17 ⟨et, ⟨et, ⟨et, ⟨et, trivial⟩⟩⟩⟩) (Calls.mono (c_ref53_AllReduce (Dj F c5) w1 hI.lt m1 l1 axis1 fold1 a1 c1 a2 c2 ⟨(hI.get (.s .z)), (hI.get (.s (.s .z))), trivial⟩ r1 hx1) ?_)
 rintro _ w2 ⟨a4, c6, rfl, hx2, hl1⟩
 refine ⟨_, rfl, ?_⟩
 replace hI := (hI.ext hx2).adds hl1
 refine sm ?_
 refine sq (y_extract rfl et rfl) ?_
 refine sq (y_extract rfl et rfl) ?_
 refine sa ?_
 refine sa ?_
 refine nk (c_seq (sr (sm ?_)))
 refine sq (y_neq rfl et ev_const) ?_
 refine nk (c_cond (b := !decide (r1.2 = 0)) et (fun hb => ?_) (fun hb => ?_))
 ·replace h := ite_t hb h
  refine sr (sm ?_)
  refine sac ?_
  refine sa ?_
  refine nk (c_ret ?_)
  have hI := hI.add (c := Cl.sl cGTensor none 0 ([] : List GTensor)) SlC.nil
  obtain rfl := some_inj h
  exact q_ret (vs := [(vs none 0 0), (vi r1.2)]) Tryz.results19 ⟨ev_tmp rfl rfl, ⟨ev_tmp rfl rfl, trivial⟩⟩ ⟨none, 0, rfl, hI.ext0, hI.fin ⟨.z, trivial⟩⟩
 ·replace h := ite_f hb h
  refine c_skip (k_same (sr (sq (y_loadN (l := [(vs a1 m1.Dims.length c1)]) rfl et u24 rfl size_24 (hI.kblk (l := [(vs a1 m1.Dims.length c1)]) (.s .z) rfl).1) ?_)))
  refine sm ?_
  refine sm ?_
  refine sm ?_
  obtain ⟨r2, hx3, h⟩ := bnd_some h
  refine s_call gn rfl (r_callF (vs := [(Value.agg #[(vs a1 m1.Dims.length c1)]), (vs a4 r1.1.length c6), (vi axis1), (vi along1)]) rfl ok_14 ⟨et, ⟨et, ⟨et, ⟨et, trivial⟩⟩⟩⟩) (Calls.mono (c_ref53_SliceLocal (Dj F c5) w2 hI.lt m1 r1.1 axis1 along1 a1 c1 a4 c6 ⟨(hI.get (.s (.s .z))), (hI.get .z), trivial⟩ r2 hx3) ?_)
  rintro _ w3 ⟨a5, c7, rfl, hx4, hl2⟩
  refine ⟨_, rfl, ?_⟩
  replace hI := (hI.ext hx4).adds hl2
  refine sq (y_extract rfl et rfl) ?_
  refine sq (y_extract rfl et rfl) ?_
  refine sa ?_
  refine sa ?_
  refine s_nil ?_
  refine k_next (e := [(10, (vs a5 r2.1.length c7)), (11, (vi r2.2))]) ⟨rfl, rfl, trivial⟩ ?_
  refine c_ret ?_
  obtain rfl := some_inj h
  exact q_ret (vs := [(vs a5 r2.1.length c7), (vi r2.2)]) Tryz.results19 ⟨ev_tmp rfl rfl, ⟨ev_tmp rfl rfl, trivial⟩⟩ ⟨a5, c7, rfl, hI.ext0, hI.fin ⟨.z, trivial⟩⟩

set_option maxRecDepth 100000 in
set_option maxHeartbeats 4000000 in
theorem c_law53_CollectiveReduces (F : NP) (w0 : World) (hF : ∀ k, F k → k < w0.heap.size) (m1 : GMesh) (l1 : List GTensor) (axis1 : Int) (along1 : Int) (fold1 : Int) (a1 : Option Addr) (c1 : Nat) (a2 : Option Addr) (c2 : Nat) (hc : AllCl [Cl.sl (cInt .i64) a1 c1 m1.Dims, Cl.sl cGTensor a2 c2 l1] F w0) (r : Bool)
  (h : m_law53_CollectiveReduces m1 l1 axis1 along1 fold1 = some r) :
  Calls Tryz.prog 4 #[(Value.agg #[(vs a1 m1.Dims.length c1)]), (vs a2 l1.length c2), (vi axis1), (vi along1), (vi fold1)] w0 fun e w => e = .returned (vb r) ∧ Ext w0 w ∧ AllCl [] F w := by
 refine enterK (l := [(Value.agg #[(vs a1 m1.Dims.length c1)]), (vs a2 l1.length c2), (vi axis1), (vi along1), (vi fold1)]) Tryz.func4 rfl Tryz.ntmps4 rfl ?_
 have hI := Bun.start hF hc
 clear hc
 rw [m_law53_CollectiveReduces] at h
 refine sr (l_box (v := (Value.agg #[(vs a1 m1.Dims.length c1)])) (cs := #[(vs a1 m1.Dims.length c1)]) hI gn rfl rfl et rfl ?_)
 clear hI; intro b1 c3 w1 hI
 obtain ⟨c4, hI⟩ := hI.relBox .z
 refine sac ?_
 refine nk (c_seq (sr (sq (y_loadN (l := [(vs a1 m1.Dims.length c1)]) rfl et u24 rfl size_24 (hI.kblk (l := [(vs a1 m1.Dims.length c1)]) .z rfl).1) ?_)))
 refine sm ?_
 obtain ⟨r1, hx1, h⟩ := bnd_some h
 refine s_call gn rfl (r_callF (vs := [(Value.agg #[(vs a1 m1.Dims.length c1)]), (vs a2 l1.length c2)]) rfl ok_9 ⟨et, ⟨et, trivial⟩⟩) (Calls.mono (c_law53_small (Dj F c4) w1 hI.lt m1 l1 a1 c1 a2 c2 ⟨(hI.get (.s .z)), (hI.get (.s (.s .z))), trivial⟩ r1 hx1) ?_)
 rintro _ w2 ⟨rfl, hx2, hl1⟩
 refine ⟨_, rfl, ?_⟩
 replace hI := (hI.ext hx2)
 refine sq (y_not rfl et) ?_
 refine nk (c_cond (b := !r1) et (fun hb => ?_) (fun hb => ?_))
 ·replace h := ite_t hb h
  refine sr ?_
  obtain ⟨r2, hx3, h⟩ := bnd_some h
  refine s_call gn rfl (r_callF (vs := []) rfl ok_10 trivial) (Calls.mono (c_law53_examples (Dj F c4) w2 hI.lt trivial r2 hx3) ?_)
  rintro _ w3 ⟨rfl, hx4, hl2⟩
  refine ⟨_, rfl, ?_⟩
  replace hI := (hI.ext hx4)
  refine sa ?_
  refine nk (c_ret ?_)
  obtain rfl := some_inj h
  exact q_ret (vs := [(vb r2)]) Tryz.results4 ⟨ev_tmp rfl rfl, trivial⟩ ⟨rfl, hI.ext0, hI.fin trivial⟩
 ·replace h := ite_f hb h
  refine c_skip (k_same (sr (sq (y_loadN (l := [(vs a1 m1.Dims.length c1)]) rfl et u24 rfl size_24 (hI.kblk (l := [(vs a1 m1.Dims.length c1)]) .z rfl).1) ?_)))
  refine sm ?_
  refine sm ?_
  refine sm ?_
  obtain ⟨r3, hx5, h⟩ := bnd_some h
  refine s_call gn rfl (r_callF (vs := [(Value.agg #[(vs a1 m1.Dims.length c1)]), (vs a2 l1.length c2), (vi axis1), (vi fold1)]) rfl ok_16 ⟨et, ⟨et, ⟨et, ⟨et, trivial⟩⟩⟩⟩) (Calls.mono (c_collective_AllReduce (Dj F c4) w2 hI.lt m1 l1 axis1 fold1 a1 c1 a2 c2 ⟨(hI.get (.s .z)), (hI.get (.s (.s .z))), trivial⟩ r3 hx5) ?_)
  rintro _ w4 ⟨a3, c5, rfl, hx6, hl3⟩
  refine ⟨_, rfl, ?_⟩
  replace hI := (hI.ext hx6).adds hl3
  refine sm ?_
  refine sq (y_extract rfl et rfl) ?_
  refine sq (y_extract rfl et rfl) ?_
  refine sa ?_
  refine sa ?_
  refine nk (sr (sq (y_loadN (l := [(vs a1 m1.Dims.length c1)]) rfl et u24 rfl size_24 (hI.kblk (l := [(vs a1 m1.Dims.length c1)]) (.s .z) rfl).1) ?_))
  refine sm ?_
  refine sm ?_
  refine sm ?_
  obtain ⟨r4, hx7, h⟩ := bnd_some h
  refine s_call gn rfl (r_callF (vs := [(Value.agg #[(vs a1 m1.Dims.length c1)]), (vs a2 l1.length c2), (vi axis1), (vi fold1)]) rfl ok_17 ⟨et, ⟨et, ⟨et, ⟨et, trivial⟩⟩⟩⟩) (Calls.mono (c_ref53_AllReduce (Dj F c4) w4 hI.lt m1 l1 axis1 fold1 a1 c1 a2 c2 ⟨(hI.get (.s (.s .z))), (hI.get (.s (.s (.s .z)))), trivial⟩ r4 hx7) ?_)
  rintro _ w5 ⟨a4, c6, rfl, hx8, hl4⟩
  refine ⟨_, rfl, ?_⟩
  replace hI := (hI.ext hx8).adds hl4
  refine sm ?_
  refine sq (y_extract rfl et rfl) ?_
  refine sq (y_extract rfl et rfl) ?_
  refine sa ?_
  refine sa ?_
  refine nk (sr (sq (y_loadN (l := [(vs a1 m1.Dims.length c1)]) rfl et u24 rfl size_24 (hI.kblk (l := [(vs a1 m1.Dims.length c1)]) (.s (.s .z)) rfl).1) ?_))
  refine sm ?_
  refine sm ?_
  refine sm ?_
  refine sm ?_
  obtain ⟨r5, hx9, h⟩ := bnd_some h
  refine s_call gn rfl (r_callF (vs := [(Value.agg #[(vs a1 m1.Dims.length c1)]), (vs a2 l1.length c2), (vi axis1), (vi along1), (vi fold1)]) rfl ok_18 ⟨et, ⟨et, ⟨et, ⟨et, ⟨et, trivial⟩⟩⟩⟩⟩) (Calls.mono (c_collective_ReduceScatter (Dj F c4) w5 hI.lt m1 l1 axis1 along1 fold1 a1 c1 a2 c2 ⟨(hI.get (.s (.s (.s .z)))), (hI.get (.s (.s (.s (.s .z))))), trivial⟩ r5 hx9) ?_)
  rintro _ w6 ⟨a5, c7, rfl, hx10, hl5⟩
  refine ⟨_, rfl, ?_⟩
  replace hI := (hI.ext hx10).adds hl5
  refine sm ?_
  refine sq (y_extract rfl et rfl) ?_
  refine sq (y_extract rfl et rfl) ?_
  refine sa ?_
  refine sa ?_
  refine s_nil ?_
  refine k_next (e := [(1, (vs a2 l1.length c2)), (2, (vi axis1)), (3, (vi along1)), (4, (vi fold1)), (5, (vp b1 0)), (11, (vs a3 r3.1.length c5)), (12, (vi r3.2)), (13, (vs a4 r4.1.length c6)), (14, (vi r4.2)), (15, (vs a5 r5.1.length c7)), (16, (vi r5.2))]) ⟨rfl, rfl, rfl, rfl, rfl, rfl, rfl, rfl, rfl, rfl, rfl, trivial⟩ ?_
  refine sr (sq (y_loadN (l := [(vs a1 m1.Dims.length c1)]) rfl et u24 rfl size_24 (hI.kblk (l := [(vs a1 m1.Dims.length c1)]) (.s (.s (.s .z))) rfl).1) ?_)
  refine sm ?_
  refine sm ?_
  refine sm ?_
  refine sm ?_
  obtain ⟨r6, hx11, h⟩ := bnd_some h
  refine s_call gn rfl (r_callF (vs := [(Value.agg #[(vs a1 m1.Dims.length c1)]), (vs a2 l1.length c2), (vi axis1), (vi along1), (vi fold1)]) rfl ok_19 ⟨et, ⟨et, ⟨et, ⟨et, ⟨et, trivial⟩⟩⟩⟩⟩) (Calls.mono (c_ref53_ReduceScatter (Dj F c4) w6 hI.lt m1 l1 axis1 along1 fold1 a1 c1 a2 c2 ⟨(hI.get (.s (.s (.s (.s .z))))), (hI.get (.s (.s (.s (.s (.s .z)))))), trivial⟩ r6 hx11) ?_)
  rintro _ w7 ⟨a6, c8, rfl, hx12, hl6⟩
  refine ⟨_, rfl, ?_⟩
  replace hI := (hI.ext hx12).adds hl6
  refine sm ?_
  refine sq (y_extract rfl et rfl) ?_
  refine sq (y_extract rfl et rfl) ?_
  refine sa ?_
  refine sa ?_
  refine nk (sr (sm ?_))
  refine sm ?_
  obtain ⟨r7, hx13, h⟩ := bnd_some h
  refine s_call gn rfl (r_callF (vs := [(vs a3 r3.1.length c5), (vs a4 r4.1.length c6)]) rfl ok_15 ⟨et, ⟨et, trivial⟩⟩) (Calls.mono (c_base_Tensors (Dj F c4) w7 hI.lt r3.1 r4.1 a3 c5 a4 c6 ⟨(hI.get (.s (.s (.s .z)))), (hI.get (.s (.s .z))), trivial⟩ r7 hx13) ?_)
  rintro _ w8 ⟨rfl, hx14, hl7⟩
  refine ⟨_, rfl, ?_⟩
  replace hI := (hI.ext hx14)
  refine sm ?_
  refine s_gval (g_true rfl rfl rfl rfl) rfl (fun hc => (y_move rfl et)) ?_
  refine s_gval (g_true rfl rfl rfl rfl) rfl (fun hc => (y_move rfl et)) ?_
  refine s_gval (g_true rfl rfl rfl rfl) rfl (fun hc => (y_eql rfl (ev_gv et hc) (ev_gv et hc))) ?_
  refine sq (y_and rfl et et) ?_
  refine sm ?_
  refine s_gval (g_true rfl rfl rfl rfl) rfl (fun hc => (y_move rfl et)) ?_
  refine s_gval (g_true rfl rfl rfl rfl) rfl (fun hc => (y_move rfl et)) ?_
  obtain ⟨r8, hx15, h⟩ := bnd_some h
  replace hx15 := gd_some hx15
  refine s_gcallU (v := (vb r8)) (g_true rfl rfl rfl rfl) rfl (fun hc => (r_callF (vs := [(vs a5 r5.1.length c7), (vs a6 r6.1.length c8)]) rfl ok_15 ⟨(ev_gv et hc), ⟨(ev_gv et hc), trivial⟩⟩)) (fun hc => (c_base_Tensors (Dj F c4) w8 hI.lt r5.1 r6.1 a5 c7 a6 c8 ⟨(hI.get (.s .z)), (hI.get .z), trivial⟩ r8 (hx15 hc)).mono fun _ _ k => ⟨k.1, k.2.1⟩) ?_
  intro w9 hx16; replace hI := hI.ext hx16
  refine sq (y_and rfl et et) ?_
  refine sm ?_
  refine s_gval (g_true rfl rfl rfl rfl) rfl (fun hc => (y_move rfl et)) ?_
  refine s_gval (g_true rfl rfl rfl rfl) rfl (fun hc => (y_move rfl et)) ?_
  refine s_gval (g_true rfl rfl rfl rfl) rfl (fun hc => (y_eql rfl (ev_gv et hc) (ev_gv et hc))) ?_
  refine sq (y_and rfl et et) ?_
  refine sm ?_
  obtain ⟨r9, hx17, h⟩ := bnd_some h
  replace hx17 := gd_some hx17
  refine s_gcallU (v := (vb r9)) (g_true rfl rfl rfl rfl) rfl (fun hc => (r_callF (vs := []) rfl ok_10 trivial)) (fun hc => (c_law53_examples (Dj F c4) w9 hI.lt trivial r9 (hx17 hc)).mono fun _ _ k => ⟨k.1, k.2.1⟩) ?_
  intro w10 hx18; replace hI := hI.ext hx18
  refine sq (y_and rfl et et) ?_
  refine sa ?_
  refine s_nil ?_
  refine k_next (e := [(10, (vb ((((r7 && (decide (r3.2 = r4.2))) && r8) && (decide (r5.2 = r6.2))) && r9)))]) ⟨rfl, trivial⟩ ?_
  refine c_ret ?_
  obtain rfl := some_inj h
  exact q_ret (vs := [(vb ((((r7 && (decide (r3.2 = r4.2))) && r8) && (decide (r5.2 = r6.2))) && r9))]) Tryz.results4 ⟨ev_tmp rfl rfl, trivial⟩ ⟨rfl, hI.ext0, hI.fin trivial⟩

end Go.Proofs.YtpedfojbfbccaaaGreat
