/- Each call returns what its plain function gives: printed by a program of my own; Lean checks it. -/
import Derived.Test.YtlakfanockhngaaGreatDoorSCQ7b
namespace Go.Proofs.YtlakfanockhngaaGreatDoor
open Go Go.RowKit Go.Vc
set_option linter.unusedVariables false
set_option linter.unusedSimpArgs false

set_option maxRecDepth 100000 in
set_option maxHeartbeats 4000000 in
theorem c_ref12_Offset (F : NP) (w0 : World) (hF : ∀ k, F k → k < w0.heap.size) (d1 : List Int) (p1 : List Int) (a1 : Option Addr) (c1 : Nat) (a2 : Option Addr) (c2 : Nat) (hc : AllCl [Cl.sl (cInt .i64) a1 c1 d1, Cl.sl (cInt .i64) a2 c2 p1] F w0) (r : Int)
  (h : m_ref12_Offset d1 p1 = some r) :
  Calls Tryz.prog 49 #[(vs a1 d1.length c1), (vs a2 p1.length c2)] w0 fun e w => e = .returned (vi r) ∧ Ext w0 w ∧ AllCl [] F w := by
 refine enterK (l := [(vs a1 d1.length c1), (vs a2 p1.length c2)]) Tryz.func49 rfl Tryz.ntmps49 rfl ?_
 have hI := Bun.start hF hc
 clear hc
 rw [m_ref12_Offset] at h
 refine sr ?_
 refine sac ?_
 refine nk ?_
 refine sr ?_
 refine sac ?_
 refine nk ?_
 refine c_seq ?_
 refine sr ?_
 refine sac ?_
 refine nk ?_
 refine c_block ?_
 refine c_loop (α := Nat × Int × Int) (fun x => fun w => ∃ C, Bun noM F w0 C w [] [Cl.sl (cInt .i64) a1 c1 d1, Cl.sl (cInt .i64) a2 c2 p1] ∧ m_ref12_Offset_l1 d1 p1 (x.1) (x.2.1) (x.2.2) = some r) (fun x _ => x.1) (fun x => [(0, (vs a1 d1.length c1)), (1, (vs a2 p1.length c2)), (5, (vi (x.2.1))), (6, (vi (x.2.2)))]) (fu, 0, 0) ⟨_, hI.arr .n ⟨.z, (.s .z), trivial⟩, h⟩ ⟨rfl, rfl, rfl, rfl, trivial⟩ ?_
 clear h hI; rintro ⟨fuel1, n1, i1⟩ w1 ⟨c3, hI, h⟩
 dsimp only at hI h
 rcases fuel1 with _ | fuel1
 ·rw [m_ref12_Offset_l1] at h; cases h
 rw [m_ref12_Offset_l1] at h
 refine c_sub (e := [(0, (vs a1 d1.length c1)), (1, (vs a2 p1.length c2)), (5, (vi n1)), (6, (vi i1))]) ⟨rfl, rfl, rfl, rfl, trivial⟩ ?_
 refine c_seq ?_
 refine sr ?_
 refine sm ?_
 refine sm ?_
 refine sq (y_lenl rfl Tryz.underlying24 et) ?_
 refine sq (y_lss rfl et et) ?_
 refine nk ?_
 refine c_cond (b := decide (i1 < (d1.length : Int))) et (fun hb => ?_) (fun hb => ?_)
 ·replace h := ite_t hb h
  refine c_skip ?_
  refine k_same ?_
  refine c_seq ?_
  refine c_block ?_
  refine c_drawX [] false (.c (0, .q) (.c (1, .q) (.c (2, .q) (.c (3, .q) (.c (4, .q) (.c (5, .q) (.c (6, .q) (.c (7, .q) (.c (8, .q) (.c (9, .q) (.c (10, .q) (.c (11, .q) .n)))))))))))) hI (by kernel_rfl) (by kernel_rfl) ?_
  clear hI; intro w2 hI
  refine a_q rfl gn rfl (fun w' => (y_move rfl et)) ?_
  refine a_q rfl gn rfl (fun w' => (y_move rfl et)) ?_
  refine a_q rfl gn rfl (fun w' => (y_move rfl et)) ?_
  obtain ⟨e1, hx1, h⟩ := bnd_some h
  obtain ⟨ad1, cs1, hA1, hr1, hq1⟩ := hI.clat .z hx1
  obtain rfl : cs1 = [(vi e1)] := hr1
  refine a_q rfl gn rfl (fun w' => (y_indexAddr rfl Tryz.underlying24 size_3 et et (lat_bd hx1) hA1)) ?_
  refine a_read rfl gn rfl (fun w' hw' => (y_load1 (v := (vi e1)) rfl et Tryz.underlying3 rfl (hq1.at_ (SX.any rfl hw')))) (by kernel_rfl) ?_
  refine a_q rfl gn rfl (fun w' => (y_mul rfl et et)) ?_
  refine a_q rfl gn rfl (fun w' => (y_move rfl et)) ?_
  refine a_q rfl gn rfl (fun w' => (y_move rfl et)) ?_
  obtain ⟨e2, hx2, h⟩ := bnd_some h
  obtain ⟨ad2, cs2, hA2, hr2, hq2⟩ := hI.clat (.s .z) hx2
  obtain rfl : cs2 = [(vi e2)] := hr2
  refine a_q rfl gn rfl (fun w' => (y_indexAddr rfl Tryz.underlying24 size_3 et et (lat_bd hx2) hA2)) ?_
  refine a_read rfl gn rfl (fun w' hw' => (y_load1 (v := (vi e2)) rfl et Tryz.underlying3 rfl (hq2.at_ (SX.any rfl hw')))) (by kernel_rfl) ?_
  refine a_q rfl gn rfl (fun w' => (y_add rfl et et)) ?_
  refine a_q rfl gn rfl (fun w' => (y_assign rfl et)) ?_
  refine a_nil ?_
  refine k_same ?_
  refine c_region rfl ?_
  refine sm ?_
  refine sq (y_add rfl et ev_const) ?_
  refine sa ?_
  refine s_nil ?_
  exact k_loop (fuel1, wi64 ((wi64 (n1 * e1)) + e2), wi64 (i1 + 1)) ⟨rfl, rfl, rfl, rfl, trivial⟩ ⟨_, hI.arr .n ⟨.z, (.s .z), trivial⟩, h⟩ (Nat.lt_succ_self _)
 ·replace h := ite_f hb h
  refine c_exit ?_
  refine k_in ?_
  refine k_same ?_
  refine sr ?_
  refine sm ?_
  refine sa ?_
  refine nk ?_
  refine c_ret ?_
  obtain rfl := some_inj h
  exact q_ret (vs := [(vi n1)]) Tryz.results49 ⟨ev_tmp rfl rfl, trivial⟩ ⟨rfl, hI.ext0, hI.fin trivial⟩

set_option maxRecDepth 100000 in
set_option maxHeartbeats 4000000 in
theorem c_base_Ints (F : NP) (w0 : World) (hF : ∀ k, F k → k < w0.heap.size) (a1 : List Int) (b1 : List Int) (a2 : Option Addr) (c1 : Nat) (a3 : Option Addr) (c2 : Nat) (hc : AllCl [Cl.sl (cInt .i64) a2 c1 a1, Cl.sl (cInt .i64) a3 c2 b1] F w0) (r : Bool)
  (h : m_base_Ints a1 b1 = some r) :
  Calls Tryz.prog 50 #[(vs a2 a1.length c1), (vs a3 b1.length c2)] w0 fun e w => e = .returned (vb r) ∧ Ext w0 w ∧ AllCl [] F w := by
 refine enterK (l := [(vs a2 a1.length c1), (vs a3 b1.length c2)]) Tryz.func50 rfl Tryz.ntmps50 rfl ?_
 have hI := Bun.start hF hc
 clear hc
 rw [m_base_Ints] at h
 refine sr ?_
 refine sac ?_
 refine nk ?_
 refine c_seq ?_
 refine sr ?_
 refine sm ?_
 refine sq (y_lenl rfl Tryz.underlying24 et) ?_
 refine sm ?_
 refine sq (y_lenl rfl Tryz.underlying24 et) ?_
 refine sq (y_neq rfl et et) ?_
 refine nk ?_
 refine c_cond (b := !decide ((a1.length : Int) = (b1.length : Int))) et (fun hb => ?_) (fun hb => ?_)
 ·replace h := ite_t hb h
  refine sr ?_
  refine sac ?_
  refine nk ?_
  refine c_ret ?_
  obtain rfl := some_inj h
  exact q_ret (vs := [(vb false)]) Tryz.results50 ⟨ev_tmp rfl rfl, trivial⟩ ⟨rfl, hI.ext0, hI.fin trivial⟩
 ·replace h := ite_f hb h
  refine c_skip ?_
  refine k_same ?_
  refine c_seq ?_
  refine sr ?_
  refine sac ?_
  refine nk ?_
  refine c_block ?_
  refine c_loop (α := Nat × Int) (fun x => fun w => ∃ C, Bun noM F w0 C w [] [Cl.sl (cInt .i64) a2 c1 a1, Cl.sl (cInt .i64) a3 c2 b1] ∧ m_base_Ints_l1 a1 b1 (x.1) (x.2) = some r) (fun x _ => x.1) (fun x => [(0, (vs a2 a1.length c1)), (1, (vs a3 b1.length c2)), (5, (vi (x.2)))]) (fu, 0) ⟨_, hI.arr .n ⟨.z, (.s .z), trivial⟩, h⟩ ⟨rfl, rfl, rfl, trivial⟩ ?_
  clear h hI; rintro ⟨fuel1, i1⟩ w1 ⟨c3, hI, h⟩
  dsimp only at hI h
  rcases fuel1 with _ | fuel1
  ·rw [m_base_Ints_l1] at h; cases h
  rw [m_base_Ints_l1] at h
  refine c_sub (e := [(0, (vs a2 a1.length c1)), (1, (vs a3 b1.length c2)), (5, (vi i1))]) ⟨rfl, rfl, rfl, trivial⟩ ?_
  refine c_seq ?_
  refine sr ?_
  refine sm ?_
  refine sm ?_
  refine sq (y_lenl rfl Tryz.underlying24 et) ?_
  refine sq (y_lss rfl et et) ?_
  refine nk ?_
  refine c_cond (b := decide (i1 < (a1.length : Int))) et (fun hb => ?_) (fun hb => ?_)
  ·replace h := ite_t hb h
   refine c_skip ?_
   refine k_same ?_
   refine c_seq ?_
   refine c_block ?_
   refine c_seq ?_
   refine c_drawX [] false (.c (0, .q) (.c (1, .q) (.c (2, .q) (.c (3, .q) (.c (4, .q) (.c (5, .q) (.c (6, .q) (.c (7, .q) (.c (8, .q) .n))))))))) hI (by kernel_rfl) (by kernel_rfl) ?_
   clear hI; intro w2 hI
   refine a_q rfl gn rfl (fun w' => (y_move rfl et)) ?_
   refine a_q rfl gn rfl (fun w' => (y_move rfl et)) ?_
   obtain ⟨e1, hx1, h⟩ := bnd_some h
   obtain ⟨ad1, cs1, hA1, hr1, hq1⟩ := hI.clat .z hx1
   obtain rfl : cs1 = [(vi e1)] := hr1
   refine a_q rfl gn rfl (fun w' => (y_indexAddr rfl Tryz.underlying24 size_3 et et (lat_bd hx1) hA1)) ?_
   refine a_read rfl gn rfl (fun w' hw' => (y_load1 (v := (vi e1)) rfl et Tryz.underlying3 rfl (hq1.at_ (SX.any rfl hw')))) (by kernel_rfl) ?_
   refine a_q rfl gn rfl (fun w' => (y_move rfl et)) ?_
   refine a_q rfl gn rfl (fun w' => (y_move rfl et)) ?_
   obtain ⟨e2, hx2, h⟩ := bnd_some h
   obtain ⟨ad2, cs2, hA2, hr2, hq2⟩ := hI.clat (.s .z) hx2
   obtain rfl : cs2 = [(vi e2)] := hr2
   refine a_q rfl gn rfl (fun w' => (y_indexAddr rfl Tryz.underlying24 size_3 et et (lat_bd hx2) hA2)) ?_
   refine a_read rfl gn rfl (fun w' hw' => (y_load1 (v := (vi e2)) rfl et Tryz.underlying3 rfl (hq2.at_ (SX.any rfl hw')))) (by kernel_rfl) ?_
   refine a_q rfl gn rfl (fun w' => (y_neq rfl et et)) ?_
   refine a_nil ?_
   refine k_same ?_
   refine c_cond (b := !decide (e1 = e2)) et (fun hb => ?_) (fun hb => ?_)
   ·replace h := ite_t hb h
    refine sr ?_
    refine sac ?_
    refine nk ?_
    refine c_ret ?_
    obtain rfl := some_inj h
    exact q_ret (vs := [(vb false)]) Tryz.results50 ⟨ev_tmp rfl rfl, trivial⟩ ⟨rfl, hI.ext0, hI.fin trivial⟩
   ·replace h := ite_f hb h
    refine c_skip ?_
    refine k_same ?_
    refine c_region rfl ?_
    refine sm ?_
    refine sq (y_add rfl et ev_const) ?_
    refine sa ?_
    refine s_nil ?_
    exact k_loop (fuel1, wi64 (i1 + 1)) ⟨rfl, rfl, rfl, trivial⟩ ⟨_, hI.arr .n ⟨.z, (.s .z), trivial⟩, h⟩ (Nat.lt_succ_self _)
  ·replace h := ite_f hb h
   refine c_exit ?_
   refine k_in ?_
   refine k_same ?_
   refine sr ?_
   refine sac ?_
   refine nk ?_
   refine c_ret ?_
   obtain rfl := some_inj h
   exact q_ret (vs := [(vb true)]) Tryz.results50 ⟨ev_tmp rfl rfl, trivial⟩ ⟨rfl, hI.ext0, hI.fin trivial⟩

set_option maxRecDepth 100000 in
set_option maxHeartbeats 4000000 in
theorem c_base_Vals (F : NP) (w0 : World) (hF : ∀ k, F k → k < w0.heap.size) (a1 : List GVal) (b1 : List GVal) (a2 : Option Addr) (c1 : Nat) (a3 : Option Addr) (c2 : Nat) (hc : AllCl [Cl.sl cGVal a2 c1 a1, Cl.sl cGVal a3 c2 b1] F w0) (r : Bool)
  (h : m_base_Vals a1 b1 = some r) :
  Calls Tryz.prog 51 #[(vs a2 a1.length c1), (vs a3 b1.length c2)] w0 fun e w => e = .returned (vb r) ∧ Ext w0 w ∧ AllCl [] F w := by
 refine enterK (l := [(vs a2 a1.length c1), (vs a3 b1.length c2)]) Tryz.func51 rfl Tryz.ntmps51 rfl ?_
 have hI := Bun.start hF hc
 clear hc
 rw [m_base_Vals] at h
 refine sr ?_
 refine sac ?_
 refine nk ?_
 refine c_seq ?_
 refine sr ?_
 refine sm ?_
 refine sq (y_lenl rfl Tryz.underlying25 et) ?_
 refine sm ?_
 refine sq (y_lenl rfl Tryz.underlying25 et) ?_
 refine sq (y_neq rfl et et) ?_
 refine nk ?_
 refine c_cond (b := !decide ((a1.length : Int) = (b1.length : Int))) et (fun hb => ?_) (fun hb => ?_)
 ·replace h := ite_t hb h
  refine sr ?_
  refine sac ?_
  refine nk ?_
  refine c_ret ?_
  obtain rfl := some_inj h
  exact q_ret (vs := [(vb false)]) Tryz.results51 ⟨ev_tmp rfl rfl, trivial⟩ ⟨rfl, hI.ext0, hI.fin trivial⟩
 ·replace h := ite_f hb h
  refine c_skip ?_
  refine k_same ?_
  refine c_seq ?_
  refine sr ?_
  refine sac ?_
  refine nk ?_
  refine c_block ?_
  refine c_loop (α := Nat × Int) (fun x => fun w => ∃ C, Bun noM F w0 C w [] [Cl.sl cGVal a2 c1 a1, Cl.sl cGVal a3 c2 b1] ∧ m_base_Vals_l1 a1 b1 (x.1) (x.2) = some r) (fun x _ => x.1) (fun x => [(0, (vs a2 a1.length c1)), (1, (vs a3 b1.length c2)), (5, (vi (x.2)))]) (fu, 0) ⟨_, hI.arr .n ⟨.z, (.s .z), trivial⟩, h⟩ ⟨rfl, rfl, rfl, trivial⟩ ?_
  clear h hI; rintro ⟨fuel1, i1⟩ w1 ⟨c3, hI, h⟩
  dsimp only at hI h
  rcases fuel1 with _ | fuel1
  ·rw [m_base_Vals_l1] at h; cases h
  rw [m_base_Vals_l1] at h
  refine c_sub (e := [(0, (vs a2 a1.length c1)), (1, (vs a3 b1.length c2)), (5, (vi i1))]) ⟨rfl, rfl, rfl, trivial⟩ ?_
  refine c_seq ?_
  refine sr ?_
  refine sm ?_
  refine sm ?_
  refine sq (y_lenl rfl Tryz.underlying25 et) ?_
  refine sq (y_lss rfl et et) ?_
  refine nk ?_
  refine c_cond (b := decide (i1 < (a1.length : Int))) et (fun hb => ?_) (fun hb => ?_)
  ·replace h := ite_t hb h
   refine c_skip ?_
   refine k_same ?_
   refine c_seq ?_
   refine c_block ?_
   refine c_seq ?_
   refine c_drawX [] false (.c (0, .q) (.c (1, .q) (.c (2, .q) (.c (3, .q) (.c (4, .q) (.c (5, .q) (.c (6, .q) (.c (7, .q) (.c (8, .q) .n))))))))) hI (by kernel_rfl) (by kernel_rfl) ?_
   clear hI; intro w2 hI
   refine a_q rfl gn rfl (fun w' => (y_move rfl et)) ?_
   refine a_q rfl gn rfl (fun w' => (y_move rfl et)) ?_
   obtain ⟨e1, hx1, h⟩ := bnd_some h
   obtain ⟨ad1, cs1, hA1, hr1, hq1⟩ := hI.clat .z hx1
   obtain rfl : cs1 = [(vi e1.N), (vi e1.D)] := hr1
   refine a_q rfl gn rfl (fun w' => (y_indexAddr rfl Tryz.underlying25 size_36 et et (lat_bd hx1) hA1)) ?_
   refine a_read rfl gn rfl (fun w' hw' => (y_loadN (l := [(vi e1.N), (vi e1.D)]) rfl et Tryz.underlying36 rfl size_36 (hq1.at_ (SX.any rfl hw')))) (by kernel_rfl) ?_
   refine a_q rfl gn rfl (fun w' => (y_move rfl et)) ?_
   refine a_q rfl gn rfl (fun w' => (y_move rfl et)) ?_
   obtain ⟨e2, hx2, h⟩ := bnd_some h
   obtain ⟨ad2, cs2, hA2, hr2, hq2⟩ := hI.clat (.s .z) hx2
   obtain rfl : cs2 = [(vi e2.N), (vi e2.D)] := hr2
   refine a_q rfl gn rfl (fun w' => (y_indexAddr rfl Tryz.underlying25 size_36 et et (lat_bd hx2) hA2)) ?_
   refine a_read rfl gn rfl (fun w' hw' => (y_loadN (l := [(vi e2.N), (vi e2.D)]) rfl et Tryz.underlying36 rfl size_36 (hq2.at_ (SX.any rfl hw')))) (by kernel_rfl) ?_
   refine a_q rfl gn rfl (fun w' => (y_bin rfl et et (eqstruct_36n ..) (eqguard_36 ..))) ?_
   refine a_nil ?_
   refine k_same ?_
   refine c_cond (b := !((decide (e1.N = e2.N)) && (decide (e1.D = e2.D)))) et (fun hb => ?_) (fun hb => ?_)
   ·replace h := ite_t hb h
    refine sr ?_
    refine sac ?_
    refine nk ?_
    refine c_ret ?_
    obtain rfl := some_inj h
    exact q_ret (vs := [(vb false)]) Tryz.results51 ⟨ev_tmp rfl rfl, trivial⟩ ⟨rfl, hI.ext0, hI.fin trivial⟩
   ·replace h := ite_f hb h
    refine c_skip ?_
    refine k_same ?_
    refine c_region rfl ?_
    refine sm ?_
    refine sq (y_add rfl et ev_const) ?_
    refine sa ?_
    refine s_nil ?_
    exact k_loop (fuel1, wi64 (i1 + 1)) ⟨rfl, rfl, rfl, trivial⟩ ⟨_, hI.arr .n ⟨.z, (.s .z), trivial⟩, h⟩ (Nat.lt_succ_self _)
  ·replace h := ite_f hb h
   refine c_exit ?_
   refine k_in ?_
   refine k_same ?_
   refine sr ?_
   refine sac ?_
   refine nk ?_
   refine c_ret ?_
   obtain rfl := some_inj h
   exact q_ret (vs := [(vb true)]) Tryz.results51 ⟨ev_tmp rfl rfl, trivial⟩ ⟨rfl, hI.ext0, hI.fin trivial⟩

set_option maxRecDepth 100000 in
set_option maxHeartbeats 4000000 in
theorem c_base_Tensor (F : NP) (w0 : World) (hF : ∀ k, F k → k < w0.heap.size) (a1 : GTensor) (b1 : GTensor) (a2 : Option Addr) (c1 : Nat) (a3 : Option Addr) (c2 : Nat) (a4 : Option Addr) (c3 : Nat) (a5 : Option Addr) (c4 : Nat) (hc : AllCl [Cl.sl (cInt .i64) a2 c1 a1.Dims, Cl.sl cGVal a3 c2 a1.Vals, Cl.sl (cInt .i64) a4 c3 b1.Dims, Cl.sl cGVal a5 c4 b1.Vals] F w0) (r : Bool)
  (h : m_base_Tensor a1 b1 = some r) :
  Calls Tryz.prog 16 #[(Value.agg #[(vi a1.Type_.Kind), (vi a1.Type_.Bits), (vi a1.Type_.Frac), (vi a1.Type_.Round), (vi a1.Type_.Over), (vs a2 a1.Dims.length c1), (vs a3 a1.Vals.length c2)]), (Value.agg #[(vi b1.Type_.Kind), (vi b1.Type_.Bits), (vi b1.Type_.Frac), (vi b1.Type_.Round), (vi b1.Type_.Over), (vs a4 b1.Dims.length c3), (vs a5 b1.Vals.length c4)])] w0 fun e w => e = .returned (vb r) ∧ Ext w0 w ∧ AllCl [] F w := by
 refine enterK (l := [(Value.agg #[(vi a1.Type_.Kind), (vi a1.Type_.Bits), (vi a1.Type_.Frac), (vi a1.Type_.Round), (vi a1.Type_.Over), (vs a2 a1.Dims.length c1), (vs a3 a1.Vals.length c2)]), (Value.agg #[(vi b1.Type_.Kind), (vi b1.Type_.Bits), (vi b1.Type_.Frac), (vi b1.Type_.Round), (vi b1.Type_.Over), (vs a4 b1.Dims.length c3), (vs a5 b1.Vals.length c4)])]) Tryz.func16 rfl Tryz.ntmps16 rfl ?_
 have hI := Bun.start hF hc
 clear hc
 rw [m_base_Tensor] at h
 refine sr ?_
 refine l_box (v := (Value.agg #[(vi a1.Type_.Kind), (vi a1.Type_.Bits), (vi a1.Type_.Frac), (vi a1.Type_.Round), (vi a1.Type_.Over), (vs a2 a1.Dims.length c1), (vs a3 a1.Vals.length c2)])) (cs := #[(vi a1.Type_.Kind), (vi a1.Type_.Bits), (vi a1.Type_.Frac), (vi a1.Type_.Round), (vi a1.Type_.Over), (vs a2 a1.Dims.length c1), (vs a3 a1.Vals.length c2)]) hI gn rfl rfl et rfl ?_
 clear hI; intro b2 c5 w1 hI
 obtain ⟨c6, hI⟩ := hI.relBox .z
 refine l_box (v := (Value.agg #[(vi b1.Type_.Kind), (vi b1.Type_.Bits), (vi b1.Type_.Frac), (vi b1.Type_.Round), (vi b1.Type_.Over), (vs a4 b1.Dims.length c3), (vs a5 b1.Vals.length c4)])) (cs := #[(vi b1.Type_.Kind), (vi b1.Type_.Bits), (vi b1.Type_.Frac), (vi b1.Type_.Round), (vi b1.Type_.Over), (vs a4 b1.Dims.length c3), (vs a5 b1.Vals.length c4)]) hI gn rfl rfl et rfl ?_
 clear hI; intro b3 c7 w2 hI
 obtain ⟨c8, hI⟩ := hI.relBox .z
 refine sac ?_
 refine nk ?_
 refine sr ?_
 refine sq (y_fieldAddr rfl et Tryz.underlying27 rfl size_23 rfl) ?_
 refine sq (y_loadN (l := [(vi a1.Type_.Kind), (vi a1.Type_.Bits), (vi a1.Type_.Frac), (vi a1.Type_.Round), (vi a1.Type_.Over)]) rfl et Tryz.underlying23 rfl size_23 (hI.kblk (l := [(vi a1.Type_.Kind), (vi a1.Type_.Bits), (vi a1.Type_.Frac), (vi a1.Type_.Round), (vi a1.Type_.Over)]) (.s .z) rfl).1) ?_
 refine sq (y_fieldAddr rfl et Tryz.underlying27 rfl size_23 rfl) ?_
 refine sq (y_loadN (l := [(vi b1.Type_.Kind), (vi b1.Type_.Bits), (vi b1.Type_.Frac), (vi b1.Type_.Round), (vi b1.Type_.Over)]) rfl et Tryz.underlying23 rfl size_23 (hI.kblk (l := [(vi b1.Type_.Kind), (vi b1.Type_.Bits), (vi b1.Type_.Frac), (vi b1.Type_.Round), (vi b1.Type_.Over)]) .z rfl).1) ?_
 refine sq (y_bin rfl et et (eqstruct_23 ..) (eqguard_23 ..)) ?_
 refine sm ?_
 refine s_gval (g_true rfl rfl rfl rfl) rfl (fun hc => (y_fieldAddr rfl et Tryz.underlying27 rfl size_24 rfl)) ?_
 refine s_gval (g_true rfl rfl rfl rfl) rfl (fun hc => (y_load1 (v := (vs a2 a1.Dims.length c1)) rfl (ev_gv et hc) Tryz.underlying24 rfl (hI.kblk (l := [(vs a2 a1.Dims.length c1)]) (.s .z) rfl).1)) ?_
 refine s_gval (g_true rfl rfl rfl rfl) rfl (fun hc => (y_fieldAddr rfl et Tryz.underlying27 rfl size_24 rfl)) ?_
 refine s_gval (g_true rfl rfl rfl rfl) rfl (fun hc => (y_load1 (v := (vs a4 b1.Dims.length c3)) rfl (ev_gv et hc) Tryz.underlying24 rfl (hI.kblk (l := [(vs a4 b1.Dims.length c3)]) .z rfl).1)) ?_
 obtain ⟨r1, hx1, h⟩ := bnd_some h
 replace hx1 := gd_some hx1
 refine s_gcallU (v := (vb r1)) (g_true rfl rfl rfl rfl) rfl (fun hc => (r_callF (vs := [(vs a2 a1.Dims.length c1), (vs a4 b1.Dims.length c3)]) rfl ok_50 ⟨(ev_gv et hc), ⟨(ev_gv et hc), trivial⟩⟩)) (fun hc => (c_base_Ints (Dj F c8) w2 hI.lt a1.Dims b1.Dims a2 c1 a4 c3 ⟨(hI.get (.s (.s .z))), (hI.get (.s (.s (.s (.s .z))))), trivial⟩ r1 (hx1 hc)).mono fun _ _ k => ⟨k.1, k.2.1⟩) ?_
 intro w3 hx2; replace hI := hI.ext hx2
 refine sq (y_and rfl et et) ?_
 refine sm ?_
 refine s_gval (g_true rfl rfl rfl rfl) rfl (fun hc => (y_fieldAddr rfl et Tryz.underlying27 rfl size_25 rfl)) ?_
 refine s_gval (g_true rfl rfl rfl rfl) rfl (fun hc => (y_load1 (v := (vs a3 a1.Vals.length c2)) rfl (ev_gv et hc) Tryz.underlying25 rfl (hI.kblk (l := [(vs a3 a1.Vals.length c2)]) (.s .z) rfl).1)) ?_
 refine s_gval (g_true rfl rfl rfl rfl) rfl (fun hc => (y_fieldAddr rfl et Tryz.underlying27 rfl size_25 rfl)) ?_
 refine s_gval (g_true rfl rfl rfl rfl) rfl (fun hc => (y_load1 (v := (vs a5 b1.Vals.length c4)) rfl (ev_gv et hc) Tryz.underlying25 rfl (hI.kblk (l := [(vs a5 b1.Vals.length c4)]) .z rfl).1)) ?_
 obtain ⟨r2, hx3, h⟩ := bnd_some h
 replace hx3 := gd_some hx3
 refine s_gcallU (v := (vb r2)) (g_true rfl rfl rfl rfl) rfl (fun hc => (r_callF (vs := [(vs a3 a1.Vals.length c2), (vs a5 b1.Vals.length c4)]) rfl ok_51 ⟨(ev_gv et hc), ⟨(ev_gv et hc), trivial⟩⟩)) (fun hc => (c_base_Vals (Dj F c8) w3 hI.lt a1.Vals b1.Vals a3 c2 a5 c4 ⟨(hI.get (.s (.s (.s .z)))), (hI.get (.s (.s (.s (.s (.s .z)))))), trivial⟩ r2 (hx3 hc)).mono fun _ _ k => ⟨k.1, k.2.1⟩) ?_
 intro w4 hx4; replace hI := hI.ext hx4
 refine sq (y_and rfl et et) ?_
 refine sa ?_
 refine nk ?_
 refine c_ret ?_
 obtain rfl := some_inj h
 exact q_ret (vs := [(vb ((((decide (a1.Type_.Kind = b1.Type_.Kind)) && (decide (a1.Type_.Bits = b1.Type_.Bits)) && (decide (a1.Type_.Frac = b1.Type_.Frac)) && (decide (a1.Type_.Round = b1.Type_.Round)) && (decide (a1.Type_.Over = b1.Type_.Over))) && r1) && r2))]) Tryz.results16 ⟨ev_tmp rfl rfl, trivial⟩ ⟨rfl, hI.ext0, hI.fin trivial⟩

set_option maxRecDepth 100000 in
set_option maxHeartbeats 4000000 in
theorem c_tensor_joinable (F : NP) (w0 : World) (hF : ∀ k, F k → k < w0.heap.size) (axis1 : Int) (l1 : List GTensor) (a1 : Option Addr) (c1 : Nat) (hc : AllCl [Cl.sl cGTensor a1 c1 l1] F w0) (r : Int)
  (h : m_tensor_joinable axis1 l1 = some r) :
  Calls Tryz.prog 71 #[(vi axis1), (vs a1 l1.length c1)] w0 fun e w => e = .returned (vi r) ∧ Ext w0 w ∧ AllCl [] F w := by
 refine enterK (l := [(vi axis1), (vs a1 l1.length c1)]) Tryz.func71 rfl Tryz.ntmps71 rfl ?_
 have hI := Bun.start hF hc
 clear hc
 rw [m_tensor_joinable] at h
 refine sr ?_
 refine sac ?_
 refine nk ?_
 refine c_seq ?_
 refine sr ?_
 refine sm ?_
 refine sq (y_lenl rfl Tryz.underlying58 et) ?_
 refine sq (y_eql rfl et ev_const) ?_
 refine nk ?_
 refine c_cond (b := decide ((l1.length : Int) = 0)) et (fun hb => ?_) (fun hb => ?_)
 ·replace h := ite_t hb h
  refine sr ?_
  refine sac ?_
  refine nk ?_
  refine c_ret ?_
  obtain rfl := some_inj h
  exact q_ret (vs := [(vi 1)]) Tryz.results71 ⟨ev_tmp rfl rfl, trivial⟩ ⟨rfl, hI.ext0, hI.fin trivial⟩
 ·replace h := ite_f hb h
  refine c_skip ?_
  refine k_same ?_
  refine c_join (α := Unit) (fun _ => ⟨91, []⟩) (fun _ => [(0, (vi axis1)), (1, (vs a1 l1.length c1))]) (fun _ => fun w => ∃ C, Bun noM F w0 C w [] [Cl.sl cGTensor a1 c1 l1] ∧ m_tensor_joinable_j1 l1 axis1 = some r) ?_ ?_
  ·clear h hI; rintro _ w1 ⟨c2, hI, h⟩
   try dsimp only at hI h
   rw [m_tensor_joinable_j1] at h
   refine c_sub (e := [(0, (vi axis1)), (1, (vs a1 l1.length c1))]) ⟨rfl, rfl, trivial⟩ ?_
   refine sr ?_
   refine sm ?_
   obtain ⟨e1, hx1, h⟩ := bnd_some h
   obtain ⟨ad1, cs1, hA1, hr1, hq1⟩ := hI.clat .z hx1
   obtain ⟨a2, c3, a3, c4, rfl, hf1, hf2⟩ := hr1
   have hI := hI.add (c := Cl.sl (cInt .i64) a2 c3 e1.Dims) hf1
   have hI := hI.add (c := Cl.sl cGVal a3 c4 e1.Vals) hf2
   refine sq (y_indexAddr rfl Tryz.underlying58 size_27 et ev_const (lat_bd hx1) hA1) ?_
   refine sq (y_loadN (l := [(vi e1.Type_.Kind), (vi e1.Type_.Bits), (vi e1.Type_.Frac), (vi e1.Type_.Round), (vi e1.Type_.Over), (vs a2 e1.Dims.length c3), (vs a3 e1.Vals.length c4)]) rfl et Tryz.underlying27 rfl size_27 hq1.1) ?_
   refine l_alloc (cs := #[(vi 0), (vi 0), (vi 0), (vi 0), (vi 0), (vs none 0 0), (vs none 0 0)]) hI gn rfl rfl zero_27 rfl ?_
   clear hI; intro b1 c5 w2 hI
   refine l_store (new := [(vi e1.Type_.Kind), (vi e1.Type_.Bits), (vi e1.Type_.Frac), (vi e1.Type_.Round), (vi e1.Type_.Over), (vs a2 e1.Dims.length c3), (vs a3 e1.Vals.length c4)]) (cs' := #[(vi e1.Type_.Kind), (vi e1.Type_.Bits), (vi e1.Type_.Frac), (vi e1.Type_.Round), (vi e1.Type_.Over), (vs a2 e1.Dims.length c3), (vs a3 e1.Vals.length c4)]) hI .z gn rfl rfl et et rfl size_27 rfl rfl rfl ?_
   clear hI; intro c6 w3 hI
   refine nk ?_
   refine c_join (α := Unit) (fun _ => ⟨91, []⟩) (fun _ => [(0, (vi axis1)), (1, (vs a1 l1.length c1)), (8, (vp b1 0))]) (fun _ => fun w => ∃ C, Bun noM F w0 C w [MO.box b1 27 #[(vi e1.Type_.Kind), (vi e1.Type_.Bits), (vi e1.Type_.Frac), (vi e1.Type_.Round), (vi e1.Type_.Over), (vs a2 e1.Dims.length c3), (vs a3 e1.Vals.length c4)]] [Cl.sl cGTensor a1 c1 l1, Cl.sl (cInt .i64) a2 c3 e1.Dims, Cl.sl cGVal a3 c4 e1.Vals] ∧ m_tensor_joinable_j2 axis1 e1 l1 = some r) ?_ ?_
   ·clear h hI; rintro _ w4 ⟨c7, hI, h⟩
    try dsimp only at hI h
    rw [m_tensor_joinable_j2] at h
    refine c_sub (e := [(0, (vi axis1)), (1, (vs a1 l1.length c1)), (8, (vp b1 0))]) ⟨rfl, rfl, rfl, trivial⟩ ?_
    refine c_seq ?_
    refine sr ?_
    refine sm ?_
    refine sq (y_lss rfl et ev_const) ?_
    refine sm ?_
    refine s_gval (g_false rfl rfl rfl rfl) rfl (fun hc => (y_move rfl et)) ?_
    refine s_gval (g_false rfl rfl rfl rfl) rfl (fun hc => (y_fieldAddr rfl et Tryz.underlying27 rfl size_24 rfl)) ?_
    refine s_gval (g_false rfl rfl rfl rfl) rfl (fun hc => (y_load1 (v := (vs a2 e1.Dims.length c3)) rfl (ev_gv et hc) Tryz.underlying24 rfl (CellsAt.of_blk (hI.blk .z) rfl))) ?_
    refine s_gval (g_false rfl rfl rfl rfl) rfl (fun hc => (y_lenl rfl Tryz.underlying24 (ev_gv et hc))) ?_
    refine s_gval (g_false rfl rfl rfl rfl) rfl (fun hc => (y_geq rfl (ev_gv et hc) (ev_gv et hc))) ?_
    refine sq (y_or rfl et et) ?_
    refine nk ?_
    refine c_cond (b := (decide (axis1 < 0)) || (decide ((e1.Dims.length : Int) ≤ axis1))) et (fun hb => ?_) (fun hb => ?_)
    ·replace h := ite_t hb h
     refine sr ?_
     refine sac ?_
     refine nk ?_
     refine c_ret ?_
     obtain rfl := some_inj h
     exact q_ret (vs := [(vi 11)]) Tryz.results71 ⟨ev_tmp rfl rfl, trivial⟩ ⟨rfl, hI.ext0, hI.fin trivial⟩
    ·replace h := ite_f hb h
     refine c_skip ?_
     refine k_same ?_
     refine c_seq ?_
     refine sr ?_
     refine sm ?_
     obtain ⟨zs1, hx2, h⟩ := bnd_some h
     obtain ⟨a4, hB1⟩ : ∃ B : Option Addr, B = (if c1 = Int.toNat 1 then a1 else Option.map (·.add (Int.toNat 1 * 7)) a1) := ⟨_, rfl⟩
     refine sq (y_lfrom rfl Tryz.underlying58 size_27 et ev_const hx2 hB1) ?_
     replace hI := hI.from_ .z hx2 hB1
     refine sq (y_lenl rfl Tryz.underlying58 et) ?_
     refine sq (y_move rfl ev_const) ?_
     refine nk ?_
     refine c_block ?_
     refine c_loop (α := Nat × Int) (fun x => fun w => ∃ C, Bun noM F w0 C w [MO.box b1 27 #[(vi e1.Type_.Kind), (vi e1.Type_.Bits), (vi e1.Type_.Frac), (vi e1.Type_.Round), (vi e1.Type_.Over), (vs a2 e1.Dims.length c3), (vs a3 e1.Vals.length c4)]] [Cl.sl (cInt .i64) a2 c3 e1.Dims, Cl.sl cGVal a3 c4 e1.Vals, Cl.sl cGTensor a4 (c1 - Int.toNat 1) zs1] ∧ m_tensor_joinable_l1 zs1 axis1 e1 (x.1) (x.2) = some r) (fun x _ => x.1) (fun x => [(0, (vi axis1)), (8, (vp b1 0)), (63, (vs a4 zs1.length (c1 - Int.toNat 1))), (64, (vi (zs1.length : Int))), (65, (vi (x.2)))]) (fu, 0) ⟨_, hI.arr (.c .z .n) ⟨(.s (.s .z)), (.s (.s (.s .z))), .z, trivial⟩, h⟩ ⟨rfl, rfl, rfl, rfl, rfl, trivial⟩ ?_
     clear h hI; rintro ⟨fuel1, i1⟩ w5 ⟨c8, hI, h⟩
     dsimp only at hI h
     rcases fuel1 with _ | fuel1
     ·rw [m_tensor_joinable_l1] at h; cases h
     rw [m_tensor_joinable_l1] at h
     refine c_sub (e := [(0, (vi axis1)), (8, (vp b1 0)), (63, (vs a4 zs1.length (c1 - Int.toNat 1))), (64, (vi (zs1.length : Int))), (65, (vi i1))]) ⟨rfl, rfl, rfl, rfl, rfl, trivial⟩ ?_
     refine sr ?_
     refine sq (y_lss rfl et et) ?_
     refine nk ?_
     refine c_seq ?_
     refine c_cond (b := decide (i1 < (zs1.length : Int))) et (fun hb => ?_) (fun hb => ?_)
     ·replace h := ite_t hb h
      refine c_skip ?_
      refine k_same ?_
      refine c_join (α := Unit) (fun _ => ⟨91, []⟩) (fun _ => [(0, (vi axis1)), (8, (vp b1 0)), (63, (vs a4 zs1.length (c1 - Int.toNat 1))), (64, (vi (zs1.length : Int))), (65, (vi i1))]) (fun _ => fun w => ∃ C, Bun noM F w0 C w [MO.box b1 27 #[(vi e1.Type_.Kind), (vi e1.Type_.Bits), (vi e1.Type_.Frac), (vi e1.Type_.Round), (vi e1.Type_.Over), (vs a2 e1.Dims.length c3), (vs a3 e1.Vals.length c4)]] [Cl.sl (cInt .i64) a2 c3 e1.Dims, Cl.sl cGVal a3 c4 e1.Vals, Cl.sl cGTensor a4 (c1 - Int.toNat 1) zs1] ∧ m_tensor_joinable_j3 (m_tensor_joinable_l1 zs1 axis1 e1 fuel1) i1 = some r) ?_ ?_
      ·clear h hI; rintro _ w6 ⟨c9, hI, h⟩
       try dsimp only at hI h
       rw [m_tensor_joinable_j3] at h
       refine c_sub (e := [(0, (vi axis1)), (8, (vp b1 0)), (63, (vs a4 zs1.length (c1 - Int.toNat 1))), (64, (vi (zs1.length : Int))), (65, (vi i1))]) ⟨rfl, rfl, rfl, rfl, rfl, trivial⟩ ?_
       refine c_region rfl ?_
       refine sq (y_add rfl et ev_const) ?_
       refine sm ?_
       refine s_nil ?_
       exact k_loop (fuel1, wi64 (i1 + 1)) ⟨rfl, rfl, rfl, rfl, rfl, trivial⟩ ⟨_, hI.arr (.c .z .n) ⟨.z, (.s .z), (.s (.s .z)), trivial⟩, h⟩ (Nat.lt_succ_self _)
      ·skip
       refine c_block ?_
       refine sr ?_
       obtain ⟨e2, hx3, h⟩ := bnd_some h
       obtain ⟨ad2, cs2, hA2, hr2, hq2⟩ := hI.clat (.s (.s .z)) hx3
       obtain ⟨a5, c10, a6, c11, rfl, hf3, hf4⟩ := hr2
       have hI := hI.add (c := Cl.sl (cInt .i64) a5 c10 e2.Dims) hf3
       have hI := hI.add (c := Cl.sl cGVal a6 c11 e2.Vals) hf4
       refine sq (y_indexAddr rfl Tryz.underlying58 size_27 et et (lat_bd hx3) hA2) ?_
       refine sq (y_loadN (l := [(vi e2.Type_.Kind), (vi e2.Type_.Bits), (vi e2.Type_.Frac), (vi e2.Type_.Round), (vi e2.Type_.Over), (vs a5 e2.Dims.length c10), (vs a6 e2.Vals.length c11)]) rfl et Tryz.underlying27 rfl size_27 hq2.1) ?_
       refine l_alloc (cs := #[(vi 0), (vi 0), (vi 0), (vi 0), (vi 0), (vs none 0 0), (vs none 0 0)]) hI gn rfl rfl zero_27 rfl ?_
       clear hI; intro b2 c12 w7 hI
       refine l_store (new := [(vi e2.Type_.Kind), (vi e2.Type_.Bits), (vi e2.Type_.Frac), (vi e2.Type_.Round), (vi e2.Type_.Over), (vs a5 e2.Dims.length c10), (vs a6 e2.Vals.length c11)]) (cs' := #[(vi e2.Type_.Kind), (vi e2.Type_.Bits), (vi e2.Type_.Frac), (vi e2.Type_.Round), (vi e2.Type_.Over), (vs a5 e2.Dims.length c10), (vs a6 e2.Vals.length c11)]) hI .z gn rfl rfl et et rfl size_27 rfl rfl rfl ?_
       clear hI; intro c13 w8 hI
       refine nk ?_
       refine sr ?_
       refine sq (y_fieldAddr rfl et Tryz.underlying27 rfl size_24 rfl) ?_
       refine sq (y_load1 (v := (vs a5 e2.Dims.length c10)) rfl et Tryz.underlying24 rfl (CellsAt.of_blk (hI.blk .z) rfl)) ?_
       refine sq (y_lenl rfl Tryz.underlying24 et) ?_
       refine sq (y_move rfl ev_const) ?_
       refine nk ?_
       refine c_block ?_
       refine c_loop (α := Nat × Int) (fun x => fun w => ∃ C, Bun noM F w0 C w [MO.box b1 27 #[(vi e1.Type_.Kind), (vi e1.Type_.Bits), (vi e1.Type_.Frac), (vi e1.Type_.Round), (vi e1.Type_.Over), (vs a2 e1.Dims.length c3), (vs a3 e1.Vals.length c4)]] [Cl.sl (cInt .i64) a2 c3 e1.Dims, Cl.sl cGVal a3 c4 e1.Vals, Cl.sl cGTensor a4 (c1 - Int.toNat 1) zs1, Cl.sl (cInt .i64) a5 c10 e2.Dims] ∧ m_tensor_joinable_l2 e2 axis1 e1 (m_tensor_joinable_l1 zs1 axis1 e1 fuel1) i1 (x.1) (x.2) = some r) (fun x _ => x.1) (fun x => [(0, (vi axis1)), (8, (vp b1 0)), (63, (vs a4 zs1.length (c1 - Int.toNat 1))), (64, (vi (zs1.length : Int))), (65, (vi i1)), (70, (vs a5 e2.Dims.length c10)), (71, (vi (e2.Dims.length : Int))), (72, (vi (x.2)))]) (fu, 0) ⟨_, hI.arr (.c (.s .z) .n) ⟨(.s (.s .z)), (.s (.s (.s .z))), (.s (.s (.s (.s .z)))), (.s .z), trivial⟩, h⟩ ⟨rfl, rfl, rfl, rfl, rfl, rfl, rfl, rfl, trivial⟩ ?_
       clear h hI; rintro ⟨fuel2, i2⟩ w9 ⟨c14, hI, h⟩
       dsimp only at hI h
       rcases fuel2 with _ | fuel2
       ·rw [m_tensor_joinable_l2] at h; cases h
       rw [m_tensor_joinable_l2] at h
       refine c_sub (e := [(0, (vi axis1)), (8, (vp b1 0)), (63, (vs a4 zs1.length (c1 - Int.toNat 1))), (64, (vi (zs1.length : Int))), (65, (vi i1)), (70, (vs a5 e2.Dims.length c10)), (71, (vi (e2.Dims.length : Int))), (72, (vi i2))]) ⟨rfl, rfl, rfl, rfl, rfl, rfl, rfl, rfl, trivial⟩ ?_
       refine sr ?_
       refine sq (y_lss rfl et et) ?_
       refine nk ?_
       refine c_seq ?_
       refine c_cond (b := decide (i2 < (e2.Dims.length : Int))) et (fun hb => ?_) (fun hb => ?_)
       ·replace h := ite_t hb h
        refine c_skip ?_
        refine k_same ?_
        refine c_seq ?_
        refine c_block ?_
        refine sr ?_
        refine sm ?_
        obtain ⟨e3, hx4, h⟩ := bnd_some h
        obtain ⟨ad3, cs3, hA3, hr3, hq3⟩ := hI.clat (.s (.s (.s .z))) hx4
        obtain rfl : cs3 = [(vi e3)] := hr3
        refine sq (y_indexAddr rfl Tryz.underlying24 size_3 et et (lat_bd hx4) hA3) ?_
        refine sq (y_load1 (v := (vi e3)) rfl et Tryz.underlying3 rfl hq3.1) ?_
        refine sa ?_
        refine sa ?_
        refine nk ?_
        refine sr ?_
        refine sm ?_
        refine sm ?_
        refine sq (y_neq rfl et et) ?_
        refine sm ?_
        refine s_gval (g_true rfl rfl rfl rfl) rfl (fun hc => (y_move rfl et)) ?_
        refine s_gval (g_true rfl rfl rfl rfl) rfl (fun hc => (y_fieldAddr rfl et Tryz.underlying27 rfl size_24 rfl)) ?_
        refine s_gval (g_true rfl rfl rfl rfl) rfl (fun hc => (y_load1 (v := (vs a2 e1.Dims.length c3)) rfl (ev_gv et hc) Tryz.underlying24 rfl (CellsAt.of_blk (hI.blk .z) rfl))) ?_
        refine s_gval (g_true rfl rfl rfl rfl) rfl (fun hc => (y_move rfl et)) ?_
        obtain ⟨e4, hx5, h⟩ := bnd_some h
        replace hx5 := gd_some hx5
        obtain ⟨ad4, cs4, hq4⟩ := hI.gclat .z hx5
        have hq5 : (!decide (i2 = axis1)) = true → CA (Dj F c14) w9 (ad4.add (Int.toNat i2 * 1)) [(vi e4)] := fun hc => by have k := hq4 hc; have e : cs4 = _ := k.2.1; rw [← e]; exact k.2.2
        refine s_gval (g_true rfl rfl rfl rfl) rfl (fun hc => (y_indexAddr rfl Tryz.underlying24 size_3 (ev_gv et hc) (ev_gv et hc) (lat_bd (hx5 hc)) (hq4 hc).1)) ?_
        refine s_gval (g_true rfl rfl rfl rfl) rfl (fun hc => (y_load1 (v := (vi e4)) rfl (ev_gv et hc) Tryz.underlying3 rfl (hq5 hc).1)) ?_
        refine s_gval (g_true rfl rfl rfl rfl) rfl (fun hc => (y_neq rfl (ev_gv et hc) (ev_gv et hc))) ?_
        refine sq (y_and rfl et et) ?_
        refine nk ?_
        refine c_cond (b := (!decide (i2 = axis1)) && (!decide (e3 = e4))) et (fun hb => ?_) (fun hb => ?_)
        ·replace h := ite_t hb h
         refine sr ?_
         refine sac ?_
         refine s_nil ?_
         refine k_next (e := [(4, (vi 15))]) ⟨rfl, trivial⟩ ?_
         refine c_ret ?_
         obtain rfl := some_inj h
         exact q_ret (vs := [(vi 15)]) Tryz.results71 ⟨ev_tmp rfl rfl, trivial⟩ ⟨rfl, hI.ext0, hI.fin trivial⟩
        ·replace h := ite_f hb h
         refine c_skip ?_
         refine k_same ?_
         refine c_region rfl ?_
         refine sq (y_add rfl et ev_const) ?_
         refine sm ?_
         refine s_nil ?_
         exact k_loop (fuel2, wi64 (i2 + 1)) ⟨rfl, rfl, rfl, rfl, rfl, rfl, rfl, rfl, trivial⟩ ⟨_, hI.arr (.c .z .n) ⟨.z, (.s .z), (.s (.s .z)), (.s (.s (.s .z))), trivial⟩, h⟩ (Nat.lt_succ_self _)
       ·replace h := ite_f hb h
        refine c_exit ?_
        refine k_in ?_
        exact k_join () ⟨rfl, rfl, rfl, rfl, rfl, trivial⟩ ⟨_, hI.arr (.c .z .n) ⟨.z, (.s .z), (.s (.s .z)), trivial⟩, h⟩ rfl
     ·replace h := ite_f hb h
      refine c_exit ?_
      refine k_in ?_
      refine k_same ?_
      refine sr ?_
      refine sac ?_
      refine nk ?_
      refine c_ret ?_
      obtain rfl := some_inj h
      exact q_ret (vs := [(vi 0)]) Tryz.results71 ⟨ev_tmp rfl rfl, trivial⟩ ⟨rfl, hI.ext0, hI.fin trivial⟩
   ·skip
    refine sr ?_
    refine sm ?_
    obtain ⟨zs2, hx6, h⟩ := bnd_some h
    obtain ⟨a7, hB2⟩ : ∃ B : Option Addr, B = (if c1 = Int.toNat 1 then a1 else Option.map (·.add (Int.toNat 1 * 7)) a1) := ⟨_, rfl⟩
    refine sq (y_lfrom rfl Tryz.underlying58 size_27 et ev_const hx6 hB2) ?_
    replace hI := hI.from_ (.s (.s .z)) hx6 hB2
    refine sq (y_lenl rfl Tryz.underlying58 et) ?_
    refine sq (y_move rfl ev_const) ?_
    refine nk ?_
    refine c_block ?_
    refine c_loop (α := Nat × Int) (fun x => fun w => ∃ C, Bun noM F w0 C w [MO.box b1 27 #[(vi e1.Type_.Kind), (vi e1.Type_.Bits), (vi e1.Type_.Frac), (vi e1.Type_.Round), (vi e1.Type_.Over), (vs a2 e1.Dims.length c3), (vs a3 e1.Vals.length c4)]] [Cl.sl cGTensor a1 c1 l1, Cl.sl (cInt .i64) a2 c3 e1.Dims, Cl.sl cGVal a3 c4 e1.Vals, Cl.sl cGTensor a7 (c1 - Int.toNat 1) zs2] ∧ m_tensor_joinable_l3 zs2 e1 axis1 l1 (x.1) (x.2) = some r) (fun x _ => x.1) (fun x => [(0, (vi axis1)), (1, (vs a1 l1.length c1)), (8, (vp b1 0)), (34, (vs a7 zs2.length (c1 - Int.toNat 1))), (35, (vi (zs2.length : Int))), (36, (vi (x.2)))]) (fu, 0) ⟨_, hI.arr (.c .z .n) ⟨(.s (.s (.s .z))), (.s (.s .z)), (.s .z), .z, trivial⟩, h⟩ ⟨rfl, rfl, rfl, rfl, rfl, rfl, trivial⟩ ?_
    clear h hI; rintro ⟨fuel3, i3⟩ w10 ⟨c15, hI, h⟩
    dsimp only at hI h
    rcases fuel3 with _ | fuel3
    ·rw [m_tensor_joinable_l3] at h; cases h
    rw [m_tensor_joinable_l3] at h
    refine c_sub (e := [(0, (vi axis1)), (1, (vs a1 l1.length c1)), (8, (vp b1 0)), (34, (vs a7 zs2.length (c1 - Int.toNat 1))), (35, (vi (zs2.length : Int))), (36, (vi i3))]) ⟨rfl, rfl, rfl, rfl, rfl, rfl, trivial⟩ ?_
    refine sr ?_
    refine sq (y_lss rfl et et) ?_
    refine nk ?_
    refine c_seq ?_
    refine c_cond (b := decide (i3 < (zs2.length : Int))) et (fun hb => ?_) (fun hb => ?_)
    ·replace h := ite_t hb h
     refine c_skip ?_
     refine k_same ?_
     refine c_seq ?_
     refine c_block ?_
     refine sr ?_
     obtain ⟨e5, hx7, h⟩ := bnd_some h
     obtain ⟨ad5, cs5, hA5, hr5, hq6⟩ := hI.clat (.s (.s (.s .z))) hx7
     obtain ⟨a8, c16, a9, c17, rfl, hf5, hf6⟩ := hr5
     have hI := hI.add (c := Cl.sl (cInt .i64) a8 c16 e5.Dims) hf5
     have hI := hI.add (c := Cl.sl cGVal a9 c17 e5.Vals) hf6
     refine sq (y_indexAddr rfl Tryz.underlying58 size_27 et et (lat_bd hx7) hA5) ?_
     refine sq (y_loadN (l := [(vi e5.Type_.Kind), (vi e5.Type_.Bits), (vi e5.Type_.Frac), (vi e5.Type_.Round), (vi e5.Type_.Over), (vs a8 e5.Dims.length c16), (vs a9 e5.Vals.length c17)]) rfl et Tryz.underlying27 rfl size_27 hq6.1) ?_
     refine l_alloc (cs := #[(vi 0), (vi 0), (vi 0), (vi 0), (vi 0), (vs none 0 0), (vs none 0 0)]) hI gn rfl rfl zero_27 rfl ?_
     clear hI; intro b3 c18 w11 hI
     refine l_store (new := [(vi e5.Type_.Kind), (vi e5.Type_.Bits), (vi e5.Type_.Frac), (vi e5.Type_.Round), (vi e5.Type_.Over), (vs a8 e5.Dims.length c16), (vs a9 e5.Vals.length c17)]) (cs' := #[(vi e5.Type_.Kind), (vi e5.Type_.Bits), (vi e5.Type_.Frac), (vi e5.Type_.Round), (vi e5.Type_.Over), (vs a8 e5.Dims.length c16), (vs a9 e5.Vals.length c17)]) hI .z gn rfl rfl et et rfl size_27 rfl rfl rfl ?_
     clear hI; intro c19 w12 hI
     refine nk ?_
     refine c_seq ?_
     refine sr ?_
     refine sq (y_fieldAddr rfl et Tryz.underlying27 rfl size_23 rfl) ?_
     refine sq (y_loadN (l := [(vi e5.Type_.Kind), (vi e5.Type_.Bits), (vi e5.Type_.Frac), (vi e5.Type_.Round), (vi e5.Type_.Over)]) rfl et Tryz.underlying23 rfl size_23 (CellsAt.of_blk (hI.blk .z) rfl)) ?_
     refine sq (y_fieldAddr rfl et Tryz.underlying27 rfl size_23 rfl) ?_
     refine sq (y_loadN (l := [(vi e1.Type_.Kind), (vi e1.Type_.Bits), (vi e1.Type_.Frac), (vi e1.Type_.Round), (vi e1.Type_.Over)]) rfl et Tryz.underlying23 rfl size_23 (CellsAt.of_blk (hI.blk (.s .z)) rfl)) ?_
     refine sq (y_bin rfl et et (eqstruct_23n ..) (eqguard_23 ..)) ?_
     refine nk ?_
     refine c_cond (b := !((decide (e5.Type_.Kind = e1.Type_.Kind)) && (decide (e5.Type_.Bits = e1.Type_.Bits)) && (decide (e5.Type_.Frac = e1.Type_.Frac)) && (decide (e5.Type_.Round = e1.Type_.Round)) && (decide (e5.Type_.Over = e1.Type_.Over)))) et (fun hb => ?_) (fun hb => ?_)
     ·replace h := ite_t hb h
      refine sr ?_
      refine sac ?_
      refine nk ?_
      refine c_ret ?_
      obtain rfl := some_inj h
      exact q_ret (vs := [(vi 10)]) Tryz.results71 ⟨ev_tmp rfl rfl, trivial⟩ ⟨rfl, hI.ext0, hI.fin trivial⟩
     ·replace h := ite_f hb h
      refine c_skip ?_
      refine k_same ?_
      refine sr ?_
      refine sq (y_fieldAddr rfl et Tryz.underlying27 rfl size_24 rfl) ?_
      refine sq (y_load1 (v := (vs a8 e5.Dims.length c16)) rfl et Tryz.underlying24 rfl (CellsAt.of_blk (hI.blk .z) rfl)) ?_
      refine sq (y_lenl rfl Tryz.underlying24 et) ?_
      refine sq (y_fieldAddr rfl et Tryz.underlying27 rfl size_24 rfl) ?_
      refine sq (y_load1 (v := (vs a2 e1.Dims.length c3)) rfl et Tryz.underlying24 rfl (CellsAt.of_blk (hI.blk (.s .z)) rfl)) ?_
      refine sq (y_lenl rfl Tryz.underlying24 et) ?_
      refine sq (y_neq rfl et et) ?_
      refine nk ?_
      refine c_cond (b := !decide ((e5.Dims.length : Int) = (e1.Dims.length : Int))) et (fun hb => ?_) (fun hb => ?_)
      ·replace h := ite_t hb h
       refine sr ?_
       refine sac ?_
       refine nk ?_
       refine c_ret ?_
       obtain rfl := some_inj h
       exact q_ret (vs := [(vi 11)]) Tryz.results71 ⟨ev_tmp rfl rfl, trivial⟩ ⟨rfl, hI.ext0, hI.fin trivial⟩
      ·replace h := ite_f hb h
       refine c_skip ?_
       refine k_same ?_
       refine c_region rfl ?_
       refine sq (y_add rfl et ev_const) ?_
       refine sm ?_
       refine s_nil ?_
       exact k_loop (fuel3, wi64 (i3 + 1)) ⟨rfl, rfl, rfl, rfl, rfl, rfl, trivial⟩ ⟨_, hI.arr (.c (.s .z) .n) ⟨(.s (.s .z)), (.s (.s (.s .z))), (.s (.s (.s (.s .z)))), (.s (.s (.s (.s (.s .z))))), trivial⟩, h⟩ (Nat.lt_succ_self _)
    ·replace h := ite_f hb h
     refine c_exit ?_
     refine k_in ?_
     exact k_join () ⟨rfl, rfl, rfl, trivial⟩ ⟨_, hI.arr (.c .z .n) ⟨.z, (.s .z), (.s (.s .z)), trivial⟩, h⟩ rfl
  ·skip
   refine sr ?_
   refine sm ?_
   refine sq (y_lenl rfl Tryz.underlying58 et) ?_
   refine sq (y_move rfl ev_const) ?_
   refine nk ?_
   refine c_block ?_
   refine c_loop (α := Nat × Int) (fun x => fun w => ∃ C, Bun noM F w0 C w [] [Cl.sl cGTensor a1 c1 l1] ∧ m_tensor_joinable_l4 l1 axis1 (x.1) (x.2) = some r) (fun x _ => x.1) (fun x => [(0, (vi axis1)), (1, (vs a1 l1.length c1)), (18, (vs a1 l1.length c1)), (19, (vi (l1.length : Int))), (20, (vi (x.2)))]) (fu, 0) ⟨_, hI.arr .n ⟨.z, trivial⟩, h⟩ ⟨rfl, rfl, rfl, rfl, rfl, trivial⟩ ?_
   clear h hI; rintro ⟨fuel4, i4⟩ w13 ⟨c20, hI, h⟩
   dsimp only at hI h
   rcases fuel4 with _ | fuel4
   ·rw [m_tensor_joinable_l4] at h; cases h
   rw [m_tensor_joinable_l4] at h
   refine c_sub (e := [(0, (vi axis1)), (1, (vs a1 l1.length c1)), (18, (vs a1 l1.length c1)), (19, (vi (l1.length : Int))), (20, (vi i4))]) ⟨rfl, rfl, rfl, rfl, rfl, trivial⟩ ?_
   refine sr ?_
   refine sq (y_lss rfl et et) ?_
   refine nk ?_
   refine c_seq ?_
   refine c_cond (b := decide (i4 < (l1.length : Int))) et (fun hb => ?_) (fun hb => ?_)
   ·replace h := ite_t hb h
    refine c_skip ?_
    refine k_same ?_
    refine c_seq ?_
    refine c_block ?_
    refine sr ?_
    obtain ⟨e6, hx8, h⟩ := bnd_some h
    obtain ⟨ad6, cs6, hA6, hr6, hq7⟩ := hI.clat .z hx8
    obtain ⟨a10, c21, a11, c22, rfl, hf7, hf8⟩ := hr6
    have hI := hI.add (c := Cl.sl (cInt .i64) a10 c21 e6.Dims) hf7
    have hI := hI.add (c := Cl.sl cGVal a11 c22 e6.Vals) hf8
    refine sq (y_indexAddr rfl Tryz.underlying58 size_27 et et (lat_bd hx8) hA6) ?_
    refine sq (y_loadN (l := [(vi e6.Type_.Kind), (vi e6.Type_.Bits), (vi e6.Type_.Frac), (vi e6.Type_.Round), (vi e6.Type_.Over), (vs a10 e6.Dims.length c21), (vs a11 e6.Vals.length c22)]) rfl et Tryz.underlying27 rfl size_27 hq7.1) ?_
    refine l_alloc (cs := #[(vi 0), (vi 0), (vi 0), (vi 0), (vi 0), (vs none 0 0), (vs none 0 0)]) hI gn rfl rfl zero_27 rfl ?_
    clear hI; intro b4 c23 w14 hI
    refine l_store (new := [(vi e6.Type_.Kind), (vi e6.Type_.Bits), (vi e6.Type_.Frac), (vi e6.Type_.Round), (vi e6.Type_.Over), (vs a10 e6.Dims.length c21), (vs a11 e6.Vals.length c22)]) (cs' := #[(vi e6.Type_.Kind), (vi e6.Type_.Bits), (vi e6.Type_.Frac), (vi e6.Type_.Round), (vi e6.Type_.Over), (vs a10 e6.Dims.length c21), (vs a11 e6.Vals.length c22)]) hI .z gn rfl rfl et et rfl size_27 rfl rfl rfl ?_
    clear hI; intro c24 w15 hI
    refine nk ?_
    refine sr ?_
    refine sq (y_loadN (l := [(vi e6.Type_.Kind), (vi e6.Type_.Bits), (vi e6.Type_.Frac), (vi e6.Type_.Round), (vi e6.Type_.Over), (vs a10 e6.Dims.length c21), (vs a11 e6.Vals.length c22)]) rfl et Tryz.underlying27 rfl size_27 (CellsAt.of_blk (hI.blk .z) rfl)) ?_
    obtain ⟨r1, hx9, h⟩ := bnd_some h
    refine s_call gn rfl (r_callF (vs := [(Value.agg #[(vi e6.Type_.Kind), (vi e6.Type_.Bits), (vi e6.Type_.Frac), (vi e6.Type_.Round), (vi e6.Type_.Over), (vs a10 e6.Dims.length c21), (vs a11 e6.Vals.length c22)])]) rfl ok_25 ⟨et, trivial⟩) (Calls.mono (c_tensor_Validate (Dj F c24) w15 hI.lt e6 a10 c21 a11 c22 ⟨(hI.get (.s .z)), (hI.get .z), trivial⟩ r1 hx9) ?_)
    rintro _ w16 ⟨rfl, hx10, hl1⟩
    refine ⟨_, rfl, ?_⟩
    replace hI := (hI.ext hx10)
    refine sa ?_
    refine nk ?_
    refine sr ?_
    refine sm ?_
    refine sq (y_neq rfl et ev_const) ?_
    refine nk ?_
    refine c_cond (b := !decide (r1 = 0)) et (fun hb => ?_) (fun hb => ?_)
    ·replace h := ite_t hb h
     refine sr ?_
     refine sm ?_
     refine sa ?_
     refine nk ?_
     refine c_ret ?_
     obtain rfl := some_inj h
     exact q_ret (vs := [(vi r1)]) Tryz.results71 ⟨ev_tmp rfl rfl, trivial⟩ ⟨rfl, hI.ext0, hI.fin trivial⟩
    ·replace h := ite_f hb h
     refine c_skip ?_
     refine k_same ?_
     refine c_region rfl ?_
     refine sq (y_add rfl et ev_const) ?_
     refine sm ?_
     refine s_nil ?_
     exact k_loop (fuel4, wi64 (i4 + 1)) ⟨rfl, rfl, rfl, rfl, rfl, trivial⟩ ⟨_, hI.arr .n ⟨(.s (.s .z)), trivial⟩, h⟩ (Nat.lt_succ_self _)
   ·replace h := ite_f hb h
    refine c_exit ?_
    refine k_in ?_
    exact k_join () ⟨rfl, rfl, trivial⟩ ⟨_, hI.arr .n ⟨.z, trivial⟩, h⟩ rfl

def tr_tensor_Concat_1_0 : Tr := (.c (11, .s) .n)
set_option maxRecDepth 100000 in
set_option maxHeartbeats 4000000 in
theorem c_tensor_Concat (F : NP) (w0 : World) (hF : ∀ k, F k → k < w0.heap.size) (axis1 : Int) (l1 : List GTensor) (a1 : Option Addr) (c1 : Nat) (hc : AllCl [Cl.sl cGTensor a1 c1 l1] F w0) (r : GTensor × Int)
  (h : m_tensor_Concat axis1 l1 = some r) :
  Calls Tryz.prog 38 #[(vi axis1), (vs a1 l1.length c1)] w0 fun e w => ∃ (a2 : Option Addr) (c2 : Nat) (a3 : Option Addr) (c3 : Nat), e = .returned (Value.tuple #[(Value.agg #[(vi r.1.Type_.Kind), (vi r.1.Type_.Bits), (vi r.1.Type_.Frac), (vi r.1.Type_.Round), (vi r.1.Type_.Over), (vs a2 r.1.Dims.length c2), (vs a3 r.1.Vals.length c3)]), (vi r.2)]) ∧ Ext w0 w ∧ AllCl [Cl.sl (cInt .i64) a2 c2 r.1.Dims, Cl.sl cGVal a3 c3 r.1.Vals] F w := by
 refine enterK (l := [(vi axis1), (vs a1 l1.length c1)]) Tryz.func38 rfl Tryz.ntmps38 rfl ?_
 have hI := Bun.start hF hc
 clear hc
 rw [m_tensor_Concat] at h
 refine sr ?_
 refine l_alloc (cs := #[(vi 0), (vi 0), (vi 0), (vi 0), (vi 0), (vs none 0 0), (vs none 0 0)]) hI gn rfl rfl zero_27 rfl ?_
 clear hI; intro b1 c4 w1 hI
 refine sac ?_
 refine nk ?_
 refine c_seq ?_
 refine sr ?_
 refine sm ?_
 refine sm ?_
 obtain ⟨r1, hx1, h⟩ := bnd_some h
 refine s_call gn rfl (r_callF (vs := [(vi axis1), (vs a1 l1.length c1)]) rfl ok_71 ⟨et, ⟨et, trivial⟩⟩) (Calls.mono (c_tensor_joinable (Dj F c4) w1 hI.lt axis1 l1 a1 c1 ⟨(hI.get .z), trivial⟩ r1 hx1) ?_)
 rintro _ w2 ⟨rfl, hx2, hl1⟩
 refine ⟨_, rfl, ?_⟩
 replace hI := (hI.ext hx2)
 refine sa ?_
 refine nk ?_
 refine sr ?_
 refine sm ?_
 refine sq (y_neq rfl et ev_const) ?_
 refine nk ?_
 refine c_cond (b := !decide (r1 = 0)) et (fun hb => ?_) (fun hb => ?_)
 ·replace h := ite_t hb h
  refine sr ?_
  refine sq (y_build (vs := []) (cs := #[(vi 0), (vi 0), (vi 0), (vi 0), (vi 0), (vs none 0 0), (vs none 0 0)]) rfl trivial (by kernel_rfl)) ?_
  refine sm ?_
  refine l_store (new := [(vi 0), (vi 0), (vi 0), (vi 0), (vi 0), (vs none 0 0), (vs none 0 0)]) (cs' := #[(vi 0), (vi 0), (vi 0), (vi 0), (vi 0), (vs none 0 0), (vs none 0 0)]) hI .z gn rfl rfl et et rfl size_27 rfl rfl rfl ?_
  clear hI; intro c5 w3 hI
  refine sa ?_
  refine nk ?_
  refine c_ret ?_
  have hI := hI.add (c := Cl.sl (cInt .i64) none 0 ([] : List Int)) SlC.nil
  have hI := hI.add (c := Cl.sl cGVal none 0 ([] : List GVal)) SlC.nil
  obtain rfl := some_inj h
  exact q_ret (vs := [(Value.agg #[(vi 0), (vi 0), (vi 0), (vi 0), (vi 0), (vs none 0 0), (vs none 0 0)]), (vi r1)]) Tryz.results38 ⟨⟨_, ev_tmp rfl rfl, load_agg (l := [(vi 0), (vi 0), (vi 0), (vi 0), (vi 0), (vs none 0 0), (vs none 0 0)]) Tryz.underlying27 rfl size_27 (CellsAt.of_blk (hI.blk .z) rfl)⟩, ⟨ev_tmp rfl rfl, trivial⟩⟩ ⟨none, 0, none, 0, rfl, hI.ext0, hI.fin ⟨(.s .z), .z, trivial⟩⟩
 ·replace h := ite_f hb h
  refine c_skip ?_
  refine k_same ?_
  refine sr ?_
  refine sac ?_
  refine nk ?_
  refine c_join (α := Unit) (fun _ => ⟨116, []⟩) (fun _ => [(0, (vi axis1)), (1, (vs a1 l1.length c1)), (4, (vp b1 0))]) (fun _ => fun w => ∃ C, Bun noM F w0 C w [MO.box b1 27 #[(vi 0), (vi 0), (vi 0), (vi 0), (vi 0), (vs none 0 0), (vs none 0 0)]] [Cl.sl cGTensor a1 c1 l1] ∧ m_tensor_Concat_j1 l1 axis1 = some r) ?_ ?_
  ·clear h hI; rintro _ w4 ⟨c6, hI, h⟩
   try dsimp only at hI h
   rw [m_tensor_Concat_j1] at h
   refine c_sub (e := [(0, (vi axis1)), (1, (vs a1 l1.length c1)), (4, (vp b1 0))]) ⟨rfl, rfl, rfl, trivial⟩ ?_
   refine c_seq ?_
   obtain ⟨e1, hx3, h⟩ := bnd_some h
   obtain ⟨e2, hx4, h⟩ := bnd_some h
   obtain ⟨zs1, hx5, h⟩ := bnd_some h
   refine c_drawX [11] false (.c (0, .q) (.c (1, .q) (.c (2, .q) (.c (3, .q) (.c (4, .q) (.c (5, .q) (.c (6, .q) (.c (7, .q) (.two 8 (.c (9, .q) (.c (10, .s) tr_tensor_Concat_1_0)) 10 (.c (8, .s) (.c (9, .q) tr_tensor_Concat_1_0))))))))))) hI (by kernel_rfl) (by kernel_rfl) ?_
   clear hI; intro w9 hI
   refine a_join (α := (Option Addr) × Nat × (Option Addr) × Nat × (Option Addr) × Nat × (Option Addr) × Nat × (Option Addr) × Nat × Nat × NP) (T := tr_tensor_Concat_1_0) (fun x => [(0, (vi axis1)), (1, (vs a1 l1.length c1)), (4, (vp b1 0)), (10, (Value.pointer (some ⟨(x.2.2.2.2.2.2.2.2.2.2.1), 0, none⟩))), (42, (vs a1 l1.length c1)), (45, (Value.agg #[(vi e1.Type_.Kind), (vi e1.Type_.Bits), (vi e1.Type_.Frac), (vi e1.Type_.Round), (vi e1.Type_.Over)])), (46, (vs a1 l1.length c1)), (49, (vs (x.2.2.2.2.1) e2.Dims.length (x.2.2.2.2.2.1))), (50, (vs (x.2.2.2.2.2.2.2.2.1) zs1.length (x.2.2.2.2.2.2.2.2.2.1))), (51, (Value.agg #[(vi e1.Type_.Kind), (vi e1.Type_.Bits), (vi e1.Type_.Frac), (vi e1.Type_.Round), (vi e1.Type_.Over), (vs (x.2.2.2.2.2.2.2.2.1) zs1.length (x.2.2.2.2.2.2.2.2.2.1)), (vs none 0 0)]))]) (fun x w => Bun noM F w0 (x.2.2.2.2.2.2.2.2.2.2.2) w [MO.row (cInt .i64) 3 (x.2.2.2.2.2.2.2.2.1) (x.2.2.2.2.2.2.2.2.2.1) zs1, MO.box (x.2.2.2.2.2.2.2.2.2.2.1) 27 #[(vi 0), (vi 0), (vi 0), (vi 0), (vi 0), (vs none 0 0), (vs none 0 0)], MO.box b1 27 #[(vi 0), (vi 0), (vi 0), (vi 0), (vi 0), (vs none 0 0), (vs none 0 0)]] [Cl.sl cGVal (x.2.2.2.2.2.2.1) (x.2.2.2.2.2.2.2.1) e2.Vals, Cl.sl (cInt .i64) (x.2.2.2.2.1) (x.2.2.2.2.2.1) e2.Dims, Cl.sl cGVal (x.2.2.1) (x.2.2.2.1) e1.Vals, Cl.sl (cInt .i64) (x.1) (x.2.1) e1.Dims, Cl.sl cGTensor a1 c1 l1]) (fun x w => SN [11] (DM false F (x.2.2.2.2.2.2.2.2.2.2.2)) w) ?_ ?_
   ·clear hI; rintro ⟨a4, c7, a5, c8, a6, c9, a7, c10, a8, c11, b2, c15⟩ w8 hI
    try dsimp only at hI ⊢
    unfold tr_tensor_Concat_1_0
    refine a_turn (F := F) (C := c15) rfl rfl ?_
    refine la_store (new := [(vi e1.Type_.Kind), (vi e1.Type_.Bits), (vi e1.Type_.Frac), (vi e1.Type_.Round), (vi e1.Type_.Over), (vs a8 zs1.length c11), (vs none 0 0)]) (cs' := #[(vi e1.Type_.Kind), (vi e1.Type_.Bits), (vi e1.Type_.Frac), (vi e1.Type_.Round), (vi e1.Type_.Over), (vs a8 zs1.length c11), (vs none 0 0)]) hI (.s .z) rfl gn rfl rfl et et rfl size_27 rfl rfl rfl ?_
    clear hI; intro c14 w7 hI
    refine a_nil ?_
    refine k_same ?_
    refine c_join (α := GTensor × (Option Addr) × Nat × (Option Addr) × Nat) (fun _ => ⟨116, []⟩) (fun x => [(0, (vi axis1)), (1, (vs a1 l1.length c1)), (4, (vp b1 0)), (10, (vp b2 0))]) (fun x => fun w => ∃ C, Bun noM F w0 C w [MO.row (cInt .i64) 3 (x.2.1) (x.2.2.1) (x.1).Dims, MO.row cGVal 36 (x.2.2.2.1) (x.2.2.2.2) (x.1).Vals, MO.box b1 27 #[(vi 0), (vi 0), (vi 0), (vi 0), (vi 0), (vs none 0 0), (vs none 0 0)], MO.box b2 27 #[(vi (x.1).Type_.Kind), (vi (x.1).Type_.Bits), (vi (x.1).Type_.Frac), (vi (x.1).Type_.Round), (vi (x.1).Type_.Over), (vs (x.2.1) (x.1).Dims.length (x.2.2.1)), (vs (x.2.2.2.1) (x.1).Vals.length (x.2.2.2.2))]] [Cl.sl cGTensor a1 c1 l1] ∧ m_tensor_Concat_j2 l1 axis1 (x.1) = some r) ?_ ?_
    ·clear h hI; rintro ⟨out1, a9, c16, a10, c17⟩ w10 ⟨c18, hI, h⟩
     try dsimp only at hI h
     rw [m_tensor_Concat_j2] at h
     refine c_sub (e := [(0, (vi axis1)), (1, (vs a1 l1.length c1)), (4, (vp b1 0)), (10, (vp b2 0))]) ⟨rfl, rfl, rfl, rfl, trivial⟩ ?_
     refine sr ?_
     refine sm ?_
     obtain ⟨e3, hx6, h⟩ := bnd_some h
     obtain ⟨ad3, cs3, hA3, hr3, hq3⟩ := hI.clat .z hx6
     obtain ⟨a11, c19, a12, c20, rfl, hf5, hf6⟩ := hr3
     have hI := hI.add (c := Cl.sl (cInt .i64) a11 c19 e3.Dims) hf5
     have hI := hI.add (c := Cl.sl cGVal a12 c20 e3.Vals) hf6
     refine sq (y_indexAddr rfl Tryz.underlying58 size_27 et ev_const (lat_bd hx6) hA3) ?_
     refine sq (y_fieldAddr rfl et Tryz.underlying27 rfl size_24 rfl) ?_
     refine sq (y_load1 (v := (vs a11 e3.Dims.length c19)) rfl et Tryz.underlying24 rfl (CA.part hq3 rfl).1) ?_
     refine sm ?_
     obtain ⟨r2, hx7, h⟩ := bnd_some h
     refine s_call gn rfl (r_callF (vs := [(vs a11 e3.Dims.length c19), (vi axis1)]) rfl ok_72 ⟨et, ⟨et, trivial⟩⟩) (Calls.mono (c_tensor_split (Dj F c18) w10 hI.lt e3.Dims axis1 a11 c19 ⟨(hI.get (.s .z)), trivial⟩ r2 hx7) ?_)
     rintro _ w11 ⟨rfl, hx8, hl2⟩
     refine ⟨_, rfl, ?_⟩
     replace hI := (hI.ext hx8)
     refine sm ?_
     refine sq (y_extract rfl et rfl) ?_
     refine sq (y_extract rfl et rfl) ?_
     refine sq (y_extract rfl et rfl) ?_
     refine sa ?_
     refine sa ?_
     refine sa ?_
     refine nk ?_
     refine c_seq ?_
     refine sr ?_
     refine sm ?_
     refine sq (y_move rfl ev_const) ?_
     refine nk ?_
     refine c_block ?_
     refine c_loop (α := Nat × Int × GTensor × (Option Addr) × Nat × (Option Addr) × Nat) (fun x => fun w => ∃ C, Bun noM F w0 C w [MO.row (cInt .i64) 3 (x.2.2.2.1) (x.2.2.2.2.1) (x.2.2.1).Dims, MO.row cGVal 36 (x.2.2.2.2.2.1) (x.2.2.2.2.2.2) (x.2.2.1).Vals, MO.box b1 27 #[(vi 0), (vi 0), (vi 0), (vi 0), (vi 0), (vs none 0 0), (vs none 0 0)], MO.box b2 27 #[(vi (x.2.2.1).Type_.Kind), (vi (x.2.2.1).Type_.Bits), (vi (x.2.2.1).Type_.Frac), (vi (x.2.2.1).Type_.Round), (vi (x.2.2.1).Type_.Over), (vs (x.2.2.2.1) (x.2.2.1).Dims.length (x.2.2.2.2.1)), (vs (x.2.2.2.2.2.1) (x.2.2.1).Vals.length (x.2.2.2.2.2.2))]] [Cl.sl cGTensor a1 c1 l1] ∧ m_tensor_Concat_l1 r2 l1 axis1 (x.1) (x.2.1) (x.2.2.1) = some r) (fun x _ => x.1) (fun x => [(0, (vi axis1)), (1, (vs a1 l1.length c1)), (4, (vp b1 0)), (10, (vp b2 0)), (15, (vi r2.2.2)), (82, (vi r2.1)), (83, (vi (x.2.1)))]) (fu, 0, out1, a9, c16, a10, c17) ⟨_, hI.arr (.c .z (.c .z (.c .z (.c .z .n)))) ⟨(.s (.s .z)), trivial⟩, h⟩ ⟨rfl, rfl, rfl, rfl, rfl, rfl, rfl, trivial⟩ ?_
     clear h hI; rintro ⟨fuel1, i1, out2, a13, c21, a14, c22⟩ w12 ⟨c23, hI, h⟩
     dsimp only at hI h
     rcases fuel1 with _ | fuel1
     ·rw [m_tensor_Concat_l1] at h; cases h
     rw [m_tensor_Concat_l1] at h
     refine c_sub (e := [(0, (vi axis1)), (1, (vs a1 l1.length c1)), (4, (vp b1 0)), (10, (vp b2 0)), (15, (vi r2.2.2)), (82, (vi r2.1)), (83, (vi i1))]) ⟨rfl, rfl, rfl, rfl, rfl, rfl, rfl, trivial⟩ ?_
     refine sr ?_
     refine sq (y_lss rfl et et) ?_
     refine nk ?_
     refine c_seq ?_
     refine c_cond (b := decide (i1 < r2.1)) et (fun hb => ?_) (fun hb => ?_)
     ·replace h := ite_t hb h
      refine c_skip ?_
      refine k_same ?_
      refine c_join (α := GTensor × (Option Addr) × Nat × (Option Addr) × Nat) (fun _ => ⟨116, []⟩) (fun x => [(0, (vi axis1)), (1, (vs a1 l1.length c1)), (4, (vp b1 0)), (10, (vp b2 0)), (15, (vi r2.2.2)), (82, (vi r2.1)), (83, (vi i1))]) (fun x => fun w => ∃ C, Bun noM F w0 C w [MO.row (cInt .i64) 3 (x.2.1) (x.2.2.1) (x.1).Dims, MO.row cGVal 36 (x.2.2.2.1) (x.2.2.2.2) (x.1).Vals, MO.box b1 27 #[(vi 0), (vi 0), (vi 0), (vi 0), (vi 0), (vs none 0 0), (vs none 0 0)], MO.box b2 27 #[(vi (x.1).Type_.Kind), (vi (x.1).Type_.Bits), (vi (x.1).Type_.Frac), (vi (x.1).Type_.Round), (vi (x.1).Type_.Over), (vs (x.2.1) (x.1).Dims.length (x.2.2.1)), (vs (x.2.2.2.1) (x.1).Vals.length (x.2.2.2.2))]] [Cl.sl cGTensor a1 c1 l1] ∧ m_tensor_Concat_j3 (m_tensor_Concat_l1 r2 l1 axis1 fuel1) i1 (x.1) = some r) ?_ ?_
      ·clear h hI; rintro ⟨out3, a15, c24, a16, c25⟩ w13 ⟨c26, hI, h⟩
       try dsimp only at hI h
       rw [m_tensor_Concat_j3] at h
       refine c_sub (e := [(0, (vi axis1)), (1, (vs a1 l1.length c1)), (4, (vp b1 0)), (10, (vp b2 0)), (15, (vi r2.2.2)), (82, (vi r2.1)), (83, (vi i1))]) ⟨rfl, rfl, rfl, rfl, rfl, rfl, rfl, trivial⟩ ?_
       refine c_region rfl ?_
       refine sq (y_add rfl et ev_const) ?_
       refine sm ?_
       refine s_nil ?_
       exact k_loop (fuel1, wi64 (i1 + 1), out3, a15, c24, a16, c25) ⟨rfl, rfl, rfl, rfl, rfl, rfl, rfl, trivial⟩ ⟨_, hI.arr (.c .z (.c .z (.c .z (.c .z .n)))) ⟨.z, trivial⟩, h⟩ (Nat.lt_succ_self _)
      ·skip
       refine c_block ?_
       refine sr ?_
       refine sm ?_
       refine sa ?_
       refine nk ?_
       refine sr ?_
       refine sm ?_
       refine sq (y_lenl rfl Tryz.underlying58 et) ?_
       refine sq (y_move rfl ev_const) ?_
       refine nk ?_
       refine c_block ?_
       refine c_loop (α := Nat × Int × GTensor × (Option Addr) × Nat × (Option Addr) × Nat) (fun x => fun w => ∃ C, Bun noM F w0 C w [MO.row (cInt .i64) 3 (x.2.2.2.1) (x.2.2.2.2.1) (x.2.2.1).Dims, MO.row cGVal 36 (x.2.2.2.2.2.1) (x.2.2.2.2.2.2) (x.2.2.1).Vals, MO.box b1 27 #[(vi 0), (vi 0), (vi 0), (vi 0), (vi 0), (vs none 0 0), (vs none 0 0)], MO.box b2 27 #[(vi (x.2.2.1).Type_.Kind), (vi (x.2.2.1).Type_.Bits), (vi (x.2.2.1).Type_.Frac), (vi (x.2.2.1).Type_.Round), (vi (x.2.2.1).Type_.Over), (vs (x.2.2.2.1) (x.2.2.1).Dims.length (x.2.2.2.2.1)), (vs (x.2.2.2.2.2.1) (x.2.2.1).Vals.length (x.2.2.2.2.2.2))]] [Cl.sl cGTensor a1 c1 l1] ∧ m_tensor_Concat_l2 l1 axis1 i1 r2 (m_tensor_Concat_l1 r2 l1 axis1 fuel1) (x.1) (x.2.1) (x.2.2.1) = some r) (fun x _ => x.1) (fun x => [(0, (vi axis1)), (1, (vs a1 l1.length c1)), (4, (vp b1 0)), (10, (vp b2 0)), (15, (vi r2.2.2)), (82, (vi r2.1)), (83, (vi i1)), (16, (vi i1)), (86, (vs a1 l1.length c1)), (87, (vi (l1.length : Int))), (88, (vi (x.2.1)))]) (fu, 0, out2, a13, c21, a14, c22) ⟨_, hI.arr (.c .z (.c .z (.c .z (.c .z .n)))) ⟨.z, trivial⟩, h⟩ ⟨rfl, rfl, rfl, rfl, rfl, rfl, rfl, rfl, rfl, rfl, rfl, trivial⟩ ?_
       clear h hI; rintro ⟨fuel2, i2, out4, a17, c27, a18, c28⟩ w14 ⟨c29, hI, h⟩
       dsimp only at hI h
       rcases fuel2 with _ | fuel2
       ·rw [m_tensor_Concat_l2] at h; cases h
       rw [m_tensor_Concat_l2] at h
       refine c_sub (e := [(0, (vi axis1)), (1, (vs a1 l1.length c1)), (4, (vp b1 0)), (10, (vp b2 0)), (15, (vi r2.2.2)), (82, (vi r2.1)), (83, (vi i1)), (16, (vi i1)), (86, (vs a1 l1.length c1)), (87, (vi (l1.length : Int))), (88, (vi i2))]) ⟨rfl, rfl, rfl, rfl, rfl, rfl, rfl, rfl, rfl, rfl, rfl, trivial⟩ ?_
       refine sr ?_
       refine sq (y_lss rfl et et) ?_
       refine nk ?_
       refine c_seq ?_
       refine c_cond (b := decide (i2 < (l1.length : Int))) et (fun hb => ?_) (fun hb => ?_)
       ·replace h := ite_t hb h
        refine c_skip ?_
        refine k_same ?_
        refine c_seq ?_
        refine c_block ?_
        refine sr ?_
        obtain ⟨e4, hx9, h⟩ := bnd_some h
        obtain ⟨ad4, cs4, hA4, hr4, hq4⟩ := hI.clat .z hx9
        obtain ⟨a19, c30, a20, c31, rfl, hf7, hf8⟩ := hr4
        have hI := hI.add (c := Cl.sl (cInt .i64) a19 c30 e4.Dims) hf7
        have hI := hI.add (c := Cl.sl cGVal a20 c31 e4.Vals) hf8
        refine sq (y_indexAddr rfl Tryz.underlying58 size_27 et et (lat_bd hx9) hA4) ?_
        refine sq (y_loadN (l := [(vi e4.Type_.Kind), (vi e4.Type_.Bits), (vi e4.Type_.Frac), (vi e4.Type_.Round), (vi e4.Type_.Over), (vs a19 e4.Dims.length c30), (vs a20 e4.Vals.length c31)]) rfl et Tryz.underlying27 rfl size_27 hq4.1) ?_
        refine l_alloc (cs := #[(vi 0), (vi 0), (vi 0), (vi 0), (vi 0), (vs none 0 0), (vs none 0 0)]) hI gn rfl rfl zero_27 rfl ?_
        clear hI; intro b3 c32 w15 hI
        refine l_store (new := [(vi e4.Type_.Kind), (vi e4.Type_.Bits), (vi e4.Type_.Frac), (vi e4.Type_.Round), (vi e4.Type_.Over), (vs a19 e4.Dims.length c30), (vs a20 e4.Vals.length c31)]) (cs' := #[(vi e4.Type_.Kind), (vi e4.Type_.Bits), (vi e4.Type_.Frac), (vi e4.Type_.Round), (vi e4.Type_.Over), (vs a19 e4.Dims.length c30), (vs a20 e4.Vals.length c31)]) hI .z gn rfl rfl et et rfl size_27 rfl rfl rfl ?_
        clear hI; intro c33 w16 hI
        refine nk ?_
        refine sr ?_
        refine sq (y_fieldAddr rfl et Tryz.underlying27 rfl size_24 rfl) ?_
        refine sq (y_load1 (v := (vs a19 e4.Dims.length c30)) rfl et Tryz.underlying24 rfl (CellsAt.of_blk (hI.blk .z) rfl)) ?_
        refine sm ?_
        obtain ⟨e5, hx10, h⟩ := bnd_some h
        obtain ⟨ad5, cs5, hA5, hr5, hq5⟩ := hI.clat (.s .z) hx10
        obtain rfl : cs5 = [(vi e5)] := hr5
        refine sq (y_indexAddr rfl Tryz.underlying24 size_3 et et (lat_bd hx10) hA5) ?_
        refine sq (y_load1 (v := (vi e5)) rfl et Tryz.underlying3 rfl hq5.1) ?_
        refine sm ?_
        refine sq (y_mul rfl et et) ?_
        refine sa ?_
        refine nk ?_
        refine c_drawX [12, 14] false (.c (0, .q) (.c (1, .q) (.c (2, .q) (.c (3, .q) (.c (4, .q) (.c (5, .q) (.c (6, .q) (.c (7, .q) (.c (8, .q) (.c (9, .q) (.c (10, .q) (.c (11, .q) (.c (12, .s) (.c (13, .q) (.c (14, .s) .n))))))))))))))) hI (by kernel_rfl) (by kernel_rfl) ?_
        clear hI; intro w17 hI
        refine a_q rfl gn rfl (fun w' => (y_fieldAddr rfl et Tryz.underlying27 rfl size_25 rfl)) ?_
        refine a_read rfl gn rfl (fun w' hw' => (y_load1 (v := (vs a18 out4.Vals.length c28)) rfl et Tryz.underlying25 rfl ((CA.blk (hI.blk (.s (.s (.s (.s .z))))) rfl).at_ (SX.any rfl hw')))) (by kernel_rfl) ?_
        refine a_q rfl gn rfl (fun w' => (y_fieldAddr rfl et Tryz.underlying27 rfl size_25 rfl)) ?_
        refine a_read rfl gn rfl (fun w' hw' => (y_load1 (v := (vs a20 e4.Vals.length c31)) rfl et Tryz.underlying25 rfl ((CA.blk (hI.blk .z) rfl).at_ (SX.any rfl hw')))) (by kernel_rfl) ?_
        refine a_q rfl gn rfl (fun w' => (y_move rfl et)) ?_
        refine a_q rfl gn rfl (fun w' => (y_move rfl et)) ?_
        refine a_q rfl gn rfl (fun w' => (y_mul rfl et et)) ?_
        refine a_q rfl gn rfl (fun w' => (y_move rfl et)) ?_
        refine a_q rfl gn rfl (fun w' => (y_add rfl et ev_const)) ?_
        refine a_q rfl gn rfl (fun w' => (y_move rfl et)) ?_
        refine a_q rfl gn rfl (fun w' => (y_mul rfl et et)) ?_
        obtain ⟨zs2, hx11, h⟩ := bnd_some h
        obtain ⟨a21, hB1⟩ : ∃ B : Option Addr, B = (if c31 = Int.toNat (wi64 (i1 * (wi64 (e5 * r2.2.2)))) then a20 else Option.map (·.add (Int.toNat (wi64 (i1 * (wi64 (e5 * r2.2.2)))) * 2)) a20) := ⟨_, rfl⟩
        refine a_q rfl gn rfl (fun w' => (y_lsub rfl Tryz.underlying25 size_36 et et et hx11 (hI.cap_ .z) hB1)) ?_
        replace hI := hI.sub .z hx11 hB1
        refine a_turn (F := F) (C := c33) rfl rfl ?_
        obtain ⟨zs3, hx12, h⟩ := bnd_some h
        refine la_append (xs := out4.Vals) (ys := zs2) hI (.s (.s .z)) (hI.crd .z) hx12 rfl gn rfl rfl Tryz.underlying25 info_36 rfl rfl et et ?_
        clear hI; intro a22 c34 c35 w18 hI
        refine a_q rfl gn rfl (fun w' => (y_fieldAddr rfl et Tryz.underlying27 rfl size_25 rfl)) ?_
        refine la_store (new := [(vs a22 zs3.length c34)]) (cs' := #[(vi out4.Type_.Kind), (vi out4.Type_.Bits), (vi out4.Type_.Frac), (vi out4.Type_.Round), (vi out4.Type_.Over), (vs a17 out4.Dims.length c27), (vs a22 zs3.length c34)]) hI (.s (.s (.s (.s .z)))) rfl gn rfl rfl et et rfl size_25 rfl rfl rfl ?_
        clear hI; intro c36 w19 hI
        refine a_nil ?_
        refine k_next (e := [(0, (vi axis1)), (1, (vs a1 l1.length c1)), (4, (vp b1 0)), (10, (vp b2 0)), (15, (vi r2.2.2)), (82, (vi r2.1)), (83, (vi i1)), (16, (vi i1)), (86, (vs a1 l1.length c1)), (87, (vi (l1.length : Int))), (88, (vi i2))]) ⟨rfl, rfl, rfl, rfl, rfl, rfl, rfl, rfl, rfl, rfl, rfl, trivial⟩ ?_
        refine c_region rfl ?_
        refine sq (y_add rfl et ev_const) ?_
        refine sm ?_
        refine s_nil ?_
        exact k_loop (fuel2, wi64 (i2 + 1), (⟨out4.Type_, out4.Dims, zs3⟩ : GTensor), a17, c27, a22, c34) ⟨rfl, rfl, rfl, rfl, rfl, rfl, rfl, rfl, rfl, rfl, rfl, trivial⟩ ⟨_, hI.arr (.c (.s .z) (.c (.s .z) (.c (.s .z) (.c (.s .z) .n)))) ⟨(.s (.s (.s .z))), trivial⟩, h⟩ (Nat.lt_succ_self _)
       ·replace h := ite_f hb h
        refine c_exit ?_
        refine k_in ?_
        exact k_join (out4, a17, c27, a18, c28) ⟨rfl, rfl, rfl, rfl, rfl, rfl, rfl, trivial⟩ ⟨_, hI.arr (.c .z (.c .z (.c .z (.c .z .n)))) ⟨.z, trivial⟩, h⟩ rfl
     ·replace h := ite_f hb h
      refine c_exit ?_
      refine k_in ?_
      refine k_same ?_
      refine sr ?_
      refine sq (y_loadN (l := [(vi out2.Type_.Kind), (vi out2.Type_.Bits), (vi out2.Type_.Frac), (vi out2.Type_.Round), (vi out2.Type_.Over), (vs a13 out2.Dims.length c21), (vs a14 out2.Vals.length c22)]) rfl et Tryz.underlying27 rfl size_27 (CellsAt.of_blk (hI.blk (.s (.s (.s .z)))) rfl)) ?_
      refine l_store (new := [(vi out2.Type_.Kind), (vi out2.Type_.Bits), (vi out2.Type_.Frac), (vi out2.Type_.Round), (vi out2.Type_.Over), (vs a13 out2.Dims.length c21), (vs a14 out2.Vals.length c22)]) (cs' := #[(vi out2.Type_.Kind), (vi out2.Type_.Bits), (vi out2.Type_.Frac), (vi out2.Type_.Round), (vi out2.Type_.Over), (vs a13 out2.Dims.length c21), (vs a14 out2.Vals.length c22)]) hI (.s (.s .z)) gn rfl rfl et et rfl size_27 rfl rfl rfl ?_
      clear hI; intro c37 w20 hI
      refine sac ?_
      refine nk ?_
      refine c_ret ?_
      obtain ⟨c38, hI⟩ := hI.release .z
      obtain ⟨c39, hI⟩ := hI.release .z
      obtain rfl := some_inj h
      exact q_ret (vs := [(Value.agg #[(vi out2.Type_.Kind), (vi out2.Type_.Bits), (vi out2.Type_.Frac), (vi out2.Type_.Round), (vi out2.Type_.Over), (vs a13 out2.Dims.length c21), (vs a14 out2.Vals.length c22)]), (vi 0)]) Tryz.results38 ⟨⟨_, ev_tmp rfl rfl, load_agg (l := [(vi out2.Type_.Kind), (vi out2.Type_.Bits), (vi out2.Type_.Frac), (vi out2.Type_.Round), (vi out2.Type_.Over), (vs a13 out2.Dims.length c21), (vs a14 out2.Vals.length c22)]) Tryz.underlying27 rfl size_27 (CellsAt.of_blk (hI.blk .z) rfl)⟩, ⟨ev_tmp rfl rfl, trivial⟩⟩ ⟨a13, c21, a14, c22, rfl, hI.ext0, hI.fin ⟨(.s .z), .z, trivial⟩⟩
    ·skip
     refine sr ?_
     refine sm ?_
     obtain ⟨zs4, hx13, h⟩ := bnd_some h
     obtain ⟨a23, hB2⟩ : ∃ B : Option Addr, B = (if c1 = Int.toNat 1 then a1 else Option.map (·.add (Int.toNat 1 * 7)) a1) := ⟨_, rfl⟩
     refine sq (y_lfrom rfl Tryz.underlying58 size_27 et ev_const hx13 hB2) ?_
     replace hI := hI.from_ (.s (.s (.s (.s .z)))) hx13 hB2
     refine sq (y_lenl rfl Tryz.underlying58 et) ?_
     refine sq (y_move rfl ev_const) ?_
     refine nk ?_
     refine c_block ?_
     have hI := hI.nil cGVal 36 none
     refine c_loop (α := Nat × Int × GTensor × (Option Addr) × Nat × (Option Addr) × Nat) (fun x => fun w => ∃ C, Bun noM F w0 C w [MO.row (cInt .i64) 3 (x.2.2.2.1) (x.2.2.2.2.1) (x.2.2.1).Dims, MO.row cGVal 36 (x.2.2.2.2.2.1) (x.2.2.2.2.2.2) (x.2.2.1).Vals, MO.box b1 27 #[(vi 0), (vi 0), (vi 0), (vi 0), (vi 0), (vs none 0 0), (vs none 0 0)], MO.box b2 27 #[(vi (x.2.2.1).Type_.Kind), (vi (x.2.2.1).Type_.Bits), (vi (x.2.2.1).Type_.Frac), (vi (x.2.2.1).Type_.Round), (vi (x.2.2.1).Type_.Over), (vs (x.2.2.2.1) (x.2.2.1).Dims.length (x.2.2.2.2.1)), (vs (x.2.2.2.2.2.1) (x.2.2.1).Vals.length (x.2.2.2.2.2.2))]] [Cl.sl cGTensor a1 c1 l1, Cl.sl cGTensor a23 (c1 - Int.toNat 1) zs4] ∧ m_tensor_Concat_l3 zs4 axis1 l1 (x.1) (x.2.1) (x.2.2.1) = some r) (fun x _ => x.1) (fun x => [(0, (vi axis1)), (1, (vs a1 l1.length c1)), (4, (vp b1 0)), (10, (vp b2 0)), (53, (vs a23 zs4.length (c1 - Int.toNat 1))), (54, (vi (zs4.length : Int))), (55, (vi (x.2.1)))]) (fu, 0, (⟨e1.Type_, zs1, ([] : List GVal)⟩ : GTensor), a8, c11, none, 0) ⟨_, hI.arr (.c (.s .z) (.c .z (.c (.s .z) (.c .z .n)))) ⟨(.s (.s (.s (.s (.s .z))))), .z, trivial⟩, h⟩ ⟨rfl, rfl, rfl, rfl, rfl, rfl, rfl, trivial⟩ ?_
     clear h hI; rintro ⟨fuel3, i3, out5, a24, c40, a25, c41⟩ w21 ⟨c42, hI, h⟩
     dsimp only at hI h
     rcases fuel3 with _ | fuel3
     ·rw [m_tensor_Concat_l3] at h; cases h
     rw [m_tensor_Concat_l3] at h
     refine c_sub (e := [(0, (vi axis1)), (1, (vs a1 l1.length c1)), (4, (vp b1 0)), (10, (vp b2 0)), (53, (vs a23 zs4.length (c1 - Int.toNat 1))), (54, (vi (zs4.length : Int))), (55, (vi i3))]) ⟨rfl, rfl, rfl, rfl, rfl, rfl, rfl, trivial⟩ ?_
     refine sr ?_
     refine sq (y_lss rfl et et) ?_
     refine nk ?_
     refine c_seq ?_
     refine c_cond (b := decide (i3 < (zs4.length : Int))) et (fun hb => ?_) (fun hb => ?_)
     ·replace h := ite_t hb h
      refine c_skip ?_
      refine k_same ?_
      refine c_seq ?_
      refine c_block ?_
      refine sr ?_
      obtain ⟨e6, hx14, h⟩ := bnd_some h
      obtain ⟨ad6, cs6, hA6, hr6, hq6⟩ := hI.clat (.s .z) hx14
      obtain ⟨a26, c43, a27, c44, rfl, hf9, hf10⟩ := hr6
      have hI := hI.add (c := Cl.sl (cInt .i64) a26 c43 e6.Dims) hf9
      have hI := hI.add (c := Cl.sl cGVal a27 c44 e6.Vals) hf10
      refine sq (y_indexAddr rfl Tryz.underlying58 size_27 et et (lat_bd hx14) hA6) ?_
      refine sq (y_loadN (l := [(vi e6.Type_.Kind), (vi e6.Type_.Bits), (vi e6.Type_.Frac), (vi e6.Type_.Round), (vi e6.Type_.Over), (vs a26 e6.Dims.length c43), (vs a27 e6.Vals.length c44)]) rfl et Tryz.underlying27 rfl size_27 hq6.1) ?_
      refine l_alloc (cs := #[(vi 0), (vi 0), (vi 0), (vi 0), (vi 0), (vs none 0 0), (vs none 0 0)]) hI gn rfl rfl zero_27 rfl ?_
      clear hI; intro b4 c45 w22 hI
      refine l_store (new := [(vi e6.Type_.Kind), (vi e6.Type_.Bits), (vi e6.Type_.Frac), (vi e6.Type_.Round), (vi e6.Type_.Over), (vs a26 e6.Dims.length c43), (vs a27 e6.Vals.length c44)]) (cs' := #[(vi e6.Type_.Kind), (vi e6.Type_.Bits), (vi e6.Type_.Frac), (vi e6.Type_.Round), (vi e6.Type_.Over), (vs a26 e6.Dims.length c43), (vs a27 e6.Vals.length c44)]) hI .z gn rfl rfl et et rfl size_27 rfl rfl rfl ?_
      clear hI; intro c46 w23 hI
      refine nk ?_
      refine c_drawX [12] false (.c (0, .q) (.c (1, .q) (.c (2, .q) (.c (3, .q) (.c (4, .q) (.c (5, .q) (.c (6, .q) (.c (7, .q) (.c (8, .q) (.c (9, .q) (.c (10, .q) (.c (11, .q) (.c (12, .s) .n))))))))))))) hI (by kernel_rfl) (by kernel_rfl) ?_
      clear hI; intro w24 hI
      refine a_q rfl gn rfl (fun w' => (y_fieldAddr rfl et Tryz.underlying27 rfl size_24 rfl)) ?_
      refine a_read rfl gn rfl (fun w' hw' => (y_load1 (v := (vs a24 out5.Dims.length c40)) rfl et Tryz.underlying24 rfl ((CA.blk (hI.blk (.s (.s (.s (.s .z))))) rfl).at_ (SX.any rfl hw')))) (by kernel_rfl) ?_
      refine a_q rfl gn rfl (fun w' => (y_move rfl et)) ?_
      obtain ⟨e7, hx15, h⟩ := bnd_some h
      obtain ⟨ad7, cs7, hA7, hr7, hq7⟩ := hI.olat (.s .z) hx15
      obtain rfl : cs7 = [(vi e7)] := hr7
      refine a_q rfl gn rfl (fun w' => (y_indexAddr rfl Tryz.underlying24 size_3 et et (lat_bd hx15) hA7)) ?_
      refine a_read rfl gn rfl (fun w' hw' => (y_load1 (v := (vi e7)) rfl et Tryz.underlying3 rfl (hq7.at_ (SX.any rfl hw')))) (by kernel_rfl) ?_
      refine a_q rfl gn rfl (fun w' => (y_fieldAddr rfl et Tryz.underlying27 rfl size_24 rfl)) ?_
      refine a_read rfl gn rfl (fun w' hw' => (y_load1 (v := (vs a26 e6.Dims.length c43)) rfl et Tryz.underlying24 rfl ((CA.blk (hI.blk .z) rfl).at_ (SX.any rfl hw')))) (by kernel_rfl) ?_
      refine a_q rfl gn rfl (fun w' => (y_move rfl et)) ?_
      obtain ⟨e8, hx16, h⟩ := bnd_some h
      obtain ⟨ad8, cs8, hA8, hr8, hq8⟩ := hI.clat (.s .z) hx16
      obtain rfl : cs8 = [(vi e8)] := hr8
      refine a_q rfl gn rfl (fun w' => (y_indexAddr rfl Tryz.underlying24 size_3 et et (lat_bd hx16) hA8)) ?_
      refine a_read rfl gn rfl (fun w' hw' => (y_load1 (v := (vi e8)) rfl et Tryz.underlying3 rfl (hq8.at_ (SX.any rfl hw')))) (by kernel_rfl) ?_
      refine a_q rfl gn rfl (fun w' => (y_add rfl et et)) ?_
      obtain ⟨ho1, h⟩ := chk_some h
      obtain ⟨ad9, hA9⟩ := hI.addr (.s .z) ho1
      refine a_q rfl gn rfl (fun w' => (y_indexAddr rfl Tryz.underlying24 size_3 et et ho1 hA9)) ?_
      refine a_turn (F := F) (C := c46) rfl rfl ?_
      refine la_storeRow (p := Int.toNat axis1) (new := [(vi (wi64 (e7 + e8)))]) (off := 0) (x' := wi64 (e7 + e8)) hI (.s .z) rfl gn rfl rfl (by have := ho1; omega) hA9 rfl et et rfl size_3 rfl (by show 0 + 1 ≤ 1; omega) (fun _ cs0 _ hr0 => by rw [spl_full (by have e := Cod.len _ hr0; exact e)]; exact rfl) ?_
      clear hI; intro c47 w25 hI
      refine a_nil ?_
      replace hI : Bun noM F w0 c47 w25 [MO.box b4 27 #[(vi e6.Type_.Kind), (vi e6.Type_.Bits), (vi e6.Type_.Frac), (vi e6.Type_.Round), (vi e6.Type_.Over), (vs a26 e6.Dims.length c43), (vs a27 e6.Vals.length c44)], MO.row (cInt .i64) 3 a24 c40 (out5.Dims.set (Int.toNat axis1) (wi64 (e7 + e8))), MO.row cGVal 36 a25 c41 out5.Vals, MO.box b1 27 #[(vi 0), (vi 0), (vi 0), (vi 0), (vi 0), (vs none 0 0), (vs none 0 0)], MO.box b2 27 #[(vi out5.Type_.Kind), (vi out5.Type_.Bits), (vi out5.Type_.Frac), (vi out5.Type_.Round), (vi out5.Type_.Over), (vs a24 (out5.Dims.set (Int.toNat axis1) (wi64 (e7 + e8))).length c40), (vs a25 out5.Vals.length c41)]] [Cl.sl cGVal a27 c44 e6.Vals, Cl.sl (cInt .i64) a26 c43 e6.Dims, Cl.sl cGTensor a1 c1 l1, Cl.sl cGTensor a23 (c1 - Int.toNat 1) zs4] := by simpa only [List.length_set, List.cons_append, List.nil_append] using hI
      refine k_next (e := [(0, (vi axis1)), (1, (vs a1 l1.length c1)), (4, (vp b1 0)), (10, (vp b2 0)), (53, (vs a23 zs4.length (c1 - Int.toNat 1))), (54, (vi (zs4.length : Int))), (55, (vi i3))]) ⟨rfl, rfl, rfl, rfl, rfl, rfl, rfl, trivial⟩ ?_
      refine c_region rfl ?_
      refine sq (y_add rfl et ev_const) ?_
      refine sm ?_
      refine s_nil ?_
      exact k_loop (fuel3, wi64 (i3 + 1), (⟨out5.Type_, out5.Dims.set (Int.toNat axis1) (wi64 (e7 + e8)), out5.Vals⟩ : GTensor), a24, c40, a25, c41) ⟨rfl, rfl, rfl, rfl, rfl, rfl, rfl, trivial⟩ ⟨_, hI.arr (.c (.s .z) (.c (.s .z) (.c (.s .z) (.c (.s .z) .n)))) ⟨(.s (.s .z)), (.s (.s (.s .z))), trivial⟩, h⟩ (Nat.lt_succ_self _)
     ·replace h := ite_f hb h
      refine c_exit ?_
      refine k_in ?_
      exact k_join (out5, a24, c40, a25, c41) ⟨rfl, rfl, rfl, rfl, trivial⟩ ⟨_, hI.arr (.c .z (.c .z (.c .z (.c .z .n)))) ⟨.z, trivial⟩, h⟩ rfl
   intro hk_tr_tensor_Concat_1_0
   refine a_q rfl gn rfl (fun w' => (y_move rfl et)) ?_
   obtain ⟨ad1, cs1, hA1, hr1, hq1⟩ := hI.clat .z hx3
   obtain ⟨a4, c7, a5, c8, rfl, hf1, hf2⟩ := hr1
   have hI := hI.add (c := Cl.sl (cInt .i64) a4 c7 e1.Dims) hf1
   have hI := hI.add (c := Cl.sl cGVal a5 c8 e1.Vals) hf2
   refine a_q rfl gn rfl (fun w' => (y_indexAddr rfl Tryz.underlying58 size_27 et ev_const (lat_bd hx3) hA1)) ?_
   refine a_q rfl gn rfl (fun w' => (y_fieldAddr rfl et Tryz.underlying27 rfl size_23 rfl)) ?_
   refine a_read rfl gn rfl (fun w' hw' => (y_loadN (l := [(vi e1.Type_.Kind), (vi e1.Type_.Bits), (vi e1.Type_.Frac), (vi e1.Type_.Round), (vi e1.Type_.Over)]) rfl et Tryz.underlying23 rfl size_23 ((CA.part hq1 rfl).at_ (SX.any rfl hw')))) (by kernel_rfl) ?_
   refine a_q rfl gn rfl (fun w' => (y_move rfl et)) ?_
   obtain ⟨ad2, cs2, hA2, hr2, hq2⟩ := hI.clat (.s (.s .z)) hx4
   obtain ⟨a6, c9, a7, c10, rfl, hf3, hf4⟩ := hr2
   have hI := hI.add (c := Cl.sl (cInt .i64) a6 c9 e2.Dims) hf3
   have hI := hI.add (c := Cl.sl cGVal a7 c10 e2.Vals) hf4
   refine a_q rfl gn rfl (fun w' => (y_indexAddr rfl Tryz.underlying58 size_27 et ev_const (lat_bd hx4) hA2)) ?_
   refine a_q rfl gn rfl (fun w' => (y_fieldAddr rfl et Tryz.underlying27 rfl size_24 rfl)) ?_
   refine a_read rfl gn rfl (fun w' hw' => (y_load1 (v := (vs a6 e2.Dims.length c9)) rfl et Tryz.underlying24 rfl ((CA.part hq2 rfl).at_ (SX.any rfl hw')))) (by kernel_rfl) ?_
   refine a_two ?_ ?_
   ·skip
    replace hI := hI.nil (cInt .i64) 3 none
    refine la_appendX (ys := e2.Dims) hI .z (hI.crd (.s .z)) hx5 rfl gn rfl rfl Tryz.underlying24 info_3 rfl rfl ev_const et ?_
    clear hI; intro a8 c11 c12 w5 hI
    refine a_q rfl gn rfl (fun w' => (y_build (vs := [(0, (Value.agg #[(vi e1.Type_.Kind), (vi e1.Type_.Bits), (vi e1.Type_.Frac), (vi e1.Type_.Round), (vi e1.Type_.Over)])), (1, (vs a8 zs1.length c11))]) (cs := #[(vi e1.Type_.Kind), (vi e1.Type_.Bits), (vi e1.Type_.Frac), (vi e1.Type_.Round), (vi e1.Type_.Over), (vs a8 zs1.length c11), (vs none 0 0)]) rfl ⟨rfl, et, ⟨rfl, et, trivial⟩⟩ (by kernel_rfl))) ?_
    refine la_alloc (cs := #[(vi 0), (vi 0), (vi 0), (vi 0), (vi 0), (vs none 0 0), (vs none 0 0)]) hI rfl gn rfl rfl zero_27 rfl ?_
    clear hI; intro b2 c13 w6 hI
    exact a_sub (hk_tr_tensor_Concat_1_0 (a4, c7, a5, c8, a6, c9, a7, c10, a8, c11, b2, c13) _ (hI.arr (.c (.s .z) (.c .z (.c .z .n))) ⟨.z, (.s .z), (.s (.s .z)), (.s (.s (.s .z))), (.s (.s (.s (.s .z)))), trivial⟩)) ⟨rfl, rfl, rfl, rfl, rfl, rfl, rfl, rfl, rfl, rfl, trivial⟩
   ·skip
    refine la_alloc (cs := #[(vi 0), (vi 0), (vi 0), (vi 0), (vi 0), (vs none 0 0), (vs none 0 0)]) hI rfl gn rfl rfl zero_27 rfl ?_
    clear hI; intro b2 c13 w6 hI
    replace hI := hI.nil (cInt .i64) 3 none
    refine la_appendX (ys := e2.Dims) hI .z (hI.crd (.s .z)) hx5 rfl gn rfl rfl Tryz.underlying24 info_3 rfl rfl ev_const et ?_
    clear hI; intro a8 c11 c12 w5 hI
    refine a_q rfl gn rfl (fun w' => (y_build (vs := [(0, (Value.agg #[(vi e1.Type_.Kind), (vi e1.Type_.Bits), (vi e1.Type_.Frac), (vi e1.Type_.Round), (vi e1.Type_.Over)])), (1, (vs a8 zs1.length c11))]) (cs := #[(vi e1.Type_.Kind), (vi e1.Type_.Bits), (vi e1.Type_.Frac), (vi e1.Type_.Round), (vi e1.Type_.Over), (vs a8 zs1.length c11), (vs none 0 0)]) rfl ⟨rfl, et, ⟨rfl, et, trivial⟩⟩ (by kernel_rfl))) ?_
    exact a_sub (hk_tr_tensor_Concat_1_0 (a4, c7, a5, c8, a6, c9, a7, c10, a8, c11, b2, c12) _ (hI.arr (.c .z (.c .z (.c .z .n))) ⟨.z, (.s .z), (.s (.s .z)), (.s (.s (.s .z))), (.s (.s (.s (.s .z)))), trivial⟩)) ⟨rfl, rfl, rfl, rfl, rfl, rfl, rfl, rfl, rfl, rfl, trivial⟩
  ·skip
   refine sr ?_
   refine sm ?_
   refine sq (y_lenl rfl Tryz.underlying58 et) ?_
   refine sq (y_move rfl ev_const) ?_
   refine nk ?_
   refine c_block ?_
   refine c_loop (α := Nat × Int × Int) (fun x => fun w => ∃ C, Bun noM F w0 C w [MO.box b1 27 #[(vi 0), (vi 0), (vi 0), (vi 0), (vi 0), (vs none 0 0), (vs none 0 0)]] [Cl.sl cGTensor a1 c1 l1] ∧ m_tensor_Concat_l4 l1 axis1 (x.1) (x.2.1) (x.2.2) = some r) (fun x _ => x.1) (fun x => [(0, (vi axis1)), (1, (vs a1 l1.length c1)), (4, (vp b1 0)), (7, (vi (x.2.1))), (27, (vs a1 l1.length c1)), (28, (vi (l1.length : Int))), (29, (vi (x.2.2)))]) (fu, 0, 0) ⟨_, hI.arr (.c .z .n) ⟨.z, trivial⟩, h⟩ ⟨rfl, rfl, rfl, rfl, rfl, rfl, rfl, trivial⟩ ?_
   clear h hI; rintro ⟨fuel4, size1, i4⟩ w26 ⟨c48, hI, h⟩
   dsimp only at hI h
   rcases fuel4 with _ | fuel4
   ·rw [m_tensor_Concat_l4] at h; cases h
   rw [m_tensor_Concat_l4] at h
   refine c_sub (e := [(0, (vi axis1)), (1, (vs a1 l1.length c1)), (4, (vp b1 0)), (7, (vi size1)), (27, (vs a1 l1.length c1)), (28, (vi (l1.length : Int))), (29, (vi i4))]) ⟨rfl, rfl, rfl, rfl, rfl, rfl, rfl, trivial⟩ ?_
   refine sr ?_
   refine sq (y_lss rfl et et) ?_
   refine nk ?_
   refine c_seq ?_
   refine c_cond (b := decide (i4 < (l1.length : Int))) et (fun hb => ?_) (fun hb => ?_)
   ·replace h := ite_t hb h
    refine c_skip ?_
    refine k_same ?_
    refine c_seq ?_
    refine c_block ?_
    refine sr ?_
    obtain ⟨e9, hx17, h⟩ := bnd_some h
    obtain ⟨ad10, cs9, hA10, hr9, hq9⟩ := hI.clat .z hx17
    obtain ⟨a28, c49, a29, c50, rfl, hf11, hf12⟩ := hr9
    have hI := hI.add (c := Cl.sl (cInt .i64) a28 c49 e9.Dims) hf11
    have hI := hI.add (c := Cl.sl cGVal a29 c50 e9.Vals) hf12
    refine sq (y_indexAddr rfl Tryz.underlying58 size_27 et et (lat_bd hx17) hA10) ?_
    refine sq (y_loadN (l := [(vi e9.Type_.Kind), (vi e9.Type_.Bits), (vi e9.Type_.Frac), (vi e9.Type_.Round), (vi e9.Type_.Over), (vs a28 e9.Dims.length c49), (vs a29 e9.Vals.length c50)]) rfl et Tryz.underlying27 rfl size_27 hq9.1) ?_
    refine l_alloc (cs := #[(vi 0), (vi 0), (vi 0), (vi 0), (vi 0), (vs none 0 0), (vs none 0 0)]) hI gn rfl rfl zero_27 rfl ?_
    clear hI; intro b5 c51 w27 hI
    refine l_store (new := [(vi e9.Type_.Kind), (vi e9.Type_.Bits), (vi e9.Type_.Frac), (vi e9.Type_.Round), (vi e9.Type_.Over), (vs a28 e9.Dims.length c49), (vs a29 e9.Vals.length c50)]) (cs' := #[(vi e9.Type_.Kind), (vi e9.Type_.Bits), (vi e9.Type_.Frac), (vi e9.Type_.Round), (vi e9.Type_.Over), (vs a28 e9.Dims.length c49), (vs a29 e9.Vals.length c50)]) hI .z gn rfl rfl et et rfl size_27 rfl rfl rfl ?_
    clear hI; intro c52 w28 hI
    refine nk ?_
    refine sr ?_
    refine sm ?_
    refine sq (y_fieldAddr rfl et Tryz.underlying27 rfl size_25 rfl) ?_
    refine sq (y_load1 (v := (vs a29 e9.Vals.length c50)) rfl et Tryz.underlying25 rfl (CellsAt.of_blk (hI.blk .z) rfl)) ?_
    refine sq (y_lenl rfl Tryz.underlying25 et) ?_
    refine sq (y_add rfl et et) ?_
    obtain ⟨size2, hx18, h⟩ := bnd_some h
    refine sq (binU (y_assign rfl et) (congrArg (Value.int .i64) (some_inj hx18))) ?_
    refine nk ?_
    refine sr ?_
    refine sm ?_
    refine sq (y_gtr rfl et ev_const) ?_
    refine nk ?_
    refine c_cond (b := decide (4096 < size2)) et (fun hb => ?_) (fun hb => ?_)
    ·replace h := ite_t hb h
     refine sr ?_
     refine sq (y_build (vs := []) (cs := #[(vi 0), (vi 0), (vi 0), (vi 0), (vi 0), (vs none 0 0), (vs none 0 0)]) rfl trivial (by kernel_rfl)) ?_
     refine l_store (new := [(vi 0), (vi 0), (vi 0), (vi 0), (vi 0), (vs none 0 0), (vs none 0 0)]) (cs' := #[(vi 0), (vi 0), (vi 0), (vi 0), (vi 0), (vs none 0 0), (vs none 0 0)]) hI (.s .z) gn rfl rfl et et rfl size_27 rfl rfl rfl ?_
     clear hI; intro c53 w29 hI
     refine sac ?_
     refine nk ?_
     refine c_ret ?_
     have hI := hI.add (c := Cl.sl (cInt .i64) none 0 ([] : List Int)) SlC.nil
     have hI := hI.add (c := Cl.sl cGVal none 0 ([] : List GVal)) SlC.nil
     obtain rfl := some_inj h
     exact q_ret (vs := [(Value.agg #[(vi 0), (vi 0), (vi 0), (vi 0), (vi 0), (vs none 0 0), (vs none 0 0)]), (vi 2)]) Tryz.results38 ⟨⟨_, ev_tmp rfl rfl, load_agg (l := [(vi 0), (vi 0), (vi 0), (vi 0), (vi 0), (vs none 0 0), (vs none 0 0)]) Tryz.underlying27 rfl size_27 (CellsAt.of_blk (hI.blk (.s .z)) rfl)⟩, ⟨ev_tmp rfl rfl, trivial⟩⟩ ⟨none, 0, none, 0, rfl, hI.ext0, hI.fin ⟨(.s .z), .z, trivial⟩⟩
    ·replace h := ite_f hb h
     refine c_skip ?_
     refine k_same ?_
     refine c_region rfl ?_
     refine sq (y_add rfl et ev_const) ?_
     refine sm ?_
     refine s_nil ?_
     exact k_loop (fuel4, size2, wi64 (i4 + 1)) ⟨rfl, rfl, rfl, rfl, rfl, rfl, rfl, trivial⟩ ⟨_, hI.arr (.c (.s .z) .n) ⟨(.s (.s .z)), trivial⟩, h⟩ (Nat.lt_succ_self _)
   ·replace h := ite_f hb h
    refine c_exit ?_
    refine k_in ?_
    exact k_join () ⟨rfl, rfl, rfl, trivial⟩ ⟨_, hI.arr (.c .z .n) ⟨.z, trivial⟩, h⟩ rfl

set_option maxRecDepth 100000 in
set_option maxHeartbeats 4000000 in
theorem c_ref12_joined (F : NP) (w0 : World) (hF : ∀ k, F k → k < w0.heap.size) (axis1 : Int) (l1 : List GTensor) (a1 : Option Addr) (c1 : Nat) (hc : AllCl [Cl.sl cGTensor a1 c1 l1] F w0) (r : Int × Int)
  (h : m_ref12_joined axis1 l1 = some r) :
  Calls Tryz.prog 73 #[(vi axis1), (vs a1 l1.length c1)] w0 fun e w => e = .returned (Value.tuple #[(vi r.1), (vi r.2)]) ∧ Ext w0 w ∧ AllCl [] F w := by
 refine enterK (l := [(vi axis1), (vs a1 l1.length c1)]) Tryz.func73 rfl Tryz.ntmps73 rfl ?_
 have hI := Bun.start hF hc
 clear hc
 rw [m_ref12_joined] at h
 refine sr ?_
 refine sac ?_
 refine sac ?_
 refine nk ?_
 refine c_join (α := Unit) (fun _ => ⟨112, []⟩) (fun _ => [(0, (vi axis1)), (1, (vs a1 l1.length c1))]) (fun _ => fun w => ∃ C, Bun noM F w0 C w [] [Cl.sl cGTensor a1 c1 l1] ∧ m_ref12_joined_j1 axis1 l1 = some r) ?_ ?_
 ·clear h hI; rintro _ w1 ⟨c2, hI, h⟩
  try dsimp only at hI h
  rw [m_ref12_joined_j1] at h
  refine c_sub (e := [(0, (vi axis1)), (1, (vs a1 l1.length c1))]) ⟨rfl, rfl, trivial⟩ ?_
  refine c_seq ?_
  refine sr ?_
  refine sm ?_
  refine sq (y_lss rfl et ev_const) ?_
  refine sm ?_
  refine s_gval (g_false rfl rfl rfl rfl) rfl (fun hc => (y_move rfl et)) ?_
  refine s_gval (g_false rfl rfl rfl rfl) rfl (fun hc => (y_move rfl et)) ?_
  obtain ⟨e1, hx1, h⟩ := bnd_some h
  replace hx1 := gd_some hx1
  obtain ⟨ad1, cs1, hq1⟩ := hI.gclat .z hx1
  obtain ⟨a2, c3, a3, c4, hq2⟩ : ∃ (a2 : Option Addr) (c3 : Nat) (a3 : Option Addr) (c4 : Nat), (!(decide (axis1 < 0))) = true → (a1 = some ad1 ∧ cs1 = [(vi e1.Type_.Kind), (vi e1.Type_.Bits), (vi e1.Type_.Frac), (vi e1.Type_.Round), (vi e1.Type_.Over), (vs a2 e1.Dims.length c3), (vs a3 e1.Vals.length c4)] ∧ CA (Dj F c2) w1 (ad1.add (Int.toNat 0 * 7)) cs1 ∧ SlC (cInt .i64) (Dj F c2) w1 a2 c3 e1.Dims ∧ SlC cGVal (Dj F c2) w1 a3 c4 e1.Vals) := by
   by_cases hc : (!(decide (axis1 < 0))) = true
   ·obtain ⟨k1, k2, k3⟩ := hq1 hc; obtain ⟨a2, c3, a3, c4, rfl, hf1, hf2⟩ := k2; exact ⟨a2, c3, a3, c4, fun _ => ⟨k1, rfl, k3, hf1, hf2⟩⟩
   ·exact ⟨default, default, default, default, fun k => absurd k hc⟩
  clear hq1
  have hI := hI.add (c := Cl.gsl (!(decide (axis1 < 0))) (cInt .i64) a2 c3 e1.Dims) (fun hc => (hq2 hc).2.2.2.1)
  have hI := hI.add (c := Cl.gsl (!(decide (axis1 < 0))) cGVal a3 c4 e1.Vals) (fun hc => (hq2 hc).2.2.2.2)
  have hq3 : (!(decide (axis1 < 0))) = true → CA (Dj F c2) w1 (ad1.add (Int.toNat 0 * 7)) [(vi e1.Type_.Kind), (vi e1.Type_.Bits), (vi e1.Type_.Frac), (vi e1.Type_.Round), (vi e1.Type_.Over), (vs a2 e1.Dims.length c3), (vs a3 e1.Vals.length c4)] := fun hc => by have k := hq2 hc; have e : cs1 = _ := k.2.1; rw [← e]; exact k.2.2.1
  refine s_gval (g_false rfl rfl rfl rfl) rfl (fun hc => (y_indexAddr rfl Tryz.underlying58 size_27 (ev_gv et hc) ev_const (lat_bd (hx1 hc)) (hq2 hc).1)) ?_
  refine s_gval (g_false rfl rfl rfl rfl) rfl (fun hc => (y_fieldAddr rfl (ev_gv et hc) Tryz.underlying27 rfl size_24 rfl)) ?_
  refine s_gval (g_false rfl rfl rfl rfl) rfl (fun hc => (y_load1 (v := (vs a2 e1.Dims.length c3)) rfl (ev_gv et hc) Tryz.underlying24 rfl (CA.part (hq3 hc) rfl).1)) ?_
  refine s_gval (g_false rfl rfl rfl rfl) rfl (fun hc => (y_lenl rfl Tryz.underlying24 (ev_gv et hc))) ?_
  refine s_gval (g_false rfl rfl rfl rfl) rfl (fun hc => (y_geq rfl (ev_gv et hc) (ev_gv et hc))) ?_
  refine sq (y_or rfl et et) ?_
  refine nk ?_
  refine c_cond (b := (decide (axis1 < 0)) || (decide ((e1.Dims.length : Int) ≤ axis1))) et (fun hb => ?_) (fun hb => ?_)
  ·replace h := ite_t hb h
   refine sr ?_
   refine sac ?_
   refine sac ?_
   refine nk ?_
   refine c_ret ?_
   obtain rfl := some_inj h
   exact q_ret (vs := [(vi 0), (vi 11)]) Tryz.results73 ⟨ev_tmp rfl rfl, ⟨ev_tmp rfl rfl, trivial⟩⟩ ⟨rfl, hI.ext0, hI.fin trivial⟩
  ·replace h := ite_f hb h
   refine c_skip ?_
   refine k_same ?_
   refine sr ?_
   refine sac ?_
   refine nk ?_
   refine c_join (α := Int) (fun _ => ⟨112, []⟩) (fun x => [(0, (vi axis1)), (1, (vs a1 l1.length c1)), (7, (vi x))]) (fun x => fun w => ∃ C, Bun noM F w0 C w [] [Cl.sl cGTensor a1 c1 l1] ∧ m_ref12_joined_j2 l1 axis1 x = some r) ?_ ?_
   ·clear h hI; rintro n1 w2 ⟨c5, hI, h⟩
    try dsimp only at hI h
    rw [m_ref12_joined_j2] at h
    refine c_sub (e := [(0, (vi axis1)), (1, (vs a1 l1.length c1)), (7, (vi n1))]) ⟨rfl, rfl, rfl, trivial⟩ ?_
    refine c_seq ?_
    refine c_seq ?_
    refine c_drawX [] false (.c (0, .q) (.c (1, .q) (.c (2, .q) (.c (3, .q) (.c (4, .q) (.c (6, .q) (.c (7, .q) (.c (8, .q) (.c (9, .q) (.c (10, .q) (.c (11, .q) (.c (12, .q) (.c (5, .s) (.c (13, .q) (.c (14, .q) (.c (15, .q) .n)))))))))))))))) hI (by kernel_rfl) (by kernel_rfl) ?_
    clear hI; intro w3 hI
    refine a_q rfl gn rfl (fun w' => (y_move rfl et)) ?_
    refine a_q rfl gn rfl (fun w' => (y_move rfl et)) ?_
    obtain ⟨e2, hx2, h⟩ := bnd_some h
    obtain ⟨ad2, cs2, hA2, hr2, hq4⟩ := hI.clat .z hx2
    obtain ⟨a4, c6, a5, c7, rfl, hf3, hf4⟩ := hr2
    have hI := hI.add (c := Cl.sl (cInt .i64) a4 c6 e2.Dims) hf3
    have hI := hI.add (c := Cl.sl cGVal a5 c7 e2.Vals) hf4
    refine a_q rfl gn rfl (fun w' => (y_indexAddr rfl Tryz.underlying58 size_27 et ev_const (lat_bd hx2) hA2)) ?_
    refine a_q rfl gn rfl (fun w' => (y_fieldAddr rfl et Tryz.underlying27 rfl size_24 rfl)) ?_
    refine a_read rfl gn rfl (fun w' hw' => (y_load1 (v := (vs a4 e2.Dims.length c6)) rfl et Tryz.underlying24 rfl ((CA.part hq4 rfl).at_ (SX.any rfl hw')))) (by kernel_rfl) ?_
    refine a_q rfl gn rfl (fun w' => (y_move rfl et)) ?_
    obtain ⟨e3, hx3, h⟩ := bnd_some h
    obtain ⟨ad3, cs3, hA3, hr3, hq5⟩ := hI.clat (.s (.s .z)) hx3
    obtain ⟨a6, c8, a7, c9, rfl, hf5, hf6⟩ := hr3
    have hI := hI.add (c := Cl.sl (cInt .i64) a6 c8 e3.Dims) hf5
    have hI := hI.add (c := Cl.sl cGVal a7 c9 e3.Vals) hf6
    refine a_q rfl gn rfl (fun w' => (y_indexAddr rfl Tryz.underlying58 size_27 et ev_const (lat_bd hx3) hA3)) ?_
    refine a_q rfl gn rfl (fun w' => (y_fieldAddr rfl et Tryz.underlying27 rfl size_24 rfl)) ?_
    refine a_read rfl gn rfl (fun w' hw' => (y_load1 (v := (vs a6 e3.Dims.length c8)) rfl et Tryz.underlying24 rfl ((CA.part hq5 rfl).at_ (SX.any rfl hw')))) (by kernel_rfl) ?_
    refine a_q rfl gn rfl (fun w' => (y_move rfl et)) ?_
    obtain ⟨e4, hx4, h⟩ := bnd_some h
    obtain ⟨ad4, cs4, hA4, hr4, hq6⟩ := hI.clat (.s .z) hx4
    obtain rfl : cs4 = [(vi e4)] := hr4
    refine a_q rfl gn rfl (fun w' => (y_indexAddr rfl Tryz.underlying24 size_3 et et (lat_bd hx4) hA4)) ?_
    refine a_read rfl gn rfl (fun w' hw' => (y_load1 (v := (vi e4)) rfl et Tryz.underlying3 rfl (hq6.at_ (SX.any rfl hw')))) (by kernel_rfl) ?_
    obtain ⟨r1, hx5, h⟩ := bnd_some h
    refine la_call rfl gn rfl (r_callF (vs := [(vs a4 e2.Dims.length c6)]) rfl ok_44 ⟨et, trivial⟩) (Calls.mono (c_ref12_Size (Dj F c5) w3 hI.lt e2.Dims a4 c6 ⟨(hI.get (.s (.s (.s .z)))), trivial⟩ r1 hx5) ?_)
    rintro _ w4 ⟨rfl, hx6, hl1⟩
    refine ⟨_, rfl, hx6, ?_⟩
    replace hI := (hI.ext hx6)
    obtain ⟨ho1, h⟩ := chk_some h
    refine a_q rfl gn rfl (fun w' => (y_quo rfl et et ho1)) ?_
    obtain ⟨ho2, h⟩ := chk_some h
    refine a_q rfl gn rfl (fun w' => (y_quo rfl ev_const et ho2)) ?_
    refine a_q rfl gn rfl (fun w' => (y_gtr rfl et et)) ?_
    refine a_nil ?_
    refine k_same ?_
    refine c_cond (b := decide (wi64 (Int.tdiv 4096 (wi64 (Int.tdiv r1 e4))) < n1)) et (fun hb => ?_) (fun hb => ?_)
    ·replace h := ite_t hb h
     refine sr ?_
     refine sac ?_
     refine sac ?_
     refine nk ?_
     refine c_ret ?_
     obtain rfl := some_inj h
     exact q_ret (vs := [(vi 0), (vi 2)]) Tryz.results73 ⟨ev_tmp rfl rfl, ⟨ev_tmp rfl rfl, trivial⟩⟩ ⟨rfl, hI.ext0, hI.fin trivial⟩
    ·replace h := ite_f hb h
     refine c_skip ?_
     refine k_same ?_
     refine sr ?_
     refine sm ?_
     refine sa ?_
     refine sac ?_
     refine nk ?_
     refine c_ret ?_
     obtain rfl := some_inj h
     exact q_ret (vs := [(vi n1), (vi 0)]) Tryz.results73 ⟨ev_tmp rfl rfl, ⟨ev_tmp rfl rfl, trivial⟩⟩ ⟨rfl, hI.ext0, hI.fin trivial⟩
   ·skip
    refine sr ?_
    refine sac ?_
    refine nk ?_
    refine c_block ?_
    refine c_loop (α := Nat × Int × Int) (fun x => fun w => ∃ C, Bun noM F w0 C w [] [Cl.sl cGTensor a1 c1 l1] ∧ m_ref12_joined_l1 l1 axis1 (x.1) (x.2.1) (x.2.2) = some r) (fun x _ => x.1) (fun x => [(0, (vi axis1)), (1, (vs a1 l1.length c1)), (7, (vi (x.2.1))), (8, (vi (x.2.2)))]) (fu, 0, 0) ⟨_, hI.arr .n ⟨(.s (.s .z)), trivial⟩, h⟩ ⟨rfl, rfl, rfl, rfl, trivial⟩ ?_
    clear h hI; rintro ⟨fuel1, n2, i1⟩ w5 ⟨c10, hI, h⟩
    dsimp only at hI h
    rcases fuel1 with _ | fuel1
    ·rw [m_ref12_joined_l1] at h; cases h
    rw [m_ref12_joined_l1] at h
    refine c_sub (e := [(0, (vi axis1)), (1, (vs a1 l1.length c1)), (7, (vi n2)), (8, (vi i1))]) ⟨rfl, rfl, rfl, rfl, trivial⟩ ?_
    refine c_seq ?_
    refine sr ?_
    refine sm ?_
    refine sm ?_
    refine sq (y_lenl rfl Tryz.underlying58 et) ?_
    refine sq (y_lss rfl et et) ?_
    refine nk ?_
    refine c_cond (b := decide (i1 < (l1.length : Int))) et (fun hb => ?_) (fun hb => ?_)
    ·replace h := ite_t hb h
     refine c_skip ?_
     refine k_same ?_
     refine c_join (α := Int) (fun _ => ⟨112, []⟩) (fun x => [(0, (vi axis1)), (1, (vs a1 l1.length c1)), (7, (vi x)), (8, (vi i1))]) (fun x => fun w => ∃ C, Bun noM F w0 C w [] [Cl.sl cGTensor a1 c1 l1] ∧ m_ref12_joined_j3 (m_ref12_joined_l1 l1 axis1 fuel1) i1 x = some r) ?_ ?_
     ·clear h hI; rintro n3 w6 ⟨c11, hI, h⟩
      try dsimp only at hI h
      rw [m_ref12_joined_j3] at h
      refine c_sub (e := [(0, (vi axis1)), (1, (vs a1 l1.length c1)), (7, (vi n3)), (8, (vi i1))]) ⟨rfl, rfl, rfl, rfl, trivial⟩ ?_
      refine c_region rfl ?_
      refine sm ?_
      refine sq (y_add rfl et ev_const) ?_
      refine sa ?_
      refine s_nil ?_
      exact k_loop (fuel1, n3, wi64 (i1 + 1)) ⟨rfl, rfl, rfl, rfl, trivial⟩ ⟨_, hI.arr .n ⟨.z, trivial⟩, h⟩ (Nat.lt_succ_self _)
     ·skip
      refine c_block ?_
      refine c_join (α := Unit) (fun _ => ⟨112, []⟩) (fun _ => [(0, (vi axis1)), (1, (vs a1 l1.length c1)), (7, (vi n2)), (8, (vi i1))]) (fun _ => fun w => ∃ C, Bun noM F w0 C w [] [Cl.sl cGTensor a1 c1 l1] ∧ m_ref12_joined_j4 l1 i1 axis1 (m_ref12_joined_l1 l1 axis1 fuel1) n2 = some r) ?_ ?_
      ·clear h hI; rintro _ w7 ⟨c12, hI, h⟩
       try dsimp only at hI h
       rw [m_ref12_joined_j4] at h
       refine c_sub (e := [(0, (vi axis1)), (1, (vs a1 l1.length c1)), (7, (vi n2)), (8, (vi i1))]) ⟨rfl, rfl, rfl, rfl, trivial⟩ ?_
       refine c_region rfl ?_
       refine sm ?_
       refine sm ?_
       refine sm ?_
       obtain ⟨e5, hx7, h⟩ := bnd_some h
       obtain ⟨ad5, cs5, hA5, hr5, hq7⟩ := hI.clat .z hx7
       obtain ⟨a8, c13, a9, c14, rfl, hf7, hf8⟩ := hr5
       have hI := hI.add (c := Cl.sl (cInt .i64) a8 c13 e5.Dims) hf7
       have hI := hI.add (c := Cl.sl cGVal a9 c14 e5.Vals) hf8
       refine sq (y_indexAddr rfl Tryz.underlying58 size_27 et et (lat_bd hx7) hA5) ?_
       refine sq (y_fieldAddr rfl et Tryz.underlying27 rfl size_24 rfl) ?_
       refine sq (y_load1 (v := (vs a8 e5.Dims.length c13)) rfl et Tryz.underlying24 rfl (CA.part hq7 rfl).1) ?_
       refine sm ?_
       obtain ⟨e6, hx8, h⟩ := bnd_some h
       obtain ⟨ad6, cs6, hA6, hr6, hq8⟩ := hI.clat (.s .z) hx8
       obtain rfl : cs6 = [(vi e6)] := hr6
       refine sq (y_indexAddr rfl Tryz.underlying24 size_3 et et (lat_bd hx8) hA6) ?_
       refine sq (y_load1 (v := (vi e6)) rfl et Tryz.underlying3 rfl hq8.1) ?_
       refine sq (y_add rfl et et) ?_
       refine sa ?_
       refine s_nil ?_
       exact k_join (wi64 (n2 + e6)) ⟨rfl, rfl, rfl, rfl, trivial⟩ ⟨_, hI.arr .n ⟨(.s (.s .z)), trivial⟩, h⟩ rfl
      ·skip
       refine sr ?_
       refine sac ?_
       refine nk ?_
       refine c_block ?_
       refine c_loop (α := Nat × Int) (fun x => fun w => ∃ C, Bun noM F w0 C w [] [Cl.sl cGTensor a1 c1 l1] ∧ m_ref12_joined_l2 l1 axis1 i1 (m_ref12_joined_l1 l1 axis1 fuel1) n2 (x.1) (x.2) = some r) (fun x _ => x.1) (fun x => [(0, (vi axis1)), (1, (vs a1 l1.length c1)), (7, (vi n2)), (8, (vi i1)), (9, (vi (x.2)))]) (fu, 0) ⟨_, hI.arr .n ⟨.z, trivial⟩, h⟩ ⟨rfl, rfl, rfl, rfl, rfl, trivial⟩ ?_
       clear h hI; rintro ⟨fuel2, k1⟩ w8 ⟨c15, hI, h⟩
       dsimp only at hI h
       rcases fuel2 with _ | fuel2
       ·rw [m_ref12_joined_l2] at h; cases h
       rw [m_ref12_joined_l2] at h
       refine c_sub (e := [(0, (vi axis1)), (1, (vs a1 l1.length c1)), (7, (vi n2)), (8, (vi i1)), (9, (vi k1))]) ⟨rfl, rfl, rfl, rfl, rfl, trivial⟩ ?_
       refine c_seq ?_
       refine sr ?_
       refine sm ?_
       refine sm ?_
       obtain ⟨e7, hx9, h⟩ := bnd_some h
       obtain ⟨ad7, cs7, hA7, hr7, hq9⟩ := hI.clat .z hx9
       obtain ⟨a10, c16, a11, c17, rfl, hf9, hf10⟩ := hr7
       have hI := hI.add (c := Cl.sl (cInt .i64) a10 c16 e7.Dims) hf9
       have hI := hI.add (c := Cl.sl cGVal a11 c17 e7.Vals) hf10
       refine sq (y_indexAddr rfl Tryz.underlying58 size_27 et ev_const (lat_bd hx9) hA7) ?_
       refine sq (y_fieldAddr rfl et Tryz.underlying27 rfl size_24 rfl) ?_
       refine sq (y_load1 (v := (vs a10 e7.Dims.length c16)) rfl et Tryz.underlying24 rfl (CA.part hq9 rfl).1) ?_
       refine sq (y_lenl rfl Tryz.underlying24 et) ?_
       refine sq (y_lss rfl et et) ?_
       refine nk ?_
       refine c_cond (b := decide (k1 < (e7.Dims.length : Int))) et (fun hb => ?_) (fun hb => ?_)
       ·replace h := ite_t hb h
        refine c_skip ?_
        refine k_same ?_
        refine c_seq ?_
        refine c_block ?_
        refine c_seq ?_
        refine c_drawX [] false (.c (0, .q) (.c (1, .q) (.c (2, .q) (.c (3, .q) (.c (4, .q) (.c (5, .q) (.c (6, .q) (.c (7, .q) (.c (8, .q) (.c (9, .q) (.c (10, .q) (.c (11, .q) (.c (12, .q) (.c (13, .q) (.c (14, .q) (.c (15, .q) (.c (16, .q) (.c (17, .q) (.c (18, .q) (.c (19, .q) (.c (20, .q) .n))))))))))))))))))))) hI (by kernel_rfl) (by kernel_rfl) ?_
        clear hI; intro w9 hI
        refine a_q rfl gn rfl (fun w' => (y_move rfl et)) ?_
        refine a_q rfl gn rfl (fun w' => (y_move rfl et)) ?_
        refine a_q rfl gn rfl (fun w' => (y_neq rfl et et)) ?_
        refine a_q rfl gn rfl (fun w' => (y_move rfl et)) ?_
        refine a_gval rfl (g_true rfl rfl rfl rfl) rfl (fun hc => fun w' => (y_move rfl et)) ?_
        refine a_gval rfl (g_true rfl rfl rfl rfl) rfl (fun hc => fun w' => (y_move rfl et)) ?_
        obtain ⟨e8, hx10, h⟩ := bnd_some h
        replace hx10 := gd_some hx10
        obtain ⟨ad8, cs8, hq10⟩ := hI.gclat (.s (.s .z)) hx10
        obtain ⟨a12, c18, a13, c19, hq11⟩ : ∃ (a12 : Option Addr) (c18 : Nat) (a13 : Option Addr) (c19 : Nat), (!decide (k1 = axis1)) = true → (a1 = some ad8 ∧ cs8 = [(vi e8.Type_.Kind), (vi e8.Type_.Bits), (vi e8.Type_.Frac), (vi e8.Type_.Round), (vi e8.Type_.Over), (vs a12 e8.Dims.length c18), (vs a13 e8.Vals.length c19)] ∧ CA (Dj F c15) w9 (ad8.add (Int.toNat i1 * 7)) cs8 ∧ SlC (cInt .i64) (Dj F c15) w9 a12 c18 e8.Dims ∧ SlC cGVal (Dj F c15) w9 a13 c19 e8.Vals) := by
         by_cases hc : (!decide (k1 = axis1)) = true
         ·obtain ⟨k1, k2, k3⟩ := hq10 hc; obtain ⟨a12, c18, a13, c19, rfl, hf11, hf12⟩ := k2; exact ⟨a12, c18, a13, c19, fun _ => ⟨k1, rfl, k3, hf11, hf12⟩⟩
         ·exact ⟨default, default, default, default, fun k => absurd k hc⟩
        clear hq10
        have hI := hI.add (c := Cl.gsl (!decide (k1 = axis1)) (cInt .i64) a12 c18 e8.Dims) (fun hc => (hq11 hc).2.2.2.1)
        have hI := hI.add (c := Cl.gsl (!decide (k1 = axis1)) cGVal a13 c19 e8.Vals) (fun hc => (hq11 hc).2.2.2.2)
        have hq12 : (!decide (k1 = axis1)) = true → CA (Dj F c15) w9 (ad8.add (Int.toNat i1 * 7)) [(vi e8.Type_.Kind), (vi e8.Type_.Bits), (vi e8.Type_.Frac), (vi e8.Type_.Round), (vi e8.Type_.Over), (vs a12 e8.Dims.length c18), (vs a13 e8.Vals.length c19)] := fun hc => by have k := hq11 hc; have e : cs8 = _ := k.2.1; rw [← e]; exact k.2.2.1
        refine a_gval rfl (g_true rfl rfl rfl rfl) rfl (fun hc => fun w' => (y_indexAddr rfl Tryz.underlying58 size_27 (ev_gv et hc) (ev_gv et hc) (lat_bd (hx10 hc)) (hq11 hc).1)) ?_
        refine a_gval rfl (g_true rfl rfl rfl rfl) rfl (fun hc => fun w' => (y_fieldAddr rfl (ev_gv et hc) Tryz.underlying27 rfl size_24 rfl)) ?_
        refine a_gread rfl (g_true rfl rfl rfl rfl) rfl (fun hc => fun w' hw' => (y_load1 (v := (vs a12 e8.Dims.length c18)) rfl (ev_gv et hc) Tryz.underlying24 rfl ((CA.part (hq12 hc) rfl).at_ (SX.any rfl hw')))) (by kernel_rfl) ?_
        refine a_gval rfl (g_true rfl rfl rfl rfl) rfl (fun hc => fun w' => (y_move rfl et)) ?_
        obtain ⟨e9, hx11, h⟩ := bnd_some h
        replace hx11 := gd_some hx11
        obtain ⟨ad9, cs9, hq13⟩ := hI.ggclat (.s .z) (fun hc => hc) hx11
        have hq14 : (!decide (k1 = axis1)) = true → CA (Dj F c15) w9 (ad9.add (Int.toNat k1 * 1)) [(vi e9)] := fun hc => by have k := hq13 hc; have e : cs9 = _ := k.2.1; rw [← e]; exact k.2.2
        refine a_gval rfl (g_true rfl rfl rfl rfl) rfl (fun hc => fun w' => (y_indexAddr rfl Tryz.underlying24 size_3 (ev_gv et hc) (ev_gv et hc) (lat_bd (hx11 hc)) (hq13 hc).1)) ?_
        refine a_gread rfl (g_true rfl rfl rfl rfl) rfl (fun hc => fun w' hw' => (y_load1 (v := (vi e9)) rfl (ev_gv et hc) Tryz.underlying3 rfl ((hq14 hc).at_ (SX.any rfl hw')))) (by kernel_rfl) ?_
        refine a_gval rfl (g_true rfl rfl rfl rfl) rfl (fun hc => fun w' => (y_move rfl et)) ?_
        obtain ⟨e10, hx12, h⟩ := bnd_some h
        replace hx12 := gd_some hx12
        obtain ⟨ad10, cs10, hq15⟩ := hI.gclat (.s (.s (.s (.s .z)))) hx12
        obtain ⟨a14, c20, a15, c21, hq16⟩ : ∃ (a14 : Option Addr) (c20 : Nat) (a15 : Option Addr) (c21 : Nat), (!decide (k1 = axis1)) = true → (a1 = some ad10 ∧ cs10 = [(vi e10.Type_.Kind), (vi e10.Type_.Bits), (vi e10.Type_.Frac), (vi e10.Type_.Round), (vi e10.Type_.Over), (vs a14 e10.Dims.length c20), (vs a15 e10.Vals.length c21)] ∧ CA (Dj F c15) w9 (ad10.add (Int.toNat 0 * 7)) cs10 ∧ SlC (cInt .i64) (Dj F c15) w9 a14 c20 e10.Dims ∧ SlC cGVal (Dj F c15) w9 a15 c21 e10.Vals) := by
         by_cases hc : (!decide (k1 = axis1)) = true
         ·obtain ⟨k1, k2, k3⟩ := hq15 hc; obtain ⟨a14, c20, a15, c21, rfl, hf13, hf14⟩ := k2; exact ⟨a14, c20, a15, c21, fun _ => ⟨k1, rfl, k3, hf13, hf14⟩⟩
         ·exact ⟨default, default, default, default, fun k => absurd k hc⟩
        clear hq15
        have hI := hI.add (c := Cl.gsl (!decide (k1 = axis1)) (cInt .i64) a14 c20 e10.Dims) (fun hc => (hq16 hc).2.2.2.1)
        have hI := hI.add (c := Cl.gsl (!decide (k1 = axis1)) cGVal a15 c21 e10.Vals) (fun hc => (hq16 hc).2.2.2.2)
        have hq17 : (!decide (k1 = axis1)) = true → CA (Dj F c15) w9 (ad10.add (Int.toNat 0 * 7)) [(vi e10.Type_.Kind), (vi e10.Type_.Bits), (vi e10.Type_.Frac), (vi e10.Type_.Round), (vi e10.Type_.Over), (vs a14 e10.Dims.length c20), (vs a15 e10.Vals.length c21)] := fun hc => by have k := hq16 hc; have e : cs10 = _ := k.2.1; rw [← e]; exact k.2.2.1
        refine a_gval rfl (g_true rfl rfl rfl rfl) rfl (fun hc => fun w' => (y_indexAddr rfl Tryz.underlying58 size_27 (ev_gv et hc) ev_const (lat_bd (hx12 hc)) (hq16 hc).1)) ?_
        refine a_gval rfl (g_true rfl rfl rfl rfl) rfl (fun hc => fun w' => (y_fieldAddr rfl (ev_gv et hc) Tryz.underlying27 rfl size_24 rfl)) ?_
        refine a_gread rfl (g_true rfl rfl rfl rfl) rfl (fun hc => fun w' hw' => (y_load1 (v := (vs a14 e10.Dims.length c20)) rfl (ev_gv et hc) Tryz.underlying24 rfl ((CA.part (hq17 hc) rfl).at_ (SX.any rfl hw')))) (by kernel_rfl) ?_
        refine a_gval rfl (g_true rfl rfl rfl rfl) rfl (fun hc => fun w' => (y_move rfl et)) ?_
        obtain ⟨e11, hx13, h⟩ := bnd_some h
        replace hx13 := gd_some hx13
        obtain ⟨ad11, cs11, hq18⟩ := hI.ggclat (.s .z) (fun hc => hc) hx13
        have hq19 : (!decide (k1 = axis1)) = true → CA (Dj F c15) w9 (ad11.add (Int.toNat k1 * 1)) [(vi e11)] := fun hc => by have k := hq18 hc; have e : cs11 = _ := k.2.1; rw [← e]; exact k.2.2
        refine a_gval rfl (g_true rfl rfl rfl rfl) rfl (fun hc => fun w' => (y_indexAddr rfl Tryz.underlying24 size_3 (ev_gv et hc) (ev_gv et hc) (lat_bd (hx13 hc)) (hq18 hc).1)) ?_
        refine a_gread rfl (g_true rfl rfl rfl rfl) rfl (fun hc => fun w' hw' => (y_load1 (v := (vi e11)) rfl (ev_gv et hc) Tryz.underlying3 rfl ((hq19 hc).at_ (SX.any rfl hw')))) (by kernel_rfl) ?_
        refine a_gval rfl (g_true rfl rfl rfl rfl) rfl (fun hc => fun w' => (y_neq rfl (ev_gv et hc) (ev_gv et hc))) ?_
        refine a_q rfl gn rfl (fun w' => (y_and rfl et et)) ?_
        refine a_nil ?_
        refine k_next (e := [(0, (vi axis1)), (1, (vs a1 l1.length c1)), (7, (vi n2)), (8, (vi i1)), (9, (vi k1)), (84, (vb ((!decide (k1 = axis1)) && (!decide (e9 = e11)))))]) ⟨rfl, rfl, rfl, rfl, rfl, rfl, trivial⟩ ?_
        refine c_cond (b := (!decide (k1 = axis1)) && (!decide (e9 = e11))) et (fun hb => ?_) (fun hb => ?_)
        ·replace h := ite_t hb h
         refine sr ?_
         refine sac ?_
         refine sac ?_
         refine nk ?_
         refine c_ret ?_
         obtain rfl := some_inj h
         exact q_ret (vs := [(vi 0), (vi 15)]) Tryz.results73 ⟨ev_tmp rfl rfl, ⟨ev_tmp rfl rfl, trivial⟩⟩ ⟨rfl, hI.ext0, hI.fin trivial⟩
        ·replace h := ite_f hb h
         refine c_skip ?_
         refine k_same ?_
         refine c_region rfl ?_
         refine sm ?_
         refine sq (y_add rfl et ev_const) ?_
         refine sa ?_
         refine s_nil ?_
         exact k_loop (fuel2, wi64 (k1 + 1)) ⟨rfl, rfl, rfl, rfl, rfl, trivial⟩ ⟨_, hI.arr .n ⟨(.s (.s (.s (.s (.s (.s .z)))))), trivial⟩, h⟩ (Nat.lt_succ_self _)
       ·replace h := ite_f hb h
        refine c_exit ?_
        refine k_in ?_
        exact k_join () ⟨rfl, rfl, rfl, rfl, trivial⟩ ⟨_, hI.arr .n ⟨(.s (.s .z)), trivial⟩, h⟩ rfl
    ·replace h := ite_f hb h
     refine c_exit ?_
     refine k_in ?_
     exact k_join n2 ⟨rfl, rfl, rfl, trivial⟩ ⟨_, hI.arr .n ⟨.z, trivial⟩, h⟩ rfl
 ·skip
  refine sr ?_
  refine sac ?_
  refine nk ?_
  refine c_block ?_
  refine c_loop (α := Nat × Int) (fun x => fun w => ∃ C, Bun noM F w0 C w [] [Cl.sl cGTensor a1 c1 l1] ∧ m_ref12_joined_l3 l1 axis1 (x.1) (x.2) = some r) (fun x _ => x.1) (fun x => [(0, (vi axis1)), (1, (vs a1 l1.length c1)), (6, (vi (x.2)))]) (fu, 1) ⟨_, hI.arr .n ⟨.z, trivial⟩, h⟩ ⟨rfl, rfl, rfl, trivial⟩ ?_
  clear h hI; rintro ⟨fuel3, i2⟩ w10 ⟨c22, hI, h⟩
  dsimp only at hI h
  rcases fuel3 with _ | fuel3
  ·rw [m_ref12_joined_l3] at h; cases h
  rw [m_ref12_joined_l3] at h
  refine c_sub (e := [(0, (vi axis1)), (1, (vs a1 l1.length c1)), (6, (vi i2))]) ⟨rfl, rfl, rfl, trivial⟩ ?_
  refine c_seq ?_
  refine sr ?_
  refine sm ?_
  refine sm ?_
  refine sq (y_lenl rfl Tryz.underlying58 et) ?_
  refine sq (y_lss rfl et et) ?_
  refine nk ?_
  refine c_cond (b := decide (i2 < (l1.length : Int))) et (fun hb => ?_) (fun hb => ?_)
  ·replace h := ite_t hb h
   refine c_skip ?_
   refine k_same ?_
   refine c_seq ?_
   refine c_block ?_
   refine c_seq ?_
   refine c_seq ?_
   refine c_drawX [] false (.c (0, .q) (.c (1, .q) (.c (2, .q) (.c (3, .q) (.c (4, .q) (.c (5, .q) (.c (6, .q) (.c (7, .q) (.c (8, .q) (.c (9, .q) .n)))))))))) hI (by kernel_rfl) (by kernel_rfl) ?_
   clear hI; intro w11 hI
   refine a_q rfl gn rfl (fun w' => (y_move rfl et)) ?_
   refine a_q rfl gn rfl (fun w' => (y_move rfl et)) ?_
   obtain ⟨e12, hx14, h⟩ := bnd_some h
   obtain ⟨ad12, cs12, hA12, hr12, hq20⟩ := hI.clat .z hx14
   obtain ⟨a16, c23, a17, c24, rfl, hf15, hf16⟩ := hr12
   have hI := hI.add (c := Cl.sl (cInt .i64) a16 c23 e12.Dims) hf15
   have hI := hI.add (c := Cl.sl cGVal a17 c24 e12.Vals) hf16
   refine a_q rfl gn rfl (fun w' => (y_indexAddr rfl Tryz.underlying58 size_27 et et (lat_bd hx14) hA12)) ?_
   refine a_q rfl gn rfl (fun w' => (y_fieldAddr rfl et Tryz.underlying27 rfl size_23 rfl)) ?_
   refine a_read rfl gn rfl (fun w' hw' => (y_loadN (l := [(vi e12.Type_.Kind), (vi e12.Type_.Bits), (vi e12.Type_.Frac), (vi e12.Type_.Round), (vi e12.Type_.Over)]) rfl et Tryz.underlying23 rfl size_23 ((CA.part hq20 rfl).at_ (SX.any rfl hw')))) (by kernel_rfl) ?_
   refine a_q rfl gn rfl (fun w' => (y_move rfl et)) ?_
   obtain ⟨e13, hx15, h⟩ := bnd_some h
   obtain ⟨ad13, cs13, hA13, hr13, hq21⟩ := hI.clat (.s (.s .z)) hx15
   obtain ⟨a18, c25, a19, c26, rfl, hf17, hf18⟩ := hr13
   have hI := hI.add (c := Cl.sl (cInt .i64) a18 c25 e13.Dims) hf17
   have hI := hI.add (c := Cl.sl cGVal a19 c26 e13.Vals) hf18
   refine a_q rfl gn rfl (fun w' => (y_indexAddr rfl Tryz.underlying58 size_27 et ev_const (lat_bd hx15) hA13)) ?_
   refine a_q rfl gn rfl (fun w' => (y_fieldAddr rfl et Tryz.underlying27 rfl size_23 rfl)) ?_
   refine a_read rfl gn rfl (fun w' hw' => (y_loadN (l := [(vi e13.Type_.Kind), (vi e13.Type_.Bits), (vi e13.Type_.Frac), (vi e13.Type_.Round), (vi e13.Type_.Over)]) rfl et Tryz.underlying23 rfl size_23 ((CA.part hq21 rfl).at_ (SX.any rfl hw')))) (by kernel_rfl) ?_
   refine a_q rfl gn rfl (fun w' => (y_bin rfl et et (eqstruct_23n ..) (eqguard_23 ..))) ?_
   refine a_nil ?_
   refine k_same ?_
   refine c_cond (b := !((decide (e12.Type_.Kind = e13.Type_.Kind)) && (decide (e12.Type_.Bits = e13.Type_.Bits)) && (decide (e12.Type_.Frac = e13.Type_.Frac)) && (decide (e12.Type_.Round = e13.Type_.Round)) && (decide (e12.Type_.Over = e13.Type_.Over)))) et (fun hb => ?_) (fun hb => ?_)
   ·replace h := ite_t hb h
    refine sr ?_
    refine sac ?_
    refine sac ?_
    refine nk ?_
    refine c_ret ?_
    obtain rfl := some_inj h
    exact q_ret (vs := [(vi 0), (vi 10)]) Tryz.results73 ⟨ev_tmp rfl rfl, ⟨ev_tmp rfl rfl, trivial⟩⟩ ⟨rfl, hI.ext0, hI.fin trivial⟩
   ·replace h := ite_f hb h
    refine c_skip ?_
    refine k_same ?_
    refine c_seq ?_
    refine c_drawX [] false (.c (0, .q) (.c (1, .q) (.c (2, .q) (.c (3, .q) (.c (4, .q) (.c (5, .q) (.c (6, .q) (.c (7, .q) (.c (8, .q) (.c (9, .q) (.c (10, .q) (.c (11, .q) .n)))))))))))) hI (by kernel_rfl) (by kernel_rfl) ?_
    clear hI; intro w12 hI
    refine a_q rfl gn rfl (fun w' => (y_move rfl et)) ?_
    refine a_q rfl gn rfl (fun w' => (y_move rfl et)) ?_
    obtain ⟨e14, hx16, h⟩ := bnd_some h
    obtain ⟨ad14, cs14, hA14, hr14, hq22⟩ := hI.clat (.s (.s (.s (.s .z)))) hx16
    obtain ⟨a20, c27, a21, c28, rfl, hf19, hf20⟩ := hr14
    have hI := hI.add (c := Cl.sl (cInt .i64) a20 c27 e14.Dims) hf19
    have hI := hI.add (c := Cl.sl cGVal a21 c28 e14.Vals) hf20
    refine a_q rfl gn rfl (fun w' => (y_indexAddr rfl Tryz.underlying58 size_27 et et (lat_bd hx16) hA14)) ?_
    refine a_q rfl gn rfl (fun w' => (y_fieldAddr rfl et Tryz.underlying27 rfl size_24 rfl)) ?_
    refine a_read rfl gn rfl (fun w' hw' => (y_load1 (v := (vs a20 e14.Dims.length c27)) rfl et Tryz.underlying24 rfl ((CA.part hq22 rfl).at_ (SX.any rfl hw')))) (by kernel_rfl) ?_
    refine a_q rfl gn rfl (fun w' => (y_lenl rfl Tryz.underlying24 et)) ?_
    refine a_q rfl gn rfl (fun w' => (y_move rfl et)) ?_
    obtain ⟨e15, hx17, h⟩ := bnd_some h
    obtain ⟨ad15, cs15, hA15, hr15, hq23⟩ := hI.clat (.s (.s (.s (.s (.s (.s .z)))))) hx17
    obtain ⟨a22, c29, a23, c30, rfl, hf21, hf22⟩ := hr15
    have hI := hI.add (c := Cl.sl (cInt .i64) a22 c29 e15.Dims) hf21
    have hI := hI.add (c := Cl.sl cGVal a23 c30 e15.Vals) hf22
    refine a_q rfl gn rfl (fun w' => (y_indexAddr rfl Tryz.underlying58 size_27 et ev_const (lat_bd hx17) hA15)) ?_
    refine a_q rfl gn rfl (fun w' => (y_fieldAddr rfl et Tryz.underlying27 rfl size_24 rfl)) ?_
    refine a_read rfl gn rfl (fun w' hw' => (y_load1 (v := (vs a22 e15.Dims.length c29)) rfl et Tryz.underlying24 rfl ((CA.part hq23 rfl).at_ (SX.any rfl hw')))) (by kernel_rfl) ?_
    refine a_q rfl gn rfl (fun w' => (y_lenl rfl Tryz.underlying24 et)) ?_
    refine a_q rfl gn rfl (fun w' => (y_neq rfl et et)) ?_
    refine a_nil ?_
    refine k_next (e := [(0, (vi axis1)), (1, (vs a1 l1.length c1)), (6, (vi i2)), (37, (vb (!decide ((e14.Dims.length : Int) = (e15.Dims.length : Int)))))]) ⟨rfl, rfl, rfl, rfl, trivial⟩ ?_
    refine c_cond (b := !decide ((e14.Dims.length : Int) = (e15.Dims.length : Int))) et (fun hb => ?_) (fun hb => ?_)
    ·replace h := ite_t hb h
     refine sr ?_
     refine sac ?_
     refine sac ?_
     refine nk ?_
     refine c_ret ?_
     obtain rfl := some_inj h
     exact q_ret (vs := [(vi 0), (vi 11)]) Tryz.results73 ⟨ev_tmp rfl rfl, ⟨ev_tmp rfl rfl, trivial⟩⟩ ⟨rfl, hI.ext0, hI.fin trivial⟩
    ·replace h := ite_f hb h
     refine c_skip ?_
     refine k_same ?_
     refine c_region rfl ?_
     refine sm ?_
     refine sq (y_add rfl et ev_const) ?_
     refine sa ?_
     refine s_nil ?_
     exact k_loop (fuel3, wi64 (i2 + 1)) ⟨rfl, rfl, rfl, trivial⟩ ⟨_, hI.arr .n ⟨(.s (.s (.s (.s (.s (.s (.s (.s .z)))))))), trivial⟩, h⟩ (Nat.lt_succ_self _)
  ·replace h := ite_f hb h
   refine c_exit ?_
   refine k_in ?_
   exact k_join () ⟨rfl, rfl, trivial⟩ ⟨_, hI.arr .n ⟨.z, trivial⟩, h⟩ rfl

set_option maxRecDepth 100000 in
set_option maxHeartbeats 4000000 in
theorem c_ref12_Point_o (C0 F : NP) (w0 : World) (d1 : List Int) (at1 : Int) (a1 : Option Addr) (c1 : Nat) (hI : Bun C0 F w0 C0 w0 [] [Cl.sl (cInt .i64) a1 c1 d1]) (r : List Int)
  (h : m_ref12_Point_o d1 at1 = some r) :
  Calls Tryz.prog 45 #[(vs a1 d1.length c1), (vi at1)] w0 fun e w => ∃ (a2 : Option Addr) (c2 : Nat) (C : NP), e = .returned (vs a2 r.length c2) ∧ Bun C0 F w0 C w [MO.row (cInt .i64) 3 a2 c2 r] [] := by
 refine enterK (l := [(vs a1 d1.length c1), (vi at1)]) Tryz.func45 rfl Tryz.ntmps45 rfl ?_
 rw [m_ref12_Point_o] at h
 refine sr ?_
 refine sac ?_
 refine nk ?_
 refine sr ?_
 refine sm ?_
 refine sq (y_lenl rfl Tryz.underlying24 et) ?_
 obtain ⟨zs1, hx1, h⟩ := bnd_some h
 refine l_make (c := (cInt .i64)) hI hx1 gn  rfl rfl Tryz.underlying24 info_3 rfl rfl et et rfl ?_
 clear hI; intro b1 c3 w1 hI
 refine sa ?_
 refine nk ?_
 refine c_seq ?_
 refine sr ?_
 refine sm ?_
 refine sq (y_lenl rfl Tryz.underlying24 et) ?_
 refine sq (y_sub rfl et ev_const) ?_
 obtain ⟨i1, hx2, h⟩ := bnd_some h
 refine sq (binU (y_assign rfl et) (congrArg (Value.int .i64) (some_inj hx2))) ?_
 refine nk ?_
 refine c_block ?_
 refine c_loop (α := Nat × Int × (List Int) × Int × (Option Addr) × Nat) (fun x => fun w => ∃ C, Bun C0 F w0 C w [MO.row (cInt .i64) 3 (x.2.2.2.2.1) (x.2.2.2.2.2) (x.2.2.1)] [Cl.sl (cInt .i64) a1 c1 d1] ∧ m_ref12_Point_o_l1 d1 (x.1) (x.2.1) (x.2.2.1) (x.2.2.2.1) = some r) (fun x _ => x.1) (fun x => [(0, (vs a1 d1.length c1)), (1, (vi (x.2.1))), (5, (vs (x.2.2.2.2.1) (x.2.2.1).length (x.2.2.2.2.2))), (6, (vi (x.2.2.2.1)))]) (fu, at1, zs1, i1, some ⟨b1, 0, none⟩, ((d1.length : Int)).toNat) ⟨_, hI.arr (.c .z .n) ⟨.z, trivial⟩, h⟩ ⟨rfl, rfl, rfl, rfl, trivial⟩ ?_
 clear h hI; rintro ⟨fuel1, at2, p1, i2, a3, c4⟩ w2 ⟨c5, hI, h⟩
 dsimp only at hI h
 rcases fuel1 with _ | fuel1
 ·rw [m_ref12_Point_o_l1] at h; cases h
 rw [m_ref12_Point_o_l1] at h
 refine c_sub (e := [(0, (vs a1 d1.length c1)), (1, (vi at2)), (5, (vs a3 p1.length c4)), (6, (vi i2))]) ⟨rfl, rfl, rfl, rfl, trivial⟩ ?_
 refine c_seq ?_
 refine sr ?_
 refine sm ?_
 refine sq (y_geq rfl et ev_const) ?_
 refine nk ?_
 refine c_cond (b := decide (0 ≤ i2)) et (fun hb => ?_) (fun hb => ?_)
 ·replace h := ite_t hb h
  refine c_skip ?_
  refine k_same ?_
  refine c_seq ?_
  refine c_block ?_
  refine sr ?_
  refine sm ?_
  refine sm ?_
  refine sm ?_
  refine sm ?_
  refine sm ?_
  obtain ⟨e1, hx3, h⟩ := bnd_some h
  obtain ⟨ad1, cs1, hA1, hr1, hq1⟩ := hI.clat .z hx3
  obtain rfl : cs1 = [(vi e1)] := hr1
  refine sq (y_indexAddr rfl Tryz.underlying24 size_3 et et (lat_bd hx3) hA1) ?_
  refine sq (y_load1 (v := (vi e1)) rfl et Tryz.underlying3 rfl hq1.1) ?_
  obtain ⟨ho1, h⟩ := chk_some h
  refine sq (y_rem rfl et et ho1) ?_
  obtain ⟨ho2, h⟩ := chk_some h
  obtain ⟨ad2, hA2⟩ := hI.addr .z ho2
  refine sq (y_indexAddr rfl Tryz.underlying24 size_3 et et ho2 hA2) ?_
  refine l_storeRow (p := Int.toNat i2) (new := [(vi (Int.tmod at2 e1))]) (off := 0) (x' := Int.tmod at2 e1) hI .z gn rfl rfl (by have := ho2; omega) hA2 rfl et et rfl size_3 rfl (by show 0 + 1 ≤ 1; omega) (fun _ cs0 _ hr0 => by rw [spl_full (by have e := Cod.len _ hr0; exact e)]; exact rfl) ?_
  clear hI; intro c6 w3 hI
  refine s_nil ?_
  refine k_next (e := [(0, (vs a1 d1.length c1)), (1, (vi at2)), (5, (vs a3 (p1.set (Int.toNat i2) (Int.tmod at2 e1)).length c4)), (6, (vi i2))]) ⟨rfl, rfl, (lookset rfl), rfl, trivial⟩ ?_
  refine c_region rfl ?_
  refine sm ?_
  refine sm ?_
  refine sm ?_
  obtain ⟨e2, hx4, h⟩ := bnd_some h
  obtain ⟨ad3, cs2, hA3, hr2, hq2⟩ := hI.clat .z hx4
  obtain rfl : cs2 = [(vi e2)] := hr2
  refine sq (y_indexAddr rfl Tryz.underlying24 size_3 et et (lat_bd hx4) hA3) ?_
  refine sq (y_load1 (v := (vi e2)) rfl et Tryz.underlying3 rfl hq2.1) ?_
  obtain ⟨ho3, h⟩ := chk_some h
  refine sq (y_quo rfl et et ho3) ?_
  refine sa ?_
  refine nk ?_
  refine c_region rfl ?_
  refine sm ?_
  refine sq (y_sub rfl et ev_const) ?_
  refine sa ?_
  refine s_nil ?_
  exact k_loop (fuel1, wi64 (Int.tdiv at2 e2), p1.set (Int.toNat i2) (Int.tmod at2 e1), wi64 (i2 - 1), a3, c4) ⟨rfl, rfl, rfl, rfl, trivial⟩ ⟨_, hI.arr (.c .z .n) ⟨.z, trivial⟩, h⟩ (Nat.lt_succ_self _)
 ·replace h := ite_f hb h
  refine c_exit ?_
  refine k_in ?_
  refine k_same ?_
  refine sr ?_
  refine sm ?_
  refine sa ?_
  refine nk ?_
  refine c_ret ?_
  obtain rfl := some_inj h
  exact q_ret (vs := [(vs a3 p1.length c4)]) Tryz.results45 ⟨ev_tmp rfl rfl, trivial⟩ ⟨a3, c4, _, rfl, hI.arr (.c .z .n) trivial⟩

set_option maxRecDepth 100000 in
set_option maxHeartbeats 4000000 in
theorem c_ref12_Concat (F : NP) (w0 : World) (hF : ∀ k, F k → k < w0.heap.size) (axis1 : Int) (l1 : List GTensor) (a1 : Option Addr) (c1 : Nat) (hc : AllCl [Cl.sl cGTensor a1 c1 l1] F w0) (r : GTensor × Int)
  (h : m_ref12_Concat axis1 l1 = some r) :
  Calls Tryz.prog 39 #[(vi axis1), (vs a1 l1.length c1)] w0 fun e w => ∃ (a2 : Option Addr) (c2 : Nat) (a3 : Option Addr) (c3 : Nat), e = .returned (Value.tuple #[(Value.agg #[(vi r.1.Type_.Kind), (vi r.1.Type_.Bits), (vi r.1.Type_.Frac), (vi r.1.Type_.Round), (vi r.1.Type_.Over), (vs a2 r.1.Dims.length c2), (vs a3 r.1.Vals.length c3)]), (vi r.2)]) ∧ Ext w0 w ∧ AllCl [Cl.sl (cInt .i64) a2 c2 r.1.Dims, Cl.sl cGVal a3 c3 r.1.Vals] F w := by
 refine enterK (l := [(vi axis1), (vs a1 l1.length c1)]) Tryz.func39 rfl Tryz.ntmps39 rfl ?_
 have hI := Bun.start hF hc
 clear hc
 rw [m_ref12_Concat] at h
 refine sr ?_
 refine l_alloc (cs := #[(vi 0), (vi 0), (vi 0), (vi 0), (vi 0), (vs none 0 0), (vs none 0 0)]) hI gn rfl rfl zero_27 rfl ?_
 clear hI; intro b1 c4 w1 hI
 refine sac ?_
 refine nk ?_
 refine c_seq ?_
 refine sr ?_
 refine sm ?_
 refine sq (y_lenl rfl Tryz.underlying58 et) ?_
 refine sq (y_eql rfl et ev_const) ?_
 refine nk ?_
 refine c_cond (b := decide ((l1.length : Int) = 0)) et (fun hb => ?_) (fun hb => ?_)
 ·replace h := ite_t hb h
  refine sr ?_
  refine sq (y_build (vs := []) (cs := #[(vi 0), (vi 0), (vi 0), (vi 0), (vi 0), (vs none 0 0), (vs none 0 0)]) rfl trivial (by kernel_rfl)) ?_
  refine l_store (new := [(vi 0), (vi 0), (vi 0), (vi 0), (vi 0), (vs none 0 0), (vs none 0 0)]) (cs' := #[(vi 0), (vi 0), (vi 0), (vi 0), (vi 0), (vs none 0 0), (vs none 0 0)]) hI .z gn rfl rfl et et rfl size_27 rfl rfl rfl ?_
  clear hI; intro c5 w2 hI
  refine sac ?_
  refine nk ?_
  refine c_ret ?_
  have hI := hI.add (c := Cl.sl (cInt .i64) none 0 ([] : List Int)) SlC.nil
  have hI := hI.add (c := Cl.sl cGVal none 0 ([] : List GVal)) SlC.nil
  obtain rfl := some_inj h
  exact q_ret (vs := [(Value.agg #[(vi 0), (vi 0), (vi 0), (vi 0), (vi 0), (vs none 0 0), (vs none 0 0)]), (vi 1)]) Tryz.results39 ⟨⟨_, ev_tmp rfl rfl, load_agg (l := [(vi 0), (vi 0), (vi 0), (vi 0), (vi 0), (vs none 0 0), (vs none 0 0)]) Tryz.underlying27 rfl size_27 (CellsAt.of_blk (hI.blk .z) rfl)⟩, ⟨ev_tmp rfl rfl, trivial⟩⟩ ⟨none, 0, none, 0, rfl, hI.ext0, hI.fin ⟨(.s .z), .z, trivial⟩⟩
 ·replace h := ite_f hb h
  refine c_skip ?_
  refine k_same ?_
  refine c_join (α := Unit) (fun _ => ⟨139, []⟩) (fun _ => [(0, (vi axis1)), (1, (vs a1 l1.length c1)), (4, (vp b1 0))]) (fun _ => fun w => ∃ C, Bun noM F w0 C w [MO.box b1 27 #[(vi 0), (vi 0), (vi 0), (vi 0), (vi 0), (vs none 0 0), (vs none 0 0)]] [Cl.sl cGTensor a1 c1 l1] ∧ m_ref12_Concat_j1 axis1 l1 = some r) ?_ ?_
  ·clear h hI; rintro _ w3 ⟨c6, hI, h⟩
   try dsimp only at hI h
   rw [m_ref12_Concat_j1] at h
   refine c_sub (e := [(0, (vi axis1)), (1, (vs a1 l1.length c1)), (4, (vp b1 0))]) ⟨rfl, rfl, rfl, trivial⟩ ?_
   refine sr ?_
   refine sm ?_
   refine sm ?_
   obtain ⟨r1, hx1, h⟩ := bnd_some h
   refine s_call gn rfl (r_callF (vs := [(vi axis1), (vs a1 l1.length c1)]) rfl ok_73 ⟨et, ⟨et, trivial⟩⟩) (Calls.mono (c_ref12_joined (Dj F c6) w3 hI.lt axis1 l1 a1 c1 ⟨(hI.get .z), trivial⟩ r1 hx1) ?_)
   rintro _ w4 ⟨rfl, hx2, hl1⟩
   refine ⟨_, rfl, ?_⟩
   replace hI := (hI.ext hx2)
   refine sm ?_
   refine sq (y_extract rfl et rfl) ?_
   refine sq (y_extract rfl et rfl) ?_
   refine sa ?_
   refine sa ?_
   refine nk ?_
   refine c_seq ?_
   refine sr ?_
   refine sm ?_
   refine sq (y_neq rfl et ev_const) ?_
   refine nk ?_
   refine c_cond (b := !decide (r1.2 = 0)) et (fun hb => ?_) (fun hb => ?_)
   ·replace h := ite_t hb h
    refine sr ?_
    refine sq (y_build (vs := []) (cs := #[(vi 0), (vi 0), (vi 0), (vi 0), (vi 0), (vs none 0 0), (vs none 0 0)]) rfl trivial (by kernel_rfl)) ?_
    refine sm ?_
    refine l_store (new := [(vi 0), (vi 0), (vi 0), (vi 0), (vi 0), (vs none 0 0), (vs none 0 0)]) (cs' := #[(vi 0), (vi 0), (vi 0), (vi 0), (vi 0), (vs none 0 0), (vs none 0 0)]) hI .z gn rfl rfl et et rfl size_27 rfl rfl rfl ?_
    clear hI; intro c7 w5 hI
    refine sa ?_
    refine nk ?_
    refine c_ret ?_
    have hI := hI.add (c := Cl.sl (cInt .i64) none 0 ([] : List Int)) SlC.nil
    have hI := hI.add (c := Cl.sl cGVal none 0 ([] : List GVal)) SlC.nil
    obtain rfl := some_inj h
    exact q_ret (vs := [(Value.agg #[(vi 0), (vi 0), (vi 0), (vi 0), (vi 0), (vs none 0 0), (vs none 0 0)]), (vi r1.2)]) Tryz.results39 ⟨⟨_, ev_tmp rfl rfl, load_agg (l := [(vi 0), (vi 0), (vi 0), (vi 0), (vi 0), (vs none 0 0), (vs none 0 0)]) Tryz.underlying27 rfl size_27 (CellsAt.of_blk (hI.blk .z) rfl)⟩, ⟨ev_tmp rfl rfl, trivial⟩⟩ ⟨none, 0, none, 0, rfl, hI.ext0, hI.fin ⟨(.s .z), .z, trivial⟩⟩
   ·replace h := ite_f hb h
    refine c_skip ?_
    refine k_same ?_
    refine sr ?_
    refine sm ?_
    obtain ⟨e1, hx3, h⟩ := bnd_some h
    obtain ⟨ad1, cs1, hA1, hr1, hq1⟩ := hI.clat .z hx3
    obtain ⟨a4, c8, a5, c9, rfl, hf1, hf2⟩ := hr1
    have hI := hI.add (c := Cl.sl (cInt .i64) a4 c8 e1.Dims) hf1
    have hI := hI.add (c := Cl.sl cGVal a5 c9 e1.Vals) hf2
    refine sq (y_indexAddr rfl Tryz.underlying58 size_27 et ev_const (lat_bd hx3) hA1) ?_
    refine sq (y_fieldAddr rfl et Tryz.underlying27 rfl size_23 rfl) ?_
    refine sq (y_loadN (l := [(vi e1.Type_.Kind), (vi e1.Type_.Bits), (vi e1.Type_.Frac), (vi e1.Type_.Round), (vi e1.Type_.Over)]) rfl et Tryz.underlying23 rfl size_23 (CA.part hq1 rfl).1) ?_
    refine sq (y_build (vs := [(0, (Value.agg #[(vi e1.Type_.Kind), (vi e1.Type_.Bits), (vi e1.Type_.Frac), (vi e1.Type_.Round), (vi e1.Type_.Over)]))]) (cs := #[(vi e1.Type_.Kind), (vi e1.Type_.Bits), (vi e1.Type_.Frac), (vi e1.Type_.Round), (vi e1.Type_.Over), (vs none 0 0), (vs none 0 0)]) rfl ⟨rfl, et, trivial⟩ (by kernel_rfl)) ?_
    refine l_alloc (cs := #[(vi 0), (vi 0), (vi 0), (vi 0), (vi 0), (vs none 0 0), (vs none 0 0)]) hI gn rfl rfl zero_27 rfl ?_
    clear hI; intro b2 c10 w6 hI
    refine l_store (new := [(vi e1.Type_.Kind), (vi e1.Type_.Bits), (vi e1.Type_.Frac), (vi e1.Type_.Round), (vi e1.Type_.Over), (vs none 0 0), (vs none 0 0)]) (cs' := #[(vi e1.Type_.Kind), (vi e1.Type_.Bits), (vi e1.Type_.Frac), (vi e1.Type_.Round), (vi e1.Type_.Over), (vs none 0 0), (vs none 0 0)]) hI .z gn rfl rfl et et rfl size_27 rfl rfl rfl ?_
    clear hI; intro c11 w7 hI
    refine nk ?_
    refine c_join (α := GTensor × (Option Addr) × Nat × (Option Addr) × Nat) (fun _ => ⟨139, []⟩) (fun x => [(0, (vi axis1)), (1, (vs a1 l1.length c1)), (4, (vp b1 0)), (10, (vp b2 0))]) (fun x => fun w => ∃ C, Bun noM F w0 C w [MO.row (cInt .i64) 3 (x.2.1) (x.2.2.1) (x.1).Dims, MO.row cGVal 36 (x.2.2.2.1) (x.2.2.2.2) (x.1).Vals, MO.box b1 27 #[(vi 0), (vi 0), (vi 0), (vi 0), (vi 0), (vs none 0 0), (vs none 0 0)], MO.box b2 27 #[(vi (x.1).Type_.Kind), (vi (x.1).Type_.Bits), (vi (x.1).Type_.Frac), (vi (x.1).Type_.Round), (vi (x.1).Type_.Over), (vs (x.2.1) (x.1).Dims.length (x.2.2.1)), (vs (x.2.2.2.1) (x.1).Vals.length (x.2.2.2.2))]] [Cl.sl cGTensor a1 c1 l1] ∧ m_ref12_Concat_j2 axis1 l1 (x.1) = some r) ?_ ?_
    ·clear h hI; rintro ⟨out1, a6, c12, a7, c13⟩ w8 ⟨c14, hI, h⟩
     try dsimp only at hI h
     rw [m_ref12_Concat_j2] at h
     refine c_sub (e := [(0, (vi axis1)), (1, (vs a1 l1.length c1)), (4, (vp b1 0)), (10, (vp b2 0))]) ⟨rfl, rfl, rfl, rfl, trivial⟩ ?_
     refine c_seq ?_
     refine sr ?_
     refine sac ?_
     refine nk ?_
     refine c_block ?_
     obtain ⟨c18, hI⟩ := hI.release .z
     refine c_loop (α := Nat × Int × GTensor × (Option Addr) × Nat × (Option Addr) × Nat) (fun x => fun w => ∃ C, Bun noM F w0 C w [MO.row cGVal 36 (x.2.2.2.2.2.1) (x.2.2.2.2.2.2) (x.2.2.1).Vals, MO.box b1 27 #[(vi 0), (vi 0), (vi 0), (vi 0), (vi 0), (vs none 0 0), (vs none 0 0)], MO.box b2 27 #[(vi (x.2.2.1).Type_.Kind), (vi (x.2.2.1).Type_.Bits), (vi (x.2.2.1).Type_.Frac), (vi (x.2.2.1).Type_.Round), (vi (x.2.2.1).Type_.Over), (vs (x.2.2.2.1) (x.2.2.1).Dims.length (x.2.2.2.2.1)), (vs (x.2.2.2.2.2.1) (x.2.2.1).Vals.length (x.2.2.2.2.2.2))]] [Cl.sl (cInt .i64) (x.2.2.2.1) (x.2.2.2.2.1) (x.2.2.1).Dims, Cl.sl cGTensor a1 c1 l1] ∧ m_ref12_Concat_l1 axis1 l1 (x.1) (x.2.1) (x.2.2.1) = some r) (fun x _ => x.1) (fun x => [(0, (vi axis1)), (1, (vs a1 l1.length c1)), (4, (vp b1 0)), (10, (vp b2 0)), (12, (vi (x.2.1)))]) (fu, 0, out1, a6, c12, a7, c13) ⟨_, hI.arr (.c .z (.c .z (.c .z .n))) ⟨.z, (.s .z), trivial⟩, h⟩ ⟨rfl, rfl, rfl, rfl, rfl, trivial⟩ ?_
     clear h hI; rintro ⟨fuel1, i1, out2, a8, c15, a9, c16⟩ w9 ⟨c17, hI, h⟩
     dsimp only at hI h
     rcases fuel1 with _ | fuel1
     ·rw [m_ref12_Concat_l1] at h; cases h
     rw [m_ref12_Concat_l1] at h
     refine c_sub (e := [(0, (vi axis1)), (1, (vs a1 l1.length c1)), (4, (vp b1 0)), (10, (vp b2 0)), (12, (vi i1))]) ⟨rfl, rfl, rfl, rfl, rfl, trivial⟩ ?_
     refine c_seq ?_
     refine sr ?_
     refine sm ?_
     refine sq (y_fieldAddr rfl et Tryz.underlying27 rfl size_24 rfl) ?_
     refine sq (y_load1 (v := (vs a8 out2.Dims.length c15)) rfl et Tryz.underlying24 rfl (CellsAt.of_blk (hI.blk (.s (.s .z))) rfl)) ?_
     obtain ⟨r2, hx4, h⟩ := bnd_some h
     refine s_call gn rfl (r_callF (vs := [(vs a8 out2.Dims.length c15)]) rfl ok_44 ⟨et, trivial⟩) (Calls.mono (c_ref12_Size (Dj F c17) w9 hI.lt out2.Dims a8 c15 ⟨(hI.get .z), trivial⟩ r2 hx4) ?_)
     rintro _ w10 ⟨rfl, hx5, hl2⟩
     refine ⟨_, rfl, ?_⟩
     replace hI := (hI.ext hx5)
     refine sq (y_lss rfl et et) ?_
     refine nk ?_
     refine c_cond (b := decide (i1 < r2)) et (fun hb => ?_) (fun hb => ?_)
     ·replace h := ite_t hb h
      refine c_skip ?_
      refine k_same ?_
      refine c_join (α := GTensor × (Option Addr) × Nat × (Option Addr) × Nat) (fun _ => ⟨139, []⟩) (fun x => [(0, (vi axis1)), (1, (vs a1 l1.length c1)), (4, (vp b1 0)), (10, (vp b2 0)), (12, (vi i1))]) (fun x => fun w => ∃ C, Bun noM F w0 C w [MO.row cGVal 36 (x.2.2.2.1) (x.2.2.2.2) (x.1).Vals, MO.box b1 27 #[(vi 0), (vi 0), (vi 0), (vi 0), (vi 0), (vs none 0 0), (vs none 0 0)], MO.box b2 27 #[(vi (x.1).Type_.Kind), (vi (x.1).Type_.Bits), (vi (x.1).Type_.Frac), (vi (x.1).Type_.Round), (vi (x.1).Type_.Over), (vs (x.2.1) (x.1).Dims.length (x.2.2.1)), (vs (x.2.2.2.1) (x.1).Vals.length (x.2.2.2.2))]] [Cl.sl (cInt .i64) (x.2.1) (x.2.2.1) (x.1).Dims, Cl.sl cGTensor a1 c1 l1] ∧ m_ref12_Concat_j3 (m_ref12_Concat_l1 axis1 l1 fuel1) i1 (x.1) = some r) ?_ ?_
      ·clear h hI; rintro ⟨out3, a10, c19, a11, c20⟩ w11 ⟨c21, hI, h⟩
       try dsimp only at hI h
       rw [m_ref12_Concat_j3] at h
       refine c_sub (e := [(0, (vi axis1)), (1, (vs a1 l1.length c1)), (4, (vp b1 0)), (10, (vp b2 0)), (12, (vi i1))]) ⟨rfl, rfl, rfl, rfl, rfl, trivial⟩ ?_
       refine c_region rfl ?_
       refine sm ?_
       refine sq (y_add rfl et ev_const) ?_
       refine sa ?_
       refine s_nil ?_
       exact k_loop (fuel1, wi64 (i1 + 1), out3, a10, c19, a11, c20) ⟨rfl, rfl, rfl, rfl, rfl, trivial⟩ ⟨_, hI.arr (.c .z (.c .z (.c .z .n))) ⟨.z, (.s .z), trivial⟩, h⟩ (Nat.lt_succ_self _)
      ·skip
       refine c_block ?_
       refine sr ?_
       refine sq (y_fieldAddr rfl et Tryz.underlying27 rfl size_24 rfl) ?_
       refine sq (y_load1 (v := (vs a8 out2.Dims.length c15)) rfl et Tryz.underlying24 rfl (CellsAt.of_blk (hI.blk (.s (.s .z))) rfl)) ?_
       refine sm ?_
       obtain ⟨c22, f1, hB, hl3, hk1⟩ := hI.hands (.r (.r (.r .n)))
       obtain ⟨r3, hx6, h⟩ := bnd_some h
       try dsimp only at h
       refine s_call gn rfl (r_callF (vs := [(vs a8 out2.Dims.length c15), (vi i1)]) rfl ok_45 ⟨et, ⟨et, trivial⟩⟩) (Calls.mono (c_ref12_Point_o c22 f1 w10 out2.Dims i1 a8 c15 (hB.subs ⟨.z, trivial⟩) _ hx6) ?_)
       rintro _ w12 ⟨a12, c23, c24, rfl, hB2⟩
       obtain ⟨c25, hs1, hI⟩ := hk1 _ _ _ _ hB2
       replace hI : Bun noM F w0 c25 w12 [MO.row (cInt .i64) 3 a12 c23 r3, MO.row cGVal 36 a9 c16 out2.Vals, MO.box b1 27 #[(vi 0), (vi 0), (vi 0), (vi 0), (vi 0), (vs none 0 0), (vs none 0 0)], MO.box b2 27 #[(vi out2.Type_.Kind), (vi out2.Type_.Bits), (vi out2.Type_.Frac), (vi out2.Type_.Round), (vi out2.Type_.Over), (vs a8 out2.Dims.length c15), (vs a9 out2.Vals.length c16)]] [Cl.sl (cInt .i64) a8 c15 out2.Dims, Cl.sl cGTensor a1 c1 l1] := hI
       refine ⟨_, rfl, ?_⟩
       refine sa ?_
       refine nk ?_
       refine sr ?_
       refine sac ?_
       refine nk ?_
       refine c_join (α := (List Int) × Int × (Option Addr) × Nat) (fun _ => ⟨139, []⟩) (fun x => [(0, (vi axis1)), (1, (vs a1 l1.length c1)), (4, (vp b1 0)), (10, (vp b2 0)), (12, (vi i1)), (13, (vs (x.2.2.1) (x.1).length (x.2.2.2))), (14, (vi (x.2.1)))]) (fun x => fun w => ∃ C, Bun noM F w0 C w [MO.row (cInt .i64) 3 (x.2.2.1) (x.2.2.2) (x.1), MO.box b1 27 #[(vi 0), (vi 0), (vi 0), (vi 0), (vi 0), (vs none 0 0), (vs none 0 0)], MO.box b2 27 #[(vi out2.Type_.Kind), (vi out2.Type_.Bits), (vi out2.Type_.Frac), (vi out2.Type_.Round), (vi out2.Type_.Over), (vs a8 out2.Dims.length c15), (vs a9 out2.Vals.length c16)], MO.row cGVal 36 a9 c16 out2.Vals] [Cl.sl cGTensor a1 c1 l1, Cl.sl (cInt .i64) a8 c15 out2.Dims] ∧ m_ref12_Concat_j4 l1 out2 (m_ref12_Concat_l1 axis1 l1 fuel1) i1 (x.1) (x.2.1) = some r) ?_ ?_
       ·clear h hI; rintro ⟨p1, k1, a13, c26⟩ w13 ⟨c27, hI, h⟩
        try dsimp only at hI h
        rw [m_ref12_Concat_j4] at h
        refine c_sub (e := [(0, (vi axis1)), (1, (vs a1 l1.length c1)), (4, (vp b1 0)), (10, (vp b2 0)), (12, (vi i1)), (13, (vs a13 p1.length c26)), (14, (vi k1))]) ⟨rfl, rfl, rfl, rfl, rfl, rfl, rfl, trivial⟩ ?_
        refine c_drawX [17, 19] false (.c (0, .q) (.c (1, .q) (.c (2, .q) (.c (3, .q) (.c (4, .q) (.c (5, .q) (.c (6, .q) (.c (7, .q) (.c (8, .q) (.c (9, .q) (.c (10, .q) (.c (11, .q) (.c (12, .q) (.c (13, .s) (.c (14, .q) (.c (15, .q) (.c (16, .s) (.c (17, .s) (.c (18, .q) (.c (19, .s) .n)))))))))))))))))))) hI (by kernel_rfl) (by kernel_rfl) ?_
        clear hI; intro w14 hI
        refine a_q rfl gn rfl (fun w' => (y_fieldAddr rfl et Tryz.underlying27 rfl size_25 rfl)) ?_
        refine a_read rfl gn rfl (fun w' hw' => (y_load1 (v := (vs a9 out2.Vals.length c16)) rfl et Tryz.underlying25 rfl ((CA.blk (hI.blk (.s (.s .z))) rfl).at_ (SX.any rfl hw')))) (by kernel_rfl) ?_
        refine a_q rfl gn rfl (fun w' => (y_move rfl et)) ?_
        refine a_q rfl gn rfl (fun w' => (y_move rfl et)) ?_
        obtain ⟨e2, hx7, h⟩ := bnd_some h
        obtain ⟨ad2, cs2, hA2, hr2, hq2⟩ := hI.clat .z hx7
        obtain ⟨a14, c28, a15, c29, rfl, hf3, hf4⟩ := hr2
        have hI := hI.add (c := Cl.sl (cInt .i64) a14 c28 e2.Dims) hf3
        have hI := hI.add (c := Cl.sl cGVal a15 c29 e2.Vals) hf4
        refine a_q rfl gn rfl (fun w' => (y_indexAddr rfl Tryz.underlying58 size_27 et et (lat_bd hx7) hA2)) ?_
        refine a_q rfl gn rfl (fun w' => (y_fieldAddr rfl et Tryz.underlying27 rfl size_25 rfl)) ?_
        refine a_read rfl gn rfl (fun w' hw' => (y_load1 (v := (vs a15 e2.Vals.length c29)) rfl et Tryz.underlying25 rfl ((CA.part hq2 rfl).at_ (SX.any rfl hw')))) (by kernel_rfl) ?_
        refine a_q rfl gn rfl (fun w' => (y_move rfl et)) ?_
        refine a_q rfl gn rfl (fun w' => (y_move rfl et)) ?_
        obtain ⟨e3, hx8, h⟩ := bnd_some h
        obtain ⟨ad3, cs3, hA3, hr3, hq3⟩ := hI.clat (.s (.s .z)) hx8
        obtain ⟨a16, c30, a17, c31, rfl, hf5, hf6⟩ := hr3
        have hI := hI.add (c := Cl.sl (cInt .i64) a16 c30 e3.Dims) hf5
        have hI := hI.add (c := Cl.sl cGVal a17 c31 e3.Vals) hf6
        refine a_q rfl gn rfl (fun w' => (y_indexAddr rfl Tryz.underlying58 size_27 et et (lat_bd hx8) hA3)) ?_
        refine a_q rfl gn rfl (fun w' => (y_fieldAddr rfl et Tryz.underlying27 rfl size_24 rfl)) ?_
        refine a_read rfl gn rfl (fun w' hw' => (y_load1 (v := (vs a16 e3.Dims.length c30)) rfl et Tryz.underlying24 rfl ((CA.part hq3 rfl).at_ (SX.any rfl hw')))) (by kernel_rfl) ?_
        refine a_q rfl gn rfl (fun w' => (y_move rfl et)) ?_
        obtain ⟨r4, hx9, h⟩ := bnd_some h
        refine la_call rfl gn rfl (r_callF (vs := [(vs a16 e3.Dims.length c30), (vs a13 p1.length c26)]) rfl ok_49 ⟨et, ⟨et, trivial⟩⟩) (Calls.mono (c_ref12_Offset noM w14 (fun _ k => k.elim) e3.Dims p1 a16 c30 a13 c26 ⟨(hI.get0 (.s .z)), hI.lend .z, trivial⟩ r4 hx9) ?_)
        rintro _ w15 ⟨rfl, hx10, hl4⟩
        refine ⟨_, rfl, hx10, ?_⟩
        replace hI := (hI.ext hx10)
        obtain ⟨e4, hx11, h⟩ := bnd_some h
        obtain ⟨ad4, cs4, hA4, hr4, hq4⟩ := hI.clat (.s (.s .z)) hx11
        obtain rfl : cs4 = [(vi e4.N), (vi e4.D)] := hr4
        refine a_q rfl gn rfl (fun w' => (y_indexAddr rfl Tryz.underlying25 size_36 et et (lat_bd hx11) hA4)) ?_
        refine a_read rfl gn rfl (fun w' hw' => (y_loadN (l := [(vi e4.N), (vi e4.D)]) rfl et Tryz.underlying36 rfl size_36 (hq4.at_ (SX.any rfl hw')))) (by kernel_rfl) ?_
        refine la_lit (c := cGVal) (xs := ([e4] : List GVal)) (vs := [(0, (Value.agg #[(vi e4.N), (vi e4.D)]))]) (cs := #[(vi e4.N), (vi e4.D)]) (css := [[(vi e4.N), (vi e4.D)]]) hI rfl gn rfl rfl Tryz.underlying25 info_36 rfl ⟨rfl, et, trivial⟩ (by kernel_rfl) ⟨rfl, trivial⟩ rfl rfl rfl ?_
        clear hI; intro b3 c32 w16 hI
        refine a_turn (F := F) (C := c32) rfl rfl ?_
        obtain ⟨zs1, hx12, h⟩ := bnd_some h
        refine la_append (xs := out2.Vals) (ys := ([e4] : List GVal)) hI (.s (.s (.s (.s .z)))) (hI.rd .z) hx12 rfl gn rfl rfl Tryz.underlying25 info_36 rfl rfl et et ?_
        clear hI; intro a18 c33 c34 w17 hI
        refine a_q rfl gn rfl (fun w' => (y_fieldAddr rfl et Tryz.underlying27 rfl size_25 rfl)) ?_
        refine la_store (new := [(vs a18 zs1.length c33)]) (cs' := #[(vi out2.Type_.Kind), (vi out2.Type_.Bits), (vi out2.Type_.Frac), (vi out2.Type_.Round), (vi out2.Type_.Over), (vs a8 out2.Dims.length c15), (vs a18 zs1.length c33)]) hI (.s (.s (.s .z))) rfl gn rfl rfl et et rfl size_25 rfl rfl rfl ?_
        clear hI; intro c35 w18 hI
        refine a_nil ?_
        exact k_join ((⟨out2.Type_, out2.Dims, zs1⟩ : GTensor), a8, c15, a18, c33) ⟨rfl, rfl, rfl, rfl, rfl, trivial⟩ ⟨_, hI.arr (.c (.s (.s (.s (.s .z)))) (.c (.s (.s .z)) (.c (.s (.s .z)) .n))) ⟨(.s (.s (.s (.s (.s .z))))), (.s (.s (.s (.s .z)))), trivial⟩, h⟩ rfl
       ·skip
        refine c_block ?_
        refine c_loop (α := Nat × (List Int) × Int × (Option Addr) × Nat) (fun x => fun w => ∃ C, Bun noM F w0 C w [MO.row (cInt .i64) 3 (x.2.2.2.1) (x.2.2.2.2) (x.2.1), MO.box b1 27 #[(vi 0), (vi 0), (vi 0), (vi 0), (vi 0), (vs none 0 0), (vs none 0 0)], MO.box b2 27 #[(vi out2.Type_.Kind), (vi out2.Type_.Bits), (vi out2.Type_.Frac), (vi out2.Type_.Round), (vi out2.Type_.Over), (vs a8 out2.Dims.length c15), (vs a9 out2.Vals.length c16)], MO.row cGVal 36 a9 c16 out2.Vals] [Cl.sl cGTensor a1 c1 l1, Cl.sl (cInt .i64) a8 c15 out2.Dims] ∧ m_ref12_Concat_l2 axis1 l1 out2 (m_ref12_Concat_l1 axis1 l1 fuel1) i1 (x.1) (x.2.1) (x.2.2.1) = some r) (fun x _ => x.1) (fun x => [(0, (vi axis1)), (1, (vs a1 l1.length c1)), (4, (vp b1 0)), (10, (vp b2 0)), (12, (vi i1)), (13, (vs (x.2.2.2.1) (x.2.1).length (x.2.2.2.2))), (14, (vi (x.2.2.1)))]) (fu, r3, 0, a12, c23) ⟨_, hI.arr (.c .z (.c (.s .z) (.c (.s .z) (.c .z .n)))) ⟨(.s .z), .z, trivial⟩, h⟩ ⟨rfl, rfl, rfl, rfl, rfl, rfl, rfl, trivial⟩ ?_
        clear h hI; rintro ⟨fuel2, p2, k2, a19, c36⟩ w19 ⟨c37, hI, h⟩
        dsimp only at hI h
        rcases fuel2 with _ | fuel2
        ·rw [m_ref12_Concat_l2] at h; cases h
        rw [m_ref12_Concat_l2] at h
        refine c_sub (e := [(0, (vi axis1)), (1, (vs a1 l1.length c1)), (4, (vp b1 0)), (10, (vp b2 0)), (12, (vi i1)), (13, (vs a19 p2.length c36)), (14, (vi k2))]) ⟨rfl, rfl, rfl, rfl, rfl, rfl, rfl, trivial⟩ ?_
        refine c_seq ?_
        refine c_seq ?_
        refine c_drawX [] false (.c (0, .q) (.c (1, .q) (.c (2, .q) (.c (3, .q) (.c (4, .q) (.c (5, .q) (.c (6, .q) (.c (7, .q) (.c (8, .q) (.c (9, .q) (.c (10, .q) (.c (11, .q) (.c (12, .q) .n))))))))))))) hI (by kernel_rfl) (by kernel_rfl) ?_
        clear hI; intro w20 hI
        refine a_q rfl gn rfl (fun w' => (y_move rfl et)) ?_
        refine a_q rfl gn rfl (fun w' => (y_move rfl et)) ?_
        obtain ⟨e5, hx13, h⟩ := bnd_some h
        obtain ⟨ad5, cs5, hA5, hr5, hq5⟩ := hI.olat .z hx13
        obtain rfl : cs5 = [(vi e5)] := hr5
        refine a_q rfl gn rfl (fun w' => (y_indexAddr rfl Tryz.underlying24 size_3 et et (lat_bd hx13) hA5)) ?_
        refine a_read rfl gn rfl (fun w' hw' => (y_load1 (v := (vi e5)) rfl et Tryz.underlying3 rfl (hq5.at_ (SX.any rfl hw')))) (by kernel_rfl) ?_
        refine a_q rfl gn rfl (fun w' => (y_move rfl et)) ?_
        refine a_q rfl gn rfl (fun w' => (y_move rfl et)) ?_
        obtain ⟨e6, hx14, h⟩ := bnd_some h
        obtain ⟨ad6, cs6, hA6, hr6, hq6⟩ := hI.clat .z hx14
        obtain ⟨a20, c38, a21, c39, rfl, hf7, hf8⟩ := hr6
        have hI := hI.add (c := Cl.sl (cInt .i64) a20 c38 e6.Dims) hf7
        have hI := hI.add (c := Cl.sl cGVal a21 c39 e6.Vals) hf8
        refine a_q rfl gn rfl (fun w' => (y_indexAddr rfl Tryz.underlying58 size_27 et et (lat_bd hx14) hA6)) ?_
        refine a_q rfl gn rfl (fun w' => (y_fieldAddr rfl et Tryz.underlying27 rfl size_24 rfl)) ?_
        refine a_read rfl gn rfl (fun w' hw' => (y_load1 (v := (vs a20 e6.Dims.length c38)) rfl et Tryz.underlying24 rfl ((CA.part hq6 rfl).at_ (SX.any rfl hw')))) (by kernel_rfl) ?_
        refine a_q rfl gn rfl (fun w' => (y_move rfl et)) ?_
        obtain ⟨e7, hx15, h⟩ := bnd_some h
        obtain ⟨ad7, cs7, hA7, hr7, hq7⟩ := hI.clat (.s .z) hx15
        obtain rfl : cs7 = [(vi e7)] := hr7
        refine a_q rfl gn rfl (fun w' => (y_indexAddr rfl Tryz.underlying24 size_3 et et (lat_bd hx15) hA7)) ?_
        refine a_read rfl gn rfl (fun w' hw' => (y_load1 (v := (vi e7)) rfl et Tryz.underlying3 rfl (hq7.at_ (SX.any rfl hw')))) (by kernel_rfl) ?_
        refine a_q rfl gn rfl (fun w' => (y_geq rfl et et)) ?_
        refine a_nil ?_
        refine k_same ?_
        refine c_cond (b := decide (e7 ≤ e5)) et (fun hb => ?_) (fun hb => ?_)
        ·replace h := ite_t hb h
         refine c_skip ?_
         refine k_same ?_
         refine c_block ?_
         refine c_seq ?_
         refine c_drawX [14] false (.c (0, .q) (.c (1, .q) (.c (2, .q) (.c (3, .q) (.c (4, .q) (.c (5, .q) (.c (6, .q) (.c (7, .q) (.c (8, .q) (.c (9, .q) (.c (10, .q) (.c (11, .q) (.c (12, .q) (.c (13, .q) (.c (14, .s) .n))))))))))))))) hI (by kernel_rfl) (by kernel_rfl) ?_
         clear hI; intro w21 hI
         refine a_q rfl gn rfl (fun w' => (y_move rfl et)) ?_
         refine a_q rfl gn rfl (fun w' => (y_move rfl et)) ?_
         obtain ⟨e8, hx16, h⟩ := bnd_some h
         obtain ⟨ad8, cs8, hA8, hr8, hq8⟩ := hI.olat .z hx16
         obtain rfl : cs8 = [(vi e8)] := hr8
         refine a_q rfl gn rfl (fun w' => (y_indexAddr rfl Tryz.underlying24 size_3 et et (lat_bd hx16) hA8)) ?_
         refine a_read rfl gn rfl (fun w' hw' => (y_load1 (v := (vi e8)) rfl et Tryz.underlying3 rfl (hq8.at_ (SX.any rfl hw')))) (by kernel_rfl) ?_
         refine a_q rfl gn rfl (fun w' => (y_move rfl et)) ?_
         refine a_q rfl gn rfl (fun w' => (y_move rfl et)) ?_
         obtain ⟨e9, hx17, h⟩ := bnd_some h
         obtain ⟨ad9, cs9, hA9, hr9, hq9⟩ := hI.clat (.s (.s .z)) hx17
         obtain ⟨a22, c40, a23, c41, rfl, hf9, hf10⟩ := hr9
         have hI := hI.add (c := Cl.sl (cInt .i64) a22 c40 e9.Dims) hf9
         have hI := hI.add (c := Cl.sl cGVal a23 c41 e9.Vals) hf10
         refine a_q rfl gn rfl (fun w' => (y_indexAddr rfl Tryz.underlying58 size_27 et et (lat_bd hx17) hA9)) ?_
         refine a_q rfl gn rfl (fun w' => (y_fieldAddr rfl et Tryz.underlying27 rfl size_24 rfl)) ?_
         refine a_read rfl gn rfl (fun w' hw' => (y_load1 (v := (vs a22 e9.Dims.length c40)) rfl et Tryz.underlying24 rfl ((CA.part hq9 rfl).at_ (SX.any rfl hw')))) (by kernel_rfl) ?_
         refine a_q rfl gn rfl (fun w' => (y_move rfl et)) ?_
         obtain ⟨e10, hx18, h⟩ := bnd_some h
         obtain ⟨ad10, cs10, hA10, hr10, hq10⟩ := hI.clat (.s .z) hx18
         obtain rfl : cs10 = [(vi e10)] := hr10
         refine a_q rfl gn rfl (fun w' => (y_indexAddr rfl Tryz.underlying24 size_3 et et (lat_bd hx18) hA10)) ?_
         refine a_read rfl gn rfl (fun w' hw' => (y_load1 (v := (vi e10)) rfl et Tryz.underlying3 rfl (hq10.at_ (SX.any rfl hw')))) (by kernel_rfl) ?_
         refine a_q rfl gn rfl (fun w' => (y_sub rfl et et)) ?_
         obtain ⟨ho1, h⟩ := chk_some h
         obtain ⟨ad11, hA11⟩ := hI.addr .z ho1
         refine a_q rfl gn rfl (fun w' => (y_indexAddr rfl Tryz.underlying24 size_3 et et ho1 hA11)) ?_
         refine a_turn (F := F) (C := c37) rfl rfl ?_
         refine la_storeRow (p := Int.toNat axis1) (new := [(vi (wi64 (e8 - e10)))]) (off := 0) (x' := wi64 (e8 - e10)) hI .z rfl gn rfl rfl (by have := ho1; omega) hA11 rfl et et rfl size_3 rfl (by show 0 + 1 ≤ 1; omega) (fun _ cs0 _ hr0 => by rw [spl_full (by have e := Cod.len _ hr0; exact e)]; exact rfl) ?_
         clear hI; intro c42 w22 hI
         refine a_nil ?_
         refine k_next (e := [(0, (vi axis1)), (1, (vs a1 l1.length c1)), (4, (vp b1 0)), (10, (vp b2 0)), (12, (vi i1)), (13, (vs a19 (p2.set (Int.toNat axis1) (wi64 (e8 - e10))).length c36)), (14, (vi k2))]) ⟨rfl, rfl, rfl, rfl, rfl, (lookset rfl), rfl, trivial⟩ ?_
         refine c_region rfl ?_
         refine sm ?_
         refine sq (y_add rfl et ev_const) ?_
         refine sa ?_
         refine s_nil ?_
         exact k_loop (fuel2, p2.set (Int.toNat axis1) (wi64 (e8 - e10)), wi64 (k2 + 1), a19, c36) ⟨rfl, rfl, rfl, rfl, rfl, rfl, rfl, trivial⟩ ⟨_, hI.arr (.c .z (.c .z (.c .z (.c .z .n)))) ⟨(.s (.s (.s (.s .z)))), (.s (.s (.s (.s (.s .z))))), trivial⟩, h⟩ (Nat.lt_succ_self _)
        ·replace h := ite_f hb h
         refine c_exit ?_
         refine k_in ?_
         exact k_join (p2, k2, a19, c36) ⟨rfl, rfl, rfl, rfl, rfl, rfl, rfl, trivial⟩ ⟨_, hI.arr (.c .z (.c .z (.c .z (.c .z .n)))) ⟨(.s (.s .z)), (.s (.s (.s .z))), trivial⟩, h⟩ rfl
     ·replace h := ite_f hb h
      refine c_exit ?_
      refine k_in ?_
      refine k_same ?_
      refine sr ?_
      refine sq (y_loadN (l := [(vi out2.Type_.Kind), (vi out2.Type_.Bits), (vi out2.Type_.Frac), (vi out2.Type_.Round), (vi out2.Type_.Over), (vs a8 out2.Dims.length c15), (vs a9 out2.Vals.length c16)]) rfl et Tryz.underlying27 rfl size_27 (CellsAt.of_blk (hI.blk (.s (.s .z))) rfl)) ?_
      refine l_store (new := [(vi out2.Type_.Kind), (vi out2.Type_.Bits), (vi out2.Type_.Frac), (vi out2.Type_.Round), (vi out2.Type_.Over), (vs a8 out2.Dims.length c15), (vs a9 out2.Vals.length c16)]) (cs' := #[(vi out2.Type_.Kind), (vi out2.Type_.Bits), (vi out2.Type_.Frac), (vi out2.Type_.Round), (vi out2.Type_.Over), (vs a8 out2.Dims.length c15), (vs a9 out2.Vals.length c16)]) hI (.s .z) gn rfl rfl et et rfl size_27 rfl rfl rfl ?_
      clear hI; intro c43 w23 hI
      refine sac ?_
      refine nk ?_
      refine c_ret ?_
      obtain ⟨c44, hI⟩ := hI.release .z
      obtain rfl := some_inj h
      exact q_ret (vs := [(Value.agg #[(vi out2.Type_.Kind), (vi out2.Type_.Bits), (vi out2.Type_.Frac), (vi out2.Type_.Round), (vi out2.Type_.Over), (vs a8 out2.Dims.length c15), (vs a9 out2.Vals.length c16)]), (vi 0)]) Tryz.results39 ⟨⟨_, ev_tmp rfl rfl, load_agg (l := [(vi out2.Type_.Kind), (vi out2.Type_.Bits), (vi out2.Type_.Frac), (vi out2.Type_.Round), (vi out2.Type_.Over), (vs a8 out2.Dims.length c15), (vs a9 out2.Vals.length c16)]) Tryz.underlying27 rfl size_27 (CellsAt.of_blk (hI.blk .z) rfl)⟩, ⟨ev_tmp rfl rfl, trivial⟩⟩ ⟨a8, c15, a9, c16, rfl, hI.ext0, hI.fin ⟨(.s .z), .z, trivial⟩⟩
    ·skip
     refine sr ?_
     refine sac ?_
     refine nk ?_
     refine c_block ?_
     have hI := hI.nil (cInt .i64) 3 none
     have hI := hI.nil cGVal 36 none
     refine c_loop (α := Nat × Int × GTensor × (Option Addr) × Nat × (Option Addr) × Nat) (fun x => fun w => ∃ C, Bun noM F w0 C w [MO.row (cInt .i64) 3 (x.2.2.2.1) (x.2.2.2.2.1) (x.2.2.1).Dims, MO.row cGVal 36 (x.2.2.2.2.2.1) (x.2.2.2.2.2.2) (x.2.2.1).Vals, MO.box b1 27 #[(vi 0), (vi 0), (vi 0), (vi 0), (vi 0), (vs none 0 0), (vs none 0 0)], MO.box b2 27 #[(vi (x.2.2.1).Type_.Kind), (vi (x.2.2.1).Type_.Bits), (vi (x.2.2.1).Type_.Frac), (vi (x.2.2.1).Type_.Round), (vi (x.2.2.1).Type_.Over), (vs (x.2.2.2.1) (x.2.2.1).Dims.length (x.2.2.2.2.1)), (vs (x.2.2.2.2.2.1) (x.2.2.1).Vals.length (x.2.2.2.2.2.2))]] [Cl.sl cGTensor a1 c1 l1] ∧ m_ref12_Concat_l3 l1 axis1 r1 (x.1) (x.2.1) (x.2.2.1) = some r) (fun x _ => x.1) (fun x => [(0, (vi axis1)), (1, (vs a1 l1.length c1)), (4, (vp b1 0)), (8, (vi r1.1)), (10, (vp b2 0)), (11, (vi (x.2.1)))]) (fu, 0, (⟨e1.Type_, ([] : List Int), ([] : List GVal)⟩ : GTensor), none, 0, none, 0) ⟨_, hI.arr (.c (.s .z) (.c .z (.c (.s .z) (.c .z .n)))) ⟨(.s (.s .z)), trivial⟩, h⟩ ⟨rfl, rfl, rfl, rfl, rfl, rfl, trivial⟩ ?_
     clear h hI; rintro ⟨fuel3, i2, out4, a24, c45, a25, c46⟩ w24 ⟨c47, hI, h⟩
     dsimp only at hI h
     rcases fuel3 with _ | fuel3
     ·rw [m_ref12_Concat_l3] at h; cases h
     rw [m_ref12_Concat_l3] at h
     refine c_sub (e := [(0, (vi axis1)), (1, (vs a1 l1.length c1)), (4, (vp b1 0)), (8, (vi r1.1)), (10, (vp b2 0)), (11, (vi i2))]) ⟨rfl, rfl, rfl, rfl, rfl, rfl, trivial⟩ ?_
     refine c_seq ?_
     refine sr ?_
     refine sm ?_
     refine sm ?_
     obtain ⟨e11, hx19, h⟩ := bnd_some h
     obtain ⟨ad12, cs11, hA12, hr11, hq11⟩ := hI.clat .z hx19
     obtain ⟨a26, c48, a27, c49, rfl, hf11, hf12⟩ := hr11
     have hI := hI.add (c := Cl.sl (cInt .i64) a26 c48 e11.Dims) hf11
     have hI := hI.add (c := Cl.sl cGVal a27 c49 e11.Vals) hf12
     refine sq (y_indexAddr rfl Tryz.underlying58 size_27 et ev_const (lat_bd hx19) hA12) ?_
     refine sq (y_fieldAddr rfl et Tryz.underlying27 rfl size_24 rfl) ?_
     refine sq (y_load1 (v := (vs a26 e11.Dims.length c48)) rfl et Tryz.underlying24 rfl (CA.part hq11 rfl).1) ?_
     refine sq (y_lenl rfl Tryz.underlying24 et) ?_
     refine sq (y_lss rfl et et) ?_
     refine nk ?_
     refine c_cond (b := decide (i2 < (e11.Dims.length : Int))) et (fun hb => ?_) (fun hb => ?_)
     ·replace h := ite_t hb h
      refine c_skip ?_
      refine k_same ?_
      refine c_join (α := GTensor × (Option Addr) × Nat × (Option Addr) × Nat) (fun _ => ⟨139, []⟩) (fun x => [(0, (vi axis1)), (1, (vs a1 l1.length c1)), (4, (vp b1 0)), (8, (vi r1.1)), (10, (vp b2 0)), (11, (vi i2))]) (fun x => fun w => ∃ C, Bun noM F w0 C w [MO.row (cInt .i64) 3 (x.2.1) (x.2.2.1) (x.1).Dims, MO.row cGVal 36 (x.2.2.2.1) (x.2.2.2.2) (x.1).Vals, MO.box b1 27 #[(vi 0), (vi 0), (vi 0), (vi 0), (vi 0), (vs none 0 0), (vs none 0 0)], MO.box b2 27 #[(vi (x.1).Type_.Kind), (vi (x.1).Type_.Bits), (vi (x.1).Type_.Frac), (vi (x.1).Type_.Round), (vi (x.1).Type_.Over), (vs (x.2.1) (x.1).Dims.length (x.2.2.1)), (vs (x.2.2.2.1) (x.1).Vals.length (x.2.2.2.2))]] [Cl.sl cGTensor a1 c1 l1] ∧ m_ref12_Concat_j5 (m_ref12_Concat_l3 l1 axis1 r1 fuel3) i2 (x.1) = some r) ?_ ?_
      ·clear h hI; rintro ⟨out5, a28, c50, a29, c51⟩ w25 ⟨c52, hI, h⟩
       try dsimp only at hI h
       rw [m_ref12_Concat_j5] at h
       refine c_sub (e := [(0, (vi axis1)), (1, (vs a1 l1.length c1)), (4, (vp b1 0)), (8, (vi r1.1)), (10, (vp b2 0)), (11, (vi i2))]) ⟨rfl, rfl, rfl, rfl, rfl, rfl, trivial⟩ ?_
       refine c_region rfl ?_
       refine sm ?_
       refine sq (y_add rfl et ev_const) ?_
       refine sa ?_
       refine s_nil ?_
       exact k_loop (fuel3, wi64 (i2 + 1), out5, a28, c50, a29, c51) ⟨rfl, rfl, rfl, rfl, rfl, rfl, trivial⟩ ⟨_, hI.arr (.c .z (.c .z (.c .z (.c .z .n)))) ⟨.z, trivial⟩, h⟩ (Nat.lt_succ_self _)
      ·skip
       refine c_block ?_
       refine sr ?_
       refine sm ?_
       refine sm ?_
       refine sq (y_eql rfl et et) ?_
       refine nk ?_
       refine c_cond (b := decide (i2 = axis1)) et (fun hb => ?_) (fun hb => ?_)
       ·replace h := ite_t hb h
        refine c_region rfl ?_
        refine sq (y_fieldAddr rfl et Tryz.underlying27 rfl size_24 rfl) ?_
        refine sq (y_load1 (v := (vs a24 out4.Dims.length c45)) rfl et Tryz.underlying24 rfl (CellsAt.of_blk (hI.blk (.s (.s (.s .z)))) rfl)) ?_
        refine sm ?_
        refine l_lit (c := (cInt .i64)) (xs := ([r1.1] : List Int)) (vs := [(0, (vi r1.1))]) (cs := #[(vi r1.1)]) (css := [[(vi r1.1)]]) hI gn rfl rfl Tryz.underlying24 info_3 rfl ⟨rfl, et, trivial⟩ (by kernel_rfl) ⟨rfl, trivial⟩ rfl rfl rfl ?_
        clear hI; intro b4 c53 w26 hI
        obtain ⟨zs2, hx20, h⟩ := bnd_some h
        refine l_append (xs := out4.Dims) (ys := ([r1.1] : List Int)) hI (.s .z) (hI.rd .z) hx20 gn rfl rfl Tryz.underlying24 info_3 rfl rfl et et ?_
        clear hI; intro a30 c54 c55 w27 hI
        refine sq (y_fieldAddr rfl et Tryz.underlying27 rfl size_24 rfl) ?_
        refine l_store (new := [(vs a30 zs2.length c54)]) (cs' := #[(vi out4.Type_.Kind), (vi out4.Type_.Bits), (vi out4.Type_.Frac), (vi out4.Type_.Round), (vi out4.Type_.Over), (vs a30 zs2.length c54), (vs a25 out4.Vals.length c46)]) hI (.s (.s (.s (.s .z)))) gn rfl rfl et et rfl size_24 rfl rfl rfl ?_
        clear hI; intro c56 w28 hI
        refine s_nil ?_
        exact k_join ((⟨out4.Type_, zs2, out4.Vals⟩ : GTensor), a30, c54, a25, c46) ⟨rfl, rfl, rfl, rfl, rfl, rfl, trivial⟩ ⟨_, hI.arr (.c (.s .z) (.c (.s .z) (.c (.s .z) (.c (.s .z) .n)))) ⟨(.s (.s .z)), trivial⟩, h⟩ rfl
       ·replace h := ite_f hb h
        refine c_drawX [10, 12] false (.c (0, .q) (.c (1, .q) (.c (2, .q) (.c (3, .q) (.c (4, .q) (.c (5, .q) (.c (6, .q) (.c (7, .q) (.c (8, .q) (.c (9, .s) (.c (10, .s) (.c (11, .q) (.c (12, .s) .n))))))))))))) hI (by kernel_rfl) (by kernel_rfl) ?_
        clear hI; intro w29 hI
        refine a_q rfl gn rfl (fun w' => (y_fieldAddr rfl et Tryz.underlying27 rfl size_24 rfl)) ?_
        refine a_read rfl gn rfl (fun w' hw' => (y_load1 (v := (vs a24 out4.Dims.length c45)) rfl et Tryz.underlying24 rfl ((CA.blk (hI.blk (.s (.s (.s .z)))) rfl).at_ (SX.any rfl hw')))) (by kernel_rfl) ?_
        refine a_q rfl gn rfl (fun w' => (y_move rfl et)) ?_
        obtain ⟨e12, hx21, h⟩ := bnd_some h
        obtain ⟨ad13, cs12, hA13, hr12, hq12⟩ := hI.clat (.s (.s .z)) hx21
        obtain ⟨a31, c57, a32, c58, rfl, hf13, hf14⟩ := hr12
        have hI := hI.add (c := Cl.sl (cInt .i64) a31 c57 e12.Dims) hf13
        have hI := hI.add (c := Cl.sl cGVal a32 c58 e12.Vals) hf14
        refine a_q rfl gn rfl (fun w' => (y_indexAddr rfl Tryz.underlying58 size_27 et ev_const (lat_bd hx21) hA13)) ?_
        refine a_q rfl gn rfl (fun w' => (y_fieldAddr rfl et Tryz.underlying27 rfl size_24 rfl)) ?_
        refine a_read rfl gn rfl (fun w' hw' => (y_load1 (v := (vs a31 e12.Dims.length c57)) rfl et Tryz.underlying24 rfl ((CA.part hq12 rfl).at_ (SX.any rfl hw')))) (by kernel_rfl) ?_
        refine a_q rfl gn rfl (fun w' => (y_move rfl et)) ?_
        obtain ⟨e13, hx22, h⟩ := bnd_some h
        obtain ⟨ad14, cs13, hA14, hr13, hq13⟩ := hI.clat (.s .z) hx22
        obtain rfl : cs13 = [(vi e13)] := hr13
        refine a_q rfl gn rfl (fun w' => (y_indexAddr rfl Tryz.underlying24 size_3 et et (lat_bd hx22) hA14)) ?_
        refine a_read rfl gn rfl (fun w' hw' => (y_load1 (v := (vi e13)) rfl et Tryz.underlying3 rfl (hq13.at_ (SX.any rfl hw')))) (by kernel_rfl) ?_
        refine la_lit (c := (cInt .i64)) (xs := ([e13] : List Int)) (vs := [(0, (vi e13))]) (cs := #[(vi e13)]) (css := [[(vi e13)]]) hI rfl gn rfl rfl Tryz.underlying24 info_3 rfl ⟨rfl, et, trivial⟩ (by kernel_rfl) ⟨rfl, trivial⟩ rfl rfl rfl ?_
        clear hI; intro b5 c59 w30 hI
        refine a_turn (F := F) (C := c59) rfl rfl ?_
        obtain ⟨zs3, hx23, h⟩ := bnd_some h
        refine la_append (xs := out4.Dims) (ys := ([e13] : List Int)) hI (.s .z) (hI.rd .z) hx23 rfl gn rfl rfl Tryz.underlying24 info_3 rfl rfl et et ?_
        clear hI; intro a33 c60 c61 w31 hI
        refine a_q rfl gn rfl (fun w' => (y_fieldAddr rfl et Tryz.underlying27 rfl size_24 rfl)) ?_
        refine la_store (new := [(vs a33 zs3.length c60)]) (cs' := #[(vi out4.Type_.Kind), (vi out4.Type_.Bits), (vi out4.Type_.Frac), (vi out4.Type_.Round), (vi out4.Type_.Over), (vs a33 zs3.length c60), (vs a25 out4.Vals.length c46)]) hI (.s (.s (.s (.s .z)))) rfl gn rfl rfl et et rfl size_24 rfl rfl rfl ?_
        clear hI; intro c62 w32 hI
        refine a_nil ?_
        exact k_join ((⟨out4.Type_, zs3, out4.Vals⟩ : GTensor), a33, c60, a25, c46) ⟨rfl, rfl, rfl, rfl, rfl, rfl, trivial⟩ ⟨_, hI.arr (.c (.s .z) (.c (.s .z) (.c (.s .z) (.c (.s .z) .n)))) ⟨(.s (.s (.s (.s .z)))), trivial⟩, h⟩ rfl
     ·replace h := ite_f hb h
      refine c_exit ?_
      refine k_in ?_
      exact k_join (out4, a24, c45, a25, c46) ⟨rfl, rfl, rfl, rfl, trivial⟩ ⟨_, hI.arr (.c .z (.c .z (.c .z (.c .z .n)))) ⟨(.s (.s .z)), trivial⟩, h⟩ rfl
  ·skip
   refine sr ?_
   refine sac ?_
   refine nk ?_
   refine c_block ?_
   refine c_loop (α := Nat × Int) (fun x => fun w => ∃ C, Bun noM F w0 C w [MO.box b1 27 #[(vi 0), (vi 0), (vi 0), (vi 0), (vi 0), (vs none 0 0), (vs none 0 0)]] [Cl.sl cGTensor a1 c1 l1] ∧ m_ref12_Concat_l4 l1 axis1 (x.1) (x.2) = some r) (fun x _ => x.1) (fun x => [(0, (vi axis1)), (1, (vs a1 l1.length c1)), (4, (vp b1 0)), (6, (vi (x.2)))]) (fu, 0) ⟨_, hI.arr (.c .z .n) ⟨.z, trivial⟩, h⟩ ⟨rfl, rfl, rfl, rfl, trivial⟩ ?_
   clear h hI; rintro ⟨fuel4, i3⟩ w33 ⟨c63, hI, h⟩
   dsimp only at hI h
   rcases fuel4 with _ | fuel4
   ·rw [m_ref12_Concat_l4] at h; cases h
   rw [m_ref12_Concat_l4] at h
   refine c_sub (e := [(0, (vi axis1)), (1, (vs a1 l1.length c1)), (4, (vp b1 0)), (6, (vi i3))]) ⟨rfl, rfl, rfl, rfl, trivial⟩ ?_
   refine c_seq ?_
   refine sr ?_
   refine sm ?_
   refine sm ?_
   refine sq (y_lenl rfl Tryz.underlying58 et) ?_
   refine sq (y_lss rfl et et) ?_
   refine nk ?_
   refine c_cond (b := decide (i3 < (l1.length : Int))) et (fun hb => ?_) (fun hb => ?_)
   ·replace h := ite_t hb h
    refine c_skip ?_
    refine k_same ?_
    refine c_seq ?_
    refine c_block ?_
    refine sr ?_
    refine sm ?_
    refine sm ?_
    obtain ⟨e14, hx24, h⟩ := bnd_some h
    obtain ⟨ad15, cs14, hA15, hr14, hq14⟩ := hI.clat .z hx24
    obtain ⟨a34, c64, a35, c65, rfl, hf15, hf16⟩ := hr14
    have hI := hI.add (c := Cl.sl (cInt .i64) a34 c64 e14.Dims) hf15
    have hI := hI.add (c := Cl.sl cGVal a35 c65 e14.Vals) hf16
    refine sq (y_indexAddr rfl Tryz.underlying58 size_27 et et (lat_bd hx24) hA15) ?_
    refine sq (y_loadN (l := [(vi e14.Type_.Kind), (vi e14.Type_.Bits), (vi e14.Type_.Frac), (vi e14.Type_.Round), (vi e14.Type_.Over), (vs a34 e14.Dims.length c64), (vs a35 e14.Vals.length c65)]) rfl et Tryz.underlying27 rfl size_27 hq14.1) ?_
    obtain ⟨r5, hx25, h⟩ := bnd_some h
    refine s_call gn rfl (r_callF (vs := [(Value.agg #[(vi e14.Type_.Kind), (vi e14.Type_.Bits), (vi e14.Type_.Frac), (vi e14.Type_.Round), (vi e14.Type_.Over), (vs a34 e14.Dims.length c64), (vs a35 e14.Vals.length c65)])]) rfl ok_26 ⟨et, trivial⟩) (Calls.mono (c_ref12_Validate (Dj F c63) w33 hI.lt e14 a34 c64 a35 c65 ⟨(hI.get (.s .z)), (hI.get .z), trivial⟩ r5 hx25) ?_)
    rintro _ w34 ⟨rfl, hx26, hl5⟩
    refine ⟨_, rfl, ?_⟩
    replace hI := (hI.ext hx26)
    refine sa ?_
    refine nk ?_
    refine sr ?_
    refine sm ?_
    refine sq (y_neq rfl et ev_const) ?_
    refine nk ?_
    refine c_cond (b := !decide (r5 = 0)) et (fun hb => ?_) (fun hb => ?_)
    ·replace h := ite_t hb h
     refine sr ?_
     refine sq (y_build (vs := []) (cs := #[(vi 0), (vi 0), (vi 0), (vi 0), (vi 0), (vs none 0 0), (vs none 0 0)]) rfl trivial (by kernel_rfl)) ?_
     refine sm ?_
     refine l_store (new := [(vi 0), (vi 0), (vi 0), (vi 0), (vi 0), (vs none 0 0), (vs none 0 0)]) (cs' := #[(vi 0), (vi 0), (vi 0), (vi 0), (vi 0), (vs none 0 0), (vs none 0 0)]) hI .z gn rfl rfl et et rfl size_27 rfl rfl rfl ?_
     clear hI; intro c66 w35 hI
     refine sa ?_
     refine nk ?_
     refine c_ret ?_
     have hI := hI.add (c := Cl.sl (cInt .i64) none 0 ([] : List Int)) SlC.nil
     have hI := hI.add (c := Cl.sl cGVal none 0 ([] : List GVal)) SlC.nil
     obtain rfl := some_inj h
     exact q_ret (vs := [(Value.agg #[(vi 0), (vi 0), (vi 0), (vi 0), (vi 0), (vs none 0 0), (vs none 0 0)]), (vi r5)]) Tryz.results39 ⟨⟨_, ev_tmp rfl rfl, load_agg (l := [(vi 0), (vi 0), (vi 0), (vi 0), (vi 0), (vs none 0 0), (vs none 0 0)]) Tryz.underlying27 rfl size_27 (CellsAt.of_blk (hI.blk .z) rfl)⟩, ⟨ev_tmp rfl rfl, trivial⟩⟩ ⟨none, 0, none, 0, rfl, hI.ext0, hI.fin ⟨(.s .z), .z, trivial⟩⟩
    ·replace h := ite_f hb h
     refine c_skip ?_
     refine k_same ?_
     refine c_region rfl ?_
     refine sm ?_
     refine sq (y_add rfl et ev_const) ?_
     refine sa ?_
     refine s_nil ?_
     exact k_loop (fuel4, wi64 (i3 + 1)) ⟨rfl, rfl, rfl, rfl, trivial⟩ ⟨_, hI.arr (.c .z .n) ⟨(.s (.s .z)), trivial⟩, h⟩ (Nat.lt_succ_self _)
   ·replace h := ite_f hb h
    refine c_exit ?_
    refine k_in ?_
    exact k_join () ⟨rfl, rfl, rfl, trivial⟩ ⟨_, hI.arr (.c .z .n) ⟨.z, trivial⟩, h⟩ rfl

set_option maxRecDepth 100000 in
set_option maxHeartbeats 4000000 in
theorem c_law12_TensorConcats (F : NP) (w0 : World) (hF : ∀ k, F k → k < w0.heap.size) (axis1 : Int) (l1 : List GTensor) (a1 : Option Addr) (c1 : Nat) (hc : AllCl [Cl.sl cGTensor a1 c1 l1, clPow10] F w0) (r : Bool)
  (h : m_law12_TensorConcats axis1 l1 = some r) :
  Calls Tryz.prog 10 #[(vi axis1), (vs a1 l1.length c1)] w0 fun e w => e = .returned (vb r) ∧ Ext w0 w ∧ AllCl [] F w := by
 refine enterK (l := [(vi axis1), (vs a1 l1.length c1)]) Tryz.func10 rfl Tryz.ntmps10 rfl ?_
 have hI := Bun.start hF hc
 clear hc
 rw [m_law12_TensorConcats] at h
 refine sr ?_
 refine sac ?_
 refine nk ?_
 refine c_seq ?_
 refine sr ?_
 refine sm ?_
 refine sq (y_lenl rfl Tryz.underlying58 et) ?_
 refine sq (y_gtr rfl et ev_const) ?_
 refine nk ?_
 refine c_cond (b := decide (8 < (l1.length : Int))) et (fun hb => ?_) (fun hb => ?_)
 ·replace h := ite_t hb h
  refine sr ?_
  obtain ⟨r1, hx1, h⟩ := bnd_some h
  refine s_call gn rfl (r_callF (vs := []) rfl ok_13 trivial) (Calls.mono (c_law12_examples (Dj F noM) w0 hI.lt ⟨(hI.get (.s .z)), trivial⟩ r1 hx1) ?_)
  rintro _ w1 ⟨rfl, hx2, hl1⟩
  refine ⟨_, rfl, ?_⟩
  replace hI := (hI.ext hx2)
  refine sa ?_
  refine nk ?_
  refine c_ret ?_
  obtain rfl := some_inj h
  exact q_ret (vs := [(vb r1)]) Tryz.results10 ⟨ev_tmp rfl rfl, trivial⟩ ⟨rfl, hI.ext0, hI.fin trivial⟩
 ·replace h := ite_f hb h
  refine c_skip ?_
  refine k_same ?_
  refine c_join (α := Unit) (fun _ => ⟨50, []⟩) (fun _ => [(0, (vi axis1)), (1, (vs a1 l1.length c1))]) (fun _ => fun w => ∃ C, Bun noM F w0 C w [] [Cl.sl cGTensor a1 c1 l1, clPow10] ∧ m_law12_TensorConcats_j1 axis1 l1 = some r) ?_ ?_
  ·clear h hI; rintro _ w2 ⟨c2, hI, h⟩
   try dsimp only at hI h
   rw [m_law12_TensorConcats_j1] at h
   refine c_sub (e := [(0, (vi axis1)), (1, (vs a1 l1.length c1))]) ⟨rfl, rfl, trivial⟩ ?_
   refine sr ?_
   refine sm ?_
   refine sm ?_
   obtain ⟨r2, hx3, h⟩ := bnd_some h
   refine s_call gn rfl (r_callF (vs := [(vi axis1), (vs a1 l1.length c1)]) rfl ok_38 ⟨et, ⟨et, trivial⟩⟩) (Calls.mono (c_tensor_Concat (Dj F c2) w2 hI.lt axis1 l1 a1 c1 ⟨(hI.get .z), trivial⟩ r2 hx3) ?_)
   rintro _ w3 ⟨a2, c3, a3, c4, rfl, hx4, hl2⟩
   refine ⟨_, rfl, ?_⟩
   replace hI := (hI.ext hx4).adds hl2
   refine sm ?_
   refine sq (y_extract rfl et rfl) ?_
   refine sq (y_extract rfl et rfl) ?_
   refine l_alloc (cs := #[(vi 0), (vi 0), (vi 0), (vi 0), (vi 0), (vs none 0 0), (vs none 0 0)]) hI gn rfl rfl zero_27 rfl ?_
   clear hI; intro b1 c5 w4 hI
   refine l_store (new := [(vi r2.1.Type_.Kind), (vi r2.1.Type_.Bits), (vi r2.1.Type_.Frac), (vi r2.1.Type_.Round), (vi r2.1.Type_.Over), (vs a2 r2.1.Dims.length c3), (vs a3 r2.1.Vals.length c4)]) (cs' := #[(vi r2.1.Type_.Kind), (vi r2.1.Type_.Bits), (vi r2.1.Type_.Frac), (vi r2.1.Type_.Round), (vi r2.1.Type_.Over), (vs a2 r2.1.Dims.length c3), (vs a3 r2.1.Vals.length c4)]) hI .z gn rfl rfl et et rfl size_27 rfl rfl rfl ?_
   clear hI; intro c6 w5 hI
   refine sa ?_
   refine nk ?_
   refine sr ?_
   refine sm ?_
   refine sm ?_
   obtain ⟨r3, hx5, h⟩ := bnd_some h
   refine s_call gn rfl (r_callF (vs := [(vi axis1), (vs a1 l1.length c1)]) rfl ok_39 ⟨et, ⟨et, trivial⟩⟩) (Calls.mono (c_ref12_Concat (Dj F c6) w5 hI.lt axis1 l1 a1 c1 ⟨(hI.get (.s (.s .z))), trivial⟩ r3 hx5) ?_)
   rintro _ w6 ⟨a4, c7, a5, c8, rfl, hx6, hl3⟩
   refine ⟨_, rfl, ?_⟩
   replace hI := (hI.ext hx6).adds hl3
   refine sm ?_
   refine sq (y_extract rfl et rfl) ?_
   refine sq (y_extract rfl et rfl) ?_
   refine l_alloc (cs := #[(vi 0), (vi 0), (vi 0), (vi 0), (vi 0), (vs none 0 0), (vs none 0 0)]) hI gn rfl rfl zero_27 rfl ?_
   clear hI; intro b2 c9 w7 hI
   refine l_store (new := [(vi r3.1.Type_.Kind), (vi r3.1.Type_.Bits), (vi r3.1.Type_.Frac), (vi r3.1.Type_.Round), (vi r3.1.Type_.Over), (vs a4 r3.1.Dims.length c7), (vs a5 r3.1.Vals.length c8)]) (cs' := #[(vi r3.1.Type_.Kind), (vi r3.1.Type_.Bits), (vi r3.1.Type_.Frac), (vi r3.1.Type_.Round), (vi r3.1.Type_.Over), (vs a4 r3.1.Dims.length c7), (vs a5 r3.1.Vals.length c8)]) hI .z gn rfl rfl et et rfl size_27 rfl rfl rfl ?_
   clear hI; intro c10 w8 hI
   refine sa ?_
   refine nk ?_
   refine sr ?_
   refine sq (y_loadN (l := [(vi r2.1.Type_.Kind), (vi r2.1.Type_.Bits), (vi r2.1.Type_.Frac), (vi r2.1.Type_.Round), (vi r2.1.Type_.Over), (vs a2 r2.1.Dims.length c3), (vs a3 r2.1.Vals.length c4)]) rfl et Tryz.underlying27 rfl size_27 (CellsAt.of_blk (hI.blk (.s .z)) rfl)) ?_
   refine sq (y_loadN (l := [(vi r3.1.Type_.Kind), (vi r3.1.Type_.Bits), (vi r3.1.Type_.Frac), (vi r3.1.Type_.Round), (vi r3.1.Type_.Over), (vs a4 r3.1.Dims.length c7), (vs a5 r3.1.Vals.length c8)]) rfl et Tryz.underlying27 rfl size_27 (CellsAt.of_blk (hI.blk .z) rfl)) ?_
   obtain ⟨r4, hx7, h⟩ := bnd_some h
   refine s_call gn rfl (r_callF (vs := [(Value.agg #[(vi r2.1.Type_.Kind), (vi r2.1.Type_.Bits), (vi r2.1.Type_.Frac), (vi r2.1.Type_.Round), (vi r2.1.Type_.Over), (vs a2 r2.1.Dims.length c3), (vs a3 r2.1.Vals.length c4)]), (Value.agg #[(vi r3.1.Type_.Kind), (vi r3.1.Type_.Bits), (vi r3.1.Type_.Frac), (vi r3.1.Type_.Round), (vi r3.1.Type_.Over), (vs a4 r3.1.Dims.length c7), (vs a5 r3.1.Vals.length c8)])]) rfl ok_16 ⟨et, ⟨et, trivial⟩⟩) (Calls.mono (c_base_Tensor (Dj F c10) w8 hI.lt r2.1 r3.1 a2 c3 a3 c4 a4 c7 a5 c8 ⟨(hI.get (.s (.s .z))), (hI.get (.s (.s (.s .z)))), (hI.get .z), (hI.get (.s .z)), trivial⟩ r4 hx7) ?_)
   rintro _ w9 ⟨rfl, hx8, hl4⟩
   refine ⟨_, rfl, ?_⟩
   replace hI := (hI.ext hx8)
   refine sm ?_
   refine s_gval (g_true rfl rfl rfl rfl) rfl (fun hc => (y_move rfl et)) ?_
   refine s_gval (g_true rfl rfl rfl rfl) rfl (fun hc => (y_move rfl et)) ?_
   refine s_gval (g_true rfl rfl rfl rfl) rfl (fun hc => (y_eql rfl (ev_gv et hc) (ev_gv et hc))) ?_
   refine sq (y_and rfl et et) ?_
   refine sm ?_
   obtain ⟨r5, hx9, h⟩ := bnd_some h
   replace hx9 := gd_some hx9
   refine s_gcallU (v := (vb r5)) (g_true rfl rfl rfl rfl) rfl (fun hc => (r_callF (vs := []) rfl ok_13 trivial)) (fun hc => (c_law12_examples (Dj F c10) w9 hI.lt ⟨(hI.get (.s (.s (.s (.s (.s .z)))))), trivial⟩ r5 (hx9 hc)).mono fun _ _ k => ⟨k.1, k.2.1⟩) ?_
   intro w10 hx10; replace hI := hI.ext hx10
   refine sq (y_and rfl et et) ?_
   refine sa ?_
   refine s_nil ?_
   refine k_next (e := [(4, (vb ((r4 && (decide (r2.2 = r3.2))) && r5)))]) ⟨rfl, trivial⟩ ?_
   refine c_ret ?_
   obtain rfl := some_inj h
   exact q_ret (vs := [(vb ((r4 && (decide (r2.2 = r3.2))) && r5))]) Tryz.results10 ⟨ev_tmp rfl rfl, trivial⟩ ⟨rfl, hI.ext0, hI.fin trivial⟩
  ·skip
   refine sr ?_
   refine sac ?_
   refine nk ?_
   refine c_block ?_
   refine c_loop (α := Nat × Int) (fun x => fun w => ∃ C, Bun noM F w0 C w [] [Cl.sl cGTensor a1 c1 l1, clPow10] ∧ m_law12_TensorConcats_l1 l1 axis1 (x.1) (x.2) = some r) (fun x _ => x.1) (fun x => [(0, (vi axis1)), (1, (vs a1 l1.length c1)), (5, (vi (x.2)))]) (fu, 0) ⟨_, hI.arr .n ⟨.z, (.s .z), trivial⟩, h⟩ ⟨rfl, rfl, rfl, trivial⟩ ?_
   clear h hI; rintro ⟨fuel1, i1⟩ w11 ⟨c11, hI, h⟩
   dsimp only at hI h
   rcases fuel1 with _ | fuel1
   ·rw [m_law12_TensorConcats_l1] at h; cases h
   rw [m_law12_TensorConcats_l1] at h
   refine c_sub (e := [(0, (vi axis1)), (1, (vs a1 l1.length c1)), (5, (vi i1))]) ⟨rfl, rfl, rfl, trivial⟩ ?_
   refine c_seq ?_
   refine sr ?_
   refine sm ?_
   refine sm ?_
   refine sq (y_lenl rfl Tryz.underlying58 et) ?_
   refine sq (y_lss rfl et et) ?_
   refine nk ?_
   refine c_cond (b := decide (i1 < (l1.length : Int))) et (fun hb => ?_) (fun hb => ?_)
   ·replace h := ite_t hb h
    refine c_skip ?_
    refine k_same ?_
    refine c_seq ?_
    refine c_block ?_
    refine sr ?_
    refine sm ?_
    refine sm ?_
    obtain ⟨e1, hx11, h⟩ := bnd_some h
    obtain ⟨ad1, cs1, hA1, hr1, hq1⟩ := hI.clat .z hx11
    obtain ⟨a6, c12, a7, c13, rfl, hf1, hf2⟩ := hr1
    have hI := hI.add (c := Cl.sl (cInt .i64) a6 c12 e1.Dims) hf1
    have hI := hI.add (c := Cl.sl cGVal a7 c13 e1.Vals) hf2
    refine sq (y_indexAddr rfl Tryz.underlying58 size_27 et et (lat_bd hx11) hA1) ?_
    refine sq (y_loadN (l := [(vi e1.Type_.Kind), (vi e1.Type_.Bits), (vi e1.Type_.Frac), (vi e1.Type_.Round), (vi e1.Type_.Over), (vs a6 e1.Dims.length c12), (vs a7 e1.Vals.length c13)]) rfl et Tryz.underlying27 rfl size_27 hq1.1) ?_
    obtain ⟨r6, hx12, h⟩ := bnd_some h
    refine s_call gn rfl (r_callF (vs := [(Value.agg #[(vi e1.Type_.Kind), (vi e1.Type_.Bits), (vi e1.Type_.Frac), (vi e1.Type_.Round), (vi e1.Type_.Over), (vs a6 e1.Dims.length c12), (vs a7 e1.Vals.length c13)]), (vi 4200)]) rfl ok_12 ⟨et, ⟨ev_const, trivial⟩⟩) (Calls.mono (c_law12_Small (Dj F c11) w11 hI.lt e1 4200 a6 c12 a7 c13 ⟨(hI.get (.s .z)), (hI.get .z), trivial⟩ r6 hx12) ?_)
    rintro _ w12 ⟨rfl, hx13, hl6⟩
    refine ⟨_, rfl, ?_⟩
    replace hI := (hI.ext hx13)
    refine sq (y_not rfl et) ?_
    refine nk ?_
    refine c_cond (b := !r6) et (fun hb => ?_) (fun hb => ?_)
    ·replace h := ite_t hb h
     refine sr ?_
     obtain ⟨r7, hx14, h⟩ := bnd_some h
     refine s_call gn rfl (r_callF (vs := []) rfl ok_13 trivial) (Calls.mono (c_law12_examples (Dj F c11) w12 hI.lt ⟨(hI.get (.s (.s (.s .z)))), trivial⟩ r7 hx14) ?_)
     rintro _ w13 ⟨rfl, hx15, hl7⟩
     refine ⟨_, rfl, ?_⟩
     replace hI := (hI.ext hx15)
     refine sa ?_
     refine nk ?_
     refine c_ret ?_
     obtain rfl := some_inj h
     exact q_ret (vs := [(vb r7)]) Tryz.results10 ⟨ev_tmp rfl rfl, trivial⟩ ⟨rfl, hI.ext0, hI.fin trivial⟩
    ·replace h := ite_f hb h
     refine c_skip ?_
     refine k_same ?_
     refine c_region rfl ?_
     refine sm ?_
     refine sq (y_add rfl et ev_const) ?_
     refine sa ?_
     refine s_nil ?_
     exact k_loop (fuel1, wi64 (i1 + 1)) ⟨rfl, rfl, rfl, trivial⟩ ⟨_, hI.arr .n ⟨(.s (.s .z)), (.s (.s (.s .z))), trivial⟩, h⟩ (Nat.lt_succ_self _)
   ·replace h := ite_f hb h
    refine c_exit ?_
    refine k_in ?_
    exact k_join () ⟨rfl, rfl, trivial⟩ ⟨_, hI.arr .n ⟨.z, (.s .z), trivial⟩, h⟩ rfl

end Go.Proofs.YtlakfanockhngaaGreatDoor
