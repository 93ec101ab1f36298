/- Each call returns what its plain function gives: printed by a program of my own; Lean checks it. -/
import Derived.Test.YtlakfanockhngaaGreatDoorSCQ6b
namespace Go.Proofs.YtlakfanockhngaaGreatDoor
open Go Go.RowKit Go.Vc
set_option linter.unusedVariables false
set_option linter.unusedSimpArgs false

set_option maxRecDepth 100000 in
set_option maxHeartbeats 4000000 in
theorem c_ref12_Point (F : NP) (w0 : World) (hF : ∀ k, F k → k < w0.heap.size) (d1 : List Int) (at1 : Int) (a1 : Option Addr) (c1 : Nat) (hc : AllCl [Cl.sl (cInt .i64) a1 c1 d1] F w0) (r : List Int)
  (h : m_ref12_Point d1 at1 = some r) :
  Calls Tryz.prog 45 #[(vs a1 d1.length c1), (vi at1)] w0 fun e w => ∃ (a2 : Option Addr) (c2 : Nat), e = .returned (vs a2 r.length c2) ∧ Ext w0 w ∧ AllCl [Cl.sl (cInt .i64) a2 c2 r] F w := by
 refine enterK (l := [(vs a1 d1.length c1), (vi at1)]) Tryz.func45 rfl Tryz.ntmps45 rfl ?_
 have hI := Bun.start hF hc
 clear hc
 rw [m_ref12_Point] at h
 refine sr ?_
 refine sac ?_
 refine nk ?_
 refine sr ?_
 refine sm ?_
 refine sq (y_lenl rfl Tryz.underlying24 et) ?_
 obtain ⟨zs1, hx1, h⟩ := bnd_some h
 refine l_make (c := (cInt .i64)) hI hx1 gn  rfl rfl Tryz.underlying24 info_3 rfl rfl et et rfl ?_
 clear hI; intro b1 c3 w1 hI
 refine sa ?_
 refine nk ?_
 refine c_seq ?_
 refine sr ?_
 refine sm ?_
 refine sq (y_lenl rfl Tryz.underlying24 et) ?_
 refine sq (y_sub rfl et ev_const) ?_
 obtain ⟨i1, hx2, h⟩ := bnd_some h
 refine sq (binU (y_assign rfl et) (congrArg (Value.int .i64) (some_inj hx2))) ?_
 refine nk ?_
 refine c_block ?_
 refine c_loop (α := Nat × Int × (List Int) × Int × (Option Addr) × Nat) (fun x => fun w => ∃ C, Bun noM F w0 C w [MO.row (cInt .i64) 3 (x.2.2.2.2.1) (x.2.2.2.2.2) (x.2.2.1)] [Cl.sl (cInt .i64) a1 c1 d1] ∧ m_ref12_Point_l1 d1 (x.1) (x.2.1) (x.2.2.1) (x.2.2.2.1) = some r) (fun x _ => x.1) (fun x => [(0, (vs a1 d1.length c1)), (1, (vi (x.2.1))), (5, (vs (x.2.2.2.2.1) (x.2.2.1).length (x.2.2.2.2.2))), (6, (vi (x.2.2.2.1)))]) (fu, at1, zs1, i1, some ⟨b1, 0, none⟩, ((d1.length : Int)).toNat) ⟨_, hI.arr (.c .z .n) ⟨.z, trivial⟩, h⟩ ⟨rfl, rfl, rfl, rfl, trivial⟩ ?_
 clear h hI; rintro ⟨fuel1, at2, p1, i2, a3, c4⟩ w2 ⟨c5, hI, h⟩
 dsimp only at hI h
 rcases fuel1 with _ | fuel1
 ·rw [m_ref12_Point_l1] at h; cases h
 rw [m_ref12_Point_l1] at h
 refine c_sub (e := [(0, (vs a1 d1.length c1)), (1, (vi at2)), (5, (vs a3 p1.length c4)), (6, (vi i2))]) ⟨rfl, rfl, rfl, rfl, trivial⟩ ?_
 refine c_seq ?_
 refine sr ?_
 refine sm ?_
 refine sq (y_geq rfl et ev_const) ?_
 refine nk ?_
 refine c_cond (b := decide (0 ≤ i2)) et (fun hb => ?_) (fun hb => ?_)
 ·replace h := ite_t hb h
  refine c_skip ?_
  refine k_same ?_
  refine c_seq ?_
  refine c_block ?_
  refine sr ?_
  refine sm ?_
  refine sm ?_
  refine sm ?_
  refine sm ?_
  refine sm ?_
  obtain ⟨e1, hx3, h⟩ := bnd_some h
  obtain ⟨ad1, cs1, hA1, hr1, hq1⟩ := hI.clat .z hx3
  obtain rfl : cs1 = [(vi e1)] := hr1
  refine sq (y_indexAddr rfl Tryz.underlying24 size_3 et et (lat_bd hx3) hA1) ?_
  refine sq (y_load1 (v := (vi e1)) rfl et Tryz.underlying3 rfl hq1.1) ?_
  obtain ⟨ho1, h⟩ := chk_some h
  refine sq (y_rem rfl et et ho1) ?_
  obtain ⟨ho2, h⟩ := chk_some h
  obtain ⟨ad2, hA2⟩ := hI.addr .z ho2
  refine sq (y_indexAddr rfl Tryz.underlying24 size_3 et et ho2 hA2) ?_
  refine l_storeRow (p := Int.toNat i2) (new := [(vi (Int.tmod at2 e1))]) (off := 0) (x' := Int.tmod at2 e1) hI .z gn rfl rfl (by have := ho2; omega) hA2 rfl et et rfl size_3 rfl (by show 0 + 1 ≤ 1; omega) (fun _ cs0 _ hr0 => by rw [spl_full (by have e := Cod.len _ hr0; exact e)]; exact rfl) ?_
  clear hI; intro c6 w3 hI
  refine s_nil ?_
  refine k_next (e := [(0, (vs a1 d1.length c1)), (1, (vi at2)), (5, (vs a3 (p1.set (Int.toNat i2) (Int.tmod at2 e1)).length c4)), (6, (vi i2))]) ⟨rfl, rfl, (lookset rfl), rfl, trivial⟩ ?_
  refine c_region rfl ?_
  refine sm ?_
  refine sm ?_
  refine sm ?_
  obtain ⟨e2, hx4, h⟩ := bnd_some h
  obtain ⟨ad3, cs2, hA3, hr2, hq2⟩ := hI.clat .z hx4
  obtain rfl : cs2 = [(vi e2)] := hr2
  refine sq (y_indexAddr rfl Tryz.underlying24 size_3 et et (lat_bd hx4) hA3) ?_
  refine sq (y_load1 (v := (vi e2)) rfl et Tryz.underlying3 rfl hq2.1) ?_
  obtain ⟨ho3, h⟩ := chk_some h
  refine sq (y_quo rfl et et ho3) ?_
  refine sa ?_
  refine nk ?_
  refine c_region rfl ?_
  refine sm ?_
  refine sq (y_sub rfl et ev_const) ?_
  refine sa ?_
  refine s_nil ?_
  exact k_loop (fuel1, wi64 (Int.tdiv at2 e2), p1.set (Int.toNat i2) (Int.tmod at2 e1), wi64 (i2 - 1), a3, c4) ⟨rfl, rfl, rfl, rfl, trivial⟩ ⟨_, hI.arr (.c .z .n) ⟨.z, trivial⟩, h⟩ (Nat.lt_succ_self _)
 ·replace h := ite_f hb h
  refine c_exit ?_
  refine k_in ?_
  refine k_same ?_
  refine sr ?_
  refine sm ?_
  refine sa ?_
  refine nk ?_
  refine c_ret ?_
  obtain ⟨c7, hI⟩ := hI.release .z
  obtain rfl := some_inj h
  exact q_ret (vs := [(vs a3 p1.length c4)]) Tryz.results45 ⟨ev_tmp rfl rfl, trivial⟩ ⟨a3, c4, rfl, hI.ext0, hI.fin ⟨.z, trivial⟩⟩

set_option maxRecDepth 100000 in
set_option maxHeartbeats 4000000 in
theorem c_ref12_Offset (F : NP) (w0 : World) (hF : ∀ k, F k → k < w0.heap.size) (d1 : List Int) (p1 : List Int) (a1 : Option Addr) (c1 : Nat) (a2 : Option Addr) (c2 : Nat) (hc : AllCl [Cl.sl (cInt .i64) a1 c1 d1, Cl.sl (cInt .i64) a2 c2 p1] F w0) (r : Int)
  (h : m_ref12_Offset d1 p1 = some r) :
  Calls Tryz.prog 49 #[(vs a1 d1.length c1), (vs a2 p1.length c2)] w0 fun e w => e = .returned (vi r) ∧ Ext w0 w ∧ AllCl [] F w := by
 refine enterK (l := [(vs a1 d1.length c1), (vs a2 p1.length c2)]) Tryz.func49 rfl Tryz.ntmps49 rfl ?_
 have hI := Bun.start hF hc
 clear hc
 rw [m_ref12_Offset] at h
 refine sr ?_
 refine sac ?_
 refine nk ?_
 refine sr ?_
 refine sac ?_
 refine nk ?_
 refine c_seq ?_
 refine sr ?_
 refine sac ?_
 refine nk ?_
 refine c_block ?_
 refine c_loop (α := Nat × Int × Int) (fun x => fun w => ∃ C, Bun noM F w0 C w [] [Cl.sl (cInt .i64) a1 c1 d1, Cl.sl (cInt .i64) a2 c2 p1] ∧ m_ref12_Offset_l1 d1 p1 (x.1) (x.2.1) (x.2.2) = some r) (fun x _ => x.1) (fun x => [(0, (vs a1 d1.length c1)), (1, (vs a2 p1.length c2)), (5, (vi (x.2.1))), (6, (vi (x.2.2)))]) (fu, 0, 0) ⟨_, hI.arr .n ⟨.z, (.s .z), trivial⟩, h⟩ ⟨rfl, rfl, rfl, rfl, trivial⟩ ?_
 clear h hI; rintro ⟨fuel1, n1, i1⟩ w1 ⟨c3, hI, h⟩
 dsimp only at hI h
 rcases fuel1 with _ | fuel1
 ·rw [m_ref12_Offset_l1] at h; cases h
 rw [m_ref12_Offset_l1] at h
 refine c_sub (e := [(0, (vs a1 d1.length c1)), (1, (vs a2 p1.length c2)), (5, (vi n1)), (6, (vi i1))]) ⟨rfl, rfl, rfl, rfl, trivial⟩ ?_
 refine c_seq ?_
 refine sr ?_
 refine sm ?_
 refine sm ?_
 refine sq (y_lenl rfl Tryz.underlying24 et) ?_
 refine sq (y_lss rfl et et) ?_
 refine nk ?_
 refine c_cond (b := decide (i1 < (d1.length : Int))) et (fun hb => ?_) (fun hb => ?_)
 ·replace h := ite_t hb h
  refine c_skip ?_
  refine k_same ?_
  refine c_seq ?_
  refine c_block ?_
  refine c_drawX [] false (.c (0, .q) (.c (1, .q) (.c (2, .q) (.c (3, .q) (.c (4, .q) (.c (5, .q) (.c (6, .q) (.c (7, .q) (.c (8, .q) (.c (9, .q) (.c (10, .q) (.c (11, .q) .n)))))))))))) hI (by kernel_rfl) (by kernel_rfl) ?_
  clear hI; intro w2 hI
  refine a_q rfl gn rfl (fun w' => (y_move rfl et)) ?_
  refine a_q rfl gn rfl (fun w' => (y_move rfl et)) ?_
  refine a_q rfl gn rfl (fun w' => (y_move rfl et)) ?_
  obtain ⟨e1, hx1, h⟩ := bnd_some h
  obtain ⟨ad1, cs1, hA1, hr1, hq1⟩ := hI.clat .z hx1
  obtain rfl : cs1 = [(vi e1)] := hr1
  refine a_q rfl gn rfl (fun w' => (y_indexAddr rfl Tryz.underlying24 size_3 et et (lat_bd hx1) hA1)) ?_
  refine a_read rfl gn rfl (fun w' hw' => (y_load1 (v := (vi e1)) rfl et Tryz.underlying3 rfl (hq1.at_ (SX.any rfl hw')))) (by kernel_rfl) ?_
  refine a_q rfl gn rfl (fun w' => (y_mul rfl et et)) ?_
  refine a_q rfl gn rfl (fun w' => (y_move rfl et)) ?_
  refine a_q rfl gn rfl (fun w' => (y_move rfl et)) ?_
  obtain ⟨e2, hx2, h⟩ := bnd_some h
  obtain ⟨ad2, cs2, hA2, hr2, hq2⟩ := hI.clat (.s .z) hx2
  obtain rfl : cs2 = [(vi e2)] := hr2
  refine a_q rfl gn rfl (fun w' => (y_indexAddr rfl Tryz.underlying24 size_3 et et (lat_bd hx2) hA2)) ?_
  refine a_read rfl gn rfl (fun w' hw' => (y_load1 (v := (vi e2)) rfl et Tryz.underlying3 rfl (hq2.at_ (SX.any rfl hw')))) (by kernel_rfl) ?_
  refine a_q rfl gn rfl (fun w' => (y_add rfl et et)) ?_
  refine a_q rfl gn rfl (fun w' => (y_assign rfl et)) ?_
  refine a_nil ?_
  refine k_same ?_
  refine c_region rfl ?_
  refine sm ?_
  refine sq (y_add rfl et ev_const) ?_
  refine sa ?_
  refine s_nil ?_
  exact k_loop (fuel1, wi64 ((wi64 (n1 * e1)) + e2), wi64 (i1 + 1)) ⟨rfl, rfl, rfl, rfl, trivial⟩ ⟨_, hI.arr .n ⟨.z, (.s .z), trivial⟩, h⟩ (Nat.lt_succ_self _)
 ·replace h := ite_f hb h
  refine c_exit ?_
  refine k_in ?_
  refine k_same ?_
  refine sr ?_
  refine sm ?_
  refine sa ?_
  refine nk ?_
  refine c_ret ?_
  obtain rfl := some_inj h
  exact q_ret (vs := [(vi n1)]) Tryz.results49 ⟨ev_tmp rfl rfl, trivial⟩ ⟨rfl, hI.ext0, hI.fin trivial⟩

set_option maxRecDepth 100000 in
set_option maxHeartbeats 4000000 in
theorem c_base_Ints (F : NP) (w0 : World) (hF : ∀ k, F k → k < w0.heap.size) (a1 : List Int) (b1 : List Int) (a2 : Option Addr) (c1 : Nat) (a3 : Option Addr) (c2 : Nat) (hc : AllCl [Cl.sl (cInt .i64) a2 c1 a1, Cl.sl (cInt .i64) a3 c2 b1] F w0) (r : Bool)
  (h : m_base_Ints a1 b1 = some r) :
  Calls Tryz.prog 50 #[(vs a2 a1.length c1), (vs a3 b1.length c2)] w0 fun e w => e = .returned (vb r) ∧ Ext w0 w ∧ AllCl [] F w := by
 refine enterK (l := [(vs a2 a1.length c1), (vs a3 b1.length c2)]) Tryz.func50 rfl Tryz.ntmps50 rfl ?_
 have hI := Bun.start hF hc
 clear hc
 rw [m_base_Ints] at h
 refine sr ?_
 refine sac ?_
 refine nk ?_
 refine c_seq ?_
 refine sr ?_
 refine sm ?_
 refine sq (y_lenl rfl Tryz.underlying24 et) ?_
 refine sm ?_
 refine sq (y_lenl rfl Tryz.underlying24 et) ?_
 refine sq (y_neq rfl et et) ?_
 refine nk ?_
 refine c_cond (b := !decide ((a1.length : Int) = (b1.length : Int))) et (fun hb => ?_) (fun hb => ?_)
 ·replace h := ite_t hb h
  refine sr ?_
  refine sac ?_
  refine nk ?_
  refine c_ret ?_
  obtain rfl := some_inj h
  exact q_ret (vs := [(vb false)]) Tryz.results50 ⟨ev_tmp rfl rfl, trivial⟩ ⟨rfl, hI.ext0, hI.fin trivial⟩
 ·replace h := ite_f hb h
  refine c_skip ?_
  refine k_same ?_
  refine c_seq ?_
  refine sr ?_
  refine sac ?_
  refine nk ?_
  refine c_block ?_
  refine c_loop (α := Nat × Int) (fun x => fun w => ∃ C, Bun noM F w0 C w [] [Cl.sl (cInt .i64) a2 c1 a1, Cl.sl (cInt .i64) a3 c2 b1] ∧ m_base_Ints_l1 a1 b1 (x.1) (x.2) = some r) (fun x _ => x.1) (fun x => [(0, (vs a2 a1.length c1)), (1, (vs a3 b1.length c2)), (5, (vi (x.2)))]) (fu, 0) ⟨_, hI.arr .n ⟨.z, (.s .z), trivial⟩, h⟩ ⟨rfl, rfl, rfl, trivial⟩ ?_
  clear h hI; rintro ⟨fuel1, i1⟩ w1 ⟨c3, hI, h⟩
  dsimp only at hI h
  rcases fuel1 with _ | fuel1
  ·rw [m_base_Ints_l1] at h; cases h
  rw [m_base_Ints_l1] at h
  refine c_sub (e := [(0, (vs a2 a1.length c1)), (1, (vs a3 b1.length c2)), (5, (vi i1))]) ⟨rfl, rfl, rfl, trivial⟩ ?_
  refine c_seq ?_
  refine sr ?_
  refine sm ?_
  refine sm ?_
  refine sq (y_lenl rfl Tryz.underlying24 et) ?_
  refine sq (y_lss rfl et et) ?_
  refine nk ?_
  refine c_cond (b := decide (i1 < (a1.length : Int))) et (fun hb => ?_) (fun hb => ?_)
  ·replace h := ite_t hb h
   refine c_skip ?_
   refine k_same ?_
   refine c_seq ?_
   refine c_block ?_
   refine c_seq ?_
   refine c_drawX [] false (.c (0, .q) (.c (1, .q) (.c (2, .q) (.c (3, .q) (.c (4, .q) (.c (5, .q) (.c (6, .q) (.c (7, .q) (.c (8, .q) .n))))))))) hI (by kernel_rfl) (by kernel_rfl) ?_
   clear hI; intro w2 hI
   refine a_q rfl gn rfl (fun w' => (y_move rfl et)) ?_
   refine a_q rfl gn rfl (fun w' => (y_move rfl et)) ?_
   obtain ⟨e1, hx1, h⟩ := bnd_some h
   obtain ⟨ad1, cs1, hA1, hr1, hq1⟩ := hI.clat .z hx1
   obtain rfl : cs1 = [(vi e1)] := hr1
   refine a_q rfl gn rfl (fun w' => (y_indexAddr rfl Tryz.underlying24 size_3 et et (lat_bd hx1) hA1)) ?_
   refine a_read rfl gn rfl (fun w' hw' => (y_load1 (v := (vi e1)) rfl et Tryz.underlying3 rfl (hq1.at_ (SX.any rfl hw')))) (by kernel_rfl) ?_
   refine a_q rfl gn rfl (fun w' => (y_move rfl et)) ?_
   refine a_q rfl gn rfl (fun w' => (y_move rfl et)) ?_
   obtain ⟨e2, hx2, h⟩ := bnd_some h
   obtain ⟨ad2, cs2, hA2, hr2, hq2⟩ := hI.clat (.s .z) hx2
   obtain rfl : cs2 = [(vi e2)] := hr2
   refine a_q rfl gn rfl (fun w' => (y_indexAddr rfl Tryz.underlying24 size_3 et et (lat_bd hx2) hA2)) ?_
   refine a_read rfl gn rfl (fun w' hw' => (y_load1 (v := (vi e2)) rfl et Tryz.underlying3 rfl (hq2.at_ (SX.any rfl hw')))) (by kernel_rfl) ?_
   refine a_q rfl gn rfl (fun w' => (y_neq rfl et et)) ?_
   refine a_nil ?_
   refine k_same ?_
   refine c_cond (b := !decide (e1 = e2)) et (fun hb => ?_) (fun hb => ?_)
   ·replace h := ite_t hb h
    refine sr ?_
    refine sac ?_
    refine nk ?_
    refine c_ret ?_
    obtain rfl := some_inj h
    exact q_ret (vs := [(vb false)]) Tryz.results50 ⟨ev_tmp rfl rfl, trivial⟩ ⟨rfl, hI.ext0, hI.fin trivial⟩
   ·replace h := ite_f hb h
    refine c_skip ?_
    refine k_same ?_
    refine c_region rfl ?_
    refine sm ?_
    refine sq (y_add rfl et ev_const) ?_
    refine sa ?_
    refine s_nil ?_
    exact k_loop (fuel1, wi64 (i1 + 1)) ⟨rfl, rfl, rfl, trivial⟩ ⟨_, hI.arr .n ⟨.z, (.s .z), trivial⟩, h⟩ (Nat.lt_succ_self _)
  ·replace h := ite_f hb h
   refine c_exit ?_
   refine k_in ?_
   refine k_same ?_
   refine sr ?_
   refine sac ?_
   refine nk ?_
   refine c_ret ?_
   obtain rfl := some_inj h
   exact q_ret (vs := [(vb true)]) Tryz.results50 ⟨ev_tmp rfl rfl, trivial⟩ ⟨rfl, hI.ext0, hI.fin trivial⟩

set_option maxRecDepth 100000 in
set_option maxHeartbeats 4000000 in
theorem c_base_Vals (F : NP) (w0 : World) (hF : ∀ k, F k → k < w0.heap.size) (a1 : List GVal) (b1 : List GVal) (a2 : Option Addr) (c1 : Nat) (a3 : Option Addr) (c2 : Nat) (hc : AllCl [Cl.sl cGVal a2 c1 a1, Cl.sl cGVal a3 c2 b1] F w0) (r : Bool)
  (h : m_base_Vals a1 b1 = some r) :
  Calls Tryz.prog 51 #[(vs a2 a1.length c1), (vs a3 b1.length c2)] w0 fun e w => e = .returned (vb r) ∧ Ext w0 w ∧ AllCl [] F w := by
 refine enterK (l := [(vs a2 a1.length c1), (vs a3 b1.length c2)]) Tryz.func51 rfl Tryz.ntmps51 rfl ?_
 have hI := Bun.start hF hc
 clear hc
 rw [m_base_Vals] at h
 refine sr ?_
 refine sac ?_
 refine nk ?_
 refine c_seq ?_
 refine sr ?_
 refine sm ?_
 refine sq (y_lenl rfl Tryz.underlying25 et) ?_
 refine sm ?_
 refine sq (y_lenl rfl Tryz.underlying25 et) ?_
 refine sq (y_neq rfl et et) ?_
 refine nk ?_
 refine c_cond (b := !decide ((a1.length : Int) = (b1.length : Int))) et (fun hb => ?_) (fun hb => ?_)
 ·replace h := ite_t hb h
  refine sr ?_
  refine sac ?_
  refine nk ?_
  refine c_ret ?_
  obtain rfl := some_inj h
  exact q_ret (vs := [(vb false)]) Tryz.results51 ⟨ev_tmp rfl rfl, trivial⟩ ⟨rfl, hI.ext0, hI.fin trivial⟩
 ·replace h := ite_f hb h
  refine c_skip ?_
  refine k_same ?_
  refine c_seq ?_
  refine sr ?_
  refine sac ?_
  refine nk ?_
  refine c_block ?_
  refine c_loop (α := Nat × Int) (fun x => fun w => ∃ C, Bun noM F w0 C w [] [Cl.sl cGVal a2 c1 a1, Cl.sl cGVal a3 c2 b1] ∧ m_base_Vals_l1 a1 b1 (x.1) (x.2) = some r) (fun x _ => x.1) (fun x => [(0, (vs a2 a1.length c1)), (1, (vs a3 b1.length c2)), (5, (vi (x.2)))]) (fu, 0) ⟨_, hI.arr .n ⟨.z, (.s .z), trivial⟩, h⟩ ⟨rfl, rfl, rfl, trivial⟩ ?_
  clear h hI; rintro ⟨fuel1, i1⟩ w1 ⟨c3, hI, h⟩
  dsimp only at hI h
  rcases fuel1 with _ | fuel1
  ·rw [m_base_Vals_l1] at h; cases h
  rw [m_base_Vals_l1] at h
  refine c_sub (e := [(0, (vs a2 a1.length c1)), (1, (vs a3 b1.length c2)), (5, (vi i1))]) ⟨rfl, rfl, rfl, trivial⟩ ?_
  refine c_seq ?_
  refine sr ?_
  refine sm ?_
  refine sm ?_
  refine sq (y_lenl rfl Tryz.underlying25 et) ?_
  refine sq (y_lss rfl et et) ?_
  refine nk ?_
  refine c_cond (b := decide (i1 < (a1.length : Int))) et (fun hb => ?_) (fun hb => ?_)
  ·replace h := ite_t hb h
   refine c_skip ?_
   refine k_same ?_
   refine c_seq ?_
   refine c_block ?_
   refine c_seq ?_
   refine c_drawX [] false (.c (0, .q) (.c (1, .q) (.c (2, .q) (.c (3, .q) (.c (4, .q) (.c (5, .q) (.c (6, .q) (.c (7, .q) (.c (8, .q) .n))))))))) hI (by kernel_rfl) (by kernel_rfl) ?_
   clear hI; intro w2 hI
   refine a_q rfl gn rfl (fun w' => (y_move rfl et)) ?_
   refine a_q rfl gn rfl (fun w' => (y_move rfl et)) ?_
   obtain ⟨e1, hx1, h⟩ := bnd_some h
   obtain ⟨ad1, cs1, hA1, hr1, hq1⟩ := hI.clat .z hx1
   obtain rfl : cs1 = [(vi e1.N), (vi e1.D)] := hr1
   refine a_q rfl gn rfl (fun w' => (y_indexAddr rfl Tryz.underlying25 size_36 et et (lat_bd hx1) hA1)) ?_
   refine a_read rfl gn rfl (fun w' hw' => (y_loadN (l := [(vi e1.N), (vi e1.D)]) rfl et Tryz.underlying36 rfl size_36 (hq1.at_ (SX.any rfl hw')))) (by kernel_rfl) ?_
   refine a_q rfl gn rfl (fun w' => (y_move rfl et)) ?_
   refine a_q rfl gn rfl (fun w' => (y_move rfl et)) ?_
   obtain ⟨e2, hx2, h⟩ := bnd_some h
   obtain ⟨ad2, cs2, hA2, hr2, hq2⟩ := hI.clat (.s .z) hx2
   obtain rfl : cs2 = [(vi e2.N), (vi e2.D)] := hr2
   refine a_q rfl gn rfl (fun w' => (y_indexAddr rfl Tryz.underlying25 size_36 et et (lat_bd hx2) hA2)) ?_
   refine a_read rfl gn rfl (fun w' hw' => (y_loadN (l := [(vi e2.N), (vi e2.D)]) rfl et Tryz.underlying36 rfl size_36 (hq2.at_ (SX.any rfl hw')))) (by kernel_rfl) ?_
   refine a_q rfl gn rfl (fun w' => (y_bin rfl et et (eqstruct_36n ..) (eqguard_36 ..))) ?_
   refine a_nil ?_
   refine k_same ?_
   refine c_cond (b := !((decide (e1.N = e2.N)) && (decide (e1.D = e2.D)))) et (fun hb => ?_) (fun hb => ?_)
   ·replace h := ite_t hb h
    refine sr ?_
    refine sac ?_
    refine nk ?_
    refine c_ret ?_
    obtain rfl := some_inj h
    exact q_ret (vs := [(vb false)]) Tryz.results51 ⟨ev_tmp rfl rfl, trivial⟩ ⟨rfl, hI.ext0, hI.fin trivial⟩
   ·replace h := ite_f hb h
    refine c_skip ?_
    refine k_same ?_
    refine c_region rfl ?_
    refine sm ?_
    refine sq (y_add rfl et ev_const) ?_
    refine sa ?_
    refine s_nil ?_
    exact k_loop (fuel1, wi64 (i1 + 1)) ⟨rfl, rfl, rfl, trivial⟩ ⟨_, hI.arr .n ⟨.z, (.s .z), trivial⟩, h⟩ (Nat.lt_succ_self _)
  ·replace h := ite_f hb h
   refine c_exit ?_
   refine k_in ?_
   refine k_same ?_
   refine sr ?_
   refine sac ?_
   refine nk ?_
   refine c_ret ?_
   obtain rfl := some_inj h
   exact q_ret (vs := [(vb true)]) Tryz.results51 ⟨ev_tmp rfl rfl, trivial⟩ ⟨rfl, hI.ext0, hI.fin trivial⟩

set_option maxRecDepth 100000 in
set_option maxHeartbeats 4000000 in
theorem c_base_Tensor (F : NP) (w0 : World) (hF : ∀ k, F k → k < w0.heap.size) (a1 : GTensor) (b1 : GTensor) (a2 : Option Addr) (c1 : Nat) (a3 : Option Addr) (c2 : Nat) (a4 : Option Addr) (c3 : Nat) (a5 : Option Addr) (c4 : Nat) (hc : AllCl [Cl.sl (cInt .i64) a2 c1 a1.Dims, Cl.sl cGVal a3 c2 a1.Vals, Cl.sl (cInt .i64) a4 c3 b1.Dims, Cl.sl cGVal a5 c4 b1.Vals] F w0) (r : Bool)
  (h : m_base_Tensor a1 b1 = some r) :
  Calls Tryz.prog 16 #[(Value.agg #[(vi a1.Type_.Kind), (vi a1.Type_.Bits), (vi a1.Type_.Frac), (vi a1.Type_.Round), (vi a1.Type_.Over), (vs a2 a1.Dims.length c1), (vs a3 a1.Vals.length c2)]), (Value.agg #[(vi b1.Type_.Kind), (vi b1.Type_.Bits), (vi b1.Type_.Frac), (vi b1.Type_.Round), (vi b1.Type_.Over), (vs a4 b1.Dims.length c3), (vs a5 b1.Vals.length c4)])] w0 fun e w => e = .returned (vb r) ∧ Ext w0 w ∧ AllCl [] F w := by
 refine enterK (l := [(Value.agg #[(vi a1.Type_.Kind), (vi a1.Type_.Bits), (vi a1.Type_.Frac), (vi a1.Type_.Round), (vi a1.Type_.Over), (vs a2 a1.Dims.length c1), (vs a3 a1.Vals.length c2)]), (Value.agg #[(vi b1.Type_.Kind), (vi b1.Type_.Bits), (vi b1.Type_.Frac), (vi b1.Type_.Round), (vi b1.Type_.Over), (vs a4 b1.Dims.length c3), (vs a5 b1.Vals.length c4)])]) Tryz.func16 rfl Tryz.ntmps16 rfl ?_
 have hI := Bun.start hF hc
 clear hc
 rw [m_base_Tensor] at h
 refine sr ?_
 refine l_box (v := (Value.agg #[(vi a1.Type_.Kind), (vi a1.Type_.Bits), (vi a1.Type_.Frac), (vi a1.Type_.Round), (vi a1.Type_.Over), (vs a2 a1.Dims.length c1), (vs a3 a1.Vals.length c2)])) (cs := #[(vi a1.Type_.Kind), (vi a1.Type_.Bits), (vi a1.Type_.Frac), (vi a1.Type_.Round), (vi a1.Type_.Over), (vs a2 a1.Dims.length c1), (vs a3 a1.Vals.length c2)]) hI gn rfl rfl et rfl ?_
 clear hI; intro b2 c5 w1 hI
 obtain ⟨c6, hI⟩ := hI.relBox .z
 refine l_box (v := (Value.agg #[(vi b1.Type_.Kind), (vi b1.Type_.Bits), (vi b1.Type_.Frac), (vi b1.Type_.Round), (vi b1.Type_.Over), (vs a4 b1.Dims.length c3), (vs a5 b1.Vals.length c4)])) (cs := #[(vi b1.Type_.Kind), (vi b1.Type_.Bits), (vi b1.Type_.Frac), (vi b1.Type_.Round), (vi b1.Type_.Over), (vs a4 b1.Dims.length c3), (vs a5 b1.Vals.length c4)]) hI gn rfl rfl et rfl ?_
 clear hI; intro b3 c7 w2 hI
 obtain ⟨c8, hI⟩ := hI.relBox .z
 refine sac ?_
 refine nk ?_
 refine sr ?_
 refine sq (y_fieldAddr rfl et Tryz.underlying27 rfl size_23 rfl) ?_
 refine sq (y_loadN (l := [(vi a1.Type_.Kind), (vi a1.Type_.Bits), (vi a1.Type_.Frac), (vi a1.Type_.Round), (vi a1.Type_.Over)]) rfl et Tryz.underlying23 rfl size_23 (hI.kblk (l := [(vi a1.Type_.Kind), (vi a1.Type_.Bits), (vi a1.Type_.Frac), (vi a1.Type_.Round), (vi a1.Type_.Over)]) (.s .z) rfl).1) ?_
 refine sq (y_fieldAddr rfl et Tryz.underlying27 rfl size_23 rfl) ?_
 refine sq (y_loadN (l := [(vi b1.Type_.Kind), (vi b1.Type_.Bits), (vi b1.Type_.Frac), (vi b1.Type_.Round), (vi b1.Type_.Over)]) rfl et Tryz.underlying23 rfl size_23 (hI.kblk (l := [(vi b1.Type_.Kind), (vi b1.Type_.Bits), (vi b1.Type_.Frac), (vi b1.Type_.Round), (vi b1.Type_.Over)]) .z rfl).1) ?_
 refine sq (y_bin rfl et et (eqstruct_23 ..) (eqguard_23 ..)) ?_
 refine sm ?_
 refine s_gval (g_true rfl rfl rfl rfl) rfl (fun hc => (y_fieldAddr rfl et Tryz.underlying27 rfl size_24 rfl)) ?_
 refine s_gval (g_true rfl rfl rfl rfl) rfl (fun hc => (y_load1 (v := (vs a2 a1.Dims.length c1)) rfl (ev_gv et hc) Tryz.underlying24 rfl (hI.kblk (l := [(vs a2 a1.Dims.length c1)]) (.s .z) rfl).1)) ?_
 refine s_gval (g_true rfl rfl rfl rfl) rfl (fun hc => (y_fieldAddr rfl et Tryz.underlying27 rfl size_24 rfl)) ?_
 refine s_gval (g_true rfl rfl rfl rfl) rfl (fun hc => (y_load1 (v := (vs a4 b1.Dims.length c3)) rfl (ev_gv et hc) Tryz.underlying24 rfl (hI.kblk (l := [(vs a4 b1.Dims.length c3)]) .z rfl).1)) ?_
 obtain ⟨r1, hx1, h⟩ := bnd_some h
 replace hx1 := gd_some hx1
 refine s_gcallU (v := (vb r1)) (g_true rfl rfl rfl rfl) rfl (fun hc => (r_callF (vs := [(vs a2 a1.Dims.length c1), (vs a4 b1.Dims.length c3)]) rfl ok_50 ⟨(ev_gv et hc), ⟨(ev_gv et hc), trivial⟩⟩)) (fun hc => (c_base_Ints (Dj F c8) w2 hI.lt a1.Dims b1.Dims a2 c1 a4 c3 ⟨(hI.get (.s (.s .z))), (hI.get (.s (.s (.s (.s .z))))), trivial⟩ r1 (hx1 hc)).mono fun _ _ k => ⟨k.1, k.2.1⟩) ?_
 intro w3 hx2; replace hI := hI.ext hx2
 refine sq (y_and rfl et et) ?_
 refine sm ?_
 refine s_gval (g_true rfl rfl rfl rfl) rfl (fun hc => (y_fieldAddr rfl et Tryz.underlying27 rfl size_25 rfl)) ?_
 refine s_gval (g_true rfl rfl rfl rfl) rfl (fun hc => (y_load1 (v := (vs a3 a1.Vals.length c2)) rfl (ev_gv et hc) Tryz.underlying25 rfl (hI.kblk (l := [(vs a3 a1.Vals.length c2)]) (.s .z) rfl).1)) ?_
 refine s_gval (g_true rfl rfl rfl rfl) rfl (fun hc => (y_fieldAddr rfl et Tryz.underlying27 rfl size_25 rfl)) ?_
 refine s_gval (g_true rfl rfl rfl rfl) rfl (fun hc => (y_load1 (v := (vs a5 b1.Vals.length c4)) rfl (ev_gv et hc) Tryz.underlying25 rfl (hI.kblk (l := [(vs a5 b1.Vals.length c4)]) .z rfl).1)) ?_
 obtain ⟨r2, hx3, h⟩ := bnd_some h
 replace hx3 := gd_some hx3
 refine s_gcallU (v := (vb r2)) (g_true rfl rfl rfl rfl) rfl (fun hc => (r_callF (vs := [(vs a3 a1.Vals.length c2), (vs a5 b1.Vals.length c4)]) rfl ok_51 ⟨(ev_gv et hc), ⟨(ev_gv et hc), trivial⟩⟩)) (fun hc => (c_base_Vals (Dj F c8) w3 hI.lt a1.Vals b1.Vals a3 c2 a5 c4 ⟨(hI.get (.s (.s (.s .z)))), (hI.get (.s (.s (.s (.s (.s .z)))))), trivial⟩ r2 (hx3 hc)).mono fun _ _ k => ⟨k.1, k.2.1⟩) ?_
 intro w4 hx4; replace hI := hI.ext hx4
 refine sq (y_and rfl et et) ?_
 refine sa ?_
 refine nk ?_
 refine c_ret ?_
 obtain rfl := some_inj h
 exact q_ret (vs := [(vb ((((decide (a1.Type_.Kind = b1.Type_.Kind)) && (decide (a1.Type_.Bits = b1.Type_.Bits)) && (decide (a1.Type_.Frac = b1.Type_.Frac)) && (decide (a1.Type_.Round = b1.Type_.Round)) && (decide (a1.Type_.Over = b1.Type_.Over))) && r1) && r2))]) Tryz.results16 ⟨ev_tmp rfl rfl, trivial⟩ ⟨rfl, hI.ext0, hI.fin trivial⟩

set_option maxRecDepth 100000 in
set_option maxHeartbeats 4000000 in
theorem c_ref12_Permute (F : NP) (w0 : World) (hF : ∀ k, F k → k < w0.heap.size) (t1 : GTensor) (order1 : List Int) (a1 : Option Addr) (c1 : Nat) (a2 : Option Addr) (c2 : Nat) (a3 : Option Addr) (c3 : Nat) (hc : AllCl [Cl.sl (cInt .i64) a1 c1 t1.Dims, Cl.sl cGVal a2 c2 t1.Vals, Cl.sl (cInt .i64) a3 c3 order1] F w0) (r : GTensor × Int)
  (h : m_ref12_Permute t1 order1 = some r) :
  Calls Tryz.prog 31 #[(Value.agg #[(vi t1.Type_.Kind), (vi t1.Type_.Bits), (vi t1.Type_.Frac), (vi t1.Type_.Round), (vi t1.Type_.Over), (vs a1 t1.Dims.length c1), (vs a2 t1.Vals.length c2)]), (vs a3 order1.length c3)] w0 fun e w => ∃ (a4 : Option Addr) (c4 : Nat) (a5 : Option Addr) (c5 : Nat), e = .returned (Value.tuple #[(Value.agg #[(vi r.1.Type_.Kind), (vi r.1.Type_.Bits), (vi r.1.Type_.Frac), (vi r.1.Type_.Round), (vi r.1.Type_.Over), (vs a4 r.1.Dims.length c4), (vs a5 r.1.Vals.length c5)]), (vi r.2)]) ∧ Ext w0 w ∧ AllCl [Cl.sl (cInt .i64) a4 c4 r.1.Dims, Cl.sl cGVal a5 c5 r.1.Vals] F w := by
 refine enterK (l := [(Value.agg #[(vi t1.Type_.Kind), (vi t1.Type_.Bits), (vi t1.Type_.Frac), (vi t1.Type_.Round), (vi t1.Type_.Over), (vs a1 t1.Dims.length c1), (vs a2 t1.Vals.length c2)]), (vs a3 order1.length c3)]) Tryz.func31 rfl Tryz.ntmps31 rfl ?_
 have hI := Bun.start hF hc
 clear hc
 rw [m_ref12_Permute] at h
 refine sr ?_
 refine l_box (v := (Value.agg #[(vi t1.Type_.Kind), (vi t1.Type_.Bits), (vi t1.Type_.Frac), (vi t1.Type_.Round), (vi t1.Type_.Over), (vs a1 t1.Dims.length c1), (vs a2 t1.Vals.length c2)])) (cs := #[(vi t1.Type_.Kind), (vi t1.Type_.Bits), (vi t1.Type_.Frac), (vi t1.Type_.Round), (vi t1.Type_.Over), (vs a1 t1.Dims.length c1), (vs a2 t1.Vals.length c2)]) hI gn rfl rfl et rfl ?_
 clear hI; intro b1 c6 w1 hI
 obtain ⟨c7, hI⟩ := hI.relBox .z
 refine l_alloc (cs := #[(vi 0), (vi 0), (vi 0), (vi 0), (vi 0), (vs none 0 0), (vs none 0 0)]) hI gn rfl rfl zero_27 rfl ?_
 clear hI; intro b2 c8 w2 hI
 refine sac ?_
 refine nk ?_
 refine c_seq ?_
 refine sr ?_
 refine sq (y_loadN (l := [(vi t1.Type_.Kind), (vi t1.Type_.Bits), (vi t1.Type_.Frac), (vi t1.Type_.Round), (vi t1.Type_.Over), (vs a1 t1.Dims.length c1), (vs a2 t1.Vals.length c2)]) rfl et Tryz.underlying27 rfl size_27 (hI.kblk (l := [(vi t1.Type_.Kind), (vi t1.Type_.Bits), (vi t1.Type_.Frac), (vi t1.Type_.Round), (vi t1.Type_.Over), (vs a1 t1.Dims.length c1), (vs a2 t1.Vals.length c2)]) .z rfl).1) ?_
 obtain ⟨r1, hx1, h⟩ := bnd_some h
 refine s_call gn rfl (r_callF (vs := [(Value.agg #[(vi t1.Type_.Kind), (vi t1.Type_.Bits), (vi t1.Type_.Frac), (vi t1.Type_.Round), (vi t1.Type_.Over), (vs a1 t1.Dims.length c1), (vs a2 t1.Vals.length c2)])]) rfl ok_26 ⟨et, trivial⟩) (Calls.mono (c_ref12_Validate (Dj F c8) w2 hI.lt t1 a1 c1 a2 c2 ⟨(hI.get (.s .z)), (hI.get (.s (.s .z))), trivial⟩ r1 hx1) ?_)
 rintro _ w3 ⟨rfl, hx2, hl1⟩
 refine ⟨_, rfl, ?_⟩
 replace hI := (hI.ext hx2)
 refine sa ?_
 refine nk ?_
 refine sr ?_
 refine sm ?_
 refine sq (y_neq rfl et ev_const) ?_
 refine nk ?_
 refine c_cond (b := !decide (r1 = 0)) et (fun hb => ?_) (fun hb => ?_)
 ·replace h := ite_t hb h
  refine sr ?_
  refine sq (y_build (vs := []) (cs := #[(vi 0), (vi 0), (vi 0), (vi 0), (vi 0), (vs none 0 0), (vs none 0 0)]) rfl trivial (by kernel_rfl)) ?_
  refine sm ?_
  refine l_store (new := [(vi 0), (vi 0), (vi 0), (vi 0), (vi 0), (vs none 0 0), (vs none 0 0)]) (cs' := #[(vi 0), (vi 0), (vi 0), (vi 0), (vi 0), (vs none 0 0), (vs none 0 0)]) hI .z gn rfl rfl et et rfl size_27 rfl rfl rfl ?_
  clear hI; intro c9 w4 hI
  refine sa ?_
  refine nk ?_
  refine c_ret ?_
  have hI := hI.add (c := Cl.sl (cInt .i64) none 0 ([] : List Int)) SlC.nil
  have hI := hI.add (c := Cl.sl cGVal none 0 ([] : List GVal)) SlC.nil
  obtain rfl := some_inj h
  exact q_ret (vs := [(Value.agg #[(vi 0), (vi 0), (vi 0), (vi 0), (vi 0), (vs none 0 0), (vs none 0 0)]), (vi r1)]) Tryz.results31 ⟨⟨_, ev_tmp rfl rfl, load_agg (l := [(vi 0), (vi 0), (vi 0), (vi 0), (vi 0), (vs none 0 0), (vs none 0 0)]) Tryz.underlying27 rfl size_27 (CellsAt.of_blk (hI.blk .z) rfl)⟩, ⟨ev_tmp rfl rfl, trivial⟩⟩ ⟨none, 0, none, 0, rfl, hI.ext0, hI.fin ⟨(.s .z), .z, trivial⟩⟩
 ·replace h := ite_f hb h
  refine c_skip ?_
  refine k_same ?_
  refine c_seq ?_
  refine sr ?_
  refine sm ?_
  refine sq (y_lenl rfl Tryz.underlying24 et) ?_
  refine sq (y_fieldAddr rfl et Tryz.underlying27 rfl size_24 rfl) ?_
  refine sq (y_load1 (v := (vs a1 t1.Dims.length c1)) rfl et Tryz.underlying24 rfl (hI.kblk (l := [(vs a1 t1.Dims.length c1)]) .z rfl).1) ?_
  refine sq (y_lenl rfl Tryz.underlying24 et) ?_
  refine sq (y_neq rfl et et) ?_
  refine nk ?_
  refine c_cond (b := !decide ((order1.length : Int) = (t1.Dims.length : Int))) et (fun hb => ?_) (fun hb => ?_)
  ·replace h := ite_t hb h
   refine sr ?_
   refine sq (y_build (vs := []) (cs := #[(vi 0), (vi 0), (vi 0), (vi 0), (vi 0), (vs none 0 0), (vs none 0 0)]) rfl trivial (by kernel_rfl)) ?_
   refine l_store (new := [(vi 0), (vi 0), (vi 0), (vi 0), (vi 0), (vs none 0 0), (vs none 0 0)]) (cs' := #[(vi 0), (vi 0), (vi 0), (vi 0), (vi 0), (vs none 0 0), (vs none 0 0)]) hI .z gn rfl rfl et et rfl size_27 rfl rfl rfl ?_
   clear hI; intro c10 w5 hI
   refine sac ?_
   refine nk ?_
   refine c_ret ?_
   have hI := hI.add (c := Cl.sl (cInt .i64) none 0 ([] : List Int)) SlC.nil
   have hI := hI.add (c := Cl.sl cGVal none 0 ([] : List GVal)) SlC.nil
   obtain rfl := some_inj h
   exact q_ret (vs := [(Value.agg #[(vi 0), (vi 0), (vi 0), (vi 0), (vi 0), (vs none 0 0), (vs none 0 0)]), (vi 1)]) Tryz.results31 ⟨⟨_, ev_tmp rfl rfl, load_agg (l := [(vi 0), (vi 0), (vi 0), (vi 0), (vi 0), (vs none 0 0), (vs none 0 0)]) Tryz.underlying27 rfl size_27 (CellsAt.of_blk (hI.blk .z) rfl)⟩, ⟨ev_tmp rfl rfl, trivial⟩⟩ ⟨none, 0, none, 0, rfl, hI.ext0, hI.fin ⟨(.s .z), .z, trivial⟩⟩
  ·replace h := ite_f hb h
   refine c_skip ?_
   refine k_same ?_
   refine sr ?_
   refine sac ?_
   refine nk ?_
   refine c_join (α := (List Int) × (Option Addr) × Nat) (fun _ => ⟨122, []⟩) (fun x => [(1, (vs a3 order1.length c3)), (2, (vp b1 0)), (4, (vp b2 0)), (7, (vs (x.2.1) (x.1).length (x.2.2)))]) (fun x => fun w => ∃ C, Bun noM F w0 C w [MO.row (cInt .i64) 3 (x.2.1) (x.2.2) (x.1), MO.box b2 27 #[(vi 0), (vi 0), (vi 0), (vi 0), (vi 0), (vs none 0 0), (vs none 0 0)]] [Cl.sl (cInt .i64) a3 c3 order1, Cl.blk b1 27 #[(vi t1.Type_.Kind), (vi t1.Type_.Bits), (vi t1.Type_.Frac), (vi t1.Type_.Round), (vi t1.Type_.Over), (vs a1 t1.Dims.length c1), (vs a2 t1.Vals.length c2)], Cl.sl (cInt .i64) a1 c1 t1.Dims, Cl.sl cGVal a2 c2 t1.Vals] ∧ m_ref12_Permute_j1 t1 order1 (x.1) = some r) ?_ ?_
   ·clear h hI; rintro ⟨dims1, a6, c11⟩ w6 ⟨c12, hI, h⟩
    try dsimp only at hI h
    rw [m_ref12_Permute_j1] at h
    refine c_sub (e := [(1, (vs a3 order1.length c3)), (2, (vp b1 0)), (4, (vp b2 0)), (7, (vs a6 dims1.length c11))]) ⟨rfl, rfl, rfl, rfl, trivial⟩ ?_
    refine sr ?_
    refine sq (y_fieldAddr rfl et Tryz.underlying27 rfl size_23 rfl) ?_
    refine sq (y_loadN (l := [(vi t1.Type_.Kind), (vi t1.Type_.Bits), (vi t1.Type_.Frac), (vi t1.Type_.Round), (vi t1.Type_.Over)]) rfl et Tryz.underlying23 rfl size_23 (hI.kblk (l := [(vi t1.Type_.Kind), (vi t1.Type_.Bits), (vi t1.Type_.Frac), (vi t1.Type_.Round), (vi t1.Type_.Over)]) (.s .z) rfl).1) ?_
    refine sm ?_
    refine sq (y_build (vs := [(0, (Value.agg #[(vi t1.Type_.Kind), (vi t1.Type_.Bits), (vi t1.Type_.Frac), (vi t1.Type_.Round), (vi t1.Type_.Over)])), (1, (vs a6 dims1.length c11))]) (cs := #[(vi t1.Type_.Kind), (vi t1.Type_.Bits), (vi t1.Type_.Frac), (vi t1.Type_.Round), (vi t1.Type_.Over), (vs a6 dims1.length c11), (vs none 0 0)]) rfl ⟨rfl, et, ⟨rfl, et, trivial⟩⟩ (by kernel_rfl)) ?_
    refine l_alloc (cs := #[(vi 0), (vi 0), (vi 0), (vi 0), (vi 0), (vs none 0 0), (vs none 0 0)]) hI gn rfl rfl zero_27 rfl ?_
    clear hI; intro b3 c13 w7 hI
    refine l_store (new := [(vi t1.Type_.Kind), (vi t1.Type_.Bits), (vi t1.Type_.Frac), (vi t1.Type_.Round), (vi t1.Type_.Over), (vs a6 dims1.length c11), (vs none 0 0)]) (cs' := #[(vi t1.Type_.Kind), (vi t1.Type_.Bits), (vi t1.Type_.Frac), (vi t1.Type_.Round), (vi t1.Type_.Over), (vs a6 dims1.length c11), (vs none 0 0)]) hI .z gn rfl rfl et et rfl size_27 rfl rfl rfl ?_
    clear hI; intro c14 w8 hI
    refine nk ?_
    refine c_seq ?_
    refine sr ?_
    refine sac ?_
    refine nk ?_
    refine c_block ?_
    obtain ⟨c15, hI⟩ := hI.release (.s .z)
    have hI := hI.nil cGVal 36 none
    refine c_loop (α := Nat × Int × GTensor × (Option Addr) × Nat × (Option Addr) × Nat) (fun x => fun w => ∃ C, Bun noM F w0 C w [MO.row cGVal 36 (x.2.2.2.2.2.1) (x.2.2.2.2.2.2) (x.2.2.1).Vals, MO.box b2 27 #[(vi 0), (vi 0), (vi 0), (vi 0), (vi 0), (vs none 0 0), (vs none 0 0)], MO.box b3 27 #[(vi (x.2.2.1).Type_.Kind), (vi (x.2.2.1).Type_.Bits), (vi (x.2.2.1).Type_.Frac), (vi (x.2.2.1).Type_.Round), (vi (x.2.2.1).Type_.Over), (vs (x.2.2.2.1) (x.2.2.1).Dims.length (x.2.2.2.2.1)), (vs (x.2.2.2.2.2.1) (x.2.2.1).Vals.length (x.2.2.2.2.2.2))]] [Cl.sl (cInt .i64) (x.2.2.2.1) (x.2.2.2.2.1) (x.2.2.1).Dims, Cl.sl (cInt .i64) a3 c3 order1, Cl.blk b1 27 #[(vi t1.Type_.Kind), (vi t1.Type_.Bits), (vi t1.Type_.Frac), (vi t1.Type_.Round), (vi t1.Type_.Over), (vs a1 t1.Dims.length c1), (vs a2 t1.Vals.length c2)], Cl.sl (cInt .i64) a1 c1 t1.Dims, Cl.sl cGVal a2 c2 t1.Vals, Cl.sl (cInt .i64) a6 c11 dims1] ∧ m_ref12_Permute_l1 t1 dims1 order1 (x.1) (x.2.1) (x.2.2.1) = some r) (fun x _ => x.1) (fun x => [(1, (vs a3 order1.length c3)), (2, (vp b1 0)), (4, (vp b2 0)), (7, (vs a6 dims1.length c11)), (10, (vp b3 0)), (11, (vi (x.2.1)))]) (fu, 0, (⟨t1.Type_, dims1, ([] : List GVal)⟩ : GTensor), a6, c11, none, 0) ⟨_, hI.arr (.c .z (.c (.s .z) (.c .z .n))) ⟨.z, (.s .z), (.s (.s .z)), (.s (.s (.s .z))), (.s (.s (.s (.s .z)))), .z, trivial⟩, h⟩ ⟨rfl, rfl, rfl, rfl, rfl, rfl, trivial⟩ ?_
    clear h hI; rintro ⟨fuel1, i1, out1, a7, c16, a8, c17⟩ w9 ⟨c18, hI, h⟩
    dsimp only at hI h
    rcases fuel1 with _ | fuel1
    ·rw [m_ref12_Permute_l1] at h; cases h
    rw [m_ref12_Permute_l1] at h
    refine c_sub (e := [(1, (vs a3 order1.length c3)), (2, (vp b1 0)), (4, (vp b2 0)), (7, (vs a6 dims1.length c11)), (10, (vp b3 0)), (11, (vi i1))]) ⟨rfl, rfl, rfl, rfl, rfl, rfl, trivial⟩ ?_
    refine c_seq ?_
    refine sr ?_
    refine sm ?_
    refine sq (y_fieldAddr rfl et Tryz.underlying27 rfl size_25 rfl) ?_
    refine sq (y_load1 (v := (vs a2 t1.Vals.length c2)) rfl et Tryz.underlying25 rfl (hI.kblk (l := [(vs a2 t1.Vals.length c2)]) (.s (.s .z)) rfl).1) ?_
    refine sq (y_lenl rfl Tryz.underlying25 et) ?_
    refine sq (y_lss rfl et et) ?_
    refine nk ?_
    refine c_cond (b := decide (i1 < (t1.Vals.length : Int))) et (fun hb => ?_) (fun hb => ?_)
    ·replace h := ite_t hb h
     refine c_skip ?_
     refine k_same ?_
     refine c_join (α := GTensor × (Option Addr) × Nat × (Option Addr) × Nat) (fun _ => ⟨122, []⟩) (fun x => [(1, (vs a3 order1.length c3)), (2, (vp b1 0)), (4, (vp b2 0)), (7, (vs a6 dims1.length c11)), (10, (vp b3 0)), (11, (vi i1))]) (fun x => fun w => ∃ C, Bun noM F w0 C w [MO.row cGVal 36 (x.2.2.2.1) (x.2.2.2.2) (x.1).Vals, MO.box b2 27 #[(vi 0), (vi 0), (vi 0), (vi 0), (vi 0), (vs none 0 0), (vs none 0 0)], MO.box b3 27 #[(vi (x.1).Type_.Kind), (vi (x.1).Type_.Bits), (vi (x.1).Type_.Frac), (vi (x.1).Type_.Round), (vi (x.1).Type_.Over), (vs (x.2.1) (x.1).Dims.length (x.2.2.1)), (vs (x.2.2.2.1) (x.1).Vals.length (x.2.2.2.2))]] [Cl.sl (cInt .i64) (x.2.1) (x.2.2.1) (x.1).Dims, Cl.sl (cInt .i64) a3 c3 order1, Cl.blk b1 27 #[(vi t1.Type_.Kind), (vi t1.Type_.Bits), (vi t1.Type_.Frac), (vi t1.Type_.Round), (vi t1.Type_.Over), (vs a1 t1.Dims.length c1), (vs a2 t1.Vals.length c2)], Cl.sl (cInt .i64) a1 c1 t1.Dims, Cl.sl cGVal a2 c2 t1.Vals, Cl.sl (cInt .i64) a6 c11 dims1] ∧ m_ref12_Permute_j2 (m_ref12_Permute_l1 t1 dims1 order1 fuel1) i1 (x.1) = some r) ?_ ?_
     ·clear h hI; rintro ⟨out2, a9, c19, a10, c20⟩ w10 ⟨c21, hI, h⟩
      try dsimp only at hI h
      rw [m_ref12_Permute_j2] at h
      refine c_sub (e := [(1, (vs a3 order1.length c3)), (2, (vp b1 0)), (4, (vp b2 0)), (7, (vs a6 dims1.length c11)), (10, (vp b3 0)), (11, (vi i1))]) ⟨rfl, rfl, rfl, rfl, rfl, rfl, trivial⟩ ?_
      refine c_region rfl ?_
      refine sm ?_
      refine sq (y_add rfl et ev_const) ?_
      refine sa ?_
      refine s_nil ?_
      exact k_loop (fuel1, wi64 (i1 + 1), out2, a9, c19, a10, c20) ⟨rfl, rfl, rfl, rfl, rfl, rfl, trivial⟩ ⟨_, hI.arr (.c .z (.c .z (.c .z .n))) ⟨.z, (.s .z), (.s (.s .z)), (.s (.s (.s .z))), (.s (.s (.s (.s .z)))), (.s (.s (.s (.s (.s .z))))), trivial⟩, h⟩ (Nat.lt_succ_self _)
     ·skip
      refine c_block ?_
      refine sr ?_
      refine sm ?_
      refine sm ?_
      obtain ⟨r2, hx3, h⟩ := bnd_some h
      refine s_call gn rfl (r_callF (vs := [(vs a6 dims1.length c11), (vi i1)]) rfl ok_45 ⟨et, ⟨et, trivial⟩⟩) (Calls.mono (c_ref12_Point (Dj F c18) w9 hI.lt dims1 i1 a6 c11 ⟨(hI.get (.s (.s (.s (.s (.s .z)))))), trivial⟩ r2 hx3) ?_)
      rintro _ w11 ⟨a11, c22, rfl, hx4, hl2⟩
      refine ⟨_, rfl, ?_⟩
      replace hI := (hI.ext hx4).adds hl2
      refine sa ?_
      refine nk ?_
      refine sr ?_
      refine sm ?_
      refine sq (y_lenl rfl Tryz.underlying24 et) ?_
      obtain ⟨zs1, hx5, h⟩ := bnd_some h
      refine l_make (c := (cInt .i64)) hI hx5 gn  rfl rfl Tryz.underlying24 info_3 rfl rfl et et rfl ?_
      clear hI; intro b4 c23 w12 hI
      refine sa ?_
      refine nk ?_
      refine c_join (α := (List Int) × (Option Addr) × Nat) (fun _ => ⟨122, []⟩) (fun x => [(1, (vs a3 order1.length c3)), (2, (vp b1 0)), (4, (vp b2 0)), (7, (vs a6 dims1.length c11)), (10, (vp b3 0)), (11, (vi i1)), (13, (vs (x.2.1) (x.1).length (x.2.2)))]) (fun x => fun w => ∃ C, Bun noM F w0 C w [MO.row (cInt .i64) 3 (x.2.1) (x.2.2) (x.1), MO.box b2 27 #[(vi 0), (vi 0), (vi 0), (vi 0), (vi 0), (vs none 0 0), (vs none 0 0)], MO.box b3 27 #[(vi out1.Type_.Kind), (vi out1.Type_.Bits), (vi out1.Type_.Frac), (vi out1.Type_.Round), (vi out1.Type_.Over), (vs a7 out1.Dims.length c16), (vs a8 out1.Vals.length c17)], MO.row cGVal 36 a8 c17 out1.Vals] [Cl.sl (cInt .i64) a3 c3 order1, Cl.blk b1 27 #[(vi t1.Type_.Kind), (vi t1.Type_.Bits), (vi t1.Type_.Frac), (vi t1.Type_.Round), (vi t1.Type_.Over), (vs a1 t1.Dims.length c1), (vs a2 t1.Vals.length c2)], Cl.sl (cInt .i64) a1 c1 t1.Dims, Cl.sl cGVal a2 c2 t1.Vals, Cl.sl (cInt .i64) a6 c11 dims1, Cl.sl (cInt .i64) a7 c16 out1.Dims] ∧ m_ref12_Permute_j3 t1 out1 (m_ref12_Permute_l1 t1 dims1 order1 fuel1) i1 (x.1) = some r) ?_ ?_
      ·clear h hI; rintro ⟨q1, a12, c24⟩ w13 ⟨c25, hI, h⟩
       try dsimp only at hI h
       rw [m_ref12_Permute_j3] at h
       refine c_sub (e := [(1, (vs a3 order1.length c3)), (2, (vp b1 0)), (4, (vp b2 0)), (7, (vs a6 dims1.length c11)), (10, (vp b3 0)), (11, (vi i1)), (13, (vs a12 q1.length c24))]) ⟨rfl, rfl, rfl, rfl, rfl, rfl, rfl, trivial⟩ ?_
       refine c_drawX [11, 13] false (.c (0, .q) (.c (1, .q) (.c (2, .q) (.c (3, .q) (.c (4, .q) (.c (5, .q) (.c (6, .q) (.c (7, .s) (.c (8, .q) (.c (9, .q) (.c (10, .s) (.c (11, .s) (.c (12, .q) (.c (13, .s) .n)))))))))))))) hI (by kernel_rfl) (by kernel_rfl) ?_
       clear hI; intro w14 hI
       refine a_q rfl gn rfl (fun w' => (y_fieldAddr rfl et Tryz.underlying27 rfl size_25 rfl)) ?_
       refine a_read rfl gn rfl (fun w' hw' => (y_load1 (v := (vs a8 out1.Vals.length c17)) rfl et Tryz.underlying25 rfl ((CA.blk (hI.blk (.s (.s .z))) rfl).at_ (SX.any rfl hw')))) (by kernel_rfl) ?_
       refine a_q rfl gn rfl (fun w' => (y_fieldAddr rfl et Tryz.underlying27 rfl size_25 rfl)) ?_
       refine a_read rfl gn rfl (fun w' hw' => (y_load1 (v := (vs a2 t1.Vals.length c2)) rfl et Tryz.underlying25 rfl ((hI.kblk (l := [(vs a2 t1.Vals.length c2)]) (.s .z) rfl).at_ (SX.any rfl hw')))) (by kernel_rfl) ?_
       refine a_q rfl gn rfl (fun w' => (y_fieldAddr rfl et Tryz.underlying27 rfl size_24 rfl)) ?_
       refine a_read rfl gn rfl (fun w' hw' => (y_load1 (v := (vs a1 t1.Dims.length c1)) rfl et Tryz.underlying24 rfl ((hI.kblk (l := [(vs a1 t1.Dims.length c1)]) (.s .z) rfl).at_ (SX.any rfl hw')))) (by kernel_rfl) ?_
       refine a_q rfl gn rfl (fun w' => (y_move rfl et)) ?_
       obtain ⟨r3, hx6, h⟩ := bnd_some h
       refine la_call rfl gn rfl (r_callF (vs := [(vs a1 t1.Dims.length c1), (vs a12 q1.length c24)]) rfl ok_49 ⟨et, ⟨et, trivial⟩⟩) (Calls.mono (c_ref12_Offset noM w14 (fun _ k => k.elim) t1.Dims q1 a1 c1 a12 c24 ⟨(hI.get0 (.s (.s .z))), hI.lend .z, trivial⟩ r3 hx6) ?_)
       rintro _ w15 ⟨rfl, hx7, hl3⟩
       refine ⟨_, rfl, hx7, ?_⟩
       replace hI := (hI.ext hx7)
       obtain ⟨e1, hx8, h⟩ := bnd_some h
       obtain ⟨ad1, cs1, hA1, hr1, hq1⟩ := hI.clat (.s (.s (.s .z))) hx8
       obtain rfl : cs1 = [(vi e1.N), (vi e1.D)] := hr1
       refine a_q rfl gn rfl (fun w' => (y_indexAddr rfl Tryz.underlying25 size_36 et et (lat_bd hx8) hA1)) ?_
       refine a_read rfl gn rfl (fun w' hw' => (y_loadN (l := [(vi e1.N), (vi e1.D)]) rfl et Tryz.underlying36 rfl size_36 (hq1.at_ (SX.any rfl hw')))) (by kernel_rfl) ?_
       refine la_lit (c := cGVal) (xs := ([e1] : List GVal)) (vs := [(0, (Value.agg #[(vi e1.N), (vi e1.D)]))]) (cs := #[(vi e1.N), (vi e1.D)]) (css := [[(vi e1.N), (vi e1.D)]]) hI rfl gn rfl rfl Tryz.underlying25 info_36 rfl ⟨rfl, et, trivial⟩ (by kernel_rfl) ⟨rfl, trivial⟩ rfl rfl rfl ?_
       clear hI; intro b5 c26 w16 hI
       refine a_turn (F := F) (C := c26) rfl rfl ?_
       obtain ⟨zs2, hx9, h⟩ := bnd_some h
       refine la_append (xs := out1.Vals) (ys := ([e1] : List GVal)) hI (.s (.s (.s (.s .z)))) (hI.rd .z) hx9 rfl gn rfl rfl Tryz.underlying25 info_36 rfl rfl et et ?_
       clear hI; intro a13 c27 c28 w17 hI
       refine a_q rfl gn rfl (fun w' => (y_fieldAddr rfl et Tryz.underlying27 rfl size_25 rfl)) ?_
       refine la_store (new := [(vs a13 zs2.length c27)]) (cs' := #[(vi out1.Type_.Kind), (vi out1.Type_.Bits), (vi out1.Type_.Frac), (vi out1.Type_.Round), (vi out1.Type_.Over), (vs a7 out1.Dims.length c16), (vs a13 zs2.length c27)]) hI (.s (.s (.s .z))) rfl gn rfl rfl et et rfl size_25 rfl rfl rfl ?_
       clear hI; intro c29 w18 hI
       refine a_nil ?_
       exact k_join ((⟨out1.Type_, out1.Dims, zs2⟩ : GTensor), a7, c16, a13, c27) ⟨rfl, rfl, rfl, rfl, rfl, rfl, trivial⟩ ⟨_, hI.arr (.c (.s (.s (.s (.s .z)))) (.c (.s (.s .z)) (.c (.s (.s .z)) .n))) ⟨(.s (.s (.s (.s (.s .z))))), .z, (.s .z), (.s (.s .z)), (.s (.s (.s .z))), (.s (.s (.s (.s .z)))), trivial⟩, h⟩ rfl
      ·skip
       refine sr ?_
       refine sac ?_
       refine nk ?_
       refine c_block ?_
       refine c_loop (α := Nat × (List Int) × Int × (Option Addr) × Nat) (fun x => fun w => ∃ C, Bun noM F w0 C w [MO.row (cInt .i64) 3 (x.2.2.2.1) (x.2.2.2.2) (x.2.1), MO.box b2 27 #[(vi 0), (vi 0), (vi 0), (vi 0), (vi 0), (vs none 0 0), (vs none 0 0)], MO.box b3 27 #[(vi out1.Type_.Kind), (vi out1.Type_.Bits), (vi out1.Type_.Frac), (vi out1.Type_.Round), (vi out1.Type_.Over), (vs a7 out1.Dims.length c16), (vs a8 out1.Vals.length c17)], MO.row cGVal 36 a8 c17 out1.Vals] [Cl.sl (cInt .i64) a3 c3 order1, Cl.blk b1 27 #[(vi t1.Type_.Kind), (vi t1.Type_.Bits), (vi t1.Type_.Frac), (vi t1.Type_.Round), (vi t1.Type_.Over), (vs a1 t1.Dims.length c1), (vs a2 t1.Vals.length c2)], Cl.sl (cInt .i64) a1 c1 t1.Dims, Cl.sl cGVal a2 c2 t1.Vals, Cl.sl (cInt .i64) a6 c11 dims1, Cl.sl (cInt .i64) a7 c16 out1.Dims, Cl.sl (cInt .i64) a11 c22 r2] ∧ m_ref12_Permute_l2 order1 r2 t1 out1 (m_ref12_Permute_l1 t1 dims1 order1 fuel1) i1 (x.1) (x.2.1) (x.2.2.1) = some r) (fun x _ => x.1) (fun x => [(1, (vs a3 order1.length c3)), (2, (vp b1 0)), (4, (vp b2 0)), (7, (vs a6 dims1.length c11)), (10, (vp b3 0)), (11, (vi i1)), (12, (vs a11 r2.length c22)), (13, (vs (x.2.2.2.1) (x.2.1).length (x.2.2.2.2))), (14, (vi (x.2.2.1)))]) (fu, zs1, 0, some ⟨b4, 0, none⟩, ((order1.length : Int)).toNat) ⟨_, hI.arr (.c .z (.c (.s .z) (.c (.s .z) (.c .z .n)))) ⟨(.s (.s .z)), (.s (.s (.s .z))), (.s (.s (.s (.s .z)))), (.s (.s (.s (.s (.s .z))))), (.s (.s (.s (.s (.s (.s .z)))))), (.s .z), .z, trivial⟩, h⟩ ⟨rfl, rfl, rfl, rfl, rfl, rfl, rfl, rfl, rfl, trivial⟩ ?_
       clear h hI; rintro ⟨fuel2, q2, k1, a14, c30⟩ w19 ⟨c31, hI, h⟩
       dsimp only at hI h
       rcases fuel2 with _ | fuel2
       ·rw [m_ref12_Permute_l2] at h; cases h
       rw [m_ref12_Permute_l2] at h
       refine c_sub (e := [(1, (vs a3 order1.length c3)), (2, (vp b1 0)), (4, (vp b2 0)), (7, (vs a6 dims1.length c11)), (10, (vp b3 0)), (11, (vi i1)), (12, (vs a11 r2.length c22)), (13, (vs a14 q2.length c30)), (14, (vi k1))]) ⟨rfl, rfl, rfl, rfl, rfl, rfl, rfl, rfl, rfl, trivial⟩ ?_
       refine c_seq ?_
       refine sr ?_
       refine sm ?_
       refine sm ?_
       refine sq (y_lenl rfl Tryz.underlying24 et) ?_
       refine sq (y_lss rfl et et) ?_
       refine nk ?_
       refine c_cond (b := decide (k1 < (order1.length : Int))) et (fun hb => ?_) (fun hb => ?_)
       ·replace h := ite_t hb h
        refine c_skip ?_
        refine k_same ?_
        refine c_seq ?_
        refine c_block ?_
        refine c_drawX [10] false (.c (0, .q) (.c (1, .q) (.c (2, .q) (.c (3, .q) (.c (4, .q) (.c (5, .q) (.c (6, .q) (.c (7, .q) (.c (8, .q) (.c (9, .q) (.c (10, .s) .n))))))))))) hI (by kernel_rfl) (by kernel_rfl) ?_
        clear hI; intro w20 hI
        refine a_q rfl gn rfl (fun w' => (y_move rfl et)) ?_
        refine a_q rfl gn rfl (fun w' => (y_move rfl et)) ?_
        refine a_q rfl gn rfl (fun w' => (y_move rfl et)) ?_
        obtain ⟨e2, hx10, h⟩ := bnd_some h
        obtain ⟨ad2, cs2, hA2, hr2, hq2⟩ := hI.clat .z hx10
        obtain rfl : cs2 = [(vi e2)] := hr2
        refine a_q rfl gn rfl (fun w' => (y_indexAddr rfl Tryz.underlying24 size_3 et et (lat_bd hx10) hA2)) ?_
        refine a_read rfl gn rfl (fun w' hw' => (y_load1 (v := (vi e2)) rfl et Tryz.underlying3 rfl (hq2.at_ (SX.any rfl hw')))) (by kernel_rfl) ?_
        refine a_q rfl gn rfl (fun w' => (y_move rfl et)) ?_
        refine a_q rfl gn rfl (fun w' => (y_move rfl et)) ?_
        obtain ⟨e3, hx11, h⟩ := bnd_some h
        obtain ⟨ad3, cs3, hA3, hr3, hq3⟩ := hI.clat (.s (.s (.s (.s (.s (.s .z)))))) hx11
        obtain rfl : cs3 = [(vi e3)] := hr3
        refine a_q rfl gn rfl (fun w' => (y_indexAddr rfl Tryz.underlying24 size_3 et et (lat_bd hx11) hA3)) ?_
        refine a_read rfl gn rfl (fun w' hw' => (y_load1 (v := (vi e3)) rfl et Tryz.underlying3 rfl (hq3.at_ (SX.any rfl hw')))) (by kernel_rfl) ?_
        obtain ⟨ho1, h⟩ := chk_some h
        obtain ⟨ad4, hA4⟩ := hI.addr .z ho1
        refine a_q rfl gn rfl (fun w' => (y_indexAddr rfl Tryz.underlying24 size_3 et et ho1 hA4)) ?_
        refine a_turn (F := F) (C := c31) rfl rfl ?_
        refine la_storeRow (p := Int.toNat e2) (new := [(vi e3)]) (off := 0) (x' := e3) hI .z rfl gn rfl rfl (by have := ho1; omega) hA4 rfl et et rfl size_3 rfl (by show 0 + 1 ≤ 1; omega) (fun _ cs0 _ hr0 => by rw [spl_full (by have e := Cod.len _ hr0; exact e)]; exact rfl) ?_
        clear hI; intro c32 w21 hI
        refine a_nil ?_
        refine k_next (e := [(1, (vs a3 order1.length c3)), (2, (vp b1 0)), (4, (vp b2 0)), (7, (vs a6 dims1.length c11)), (10, (vp b3 0)), (11, (vi i1)), (12, (vs a11 r2.length c22)), (13, (vs a14 (q2.set (Int.toNat e2) e3).length c30)), (14, (vi k1))]) ⟨rfl, rfl, rfl, rfl, rfl, rfl, rfl, (lookset rfl), rfl, trivial⟩ ?_
        refine c_region rfl ?_
        refine sm ?_
        refine sq (y_add rfl et ev_const) ?_
        refine sa ?_
        refine s_nil ?_
        exact k_loop (fuel2, q2.set (Int.toNat e2) e3, wi64 (k1 + 1), a14, c30) ⟨rfl, rfl, rfl, rfl, rfl, rfl, rfl, rfl, rfl, trivial⟩ ⟨_, hI.arr (.c .z (.c .z (.c .z (.c .z .n)))) ⟨.z, (.s .z), (.s (.s .z)), (.s (.s (.s .z))), (.s (.s (.s (.s .z)))), (.s (.s (.s (.s (.s .z))))), (.s (.s (.s (.s (.s (.s .z)))))), trivial⟩, h⟩ (Nat.lt_succ_self _)
       ·replace h := ite_f hb h
        refine c_exit ?_
        refine k_in ?_
        exact k_join (q2, a14, c30) ⟨rfl, rfl, rfl, rfl, rfl, rfl, rfl, trivial⟩ ⟨_, hI.arr (.c .z (.c .z (.c .z (.c .z .n)))) ⟨.z, (.s .z), (.s (.s .z)), (.s (.s (.s .z))), (.s (.s (.s (.s .z)))), (.s (.s (.s (.s (.s .z))))), trivial⟩, h⟩ rfl
    ·replace h := ite_f hb h
     refine c_exit ?_
     refine k_in ?_
     refine k_same ?_
     refine sr ?_
     refine sq (y_loadN (l := [(vi out1.Type_.Kind), (vi out1.Type_.Bits), (vi out1.Type_.Frac), (vi out1.Type_.Round), (vi out1.Type_.Over), (vs a7 out1.Dims.length c16), (vs a8 out1.Vals.length c17)]) rfl et Tryz.underlying27 rfl size_27 (CellsAt.of_blk (hI.blk (.s (.s .z))) rfl)) ?_
     refine l_store (new := [(vi out1.Type_.Kind), (vi out1.Type_.Bits), (vi out1.Type_.Frac), (vi out1.Type_.Round), (vi out1.Type_.Over), (vs a7 out1.Dims.length c16), (vs a8 out1.Vals.length c17)]) (cs' := #[(vi out1.Type_.Kind), (vi out1.Type_.Bits), (vi out1.Type_.Frac), (vi out1.Type_.Round), (vi out1.Type_.Over), (vs a7 out1.Dims.length c16), (vs a8 out1.Vals.length c17)]) hI (.s .z) gn rfl rfl et et rfl size_27 rfl rfl rfl ?_
     clear hI; intro c33 w22 hI
     refine sac ?_
     refine nk ?_
     refine c_ret ?_
     obtain ⟨c34, hI⟩ := hI.release .z
     obtain rfl := some_inj h
     exact q_ret (vs := [(Value.agg #[(vi out1.Type_.Kind), (vi out1.Type_.Bits), (vi out1.Type_.Frac), (vi out1.Type_.Round), (vi out1.Type_.Over), (vs a7 out1.Dims.length c16), (vs a8 out1.Vals.length c17)]), (vi 0)]) Tryz.results31 ⟨⟨_, ev_tmp rfl rfl, load_agg (l := [(vi out1.Type_.Kind), (vi out1.Type_.Bits), (vi out1.Type_.Frac), (vi out1.Type_.Round), (vi out1.Type_.Over), (vs a7 out1.Dims.length c16), (vs a8 out1.Vals.length c17)]) Tryz.underlying27 rfl size_27 (CellsAt.of_blk (hI.blk .z) rfl)⟩, ⟨ev_tmp rfl rfl, trivial⟩⟩ ⟨a7, c16, a8, c17, rfl, hI.ext0, hI.fin ⟨(.s .z), .z, trivial⟩⟩
   ·skip
    refine sr ?_
    refine sac ?_
    refine nk ?_
    refine c_block ?_
    have hI := hI.nil (cInt .i64) 3 none
    refine c_loop (α := Nat × (List Int) × Int × (Option Addr) × Nat) (fun x => fun w => ∃ C, Bun noM F w0 C w [MO.row (cInt .i64) 3 (x.2.2.2.1) (x.2.2.2.2) (x.2.1), MO.box b2 27 #[(vi 0), (vi 0), (vi 0), (vi 0), (vi 0), (vs none 0 0), (vs none 0 0)]] [Cl.sl (cInt .i64) a3 c3 order1, Cl.blk b1 27 #[(vi t1.Type_.Kind), (vi t1.Type_.Bits), (vi t1.Type_.Frac), (vi t1.Type_.Round), (vi t1.Type_.Over), (vs a1 t1.Dims.length c1), (vs a2 t1.Vals.length c2)], Cl.sl (cInt .i64) a1 c1 t1.Dims, Cl.sl cGVal a2 c2 t1.Vals] ∧ m_ref12_Permute_l3 order1 t1 (x.1) (x.2.1) (x.2.2.1) = some r) (fun x _ => x.1) (fun x => [(1, (vs a3 order1.length c3)), (2, (vp b1 0)), (4, (vp b2 0)), (7, (vs (x.2.2.2.1) (x.2.1).length (x.2.2.2.2))), (8, (vi (x.2.2.1)))]) (fu, ([] : List Int), 0, none, 0) ⟨_, hI.arr (.c .z (.c .z .n)) ⟨(.s (.s (.s .z))), .z, (.s .z), (.s (.s .z)), trivial⟩, h⟩ ⟨rfl, rfl, rfl, rfl, rfl, trivial⟩ ?_
    clear h hI; rintro ⟨fuel3, dims2, i2, a15, c35⟩ w23 ⟨c36, hI, h⟩
    dsimp only at hI h
    rcases fuel3 with _ | fuel3
    ·rw [m_ref12_Permute_l3] at h; cases h
    rw [m_ref12_Permute_l3] at h
    refine c_sub (e := [(1, (vs a3 order1.length c3)), (2, (vp b1 0)), (4, (vp b2 0)), (7, (vs a15 dims2.length c35)), (8, (vi i2))]) ⟨rfl, rfl, rfl, rfl, rfl, trivial⟩ ?_
    refine c_seq ?_
    refine sr ?_
    refine sm ?_
    refine sm ?_
    refine sq (y_lenl rfl Tryz.underlying24 et) ?_
    refine sq (y_lss rfl et et) ?_
    refine nk ?_
    refine c_cond (b := decide (i2 < (order1.length : Int))) et (fun hb => ?_) (fun hb => ?_)
    ·replace h := ite_t hb h
     refine c_skip ?_
     refine k_same ?_
     refine c_join (α := (List Int) × (Option Addr) × Nat) (fun _ => ⟨122, []⟩) (fun x => [(1, (vs a3 order1.length c3)), (2, (vp b1 0)), (4, (vp b2 0)), (7, (vs (x.2.1) (x.1).length (x.2.2))), (8, (vi i2))]) (fun x => fun w => ∃ C, Bun noM F w0 C w [MO.row (cInt .i64) 3 (x.2.1) (x.2.2) (x.1), MO.box b2 27 #[(vi 0), (vi 0), (vi 0), (vi 0), (vi 0), (vs none 0 0), (vs none 0 0)]] [Cl.sl (cInt .i64) a3 c3 order1, Cl.blk b1 27 #[(vi t1.Type_.Kind), (vi t1.Type_.Bits), (vi t1.Type_.Frac), (vi t1.Type_.Round), (vi t1.Type_.Over), (vs a1 t1.Dims.length c1), (vs a2 t1.Vals.length c2)], Cl.sl (cInt .i64) a1 c1 t1.Dims, Cl.sl cGVal a2 c2 t1.Vals] ∧ m_ref12_Permute_j4 (m_ref12_Permute_l3 order1 t1 fuel3) i2 (x.1) = some r) ?_ ?_
     ·clear h hI; rintro ⟨dims3, a16, c37⟩ w24 ⟨c38, hI, h⟩
      try dsimp only at hI h
      rw [m_ref12_Permute_j4] at h
      refine c_sub (e := [(1, (vs a3 order1.length c3)), (2, (vp b1 0)), (4, (vp b2 0)), (7, (vs a16 dims3.length c37)), (8, (vi i2))]) ⟨rfl, rfl, rfl, rfl, rfl, trivial⟩ ?_
      refine c_region rfl ?_
      refine sm ?_
      refine sq (y_add rfl et ev_const) ?_
      refine sa ?_
      refine s_nil ?_
      exact k_loop (fuel3, dims3, wi64 (i2 + 1), a16, c37) ⟨rfl, rfl, rfl, rfl, rfl, trivial⟩ ⟨_, hI.arr (.c .z (.c .z .n)) ⟨.z, (.s .z), (.s (.s .z)), (.s (.s (.s .z))), trivial⟩, h⟩ (Nat.lt_succ_self _)
     ·skip
      refine c_block ?_
      refine c_seq ?_
      refine sr ?_
      refine sm ?_
      refine sm ?_
      obtain ⟨e4, hx12, h⟩ := bnd_some h
      obtain ⟨ad5, cs4, hA5, hr4, hq4⟩ := hI.clat .z hx12
      obtain rfl : cs4 = [(vi e4)] := hr4
      refine sq (y_indexAddr rfl Tryz.underlying24 size_3 et et (lat_bd hx12) hA5) ?_
      refine sq (y_load1 (v := (vi e4)) rfl et Tryz.underlying3 rfl hq4.1) ?_
      refine sq (y_lss rfl et ev_const) ?_
      refine sm ?_
      refine s_gval (g_false rfl rfl rfl rfl) rfl (fun hc => (y_move rfl et)) ?_
      refine s_gval (g_false rfl rfl rfl rfl) rfl (fun hc => (y_move rfl et)) ?_
      obtain ⟨e5, hx13, h⟩ := bnd_some h
      replace hx13 := gd_some hx13
      obtain ⟨ad6, cs5, hq5⟩ := hI.gclat .z hx13
      have hq6 : (!(decide (e4 < 0))) = true → CA (Dj F c36) w23 (ad6.add (Int.toNat i2 * 1)) [(vi e5)] := fun hc => by have k := hq5 hc; have e : cs5 = _ := k.2.1; rw [← e]; exact k.2.2
      refine s_gval (g_false rfl rfl rfl rfl) rfl (fun hc => (y_indexAddr rfl Tryz.underlying24 size_3 (ev_gv et hc) (ev_gv et hc) (lat_bd (hx13 hc)) (hq5 hc).1)) ?_
      refine s_gval (g_false rfl rfl rfl rfl) rfl (fun hc => (y_load1 (v := (vi e5)) rfl (ev_gv et hc) Tryz.underlying3 rfl (hq6 hc).1)) ?_
      refine s_gval (g_false rfl rfl rfl rfl) rfl (fun hc => (y_move rfl et)) ?_
      refine s_gval (g_false rfl rfl rfl rfl) rfl (fun hc => (y_lenl rfl Tryz.underlying24 (ev_gv et hc))) ?_
      refine s_gval (g_false rfl rfl rfl rfl) rfl (fun hc => (y_geq rfl (ev_gv et hc) (ev_gv et hc))) ?_
      refine sq (y_or rfl et et) ?_
      refine nk ?_
      refine c_cond (b := (decide (e4 < 0)) || (decide ((order1.length : Int) ≤ e5))) et (fun hb => ?_) (fun hb => ?_)
      ·replace h := ite_t hb h
       refine sr ?_
       refine sq (y_build (vs := []) (cs := #[(vi 0), (vi 0), (vi 0), (vi 0), (vi 0), (vs none 0 0), (vs none 0 0)]) rfl trivial (by kernel_rfl)) ?_
       refine l_store (new := [(vi 0), (vi 0), (vi 0), (vi 0), (vi 0), (vs none 0 0), (vs none 0 0)]) (cs' := #[(vi 0), (vi 0), (vi 0), (vi 0), (vi 0), (vs none 0 0), (vs none 0 0)]) hI (.s .z) gn rfl rfl et et rfl size_27 rfl rfl rfl ?_
       clear hI; intro c39 w25 hI
       refine sac ?_
       refine nk ?_
       refine c_ret ?_
       have hI := hI.add (c := Cl.sl (cInt .i64) none 0 ([] : List Int)) SlC.nil
       have hI := hI.add (c := Cl.sl cGVal none 0 ([] : List GVal)) SlC.nil
       obtain rfl := some_inj h
       exact q_ret (vs := [(Value.agg #[(vi 0), (vi 0), (vi 0), (vi 0), (vi 0), (vs none 0 0), (vs none 0 0)]), (vi 1)]) Tryz.results31 ⟨⟨_, ev_tmp rfl rfl, load_agg (l := [(vi 0), (vi 0), (vi 0), (vi 0), (vi 0), (vs none 0 0), (vs none 0 0)]) Tryz.underlying27 rfl size_27 (CellsAt.of_blk (hI.blk (.s .z)) rfl)⟩, ⟨ev_tmp rfl rfl, trivial⟩⟩ ⟨none, 0, none, 0, rfl, hI.ext0, hI.fin ⟨(.s .z), .z, trivial⟩⟩
      ·replace h := ite_f hb h
       refine c_skip ?_
       refine k_same ?_
       refine c_join (α := Unit) (fun _ => ⟨122, []⟩) (fun _ => [(1, (vs a3 order1.length c3)), (2, (vp b1 0)), (4, (vp b2 0)), (7, (vs a15 dims2.length c35)), (8, (vi i2))]) (fun _ => fun w => ∃ C, Bun noM F w0 C w [MO.box b2 27 #[(vi 0), (vi 0), (vi 0), (vi 0), (vi 0), (vs none 0 0), (vs none 0 0)], MO.row (cInt .i64) 3 a15 c35 dims2] [Cl.sl (cInt .i64) a3 c3 order1, Cl.blk b1 27 #[(vi t1.Type_.Kind), (vi t1.Type_.Bits), (vi t1.Type_.Frac), (vi t1.Type_.Round), (vi t1.Type_.Over), (vs a1 t1.Dims.length c1), (vs a2 t1.Vals.length c2)], Cl.sl (cInt .i64) a1 c1 t1.Dims, Cl.sl cGVal a2 c2 t1.Vals] ∧ m_ref12_Permute_j5 order1 i2 t1 dims2 (m_ref12_Permute_l3 order1 t1 fuel3) = some r) ?_ ?_
       ·clear h hI; rintro _ w26 ⟨c40, hI, h⟩
        try dsimp only at hI h
        rw [m_ref12_Permute_j5] at h
        refine c_sub (e := [(1, (vs a3 order1.length c3)), (2, (vp b1 0)), (4, (vp b2 0)), (7, (vs a15 dims2.length c35)), (8, (vi i2))]) ⟨rfl, rfl, rfl, rfl, rfl, trivial⟩ ?_
        refine c_drawX [10] false (.c (0, .q) (.c (1, .q) (.c (2, .q) (.c (3, .q) (.c (4, .q) (.c (5, .q) (.c (6, .q) (.c (7, .q) (.c (8, .q) (.c (9, .s) (.c (10, .s) (.c (11, .q) .n)))))))))))) hI (by kernel_rfl) (by kernel_rfl) ?_
        clear hI; intro w27 hI
        refine a_q rfl gn rfl (fun w' => (y_move rfl et)) ?_
        refine a_q rfl gn rfl (fun w' => (y_fieldAddr rfl et Tryz.underlying27 rfl size_24 rfl)) ?_
        refine a_read rfl gn rfl (fun w' hw' => (y_load1 (v := (vs a1 t1.Dims.length c1)) rfl et Tryz.underlying24 rfl ((hI.kblk (l := [(vs a1 t1.Dims.length c1)]) (.s .z) rfl).at_ (SX.any rfl hw')))) (by kernel_rfl) ?_
        refine a_q rfl gn rfl (fun w' => (y_move rfl et)) ?_
        refine a_q rfl gn rfl (fun w' => (y_move rfl et)) ?_
        obtain ⟨e6, hx14, h⟩ := bnd_some h
        obtain ⟨ad7, cs6, hA7, hr6, hq7⟩ := hI.clat .z hx14
        obtain rfl : cs6 = [(vi e6)] := hr6
        refine a_q rfl gn rfl (fun w' => (y_indexAddr rfl Tryz.underlying24 size_3 et et (lat_bd hx14) hA7)) ?_
        refine a_read rfl gn rfl (fun w' hw' => (y_load1 (v := (vi e6)) rfl et Tryz.underlying3 rfl (hq7.at_ (SX.any rfl hw')))) (by kernel_rfl) ?_
        obtain ⟨e7, hx15, h⟩ := bnd_some h
        obtain ⟨ad8, cs7, hA8, hr7, hq8⟩ := hI.clat (.s (.s .z)) hx15
        obtain rfl : cs7 = [(vi e7)] := hr7
        refine a_q rfl gn rfl (fun w' => (y_indexAddr rfl Tryz.underlying24 size_3 et et (lat_bd hx15) hA8)) ?_
        refine a_read rfl gn rfl (fun w' hw' => (y_load1 (v := (vi e7)) rfl et Tryz.underlying3 rfl (hq8.at_ (SX.any rfl hw')))) (by kernel_rfl) ?_
        refine la_lit (c := (cInt .i64)) (xs := ([e7] : List Int)) (vs := [(0, (vi e7))]) (cs := #[(vi e7)]) (css := [[(vi e7)]]) hI rfl gn rfl rfl Tryz.underlying24 info_3 rfl ⟨rfl, et, trivial⟩ (by kernel_rfl) ⟨rfl, trivial⟩ rfl rfl rfl ?_
        clear hI; intro b6 c41 w28 hI
        refine a_turn (F := F) (C := c41) rfl rfl ?_
        obtain ⟨zs3, hx16, h⟩ := bnd_some h
        refine la_append (xs := dims2) (ys := ([e7] : List Int)) hI (.s (.s .z)) (hI.rd .z) hx16 rfl gn rfl rfl Tryz.underlying24 info_3 rfl rfl et et ?_
        clear hI; intro a17 c42 c43 w29 hI
        refine a_q rfl gn rfl (fun w' => (y_assign rfl et)) ?_
        refine a_nil ?_
        exact k_join (zs3, a17, c42) ⟨rfl, rfl, rfl, rfl, rfl, trivial⟩ ⟨_, hI.arr (.c (.s (.s .z)) (.c (.s .z) .n)) ⟨.z, (.s .z), (.s (.s .z)), (.s (.s (.s .z))), trivial⟩, h⟩ rfl
       ·skip
        refine sr ?_
        refine sac ?_
        refine nk ?_
        refine c_block ?_
        refine c_loop (α := Nat × Int) (fun x => fun w => ∃ C, Bun noM F w0 C w [MO.box b2 27 #[(vi 0), (vi 0), (vi 0), (vi 0), (vi 0), (vs none 0 0), (vs none 0 0)], MO.row (cInt .i64) 3 a15 c35 dims2] [Cl.sl (cInt .i64) a3 c3 order1, Cl.blk b1 27 #[(vi t1.Type_.Kind), (vi t1.Type_.Bits), (vi t1.Type_.Frac), (vi t1.Type_.Round), (vi t1.Type_.Over), (vs a1 t1.Dims.length c1), (vs a2 t1.Vals.length c2)], Cl.sl (cInt .i64) a1 c1 t1.Dims, Cl.sl cGVal a2 c2 t1.Vals] ∧ m_ref12_Permute_l4 i2 order1 t1 dims2 (m_ref12_Permute_l3 order1 t1 fuel3) (x.1) (x.2) = some r) (fun x _ => x.1) (fun x => [(1, (vs a3 order1.length c3)), (2, (vp b1 0)), (4, (vp b2 0)), (7, (vs a15 dims2.length c35)), (8, (vi i2)), (9, (vi (x.2)))]) (fu, 0) ⟨_, hI.arr (.c (.s .z) (.c .z .n)) ⟨.z, (.s .z), (.s (.s .z)), (.s (.s (.s .z))), trivial⟩, h⟩ ⟨rfl, rfl, rfl, rfl, rfl, rfl, trivial⟩ ?_
        clear h hI; rintro ⟨fuel4, k2⟩ w30 ⟨c44, hI, h⟩
        dsimp only at hI h
        rcases fuel4 with _ | fuel4
        ·rw [m_ref12_Permute_l4] at h; cases h
        rw [m_ref12_Permute_l4] at h
        refine c_sub (e := [(1, (vs a3 order1.length c3)), (2, (vp b1 0)), (4, (vp b2 0)), (7, (vs a15 dims2.length c35)), (8, (vi i2)), (9, (vi k2))]) ⟨rfl, rfl, rfl, rfl, rfl, rfl, trivial⟩ ?_
        refine c_seq ?_
        refine sr ?_
        refine sm ?_
        refine sm ?_
        refine sq (y_lss rfl et et) ?_
        refine nk ?_
        refine c_cond (b := decide (k2 < i2)) et (fun hb => ?_) (fun hb => ?_)
        ·replace h := ite_t hb h
         refine c_skip ?_
         refine k_same ?_
         refine c_seq ?_
         refine c_block ?_
         refine c_seq ?_
         refine c_drawX [] false (.c (0, .q) (.c (1, .q) (.c (2, .q) (.c (3, .q) (.c (4, .q) (.c (5, .q) (.c (6, .q) (.c (7, .q) (.c (8, .q) .n))))))))) hI (by kernel_rfl) (by kernel_rfl) ?_
         clear hI; intro w31 hI
         refine a_q rfl gn rfl (fun w' => (y_move rfl et)) ?_
         refine a_q rfl gn rfl (fun w' => (y_move rfl et)) ?_
         obtain ⟨e8, hx17, h⟩ := bnd_some h
         obtain ⟨ad9, cs8, hA9, hr8, hq9⟩ := hI.clat .z hx17
         obtain rfl : cs8 = [(vi e8)] := hr8
         refine a_q rfl gn rfl (fun w' => (y_indexAddr rfl Tryz.underlying24 size_3 et et (lat_bd hx17) hA9)) ?_
         refine a_read rfl gn rfl (fun w' hw' => (y_load1 (v := (vi e8)) rfl et Tryz.underlying3 rfl (hq9.at_ (SX.any rfl hw')))) (by kernel_rfl) ?_
         refine a_q rfl gn rfl (fun w' => (y_move rfl et)) ?_
         refine a_q rfl gn rfl (fun w' => (y_move rfl et)) ?_
         obtain ⟨e9, hx18, h⟩ := bnd_some h
         obtain ⟨ad10, cs9, hA10, hr9, hq10⟩ := hI.clat .z hx18
         obtain rfl : cs9 = [(vi e9)] := hr9
         refine a_q rfl gn rfl (fun w' => (y_indexAddr rfl Tryz.underlying24 size_3 et et (lat_bd hx18) hA10)) ?_
         refine a_read rfl gn rfl (fun w' hw' => (y_load1 (v := (vi e9)) rfl et Tryz.underlying3 rfl (hq10.at_ (SX.any rfl hw')))) (by kernel_rfl) ?_
         refine a_q rfl gn rfl (fun w' => (y_eql rfl et et)) ?_
         refine a_nil ?_
         refine k_same ?_
         refine c_cond (b := decide (e8 = e9)) et (fun hb => ?_) (fun hb => ?_)
         ·replace h := ite_t hb h
          refine sr ?_
          refine sq (y_build (vs := []) (cs := #[(vi 0), (vi 0), (vi 0), (vi 0), (vi 0), (vs none 0 0), (vs none 0 0)]) rfl trivial (by kernel_rfl)) ?_
          refine l_store (new := [(vi 0), (vi 0), (vi 0), (vi 0), (vi 0), (vs none 0 0), (vs none 0 0)]) (cs' := #[(vi 0), (vi 0), (vi 0), (vi 0), (vi 0), (vs none 0 0), (vs none 0 0)]) hI .z gn rfl rfl et et rfl size_27 rfl rfl rfl ?_
          clear hI; intro c45 w32 hI
          refine sac ?_
          refine nk ?_
          refine c_ret ?_
          have hI := hI.add (c := Cl.sl (cInt .i64) none 0 ([] : List Int)) SlC.nil
          have hI := hI.add (c := Cl.sl cGVal none 0 ([] : List GVal)) SlC.nil
          obtain rfl := some_inj h
          exact q_ret (vs := [(Value.agg #[(vi 0), (vi 0), (vi 0), (vi 0), (vi 0), (vs none 0 0), (vs none 0 0)]), (vi 1)]) Tryz.results31 ⟨⟨_, ev_tmp rfl rfl, load_agg (l := [(vi 0), (vi 0), (vi 0), (vi 0), (vi 0), (vs none 0 0), (vs none 0 0)]) Tryz.underlying27 rfl size_27 (CellsAt.of_blk (hI.blk .z) rfl)⟩, ⟨ev_tmp rfl rfl, trivial⟩⟩ ⟨none, 0, none, 0, rfl, hI.ext0, hI.fin ⟨(.s .z), .z, trivial⟩⟩
         ·replace h := ite_f hb h
          refine c_skip ?_
          refine k_same ?_
          refine c_region rfl ?_
          refine sm ?_
          refine sq (y_add rfl et ev_const) ?_
          refine sa ?_
          refine s_nil ?_
          exact k_loop (fuel4, wi64 (k2 + 1)) ⟨rfl, rfl, rfl, rfl, rfl, rfl, trivial⟩ ⟨_, hI.arr (.c .z (.c .z .n)) ⟨.z, (.s .z), (.s (.s .z)), (.s (.s (.s .z))), trivial⟩, h⟩ (Nat.lt_succ_self _)
        ·replace h := ite_f hb h
         refine c_exit ?_
         refine k_in ?_
         exact k_join () ⟨rfl, rfl, rfl, rfl, rfl, trivial⟩ ⟨_, hI.arr (.c .z (.c .z .n)) ⟨.z, (.s .z), (.s (.s .z)), (.s (.s (.s .z))), trivial⟩, h⟩ rfl
    ·replace h := ite_f hb h
     refine c_exit ?_
     refine k_in ?_
     exact k_join (dims2, a15, c35) ⟨rfl, rfl, rfl, rfl, trivial⟩ ⟨_, hI.arr (.c .z (.c .z .n)) ⟨.z, (.s .z), (.s (.s .z)), (.s (.s (.s .z))), trivial⟩, h⟩ rfl

set_option maxRecDepth 100000 in
set_option maxHeartbeats 4000000 in
theorem c_shape_Slice (F : NP) (w0 : World) (hF : ∀ k, F k → k < w0.heap.size) (d1 : List Int) (axis1 : Int) (from1 : Int) (to1 : Int) (a1 : Option Addr) (c1 : Nat) (hc : AllCl [Cl.sl (cInt .i64) a1 c1 d1] F w0) (r : List Int × Int)
  (h : m_shape_Slice d1 axis1 from1 to1 = some r) :
  Calls Tryz.prog 68 #[(vs a1 d1.length c1), (vi axis1), (vi from1), (vi to1)] w0 fun e w => ∃ (a2 : Option Addr) (c2 : Nat), e = .returned (Value.tuple #[(vs a2 r.1.length c2), (vi r.2)]) ∧ Ext w0 w ∧ AllCl [Cl.sl (cInt .i64) a2 c2 r.1] F w := by
 refine enterK (l := [(vs a1 d1.length c1), (vi axis1), (vi from1), (vi to1)]) Tryz.func68 rfl Tryz.ntmps68 rfl ?_
 have hI := Bun.start hF hc
 clear hc
 rw [m_shape_Slice] at h
 refine sr ?_
 refine sac ?_
 refine sac ?_
 refine nk ?_
 refine c_seq ?_
 refine sr ?_
 refine sm ?_
 obtain ⟨r1, hx1, h⟩ := bnd_some h
 refine s_call gn rfl (r_callF (vs := [(vs a1 d1.length c1)]) rfl ok_58 ⟨et, trivial⟩) (Calls.mono (c_shape_Validate (Dj F noM) w0 hI.lt d1 a1 c1 ⟨(hI.get .z), trivial⟩ r1 hx1) ?_)
 rintro _ w1 ⟨rfl, hx2, hl1⟩
 refine ⟨_, rfl, ?_⟩
 replace hI := (hI.ext hx2)
 refine sa ?_
 refine nk ?_
 refine sr ?_
 refine sm ?_
 refine sq (y_neq rfl et ev_const) ?_
 refine nk ?_
 refine c_cond (b := !decide (r1 = 0)) et (fun hb => ?_) (fun hb => ?_)
 ·replace h := ite_t hb h
  refine sr ?_
  refine sm ?_
  refine sac ?_
  refine sa ?_
  refine nk ?_
  refine c_ret ?_
  have hI := hI.add (c := Cl.sl (cInt .i64) none 0 ([] : List Int)) SlC.nil
  obtain rfl := some_inj h
  exact q_ret (vs := [(vs none 0 0), (vi r1)]) Tryz.results68 ⟨ev_tmp rfl rfl, ⟨ev_tmp rfl rfl, trivial⟩⟩ ⟨none, 0, rfl, hI.ext0, hI.fin ⟨.z, trivial⟩⟩
 ·replace h := ite_f hb h
  refine c_skip ?_
  refine k_same ?_
  refine c_seq ?_
  refine sr ?_
  refine sm ?_
  refine sq (y_lss rfl et ev_const) ?_
  refine sm ?_
  refine s_gval (g_false rfl rfl rfl rfl) rfl (fun hc => (y_move rfl et)) ?_
  refine s_gval (g_false rfl rfl rfl rfl) rfl (fun hc => (y_move rfl et)) ?_
  refine s_gval (g_false rfl rfl rfl rfl) rfl (fun hc => (y_lenl rfl Tryz.underlying24 (ev_gv et hc))) ?_
  refine s_gval (g_false rfl rfl rfl rfl) rfl (fun hc => (y_geq rfl (ev_gv et hc) (ev_gv et hc))) ?_
  refine sq (y_or rfl et et) ?_
  refine nk ?_
  refine c_cond (b := (decide (axis1 < 0)) || (decide ((d1.length : Int) ≤ axis1))) et (fun hb => ?_) (fun hb => ?_)
  ·replace h := ite_t hb h
   refine sr ?_
   refine sac ?_
   refine sac ?_
   refine nk ?_
   refine c_ret ?_
   have hI := hI.add (c := Cl.sl (cInt .i64) none 0 ([] : List Int)) SlC.nil
   obtain rfl := some_inj h
   exact q_ret (vs := [(vs none 0 0), (vi 11)]) Tryz.results68 ⟨ev_tmp rfl rfl, ⟨ev_tmp rfl rfl, trivial⟩⟩ ⟨none, 0, rfl, hI.ext0, hI.fin ⟨.z, trivial⟩⟩
  ·replace h := ite_f hb h
   refine c_skip ?_
   refine k_same ?_
   refine c_seq ?_
   refine sr ?_
   refine sm ?_
   refine sq (y_lss rfl et ev_const) ?_
   refine sm ?_
   refine s_gval (g_false rfl rfl rfl rfl) rfl (fun hc => (y_move rfl et)) ?_
   refine s_gval (g_false rfl rfl rfl rfl) rfl (fun hc => (y_move rfl et)) ?_
   refine s_gval (g_false rfl rfl rfl rfl) rfl (fun hc => (y_geq rfl (ev_gv et hc) (ev_gv et hc))) ?_
   refine sq (y_or rfl et et) ?_
   refine sm ?_
   refine s_gval (g_false rfl rfl rfl rfl) rfl (fun hc => (y_move rfl et)) ?_
   refine s_gval (g_false rfl rfl rfl rfl) rfl (fun hc => (y_move rfl et)) ?_
   refine s_gval (g_false rfl rfl rfl rfl) rfl (fun hc => (y_move rfl et)) ?_
   obtain ⟨e1, hx3, h⟩ := bnd_some h
   replace hx3 := gd_some hx3
   obtain ⟨ad1, cs1, hq1⟩ := hI.gclat .z hx3
   have hq2 : (!((decide (from1 < 0)) || (decide (to1 ≤ from1)))) = true → CA (Dj F noM) w1 (ad1.add (Int.toNat axis1 * 1)) [(vi e1)] := fun hc => by have k := hq1 hc; have e : cs1 = _ := k.2.1; rw [← e]; exact k.2.2
   refine s_gval (g_false rfl rfl rfl rfl) rfl (fun hc => (y_indexAddr rfl Tryz.underlying24 size_3 (ev_gv et hc) (ev_gv et hc) (lat_bd (hx3 hc)) (hq1 hc).1)) ?_
   refine s_gval (g_false rfl rfl rfl rfl) rfl (fun hc => (y_load1 (v := (vi e1)) rfl (ev_gv et hc) Tryz.underlying3 rfl (hq2 hc).1)) ?_
   refine s_gval (g_false rfl rfl rfl rfl) rfl (fun hc => (y_gtr rfl (ev_gv et hc) (ev_gv et hc))) ?_
   refine sq (y_or rfl et et) ?_
   refine s_nil ?_
   refine k_next (e := [(0, (vs a1 d1.length c1)), (1, (vi axis1)), (2, (vi from1)), (3, (vi to1)), (39, (vb (((decide (from1 < 0)) || (decide (to1 ≤ from1))) || (decide (e1 < to1)))))]) ⟨rfl, rfl, rfl, rfl, rfl, trivial⟩ ?_
   refine c_cond (b := ((decide (from1 < 0)) || (decide (to1 ≤ from1))) || (decide (e1 < to1))) et (fun hb => ?_) (fun hb => ?_)
   ·replace h := ite_t hb h
    refine sr ?_
    refine sac ?_
    refine sac ?_
    refine nk ?_
    refine c_ret ?_
    have hI := hI.add (c := Cl.sl (cInt .i64) none 0 ([] : List Int)) SlC.nil
    obtain rfl := some_inj h
    exact q_ret (vs := [(vs none 0 0), (vi 12)]) Tryz.results68 ⟨ev_tmp rfl rfl, ⟨ev_tmp rfl rfl, trivial⟩⟩ ⟨none, 0, rfl, hI.ext0, hI.fin ⟨.z, trivial⟩⟩
   ·replace h := ite_f hb h
    refine c_skip ?_
    refine k_same ?_
    refine sr ?_
    refine sm ?_
    obtain ⟨c3, f1, hB, hl2, hk1⟩ := hI.hands .n
    obtain ⟨r2, hx4, h⟩ := bnd_some h
    try dsimp only at h
    refine s_call gn rfl (r_callF (vs := [(vs a1 d1.length c1)]) rfl ok_99 ⟨et, trivial⟩) (Calls.mono (c_slices_Clone_int_int_o c3 f1 w1 d1 a1 c1 (hB.subs ⟨.z, trivial⟩) _ hx4) ?_)
    rintro _ w2 ⟨a3, c4, c5, rfl, hB2⟩
    obtain ⟨c6, hs1, hI⟩ := hk1 _ _ _ _ hB2
    replace hI : Bun noM F w0 c6 w2 [MO.row (cInt .i64) 3 a3 c4 r2] [Cl.sl (cInt .i64) a1 c1 d1] := hI
    refine ⟨_, rfl, ?_⟩
    refine sa ?_
    refine nk ?_
    refine sr ?_
    refine sm ?_
    refine sm ?_
    refine sm ?_
    refine sm ?_
    refine sq (y_sub rfl et et) ?_
    obtain ⟨ho1, h⟩ := chk_some h
    obtain ⟨ad2, hA2⟩ := hI.addr .z ho1
    refine sq (y_indexAddr rfl Tryz.underlying24 size_3 et et ho1 hA2) ?_
    refine l_storeRow (p := Int.toNat axis1) (new := [(vi (wi64 (to1 - from1)))]) (off := 0) (x' := wi64 (to1 - from1)) hI .z gn rfl rfl (by have := ho1; omega) hA2 rfl et et rfl size_3 rfl (by show 0 + 1 ≤ 1; omega) (fun _ cs0 _ hr0 => by rw [spl_full (by have e := Cod.len _ hr0; exact e)]; exact rfl) ?_
    clear hI; intro c7 w3 hI
    refine s_nil ?_
    refine k_next (e := [(11, (vs a3 (r2.set (Int.toNat axis1) (wi64 (to1 - from1))).length c4))]) ⟨(lookset rfl), trivial⟩ ?_
    refine sr ?_
    refine sm ?_
    refine sa ?_
    refine sac ?_
    refine nk ?_
    refine c_ret ?_
    obtain ⟨c8, hI⟩ := hI.release .z
    obtain rfl := some_inj h
    exact q_ret (vs := [(vs a3 (r2.set (Int.toNat axis1) (wi64 (to1 - from1))).length c4), (vi 0)]) Tryz.results68 ⟨ev_tmp rfl rfl, ⟨ev_tmp rfl rfl, trivial⟩⟩ ⟨a3, c4, rfl, hI.ext0, hI.fin ⟨.z, trivial⟩⟩

set_option maxRecDepth 100000 in
set_option maxHeartbeats 4000000 in
theorem c_tensor_Slice_1 (F : NP) (w0 : World) (hF : ∀ k, F k → k < w0.heap.size) (p1 : List Int) (a2 : Int) (a3 : Int) (a1 : Option Addr) (c1 : Nat) (b1 : Nat) (b2 : Nat) (hc : AllCl [Cl.sl (cInt .i64) a1 c1 p1, Cl.blk b1 3 #[(vi a2)], Cl.blk b2 3 #[(vi a3)]] F w0) (r : List Int)
  (h : m_tensor_Slice_1 p1 a2 a3 = some r) :
  Calls Tryz.prog 69 #[(vs a1 p1.length c1), (vp b1 0), (vp b2 0)] w0 fun e w => ∃ (a4 : Option Addr) (c2 : Nat), e = .returned (vs a4 r.length c2) ∧ Ext w0 w ∧ AllCl [Cl.sl (cInt .i64) a4 c2 r] F w := by
 refine enterK (l := [(vs a1 p1.length c1), (vp b1 0), (vp b2 0)]) Tryz.func69 rfl Tryz.ntmps69 rfl ?_
 have hI := Bun.start hF hc
 clear hc
 rw [m_tensor_Slice_1] at h
 refine sr ?_
 refine sac ?_
 refine nk ?_
 refine sr ?_
 refine sm ?_
 obtain ⟨zs1, hx1, h⟩ := bnd_some h
 replace hI := hI.nil (cInt .i64) 3 none
 refine l_append (xs := ([] : List Int)) (ys := p1) hI .z (hI.crd .z) hx1 gn rfl rfl Tryz.underlying24 info_3 rfl rfl ev_const et ?_
 clear hI; intro a5 c3 c4 w1 hI
 refine sa ?_
 refine nk ?_
 refine c_seq ?_
 refine c_drawX [7] false (.c (0, .q) (.c (1, .q) (.c (2, .q) (.c (3, .q) (.c (4, .q) (.c (5, .q) (.c (6, .q) (.c (7, .s) .n)))))))) hI (by kernel_rfl) (by kernel_rfl) ?_
 clear hI; intro w2 hI
 refine a_q rfl gn rfl (fun w' => (y_move rfl et)) ?_
 refine a_read rfl gn rfl (fun w' hw' => (y_load1 (v := (vi a2)) rfl et Tryz.underlying3 rfl ((hI.kblk (l := [(vi a2)]) (.s .z) rfl).at_ (SX.any rfl hw')))) (by kernel_rfl) ?_
 obtain ⟨e1, hx2, h⟩ := bnd_some h
 obtain ⟨ad1, cs1, hA1, hr1, hq1⟩ := hI.olat .z hx2
 obtain rfl : cs1 = [(vi e1)] := hr1
 refine a_q rfl gn rfl (fun w' => (y_indexAddr rfl Tryz.underlying24 size_3 et et (lat_bd hx2) hA1)) ?_
 refine a_read rfl gn rfl (fun w' hw' => (y_load1 (v := (vi e1)) rfl et Tryz.underlying3 rfl (hq1.at_ (SX.any rfl hw')))) (by kernel_rfl) ?_
 refine a_read rfl gn rfl (fun w' hw' => (y_load1 (v := (vi a3)) rfl et Tryz.underlying3 rfl ((hI.kblk (l := [(vi a3)]) (.s (.s .z)) rfl).at_ (SX.any rfl hw')))) (by kernel_rfl) ?_
 refine a_q rfl gn rfl (fun w' => (y_add rfl et et)) ?_
 obtain ⟨ho1, h⟩ := chk_some h
 obtain ⟨ad2, hA2⟩ := hI.addr .z ho1
 refine a_q rfl gn rfl (fun w' => (y_indexAddr rfl Tryz.underlying24 size_3 et et ho1 hA2)) ?_
 refine a_turn (F := F) (C := c4) rfl rfl ?_
 refine la_storeRow (p := Int.toNat a2) (new := [(vi (wi64 (e1 + a3)))]) (off := 0) (x' := wi64 (e1 + a3)) hI .z rfl gn rfl rfl (by have := ho1; omega) hA2 rfl et et rfl size_3 rfl (by show 0 + 1 ≤ 1; omega) (fun _ cs0 _ hr0 => by rw [spl_full (by have e := Cod.len _ hr0; exact e)]; exact rfl) ?_
 clear hI; intro c5 w3 hI
 refine a_nil ?_
 refine k_next (e := [(5, (vs a5 (zs1.set (Int.toNat a2) (wi64 (e1 + a3))).length c3))]) ⟨(lookset rfl), trivial⟩ ?_
 refine sr ?_
 refine sm ?_
 refine sa ?_
 refine nk ?_
 refine c_ret ?_
 obtain ⟨c6, hI⟩ := hI.release .z
 obtain rfl := some_inj h
 exact q_ret (vs := [(vs a5 (zs1.set (Int.toNat a2) (wi64 (e1 + a3))).length c3)]) Tryz.results69 ⟨ev_tmp rfl rfl, trivial⟩ ⟨a5, c3, rfl, hI.ext0, hI.fin ⟨.z, trivial⟩⟩

set_option maxRecDepth 100000 in
set_option maxHeartbeats 4000000 in
theorem c_tensor_Slice (F : NP) (w0 : World) (hF : ∀ k, F k → k < w0.heap.size) (t1 : GTensor) (axis1 : Int) (from1 : Int) (to1 : Int) (a1 : Option Addr) (c1 : Nat) (a2 : Option Addr) (c2 : Nat) (hc : AllCl [Cl.sl (cInt .i64) a1 c1 t1.Dims, Cl.sl cGVal a2 c2 t1.Vals] F w0) (r : GTensor × Int)
  (h : m_tensor_Slice t1 axis1 from1 to1 = some r) :
  Calls Tryz.prog 32 #[(Value.agg #[(vi t1.Type_.Kind), (vi t1.Type_.Bits), (vi t1.Type_.Frac), (vi t1.Type_.Round), (vi t1.Type_.Over), (vs a1 t1.Dims.length c1), (vs a2 t1.Vals.length c2)]), (vi axis1), (vi from1), (vi to1)] w0 fun e w => ∃ (a3 : Option Addr) (c3 : Nat) (a4 : Option Addr) (c4 : Nat), e = .returned (Value.tuple #[(Value.agg #[(vi r.1.Type_.Kind), (vi r.1.Type_.Bits), (vi r.1.Type_.Frac), (vi r.1.Type_.Round), (vi r.1.Type_.Over), (vs a3 r.1.Dims.length c3), (vs a4 r.1.Vals.length c4)]), (vi r.2)]) ∧ Ext w0 w ∧ AllCl [Cl.sl (cInt .i64) a3 c3 r.1.Dims, Cl.sl cGVal a4 c4 r.1.Vals] F w := by
 refine enterK (l := [(Value.agg #[(vi t1.Type_.Kind), (vi t1.Type_.Bits), (vi t1.Type_.Frac), (vi t1.Type_.Round), (vi t1.Type_.Over), (vs a1 t1.Dims.length c1), (vs a2 t1.Vals.length c2)]), (vi axis1), (vi from1), (vi to1)]) Tryz.func32 rfl Tryz.ntmps32 rfl ?_
 have hI := Bun.start hF hc
 clear hc
 rw [m_tensor_Slice] at h
 refine sr ?_
 refine l_box (v := (Value.agg #[(vi t1.Type_.Kind), (vi t1.Type_.Bits), (vi t1.Type_.Frac), (vi t1.Type_.Round), (vi t1.Type_.Over), (vs a1 t1.Dims.length c1), (vs a2 t1.Vals.length c2)])) (cs := #[(vi t1.Type_.Kind), (vi t1.Type_.Bits), (vi t1.Type_.Frac), (vi t1.Type_.Round), (vi t1.Type_.Over), (vs a1 t1.Dims.length c1), (vs a2 t1.Vals.length c2)]) hI gn rfl rfl et rfl ?_
 clear hI; intro b1 c5 w1 hI
 obtain ⟨c6, hI⟩ := hI.relBox .z
 refine l_box (v := (vi axis1)) (cs := #[(vi axis1)]) hI gn rfl rfl et rfl ?_
 clear hI; intro b2 c7 w2 hI
 obtain ⟨c8, hI⟩ := hI.relBox .z
 refine l_box (v := (vi from1)) (cs := #[(vi from1)]) hI gn rfl rfl et rfl ?_
 clear hI; intro b3 c9 w3 hI
 obtain ⟨c10, hI⟩ := hI.relBox .z
 refine l_alloc (cs := #[(vi 0), (vi 0), (vi 0), (vi 0), (vi 0), (vs none 0 0), (vs none 0 0)]) hI gn rfl rfl zero_27 rfl ?_
 clear hI; intro b4 c11 w4 hI
 refine sac ?_
 refine nk ?_
 refine c_seq ?_
 refine sr ?_
 refine sq (y_loadN (l := [(vi t1.Type_.Kind), (vi t1.Type_.Bits), (vi t1.Type_.Frac), (vi t1.Type_.Round), (vi t1.Type_.Over), (vs a1 t1.Dims.length c1), (vs a2 t1.Vals.length c2)]) rfl et Tryz.underlying27 rfl size_27 (hI.kblk (l := [(vi t1.Type_.Kind), (vi t1.Type_.Bits), (vi t1.Type_.Frac), (vi t1.Type_.Round), (vi t1.Type_.Over), (vs a1 t1.Dims.length c1), (vs a2 t1.Vals.length c2)]) (.s (.s .z)) rfl).1) ?_
 obtain ⟨r1, hx1, h⟩ := bnd_some h
 refine s_call gn rfl (r_callF (vs := [(Value.agg #[(vi t1.Type_.Kind), (vi t1.Type_.Bits), (vi t1.Type_.Frac), (vi t1.Type_.Round), (vi t1.Type_.Over), (vs a1 t1.Dims.length c1), (vs a2 t1.Vals.length c2)])]) rfl ok_25 ⟨et, trivial⟩) (Calls.mono (c_tensor_Validate (Dj F c11) w4 hI.lt t1 a1 c1 a2 c2 ⟨(hI.get (.s (.s (.s .z)))), (hI.get (.s (.s (.s (.s .z))))), trivial⟩ r1 hx1) ?_)
 rintro _ w5 ⟨rfl, hx2, hl1⟩
 refine ⟨_, rfl, ?_⟩
 replace hI := (hI.ext hx2)
 refine sa ?_
 refine nk ?_
 refine sr ?_
 refine sm ?_
 refine sq (y_neq rfl et ev_const) ?_
 refine nk ?_
 refine c_cond (b := !decide (r1 = 0)) et (fun hb => ?_) (fun hb => ?_)
 ·replace h := ite_t hb h
  refine sr ?_
  refine sq (y_build (vs := []) (cs := #[(vi 0), (vi 0), (vi 0), (vi 0), (vi 0), (vs none 0 0), (vs none 0 0)]) rfl trivial (by kernel_rfl)) ?_
  refine sm ?_
  refine l_store (new := [(vi 0), (vi 0), (vi 0), (vi 0), (vi 0), (vs none 0 0), (vs none 0 0)]) (cs' := #[(vi 0), (vi 0), (vi 0), (vi 0), (vi 0), (vs none 0 0), (vs none 0 0)]) hI .z gn rfl rfl et et rfl size_27 rfl rfl rfl ?_
  clear hI; intro c12 w6 hI
  refine sa ?_
  refine nk ?_
  refine c_ret ?_
  have hI := hI.add (c := Cl.sl (cInt .i64) none 0 ([] : List Int)) SlC.nil
  have hI := hI.add (c := Cl.sl cGVal none 0 ([] : List GVal)) SlC.nil
  obtain rfl := some_inj h
  exact q_ret (vs := [(Value.agg #[(vi 0), (vi 0), (vi 0), (vi 0), (vi 0), (vs none 0 0), (vs none 0 0)]), (vi r1)]) Tryz.results32 ⟨⟨_, ev_tmp rfl rfl, load_agg (l := [(vi 0), (vi 0), (vi 0), (vi 0), (vi 0), (vs none 0 0), (vs none 0 0)]) Tryz.underlying27 rfl size_27 (CellsAt.of_blk (hI.blk .z) rfl)⟩, ⟨ev_tmp rfl rfl, trivial⟩⟩ ⟨none, 0, none, 0, rfl, hI.ext0, hI.fin ⟨(.s .z), .z, trivial⟩⟩
 ·replace h := ite_f hb h
  refine c_skip ?_
  refine k_same ?_
  refine sr ?_
  refine sq (y_fieldAddr rfl et Tryz.underlying27 rfl size_24 rfl) ?_
  refine sq (y_load1 (v := (vs a1 t1.Dims.length c1)) rfl et Tryz.underlying24 rfl (hI.kblk (l := [(vs a1 t1.Dims.length c1)]) (.s (.s .z)) rfl).1) ?_
  refine sq (y_load1 (v := (vi axis1)) rfl et Tryz.underlying3 rfl (hI.kblk (l := [(vi axis1)]) (.s .z) rfl).1) ?_
  refine sq (y_load1 (v := (vi from1)) rfl et Tryz.underlying3 rfl (hI.kblk (l := [(vi from1)]) .z rfl).1) ?_
  refine sm ?_
  obtain ⟨r2, hx3, h⟩ := bnd_some h
  refine s_call gn rfl (r_callF (vs := [(vs a1 t1.Dims.length c1), (vi axis1), (vi from1), (vi to1)]) rfl ok_68 ⟨et, ⟨et, ⟨et, ⟨et, trivial⟩⟩⟩⟩) (Calls.mono (c_shape_Slice (Dj F c11) w5 hI.lt t1.Dims axis1 from1 to1 a1 c1 ⟨(hI.get (.s (.s (.s .z)))), trivial⟩ r2 hx3) ?_)
  rintro _ w7 ⟨a5, c13, rfl, hx4, hl2⟩
  refine ⟨_, rfl, ?_⟩
  replace hI := (hI.ext hx4).adds hl2
  refine sm ?_
  refine sq (y_extract rfl et rfl) ?_
  refine sq (y_extract rfl et rfl) ?_
  refine sa ?_
  refine sa ?_
  refine nk ?_
  refine c_seq ?_
  refine sr ?_
  refine sm ?_
  refine sq (y_neq rfl et ev_const) ?_
  refine nk ?_
  refine c_cond (b := !decide (r2.2 = 0)) et (fun hb => ?_) (fun hb => ?_)
  ·replace h := ite_t hb h
   refine sr ?_
   refine sq (y_build (vs := []) (cs := #[(vi 0), (vi 0), (vi 0), (vi 0), (vi 0), (vs none 0 0), (vs none 0 0)]) rfl trivial (by kernel_rfl)) ?_
   refine sm ?_
   refine l_store (new := [(vi 0), (vi 0), (vi 0), (vi 0), (vi 0), (vs none 0 0), (vs none 0 0)]) (cs' := #[(vi 0), (vi 0), (vi 0), (vi 0), (vi 0), (vs none 0 0), (vs none 0 0)]) hI .z gn rfl rfl et et rfl size_27 rfl rfl rfl ?_
   clear hI; intro c14 w8 hI
   refine sa ?_
   refine s_nil ?_
   refine k_next (e := [(8, (vp b4 0)), (9, (vi r2.2))]) ⟨rfl, rfl, trivial⟩ ?_
   refine c_ret ?_
   have hI := hI.add (c := Cl.sl (cInt .i64) none 0 ([] : List Int)) SlC.nil
   have hI := hI.add (c := Cl.sl cGVal none 0 ([] : List GVal)) SlC.nil
   obtain rfl := some_inj h
   exact q_ret (vs := [(Value.agg #[(vi 0), (vi 0), (vi 0), (vi 0), (vi 0), (vs none 0 0), (vs none 0 0)]), (vi r2.2)]) Tryz.results32 ⟨⟨_, ev_tmp rfl rfl, load_agg (l := [(vi 0), (vi 0), (vi 0), (vi 0), (vi 0), (vs none 0 0), (vs none 0 0)]) Tryz.underlying27 rfl size_27 (CellsAt.of_blk (hI.blk .z) rfl)⟩, ⟨ev_tmp rfl rfl, trivial⟩⟩ ⟨none, 0, none, 0, rfl, hI.ext0, hI.fin ⟨(.s .z), .z, trivial⟩⟩
  ·replace h := ite_f hb h
   refine c_skip ?_
   refine k_same ?_
   refine sr ?_
   refine sq (y_loadN (l := [(vi t1.Type_.Kind), (vi t1.Type_.Bits), (vi t1.Type_.Frac), (vi t1.Type_.Round), (vi t1.Type_.Over), (vs a1 t1.Dims.length c1), (vs a2 t1.Vals.length c2)]) rfl et Tryz.underlying27 rfl size_27 (hI.kblk (l := [(vi t1.Type_.Kind), (vi t1.Type_.Bits), (vi t1.Type_.Frac), (vi t1.Type_.Round), (vi t1.Type_.Over), (vs a1 t1.Dims.length c1), (vs a2 t1.Vals.length c2)]) (.s (.s (.s .z))) rfl).1) ?_
   refine sm ?_
   refine sq (y_makeFunc (vs := []) (cap := [(vp b2 0), (vp b3 0)]) rfl rfl ⟨et, ⟨et, trivial⟩⟩) ?_
   have hI := hI.add (c := clFn_k3 (Value.func (.func 69) #[] #[(vp b2 0), (vp b3 0)]) (fun y_1 => m_tensor_Slice_1 y_1 axis1 from1)) ⟨rfl, fun D' w' hs hl x_1 A_2 c_3 r k h => CallV.fn (cap := [(vp b2 0), (vp b3 0)]) ok_69 (c_tensor_Slice_1 D' w' hl x_1 axis1 from1 A_2 c_3 b2 b3 ⟨k.1, (Cl.sp _ hs (hI.get (.s (.s .z)))), (Cl.sp _ hs (hI.get (.s .z))), trivial⟩ r h)⟩
   obtain ⟨r3, hx5, h⟩ := bnd_some h
   refine s_call gn rfl (r_callF (vs := [(Value.agg #[(vi t1.Type_.Kind), (vi t1.Type_.Bits), (vi t1.Type_.Frac), (vi t1.Type_.Round), (vi t1.Type_.Over), (vs a1 t1.Dims.length c1), (vs a2 t1.Vals.length c2)]), (vs a5 r2.1.length c13), (Value.func (.func 69) #[] #[(vp b2 0), (vp b3 0)])]) rfl ok_66 ⟨et, ⟨et, ⟨et, trivial⟩⟩⟩) (Calls.mono (c_tensor_gather (Dj F c11) w7 hI.lt t1 r2.1 (fun y_1 => m_tensor_Slice_1 y_1 axis1 from1) a1 c1 a2 c2 a5 c13 (Value.func (.func 69) #[] #[(vp b2 0), (vp b3 0)]) ⟨(hI.get (.s (.s (.s (.s (.s .z)))))), (hI.get (.s (.s (.s (.s (.s (.s .z))))))), (hI.get (.s .z)), (hI.get .z), trivial⟩ r3 hx5) ?_)
   rintro _ w9 ⟨a6, c15, a7, c16, rfl, hx6, hl3⟩
   refine ⟨_, rfl, ?_⟩
   replace hI := (hI.ext hx6).adds hl3
   refine l_store (new := [(vi r3.Type_.Kind), (vi r3.Type_.Bits), (vi r3.Type_.Frac), (vi r3.Type_.Round), (vi r3.Type_.Over), (vs a6 r3.Dims.length c15), (vs a7 r3.Vals.length c16)]) (cs' := #[(vi r3.Type_.Kind), (vi r3.Type_.Bits), (vi r3.Type_.Frac), (vi r3.Type_.Round), (vi r3.Type_.Over), (vs a6 r3.Dims.length c15), (vs a7 r3.Vals.length c16)]) hI .z gn rfl rfl et et rfl size_27 rfl rfl rfl ?_
   clear hI; intro c17 w10 hI
   refine sac ?_
   refine s_nil ?_
   refine k_next (e := [(8, (vp b4 0)), (9, (vi 0))]) ⟨rfl, rfl, trivial⟩ ?_
   refine c_ret ?_
   obtain rfl := some_inj h
   exact q_ret (vs := [(Value.agg #[(vi r3.Type_.Kind), (vi r3.Type_.Bits), (vi r3.Type_.Frac), (vi r3.Type_.Round), (vi r3.Type_.Over), (vs a6 r3.Dims.length c15), (vs a7 r3.Vals.length c16)]), (vi 0)]) Tryz.results32 ⟨⟨_, ev_tmp rfl rfl, load_agg (l := [(vi r3.Type_.Kind), (vi r3.Type_.Bits), (vi r3.Type_.Frac), (vi r3.Type_.Round), (vi r3.Type_.Over), (vs a6 r3.Dims.length c15), (vs a7 r3.Vals.length c16)]) Tryz.underlying27 rfl size_27 (CellsAt.of_blk (hI.blk .z) rfl)⟩, ⟨ev_tmp rfl rfl, trivial⟩⟩ ⟨a6, c15, a7, c16, rfl, hI.ext0, hI.fin ⟨.z, (.s .z), trivial⟩⟩

set_option maxRecDepth 100000 in
set_option maxHeartbeats 4000000 in
theorem c_ref12_Slice (F : NP) (w0 : World) (hF : ∀ k, F k → k < w0.heap.size) (t1 : GTensor) (axis1 : Int) (from1 : Int) (to1 : Int) (a1 : Option Addr) (c1 : Nat) (a2 : Option Addr) (c2 : Nat) (hc : AllCl [Cl.sl (cInt .i64) a1 c1 t1.Dims, Cl.sl cGVal a2 c2 t1.Vals] F w0) (r : GTensor × Int)
  (h : m_ref12_Slice t1 axis1 from1 to1 = some r) :
  Calls Tryz.prog 33 #[(Value.agg #[(vi t1.Type_.Kind), (vi t1.Type_.Bits), (vi t1.Type_.Frac), (vi t1.Type_.Round), (vi t1.Type_.Over), (vs a1 t1.Dims.length c1), (vs a2 t1.Vals.length c2)]), (vi axis1), (vi from1), (vi to1)] w0 fun e w => ∃ (a3 : Option Addr) (c3 : Nat) (a4 : Option Addr) (c4 : Nat), e = .returned (Value.tuple #[(Value.agg #[(vi r.1.Type_.Kind), (vi r.1.Type_.Bits), (vi r.1.Type_.Frac), (vi r.1.Type_.Round), (vi r.1.Type_.Over), (vs a3 r.1.Dims.length c3), (vs a4 r.1.Vals.length c4)]), (vi r.2)]) ∧ Ext w0 w ∧ AllCl [Cl.sl (cInt .i64) a3 c3 r.1.Dims, Cl.sl cGVal a4 c4 r.1.Vals] F w := by
 refine enterK (l := [(Value.agg #[(vi t1.Type_.Kind), (vi t1.Type_.Bits), (vi t1.Type_.Frac), (vi t1.Type_.Round), (vi t1.Type_.Over), (vs a1 t1.Dims.length c1), (vs a2 t1.Vals.length c2)]), (vi axis1), (vi from1), (vi to1)]) Tryz.func33 rfl Tryz.ntmps33 rfl ?_
 have hI := Bun.start hF hc
 clear hc
 rw [m_ref12_Slice] at h
 refine sr ?_
 refine l_box (v := (Value.agg #[(vi t1.Type_.Kind), (vi t1.Type_.Bits), (vi t1.Type_.Frac), (vi t1.Type_.Round), (vi t1.Type_.Over), (vs a1 t1.Dims.length c1), (vs a2 t1.Vals.length c2)])) (cs := #[(vi t1.Type_.Kind), (vi t1.Type_.Bits), (vi t1.Type_.Frac), (vi t1.Type_.Round), (vi t1.Type_.Over), (vs a1 t1.Dims.length c1), (vs a2 t1.Vals.length c2)]) hI gn rfl rfl et rfl ?_
 clear hI; intro b1 c5 w1 hI
 obtain ⟨c6, hI⟩ := hI.relBox .z
 refine l_alloc (cs := #[(vi 0), (vi 0), (vi 0), (vi 0), (vi 0), (vs none 0 0), (vs none 0 0)]) hI gn rfl rfl zero_27 rfl ?_
 clear hI; intro b2 c7 w2 hI
 refine sac ?_
 refine nk ?_
 refine c_seq ?_
 refine sr ?_
 refine sq (y_loadN (l := [(vi t1.Type_.Kind), (vi t1.Type_.Bits), (vi t1.Type_.Frac), (vi t1.Type_.Round), (vi t1.Type_.Over), (vs a1 t1.Dims.length c1), (vs a2 t1.Vals.length c2)]) rfl et Tryz.underlying27 rfl size_27 (hI.kblk (l := [(vi t1.Type_.Kind), (vi t1.Type_.Bits), (vi t1.Type_.Frac), (vi t1.Type_.Round), (vi t1.Type_.Over), (vs a1 t1.Dims.length c1), (vs a2 t1.Vals.length c2)]) .z rfl).1) ?_
 obtain ⟨r1, hx1, h⟩ := bnd_some h
 refine s_call gn rfl (r_callF (vs := [(Value.agg #[(vi t1.Type_.Kind), (vi t1.Type_.Bits), (vi t1.Type_.Frac), (vi t1.Type_.Round), (vi t1.Type_.Over), (vs a1 t1.Dims.length c1), (vs a2 t1.Vals.length c2)])]) rfl ok_26 ⟨et, trivial⟩) (Calls.mono (c_ref12_Validate (Dj F c7) w2 hI.lt t1 a1 c1 a2 c2 ⟨(hI.get (.s .z)), (hI.get (.s (.s .z))), trivial⟩ r1 hx1) ?_)
 rintro _ w3 ⟨rfl, hx2, hl1⟩
 refine ⟨_, rfl, ?_⟩
 replace hI := (hI.ext hx2)
 refine sa ?_
 refine nk ?_
 refine sr ?_
 refine sm ?_
 refine sq (y_neq rfl et ev_const) ?_
 refine nk ?_
 refine c_cond (b := !decide (r1 = 0)) et (fun hb => ?_) (fun hb => ?_)
 ·replace h := ite_t hb h
  refine sr ?_
  refine sq (y_build (vs := []) (cs := #[(vi 0), (vi 0), (vi 0), (vi 0), (vi 0), (vs none 0 0), (vs none 0 0)]) rfl trivial (by kernel_rfl)) ?_
  refine sm ?_
  refine l_store (new := [(vi 0), (vi 0), (vi 0), (vi 0), (vi 0), (vs none 0 0), (vs none 0 0)]) (cs' := #[(vi 0), (vi 0), (vi 0), (vi 0), (vi 0), (vs none 0 0), (vs none 0 0)]) hI .z gn rfl rfl et et rfl size_27 rfl rfl rfl ?_
  clear hI; intro c8 w4 hI
  refine sa ?_
  refine nk ?_
  refine c_ret ?_
  have hI := hI.add (c := Cl.sl (cInt .i64) none 0 ([] : List Int)) SlC.nil
  have hI := hI.add (c := Cl.sl cGVal none 0 ([] : List GVal)) SlC.nil
  obtain rfl := some_inj h
  exact q_ret (vs := [(Value.agg #[(vi 0), (vi 0), (vi 0), (vi 0), (vi 0), (vs none 0 0), (vs none 0 0)]), (vi r1)]) Tryz.results33 ⟨⟨_, ev_tmp rfl rfl, load_agg (l := [(vi 0), (vi 0), (vi 0), (vi 0), (vi 0), (vs none 0 0), (vs none 0 0)]) Tryz.underlying27 rfl size_27 (CellsAt.of_blk (hI.blk .z) rfl)⟩, ⟨ev_tmp rfl rfl, trivial⟩⟩ ⟨none, 0, none, 0, rfl, hI.ext0, hI.fin ⟨(.s .z), .z, trivial⟩⟩
 ·replace h := ite_f hb h
  refine c_skip ?_
  refine k_same ?_
  refine c_seq ?_
  refine sr ?_
  refine sm ?_
  refine sq (y_lss rfl et ev_const) ?_
  refine sm ?_
  refine s_gval (g_false rfl rfl rfl rfl) rfl (fun hc => (y_move rfl et)) ?_
  refine s_gval (g_false rfl rfl rfl rfl) rfl (fun hc => (y_fieldAddr rfl et Tryz.underlying27 rfl size_24 rfl)) ?_
  refine s_gval (g_false rfl rfl rfl rfl) rfl (fun hc => (y_load1 (v := (vs a1 t1.Dims.length c1)) rfl (ev_gv et hc) Tryz.underlying24 rfl (hI.kblk (l := [(vs a1 t1.Dims.length c1)]) .z rfl).1)) ?_
  refine s_gval (g_false rfl rfl rfl rfl) rfl (fun hc => (y_lenl rfl Tryz.underlying24 (ev_gv et hc))) ?_
  refine s_gval (g_false rfl rfl rfl rfl) rfl (fun hc => (y_geq rfl (ev_gv et hc) (ev_gv et hc))) ?_
  refine sq (y_or rfl et et) ?_
  refine nk ?_
  refine c_cond (b := (decide (axis1 < 0)) || (decide ((t1.Dims.length : Int) ≤ axis1))) et (fun hb => ?_) (fun hb => ?_)
  ·replace h := ite_t hb h
   refine sr ?_
   refine sq (y_build (vs := []) (cs := #[(vi 0), (vi 0), (vi 0), (vi 0), (vi 0), (vs none 0 0), (vs none 0 0)]) rfl trivial (by kernel_rfl)) ?_
   refine l_store (new := [(vi 0), (vi 0), (vi 0), (vi 0), (vi 0), (vs none 0 0), (vs none 0 0)]) (cs' := #[(vi 0), (vi 0), (vi 0), (vi 0), (vi 0), (vs none 0 0), (vs none 0 0)]) hI .z gn rfl rfl et et rfl size_27 rfl rfl rfl ?_
   clear hI; intro c9 w5 hI
   refine sac ?_
   refine nk ?_
   refine c_ret ?_
   have hI := hI.add (c := Cl.sl (cInt .i64) none 0 ([] : List Int)) SlC.nil
   have hI := hI.add (c := Cl.sl cGVal none 0 ([] : List GVal)) SlC.nil
   obtain rfl := some_inj h
   exact q_ret (vs := [(Value.agg #[(vi 0), (vi 0), (vi 0), (vi 0), (vi 0), (vs none 0 0), (vs none 0 0)]), (vi 11)]) Tryz.results33 ⟨⟨_, ev_tmp rfl rfl, load_agg (l := [(vi 0), (vi 0), (vi 0), (vi 0), (vi 0), (vs none 0 0), (vs none 0 0)]) Tryz.underlying27 rfl size_27 (CellsAt.of_blk (hI.blk .z) rfl)⟩, ⟨ev_tmp rfl rfl, trivial⟩⟩ ⟨none, 0, none, 0, rfl, hI.ext0, hI.fin ⟨(.s .z), .z, trivial⟩⟩
  ·replace h := ite_f hb h
   refine c_skip ?_
   refine k_same ?_
   refine c_seq ?_
   refine sr ?_
   refine sm ?_
   refine sq (y_lss rfl et ev_const) ?_
   refine sm ?_
   refine s_gval (g_false rfl rfl rfl rfl) rfl (fun hc => (y_move rfl et)) ?_
   refine s_gval (g_false rfl rfl rfl rfl) rfl (fun hc => (y_move rfl et)) ?_
   refine s_gval (g_false rfl rfl rfl rfl) rfl (fun hc => (y_geq rfl (ev_gv et hc) (ev_gv et hc))) ?_
   refine sq (y_or rfl et et) ?_
   refine sm ?_
   refine s_gval (g_false rfl rfl rfl rfl) rfl (fun hc => (y_move rfl et)) ?_
   refine s_gval (g_false rfl rfl rfl rfl) rfl (fun hc => (y_fieldAddr rfl et Tryz.underlying27 rfl size_24 rfl)) ?_
   refine s_gval (g_false rfl rfl rfl rfl) rfl (fun hc => (y_load1 (v := (vs a1 t1.Dims.length c1)) rfl (ev_gv et hc) Tryz.underlying24 rfl (hI.kblk (l := [(vs a1 t1.Dims.length c1)]) .z rfl).1)) ?_
   refine s_gval (g_false rfl rfl rfl rfl) rfl (fun hc => (y_move rfl et)) ?_
   obtain ⟨e1, hx3, h⟩ := bnd_some h
   replace hx3 := gd_some hx3
   obtain ⟨ad1, cs1, hq1⟩ := hI.gclat (.s .z) hx3
   have hq2 : (!((decide (from1 < 0)) || (decide (to1 ≤ from1)))) = true → CA (Dj F c7) w3 (ad1.add (Int.toNat axis1 * 1)) [(vi e1)] := fun hc => by have k := hq1 hc; have e : cs1 = _ := k.2.1; rw [← e]; exact k.2.2
   refine s_gval (g_false rfl rfl rfl rfl) rfl (fun hc => (y_indexAddr rfl Tryz.underlying24 size_3 (ev_gv et hc) (ev_gv et hc) (lat_bd (hx3 hc)) (hq1 hc).1)) ?_
   refine s_gval (g_false rfl rfl rfl rfl) rfl (fun hc => (y_load1 (v := (vi e1)) rfl (ev_gv et hc) Tryz.underlying3 rfl (hq2 hc).1)) ?_
   refine s_gval (g_false rfl rfl rfl rfl) rfl (fun hc => (y_gtr rfl (ev_gv et hc) (ev_gv et hc))) ?_
   refine sq (y_or rfl et et) ?_
   refine s_nil ?_
   refine k_next (e := [(1, (vi axis1)), (2, (vi from1)), (3, (vi to1)), (4, (vp b1 0)), (8, (vp b2 0)), (46, (vb (((decide (from1 < 0)) || (decide (to1 ≤ from1))) || (decide (e1 < to1)))))]) ⟨rfl, rfl, rfl, rfl, rfl, rfl, trivial⟩ ?_
   refine c_cond (b := ((decide (from1 < 0)) || (decide (to1 ≤ from1))) || (decide (e1 < to1))) et (fun hb => ?_) (fun hb => ?_)
   ·replace h := ite_t hb h
    refine sr ?_
    refine sq (y_build (vs := []) (cs := #[(vi 0), (vi 0), (vi 0), (vi 0), (vi 0), (vs none 0 0), (vs none 0 0)]) rfl trivial (by kernel_rfl)) ?_
    refine l_store (new := [(vi 0), (vi 0), (vi 0), (vi 0), (vi 0), (vs none 0 0), (vs none 0 0)]) (cs' := #[(vi 0), (vi 0), (vi 0), (vi 0), (vi 0), (vs none 0 0), (vs none 0 0)]) hI .z gn rfl rfl et et rfl size_27 rfl rfl rfl ?_
    clear hI; intro c10 w6 hI
    refine sac ?_
    refine nk ?_
    refine c_ret ?_
    have hI := hI.add (c := Cl.sl (cInt .i64) none 0 ([] : List Int)) SlC.nil
    have hI := hI.add (c := Cl.sl cGVal none 0 ([] : List GVal)) SlC.nil
    obtain rfl := some_inj h
    exact q_ret (vs := [(Value.agg #[(vi 0), (vi 0), (vi 0), (vi 0), (vi 0), (vs none 0 0), (vs none 0 0)]), (vi 12)]) Tryz.results33 ⟨⟨_, ev_tmp rfl rfl, load_agg (l := [(vi 0), (vi 0), (vi 0), (vi 0), (vi 0), (vs none 0 0), (vs none 0 0)]) Tryz.underlying27 rfl size_27 (CellsAt.of_blk (hI.blk .z) rfl)⟩, ⟨ev_tmp rfl rfl, trivial⟩⟩ ⟨none, 0, none, 0, rfl, hI.ext0, hI.fin ⟨(.s .z), .z, trivial⟩⟩
   ·replace h := ite_f hb h
    refine c_skip ?_
    refine k_same ?_
    refine sr ?_
    refine sq (y_fieldAddr rfl et Tryz.underlying27 rfl size_23 rfl) ?_
    refine sq (y_loadN (l := [(vi t1.Type_.Kind), (vi t1.Type_.Bits), (vi t1.Type_.Frac), (vi t1.Type_.Round), (vi t1.Type_.Over)]) rfl et Tryz.underlying23 rfl size_23 (hI.kblk (l := [(vi t1.Type_.Kind), (vi t1.Type_.Bits), (vi t1.Type_.Frac), (vi t1.Type_.Round), (vi t1.Type_.Over)]) .z rfl).1) ?_
    refine sq (y_build (vs := [(0, (Value.agg #[(vi t1.Type_.Kind), (vi t1.Type_.Bits), (vi t1.Type_.Frac), (vi t1.Type_.Round), (vi t1.Type_.Over)]))]) (cs := #[(vi t1.Type_.Kind), (vi t1.Type_.Bits), (vi t1.Type_.Frac), (vi t1.Type_.Round), (vi t1.Type_.Over), (vs none 0 0), (vs none 0 0)]) rfl ⟨rfl, et, trivial⟩ (by kernel_rfl)) ?_
    refine l_alloc (cs := #[(vi 0), (vi 0), (vi 0), (vi 0), (vi 0), (vs none 0 0), (vs none 0 0)]) hI gn rfl rfl zero_27 rfl ?_
    clear hI; intro b3 c11 w7 hI
    refine l_store (new := [(vi t1.Type_.Kind), (vi t1.Type_.Bits), (vi t1.Type_.Frac), (vi t1.Type_.Round), (vi t1.Type_.Over), (vs none 0 0), (vs none 0 0)]) (cs' := #[(vi t1.Type_.Kind), (vi t1.Type_.Bits), (vi t1.Type_.Frac), (vi t1.Type_.Round), (vi t1.Type_.Over), (vs none 0 0), (vs none 0 0)]) hI .z gn rfl rfl et et rfl size_27 rfl rfl rfl ?_
    clear hI; intro c12 w8 hI
    refine nk ?_
    refine c_join (α := GTensor × (Option Addr) × Nat × (Option Addr) × Nat) (fun _ => ⟨115, []⟩) (fun x => [(1, (vi axis1)), (2, (vi from1)), (3, (vi to1)), (4, (vp b1 0)), (8, (vp b2 0)), (11, (vp b3 0))]) (fun x => fun w => ∃ C, Bun noM F w0 C w [MO.row (cInt .i64) 3 (x.2.1) (x.2.2.1) (x.1).Dims, MO.row cGVal 36 (x.2.2.2.1) (x.2.2.2.2) (x.1).Vals, MO.box b2 27 #[(vi 0), (vi 0), (vi 0), (vi 0), (vi 0), (vs none 0 0), (vs none 0 0)], MO.box b3 27 #[(vi (x.1).Type_.Kind), (vi (x.1).Type_.Bits), (vi (x.1).Type_.Frac), (vi (x.1).Type_.Round), (vi (x.1).Type_.Over), (vs (x.2.1) (x.1).Dims.length (x.2.2.1)), (vs (x.2.2.2.1) (x.1).Vals.length (x.2.2.2.2))]] [Cl.blk b1 27 #[(vi t1.Type_.Kind), (vi t1.Type_.Bits), (vi t1.Type_.Frac), (vi t1.Type_.Round), (vi t1.Type_.Over), (vs a1 t1.Dims.length c1), (vs a2 t1.Vals.length c2)], Cl.sl (cInt .i64) a1 c1 t1.Dims, Cl.sl cGVal a2 c2 t1.Vals] ∧ m_ref12_Slice_j1 t1 axis1 from1 to1 (x.1) = some r) ?_ ?_
    ·clear h hI; rintro ⟨out1, a5, c13, a6, c14⟩ w9 ⟨c15, hI, h⟩
     try dsimp only at hI h
     rw [m_ref12_Slice_j1] at h
     refine c_sub (e := [(1, (vi axis1)), (2, (vi from1)), (3, (vi to1)), (4, (vp b1 0)), (8, (vp b2 0)), (11, (vp b3 0))]) ⟨rfl, rfl, rfl, rfl, rfl, rfl, trivial⟩ ?_
     refine c_seq ?_
     refine sr ?_
     refine sac ?_
     refine nk ?_
     refine c_block ?_
     refine c_loop (α := Nat × Int × GTensor × (Option Addr) × Nat × (Option Addr) × Nat) (fun x => fun w => ∃ C, Bun noM F w0 C w [MO.row (cInt .i64) 3 (x.2.2.2.1) (x.2.2.2.2.1) (x.2.2.1).Dims, MO.row cGVal 36 (x.2.2.2.2.2.1) (x.2.2.2.2.2.2) (x.2.2.1).Vals, MO.box b2 27 #[(vi 0), (vi 0), (vi 0), (vi 0), (vi 0), (vs none 0 0), (vs none 0 0)], MO.box b3 27 #[(vi (x.2.2.1).Type_.Kind), (vi (x.2.2.1).Type_.Bits), (vi (x.2.2.1).Type_.Frac), (vi (x.2.2.1).Type_.Round), (vi (x.2.2.1).Type_.Over), (vs (x.2.2.2.1) (x.2.2.1).Dims.length (x.2.2.2.2.1)), (vs (x.2.2.2.2.2.1) (x.2.2.1).Vals.length (x.2.2.2.2.2.2))]] [Cl.blk b1 27 #[(vi t1.Type_.Kind), (vi t1.Type_.Bits), (vi t1.Type_.Frac), (vi t1.Type_.Round), (vi t1.Type_.Over), (vs a1 t1.Dims.length c1), (vs a2 t1.Vals.length c2)], Cl.sl (cInt .i64) a1 c1 t1.Dims, Cl.sl cGVal a2 c2 t1.Vals] ∧ m_ref12_Slice_l1 t1 axis1 from1 to1 (x.1) (x.2.1) (x.2.2.1) = some r) (fun x _ => x.1) (fun x => [(1, (vi axis1)), (2, (vi from1)), (3, (vi to1)), (4, (vp b1 0)), (8, (vp b2 0)), (11, (vp b3 0)), (13, (vi (x.2.1)))]) (fu, 0, out1, a5, c13, a6, c14) ⟨_, hI.arr (.c .z (.c .z (.c .z (.c .z .n)))) ⟨.z, (.s .z), (.s (.s .z)), trivial⟩, h⟩ ⟨rfl, rfl, rfl, rfl, rfl, rfl, rfl, trivial⟩ ?_
     clear h hI; rintro ⟨fuel1, i1, out2, a7, c16, a8, c17⟩ w10 ⟨c18, hI, h⟩
     dsimp only at hI h
     rcases fuel1 with _ | fuel1
     ·rw [m_ref12_Slice_l1] at h; cases h
     rw [m_ref12_Slice_l1] at h
     refine c_sub (e := [(1, (vi axis1)), (2, (vi from1)), (3, (vi to1)), (4, (vp b1 0)), (8, (vp b2 0)), (11, (vp b3 0)), (13, (vi i1))]) ⟨rfl, rfl, rfl, rfl, rfl, rfl, rfl, trivial⟩ ?_
     refine c_seq ?_
     refine sr ?_
     refine sm ?_
     refine sq (y_fieldAddr rfl et Tryz.underlying27 rfl size_25 rfl) ?_
     refine sq (y_load1 (v := (vs a2 t1.Vals.length c2)) rfl et Tryz.underlying25 rfl (hI.kblk (l := [(vs a2 t1.Vals.length c2)]) .z rfl).1) ?_
     refine sq (y_lenl rfl Tryz.underlying25 et) ?_
     refine sq (y_lss rfl et et) ?_
     refine nk ?_
     refine c_cond (b := decide (i1 < (t1.Vals.length : Int))) et (fun hb => ?_) (fun hb => ?_)
     ·replace h := ite_t hb h
      refine c_skip ?_
      refine k_same ?_
      refine c_join (α := GTensor × (Option Addr) × Nat × (Option Addr) × Nat) (fun _ => ⟨115, []⟩) (fun x => [(1, (vi axis1)), (2, (vi from1)), (3, (vi to1)), (4, (vp b1 0)), (8, (vp b2 0)), (11, (vp b3 0)), (13, (vi i1))]) (fun x => fun w => ∃ C, Bun noM F w0 C w [MO.row (cInt .i64) 3 (x.2.1) (x.2.2.1) (x.1).Dims, MO.row cGVal 36 (x.2.2.2.1) (x.2.2.2.2) (x.1).Vals, MO.box b2 27 #[(vi 0), (vi 0), (vi 0), (vi 0), (vi 0), (vs none 0 0), (vs none 0 0)], MO.box b3 27 #[(vi (x.1).Type_.Kind), (vi (x.1).Type_.Bits), (vi (x.1).Type_.Frac), (vi (x.1).Type_.Round), (vi (x.1).Type_.Over), (vs (x.2.1) (x.1).Dims.length (x.2.2.1)), (vs (x.2.2.2.1) (x.1).Vals.length (x.2.2.2.2))]] [Cl.blk b1 27 #[(vi t1.Type_.Kind), (vi t1.Type_.Bits), (vi t1.Type_.Frac), (vi t1.Type_.Round), (vi t1.Type_.Over), (vs a1 t1.Dims.length c1), (vs a2 t1.Vals.length c2)], Cl.sl (cInt .i64) a1 c1 t1.Dims, Cl.sl cGVal a2 c2 t1.Vals] ∧ m_ref12_Slice_j2 (m_ref12_Slice_l1 t1 axis1 from1 to1 fuel1) i1 (x.1) = some r) ?_ ?_
      ·clear h hI; rintro ⟨out3, a9, c19, a10, c20⟩ w11 ⟨c21, hI, h⟩
       try dsimp only at hI h
       rw [m_ref12_Slice_j2] at h
       refine c_sub (e := [(1, (vi axis1)), (2, (vi from1)), (3, (vi to1)), (4, (vp b1 0)), (8, (vp b2 0)), (11, (vp b3 0)), (13, (vi i1))]) ⟨rfl, rfl, rfl, rfl, rfl, rfl, rfl, trivial⟩ ?_
       refine c_region rfl ?_
       refine sm ?_
       refine sq (y_add rfl et ev_const) ?_
       refine sa ?_
       refine s_nil ?_
       exact k_loop (fuel1, wi64 (i1 + 1), out3, a9, c19, a10, c20) ⟨rfl, rfl, rfl, rfl, rfl, rfl, rfl, trivial⟩ ⟨_, hI.arr (.c .z (.c .z (.c .z (.c .z .n)))) ⟨.z, (.s .z), (.s (.s .z)), trivial⟩, h⟩ (Nat.lt_succ_self _)
      ·skip
       refine c_block ?_
       refine sr ?_
       refine sq (y_fieldAddr rfl et Tryz.underlying27 rfl size_24 rfl) ?_
       refine sq (y_load1 (v := (vs a1 t1.Dims.length c1)) rfl et Tryz.underlying24 rfl (hI.kblk (l := [(vs a1 t1.Dims.length c1)]) .z rfl).1) ?_
       refine sm ?_
       obtain ⟨r2, hx4, h⟩ := bnd_some h
       refine s_call gn rfl (r_callF (vs := [(vs a1 t1.Dims.length c1), (vi i1)]) rfl ok_45 ⟨et, ⟨et, trivial⟩⟩) (Calls.mono (c_ref12_Point (Dj F c18) w10 hI.lt t1.Dims i1 a1 c1 ⟨(hI.get (.s .z)), trivial⟩ r2 hx4) ?_)
       rintro _ w12 ⟨a11, c22, rfl, hx5, hl2⟩
       refine ⟨_, rfl, ?_⟩
       replace hI := (hI.ext hx5).adds hl2
       refine sa ?_
       refine nk ?_
       refine sr ?_
       refine sm ?_
       refine sm ?_
       obtain ⟨e2, hx6, h⟩ := bnd_some h
       obtain ⟨ad2, cs2, hA2, hr2, hq3⟩ := hI.clat .z hx6
       obtain rfl : cs2 = [(vi e2)] := hr2
       refine sq (y_indexAddr rfl Tryz.underlying24 size_3 et et (lat_bd hx6) hA2) ?_
       refine sq (y_load1 (v := (vi e2)) rfl et Tryz.underlying3 rfl hq3.1) ?_
       refine sm ?_
       refine sq (y_geq rfl et et) ?_
       refine sm ?_
       refine s_gval (g_true rfl rfl rfl rfl) rfl (fun hc => (y_move rfl et)) ?_
       refine s_gval (g_true rfl rfl rfl rfl) rfl (fun hc => (y_move rfl et)) ?_
       obtain ⟨e3, hx7, h⟩ := bnd_some h
       replace hx7 := gd_some hx7
       obtain ⟨ad3, cs3, hq4⟩ := hI.gclat .z hx7
       have hq5 : (decide (from1 ≤ e2)) = true → CA (Dj F c18) w12 (ad3.add (Int.toNat axis1 * 1)) [(vi e3)] := fun hc => by have k := hq4 hc; have e : cs3 = _ := k.2.1; rw [← e]; exact k.2.2
       refine s_gval (g_true rfl rfl rfl rfl) rfl (fun hc => (y_indexAddr rfl Tryz.underlying24 size_3 (ev_gv et hc) (ev_gv et hc) (lat_bd (hx7 hc)) (hq4 hc).1)) ?_
       refine s_gval (g_true rfl rfl rfl rfl) rfl (fun hc => (y_load1 (v := (vi e3)) rfl (ev_gv et hc) Tryz.underlying3 rfl (hq5 hc).1)) ?_
       refine s_gval (g_true rfl rfl rfl rfl) rfl (fun hc => (y_move rfl et)) ?_
       refine s_gval (g_true rfl rfl rfl rfl) rfl (fun hc => (y_lss rfl (ev_gv et hc) (ev_gv et hc))) ?_
       refine sq (y_and rfl et et) ?_
       refine nk ?_
       refine c_cond (b := (decide (from1 ≤ e2)) && (decide (e3 < to1))) et (fun hb => ?_) (fun hb => ?_)
       ·replace h := ite_t hb h
        refine c_drawX [8, 10] false (.c (0, .q) (.c (1, .q) (.c (2, .q) (.c (3, .q) (.c (4, .q) (.c (5, .q) (.c (6, .q) (.c (7, .s) (.c (8, .s) (.c (9, .q) (.c (10, .s) .n))))))))))) hI (by kernel_rfl) (by kernel_rfl) ?_
        clear hI; intro w13 hI
        refine a_q rfl gn rfl (fun w' => (y_fieldAddr rfl et Tryz.underlying27 rfl size_25 rfl)) ?_
        refine a_read rfl gn rfl (fun w' hw' => (y_load1 (v := (vs a8 out2.Vals.length c17)) rfl et Tryz.underlying25 rfl ((CA.blk (hI.blk (.s (.s (.s .z)))) rfl).at_ (SX.any rfl hw')))) (by kernel_rfl) ?_
        refine a_q rfl gn rfl (fun w' => (y_fieldAddr rfl et Tryz.underlying27 rfl size_25 rfl)) ?_
        refine a_read rfl gn rfl (fun w' hw' => (y_load1 (v := (vs a2 t1.Vals.length c2)) rfl et Tryz.underlying25 rfl ((hI.kblk (l := [(vs a2 t1.Vals.length c2)]) (.s .z) rfl).at_ (SX.any rfl hw')))) (by kernel_rfl) ?_
        refine a_q rfl gn rfl (fun w' => (y_move rfl et)) ?_
        obtain ⟨e4, hx8, h⟩ := bnd_some h
        obtain ⟨ad4, cs4, hA4, hr4, hq6⟩ := hI.clat (.s (.s (.s .z))) hx8
        obtain rfl : cs4 = [(vi e4.N), (vi e4.D)] := hr4
        refine a_q rfl gn rfl (fun w' => (y_indexAddr rfl Tryz.underlying25 size_36 et et (lat_bd hx8) hA4)) ?_
        refine a_read rfl gn rfl (fun w' hw' => (y_loadN (l := [(vi e4.N), (vi e4.D)]) rfl et Tryz.underlying36 rfl size_36 (hq6.at_ (SX.any rfl hw')))) (by kernel_rfl) ?_
        refine la_lit (c := cGVal) (xs := ([e4] : List GVal)) (vs := [(0, (Value.agg #[(vi e4.N), (vi e4.D)]))]) (cs := #[(vi e4.N), (vi e4.D)]) (css := [[(vi e4.N), (vi e4.D)]]) hI rfl gn rfl rfl Tryz.underlying25 info_36 rfl ⟨rfl, et, trivial⟩ (by kernel_rfl) ⟨rfl, trivial⟩ rfl rfl rfl ?_
        clear hI; intro b4 c23 w14 hI
        refine a_turn (F := F) (C := c23) rfl rfl ?_
        obtain ⟨zs1, hx9, h⟩ := bnd_some h
        refine la_append (xs := out2.Vals) (ys := ([e4] : List GVal)) hI (.s (.s .z)) (hI.rd .z) hx9 rfl gn rfl rfl Tryz.underlying25 info_36 rfl rfl et et ?_
        clear hI; intro a12 c24 c25 w15 hI
        refine a_q rfl gn rfl (fun w' => (y_fieldAddr rfl et Tryz.underlying27 rfl size_25 rfl)) ?_
        refine la_store (new := [(vs a12 zs1.length c24)]) (cs' := #[(vi out2.Type_.Kind), (vi out2.Type_.Bits), (vi out2.Type_.Frac), (vi out2.Type_.Round), (vi out2.Type_.Over), (vs a7 out2.Dims.length c16), (vs a12 zs1.length c24)]) hI (.s (.s (.s (.s .z)))) rfl gn rfl rfl et et rfl size_25 rfl rfl rfl ?_
        clear hI; intro c26 w16 hI
        refine a_nil ?_
        exact k_join ((⟨out2.Type_, out2.Dims, zs1⟩ : GTensor), a7, c16, a12, c24) ⟨rfl, rfl, rfl, rfl, rfl, rfl, rfl, trivial⟩ ⟨_, hI.arr (.c (.s .z) (.c (.s .z) (.c (.s .z) (.c (.s .z) .n)))) ⟨(.s .z), (.s (.s .z)), (.s (.s (.s .z))), trivial⟩, h⟩ rfl
       ·replace h := ite_f hb h
        refine c_skip ?_
        exact k_join (out2, a7, c16, a8, c17) ⟨rfl, rfl, rfl, rfl, rfl, rfl, rfl, trivial⟩ ⟨_, hI.arr (.c .z (.c .z (.c .z (.c .z .n)))) ⟨(.s .z), (.s (.s .z)), (.s (.s (.s .z))), trivial⟩, h⟩ rfl
     ·replace h := ite_f hb h
      refine c_exit ?_
      refine k_in ?_
      refine k_same ?_
      refine sr ?_
      refine sq (y_loadN (l := [(vi out2.Type_.Kind), (vi out2.Type_.Bits), (vi out2.Type_.Frac), (vi out2.Type_.Round), (vi out2.Type_.Over), (vs a7 out2.Dims.length c16), (vs a8 out2.Vals.length c17)]) rfl et Tryz.underlying27 rfl size_27 (CellsAt.of_blk (hI.blk (.s (.s (.s .z)))) rfl)) ?_
      refine l_store (new := [(vi out2.Type_.Kind), (vi out2.Type_.Bits), (vi out2.Type_.Frac), (vi out2.Type_.Round), (vi out2.Type_.Over), (vs a7 out2.Dims.length c16), (vs a8 out2.Vals.length c17)]) (cs' := #[(vi out2.Type_.Kind), (vi out2.Type_.Bits), (vi out2.Type_.Frac), (vi out2.Type_.Round), (vi out2.Type_.Over), (vs a7 out2.Dims.length c16), (vs a8 out2.Vals.length c17)]) hI (.s (.s .z)) gn rfl rfl et et rfl size_27 rfl rfl rfl ?_
      clear hI; intro c27 w17 hI
      refine sac ?_
      refine nk ?_
      refine c_ret ?_
      obtain ⟨c28, hI⟩ := hI.release .z
      obtain ⟨c29, hI⟩ := hI.release .z
      obtain rfl := some_inj h
      exact q_ret (vs := [(Value.agg #[(vi out2.Type_.Kind), (vi out2.Type_.Bits), (vi out2.Type_.Frac), (vi out2.Type_.Round), (vi out2.Type_.Over), (vs a7 out2.Dims.length c16), (vs a8 out2.Vals.length c17)]), (vi 0)]) Tryz.results33 ⟨⟨_, ev_tmp rfl rfl, load_agg (l := [(vi out2.Type_.Kind), (vi out2.Type_.Bits), (vi out2.Type_.Frac), (vi out2.Type_.Round), (vi out2.Type_.Over), (vs a7 out2.Dims.length c16), (vs a8 out2.Vals.length c17)]) Tryz.underlying27 rfl size_27 (CellsAt.of_blk (hI.blk .z) rfl)⟩, ⟨ev_tmp rfl rfl, trivial⟩⟩ ⟨a7, c16, a8, c17, rfl, hI.ext0, hI.fin ⟨(.s .z), .z, trivial⟩⟩
    ·skip
     refine sr ?_
     refine sac ?_
     refine nk ?_
     refine c_block ?_
     have hI := hI.nil (cInt .i64) 3 none
     have hI := hI.nil cGVal 36 none
     refine c_loop (α := Nat × Int × GTensor × (Option Addr) × Nat × (Option Addr) × Nat) (fun x => fun w => ∃ C, Bun noM F w0 C w [MO.row (cInt .i64) 3 (x.2.2.2.1) (x.2.2.2.2.1) (x.2.2.1).Dims, MO.row cGVal 36 (x.2.2.2.2.2.1) (x.2.2.2.2.2.2) (x.2.2.1).Vals, MO.box b2 27 #[(vi 0), (vi 0), (vi 0), (vi 0), (vi 0), (vs none 0 0), (vs none 0 0)], MO.box b3 27 #[(vi (x.2.2.1).Type_.Kind), (vi (x.2.2.1).Type_.Bits), (vi (x.2.2.1).Type_.Frac), (vi (x.2.2.1).Type_.Round), (vi (x.2.2.1).Type_.Over), (vs (x.2.2.2.1) (x.2.2.1).Dims.length (x.2.2.2.2.1)), (vs (x.2.2.2.2.2.1) (x.2.2.1).Vals.length (x.2.2.2.2.2.2))]] [Cl.blk b1 27 #[(vi t1.Type_.Kind), (vi t1.Type_.Bits), (vi t1.Type_.Frac), (vi t1.Type_.Round), (vi t1.Type_.Over), (vs a1 t1.Dims.length c1), (vs a2 t1.Vals.length c2)], Cl.sl (cInt .i64) a1 c1 t1.Dims, Cl.sl cGVal a2 c2 t1.Vals] ∧ m_ref12_Slice_l2 t1 axis1 to1 from1 (x.1) (x.2.1) (x.2.2.1) = some r) (fun x _ => x.1) (fun x => [(1, (vi axis1)), (2, (vi from1)), (3, (vi to1)), (4, (vp b1 0)), (8, (vp b2 0)), (11, (vp b3 0)), (12, (vi (x.2.1)))]) (fu, 0, (⟨t1.Type_, ([] : List Int), ([] : List GVal)⟩ : GTensor), none, 0, none, 0) ⟨_, hI.arr (.c (.s .z) (.c .z (.c (.s .z) (.c .z .n)))) ⟨.z, (.s .z), (.s (.s .z)), trivial⟩, h⟩ ⟨rfl, rfl, rfl, rfl, rfl, rfl, rfl, trivial⟩ ?_
     clear h hI; rintro ⟨fuel2, i2, out4, a13, c30, a14, c31⟩ w18 ⟨c32, hI, h⟩
     dsimp only at hI h
     rcases fuel2 with _ | fuel2
     ·rw [m_ref12_Slice_l2] at h; cases h
     rw [m_ref12_Slice_l2] at h
     refine c_sub (e := [(1, (vi axis1)), (2, (vi from1)), (3, (vi to1)), (4, (vp b1 0)), (8, (vp b2 0)), (11, (vp b3 0)), (12, (vi i2))]) ⟨rfl, rfl, rfl, rfl, rfl, rfl, rfl, trivial⟩ ?_
     refine c_seq ?_
     refine sr ?_
     refine sm ?_
     refine sq (y_fieldAddr rfl et Tryz.underlying27 rfl size_24 rfl) ?_
     refine sq (y_load1 (v := (vs a1 t1.Dims.length c1)) rfl et Tryz.underlying24 rfl (hI.kblk (l := [(vs a1 t1.Dims.length c1)]) .z rfl).1) ?_
     refine sq (y_lenl rfl Tryz.underlying24 et) ?_
     refine sq (y_lss rfl et et) ?_
     refine nk ?_
     refine c_cond (b := decide (i2 < (t1.Dims.length : Int))) et (fun hb => ?_) (fun hb => ?_)
     ·replace h := ite_t hb h
      refine c_skip ?_
      refine k_same ?_
      refine c_join (α := GTensor × (Option Addr) × Nat × (Option Addr) × Nat) (fun _ => ⟨115, []⟩) (fun x => [(1, (vi axis1)), (2, (vi from1)), (3, (vi to1)), (4, (vp b1 0)), (8, (vp b2 0)), (11, (vp b3 0)), (12, (vi i2))]) (fun x => fun w => ∃ C, Bun noM F w0 C w [MO.row (cInt .i64) 3 (x.2.1) (x.2.2.1) (x.1).Dims, MO.row cGVal 36 (x.2.2.2.1) (x.2.2.2.2) (x.1).Vals, MO.box b2 27 #[(vi 0), (vi 0), (vi 0), (vi 0), (vi 0), (vs none 0 0), (vs none 0 0)], MO.box b3 27 #[(vi (x.1).Type_.Kind), (vi (x.1).Type_.Bits), (vi (x.1).Type_.Frac), (vi (x.1).Type_.Round), (vi (x.1).Type_.Over), (vs (x.2.1) (x.1).Dims.length (x.2.2.1)), (vs (x.2.2.2.1) (x.1).Vals.length (x.2.2.2.2))]] [Cl.blk b1 27 #[(vi t1.Type_.Kind), (vi t1.Type_.Bits), (vi t1.Type_.Frac), (vi t1.Type_.Round), (vi t1.Type_.Over), (vs a1 t1.Dims.length c1), (vs a2 t1.Vals.length c2)], Cl.sl (cInt .i64) a1 c1 t1.Dims, Cl.sl cGVal a2 c2 t1.Vals] ∧ m_ref12_Slice_j3 (m_ref12_Slice_l2 t1 axis1 to1 from1 fuel2) i2 (x.1) = some r) ?_ ?_
      ·clear h hI; rintro ⟨out5, a15, c33, a16, c34⟩ w19 ⟨c35, hI, h⟩
       try dsimp only at hI h
       rw [m_ref12_Slice_j3] at h
       refine c_sub (e := [(1, (vi axis1)), (2, (vi from1)), (3, (vi to1)), (4, (vp b1 0)), (8, (vp b2 0)), (11, (vp b3 0)), (12, (vi i2))]) ⟨rfl, rfl, rfl, rfl, rfl, rfl, rfl, trivial⟩ ?_
       refine c_region rfl ?_
       refine sm ?_
       refine sq (y_add rfl et ev_const) ?_
       refine sa ?_
       refine s_nil ?_
       exact k_loop (fuel2, wi64 (i2 + 1), out5, a15, c33, a16, c34) ⟨rfl, rfl, rfl, rfl, rfl, rfl, rfl, trivial⟩ ⟨_, hI.arr (.c .z (.c .z (.c .z (.c .z .n)))) ⟨.z, (.s .z), (.s (.s .z)), trivial⟩, h⟩ (Nat.lt_succ_self _)
      ·skip
       refine c_block ?_
       refine sr ?_
       refine sm ?_
       refine sm ?_
       refine sq (y_eql rfl et et) ?_
       refine nk ?_
       refine c_cond (b := decide (i2 = axis1)) et (fun hb => ?_) (fun hb => ?_)
       ·replace h := ite_t hb h
        refine c_region rfl ?_
        refine sq (y_fieldAddr rfl et Tryz.underlying27 rfl size_24 rfl) ?_
        refine sq (y_load1 (v := (vs a13 out4.Dims.length c30)) rfl et Tryz.underlying24 rfl (CellsAt.of_blk (hI.blk (.s (.s (.s .z)))) rfl)) ?_
        refine sm ?_
        refine sm ?_
        refine sq (y_sub rfl et et) ?_
        refine l_lit (c := (cInt .i64)) (xs := ([wi64 (to1 - from1)] : List Int)) (vs := [(0, (vi (wi64 (to1 - from1))))]) (cs := #[(vi (wi64 (to1 - from1)))]) (css := [[(vi (wi64 (to1 - from1)))]]) hI gn rfl rfl Tryz.underlying24 info_3 rfl ⟨rfl, et, trivial⟩ (by kernel_rfl) ⟨rfl, trivial⟩ rfl rfl rfl ?_
        clear hI; intro b5 c36 w20 hI
        obtain ⟨zs2, hx10, h⟩ := bnd_some h
        refine l_append (xs := out4.Dims) (ys := ([wi64 (to1 - from1)] : List Int)) hI (.s .z) (hI.rd .z) hx10 gn rfl rfl Tryz.underlying24 info_3 rfl rfl et et ?_
        clear hI; intro a17 c37 c38 w21 hI
        refine sq (y_fieldAddr rfl et Tryz.underlying27 rfl size_24 rfl) ?_
        refine l_store (new := [(vs a17 zs2.length c37)]) (cs' := #[(vi out4.Type_.Kind), (vi out4.Type_.Bits), (vi out4.Type_.Frac), (vi out4.Type_.Round), (vi out4.Type_.Over), (vs a17 zs2.length c37), (vs a14 out4.Vals.length c31)]) hI (.s (.s (.s (.s .z)))) gn rfl rfl et et rfl size_24 rfl rfl rfl ?_
        clear hI; intro c39 w22 hI
        refine s_nil ?_
        exact k_join ((⟨out4.Type_, zs2, out4.Vals⟩ : GTensor), a17, c37, a14, c31) ⟨rfl, rfl, rfl, rfl, rfl, rfl, rfl, trivial⟩ ⟨_, hI.arr (.c (.s .z) (.c (.s .z) (.c (.s .z) (.c (.s .z) .n)))) ⟨.z, (.s .z), (.s (.s .z)), trivial⟩, h⟩ rfl
       ·replace h := ite_f hb h
        refine c_drawX [8, 10] false (.c (0, .q) (.c (1, .q) (.c (2, .q) (.c (3, .q) (.c (4, .q) (.c (5, .q) (.c (6, .q) (.c (7, .s) (.c (8, .s) (.c (9, .q) (.c (10, .s) .n))))))))))) hI (by kernel_rfl) (by kernel_rfl) ?_
        clear hI; intro w23 hI
        refine a_q rfl gn rfl (fun w' => (y_fieldAddr rfl et Tryz.underlying27 rfl size_24 rfl)) ?_
        refine a_read rfl gn rfl (fun w' hw' => (y_load1 (v := (vs a13 out4.Dims.length c30)) rfl et Tryz.underlying24 rfl ((CA.blk (hI.blk (.s (.s (.s .z)))) rfl).at_ (SX.any rfl hw')))) (by kernel_rfl) ?_
        refine a_q rfl gn rfl (fun w' => (y_fieldAddr rfl et Tryz.underlying27 rfl size_24 rfl)) ?_
        refine a_read rfl gn rfl (fun w' hw' => (y_load1 (v := (vs a1 t1.Dims.length c1)) rfl et Tryz.underlying24 rfl ((hI.kblk (l := [(vs a1 t1.Dims.length c1)]) .z rfl).at_ (SX.any rfl hw')))) (by kernel_rfl) ?_
        refine a_q rfl gn rfl (fun w' => (y_move rfl et)) ?_
        obtain ⟨e5, hx11, h⟩ := bnd_some h
        obtain ⟨ad5, cs5, hA5, hr5, hq7⟩ := hI.clat (.s .z) hx11
        obtain rfl : cs5 = [(vi e5)] := hr5
        refine a_q rfl gn rfl (fun w' => (y_indexAddr rfl Tryz.underlying24 size_3 et et (lat_bd hx11) hA5)) ?_
        refine a_read rfl gn rfl (fun w' hw' => (y_load1 (v := (vi e5)) rfl et Tryz.underlying3 rfl (hq7.at_ (SX.any rfl hw')))) (by kernel_rfl) ?_
        refine la_lit (c := (cInt .i64)) (xs := ([e5] : List Int)) (vs := [(0, (vi e5))]) (cs := #[(vi e5)]) (css := [[(vi e5)]]) hI rfl gn rfl rfl Tryz.underlying24 info_3 rfl ⟨rfl, et, trivial⟩ (by kernel_rfl) ⟨rfl, trivial⟩ rfl rfl rfl ?_
        clear hI; intro b6 c40 w24 hI
        refine a_turn (F := F) (C := c40) rfl rfl ?_
        obtain ⟨zs3, hx12, h⟩ := bnd_some h
        refine la_append (xs := out4.Dims) (ys := ([e5] : List Int)) hI (.s .z) (hI.rd .z) hx12 rfl gn rfl rfl Tryz.underlying24 info_3 rfl rfl et et ?_
        clear hI; intro a18 c41 c42 w25 hI
        refine a_q rfl gn rfl (fun w' => (y_fieldAddr rfl et Tryz.underlying27 rfl size_24 rfl)) ?_
        refine la_store (new := [(vs a18 zs3.length c41)]) (cs' := #[(vi out4.Type_.Kind), (vi out4.Type_.Bits), (vi out4.Type_.Frac), (vi out4.Type_.Round), (vi out4.Type_.Over), (vs a18 zs3.length c41), (vs a14 out4.Vals.length c31)]) hI (.s (.s (.s (.s .z)))) rfl gn rfl rfl et et rfl size_24 rfl rfl rfl ?_
        clear hI; intro c43 w26 hI
        refine a_nil ?_
        exact k_join ((⟨out4.Type_, zs3, out4.Vals⟩ : GTensor), a18, c41, a14, c31) ⟨rfl, rfl, rfl, rfl, rfl, rfl, rfl, trivial⟩ ⟨_, hI.arr (.c (.s .z) (.c (.s .z) (.c (.s .z) (.c (.s .z) .n)))) ⟨.z, (.s .z), (.s (.s .z)), trivial⟩, h⟩ rfl
     ·replace h := ite_f hb h
      refine c_exit ?_
      refine k_in ?_
      exact k_join (out4, a13, c30, a14, c31) ⟨rfl, rfl, rfl, rfl, rfl, rfl, trivial⟩ ⟨_, hI.arr (.c .z (.c .z (.c .z (.c .z .n)))) ⟨.z, (.s .z), (.s (.s .z)), trivial⟩, h⟩ rfl

set_option maxRecDepth 100000 in
set_option maxHeartbeats 4000000 in
theorem c_law12_TensorPermutes (F : NP) (w0 : World) (hF : ∀ k, F k → k < w0.heap.size) (t1 : GTensor) (order1 : List Int) (axis1 : Int) (from1 : Int) (to1 : Int) (a1 : Option Addr) (c1 : Nat) (a2 : Option Addr) (c2 : Nat) (a3 : Option Addr) (c3 : Nat) (hc : AllCl [Cl.sl (cInt .i64) a1 c1 t1.Dims, Cl.sl cGVal a2 c2 t1.Vals, Cl.sl (cInt .i64) a3 c3 order1, clPow10] F w0) (r : Bool)
  (h : m_law12_TensorPermutes t1 order1 axis1 from1 to1 = some r) :
  Calls Tryz.prog 8 #[(Value.agg #[(vi t1.Type_.Kind), (vi t1.Type_.Bits), (vi t1.Type_.Frac), (vi t1.Type_.Round), (vi t1.Type_.Over), (vs a1 t1.Dims.length c1), (vs a2 t1.Vals.length c2)]), (vs a3 order1.length c3), (vi axis1), (vi from1), (vi to1)] w0 fun e w => e = .returned (vb r) ∧ Ext w0 w ∧ AllCl [] F w := by
 refine enterK (l := [(Value.agg #[(vi t1.Type_.Kind), (vi t1.Type_.Bits), (vi t1.Type_.Frac), (vi t1.Type_.Round), (vi t1.Type_.Over), (vs a1 t1.Dims.length c1), (vs a2 t1.Vals.length c2)]), (vs a3 order1.length c3), (vi axis1), (vi from1), (vi to1)]) Tryz.func8 rfl Tryz.ntmps8 rfl ?_
 have hI := Bun.start hF hc
 clear hc
 rw [m_law12_TensorPermutes] at h
 refine sr ?_
 refine l_box (v := (Value.agg #[(vi t1.Type_.Kind), (vi t1.Type_.Bits), (vi t1.Type_.Frac), (vi t1.Type_.Round), (vi t1.Type_.Over), (vs a1 t1.Dims.length c1), (vs a2 t1.Vals.length c2)])) (cs := #[(vi t1.Type_.Kind), (vi t1.Type_.Bits), (vi t1.Type_.Frac), (vi t1.Type_.Round), (vi t1.Type_.Over), (vs a1 t1.Dims.length c1), (vs a2 t1.Vals.length c2)]) hI gn rfl rfl et rfl ?_
 clear hI; intro b1 c4 w1 hI
 obtain ⟨c5, hI⟩ := hI.relBox .z
 refine sac ?_
 refine nk ?_
 refine c_seq ?_
 refine sr ?_
 refine sq (y_loadN (l := [(vi t1.Type_.Kind), (vi t1.Type_.Bits), (vi t1.Type_.Frac), (vi t1.Type_.Round), (vi t1.Type_.Over), (vs a1 t1.Dims.length c1), (vs a2 t1.Vals.length c2)]) rfl et Tryz.underlying27 rfl size_27 (hI.kblk (l := [(vi t1.Type_.Kind), (vi t1.Type_.Bits), (vi t1.Type_.Frac), (vi t1.Type_.Round), (vi t1.Type_.Over), (vs a1 t1.Dims.length c1), (vs a2 t1.Vals.length c2)]) .z rfl).1) ?_
 obtain ⟨r1, hx1, h⟩ := bnd_some h
 refine s_call gn rfl (r_callF (vs := [(Value.agg #[(vi t1.Type_.Kind), (vi t1.Type_.Bits), (vi t1.Type_.Frac), (vi t1.Type_.Round), (vi t1.Type_.Over), (vs a1 t1.Dims.length c1), (vs a2 t1.Vals.length c2)]), (vi 1000)]) rfl ok_12 ⟨et, ⟨ev_const, trivial⟩⟩) (Calls.mono (c_law12_Small (Dj F c5) w1 hI.lt t1 1000 a1 c1 a2 c2 ⟨(hI.get (.s .z)), (hI.get (.s (.s .z))), trivial⟩ r1 hx1) ?_)
 rintro _ w2 ⟨rfl, hx2, hl1⟩
 refine ⟨_, rfl, ?_⟩
 replace hI := (hI.ext hx2)
 refine sq (y_not rfl et) ?_
 refine sm ?_
 refine s_gval (g_false rfl rfl rfl rfl) rfl (fun hc => (y_move rfl et)) ?_
 refine s_gval (g_false rfl rfl rfl rfl) rfl (fun hc => (y_lenl rfl Tryz.underlying24 (ev_gv et hc))) ?_
 refine s_gval (g_false rfl rfl rfl rfl) rfl (fun hc => (y_gtr rfl (ev_gv et hc) ev_const)) ?_
 refine sq (y_or rfl et et) ?_
 refine nk ?_
 refine c_cond (b := (!r1) || (decide (20 < (order1.length : Int)))) et (fun hb => ?_) (fun hb => ?_)
 ·replace h := ite_t hb h
  refine sr ?_
  obtain ⟨r2, hx3, h⟩ := bnd_some h
  refine s_call gn rfl (r_callF (vs := []) rfl ok_13 trivial) (Calls.mono (c_law12_examples (Dj F c5) w2 hI.lt ⟨(hI.get (.s (.s (.s (.s .z))))), trivial⟩ r2 hx3) ?_)
  rintro _ w3 ⟨rfl, hx4, hl2⟩
  refine ⟨_, rfl, ?_⟩
  replace hI := (hI.ext hx4)
  refine sa ?_
  refine nk ?_
  refine c_ret ?_
  obtain rfl := some_inj h
  exact q_ret (vs := [(vb r2)]) Tryz.results8 ⟨ev_tmp rfl rfl, trivial⟩ ⟨rfl, hI.ext0, hI.fin trivial⟩
 ·replace h := ite_f hb h
  refine c_skip ?_
  refine k_same ?_
  refine sr ?_
  refine sq (y_loadN (l := [(vi t1.Type_.Kind), (vi t1.Type_.Bits), (vi t1.Type_.Frac), (vi t1.Type_.Round), (vi t1.Type_.Over), (vs a1 t1.Dims.length c1), (vs a2 t1.Vals.length c2)]) rfl et Tryz.underlying27 rfl size_27 (hI.kblk (l := [(vi t1.Type_.Kind), (vi t1.Type_.Bits), (vi t1.Type_.Frac), (vi t1.Type_.Round), (vi t1.Type_.Over), (vs a1 t1.Dims.length c1), (vs a2 t1.Vals.length c2)]) .z rfl).1) ?_
  refine sm ?_
  obtain ⟨r3, hx5, h⟩ := bnd_some h
  refine s_call gn rfl (r_callF (vs := [(Value.agg #[(vi t1.Type_.Kind), (vi t1.Type_.Bits), (vi t1.Type_.Frac), (vi t1.Type_.Round), (vi t1.Type_.Over), (vs a1 t1.Dims.length c1), (vs a2 t1.Vals.length c2)]), (vs a3 order1.length c3)]) rfl ok_30 ⟨et, ⟨et, trivial⟩⟩) (Calls.mono (c_tensor_Permute (Dj F c5) w2 hI.lt t1 order1 a1 c1 a2 c2 a3 c3 ⟨(hI.get (.s .z)), (hI.get (.s (.s .z))), (hI.get (.s (.s (.s .z)))), trivial⟩ r3 hx5) ?_)
  rintro _ w4 ⟨a4, c6, a5, c7, rfl, hx6, hl3⟩
  refine ⟨_, rfl, ?_⟩
  replace hI := (hI.ext hx6).adds hl3
  refine sm ?_
  refine sq (y_extract rfl et rfl) ?_
  refine sq (y_extract rfl et rfl) ?_
  refine l_alloc (cs := #[(vi 0), (vi 0), (vi 0), (vi 0), (vi 0), (vs none 0 0), (vs none 0 0)]) hI gn rfl rfl zero_27 rfl ?_
  clear hI; intro b2 c8 w5 hI
  refine l_store (new := [(vi r3.1.Type_.Kind), (vi r3.1.Type_.Bits), (vi r3.1.Type_.Frac), (vi r3.1.Type_.Round), (vi r3.1.Type_.Over), (vs a4 r3.1.Dims.length c6), (vs a5 r3.1.Vals.length c7)]) (cs' := #[(vi r3.1.Type_.Kind), (vi r3.1.Type_.Bits), (vi r3.1.Type_.Frac), (vi r3.1.Type_.Round), (vi r3.1.Type_.Over), (vs a4 r3.1.Dims.length c6), (vs a5 r3.1.Vals.length c7)]) hI .z gn rfl rfl et et rfl size_27 rfl rfl rfl ?_
  clear hI; intro c9 w6 hI
  refine sa ?_
  refine nk ?_
  refine sr ?_
  refine sq (y_loadN (l := [(vi t1.Type_.Kind), (vi t1.Type_.Bits), (vi t1.Type_.Frac), (vi t1.Type_.Round), (vi t1.Type_.Over), (vs a1 t1.Dims.length c1), (vs a2 t1.Vals.length c2)]) rfl et Tryz.underlying27 rfl size_27 (hI.kblk (l := [(vi t1.Type_.Kind), (vi t1.Type_.Bits), (vi t1.Type_.Frac), (vi t1.Type_.Round), (vi t1.Type_.Over), (vs a1 t1.Dims.length c1), (vs a2 t1.Vals.length c2)]) (.s (.s .z)) rfl).1) ?_
  refine sm ?_
  obtain ⟨r4, hx7, h⟩ := bnd_some h
  refine s_call gn rfl (r_callF (vs := [(Value.agg #[(vi t1.Type_.Kind), (vi t1.Type_.Bits), (vi t1.Type_.Frac), (vi t1.Type_.Round), (vi t1.Type_.Over), (vs a1 t1.Dims.length c1), (vs a2 t1.Vals.length c2)]), (vs a3 order1.length c3)]) rfl ok_31 ⟨et, ⟨et, trivial⟩⟩) (Calls.mono (c_ref12_Permute (Dj F c9) w6 hI.lt t1 order1 a1 c1 a2 c2 a3 c3 ⟨(hI.get (.s (.s (.s .z)))), (hI.get (.s (.s (.s (.s .z))))), (hI.get (.s (.s (.s (.s (.s .z)))))), trivial⟩ r4 hx7) ?_)
  rintro _ w7 ⟨a6, c10, a7, c11, rfl, hx8, hl4⟩
  refine ⟨_, rfl, ?_⟩
  replace hI := (hI.ext hx8).adds hl4
  refine sm ?_
  refine sq (y_extract rfl et rfl) ?_
  refine sq (y_extract rfl et rfl) ?_
  refine l_alloc (cs := #[(vi 0), (vi 0), (vi 0), (vi 0), (vi 0), (vs none 0 0), (vs none 0 0)]) hI gn rfl rfl zero_27 rfl ?_
  clear hI; intro b3 c12 w8 hI
  refine l_store (new := [(vi r4.1.Type_.Kind), (vi r4.1.Type_.Bits), (vi r4.1.Type_.Frac), (vi r4.1.Type_.Round), (vi r4.1.Type_.Over), (vs a6 r4.1.Dims.length c10), (vs a7 r4.1.Vals.length c11)]) (cs' := #[(vi r4.1.Type_.Kind), (vi r4.1.Type_.Bits), (vi r4.1.Type_.Frac), (vi r4.1.Type_.Round), (vi r4.1.Type_.Over), (vs a6 r4.1.Dims.length c10), (vs a7 r4.1.Vals.length c11)]) hI .z gn rfl rfl et et rfl size_27 rfl rfl rfl ?_
  clear hI; intro c13 w9 hI
  refine sa ?_
  refine nk ?_
  refine sr ?_
  refine sq (y_loadN (l := [(vi t1.Type_.Kind), (vi t1.Type_.Bits), (vi t1.Type_.Frac), (vi t1.Type_.Round), (vi t1.Type_.Over), (vs a1 t1.Dims.length c1), (vs a2 t1.Vals.length c2)]) rfl et Tryz.underlying27 rfl size_27 (hI.kblk (l := [(vi t1.Type_.Kind), (vi t1.Type_.Bits), (vi t1.Type_.Frac), (vi t1.Type_.Round), (vi t1.Type_.Over), (vs a1 t1.Dims.length c1), (vs a2 t1.Vals.length c2)]) (.s (.s (.s (.s .z)))) rfl).1) ?_
  refine sm ?_
  refine sm ?_
  refine sm ?_
  obtain ⟨r5, hx9, h⟩ := bnd_some h
  refine s_call gn rfl (r_callF (vs := [(Value.agg #[(vi t1.Type_.Kind), (vi t1.Type_.Bits), (vi t1.Type_.Frac), (vi t1.Type_.Round), (vi t1.Type_.Over), (vs a1 t1.Dims.length c1), (vs a2 t1.Vals.length c2)]), (vi axis1), (vi from1), (vi to1)]) rfl ok_32 ⟨et, ⟨et, ⟨et, ⟨et, trivial⟩⟩⟩⟩) (Calls.mono (c_tensor_Slice (Dj F c13) w9 hI.lt t1 axis1 from1 to1 a1 c1 a2 c2 ⟨(hI.get (.s (.s (.s (.s (.s .z)))))), (hI.get (.s (.s (.s (.s (.s (.s .z))))))), trivial⟩ r5 hx9) ?_)
  rintro _ w10 ⟨a8, c14, a9, c15, rfl, hx10, hl5⟩
  refine ⟨_, rfl, ?_⟩
  replace hI := (hI.ext hx10).adds hl5
  refine sm ?_
  refine sq (y_extract rfl et rfl) ?_
  refine sq (y_extract rfl et rfl) ?_
  refine l_alloc (cs := #[(vi 0), (vi 0), (vi 0), (vi 0), (vi 0), (vs none 0 0), (vs none 0 0)]) hI gn rfl rfl zero_27 rfl ?_
  clear hI; intro b4 c16 w11 hI
  refine l_store (new := [(vi r5.1.Type_.Kind), (vi r5.1.Type_.Bits), (vi r5.1.Type_.Frac), (vi r5.1.Type_.Round), (vi r5.1.Type_.Over), (vs a8 r5.1.Dims.length c14), (vs a9 r5.1.Vals.length c15)]) (cs' := #[(vi r5.1.Type_.Kind), (vi r5.1.Type_.Bits), (vi r5.1.Type_.Frac), (vi r5.1.Type_.Round), (vi r5.1.Type_.Over), (vs a8 r5.1.Dims.length c14), (vs a9 r5.1.Vals.length c15)]) hI .z gn rfl rfl et et rfl size_27 rfl rfl rfl ?_
  clear hI; intro c17 w12 hI
  refine sa ?_
  refine s_nil ?_
  refine k_next (e := [(2, (vi axis1)), (3, (vi from1)), (4, (vi to1)), (5, (vp b1 0)), (11, (vp b2 0)), (12, (vi r3.2)), (13, (vp b3 0)), (14, (vi r4.2)), (15, (vp b4 0)), (16, (vi r5.2))]) ⟨rfl, rfl, rfl, rfl, rfl, rfl, rfl, rfl, rfl, rfl, trivial⟩ ?_
  refine sr ?_
  refine sq (y_loadN (l := [(vi t1.Type_.Kind), (vi t1.Type_.Bits), (vi t1.Type_.Frac), (vi t1.Type_.Round), (vi t1.Type_.Over), (vs a1 t1.Dims.length c1), (vs a2 t1.Vals.length c2)]) rfl et Tryz.underlying27 rfl size_27 (hI.kblk (l := [(vi t1.Type_.Kind), (vi t1.Type_.Bits), (vi t1.Type_.Frac), (vi t1.Type_.Round), (vi t1.Type_.Over), (vs a1 t1.Dims.length c1), (vs a2 t1.Vals.length c2)]) (.s (.s (.s (.s (.s (.s .z)))))) rfl).1) ?_
  refine sm ?_
  refine sm ?_
  refine sm ?_
  obtain ⟨r6, hx11, h⟩ := bnd_some h
  refine s_call gn rfl (r_callF (vs := [(Value.agg #[(vi t1.Type_.Kind), (vi t1.Type_.Bits), (vi t1.Type_.Frac), (vi t1.Type_.Round), (vi t1.Type_.Over), (vs a1 t1.Dims.length c1), (vs a2 t1.Vals.length c2)]), (vi axis1), (vi from1), (vi to1)]) rfl ok_33 ⟨et, ⟨et, ⟨et, ⟨et, trivial⟩⟩⟩⟩) (Calls.mono (c_ref12_Slice (Dj F c17) w12 hI.lt t1 axis1 from1 to1 a1 c1 a2 c2 ⟨(hI.get (.s (.s (.s (.s (.s (.s (.s .z)))))))), (hI.get (.s (.s (.s (.s (.s (.s (.s (.s .z))))))))), trivial⟩ r6 hx11) ?_)
  rintro _ w13 ⟨a10, c18, a11, c19, rfl, hx12, hl6⟩
  refine ⟨_, rfl, ?_⟩
  replace hI := (hI.ext hx12).adds hl6
  refine sm ?_
  refine sq (y_extract rfl et rfl) ?_
  refine sq (y_extract rfl et rfl) ?_
  refine l_alloc (cs := #[(vi 0), (vi 0), (vi 0), (vi 0), (vi 0), (vs none 0 0), (vs none 0 0)]) hI gn rfl rfl zero_27 rfl ?_
  clear hI; intro b5 c20 w14 hI
  refine l_store (new := [(vi r6.1.Type_.Kind), (vi r6.1.Type_.Bits), (vi r6.1.Type_.Frac), (vi r6.1.Type_.Round), (vi r6.1.Type_.Over), (vs a10 r6.1.Dims.length c18), (vs a11 r6.1.Vals.length c19)]) (cs' := #[(vi r6.1.Type_.Kind), (vi r6.1.Type_.Bits), (vi r6.1.Type_.Frac), (vi r6.1.Type_.Round), (vi r6.1.Type_.Over), (vs a10 r6.1.Dims.length c18), (vs a11 r6.1.Vals.length c19)]) hI .z gn rfl rfl et et rfl size_27 rfl rfl rfl ?_
  clear hI; intro c21 w15 hI
  refine sa ?_
  refine nk ?_
  refine sr ?_
  refine sq (y_loadN (l := [(vi r3.1.Type_.Kind), (vi r3.1.Type_.Bits), (vi r3.1.Type_.Frac), (vi r3.1.Type_.Round), (vi r3.1.Type_.Over), (vs a4 r3.1.Dims.length c6), (vs a5 r3.1.Vals.length c7)]) rfl et Tryz.underlying27 rfl size_27 (CellsAt.of_blk (hI.blk (.s (.s (.s .z)))) rfl)) ?_
  refine sq (y_loadN (l := [(vi r4.1.Type_.Kind), (vi r4.1.Type_.Bits), (vi r4.1.Type_.Frac), (vi r4.1.Type_.Round), (vi r4.1.Type_.Over), (vs a6 r4.1.Dims.length c10), (vs a7 r4.1.Vals.length c11)]) rfl et Tryz.underlying27 rfl size_27 (CellsAt.of_blk (hI.blk (.s (.s .z))) rfl)) ?_
  obtain ⟨r7, hx13, h⟩ := bnd_some h
  refine s_call gn rfl (r_callF (vs := [(Value.agg #[(vi r3.1.Type_.Kind), (vi r3.1.Type_.Bits), (vi r3.1.Type_.Frac), (vi r3.1.Type_.Round), (vi r3.1.Type_.Over), (vs a4 r3.1.Dims.length c6), (vs a5 r3.1.Vals.length c7)]), (Value.agg #[(vi r4.1.Type_.Kind), (vi r4.1.Type_.Bits), (vi r4.1.Type_.Frac), (vi r4.1.Type_.Round), (vi r4.1.Type_.Over), (vs a6 r4.1.Dims.length c10), (vs a7 r4.1.Vals.length c11)])]) rfl ok_16 ⟨et, ⟨et, trivial⟩⟩) (Calls.mono (c_base_Tensor (Dj F c21) w15 hI.lt r3.1 r4.1 a4 c6 a5 c7 a6 c10 a7 c11 ⟨(hI.get (.s (.s (.s (.s (.s (.s .z))))))), (hI.get (.s (.s (.s (.s (.s (.s (.s .z)))))))), (hI.get (.s (.s (.s (.s .z))))), (hI.get (.s (.s (.s (.s (.s .z)))))), trivial⟩ r7 hx13) ?_)
  rintro _ w16 ⟨rfl, hx14, hl7⟩
  refine ⟨_, rfl, ?_⟩
  replace hI := (hI.ext hx14)
  refine sm ?_
  refine s_gval (g_true rfl rfl rfl rfl) rfl (fun hc => (y_move rfl et)) ?_
  refine s_gval (g_true rfl rfl rfl rfl) rfl (fun hc => (y_move rfl et)) ?_
  refine s_gval (g_true rfl rfl rfl rfl) rfl (fun hc => (y_eql rfl (ev_gv et hc) (ev_gv et hc))) ?_
  refine sq (y_and rfl et et) ?_
  refine sm ?_
  refine s_gval (g_true rfl rfl rfl rfl) rfl (fun hc => (y_loadN (l := [(vi r5.1.Type_.Kind), (vi r5.1.Type_.Bits), (vi r5.1.Type_.Frac), (vi r5.1.Type_.Round), (vi r5.1.Type_.Over), (vs a8 r5.1.Dims.length c14), (vs a9 r5.1.Vals.length c15)]) rfl et Tryz.underlying27 rfl size_27 (CellsAt.of_blk (hI.blk (.s .z)) rfl))) ?_
  refine s_gval (g_true rfl rfl rfl rfl) rfl (fun hc => (y_loadN (l := [(vi r6.1.Type_.Kind), (vi r6.1.Type_.Bits), (vi r6.1.Type_.Frac), (vi r6.1.Type_.Round), (vi r6.1.Type_.Over), (vs a10 r6.1.Dims.length c18), (vs a11 r6.1.Vals.length c19)]) rfl et Tryz.underlying27 rfl size_27 (CellsAt.of_blk (hI.blk .z) rfl))) ?_
  obtain ⟨r8, hx15, h⟩ := bnd_some h
  replace hx15 := gd_some hx15
  refine s_gcallU (v := (vb r8)) (g_true rfl rfl rfl rfl) rfl (fun hc => (r_callF (vs := [(Value.agg #[(vi r5.1.Type_.Kind), (vi r5.1.Type_.Bits), (vi r5.1.Type_.Frac), (vi r5.1.Type_.Round), (vi r5.1.Type_.Over), (vs a8 r5.1.Dims.length c14), (vs a9 r5.1.Vals.length c15)]), (Value.agg #[(vi r6.1.Type_.Kind), (vi r6.1.Type_.Bits), (vi r6.1.Type_.Frac), (vi r6.1.Type_.Round), (vi r6.1.Type_.Over), (vs a10 r6.1.Dims.length c18), (vs a11 r6.1.Vals.length c19)])]) rfl ok_16 ⟨(ev_gv et hc), ⟨(ev_gv et hc), trivial⟩⟩)) (fun hc => (c_base_Tensor (Dj F c21) w16 hI.lt r5.1 r6.1 a8 c14 a9 c15 a10 c18 a11 c19 ⟨(hI.get (.s (.s .z))), (hI.get (.s (.s (.s .z)))), (hI.get .z), (hI.get (.s .z)), trivial⟩ r8 (hx15 hc)).mono fun _ _ k => ⟨k.1, k.2.1⟩) ?_
  intro w17 hx16; replace hI := hI.ext hx16
  refine sq (y_and rfl et et) ?_
  refine sm ?_
  refine s_gval (g_true rfl rfl rfl rfl) rfl (fun hc => (y_move rfl et)) ?_
  refine s_gval (g_true rfl rfl rfl rfl) rfl (fun hc => (y_move rfl et)) ?_
  refine s_gval (g_true rfl rfl rfl rfl) rfl (fun hc => (y_eql rfl (ev_gv et hc) (ev_gv et hc))) ?_
  refine sq (y_and rfl et et) ?_
  refine sm ?_
  obtain ⟨r9, hx17, h⟩ := bnd_some h
  replace hx17 := gd_some hx17
  refine s_gcallU (v := (vb r9)) (g_true rfl rfl rfl rfl) rfl (fun hc => (r_callF (vs := []) rfl ok_13 trivial)) (fun hc => (c_law12_examples (Dj F c21) w17 hI.lt ⟨(hI.get (.s (.s (.s (.s (.s (.s (.s (.s (.s (.s (.s (.s .z))))))))))))), trivial⟩ r9 (hx17 hc)).mono fun _ _ k => ⟨k.1, k.2.1⟩) ?_
  intro w18 hx18; replace hI := hI.ext hx18
  refine sq (y_and rfl et et) ?_
  refine sa ?_
  refine s_nil ?_
  refine k_next (e := [(10, (vb ((((r7 && (decide (r3.2 = r4.2))) && r8) && (decide (r5.2 = r6.2))) && r9)))]) ⟨rfl, trivial⟩ ?_
  refine c_ret ?_
  obtain rfl := some_inj h
  exact q_ret (vs := [(vb ((((r7 && (decide (r3.2 = r4.2))) && r8) && (decide (r5.2 = r6.2))) && r9))]) Tryz.results8 ⟨ev_tmp rfl rfl, trivial⟩ ⟨rfl, hI.ext0, hI.fin trivial⟩

end Go.Proofs.YtlakfanockhngaaGreatDoor
