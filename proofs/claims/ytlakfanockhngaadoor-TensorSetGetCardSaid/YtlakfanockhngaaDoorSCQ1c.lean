/- Each call returns what its plain function gives: printed by a program of my own; Lean checks it. -/
import Derived.Test.YtlakfanockhngaaDoorSCQ1b
namespace Go.Proofs.YtlakfanockhngaaDoor
open Go Go.RowKit Go.Vc
set_option linter.unusedVariables false
set_option linter.unusedSimpArgs false

set_option maxRecDepth 100000 in
set_option maxHeartbeats 4000000 in
theorem c_tensor_Set (F : NP) (w0 : World) (hF : ∀ k, F k → k < w0.heap.size) (t1 : GTensor) (v1 : GVal) (p1 : List Int) (a1 : Option Addr) (c1 : Nat) (a2 : Option Addr) (c2 : Nat) (a3 : Option Addr) (c3 : Nat) (hc : AllCl [Cl.sl (cInt .i64) a1 c1 t1.Dims, Cl.sl cGVal a2 c2 t1.Vals, Cl.sl (cInt .i64) a3 c3 p1] F w0) (r : GTensor × Int)
  (h : m_tensor_Set t1 v1 p1 = some r) :
  Calls Tryd.prog 8 #[(Value.agg #[(vi t1.Type_.Kind), (vi t1.Type_.Bits), (vi t1.Type_.Frac), (vi t1.Type_.Round), (vi t1.Type_.Over), (vs a1 t1.Dims.length c1), (vs a2 t1.Vals.length c2)]), (Value.agg #[(vi v1.N), (vi v1.D)]), (vs a3 p1.length c3)] w0 fun e w => ∃ (a4 : Option Addr) (c4 : Nat) (a5 : Option Addr) (c5 : Nat), e = .returned (Value.tuple #[(Value.agg #[(vi r.1.Type_.Kind), (vi r.1.Type_.Bits), (vi r.1.Type_.Frac), (vi r.1.Type_.Round), (vi r.1.Type_.Over), (vs a4 r.1.Dims.length c4), (vs a5 r.1.Vals.length c5)]), (vi r.2)]) ∧ Ext w0 w ∧ AllCl [Cl.sl (cInt .i64) a4 c4 r.1.Dims, Cl.sl cGVal a5 c5 r.1.Vals] F w := by
 refine enterK (l := [(Value.agg #[(vi t1.Type_.Kind), (vi t1.Type_.Bits), (vi t1.Type_.Frac), (vi t1.Type_.Round), (vi t1.Type_.Over), (vs a1 t1.Dims.length c1), (vs a2 t1.Vals.length c2)]), (Value.agg #[(vi v1.N), (vi v1.D)]), (vs a3 p1.length c3)]) Tryd.func8 rfl Tryd.ntmps8 rfl ?_
 have hI := Bun.start hF hc
 clear hc
 rw [m_tensor_Set] at h
 refine sr ?_
 refine l_box (v := (Value.agg #[(vi t1.Type_.Kind), (vi t1.Type_.Bits), (vi t1.Type_.Frac), (vi t1.Type_.Round), (vi t1.Type_.Over), (vs a1 t1.Dims.length c1), (vs a2 t1.Vals.length c2)])) (cs := #[(vi t1.Type_.Kind), (vi t1.Type_.Bits), (vi t1.Type_.Frac), (vi t1.Type_.Round), (vi t1.Type_.Over), (vs a1 t1.Dims.length c1), (vs a2 t1.Vals.length c2)]) hI gn rfl rfl et rfl ?_
 clear hI; intro b1 c6 w1 hI
 obtain ⟨c7, hI⟩ := hI.relBox .z
 refine l_box (v := (Value.agg #[(vi v1.N), (vi v1.D)])) (cs := #[(vi v1.N), (vi v1.D)]) hI gn rfl rfl et rfl ?_
 clear hI; intro b2 c8 w2 hI
 obtain ⟨c9, hI⟩ := hI.relBox .z
 refine l_alloc (cs := #[(vi 0), (vi 0), (vi 0), (vi 0), (vi 0), (vs none 0 0), (vs none 0 0)]) hI gn rfl rfl zero_27 rfl ?_
 clear hI; intro b3 c10 w3 hI
 refine sac ?_
 refine nk ?_
 refine sr ?_
 refine sq (y_loadN (l := [(vi t1.Type_.Kind), (vi t1.Type_.Bits), (vi t1.Type_.Frac), (vi t1.Type_.Round), (vi t1.Type_.Over), (vs a1 t1.Dims.length c1), (vs a2 t1.Vals.length c2)]) rfl et Tryd.underlying27 rfl size_27 (hI.kblk (l := [(vi t1.Type_.Kind), (vi t1.Type_.Bits), (vi t1.Type_.Frac), (vi t1.Type_.Round), (vi t1.Type_.Over), (vs a1 t1.Dims.length c1), (vs a2 t1.Vals.length c2)]) (.s .z) rfl).1) ?_
 refine sm ?_
 obtain ⟨r1, hx1, h⟩ := bnd_some h
 refine s_call gn rfl (r_callF (vs := [(Value.agg #[(vi t1.Type_.Kind), (vi t1.Type_.Bits), (vi t1.Type_.Frac), (vi t1.Type_.Round), (vi t1.Type_.Over), (vs a1 t1.Dims.length c1), (vs a2 t1.Vals.length c2)]), (vs a3 p1.length c3)]) rfl ok_22 ⟨et, ⟨et, trivial⟩⟩) (Calls.mono (c_tensor_locate (Dj F c10) w3 hI.lt t1 p1 a1 c1 a2 c2 a3 c3 ⟨(hI.get (.s (.s .z))), (hI.get (.s (.s (.s .z)))), (hI.get (.s (.s (.s (.s .z))))), trivial⟩ r1 hx1) ?_)
 rintro _ w4 ⟨rfl, hx2, hl1⟩
 refine ⟨_, rfl, ?_⟩
 replace hI := (hI.ext hx2)
 refine sm ?_
 refine sq (y_extract rfl et rfl) ?_
 refine sq (y_extract rfl et rfl) ?_
 refine sa ?_
 refine sa ?_
 refine nk ?_
 refine c_seq ?_
 refine sr ?_
 refine sm ?_
 refine sq (y_neq rfl et ev_const) ?_
 refine nk ?_
 refine c_cond (b := !decide (r1.2 = 0)) et (fun hb => ?_) (fun hb => ?_)
 ·replace h := ite_t hb h
  refine sr ?_
  refine sq (y_build (vs := []) (cs := #[(vi 0), (vi 0), (vi 0), (vi 0), (vi 0), (vs none 0 0), (vs none 0 0)]) rfl trivial (by kernel_rfl)) ?_
  refine sm ?_
  refine l_store (new := [(vi 0), (vi 0), (vi 0), (vi 0), (vi 0), (vs none 0 0), (vs none 0 0)]) (cs' := #[(vi 0), (vi 0), (vi 0), (vi 0), (vi 0), (vs none 0 0), (vs none 0 0)]) hI .z gn rfl rfl et et rfl size_27 rfl rfl rfl ?_
  clear hI; intro c11 w5 hI
  refine sa ?_
  refine nk ?_
  refine c_ret ?_
  have hI := hI.add (c := Cl.sl (cInt .i64) none 0 ([] : List Int)) SlC.nil
  have hI := hI.add (c := Cl.sl cGVal none 0 ([] : List GVal)) SlC.nil
  obtain rfl := some_inj h
  exact q_ret (vs := [(Value.agg #[(vi 0), (vi 0), (vi 0), (vi 0), (vi 0), (vs none 0 0), (vs none 0 0)]), (vi r1.2)]) Tryd.results8 ⟨⟨_, ev_tmp rfl rfl, load_agg (l := [(vi 0), (vi 0), (vi 0), (vi 0), (vi 0), (vs none 0 0), (vs none 0 0)]) Tryd.underlying27 rfl size_27 (CellsAt.of_blk (hI.blk .z) rfl)⟩, ⟨ev_tmp rfl rfl, trivial⟩⟩ ⟨none, 0, none, 0, rfl, hI.ext0, hI.fin ⟨(.s .z), .z, trivial⟩⟩
 ·replace h := ite_f hb h
  refine c_skip ?_
  refine k_same ?_
  refine c_seq ?_
  refine sr ?_
  refine sq (y_fieldAddr rfl et Tryd.underlying27 rfl size_23 rfl) ?_
  refine sq (y_loadN (l := [(vi t1.Type_.Kind), (vi t1.Type_.Bits), (vi t1.Type_.Frac), (vi t1.Type_.Round), (vi t1.Type_.Over)]) rfl et Tryd.underlying23 rfl size_23 (hI.kblk (l := [(vi t1.Type_.Kind), (vi t1.Type_.Bits), (vi t1.Type_.Frac), (vi t1.Type_.Round), (vi t1.Type_.Over)]) (.s .z) rfl).1) ?_
  refine sq (y_loadN (l := [(vi v1.N), (vi v1.D)]) rfl et Tryd.underlying29 rfl size_29 (hI.kblk (l := [(vi v1.N), (vi v1.D)]) .z rfl).1) ?_
  obtain ⟨r2, hx3, h⟩ := bnd_some h
  refine s_call gn rfl (r_callF (vs := [(Value.agg #[(vi t1.Type_.Kind), (vi t1.Type_.Bits), (vi t1.Type_.Frac), (vi t1.Type_.Round), (vi t1.Type_.Over)]), (Value.agg #[(vi v1.N), (vi v1.D)])]) rfl ok_23 ⟨et, ⟨et, trivial⟩⟩) (Calls.mono (c_value_Valid (Dj F c10) w4 hI.lt t1.Type_ v1 trivial r2 hx3) ?_)
  rintro _ w6 ⟨rfl, hx4, hl2⟩
  refine ⟨_, rfl, ?_⟩
  replace hI := (hI.ext hx4)
  refine sq (y_not rfl et) ?_
  refine nk ?_
  refine c_cond (b := !r2) et (fun hb => ?_) (fun hb => ?_)
  ·replace h := ite_t hb h
   refine sr ?_
   refine sq (y_build (vs := []) (cs := #[(vi 0), (vi 0), (vi 0), (vi 0), (vi 0), (vs none 0 0), (vs none 0 0)]) rfl trivial (by kernel_rfl)) ?_
   refine l_store (new := [(vi 0), (vi 0), (vi 0), (vi 0), (vi 0), (vs none 0 0), (vs none 0 0)]) (cs' := #[(vi 0), (vi 0), (vi 0), (vi 0), (vi 0), (vs none 0 0), (vs none 0 0)]) hI .z gn rfl rfl et et rfl size_27 rfl rfl rfl ?_
   clear hI; intro c12 w7 hI
   refine sac ?_
   refine nk ?_
   refine c_ret ?_
   have hI := hI.add (c := Cl.sl (cInt .i64) none 0 ([] : List Int)) SlC.nil
   have hI := hI.add (c := Cl.sl cGVal none 0 ([] : List GVal)) SlC.nil
   obtain rfl := some_inj h
   exact q_ret (vs := [(Value.agg #[(vi 0), (vi 0), (vi 0), (vi 0), (vi 0), (vs none 0 0), (vs none 0 0)]), (vi 1)]) Tryd.results8 ⟨⟨_, ev_tmp rfl rfl, load_agg (l := [(vi 0), (vi 0), (vi 0), (vi 0), (vi 0), (vs none 0 0), (vs none 0 0)]) Tryd.underlying27 rfl size_27 (CellsAt.of_blk (hI.blk .z) rfl)⟩, ⟨ev_tmp rfl rfl, trivial⟩⟩ ⟨none, 0, none, 0, rfl, hI.ext0, hI.fin ⟨(.s .z), .z, trivial⟩⟩
  ·replace h := ite_f hb h
   refine c_skip ?_
   refine k_same ?_
   refine sr ?_
   refine sq (y_loadN (l := [(vi t1.Type_.Kind), (vi t1.Type_.Bits), (vi t1.Type_.Frac), (vi t1.Type_.Round), (vi t1.Type_.Over), (vs a1 t1.Dims.length c1), (vs a2 t1.Vals.length c2)]) rfl et Tryd.underlying27 rfl size_27 (hI.kblk (l := [(vi t1.Type_.Kind), (vi t1.Type_.Bits), (vi t1.Type_.Frac), (vi t1.Type_.Round), (vi t1.Type_.Over), (vs a1 t1.Dims.length c1), (vs a2 t1.Vals.length c2)]) (.s .z) rfl).1) ?_
   obtain ⟨c13, f1, hB, hl3, hk1⟩ := hI.hands (.r .n)
   obtain ⟨r3, hx5, h⟩ := bnd_some h
   try dsimp only at h
   refine s_call gn rfl (r_callF (vs := [(Value.agg #[(vi t1.Type_.Kind), (vi t1.Type_.Bits), (vi t1.Type_.Frac), (vi t1.Type_.Round), (vi t1.Type_.Over), (vs a1 t1.Dims.length c1), (vs a2 t1.Vals.length c2)])]) rfl ok_24 ⟨et, trivial⟩) (Calls.mono (c_tensor_clone_o c13 f1 w6 t1 a1 c1 a2 c2 (hB.subs ⟨(.s (.s .z)), (.s (.s (.s .z))), trivial⟩) _ hx5) ?_)
   rintro _ w8 ⟨a6, c14, a7, c15, c16, rfl, hB2⟩
   obtain ⟨c17, hs1, hI⟩ := hk1 _ _ _ _ hB2
   replace hI : Bun noM F w0 c17 w8 [MO.row (cInt .i64) 3 a6 c14 r3.Dims, MO.row cGVal 29 a7 c15 r3.Vals, MO.box b3 27 #[(vi 0), (vi 0), (vi 0), (vi 0), (vi 0), (vs none 0 0), (vs none 0 0)]] [Cl.blk b2 29 #[(vi v1.N), (vi v1.D)], Cl.blk b1 27 #[(vi t1.Type_.Kind), (vi t1.Type_.Bits), (vi t1.Type_.Frac), (vi t1.Type_.Round), (vi t1.Type_.Over), (vs a1 t1.Dims.length c1), (vs a2 t1.Vals.length c2)], Cl.sl (cInt .i64) a1 c1 t1.Dims, Cl.sl cGVal a2 c2 t1.Vals, Cl.sl (cInt .i64) a3 c3 p1] := hI
   refine ⟨_, rfl, ?_⟩
   refine l_alloc (cs := #[(vi 0), (vi 0), (vi 0), (vi 0), (vi 0), (vs none 0 0), (vs none 0 0)]) hI gn rfl rfl zero_27 rfl ?_
   clear hI; intro b4 c18 w9 hI
   refine l_store (new := [(vi r3.Type_.Kind), (vi r3.Type_.Bits), (vi r3.Type_.Frac), (vi r3.Type_.Round), (vi r3.Type_.Over), (vs a6 r3.Dims.length c14), (vs a7 r3.Vals.length c15)]) (cs' := #[(vi r3.Type_.Kind), (vi r3.Type_.Bits), (vi r3.Type_.Frac), (vi r3.Type_.Round), (vi r3.Type_.Over), (vs a6 r3.Dims.length c14), (vs a7 r3.Vals.length c15)]) hI .z gn rfl rfl et et rfl size_27 rfl rfl rfl ?_
   clear hI; intro c19 w10 hI
   refine nk ?_
   refine sr ?_
   refine sq (y_fieldAddr rfl et Tryd.underlying27 rfl size_25 rfl) ?_
   refine sq (y_load1 (v := (vs a7 r3.Vals.length c15)) rfl et Tryd.underlying25 rfl (CellsAt.of_blk (hI.blk .z) rfl)) ?_
   refine sm ?_
   refine sq (y_loadN (l := [(vi v1.N), (vi v1.D)]) rfl et Tryd.underlying29 rfl size_29 (hI.kblk (l := [(vi v1.N), (vi v1.D)]) .z rfl).1) ?_
   obtain ⟨ho1, h⟩ := chk_some h
   obtain ⟨ad1, hA1⟩ := hI.addr (.s (.s .z)) ho1
   refine sq (y_indexAddr rfl Tryd.underlying25 size_29 et et ho1 hA1) ?_
   refine l_storeRow (p := Int.toNat r1.1) (new := [(vi v1.N), (vi v1.D)]) (off := 0) (x' := v1) hI (.s (.s .z)) gn rfl rfl (by have := ho1; omega) hA1 rfl et et rfl size_29 rfl (by show 0 + 2 ≤ 2; omega) (fun _ cs0 _ hr0 => by rw [spl_full (by have e := Cod.len _ hr0; exact e)]; exact rfl) ?_
   clear hI; intro c20 w11 hI
   refine s_nil ?_
   replace hI : Bun noM F w0 c20 w11 [MO.box b4 27 #[(vi r3.Type_.Kind), (vi r3.Type_.Bits), (vi r3.Type_.Frac), (vi r3.Type_.Round), (vi r3.Type_.Over), (vs a6 r3.Dims.length c14), (vs a7 (r3.Vals.set (Int.toNat r1.1) v1).length c15)], MO.row (cInt .i64) 3 a6 c14 r3.Dims, MO.row cGVal 29 a7 c15 (r3.Vals.set (Int.toNat r1.1) v1), MO.box b3 27 #[(vi 0), (vi 0), (vi 0), (vi 0), (vi 0), (vs none 0 0), (vs none 0 0)]] [Cl.blk b2 29 #[(vi v1.N), (vi v1.D)], Cl.blk b1 27 #[(vi t1.Type_.Kind), (vi t1.Type_.Bits), (vi t1.Type_.Frac), (vi t1.Type_.Round), (vi t1.Type_.Over), (vs a1 t1.Dims.length c1), (vs a2 t1.Vals.length c2)], Cl.sl (cInt .i64) a1 c1 t1.Dims, Cl.sl cGVal a2 c2 t1.Vals, Cl.sl (cInt .i64) a3 c3 p1] := by simpa only [List.length_set, List.cons_append, List.nil_append] using hI
   refine k_next (e := [(6, (vp b3 0)), (10, (vp b4 0))]) ⟨rfl, rfl, trivial⟩ ?_
   refine sr ?_
   refine sq (y_loadN (l := [(vi r3.Type_.Kind), (vi r3.Type_.Bits), (vi r3.Type_.Frac), (vi r3.Type_.Round), (vi r3.Type_.Over), (vs a6 r3.Dims.length c14), (vs a7 (r3.Vals.set (Int.toNat r1.1) v1).length c15)]) rfl et Tryd.underlying27 rfl size_27 (CellsAt.of_blk (hI.blk .z) rfl)) ?_
   refine l_store (new := [(vi r3.Type_.Kind), (vi r3.Type_.Bits), (vi r3.Type_.Frac), (vi r3.Type_.Round), (vi r3.Type_.Over), (vs a6 r3.Dims.length c14), (vs a7 (r3.Vals.set (Int.toNat r1.1) v1).length c15)]) (cs' := #[(vi r3.Type_.Kind), (vi r3.Type_.Bits), (vi r3.Type_.Frac), (vi r3.Type_.Round), (vi r3.Type_.Over), (vs a6 r3.Dims.length c14), (vs a7 (r3.Vals.set (Int.toNat r1.1) v1).length c15)]) hI (.s (.s (.s .z))) gn rfl rfl et et rfl size_27 rfl rfl rfl ?_
   clear hI; intro c21 w12 hI
   refine sac ?_
   refine nk ?_
   refine c_ret ?_
   obtain ⟨c22, hI⟩ := hI.release (.s .z)
   obtain ⟨c23, hI⟩ := hI.release (.s .z)
   obtain rfl := some_inj h
   exact q_ret (vs := [(Value.agg #[(vi r3.Type_.Kind), (vi r3.Type_.Bits), (vi r3.Type_.Frac), (vi r3.Type_.Round), (vi r3.Type_.Over), (vs a6 r3.Dims.length c14), (vs a7 (r3.Vals.set (Int.toNat r1.1) v1).length c15)]), (vi 0)]) Tryd.results8 ⟨⟨_, ev_tmp rfl rfl, load_agg (l := [(vi r3.Type_.Kind), (vi r3.Type_.Bits), (vi r3.Type_.Frac), (vi r3.Type_.Round), (vi r3.Type_.Over), (vs a6 r3.Dims.length c14), (vs a7 (r3.Vals.set (Int.toNat r1.1) v1).length c15)]) Tryd.underlying27 rfl size_27 (CellsAt.of_blk (hI.blk (.s .z)) rfl)⟩, ⟨ev_tmp rfl rfl, trivial⟩⟩ ⟨a6, c14, a7, c15, rfl, hI.ext0, hI.fin ⟨(.s .z), .z, trivial⟩⟩

set_option maxRecDepth 100000 in
set_option maxHeartbeats 4000000 in
theorem c_ref12_Point (F : NP) (w0 : World) (hF : ∀ k, F k → k < w0.heap.size) (d1 : List Int) (at1 : Int) (a1 : Option Addr) (c1 : Nat) (hc : AllCl [Cl.sl (cInt .i64) a1 c1 d1] F w0) (r : List Int)
  (h : m_ref12_Point d1 at1 = some r) :
  Calls Tryd.prog 9 #[(vs a1 d1.length c1), (vi at1)] w0 fun e w => ∃ (a2 : Option Addr) (c2 : Nat), e = .returned (vs a2 r.length c2) ∧ Ext w0 w ∧ AllCl [Cl.sl (cInt .i64) a2 c2 r] F w := by
 refine enterK (l := [(vs a1 d1.length c1), (vi at1)]) Tryd.func9 rfl Tryd.ntmps9 rfl ?_
 have hI := Bun.start hF hc
 clear hc
 rw [m_ref12_Point] at h
 refine sr ?_
 refine sac ?_
 refine nk ?_
 refine sr ?_
 refine sm ?_
 refine sq (y_lenl rfl Tryd.underlying24 et) ?_
 obtain ⟨zs1, hx1, h⟩ := bnd_some h
 refine l_make (c := (cInt .i64)) hI hx1 gn  rfl rfl Tryd.underlying24 info_3 rfl rfl et et rfl ?_
 clear hI; intro b1 c3 w1 hI
 refine sa ?_
 refine nk ?_
 refine c_seq ?_
 refine sr ?_
 refine sm ?_
 refine sq (y_lenl rfl Tryd.underlying24 et) ?_
 refine sq (y_sub rfl et ev_const) ?_
 obtain ⟨i1, hx2, h⟩ := bnd_some h
 refine sq (binU (y_assign rfl et) (congrArg (Value.int .i64) (some_inj hx2))) ?_
 refine nk ?_
 refine c_block ?_
 refine c_loop (α := Nat × Int × (List Int) × Int × (Option Addr) × Nat) (fun x => fun w => ∃ C, Bun noM F w0 C w [MO.row (cInt .i64) 3 (x.2.2.2.2.1) (x.2.2.2.2.2) (x.2.2.1)] [Cl.sl (cInt .i64) a1 c1 d1] ∧ m_ref12_Point_l1 d1 (x.1) (x.2.1) (x.2.2.1) (x.2.2.2.1) = some r) (fun x _ => x.1) (fun x => [(0, (vs a1 d1.length c1)), (1, (vi (x.2.1))), (5, (vs (x.2.2.2.2.1) (x.2.2.1).length (x.2.2.2.2.2))), (6, (vi (x.2.2.2.1)))]) (fu, at1, zs1, i1, some ⟨b1, 0, none⟩, ((d1.length : Int)).toNat) ⟨_, hI.arr (.c .z .n) ⟨.z, trivial⟩, h⟩ ⟨rfl, rfl, rfl, rfl, trivial⟩ ?_
 clear h hI; rintro ⟨fuel1, at2, p1, i2, a3, c4⟩ w2 ⟨c5, hI, h⟩
 dsimp only at hI h
 rcases fuel1 with _ | fuel1
 ·rw [m_ref12_Point_l1] at h; cases h
 rw [m_ref12_Point_l1] at h
 refine c_sub (e := [(0, (vs a1 d1.length c1)), (1, (vi at2)), (5, (vs a3 p1.length c4)), (6, (vi i2))]) ⟨rfl, rfl, rfl, rfl, trivial⟩ ?_
 refine c_seq ?_
 refine sr ?_
 refine sm ?_
 refine sq (y_geq rfl et ev_const) ?_
 refine nk ?_
 refine c_cond (b := decide (0 ≤ i2)) et (fun hb => ?_) (fun hb => ?_)
 ·replace h := ite_t hb h
  refine c_skip ?_
  refine k_same ?_
  refine c_seq ?_
  refine c_block ?_
  refine sr ?_
  refine sm ?_
  refine sm ?_
  refine sm ?_
  refine sm ?_
  refine sm ?_
  obtain ⟨e1, hx3, h⟩ := bnd_some h
  obtain ⟨ad1, cs1, hA1, hr1, hq1⟩ := hI.clat .z hx3
  obtain rfl : cs1 = [(vi e1)] := hr1
  refine sq (y_indexAddr rfl Tryd.underlying24 size_3 et et (lat_bd hx3) hA1) ?_
  refine sq (y_load1 (v := (vi e1)) rfl et Tryd.underlying3 rfl hq1.1) ?_
  obtain ⟨ho1, h⟩ := chk_some h
  refine sq (y_rem rfl et et ho1) ?_
  obtain ⟨ho2, h⟩ := chk_some h
  obtain ⟨ad2, hA2⟩ := hI.addr .z ho2
  refine sq (y_indexAddr rfl Tryd.underlying24 size_3 et et ho2 hA2) ?_
  refine l_storeRow (p := Int.toNat i2) (new := [(vi (Int.tmod at2 e1))]) (off := 0) (x' := Int.tmod at2 e1) hI .z gn rfl rfl (by have := ho2; omega) hA2 rfl et et rfl size_3 rfl (by show 0 + 1 ≤ 1; omega) (fun _ cs0 _ hr0 => by rw [spl_full (by have e := Cod.len _ hr0; exact e)]; exact rfl) ?_
  clear hI; intro c6 w3 hI
  refine s_nil ?_
  refine k_next (e := [(0, (vs a1 d1.length c1)), (1, (vi at2)), (5, (vs a3 (p1.set (Int.toNat i2) (Int.tmod at2 e1)).length c4)), (6, (vi i2))]) ⟨rfl, rfl, (lookset rfl), rfl, trivial⟩ ?_
  refine c_region rfl ?_
  refine sm ?_
  refine sm ?_
  refine sm ?_
  obtain ⟨e2, hx4, h⟩ := bnd_some h
  obtain ⟨ad3, cs2, hA3, hr2, hq2⟩ := hI.clat .z hx4
  obtain rfl : cs2 = [(vi e2)] := hr2
  refine sq (y_indexAddr rfl Tryd.underlying24 size_3 et et (lat_bd hx4) hA3) ?_
  refine sq (y_load1 (v := (vi e2)) rfl et Tryd.underlying3 rfl hq2.1) ?_
  obtain ⟨ho3, h⟩ := chk_some h
  refine sq (y_quo rfl et et ho3) ?_
  refine sa ?_
  refine nk ?_
  refine c_region rfl ?_
  refine sm ?_
  refine sq (y_sub rfl et ev_const) ?_
  refine sa ?_
  refine s_nil ?_
  exact k_loop (fuel1, wi64 (Int.tdiv at2 e2), p1.set (Int.toNat i2) (Int.tmod at2 e1), wi64 (i2 - 1), a3, c4) ⟨rfl, rfl, rfl, rfl, trivial⟩ ⟨_, hI.arr (.c .z .n) ⟨.z, trivial⟩, h⟩ (Nat.lt_succ_self _)
 ·replace h := ite_f hb h
  refine c_exit ?_
  refine k_in ?_
  refine k_same ?_
  refine sr ?_
  refine sm ?_
  refine sa ?_
  refine nk ?_
  refine c_ret ?_
  obtain ⟨c7, hI⟩ := hI.release .z
  obtain rfl := some_inj h
  exact q_ret (vs := [(vs a3 p1.length c4)]) Tryd.results9 ⟨ev_tmp rfl rfl, trivial⟩ ⟨a3, c4, rfl, hI.ext0, hI.fin ⟨.z, trivial⟩⟩

set_option maxRecDepth 100000 in
set_option maxHeartbeats 4000000 in
theorem c_base_Ints (F : NP) (w0 : World) (hF : ∀ k, F k → k < w0.heap.size) (a1 : List Int) (b1 : List Int) (a2 : Option Addr) (c1 : Nat) (a3 : Option Addr) (c2 : Nat) (hc : AllCl [Cl.sl (cInt .i64) a2 c1 a1, Cl.sl (cInt .i64) a3 c2 b1] F w0) (r : Bool)
  (h : m_base_Ints a1 b1 = some r) :
  Calls Tryd.prog 11 #[(vs a2 a1.length c1), (vs a3 b1.length c2)] w0 fun e w => e = .returned (vb r) ∧ Ext w0 w ∧ AllCl [] F w := by
 refine enterK (l := [(vs a2 a1.length c1), (vs a3 b1.length c2)]) Tryd.func11 rfl Tryd.ntmps11 rfl ?_
 have hI := Bun.start hF hc
 clear hc
 rw [m_base_Ints] at h
 refine sr ?_
 refine sac ?_
 refine nk ?_
 refine c_seq ?_
 refine sr ?_
 refine sm ?_
 refine sq (y_lenl rfl Tryd.underlying24 et) ?_
 refine sm ?_
 refine sq (y_lenl rfl Tryd.underlying24 et) ?_
 refine sq (y_neq rfl et et) ?_
 refine nk ?_
 refine c_cond (b := !decide ((a1.length : Int) = (b1.length : Int))) et (fun hb => ?_) (fun hb => ?_)
 ·replace h := ite_t hb h
  refine sr ?_
  refine sac ?_
  refine nk ?_
  refine c_ret ?_
  obtain rfl := some_inj h
  exact q_ret (vs := [(vb false)]) Tryd.results11 ⟨ev_tmp rfl rfl, trivial⟩ ⟨rfl, hI.ext0, hI.fin trivial⟩
 ·replace h := ite_f hb h
  refine c_skip ?_
  refine k_same ?_
  refine c_seq ?_
  refine sr ?_
  refine sac ?_
  refine nk ?_
  refine c_block ?_
  refine c_loop (α := Nat × Int) (fun x => fun w => ∃ C, Bun noM F w0 C w [] [Cl.sl (cInt .i64) a2 c1 a1, Cl.sl (cInt .i64) a3 c2 b1] ∧ m_base_Ints_l1 a1 b1 (x.1) (x.2) = some r) (fun x _ => x.1) (fun x => [(0, (vs a2 a1.length c1)), (1, (vs a3 b1.length c2)), (5, (vi (x.2)))]) (fu, 0) ⟨_, hI.arr .n ⟨.z, (.s .z), trivial⟩, h⟩ ⟨rfl, rfl, rfl, trivial⟩ ?_
  clear h hI; rintro ⟨fuel1, i1⟩ w1 ⟨c3, hI, h⟩
  dsimp only at hI h
  rcases fuel1 with _ | fuel1
  ·rw [m_base_Ints_l1] at h; cases h
  rw [m_base_Ints_l1] at h
  refine c_sub (e := [(0, (vs a2 a1.length c1)), (1, (vs a3 b1.length c2)), (5, (vi i1))]) ⟨rfl, rfl, rfl, trivial⟩ ?_
  refine c_seq ?_
  refine sr ?_
  refine sm ?_
  refine sm ?_
  refine sq (y_lenl rfl Tryd.underlying24 et) ?_
  refine sq (y_lss rfl et et) ?_
  refine nk ?_
  refine c_cond (b := decide (i1 < (a1.length : Int))) et (fun hb => ?_) (fun hb => ?_)
  ·replace h := ite_t hb h
   refine c_skip ?_
   refine k_same ?_
   refine c_seq ?_
   refine c_block ?_
   refine c_seq ?_
   refine c_drawX [] false (.c (0, .q) (.c (1, .q) (.c (2, .q) (.c (3, .q) (.c (4, .q) (.c (5, .q) (.c (6, .q) (.c (7, .q) (.c (8, .q) .n))))))))) hI (by kernel_rfl) (by kernel_rfl) ?_
   clear hI; intro w2 hI
   refine a_q rfl gn rfl (fun w' => (y_move rfl et)) ?_
   refine a_q rfl gn rfl (fun w' => (y_move rfl et)) ?_
   obtain ⟨e1, hx1, h⟩ := bnd_some h
   obtain ⟨ad1, cs1, hA1, hr1, hq1⟩ := hI.clat .z hx1
   obtain rfl : cs1 = [(vi e1)] := hr1
   refine a_q rfl gn rfl (fun w' => (y_indexAddr rfl Tryd.underlying24 size_3 et et (lat_bd hx1) hA1)) ?_
   refine a_read rfl gn rfl (fun w' hw' => (y_load1 (v := (vi e1)) rfl et Tryd.underlying3 rfl (hq1.at_ (SX.any rfl hw')))) (by kernel_rfl) ?_
   refine a_q rfl gn rfl (fun w' => (y_move rfl et)) ?_
   refine a_q rfl gn rfl (fun w' => (y_move rfl et)) ?_
   obtain ⟨e2, hx2, h⟩ := bnd_some h
   obtain ⟨ad2, cs2, hA2, hr2, hq2⟩ := hI.clat (.s .z) hx2
   obtain rfl : cs2 = [(vi e2)] := hr2
   refine a_q rfl gn rfl (fun w' => (y_indexAddr rfl Tryd.underlying24 size_3 et et (lat_bd hx2) hA2)) ?_
   refine a_read rfl gn rfl (fun w' hw' => (y_load1 (v := (vi e2)) rfl et Tryd.underlying3 rfl (hq2.at_ (SX.any rfl hw')))) (by kernel_rfl) ?_
   refine a_q rfl gn rfl (fun w' => (y_neq rfl et et)) ?_
   refine a_nil ?_
   refine k_same ?_
   refine c_cond (b := !decide (e1 = e2)) et (fun hb => ?_) (fun hb => ?_)
   ·replace h := ite_t hb h
    refine sr ?_
    refine sac ?_
    refine nk ?_
    refine c_ret ?_
    obtain rfl := some_inj h
    exact q_ret (vs := [(vb false)]) Tryd.results11 ⟨ev_tmp rfl rfl, trivial⟩ ⟨rfl, hI.ext0, hI.fin trivial⟩
   ·replace h := ite_f hb h
    refine c_skip ?_
    refine k_same ?_
    refine c_region rfl ?_
    refine sm ?_
    refine sq (y_add rfl et ev_const) ?_
    refine sa ?_
    refine s_nil ?_
    exact k_loop (fuel1, wi64 (i1 + 1)) ⟨rfl, rfl, rfl, trivial⟩ ⟨_, hI.arr .n ⟨.z, (.s .z), trivial⟩, h⟩ (Nat.lt_succ_self _)
  ·replace h := ite_f hb h
   refine c_exit ?_
   refine k_in ?_
   refine k_same ?_
   refine sr ?_
   refine sac ?_
   refine nk ?_
   refine c_ret ?_
   obtain rfl := some_inj h
   exact q_ret (vs := [(vb true)]) Tryd.results11 ⟨ev_tmp rfl rfl, trivial⟩ ⟨rfl, hI.ext0, hI.fin trivial⟩

set_option maxRecDepth 100000 in
set_option maxHeartbeats 4000000 in
theorem c_law12_TensorSetGet (F : NP) (w0 : World) (hF : ∀ k, F k → k < w0.heap.size) (t1 : GTensor) (v1 : GVal) (p1 : List Int) (a1 : Option Addr) (c1 : Nat) (a2 : Option Addr) (c2 : Nat) (a3 : Option Addr) (c3 : Nat) (hc : AllCl [Cl.sl (cInt .i64) a1 c1 t1.Dims, Cl.sl cGVal a2 c2 t1.Vals, Cl.sl (cInt .i64) a3 c3 p1, clPow10] F w0) (r : Bool)
  (h : m_law12_TensorSetGet t1 v1 p1 = some r) :
  Calls Tryd.prog 3 #[(Value.agg #[(vi t1.Type_.Kind), (vi t1.Type_.Bits), (vi t1.Type_.Frac), (vi t1.Type_.Round), (vi t1.Type_.Over), (vs a1 t1.Dims.length c1), (vs a2 t1.Vals.length c2)]), (Value.agg #[(vi v1.N), (vi v1.D)]), (vs a3 p1.length c3)] w0 fun e w => e = .returned (vb r) ∧ Ext w0 w ∧ AllCl [] F w := by
 refine enterK (l := [(Value.agg #[(vi t1.Type_.Kind), (vi t1.Type_.Bits), (vi t1.Type_.Frac), (vi t1.Type_.Round), (vi t1.Type_.Over), (vs a1 t1.Dims.length c1), (vs a2 t1.Vals.length c2)]), (Value.agg #[(vi v1.N), (vi v1.D)]), (vs a3 p1.length c3)]) Tryd.func3 rfl Tryd.ntmps3 rfl ?_
 have hI := Bun.start hF hc
 clear hc
 rw [m_law12_TensorSetGet] at h
 refine sr ?_
 refine l_box (v := (Value.agg #[(vi t1.Type_.Kind), (vi t1.Type_.Bits), (vi t1.Type_.Frac), (vi t1.Type_.Round), (vi t1.Type_.Over), (vs a1 t1.Dims.length c1), (vs a2 t1.Vals.length c2)])) (cs := #[(vi t1.Type_.Kind), (vi t1.Type_.Bits), (vi t1.Type_.Frac), (vi t1.Type_.Round), (vi t1.Type_.Over), (vs a1 t1.Dims.length c1), (vs a2 t1.Vals.length c2)]) hI gn rfl rfl et rfl ?_
 clear hI; intro b1 c4 w1 hI
 obtain ⟨c5, hI⟩ := hI.relBox .z
 refine l_box (v := (Value.agg #[(vi v1.N), (vi v1.D)])) (cs := #[(vi v1.N), (vi v1.D)]) hI gn rfl rfl et rfl ?_
 clear hI; intro b2 c6 w2 hI
 obtain ⟨c7, hI⟩ := hI.relBox .z
 refine sac ?_
 refine nk ?_
 refine c_seq ?_
 refine sr ?_
 refine sq (y_loadN (l := [(vi t1.Type_.Kind), (vi t1.Type_.Bits), (vi t1.Type_.Frac), (vi t1.Type_.Round), (vi t1.Type_.Over), (vs a1 t1.Dims.length c1), (vs a2 t1.Vals.length c2)]) rfl et Tryd.underlying27 rfl size_27 (hI.kblk (l := [(vi t1.Type_.Kind), (vi t1.Type_.Bits), (vi t1.Type_.Frac), (vi t1.Type_.Round), (vi t1.Type_.Over), (vs a1 t1.Dims.length c1), (vs a2 t1.Vals.length c2)]) (.s .z) rfl).1) ?_
 obtain ⟨r1, hx1, h⟩ := bnd_some h
 refine s_call gn rfl (r_callF (vs := [(Value.agg #[(vi t1.Type_.Kind), (vi t1.Type_.Bits), (vi t1.Type_.Frac), (vi t1.Type_.Round), (vi t1.Type_.Over), (vs a1 t1.Dims.length c1), (vs a2 t1.Vals.length c2)]), (vi 300)]) rfl ok_5 ⟨et, ⟨ev_const, trivial⟩⟩) (Calls.mono (c_law12_Small (Dj F c7) w2 hI.lt t1 300 a1 c1 a2 c2 ⟨(hI.get (.s (.s .z))), (hI.get (.s (.s (.s .z)))), trivial⟩ r1 hx1) ?_)
 rintro _ w3 ⟨rfl, hx2, hl1⟩
 refine ⟨_, rfl, ?_⟩
 replace hI := (hI.ext hx2)
 refine sq (y_not rfl et) ?_
 refine sm ?_
 refine s_gval (g_false rfl rfl rfl rfl) rfl (fun hc => (y_move rfl et)) ?_
 refine s_gval (g_false rfl rfl rfl rfl) rfl (fun hc => (y_lenl rfl Tryd.underlying24 (ev_gv et hc))) ?_
 refine s_gval (g_false rfl rfl rfl rfl) rfl (fun hc => (y_gtr rfl (ev_gv et hc) ev_const)) ?_
 refine sq (y_or rfl et et) ?_
 refine sm ?_
 refine s_gval (g_false rfl rfl rfl rfl) rfl (fun hc => (y_loadN (l := [(vi t1.Type_.Kind), (vi t1.Type_.Bits), (vi t1.Type_.Frac), (vi t1.Type_.Round), (vi t1.Type_.Over), (vs a1 t1.Dims.length c1), (vs a2 t1.Vals.length c2)]) rfl et Tryd.underlying27 rfl size_27 (hI.kblk (l := [(vi t1.Type_.Kind), (vi t1.Type_.Bits), (vi t1.Type_.Frac), (vi t1.Type_.Round), (vi t1.Type_.Over), (vs a1 t1.Dims.length c1), (vs a2 t1.Vals.length c2)]) (.s .z) rfl).1)) ?_
 obtain ⟨r2, hx3, h⟩ := bnd_some h
 replace hx3 := gd_some hx3
 refine s_gcallU (v := (vi r2)) (g_false rfl rfl rfl rfl) rfl (fun hc => (r_callF (vs := [(Value.agg #[(vi t1.Type_.Kind), (vi t1.Type_.Bits), (vi t1.Type_.Frac), (vi t1.Type_.Round), (vi t1.Type_.Over), (vs a1 t1.Dims.length c1), (vs a2 t1.Vals.length c2)])]) rfl ok_6 ⟨(ev_gv et hc), trivial⟩)) (fun hc => (c_ref12_Validate (Dj F c7) w3 hI.lt t1 a1 c1 a2 c2 ⟨(hI.get (.s (.s .z))), (hI.get (.s (.s (.s .z)))), trivial⟩ r2 (hx3 hc)).mono fun _ _ k => ⟨k.1, k.2.1⟩) ?_
 intro w4 hx4; replace hI := hI.ext hx4
 refine s_gval (g_false rfl rfl rfl rfl) rfl (fun hc => (y_neq rfl (ev_gv et hc) ev_const)) ?_
 refine sq (y_or rfl et et) ?_
 refine nk ?_
 refine c_cond (b := ((!r1) || (decide (20 < (p1.length : Int)))) || (!decide (r2 = 0))) et (fun hb => ?_) (fun hb => ?_)
 ·replace h := ite_t hb h
  refine sr ?_
  obtain ⟨r3, hx5, h⟩ := bnd_some h
  refine s_call gn rfl (r_callF (vs := []) rfl ok_7 trivial) (Calls.mono (c_law12_examples (Dj F c7) w4 hI.lt ⟨(hI.get (.s (.s (.s (.s (.s .z)))))), trivial⟩ r3 hx5) ?_)
  rintro _ w5 ⟨rfl, hx6, hl3⟩
  refine ⟨_, rfl, ?_⟩
  replace hI := (hI.ext hx6)
  refine sa ?_
  refine nk ?_
  refine c_ret ?_
  obtain rfl := some_inj h
  exact q_ret (vs := [(vb r3)]) Tryd.results3 ⟨ev_tmp rfl rfl, trivial⟩ ⟨rfl, hI.ext0, hI.fin trivial⟩
 ·replace h := ite_f hb h
  refine c_skip ?_
  refine k_same ?_
  refine sr ?_
  refine sq (y_loadN (l := [(vi t1.Type_.Kind), (vi t1.Type_.Bits), (vi t1.Type_.Frac), (vi t1.Type_.Round), (vi t1.Type_.Over), (vs a1 t1.Dims.length c1), (vs a2 t1.Vals.length c2)]) rfl et Tryd.underlying27 rfl size_27 (hI.kblk (l := [(vi t1.Type_.Kind), (vi t1.Type_.Bits), (vi t1.Type_.Frac), (vi t1.Type_.Round), (vi t1.Type_.Over), (vs a1 t1.Dims.length c1), (vs a2 t1.Vals.length c2)]) (.s .z) rfl).1) ?_
  refine sq (y_loadN (l := [(vi v1.N), (vi v1.D)]) rfl et Tryd.underlying29 rfl size_29 (hI.kblk (l := [(vi v1.N), (vi v1.D)]) .z rfl).1) ?_
  refine sm ?_
  obtain ⟨r4, hx7, h⟩ := bnd_some h
  refine s_call gn rfl (r_callF (vs := [(Value.agg #[(vi t1.Type_.Kind), (vi t1.Type_.Bits), (vi t1.Type_.Frac), (vi t1.Type_.Round), (vi t1.Type_.Over), (vs a1 t1.Dims.length c1), (vs a2 t1.Vals.length c2)]), (Value.agg #[(vi v1.N), (vi v1.D)]), (vs a3 p1.length c3)]) rfl ok_8 ⟨et, ⟨et, ⟨et, trivial⟩⟩⟩) (Calls.mono (c_tensor_Set (Dj F c7) w4 hI.lt t1 v1 p1 a1 c1 a2 c2 a3 c3 ⟨(hI.get (.s (.s .z))), (hI.get (.s (.s (.s .z)))), (hI.get (.s (.s (.s (.s .z))))), trivial⟩ r4 hx7) ?_)
  rintro _ w6 ⟨a4, c8, a5, c9, rfl, hx8, hl4⟩
  refine ⟨_, rfl, ?_⟩
  replace hI := (hI.ext hx8).adds hl4
  refine sm ?_
  refine sq (y_extract rfl et rfl) ?_
  refine sq (y_extract rfl et rfl) ?_
  refine l_alloc (cs := #[(vi 0), (vi 0), (vi 0), (vi 0), (vi 0), (vs none 0 0), (vs none 0 0)]) hI gn rfl rfl zero_27 rfl ?_
  clear hI; intro b3 c10 w7 hI
  refine l_store (new := [(vi r4.1.Type_.Kind), (vi r4.1.Type_.Bits), (vi r4.1.Type_.Frac), (vi r4.1.Type_.Round), (vi r4.1.Type_.Over), (vs a4 r4.1.Dims.length c8), (vs a5 r4.1.Vals.length c9)]) (cs' := #[(vi r4.1.Type_.Kind), (vi r4.1.Type_.Bits), (vi r4.1.Type_.Frac), (vi r4.1.Type_.Round), (vi r4.1.Type_.Over), (vs a4 r4.1.Dims.length c8), (vs a5 r4.1.Vals.length c9)]) hI .z gn rfl rfl et et rfl size_27 rfl rfl rfl ?_
  clear hI; intro c11 w8 hI
  refine sa ?_
  refine nk ?_
  refine c_seq ?_
  refine sr ?_
  refine sm ?_
  refine sq (y_neq rfl et ev_const) ?_
  refine s_nil ?_
  refine k_next (e := [(2, (vs a3 p1.length c3)), (3, (vp b1 0)), (4, (vp b2 0)), (7, (vp b3 0)), (37, (vb (!decide (r4.2 = 0))))]) ⟨rfl, rfl, rfl, rfl, rfl, trivial⟩ ?_
  refine c_cond (b := !decide (r4.2 = 0)) et (fun hb => ?_) (fun hb => ?_)
  ·replace h := ite_t hb h
   refine sr ?_
   obtain ⟨r5, hx9, h⟩ := bnd_some h
   refine s_call gn rfl (r_callF (vs := []) rfl ok_7 trivial) (Calls.mono (c_law12_examples (Dj F c11) w8 hI.lt ⟨(hI.get (.s (.s (.s (.s (.s (.s (.s .z)))))))), trivial⟩ r5 hx9) ?_)
   rintro _ w9 ⟨rfl, hx10, hl5⟩
   refine ⟨_, rfl, ?_⟩
   replace hI := (hI.ext hx10)
   refine sa ?_
   refine nk ?_
   refine c_ret ?_
   obtain rfl := some_inj h
   exact q_ret (vs := [(vb r5)]) Tryd.results3 ⟨ev_tmp rfl rfl, trivial⟩ ⟨rfl, hI.ext0, hI.fin trivial⟩
  ·replace h := ite_f hb h
   refine c_skip ?_
   refine k_same ?_
   refine c_seq ?_
   refine sr ?_
   refine sac ?_
   refine nk ?_
   refine c_block ?_
   refine c_loop (α := Nat × Int) (fun x => fun w => ∃ C, Bun noM F w0 C w [MO.box b3 27 #[(vi r4.1.Type_.Kind), (vi r4.1.Type_.Bits), (vi r4.1.Type_.Frac), (vi r4.1.Type_.Round), (vi r4.1.Type_.Over), (vs a4 r4.1.Dims.length c8), (vs a5 r4.1.Vals.length c9)]] [Cl.sl (cInt .i64) a3 c3 p1, Cl.blk b1 27 #[(vi t1.Type_.Kind), (vi t1.Type_.Bits), (vi t1.Type_.Frac), (vi t1.Type_.Round), (vi t1.Type_.Over), (vs a1 t1.Dims.length c1), (vs a2 t1.Vals.length c2)], Cl.sl (cInt .i64) a1 c1 t1.Dims, Cl.sl cGVal a2 c2 t1.Vals, Cl.blk b2 29 #[(vi v1.N), (vi v1.D)], Cl.sl (cInt .i64) a4 c8 r4.1.Dims, Cl.sl cGVal a5 c9 r4.1.Vals, clPow10] ∧ m_law12_TensorSetGet_l1 t1 r4 p1 v1 (x.1) (x.2) = some r) (fun x _ => x.1) (fun x => [(2, (vs a3 p1.length c3)), (3, (vp b1 0)), (4, (vp b2 0)), (7, (vp b3 0)), (9, (vi (x.2)))]) (fu, 0) ⟨_, hI.arr (.c .z .n) ⟨(.s (.s (.s (.s (.s (.s .z)))))), (.s (.s (.s .z))), (.s (.s (.s (.s .z)))), (.s (.s (.s (.s (.s .z))))), (.s (.s .z)), .z, (.s .z), (.s (.s (.s (.s (.s (.s (.s .z))))))), trivial⟩, h⟩ ⟨rfl, rfl, rfl, rfl, rfl, trivial⟩ ?_
   clear h hI; rintro ⟨fuel1, i1⟩ w10 ⟨c12, hI, h⟩
   dsimp only at hI h
   rcases fuel1 with _ | fuel1
   ·rw [m_law12_TensorSetGet_l1] at h; cases h
   rw [m_law12_TensorSetGet_l1] at h
   refine c_sub (e := [(2, (vs a3 p1.length c3)), (3, (vp b1 0)), (4, (vp b2 0)), (7, (vp b3 0)), (9, (vi i1))]) ⟨rfl, rfl, rfl, rfl, rfl, trivial⟩ ?_
   refine c_seq ?_
   refine sr ?_
   refine sm ?_
   refine sq (y_fieldAddr rfl et Tryd.underlying27 rfl size_25 rfl) ?_
   refine sq (y_load1 (v := (vs a2 t1.Vals.length c2)) rfl et Tryd.underlying25 rfl (hI.kblk (l := [(vs a2 t1.Vals.length c2)]) (.s .z) rfl).1) ?_
   refine sq (y_lenl rfl Tryd.underlying25 et) ?_
   refine sq (y_lss rfl et et) ?_
   refine nk ?_
   refine c_cond (b := decide (i1 < (t1.Vals.length : Int))) et (fun hb => ?_) (fun hb => ?_)
   ·replace h := ite_t hb h
    refine c_skip ?_
    refine k_same ?_
    refine c_seq ?_
    refine c_block ?_
    refine sr ?_
    refine sq (y_fieldAddr rfl et Tryd.underlying27 rfl size_24 rfl) ?_
    refine sq (y_load1 (v := (vs a1 t1.Dims.length c1)) rfl et Tryd.underlying24 rfl (hI.kblk (l := [(vs a1 t1.Dims.length c1)]) (.s .z) rfl).1) ?_
    refine sm ?_
    obtain ⟨r6, hx11, h⟩ := bnd_some h
    refine s_call gn rfl (r_callF (vs := [(vs a1 t1.Dims.length c1), (vi i1)]) rfl ok_9 ⟨et, ⟨et, trivial⟩⟩) (Calls.mono (c_ref12_Point (Dj F c12) w10 hI.lt t1.Dims i1 a1 c1 ⟨(hI.get (.s (.s .z))), trivial⟩ r6 hx11) ?_)
    rintro _ w11 ⟨a6, c13, rfl, hx12, hl6⟩
    refine ⟨_, rfl, ?_⟩
    replace hI := (hI.ext hx12).adds hl6
    refine sa ?_
    refine nk ?_
    refine sr ?_
    refine sq (y_loadN (l := [(vi r4.1.Type_.Kind), (vi r4.1.Type_.Bits), (vi r4.1.Type_.Frac), (vi r4.1.Type_.Round), (vi r4.1.Type_.Over), (vs a4 r4.1.Dims.length c8), (vs a5 r4.1.Vals.length c9)]) rfl et Tryd.underlying27 rfl size_27 (CellsAt.of_blk (hI.blk .z) rfl)) ?_
    refine sm ?_
    obtain ⟨r7, hx13, h⟩ := bnd_some h
    refine s_call gn rfl (r_callF (vs := [(Value.agg #[(vi r4.1.Type_.Kind), (vi r4.1.Type_.Bits), (vi r4.1.Type_.Frac), (vi r4.1.Type_.Round), (vi r4.1.Type_.Over), (vs a4 r4.1.Dims.length c8), (vs a5 r4.1.Vals.length c9)]), (vs a6 r6.length c13)]) rfl ok_10 ⟨et, ⟨et, trivial⟩⟩) (Calls.mono (c_tensor_At (Dj F c12) w11 hI.lt r4.1 r6 a4 c8 a5 c9 a6 c13 ⟨(hI.get (.s (.s (.s (.s (.s (.s .z))))))), (hI.get (.s (.s (.s (.s (.s (.s (.s .z)))))))), (hI.get .z), trivial⟩ r7 hx13) ?_)
    rintro _ w12 ⟨rfl, hx14, hl7⟩
    refine ⟨_, rfl, ?_⟩
    replace hI := (hI.ext hx14)
    refine sm ?_
    refine sq (y_extract rfl et rfl) ?_
    refine sq (y_extract rfl et rfl) ?_
    refine l_alloc (cs := #[(vi 0), (vi 0)]) hI gn rfl rfl zero_29 rfl ?_
    clear hI; intro b4 c14 w13 hI
    refine l_store (new := [(vi r7.1.N), (vi r7.1.D)]) (cs' := #[(vi r7.1.N), (vi r7.1.D)]) hI .z gn rfl rfl et et rfl size_29 rfl rfl rfl ?_
    clear hI; intro c15 w14 hI
    refine sa ?_
    refine nk ?_
    refine sr ?_
    refine sq (y_loadN (l := [(vi t1.Type_.Kind), (vi t1.Type_.Bits), (vi t1.Type_.Frac), (vi t1.Type_.Round), (vi t1.Type_.Over), (vs a1 t1.Dims.length c1), (vs a2 t1.Vals.length c2)]) rfl et Tryd.underlying27 rfl size_27 (hI.kblk (l := [(vi t1.Type_.Kind), (vi t1.Type_.Bits), (vi t1.Type_.Frac), (vi t1.Type_.Round), (vi t1.Type_.Over), (vs a1 t1.Dims.length c1), (vs a2 t1.Vals.length c2)]) (.s (.s .z)) rfl).1) ?_
    refine sm ?_
    obtain ⟨r8, hx15, h⟩ := bnd_some h
    refine s_call gn rfl (r_callF (vs := [(Value.agg #[(vi t1.Type_.Kind), (vi t1.Type_.Bits), (vi t1.Type_.Frac), (vi t1.Type_.Round), (vi t1.Type_.Over), (vs a1 t1.Dims.length c1), (vs a2 t1.Vals.length c2)]), (vs a6 r6.length c13)]) rfl ok_10 ⟨et, ⟨et, trivial⟩⟩) (Calls.mono (c_tensor_At (Dj F c15) w14 hI.lt t1 r6 a1 c1 a2 c2 a6 c13 ⟨(hI.get (.s (.s (.s .z)))), (hI.get (.s (.s (.s (.s .z))))), (hI.get .z), trivial⟩ r8 hx15) ?_)
    rintro _ w15 ⟨rfl, hx16, hl8⟩
    refine ⟨_, rfl, ?_⟩
    replace hI := (hI.ext hx16)
    refine sm ?_
    refine sq (y_extract rfl et rfl) ?_
    refine sq (y_extract rfl et rfl) ?_
    refine l_alloc (cs := #[(vi 0), (vi 0)]) hI gn rfl rfl zero_29 rfl ?_
    clear hI; intro b5 c16 w16 hI
    refine l_store (new := [(vi r8.1.N), (vi r8.1.D)]) (cs' := #[(vi r8.1.N), (vi r8.1.D)]) hI .z gn rfl rfl et et rfl size_29 rfl rfl rfl ?_
    clear hI; intro c17 w17 hI
    refine sa ?_
    refine nk ?_
    refine sr ?_
    refine sm ?_
    refine sq (y_neq rfl et ev_const) ?_
    refine sm ?_
    refine s_gval (g_false rfl rfl rfl rfl) rfl (fun hc => (y_move rfl et)) ?_
    refine s_gval (g_false rfl rfl rfl rfl) rfl (fun hc => (y_neq rfl (ev_gv et hc) ev_const)) ?_
    refine sq (y_or rfl et et) ?_
    refine sm ?_
    refine s_gval (g_false rfl rfl rfl rfl) rfl (fun hc => (y_move rfl et)) ?_
    refine s_gval (g_false rfl rfl rfl rfl) rfl (fun hc => (y_move rfl et)) ?_
    obtain ⟨r9, hx17, h⟩ := bnd_some h
    replace hx17 := gd_some hx17
    refine s_gcallU (v := (vb r9)) (g_false rfl rfl rfl rfl) rfl (fun hc => (r_callF (vs := [(vs a3 p1.length c3), (vs a6 r6.length c13)]) rfl ok_11 ⟨(ev_gv et hc), ⟨(ev_gv et hc), trivial⟩⟩)) (fun hc => (c_base_Ints (Dj F c17) w17 hI.lt p1 r6 a3 c3 a6 c13 ⟨(hI.get (.s .z)), (hI.get .z), trivial⟩ r9 (hx17 hc)).mono fun _ _ k => ⟨k.1, k.2.1⟩) ?_
    intro w18 hx18; replace hI := hI.ext hx18
    refine s_gval (g_false rfl rfl rfl rfl) rfl (fun hc => (y_move rfl (ev_gv et hc))) ?_
    refine s_gval (g_true2 rfl rfl rfl rfl) rfl (fun hc => (y_loadN (l := [(vi r7.1.N), (vi r7.1.D)]) rfl et Tryd.underlying29 rfl size_29 (CellsAt.of_blk (hI.blk (.s .z)) rfl))) ?_
    refine s_gval (g_true2 rfl rfl rfl rfl) rfl (fun hc => (y_loadN (l := [(vi v1.N), (vi v1.D)]) rfl et Tryd.underlying29 rfl size_29 (hI.kblk (l := [(vi v1.N), (vi v1.D)]) (.s (.s (.s (.s (.s .z))))) rfl).1)) ?_
    refine s_gval (g_true2 rfl rfl rfl rfl) rfl (fun hc => (y_bin rfl (ev_gv et hc) (ev_gv et hc) (eqstruct_29n ..) (eqguard_29 ..))) ?_
    refine s_gval (g_false rfl rfl rfl rfl) rfl (fun hc => (y_and2 rfl hc et et)) ?_
    refine sq (y_or rfl et et) ?_
    refine sm ?_
    refine s_gval (g_false rfl rfl rfl rfl) rfl (fun hc => (y_move rfl et)) ?_
    refine s_gval (g_false rfl rfl rfl rfl) rfl (fun hc => (y_move rfl et)) ?_
    obtain ⟨r10, hx19, h⟩ := bnd_some h
    replace hx19 := gd_some hx19
    refine s_gcallU (v := (vb r10)) (g_false rfl rfl rfl rfl) rfl (fun hc => (r_callF (vs := [(vs a3 p1.length c3), (vs a6 r6.length c13)]) rfl ok_11 ⟨(ev_gv et hc), ⟨(ev_gv et hc), trivial⟩⟩)) (fun hc => (c_base_Ints (Dj F c17) w18 hI.lt p1 r6 a3 c3 a6 c13 ⟨(hI.get (.s .z)), (hI.get .z), trivial⟩ r10 (hx19 hc)).mono fun _ _ k => ⟨k.1, k.2.1⟩) ?_
    intro w19 hx20; replace hI := hI.ext hx20
    refine s_gval (g_false rfl rfl rfl rfl) rfl (fun hc => (y_not rfl (ev_gv et hc))) ?_
    refine s_gval (g_false rfl rfl rfl rfl) rfl (fun hc => (y_move rfl (ev_gv et hc))) ?_
    refine s_gval (g_true2 rfl rfl rfl rfl) rfl (fun hc => (y_loadN (l := [(vi r7.1.N), (vi r7.1.D)]) rfl et Tryd.underlying29 rfl size_29 (CellsAt.of_blk (hI.blk (.s .z)) rfl))) ?_
    refine s_gval (g_true2 rfl rfl rfl rfl) rfl (fun hc => (y_loadN (l := [(vi r8.1.N), (vi r8.1.D)]) rfl et Tryd.underlying29 rfl size_29 (CellsAt.of_blk (hI.blk .z) rfl))) ?_
    refine s_gval (g_true2 rfl rfl rfl rfl) rfl (fun hc => (y_bin rfl (ev_gv et hc) (ev_gv et hc) (eqstruct_29n ..) (eqguard_29 ..))) ?_
    refine s_gval (g_false rfl rfl rfl rfl) rfl (fun hc => (y_and2 rfl hc et et)) ?_
    refine sq (y_or rfl et et) ?_
    refine s_nil ?_
    refine k_next (e := [(2, (vs a3 p1.length c3)), (3, (vp b1 0)), (4, (vp b2 0)), (7, (vp b3 0)), (9, (vi i1)), (88, (vb ((((!decide (r7.2 = 0)) || (!decide (r8.2 = 0))) || (r9 && (!((decide (r7.1.N = v1.N)) && (decide (r7.1.D = v1.D)))))) || ((!r10) && (!((decide (r7.1.N = r8.1.N)) && (decide (r7.1.D = r8.1.D))))))))]) ⟨rfl, rfl, rfl, rfl, rfl, rfl, trivial⟩ ?_
    refine c_cond (b := (((!decide (r7.2 = 0)) || (!decide (r8.2 = 0))) || (r9 && (!((decide (r7.1.N = v1.N)) && (decide (r7.1.D = v1.D)))))) || ((!r10) && (!((decide (r7.1.N = r8.1.N)) && (decide (r7.1.D = r8.1.D)))))) et (fun hb => ?_) (fun hb => ?_)
    ·replace h := ite_t hb h
     refine sr ?_
     refine sac ?_
     refine nk ?_
     refine c_ret ?_
     obtain rfl := some_inj h
     exact q_ret (vs := [(vb false)]) Tryd.results3 ⟨ev_tmp rfl rfl, trivial⟩ ⟨rfl, hI.ext0, hI.fin trivial⟩
    ·replace h := ite_f hb h
     refine c_skip ?_
     refine k_same ?_
     refine c_region rfl ?_
     refine sm ?_
     refine sq (y_add rfl et ev_const) ?_
     refine sa ?_
     refine s_nil ?_
     exact k_loop (fuel1, wi64 (i1 + 1)) ⟨rfl, rfl, rfl, rfl, rfl, trivial⟩ ⟨_, hI.arr (.c (.s (.s .z)) .n) ⟨(.s .z), (.s (.s .z)), (.s (.s (.s .z))), (.s (.s (.s (.s .z)))), (.s (.s (.s (.s (.s .z))))), (.s (.s (.s (.s (.s (.s .z)))))), (.s (.s (.s (.s (.s (.s (.s .z))))))), (.s (.s (.s (.s (.s (.s (.s (.s .z)))))))), trivial⟩, h⟩ (Nat.lt_succ_self _)
   ·replace h := ite_f hb h
    refine c_exit ?_
    refine k_in ?_
    refine k_same ?_
    refine sr ?_
    obtain ⟨r11, hx21, h⟩ := bnd_some h
    refine s_call gn rfl (r_callF (vs := []) rfl ok_7 trivial) (Calls.mono (c_law12_examples (Dj F c12) w10 hI.lt ⟨(hI.get (.s (.s (.s (.s (.s (.s (.s .z)))))))), trivial⟩ r11 hx21) ?_)
    rintro _ w20 ⟨rfl, hx22, hl11⟩
    refine ⟨_, rfl, ?_⟩
    replace hI := (hI.ext hx22)
    refine sa ?_
    refine nk ?_
    refine c_ret ?_
    obtain rfl := some_inj h
    exact q_ret (vs := [(vb r11)]) Tryd.results3 ⟨ev_tmp rfl rfl, trivial⟩ ⟨rfl, hI.ext0, hI.fin trivial⟩

end Go.Proofs.YtlakfanockhngaaDoor
