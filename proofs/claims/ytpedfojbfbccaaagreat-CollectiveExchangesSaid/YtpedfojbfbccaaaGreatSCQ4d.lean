/- Each call returns what its plain function gives: printed by a program of my own; Lean checks it. -/
import Derived.Test.YtpedfojbfbccaaaGreatSCQ4c
namespace Go.Proofs.YtpedfojbfbccaaaGreat
open Go Go.RowKit Go.Vc
set_option linter.unusedVariables false
set_option linter.unusedSimpArgs false

set_option maxRecDepth 100000 in
set_option maxHeartbeats 4000000 in
theorem c_ref53_AllGather (F : NP) (w0 : World) (hF : ∀ k, F k → k < w0.heap.size) (m1 : GMesh) (l1 : List GTensor) (axis1 : Int) (along1 : Int) (a1 : Option Addr) (c1 : Nat) (a2 : Option Addr) (c2 : Nat) (hc : AllCl [Cl.sl (cInt .i64) a1 c1 m1.Dims, Cl.sl cGTensor a2 c2 l1] F w0) (r : List GTensor × Int)
  (h : m_ref53_AllGather m1 l1 axis1 along1 = some r) :
  Calls Tryz.prog 12 #[(Value.agg #[(vs a1 m1.Dims.length c1)]), (vs a2 l1.length c2), (vi axis1), (vi along1)] w0 fun e w => ∃ (a3 : Option Addr) (c3 : Nat), e = .returned (Value.tuple #[(vs a3 r.1.length c3), (vi r.2)]) ∧ Ext w0 w ∧ AllCl [Cl.sl cGTensor a3 c3 r.1] F w := by
 refine enterK (l := [(Value.agg #[(vs a1 m1.Dims.length c1)]), (vs a2 l1.length c2), (vi axis1), (vi along1)]) Tryz.func12 rfl Tryz.ntmps12 rfl ?_
 have hI := Bun.start hF hc
 clear hc
 rw [m_ref53_AllGather] at h
 refine sr ?_
 refine l_box (v := (Value.agg #[(vs a1 m1.Dims.length c1)])) (cs := #[(vs a1 m1.Dims.length c1)]) hI gn rfl rfl et rfl ?_
 clear hI; intro b1 c4 w1 hI
 obtain ⟨c5, hI⟩ := hI.relBox .z
 refine sac ?_
 refine sac ?_
 refine nk ?_
 refine c_seq ?_
 refine sr ?_
 refine sq (y_loadN (l := [(vs a1 m1.Dims.length c1)]) rfl et Tryz.underlying24 rfl size_24 (hI.kblk (l := [(vs a1 m1.Dims.length c1)]) .z rfl).1) ?_
 refine sm ?_
 refine sm ?_
 refine sm ?_
 obtain ⟨r1, hx1, h⟩ := bnd_some h
 refine s_call gn rfl (r_callF (vs := [(Value.agg #[(vs a1 m1.Dims.length c1)]), (vs a2 l1.length c2), (vi axis1), (vi along1)]) rfl ok_35 ⟨et, ⟨et, ⟨et, ⟨et, trivial⟩⟩⟩⟩) (Calls.mono (c_ref53_axes (Dj F c5) w1 hI.lt m1 l1 axis1 along1 a1 c1 a2 c2 ⟨(hI.get (.s .z)), (hI.get (.s (.s .z))), trivial⟩ r1 hx1) ?_)
 rintro _ w2 ⟨rfl, hx2, hl1⟩
 refine ⟨_, rfl, ?_⟩
 replace hI := (hI.ext hx2)
 refine sa ?_
 refine nk ?_
 refine sr ?_
 refine sm ?_
 refine sq (y_neq rfl et ev_const) ?_
 refine nk ?_
 refine c_cond (b := !decide (r1 = 0)) et (fun hb => ?_) (fun hb => ?_)
 ·replace h := ite_t hb h
  refine sr ?_
  refine sm ?_
  refine sac ?_
  refine sa ?_
  refine nk ?_
  refine c_ret ?_
  have hI := hI.add (c := Cl.sl cGTensor none 0 ([] : List GTensor)) SlC.nil
  obtain rfl := some_inj h
  exact q_ret (vs := [(vs none 0 0), (vi r1)]) Tryz.results12 ⟨ev_tmp rfl rfl, ⟨ev_tmp rfl rfl, trivial⟩⟩ ⟨none, 0, rfl, hI.ext0, hI.fin ⟨.z, trivial⟩⟩
 ·replace h := ite_f hb h
  refine c_skip ?_
  refine k_same ?_
  refine sr ?_
  refine sac ?_
  refine nk ?_
  refine c_seq ?_
  refine sr ?_
  refine sac ?_
  refine nk ?_
  refine c_block ?_
  have hI := hI.nil cGTensor 41 none
  refine c_loop (α := Nat × (List GTensor) × Int × (Option Addr) × Nat) (fun x => fun w => ∃ C, Bun noM F w0 C w [MO.row cGTensor 41 (x.2.2.2.1) (x.2.2.2.2) (x.2.1)] [Cl.sl cGTensor a2 c2 l1, Cl.blk b1 24 #[(vs a1 m1.Dims.length c1)], Cl.sl (cInt .i64) a1 c1 m1.Dims] ∧ m_ref53_AllGather_l1 l1 m1 axis1 along1 (x.1) (x.2.1) (x.2.2.1) = some r) (fun x _ => x.1) (fun x => [(1, (vs a2 l1.length c2)), (2, (vi axis1)), (3, (vi along1)), (4, (vp b1 0)), (11, (vs (x.2.2.2.1) (x.2.1).length (x.2.2.2.2))), (12, (vi (x.2.2.1)))]) (fu, ([] : List GTensor), 0, none, 0) ⟨_, hI.arr (.c .z .n) ⟨(.s (.s .z)), .z, (.s .z), trivial⟩, h⟩ ⟨rfl, rfl, rfl, rfl, rfl, rfl, trivial⟩ ?_
  clear h hI; rintro ⟨fuel1, out1, i1, a4, c6⟩ w3 ⟨c7, hI, h⟩
  dsimp only at hI h
  rcases fuel1 with _ | fuel1
  ·rw [m_ref53_AllGather_l1] at h; cases h
  rw [m_ref53_AllGather_l1] at h
  refine c_sub (e := [(1, (vs a2 l1.length c2)), (2, (vi axis1)), (3, (vi along1)), (4, (vp b1 0)), (11, (vs a4 out1.length c6)), (12, (vi i1))]) ⟨rfl, rfl, rfl, rfl, rfl, rfl, trivial⟩ ?_
  refine c_seq ?_
  refine sr ?_
  refine sm ?_
  refine sm ?_
  refine sq (y_lenl rfl Tryz.underlying25 et) ?_
  refine sq (y_lss rfl et et) ?_
  refine nk ?_
  refine c_cond (b := decide (i1 < (l1.length : Int))) et (fun hb => ?_) (fun hb => ?_)
  ·replace h := ite_t hb h
   refine c_skip ?_
   refine k_same ?_
   refine c_join (α := (List GTensor) × (Option Addr) × Nat) (fun _ => ⟨66, []⟩) (fun x => [(1, (vs a2 l1.length c2)), (2, (vi axis1)), (3, (vi along1)), (4, (vp b1 0)), (11, (vs (x.2.1) (x.1).length (x.2.2))), (12, (vi i1))]) (fun x => fun w => ∃ C, Bun noM F w0 C w [MO.row cGTensor 41 (x.2.1) (x.2.2) (x.1)] [Cl.sl cGTensor a2 c2 l1, Cl.blk b1 24 #[(vs a1 m1.Dims.length c1)], Cl.sl (cInt .i64) a1 c1 m1.Dims] ∧ m_ref53_AllGather_j1 (m_ref53_AllGather_l1 l1 m1 axis1 along1 fuel1) i1 (x.1) = some r) ?_ ?_
   ·clear h hI; rintro ⟨out2, a5, c8⟩ w4 ⟨c9, hI, h⟩
    try dsimp only at hI h
    rw [m_ref53_AllGather_j1] at h
    refine c_sub (e := [(1, (vs a2 l1.length c2)), (2, (vi axis1)), (3, (vi along1)), (4, (vp b1 0)), (11, (vs a5 out2.length c8)), (12, (vi i1))]) ⟨rfl, rfl, rfl, rfl, rfl, rfl, trivial⟩ ?_
    refine c_region rfl ?_
    refine sm ?_
    refine sq (y_add rfl et ev_const) ?_
    refine sa ?_
    refine s_nil ?_
    exact k_loop (fuel1, out2, wi64 (i1 + 1), a5, c8) ⟨rfl, rfl, rfl, rfl, rfl, rfl, trivial⟩ ⟨_, hI.arr (.c .z .n) ⟨.z, (.s .z), (.s (.s .z)), trivial⟩, h⟩ (Nat.lt_succ_self _)
   ·skip
    refine c_block ?_
    refine sr ?_
    refine sq (y_loadN (l := [(vs a1 m1.Dims.length c1)]) rfl et Tryz.underlying24 rfl size_24 (hI.kblk (l := [(vs a1 m1.Dims.length c1)]) (.s .z) rfl).1) ?_
    refine sm ?_
    refine sm ?_
    obtain ⟨r2, hx3, h⟩ := bnd_some h
    refine s_call gn rfl (r_callF (vs := [(Value.agg #[(vs a1 m1.Dims.length c1)]), (vi axis1), (vi i1)]) rfl ok_36 ⟨et, ⟨et, ⟨et, trivial⟩⟩⟩) (Calls.mono (c_ref51_Group (Dj F c7) w3 hI.lt m1 axis1 i1 a1 c1 ⟨(hI.get (.s (.s .z))), trivial⟩ r2 hx3) ?_)
    rintro _ w5 ⟨a6, c10, rfl, hx4, hl2⟩
    refine ⟨_, rfl, ?_⟩
    replace hI := (hI.ext hx4).adds hl2
    refine sa ?_
    refine nk ?_
    refine sr ?_
    refine sac ?_
    refine nk ?_
    refine c_join (α := (List GTensor) × (Option Addr) × Nat) (fun _ => ⟨66, []⟩) (fun x => [(1, (vs a2 l1.length c2)), (2, (vi axis1)), (3, (vi along1)), (4, (vp b1 0)), (11, (vs a4 out1.length c6)), (12, (vi i1)), (14, (vs (x.2.1) (x.1).length (x.2.2)))]) (fun x => fun w => ∃ C, Bun noM F w0 C w [MO.row cGTensor 41 (x.2.1) (x.2.2) (x.1), MO.row cGTensor 41 a4 c6 out1] [Cl.sl cGTensor a2 c2 l1, Cl.blk b1 24 #[(vs a1 m1.Dims.length c1)], Cl.sl (cInt .i64) a1 c1 m1.Dims] ∧ m_ref53_AllGather_j2 along1 out1 (m_ref53_AllGather_l1 l1 m1 axis1 along1 fuel1) i1 (x.1) = some r) ?_ ?_
    ·clear h hI; rintro ⟨parts1, a7, c11⟩ w6 ⟨c12, hI, h⟩
     try dsimp only at hI h
     rw [m_ref53_AllGather_j2] at h
     refine c_sub (e := [(1, (vs a2 l1.length c2)), (2, (vi axis1)), (3, (vi along1)), (4, (vp b1 0)), (11, (vs a4 out1.length c6)), (12, (vi i1)), (14, (vs a7 parts1.length c11))]) ⟨rfl, rfl, rfl, rfl, rfl, rfl, rfl, trivial⟩ ?_
     refine sr ?_
     refine sm ?_
     refine sm ?_
     obtain ⟨c13, hI⟩ := hI.release .z
     obtain ⟨r3, hx5, h⟩ := bnd_some h
     refine s_call gn rfl (r_callF (vs := [(vi along1), (vs a7 parts1.length c11)]) rfl ok_37 ⟨et, ⟨et, trivial⟩⟩) (Calls.mono (c_ref12_Concat (Dj F c13) w6 hI.lt along1 parts1 a7 c11 ⟨(hI.get .z), trivial⟩ r3 hx5) ?_)
     rintro _ w7 ⟨a8, c14, a9, c15, rfl, hx6, hl3⟩
     refine ⟨_, rfl, ?_⟩
     replace hI := (hI.ext hx6).adds hl3
     refine sm ?_
     refine sq (y_extract rfl et rfl) ?_
     refine sq (y_extract rfl et rfl) ?_
     refine l_alloc (cs := #[(vi 0), (vi 0), (vi 0), (vi 0), (vi 0), (vs none 0 0), (vs none 0 0)]) hI gn rfl rfl zero_41 rfl ?_
     clear hI; intro b2 c16 w8 hI
     refine l_store (new := [(vi r3.1.Type_.Kind), (vi r3.1.Type_.Bits), (vi r3.1.Type_.Frac), (vi r3.1.Type_.Round), (vi r3.1.Type_.Over), (vs a8 r3.1.Dims.length c14), (vs a9 r3.1.Vals.length c15)]) (cs' := #[(vi r3.1.Type_.Kind), (vi r3.1.Type_.Bits), (vi r3.1.Type_.Frac), (vi r3.1.Type_.Round), (vi r3.1.Type_.Over), (vs a8 r3.1.Dims.length c14), (vs a9 r3.1.Vals.length c15)]) hI .z gn rfl rfl et et rfl size_41 rfl rfl rfl ?_
     clear hI; intro c17 w9 hI
     refine sa ?_
     refine nk ?_
     refine c_seq ?_
     refine sr ?_
     refine sm ?_
     refine sq (y_neq rfl et ev_const) ?_
     refine nk ?_
     refine c_cond (b := !decide (r3.2 = 0)) et (fun hb => ?_) (fun hb => ?_)
     ·replace h := ite_t hb h
      refine sr ?_
      refine sm ?_
      refine sac ?_
      refine sa ?_
      refine nk ?_
      refine c_ret ?_
      have hI := hI.add (c := Cl.sl cGTensor none 0 ([] : List GTensor)) SlC.nil
      obtain rfl := some_inj h
      exact q_ret (vs := [(vs none 0 0), (vi r3.2)]) Tryz.results12 ⟨ev_tmp rfl rfl, ⟨ev_tmp rfl rfl, trivial⟩⟩ ⟨none, 0, rfl, hI.ext0, hI.fin ⟨.z, trivial⟩⟩
     ·replace h := ite_f hb h
      refine c_skip ?_
      refine k_same ?_
      refine c_region rfl ?_
      refine sm ?_
      refine sq (y_loadN (l := [(vi r3.1.Type_.Kind), (vi r3.1.Type_.Bits), (vi r3.1.Type_.Frac), (vi r3.1.Type_.Round), (vi r3.1.Type_.Over), (vs a8 r3.1.Dims.length c14), (vs a9 r3.1.Vals.length c15)]) rfl et Tryz.underlying41 rfl size_41 (CellsAt.of_blk (hI.blk .z) rfl)) ?_
      refine l_lit (c := cGTensor) (xs := ([r3.1] : List GTensor)) (vs := [(0, (Value.agg #[(vi r3.1.Type_.Kind), (vi r3.1.Type_.Bits), (vi r3.1.Type_.Frac), (vi r3.1.Type_.Round), (vi r3.1.Type_.Over), (vs a8 r3.1.Dims.length c14), (vs a9 r3.1.Vals.length c15)]))]) (cs := #[(vi r3.1.Type_.Kind), (vi r3.1.Type_.Bits), (vi r3.1.Type_.Frac), (vi r3.1.Type_.Round), (vi r3.1.Type_.Over), (vs a8 r3.1.Dims.length c14), (vs a9 r3.1.Vals.length c15)]) (css := [[(vi r3.1.Type_.Kind), (vi r3.1.Type_.Bits), (vi r3.1.Type_.Frac), (vi r3.1.Type_.Round), (vi r3.1.Type_.Over), (vs a8 r3.1.Dims.length c14), (vs a9 r3.1.Vals.length c15)]]) hI gn rfl rfl Tryz.underlying25 info_41 rfl ⟨rfl, et, trivial⟩ (by kernel_rfl) ⟨⟨a8, c14, a9, c15, rfl, hI.get .z, hI.get (.s .z)⟩, trivial⟩ rfl rfl rfl ?_
      clear hI; intro b3 c18 w10 hI
      obtain ⟨zs1, hx7, h⟩ := bnd_some h
      refine l_append (xs := out1) (ys := ([r3.1] : List GTensor)) hI (.s (.s .z)) (hI.rd .z) hx7 gn rfl rfl Tryz.underlying25 info_41 rfl rfl et et ?_
      clear hI; intro a10 c19 c20 w11 hI
      refine sa ?_
      refine s_nil ?_
      exact k_join (zs1, a10, c19) ⟨rfl, rfl, rfl, rfl, rfl, rfl, trivial⟩ ⟨_, hI.arr (.c (.s (.s .z)) .n) ⟨(.s (.s (.s .z))), (.s (.s (.s (.s .z)))), (.s (.s (.s (.s (.s .z))))), trivial⟩, h⟩ rfl
    ·skip
     refine sr ?_
     refine sac ?_
     refine nk ?_
     refine c_block ?_
     have hI := hI.nil cGTensor 41 none
     refine c_loop (α := Nat × (List GTensor) × Int × (Option Addr) × Nat) (fun x => fun w => ∃ C, Bun noM F w0 C w [MO.row cGTensor 41 (x.2.2.2.1) (x.2.2.2.2) (x.2.1), MO.row cGTensor 41 a4 c6 out1] [Cl.sl cGTensor a2 c2 l1, Cl.blk b1 24 #[(vs a1 m1.Dims.length c1)], Cl.sl (cInt .i64) a1 c1 m1.Dims, Cl.sl (cInt .i64) a6 c10 r2] ∧ m_ref53_AllGather_l2 r2 l1 along1 out1 (m_ref53_AllGather_l1 l1 m1 axis1 along1 fuel1) i1 (x.1) (x.2.1) (x.2.2.1) = some r) (fun x _ => x.1) (fun x => [(1, (vs a2 l1.length c2)), (2, (vi axis1)), (3, (vi along1)), (4, (vp b1 0)), (11, (vs a4 out1.length c6)), (12, (vi i1)), (13, (vs a6 r2.length c10)), (14, (vs (x.2.2.2.1) (x.2.1).length (x.2.2.2.2))), (15, (vi (x.2.2.1)))]) (fu, ([] : List GTensor), 0, none, 0) ⟨_, hI.arr (.c .z (.c .z .n)) ⟨(.s .z), (.s (.s .z)), (.s (.s (.s .z))), .z, trivial⟩, h⟩ ⟨rfl, rfl, rfl, rfl, rfl, rfl, rfl, rfl, rfl, trivial⟩ ?_
     clear h hI; rintro ⟨fuel2, parts2, k1, a11, c21⟩ w12 ⟨c22, hI, h⟩
     dsimp only at hI h
     rcases fuel2 with _ | fuel2
     ·rw [m_ref53_AllGather_l2] at h; cases h
     rw [m_ref53_AllGather_l2] at h
     refine c_sub (e := [(1, (vs a2 l1.length c2)), (2, (vi axis1)), (3, (vi along1)), (4, (vp b1 0)), (11, (vs a4 out1.length c6)), (12, (vi i1)), (13, (vs a6 r2.length c10)), (14, (vs a11 parts2.length c21)), (15, (vi k1))]) ⟨rfl, rfl, rfl, rfl, rfl, rfl, rfl, rfl, rfl, trivial⟩ ?_
     refine c_seq ?_
     refine sr ?_
     refine sm ?_
     refine sm ?_
     refine sq (y_lenl rfl Tryz.underlying22 et) ?_
     refine sq (y_lss rfl et et) ?_
     refine nk ?_
     refine c_cond (b := decide (k1 < (r2.length : Int))) et (fun hb => ?_) (fun hb => ?_)
     ·replace h := ite_t hb h
      refine c_skip ?_
      refine k_same ?_
      refine c_seq ?_
      refine c_block ?_
      refine c_region rfl ?_
      refine sm ?_
      refine sm ?_
      refine sm ?_
      refine sm ?_
      obtain ⟨e1, hx8, h⟩ := bnd_some h
      obtain ⟨ad1, cs1, hA1, hr1, hq1⟩ := hI.clat (.s (.s (.s .z))) hx8
      obtain rfl : cs1 = [(vi e1)] := hr1
      refine sq (y_indexAddr rfl Tryz.underlying22 size_3 et et (lat_bd hx8) hA1) ?_
      refine sq (y_load1 (v := (vi e1)) rfl et Tryz.underlying3 rfl hq1.1) ?_
      obtain ⟨e2, hx9, h⟩ := bnd_some h
      obtain ⟨ad2, cs2, hA2, hr2, hq2⟩ := hI.clat .z hx9
      obtain ⟨a12, c23, a13, c24, rfl, hf1, hf2⟩ := hr2
      have hI := hI.add (c := Cl.sl (cInt .i64) a12 c23 e2.Dims) hf1
      have hI := hI.add (c := Cl.sl cGVal a13 c24 e2.Vals) hf2
      refine sq (y_indexAddr rfl Tryz.underlying25 size_41 et et (lat_bd hx9) hA2) ?_
      refine sq (y_loadN (l := [(vi e2.Type_.Kind), (vi e2.Type_.Bits), (vi e2.Type_.Frac), (vi e2.Type_.Round), (vi e2.Type_.Over), (vs a12 e2.Dims.length c23), (vs a13 e2.Vals.length c24)]) rfl et Tryz.underlying41 rfl size_41 hq2.1) ?_
      refine l_lit (c := cGTensor) (xs := ([e2] : List GTensor)) (vs := [(0, (Value.agg #[(vi e2.Type_.Kind), (vi e2.Type_.Bits), (vi e2.Type_.Frac), (vi e2.Type_.Round), (vi e2.Type_.Over), (vs a12 e2.Dims.length c23), (vs a13 e2.Vals.length c24)]))]) (cs := #[(vi e2.Type_.Kind), (vi e2.Type_.Bits), (vi e2.Type_.Frac), (vi e2.Type_.Round), (vi e2.Type_.Over), (vs a12 e2.Dims.length c23), (vs a13 e2.Vals.length c24)]) (css := [[(vi e2.Type_.Kind), (vi e2.Type_.Bits), (vi e2.Type_.Frac), (vi e2.Type_.Round), (vi e2.Type_.Over), (vs a12 e2.Dims.length c23), (vs a13 e2.Vals.length c24)]]) hI gn rfl rfl Tryz.underlying25 info_41 rfl ⟨rfl, et, trivial⟩ (by kernel_rfl) ⟨⟨a12, c23, a13, c24, rfl, hI.get (.s .z), hI.get .z⟩, trivial⟩ rfl rfl rfl ?_
      clear hI; intro b4 c25 w13 hI
      obtain ⟨zs2, hx10, h⟩ := bnd_some h
      refine l_append (xs := parts2) (ys := ([e2] : List GTensor)) hI (.s .z) (hI.rd .z) hx10 gn rfl rfl Tryz.underlying25 info_41 rfl rfl et et ?_
      clear hI; intro a14 c26 c27 w14 hI
      refine sa ?_
      refine nk ?_
      refine c_region rfl ?_
      refine sm ?_
      refine sq (y_add rfl et ev_const) ?_
      refine sa ?_
      refine s_nil ?_
      exact k_loop (fuel2, zs2, wi64 (k1 + 1), a14, c26) ⟨rfl, rfl, rfl, rfl, rfl, rfl, rfl, rfl, rfl, trivial⟩ ⟨_, hI.arr (.c (.s .z) (.c (.s .z) .n)) ⟨(.s (.s .z)), (.s (.s (.s .z))), (.s (.s (.s (.s .z)))), (.s (.s (.s (.s (.s .z))))), trivial⟩, h⟩ (Nat.lt_succ_self _)
     ·replace h := ite_f hb h
      refine c_exit ?_
      refine k_in ?_
      exact k_join (parts2, a11, c21) ⟨rfl, rfl, rfl, rfl, rfl, rfl, rfl, trivial⟩ ⟨_, hI.arr (.c .z (.c .z .n)) ⟨.z, (.s .z), (.s (.s .z)), trivial⟩, h⟩ rfl
  ·replace h := ite_f hb h
   refine c_exit ?_
   refine k_in ?_
   refine k_same ?_
   refine sr ?_
   refine sm ?_
   refine sa ?_
   refine sac ?_
   refine nk ?_
   refine c_ret ?_
   obtain ⟨c28, hI⟩ := hI.release .z
   obtain rfl := some_inj h
   exact q_ret (vs := [(vs a4 out1.length c6), (vi 0)]) Tryz.results12 ⟨ev_tmp rfl rfl, ⟨ev_tmp rfl rfl, trivial⟩⟩ ⟨a4, c6, rfl, hI.ext0, hI.fin ⟨.z, trivial⟩⟩

set_option maxRecDepth 100000 in
set_option maxHeartbeats 4000000 in
theorem c_ref12_Slice (F : NP) (w0 : World) (hF : ∀ k, F k → k < w0.heap.size) (t1 : GTensor) (axis1 : Int) (from1 : Int) (to1 : Int) (a1 : Option Addr) (c1 : Nat) (a2 : Option Addr) (c2 : Nat) (hc : AllCl [Cl.sl (cInt .i64) a1 c1 t1.Dims, Cl.sl cGVal a2 c2 t1.Vals] F w0) (r : GTensor × Int)
  (h : m_ref12_Slice t1 axis1 from1 to1 = some r) :
  Calls Tryz.prog 42 #[(Value.agg #[(vi t1.Type_.Kind), (vi t1.Type_.Bits), (vi t1.Type_.Frac), (vi t1.Type_.Round), (vi t1.Type_.Over), (vs a1 t1.Dims.length c1), (vs a2 t1.Vals.length c2)]), (vi axis1), (vi from1), (vi to1)] w0 fun e w => ∃ (a3 : Option Addr) (c3 : Nat) (a4 : Option Addr) (c4 : Nat), e = .returned (Value.tuple #[(Value.agg #[(vi r.1.Type_.Kind), (vi r.1.Type_.Bits), (vi r.1.Type_.Frac), (vi r.1.Type_.Round), (vi r.1.Type_.Over), (vs a3 r.1.Dims.length c3), (vs a4 r.1.Vals.length c4)]), (vi r.2)]) ∧ Ext w0 w ∧ AllCl [Cl.sl (cInt .i64) a3 c3 r.1.Dims, Cl.sl cGVal a4 c4 r.1.Vals] F w := by
 refine enterK (l := [(Value.agg #[(vi t1.Type_.Kind), (vi t1.Type_.Bits), (vi t1.Type_.Frac), (vi t1.Type_.Round), (vi t1.Type_.Over), (vs a1 t1.Dims.length c1), (vs a2 t1.Vals.length c2)]), (vi axis1), (vi from1), (vi to1)]) Tryz.func42 rfl Tryz.ntmps42 rfl ?_
 have hI := Bun.start hF hc
 clear hc
 rw [m_ref12_Slice] at h
 refine sr ?_
 refine l_box (v := (Value.agg #[(vi t1.Type_.Kind), (vi t1.Type_.Bits), (vi t1.Type_.Frac), (vi t1.Type_.Round), (vi t1.Type_.Over), (vs a1 t1.Dims.length c1), (vs a2 t1.Vals.length c2)])) (cs := #[(vi t1.Type_.Kind), (vi t1.Type_.Bits), (vi t1.Type_.Frac), (vi t1.Type_.Round), (vi t1.Type_.Over), (vs a1 t1.Dims.length c1), (vs a2 t1.Vals.length c2)]) hI gn rfl rfl et rfl ?_
 clear hI; intro b1 c5 w1 hI
 obtain ⟨c6, hI⟩ := hI.relBox .z
 refine l_alloc (cs := #[(vi 0), (vi 0), (vi 0), (vi 0), (vi 0), (vs none 0 0), (vs none 0 0)]) hI gn rfl rfl zero_41 rfl ?_
 clear hI; intro b2 c7 w2 hI
 refine sac ?_
 refine nk ?_
 refine c_seq ?_
 refine sr ?_
 refine sq (y_loadN (l := [(vi t1.Type_.Kind), (vi t1.Type_.Bits), (vi t1.Type_.Frac), (vi t1.Type_.Round), (vi t1.Type_.Over), (vs a1 t1.Dims.length c1), (vs a2 t1.Vals.length c2)]) rfl et Tryz.underlying41 rfl size_41 (hI.kblk (l := [(vi t1.Type_.Kind), (vi t1.Type_.Bits), (vi t1.Type_.Frac), (vi t1.Type_.Round), (vi t1.Type_.Over), (vs a1 t1.Dims.length c1), (vs a2 t1.Vals.length c2)]) .z rfl).1) ?_
 obtain ⟨r1, hx1, h⟩ := bnd_some h
 refine s_call gn rfl (r_callF (vs := [(Value.agg #[(vi t1.Type_.Kind), (vi t1.Type_.Bits), (vi t1.Type_.Frac), (vi t1.Type_.Round), (vi t1.Type_.Over), (vs a1 t1.Dims.length c1), (vs a2 t1.Vals.length c2)])]) rfl ok_26 ⟨et, trivial⟩) (Calls.mono (c_ref12_Validate (Dj F c7) w2 hI.lt t1 a1 c1 a2 c2 ⟨(hI.get (.s .z)), (hI.get (.s (.s .z))), trivial⟩ r1 hx1) ?_)
 rintro _ w3 ⟨rfl, hx2, hl1⟩
 refine ⟨_, rfl, ?_⟩
 replace hI := (hI.ext hx2)
 refine sa ?_
 refine nk ?_
 refine sr ?_
 refine sm ?_
 refine sq (y_neq rfl et ev_const) ?_
 refine nk ?_
 refine c_cond (b := !decide (r1 = 0)) et (fun hb => ?_) (fun hb => ?_)
 ·replace h := ite_t hb h
  refine sr ?_
  refine sq (y_build (vs := []) (cs := #[(vi 0), (vi 0), (vi 0), (vi 0), (vi 0), (vs none 0 0), (vs none 0 0)]) rfl trivial (by kernel_rfl)) ?_
  refine sm ?_
  refine l_store (new := [(vi 0), (vi 0), (vi 0), (vi 0), (vi 0), (vs none 0 0), (vs none 0 0)]) (cs' := #[(vi 0), (vi 0), (vi 0), (vi 0), (vi 0), (vs none 0 0), (vs none 0 0)]) hI .z gn rfl rfl et et rfl size_41 rfl rfl rfl ?_
  clear hI; intro c8 w4 hI
  refine sa ?_
  refine nk ?_
  refine c_ret ?_
  have hI := hI.add (c := Cl.sl (cInt .i64) none 0 ([] : List Int)) SlC.nil
  have hI := hI.add (c := Cl.sl cGVal none 0 ([] : List GVal)) SlC.nil
  obtain rfl := some_inj h
  exact q_ret (vs := [(Value.agg #[(vi 0), (vi 0), (vi 0), (vi 0), (vi 0), (vs none 0 0), (vs none 0 0)]), (vi r1)]) Tryz.results42 ⟨⟨_, ev_tmp rfl rfl, load_agg (l := [(vi 0), (vi 0), (vi 0), (vi 0), (vi 0), (vs none 0 0), (vs none 0 0)]) Tryz.underlying41 rfl size_41 (CellsAt.of_blk (hI.blk .z) rfl)⟩, ⟨ev_tmp rfl rfl, trivial⟩⟩ ⟨none, 0, none, 0, rfl, hI.ext0, hI.fin ⟨(.s .z), .z, trivial⟩⟩
 ·replace h := ite_f hb h
  refine c_skip ?_
  refine k_same ?_
  refine c_seq ?_
  refine sr ?_
  refine sm ?_
  refine sq (y_lss rfl et ev_const) ?_
  refine sm ?_
  refine s_gval (g_false rfl rfl rfl rfl) rfl (fun hc => (y_move rfl et)) ?_
  refine s_gval (g_false rfl rfl rfl rfl) rfl (fun hc => (y_fieldAddr rfl et Tryz.underlying41 rfl size_22 rfl)) ?_
  refine s_gval (g_false rfl rfl rfl rfl) rfl (fun hc => (y_load1 (v := (vs a1 t1.Dims.length c1)) rfl (ev_gv et hc) Tryz.underlying22 rfl (hI.kblk (l := [(vs a1 t1.Dims.length c1)]) .z rfl).1)) ?_
  refine s_gval (g_false rfl rfl rfl rfl) rfl (fun hc => (y_lenl rfl Tryz.underlying22 (ev_gv et hc))) ?_
  refine s_gval (g_false rfl rfl rfl rfl) rfl (fun hc => (y_geq rfl (ev_gv et hc) (ev_gv et hc))) ?_
  refine sq (y_or rfl et et) ?_
  refine nk ?_
  refine c_cond (b := (decide (axis1 < 0)) || (decide ((t1.Dims.length : Int) ≤ axis1))) et (fun hb => ?_) (fun hb => ?_)
  ·replace h := ite_t hb h
   refine sr ?_
   refine sq (y_build (vs := []) (cs := #[(vi 0), (vi 0), (vi 0), (vi 0), (vi 0), (vs none 0 0), (vs none 0 0)]) rfl trivial (by kernel_rfl)) ?_
   refine l_store (new := [(vi 0), (vi 0), (vi 0), (vi 0), (vi 0), (vs none 0 0), (vs none 0 0)]) (cs' := #[(vi 0), (vi 0), (vi 0), (vi 0), (vi 0), (vs none 0 0), (vs none 0 0)]) hI .z gn rfl rfl et et rfl size_41 rfl rfl rfl ?_
   clear hI; intro c9 w5 hI
   refine sac ?_
   refine nk ?_
   refine c_ret ?_
   have hI := hI.add (c := Cl.sl (cInt .i64) none 0 ([] : List Int)) SlC.nil
   have hI := hI.add (c := Cl.sl cGVal none 0 ([] : List GVal)) SlC.nil
   obtain rfl := some_inj h
   exact q_ret (vs := [(Value.agg #[(vi 0), (vi 0), (vi 0), (vi 0), (vi 0), (vs none 0 0), (vs none 0 0)]), (vi 11)]) Tryz.results42 ⟨⟨_, ev_tmp rfl rfl, load_agg (l := [(vi 0), (vi 0), (vi 0), (vi 0), (vi 0), (vs none 0 0), (vs none 0 0)]) Tryz.underlying41 rfl size_41 (CellsAt.of_blk (hI.blk .z) rfl)⟩, ⟨ev_tmp rfl rfl, trivial⟩⟩ ⟨none, 0, none, 0, rfl, hI.ext0, hI.fin ⟨(.s .z), .z, trivial⟩⟩
  ·replace h := ite_f hb h
   refine c_skip ?_
   refine k_same ?_
   refine c_seq ?_
   refine sr ?_
   refine sm ?_
   refine sq (y_lss rfl et ev_const) ?_
   refine sm ?_
   refine s_gval (g_false rfl rfl rfl rfl) rfl (fun hc => (y_move rfl et)) ?_
   refine s_gval (g_false rfl rfl rfl rfl) rfl (fun hc => (y_move rfl et)) ?_
   refine s_gval (g_false rfl rfl rfl rfl) rfl (fun hc => (y_geq rfl (ev_gv et hc) (ev_gv et hc))) ?_
   refine sq (y_or rfl et et) ?_
   refine sm ?_
   refine s_gval (g_false rfl rfl rfl rfl) rfl (fun hc => (y_move rfl et)) ?_
   refine s_gval (g_false rfl rfl rfl rfl) rfl (fun hc => (y_fieldAddr rfl et Tryz.underlying41 rfl size_22 rfl)) ?_
   refine s_gval (g_false rfl rfl rfl rfl) rfl (fun hc => (y_load1 (v := (vs a1 t1.Dims.length c1)) rfl (ev_gv et hc) Tryz.underlying22 rfl (hI.kblk (l := [(vs a1 t1.Dims.length c1)]) .z rfl).1)) ?_
   refine s_gval (g_false rfl rfl rfl rfl) rfl (fun hc => (y_move rfl et)) ?_
   obtain ⟨e1, hx3, h⟩ := bnd_some h
   replace hx3 := gd_some hx3
   obtain ⟨ad1, cs1, hq1⟩ := hI.gclat (.s .z) hx3
   have hq2 : (!((decide (from1 < 0)) || (decide (to1 ≤ from1)))) = true → CA (Dj F c7) w3 (ad1.add (Int.toNat axis1 * 1)) [(vi e1)] := fun hc => by have k := hq1 hc; have e : cs1 = _ := k.2.1; rw [← e]; exact k.2.2
   refine s_gval (g_false rfl rfl rfl rfl) rfl (fun hc => (y_indexAddr rfl Tryz.underlying22 size_3 (ev_gv et hc) (ev_gv et hc) (lat_bd (hx3 hc)) (hq1 hc).1)) ?_
   refine s_gval (g_false rfl rfl rfl rfl) rfl (fun hc => (y_load1 (v := (vi e1)) rfl (ev_gv et hc) Tryz.underlying3 rfl (hq2 hc).1)) ?_
   refine s_gval (g_false rfl rfl rfl rfl) rfl (fun hc => (y_gtr rfl (ev_gv et hc) (ev_gv et hc))) ?_
   refine sq (y_or rfl et et) ?_
   refine s_nil ?_
   refine k_next (e := [(1, (vi axis1)), (2, (vi from1)), (3, (vi to1)), (4, (vp b1 0)), (8, (vp b2 0)), (46, (vb (((decide (from1 < 0)) || (decide (to1 ≤ from1))) || (decide (e1 < to1)))))]) ⟨rfl, rfl, rfl, rfl, rfl, rfl, trivial⟩ ?_
   refine c_cond (b := ((decide (from1 < 0)) || (decide (to1 ≤ from1))) || (decide (e1 < to1))) et (fun hb => ?_) (fun hb => ?_)
   ·replace h := ite_t hb h
    refine sr ?_
    refine sq (y_build (vs := []) (cs := #[(vi 0), (vi 0), (vi 0), (vi 0), (vi 0), (vs none 0 0), (vs none 0 0)]) rfl trivial (by kernel_rfl)) ?_
    refine l_store (new := [(vi 0), (vi 0), (vi 0), (vi 0), (vi 0), (vs none 0 0), (vs none 0 0)]) (cs' := #[(vi 0), (vi 0), (vi 0), (vi 0), (vi 0), (vs none 0 0), (vs none 0 0)]) hI .z gn rfl rfl et et rfl size_41 rfl rfl rfl ?_
    clear hI; intro c10 w6 hI
    refine sac ?_
    refine nk ?_
    refine c_ret ?_
    have hI := hI.add (c := Cl.sl (cInt .i64) none 0 ([] : List Int)) SlC.nil
    have hI := hI.add (c := Cl.sl cGVal none 0 ([] : List GVal)) SlC.nil
    obtain rfl := some_inj h
    exact q_ret (vs := [(Value.agg #[(vi 0), (vi 0), (vi 0), (vi 0), (vi 0), (vs none 0 0), (vs none 0 0)]), (vi 12)]) Tryz.results42 ⟨⟨_, ev_tmp rfl rfl, load_agg (l := [(vi 0), (vi 0), (vi 0), (vi 0), (vi 0), (vs none 0 0), (vs none 0 0)]) Tryz.underlying41 rfl size_41 (CellsAt.of_blk (hI.blk .z) rfl)⟩, ⟨ev_tmp rfl rfl, trivial⟩⟩ ⟨none, 0, none, 0, rfl, hI.ext0, hI.fin ⟨(.s .z), .z, trivial⟩⟩
   ·replace h := ite_f hb h
    refine c_skip ?_
    refine k_same ?_
    refine sr ?_
    refine sq (y_fieldAddr rfl et Tryz.underlying41 rfl size_38 rfl) ?_
    refine sq (y_loadN (l := [(vi t1.Type_.Kind), (vi t1.Type_.Bits), (vi t1.Type_.Frac), (vi t1.Type_.Round), (vi t1.Type_.Over)]) rfl et Tryz.underlying38 rfl size_38 (hI.kblk (l := [(vi t1.Type_.Kind), (vi t1.Type_.Bits), (vi t1.Type_.Frac), (vi t1.Type_.Round), (vi t1.Type_.Over)]) .z rfl).1) ?_
    refine sq (y_build (vs := [(0, (Value.agg #[(vi t1.Type_.Kind), (vi t1.Type_.Bits), (vi t1.Type_.Frac), (vi t1.Type_.Round), (vi t1.Type_.Over)]))]) (cs := #[(vi t1.Type_.Kind), (vi t1.Type_.Bits), (vi t1.Type_.Frac), (vi t1.Type_.Round), (vi t1.Type_.Over), (vs none 0 0), (vs none 0 0)]) rfl ⟨rfl, et, trivial⟩ (by kernel_rfl)) ?_
    refine l_alloc (cs := #[(vi 0), (vi 0), (vi 0), (vi 0), (vi 0), (vs none 0 0), (vs none 0 0)]) hI gn rfl rfl zero_41 rfl ?_
    clear hI; intro b3 c11 w7 hI
    refine l_store (new := [(vi t1.Type_.Kind), (vi t1.Type_.Bits), (vi t1.Type_.Frac), (vi t1.Type_.Round), (vi t1.Type_.Over), (vs none 0 0), (vs none 0 0)]) (cs' := #[(vi t1.Type_.Kind), (vi t1.Type_.Bits), (vi t1.Type_.Frac), (vi t1.Type_.Round), (vi t1.Type_.Over), (vs none 0 0), (vs none 0 0)]) hI .z gn rfl rfl et et rfl size_41 rfl rfl rfl ?_
    clear hI; intro c12 w8 hI
    refine nk ?_
    refine c_join (α := GTensor × (Option Addr) × Nat × (Option Addr) × Nat) (fun _ => ⟨115, []⟩) (fun x => [(1, (vi axis1)), (2, (vi from1)), (3, (vi to1)), (4, (vp b1 0)), (8, (vp b2 0)), (11, (vp b3 0))]) (fun x => fun w => ∃ C, Bun noM F w0 C w [MO.row (cInt .i64) 3 (x.2.1) (x.2.2.1) (x.1).Dims, MO.row cGVal 68 (x.2.2.2.1) (x.2.2.2.2) (x.1).Vals, MO.box b2 41 #[(vi 0), (vi 0), (vi 0), (vi 0), (vi 0), (vs none 0 0), (vs none 0 0)], MO.box b3 41 #[(vi (x.1).Type_.Kind), (vi (x.1).Type_.Bits), (vi (x.1).Type_.Frac), (vi (x.1).Type_.Round), (vi (x.1).Type_.Over), (vs (x.2.1) (x.1).Dims.length (x.2.2.1)), (vs (x.2.2.2.1) (x.1).Vals.length (x.2.2.2.2))]] [Cl.blk b1 41 #[(vi t1.Type_.Kind), (vi t1.Type_.Bits), (vi t1.Type_.Frac), (vi t1.Type_.Round), (vi t1.Type_.Over), (vs a1 t1.Dims.length c1), (vs a2 t1.Vals.length c2)], Cl.sl (cInt .i64) a1 c1 t1.Dims, Cl.sl cGVal a2 c2 t1.Vals] ∧ m_ref12_Slice_j1 t1 axis1 from1 to1 (x.1) = some r) ?_ ?_
    ·clear h hI; rintro ⟨out1, a5, c13, a6, c14⟩ w9 ⟨c15, hI, h⟩
     try dsimp only at hI h
     rw [m_ref12_Slice_j1] at h
     refine c_sub (e := [(1, (vi axis1)), (2, (vi from1)), (3, (vi to1)), (4, (vp b1 0)), (8, (vp b2 0)), (11, (vp b3 0))]) ⟨rfl, rfl, rfl, rfl, rfl, rfl, trivial⟩ ?_
     refine c_seq ?_
     refine sr ?_
     refine sac ?_
     refine nk ?_
     refine c_block ?_
     refine c_loop (α := Nat × Int × GTensor × (Option Addr) × Nat × (Option Addr) × Nat) (fun x => fun w => ∃ C, Bun noM F w0 C w [MO.row (cInt .i64) 3 (x.2.2.2.1) (x.2.2.2.2.1) (x.2.2.1).Dims, MO.row cGVal 68 (x.2.2.2.2.2.1) (x.2.2.2.2.2.2) (x.2.2.1).Vals, MO.box b2 41 #[(vi 0), (vi 0), (vi 0), (vi 0), (vi 0), (vs none 0 0), (vs none 0 0)], MO.box b3 41 #[(vi (x.2.2.1).Type_.Kind), (vi (x.2.2.1).Type_.Bits), (vi (x.2.2.1).Type_.Frac), (vi (x.2.2.1).Type_.Round), (vi (x.2.2.1).Type_.Over), (vs (x.2.2.2.1) (x.2.2.1).Dims.length (x.2.2.2.2.1)), (vs (x.2.2.2.2.2.1) (x.2.2.1).Vals.length (x.2.2.2.2.2.2))]] [Cl.blk b1 41 #[(vi t1.Type_.Kind), (vi t1.Type_.Bits), (vi t1.Type_.Frac), (vi t1.Type_.Round), (vi t1.Type_.Over), (vs a1 t1.Dims.length c1), (vs a2 t1.Vals.length c2)], Cl.sl (cInt .i64) a1 c1 t1.Dims, Cl.sl cGVal a2 c2 t1.Vals] ∧ m_ref12_Slice_l1 t1 axis1 from1 to1 (x.1) (x.2.1) (x.2.2.1) = some r) (fun x _ => x.1) (fun x => [(1, (vi axis1)), (2, (vi from1)), (3, (vi to1)), (4, (vp b1 0)), (8, (vp b2 0)), (11, (vp b3 0)), (13, (vi (x.2.1)))]) (fu, 0, out1, a5, c13, a6, c14) ⟨_, hI.arr (.c .z (.c .z (.c .z (.c .z .n)))) ⟨.z, (.s .z), (.s (.s .z)), trivial⟩, h⟩ ⟨rfl, rfl, rfl, rfl, rfl, rfl, rfl, trivial⟩ ?_
     clear h hI; rintro ⟨fuel1, i1, out2, a7, c16, a8, c17⟩ w10 ⟨c18, hI, h⟩
     dsimp only at hI h
     rcases fuel1 with _ | fuel1
     ·rw [m_ref12_Slice_l1] at h; cases h
     rw [m_ref12_Slice_l1] at h
     refine c_sub (e := [(1, (vi axis1)), (2, (vi from1)), (3, (vi to1)), (4, (vp b1 0)), (8, (vp b2 0)), (11, (vp b3 0)), (13, (vi i1))]) ⟨rfl, rfl, rfl, rfl, rfl, rfl, rfl, trivial⟩ ?_
     refine c_seq ?_
     refine sr ?_
     refine sm ?_
     refine sq (y_fieldAddr rfl et Tryz.underlying41 rfl size_39 rfl) ?_
     refine sq (y_load1 (v := (vs a2 t1.Vals.length c2)) rfl et Tryz.underlying39 rfl (hI.kblk (l := [(vs a2 t1.Vals.length c2)]) .z rfl).1) ?_
     refine sq (y_lenl rfl Tryz.underlying39 et) ?_
     refine sq (y_lss rfl et et) ?_
     refine nk ?_
     refine c_cond (b := decide (i1 < (t1.Vals.length : Int))) et (fun hb => ?_) (fun hb => ?_)
     ·replace h := ite_t hb h
      refine c_skip ?_
      refine k_same ?_
      refine c_join (α := GTensor × (Option Addr) × Nat × (Option Addr) × Nat) (fun _ => ⟨115, []⟩) (fun x => [(1, (vi axis1)), (2, (vi from1)), (3, (vi to1)), (4, (vp b1 0)), (8, (vp b2 0)), (11, (vp b3 0)), (13, (vi i1))]) (fun x => fun w => ∃ C, Bun noM F w0 C w [MO.row (cInt .i64) 3 (x.2.1) (x.2.2.1) (x.1).Dims, MO.row cGVal 68 (x.2.2.2.1) (x.2.2.2.2) (x.1).Vals, MO.box b2 41 #[(vi 0), (vi 0), (vi 0), (vi 0), (vi 0), (vs none 0 0), (vs none 0 0)], MO.box b3 41 #[(vi (x.1).Type_.Kind), (vi (x.1).Type_.Bits), (vi (x.1).Type_.Frac), (vi (x.1).Type_.Round), (vi (x.1).Type_.Over), (vs (x.2.1) (x.1).Dims.length (x.2.2.1)), (vs (x.2.2.2.1) (x.1).Vals.length (x.2.2.2.2))]] [Cl.blk b1 41 #[(vi t1.Type_.Kind), (vi t1.Type_.Bits), (vi t1.Type_.Frac), (vi t1.Type_.Round), (vi t1.Type_.Over), (vs a1 t1.Dims.length c1), (vs a2 t1.Vals.length c2)], Cl.sl (cInt .i64) a1 c1 t1.Dims, Cl.sl cGVal a2 c2 t1.Vals] ∧ m_ref12_Slice_j2 (m_ref12_Slice_l1 t1 axis1 from1 to1 fuel1) i1 (x.1) = some r) ?_ ?_
      ·clear h hI; rintro ⟨out3, a9, c19, a10, c20⟩ w11 ⟨c21, hI, h⟩
       try dsimp only at hI h
       rw [m_ref12_Slice_j2] at h
       refine c_sub (e := [(1, (vi axis1)), (2, (vi from1)), (3, (vi to1)), (4, (vp b1 0)), (8, (vp b2 0)), (11, (vp b3 0)), (13, (vi i1))]) ⟨rfl, rfl, rfl, rfl, rfl, rfl, rfl, trivial⟩ ?_
       refine c_region rfl ?_
       refine sm ?_
       refine sq (y_add rfl et ev_const) ?_
       refine sa ?_
       refine s_nil ?_
       exact k_loop (fuel1, wi64 (i1 + 1), out3, a9, c19, a10, c20) ⟨rfl, rfl, rfl, rfl, rfl, rfl, rfl, trivial⟩ ⟨_, hI.arr (.c .z (.c .z (.c .z (.c .z .n)))) ⟨.z, (.s .z), (.s (.s .z)), trivial⟩, h⟩ (Nat.lt_succ_self _)
      ·skip
       refine c_block ?_
       refine sr ?_
       refine sq (y_fieldAddr rfl et Tryz.underlying41 rfl size_22 rfl) ?_
       refine sq (y_load1 (v := (vs a1 t1.Dims.length c1)) rfl et Tryz.underlying22 rfl (hI.kblk (l := [(vs a1 t1.Dims.length c1)]) .z rfl).1) ?_
       refine sm ?_
       obtain ⟨r2, hx4, h⟩ := bnd_some h
       refine s_call gn rfl (r_callF (vs := [(vs a1 t1.Dims.length c1), (vi i1)]) rfl ok_67 ⟨et, ⟨et, trivial⟩⟩) (Calls.mono (c_ref12_Point (Dj F c18) w10 hI.lt t1.Dims i1 a1 c1 ⟨(hI.get (.s .z)), trivial⟩ r2 hx4) ?_)
       rintro _ w12 ⟨a11, c22, rfl, hx5, hl2⟩
       refine ⟨_, rfl, ?_⟩
       replace hI := (hI.ext hx5).adds hl2
       refine sa ?_
       refine nk ?_
       refine sr ?_
       refine sm ?_
       refine sm ?_
       obtain ⟨e2, hx6, h⟩ := bnd_some h
       obtain ⟨ad2, cs2, hA2, hr2, hq3⟩ := hI.clat .z hx6
       obtain rfl : cs2 = [(vi e2)] := hr2
       refine sq (y_indexAddr rfl Tryz.underlying22 size_3 et et (lat_bd hx6) hA2) ?_
       refine sq (y_load1 (v := (vi e2)) rfl et Tryz.underlying3 rfl hq3.1) ?_
       refine sm ?_
       refine sq (y_geq rfl et et) ?_
       refine sm ?_
       refine s_gval (g_true rfl rfl rfl rfl) rfl (fun hc => (y_move rfl et)) ?_
       refine s_gval (g_true rfl rfl rfl rfl) rfl (fun hc => (y_move rfl et)) ?_
       obtain ⟨e3, hx7, h⟩ := bnd_some h
       replace hx7 := gd_some hx7
       obtain ⟨ad3, cs3, hq4⟩ := hI.gclat .z hx7
       have hq5 : (decide (from1 ≤ e2)) = true → CA (Dj F c18) w12 (ad3.add (Int.toNat axis1 * 1)) [(vi e3)] := fun hc => by have k := hq4 hc; have e : cs3 = _ := k.2.1; rw [← e]; exact k.2.2
       refine s_gval (g_true rfl rfl rfl rfl) rfl (fun hc => (y_indexAddr rfl Tryz.underlying22 size_3 (ev_gv et hc) (ev_gv et hc) (lat_bd (hx7 hc)) (hq4 hc).1)) ?_
       refine s_gval (g_true rfl rfl rfl rfl) rfl (fun hc => (y_load1 (v := (vi e3)) rfl (ev_gv et hc) Tryz.underlying3 rfl (hq5 hc).1)) ?_
       refine s_gval (g_true rfl rfl rfl rfl) rfl (fun hc => (y_move rfl et)) ?_
       refine s_gval (g_true rfl rfl rfl rfl) rfl (fun hc => (y_lss rfl (ev_gv et hc) (ev_gv et hc))) ?_
       refine sq (y_and rfl et et) ?_
       refine nk ?_
       refine c_cond (b := (decide (from1 ≤ e2)) && (decide (e3 < to1))) et (fun hb => ?_) (fun hb => ?_)
       ·replace h := ite_t hb h
        refine c_drawX [8, 10] false (.c (0, .q) (.c (1, .q) (.c (2, .q) (.c (3, .q) (.c (4, .q) (.c (5, .q) (.c (6, .q) (.c (7, .s) (.c (8, .s) (.c (9, .q) (.c (10, .s) .n))))))))))) hI (by kernel_rfl) (by kernel_rfl) ?_
        clear hI; intro w13 hI
        refine a_q rfl gn rfl (fun w' => (y_fieldAddr rfl et Tryz.underlying41 rfl size_39 rfl)) ?_
        refine a_read rfl gn rfl (fun w' hw' => (y_load1 (v := (vs a8 out2.Vals.length c17)) rfl et Tryz.underlying39 rfl ((CA.blk (hI.blk (.s (.s (.s .z)))) rfl).at_ (SX.any rfl hw')))) (by kernel_rfl) ?_
        refine a_q rfl gn rfl (fun w' => (y_fieldAddr rfl et Tryz.underlying41 rfl size_39 rfl)) ?_
        refine a_read rfl gn rfl (fun w' hw' => (y_load1 (v := (vs a2 t1.Vals.length c2)) rfl et Tryz.underlying39 rfl ((hI.kblk (l := [(vs a2 t1.Vals.length c2)]) (.s .z) rfl).at_ (SX.any rfl hw')))) (by kernel_rfl) ?_
        refine a_q rfl gn rfl (fun w' => (y_move rfl et)) ?_
        obtain ⟨e4, hx8, h⟩ := bnd_some h
        obtain ⟨ad4, cs4, hA4, hr4, hq6⟩ := hI.clat (.s (.s (.s .z))) hx8
        obtain rfl : cs4 = [(vi e4.N), (vi e4.D)] := hr4
        refine a_q rfl gn rfl (fun w' => (y_indexAddr rfl Tryz.underlying39 size_68 et et (lat_bd hx8) hA4)) ?_
        refine a_read rfl gn rfl (fun w' hw' => (y_loadN (l := [(vi e4.N), (vi e4.D)]) rfl et Tryz.underlying68 rfl size_68 (hq6.at_ (SX.any rfl hw')))) (by kernel_rfl) ?_
        refine la_lit (c := cGVal) (xs := ([e4] : List GVal)) (vs := [(0, (Value.agg #[(vi e4.N), (vi e4.D)]))]) (cs := #[(vi e4.N), (vi e4.D)]) (css := [[(vi e4.N), (vi e4.D)]]) hI rfl gn rfl rfl Tryz.underlying39 info_68 rfl ⟨rfl, et, trivial⟩ (by kernel_rfl) ⟨rfl, trivial⟩ rfl rfl rfl ?_
        clear hI; intro b4 c23 w14 hI
        refine a_turn (F := F) (C := c23) rfl rfl ?_
        obtain ⟨zs1, hx9, h⟩ := bnd_some h
        refine la_append (xs := out2.Vals) (ys := ([e4] : List GVal)) hI (.s (.s .z)) (hI.rd .z) hx9 rfl gn rfl rfl Tryz.underlying39 info_68 rfl rfl et et ?_
        clear hI; intro a12 c24 c25 w15 hI
        refine a_q rfl gn rfl (fun w' => (y_fieldAddr rfl et Tryz.underlying41 rfl size_39 rfl)) ?_
        refine la_store (new := [(vs a12 zs1.length c24)]) (cs' := #[(vi out2.Type_.Kind), (vi out2.Type_.Bits), (vi out2.Type_.Frac), (vi out2.Type_.Round), (vi out2.Type_.Over), (vs a7 out2.Dims.length c16), (vs a12 zs1.length c24)]) hI (.s (.s (.s (.s .z)))) rfl gn rfl rfl et et rfl size_39 rfl rfl rfl ?_
        clear hI; intro c26 w16 hI
        refine a_nil ?_
        exact k_join ((⟨out2.Type_, out2.Dims, zs1⟩ : GTensor), a7, c16, a12, c24) ⟨rfl, rfl, rfl, rfl, rfl, rfl, rfl, trivial⟩ ⟨_, hI.arr (.c (.s .z) (.c (.s .z) (.c (.s .z) (.c (.s .z) .n)))) ⟨(.s .z), (.s (.s .z)), (.s (.s (.s .z))), trivial⟩, h⟩ rfl
       ·replace h := ite_f hb h
        refine c_skip ?_
        exact k_join (out2, a7, c16, a8, c17) ⟨rfl, rfl, rfl, rfl, rfl, rfl, rfl, trivial⟩ ⟨_, hI.arr (.c .z (.c .z (.c .z (.c .z .n)))) ⟨(.s .z), (.s (.s .z)), (.s (.s (.s .z))), trivial⟩, h⟩ rfl
     ·replace h := ite_f hb h
      refine c_exit ?_
      refine k_in ?_
      refine k_same ?_
      refine sr ?_
      refine sq (y_loadN (l := [(vi out2.Type_.Kind), (vi out2.Type_.Bits), (vi out2.Type_.Frac), (vi out2.Type_.Round), (vi out2.Type_.Over), (vs a7 out2.Dims.length c16), (vs a8 out2.Vals.length c17)]) rfl et Tryz.underlying41 rfl size_41 (CellsAt.of_blk (hI.blk (.s (.s (.s .z)))) rfl)) ?_
      refine l_store (new := [(vi out2.Type_.Kind), (vi out2.Type_.Bits), (vi out2.Type_.Frac), (vi out2.Type_.Round), (vi out2.Type_.Over), (vs a7 out2.Dims.length c16), (vs a8 out2.Vals.length c17)]) (cs' := #[(vi out2.Type_.Kind), (vi out2.Type_.Bits), (vi out2.Type_.Frac), (vi out2.Type_.Round), (vi out2.Type_.Over), (vs a7 out2.Dims.length c16), (vs a8 out2.Vals.length c17)]) hI (.s (.s .z)) gn rfl rfl et et rfl size_41 rfl rfl rfl ?_
      clear hI; intro c27 w17 hI
      refine sac ?_
      refine nk ?_
      refine c_ret ?_
      obtain ⟨c28, hI⟩ := hI.release .z
      obtain ⟨c29, hI⟩ := hI.release .z
      obtain rfl := some_inj h
      exact q_ret (vs := [(Value.agg #[(vi out2.Type_.Kind), (vi out2.Type_.Bits), (vi out2.Type_.Frac), (vi out2.Type_.Round), (vi out2.Type_.Over), (vs a7 out2.Dims.length c16), (vs a8 out2.Vals.length c17)]), (vi 0)]) Tryz.results42 ⟨⟨_, ev_tmp rfl rfl, load_agg (l := [(vi out2.Type_.Kind), (vi out2.Type_.Bits), (vi out2.Type_.Frac), (vi out2.Type_.Round), (vi out2.Type_.Over), (vs a7 out2.Dims.length c16), (vs a8 out2.Vals.length c17)]) Tryz.underlying41 rfl size_41 (CellsAt.of_blk (hI.blk .z) rfl)⟩, ⟨ev_tmp rfl rfl, trivial⟩⟩ ⟨a7, c16, a8, c17, rfl, hI.ext0, hI.fin ⟨(.s .z), .z, trivial⟩⟩
    ·skip
     refine sr ?_
     refine sac ?_
     refine nk ?_
     refine c_block ?_
     have hI := hI.nil (cInt .i64) 3 none
     have hI := hI.nil cGVal 68 none
     refine c_loop (α := Nat × Int × GTensor × (Option Addr) × Nat × (Option Addr) × Nat) (fun x => fun w => ∃ C, Bun noM F w0 C w [MO.row (cInt .i64) 3 (x.2.2.2.1) (x.2.2.2.2.1) (x.2.2.1).Dims, MO.row cGVal 68 (x.2.2.2.2.2.1) (x.2.2.2.2.2.2) (x.2.2.1).Vals, MO.box b2 41 #[(vi 0), (vi 0), (vi 0), (vi 0), (vi 0), (vs none 0 0), (vs none 0 0)], MO.box b3 41 #[(vi (x.2.2.1).Type_.Kind), (vi (x.2.2.1).Type_.Bits), (vi (x.2.2.1).Type_.Frac), (vi (x.2.2.1).Type_.Round), (vi (x.2.2.1).Type_.Over), (vs (x.2.2.2.1) (x.2.2.1).Dims.length (x.2.2.2.2.1)), (vs (x.2.2.2.2.2.1) (x.2.2.1).Vals.length (x.2.2.2.2.2.2))]] [Cl.blk b1 41 #[(vi t1.Type_.Kind), (vi t1.Type_.Bits), (vi t1.Type_.Frac), (vi t1.Type_.Round), (vi t1.Type_.Over), (vs a1 t1.Dims.length c1), (vs a2 t1.Vals.length c2)], Cl.sl (cInt .i64) a1 c1 t1.Dims, Cl.sl cGVal a2 c2 t1.Vals] ∧ m_ref12_Slice_l2 t1 axis1 to1 from1 (x.1) (x.2.1) (x.2.2.1) = some r) (fun x _ => x.1) (fun x => [(1, (vi axis1)), (2, (vi from1)), (3, (vi to1)), (4, (vp b1 0)), (8, (vp b2 0)), (11, (vp b3 0)), (12, (vi (x.2.1)))]) (fu, 0, (⟨t1.Type_, ([] : List Int), ([] : List GVal)⟩ : GTensor), none, 0, none, 0) ⟨_, hI.arr (.c (.s .z) (.c .z (.c (.s .z) (.c .z .n)))) ⟨.z, (.s .z), (.s (.s .z)), trivial⟩, h⟩ ⟨rfl, rfl, rfl, rfl, rfl, rfl, rfl, trivial⟩ ?_
     clear h hI; rintro ⟨fuel2, i2, out4, a13, c30, a14, c31⟩ w18 ⟨c32, hI, h⟩
     dsimp only at hI h
     rcases fuel2 with _ | fuel2
     ·rw [m_ref12_Slice_l2] at h; cases h
     rw [m_ref12_Slice_l2] at h
     refine c_sub (e := [(1, (vi axis1)), (2, (vi from1)), (3, (vi to1)), (4, (vp b1 0)), (8, (vp b2 0)), (11, (vp b3 0)), (12, (vi i2))]) ⟨rfl, rfl, rfl, rfl, rfl, rfl, rfl, trivial⟩ ?_
     refine c_seq ?_
     refine sr ?_
     refine sm ?_
     refine sq (y_fieldAddr rfl et Tryz.underlying41 rfl size_22 rfl) ?_
     refine sq (y_load1 (v := (vs a1 t1.Dims.length c1)) rfl et Tryz.underlying22 rfl (hI.kblk (l := [(vs a1 t1.Dims.length c1)]) .z rfl).1) ?_
     refine sq (y_lenl rfl Tryz.underlying22 et) ?_
     refine sq (y_lss rfl et et) ?_
     refine nk ?_
     refine c_cond (b := decide (i2 < (t1.Dims.length : Int))) et (fun hb => ?_) (fun hb => ?_)
     ·replace h := ite_t hb h
      refine c_skip ?_
      refine k_same ?_
      refine c_join (α := GTensor × (Option Addr) × Nat × (Option Addr) × Nat) (fun _ => ⟨115, []⟩) (fun x => [(1, (vi axis1)), (2, (vi from1)), (3, (vi to1)), (4, (vp b1 0)), (8, (vp b2 0)), (11, (vp b3 0)), (12, (vi i2))]) (fun x => fun w => ∃ C, Bun noM F w0 C w [MO.row (cInt .i64) 3 (x.2.1) (x.2.2.1) (x.1).Dims, MO.row cGVal 68 (x.2.2.2.1) (x.2.2.2.2) (x.1).Vals, MO.box b2 41 #[(vi 0), (vi 0), (vi 0), (vi 0), (vi 0), (vs none 0 0), (vs none 0 0)], MO.box b3 41 #[(vi (x.1).Type_.Kind), (vi (x.1).Type_.Bits), (vi (x.1).Type_.Frac), (vi (x.1).Type_.Round), (vi (x.1).Type_.Over), (vs (x.2.1) (x.1).Dims.length (x.2.2.1)), (vs (x.2.2.2.1) (x.1).Vals.length (x.2.2.2.2))]] [Cl.blk b1 41 #[(vi t1.Type_.Kind), (vi t1.Type_.Bits), (vi t1.Type_.Frac), (vi t1.Type_.Round), (vi t1.Type_.Over), (vs a1 t1.Dims.length c1), (vs a2 t1.Vals.length c2)], Cl.sl (cInt .i64) a1 c1 t1.Dims, Cl.sl cGVal a2 c2 t1.Vals] ∧ m_ref12_Slice_j3 (m_ref12_Slice_l2 t1 axis1 to1 from1 fuel2) i2 (x.1) = some r) ?_ ?_
      ·clear h hI; rintro ⟨out5, a15, c33, a16, c34⟩ w19 ⟨c35, hI, h⟩
       try dsimp only at hI h
       rw [m_ref12_Slice_j3] at h
       refine c_sub (e := [(1, (vi axis1)), (2, (vi from1)), (3, (vi to1)), (4, (vp b1 0)), (8, (vp b2 0)), (11, (vp b3 0)), (12, (vi i2))]) ⟨rfl, rfl, rfl, rfl, rfl, rfl, rfl, trivial⟩ ?_
       refine c_region rfl ?_
       refine sm ?_
       refine sq (y_add rfl et ev_const) ?_
       refine sa ?_
       refine s_nil ?_
       exact k_loop (fuel2, wi64 (i2 + 1), out5, a15, c33, a16, c34) ⟨rfl, rfl, rfl, rfl, rfl, rfl, rfl, trivial⟩ ⟨_, hI.arr (.c .z (.c .z (.c .z (.c .z .n)))) ⟨.z, (.s .z), (.s (.s .z)), trivial⟩, h⟩ (Nat.lt_succ_self _)
      ·skip
       refine c_block ?_
       refine sr ?_
       refine sm ?_
       refine sm ?_
       refine sq (y_eql rfl et et) ?_
       refine nk ?_
       refine c_cond (b := decide (i2 = axis1)) et (fun hb => ?_) (fun hb => ?_)
       ·replace h := ite_t hb h
        refine c_region rfl ?_
        refine sq (y_fieldAddr rfl et Tryz.underlying41 rfl size_22 rfl) ?_
        refine sq (y_load1 (v := (vs a13 out4.Dims.length c30)) rfl et Tryz.underlying22 rfl (CellsAt.of_blk (hI.blk (.s (.s (.s .z)))) rfl)) ?_
        refine sm ?_
        refine sm ?_
        refine sq (y_sub rfl et et) ?_
        refine l_lit (c := (cInt .i64)) (xs := ([wi64 (to1 - from1)] : List Int)) (vs := [(0, (vi (wi64 (to1 - from1))))]) (cs := #[(vi (wi64 (to1 - from1)))]) (css := [[(vi (wi64 (to1 - from1)))]]) hI gn rfl rfl Tryz.underlying22 info_3 rfl ⟨rfl, et, trivial⟩ (by kernel_rfl) ⟨rfl, trivial⟩ rfl rfl rfl ?_
        clear hI; intro b5 c36 w20 hI
        obtain ⟨zs2, hx10, h⟩ := bnd_some h
        refine l_append (xs := out4.Dims) (ys := ([wi64 (to1 - from1)] : List Int)) hI (.s .z) (hI.rd .z) hx10 gn rfl rfl Tryz.underlying22 info_3 rfl rfl et et ?_
        clear hI; intro a17 c37 c38 w21 hI
        refine sq (y_fieldAddr rfl et Tryz.underlying41 rfl size_22 rfl) ?_
        refine l_store (new := [(vs a17 zs2.length c37)]) (cs' := #[(vi out4.Type_.Kind), (vi out4.Type_.Bits), (vi out4.Type_.Frac), (vi out4.Type_.Round), (vi out4.Type_.Over), (vs a17 zs2.length c37), (vs a14 out4.Vals.length c31)]) hI (.s (.s (.s (.s .z)))) gn rfl rfl et et rfl size_22 rfl rfl rfl ?_
        clear hI; intro c39 w22 hI
        refine s_nil ?_
        exact k_join ((⟨out4.Type_, zs2, out4.Vals⟩ : GTensor), a17, c37, a14, c31) ⟨rfl, rfl, rfl, rfl, rfl, rfl, rfl, trivial⟩ ⟨_, hI.arr (.c (.s .z) (.c (.s .z) (.c (.s .z) (.c (.s .z) .n)))) ⟨.z, (.s .z), (.s (.s .z)), trivial⟩, h⟩ rfl
       ·replace h := ite_f hb h
        refine c_drawX [8, 10] false (.c (0, .q) (.c (1, .q) (.c (2, .q) (.c (3, .q) (.c (4, .q) (.c (5, .q) (.c (6, .q) (.c (7, .s) (.c (8, .s) (.c (9, .q) (.c (10, .s) .n))))))))))) hI (by kernel_rfl) (by kernel_rfl) ?_
        clear hI; intro w23 hI
        refine a_q rfl gn rfl (fun w' => (y_fieldAddr rfl et Tryz.underlying41 rfl size_22 rfl)) ?_
        refine a_read rfl gn rfl (fun w' hw' => (y_load1 (v := (vs a13 out4.Dims.length c30)) rfl et Tryz.underlying22 rfl ((CA.blk (hI.blk (.s (.s (.s .z)))) rfl).at_ (SX.any rfl hw')))) (by kernel_rfl) ?_
        refine a_q rfl gn rfl (fun w' => (y_fieldAddr rfl et Tryz.underlying41 rfl size_22 rfl)) ?_
        refine a_read rfl gn rfl (fun w' hw' => (y_load1 (v := (vs a1 t1.Dims.length c1)) rfl et Tryz.underlying22 rfl ((hI.kblk (l := [(vs a1 t1.Dims.length c1)]) .z rfl).at_ (SX.any rfl hw')))) (by kernel_rfl) ?_
        refine a_q rfl gn rfl (fun w' => (y_move rfl et)) ?_
        obtain ⟨e5, hx11, h⟩ := bnd_some h
        obtain ⟨ad5, cs5, hA5, hr5, hq7⟩ := hI.clat (.s .z) hx11
        obtain rfl : cs5 = [(vi e5)] := hr5
        refine a_q rfl gn rfl (fun w' => (y_indexAddr rfl Tryz.underlying22 size_3 et et (lat_bd hx11) hA5)) ?_
        refine a_read rfl gn rfl (fun w' hw' => (y_load1 (v := (vi e5)) rfl et Tryz.underlying3 rfl (hq7.at_ (SX.any rfl hw')))) (by kernel_rfl) ?_
        refine la_lit (c := (cInt .i64)) (xs := ([e5] : List Int)) (vs := [(0, (vi e5))]) (cs := #[(vi e5)]) (css := [[(vi e5)]]) hI rfl gn rfl rfl Tryz.underlying22 info_3 rfl ⟨rfl, et, trivial⟩ (by kernel_rfl) ⟨rfl, trivial⟩ rfl rfl rfl ?_
        clear hI; intro b6 c40 w24 hI
        refine a_turn (F := F) (C := c40) rfl rfl ?_
        obtain ⟨zs3, hx12, h⟩ := bnd_some h
        refine la_append (xs := out4.Dims) (ys := ([e5] : List Int)) hI (.s .z) (hI.rd .z) hx12 rfl gn rfl rfl Tryz.underlying22 info_3 rfl rfl et et ?_
        clear hI; intro a18 c41 c42 w25 hI
        refine a_q rfl gn rfl (fun w' => (y_fieldAddr rfl et Tryz.underlying41 rfl size_22 rfl)) ?_
        refine la_store (new := [(vs a18 zs3.length c41)]) (cs' := #[(vi out4.Type_.Kind), (vi out4.Type_.Bits), (vi out4.Type_.Frac), (vi out4.Type_.Round), (vi out4.Type_.Over), (vs a18 zs3.length c41), (vs a14 out4.Vals.length c31)]) hI (.s (.s (.s (.s .z)))) rfl gn rfl rfl et et rfl size_22 rfl rfl rfl ?_
        clear hI; intro c43 w26 hI
        refine a_nil ?_
        exact k_join ((⟨out4.Type_, zs3, out4.Vals⟩ : GTensor), a18, c41, a14, c31) ⟨rfl, rfl, rfl, rfl, rfl, rfl, rfl, trivial⟩ ⟨_, hI.arr (.c (.s .z) (.c (.s .z) (.c (.s .z) (.c (.s .z) .n)))) ⟨.z, (.s .z), (.s (.s .z)), trivial⟩, h⟩ rfl
     ·replace h := ite_f hb h
      refine c_exit ?_
      refine k_in ?_
      exact k_join (out4, a13, c30, a14, c31) ⟨rfl, rfl, rfl, rfl, rfl, rfl, trivial⟩ ⟨_, hI.arr (.c .z (.c .z (.c .z (.c .z .n)))) ⟨.z, (.s .z), (.s (.s .z)), trivial⟩, h⟩ rfl

def tr_ref53_SliceLocal_3_0 : Tr := (.c (23, .s) (.c (24, .q) .n))
set_option maxRecDepth 100000 in
set_option maxHeartbeats 4000000 in
theorem c_ref53_SliceLocal (F : NP) (w0 : World) (hF : ∀ k, F k → k < w0.heap.size) (m1 : GMesh) (l1 : List GTensor) (axis1 : Int) (along1 : Int) (a1 : Option Addr) (c1 : Nat) (a2 : Option Addr) (c2 : Nat) (hc : AllCl [Cl.sl (cInt .i64) a1 c1 m1.Dims, Cl.sl cGTensor a2 c2 l1] F w0) (r : List GTensor × Int)
  (h : m_ref53_SliceLocal m1 l1 axis1 along1 = some r) :
  Calls Tryz.prog 14 #[(Value.agg #[(vs a1 m1.Dims.length c1)]), (vs a2 l1.length c2), (vi axis1), (vi along1)] w0 fun e w => ∃ (a3 : Option Addr) (c3 : Nat), e = .returned (Value.tuple #[(vs a3 r.1.length c3), (vi r.2)]) ∧ Ext w0 w ∧ AllCl [Cl.sl cGTensor a3 c3 r.1] F w := by
 refine enterK (l := [(Value.agg #[(vs a1 m1.Dims.length c1)]), (vs a2 l1.length c2), (vi axis1), (vi along1)]) Tryz.func14 rfl Tryz.ntmps14 rfl ?_
 have hI := Bun.start hF hc
 clear hc
 rw [m_ref53_SliceLocal] at h
 refine sr ?_
 refine l_box (v := (Value.agg #[(vs a1 m1.Dims.length c1)])) (cs := #[(vs a1 m1.Dims.length c1)]) hI gn rfl rfl et rfl ?_
 clear hI; intro b1 c4 w1 hI
 obtain ⟨c5, hI⟩ := hI.relBox .z
 refine sac ?_
 refine sac ?_
 refine nk ?_
 refine c_seq ?_
 refine sr ?_
 refine sq (y_loadN (l := [(vs a1 m1.Dims.length c1)]) rfl et Tryz.underlying24 rfl size_24 (hI.kblk (l := [(vs a1 m1.Dims.length c1)]) .z rfl).1) ?_
 refine sm ?_
 refine sm ?_
 refine sm ?_
 obtain ⟨r1, hx1, h⟩ := bnd_some h
 refine s_call gn rfl (r_callF (vs := [(Value.agg #[(vs a1 m1.Dims.length c1)]), (vs a2 l1.length c2), (vi axis1), (vi along1)]) rfl ok_35 ⟨et, ⟨et, ⟨et, ⟨et, trivial⟩⟩⟩⟩) (Calls.mono (c_ref53_axes (Dj F c5) w1 hI.lt m1 l1 axis1 along1 a1 c1 a2 c2 ⟨(hI.get (.s .z)), (hI.get (.s (.s .z))), trivial⟩ r1 hx1) ?_)
 rintro _ w2 ⟨rfl, hx2, hl1⟩
 refine ⟨_, rfl, ?_⟩
 replace hI := (hI.ext hx2)
 refine sa ?_
 refine nk ?_
 refine sr ?_
 refine sm ?_
 refine sq (y_neq rfl et ev_const) ?_
 refine nk ?_
 refine c_cond (b := !decide (r1 = 0)) et (fun hb => ?_) (fun hb => ?_)
 ·replace h := ite_t hb h
  refine sr ?_
  refine sm ?_
  refine sac ?_
  refine sa ?_
  refine nk ?_
  refine c_ret ?_
  have hI := hI.add (c := Cl.sl cGTensor none 0 ([] : List GTensor)) SlC.nil
  obtain rfl := some_inj h
  exact q_ret (vs := [(vs none 0 0), (vi r1)]) Tryz.results14 ⟨ev_tmp rfl rfl, ⟨ev_tmp rfl rfl, trivial⟩⟩ ⟨none, 0, rfl, hI.ext0, hI.fin ⟨.z, trivial⟩⟩
 ·replace h := ite_f hb h
  refine c_skip ?_
  refine k_same ?_
  refine c_seq ?_
  refine c_seq ?_
  refine c_drawX [] false (.c (0, .q) (.c (1, .q) (.c (2, .q) (.c (3, .q) (.c (4, .q) (.c (5, .q) (.c (6, .q) (.c (7, .q) (.c (8, .q) (.c (9, .q) (.c (10, .q) (.c (11, .q) (.c (12, .q) (.c (13, .q) .n)))))))))))))) hI (by kernel_rfl) (by kernel_rfl) ?_
  clear hI; intro w3 hI
  refine a_q rfl gn rfl (fun w' => (y_move rfl et)) ?_
  obtain ⟨e1, hx3, h⟩ := bnd_some h
  obtain ⟨ad1, cs1, hA1, hr1, hq1⟩ := hI.clat (.s (.s .z)) hx3
  obtain ⟨a4, c6, a5, c7, rfl, hf1, hf2⟩ := hr1
  have hI := hI.add (c := Cl.sl (cInt .i64) a4 c6 e1.Dims) hf1
  have hI := hI.add (c := Cl.sl cGVal a5 c7 e1.Vals) hf2
  refine a_q rfl gn rfl (fun w' => (y_indexAddr rfl Tryz.underlying25 size_41 et ev_const (lat_bd hx3) hA1)) ?_
  refine a_q rfl gn rfl (fun w' => (y_fieldAddr rfl et Tryz.underlying41 rfl size_22 rfl)) ?_
  refine a_read rfl gn rfl (fun w' hw' => (y_load1 (v := (vs a4 e1.Dims.length c6)) rfl et Tryz.underlying22 rfl ((CA.part hq1 rfl).at_ (SX.any rfl hw')))) (by kernel_rfl) ?_
  refine a_q rfl gn rfl (fun w' => (y_move rfl et)) ?_
  obtain ⟨e2, hx4, h⟩ := bnd_some h
  obtain ⟨ad2, cs2, hA2, hr2, hq2⟩ := hI.clat (.s .z) hx4
  obtain rfl : cs2 = [(vi e2)] := hr2
  refine a_q rfl gn rfl (fun w' => (y_indexAddr rfl Tryz.underlying22 size_3 et et (lat_bd hx4) hA2)) ?_
  refine a_read rfl gn rfl (fun w' hw' => (y_load1 (v := (vi e2)) rfl et Tryz.underlying3 rfl (hq2.at_ (SX.any rfl hw')))) (by kernel_rfl) ?_
  refine a_q rfl gn rfl (fun w' => (y_fieldAddr rfl et Tryz.underlying24 rfl size_22 rfl)) ?_
  refine a_read rfl gn rfl (fun w' hw' => (y_load1 (v := (vs a1 m1.Dims.length c1)) rfl et Tryz.underlying22 rfl ((hI.kblk (l := [(vs a1 m1.Dims.length c1)]) (.s (.s .z)) rfl).at_ (SX.any rfl hw')))) (by kernel_rfl) ?_
  refine a_q rfl gn rfl (fun w' => (y_move rfl et)) ?_
  obtain ⟨e3, hx5, h⟩ := bnd_some h
  obtain ⟨ad3, cs3, hA3, hr3, hq3⟩ := hI.clat (.s (.s (.s .z))) hx5
  obtain rfl : cs3 = [(vi e3)] := hr3
  refine a_q rfl gn rfl (fun w' => (y_indexAddr rfl Tryz.underlying22 size_3 et et (lat_bd hx5) hA3)) ?_
  refine a_read rfl gn rfl (fun w' hw' => (y_load1 (v := (vi e3)) rfl et Tryz.underlying3 rfl (hq3.at_ (SX.any rfl hw')))) (by kernel_rfl) ?_
  obtain ⟨ho1, h⟩ := chk_some h
  refine a_q rfl gn rfl (fun w' => (y_rem rfl et et ho1)) ?_
  refine a_q rfl gn rfl (fun w' => (y_neq rfl et ev_const)) ?_
  refine a_nil ?_
  refine k_next (e := [(1, (vs a2 l1.length c2)), (2, (vi axis1)), (3, (vi along1)), (4, (vp b1 0)), (39, (vb (!decide (Int.tmod e2 e3 = 0))))]) ⟨rfl, rfl, rfl, rfl, rfl, trivial⟩ ?_
  refine c_cond (b := !decide (Int.tmod e2 e3 = 0)) et (fun hb => ?_) (fun hb => ?_)
  ·replace h := ite_t hb h
   refine sr ?_
   refine sac ?_
   refine sac ?_
   refine nk ?_
   refine c_ret ?_
   have hI := hI.add (c := Cl.sl cGTensor none 0 ([] : List GTensor)) SlC.nil
   obtain rfl := some_inj h
   exact q_ret (vs := [(vs none 0 0), (vi 15)]) Tryz.results14 ⟨ev_tmp rfl rfl, ⟨ev_tmp rfl rfl, trivial⟩⟩ ⟨none, 0, rfl, hI.ext0, hI.fin ⟨.z, trivial⟩⟩
  ·replace h := ite_f hb h
   refine c_skip ?_
   refine k_same ?_
   refine c_seq ?_
   refine c_drawX [] false (.c (0, .q) (.c (1, .q) (.c (2, .q) (.c (3, .q) (.c (4, .q) (.c (5, .q) (.c (6, .q) (.c (7, .q) (.c (8, .q) (.c (9, .q) (.c (10, .q) (.c (11, .q) (.c (12, .q) (.c (13, .q) .n)))))))))))))) hI (by kernel_rfl) (by kernel_rfl) ?_
   clear hI; intro w4 hI
   refine a_q rfl gn rfl (fun w' => (y_move rfl et)) ?_
   obtain ⟨e4, hx6, h⟩ := bnd_some h
   obtain ⟨ad4, cs4, hA4, hr4, hq4⟩ := hI.clat (.s (.s (.s (.s .z)))) hx6
   obtain ⟨a6, c8, a7, c9, rfl, hf3, hf4⟩ := hr4
   have hI := hI.add (c := Cl.sl (cInt .i64) a6 c8 e4.Dims) hf3
   have hI := hI.add (c := Cl.sl cGVal a7 c9 e4.Vals) hf4
   refine a_q rfl gn rfl (fun w' => (y_indexAddr rfl Tryz.underlying25 size_41 et ev_const (lat_bd hx6) hA4)) ?_
   refine a_q rfl gn rfl (fun w' => (y_fieldAddr rfl et Tryz.underlying41 rfl size_22 rfl)) ?_
   refine a_read rfl gn rfl (fun w' hw' => (y_load1 (v := (vs a6 e4.Dims.length c8)) rfl et Tryz.underlying22 rfl ((CA.part hq4 rfl).at_ (SX.any rfl hw')))) (by kernel_rfl) ?_
   refine a_q rfl gn rfl (fun w' => (y_move rfl et)) ?_
   obtain ⟨e5, hx7, h⟩ := bnd_some h
   obtain ⟨ad5, cs5, hA5, hr5, hq5⟩ := hI.clat (.s .z) hx7
   obtain rfl : cs5 = [(vi e5)] := hr5
   refine a_q rfl gn rfl (fun w' => (y_indexAddr rfl Tryz.underlying22 size_3 et et (lat_bd hx7) hA5)) ?_
   refine a_read rfl gn rfl (fun w' hw' => (y_load1 (v := (vi e5)) rfl et Tryz.underlying3 rfl (hq5.at_ (SX.any rfl hw')))) (by kernel_rfl) ?_
   refine a_q rfl gn rfl (fun w' => (y_fieldAddr rfl et Tryz.underlying24 rfl size_22 rfl)) ?_
   refine a_read rfl gn rfl (fun w' hw' => (y_load1 (v := (vs a1 m1.Dims.length c1)) rfl et Tryz.underlying22 rfl ((hI.kblk (l := [(vs a1 m1.Dims.length c1)]) (.s (.s (.s (.s .z)))) rfl).at_ (SX.any rfl hw')))) (by kernel_rfl) ?_
   refine a_q rfl gn rfl (fun w' => (y_move rfl et)) ?_
   obtain ⟨e6, hx8, h⟩ := bnd_some h
   obtain ⟨ad6, cs6, hA6, hr6, hq6⟩ := hI.clat (.s (.s (.s (.s (.s .z))))) hx8
   obtain rfl : cs6 = [(vi e6)] := hr6
   refine a_q rfl gn rfl (fun w' => (y_indexAddr rfl Tryz.underlying22 size_3 et et (lat_bd hx8) hA6)) ?_
   refine a_read rfl gn rfl (fun w' hw' => (y_load1 (v := (vi e6)) rfl et Tryz.underlying3 rfl (hq6.at_ (SX.any rfl hw')))) (by kernel_rfl) ?_
   obtain ⟨ho2, h⟩ := chk_some h
   refine a_q rfl gn rfl (fun w' => (y_quo rfl et et ho2)) ?_
   refine a_q rfl gn rfl (fun w' => (y_assign rfl et)) ?_
   refine a_nil ?_
   refine k_same ?_
   refine sr ?_
   refine sac ?_
   refine nk ?_
   refine c_seq ?_
   refine sr ?_
   refine sac ?_
   refine nk ?_
   refine c_block ?_
   have hI := hI.nil cGTensor 41 none
   refine c_loop (α := Nat × (List GTensor) × Int × (Option Addr) × Nat) (fun x => fun w => ∃ C, Bun noM F w0 C w [MO.row cGTensor 41 (x.2.2.2.1) (x.2.2.2.2) (x.2.1)] [Cl.sl cGTensor a2 c2 l1, Cl.blk b1 24 #[(vs a1 m1.Dims.length c1)], Cl.sl (cInt .i64) a1 c1 m1.Dims] ∧ m_ref53_SliceLocal_l1 l1 m1 axis1 along1 e5 e6 (x.1) (x.2.1) (x.2.2.1) = some r) (fun x _ => x.1) (fun x => [(1, (vs a2 l1.length c2)), (2, (vi axis1)), (3, (vi along1)), (4, (vp b1 0)), (11, (vi (wi64 (Int.tdiv e5 e6)))), (12, (vs (x.2.2.2.1) (x.2.1).length (x.2.2.2.2))), (13, (vi (x.2.2.1)))]) (fu, ([] : List GTensor), 0, none, 0) ⟨_, hI.arr (.c .z .n) ⟨(.s (.s (.s (.s (.s (.s .z)))))), (.s (.s (.s (.s .z)))), (.s (.s (.s (.s (.s .z))))), trivial⟩, h⟩ ⟨rfl, rfl, rfl, rfl, rfl, rfl, rfl, trivial⟩ ?_
   clear h hI; rintro ⟨fuel1, out1, i1, a8, c10⟩ w5 ⟨c11, hI, h⟩
   dsimp only at hI h
   rcases fuel1 with _ | fuel1
   ·rw [m_ref53_SliceLocal_l1] at h; cases h
   rw [m_ref53_SliceLocal_l1] at h
   refine c_sub (e := [(1, (vs a2 l1.length c2)), (2, (vi axis1)), (3, (vi along1)), (4, (vp b1 0)), (11, (vi (wi64 (Int.tdiv e5 e6)))), (12, (vs a8 out1.length c10)), (13, (vi i1))]) ⟨rfl, rfl, rfl, rfl, rfl, rfl, rfl, trivial⟩ ?_
   refine c_seq ?_
   refine sr ?_
   refine sm ?_
   refine sm ?_
   refine sq (y_lenl rfl Tryz.underlying25 et) ?_
   refine sq (y_lss rfl et et) ?_
   refine nk ?_
   refine c_cond (b := decide (i1 < (l1.length : Int))) et (fun hb => ?_) (fun hb => ?_)
   ·replace h := ite_t hb h
    refine c_skip ?_
    refine k_same ?_
    refine c_seq ?_
    refine c_block ?_
    refine sr ?_
    refine sq (y_loadN (l := [(vs a1 m1.Dims.length c1)]) rfl et Tryz.underlying24 rfl size_24 (hI.kblk (l := [(vs a1 m1.Dims.length c1)]) (.s .z) rfl).1) ?_
    refine sm ?_
    obtain ⟨r2, hx9, h⟩ := bnd_some h
    refine s_call gn rfl (r_callF (vs := [(Value.agg #[(vs a1 m1.Dims.length c1)]), (vi i1)]) rfl ok_41 ⟨et, ⟨et, trivial⟩⟩) (Calls.mono (c_ref51_Coordinates (Dj F c11) w5 hI.lt m1 i1 a1 c1 ⟨(hI.get (.s (.s .z))), trivial⟩ r2 hx9) ?_)
    rintro _ w6 ⟨a9, c12, rfl, hx10, hl2⟩
    refine ⟨_, rfl, ?_⟩
    replace hI := (hI.ext hx10).adds hl2
    refine sm ?_
    refine sq (y_extract rfl et rfl) ?_
    refine sq (y_extract rfl et rfl) ?_
    refine sa ?_
    refine sa ?_
    refine nk ?_
    refine c_seq ?_
    obtain ⟨e7, hx11, h⟩ := bnd_some h
    obtain ⟨e8, hx12, h⟩ := bnd_some h
    obtain ⟨e9, hx13, h⟩ := bnd_some h
    obtain ⟨r3, hx14, h⟩ := bnd_some h
    refine c_drawX [23] false (.c (0, .q) (.c (1, .q) (.c (2, .q) (.c (3, .q) (.c (4, .q) (.c (5, .q) (.c (6, .q) (.c (7, .q) (.c (8, .q) (.c (9, .q) (.c (10, .q) (.c (11, .q) (.c (12, .q) (.c (13, .q) (.c (14, .q) (.c (15, .q) (.c (16, .q) (.c (17, .q) (.two 18 (.c (19, .q) (.c (20, .q) (.c (21, .q) (.c (22, .s) tr_ref53_SliceLocal_3_0)))) 22 (.c (18, .s) (.c (19, .q) (.c (20, .q) (.c (21, .q) tr_ref53_SliceLocal_3_0))))))))))))))))))))))) hI (by kernel_rfl) (by kernel_rfl) ?_
    clear hI; intro w11 hI
    refine a_join (α := (Option Addr) × Nat × (Option Addr) × Nat × (Option Addr) × Nat × (Option Addr) × Nat × Nat × NP) (T := tr_ref53_SliceLocal_3_0) (fun x => [(1, (vs a2 l1.length c2)), (2, (vi axis1)), (3, (vi along1)), (4, (vp b1 0)), (11, (vi (wi64 (Int.tdiv e5 e6)))), (12, (vs a8 out1.length c10)), (13, (vi i1)), (14, (vs a9 r2.1.length c12)), (15, (vb r2.2)), (16, (Value.pointer (some ⟨(x.2.2.2.2.2.2.2.2.1), 0, none⟩))), (53, (vi i1)), (54, (vs a2 l1.length c2)), (55, (vi (l1.length : Int))), (56, (vb (decide (i1 < (l1.length : Int))))), (59, (Value.tuple #[(vs a9 r2.1.length c12), (vb r2.2)])), (60, (Value.agg #[(vs a1 m1.Dims.length c1)])), (61, (vi i1)), (62, (Value.tuple #[(vs a9 r2.1.length c12), (vb r2.2)])), (63, (vs a9 r2.1.length c12)), (64, (vb r2.2)), (65, (Value.tuple #[(Value.agg #[(vi r3.1.Type_.Kind), (vi r3.1.Type_.Bits), (vi r3.1.Type_.Frac), (vi r3.1.Type_.Round), (vi r3.1.Type_.Over), (vs (x.2.2.2.2.1) r3.1.Dims.length (x.2.2.2.2.2.1)), (vs (x.2.2.2.2.2.2.1) r3.1.Vals.length (x.2.2.2.2.2.2.2.1))]), (vi r3.2)])), (66, (vs a2 l1.length c2)), (67, (vi i1)), (69, (Value.agg #[(vi e7.Type_.Kind), (vi e7.Type_.Bits), (vi e7.Type_.Frac), (vi e7.Type_.Round), (vi e7.Type_.Over), (vs (x.1) e7.Dims.length (x.2.1)), (vs (x.2.2.1) e7.Vals.length (x.2.2.2.1))])), (70, (vi along1)), (71, (vs a9 r2.1.length c12)), (72, (vi axis1)), (74, (vi e8)), (75, (vi (wi64 (Int.tdiv e5 e6)))), (76, (vi (wi64 (e8 * (wi64 (Int.tdiv e5 e6)))))), (77, (vs a9 r2.1.length c12)), (78, (vi axis1)), (80, (vi e9)), (81, (vi (wi64 (e9 + 1)))), (82, (vi (wi64 (Int.tdiv e5 e6)))), (83, (vi (wi64 ((wi64 (e9 + 1)) * (wi64 (Int.tdiv e5 e6)))))), (84, (Value.tuple #[(Value.agg #[(vi r3.1.Type_.Kind), (vi r3.1.Type_.Bits), (vi r3.1.Type_.Frac), (vi r3.1.Type_.Round), (vi r3.1.Type_.Over), (vs (x.2.2.2.2.1) r3.1.Dims.length (x.2.2.2.2.2.1)), (vs (x.2.2.2.2.2.2.1) r3.1.Vals.length (x.2.2.2.2.2.2.2.1))]), (vi r3.2)])), (85, (Value.agg #[(vi r3.1.Type_.Kind), (vi r3.1.Type_.Bits), (vi r3.1.Type_.Frac), (vi r3.1.Type_.Round), (vi r3.1.Type_.Over), (vs (x.2.2.2.2.1) r3.1.Dims.length (x.2.2.2.2.2.1)), (vs (x.2.2.2.2.2.2.1) r3.1.Vals.length (x.2.2.2.2.2.2.2.1))])), (86, (vi r3.2))]) (fun x w => Bun noM F w0 (x.2.2.2.2.2.2.2.2.2) w [MO.box (x.2.2.2.2.2.2.2.2.1) 41 #[(vi 0), (vi 0), (vi 0), (vi 0), (vi 0), (vs none 0 0), (vs none 0 0)], MO.row cGTensor 41 a8 c10 out1] [Cl.sl (cInt .i64) (x.2.2.2.2.1) (x.2.2.2.2.2.1) r3.1.Dims, Cl.sl cGVal (x.2.2.2.2.2.2.1) (x.2.2.2.2.2.2.2.1) r3.1.Vals, Cl.sl cGVal (x.2.2.1) (x.2.2.2.1) e7.Vals, Cl.sl (cInt .i64) (x.1) (x.2.1) e7.Dims, Cl.sl (cInt .i64) a9 c12 r2.1, Cl.sl cGTensor a2 c2 l1, Cl.blk b1 24 #[(vs a1 m1.Dims.length c1)], Cl.sl (cInt .i64) a1 c1 m1.Dims]) (fun x w => SN [23] (DM false F (x.2.2.2.2.2.2.2.2.2)) w) ?_ ?_
    ·clear hI; rintro ⟨a10, c13, a11, c14, a12, c15, a13, c16, b2, c19⟩ w10 hI
     try dsimp only at hI ⊢
     unfold tr_ref53_SliceLocal_3_0
     refine a_turn (F := F) (C := c19) rfl rfl ?_
     refine la_store (new := [(vi r3.1.Type_.Kind), (vi r3.1.Type_.Bits), (vi r3.1.Type_.Frac), (vi r3.1.Type_.Round), (vi r3.1.Type_.Over), (vs a12 r3.1.Dims.length c15), (vs a13 r3.1.Vals.length c16)]) (cs' := #[(vi r3.1.Type_.Kind), (vi r3.1.Type_.Bits), (vi r3.1.Type_.Frac), (vi r3.1.Type_.Round), (vi r3.1.Type_.Over), (vs a12 r3.1.Dims.length c15), (vs a13 r3.1.Vals.length c16)]) hI .z rfl gn rfl rfl et et rfl size_41 rfl rfl rfl ?_
     clear hI; intro c18 w9 hI
     refine a_q rfl gn rfl (fun w' => (y_assign rfl et)) ?_
     refine a_nil ?_
     refine k_next (e := [(1, (vs a2 l1.length c2)), (2, (vi axis1)), (3, (vi along1)), (4, (vp b1 0)), (11, (vi (wi64 (Int.tdiv e5 e6)))), (12, (vs a8 out1.length c10)), (13, (vi i1)), (16, (vp b2 0))]) ⟨rfl, rfl, rfl, rfl, rfl, rfl, rfl, rfl, trivial⟩ ?_
     refine c_region rfl ?_
     refine sm ?_
     refine sq (y_loadN (l := [(vi r3.1.Type_.Kind), (vi r3.1.Type_.Bits), (vi r3.1.Type_.Frac), (vi r3.1.Type_.Round), (vi r3.1.Type_.Over), (vs a12 r3.1.Dims.length c15), (vs a13 r3.1.Vals.length c16)]) rfl et Tryz.underlying41 rfl size_41 (CellsAt.of_blk (hI.blk .z) rfl)) ?_
     refine l_lit (c := cGTensor) (xs := ([r3.1] : List GTensor)) (vs := [(0, (Value.agg #[(vi r3.1.Type_.Kind), (vi r3.1.Type_.Bits), (vi r3.1.Type_.Frac), (vi r3.1.Type_.Round), (vi r3.1.Type_.Over), (vs a12 r3.1.Dims.length c15), (vs a13 r3.1.Vals.length c16)]))]) (cs := #[(vi r3.1.Type_.Kind), (vi r3.1.Type_.Bits), (vi r3.1.Type_.Frac), (vi r3.1.Type_.Round), (vi r3.1.Type_.Over), (vs a12 r3.1.Dims.length c15), (vs a13 r3.1.Vals.length c16)]) (css := [[(vi r3.1.Type_.Kind), (vi r3.1.Type_.Bits), (vi r3.1.Type_.Frac), (vi r3.1.Type_.Round), (vi r3.1.Type_.Over), (vs a12 r3.1.Dims.length c15), (vs a13 r3.1.Vals.length c16)]]) hI gn rfl rfl Tryz.underlying25 info_41 rfl ⟨rfl, et, trivial⟩ (by kernel_rfl) ⟨⟨a12, c15, a13, c16, rfl, hI.get .z, hI.get (.s .z)⟩, trivial⟩ rfl rfl rfl ?_
     clear hI; intro b3 c20 w12 hI
     obtain ⟨zs1, hx16, h⟩ := bnd_some h
     refine l_append (xs := out1) (ys := ([r3.1] : List GTensor)) hI (.s (.s .z)) (hI.rd .z) hx16 gn rfl rfl Tryz.underlying25 info_41 rfl rfl et et ?_
     clear hI; intro a14 c21 c22 w13 hI
     refine sa ?_
     refine nk ?_
     refine c_region rfl ?_
     refine sm ?_
     refine sq (y_add rfl et ev_const) ?_
     refine sa ?_
     refine s_nil ?_
     exact k_loop (fuel1, zs1, wi64 (i1 + 1), a14, c21) ⟨rfl, rfl, rfl, rfl, rfl, rfl, rfl, trivial⟩ ⟨_, hI.arr (.c (.s (.s .z)) .n) ⟨(.s (.s (.s (.s (.s .z))))), (.s (.s (.s (.s (.s (.s .z)))))), (.s (.s (.s (.s (.s (.s (.s .z))))))), trivial⟩, h⟩ (Nat.lt_succ_self _)
    intro hk_tr_ref53_SliceLocal_3_0
    refine a_q rfl gn rfl (fun w' => (y_move rfl et)) ?_
    refine a_q rfl gn rfl (fun w' => (y_move rfl et)) ?_
    obtain ⟨ad7, cs7, hA7, hr7, hq7⟩ := hI.clat (.s .z) hx11
    obtain ⟨a10, c13, a11, c14, rfl, hf5, hf6⟩ := hr7
    have hI := hI.add (c := Cl.sl (cInt .i64) a10 c13 e7.Dims) hf5
    have hI := hI.add (c := Cl.sl cGVal a11 c14 e7.Vals) hf6
    refine a_q rfl gn rfl (fun w' => (y_indexAddr rfl Tryz.underlying25 size_41 et et (lat_bd hx11) hA7)) ?_
    refine a_read rfl gn rfl (fun w' hw' => (y_loadN (l := [(vi e7.Type_.Kind), (vi e7.Type_.Bits), (vi e7.Type_.Frac), (vi e7.Type_.Round), (vi e7.Type_.Over), (vs a10 e7.Dims.length c13), (vs a11 e7.Vals.length c14)]) rfl et Tryz.underlying41 rfl size_41 (hq7.at_ (SX.any rfl hw')))) (by kernel_rfl) ?_
    refine a_q rfl gn rfl (fun w' => (y_move rfl et)) ?_
    refine a_q rfl gn rfl (fun w' => (y_move rfl et)) ?_
    refine a_q rfl gn rfl (fun w' => (y_move rfl et)) ?_
    obtain ⟨ad8, cs8, hA8, hr8, hq8⟩ := hI.clat (.s (.s .z)) hx12
    obtain rfl : cs8 = [(vi e8)] := hr8
    refine a_q rfl gn rfl (fun w' => (y_indexAddr rfl Tryz.underlying22 size_3 et et (lat_bd hx12) hA8)) ?_
    refine a_read rfl gn rfl (fun w' hw' => (y_load1 (v := (vi e8)) rfl et Tryz.underlying3 rfl (hq8.at_ (SX.any rfl hw')))) (by kernel_rfl) ?_
    refine a_q rfl gn rfl (fun w' => (y_move rfl et)) ?_
    refine a_q rfl gn rfl (fun w' => (y_mul rfl et et)) ?_
    refine a_q rfl gn rfl (fun w' => (y_move rfl et)) ?_
    refine a_q rfl gn rfl (fun w' => (y_move rfl et)) ?_
    obtain ⟨ad9, cs9, hA9, hr9, hq9⟩ := hI.clat (.s (.s .z)) hx13
    obtain rfl : cs9 = [(vi e9)] := hr9
    refine a_q rfl gn rfl (fun w' => (y_indexAddr rfl Tryz.underlying22 size_3 et et (lat_bd hx13) hA9)) ?_
    refine a_read rfl gn rfl (fun w' hw' => (y_load1 (v := (vi e9)) rfl et Tryz.underlying3 rfl (hq9.at_ (SX.any rfl hw')))) (by kernel_rfl) ?_
    refine a_q rfl gn rfl (fun w' => (y_add rfl et ev_const)) ?_
    refine a_q rfl gn rfl (fun w' => (y_move rfl et)) ?_
    refine a_q rfl gn rfl (fun w' => (y_mul rfl et et)) ?_
    refine a_two ?_ ?_
    ·skip
     refine la_call rfl gn rfl (r_callF (vs := [(Value.agg #[(vi e7.Type_.Kind), (vi e7.Type_.Bits), (vi e7.Type_.Frac), (vi e7.Type_.Round), (vi e7.Type_.Over), (vs a10 e7.Dims.length c13), (vs a11 e7.Vals.length c14)]), (vi along1), (vi (wi64 (e8 * (wi64 (Int.tdiv e5 e6))))), (vi (wi64 ((wi64 (e9 + 1)) * (wi64 (Int.tdiv e5 e6)))))]) rfl ok_42 ⟨et, ⟨et, ⟨et, ⟨et, trivial⟩⟩⟩⟩) (Calls.mono (c_ref12_Slice (Dj F c11) w11 hI.lt e7 along1 (wi64 (e8 * (wi64 (Int.tdiv e5 e6)))) (wi64 ((wi64 (e9 + 1)) * (wi64 (Int.tdiv e5 e6)))) a10 c13 a11 c14 ⟨(hI.get (.s .z)), (hI.get .z), trivial⟩ r3 hx14) ?_)
     rintro _ w7 ⟨a12, c15, a13, c16, rfl, hx15, hl3⟩
     refine ⟨_, rfl, hx15, ?_⟩
     replace hI := (hI.ext hx15).adds hl3
     refine a_q rfl gn rfl (fun w' => (y_move rfl et)) ?_
     refine a_q rfl gn rfl (fun w' => (y_extract rfl et rfl)) ?_
     refine a_q rfl gn rfl (fun w' => (y_extract rfl et rfl)) ?_
     refine la_alloc (cs := #[(vi 0), (vi 0), (vi 0), (vi 0), (vi 0), (vs none 0 0), (vs none 0 0)]) hI rfl gn rfl rfl zero_41 rfl ?_
     clear hI; intro b2 c17 w8 hI
     exact a_sub (hk_tr_ref53_SliceLocal_3_0 (a10, c13, a11, c14, a12, c15, a13, c16, b2, c17) _ (hI.arr (.c .z (.c .z .n)) ⟨.z, (.s .z), (.s (.s .z)), (.s (.s (.s .z))), (.s (.s (.s (.s .z)))), (.s (.s (.s (.s (.s .z))))), (.s (.s (.s (.s (.s (.s .z)))))), (.s (.s (.s (.s (.s (.s (.s .z))))))), trivial⟩)) ⟨rfl, rfl, rfl, rfl, rfl, rfl, rfl, rfl, rfl, rfl, rfl, rfl, rfl, rfl, rfl, rfl, rfl, rfl, rfl, rfl, rfl, rfl, rfl, rfl, rfl, rfl, rfl, rfl, rfl, rfl, rfl, rfl, rfl, rfl, rfl, rfl, rfl, rfl, rfl, trivial⟩
    ·skip
     refine la_alloc (cs := #[(vi 0), (vi 0), (vi 0), (vi 0), (vi 0), (vs none 0 0), (vs none 0 0)]) hI rfl gn rfl rfl zero_41 rfl ?_
     clear hI; intro b2 c17 w8 hI
     refine la_call rfl gn rfl (r_callF (vs := [(Value.agg #[(vi e7.Type_.Kind), (vi e7.Type_.Bits), (vi e7.Type_.Frac), (vi e7.Type_.Round), (vi e7.Type_.Over), (vs a10 e7.Dims.length c13), (vs a11 e7.Vals.length c14)]), (vi along1), (vi (wi64 (e8 * (wi64 (Int.tdiv e5 e6))))), (vi (wi64 ((wi64 (e9 + 1)) * (wi64 (Int.tdiv e5 e6)))))]) rfl ok_42 ⟨et, ⟨et, ⟨et, ⟨et, trivial⟩⟩⟩⟩) (Calls.mono (c_ref12_Slice (Dj F c17) w8 hI.lt e7 along1 (wi64 (e8 * (wi64 (Int.tdiv e5 e6)))) (wi64 ((wi64 (e9 + 1)) * (wi64 (Int.tdiv e5 e6)))) a10 c13 a11 c14 ⟨(hI.get (.s .z)), (hI.get .z), trivial⟩ r3 hx14) ?_)
     rintro _ w7 ⟨a12, c15, a13, c16, rfl, hx15, hl3⟩
     refine ⟨_, rfl, hx15, ?_⟩
     replace hI := (hI.ext hx15).adds hl3
     refine a_q rfl gn rfl (fun w' => (y_move rfl et)) ?_
     refine a_q rfl gn rfl (fun w' => (y_extract rfl et rfl)) ?_
     refine a_q rfl gn rfl (fun w' => (y_extract rfl et rfl)) ?_
     exact a_sub (hk_tr_ref53_SliceLocal_3_0 (a10, c13, a11, c14, a12, c15, a13, c16, b2, c17) _ (hI.arr (.c .z (.c .z .n)) ⟨.z, (.s .z), (.s (.s .z)), (.s (.s (.s .z))), (.s (.s (.s (.s .z)))), (.s (.s (.s (.s (.s .z))))), (.s (.s (.s (.s (.s (.s .z)))))), (.s (.s (.s (.s (.s (.s (.s .z))))))), trivial⟩)) ⟨rfl, rfl, rfl, rfl, rfl, rfl, rfl, rfl, rfl, rfl, rfl, rfl, rfl, rfl, rfl, rfl, rfl, rfl, rfl, rfl, rfl, rfl, rfl, rfl, rfl, rfl, rfl, rfl, rfl, rfl, rfl, rfl, rfl, rfl, rfl, rfl, rfl, rfl, rfl, trivial⟩
   ·replace h := ite_f hb h
    refine c_exit ?_
    refine k_in ?_
    refine k_same ?_
    refine sr ?_
    refine sm ?_
    refine sa ?_
    refine sac ?_
    refine nk ?_
    refine c_ret ?_
    obtain ⟨c23, hI⟩ := hI.release .z
    obtain rfl := some_inj h
    exact q_ret (vs := [(vs a8 out1.length c10), (vi 0)]) Tryz.results14 ⟨ev_tmp rfl rfl, ⟨ev_tmp rfl rfl, trivial⟩⟩ ⟨a8, c10, rfl, hI.ext0, hI.fin ⟨.z, trivial⟩⟩

set_option maxRecDepth 100000 in
set_option maxHeartbeats 4000000 in
theorem c_collective_AllToAll (F : NP) (w0 : World) (hF : ∀ k, F k → k < w0.heap.size) (m1 : GMesh) (l1 : List GTensor) (axis1 : Int) (from1 : Int) (to1 : Int) (a1 : Option Addr) (c1 : Nat) (a2 : Option Addr) (c2 : Nat) (hc : AllCl [Cl.sl (cInt .i64) a1 c1 m1.Dims, Cl.sl cGTensor a2 c2 l1] F w0) (r : List GTensor × Int)
  (h : m_collective_AllToAll m1 l1 axis1 from1 to1 = some r) :
  Calls Tryz.prog 22 #[(Value.agg #[(vs a1 m1.Dims.length c1)]), (vs a2 l1.length c2), (vi axis1), (vi from1), (vi to1)] w0 fun e w => ∃ (a3 : Option Addr) (c3 : Nat), e = .returned (Value.tuple #[(vs a3 r.1.length c3), (vi r.2)]) ∧ Ext w0 w ∧ AllCl [Cl.sl cGTensor a3 c3 r.1] F w := by
 refine enterK (l := [(Value.agg #[(vs a1 m1.Dims.length c1)]), (vs a2 l1.length c2), (vi axis1), (vi from1), (vi to1)]) Tryz.func22 rfl Tryz.ntmps22 rfl ?_
 have hI := Bun.start hF hc
 clear hc
 rw [m_collective_AllToAll] at h
 refine sr ?_
 refine l_box (v := (Value.agg #[(vs a1 m1.Dims.length c1)])) (cs := #[(vs a1 m1.Dims.length c1)]) hI gn rfl rfl et rfl ?_
 clear hI; intro b1 c4 w1 hI
 obtain ⟨c5, hI⟩ := hI.relBox .z
 refine sac ?_
 refine sac ?_
 refine nk ?_
 refine sr ?_
 refine sq (y_loadN (l := [(vs a1 m1.Dims.length c1)]) rfl et Tryz.underlying24 rfl size_24 (hI.kblk (l := [(vs a1 m1.Dims.length c1)]) .z rfl).1) ?_
 refine sm ?_
 refine sm ?_
 refine sm ?_
 obtain ⟨r1, hx1, h⟩ := bnd_some h
 refine s_call gn rfl (r_callF (vs := [(Value.agg #[(vs a1 m1.Dims.length c1)]), (vs a2 l1.length c2), (vi axis1), (vi from1)]) rfl ok_11 ⟨et, ⟨et, ⟨et, ⟨et, trivial⟩⟩⟩⟩) (Calls.mono (c_collective_AllGather (Dj F c5) w1 hI.lt m1 l1 axis1 from1 a1 c1 a2 c2 ⟨(hI.get (.s .z)), (hI.get (.s (.s .z))), trivial⟩ r1 hx1) ?_)
 rintro _ w2 ⟨a4, c6, rfl, hx2, hl1⟩
 refine ⟨_, rfl, ?_⟩
 replace hI := (hI.ext hx2).adds hl1
 refine sm ?_
 refine sq (y_extract rfl et rfl) ?_
 refine sq (y_extract rfl et rfl) ?_
 refine sa ?_
 refine sa ?_
 refine nk ?_
 refine c_seq ?_
 refine sr ?_
 refine sm ?_
 refine sq (y_neq rfl et ev_const) ?_
 refine nk ?_
 refine c_cond (b := !decide (r1.2 = 0)) et (fun hb => ?_) (fun hb => ?_)
 ·replace h := ite_t hb h
  refine sr ?_
  refine sm ?_
  refine sac ?_
  refine sa ?_
  refine nk ?_
  refine c_ret ?_
  have hI := hI.add (c := Cl.sl cGTensor none 0 ([] : List GTensor)) SlC.nil
  obtain rfl := some_inj h
  exact q_ret (vs := [(vs none 0 0), (vi r1.2)]) Tryz.results22 ⟨ev_tmp rfl rfl, ⟨ev_tmp rfl rfl, trivial⟩⟩ ⟨none, 0, rfl, hI.ext0, hI.fin ⟨.z, trivial⟩⟩
 ·replace h := ite_f hb h
  refine c_skip ?_
  refine k_same ?_
  refine sr ?_
  refine sq (y_loadN (l := [(vs a1 m1.Dims.length c1)]) rfl et Tryz.underlying24 rfl size_24 (hI.kblk (l := [(vs a1 m1.Dims.length c1)]) (.s .z) rfl).1) ?_
  refine sm ?_
  refine sm ?_
  refine sm ?_
  obtain ⟨r2, hx3, h⟩ := bnd_some h
  refine s_call gn rfl (r_callF (vs := [(Value.agg #[(vs a1 m1.Dims.length c1)]), (vs a4 r1.1.length c6), (vi axis1), (vi to1)]) rfl ok_13 ⟨et, ⟨et, ⟨et, ⟨et, trivial⟩⟩⟩⟩) (Calls.mono (c_collective_SliceLocal (Dj F c5) w2 hI.lt m1 r1.1 axis1 to1 a1 c1 a4 c6 ⟨(hI.get (.s (.s .z))), (hI.get .z), trivial⟩ r2 hx3) ?_)
  rintro _ w3 ⟨a5, c7, rfl, hx4, hl2⟩
  refine ⟨_, rfl, ?_⟩
  replace hI := (hI.ext hx4).adds hl2
  refine sq (y_extract rfl et rfl) ?_
  refine sq (y_extract rfl et rfl) ?_
  refine sa ?_
  refine sa ?_
  refine s_nil ?_
  refine k_next (e := [(10, (vs a5 r2.1.length c7)), (11, (vi r2.2))]) ⟨rfl, rfl, trivial⟩ ?_
  refine c_ret ?_
  obtain rfl := some_inj h
  exact q_ret (vs := [(vs a5 r2.1.length c7), (vi r2.2)]) Tryz.results22 ⟨ev_tmp rfl rfl, ⟨ev_tmp rfl rfl, trivial⟩⟩ ⟨a5, c7, rfl, hI.ext0, hI.fin ⟨.z, trivial⟩⟩

set_option maxRecDepth 100000 in
set_option maxHeartbeats 4000000 in
theorem c_ref53_AllToAll (F : NP) (w0 : World) (hF : ∀ k, F k → k < w0.heap.size) (m1 : GMesh) (l1 : List GTensor) (axis1 : Int) (from1 : Int) (to1 : Int) (a1 : Option Addr) (c1 : Nat) (a2 : Option Addr) (c2 : Nat) (hc : AllCl [Cl.sl (cInt .i64) a1 c1 m1.Dims, Cl.sl cGTensor a2 c2 l1] F w0) (r : List GTensor × Int)
  (h : m_ref53_AllToAll m1 l1 axis1 from1 to1 = some r) :
  Calls Tryz.prog 23 #[(Value.agg #[(vs a1 m1.Dims.length c1)]), (vs a2 l1.length c2), (vi axis1), (vi from1), (vi to1)] w0 fun e w => ∃ (a3 : Option Addr) (c3 : Nat), e = .returned (Value.tuple #[(vs a3 r.1.length c3), (vi r.2)]) ∧ Ext w0 w ∧ AllCl [Cl.sl cGTensor a3 c3 r.1] F w := by
 refine enterK (l := [(Value.agg #[(vs a1 m1.Dims.length c1)]), (vs a2 l1.length c2), (vi axis1), (vi from1), (vi to1)]) Tryz.func23 rfl Tryz.ntmps23 rfl ?_
 have hI := Bun.start hF hc
 clear hc
 rw [m_ref53_AllToAll] at h
 refine sr ?_
 refine l_box (v := (Value.agg #[(vs a1 m1.Dims.length c1)])) (cs := #[(vs a1 m1.Dims.length c1)]) hI gn rfl rfl et rfl ?_
 clear hI; intro b1 c4 w1 hI
 obtain ⟨c5, hI⟩ := hI.relBox .z
 refine sac ?_
 refine sac ?_
 refine nk ?_
 refine sr ?_
 refine sq (y_loadN (l := [(vs a1 m1.Dims.length c1)]) rfl et Tryz.underlying24 rfl size_24 (hI.kblk (l := [(vs a1 m1.Dims.length c1)]) .z rfl).1) ?_
 refine sm ?_
 refine sm ?_
 refine sm ?_
 obtain ⟨r1, hx1, h⟩ := bnd_some h
 refine s_call gn rfl (r_callF (vs := [(Value.agg #[(vs a1 m1.Dims.length c1)]), (vs a2 l1.length c2), (vi axis1), (vi from1)]) rfl ok_12 ⟨et, ⟨et, ⟨et, ⟨et, trivial⟩⟩⟩⟩) (Calls.mono (c_ref53_AllGather (Dj F c5) w1 hI.lt m1 l1 axis1 from1 a1 c1 a2 c2 ⟨(hI.get (.s .z)), (hI.get (.s (.s .z))), trivial⟩ r1 hx1) ?_)
 rintro _ w2 ⟨a4, c6, rfl, hx2, hl1⟩
 refine ⟨_, rfl, ?_⟩
 replace hI := (hI.ext hx2).adds hl1
 refine sm ?_
 refine sq (y_extract rfl et rfl) ?_
 refine sq (y_extract rfl et rfl) ?_
 refine sa ?_
 refine sa ?_
 refine nk ?_
 refine c_seq ?_
 refine sr ?_
 refine sm ?_
 refine sq (y_neq rfl et ev_const) ?_
 refine nk ?_
 refine c_cond (b := !decide (r1.2 = 0)) et (fun hb => ?_) (fun hb => ?_)
 ·replace h := ite_t hb h
  refine sr ?_
  refine sm ?_
  refine sac ?_
  refine sa ?_
  refine nk ?_
  refine c_ret ?_
  have hI := hI.add (c := Cl.sl cGTensor none 0 ([] : List GTensor)) SlC.nil
  obtain rfl := some_inj h
  exact q_ret (vs := [(vs none 0 0), (vi r1.2)]) Tryz.results23 ⟨ev_tmp rfl rfl, ⟨ev_tmp rfl rfl, trivial⟩⟩ ⟨none, 0, rfl, hI.ext0, hI.fin ⟨.z, trivial⟩⟩
 ·replace h := ite_f hb h
  refine c_skip ?_
  refine k_same ?_
  refine sr ?_
  refine sq (y_loadN (l := [(vs a1 m1.Dims.length c1)]) rfl et Tryz.underlying24 rfl size_24 (hI.kblk (l := [(vs a1 m1.Dims.length c1)]) (.s .z) rfl).1) ?_
  refine sm ?_
  refine sm ?_
  refine sm ?_
  obtain ⟨r2, hx3, h⟩ := bnd_some h
  refine s_call gn rfl (r_callF (vs := [(Value.agg #[(vs a1 m1.Dims.length c1)]), (vs a4 r1.1.length c6), (vi axis1), (vi to1)]) rfl ok_14 ⟨et, ⟨et, ⟨et, ⟨et, trivial⟩⟩⟩⟩) (Calls.mono (c_ref53_SliceLocal (Dj F c5) w2 hI.lt m1 r1.1 axis1 to1 a1 c1 a4 c6 ⟨(hI.get (.s (.s .z))), (hI.get .z), trivial⟩ r2 hx3) ?_)
  rintro _ w3 ⟨a5, c7, rfl, hx4, hl2⟩
  refine ⟨_, rfl, ?_⟩
  replace hI := (hI.ext hx4).adds hl2
  refine sq (y_extract rfl et rfl) ?_
  refine sq (y_extract rfl et rfl) ?_
  refine sa ?_
  refine sa ?_
  refine s_nil ?_
  refine k_next (e := [(10, (vs a5 r2.1.length c7)), (11, (vi r2.2))]) ⟨rfl, rfl, trivial⟩ ?_
  refine c_ret ?_
  obtain rfl := some_inj h
  exact q_ret (vs := [(vs a5 r2.1.length c7), (vi r2.2)]) Tryz.results23 ⟨ev_tmp rfl rfl, ⟨ev_tmp rfl rfl, trivial⟩⟩ ⟨a5, c7, rfl, hI.ext0, hI.fin ⟨.z, trivial⟩⟩

set_option maxRecDepth 100000 in
set_option maxHeartbeats 4000000 in
theorem c_law53_CollectiveExchanges (F : NP) (w0 : World) (hF : ∀ k, F k → k < w0.heap.size) (m1 : GMesh) (l1 : List GTensor) (axis1 : Int) (from1 : Int) (to1 : Int) (a1 : Option Addr) (c1 : Nat) (a2 : Option Addr) (c2 : Nat) (hc : AllCl [Cl.sl (cInt .i64) a1 c1 m1.Dims, Cl.sl cGTensor a2 c2 l1] F w0) (r : Bool)
  (h : m_law53_CollectiveExchanges m1 l1 axis1 from1 to1 = some r) :
  Calls Tryz.prog 6 #[(Value.agg #[(vs a1 m1.Dims.length c1)]), (vs a2 l1.length c2), (vi axis1), (vi from1), (vi to1)] w0 fun e w => e = .returned (vb r) ∧ Ext w0 w ∧ AllCl [] F w := by
 refine enterK (l := [(Value.agg #[(vs a1 m1.Dims.length c1)]), (vs a2 l1.length c2), (vi axis1), (vi from1), (vi to1)]) Tryz.func6 rfl Tryz.ntmps6 rfl ?_
 have hI := Bun.start hF hc
 clear hc
 rw [m_law53_CollectiveExchanges] at h
 refine sr ?_
 refine l_box (v := (Value.agg #[(vs a1 m1.Dims.length c1)])) (cs := #[(vs a1 m1.Dims.length c1)]) hI gn rfl rfl et rfl ?_
 clear hI; intro b1 c3 w1 hI
 obtain ⟨c4, hI⟩ := hI.relBox .z
 refine sac ?_
 refine nk ?_
 refine c_seq ?_
 refine sr ?_
 refine sq (y_loadN (l := [(vs a1 m1.Dims.length c1)]) rfl et Tryz.underlying24 rfl size_24 (hI.kblk (l := [(vs a1 m1.Dims.length c1)]) .z rfl).1) ?_
 refine sm ?_
 obtain ⟨r1, hx1, h⟩ := bnd_some h
 refine s_call gn rfl (r_callF (vs := [(Value.agg #[(vs a1 m1.Dims.length c1)]), (vs a2 l1.length c2)]) rfl ok_9 ⟨et, ⟨et, trivial⟩⟩) (Calls.mono (c_law53_small (Dj F c4) w1 hI.lt m1 l1 a1 c1 a2 c2 ⟨(hI.get (.s .z)), (hI.get (.s (.s .z))), trivial⟩ r1 hx1) ?_)
 rintro _ w2 ⟨rfl, hx2, hl1⟩
 refine ⟨_, rfl, ?_⟩
 replace hI := (hI.ext hx2)
 refine sq (y_not rfl et) ?_
 refine nk ?_
 refine c_cond (b := !r1) et (fun hb => ?_) (fun hb => ?_)
 ·replace h := ite_t hb h
  refine sr ?_
  obtain ⟨r2, hx3, h⟩ := bnd_some h
  refine s_call gn rfl (r_callF (vs := []) rfl ok_10 trivial) (Calls.mono (c_law53_examples (Dj F c4) w2 hI.lt trivial r2 hx3) ?_)
  rintro _ w3 ⟨rfl, hx4, hl2⟩
  refine ⟨_, rfl, ?_⟩
  replace hI := (hI.ext hx4)
  refine sa ?_
  refine nk ?_
  refine c_ret ?_
  obtain rfl := some_inj h
  exact q_ret (vs := [(vb r2)]) Tryz.results6 ⟨ev_tmp rfl rfl, trivial⟩ ⟨rfl, hI.ext0, hI.fin trivial⟩
 ·replace h := ite_f hb h
  refine c_skip ?_
  refine k_same ?_
  refine sr ?_
  refine sq (y_loadN (l := [(vs a1 m1.Dims.length c1)]) rfl et Tryz.underlying24 rfl size_24 (hI.kblk (l := [(vs a1 m1.Dims.length c1)]) .z rfl).1) ?_
  refine sm ?_
  refine sm ?_
  refine sm ?_
  refine sm ?_
  obtain ⟨r3, hx5, h⟩ := bnd_some h
  refine s_call gn rfl (r_callF (vs := [(Value.agg #[(vs a1 m1.Dims.length c1)]), (vs a2 l1.length c2), (vi axis1), (vi from1), (vi to1)]) rfl ok_22 ⟨et, ⟨et, ⟨et, ⟨et, ⟨et, trivial⟩⟩⟩⟩⟩) (Calls.mono (c_collective_AllToAll (Dj F c4) w2 hI.lt m1 l1 axis1 from1 to1 a1 c1 a2 c2 ⟨(hI.get (.s .z)), (hI.get (.s (.s .z))), trivial⟩ r3 hx5) ?_)
  rintro _ w4 ⟨a3, c5, rfl, hx6, hl3⟩
  refine ⟨_, rfl, ?_⟩
  replace hI := (hI.ext hx6).adds hl3
  refine sm ?_
  refine sq (y_extract rfl et rfl) ?_
  refine sq (y_extract rfl et rfl) ?_
  refine sa ?_
  refine sa ?_
  refine nk ?_
  refine sr ?_
  refine sq (y_loadN (l := [(vs a1 m1.Dims.length c1)]) rfl et Tryz.underlying24 rfl size_24 (hI.kblk (l := [(vs a1 m1.Dims.length c1)]) (.s .z) rfl).1) ?_
  refine sm ?_
  refine sm ?_
  refine sm ?_
  refine sm ?_
  obtain ⟨r4, hx7, h⟩ := bnd_some h
  refine s_call gn rfl (r_callF (vs := [(Value.agg #[(vs a1 m1.Dims.length c1)]), (vs a2 l1.length c2), (vi axis1), (vi from1), (vi to1)]) rfl ok_23 ⟨et, ⟨et, ⟨et, ⟨et, ⟨et, trivial⟩⟩⟩⟩⟩) (Calls.mono (c_ref53_AllToAll (Dj F c4) w4 hI.lt m1 l1 axis1 from1 to1 a1 c1 a2 c2 ⟨(hI.get (.s (.s .z))), (hI.get (.s (.s (.s .z)))), trivial⟩ r4 hx7) ?_)
  rintro _ w5 ⟨a4, c6, rfl, hx8, hl4⟩
  refine ⟨_, rfl, ?_⟩
  replace hI := (hI.ext hx8).adds hl4
  refine sm ?_
  refine sq (y_extract rfl et rfl) ?_
  refine sq (y_extract rfl et rfl) ?_
  refine sa ?_
  refine sa ?_
  refine s_nil ?_
  refine k_next (e := [(11, (vs a3 r3.1.length c5)), (12, (vi r3.2)), (13, (vs a4 r4.1.length c6)), (14, (vi r4.2))]) ⟨rfl, rfl, rfl, rfl, trivial⟩ ?_
  refine sr ?_
  refine sm ?_
  refine sm ?_
  obtain ⟨r5, hx9, h⟩ := bnd_some h
  refine s_call gn rfl (r_callF (vs := [(vs a3 r3.1.length c5), (vs a4 r4.1.length c6)]) rfl ok_15 ⟨et, ⟨et, trivial⟩⟩) (Calls.mono (c_base_Tensors (Dj F c4) w5 hI.lt r3.1 r4.1 a3 c5 a4 c6 ⟨(hI.get (.s .z)), (hI.get .z), trivial⟩ r5 hx9) ?_)
  rintro _ w6 ⟨rfl, hx10, hl5⟩
  refine ⟨_, rfl, ?_⟩
  replace hI := (hI.ext hx10)
  refine sm ?_
  refine s_gval (g_true rfl rfl rfl rfl) rfl (fun hc => (y_move rfl et)) ?_
  refine s_gval (g_true rfl rfl rfl rfl) rfl (fun hc => (y_move rfl et)) ?_
  refine s_gval (g_true rfl rfl rfl rfl) rfl (fun hc => (y_eql rfl (ev_gv et hc) (ev_gv et hc))) ?_
  refine sq (y_and rfl et et) ?_
  refine sm ?_
  obtain ⟨r6, hx11, h⟩ := bnd_some h
  replace hx11 := gd_some hx11
  refine s_gcallU (v := (vb r6)) (g_true rfl rfl rfl rfl) rfl (fun hc => (r_callF (vs := []) rfl ok_10 trivial)) (fun hc => (c_law53_examples (Dj F c4) w6 hI.lt trivial r6 (hx11 hc)).mono fun _ _ k => ⟨k.1, k.2.1⟩) ?_
  intro w7 hx12; replace hI := hI.ext hx12
  refine sq (y_and rfl et et) ?_
  refine sa ?_
  refine nk ?_
  refine c_ret ?_
  obtain rfl := some_inj h
  exact q_ret (vs := [(vb ((r5 && (decide (r3.2 = r4.2))) && r6))]) Tryz.results6 ⟨ev_tmp rfl rfl, trivial⟩ ⟨rfl, hI.ext0, hI.fin trivial⟩

end Go.Proofs.YtpedfojbfbccaaaGreat
