import Derived.Test.YtpedfojbfbccaaaGreatSCQ6c
namespace Go.Proofs.YtpedfojbfbccaaaGreat
open Go Go.RowKit Go.Vc
set_option maxRecDepth 100000
set_option maxHeartbeats 4000000
set_option linter.unusedVariables false
set_option linter.unusedSimpArgs false
theorem c_ref53_AllGather (F : NP) (w0 : World) (hF : ∀ k, F k → k < w0.heap.size) (m1 : GMesh) (l1 : List GTensor) (axis1 : Int) (along1 : Int) (a1 : Option Addr) (c1 : Nat) (a2 : Option Addr) (c2 : Nat) (hc : AllCl [Cl.sl (cInt .i64) a1 c1 m1.Dims, Cl.sl cGTensor a2 c2 l1] F w0) (r : List GTensor × Int)
  (h : m_ref53_AllGather m1 l1 axis1 along1 = some r) :
  Calls Tryz.prog 12 #[(Value.agg #[vs a1 m1.Dims.length c1]), vs a2 l1.length c2, vi axis1, vi along1] w0 fun e w => ∃ (a3 : Option Addr) (c3 : Nat), e = .returned (Value.tuple #[vs a3 r.1.length c3, vi r.2]) ∧ Ext w0 w ∧ AllCl [Cl.sl cGTensor a3 c3 r.1] F w := by
 refine enterK Tryz.func12 rfl Tryz.ntmps12 rfl ?_
 have hI := Bun.start hF hc
 clear hc
 rw [m_ref53_AllGather] at h
 refine sr (l_box (v := (Value.agg #[vs a1 m1.Dims.length c1])) (cs := #[vs a1 m1.Dims.length c1]) hI gn rfl rfl et rfl ?_)
 clear hI; intro b1 c4 w1 hI
 obtain ⟨c5, hI⟩ := hI.relBox .z
 refine sac ?_
 refine sac ?_
 refine nk (c_seq (sr (sq (y_loadN (l := [vs a1 m1.Dims.length c1]) rfl et u24 rfl size_24 (hI.kblk (l := [vs a1 m1.Dims.length c1]) .z rfl).1) ?_)))
 refine sm ?_
 refine sm ?_
 refine sm ?_
 obtain ⟨r1, hx1, h⟩ := bnd_some h
 refine s_call gn rfl (r_callF (vs := [(Value.agg #[vs a1 m1.Dims.length c1]), vs a2 l1.length c2, vi axis1, vi along1]) rfl ok_35 ⟨et, ⟨et, ⟨et, ⟨et, trivial⟩⟩⟩⟩) (Calls.mono (c_ref53_axes (Dj F c5) w1 hI.lt m1 l1 axis1 along1 a1 c1 a2 c2 ⟨(hI.get (.s .z)), (hI.get (.s (.s .z))), trivial⟩ r1 hx1) ?_)
 rintro _ w2 ⟨rfl, hx2, hl1⟩
 refine ⟨_, rfl, ?_⟩
 replace hI := (hI.ext hx2)
 refine sa ?_
 refine nk (sr (sm ?_))
 refine sq (y_neq rfl et ev_const) ?_
 refine nk (cif h et (fun hb h => ?_) (fun hb h => ?_))
 ·refine sr (sm ?_)
  refine sac ?_
  refine sa ?_
  refine nk (c_ret ?_)
  have hI := hI.add (c := Cl.sl cGTensor none 0 ([] : List GTensor)) SlC.nil
  obtain rfl := some_inj h
  exact q_ret (vs := [vs none 0 0, vi r1]) Tryz.results12 ⟨ev_tmp rfl rfl, ⟨ev_tmp rfl rfl, trivial⟩⟩ ⟨none, 0, rfl, hI.ext0, hI.fin ⟨.z, trivial⟩⟩
 refine c_skip (k_same (sr (sac ?_)))
 refine nk (c_seq (sr (sac ?_)))
 refine nk (c_block ?_)
 have hI := hI.nil cGTensor 41 none
 refine c_loop (α := Nat × (List GTensor) × Int × (Option Addr) × Nat) (fun x => fun w => ∃ C, Bun noM F w0 C w [MO.row cGTensor 41 (x.2.2.2.1) (x.2.2.2.2) (x.2.1)] [Cl.sl cGTensor a2 c2 l1, Cl.blk b1 24 #[vs a1 m1.Dims.length c1], Cl.sl (cInt .i64) a1 c1 m1.Dims] ∧ m_ref53_AllGather_l1 l1 m1 axis1 along1 (x.1) (x.2.1) (x.2.2.1) = some r) (fun x _ => x.1) (fun x => [(1, vs a2 l1.length c2), (2, vi axis1), (3, vi along1), (4, vp b1 0), (11, vs (x.2.2.2.1) (x.2.1).length (x.2.2.2.2)), (12, vi (x.2.2.1))]) (fu, ([] : List GTensor), 0, none, 0) ⟨_, hI.arr (.c .z .n) ⟨(.s (.s .z)), .z, (.s .z), trivial⟩, h⟩ ⟨rfl, rfl, rfl, rfl, rfl, rfl, trivial⟩ ?_
 clear h hI; rintro ⟨fuel1, out1, i1, a4, c6⟩ w3 ⟨c7, hI, h⟩
 dsimp only at hI h
 rcases fuel1 with _ | fuel1
 ·rw [m_ref53_AllGather_l1] at h; cases h
 rw [m_ref53_AllGather_l1] at h
 refine c_sub (e := [(1, vs a2 l1.length c2), (2, vi axis1), (3, vi along1), (4, vp b1 0), (11, vs a4 out1.length c6), (12, vi i1)]) ⟨rfl, rfl, rfl, rfl, rfl, rfl, trivial⟩ ?_
 refine c_seq (sr (sm ?_))
 refine sm ?_
 refine sq (y_lenl rfl u25 et) ?_
 refine sq (y_lss rfl et et) ?_
 refine nk (cif h et (fun hb h => ?_) (fun hb h => ?_))
 ·refine c_skip (k_same (c_join (α := (List GTensor) × (Option Addr) × Nat) (fun _ => ⟨66, []⟩) (fun x => [(1, vs a2 l1.length c2), (2, vi axis1), (3, vi along1), (4, vp b1 0), (11, vs (x.2.1) (x.1).length (x.2.2)), (12, vi i1)]) (fun x => fun w => ∃ C, Bun noM F w0 C w [MO.row cGTensor 41 (x.2.1) (x.2.2) (x.1)] [Cl.sl cGTensor a2 c2 l1, Cl.blk b1 24 #[vs a1 m1.Dims.length c1], Cl.sl (cInt .i64) a1 c1 m1.Dims] ∧ m_ref53_AllGather_j1 (m_ref53_AllGather_l1 l1 m1 axis1 along1 fuel1) i1 (x.1) = some r) ?_ ?_))
  ·clear h hI; rintro ⟨out2, a5, c8⟩ w4 ⟨c9, hI, h⟩
   try dsimp only at hI h
   rw [m_ref53_AllGather_j1] at h
   refine c_sub (e := [(1, vs a2 l1.length c2), (2, vi axis1), (3, vi along1), (4, vp b1 0), (11, vs a5 out2.length c8), (12, vi i1)]) ⟨rfl, rfl, rfl, rfl, rfl, rfl, trivial⟩ ?_
   refine c_region rfl ?_
   refine sm ?_
   refine sq (y_add rfl et ev_const) ?_
   refine sa ?_
   refine s_nil ?_
   exact k_loop (fuel1, out2, wi64 (i1 + 1), a5, c8) ⟨rfl, rfl, rfl, rfl, rfl, rfl, trivial⟩ ⟨_, hI.arr (.c .z .n) ⟨.z, (.s .z), (.s (.s .z)), trivial⟩, h⟩ (Nat.lt_succ_self _)
  refine c_block (sr (sq (y_loadN (l := [vs a1 m1.Dims.length c1]) rfl et u24 rfl size_24 (hI.kblk (l := [vs a1 m1.Dims.length c1]) (.s .z) rfl).1) ?_))
  refine sm ?_
  refine sm ?_
  obtain ⟨r2, hx3, h⟩ := bnd_some h
  refine s_call gn rfl (r_callF (vs := [(Value.agg #[vs a1 m1.Dims.length c1]), vi axis1, vi i1]) rfl ok_36 ⟨et, ⟨et, ⟨et, trivial⟩⟩⟩) (Calls.mono (c_ref51_Group (Dj F c7) w3 hI.lt m1 axis1 i1 a1 c1 ⟨(hI.get (.s (.s .z))), trivial⟩ r2 hx3) ?_)
  rintro _ w5 ⟨a6, c10, rfl, hx4, hl2⟩
  refine ⟨_, rfl, ?_⟩
  replace hI := (hI.ext hx4).adds hl2
  refine sa ?_
  refine nk (sr (sac ?_))
  refine nk (c_join (α := (List GTensor) × (Option Addr) × Nat) (fun _ => ⟨66, []⟩) (fun x => [(1, vs a2 l1.length c2), (2, vi axis1), (3, vi along1), (4, vp b1 0), (11, vs a4 out1.length c6), (12, vi i1), (14, vs (x.2.1) (x.1).length (x.2.2))]) (fun x => fun w => ∃ C, Bun noM F w0 C w [MO.row cGTensor 41 (x.2.1) (x.2.2) (x.1), MO.row cGTensor 41 a4 c6 out1] [Cl.sl cGTensor a2 c2 l1, Cl.blk b1 24 #[vs a1 m1.Dims.length c1], Cl.sl (cInt .i64) a1 c1 m1.Dims] ∧ m_ref53_AllGather_j2 along1 out1 (m_ref53_AllGather_l1 l1 m1 axis1 along1 fuel1) i1 (x.1) = some r) ?_ ?_)
  ·clear h hI; rintro ⟨parts1, a7, c11⟩ w6 ⟨c12, hI, h⟩
   try dsimp only at hI h
   rw [m_ref53_AllGather_j2] at h
   refine c_sub (e := [(1, vs a2 l1.length c2), (2, vi axis1), (3, vi along1), (4, vp b1 0), (11, vs a4 out1.length c6), (12, vi i1), (14, vs a7 parts1.length c11)]) ⟨rfl, rfl, rfl, rfl, rfl, rfl, rfl, trivial⟩ ?_
   refine sr (sm ?_)
   refine sm ?_
   obtain ⟨c13, hI⟩ := hI.release .z
   obtain ⟨r3, hx5, h⟩ := bnd_some h
   refine s_call gn rfl (r_callF (vs := [vi along1, vs a7 parts1.length c11]) rfl ok_37 ⟨et, ⟨et, trivial⟩⟩) (Calls.mono (c_ref12_Concat (Dj F c13) w6 hI.lt along1 parts1 a7 c11 ⟨(hI.get .z), trivial⟩ r3 hx5) ?_)
   rintro _ w7 ⟨a8, c14, a9, c15, rfl, hx6, hl3⟩
   refine ⟨_, rfl, ?_⟩
   replace hI := (hI.ext hx6).adds hl3
   refine sm ?_
   refine sq (y_extract rfl et rfl) ?_
   refine sq (y_extract rfl et rfl) ?_
   refine l_alloc (cs := ZTensor) hI gn rfl rfl zero_41 rfl ?_
   clear hI; intro b2 c16 w8 hI
   refine l_store (new := (lTensor r3.1 a8 c14 a9 c15)) (cs' := (ATensor r3.1 a8 c14 a9 c15)) hI .z gn rfl rfl et et rfl size_41 rfl rfl rfl ?_
   clear hI; intro c17 w9 hI
   refine sa ?_
   refine nk (c_seq (sr (sm ?_)))
   refine sq (y_neq rfl et ev_const) ?_
   refine nk (cif h et (fun hb h => ?_) (fun hb h => ?_))
   ·refine sr (sm ?_)
    refine sac ?_
    refine sa ?_
    refine nk (c_ret ?_)
    have hI := hI.add (c := Cl.sl cGTensor none 0 ([] : List GTensor)) SlC.nil
    obtain rfl := some_inj h
    exact q_ret (vs := [vs none 0 0, vi r3.2]) Tryz.results12 ⟨ev_tmp rfl rfl, ⟨ev_tmp rfl rfl, trivial⟩⟩ ⟨none, 0, rfl, hI.ext0, hI.fin ⟨.z, trivial⟩⟩
   refine c_skip (k_same (c_region rfl ?_))
   refine sm ?_
   refine sq (y_loadN (l := (lTensor r3.1 a8 c14 a9 c15)) rfl et u41 rfl size_41 (CellsAt.of_blk (hI.blk .z) rfl)) ?_
   refine l_lit (c := cGTensor) (xs := ([r3.1] : List GTensor)) (vs := [(0, (Value.agg (ATensor r3.1 a8 c14 a9 c15)))]) (cs := (ATensor r3.1 a8 c14 a9 c15)) (css := [(lTensor r3.1 a8 c14 a9 c15)]) hI gn rfl rfl u25 info_41 rfl ⟨rfl, et, trivial⟩ (by kernel_rfl) ⟨⟨a8, c14, a9, c15, rfl, hI.get .z, hI.get (.s .z)⟩, trivial⟩ rfl rfl rfl ?_
   clear hI; intro b3 c18 w10 hI
   obtain ⟨zs1, hx7, h⟩ := bnd_some h
   refine l_append (xs := out1) (ys := ([r3.1] : List GTensor)) hI (.s (.s .z)) (hI.rd .z) hx7 gn rfl rfl u25 info_41 rfl rfl et et ?_
   clear hI; intro a10 c19 c20 w11 hI
   refine sa ?_
   refine s_nil ?_
   exact k_join (zs1, a10, c19) ⟨rfl, rfl, rfl, rfl, rfl, rfl, trivial⟩ ⟨_, hI.arr (.c (.s (.s .z)) .n) ⟨(.s (.s (.s .z))), (.s (.s (.s (.s .z)))), (.s (.s (.s (.s (.s .z))))), trivial⟩, h⟩ rfl
  refine sr (sac ?_)
  refine nk (c_block ?_)
  have hI := hI.nil cGTensor 41 none
  refine c_loop (α := Nat × (List GTensor) × Int × (Option Addr) × Nat) (fun x => fun w => ∃ C, Bun noM F w0 C w [MO.row cGTensor 41 (x.2.2.2.1) (x.2.2.2.2) (x.2.1), MO.row cGTensor 41 a4 c6 out1] [Cl.sl cGTensor a2 c2 l1, Cl.blk b1 24 #[vs a1 m1.Dims.length c1], Cl.sl (cInt .i64) a1 c1 m1.Dims, Cl.sl (cInt .i64) a6 c10 r2] ∧ m_ref53_AllGather_l2 r2 l1 along1 out1 (m_ref53_AllGather_l1 l1 m1 axis1 along1 fuel1) i1 (x.1) (x.2.1) (x.2.2.1) = some r) (fun x _ => x.1) (fun x => [(1, vs a2 l1.length c2), (2, vi axis1), (3, vi along1), (4, vp b1 0), (11, vs a4 out1.length c6), (12, vi i1), (13, vs a6 r2.length c10), (14, vs (x.2.2.2.1) (x.2.1).length (x.2.2.2.2)), (15, vi (x.2.2.1))]) (fu, ([] : List GTensor), 0, none, 0) ⟨_, hI.arr (.c .z (.c .z .n)) ⟨(.s .z), (.s (.s .z)), (.s (.s (.s .z))), .z, trivial⟩, h⟩ ⟨rfl, rfl, rfl, rfl, rfl, rfl, rfl, rfl, rfl, trivial⟩ ?_
  clear h hI; rintro ⟨fuel2, parts2, k1, a11, c21⟩ w12 ⟨c22, hI, h⟩
  dsimp only at hI h
  rcases fuel2 with _ | fuel2
  ·rw [m_ref53_AllGather_l2] at h; cases h
  rw [m_ref53_AllGather_l2] at h
  refine c_sub (e := [(1, vs a2 l1.length c2), (2, vi axis1), (3, vi along1), (4, vp b1 0), (11, vs a4 out1.length c6), (12, vi i1), (13, vs a6 r2.length c10), (14, vs a11 parts2.length c21), (15, vi k1)]) ⟨rfl, rfl, rfl, rfl, rfl, rfl, rfl, rfl, rfl, trivial⟩ ?_
  refine c_seq (sr (sm ?_))
  refine sm ?_
  refine sq (y_lenl rfl u22 et) ?_
  refine sq (y_lss rfl et et) ?_
  refine nk (cif h et (fun hb h => ?_) (fun hb h => ?_))
  ·refine c_skip (k_same (c_seq (c_block (c_region rfl ?_))))
   refine sm ?_
   refine sm ?_
   refine sm ?_
   refine sm ?_
   obtain ⟨e1, hx8, h⟩ := bnd_some h
   obtain ⟨ad1, cs1, hA1, hr1, hq1⟩ := hI.clat (.s (.s (.s .z))) hx8
   obtain rfl : cs1 = [vi e1] := hr1
   refine sq (y_indexAddr rfl u22 size_3 et et (lat_bd hx8) hA1) ?_
   refine sq (y_load1 (v := (vi e1)) rfl et u3 rfl hq1.1) ?_
   obtain ⟨e2, hx9, h⟩ := bnd_some h
   obtain ⟨ad2, cs2, hA2, hr2, hq2⟩ := hI.clat .z hx9
   obtain ⟨a12, c23, a13, c24, rfl, hf1, hf2⟩ := hr2
   have hI := hI.add (c := Cl.sl (cInt .i64) a12 c23 e2.Dims) hf1
   have hI := hI.add (c := Cl.sl cGVal a13 c24 e2.Vals) hf2
   refine sq (y_indexAddr rfl u25 size_41 et et (lat_bd hx9) hA2) ?_
   refine sq (y_loadN (l := (lTensor e2 a12 c23 a13 c24)) rfl et u41 rfl size_41 hq2.1) ?_
   refine l_lit (c := cGTensor) (xs := ([e2] : List GTensor)) (vs := [(0, (Value.agg (ATensor e2 a12 c23 a13 c24)))]) (cs := (ATensor e2 a12 c23 a13 c24)) (css := [(lTensor e2 a12 c23 a13 c24)]) hI gn rfl rfl u25 info_41 rfl ⟨rfl, et, trivial⟩ (by kernel_rfl) ⟨⟨a12, c23, a13, c24, rfl, hI.get (.s .z), hI.get .z⟩, trivial⟩ rfl rfl rfl ?_
   clear hI; intro b4 c25 w13 hI
   obtain ⟨zs2, hx10, h⟩ := bnd_some h
   refine l_append (xs := parts2) (ys := ([e2] : List GTensor)) hI (.s .z) (hI.rd .z) hx10 gn rfl rfl u25 info_41 rfl rfl et et ?_
   clear hI; intro a14 c26 c27 w14 hI
   refine sa ?_
   refine nk (c_region rfl ?_)
   refine sm ?_
   refine sq (y_add rfl et ev_const) ?_
   refine sa ?_
   refine s_nil ?_
   exact k_loop (fuel2, zs2, wi64 (k1 + 1), a14, c26) ⟨rfl, rfl, rfl, rfl, rfl, rfl, rfl, rfl, rfl, trivial⟩ ⟨_, hI.arr (.c (.s .z) (.c (.s .z) .n)) ⟨(.s (.s .z)), (.s (.s (.s .z))), (.s (.s (.s (.s .z)))), (.s (.s (.s (.s (.s .z))))), trivial⟩, h⟩ (Nat.lt_succ_self _)
  refine c_exit ?_
  refine k_in ?_
  exact k_join (parts2, a11, c21) ⟨rfl, rfl, rfl, rfl, rfl, rfl, rfl, trivial⟩ ⟨_, hI.arr (.c .z (.c .z .n)) ⟨.z, (.s .z), (.s (.s .z)), trivial⟩, h⟩ rfl
 refine c_exit ?_
 refine k_in ?_
 refine k_same (sr (sm ?_))
 refine sa ?_
 refine sac ?_
 refine nk (c_ret ?_)
 obtain ⟨c28, hI⟩ := hI.release .z
 obtain rfl := some_inj h
 exact q_ret (vs := [vs a4 out1.length c6, vi 0]) Tryz.results12 ⟨ev_tmp rfl rfl, ⟨ev_tmp rfl rfl, trivial⟩⟩ ⟨a4, c6, rfl, hI.ext0, hI.fin ⟨.z, trivial⟩⟩
theorem c_ref12_Slice (F : NP) (w0 : World) (hF : ∀ k, F k → k < w0.heap.size) (t1 : GTensor) (axis1 : Int) (from1 : Int) (to1 : Int) (a1 : Option Addr) (c1 : Nat) (a2 : Option Addr) (c2 : Nat) (hc : AllCl [Cl.sl (cInt .i64) a1 c1 t1.Dims, Cl.sl cGVal a2 c2 t1.Vals] F w0) (r : GTensor × Int)
  (h : m_ref12_Slice t1 axis1 from1 to1 = some r) :
  Calls Tryz.prog 42 #[(Value.agg (ATensor t1 a1 c1 a2 c2)), vi axis1, vi from1, vi to1] w0 fun e w => ∃ (a3 : Option Addr) (c3 : Nat) (a4 : Option Addr) (c4 : Nat), e = .returned (Value.tuple #[(Value.agg (ATensor r.1 a3 c3 a4 c4)), vi r.2]) ∧ Ext w0 w ∧ AllCl [Cl.sl (cInt .i64) a3 c3 r.1.Dims, Cl.sl cGVal a4 c4 r.1.Vals] F w := by
 refine enterK Tryz.func42 rfl Tryz.ntmps42 rfl ?_
 have hI := Bun.start hF hc
 clear hc
 rw [m_ref12_Slice] at h
 refine sr (l_box (v := (Value.agg (ATensor t1 a1 c1 a2 c2))) (cs := (ATensor t1 a1 c1 a2 c2)) hI gn rfl rfl et rfl ?_)
 clear hI; intro b1 c5 w1 hI
 obtain ⟨c6, hI⟩ := hI.relBox .z
 refine l_alloc (cs := ZTensor) hI gn rfl rfl zero_41 rfl ?_
 clear hI; intro b2 c7 w2 hI
 refine sac ?_
 refine nk (c_seq (sr (sq (y_loadN (l := (lTensor t1 a1 c1 a2 c2)) rfl et u41 rfl size_41 (hI.kblk (l := (lTensor t1 a1 c1 a2 c2)) .z rfl).1) ?_)))
 obtain ⟨r1, hx1, h⟩ := bnd_some h
 refine s_call gn rfl (r_callF (vs := [(Value.agg (ATensor t1 a1 c1 a2 c2))]) rfl ok_26 ⟨et, trivial⟩) (Calls.mono (c_ref12_Validate (Dj F c7) w2 hI.lt t1 a1 c1 a2 c2 ⟨(hI.get (.s .z)), (hI.get (.s (.s .z))), trivial⟩ r1 hx1) ?_)
 rintro _ w3 ⟨rfl, hx2, hl1⟩
 refine ⟨_, rfl, ?_⟩
 replace hI := (hI.ext hx2)
 refine sa ?_
 refine nk (sr (sm ?_))
 refine sq (y_neq rfl et ev_const) ?_
 refine nk (cif h et (fun hb h => ?_) (fun hb h => ?_))
 ·refine sr (sq (y_build (vs := []) (cs := ZTensor) rfl trivial (by kernel_rfl)) ?_)
  refine sm ?_
  refine l_store (new := zTensor) (cs' := ZTensor) hI .z gn rfl rfl et et rfl size_41 rfl rfl rfl ?_
  clear hI; intro c8 w4 hI
  refine sa ?_
  refine nk (c_ret ?_)
  have hI := hI.add (c := Cl.sl (cInt .i64) none 0 ([] : List Int)) SlC.nil
  have hI := hI.add (c := Cl.sl cGVal none 0 ([] : List GVal)) SlC.nil
  obtain rfl := some_inj h
  exact q_ret (vs := [(Value.agg ZTensor), vi r1]) Tryz.results42 ⟨⟨_, ev_tmp rfl rfl, load_agg (l := zTensor) u41 rfl size_41 (CellsAt.of_blk (hI.blk .z) rfl)⟩, ⟨ev_tmp rfl rfl, trivial⟩⟩ ⟨none, 0, none, 0, rfl, hI.ext0, hI.fin ⟨(.s .z), .z, trivial⟩⟩
 refine c_skip (k_same (c_seq (sr (sm ?_))))
 refine sq (y_lss rfl et ev_const) ?_
 refine sm ?_
 refine s_gval (g_false rfl rfl rfl rfl) rfl (fun hc => y_move rfl et) ?_
 refine s_gval (g_false rfl rfl rfl rfl) rfl (fun hc => y_fieldAddr rfl et u41 rfl size_22 rfl) ?_
 refine s_gval (g_false rfl rfl rfl rfl) rfl (fun hc => (y_load1 (v := (vs a1 t1.Dims.length c1)) rfl (ev_gv et hc) u22 rfl (hI.kblk (l := [vs a1 t1.Dims.length c1]) .z rfl).1)) ?_
 refine s_gval (g_false rfl rfl rfl rfl) rfl (fun hc => y_lenl rfl u22 (ev_gv et hc)) ?_
 refine s_gval (g_false rfl rfl rfl rfl) rfl (fun hc => y_geq rfl (ev_gv et hc) (ev_gv et hc)) ?_
 refine sq (y_or rfl et et) ?_
 refine nk (cif h et (fun hb h => ?_) (fun hb h => ?_))
 ·refine sr (sq (y_build (vs := []) (cs := ZTensor) rfl trivial (by kernel_rfl)) ?_)
  refine l_store (new := zTensor) (cs' := ZTensor) hI .z gn rfl rfl et et rfl size_41 rfl rfl rfl ?_
  clear hI; intro c9 w5 hI
  refine sac ?_
  refine nk (c_ret ?_)
  have hI := hI.add (c := Cl.sl (cInt .i64) none 0 ([] : List Int)) SlC.nil
  have hI := hI.add (c := Cl.sl cGVal none 0 ([] : List GVal)) SlC.nil
  obtain rfl := some_inj h
  exact q_ret (vs := [(Value.agg ZTensor), vi 11]) Tryz.results42 ⟨⟨_, ev_tmp rfl rfl, load_agg (l := zTensor) u41 rfl size_41 (CellsAt.of_blk (hI.blk .z) rfl)⟩, ⟨ev_tmp rfl rfl, trivial⟩⟩ ⟨none, 0, none, 0, rfl, hI.ext0, hI.fin ⟨(.s .z), .z, trivial⟩⟩
 refine c_skip (k_same (c_seq (sr (sm ?_))))
 refine sq (y_lss rfl et ev_const) ?_
 refine sm ?_
 refine s_gval (g_false rfl rfl rfl rfl) rfl (fun hc => y_move rfl et) ?_
 refine s_gval (g_false rfl rfl rfl rfl) rfl (fun hc => y_move rfl et) ?_
 refine s_gval (g_false rfl rfl rfl rfl) rfl (fun hc => y_geq rfl (ev_gv et hc) (ev_gv et hc)) ?_
 refine sq (y_or rfl et et) ?_
 refine sm ?_
 refine s_gval (g_false rfl rfl rfl rfl) rfl (fun hc => y_move rfl et) ?_
 refine s_gval (g_false rfl rfl rfl rfl) rfl (fun hc => y_fieldAddr rfl et u41 rfl size_22 rfl) ?_
 refine s_gval (g_false rfl rfl rfl rfl) rfl (fun hc => (y_load1 (v := (vs a1 t1.Dims.length c1)) rfl (ev_gv et hc) u22 rfl (hI.kblk (l := [vs a1 t1.Dims.length c1]) .z rfl).1)) ?_
 refine s_gval (g_false rfl rfl rfl rfl) rfl (fun hc => y_move rfl et) ?_
 obtain ⟨e1, hx3, h⟩ := bnd_some h
 replace hx3 := gd_some hx3
 obtain ⟨ad1, cs1, hq1⟩ := hI.gclat (.s .z) hx3
 have hq2 : (!((decide (from1 < 0)) || (decide (to1 ≤ from1)))) = true → CA (Dj F c7) w3 (ad1.add (Int.toNat axis1 * 1)) [vi e1] := fun hc => by have k := hq1 hc; have e : cs1 = _ := k.2.1; rw [← e]; exact k.2.2
 refine s_gval (g_false rfl rfl rfl rfl) rfl (fun hc => (y_indexAddr rfl u22 size_3 (ev_gv et hc) (ev_gv et hc) (lat_bd (hx3 hc)) (hq1 hc).1)) ?_
 refine s_gval (g_false rfl rfl rfl rfl) rfl (fun hc => (y_load1 (v := (vi e1)) rfl (ev_gv et hc) u3 rfl (hq2 hc).1)) ?_
 refine s_gval (g_false rfl rfl rfl rfl) rfl (fun hc => y_gtr rfl (ev_gv et hc) (ev_gv et hc)) ?_
 refine sq (y_or rfl et et) ?_
 refine s_nil ?_
 refine k_next (e := [(1, vi axis1), (2, vi from1), (3, vi to1), (4, vp b1 0), (8, vp b2 0), (46, (vb (((decide (from1 < 0)) || (decide (to1 ≤ from1))) || (decide (e1 < to1)))))]) ⟨rfl, rfl, rfl, rfl, rfl, rfl, trivial⟩ ?_
 refine cif h et (fun hb h => ?_) (fun hb h => ?_)
 ·refine sr (sq (y_build (vs := []) (cs := ZTensor) rfl trivial (by kernel_rfl)) ?_)
  refine l_store (new := zTensor) (cs' := ZTensor) hI .z gn rfl rfl et et rfl size_41 rfl rfl rfl ?_
  clear hI; intro c10 w6 hI
  refine sac ?_
  refine nk (c_ret ?_)
  have hI := hI.add (c := Cl.sl (cInt .i64) none 0 ([] : List Int)) SlC.nil
  have hI := hI.add (c := Cl.sl cGVal none 0 ([] : List GVal)) SlC.nil
  obtain rfl := some_inj h
  exact q_ret (vs := [(Value.agg ZTensor), vi 12]) Tryz.results42 ⟨⟨_, ev_tmp rfl rfl, load_agg (l := zTensor) u41 rfl size_41 (CellsAt.of_blk (hI.blk .z) rfl)⟩, ⟨ev_tmp rfl rfl, trivial⟩⟩ ⟨none, 0, none, 0, rfl, hI.ext0, hI.fin ⟨(.s .z), .z, trivial⟩⟩
 refine c_skip (k_same (sr (sq (y_fieldAddr rfl et u41 rfl size_38 rfl) ?_)))
 refine sq (y_loadN (l := (lType t1.Type_)) rfl et u38 rfl size_38 (hI.kblk (l := (lType t1.Type_)) .z rfl).1) ?_
 refine sq (y_build (vs := [(0, (Value.agg (AType t1.Type_)))]) (cs := #[vi t1.Type_.Kind, vi t1.Type_.Bits, vi t1.Type_.Frac, vi t1.Type_.Round, vi t1.Type_.Over, vs none 0 0, vs none 0 0]) rfl ⟨rfl, et, trivial⟩ (by kernel_rfl)) ?_
 refine l_alloc (cs := ZTensor) hI gn rfl rfl zero_41 rfl ?_
 clear hI; intro b3 c11 w7 hI
 refine l_store (new := [vi t1.Type_.Kind, vi t1.Type_.Bits, vi t1.Type_.Frac, vi t1.Type_.Round, vi t1.Type_.Over, vs none 0 0, vs none 0 0]) (cs' := #[vi t1.Type_.Kind, vi t1.Type_.Bits, vi t1.Type_.Frac, vi t1.Type_.Round, vi t1.Type_.Over, vs none 0 0, vs none 0 0]) hI .z gn rfl rfl et et rfl size_41 rfl rfl rfl ?_
 clear hI; intro c12 w8 hI
 refine nk (c_join (α := GTensor × (Option Addr) × Nat × (Option Addr) × Nat) (fun _ => ⟨115, []⟩) (fun x => [(1, vi axis1), (2, vi from1), (3, vi to1), (4, vp b1 0), (8, vp b2 0), (11, vp b3 0)]) (fun x => fun w => ∃ C, Bun noM F w0 C w [MO.row (cInt .i64) 3 (x.2.1) (x.2.2.1) (x.1).Dims, MO.row cGVal 68 (x.2.2.2.1) (x.2.2.2.2) (x.1).Vals, MO.box b2 41 ZTensor, MO.box b3 41 (ATensor (x.1) (x.2.1) (x.2.2.1) (x.2.2.2.1) (x.2.2.2.2))] [Cl.blk b1 41 (ATensor t1 a1 c1 a2 c2), Cl.sl (cInt .i64) a1 c1 t1.Dims, Cl.sl cGVal a2 c2 t1.Vals] ∧ m_ref12_Slice_j1 t1 axis1 from1 to1 (x.1) = some r) ?_ ?_)
 ·clear h hI; rintro ⟨out1, a5, c13, a6, c14⟩ w9 ⟨c15, hI, h⟩
  try dsimp only at hI h
  rw [m_ref12_Slice_j1] at h
  refine c_sub (e := [(1, vi axis1), (2, vi from1), (3, vi to1), (4, vp b1 0), (8, vp b2 0), (11, vp b3 0)]) ⟨rfl, rfl, rfl, rfl, rfl, rfl, trivial⟩ ?_
  refine c_seq (sr (sac ?_))
  refine nk (c_block (c_loop (α := Nat × Int × GTensor × (Option Addr) × Nat × (Option Addr) × Nat) (fun x => fun w => ∃ C, Bun noM F w0 C w [MO.row (cInt .i64) 3 (x.2.2.2.1) (x.2.2.2.2.1) (x.2.2.1).Dims, MO.row cGVal 68 (x.2.2.2.2.2.1) (x.2.2.2.2.2.2) (x.2.2.1).Vals, MO.box b2 41 ZTensor, MO.box b3 41 (ATensor (x.2.2.1) (x.2.2.2.1) (x.2.2.2.2.1) (x.2.2.2.2.2.1) (x.2.2.2.2.2.2))] [Cl.blk b1 41 (ATensor t1 a1 c1 a2 c2), Cl.sl (cInt .i64) a1 c1 t1.Dims, Cl.sl cGVal a2 c2 t1.Vals] ∧ m_ref12_Slice_l1 t1 axis1 from1 to1 (x.1) (x.2.1) (x.2.2.1) = some r) (fun x _ => x.1) (fun x => [(1, vi axis1), (2, vi from1), (3, vi to1), (4, vp b1 0), (8, vp b2 0), (11, vp b3 0), (13, vi (x.2.1))]) (fu, 0, out1, a5, c13, a6, c14) ⟨_, hI.arr (.c .z (.c .z (.c .z (.c .z .n)))) ⟨.z, (.s .z), (.s (.s .z)), trivial⟩, h⟩ ⟨rfl, rfl, rfl, rfl, rfl, rfl, rfl, trivial⟩ ?_))
  clear h hI; rintro ⟨fuel1, i1, out2, a7, c16, a8, c17⟩ w10 ⟨c18, hI, h⟩
  dsimp only at hI h
  rcases fuel1 with _ | fuel1
  ·rw [m_ref12_Slice_l1] at h; cases h
  rw [m_ref12_Slice_l1] at h
  refine c_sub (e := [(1, vi axis1), (2, vi from1), (3, vi to1), (4, vp b1 0), (8, vp b2 0), (11, vp b3 0), (13, vi i1)]) ⟨rfl, rfl, rfl, rfl, rfl, rfl, rfl, trivial⟩ ?_
  refine c_seq (sr (sm ?_))
  refine sq (y_fieldAddr rfl et u41 rfl size_39 rfl) ?_
  refine sq (y_load1 (v := (vs a2 t1.Vals.length c2)) rfl et u39 rfl (hI.kblk (l := [vs a2 t1.Vals.length c2]) .z rfl).1) ?_
  refine sq (y_lenl rfl u39 et) ?_
  refine sq (y_lss rfl et et) ?_
  refine nk (cif h et (fun hb h => ?_) (fun hb h => ?_))
  ·refine c_skip (k_same (c_join (α := GTensor × (Option Addr) × Nat × (Option Addr) × Nat) (fun _ => ⟨115, []⟩) (fun x => [(1, vi axis1), (2, vi from1), (3, vi to1), (4, vp b1 0), (8, vp b2 0), (11, vp b3 0), (13, vi i1)]) (fun x => fun w => ∃ C, Bun noM F w0 C w [MO.row (cInt .i64) 3 (x.2.1) (x.2.2.1) (x.1).Dims, MO.row cGVal 68 (x.2.2.2.1) (x.2.2.2.2) (x.1).Vals, MO.box b2 41 ZTensor, MO.box b3 41 (ATensor (x.1) (x.2.1) (x.2.2.1) (x.2.2.2.1) (x.2.2.2.2))] [Cl.blk b1 41 (ATensor t1 a1 c1 a2 c2), Cl.sl (cInt .i64) a1 c1 t1.Dims, Cl.sl cGVal a2 c2 t1.Vals] ∧ m_ref12_Slice_j2 (m_ref12_Slice_l1 t1 axis1 from1 to1 fuel1) i1 (x.1) = some r) ?_ ?_))
   ·clear h hI; rintro ⟨out3, a9, c19, a10, c20⟩ w11 ⟨c21, hI, h⟩
    try dsimp only at hI h
    rw [m_ref12_Slice_j2] at h
    refine c_sub (e := [(1, vi axis1), (2, vi from1), (3, vi to1), (4, vp b1 0), (8, vp b2 0), (11, vp b3 0), (13, vi i1)]) ⟨rfl, rfl, rfl, rfl, rfl, rfl, rfl, trivial⟩ ?_
    refine c_region rfl ?_
    refine sm ?_
    refine sq (y_add rfl et ev_const) ?_
    refine sa ?_
    refine s_nil ?_
    exact k_loop (fuel1, wi64 (i1 + 1), out3, a9, c19, a10, c20) ⟨rfl, rfl, rfl, rfl, rfl, rfl, rfl, trivial⟩ ⟨_, hI.arr (.c .z (.c .z (.c .z (.c .z .n)))) ⟨.z, (.s .z), (.s (.s .z)), trivial⟩, h⟩ (Nat.lt_succ_self _)
   refine c_block (sr (sq (y_fieldAddr rfl et u41 rfl size_22 rfl) ?_))
   refine sq (y_load1 (v := (vs a1 t1.Dims.length c1)) rfl et u22 rfl (hI.kblk (l := [vs a1 t1.Dims.length c1]) .z rfl).1) ?_
   refine sm ?_
   obtain ⟨r2, hx4, h⟩ := bnd_some h
   refine s_call gn rfl (r_callF (vs := [vs a1 t1.Dims.length c1, vi i1]) rfl ok_67 ⟨et, ⟨et, trivial⟩⟩) (Calls.mono (c_ref12_Point (Dj F c18) w10 hI.lt t1.Dims i1 a1 c1 ⟨(hI.get (.s .z)), trivial⟩ r2 hx4) ?_)
   rintro _ w12 ⟨a11, c22, rfl, hx5, hl2⟩
   refine ⟨_, rfl, ?_⟩
   replace hI := (hI.ext hx5).adds hl2
   refine sa ?_
   refine nk (sr (sm ?_))
   refine sm ?_
   obtain ⟨e2, hx6, h⟩ := bnd_some h
   obtain ⟨ad2, cs2, hA2, hr2, hq3⟩ := hI.clat .z hx6
   obtain rfl : cs2 = [vi e2] := hr2
   refine sq (y_indexAddr rfl u22 size_3 et et (lat_bd hx6) hA2) ?_
   refine sq (y_load1 (v := (vi e2)) rfl et u3 rfl hq3.1) ?_
   refine sm ?_
   refine sq (y_geq rfl et et) ?_
   refine sm ?_
   refine s_gval (g_true rfl rfl rfl rfl) rfl (fun hc => y_move rfl et) ?_
   refine s_gval (g_true rfl rfl rfl rfl) rfl (fun hc => y_move rfl et) ?_
   obtain ⟨e3, hx7, h⟩ := bnd_some h
   replace hx7 := gd_some hx7
   obtain ⟨ad3, cs3, hq4⟩ := hI.gclat .z hx7
   have hq5 : (decide (from1 ≤ e2)) = true → CA (Dj F c18) w12 (ad3.add (Int.toNat axis1 * 1)) [vi e3] := fun hc => by have k := hq4 hc; have e : cs3 = _ := k.2.1; rw [← e]; exact k.2.2
   refine s_gval (g_true rfl rfl rfl rfl) rfl (fun hc => (y_indexAddr rfl u22 size_3 (ev_gv et hc) (ev_gv et hc) (lat_bd (hx7 hc)) (hq4 hc).1)) ?_
   refine s_gval (g_true rfl rfl rfl rfl) rfl (fun hc => (y_load1 (v := (vi e3)) rfl (ev_gv et hc) u3 rfl (hq5 hc).1)) ?_
   refine s_gval (g_true rfl rfl rfl rfl) rfl (fun hc => y_move rfl et) ?_
   refine s_gval (g_true rfl rfl rfl rfl) rfl (fun hc => y_lss rfl (ev_gv et hc) (ev_gv et hc)) ?_
   refine sq (y_and rfl et et) ?_
   refine nk (cif h et (fun hb h => ?_) (fun hb h => ?_))
   ·refine c_drawX [8, 10] false (.c (0, .q) (.c (1, .q) (.c (2, .q) (.c (3, .q) (.c (4, .q) (.c (5, .q) (.c (6, .q) (.c (7, .s) (.c (8, .s) (.c (9, .q) (.c (10, .s) .n))))))))))) hI (by kernel_rfl) (by kernel_rfl) ?_
    clear hI; intro w13 hI
    refine a_q rfl gn rfl (fun w' => y_fieldAddr rfl et u41 rfl size_39 rfl) ?_
    refine a_read rfl gn rfl (fun w' hw' => (y_load1 (v := (vs a8 out2.Vals.length c17)) rfl et u39 rfl ((CA.blk (hI.blk (.s (.s (.s .z)))) rfl).at_ (SX.any rfl hw')))) (by kernel_rfl) ?_
    refine a_q rfl gn rfl (fun w' => y_fieldAddr rfl et u41 rfl size_39 rfl) ?_
    refine a_read rfl gn rfl (fun w' hw' => (y_load1 (v := (vs a2 t1.Vals.length c2)) rfl et u39 rfl ((hI.kblk (l := [vs a2 t1.Vals.length c2]) (.s .z) rfl).at_ (SX.any rfl hw')))) (by kernel_rfl) ?_
    refine a_q rfl gn rfl (fun w' => y_move rfl et) ?_
    obtain ⟨e4, hx8, h⟩ := bnd_some h
    obtain ⟨ad4, cs4, hA4, hr4, hq6⟩ := hI.clat (.s (.s (.s .z))) hx8
    obtain rfl : cs4 = (lVal e4) := hr4
    refine a_q rfl gn rfl (fun w' => y_indexAddr rfl u39 size_68 et et (lat_bd hx8) hA4) ?_
    refine a_read rfl gn rfl (fun w' hw' => (y_loadN (l := (lVal e4)) rfl et u68 rfl size_68 (hq6.at_ (SX.any rfl hw')))) (by kernel_rfl) ?_
    refine la_lit (c := cGVal) (xs := ([e4] : List GVal)) (vs := [(0, (Value.agg (AVal e4)))]) (cs := (AVal e4)) (css := [(lVal e4)]) hI rfl gn rfl rfl u39 info_68 rfl ⟨rfl, et, trivial⟩ (by kernel_rfl) ⟨rfl, trivial⟩ rfl rfl rfl ?_
    clear hI; intro b4 c23 w14 hI
    refine a_turn (F := F) (C := c23) rfl rfl ?_
    obtain ⟨zs1, hx9, h⟩ := bnd_some h
    refine la_append (xs := out2.Vals) (ys := ([e4] : List GVal)) hI (.s (.s .z)) (hI.rd .z) hx9 rfl gn rfl rfl u39 info_68 rfl rfl et et ?_
    clear hI; intro a12 c24 c25 w15 hI
    refine a_q rfl gn rfl (fun w' => y_fieldAddr rfl et u41 rfl size_39 rfl) ?_
    refine la_store (new := [vs a12 zs1.length c24]) (cs' := #[vi out2.Type_.Kind, vi out2.Type_.Bits, vi out2.Type_.Frac, vi out2.Type_.Round, vi out2.Type_.Over, vs a7 out2.Dims.length c16, vs a12 zs1.length c24]) hI (.s (.s (.s (.s .z)))) rfl gn rfl rfl et et rfl size_39 rfl rfl rfl ?_
    clear hI; intro c26 w16 hI
    refine a_nil ?_
    exact k_join ((⟨out2.Type_, out2.Dims, zs1⟩ : GTensor), a7, c16, a12, c24) ⟨rfl, rfl, rfl, rfl, rfl, rfl, rfl, trivial⟩ ⟨_, hI.arr (.c (.s .z) (.c (.s .z) (.c (.s .z) (.c (.s .z) .n)))) ⟨(.s .z), (.s (.s .z)), (.s (.s (.s .z))), trivial⟩, h⟩ rfl
   exact c_skip (k_join (out2, a7, c16, a8, c17) ⟨rfl, rfl, rfl, rfl, rfl, rfl, rfl, trivial⟩ ⟨_, hI.arr (.c .z (.c .z (.c .z (.c .z .n)))) ⟨(.s .z), (.s (.s .z)), (.s (.s (.s .z))), trivial⟩, h⟩ rfl)
  refine c_exit ?_
  refine k_in ?_
  refine k_same (sr (sq (y_loadN (l := (lTensor out2 a7 c16 a8 c17)) rfl et u41 rfl size_41 (CellsAt.of_blk (hI.blk (.s (.s (.s .z)))) rfl)) ?_))
  refine l_store (new := (lTensor out2 a7 c16 a8 c17)) (cs' := (ATensor out2 a7 c16 a8 c17)) hI (.s (.s .z)) gn rfl rfl et et rfl size_41 rfl rfl rfl ?_
  clear hI; intro c27 w17 hI
  refine sac ?_
  refine nk (c_ret ?_)
  obtain ⟨c28, hI⟩ := hI.release .z
  obtain ⟨c29, hI⟩ := hI.release .z
  obtain rfl := some_inj h
  exact q_ret (vs := [(Value.agg (ATensor out2 a7 c16 a8 c17)), vi 0]) Tryz.results42 ⟨⟨_, ev_tmp rfl rfl, load_agg (l := (lTensor out2 a7 c16 a8 c17)) u41 rfl size_41 (CellsAt.of_blk (hI.blk .z) rfl)⟩, ⟨ev_tmp rfl rfl, trivial⟩⟩ ⟨a7, c16, a8, c17, rfl, hI.ext0, hI.fin ⟨(.s .z), .z, trivial⟩⟩
 refine sr (sac ?_)
 refine nk (c_block ?_)
 have hI := hI.nil (cInt .i64) 3 none
 have hI := hI.nil cGVal 68 none
 refine c_loop (α := Nat × Int × GTensor × (Option Addr) × Nat × (Option Addr) × Nat) (fun x => fun w => ∃ C, Bun noM F w0 C w [MO.row (cInt .i64) 3 (x.2.2.2.1) (x.2.2.2.2.1) (x.2.2.1).Dims, MO.row cGVal 68 (x.2.2.2.2.2.1) (x.2.2.2.2.2.2) (x.2.2.1).Vals, MO.box b2 41 ZTensor, MO.box b3 41 (ATensor (x.2.2.1) (x.2.2.2.1) (x.2.2.2.2.1) (x.2.2.2.2.2.1) (x.2.2.2.2.2.2))] [Cl.blk b1 41 (ATensor t1 a1 c1 a2 c2), Cl.sl (cInt .i64) a1 c1 t1.Dims, Cl.sl cGVal a2 c2 t1.Vals] ∧ m_ref12_Slice_l2 t1 axis1 to1 from1 (x.1) (x.2.1) (x.2.2.1) = some r) (fun x _ => x.1) (fun x => [(1, vi axis1), (2, vi from1), (3, vi to1), (4, vp b1 0), (8, vp b2 0), (11, vp b3 0), (12, vi (x.2.1))]) (fu, 0, (⟨t1.Type_, ([] : List Int), ([] : List GVal)⟩ : GTensor), none, 0, none, 0) ⟨_, hI.arr (.c (.s .z) (.c .z (.c (.s .z) (.c .z .n)))) ⟨.z, (.s .z), (.s (.s .z)), trivial⟩, h⟩ ⟨rfl, rfl, rfl, rfl, rfl, rfl, rfl, trivial⟩ ?_
 clear h hI; rintro ⟨fuel2, i2, out4, a13, c30, a14, c31⟩ w18 ⟨c32, hI, h⟩
 dsimp only at hI h
 rcases fuel2 with _ | fuel2
 ·rw [m_ref12_Slice_l2] at h; cases h
 rw [m_ref12_Slice_l2] at h
 refine c_sub (e := [(1, vi axis1), (2, vi from1), (3, vi to1), (4, vp b1 0), (8, vp b2 0), (11, vp b3 0), (12, vi i2)]) ⟨rfl, rfl, rfl, rfl, rfl, rfl, rfl, trivial⟩ ?_
 refine c_seq (sr (sm ?_))
 refine sq (y_fieldAddr rfl et u41 rfl size_22 rfl) ?_
 refine sq (y_load1 (v := (vs a1 t1.Dims.length c1)) rfl et u22 rfl (hI.kblk (l := [vs a1 t1.Dims.length c1]) .z rfl).1) ?_
 refine sq (y_lenl rfl u22 et) ?_
 refine sq (y_lss rfl et et) ?_
 refine nk (cif h et (fun hb h => ?_) (fun hb h => ?_))
 ·refine c_skip (k_same (c_join (α := GTensor × (Option Addr) × Nat × (Option Addr) × Nat) (fun _ => ⟨115, []⟩) (fun x => [(1, vi axis1), (2, vi from1), (3, vi to1), (4, vp b1 0), (8, vp b2 0), (11, vp b3 0), (12, vi i2)]) (fun x => fun w => ∃ C, Bun noM F w0 C w [MO.row (cInt .i64) 3 (x.2.1) (x.2.2.1) (x.1).Dims, MO.row cGVal 68 (x.2.2.2.1) (x.2.2.2.2) (x.1).Vals, MO.box b2 41 ZTensor, MO.box b3 41 (ATensor (x.1) (x.2.1) (x.2.2.1) (x.2.2.2.1) (x.2.2.2.2))] [Cl.blk b1 41 (ATensor t1 a1 c1 a2 c2), Cl.sl (cInt .i64) a1 c1 t1.Dims, Cl.sl cGVal a2 c2 t1.Vals] ∧ m_ref12_Slice_j3 (m_ref12_Slice_l2 t1 axis1 to1 from1 fuel2) i2 (x.1) = some r) ?_ ?_))
  ·clear h hI; rintro ⟨out5, a15, c33, a16, c34⟩ w19 ⟨c35, hI, h⟩
   try dsimp only at hI h
   rw [m_ref12_Slice_j3] at h
   refine c_sub (e := [(1, vi axis1), (2, vi from1), (3, vi to1), (4, vp b1 0), (8, vp b2 0), (11, vp b3 0), (12, vi i2)]) ⟨rfl, rfl, rfl, rfl, rfl, rfl, rfl, trivial⟩ ?_
   refine c_region rfl ?_
   refine sm ?_
   refine sq (y_add rfl et ev_const) ?_
   refine sa ?_
   refine s_nil ?_
   exact k_loop (fuel2, wi64 (i2 + 1), out5, a15, c33, a16, c34) ⟨rfl, rfl, rfl, rfl, rfl, rfl, rfl, trivial⟩ ⟨_, hI.arr (.c .z (.c .z (.c .z (.c .z .n)))) ⟨.z, (.s .z), (.s (.s .z)), trivial⟩, h⟩ (Nat.lt_succ_self _)
  refine c_block (sr (sm ?_))
  refine sm ?_
  refine sq (y_eql rfl et et) ?_
  refine nk (cif h et (fun hb h => ?_) (fun hb h => ?_))
  ·refine c_region rfl ?_
   refine sq (y_fieldAddr rfl et u41 rfl size_22 rfl) ?_
   refine sq (y_load1 (v := (vs a13 out4.Dims.length c30)) rfl et u22 rfl (CellsAt.of_blk (hI.blk (.s (.s (.s .z)))) rfl)) ?_
   refine sm ?_
   refine sm ?_
   refine sq (y_sub rfl et et) ?_
   refine l_lit (c := (cInt .i64)) (xs := ([wi64 (to1 - from1)] : List Int)) (vs := [(0, (vi (wi64 (to1 - from1))))]) (cs := #[(vi (wi64 (to1 - from1)))]) (css := [[(vi (wi64 (to1 - from1)))]]) hI gn rfl rfl u22 info_3 rfl ⟨rfl, et, trivial⟩ (by kernel_rfl) ⟨rfl, trivial⟩ rfl rfl rfl ?_
   clear hI; intro b5 c36 w20 hI
   obtain ⟨zs2, hx10, h⟩ := bnd_some h
   refine l_append (xs := out4.Dims) (ys := ([wi64 (to1 - from1)] : List Int)) hI (.s .z) (hI.rd .z) hx10 gn rfl rfl u22 info_3 rfl rfl et et ?_
   clear hI; intro a17 c37 c38 w21 hI
   refine sq (y_fieldAddr rfl et u41 rfl size_22 rfl) ?_
   refine l_store (new := [vs a17 zs2.length c37]) (cs' := #[vi out4.Type_.Kind, vi out4.Type_.Bits, vi out4.Type_.Frac, vi out4.Type_.Round, vi out4.Type_.Over, vs a17 zs2.length c37, vs a14 out4.Vals.length c31]) hI (.s (.s (.s (.s .z)))) gn rfl rfl et et rfl size_22 rfl rfl rfl ?_
   clear hI; intro c39 w22 hI
   refine s_nil ?_
   exact k_join ((⟨out4.Type_, zs2, out4.Vals⟩ : GTensor), a17, c37, a14, c31) ⟨rfl, rfl, rfl, rfl, rfl, rfl, rfl, trivial⟩ ⟨_, hI.arr (.c (.s .z) (.c (.s .z) (.c (.s .z) (.c (.s .z) .n)))) ⟨.z, (.s .z), (.s (.s .z)), trivial⟩, h⟩ rfl
  refine c_drawX [8, 10] false (.c (0, .q) (.c (1, .q) (.c (2, .q) (.c (3, .q) (.c (4, .q) (.c (5, .q) (.c (6, .q) (.c (7, .s) (.c (8, .s) (.c (9, .q) (.c (10, .s) .n))))))))))) hI (by kernel_rfl) (by kernel_rfl) ?_
  clear hI; intro w23 hI
  refine a_q rfl gn rfl (fun w' => y_fieldAddr rfl et u41 rfl size_22 rfl) ?_
  refine a_read rfl gn rfl (fun w' hw' => (y_load1 (v := (vs a13 out4.Dims.length c30)) rfl et u22 rfl ((CA.blk (hI.blk (.s (.s (.s .z)))) rfl).at_ (SX.any rfl hw')))) (by kernel_rfl) ?_
  refine a_q rfl gn rfl (fun w' => y_fieldAddr rfl et u41 rfl size_22 rfl) ?_
  refine a_read rfl gn rfl (fun w' hw' => (y_load1 (v := (vs a1 t1.Dims.length c1)) rfl et u22 rfl ((hI.kblk (l := [vs a1 t1.Dims.length c1]) .z rfl).at_ (SX.any rfl hw')))) (by kernel_rfl) ?_
  refine a_q rfl gn rfl (fun w' => y_move rfl et) ?_
  obtain ⟨e5, hx11, h⟩ := bnd_some h
  obtain ⟨ad5, cs5, hA5, hr5, hq7⟩ := hI.clat (.s .z) hx11
  obtain rfl : cs5 = [vi e5] := hr5
  refine a_q rfl gn rfl (fun w' => y_indexAddr rfl u22 size_3 et et (lat_bd hx11) hA5) ?_
  refine a_read rfl gn rfl (fun w' hw' => (y_load1 (v := (vi e5)) rfl et u3 rfl (hq7.at_ (SX.any rfl hw')))) (by kernel_rfl) ?_
  refine la_lit (c := (cInt .i64)) (xs := ([e5] : List Int)) (vs := [(0, vi e5)]) (cs := #[vi e5]) (css := [[vi e5]]) hI rfl gn rfl rfl u22 info_3 rfl ⟨rfl, et, trivial⟩ (by kernel_rfl) ⟨rfl, trivial⟩ rfl rfl rfl ?_
  clear hI; intro b6 c40 w24 hI
  refine a_turn (F := F) (C := c40) rfl rfl ?_
  obtain ⟨zs3, hx12, h⟩ := bnd_some h
  refine la_append (xs := out4.Dims) (ys := ([e5] : List Int)) hI (.s .z) (hI.rd .z) hx12 rfl gn rfl rfl u22 info_3 rfl rfl et et ?_
  clear hI; intro a18 c41 c42 w25 hI
  refine a_q rfl gn rfl (fun w' => y_fieldAddr rfl et u41 rfl size_22 rfl) ?_
  refine la_store (new := [vs a18 zs3.length c41]) (cs' := #[vi out4.Type_.Kind, vi out4.Type_.Bits, vi out4.Type_.Frac, vi out4.Type_.Round, vi out4.Type_.Over, vs a18 zs3.length c41, vs a14 out4.Vals.length c31]) hI (.s (.s (.s (.s .z)))) rfl gn rfl rfl et et rfl size_22 rfl rfl rfl ?_
  clear hI; intro c43 w26 hI
  refine a_nil ?_
  exact k_join ((⟨out4.Type_, zs3, out4.Vals⟩ : GTensor), a18, c41, a14, c31) ⟨rfl, rfl, rfl, rfl, rfl, rfl, rfl, trivial⟩ ⟨_, hI.arr (.c (.s .z) (.c (.s .z) (.c (.s .z) (.c (.s .z) .n)))) ⟨.z, (.s .z), (.s (.s .z)), trivial⟩, h⟩ rfl
 refine c_exit ?_
 refine k_in ?_
 exact k_join (out4, a13, c30, a14, c31) ⟨rfl, rfl, rfl, rfl, rfl, rfl, trivial⟩ ⟨_, hI.arr (.c .z (.c .z (.c .z (.c .z .n)))) ⟨.z, (.s .z), (.s (.s .z)), trivial⟩, h⟩ rfl
def tr_ref53_SliceLocal_3_0 : Tr := (.c (23, .s) (.c (24, .q) .n))
theorem c_ref53_SliceLocal (F : NP) (w0 : World) (hF : ∀ k, F k → k < w0.heap.size) (m1 : GMesh) (l1 : List GTensor) (axis1 : Int) (along1 : Int) (a1 : Option Addr) (c1 : Nat) (a2 : Option Addr) (c2 : Nat) (hc : AllCl [Cl.sl (cInt .i64) a1 c1 m1.Dims, Cl.sl cGTensor a2 c2 l1] F w0) (r : List GTensor × Int)
  (h : m_ref53_SliceLocal m1 l1 axis1 along1 = some r) :
  Calls Tryz.prog 14 #[(Value.agg #[vs a1 m1.Dims.length c1]), vs a2 l1.length c2, vi axis1, vi along1] w0 fun e w => ∃ (a3 : Option Addr) (c3 : Nat), e = .returned (Value.tuple #[vs a3 r.1.length c3, vi r.2]) ∧ Ext w0 w ∧ AllCl [Cl.sl cGTensor a3 c3 r.1] F w := by
 refine enterK Tryz.func14 rfl Tryz.ntmps14 rfl ?_
 have hI := Bun.start hF hc
 clear hc
 rw [m_ref53_SliceLocal] at h
 refine sr (l_box (v := (Value.agg #[vs a1 m1.Dims.length c1])) (cs := #[vs a1 m1.Dims.length c1]) hI gn rfl rfl et rfl ?_)
 clear hI; intro b1 c4 w1 hI
 obtain ⟨c5, hI⟩ := hI.relBox .z
 refine sac ?_
 refine sac ?_
 refine nk (c_seq (sr (sq (y_loadN (l := [vs a1 m1.Dims.length c1]) rfl et u24 rfl size_24 (hI.kblk (l := [vs a1 m1.Dims.length c1]) .z rfl).1) ?_)))
 refine sm ?_
 refine sm ?_
 refine sm ?_
 obtain ⟨r1, hx1, h⟩ := bnd_some h
 refine s_call gn rfl (r_callF (vs := [(Value.agg #[vs a1 m1.Dims.length c1]), vs a2 l1.length c2, vi axis1, vi along1]) rfl ok_35 ⟨et, ⟨et, ⟨et, ⟨et, trivial⟩⟩⟩⟩) (Calls.mono (c_ref53_axes (Dj F c5) w1 hI.lt m1 l1 axis1 along1 a1 c1 a2 c2 ⟨(hI.get (.s .z)), (hI.get (.s (.s .z))), trivial⟩ r1 hx1) ?_)
 rintro _ w2 ⟨rfl, hx2, hl1⟩
 refine ⟨_, rfl, ?_⟩
 replace hI := (hI.ext hx2)
 refine sa ?_
 refine nk (sr (sm ?_))
 refine sq (y_neq rfl et ev_const) ?_
 refine nk (cif h et (fun hb h => ?_) (fun hb h => ?_))
 ·refine sr (sm ?_)
  refine sac ?_
  refine sa ?_
  refine nk (c_ret ?_)
  have hI := hI.add (c := Cl.sl cGTensor none 0 ([] : List GTensor)) SlC.nil
  obtain rfl := some_inj h
  exact q_ret (vs := [vs none 0 0, vi r1]) Tryz.results14 ⟨ev_tmp rfl rfl, ⟨ev_tmp rfl rfl, trivial⟩⟩ ⟨none, 0, rfl, hI.ext0, hI.fin ⟨.z, trivial⟩⟩
 refine c_skip (k_same (c_seq (c_seq (c_drawX [] false (.c (0, .q) (.c (1, .q) (.c (2, .q) (.c (3, .q) (.c (4, .q) (.c (5, .q) (.c (6, .q) (.c (7, .q) (.c (8, .q) (.c (9, .q) (.c (10, .q) (.c (11, .q) (.c (12, .q) (.c (13, .q) .n)))))))))))))) hI (by kernel_rfl) (by kernel_rfl) ?_))))
 clear hI; intro w3 hI
 refine a_q rfl gn rfl (fun w' => y_move rfl et) ?_
 obtain ⟨e1, hx3, h⟩ := bnd_some h
 obtain ⟨ad1, cs1, hA1, hr1, hq1⟩ := hI.clat (.s (.s .z)) hx3
 obtain ⟨a4, c6, a5, c7, rfl, hf1, hf2⟩ := hr1
 have hI := hI.add (c := Cl.sl (cInt .i64) a4 c6 e1.Dims) hf1
 have hI := hI.add (c := Cl.sl cGVal a5 c7 e1.Vals) hf2
 refine a_q rfl gn rfl (fun w' => y_indexAddr rfl u25 size_41 et ev_const (lat_bd hx3) hA1) ?_
 refine a_q rfl gn rfl (fun w' => y_fieldAddr rfl et u41 rfl size_22 rfl) ?_
 refine a_read rfl gn rfl (fun w' hw' => (y_load1 (v := (vs a4 e1.Dims.length c6)) rfl et u22 rfl ((CA.part hq1 rfl).at_ (SX.any rfl hw')))) (by kernel_rfl) ?_
 refine a_q rfl gn rfl (fun w' => y_move rfl et) ?_
 obtain ⟨e2, hx4, h⟩ := bnd_some h
 obtain ⟨ad2, cs2, hA2, hr2, hq2⟩ := hI.clat (.s .z) hx4
 obtain rfl : cs2 = [vi e2] := hr2
 refine a_q rfl gn rfl (fun w' => y_indexAddr rfl u22 size_3 et et (lat_bd hx4) hA2) ?_
 refine a_read rfl gn rfl (fun w' hw' => (y_load1 (v := (vi e2)) rfl et u3 rfl (hq2.at_ (SX.any rfl hw')))) (by kernel_rfl) ?_
 refine a_q rfl gn rfl (fun w' => y_fieldAddr rfl et u24 rfl size_22 rfl) ?_
 refine a_read rfl gn rfl (fun w' hw' => (y_load1 (v := (vs a1 m1.Dims.length c1)) rfl et u22 rfl ((hI.kblk (l := [vs a1 m1.Dims.length c1]) (.s (.s .z)) rfl).at_ (SX.any rfl hw')))) (by kernel_rfl) ?_
 refine a_q rfl gn rfl (fun w' => y_move rfl et) ?_
 obtain ⟨e3, hx5, h⟩ := bnd_some h
 obtain ⟨ad3, cs3, hA3, hr3, hq3⟩ := hI.clat (.s (.s (.s .z))) hx5
 obtain rfl : cs3 = [vi e3] := hr3
 refine a_q rfl gn rfl (fun w' => y_indexAddr rfl u22 size_3 et et (lat_bd hx5) hA3) ?_
 refine a_read rfl gn rfl (fun w' hw' => (y_load1 (v := (vi e3)) rfl et u3 rfl (hq3.at_ (SX.any rfl hw')))) (by kernel_rfl) ?_
 obtain ⟨ho1, h⟩ := chk_some h
 refine a_q rfl gn rfl (fun w' => y_rem rfl et et ho1) ?_
 refine a_q rfl gn rfl (fun w' => y_neq rfl et ev_const) ?_
 refine a_nil ?_
 refine k_next (e := [(1, vs a2 l1.length c2), (2, vi axis1), (3, vi along1), (4, vp b1 0), (39, (vb (!decide (Int.tmod e2 e3 = 0))))]) ⟨rfl, rfl, rfl, rfl, rfl, trivial⟩ ?_
 refine cif h et (fun hb h => ?_) (fun hb h => ?_)
 ·refine sr (sac ?_)
  refine sac ?_
  refine nk (c_ret ?_)
  have hI := hI.add (c := Cl.sl cGTensor none 0 ([] : List GTensor)) SlC.nil
  obtain rfl := some_inj h
  exact q_ret (vs := [vs none 0 0, vi 15]) Tryz.results14 ⟨ev_tmp rfl rfl, ⟨ev_tmp rfl rfl, trivial⟩⟩ ⟨none, 0, rfl, hI.ext0, hI.fin ⟨.z, trivial⟩⟩
 refine c_skip (k_same (c_seq (c_drawX [] false (.c (0, .q) (.c (1, .q) (.c (2, .q) (.c (3, .q) (.c (4, .q) (.c (5, .q) (.c (6, .q) (.c (7, .q) (.c (8, .q) (.c (9, .q) (.c (10, .q) (.c (11, .q) (.c (12, .q) (.c (13, .q) .n)))))))))))))) hI (by kernel_rfl) (by kernel_rfl) ?_)))
 clear hI; intro w4 hI
 refine a_q rfl gn rfl (fun w' => y_move rfl et) ?_
 obtain ⟨e4, hx6, h⟩ := bnd_some h
 obtain ⟨ad4, cs4, hA4, hr4, hq4⟩ := hI.clat (.s (.s (.s (.s .z)))) hx6
 obtain ⟨a6, c8, a7, c9, rfl, hf3, hf4⟩ := hr4
 have hI := hI.add (c := Cl.sl (cInt .i64) a6 c8 e4.Dims) hf3
 have hI := hI.add (c := Cl.sl cGVal a7 c9 e4.Vals) hf4
 refine a_q rfl gn rfl (fun w' => y_indexAddr rfl u25 size_41 et ev_const (lat_bd hx6) hA4) ?_
 refine a_q rfl gn rfl (fun w' => y_fieldAddr rfl et u41 rfl size_22 rfl) ?_
 refine a_read rfl gn rfl (fun w' hw' => (y_load1 (v := (vs a6 e4.Dims.length c8)) rfl et u22 rfl ((CA.part hq4 rfl).at_ (SX.any rfl hw')))) (by kernel_rfl) ?_
 refine a_q rfl gn rfl (fun w' => y_move rfl et) ?_
 obtain ⟨e5, hx7, h⟩ := bnd_some h
 obtain ⟨ad5, cs5, hA5, hr5, hq5⟩ := hI.clat (.s .z) hx7
 obtain rfl : cs5 = [vi e5] := hr5
 refine a_q rfl gn rfl (fun w' => y_indexAddr rfl u22 size_3 et et (lat_bd hx7) hA5) ?_
 refine a_read rfl gn rfl (fun w' hw' => (y_load1 (v := (vi e5)) rfl et u3 rfl (hq5.at_ (SX.any rfl hw')))) (by kernel_rfl) ?_
 refine a_q rfl gn rfl (fun w' => y_fieldAddr rfl et u24 rfl size_22 rfl) ?_
 refine a_read rfl gn rfl (fun w' hw' => (y_load1 (v := (vs a1 m1.Dims.length c1)) rfl et u22 rfl ((hI.kblk (l := [vs a1 m1.Dims.length c1]) (.s (.s (.s (.s .z)))) rfl).at_ (SX.any rfl hw')))) (by kernel_rfl) ?_
 refine a_q rfl gn rfl (fun w' => y_move rfl et) ?_
 obtain ⟨e6, hx8, h⟩ := bnd_some h
 obtain ⟨ad6, cs6, hA6, hr6, hq6⟩ := hI.clat (.s (.s (.s (.s (.s .z))))) hx8
 obtain rfl : cs6 = [vi e6] := hr6
 refine a_q rfl gn rfl (fun w' => y_indexAddr rfl u22 size_3 et et (lat_bd hx8) hA6) ?_
 refine a_read rfl gn rfl (fun w' hw' => (y_load1 (v := (vi e6)) rfl et u3 rfl (hq6.at_ (SX.any rfl hw')))) (by kernel_rfl) ?_
 obtain ⟨ho2, h⟩ := chk_some h
 refine a_q rfl gn rfl (fun w' => y_quo rfl et et ho2) ?_
 refine a_q rfl gn rfl (fun w' => y_assign rfl et) ?_
 refine a_nil ?_
 refine k_same (sr (sac ?_))
 refine nk (c_seq (sr (sac ?_)))
 refine nk (c_block ?_)
 have hI := hI.nil cGTensor 41 none
 refine c_loop (α := Nat × (List GTensor) × Int × (Option Addr) × Nat) (fun x => fun w => ∃ C, Bun noM F w0 C w [MO.row cGTensor 41 (x.2.2.2.1) (x.2.2.2.2) (x.2.1)] [Cl.sl cGTensor a2 c2 l1, Cl.blk b1 24 #[vs a1 m1.Dims.length c1], Cl.sl (cInt .i64) a1 c1 m1.Dims] ∧ m_ref53_SliceLocal_l1 l1 m1 axis1 along1 e5 e6 (x.1) (x.2.1) (x.2.2.1) = some r) (fun x _ => x.1) (fun x => [(1, vs a2 l1.length c2), (2, vi axis1), (3, vi along1), (4, vp b1 0), (11, (vi (wi64 (Int.tdiv e5 e6)))), (12, vs (x.2.2.2.1) (x.2.1).length (x.2.2.2.2)), (13, vi (x.2.2.1))]) (fu, ([] : List GTensor), 0, none, 0) ⟨_, hI.arr (.c .z .n) ⟨(.s (.s (.s (.s (.s (.s .z)))))), (.s (.s (.s (.s .z)))), (.s (.s (.s (.s (.s .z))))), trivial⟩, h⟩ ⟨rfl, rfl, rfl, rfl, rfl, rfl, rfl, trivial⟩ ?_
 clear h hI; rintro ⟨fuel1, out1, i1, a8, c10⟩ w5 ⟨c11, hI, h⟩
 dsimp only at hI h
 rcases fuel1 with _ | fuel1
 ·rw [m_ref53_SliceLocal_l1] at h; cases h
 rw [m_ref53_SliceLocal_l1] at h
 refine c_sub (e := [(1, vs a2 l1.length c2), (2, vi axis1), (3, vi along1), (4, vp b1 0), (11, (vi (wi64 (Int.tdiv e5 e6)))), (12, vs a8 out1.length c10), (13, vi i1)]) ⟨rfl, rfl, rfl, rfl, rfl, rfl, rfl, trivial⟩ ?_
 refine c_seq (sr (sm ?_))
 refine sm ?_
 refine sq (y_lenl rfl u25 et) ?_
 refine sq (y_lss rfl et et) ?_
 refine nk (cif h et (fun hb h => ?_) (fun hb h => ?_))
 ·refine c_skip (k_same (c_seq (c_block (sr (sq (y_loadN (l := [vs a1 m1.Dims.length c1]) rfl et u24 rfl size_24 (hI.kblk (l := [vs a1 m1.Dims.length c1]) (.s .z) rfl).1) ?_)))))
  refine sm ?_
  obtain ⟨r2, hx9, h⟩ := bnd_some h
  refine s_call gn rfl (r_callF (vs := [(Value.agg #[vs a1 m1.Dims.length c1]), vi i1]) rfl ok_41 ⟨et, ⟨et, trivial⟩⟩) (Calls.mono (c_ref51_Coordinates (Dj F c11) w5 hI.lt m1 i1 a1 c1 ⟨(hI.get (.s (.s .z))), trivial⟩ r2 hx9) ?_)
  rintro _ w6 ⟨a9, c12, rfl, hx10, hl2⟩
  refine ⟨_, rfl, ?_⟩
  replace hI := (hI.ext hx10).adds hl2
  refine sm ?_
  refine sq (y_extract rfl et rfl) ?_
  refine sq (y_extract rfl et rfl) ?_
  refine sa ?_
  refine sa ?_
  refine nk (c_seq ?_)
  obtain ⟨e7, hx11, h⟩ := bnd_some h
  obtain ⟨e8, hx12, h⟩ := bnd_some h
  obtain ⟨e9, hx13, h⟩ := bnd_some h
  obtain ⟨r3, hx14, h⟩ := bnd_some h
  refine c_drawX [23] false (.c (0, .q) (.c (1, .q) (.c (2, .q) (.c (3, .q) (.c (4, .q) (.c (5, .q) (.c (6, .q) (.c (7, .q) (.c (8, .q) (.c (9, .q) (.c (10, .q) (.c (11, .q) (.c (12, .q) (.c (13, .q) (.c (14, .q) (.c (15, .q) (.c (16, .q) (.c (17, .q) (.two 18 (.c (19, .q) (.c (20, .q) (.c (21, .q) (.c (22, .s) tr_ref53_SliceLocal_3_0)))) 22 (.c (18, .s) (.c (19, .q) (.c (20, .q) (.c (21, .q) tr_ref53_SliceLocal_3_0))))))))))))))))))))))) hI (by kernel_rfl) (by kernel_rfl) ?_
  clear hI; intro w11 hI
  refine a_join (α := (Option Addr) × Nat × (Option Addr) × Nat × (Option Addr) × Nat × (Option Addr) × Nat × Nat × NP) (T := tr_ref53_SliceLocal_3_0) (fun x => [(1, vs a2 l1.length c2), (2, vi axis1), (3, vi along1), (4, vp b1 0), (11, (vi (wi64 (Int.tdiv e5 e6)))), (12, vs a8 out1.length c10), (13, vi i1), (14, vs a9 r2.1.length c12), (15, vb r2.2), (16, (Value.pointer (some ⟨(x.2.2.2.2.2.2.2.2.1), 0, none⟩))), (53, vi i1), (54, vs a2 l1.length c2), (55, vi (l1.length : Int)), (56, (vb (decide (i1 < (l1.length : Int))))), (59, (Value.tuple #[vs a9 r2.1.length c12, vb r2.2])), (60, (Value.agg #[vs a1 m1.Dims.length c1])), (61, vi i1), (62, (Value.tuple #[vs a9 r2.1.length c12, vb r2.2])), (63, vs a9 r2.1.length c12), (64, vb r2.2), (65, (Value.tuple #[(Value.agg (ATensor r3.1 (x.2.2.2.2.1) (x.2.2.2.2.2.1) (x.2.2.2.2.2.2.1) (x.2.2.2.2.2.2.2.1))), vi r3.2])), (66, vs a2 l1.length c2), (67, vi i1), (69, (Value.agg (ATensor e7 (x.1) (x.2.1) (x.2.2.1) (x.2.2.2.1)))), (70, vi along1), (71, vs a9 r2.1.length c12), (72, vi axis1), (74, vi e8), (75, (vi (wi64 (Int.tdiv e5 e6)))), (76, (vi (wi64 (e8 * (wi64 (Int.tdiv e5 e6)))))), (77, vs a9 r2.1.length c12), (78, vi axis1), (80, vi e9), (81, (vi (wi64 (e9 + 1)))), (82, (vi (wi64 (Int.tdiv e5 e6)))), (83, (vi (wi64 ((wi64 (e9 + 1)) * (wi64 (Int.tdiv e5 e6)))))), (84, (Value.tuple #[(Value.agg (ATensor r3.1 (x.2.2.2.2.1) (x.2.2.2.2.2.1) (x.2.2.2.2.2.2.1) (x.2.2.2.2.2.2.2.1))), vi r3.2])), (85, (Value.agg (ATensor r3.1 (x.2.2.2.2.1) (x.2.2.2.2.2.1) (x.2.2.2.2.2.2.1) (x.2.2.2.2.2.2.2.1)))), (86, vi r3.2)]) (fun x w => Bun noM F w0 (x.2.2.2.2.2.2.2.2.2) w [MO.box (x.2.2.2.2.2.2.2.2.1) 41 ZTensor, MO.row cGTensor 41 a8 c10 out1] [Cl.sl (cInt .i64) (x.2.2.2.2.1) (x.2.2.2.2.2.1) r3.1.Dims, Cl.sl cGVal (x.2.2.2.2.2.2.1) (x.2.2.2.2.2.2.2.1) r3.1.Vals, Cl.sl cGVal (x.2.2.1) (x.2.2.2.1) e7.Vals, Cl.sl (cInt .i64) (x.1) (x.2.1) e7.Dims, Cl.sl (cInt .i64) a9 c12 r2.1, Cl.sl cGTensor a2 c2 l1, Cl.blk b1 24 #[vs a1 m1.Dims.length c1], Cl.sl (cInt .i64) a1 c1 m1.Dims]) (fun x w => SN [23] (DM false F (x.2.2.2.2.2.2.2.2.2)) w) ?_ ?_
  ·clear hI; rintro ⟨a10, c13, a11, c14, a12, c15, a13, c16, b2, c19⟩ w10 hI
   try dsimp only at hI ⊢
   unfold tr_ref53_SliceLocal_3_0
   refine a_turn (F := F) (C := c19) rfl rfl ?_
   refine la_store (new := (lTensor r3.1 a12 c15 a13 c16)) (cs' := (ATensor r3.1 a12 c15 a13 c16)) hI .z rfl gn rfl rfl et et rfl size_41 rfl rfl rfl ?_
   clear hI; intro c18 w9 hI
   refine a_q rfl gn rfl (fun w' => y_assign rfl et) ?_
   refine a_nil ?_
   refine k_next (e := [(1, vs a2 l1.length c2), (2, vi axis1), (3, vi along1), (4, vp b1 0), (11, (vi (wi64 (Int.tdiv e5 e6)))), (12, vs a8 out1.length c10), (13, vi i1), (16, vp b2 0)]) ⟨rfl, rfl, rfl, rfl, rfl, rfl, rfl, rfl, trivial⟩ ?_
   refine c_region rfl ?_
   refine sm ?_
   refine sq (y_loadN (l := (lTensor r3.1 a12 c15 a13 c16)) rfl et u41 rfl size_41 (CellsAt.of_blk (hI.blk .z) rfl)) ?_
   refine l_lit (c := cGTensor) (xs := ([r3.1] : List GTensor)) (vs := [(0, (Value.agg (ATensor r3.1 a12 c15 a13 c16)))]) (cs := (ATensor r3.1 a12 c15 a13 c16)) (css := [(lTensor r3.1 a12 c15 a13 c16)]) hI gn rfl rfl u25 info_41 rfl ⟨rfl, et, trivial⟩ (by kernel_rfl) ⟨⟨a12, c15, a13, c16, rfl, hI.get .z, hI.get (.s .z)⟩, trivial⟩ rfl rfl rfl ?_
   clear hI; intro b3 c20 w12 hI
   obtain ⟨zs1, hx16, h⟩ := bnd_some h
   refine l_append (xs := out1) (ys := ([r3.1] : List GTensor)) hI (.s (.s .z)) (hI.rd .z) hx16 gn rfl rfl u25 info_41 rfl rfl et et ?_
   clear hI; intro a14 c21 c22 w13 hI
   refine sa ?_
   refine nk (c_region rfl ?_)
   refine sm ?_
   refine sq (y_add rfl et ev_const) ?_
   refine sa ?_
   refine s_nil ?_
   exact k_loop (fuel1, zs1, wi64 (i1 + 1), a14, c21) ⟨rfl, rfl, rfl, rfl, rfl, rfl, rfl, trivial⟩ ⟨_, hI.arr (.c (.s (.s .z)) .n) ⟨(.s (.s (.s (.s (.s .z))))), (.s (.s (.s (.s (.s (.s .z)))))), (.s (.s (.s (.s (.s (.s (.s .z))))))), trivial⟩, h⟩ (Nat.lt_succ_self _)
  intro hk_tr_ref53_SliceLocal_3_0
  refine a_q rfl gn rfl (fun w' => y_move rfl et) ?_
  refine a_q rfl gn rfl (fun w' => y_move rfl et) ?_
  obtain ⟨ad7, cs7, hA7, hr7, hq7⟩ := hI.clat (.s .z) hx11
  obtain ⟨a10, c13, a11, c14, rfl, hf5, hf6⟩ := hr7
  have hI := hI.add (c := Cl.sl (cInt .i64) a10 c13 e7.Dims) hf5
  have hI := hI.add (c := Cl.sl cGVal a11 c14 e7.Vals) hf6
  refine a_q rfl gn rfl (fun w' => y_indexAddr rfl u25 size_41 et et (lat_bd hx11) hA7) ?_
  refine a_read rfl gn rfl (fun w' hw' => (y_loadN (l := (lTensor e7 a10 c13 a11 c14)) rfl et u41 rfl size_41 (hq7.at_ (SX.any rfl hw')))) (by kernel_rfl) ?_
  refine a_q rfl gn rfl (fun w' => y_move rfl et) ?_
  refine a_q rfl gn rfl (fun w' => y_move rfl et) ?_
  refine a_q rfl gn rfl (fun w' => y_move rfl et) ?_
  obtain ⟨ad8, cs8, hA8, hr8, hq8⟩ := hI.clat (.s (.s .z)) hx12
  obtain rfl : cs8 = [vi e8] := hr8
  refine a_q rfl gn rfl (fun w' => y_indexAddr rfl u22 size_3 et et (lat_bd hx12) hA8) ?_
  refine a_read rfl gn rfl (fun w' hw' => (y_load1 (v := (vi e8)) rfl et u3 rfl (hq8.at_ (SX.any rfl hw')))) (by kernel_rfl) ?_
  refine a_q rfl gn rfl (fun w' => y_move rfl et) ?_
  refine a_q rfl gn rfl (fun w' => y_mul rfl et et) ?_
  refine a_q rfl gn rfl (fun w' => y_move rfl et) ?_
  refine a_q rfl gn rfl (fun w' => y_move rfl et) ?_
  obtain ⟨ad9, cs9, hA9, hr9, hq9⟩ := hI.clat (.s (.s .z)) hx13
  obtain rfl : cs9 = [vi e9] := hr9
  refine a_q rfl gn rfl (fun w' => y_indexAddr rfl u22 size_3 et et (lat_bd hx13) hA9) ?_
  refine a_read rfl gn rfl (fun w' hw' => (y_load1 (v := (vi e9)) rfl et u3 rfl (hq9.at_ (SX.any rfl hw')))) (by kernel_rfl) ?_
  refine a_q rfl gn rfl (fun w' => y_add rfl et ev_const) ?_
  refine a_q rfl gn rfl (fun w' => y_move rfl et) ?_
  refine a_q rfl gn rfl (fun w' => y_mul rfl et et) ?_
  refine a_two ?_ ?_
  ·skip
   refine la_call rfl gn rfl (r_callF (vs := [(Value.agg (ATensor e7 a10 c13 a11 c14)), vi along1, (vi (wi64 (e8 * (wi64 (Int.tdiv e5 e6))))), (vi (wi64 ((wi64 (e9 + 1)) * (wi64 (Int.tdiv e5 e6)))))]) rfl ok_42 ⟨et, ⟨et, ⟨et, ⟨et, trivial⟩⟩⟩⟩) (Calls.mono (c_ref12_Slice (Dj F c11) w11 hI.lt e7 along1 (wi64 (e8 * (wi64 (Int.tdiv e5 e6)))) (wi64 ((wi64 (e9 + 1)) * (wi64 (Int.tdiv e5 e6)))) a10 c13 a11 c14 ⟨(hI.get (.s .z)), (hI.get .z), trivial⟩ r3 hx14) ?_)
   rintro _ w7 ⟨a12, c15, a13, c16, rfl, hx15, hl3⟩
   refine ⟨_, rfl, hx15, ?_⟩
   replace hI := (hI.ext hx15).adds hl3
   refine a_q rfl gn rfl (fun w' => y_move rfl et) ?_
   refine a_q rfl gn rfl (fun w' => y_extract rfl et rfl) ?_
   refine a_q rfl gn rfl (fun w' => y_extract rfl et rfl) ?_
   refine la_alloc (cs := ZTensor) hI rfl gn rfl rfl zero_41 rfl ?_
   clear hI; intro b2 c17 w8 hI
   exact a_sub (hk_tr_ref53_SliceLocal_3_0 (a10, c13, a11, c14, a12, c15, a13, c16, b2, c17) _ (hI.arr (.c .z (.c .z .n)) ⟨.z, (.s .z), (.s (.s .z)), (.s (.s (.s .z))), (.s (.s (.s (.s .z)))), (.s (.s (.s (.s (.s .z))))), (.s (.s (.s (.s (.s (.s .z)))))), (.s (.s (.s (.s (.s (.s (.s .z))))))), trivial⟩)) ⟨rfl, rfl, rfl, rfl, rfl, rfl, rfl, rfl, rfl, rfl, rfl, rfl, rfl, rfl, rfl, rfl, rfl, rfl, rfl, rfl, rfl, rfl, rfl, rfl, rfl, rfl, rfl, rfl, rfl, rfl, rfl, rfl, rfl, rfl, rfl, rfl, rfl, rfl, rfl, trivial⟩
  refine la_alloc (cs := ZTensor) hI rfl gn rfl rfl zero_41 rfl ?_
  clear hI; intro b2 c17 w8 hI
  refine la_call rfl gn rfl (r_callF (vs := [(Value.agg (ATensor e7 a10 c13 a11 c14)), vi along1, (vi (wi64 (e8 * (wi64 (Int.tdiv e5 e6))))), (vi (wi64 ((wi64 (e9 + 1)) * (wi64 (Int.tdiv e5 e6)))))]) rfl ok_42 ⟨et, ⟨et, ⟨et, ⟨et, trivial⟩⟩⟩⟩) (Calls.mono (c_ref12_Slice (Dj F c17) w8 hI.lt e7 along1 (wi64 (e8 * (wi64 (Int.tdiv e5 e6)))) (wi64 ((wi64 (e9 + 1)) * (wi64 (Int.tdiv e5 e6)))) a10 c13 a11 c14 ⟨(hI.get (.s .z)), (hI.get .z), trivial⟩ r3 hx14) ?_)
  rintro _ w7 ⟨a12, c15, a13, c16, rfl, hx15, hl3⟩
  refine ⟨_, rfl, hx15, ?_⟩
  replace hI := (hI.ext hx15).adds hl3
  refine a_q rfl gn rfl (fun w' => y_move rfl et) ?_
  refine a_q rfl gn rfl (fun w' => y_extract rfl et rfl) ?_
  refine a_q rfl gn rfl (fun w' => y_extract rfl et rfl) ?_
  exact a_sub (hk_tr_ref53_SliceLocal_3_0 (a10, c13, a11, c14, a12, c15, a13, c16, b2, c17) _ (hI.arr (.c .z (.c .z .n)) ⟨.z, (.s .z), (.s (.s .z)), (.s (.s (.s .z))), (.s (.s (.s (.s .z)))), (.s (.s (.s (.s (.s .z))))), (.s (.s (.s (.s (.s (.s .z)))))), (.s (.s (.s (.s (.s (.s (.s .z))))))), trivial⟩)) ⟨rfl, rfl, rfl, rfl, rfl, rfl, rfl, rfl, rfl, rfl, rfl, rfl, rfl, rfl, rfl, rfl, rfl, rfl, rfl, rfl, rfl, rfl, rfl, rfl, rfl, rfl, rfl, rfl, rfl, rfl, rfl, rfl, rfl, rfl, rfl, rfl, rfl, rfl, rfl, trivial⟩
 refine c_exit ?_
 refine k_in ?_
 refine k_same (sr (sm ?_))
 refine sa ?_
 refine sac ?_
 refine nk (c_ret ?_)
 obtain ⟨c23, hI⟩ := hI.release .z
 obtain rfl := some_inj h
 exact q_ret (vs := [vs a8 out1.length c10, vi 0]) Tryz.results14 ⟨ev_tmp rfl rfl, ⟨ev_tmp rfl rfl, trivial⟩⟩ ⟨a8, c10, rfl, hI.ext0, hI.fin ⟨.z, trivial⟩⟩
theorem c_collective_AllToAll (F : NP) (w0 : World) (hF : ∀ k, F k → k < w0.heap.size) (m1 : GMesh) (l1 : List GTensor) (axis1 : Int) (from1 : Int) (to1 : Int) (a1 : Option Addr) (c1 : Nat) (a2 : Option Addr) (c2 : Nat) (hc : AllCl [Cl.sl (cInt .i64) a1 c1 m1.Dims, Cl.sl cGTensor a2 c2 l1] F w0) (r : List GTensor × Int)
  (h : m_collective_AllToAll m1 l1 axis1 from1 to1 = some r) :
  Calls Tryz.prog 22 #[(Value.agg #[vs a1 m1.Dims.length c1]), vs a2 l1.length c2, vi axis1, vi from1, vi to1] w0 fun e w => ∃ (a3 : Option Addr) (c3 : Nat), e = .returned (Value.tuple #[vs a3 r.1.length c3, vi r.2]) ∧ Ext w0 w ∧ AllCl [Cl.sl cGTensor a3 c3 r.1] F w := by
 refine enterK Tryz.func22 rfl Tryz.ntmps22 rfl ?_
 have hI := Bun.start hF hc
 clear hc
 rw [m_collective_AllToAll] at h
 refine sr (l_box (v := (Value.agg #[vs a1 m1.Dims.length c1])) (cs := #[vs a1 m1.Dims.length c1]) hI gn rfl rfl et rfl ?_)
 clear hI; intro b1 c4 w1 hI
 obtain ⟨c5, hI⟩ := hI.relBox .z
 refine sac ?_
 refine sac ?_
 refine nk (sr (sq (y_loadN (l := [vs a1 m1.Dims.length c1]) rfl et u24 rfl size_24 (hI.kblk (l := [vs a1 m1.Dims.length c1]) .z rfl).1) ?_))
 refine sm ?_
 refine sm ?_
 refine sm ?_
 obtain ⟨r1, hx1, h⟩ := bnd_some h
 refine s_call gn rfl (r_callF (vs := [(Value.agg #[vs a1 m1.Dims.length c1]), vs a2 l1.length c2, vi axis1, vi from1]) rfl ok_11 ⟨et, ⟨et, ⟨et, ⟨et, trivial⟩⟩⟩⟩) (Calls.mono (c_collective_AllGather (Dj F c5) w1 hI.lt m1 l1 axis1 from1 a1 c1 a2 c2 ⟨(hI.get (.s .z)), (hI.get (.s (.s .z))), trivial⟩ r1 hx1) ?_)
 rintro _ w2 ⟨a4, c6, rfl, hx2, hl1⟩
 refine ⟨_, rfl, ?_⟩
 replace hI := (hI.ext hx2).adds hl1
 refine sm ?_
 refine sq (y_extract rfl et rfl) ?_
 refine sq (y_extract rfl et rfl) ?_
 refine sa ?_
 refine sa ?_
 refine nk (c_seq (sr (sm ?_)))
 refine sq (y_neq rfl et ev_const) ?_
 refine nk (cif h et (fun hb h => ?_) (fun hb h => ?_))
 ·refine sr (sm ?_)
  refine sac ?_
  refine sa ?_
  refine nk (c_ret ?_)
  have hI := hI.add (c := Cl.sl cGTensor none 0 ([] : List GTensor)) SlC.nil
  obtain rfl := some_inj h
  exact q_ret (vs := [vs none 0 0, vi r1.2]) Tryz.results22 ⟨ev_tmp rfl rfl, ⟨ev_tmp rfl rfl, trivial⟩⟩ ⟨none, 0, rfl, hI.ext0, hI.fin ⟨.z, trivial⟩⟩
 refine c_skip (k_same (sr (sq (y_loadN (l := [vs a1 m1.Dims.length c1]) rfl et u24 rfl size_24 (hI.kblk (l := [vs a1 m1.Dims.length c1]) (.s .z) rfl).1) ?_)))
 refine sm ?_
 refine sm ?_
 refine sm ?_
 obtain ⟨r2, hx3, h⟩ := bnd_some h
 refine s_call gn rfl (r_callF (vs := [(Value.agg #[vs a1 m1.Dims.length c1]), vs a4 r1.1.length c6, vi axis1, vi to1]) rfl ok_13 ⟨et, ⟨et, ⟨et, ⟨et, trivial⟩⟩⟩⟩) (Calls.mono (c_collective_SliceLocal (Dj F c5) w2 hI.lt m1 r1.1 axis1 to1 a1 c1 a4 c6 ⟨(hI.get (.s (.s .z))), (hI.get .z), trivial⟩ r2 hx3) ?_)
 rintro _ w3 ⟨a5, c7, rfl, hx4, hl2⟩
 refine ⟨_, rfl, ?_⟩
 replace hI := (hI.ext hx4).adds hl2
 refine sq (y_extract rfl et rfl) ?_
 refine sq (y_extract rfl et rfl) ?_
 refine sa ?_
 refine sa ?_
 refine s_nil ?_
 refine k_next (e := [(10, vs a5 r2.1.length c7), (11, vi r2.2)]) ⟨rfl, rfl, trivial⟩ ?_
 refine c_ret ?_
 obtain rfl := some_inj h
 exact q_ret (vs := [vs a5 r2.1.length c7, vi r2.2]) Tryz.results22 ⟨ev_tmp rfl rfl, ⟨ev_tmp rfl rfl, trivial⟩⟩ ⟨a5, c7, rfl, hI.ext0, hI.fin ⟨.z, trivial⟩⟩
theorem c_ref53_AllToAll (F : NP) (w0 : World) (hF : ∀ k, F k → k < w0.heap.size) (m1 : GMesh) (l1 : List GTensor) (axis1 : Int) (from1 : Int) (to1 : Int) (a1 : Option Addr) (c1 : Nat) (a2 : Option Addr) (c2 : Nat) (hc : AllCl [Cl.sl (cInt .i64) a1 c1 m1.Dims, Cl.sl cGTensor a2 c2 l1] F w0) (r : List GTensor × Int)
  (h : m_ref53_AllToAll m1 l1 axis1 from1 to1 = some r) :
  Calls Tryz.prog 23 #[(Value.agg #[vs a1 m1.Dims.length c1]), vs a2 l1.length c2, vi axis1, vi from1, vi to1] w0 fun e w => ∃ (a3 : Option Addr) (c3 : Nat), e = .returned (Value.tuple #[vs a3 r.1.length c3, vi r.2]) ∧ Ext w0 w ∧ AllCl [Cl.sl cGTensor a3 c3 r.1] F w := by
 refine enterK Tryz.func23 rfl Tryz.ntmps23 rfl ?_
 have hI := Bun.start hF hc
 clear hc
 rw [m_ref53_AllToAll] at h
 refine sr (l_box (v := (Value.agg #[vs a1 m1.Dims.length c1])) (cs := #[vs a1 m1.Dims.length c1]) hI gn rfl rfl et rfl ?_)
 clear hI; intro b1 c4 w1 hI
 obtain ⟨c5, hI⟩ := hI.relBox .z
 refine sac ?_
 refine sac ?_
 refine nk (sr (sq (y_loadN (l := [vs a1 m1.Dims.length c1]) rfl et u24 rfl size_24 (hI.kblk (l := [vs a1 m1.Dims.length c1]) .z rfl).1) ?_))
 refine sm ?_
 refine sm ?_
 refine sm ?_
 obtain ⟨r1, hx1, h⟩ := bnd_some h
 refine s_call gn rfl (r_callF (vs := [(Value.agg #[vs a1 m1.Dims.length c1]), vs a2 l1.length c2, vi axis1, vi from1]) rfl ok_12 ⟨et, ⟨et, ⟨et, ⟨et, trivial⟩⟩⟩⟩) (Calls.mono (c_ref53_AllGather (Dj F c5) w1 hI.lt m1 l1 axis1 from1 a1 c1 a2 c2 ⟨(hI.get (.s .z)), (hI.get (.s (.s .z))), trivial⟩ r1 hx1) ?_)
 rintro _ w2 ⟨a4, c6, rfl, hx2, hl1⟩
 refine ⟨_, rfl, ?_⟩
 replace hI := (hI.ext hx2).adds hl1
 refine sm ?_
 refine sq (y_extract rfl et rfl) ?_
 refine sq (y_extract rfl et rfl) ?_
 refine sa ?_
 refine sa ?_
 refine nk (c_seq (sr (sm ?_)))
 refine sq (y_neq rfl et ev_const) ?_
 refine nk (cif h et (fun hb h => ?_) (fun hb h => ?_))
 ·refine sr (sm ?_)
  refine sac ?_
  refine sa ?_
  refine nk (c_ret ?_)
  have hI := hI.add (c := Cl.sl cGTensor none 0 ([] : List GTensor)) SlC.nil
  obtain rfl := some_inj h
  exact q_ret (vs := [vs none 0 0, vi r1.2]) Tryz.results23 ⟨ev_tmp rfl rfl, ⟨ev_tmp rfl rfl, trivial⟩⟩ ⟨none, 0, rfl, hI.ext0, hI.fin ⟨.z, trivial⟩⟩
 refine c_skip (k_same (sr (sq (y_loadN (l := [vs a1 m1.Dims.length c1]) rfl et u24 rfl size_24 (hI.kblk (l := [vs a1 m1.Dims.length c1]) (.s .z) rfl).1) ?_)))
 refine sm ?_
 refine sm ?_
 refine sm ?_
 obtain ⟨r2, hx3, h⟩ := bnd_some h
 refine s_call gn rfl (r_callF (vs := [(Value.agg #[vs a1 m1.Dims.length c1]), vs a4 r1.1.length c6, vi axis1, vi to1]) rfl ok_14 ⟨et, ⟨et, ⟨et, ⟨et, trivial⟩⟩⟩⟩) (Calls.mono (c_ref53_SliceLocal (Dj F c5) w2 hI.lt m1 r1.1 axis1 to1 a1 c1 a4 c6 ⟨(hI.get (.s (.s .z))), (hI.get .z), trivial⟩ r2 hx3) ?_)
 rintro _ w3 ⟨a5, c7, rfl, hx4, hl2⟩
 refine ⟨_, rfl, ?_⟩
 replace hI := (hI.ext hx4).adds hl2
 refine sq (y_extract rfl et rfl) ?_
 refine sq (y_extract rfl et rfl) ?_
 refine sa ?_
 refine sa ?_
 refine s_nil ?_
 refine k_next (e := [(10, vs a5 r2.1.length c7), (11, vi r2.2)]) ⟨rfl, rfl, trivial⟩ ?_
 refine c_ret ?_
 obtain rfl := some_inj h
 exact q_ret (vs := [vs a5 r2.1.length c7, vi r2.2]) Tryz.results23 ⟨ev_tmp rfl rfl, ⟨ev_tmp rfl rfl, trivial⟩⟩ ⟨a5, c7, rfl, hI.ext0, hI.fin ⟨.z, trivial⟩⟩
theorem c_collective_checkSpec (F : NP) (w0 : World) (hF : ∀ k, F k → k < w0.heap.size) (m1 : GMesh) (rank1 : Int) (s1 : List Int) (a1 : Option Addr) (c1 : Nat) (a2 : Option Addr) (c2 : Nat) (hc : AllCl [Cl.sl (cInt .i64) a1 c1 m1.Dims, Cl.sl (cInt .i64) a2 c2 s1] F w0) (r : Bool)
  (h : m_collective_checkSpec m1 rank1 s1 = some r) :
  Calls Tryz.prog 81 #[(Value.agg #[vs a1 m1.Dims.length c1]), vi rank1, vs a2 s1.length c2] w0 fun e w => e = .returned (vb r) ∧ Ext w0 w ∧ AllCl [] F w := by
 refine enterK Tryz.func81 rfl Tryz.ntmps81 rfl ?_
 have hI := Bun.start hF hc
 clear hc
 rw [m_collective_checkSpec] at h
 refine sr (l_box (v := (Value.agg #[vs a1 m1.Dims.length c1])) (cs := #[vs a1 m1.Dims.length c1]) hI gn rfl rfl et rfl ?_)
 clear hI; intro b1 c3 w1 hI
 obtain ⟨c4, hI⟩ := hI.relBox .z
 refine sac ?_
 refine nk (c_seq (sr (sm ?_)))
 refine sq (y_lenl rfl u42 et) ?_
 refine sm ?_
 refine sq (y_neq rfl et et) ?_
 refine sm ?_
 refine s_gval (g_false rfl rfl rfl rfl) rfl (fun hc => y_move rfl et) ?_
 obtain ⟨r1, hx1, h⟩ := bnd_some h
 replace hx1 := gd_some hx1
 refine s_gcallU (v := (vb r1)) (g_false rfl rfl rfl rfl) rfl (fun hc => (r_callF (vs := [vs a2 s1.length c2]) rfl ok_61 ⟨(ev_gv et hc), trivial⟩)) (fun hc => (c_collective_plain (Dj F c4) w1 hI.lt s1 a2 c2 ⟨(hI.get (.s (.s .z))), trivial⟩ r1 (hx1 hc)).mono fun _ _ k => ⟨k.1, k.2.1⟩) ?_
 intro w2 hx2; replace hI := hI.ext hx2
 refine s_gval (g_false rfl rfl rfl rfl) rfl (fun hc => y_not rfl (ev_gv et hc)) ?_
 refine sq (y_or rfl et et) ?_
 refine nk (cif h et (fun hb h => ?_) (fun hb h => ?_))
 ·refine sr (sac ?_)
  refine nk (c_ret ?_)
  obtain rfl := some_inj h
  exact q_ret (vs := [vb false]) Tryz.results81 ⟨ev_tmp rfl rfl, trivial⟩ (fq hI trivial)
 refine c_skip (k_same (c_seq (sr (sm ?_))))
 refine sq (y_lenl rfl u42 et) ?_
 refine sq (y_move rfl ev_const) ?_
 refine nk (c_block (c_loop (α := Nat × Int) (fun x => fun w => ∃ C, Bun noM F w0 C w [] [Cl.blk b1 24 #[vs a1 m1.Dims.length c1], Cl.sl (cInt .i64) a1 c1 m1.Dims, Cl.sl (cInt .i64) a2 c2 s1] ∧ m_collective_checkSpec_l1 s1 m1 (x.1) (x.2) = some r) (fun x _ => x.1) (fun x => [(3, vp b1 0), (18, vs a2 s1.length c2), (19, vi (s1.length : Int)), (20, vi (x.2))]) (fu, 0) ⟨_, hI.arr .n ⟨.z, (.s .z), (.s (.s .z)), trivial⟩, h⟩ ⟨rfl, rfl, rfl, rfl, trivial⟩ ?_))
 clear h hI; rintro ⟨fuel1, i1⟩ w3 ⟨c5, hI, h⟩
 dsimp only at hI h
 rcases fuel1 with _ | fuel1
 ·rw [m_collective_checkSpec_l1] at h; cases h
 rw [m_collective_checkSpec_l1] at h
 refine c_sub (e := [(3, vp b1 0), (18, vs a2 s1.length c2), (19, vi (s1.length : Int)), (20, vi i1)]) ⟨rfl, rfl, rfl, rfl, trivial⟩ ?_
 refine sr (sq (y_lss rfl et et) ?_)
 refine nk (c_seq (cif h et (fun hb h => ?_) (fun hb h => ?_)))
 ·refine c_skip (k_same (c_seq (c_block (sr ?_))))
  obtain ⟨e1, hx3, h⟩ := bnd_some h
  obtain ⟨ad1, cs1, hA1, hr1, hq1⟩ := hI.clat (.s (.s .z)) hx3
  obtain rfl : cs1 = [vi e1] := hr1
  refine sq (y_indexAddr rfl u42 size_3 et et (lat_bd hx3) hA1) ?_
  refine sq (y_load1 (v := (vi e1)) rfl et u3 rfl hq1.1) ?_
  refine sa ?_
  refine nk (sr (sm ?_))
  refine sq (y_fieldAddr rfl et u24 rfl size_22 rfl) ?_
  refine sq (y_load1 (v := (vs a1 m1.Dims.length c1)) rfl et u22 rfl (hI.kblk (l := [vs a1 m1.Dims.length c1]) .z rfl).1) ?_
  refine sq (y_lenl rfl u22 et) ?_
  refine sq (y_geq rfl et et) ?_
  refine nk (cif h et (fun hb h => ?_) (fun hb h => ?_))
  ·refine sr (sac ?_)
   refine nk (c_ret ?_)
   obtain rfl := some_inj h
   exact q_ret (vs := [vb false]) Tryz.results81 ⟨ev_tmp rfl rfl, trivial⟩ (fq hI trivial)
  refine c_skip (k_same (c_region rfl ?_))
  refine sq (y_add rfl et ev_const) ?_
  refine sm ?_
  refine s_nil ?_
  exact k_loop (fuel1, wi64 (i1 + 1)) ⟨rfl, rfl, rfl, rfl, trivial⟩ ⟨_, hI.arr .n ⟨.z, (.s .z), (.s (.s .z)), trivial⟩, h⟩ (Nat.lt_succ_self _)
 refine c_exit ?_
 refine k_in ?_
 refine k_same (sr (sac ?_))
 refine nk (c_ret ?_)
 obtain rfl := some_inj h
 exact q_ret (vs := [vb true]) Tryz.results81 ⟨ev_tmp rfl rfl, trivial⟩ (fq hI trivial)
theorem c_collective_checkReshard (F : NP) (w0 : World) (hF : ∀ k, F k → k < w0.heap.size) (m1 : GMesh) (l1 : List GTensor) (from1 : List Int) (to1 : List Int) (a1 : Option Addr) (c1 : Nat) (a2 : Option Addr) (c2 : Nat) (a3 : Option Addr) (c3 : Nat) (a4 : Option Addr) (c4 : Nat) (hc : AllCl [Cl.sl (cInt .i64) a1 c1 m1.Dims, Cl.sl cGTensor a2 c2 l1, Cl.sl (cInt .i64) a3 c3 from1, Cl.sl (cInt .i64) a4 c4 to1] F w0) (r : Int)
  (h : m_collective_checkReshard m1 l1 from1 to1 = some r) :
  Calls Tryz.prog 52 #[(Value.agg #[vs a1 m1.Dims.length c1]), vs a2 l1.length c2, vs a3 from1.length c3, vs a4 to1.length c4] w0 fun e w => e = .returned (vi r) ∧ Ext w0 w ∧ AllCl [] F w := by
 refine enterK Tryz.func52 rfl Tryz.ntmps52 rfl ?_
 have hI := Bun.start hF hc
 clear hc
 rw [m_collective_checkReshard] at h
 refine sr (l_box (v := (Value.agg #[vs a1 m1.Dims.length c1])) (cs := #[vs a1 m1.Dims.length c1]) hI gn rfl rfl et rfl ?_)
 clear hI; intro b1 c5 w1 hI
 obtain ⟨c6, hI⟩ := hI.relBox .z
 refine sac ?_
 refine nk (c_seq (sr (sq (y_loadN (l := [vs a1 m1.Dims.length c1]) rfl et u24 rfl size_24 (hI.kblk (l := [vs a1 m1.Dims.length c1]) .z rfl).1) ?_)))
 refine sm ?_
 obtain ⟨r1, hx1, h⟩ := bnd_some h
 refine s_call gn rfl (r_callF (vs := [(Value.agg #[vs a1 m1.Dims.length c1]), vs a2 l1.length c2]) rfl ok_43 ⟨et, ⟨et, trivial⟩⟩) (Calls.mono (c_collective_check (Dj F c6) w1 hI.lt m1 l1 a1 c1 a2 c2 ⟨(hI.get (.s .z)), (hI.get (.s (.s .z))), trivial⟩ r1 hx1) ?_)
 rintro _ w2 ⟨rfl, hx2, hl1⟩
 refine ⟨_, rfl, ?_⟩
 replace hI := (hI.ext hx2)
 refine sa ?_
 refine nk (sr (sm ?_))
 refine sq (y_neq rfl et ev_const) ?_
 refine nk (cif h et (fun hb h => ?_) (fun hb h => ?_))
 ·refine sr (sm ?_)
  refine sa ?_
  refine nk (c_ret ?_)
  obtain rfl := some_inj h
  exact q_ret (vs := [vi r1]) Tryz.results52 ⟨ev_tmp rfl rfl, trivial⟩ (fq hI trivial)
 refine c_skip (k_same (c_seq (c_seq (c_drawX [] false (.c (0, .q) (.c (1, .q) (.c (2, .q) (.c (3, .q) (.c (4, .q) (.c (5, .q) (.c (6, .q) (.c (7, .s) (.c (8, .q) (.c (9, .q) (.c (10, .q) (.c (11, .q) (.c (12, .q) (.c (13, .q) (.c (14, .q) (.c (15, .q) (.c (16, .q) (.c (17, .s) (.c (18, .q) (.c (19, .q) .n)))))))))))))))))))) hI (by kernel_rfl) (by kernel_rfl) ?_))))
 clear hI; intro w3 hI
 refine a_read rfl gn rfl (fun w' hw' => (y_loadN (l := [vs a1 m1.Dims.length c1]) rfl et u24 rfl size_24 ((hI.kblk (l := [vs a1 m1.Dims.length c1]) .z rfl).at_ (SX.any rfl hw')))) (by kernel_rfl) ?_
 refine a_q rfl gn rfl (fun w' => y_move rfl et) ?_
 obtain ⟨e1, hx3, h⟩ := bnd_some h
 obtain ⟨ad1, cs1, hA1, hr1, hq1⟩ := hI.clat (.s (.s .z)) hx3
 obtain ⟨a5, c7, a6, c8, rfl, hf1, hf2⟩ := hr1
 have hI := hI.add (c := Cl.sl (cInt .i64) a5 c7 e1.Dims) hf1
 have hI := hI.add (c := Cl.sl cGVal a6 c8 e1.Vals) hf2
 refine a_q rfl gn rfl (fun w' => y_indexAddr rfl u25 size_41 et ev_const (lat_bd hx3) hA1) ?_
 refine a_q rfl gn rfl (fun w' => y_fieldAddr rfl et u41 rfl size_22 rfl) ?_
 refine a_read rfl gn rfl (fun w' hw' => (y_load1 (v := (vs a5 e1.Dims.length c7)) rfl et u22 rfl ((CA.part hq1 rfl).at_ (SX.any rfl hw')))) (by kernel_rfl) ?_
 refine a_q rfl gn rfl (fun w' => y_lenl rfl u22 et) ?_
 refine a_q rfl gn rfl (fun w' => y_move rfl et) ?_
 obtain ⟨r2, hx4, h⟩ := bnd_some h
 refine la_call rfl gn rfl (r_callF (vs := [(Value.agg #[vs a1 m1.Dims.length c1]), vi (e1.Dims.length : Int), vs a3 from1.length c3]) rfl ok_81 ⟨et, ⟨et, ⟨et, trivial⟩⟩⟩) (Calls.mono (c_collective_checkSpec (Dj F c6) w3 hI.lt m1 (e1.Dims.length : Int) from1 a1 c1 a3 c3 ⟨(hI.get (.s (.s (.s .z)))), (hI.get (.s (.s (.s (.s (.s .z)))))), trivial⟩ r2 hx4) ?_)
 rintro _ w4 ⟨rfl, hx5, hl2⟩
 refine ⟨_, rfl, hx5, ?_⟩
 replace hI := (hI.ext hx5)
 refine a_q rfl gn rfl (fun w' => y_not rfl et) ?_
 refine a_q rfl gn rfl (fun w' => y_move rfl et) ?_
 refine a_gread rfl (g_false rfl rfl rfl rfl) rfl (fun hc => fun w' hw' => (y_loadN (l := [vs a1 m1.Dims.length c1]) rfl et u24 rfl size_24 ((hI.kblk (l := [vs a1 m1.Dims.length c1]) (.s (.s .z)) rfl).at_ (SX.any rfl hw')))) (by kernel_rfl) ?_
 refine a_gval rfl (g_false rfl rfl rfl rfl) rfl (fun hc => fun w' => (y_move rfl et)) ?_
 obtain ⟨e2, hx6, h⟩ := bnd_some h
 replace hx6 := gd_some hx6
 obtain ⟨ad2, cs2, hq2⟩ := hI.gclat (.s (.s (.s (.s .z)))) hx6
 obtain ⟨a7, c9, a8, c10, hq3⟩ : ∃ (a7 : Option Addr) (c9 : Nat) (a8 : Option Addr) (c10 : Nat), (!(!r2)) = true → (a2 = some ad2 ∧ cs2 = (lTensor e2 a7 c9 a8 c10) ∧ CA (Dj F c6) w4 (ad2.add (Int.toNat 0 * 7)) cs2 ∧ SlC (cInt .i64) (Dj F c6) w4 a7 c9 e2.Dims ∧ SlC cGVal (Dj F c6) w4 a8 c10 e2.Vals) := by
  by_cases hc : (!(!r2)) = true
  ·obtain ⟨k1, k2, k3⟩ := hq2 hc; obtain ⟨a7, c9, a8, c10, rfl, hf3, hf4⟩ := k2; exact ⟨a7, c9, a8, c10, fun _ => ⟨k1, rfl, k3, hf3, hf4⟩⟩
  exact ⟨default, default, default, default, fun k => absurd k hc⟩
 clear hq2
 have hI := hI.add (c := Cl.gsl (!(!r2)) (cInt .i64) a7 c9 e2.Dims) (fun hc => (hq3 hc).2.2.2.1)
 have hI := hI.add (c := Cl.gsl (!(!r2)) cGVal a8 c10 e2.Vals) (fun hc => (hq3 hc).2.2.2.2)
 have hq4 : (!(!r2)) = true → CA (Dj F c6) w4 (ad2.add (Int.toNat 0 * 7)) (lTensor e2 a7 c9 a8 c10) := fun hc => by have k := hq3 hc; have e : cs2 = _ := k.2.1; rw [← e]; exact k.2.2.1
 refine a_gval rfl (g_false rfl rfl rfl rfl) rfl (fun hc => fun w' => (y_indexAddr rfl u25 size_41 (ev_gv et hc) ev_const (lat_bd (hx6 hc)) (hq3 hc).1)) ?_
 refine a_gval rfl (g_false rfl rfl rfl rfl) rfl (fun hc => fun w' => (y_fieldAddr rfl (ev_gv et hc) u41 rfl size_22 rfl)) ?_
 refine a_gread rfl (g_false rfl rfl rfl rfl) rfl (fun hc => fun w' hw' => (y_load1 (v := (vs a7 e2.Dims.length c9)) rfl (ev_gv et hc) u22 rfl ((CA.part (hq4 hc) rfl).at_ (SX.any rfl hw')))) (by kernel_rfl) ?_
 refine a_gval rfl (g_false rfl rfl rfl rfl) rfl (fun hc => fun w' => (y_lenl rfl u22 (ev_gv et hc))) ?_
 refine a_gval rfl (g_false rfl rfl rfl rfl) rfl (fun hc => fun w' => (y_move rfl et)) ?_
 obtain ⟨r3, hx7, h⟩ := bnd_some h
 replace hx7 := gd_some hx7
 refine la_gcallU (v := (vb r3)) rfl (g_false rfl rfl rfl rfl) rfl (fun hc => (r_callF (vs := [(Value.agg #[vs a1 m1.Dims.length c1]), vi (e2.Dims.length : Int), vs a4 to1.length c4]) rfl ok_81 ⟨(ev_gv et hc), ⟨(ev_gv et hc), ⟨(ev_gv et hc), trivial⟩⟩⟩)) (fun hc => (c_collective_checkSpec (Dj F c6) w4 hI.lt m1 (e2.Dims.length : Int) to1 a1 c1 a4 c4 ⟨(hI.get (.s (.s (.s (.s (.s .z)))))), (hI.get (.s (.s (.s (.s (.s (.s (.s (.s .z))))))))), trivial⟩ r3 (hx7 hc)).mono fun _ _ k => ⟨k.1, k.2.1⟩) ?_
 intro w5 hx8; replace hI := hI.ext hx8
 refine a_gval rfl (g_false rfl rfl rfl rfl) rfl (fun hc => fun w' => (y_not rfl (ev_gv et hc))) ?_
 refine a_q rfl gn rfl (fun w' => y_or rfl et et) ?_
 refine a_nil ?_
 refine k_next (e := [(1, vs a2 l1.length c2), (2, vs a3 from1.length c3), (3, vs a4 to1.length c4), (4, vp b1 0), (41, (vb ((!r2) || (!r3))))]) ⟨rfl, rfl, rfl, rfl, rfl, trivial⟩ ?_
 refine cif h et (fun hb h => ?_) (fun hb h => ?_)
 ·refine sr (sac ?_)
  refine nk (c_ret ?_)
  obtain rfl := some_inj h
  exact q_ret (vs := [vi 24]) Tryz.results52 ⟨ev_tmp rfl rfl, trivial⟩ (fq hI trivial)
 refine c_skip (k_same (sr (sm ?_)))
 obtain ⟨e3, hx9, h⟩ := bnd_some h
 obtain ⟨ad3, cs3, hA3, hr3, hq5⟩ := hI.clat (.s (.s (.s (.s (.s (.s .z)))))) hx9
 obtain ⟨a9, c11, a10, c12, rfl, hf5, hf6⟩ := hr3
 have hI := hI.add (c := Cl.sl (cInt .i64) a9 c11 e3.Dims) hf5
 have hI := hI.add (c := Cl.sl cGVal a10 c12 e3.Vals) hf6
 refine sq (y_indexAddr rfl u25 size_41 et ev_const (lat_bd hx9) hA3) ?_
 refine sq (y_fieldAddr rfl et u41 rfl size_22 rfl) ?_
 refine sq (y_load1 (v := (vs a9 e3.Dims.length c11)) rfl et u22 rfl (CA.part hq5 rfl).1) ?_
 obtain ⟨zs1, hx10, h⟩ := bnd_some h
 replace hI := hI.nil (cInt .i64) 3 none
 refine l_append (xs := ([] : List Int)) (ys := e3.Dims) hI .z (hI.crd (.s .z)) hx10 gn rfl rfl u22 info_3 rfl rfl ev_const et ?_
 clear hI; intro a11 c13 c14 w6 hI
 refine sa ?_
 refine nk (c_join (α := (List Int) × (Option Addr) × Nat) (fun _ => ⟨96, []⟩) (fun x => [(3, vs a4 to1.length c4), (4, vp b1 0), (10, vs (x.2.1) (x.1).length (x.2.2))]) (fun x => fun w => ∃ C, Bun noM F w0 C w [MO.row (cInt .i64) 3 (x.2.1) (x.2.2) (x.1)] [Cl.sl (cInt .i64) a4 c4 to1, Cl.blk b1 24 #[vs a1 m1.Dims.length c1], Cl.sl (cInt .i64) a1 c1 m1.Dims] ∧ m_collective_checkReshard_j1 to1 m1 (x.1) = some r) ?_ ?_)
 ·clear h hI; rintro ⟨whole1, a12, c15⟩ w7 ⟨c16, hI, h⟩
  try dsimp only at hI h
  rw [m_collective_checkReshard_j1] at h
  refine c_sub (e := [(3, vs a4 to1.length c4), (4, vp b1 0), (10, vs a12 whole1.length c15)]) ⟨rfl, rfl, rfl, trivial⟩ ?_
  refine c_seq (sr (sm ?_))
  obtain ⟨r4, hx11, h⟩ := bnd_some h
  refine s_call gn rfl (r_callF (vs := [vs a12 whole1.length c15]) rfl ok_82 ⟨et, trivial⟩) (Calls.mono (c_shape_Validate noM w7 (fun _ k => k.elim) whole1 a12 c15 ⟨hI.lend .z, trivial⟩ r4 hx11) ?_)
  rintro _ w8 ⟨rfl, hx12, hl4⟩
  refine ⟨_, rfl, ?_⟩
  replace hI := (hI.ext hx12)
  refine sa ?_
  refine nk (sr (sm ?_))
  refine sq (y_neq rfl et ev_const) ?_
  refine nk (cif h et (fun hb h => ?_) (fun hb h => ?_))
  ·refine sr (sm ?_)
   refine sa ?_
   refine nk (c_ret ?_)
   obtain rfl := some_inj h
   exact q_ret (vs := [vi r4]) Tryz.results52 ⟨ev_tmp rfl rfl, trivial⟩ (fq hI trivial)
  refine c_skip (k_same (c_seq (sr (sm ?_))))
  refine sq (y_lenl rfl u42 et) ?_
  refine sq (y_move rfl ev_const) ?_
  refine nk (c_block (c_loop (α := Nat × Int) (fun x => fun w => ∃ C, Bun noM F w0 C w [MO.row (cInt .i64) 3 a12 c15 whole1] [Cl.blk b1 24 #[vs a1 m1.Dims.length c1], Cl.sl (cInt .i64) a1 c1 m1.Dims, Cl.sl (cInt .i64) a4 c4 to1] ∧ m_collective_checkReshard_l1 to1 whole1 m1 (x.1) (x.2) = some r) (fun x _ => x.1) (fun x => [(4, vp b1 0), (10, vs a12 whole1.length c15), (73, vs a4 to1.length c4), (74, vi (to1.length : Int)), (75, vi (x.2))]) (fu, 0) ⟨_, hI.arr (.c .z .n) ⟨(.s .z), (.s (.s .z)), .z, trivial⟩, h⟩ ⟨rfl, rfl, rfl, rfl, rfl, trivial⟩ ?_))
  clear h hI; rintro ⟨fuel1, i1⟩ w9 ⟨c17, hI, h⟩
  dsimp only at hI h
  rcases fuel1 with _ | fuel1
  ·rw [m_collective_checkReshard_l1] at h; cases h
  rw [m_collective_checkReshard_l1] at h
  refine c_sub (e := [(4, vp b1 0), (10, vs a12 whole1.length c15), (73, vs a4 to1.length c4), (74, vi (to1.length : Int)), (75, vi i1)]) ⟨rfl, rfl, rfl, rfl, rfl, trivial⟩ ?_
  refine sr (sq (y_lss rfl et et) ?_)
  refine nk (c_seq (cif h et (fun hb h => ?_) (fun hb h => ?_)))
  ·refine c_skip (k_same (c_seq (c_block (sr (sm ?_)))))
   obtain ⟨e4, hx13, h⟩ := bnd_some h
   obtain ⟨ad4, cs4, hA4, hr4, hq6⟩ := hI.clat (.s (.s .z)) hx13
   obtain rfl : cs4 = [vi e4] := hr4
   refine sq (y_indexAddr rfl u42 size_3 et et (lat_bd hx13) hA4) ?_
   refine sq (y_load1 (v := (vi e4)) rfl et u3 rfl hq6.1) ?_
   refine sa ?_
   refine sa ?_
   refine nk (c_seq (c_drawX [] false (.c (0, .q) (.c (1, .q) (.c (2, .q) (.c (3, .q) (.c (4, .q) (.c (5, .q) (.c (6, .q) (.c (7, .q) (.c (8, .q) (.c (9, .q) (.c (10, .q) (.c (11, .q) (.c (12, .q) (.c (13, .q) (.c (14, .q) .n))))))))))))))) hI (by kernel_rfl) (by kernel_rfl) ?_))
   clear hI; intro w10 hI
   refine a_q rfl gn rfl (fun w' => y_move rfl et) ?_
   refine a_q rfl gn rfl (fun w' => y_geq rfl et ev_const) ?_
   refine a_q rfl gn rfl (fun w' => y_move rfl et) ?_
   refine a_gval rfl (g_true rfl rfl rfl rfl) rfl (fun hc => fun w' => (y_move rfl et)) ?_
   refine a_gval rfl (g_true rfl rfl rfl rfl) rfl (fun hc => fun w' => (y_move rfl et)) ?_
   obtain ⟨e5, hx14, h⟩ := bnd_some h
   replace hx14 := gd_some hx14
   obtain ⟨ad5, cs5, hq7⟩ := hI.golat .z hx14
   have hq8 : (decide (0 ≤ e4)) = true → CA noM w10 (ad5.add (Int.toNat i1 * 1)) [vi e5] := fun hc => by have k := hq7 hc; have e : cs5 = _ := k.2.1; rw [← e]; exact k.2.2
   refine a_gval rfl (g_true rfl rfl rfl rfl) rfl (fun hc => fun w' => (y_indexAddr rfl u22 size_3 (ev_gv et hc) (ev_gv et hc) (lat_bd (hx14 hc)) (hq7 hc).1)) ?_
   refine a_gread rfl (g_true rfl rfl rfl rfl) rfl (fun hc => fun w' hw' => (y_load1 (v := (vi e5)) rfl (ev_gv et hc) u3 rfl ((hq8 hc).at_ (SX.any rfl hw')))) (by kernel_rfl) ?_
   refine a_gval rfl (g_true rfl rfl rfl rfl) rfl (fun hc => fun w' => (y_fieldAddr rfl et u24 rfl size_22 rfl)) ?_
   refine a_gread rfl (g_true rfl rfl rfl rfl) rfl (fun hc => fun w' hw' => (y_load1 (v := (vs a1 m1.Dims.length c1)) rfl (ev_gv et hc) u22 rfl ((hI.kblk (l := [vs a1 m1.Dims.length c1]) .z rfl).at_ (SX.any rfl hw')))) (by kernel_rfl) ?_
   refine a_gval rfl (g_true rfl rfl rfl rfl) rfl (fun hc => fun w' => (y_move rfl et)) ?_
   obtain ⟨e6, hx15, h⟩ := bnd_some h
   replace hx15 := gd_some hx15
   obtain ⟨ad6, cs6, hq9⟩ := hI.gclat (.s .z) hx15
   have hq10 : (decide (0 ≤ e4)) = true → CA (Dj F c17) w10 (ad6.add (Int.toNat e4 * 1)) [vi e6] := fun hc => by have k := hq9 hc; have e : cs6 = _ := k.2.1; rw [← e]; exact k.2.2
   refine a_gval rfl (g_true rfl rfl rfl rfl) rfl (fun hc => fun w' => (y_indexAddr rfl u22 size_3 (ev_gv et hc) (ev_gv et hc) (lat_bd (hx15 hc)) (hq9 hc).1)) ?_
   refine a_gread rfl (g_true rfl rfl rfl rfl) rfl (fun hc => fun w' hw' => (y_load1 (v := (vi e6)) rfl (ev_gv et hc) u3 rfl ((hq10 hc).at_ (SX.any rfl hw')))) (by kernel_rfl) ?_
   obtain ⟨ho1, h⟩ := chk_some h
   refine a_gval rfl (g_true rfl rfl rfl rfl) rfl (fun hc => fun w' => (y_rem rfl (ev_gv et hc) (ev_gv et hc) (ho1 hc))) ?_
   refine a_gval rfl (g_true rfl rfl rfl rfl) rfl (fun hc => fun w' => (y_neq rfl (ev_gv et hc) ev_const)) ?_
   refine a_q rfl gn rfl (fun w' => y_and rfl et et) ?_
   refine a_nil ?_
   refine k_same (cif h et (fun hb h => ?_) (fun hb h => ?_))
   ·refine sr (sac ?_)
    refine s_nil ?_
    refine k_next (e := [(8, vi 15)]) ⟨rfl, trivial⟩ ?_
    refine c_ret ?_
    obtain rfl := some_inj h
    exact q_ret (vs := [vi 15]) Tryz.results52 ⟨ev_tmp rfl rfl, trivial⟩ (fq hI trivial)
   refine c_skip (k_same (c_region rfl ?_))
   refine sq (y_add rfl et ev_const) ?_
   refine sm ?_
   refine s_nil ?_
   exact k_loop (fuel1, wi64 (i1 + 1)) ⟨rfl, rfl, rfl, rfl, rfl, trivial⟩ ⟨_, hI.arr (.c .z .n) ⟨.z, (.s .z), (.s (.s .z)), trivial⟩, h⟩ (Nat.lt_succ_self _)
  refine c_exit ?_
  refine k_in ?_
  refine k_same (sr (sac ?_))
  refine nk (c_ret ?_)
  obtain rfl := some_inj h
  exact q_ret (vs := [vi 0]) Tryz.results52 ⟨ev_tmp rfl rfl, trivial⟩ (fq hI trivial)
 refine sr (sm ?_)
 refine sq (y_lenl rfl u42 et) ?_
 refine sq (y_move rfl ev_const) ?_
 refine nk (c_block (c_loop (α := Nat × (List Int) × Int × (Option Addr) × Nat) (fun x => fun w => ∃ C, Bun noM F w0 C w [MO.row (cInt .i64) 3 (x.2.2.2.1) (x.2.2.2.2) (x.2.1)] [Cl.sl (cInt .i64) a4 c4 to1, Cl.blk b1 24 #[vs a1 m1.Dims.length c1], Cl.sl (cInt .i64) a1 c1 m1.Dims, Cl.sl (cInt .i64) a3 c3 from1] ∧ m_collective_checkReshard_l2 from1 m1 to1 (x.1) (x.2.1) (x.2.2.1) = some r) (fun x _ => x.1) (fun x => [(3, vs a4 to1.length c4), (4, vp b1 0), (10, vs (x.2.2.2.1) (x.2.1).length (x.2.2.2.2)), (47, vs a3 from1.length c3), (48, vi (from1.length : Int)), (49, vi (x.2.2.1))]) (fu, zs1, 0, a11, c13) ⟨_, hI.arr (.c .z .n) ⟨(.s (.s (.s (.s (.s (.s (.s (.s (.s (.s .z)))))))))), (.s (.s (.s (.s (.s (.s .z)))))), (.s (.s (.s (.s (.s (.s (.s .z))))))), (.s (.s (.s (.s (.s (.s (.s (.s (.s .z))))))))), trivial⟩, h⟩ ⟨rfl, rfl, rfl, rfl, rfl, rfl, trivial⟩ ?_))
 clear h hI; rintro ⟨fuel2, whole2, i2, a13, c18⟩ w11 ⟨c19, hI, h⟩
 dsimp only at hI h
 rcases fuel2 with _ | fuel2
 ·rw [m_collective_checkReshard_l2] at h; cases h
 rw [m_collective_checkReshard_l2] at h
 refine c_sub (e := [(3, vs a4 to1.length c4), (4, vp b1 0), (10, vs a13 whole2.length c18), (47, vs a3 from1.length c3), (48, vi (from1.length : Int)), (49, vi i2)]) ⟨rfl, rfl, rfl, rfl, rfl, rfl, trivial⟩ ?_
 refine sr (sq (y_lss rfl et et) ?_)
 refine nk (c_seq (cif h et (fun hb h => ?_) (fun hb h => ?_)))
 ·refine c_skip (k_same (c_join (α := (List Int) × (Option Addr) × Nat) (fun _ => ⟨96, []⟩) (fun x => [(3, vs a4 to1.length c4), (4, vp b1 0), (10, vs (x.2.1) (x.1).length (x.2.2)), (47, vs a3 from1.length c3), (48, vi (from1.length : Int)), (49, vi i2)]) (fun x => fun w => ∃ C, Bun noM F w0 C w [MO.row (cInt .i64) 3 (x.2.1) (x.2.2) (x.1)] [Cl.sl (cInt .i64) a4 c4 to1, Cl.blk b1 24 #[vs a1 m1.Dims.length c1], Cl.sl (cInt .i64) a1 c1 m1.Dims, Cl.sl (cInt .i64) a3 c3 from1] ∧ m_collective_checkReshard_j2 (m_collective_checkReshard_l2 from1 m1 to1 fuel2) i2 (x.1) = some r) ?_ ?_))
  ·clear h hI; rintro ⟨whole3, a14, c20⟩ w12 ⟨c21, hI, h⟩
   try dsimp only at hI h
   rw [m_collective_checkReshard_j2] at h
   refine c_sub (e := [(3, vs a4 to1.length c4), (4, vp b1 0), (10, vs a14 whole3.length c20), (47, vs a3 from1.length c3), (48, vi (from1.length : Int)), (49, vi i2)]) ⟨rfl, rfl, rfl, rfl, rfl, rfl, trivial⟩ ?_
   refine c_region rfl ?_
   refine sq (y_add rfl et ev_const) ?_
   refine sm ?_
   refine s_nil ?_
   exact k_loop (fuel2, whole3, wi64 (i2 + 1), a14, c20) ⟨rfl, rfl, rfl, rfl, rfl, rfl, trivial⟩ ⟨_, hI.arr (.c .z .n) ⟨.z, (.s .z), (.s (.s .z)), (.s (.s (.s .z))), trivial⟩, h⟩ (Nat.lt_succ_self _)
  refine c_block (sr (sm ?_))
  obtain ⟨e7, hx16, h⟩ := bnd_some h
  obtain ⟨ad7, cs7, hA7, hr7, hq11⟩ := hI.clat (.s (.s (.s .z))) hx16
  obtain rfl : cs7 = [vi e7] := hr7
  refine sq (y_indexAddr rfl u42 size_3 et et (lat_bd hx16) hA7) ?_
  refine sq (y_load1 (v := (vi e7)) rfl et u3 rfl hq11.1) ?_
  refine sa ?_
  refine sa ?_
  refine nk (sr (sm ?_))
  refine sq (y_geq rfl et ev_const) ?_
  refine nk (cif h et (fun hb h => ?_) (fun hb h => ?_))
  ·refine c_drawX [11] false (.c (0, .q) (.c (1, .q) (.c (2, .q) (.c (3, .q) (.c (4, .q) (.c (5, .q) (.c (6, .q) (.c (7, .q) (.c (8, .q) (.c (9, .q) (.c (10, .q) (.c (11, .s) .n)))))))))))) hI (by kernel_rfl) (by kernel_rfl) ?_
   clear hI; intro w13 hI
   refine a_q rfl gn rfl (fun w' => y_move rfl et) ?_
   refine a_q rfl gn rfl (fun w' => y_move rfl et) ?_
   obtain ⟨e8, hx17, h⟩ := bnd_some h
   obtain ⟨ad8, cs8, hA8, hr8, hq12⟩ := hI.olat .z hx17
   obtain rfl : cs8 = [vi e8] := hr8
   refine a_q rfl gn rfl (fun w' => y_indexAddr rfl u22 size_3 et et (lat_bd hx17) hA8) ?_
   refine a_read rfl gn rfl (fun w' hw' => (y_load1 (v := (vi e8)) rfl et u3 rfl (hq12.at_ (SX.any rfl hw')))) (by kernel_rfl) ?_
   refine a_q rfl gn rfl (fun w' => y_fieldAddr rfl et u24 rfl size_22 rfl) ?_
   refine a_read rfl gn rfl (fun w' hw' => (y_load1 (v := (vs a1 m1.Dims.length c1)) rfl et u22 rfl ((hI.kblk (l := [vs a1 m1.Dims.length c1]) (.s .z) rfl).at_ (SX.any rfl hw')))) (by kernel_rfl) ?_
   refine a_q rfl gn rfl (fun w' => y_move rfl et) ?_
   obtain ⟨e9, hx18, h⟩ := bnd_some h
   obtain ⟨ad9, cs9, hA9, hr9, hq13⟩ := hI.clat (.s (.s .z)) hx18
   obtain rfl : cs9 = [vi e9] := hr9
   refine a_q rfl gn rfl (fun w' => y_indexAddr rfl u22 size_3 et et (lat_bd hx18) hA9) ?_
   refine a_read rfl gn rfl (fun w' hw' => (y_load1 (v := (vi e9)) rfl et u3 rfl (hq13.at_ (SX.any rfl hw')))) (by kernel_rfl) ?_
   refine a_q rfl gn rfl (fun w' => y_mul rfl et et) ?_
   obtain ⟨ho2, h⟩ := chk_some h
   obtain ⟨ad10, hA10⟩ := hI.addr .z ho2
   refine a_q rfl gn rfl (fun w' => y_indexAddr rfl u22 size_3 et et ho2 hA10) ?_
   refine a_turn (F := F) (C := c19) rfl rfl ?_
   refine la_storeRow (p := Int.toNat i2) (new := [(vi (wi64 (e8 * e9)))]) (off := 0) (x' := wi64 (e8 * e9)) hI .z rfl gn rfl rfl (by have := ho2; omega) hA10 rfl et et rfl size_3 rfl (by show 0 + 1 ≤ 1; omega) (fun _ cs0 _ hr0 => by rw [spl_full (by have e := Cod.len _ hr0; exact e)]; exact rfl) ?_
   clear hI; intro c22 w14 hI
   refine a_nil ?_
   exact k_join (whole2.set (Int.toNat i2) (wi64 (e8 * e9)), a13, c18) ⟨rfl, rfl, (lookset rfl), rfl, rfl, rfl, trivial⟩ ⟨_, hI.arr (.c .z .n) ⟨.z, (.s .z), (.s (.s .z)), (.s (.s (.s .z))), trivial⟩, h⟩ rfl
  exact c_skip (k_join (whole2, a13, c18) ⟨rfl, rfl, rfl, rfl, rfl, rfl, trivial⟩ ⟨_, hI.arr (.c .z .n) ⟨.z, (.s .z), (.s (.s .z)), (.s (.s (.s .z))), trivial⟩, h⟩ rfl)
 refine c_exit ?_
 refine k_in ?_
 exact k_join (whole2, a13, c18) ⟨rfl, rfl, rfl, trivial⟩ ⟨_, hI.arr (.c .z .n) ⟨.z, (.s .z), (.s (.s .z)), trivial⟩, h⟩ rfl
def tr_tensor_New_1_1 : Tr := (.c (7, .s) .n)
def tr_tensor_New_1_0 : Tr := (.c (4, .s) (.c (5, .q) tr_tensor_New_1_1))
theorem c_tensor_New (F : NP) (w0 : World) (hF : ∀ k, F k → k < w0.heap.size) (t1 : GType) (dims1 : List Int) (vals1 : List GVal) (a1 : Option Addr) (c1 : Nat) (a2 : Option Addr) (c2 : Nat) (hc : AllCl [Cl.sl (cInt .i64) a1 c1 dims1, Cl.sl cGVal a2 c2 vals1] F w0) (r : GTensor × Int)
  (h : m_tensor_New t1 dims1 vals1 = some r) :
  Calls Tryz.prog 53 #[(Value.agg (AType t1)), vs a1 dims1.length c1, vs a2 vals1.length c2] w0 fun e w => ∃ (a3 : Option Addr) (c3 : Nat) (a4 : Option Addr) (c4 : Nat), e = .returned (Value.tuple #[(Value.agg (ATensor r.1 a3 c3 a4 c4)), vi r.2]) ∧ Ext w0 w ∧ AllCl [Cl.sl (cInt .i64) a3 c3 r.1.Dims, Cl.sl cGVal a4 c4 r.1.Vals] F w := by
 refine enterK Tryz.func53 rfl Tryz.ntmps53 rfl ?_
 have hI := Bun.start hF hc
 clear hc
 rw [m_tensor_New] at h
 refine sr (l_box (v := (Value.agg (AType t1))) (cs := (AType t1)) hI gn rfl rfl et rfl ?_)
 clear hI; intro b1 c5 w1 hI
 obtain ⟨c6, hI⟩ := hI.relBox .z
 refine l_alloc (cs := ZTensor) hI gn rfl rfl zero_41 rfl ?_
 clear hI; intro b2 c7 w2 hI
 refine sac ?_
 refine nk (c_seq ?_)
 obtain ⟨zs1, hx1, h⟩ := bnd_some h
 obtain ⟨zs2, hx2, h⟩ := bnd_some h
 refine c_drawX [7] false (.c (0, .q) (.c (1, .q) (.c (3, .q) (.two 2 (.two 4 (.c (5, .q) (.c (6, .s) tr_tensor_New_1_1)) 6 tr_tensor_New_1_0) 6 (.c (2, .s) tr_tensor_New_1_0))))) hI (by kernel_rfl) (by kernel_rfl) ?_
 clear hI; intro w9 hI
 refine a_join (α := (Option Addr) × Nat × (Option Addr) × Nat × Nat × NP) (T := tr_tensor_New_1_1) (fun x => [(0, (Value.agg (AType t1))), (1, vs a1 dims1.length c1), (2, vs a2 vals1.length c2), (3, vp b1 0), (6, vp b2 0), (7, vi 0), (8, (Value.pointer (some ⟨(x.2.2.2.2.1), 0, none⟩))), (10, (Value.agg (AType t1))), (11, vs a1 dims1.length c1), (12, vs (x.1) zs1.length (x.2.1)), (13, vs a2 vals1.length c2), (14, vs (x.2.2.1) zs2.length (x.2.2.2.1)), (15, (Value.agg #[vi t1.Kind, vi t1.Bits, vi t1.Frac, vi t1.Round, vi t1.Over, vs (x.1) zs1.length (x.2.1), vs (x.2.2.1) zs2.length (x.2.2.2.1)]))]) (fun x w => Bun noM F w0 (x.2.2.2.2.2) w [MO.row cGVal 68 (x.2.2.1) (x.2.2.2.1) zs2, MO.box (x.2.2.2.2.1) 41 ZTensor, MO.row (cInt .i64) 3 (x.1) (x.2.1) zs1, MO.box b2 41 ZTensor] [Cl.blk b1 38 (AType t1), Cl.sl (cInt .i64) a1 c1 dims1, Cl.sl cGVal a2 c2 vals1]) (fun x w => SN [7] (DM false F (x.2.2.2.2.2)) w) ?_ ?_
 ·clear hI; rintro ⟨a5, c8, a6, c10, b3, c15⟩ w8 hI
  try dsimp only at hI ⊢
  unfold tr_tensor_New_1_1
  refine a_turn (F := F) (C := c15) rfl rfl ?_
  refine la_store (new := [vi t1.Kind, vi t1.Bits, vi t1.Frac, vi t1.Round, vi t1.Over, vs a5 zs1.length c8, vs a6 zs2.length c10]) (cs' := #[vi t1.Kind, vi t1.Bits, vi t1.Frac, vi t1.Round, vi t1.Over, vs a5 zs1.length c8, vs a6 zs2.length c10]) hI (.s .z) rfl gn rfl rfl et et rfl size_41 rfl rfl rfl ?_
  clear hI; intro c13 w6 hI
  refine a_nil ?_
  refine k_same (c_seq (sr (sq (y_loadN (l := [vi t1.Kind, vi t1.Bits, vi t1.Frac, vi t1.Round, vi t1.Over, vs a5 zs1.length c8, vs a6 zs2.length c10]) rfl et u41 rfl size_41 (CellsAt.of_blk (hI.blk (.s .z)) rfl)) ?_)))
  obtain ⟨r1, hx3, h⟩ := bnd_some h
  refine s_call gn rfl (r_callF (vs := [(Value.agg #[vi t1.Kind, vi t1.Bits, vi t1.Frac, vi t1.Round, vi t1.Over, vs a5 zs1.length c8, vs a6 zs2.length c10])]) rfl ok_71 ⟨et, trivial⟩) (Calls.mono (c_tensor_Validate noM w6 (fun _ k => k.elim) (⟨t1, zs1, zs2⟩ : GTensor) a5 c8 a6 c10 ⟨hI.lend (.s (.s .z)), hI.lend .z, trivial⟩ r1 hx3) ?_)
  rintro _ w10 ⟨rfl, hx4, hl1⟩
  refine ⟨_, rfl, ?_⟩
  replace hI := (hI.ext hx4)
  refine sa ?_
  refine nk (sr (sm ?_))
  refine sq (y_neq rfl et ev_const) ?_
  refine nk (cif h et (fun hb h => ?_) (fun hb h => ?_))
  ·refine sr (sq (y_build (vs := []) (cs := ZTensor) rfl trivial (by kernel_rfl)) ?_)
   refine sm ?_
   refine l_store (new := zTensor) (cs' := ZTensor) hI (.s (.s (.s .z))) gn rfl rfl et et rfl size_41 rfl rfl rfl ?_
   clear hI; intro c16 w11 hI
   refine sa ?_
   refine nk (c_ret ?_)
   have hI := hI.add (c := Cl.sl (cInt .i64) none 0 ([] : List Int)) SlC.nil
   have hI := hI.add (c := Cl.sl cGVal none 0 ([] : List GVal)) SlC.nil
   obtain rfl := some_inj h
   exact q_ret (vs := [(Value.agg ZTensor), vi r1]) Tryz.results53 ⟨⟨_, ev_tmp rfl rfl, load_agg (l := zTensor) u41 rfl size_41 (CellsAt.of_blk (hI.blk (.s (.s (.s .z)))) rfl)⟩, ⟨ev_tmp rfl rfl, trivial⟩⟩ ⟨none, 0, none, 0, rfl, hI.ext0, hI.fin ⟨(.s .z), .z, trivial⟩⟩
  refine c_skip (k_same (sr (sq (y_loadN (l := [vi t1.Kind, vi t1.Bits, vi t1.Frac, vi t1.Round, vi t1.Over, vs a5 zs1.length c8, vs a6 zs2.length c10]) rfl et u41 rfl size_41 (CellsAt.of_blk (hI.blk (.s .z)) rfl)) ?_)))
  refine l_store (new := [vi t1.Kind, vi t1.Bits, vi t1.Frac, vi t1.Round, vi t1.Over, vs a5 zs1.length c8, vs a6 zs2.length c10]) (cs' := #[vi t1.Kind, vi t1.Bits, vi t1.Frac, vi t1.Round, vi t1.Over, vs a5 zs1.length c8, vs a6 zs2.length c10]) hI (.s (.s (.s .z))) gn rfl rfl et et rfl size_41 rfl rfl rfl ?_
  clear hI; intro c17 w12 hI
  refine sac ?_
  refine nk (c_ret ?_)
  obtain ⟨c18, hI⟩ := hI.release (.s (.s .z))
  obtain ⟨c19, hI⟩ := hI.release .z
  obtain rfl := some_inj h
  exact q_ret (vs := [(Value.agg #[vi t1.Kind, vi t1.Bits, vi t1.Frac, vi t1.Round, vi t1.Over, vs a5 zs1.length c8, vs a6 zs2.length c10]), vi 0]) Tryz.results53 ⟨⟨_, ev_tmp rfl rfl, load_agg (l := [vi t1.Kind, vi t1.Bits, vi t1.Frac, vi t1.Round, vi t1.Over, vs a5 zs1.length c8, vs a6 zs2.length c10]) u41 rfl size_41 (CellsAt.of_blk (hI.blk (.s .z)) rfl)⟩, ⟨ev_tmp rfl rfl, trivial⟩⟩ ⟨a5, c8, a6, c10, rfl, hI.ext0, hI.fin ⟨(.s .z), .z, trivial⟩⟩
 intro hk_tr_tensor_New_1_1
 refine a_join (α := (Option Addr) × Nat × Nat × NP) (T := tr_tensor_New_1_0) (fun x => [(0, (Value.agg (AType t1))), (1, vs a1 dims1.length c1), (2, vs a2 vals1.length c2), (3, vp b1 0), (6, vp b2 0), (7, vi 0), (8, (Value.pointer (some ⟨(x.2.2.1), 0, none⟩))), (10, (Value.agg (AType t1))), (11, vs a1 dims1.length c1), (12, vs (x.1) zs1.length (x.2.1)), (13, vs a2 vals1.length c2)]) (fun x w => Bun noM F w0 (x.2.2.2) w [MO.box (x.2.2.1) 41 ZTensor, MO.row (cInt .i64) 3 (x.1) (x.2.1) zs1, MO.box b2 41 ZTensor] [Cl.blk b1 38 (AType t1), Cl.sl (cInt .i64) a1 c1 dims1, Cl.sl cGVal a2 c2 vals1]) (fun x w => SN [7] (DM false F (x.2.2.2)) w) ?_ ?_
 ·clear hI; rintro ⟨a5, c8, b3, c14⟩ w7 hI
  try dsimp only at hI ⊢
  unfold tr_tensor_New_1_0
  replace hI := hI.nil cGVal 68 none
  refine la_appendX (ys := vals1) hI .z (hI.crd (.s (.s .z))) hx2 rfl gn rfl rfl u39 info_68 rfl rfl ev_const et ?_
  clear hI; intro a6 c10 c11 w4 hI
  refine a_q rfl gn rfl (fun w' => (y_build (vs := [(0, (Value.agg (AType t1))), (1, vs a5 zs1.length c8), (2, vs a6 zs2.length c10)]) (cs := #[vi t1.Kind, vi t1.Bits, vi t1.Frac, vi t1.Round, vi t1.Over, vs a5 zs1.length c8, vs a6 zs2.length c10]) rfl ⟨rfl, et, ⟨rfl, et, ⟨rfl, et, trivial⟩⟩⟩ (by kernel_rfl))) ?_
  exact a_sub (hk_tr_tensor_New_1_1 (a5, c8, a6, c10, b3, c11) _ (hI.arr (.c .z (.c .z (.c .z (.c .z .n)))) ⟨.z, (.s .z), (.s (.s .z)), trivial⟩)) ⟨rfl, rfl, rfl, rfl, rfl, rfl, rfl, rfl, rfl, rfl, rfl, rfl, rfl, trivial⟩
 intro hk_tr_tensor_New_1_0
 refine a_read rfl gn rfl (fun w' hw' => (y_loadN (l := (lType t1)) rfl et u38 rfl size_38 ((hI.kblk (l := (lType t1)) .z rfl).at_ (SX.any rfl hw')))) (by kernel_rfl) ?_
 refine a_q rfl gn rfl (fun w' => y_move rfl et) ?_
 refine a_q rfl gn rfl (fun w' => y_move rfl et) ?_
 refine a_two ?_ ?_
 ·skip
  replace hI := hI.nil (cInt .i64) 3 none
  refine la_appendX (ys := dims1) hI .z (hI.crd (.s .z)) hx1 rfl gn rfl rfl u22 info_3 rfl rfl ev_const et ?_
  clear hI; intro a5 c8 c9 w3 hI
  refine a_two ?_ ?_
  ·skip
   replace hI := hI.nil cGVal 68 none
   refine la_appendX (ys := vals1) hI .z (hI.crd (.s (.s .z))) hx2 rfl gn rfl rfl u39 info_68 rfl rfl ev_const et ?_
   clear hI; intro a6 c10 c11 w4 hI
   refine a_q rfl gn rfl (fun w' => (y_build (vs := [(0, (Value.agg (AType t1))), (1, vs a5 zs1.length c8), (2, vs a6 zs2.length c10)]) (cs := #[vi t1.Kind, vi t1.Bits, vi t1.Frac, vi t1.Round, vi t1.Over, vs a5 zs1.length c8, vs a6 zs2.length c10]) rfl ⟨rfl, et, ⟨rfl, et, ⟨rfl, et, trivial⟩⟩⟩ (by kernel_rfl))) ?_
   refine la_alloc (cs := ZTensor) hI rfl gn rfl rfl zero_41 rfl ?_
   clear hI; intro b3 c12 w5 hI
   exact a_sub (hk_tr_tensor_New_1_1 (a5, c8, a6, c10, b3, c12) _ (hI.arr (.c (.s .z) (.c .z (.c .z (.c .z .n)))) ⟨.z, (.s .z), (.s (.s .z)), trivial⟩)) ⟨rfl, rfl, rfl, rfl, rfl, rfl, rfl, rfl, rfl, rfl, rfl, rfl, rfl, trivial⟩
  refine la_alloc (cs := ZTensor) hI rfl gn rfl rfl zero_41 rfl ?_
  clear hI; intro b3 c12 w5 hI
  exact a_sub (hk_tr_tensor_New_1_0 (a5, c8, b3, c12) _ (hI.arr (.c .z (.c .z (.c .z .n))) ⟨.z, (.s .z), (.s (.s .z)), trivial⟩)) ⟨rfl, rfl, rfl, rfl, rfl, rfl, rfl, rfl, rfl, rfl, rfl, trivial⟩
 refine la_alloc (cs := ZTensor) hI rfl gn rfl rfl zero_41 rfl ?_
 clear hI; intro b3 c12 w5 hI
 replace hI := hI.nil (cInt .i64) 3 none
 refine la_appendX (ys := dims1) hI .z (hI.crd (.s .z)) hx1 rfl gn rfl rfl u22 info_3 rfl rfl ev_const et ?_
 clear hI; intro a5 c8 c9 w3 hI
 exact a_sub (hk_tr_tensor_New_1_0 (a5, c8, b3, c9) _ (hI.arr (.c (.s .z) (.c .z (.c .z .n))) ⟨.z, (.s .z), (.s (.s .z)), trivial⟩)) ⟨rfl, rfl, rfl, rfl, rfl, rfl, rfl, rfl, rfl, rfl, rfl, trivial⟩
theorem c_collective_Reshard (F : NP) (w0 : World) (hF : ∀ k, F k → k < w0.heap.size) (m1 : GMesh) (l1 : List GTensor) (from1 : List Int) (to1 : List Int) (a1 : Option Addr) (c1 : Nat) (a2 : Option Addr) (c2 : Nat) (a3 : Option Addr) (c3 : Nat) (a4 : Option Addr) (c4 : Nat) (hc : AllCl [Cl.sl (cInt .i64) a1 c1 m1.Dims, Cl.sl cGTensor a2 c2 l1, Cl.sl (cInt .i64) a3 c3 from1, Cl.sl (cInt .i64) a4 c4 to1] F w0) (r : List GTensor × Int × Int)
  (h : m_collective_Reshard m1 l1 from1 to1 = some r) :
  Calls Tryz.prog 24 #[(Value.agg #[vs a1 m1.Dims.length c1]), vs a2 l1.length c2, vs a3 from1.length c3, vs a4 to1.length c4] w0 fun e w => ∃ (a5 : Option Addr) (c5 : Nat), e = .returned (Value.tuple #[vs a5 r.1.length c5, vi r.2.1, vi r.2.2]) ∧ Ext w0 w ∧ AllCl [Cl.sl cGTensor a5 c5 r.1] F w := by
 refine enterK Tryz.func24 rfl Tryz.ntmps24 rfl ?_
 have hI := Bun.start hF hc
 clear hc
 rw [m_collective_Reshard] at h
 refine sr (l_box (v := (Value.agg #[vs a1 m1.Dims.length c1])) (cs := #[vs a1 m1.Dims.length c1]) hI gn rfl rfl et rfl ?_)
 clear hI; intro b1 c6 w1 hI
 obtain ⟨c7, hI⟩ := hI.relBox .z
 refine sac ?_
 refine sac ?_
 refine sac ?_
 refine nk (c_seq (sr (sq (y_loadN (l := [vs a1 m1.Dims.length c1]) rfl et u24 rfl size_24 (hI.kblk (l := [vs a1 m1.Dims.length c1]) .z rfl).1) ?_)))
 refine sm ?_
 refine sm ?_
 refine sm ?_
 obtain ⟨r1, hx1, h⟩ := bnd_some h
 refine s_call gn rfl (r_callF (vs := [(Value.agg #[vs a1 m1.Dims.length c1]), vs a2 l1.length c2, vs a3 from1.length c3, vs a4 to1.length c4]) rfl ok_52 ⟨et, ⟨et, ⟨et, ⟨et, trivial⟩⟩⟩⟩) (Calls.mono (c_collective_checkReshard (Dj F c7) w1 hI.lt m1 l1 from1 to1 a1 c1 a2 c2 a3 c3 a4 c4 ⟨(hI.get (.s .z)), (hI.get (.s (.s .z))), (hI.get (.s (.s (.s .z)))), (hI.get (.s (.s (.s (.s .z))))), trivial⟩ r1 hx1) ?_)
 rintro _ w2 ⟨rfl, hx2, hl1⟩
 refine ⟨_, rfl, ?_⟩
 replace hI := (hI.ext hx2)
 refine sa ?_
 refine nk (sr (sm ?_))
 refine sq (y_neq rfl et ev_const) ?_
 refine nk (cif h et (fun hb h => ?_) (fun hb h => ?_))
 ·refine sr (sm ?_)
  refine sac ?_
  refine sac ?_
  refine sa ?_
  refine nk (c_ret ?_)
  have hI := hI.add (c := Cl.sl cGTensor none 0 ([] : List GTensor)) SlC.nil
  obtain rfl := some_inj h
  exact q_ret (vs := [vs none 0 0, vi 0, vi r1]) Tryz.results24 ⟨ev_tmp rfl rfl, ⟨ev_tmp rfl rfl, ⟨ev_tmp rfl rfl, trivial⟩⟩⟩ ⟨none, 0, rfl, hI.ext0, hI.fin ⟨.z, trivial⟩⟩
 refine c_skip (k_same (sr (sm ?_)))
 refine sm ?_
 obtain ⟨r2, hx3, h⟩ := bnd_some h
 refine s_call gn rfl (r_callF (vs := [vs a3 from1.length c3, vs a4 to1.length c4]) rfl ok_30 ⟨et, ⟨et, trivial⟩⟩) (Calls.mono (c_collective_Plan (Dj F c7) w2 hI.lt from1 to1 a3 c3 a4 c4 ⟨(hI.get (.s (.s (.s .z)))), (hI.get (.s (.s (.s (.s .z))))), trivial⟩ r2 hx3) ?_)
 rintro _ w3 ⟨a6, c8, rfl, hx4, hl2⟩
 refine ⟨_, rfl, ?_⟩
 replace hI := (hI.ext hx4).adds hl2
 refine sa ?_
 refine nk (sr (sac ?_))
 refine nk (c_join (α := (List GTensor) × (Option Addr) × Nat) (fun _ => ⟨104, []⟩) (fun x => [(4, vp b1 0), (12, vs a6 r2.length c8), (13, vs (x.2.1) (x.1).length (x.2.2))]) (fun x => fun w => ∃ C, Bun noM F w0 C w [MO.row cGTensor 41 (x.2.1) (x.2.2) (x.1)] [Cl.blk b1 24 #[vs a1 m1.Dims.length c1], Cl.sl (cInt .i64) a1 c1 m1.Dims, Cl.sl cGTransfer a6 c8 r2] ∧ m_collective_Reshard_j1 r2 m1 (x.1) = some r) ?_ ?_)
 ·clear h hI; rintro ⟨out1, a7, c9⟩ w4 ⟨c10, hI, h⟩
  try dsimp only at hI h
  rw [m_collective_Reshard_j1] at h
  refine c_sub (e := [(4, vp b1 0), (12, vs a6 r2.length c8), (13, vs a7 out1.length c9)]) ⟨rfl, rfl, rfl, trivial⟩ ?_
  refine c_seq (sr (sm ?_))
  refine sq (y_lenl rfl u51 et) ?_
  refine sq (y_move rfl ev_const) ?_
  refine nk (c_block ?_)
  obtain ⟨c13, hI⟩ := hI.release .z
  refine c_loop (α := Nat × (List GTensor) × Int × (Option Addr) × Nat) (fun x => fun w => ∃ C, Bun noM F w0 C w [] [Cl.sl cGTensor (x.2.2.2.1) (x.2.2.2.2) (x.2.1), Cl.blk b1 24 #[vs a1 m1.Dims.length c1], Cl.sl (cInt .i64) a1 c1 m1.Dims, Cl.sl cGTransfer a6 c8 r2] ∧ m_collective_Reshard_l1 r2 m1 (x.1) (x.2.1) (x.2.2.1) = some r) (fun x _ => x.1) (fun x => [(4, vp b1 0), (12, vs a6 r2.length c8), (13, vs (x.2.2.2.1) (x.2.1).length (x.2.2.2.2)), (53, vs a6 r2.length c8), (54, vi (r2.length : Int)), (55, vi (x.2.2.1))]) (fu, out1, 0, a7, c9) ⟨_, hI.arr .n ⟨.z, (.s .z), (.s (.s .z)), (.s (.s (.s .z))), trivial⟩, h⟩ ⟨rfl, rfl, rfl, rfl, rfl, rfl, trivial⟩ ?_
  clear h hI; rintro ⟨fuel1, out2, i1, a8, c11⟩ w5 ⟨c12, hI, h⟩
  dsimp only at hI h
  rcases fuel1 with _ | fuel1
  ·rw [m_collective_Reshard_l1] at h; cases h
  rw [m_collective_Reshard_l1] at h
  refine c_sub (e := [(4, vp b1 0), (12, vs a6 r2.length c8), (13, vs a8 out2.length c11), (53, vs a6 r2.length c8), (54, vi (r2.length : Int)), (55, vi i1)]) ⟨rfl, rfl, rfl, rfl, rfl, rfl, trivial⟩ ?_
  refine sr (sq (y_lss rfl et et) ?_)
  refine nk (c_seq (cif h et (fun hb h => ?_) (fun hb h => ?_)))
  ·refine c_skip (k_same (c_seq (c_block (sr ?_))))
   obtain ⟨e1, hx5, h⟩ := bnd_some h
   obtain ⟨ad1, cs1, hA1, hr1, hq1⟩ := hI.clat (.s (.s (.s .z))) hx5
   obtain rfl : cs1 = [vi e1.Op, vi e1.Mesh, vi e1.From, vi e1.To, (str e1.Name)] := hr1
   refine sq (y_indexAddr rfl u51 size_54 et et (lat_bd hx5) hA1) ?_
   refine sq (y_loadN (l := [vi e1.Op, vi e1.Mesh, vi e1.From, vi e1.To, (str e1.Name)]) rfl et u54 rfl size_54 hq1.1) ?_
   refine l_alloc (cs := #[vi 0, vi 0, vi 0, vi 0, (str ([] : List UInt8))]) hI gn rfl rfl zero_54 rfl ?_
   clear hI; intro b2 c14 w6 hI
   refine l_store (new := [vi e1.Op, vi e1.Mesh, vi e1.From, vi e1.To, (str e1.Name)]) (cs' := #[vi e1.Op, vi e1.Mesh, vi e1.From, vi e1.To, (str e1.Name)]) hI .z gn rfl rfl et et rfl size_54 rfl rfl rfl ?_
   clear hI; intro c15 w7 hI
   refine nk (sr (sac ?_))
   refine nk (c_join (α := (List GTensor) × Int × (Option Addr) × Nat) (fun _ => ⟨104, []⟩) (fun x => [(4, vp b1 0), (12, vs a6 r2.length c8), (13, vs (x.2.2.1) (x.1).length (x.2.2.2)), (53, vs a6 r2.length c8), (54, vi (r2.length : Int)), (55, vi i1), (20, vi (x.2.1))]) (fun x => fun w => ∃ C, Bun noM F w0 C w [] [Cl.sl cGTensor (x.2.2.1) (x.2.2.2) (x.1), Cl.blk b1 24 #[vs a1 m1.Dims.length c1], Cl.sl (cInt .i64) a1 c1 m1.Dims, Cl.sl cGTransfer a6 c8 r2] ∧ m_collective_Reshard_j2 (m_collective_Reshard_l1 r2 m1 fuel1) i1 (x.1) (x.2.1) = some r) ?_ ?_)
   ·clear h hI; rintro ⟨out3, e2, a9, c16⟩ w8 ⟨c17, hI, h⟩
    try dsimp only at hI h
    rw [m_collective_Reshard_j2] at h
    refine c_sub (e := [(4, vp b1 0), (12, vs a6 r2.length c8), (13, vs a9 out3.length c16), (53, vs a6 r2.length c8), (54, vi (r2.length : Int)), (55, vi i1), (20, vi e2)]) ⟨rfl, rfl, rfl, rfl, rfl, rfl, rfl, trivial⟩ ?_
    refine sr (sm ?_)
    refine sq (y_neq rfl et ev_const) ?_
    refine nk (cif h et (fun hb h => ?_) (fun hb h => ?_))
    ·refine sr (sm ?_)
     refine sac ?_
     refine sac ?_
     refine sa ?_
     refine nk (c_ret ?_)
     have hI := hI.add (c := Cl.sl cGTensor none 0 ([] : List GTensor)) SlC.nil
     obtain rfl := some_inj h
     exact q_ret (vs := [vs none 0 0, vi 0, vi e2]) Tryz.results24 ⟨ev_tmp rfl rfl, ⟨ev_tmp rfl rfl, ⟨ev_tmp rfl rfl, trivial⟩⟩⟩ ⟨none, 0, rfl, hI.ext0, hI.fin ⟨.z, trivial⟩⟩
    refine c_skip (k_same (c_region rfl ?_))
    refine sq (y_add rfl et ev_const) ?_
    refine sm ?_
    refine s_nil ?_
    exact k_loop (fuel1, out3, wi64 (i1 + 1), a9, c16) ⟨rfl, rfl, rfl, rfl, rfl, rfl, trivial⟩ ⟨_, hI.arr .n ⟨.z, (.s .z), (.s (.s .z)), (.s (.s (.s .z))), trivial⟩, h⟩ (Nat.lt_succ_self _)
   refine sr (sq (y_fieldAddr rfl et u54 rfl size_3 rfl) ?_)
   refine sq (y_load1 (v := (vi e1.Op)) rfl et u3 rfl (CellsAt.of_blk (hI.blk .z) rfl)) ?_
   refine nk (c_block (sr (sq (y_eql rfl et ev_const) ?_)))
   refine sa ?_
   refine nk (cif h et (fun hb h => ?_) (fun hb h => ?_))
   ·refine c_region rfl ?_
    refine sq (y_loadN (l := [vs a1 m1.Dims.length c1]) rfl et u24 rfl size_24 (hI.kblk (l := [vs a1 m1.Dims.length c1]) (.s .z) rfl).1) ?_
    refine sm ?_
    refine sq (y_fieldAddr rfl et u54 rfl size_3 rfl) ?_
    refine sq (y_load1 (v := (vi e1.Mesh)) rfl et u3 rfl (CellsAt.of_blk (hI.blk .z) rfl)) ?_
    refine sq (y_fieldAddr rfl et u54 rfl size_3 rfl) ?_
    refine sq (y_load1 (v := (vi e1.From)) rfl et u3 rfl (CellsAt.of_blk (hI.blk .z) rfl)) ?_
    refine sq (y_fieldAddr rfl et u54 rfl size_3 rfl) ?_
    refine sq (y_load1 (v := (vi e1.To)) rfl et u3 rfl (CellsAt.of_blk (hI.blk .z) rfl)) ?_
    obtain ⟨r3, hx6, h⟩ := bnd_some h
    refine s_call gn rfl (r_callF (vs := [(Value.agg #[vs a1 m1.Dims.length c1]), vs a8 out2.length c11, vi e1.Mesh, vi e1.From, vi e1.To]) rfl ok_22 ⟨et, ⟨et, ⟨et, ⟨et, ⟨et, trivial⟩⟩⟩⟩⟩) (Calls.mono (c_collective_AllToAll (Dj F c15) w7 hI.lt m1 out2 e1.Mesh e1.From e1.To a1 c1 a8 c11 ⟨(hI.get (.s (.s .z))), (hI.get .z), trivial⟩ r3 hx6) ?_)
    rintro _ w9 ⟨a10, c18, rfl, hx7, hl3⟩
    refine ⟨_, rfl, ?_⟩
    replace hI := (hI.ext hx7).adds hl3
    refine sm ?_
    refine sq (y_extract rfl et rfl) ?_
    refine sq (y_extract rfl et rfl) ?_
    refine sa ?_
    refine sa ?_
    refine s_nil ?_
    exact k_join (r3.1, r3.2, a10, c18) ⟨rfl, rfl, rfl, rfl, rfl, rfl, rfl, trivial⟩ ⟨_, hI.arr .n ⟨.z, (.s (.s .z)), (.s (.s (.s .z))), (.s (.s (.s (.s .z)))), trivial⟩, h⟩ rfl
   refine sr (sq (y_eql rfl et ev_const) ?_)
   refine sa ?_
   refine nk (cif h et (fun hb h => ?_) (fun hb h => ?_))
   ·refine c_region rfl ?_
    refine sq (y_loadN (l := [vs a1 m1.Dims.length c1]) rfl et u24 rfl size_24 (hI.kblk (l := [vs a1 m1.Dims.length c1]) (.s .z) rfl).1) ?_
    refine sm ?_
    refine sq (y_fieldAddr rfl et u54 rfl size_3 rfl) ?_
    refine sq (y_load1 (v := (vi e1.Mesh)) rfl et u3 rfl (CellsAt.of_blk (hI.blk .z) rfl)) ?_
    refine sq (y_fieldAddr rfl et u54 rfl size_3 rfl) ?_
    refine sq (y_load1 (v := (vi e1.From)) rfl et u3 rfl (CellsAt.of_blk (hI.blk .z) rfl)) ?_
    obtain ⟨r4, hx8, h⟩ := bnd_some h
    refine s_call gn rfl (r_callF (vs := [(Value.agg #[vs a1 m1.Dims.length c1]), vs a8 out2.length c11, vi e1.Mesh, vi e1.From]) rfl ok_11 ⟨et, ⟨et, ⟨et, ⟨et, trivial⟩⟩⟩⟩) (Calls.mono (c_collective_AllGather (Dj F c15) w7 hI.lt m1 out2 e1.Mesh e1.From a1 c1 a8 c11 ⟨(hI.get (.s (.s .z))), (hI.get .z), trivial⟩ r4 hx8) ?_)
    rintro _ w10 ⟨a11, c19, rfl, hx9, hl4⟩
    refine ⟨_, rfl, ?_⟩
    replace hI := (hI.ext hx9).adds hl4
    refine sm ?_
    refine sq (y_extract rfl et rfl) ?_
    refine sq (y_extract rfl et rfl) ?_
    refine sa ?_
    refine sa ?_
    refine s_nil ?_
    exact k_join (r4.1, r4.2, a11, c19) ⟨rfl, rfl, rfl, rfl, rfl, rfl, rfl, trivial⟩ ⟨_, hI.arr .n ⟨.z, (.s (.s .z)), (.s (.s (.s .z))), (.s (.s (.s (.s .z)))), trivial⟩, h⟩ rfl
   refine c_region rfl ?_
   refine sq (y_loadN (l := [vs a1 m1.Dims.length c1]) rfl et u24 rfl size_24 (hI.kblk (l := [vs a1 m1.Dims.length c1]) (.s .z) rfl).1) ?_
   refine sm ?_
   refine sq (y_fieldAddr rfl et u54 rfl size_3 rfl) ?_
   refine sq (y_load1 (v := (vi e1.Mesh)) rfl et u3 rfl (CellsAt.of_blk (hI.blk .z) rfl)) ?_
   refine sq (y_fieldAddr rfl et u54 rfl size_3 rfl) ?_
   refine sq (y_load1 (v := (vi e1.From)) rfl et u3 rfl (CellsAt.of_blk (hI.blk .z) rfl)) ?_
   obtain ⟨r5, hx10, h⟩ := bnd_some h
   refine s_call gn rfl (r_callF (vs := [(Value.agg #[vs a1 m1.Dims.length c1]), vs a8 out2.length c11, vi e1.Mesh, vi e1.From]) rfl ok_13 ⟨et, ⟨et, ⟨et, ⟨et, trivial⟩⟩⟩⟩) (Calls.mono (c_collective_SliceLocal (Dj F c15) w7 hI.lt m1 out2 e1.Mesh e1.From a1 c1 a8 c11 ⟨(hI.get (.s (.s .z))), (hI.get .z), trivial⟩ r5 hx10) ?_)
   rintro _ w11 ⟨a12, c20, rfl, hx11, hl5⟩
   refine ⟨_, rfl, ?_⟩
   replace hI := (hI.ext hx11).adds hl5
   refine sm ?_
   refine sq (y_extract rfl et rfl) ?_
   refine sq (y_extract rfl et rfl) ?_
   refine sa ?_
   refine sa ?_
   refine s_nil ?_
   exact k_join (r5.1, r5.2, a12, c20) ⟨rfl, rfl, rfl, rfl, rfl, rfl, rfl, trivial⟩ ⟨_, hI.arr .n ⟨.z, (.s (.s .z)), (.s (.s (.s .z))), (.s (.s (.s (.s .z)))), trivial⟩, h⟩ rfl
  refine c_exit ?_
  refine k_in ?_
  refine k_same (sr (sm ?_))
  refine sm ?_
  refine sq (y_lenl rfl u51 et) ?_
  refine sa ?_
  refine sa ?_
  refine sac ?_
  refine nk (c_ret ?_)
  obtain rfl := some_inj h
  exact q_ret (vs := [vs a8 out2.length c11, vi (r2.length : Int), vi 0]) Tryz.results24 ⟨ev_tmp rfl rfl, ⟨ev_tmp rfl rfl, ⟨ev_tmp rfl rfl, trivial⟩⟩⟩ ⟨a8, c11, rfl, hI.ext0, hI.fin ⟨.z, trivial⟩⟩
 refine sr (sm ?_)
 refine sq (y_lenl rfl u25 et) ?_
 refine sq (y_move rfl ev_const) ?_
 refine nk (c_block ?_)
 have hI := hI.nil cGTensor 41 none
 refine c_loop (α := Nat × (List GTensor) × Int × (Option Addr) × Nat) (fun x => fun w => ∃ C, Bun noM F w0 C w [MO.row cGTensor 41 (x.2.2.2.1) (x.2.2.2.2) (x.2.1)] [Cl.blk b1 24 #[vs a1 m1.Dims.length c1], Cl.sl (cInt .i64) a1 c1 m1.Dims, Cl.sl cGTransfer a6 c8 r2, Cl.sl cGTensor a2 c2 l1] ∧ m_collective_Reshard_l2 l1 r2 m1 (x.1) (x.2.1) (x.2.2.1) = some r) (fun x _ => x.1) (fun x => [(4, vp b1 0), (12, vs a6 r2.length c8), (13, vs (x.2.2.2.1) (x.2.1).length (x.2.2.2.2)), (32, vs a2 l1.length c2), (33, vi (l1.length : Int)), (34, vi (x.2.2.1))]) (fu, ([] : List GTensor), 0, none, 0) ⟨_, hI.arr (.c .z .n) ⟨(.s .z), (.s (.s .z)), .z, (.s (.s (.s .z))), trivial⟩, h⟩ ⟨rfl, rfl, rfl, rfl, rfl, rfl, trivial⟩ ?_
 clear h hI; rintro ⟨fuel2, out4, i2, a13, c21⟩ w12 ⟨c22, hI, h⟩
 dsimp only at hI h
 rcases fuel2 with _ | fuel2
 ·rw [m_collective_Reshard_l2] at h; cases h
 rw [m_collective_Reshard_l2] at h
 refine c_sub (e := [(4, vp b1 0), (12, vs a6 r2.length c8), (13, vs a13 out4.length c21), (32, vs a2 l1.length c2), (33, vi (l1.length : Int)), (34, vi i2)]) ⟨rfl, rfl, rfl, rfl, rfl, rfl, trivial⟩ ?_
 refine sr (sq (y_lss rfl et et) ?_)
 refine nk (c_seq (cif h et (fun hb h => ?_) (fun hb h => ?_)))
 ·refine c_skip (k_same (c_seq (c_block (sr ?_))))
  obtain ⟨e3, hx12, h⟩ := bnd_some h
  obtain ⟨ad2, cs2, hA2, hr2, hq2⟩ := hI.clat (.s (.s (.s .z))) hx12
  obtain ⟨a14, c23, a15, c24, rfl, hf1, hf2⟩ := hr2
  have hI := hI.add (c := Cl.sl (cInt .i64) a14 c23 e3.Dims) hf1
  have hI := hI.add (c := Cl.sl cGVal a15 c24 e3.Vals) hf2
  refine sq (y_indexAddr rfl u25 size_41 et et (lat_bd hx12) hA2) ?_
  refine sq (y_loadN (l := (lTensor e3 a14 c23 a15 c24)) rfl et u41 rfl size_41 hq2.1) ?_
  refine l_alloc (cs := ZTensor) hI gn rfl rfl zero_41 rfl ?_
  clear hI; intro b3 c25 w13 hI
  refine l_store (new := (lTensor e3 a14 c23 a15 c24)) (cs' := (ATensor e3 a14 c23 a15 c24)) hI .z gn rfl rfl et et rfl size_41 rfl rfl rfl ?_
  clear hI; intro c26 w14 hI
  refine nk (sr (sq (y_fieldAddr rfl et u41 rfl size_38 rfl) ?_))
  refine sq (y_loadN (l := (lType e3.Type_)) rfl et u38 rfl size_38 (CellsAt.of_blk (hI.blk .z) rfl)) ?_
  refine sq (y_fieldAddr rfl et u41 rfl size_22 rfl) ?_
  refine sq (y_load1 (v := (vs a14 e3.Dims.length c23)) rfl et u22 rfl (CellsAt.of_blk (hI.blk .z) rfl)) ?_
  refine sq (y_fieldAddr rfl et u41 rfl size_39 rfl) ?_
  refine sq (y_load1 (v := (vs a15 e3.Vals.length c24)) rfl et u39 rfl (CellsAt.of_blk (hI.blk .z) rfl)) ?_
  obtain ⟨r6, hx13, h⟩ := bnd_some h
  refine s_call gn rfl (r_callF (vs := [(Value.agg (AType e3.Type_)), vs a14 e3.Dims.length c23, vs a15 e3.Vals.length c24]) rfl ok_53 ⟨et, ⟨et, ⟨et, trivial⟩⟩⟩) (Calls.mono (c_tensor_New (Dj F c26) w14 hI.lt e3.Type_ e3.Dims e3.Vals a14 c23 a15 c24 ⟨(hI.get (.s .z)), (hI.get .z), trivial⟩ r6 hx13) ?_)
  rintro _ w15 ⟨a16, c27, a17, c28, rfl, hx14, hl6⟩
  refine ⟨_, rfl, ?_⟩
  replace hI := (hI.ext hx14).adds hl6
  refine sm ?_
  refine sq (y_extract rfl et rfl) ?_
  refine sq (y_extract rfl et rfl) ?_
  refine l_alloc (cs := ZTensor) hI gn rfl rfl zero_41 rfl ?_
  clear hI; intro b4 c29 w16 hI
  refine l_store (new := (lTensor r6.1 a16 c27 a17 c28)) (cs' := (ATensor r6.1 a16 c27 a17 c28)) hI .z gn rfl rfl et et rfl size_41 rfl rfl rfl ?_
  clear hI; intro c30 w17 hI
  refine sa ?_
  refine nk (c_region rfl ?_)
  refine sm ?_
  refine sq (y_loadN (l := (lTensor r6.1 a16 c27 a17 c28)) rfl et u41 rfl size_41 (CellsAt.of_blk (hI.blk .z) rfl)) ?_
  refine l_lit (c := cGTensor) (xs := ([r6.1] : List GTensor)) (vs := [(0, (Value.agg (ATensor r6.1 a16 c27 a17 c28)))]) (cs := (ATensor r6.1 a16 c27 a17 c28)) (css := [(lTensor r6.1 a16 c27 a17 c28)]) hI gn rfl rfl u25 info_41 rfl ⟨rfl, et, trivial⟩ (by kernel_rfl) ⟨⟨a16, c27, a17, c28, rfl, hI.get .z, hI.get (.s .z)⟩, trivial⟩ rfl rfl rfl ?_
  clear hI; intro b5 c31 w18 hI
  obtain ⟨zs1, hx15, h⟩ := bnd_some h
  refine l_append (xs := out4) (ys := ([r6.1] : List GTensor)) hI (.s (.s (.s .z))) (hI.rd .z) hx15 gn rfl rfl u25 info_41 rfl rfl et et ?_
  clear hI; intro a18 c32 c33 w19 hI
  refine sa ?_
  refine nk (c_region rfl ?_)
  refine sq (y_add rfl et ev_const) ?_
  refine sm ?_
  refine s_nil ?_
  exact k_loop (fuel2, zs1, wi64 (i2 + 1), a18, c32) ⟨rfl, rfl, rfl, rfl, rfl, rfl, trivial⟩ ⟨_, hI.arr (.c (.s (.s (.s .z))) .n) ⟨(.s (.s (.s (.s .z)))), (.s (.s (.s (.s (.s .z))))), (.s (.s (.s (.s (.s (.s .z)))))), (.s (.s (.s (.s (.s (.s (.s .z))))))), trivial⟩, h⟩ (Nat.lt_succ_self _)
 refine c_exit ?_
 refine k_in ?_
 exact k_join (out4, a13, c21) ⟨rfl, rfl, rfl, trivial⟩ ⟨_, hI.arr (.c .z .n) ⟨.z, (.s .z), (.s (.s .z)), trivial⟩, h⟩ rfl
theorem c_ref53_Plain (F : NP) (w0 : World) (hF : ∀ k, F k → k < w0.heap.size) (s1 : List Int) (a1 : Option Addr) (c1 : Nat) (hc : AllCl [Cl.sl (cInt .i64) a1 c1 s1] F w0) (r : Bool)
  (h : m_ref53_Plain s1 = some r) :
  Calls Tryz.prog 60 #[vs a1 s1.length c1] w0 fun e w => e = .returned (vb r) ∧ Ext w0 w ∧ AllCl [] F w := by
 refine enterK Tryz.func60 rfl Tryz.ntmps60 rfl ?_
 have hI := Bun.start hF hc
 clear hc
 rw [m_ref53_Plain] at h
 refine sr (sac ?_)
 refine nk (c_seq (sr (sac ?_)))
 refine nk (c_block (c_loop (α := Nat × Int) (fun x => fun w => ∃ C, Bun noM F w0 C w [] [Cl.sl (cInt .i64) a1 c1 s1] ∧ m_ref53_Plain_l1 s1 (x.1) (x.2) = some r) (fun x _ => x.1) (fun x => [(0, vs a1 s1.length c1), (3, vi (x.2))]) (fu, 0) ⟨_, hI.arr .n ⟨.z, trivial⟩, h⟩ ⟨rfl, rfl, trivial⟩ ?_))
 clear h hI; rintro ⟨fuel1, i1⟩ w1 ⟨c2, hI, h⟩
 dsimp only at hI h
 rcases fuel1 with _ | fuel1
 ·rw [m_ref53_Plain_l1] at h; cases h
 rw [m_ref53_Plain_l1] at h
 refine c_sub (e := [(0, vs a1 s1.length c1), (3, vi i1)]) ⟨rfl, rfl, trivial⟩ ?_
 refine c_seq (sr (sm ?_))
 refine sm ?_
 refine sq (y_lenl rfl u42 et) ?_
 refine sq (y_lss rfl et et) ?_
 refine nk (cif h et (fun hb h => ?_) (fun hb h => ?_))
 ·refine c_skip (k_same (c_join (α := Unit) (fun _ => ⟨37, []⟩) (fun _ => [(0, vs a1 s1.length c1), (3, vi i1)]) (fun _ => fun w => ∃ C, Bun noM F w0 C w [] [Cl.sl (cInt .i64) a1 c1 s1] ∧ m_ref53_Plain_j1 (m_ref53_Plain_l1 s1 fuel1) i1 = some r) ?_ ?_))
  ·clear h hI; rintro _ w2 ⟨c3, hI, h⟩
   try dsimp only at hI h
   rw [m_ref53_Plain_j1] at h
   refine c_sub (e := [(0, vs a1 s1.length c1), (3, vi i1)]) ⟨rfl, rfl, trivial⟩ ?_
   refine c_region rfl ?_
   refine sm ?_
   refine sq (y_add rfl et ev_const) ?_
   refine sa ?_
   refine s_nil ?_
   exact k_loop (fuel1, wi64 (i1 + 1)) ⟨rfl, rfl, trivial⟩ ⟨_, hI.arr .n ⟨.z, trivial⟩, h⟩ (Nat.lt_succ_self _)
  refine c_block (c_join (α := Unit) (fun _ => ⟨37, []⟩) (fun _ => [(0, vs a1 s1.length c1), (3, vi i1)]) (fun _ => fun w => ∃ C, Bun noM F w0 C w [] [Cl.sl (cInt .i64) a1 c1 s1] ∧ m_ref53_Plain_j2 s1 i1 (m_ref53_Plain_l1 s1 fuel1) = some r) ?_ ?_)
  ·clear h hI; rintro _ w3 ⟨c4, hI, h⟩
   try dsimp only at hI h
   rw [m_ref53_Plain_j2] at h
   refine c_sub (e := [(0, vs a1 s1.length c1), (3, vi i1)]) ⟨rfl, rfl, trivial⟩ ?_
   refine sr (sm ?_)
   refine sm ?_
   obtain ⟨e1, hx1, h⟩ := bnd_some h
   obtain ⟨ad1, cs1, hA1, hr1, hq1⟩ := hI.clat .z hx1
   obtain rfl : cs1 = [vi e1] := hr1
   refine sq (y_indexAddr rfl u42 size_3 et et (lat_bd hx1) hA1) ?_
   refine sq (y_load1 (v := (vi e1)) rfl et u3 rfl hq1.1) ?_
   refine sq (y_lss rfl et ev_const) ?_
   refine nk (cif h et (fun hb h => ?_) (fun hb h => ?_))
   ·refine sr (sac ?_)
    refine nk (c_ret ?_)
    obtain rfl := some_inj h
    exact q_ret (vs := [vb false]) Tryz.results60 ⟨ev_tmp rfl rfl, trivial⟩ (fq hI trivial)
   exact c_skip (k_join () ⟨rfl, rfl, trivial⟩ ⟨_, hI.arr .n ⟨.z, trivial⟩, h⟩ rfl)
  refine sr (sac ?_)
  refine nk (c_block (c_loop (α := Nat × Int) (fun x => fun w => ∃ C, Bun noM F w0 C w [] [Cl.sl (cInt .i64) a1 c1 s1] ∧ m_ref53_Plain_l2 i1 s1 (m_ref53_Plain_l1 s1 fuel1) (x.1) (x.2) = some r) (fun x _ => x.1) (fun x => [(0, vs a1 s1.length c1), (3, vi i1), (4, vi (x.2))]) (fu, 0) ⟨_, hI.arr .n ⟨.z, trivial⟩, h⟩ ⟨rfl, rfl, rfl, trivial⟩ ?_))
  clear h hI; rintro ⟨fuel2, k1⟩ w4 ⟨c5, hI, h⟩
  dsimp only at hI h
  rcases fuel2 with _ | fuel2
  ·rw [m_ref53_Plain_l2] at h; cases h
  rw [m_ref53_Plain_l2] at h
  refine c_sub (e := [(0, vs a1 s1.length c1), (3, vi i1), (4, vi k1)]) ⟨rfl, rfl, rfl, trivial⟩ ?_
  refine c_seq (sr (sm ?_))
  refine sm ?_
  refine sq (y_lss rfl et et) ?_
  refine nk (cif h et (fun hb h => ?_) (fun hb h => ?_))
  ·refine c_skip (k_same (c_seq (c_block (c_seq (c_drawX [] false (.c (0, .q) (.c (1, .q) (.c (2, .q) (.c (3, .q) (.c (4, .q) (.c (5, .q) (.c (6, .q) (.c (7, .q) (.c (8, .q) (.c (9, .q) (.c (10, .q) (.c (11, .q) (.c (12, .q) (.c (13, .q) (.c (14, .q) (.c (15, .q) .n)))))))))))))))) hI (by kernel_rfl) (by kernel_rfl) ?_)))))
   clear hI; intro w5 hI
   refine a_q rfl gn rfl (fun w' => y_move rfl et) ?_
   refine a_q rfl gn rfl (fun w' => y_move rfl et) ?_
   obtain ⟨e2, hx2, h⟩ := bnd_some h
   obtain ⟨ad2, cs2, hA2, hr2, hq2⟩ := hI.clat .z hx2
   obtain rfl : cs2 = [vi e2] := hr2
   refine a_q rfl gn rfl (fun w' => y_indexAddr rfl u42 size_3 et et (lat_bd hx2) hA2) ?_
   refine a_read rfl gn rfl (fun w' hw' => (y_load1 (v := (vi e2)) rfl et u3 rfl (hq2.at_ (SX.any rfl hw')))) (by kernel_rfl) ?_
   refine a_q rfl gn rfl (fun w' => y_move rfl et) ?_
   refine a_q rfl gn rfl (fun w' => y_move rfl et) ?_
   obtain ⟨e3, hx3, h⟩ := bnd_some h
   obtain ⟨ad3, cs3, hA3, hr3, hq3⟩ := hI.clat .z hx3
   obtain rfl : cs3 = [vi e3] := hr3
   refine a_q rfl gn rfl (fun w' => y_indexAddr rfl u42 size_3 et et (lat_bd hx3) hA3) ?_
   refine a_read rfl gn rfl (fun w' hw' => (y_load1 (v := (vi e3)) rfl et u3 rfl (hq3.at_ (SX.any rfl hw')))) (by kernel_rfl) ?_
   refine a_q rfl gn rfl (fun w' => y_eql rfl et et) ?_
   refine a_q rfl gn rfl (fun w' => y_move rfl et) ?_
   refine a_gval rfl (g_true rfl rfl rfl rfl) rfl (fun hc => fun w' => (y_move rfl et)) ?_
   refine a_gval rfl (g_true rfl rfl rfl rfl) rfl (fun hc => fun w' => (y_move rfl et)) ?_
   obtain ⟨e4, hx4, h⟩ := bnd_some h
   replace hx4 := gd_some hx4
   obtain ⟨ad4, cs4, hq4⟩ := hI.gclat .z hx4
   have hq5 : (decide (e2 = e3)) = true → CA (Dj F c5) w5 (ad4.add (Int.toNat i1 * 1)) [vi e4] := fun hc => by have k := hq4 hc; have e : cs4 = _ := k.2.1; rw [← e]; exact k.2.2
   refine a_gval rfl (g_true rfl rfl rfl rfl) rfl (fun hc => fun w' => (y_indexAddr rfl u42 size_3 (ev_gv et hc) (ev_gv et hc) (lat_bd (hx4 hc)) (hq4 hc).1)) ?_
   refine a_gread rfl (g_true rfl rfl rfl rfl) rfl (fun hc => fun w' hw' => (y_load1 (v := (vi e4)) rfl (ev_gv et hc) u3 rfl ((hq5 hc).at_ (SX.any rfl hw')))) (by kernel_rfl) ?_
   refine a_gval rfl (g_true rfl rfl rfl rfl) rfl (fun hc => fun w' => (y_geq rfl (ev_gv et hc) ev_const)) ?_
   refine a_q rfl gn rfl (fun w' => y_and rfl et et) ?_
   refine a_nil ?_
   refine k_same (cif h et (fun hb h => ?_) (fun hb h => ?_))
   ·refine sr (sac ?_)
    refine nk (c_ret ?_)
    obtain rfl := some_inj h
    exact q_ret (vs := [vb false]) Tryz.results60 ⟨ev_tmp rfl rfl, trivial⟩ (fq hI trivial)
   refine c_skip (k_same (c_region rfl ?_))
   refine sm ?_
   refine sq (y_add rfl et ev_const) ?_
   refine sa ?_
   refine s_nil ?_
   exact k_loop (fuel2, wi64 (k1 + 1)) ⟨rfl, rfl, rfl, trivial⟩ ⟨_, hI.arr .n ⟨.z, trivial⟩, h⟩ (Nat.lt_succ_self _)
  refine c_exit ?_
  refine k_in ?_
  exact k_join () ⟨rfl, rfl, trivial⟩ ⟨_, hI.arr .n ⟨.z, trivial⟩, h⟩ rfl
 refine c_exit ?_
 refine k_in ?_
 refine k_same (sr (sac ?_))
 refine nk (c_ret ?_)
 obtain rfl := some_inj h
 exact q_ret (vs := [vb true]) Tryz.results60 ⟨ev_tmp rfl rfl, trivial⟩ (fq hI trivial)
theorem c_ref53_specs (F : NP) (w0 : World) (hF : ∀ k, F k → k < w0.heap.size) (m1 : GMesh) (dims1 : List Int) (from1 : List Int) (to1 : List Int) (a1 : Option Addr) (c1 : Nat) (a2 : Option Addr) (c2 : Nat) (a3 : Option Addr) (c3 : Nat) (a4 : Option Addr) (c4 : Nat) (hc : AllCl [Cl.sl (cInt .i64) a1 c1 m1.Dims, Cl.sl (cInt .i64) a2 c2 dims1, Cl.sl (cInt .i64) a3 c3 from1, Cl.sl (cInt .i64) a4 c4 to1] F w0) (r : Int)
  (h : m_ref53_specs m1 dims1 from1 to1 = some r) :
  Calls Tryz.prog 54 #[(Value.agg #[vs a1 m1.Dims.length c1]), vs a2 dims1.length c2, vs a3 from1.length c3, vs a4 to1.length c4] w0 fun e w => e = .returned (vi r) ∧ Ext w0 w ∧ AllCl [] F w := by
 refine enterK Tryz.func54 rfl Tryz.ntmps54 rfl ?_
 have hI := Bun.start hF hc
 clear hc
 rw [m_ref53_specs] at h
 refine sr (l_box (v := (Value.agg #[vs a1 m1.Dims.length c1])) (cs := #[vs a1 m1.Dims.length c1]) hI gn rfl rfl et rfl ?_)
 clear hI; intro b1 c5 w1 hI
 obtain ⟨c6, hI⟩ := hI.relBox .z
 refine sac ?_
 refine nk (sr (sm ?_))
 refine sm ?_
 refine l_lit (c := (cSl (cInt .i64))) (xs := ([from1, to1] : List (List Int))) (vs := [(0, vs a3 from1.length c3), (1, vs a4 to1.length c4)]) (cs := #[vs a3 from1.length c3, vs a4 to1.length c4]) (css := [[vs a3 from1.length c3], [vs a4 to1.length c4]]) hI gn rfl rfl u104 info_42 rfl ⟨rfl, et, ⟨rfl, et, trivial⟩⟩ (by kernel_rfl) ⟨⟨a3, c3, rfl, hI.get (.s (.s (.s .z)))⟩, ⟨⟨a4, c4, rfl, hI.get (.s (.s (.s (.s .z))))⟩, trivial⟩⟩ rfl rfl rfl ?_
 clear hI; intro b2 c7 w2 hI
 refine sa ?_
 refine nk (c_join (α := Unit) (fun _ => ⟨123, []⟩) (fun _ => [(1, vs a2 dims1.length c2), (2, vs a3 from1.length c3), (3, vs a4 to1.length c4), (4, vp b1 0)]) (fun _ => fun w => ∃ C, Bun noM F w0 C w [] [Cl.sl (cInt .i64) a2 c2 dims1, Cl.sl (cInt .i64) a3 c3 from1, Cl.sl (cInt .i64) a4 c4 to1, Cl.blk b1 24 #[vs a1 m1.Dims.length c1], Cl.sl (cInt .i64) a1 c1 m1.Dims] ∧ m_ref53_specs_j1 dims1 from1 m1 to1 = some r) ?_ ?_)
 ·clear h hI; rintro _ w3 ⟨c8, hI, h⟩
  try dsimp only at hI h
  rw [m_ref53_specs_j1] at h
  refine c_sub (e := [(1, vs a2 dims1.length c2), (2, vs a3 from1.length c3), (3, vs a4 to1.length c4), (4, vp b1 0)]) ⟨rfl, rfl, rfl, rfl, trivial⟩ ?_
  refine sr (sac ?_)
  refine nk (c_join (α := (List Int) × (Option Addr) × Nat) (fun _ => ⟨123, []⟩) (fun x => [(3, vs a4 to1.length c4), (4, vp b1 0), (12, vs (x.2.1) (x.1).length (x.2.2))]) (fun x => fun w => ∃ C, Bun noM F w0 C w [MO.row (cInt .i64) 3 (x.2.1) (x.2.2) (x.1)] [Cl.sl (cInt .i64) a4 c4 to1, Cl.blk b1 24 #[vs a1 m1.Dims.length c1], Cl.sl (cInt .i64) a1 c1 m1.Dims] ∧ m_ref53_specs_j2 to1 m1 (x.1) = some r) ?_ ?_)
  ·clear h hI; rintro ⟨all1, a5, c9⟩ w4 ⟨c10, hI, h⟩
   try dsimp only at hI h
   rw [m_ref53_specs_j2] at h
   refine c_sub (e := [(3, vs a4 to1.length c4), (4, vp b1 0), (12, vs a5 all1.length c9)]) ⟨rfl, rfl, rfl, trivial⟩ ?_
   refine c_seq (sr (sm ?_))
   obtain ⟨r1, hx1, h⟩ := bnd_some h
   refine s_call gn rfl (r_callF (vs := [vs a5 all1.length c9]) rfl ok_57 ⟨et, trivial⟩) (Calls.mono (c_ref12_Shape noM w4 (fun _ k => k.elim) all1 a5 c9 ⟨hI.lend .z, trivial⟩ r1 hx1) ?_)
   rintro _ w5 ⟨rfl, hx2, hl1⟩
   refine ⟨_, rfl, ?_⟩
   replace hI := (hI.ext hx2)
   refine sa ?_
   refine nk (sr (sm ?_))
   refine sq (y_neq rfl et ev_const) ?_
   refine nk (cif h et (fun hb h => ?_) (fun hb h => ?_))
   ·refine sr (sm ?_)
    refine sa ?_
    refine nk (c_ret ?_)
    obtain rfl := some_inj h
    exact q_ret (vs := [vi r1]) Tryz.results54 ⟨ev_tmp rfl rfl, trivial⟩ (fq hI trivial)
   refine c_skip (k_same (c_seq (sr (sac ?_))))
   refine nk (c_block (c_loop (α := Nat × Int) (fun x => fun w => ∃ C, Bun noM F w0 C w [MO.row (cInt .i64) 3 a5 c9 all1] [Cl.sl (cInt .i64) a4 c4 to1, Cl.blk b1 24 #[vs a1 m1.Dims.length c1], Cl.sl (cInt .i64) a1 c1 m1.Dims] ∧ m_ref53_specs_l1 all1 to1 m1 (x.1) (x.2) = some r) (fun x _ => x.1) (fun x => [(3, vs a4 to1.length c4), (4, vp b1 0), (12, vs a5 all1.length c9), (16, vi (x.2))]) (fu, 0) ⟨_, hI.arr (.c .z .n) ⟨.z, (.s .z), (.s (.s .z)), trivial⟩, h⟩ ⟨rfl, rfl, rfl, rfl, trivial⟩ ?_))
   clear h hI; rintro ⟨fuel1, i1⟩ w6 ⟨c11, hI, h⟩
   dsimp only at hI h
   rcases fuel1 with _ | fuel1
   ·rw [m_ref53_specs_l1] at h; cases h
   rw [m_ref53_specs_l1] at h
   refine c_sub (e := [(3, vs a4 to1.length c4), (4, vp b1 0), (12, vs a5 all1.length c9), (16, vi i1)]) ⟨rfl, rfl, rfl, rfl, trivial⟩ ?_
   refine c_seq (sr (sm ?_))
   refine sm ?_
   refine sq (y_lenl rfl u22 et) ?_
   refine sq (y_lss rfl et et) ?_
   refine nk (cif h et (fun hb h => ?_) (fun hb h => ?_))
   ·refine c_skip (k_same (c_seq (c_block (c_seq (c_drawX [] false (.c (0, .q) (.c (1, .q) (.c (2, .q) (.c (3, .q) (.c (4, .q) (.c (5, .q) (.c (6, .q) (.c (7, .q) (.c (8, .q) (.c (9, .q) (.c (10, .q) (.c (11, .q) (.c (12, .q) (.c (13, .q) (.c (14, .q) (.c (15, .q) (.c (16, .q) (.c (17, .q) (.c (18, .q) (.c (19, .q) (.c (20, .q) .n))))))))))))))))))))) hI (by kernel_rfl) (by kernel_rfl) ?_)))))
    clear hI; intro w7 hI
    refine a_q rfl gn rfl (fun w' => y_move rfl et) ?_
    refine a_q rfl gn rfl (fun w' => y_move rfl et) ?_
    obtain ⟨e1, hx3, h⟩ := bnd_some h
    obtain ⟨ad1, cs1, hA1, hr1, hq1⟩ := hI.clat .z hx3
    obtain rfl : cs1 = [vi e1] := hr1
    refine a_q rfl gn rfl (fun w' => y_indexAddr rfl u42 size_3 et et (lat_bd hx3) hA1) ?_
    refine a_read rfl gn rfl (fun w' hw' => (y_load1 (v := (vi e1)) rfl et u3 rfl (hq1.at_ (SX.any rfl hw')))) (by kernel_rfl) ?_
    refine a_q rfl gn rfl (fun w' => y_geq rfl et ev_const) ?_
    refine a_q rfl gn rfl (fun w' => y_move rfl et) ?_
    refine a_gval rfl (g_true rfl rfl rfl rfl) rfl (fun hc => fun w' => (y_move rfl et)) ?_
    refine a_gval rfl (g_true rfl rfl rfl rfl) rfl (fun hc => fun w' => (y_move rfl et)) ?_
    obtain ⟨e2, hx4, h⟩ := bnd_some h
    replace hx4 := gd_some hx4
    obtain ⟨ad2, cs2, hq2⟩ := hI.golat .z hx4
    have hq3 : (decide (0 ≤ e1)) = true → CA noM w7 (ad2.add (Int.toNat i1 * 1)) [vi e2] := fun hc => by have k := hq2 hc; have e : cs2 = _ := k.2.1; rw [← e]; exact k.2.2
    refine a_gval rfl (g_true rfl rfl rfl rfl) rfl (fun hc => fun w' => (y_indexAddr rfl u22 size_3 (ev_gv et hc) (ev_gv et hc) (lat_bd (hx4 hc)) (hq2 hc).1)) ?_
    refine a_gread rfl (g_true rfl rfl rfl rfl) rfl (fun hc => fun w' hw' => (y_load1 (v := (vi e2)) rfl (ev_gv et hc) u3 rfl ((hq3 hc).at_ (SX.any rfl hw')))) (by kernel_rfl) ?_
    refine a_gval rfl (g_true rfl rfl rfl rfl) rfl (fun hc => fun w' => (y_fieldAddr rfl et u24 rfl size_22 rfl)) ?_
    refine a_gread rfl (g_true rfl rfl rfl rfl) rfl (fun hc => fun w' hw' => (y_load1 (v := (vs a1 m1.Dims.length c1)) rfl (ev_gv et hc) u22 rfl ((hI.kblk (l := [vs a1 m1.Dims.length c1]) (.s .z) rfl).at_ (SX.any rfl hw')))) (by kernel_rfl) ?_
    refine a_gval rfl (g_true rfl rfl rfl rfl) rfl (fun hc => fun w' => (y_move rfl et)) ?_
    refine a_gval rfl (g_true rfl rfl rfl rfl) rfl (fun hc => fun w' => (y_move rfl et)) ?_
    obtain ⟨e3, hx5, h⟩ := bnd_some h
    replace hx5 := gd_some hx5
    obtain ⟨ad3, cs3, hq4⟩ := hI.gclat .z hx5
    have hq5 : (decide (0 ≤ e1)) = true → CA (Dj F c11) w7 (ad3.add (Int.toNat i1 * 1)) [vi e3] := fun hc => by have k := hq4 hc; have e : cs3 = _ := k.2.1; rw [← e]; exact k.2.2
    refine a_gval rfl (g_true rfl rfl rfl rfl) rfl (fun hc => fun w' => (y_indexAddr rfl u42 size_3 (ev_gv et hc) (ev_gv et hc) (lat_bd (hx5 hc)) (hq4 hc).1)) ?_
    refine a_gread rfl (g_true rfl rfl rfl rfl) rfl (fun hc => fun w' hw' => (y_load1 (v := (vi e3)) rfl (ev_gv et hc) u3 rfl ((hq5 hc).at_ (SX.any rfl hw')))) (by kernel_rfl) ?_
    obtain ⟨e4, hx6, h⟩ := bnd_some h
    replace hx6 := gd_some hx6
    obtain ⟨ad4, cs4, hq6⟩ := hI.gclat (.s (.s .z)) hx6
    have hq7 : (decide (0 ≤ e1)) = true → CA (Dj F c11) w7 (ad4.add (Int.toNat e3 * 1)) [vi e4] := fun hc => by have k := hq6 hc; have e : cs4 = _ := k.2.1; rw [← e]; exact k.2.2
    refine a_gval rfl (g_true rfl rfl rfl rfl) rfl (fun hc => fun w' => (y_indexAddr rfl u22 size_3 (ev_gv et hc) (ev_gv et hc) (lat_bd (hx6 hc)) (hq6 hc).1)) ?_
    refine a_gread rfl (g_true rfl rfl rfl rfl) rfl (fun hc => fun w' hw' => (y_load1 (v := (vi e4)) rfl (ev_gv et hc) u3 rfl ((hq7 hc).at_ (SX.any rfl hw')))) (by kernel_rfl) ?_
    obtain ⟨ho1, h⟩ := chk_some h
    refine a_gval rfl (g_true rfl rfl rfl rfl) rfl (fun hc => fun w' => (y_rem rfl (ev_gv et hc) (ev_gv et hc) (ho1 hc))) ?_
    refine a_gval rfl (g_true rfl rfl rfl rfl) rfl (fun hc => fun w' => (y_neq rfl (ev_gv et hc) ev_const)) ?_
    refine a_q rfl gn rfl (fun w' => y_and rfl et et) ?_
    refine a_nil ?_
    refine k_next (e := [(3, vs a4 to1.length c4), (4, vp b1 0), (12, vs a5 all1.length c9), (16, vi i1), (122, (vb ((decide (0 ≤ e1)) && (!decide (Int.tmod e2 e4 = 0)))))]) ⟨rfl, rfl, rfl, rfl, rfl, trivial⟩ ?_
    refine cif h et (fun hb h => ?_) (fun hb h => ?_)
    ·refine sr (sac ?_)
     refine nk (c_ret ?_)
     obtain rfl := some_inj h
     exact q_ret (vs := [vi 15]) Tryz.results54 ⟨ev_tmp rfl rfl, trivial⟩ (fq hI trivial)
    refine c_skip (k_same (c_region rfl ?_))
    refine sm ?_
    refine sq (y_add rfl et ev_const) ?_
    refine sa ?_
    refine s_nil ?_
    exact k_loop (fuel1, wi64 (i1 + 1)) ⟨rfl, rfl, rfl, rfl, trivial⟩ ⟨_, hI.arr (.c .z .n) ⟨.z, (.s .z), (.s (.s .z)), trivial⟩, h⟩ (Nat.lt_succ_self _)
   refine c_exit ?_
   refine k_in ?_
   refine k_same (sr (sac ?_))
   refine nk (c_ret ?_)
   obtain rfl := some_inj h
   exact q_ret (vs := [vi 0]) Tryz.results54 ⟨ev_tmp rfl rfl, trivial⟩ (fq hI trivial)
  refine sr (sac ?_)
  refine nk (c_block ?_)
  have hI := hI.nil (cInt .i64) 3 none
  refine c_loop (α := Nat × (List Int) × Int × (Option Addr) × Nat) (fun x => fun w => ∃ C, Bun noM F w0 C w [MO.row (cInt .i64) 3 (x.2.2.2.1) (x.2.2.2.2) (x.2.1)] [Cl.sl (cInt .i64) a2 c2 dims1, Cl.sl (cInt .i64) a3 c3 from1, Cl.sl (cInt .i64) a4 c4 to1, Cl.blk b1 24 #[vs a1 m1.Dims.length c1], Cl.sl (cInt .i64) a1 c1 m1.Dims] ∧ m_ref53_specs_l2 dims1 from1 m1 to1 (x.1) (x.2.1) (x.2.2.1) = some r) (fun x _ => x.1) (fun x => [(1, vs a2 dims1.length c2), (2, vs a3 from1.length c3), (3, vs a4 to1.length c4), (4, vp b1 0), (12, vs (x.2.2.2.1) (x.2.1).length (x.2.2.2.2)), (13, vi (x.2.2.1))]) (fu, ([] : List Int), 0, none, 0) ⟨_, hI.arr (.c .z .n) ⟨.z, (.s .z), (.s (.s .z)), (.s (.s (.s .z))), (.s (.s (.s (.s .z)))), trivial⟩, h⟩ ⟨rfl, rfl, rfl, rfl, rfl, rfl, trivial⟩ ?_
  clear h hI; rintro ⟨fuel2, all2, i2, a6, c12⟩ w8 ⟨c13, hI, h⟩
  dsimp only at hI h
  rcases fuel2 with _ | fuel2
  ·rw [m_ref53_specs_l2] at h; cases h
  rw [m_ref53_specs_l2] at h
  refine c_sub (e := [(1, vs a2 dims1.length c2), (2, vs a3 from1.length c3), (3, vs a4 to1.length c4), (4, vp b1 0), (12, vs a6 all2.length c12), (13, vi i2)]) ⟨rfl, rfl, rfl, rfl, rfl, rfl, trivial⟩ ?_
  refine c_seq (sr (sm ?_))
  refine sm ?_
  refine sq (y_lenl rfl u22 et) ?_
  refine sq (y_lss rfl et et) ?_
  refine nk (cif h et (fun hb h => ?_) (fun hb h => ?_))
  ·refine c_skip (k_same (c_seq (c_block (sr (sm ?_)))))
   refine sm ?_
   obtain ⟨e5, hx7, h⟩ := bnd_some h
   obtain ⟨ad5, cs5, hA5, hr5, hq8⟩ := hI.clat .z hx7
   obtain rfl : cs5 = [vi e5] := hr5
   refine sq (y_indexAddr rfl u22 size_3 et et (lat_bd hx7) hA5) ?_
   refine sq (y_load1 (v := (vi e5)) rfl et u3 rfl hq8.1) ?_
   refine sa ?_
   refine nk (c_join (α := Int) (fun _ => ⟨123, []⟩) (fun x => [(1, vs a2 dims1.length c2), (2, vs a3 from1.length c3), (3, vs a4 to1.length c4), (4, vp b1 0), (12, vs a6 all2.length c12), (13, vi i2), (14, vi x)]) (fun x => fun w => ∃ C, Bun noM F w0 C w [MO.row (cInt .i64) 3 a6 c12 all2] [Cl.sl (cInt .i64) a2 c2 dims1, Cl.sl (cInt .i64) a3 c3 from1, Cl.sl (cInt .i64) a4 c4 to1, Cl.blk b1 24 #[vs a1 m1.Dims.length c1], Cl.sl (cInt .i64) a1 c1 m1.Dims] ∧ m_ref53_specs_j3 all2 (m_ref53_specs_l2 dims1 from1 m1 to1 fuel2) i2 x = some r) ?_ ?_)
   ·clear h hI; rintro n1 w9 ⟨c14, hI, h⟩
    try dsimp only at hI h
    rw [m_ref53_specs_j3] at h
    refine c_sub (e := [(1, vs a2 dims1.length c2), (2, vs a3 from1.length c3), (3, vs a4 to1.length c4), (4, vp b1 0), (12, vs a6 all2.length c12), (13, vi i2), (14, vi n1)]) ⟨rfl, rfl, rfl, rfl, rfl, rfl, rfl, trivial⟩ ?_
    refine c_region rfl ?_
    refine sm ?_
    refine sm ?_
    refine l_lit (c := (cInt .i64)) (xs := ([n1] : List Int)) (vs := [(0, vi n1)]) (cs := #[vi n1]) (css := [[vi n1]]) hI gn rfl rfl u22 info_3 rfl ⟨rfl, et, trivial⟩ (by kernel_rfl) ⟨rfl, trivial⟩ rfl rfl rfl ?_
    clear hI; intro b3 c15 w10 hI
    obtain ⟨zs1, hx8, h⟩ := bnd_some h
    refine l_append (xs := all2) (ys := ([n1] : List Int)) hI (.s .z) (hI.rd .z) hx8 gn rfl rfl u22 info_3 rfl rfl et et ?_
    clear hI; intro a7 c16 c17 w11 hI
    refine sa ?_
    refine nk (c_region rfl ?_)
    refine sm ?_
    refine sq (y_add rfl et ev_const) ?_
    refine sa ?_
    refine s_nil ?_
    exact k_loop (fuel2, zs1, wi64 (i2 + 1), a7, c16) ⟨rfl, rfl, rfl, rfl, rfl, rfl, trivial⟩ ⟨_, hI.arr (.c (.s .z) .n) ⟨.z, (.s .z), (.s (.s .z)), (.s (.s (.s .z))), (.s (.s (.s (.s .z)))), trivial⟩, h⟩ (Nat.lt_succ_self _)
   refine sr (sm ?_)
   refine sm ?_
   obtain ⟨e6, hx9, h⟩ := bnd_some h
   obtain ⟨ad6, cs6, hA6, hr6, hq9⟩ := hI.clat (.s .z) hx9
   obtain rfl : cs6 = [vi e6] := hr6
   refine sq (y_indexAddr rfl u42 size_3 et et (lat_bd hx9) hA6) ?_
   refine sq (y_load1 (v := (vi e6)) rfl et u3 rfl hq9.1) ?_
   refine sq (y_geq rfl et ev_const) ?_
   refine nk (cif h et (fun hb h => ?_) (fun hb h => ?_))
   ·refine c_drawX [] false (.c (0, .q) (.c (1, .q) (.c (2, .q) (.c (3, .q) (.c (4, .q) (.c (5, .q) (.c (6, .q) (.c (7, .q) (.c (8, .q) (.c (9, .q) (.c (10, .q) .n))))))))))) hI (by kernel_rfl) (by kernel_rfl) ?_
    clear hI; intro w12 hI
    refine a_q rfl gn rfl (fun w' => y_move rfl et) ?_
    refine a_q rfl gn rfl (fun w' => y_fieldAddr rfl et u24 rfl size_22 rfl) ?_
    refine a_read rfl gn rfl (fun w' hw' => (y_load1 (v := (vs a1 m1.Dims.length c1)) rfl et u22 rfl ((hI.kblk (l := [vs a1 m1.Dims.length c1]) (.s (.s (.s .z))) rfl).at_ (SX.any rfl hw')))) (by kernel_rfl) ?_
    refine a_q rfl gn rfl (fun w' => y_move rfl et) ?_
    refine a_q rfl gn rfl (fun w' => y_move rfl et) ?_
    obtain ⟨e7, hx10, h⟩ := bnd_some h
    obtain ⟨ad7, cs7, hA7, hr7, hq10⟩ := hI.clat (.s .z) hx10
    obtain rfl : cs7 = [vi e7] := hr7
    refine a_q rfl gn rfl (fun w' => y_indexAddr rfl u42 size_3 et et (lat_bd hx10) hA7) ?_
    refine a_read rfl gn rfl (fun w' hw' => (y_load1 (v := (vi e7)) rfl et u3 rfl (hq10.at_ (SX.any rfl hw')))) (by kernel_rfl) ?_
    obtain ⟨e8, hx11, h⟩ := bnd_some h
    obtain ⟨ad8, cs8, hA8, hr8, hq11⟩ := hI.clat (.s (.s (.s (.s .z)))) hx11
    obtain rfl : cs8 = [vi e8] := hr8
    refine a_q rfl gn rfl (fun w' => y_indexAddr rfl u22 size_3 et et (lat_bd hx11) hA8) ?_
    refine a_read rfl gn rfl (fun w' hw' => (y_load1 (v := (vi e8)) rfl et u3 rfl (hq11.at_ (SX.any rfl hw')))) (by kernel_rfl) ?_
    refine a_q rfl gn rfl (fun w' => y_mul rfl et et) ?_
    refine a_q rfl gn rfl (fun w' => y_assign rfl et) ?_
    refine a_nil ?_
    exact k_join (wi64 (e5 * e8)) ⟨rfl, rfl, rfl, rfl, rfl, rfl, rfl, trivial⟩ ⟨_, hI.arr (.c .z .n) ⟨.z, (.s .z), (.s (.s .z)), (.s (.s (.s .z))), (.s (.s (.s (.s .z)))), trivial⟩, h⟩ rfl
   exact c_skip (k_join e5 ⟨rfl, rfl, rfl, rfl, rfl, rfl, rfl, trivial⟩ ⟨_, hI.arr (.c .z .n) ⟨.z, (.s .z), (.s (.s .z)), (.s (.s (.s .z))), (.s (.s (.s (.s .z)))), trivial⟩, h⟩ rfl)
  refine c_exit ?_
  refine k_in ?_
  exact k_join (all2, a6, c12) ⟨rfl, rfl, rfl, trivial⟩ ⟨_, hI.arr (.c .z .n) ⟨(.s (.s .z)), (.s (.s (.s .z))), (.s (.s (.s (.s .z)))), trivial⟩, h⟩ rfl
 refine sr (sac ?_)
 refine nk (c_block (c_loop (α := Nat × Int) (fun x => fun w => ∃ C, Bun noM F w0 C w [MO.row (cSl (cInt .i64)) 42 (some ⟨b2, 0, none⟩) 2 ([from1, to1] : List (List Int))] [Cl.sl (cInt .i64) a2 c2 dims1, Cl.sl (cInt .i64) a3 c3 from1, Cl.sl (cInt .i64) a4 c4 to1, Cl.blk b1 24 #[vs a1 m1.Dims.length c1], Cl.sl (cInt .i64) a1 c1 m1.Dims] ∧ m_ref53_specs_l3 from1 to1 dims1 m1 (x.1) (x.2) = some r) (fun x _ => x.1) (fun x => [(1, vs a2 dims1.length c2), (2, vs a3 from1.length c3), (3, vs a4 to1.length c4), (4, vp b1 0), (9, (vs (some ⟨b2, 0, none⟩) ([from1, to1] : List (List Int)).length 2)), (10, vi (x.2))]) (fu, 0) ⟨_, hI.arr (.c .z .n) ⟨(.s (.s .z)), (.s (.s (.s .z))), (.s (.s (.s (.s .z)))), .z, (.s .z), trivial⟩, h⟩ ⟨rfl, rfl, rfl, rfl, rfl, rfl, trivial⟩ ?_))
 clear h hI; rintro ⟨fuel3, i3⟩ w13 ⟨c18, hI, h⟩
 dsimp only at hI h
 rcases fuel3 with _ | fuel3
 ·rw [m_ref53_specs_l3] at h; cases h
 rw [m_ref53_specs_l3] at h
 refine c_sub (e := [(1, vs a2 dims1.length c2), (2, vs a3 from1.length c3), (3, vs a4 to1.length c4), (4, vp b1 0), (9, (vs (some ⟨b2, 0, none⟩) ([from1, to1] : List (List Int)).length 2)), (10, vi i3)]) ⟨rfl, rfl, rfl, rfl, rfl, rfl, trivial⟩ ?_
 refine c_seq (sr (sm ?_))
 refine sm ?_
 refine sq (y_lenl rfl u104 et) ?_
 refine sq (y_lss rfl et et) ?_
 refine nk (cif h et (fun hb h => ?_) (fun hb h => ?_))
 ·refine c_skip (k_same (c_join (α := Unit) (fun _ => ⟨123, []⟩) (fun _ => [(1, vs a2 dims1.length c2), (2, vs a3 from1.length c3), (3, vs a4 to1.length c4), (4, vp b1 0), (9, (vs (some ⟨b2, 0, none⟩) ([from1, to1] : List (List Int)).length 2)), (10, vi i3)]) (fun _ => fun w => ∃ C, Bun noM F w0 C w [MO.row (cSl (cInt .i64)) 42 (some ⟨b2, 0, none⟩) 2 ([from1, to1] : List (List Int))] [Cl.sl (cInt .i64) a2 c2 dims1, Cl.sl (cInt .i64) a3 c3 from1, Cl.sl (cInt .i64) a4 c4 to1, Cl.blk b1 24 #[vs a1 m1.Dims.length c1], Cl.sl (cInt .i64) a1 c1 m1.Dims] ∧ m_ref53_specs_j4 (m_ref53_specs_l3 from1 to1 dims1 m1 fuel3) i3 = some r) ?_ ?_))
  ·clear h hI; rintro _ w14 ⟨c19, hI, h⟩
   try dsimp only at hI h
   rw [m_ref53_specs_j4] at h
   refine c_sub (e := [(1, vs a2 dims1.length c2), (2, vs a3 from1.length c3), (3, vs a4 to1.length c4), (4, vp b1 0), (9, (vs (some ⟨b2, 0, none⟩) ([from1, to1] : List (List Int)).length 2)), (10, vi i3)]) ⟨rfl, rfl, rfl, rfl, rfl, rfl, trivial⟩ ?_
   refine c_region rfl ?_
   refine sm ?_
   refine sq (y_add rfl et ev_const) ?_
   refine sa ?_
   refine s_nil ?_
   exact k_loop (fuel3, wi64 (i3 + 1)) ⟨rfl, rfl, rfl, rfl, rfl, rfl, trivial⟩ ⟨_, hI.arr (.c .z .n) ⟨.z, (.s .z), (.s (.s .z)), (.s (.s (.s .z))), (.s (.s (.s (.s .z)))), trivial⟩, h⟩ (Nat.lt_succ_self _)
  refine c_block (c_seq (sr (sm ?_)))
  refine sm ?_
  obtain ⟨e9, hx12, h⟩ := bnd_some h
  obtain ⟨ad9, cs9, hA9, hr9, hq12⟩ := hI.olat .z hx12
  obtain ⟨a8, c20, rfl, hf1⟩ := hr9
  have hI := hI.add (c := Cl.sl (cInt .i64) a8 c20 e9) hf1
  refine sq (y_indexAddr rfl u104 size_42 et et (lat_bd hx12) hA9) ?_
  refine sq (y_load1 (v := (vs a8 e9.length c20)) rfl et u42 rfl hq12.1) ?_
  refine sq (y_lenl rfl u42 et) ?_
  refine sm ?_
  refine sq (y_lenl rfl u22 et) ?_
  refine sq (y_neq rfl et et) ?_
  refine sm ?_
  refine s_gval (g_false rfl rfl rfl rfl) rfl (fun hc => y_move rfl et) ?_
  refine s_gval (g_false rfl rfl rfl rfl) rfl (fun hc => y_move rfl et) ?_
  obtain ⟨e10, hx13, h⟩ := bnd_some h
  replace hx13 := gd_some hx13
  obtain ⟨ad10, cs10, hq13⟩ := hI.golat .z hx13
  obtain ⟨a9, c21, hq14⟩ : ∃ (a9 : Option Addr) (c21 : Nat), (!(!decide ((e9.length : Int) = (dims1.length : Int)))) = true → (some ⟨b2, 0, none⟩ = some ad10 ∧ cs10 = [vs a9 e10.length c21] ∧ CA noM w13 (ad10.add (Int.toNat i3 * 1)) cs10 ∧ SlC (cInt .i64) (Dj F c18) w13 a9 c21 e10) := by
   by_cases hc : (!(!decide ((e9.length : Int) = (dims1.length : Int)))) = true
   ·obtain ⟨k1, k2, k3⟩ := hq13 hc; obtain ⟨a9, c21, rfl, hf2⟩ := k2; exact ⟨a9, c21, fun _ => ⟨k1, rfl, k3, hf2⟩⟩
   exact ⟨default, default, fun k => absurd k hc⟩
  clear hq13
  have hI := hI.add (c := Cl.gsl (!(!decide ((e9.length : Int) = (dims1.length : Int)))) (cInt .i64) a9 c21 e10) (fun hc => (hq14 hc).2.2.2)
  have hq15 : (!(!decide ((e9.length : Int) = (dims1.length : Int)))) = true → CA noM w13 (ad10.add (Int.toNat i3 * 1)) [vs a9 e10.length c21] := fun hc => by have k := hq14 hc; have e : cs10 = _ := k.2.1; rw [← e]; exact k.2.2.1
  refine s_gval (g_false rfl rfl rfl rfl) rfl (fun hc => (y_indexAddr rfl u104 size_42 (ev_gv et hc) (ev_gv et hc) (lat_bd (hx13 hc)) (hq14 hc).1)) ?_
  refine s_gval (g_false rfl rfl rfl rfl) rfl (fun hc => (y_load1 (v := (vs a9 e10.length c21)) rfl (ev_gv et hc) u42 rfl (hq15 hc).1)) ?_
  obtain ⟨r2, hx14, h⟩ := bnd_some h
  replace hx14 := gd_some hx14
  refine s_gcallU (v := (vb r2)) (g_false rfl rfl rfl rfl) rfl (fun hc => (r_callF (vs := [vs a9 e10.length c21]) rfl ok_60 ⟨(ev_gv et hc), trivial⟩)) (fun hc => (c_ref53_Plain (Dj F c18) w13 hI.lt e10 a9 c21 ⟨(hI.get .z hc), trivial⟩ r2 (hx14 hc)).mono fun _ _ k => ⟨k.1, k.2.1⟩) ?_
  intro w15 hx15; replace hI := hI.ext hx15
  refine s_gval (g_false rfl rfl rfl rfl) rfl (fun hc => y_not rfl (ev_gv et hc)) ?_
  refine sq (y_or rfl et et) ?_
  refine nk (cif h et (fun hb h => ?_) (fun hb h => ?_))
  ·refine sr (sac ?_)
   refine s_nil ?_
   refine k_next (e := [(8, vi 24)]) ⟨rfl, trivial⟩ ?_
   refine c_ret ?_
   obtain rfl := some_inj h
   exact q_ret (vs := [vi 24]) Tryz.results54 ⟨ev_tmp rfl rfl, trivial⟩ (fq hI trivial)
  refine c_skip (k_same (sr (sac ?_)))
  refine nk (c_block (c_loop (α := Nat × Int) (fun x => fun w => ∃ C, Bun noM F w0 C w [MO.row (cSl (cInt .i64)) 42 (some ⟨b2, 0, none⟩) 2 ([from1, to1] : List (List Int))] [Cl.sl (cInt .i64) a2 c2 dims1, Cl.sl (cInt .i64) a3 c3 from1, Cl.sl (cInt .i64) a4 c4 to1, Cl.blk b1 24 #[vs a1 m1.Dims.length c1], Cl.sl (cInt .i64) a1 c1 m1.Dims] ∧ m_ref53_specs_l4 from1 to1 i3 m1 (m_ref53_specs_l3 from1 to1 dims1 m1 fuel3) (x.1) (x.2) = some r) (fun x _ => x.1) (fun x => [(1, vs a2 dims1.length c2), (2, vs a3 from1.length c3), (3, vs a4 to1.length c4), (4, vp b1 0), (9, (vs (some ⟨b2, 0, none⟩) ([from1, to1] : List (List Int)).length 2)), (10, vi i3), (11, vi (x.2))]) (fu, 0) ⟨_, hI.arr (.c .z .n) ⟨(.s (.s .z)), (.s (.s (.s .z))), (.s (.s (.s (.s .z)))), (.s (.s (.s (.s (.s .z))))), (.s (.s (.s (.s (.s (.s .z)))))), trivial⟩, h⟩ ⟨rfl, rfl, rfl, rfl, rfl, rfl, rfl, trivial⟩ ?_))
  clear h hI; rintro ⟨fuel4, k1⟩ w16 ⟨c22, hI, h⟩
  dsimp only at hI h
  rcases fuel4 with _ | fuel4
  ·rw [m_ref53_specs_l4] at h; cases h
  rw [m_ref53_specs_l4] at h
  refine c_sub (e := [(1, vs a2 dims1.length c2), (2, vs a3 from1.length c3), (3, vs a4 to1.length c4), (4, vp b1 0), (9, (vs (some ⟨b2, 0, none⟩) ([from1, to1] : List (List Int)).length 2)), (10, vi i3), (11, vi k1)]) ⟨rfl, rfl, rfl, rfl, rfl, rfl, rfl, trivial⟩ ?_
  refine c_seq (sr (sm ?_))
  refine sm ?_
  refine sm ?_
  obtain ⟨e11, hx16, h⟩ := bnd_some h
  obtain ⟨ad11, cs11, hA11, hr11, hq16⟩ := hI.olat .z hx16
  obtain ⟨a10, c23, rfl, hf3⟩ := hr11
  have hI := hI.add (c := Cl.sl (cInt .i64) a10 c23 e11) hf3
  refine sq (y_indexAddr rfl u104 size_42 et et (lat_bd hx16) hA11) ?_
  refine sq (y_load1 (v := (vs a10 e11.length c23)) rfl et u42 rfl hq16.1) ?_
  refine sq (y_lenl rfl u42 et) ?_
  refine sq (y_lss rfl et et) ?_
  refine nk (cif h et (fun hb h => ?_) (fun hb h => ?_))
  ·refine c_skip (k_same (c_seq (c_block (c_seq (c_drawX [] false (.c (0, .q) (.c (1, .q) (.c (2, .q) (.c (3, .q) (.c (4, .q) (.c (5, .q) (.c (6, .q) (.c (7, .q) (.c (8, .q) (.c (9, .q) (.c (10, .q) .n))))))))))) hI (by kernel_rfl) (by kernel_rfl) ?_)))))
   clear hI; intro w17 hI
   refine a_q rfl gn rfl (fun w' => y_move rfl et) ?_
   refine a_q rfl gn rfl (fun w' => y_move rfl et) ?_
   obtain ⟨e12, hx17, h⟩ := bnd_some h
   obtain ⟨ad12, cs12, hA12, hr12, hq17⟩ := hI.olat .z hx17
   obtain ⟨a11, c24, rfl, hf4⟩ := hr12
   have hI := hI.add (c := Cl.sl (cInt .i64) a11 c24 e12) hf4
   refine a_q rfl gn rfl (fun w' => y_indexAddr rfl u104 size_42 et et (lat_bd hx17) hA12) ?_
   refine a_read rfl gn rfl (fun w' hw' => (y_load1 (v := (vs a11 e12.length c24)) rfl et u42 rfl (hq17.at_ (SX.any rfl hw')))) (by kernel_rfl) ?_
   refine a_q rfl gn rfl (fun w' => y_move rfl et) ?_
   obtain ⟨e13, hx18, h⟩ := bnd_some h
   obtain ⟨ad13, cs13, hA13, hr13, hq18⟩ := hI.clat .z hx18
   obtain rfl : cs13 = [vi e13] := hr13
   refine a_q rfl gn rfl (fun w' => y_indexAddr rfl u42 size_3 et et (lat_bd hx18) hA13) ?_
   refine a_read rfl gn rfl (fun w' hw' => (y_load1 (v := (vi e13)) rfl et u3 rfl (hq18.at_ (SX.any rfl hw')))) (by kernel_rfl) ?_
   refine a_q rfl gn rfl (fun w' => y_fieldAddr rfl et u24 rfl size_22 rfl) ?_
   refine a_read rfl gn rfl (fun w' hw' => (y_load1 (v := (vs a1 m1.Dims.length c1)) rfl et u22 rfl ((hI.kblk (l := [vs a1 m1.Dims.length c1]) (.s (.s (.s (.s (.s .z))))) rfl).at_ (SX.any rfl hw')))) (by kernel_rfl) ?_
   refine a_q rfl gn rfl (fun w' => y_lenl rfl u22 et) ?_
   refine a_q rfl gn rfl (fun w' => y_geq rfl et et) ?_
   refine a_nil ?_
   refine k_same (cif h et (fun hb h => ?_) (fun hb h => ?_))
   ·refine sr (sac ?_)
    refine s_nil ?_
    refine k_next (e := [(8, vi 24)]) ⟨rfl, trivial⟩ ?_
    refine c_ret ?_
    obtain rfl := some_inj h
    exact q_ret (vs := [vi 24]) Tryz.results54 ⟨ev_tmp rfl rfl, trivial⟩ (fq hI trivial)
   refine c_skip (k_same (c_region rfl ?_))
   refine sm ?_
   refine sq (y_add rfl et ev_const) ?_
   refine sa ?_
   refine s_nil ?_
   exact k_loop (fuel4, wi64 (k1 + 1)) ⟨rfl, rfl, rfl, rfl, rfl, rfl, rfl, trivial⟩ ⟨_, hI.arr (.c .z .n) ⟨(.s (.s .z)), (.s (.s (.s .z))), (.s (.s (.s (.s .z)))), (.s (.s (.s (.s (.s .z))))), (.s (.s (.s (.s (.s (.s .z)))))), trivial⟩, h⟩ (Nat.lt_succ_self _)
  refine c_exit ?_
  refine k_in ?_
  exact k_join () ⟨rfl, rfl, rfl, rfl, rfl, rfl, trivial⟩ ⟨_, hI.arr (.c .z .n) ⟨(.s .z), (.s (.s .z)), (.s (.s (.s .z))), (.s (.s (.s (.s .z)))), (.s (.s (.s (.s (.s .z))))), trivial⟩, h⟩ rfl
 refine c_exit ?_
 refine k_in ?_
 exact k_join () ⟨rfl, rfl, rfl, rfl, trivial⟩ ⟨_, hI.arr .n ⟨.z, (.s .z), (.s (.s .z)), (.s (.s (.s .z))), (.s (.s (.s (.s .z)))), trivial⟩, h⟩ rfl
theorem c_ref53_Plan (F : NP) (w0 : World) (hF : ∀ k, F k → k < w0.heap.size) (from1 : List Int) (to1 : List Int) (a1 : Option Addr) (c1 : Nat) (a2 : Option Addr) (c2 : Nat) (hc : AllCl [Cl.sl (cInt .i64) a1 c1 from1, Cl.sl (cInt .i64) a2 c2 to1] F w0) (r : List GTransfer)
  (h : m_ref53_Plan from1 to1 = some r) :
  Calls Tryz.prog 55 #[vs a1 from1.length c1, vs a2 to1.length c2] w0 fun e w => ∃ (a3 : Option Addr) (c3 : Nat), e = .returned (vs a3 r.length c3) ∧ Ext w0 w ∧ AllCl [Cl.sl cGTransfer a3 c3 r] F w := by
 refine enterK Tryz.func55 rfl Tryz.ntmps55 rfl ?_
 have hI := Bun.start hF hc
 clear hc
 rw [m_ref53_Plan] at h
 refine sr (sac ?_)
 refine nk (c_seq (sr (sm ?_)))
 refine sq (y_lenl rfl u42 et) ?_
 refine sm ?_
 refine sq (y_lenl rfl u42 et) ?_
 refine sq (y_neq rfl et et) ?_
 refine sm ?_
 refine s_gval (g_false rfl rfl rfl rfl) rfl (fun hc => y_move rfl et) ?_
 obtain ⟨r1, hx1, h⟩ := bnd_some h
 replace hx1 := gd_some hx1
 refine s_gcallU (v := (vb r1)) (g_false rfl rfl rfl rfl) rfl (fun hc => (r_callF (vs := [vs a1 from1.length c1]) rfl ok_60 ⟨(ev_gv et hc), trivial⟩)) (fun hc => (c_ref53_Plain (Dj F noM) w0 hI.lt from1 a1 c1 ⟨(hI.get .z), trivial⟩ r1 (hx1 hc)).mono fun _ _ k => ⟨k.1, k.2.1⟩) ?_
 intro w1 hx2; replace hI := hI.ext hx2
 refine s_gval (g_false rfl rfl rfl rfl) rfl (fun hc => y_not rfl (ev_gv et hc)) ?_
 refine sq (y_or rfl et et) ?_
 refine sm ?_
 refine s_gval (g_false rfl rfl rfl rfl) rfl (fun hc => y_move rfl et) ?_
 obtain ⟨r2, hx3, h⟩ := bnd_some h
 replace hx3 := gd_some hx3
 refine s_gcallU (v := (vb r2)) (g_false rfl rfl rfl rfl) rfl (fun hc => (r_callF (vs := [vs a2 to1.length c2]) rfl ok_60 ⟨(ev_gv et hc), trivial⟩)) (fun hc => (c_ref53_Plain (Dj F noM) w1 hI.lt to1 a2 c2 ⟨(hI.get (.s .z)), trivial⟩ r2 (hx3 hc)).mono fun _ _ k => ⟨k.1, k.2.1⟩) ?_
 intro w2 hx4; replace hI := hI.ext hx4
 refine s_gval (g_false rfl rfl rfl rfl) rfl (fun hc => y_not rfl (ev_gv et hc)) ?_
 refine sq (y_or rfl et et) ?_
 refine nk (cif h et (fun hb h => ?_) (fun hb h => ?_))
 ·refine sr (sac ?_)
  refine nk (c_ret ?_)
  have hI := hI.add (c := Cl.sl cGTransfer none 0 ([] : List GTransfer)) SlC.nil
  obtain rfl := some_inj h
  exact q_ret (vs := [vs none 0 0]) Tryz.results55 ⟨ev_tmp rfl rfl, trivial⟩ ⟨none, 0, rfl, hI.ext0, hI.fin ⟨.z, trivial⟩⟩
 refine c_skip (k_same (sr (sac ?_)))
 refine nk (sr (sm ?_))
 refine sq (y_lenl rfl u42 et) ?_
 obtain ⟨zs1, hx5, h⟩ := bnd_some h
 refine l_make (c := cBool) hI hx5 gn  rfl rfl u105 info_4 rfl rfl et et rfl ?_
 clear hI; intro b1 c4 w3 hI
 refine sa ?_
 refine nk (c_join (α := (List GTransfer) × (List Bool) × (Option Addr) × Nat × (Option Addr) × Nat) (fun _ => ⟨124, []⟩) (fun x => [(0, vs a1 from1.length c1), (1, vs a2 to1.length c2), (5, vs (x.2.2.1) (x.1).length (x.2.2.2.1)), (6, vs (x.2.2.2.2.1) (x.2.1).length (x.2.2.2.2.2))]) (fun x => fun w => ∃ C, Bun noM F w0 C w [MO.row cGTransfer 54 (x.2.2.1) (x.2.2.2.1) (x.1), MO.row cBool 4 (x.2.2.2.2.1) (x.2.2.2.2.2) (x.2.1)] [Cl.sl (cInt .i64) a1 c1 from1, Cl.sl (cInt .i64) a2 c2 to1] ∧ m_ref53_Plan_j1 to1 from1 (x.1) (x.2.1) = some r) ?_ ?_)
 ·clear h hI; rintro ⟨out1, done1, a4, c5, a5, c6⟩ w4 ⟨c7, hI, h⟩
  try dsimp only at hI h
  rw [m_ref53_Plan_j1] at h
  refine c_sub (e := [(0, vs a1 from1.length c1), (1, vs a2 to1.length c2), (5, vs a4 out1.length c5), (6, vs a5 done1.length c6)]) ⟨rfl, rfl, rfl, rfl, trivial⟩ ?_
  refine c_seq (sr (sac ?_))
  refine nk (c_block (c_loop (α := Nat × (List GTransfer) × Int × (Option Addr) × Nat) (fun x => fun w => ∃ C, Bun noM F w0 C w [MO.row cGTransfer 54 (x.2.2.2.1) (x.2.2.2.2) (x.2.1), MO.row cBool 4 a5 c6 done1] [Cl.sl (cInt .i64) a1 c1 from1, Cl.sl (cInt .i64) a2 c2 to1] ∧ m_ref53_Plan_l1 to1 from1 done1 (x.1) (x.2.1) (x.2.2.1) = some r) (fun x _ => x.1) (fun x => [(0, vs a1 from1.length c1), (1, vs a2 to1.length c2), (5, vs (x.2.2.2.1) (x.2.1).length (x.2.2.2.2)), (6, vs a5 done1.length c6), (11, vi (x.2.2.1))]) (fu, out1, 0, a4, c5) ⟨_, hI.arr (.c .z (.c .z .n)) ⟨.z, (.s .z), trivial⟩, h⟩ ⟨rfl, rfl, rfl, rfl, rfl, trivial⟩ ?_))
  clear h hI; rintro ⟨fuel1, out2, j1, a6, c8⟩ w5 ⟨c9, hI, h⟩
  dsimp only at hI h
  rcases fuel1 with _ | fuel1
  ·rw [m_ref53_Plan_l1] at h; cases h
  rw [m_ref53_Plan_l1] at h
  refine c_sub (e := [(0, vs a1 from1.length c1), (1, vs a2 to1.length c2), (5, vs a6 out2.length c8), (6, vs a5 done1.length c6), (11, vi j1)]) ⟨rfl, rfl, rfl, rfl, rfl, trivial⟩ ?_
  refine c_seq (sr (sm ?_))
  refine sm ?_
  refine sq (y_lenl rfl u42 et) ?_
  refine sq (y_lss rfl et et) ?_
  refine nk (cif h et (fun hb h => ?_) (fun hb h => ?_))
  ·refine c_skip (k_same (c_join (α := (List GTransfer) × (Option Addr) × Nat) (fun _ => ⟨124, []⟩) (fun x => [(0, vs a1 from1.length c1), (1, vs a2 to1.length c2), (5, vs (x.2.1) (x.1).length (x.2.2)), (6, vs a5 done1.length c6), (11, vi j1)]) (fun x => fun w => ∃ C, Bun noM F w0 C w [MO.row cGTransfer 54 (x.2.1) (x.2.2) (x.1), MO.row cBool 4 a5 c6 done1] [Cl.sl (cInt .i64) a1 c1 from1, Cl.sl (cInt .i64) a2 c2 to1] ∧ m_ref53_Plan_j2 (m_ref53_Plan_l1 to1 from1 done1 fuel1) j1 (x.1) = some r) ?_ ?_))
   ·clear h hI; rintro ⟨out3, a7, c10⟩ w6 ⟨c11, hI, h⟩
    try dsimp only at hI h
    rw [m_ref53_Plan_j2] at h
    refine c_sub (e := [(0, vs a1 from1.length c1), (1, vs a2 to1.length c2), (5, vs a7 out3.length c10), (6, vs a5 done1.length c6), (11, vi j1)]) ⟨rfl, rfl, rfl, rfl, rfl, trivial⟩ ?_
    refine c_region rfl ?_
    refine sm ?_
    refine sq (y_add rfl et ev_const) ?_
    refine sa ?_
    refine s_nil ?_
    exact k_loop (fuel1, out3, wi64 (j1 + 1), a7, c10) ⟨rfl, rfl, rfl, rfl, rfl, trivial⟩ ⟨_, hI.arr (.c .z (.c .z .n)) ⟨.z, (.s .z), trivial⟩, h⟩ (Nat.lt_succ_self _)
   refine c_block (c_seq (c_drawX [] false (.c (0, .q) (.c (1, .q) (.c (2, .q) (.c (3, .q) (.c (4, .q) (.c (5, .q) (.c (6, .q) (.c (7, .q) (.c (8, .q) (.c (9, .q) (.c (10, .q) (.c (11, .q) (.c (12, .q) (.c (13, .q) (.c (14, .q) (.c (15, .q) (.c (16, .q) (.c (17, .q) (.c (18, .q) (.c (19, .q) (.c (20, .q) (.c (21, .q) (.c (22, .q) .n))))))))))))))))))))))) hI (by kernel_rfl) (by kernel_rfl) ?_))
   clear hI; intro w7 hI
   refine a_q rfl gn rfl (fun w' => y_move rfl et) ?_
   refine a_q rfl gn rfl (fun w' => y_move rfl et) ?_
   obtain ⟨e1, hx6, h⟩ := bnd_some h
   obtain ⟨ad1, cs1, hA1, hr1, hq1⟩ := hI.clat (.s .z) hx6
   obtain rfl : cs1 = [vi e1] := hr1
   refine a_q rfl gn rfl (fun w' => y_indexAddr rfl u42 size_3 et et (lat_bd hx6) hA1) ?_
   refine a_read rfl gn rfl (fun w' hw' => (y_load1 (v := (vi e1)) rfl et u3 rfl (hq1.at_ (SX.any rfl hw')))) (by kernel_rfl) ?_
   refine a_q rfl gn rfl (fun w' => y_geq rfl et ev_const) ?_
   refine a_q rfl gn rfl (fun w' => y_move rfl et) ?_
   refine a_gval rfl (g_true rfl rfl rfl rfl) rfl (fun hc => fun w' => (y_move rfl et)) ?_
   refine a_gval rfl (g_true rfl rfl rfl rfl) rfl (fun hc => fun w' => (y_move rfl et)) ?_
   obtain ⟨e2, hx7, h⟩ := bnd_some h
   replace hx7 := gd_some hx7
   obtain ⟨ad2, cs2, hq2⟩ := hI.gclat .z hx7
   have hq3 : (decide (0 ≤ e1)) = true → CA (Dj F c9) w7 (ad2.add (Int.toNat j1 * 1)) [vi e2] := fun hc => by have k := hq2 hc; have e : cs2 = _ := k.2.1; rw [← e]; exact k.2.2
   refine a_gval rfl (g_true rfl rfl rfl rfl) rfl (fun hc => fun w' => (y_indexAddr rfl u42 size_3 (ev_gv et hc) (ev_gv et hc) (lat_bd (hx7 hc)) (hq2 hc).1)) ?_
   refine a_gread rfl (g_true rfl rfl rfl rfl) rfl (fun hc => fun w' hw' => (y_load1 (v := (vi e2)) rfl (ev_gv et hc) u3 rfl ((hq3 hc).at_ (SX.any rfl hw')))) (by kernel_rfl) ?_
   refine a_gval rfl (g_true rfl rfl rfl rfl) rfl (fun hc => fun w' => (y_move rfl et)) ?_
   refine a_gval rfl (g_true rfl rfl rfl rfl) rfl (fun hc => fun w' => (y_move rfl et)) ?_
   obtain ⟨e3, hx8, h⟩ := bnd_some h
   replace hx8 := gd_some hx8
   obtain ⟨ad3, cs3, hq4⟩ := hI.gclat (.s .z) hx8
   have hq5 : (decide (0 ≤ e1)) = true → CA (Dj F c9) w7 (ad3.add (Int.toNat j1 * 1)) [vi e3] := fun hc => by have k := hq4 hc; have e : cs3 = _ := k.2.1; rw [← e]; exact k.2.2
   refine a_gval rfl (g_true rfl rfl rfl rfl) rfl (fun hc => fun w' => (y_indexAddr rfl u42 size_3 (ev_gv et hc) (ev_gv et hc) (lat_bd (hx8 hc)) (hq4 hc).1)) ?_
   refine a_gread rfl (g_true rfl rfl rfl rfl) rfl (fun hc => fun w' hw' => (y_load1 (v := (vi e3)) rfl (ev_gv et hc) u3 rfl ((hq5 hc).at_ (SX.any rfl hw')))) (by kernel_rfl) ?_
   refine a_gval rfl (g_true rfl rfl rfl rfl) rfl (fun hc => fun w' => (y_neq rfl (ev_gv et hc) (ev_gv et hc))) ?_
   refine a_q rfl gn rfl (fun w' => y_and rfl et et) ?_
   refine a_q rfl gn rfl (fun w' => y_move rfl et) ?_
   refine a_gval rfl (g_true rfl rfl rfl rfl) rfl (fun hc => fun w' => (y_move rfl et)) ?_
   refine a_gval rfl (g_true rfl rfl rfl rfl) rfl (fun hc => fun w' => (y_move rfl et)) ?_
   obtain ⟨e4, hx9, h⟩ := bnd_some h
   replace hx9 := gd_some hx9
   obtain ⟨ad4, cs4, hq6⟩ := hI.golat (.s .z) hx9
   have hq7 : ((decide (0 ≤ e1)) && (!decide (e2 = e3))) = true → CA noM w7 (ad4.add (Int.toNat j1 * 1)) [vb e4] := fun hc => by have k := hq6 hc; have e : cs4 = _ := k.2.1; rw [← e]; exact k.2.2
   refine a_gval rfl (g_true rfl rfl rfl rfl) rfl (fun hc => fun w' => (y_indexAddr rfl u105 size_4 (ev_gv et hc) (ev_gv et hc) (lat_bd (hx9 hc)) (hq6 hc).1)) ?_
   refine a_gread rfl (g_true rfl rfl rfl rfl) rfl (fun hc => fun w' hw' => (y_load1 (v := (vb e4)) rfl (ev_gv et hc) u4 rfl ((hq7 hc).at_ (SX.any rfl hw')))) (by kernel_rfl) ?_
   refine a_gval rfl (g_true rfl rfl rfl rfl) rfl (fun hc => fun w' => (y_not rfl (ev_gv et hc))) ?_
   refine a_q rfl gn rfl (fun w' => y_and rfl et et) ?_
   refine a_nil ?_
   refine k_next (e := [(0, vs a1 from1.length c1), (1, vs a2 to1.length c2), (5, vs a6 out2.length c8), (6, vs a5 done1.length c6), (11, vi j1), (112, (vb (((decide (0 ≤ e1)) && (!decide (e2 = e3))) && (!e4))))]) ⟨rfl, rfl, rfl, rfl, rfl, rfl, trivial⟩ ?_
   refine cif h et (fun hb h => ?_) (fun hb h => ?_)
   ·refine c_region rfl ?_
    refine sm ?_
    refine sm ?_
    refine sm ?_
    obtain ⟨e5, hx10, h⟩ := bnd_some h
    obtain ⟨ad5, cs5, hA5, hr5, hq8⟩ := hI.clat (.s .z) hx10
    obtain rfl : cs5 = [vi e5] := hr5
    refine sq (y_indexAddr rfl u42 size_3 et et (lat_bd hx10) hA5) ?_
    refine sq (y_load1 (v := (vi e5)) rfl et u3 rfl hq8.1) ?_
    refine sm ?_
    refine sm ?_
    refine sq (y_build (vs := [(0, vi 4), (1, vi e5), (2, vi j1), (3, vi j1)]) (cs := #[vi 4, vi e5, vi j1, vi j1, (str ([] : List UInt8))]) rfl ⟨rfl, ev_const, ⟨rfl, et, ⟨rfl, et, ⟨rfl, et, trivial⟩⟩⟩⟩ (by kernel_rfl)) ?_
    refine l_lit (c := cGTransfer) (xs := ([(⟨4, e5, j1, j1, ([] : List UInt8)⟩ : GTransfer)] : List GTransfer)) (vs := [(0, (Value.agg #[vi 4, vi e5, vi j1, vi j1, (str ([] : List UInt8))]))]) (cs := #[vi 4, vi e5, vi j1, vi j1, (str ([] : List UInt8))]) (css := [[vi 4, vi e5, vi j1, vi j1, (str ([] : List UInt8))]]) hI gn rfl rfl u51 info_54 rfl ⟨rfl, et, trivial⟩ (by kernel_rfl) ⟨rfl, trivial⟩ rfl rfl rfl ?_
    clear hI; intro b2 c12 w8 hI
    obtain ⟨zs2, hx11, h⟩ := bnd_some h
    refine l_append (xs := out2) (ys := ([(⟨4, e5, j1, j1, ([] : List UInt8)⟩ : GTransfer)] : List GTransfer)) hI (.s .z) (hI.rd .z) hx11 gn rfl rfl u51 info_54 rfl rfl et et ?_
    clear hI; intro a8 c13 c14 w9 hI
    refine sa ?_
    refine s_nil ?_
    exact k_join (zs2, a8, c13) ⟨rfl, rfl, rfl, rfl, rfl, trivial⟩ ⟨_, hI.arr (.c (.s .z) (.c (.s .z) .n)) ⟨.z, (.s .z), trivial⟩, h⟩ rfl
   exact c_skip (k_join (out2, a6, c8) ⟨rfl, rfl, rfl, rfl, rfl, trivial⟩ ⟨_, hI.arr (.c .z (.c .z .n)) ⟨.z, (.s .z), trivial⟩, h⟩ rfl)
  refine c_exit ?_
  refine k_in ?_
  refine k_same (sr (sm ?_))
  refine sa ?_
  refine nk (c_ret ?_)
  obtain ⟨c15, hI⟩ := hI.release .z
  obtain rfl := some_inj h
  exact q_ret (vs := [vs a6 out2.length c8]) Tryz.results55 ⟨ev_tmp rfl rfl, trivial⟩ ⟨a6, c8, rfl, hI.ext0, hI.fin ⟨.z, trivial⟩⟩
 refine sr (sac ?_)
 refine nk (c_block ?_)
 have hI := hI.nil cGTransfer 54 none
 refine c_loop (α := Nat × (List GTransfer) × (List Bool) × Int × (Option Addr) × Nat × (Option Addr) × Nat) (fun x => fun w => ∃ C, Bun noM F w0 C w [MO.row cGTransfer 54 (x.2.2.2.2.1) (x.2.2.2.2.2.1) (x.2.1), MO.row cBool 4 (x.2.2.2.2.2.2.1) (x.2.2.2.2.2.2.2) (x.2.2.1)] [Cl.sl (cInt .i64) a1 c1 from1, Cl.sl (cInt .i64) a2 c2 to1] ∧ m_ref53_Plan_l2 from1 to1 (x.1) (x.2.1) (x.2.2.1) (x.2.2.2.1) = some r) (fun x _ => x.1) (fun x => [(0, vs a1 from1.length c1), (1, vs a2 to1.length c2), (5, vs (x.2.2.2.2.1) (x.2.1).length (x.2.2.2.2.2.1)), (6, vs (x.2.2.2.2.2.2.1) (x.2.2.1).length (x.2.2.2.2.2.2.2)), (7, vi (x.2.2.2.1))]) (fu, ([] : List GTransfer), zs1, 0, none, 0, some ⟨b1, 0, none⟩, ((to1.length : Int)).toNat) ⟨_, hI.arr (.c .z (.c .z .n)) ⟨.z, (.s .z), trivial⟩, h⟩ ⟨rfl, rfl, rfl, rfl, rfl, trivial⟩ ?_
 clear h hI; rintro ⟨fuel2, out4, done2, i1, a9, c16, a10, c17⟩ w10 ⟨c18, hI, h⟩
 dsimp only at hI h
 rcases fuel2 with _ | fuel2
 ·rw [m_ref53_Plan_l2] at h; cases h
 rw [m_ref53_Plan_l2] at h
 refine c_sub (e := [(0, vs a1 from1.length c1), (1, vs a2 to1.length c2), (5, vs a9 out4.length c16), (6, vs a10 done2.length c17), (7, vi i1)]) ⟨rfl, rfl, rfl, rfl, rfl, trivial⟩ ?_
 refine c_seq (sr (sm ?_))
 refine sm ?_
 refine sq (y_lenl rfl u42 et) ?_
 refine sq (y_lss rfl et et) ?_
 refine nk (cif h et (fun hb h => ?_) (fun hb h => ?_))
 ·refine c_skip (k_same (c_join (α := (List GTransfer) × (List Bool) × (Option Addr) × Nat × (Option Addr) × Nat) (fun _ => ⟨124, []⟩) (fun x => [(0, vs a1 from1.length c1), (1, vs a2 to1.length c2), (5, vs (x.2.2.1) (x.1).length (x.2.2.2.1)), (6, vs (x.2.2.2.2.1) (x.2.1).length (x.2.2.2.2.2)), (7, vi i1)]) (fun x => fun w => ∃ C, Bun noM F w0 C w [MO.row cGTransfer 54 (x.2.2.1) (x.2.2.2.1) (x.1), MO.row cBool 4 (x.2.2.2.2.1) (x.2.2.2.2.2) (x.2.1)] [Cl.sl (cInt .i64) a1 c1 from1, Cl.sl (cInt .i64) a2 c2 to1] ∧ m_ref53_Plan_j3 (m_ref53_Plan_l2 from1 to1 fuel2) i1 (x.1) (x.2.1) = some r) ?_ ?_))
  ·clear h hI; rintro ⟨out5, done3, a11, c19, a12, c20⟩ w11 ⟨c21, hI, h⟩
   try dsimp only at hI h
   rw [m_ref53_Plan_j3] at h
   refine c_sub (e := [(0, vs a1 from1.length c1), (1, vs a2 to1.length c2), (5, vs a11 out5.length c19), (6, vs a12 done3.length c20), (7, vi i1)]) ⟨rfl, rfl, rfl, rfl, rfl, trivial⟩ ?_
   refine c_region rfl ?_
   refine sm ?_
   refine sq (y_add rfl et ev_const) ?_
   refine sa ?_
   refine s_nil ?_
   exact k_loop (fuel2, out5, done3, wi64 (i1 + 1), a11, c19, a12, c20) ⟨rfl, rfl, rfl, rfl, rfl, trivial⟩ ⟨_, hI.arr (.c .z (.c .z .n)) ⟨.z, (.s .z), trivial⟩, h⟩ (Nat.lt_succ_self _)
  refine c_block (sr (sm ?_))
  refine sm ?_
  obtain ⟨e6, hx12, h⟩ := bnd_some h
  obtain ⟨ad6, cs6, hA6, hr6, hq9⟩ := hI.clat .z hx12
  obtain rfl : cs6 = [vi e6] := hr6
  refine sq (y_indexAddr rfl u42 size_3 et et (lat_bd hx12) hA6) ?_
  refine sq (y_load1 (v := (vi e6)) rfl et u3 rfl hq9.1) ?_
  refine sa ?_
  refine nk (c_seq (sr (sm ?_)))
  refine sq (y_lss rfl et ev_const) ?_
  refine sm ?_
  refine s_gval (g_false rfl rfl rfl rfl) rfl (fun hc => y_move rfl et) ?_
  refine s_gval (g_false rfl rfl rfl rfl) rfl (fun hc => y_move rfl et) ?_
  obtain ⟨e7, hx13, h⟩ := bnd_some h
  replace hx13 := gd_some hx13
  obtain ⟨ad7, cs7, hq10⟩ := hI.gclat (.s .z) hx13
  have hq11 : (!(decide (e6 < 0))) = true → CA (Dj F c18) w10 (ad7.add (Int.toNat i1 * 1)) [vi e7] := fun hc => by have k := hq10 hc; have e : cs7 = _ := k.2.1; rw [← e]; exact k.2.2
  refine s_gval (g_false rfl rfl rfl rfl) rfl (fun hc => (y_indexAddr rfl u42 size_3 (ev_gv et hc) (ev_gv et hc) (lat_bd (hx13 hc)) (hq10 hc).1)) ?_
  refine s_gval (g_false rfl rfl rfl rfl) rfl (fun hc => (y_load1 (v := (vi e7)) rfl (ev_gv et hc) u3 rfl (hq11 hc).1)) ?_
  refine s_gval (g_false rfl rfl rfl rfl) rfl (fun hc => y_move rfl et) ?_
  refine s_gval (g_false rfl rfl rfl rfl) rfl (fun hc => y_eql rfl (ev_gv et hc) (ev_gv et hc)) ?_
  refine sq (y_or rfl et et) ?_
  refine nk (cif h et (fun hb h => ?_) (fun hb h => ?_))
  ·refine c_exit ?_
   refine k_in ?_
   exact k_join (out4, done2, a9, c16, a10, c17) ⟨rfl, rfl, rfl, rfl, rfl, trivial⟩ ⟨_, hI.arr (.c .z (.c .z .n)) ⟨.z, (.s .z), trivial⟩, h⟩ rfl
  refine c_skip (k_same (sr (sm ?_)))
  refine sm ?_
  refine sm ?_
  refine sq (y_build (vs := [(0, vi 1), (1, vi e6), (2, vi i1), (3, vi i1)]) (cs := #[vi 1, vi e6, vi i1, vi i1, (str ([] : List UInt8))]) rfl ⟨rfl, ev_const, ⟨rfl, et, ⟨rfl, et, ⟨rfl, et, trivial⟩⟩⟩⟩ (by kernel_rfl)) ?_
  refine l_alloc (cs := #[vi 0, vi 0, vi 0, vi 0, (str ([] : List UInt8))]) hI gn rfl rfl zero_54 rfl ?_
  clear hI; intro b3 c22 w12 hI
  refine l_store (new := [vi 1, vi e6, vi i1, vi i1, (str ([] : List UInt8))]) (cs' := #[vi 1, vi e6, vi i1, vi i1, (str ([] : List UInt8))]) hI .z gn rfl rfl et et rfl size_54 rfl rfl rfl ?_
  clear hI; intro c23 w13 hI
  refine nk (c_join (α := (List Bool) × GTransfer × (Option Addr) × Nat) (fun _ => ⟨124, []⟩) (fun x => [(0, vs a1 from1.length c1), (1, vs a2 to1.length c2), (5, vs a9 out4.length c16), (6, vs (x.2.2.1) (x.1).length (x.2.2.2)), (7, vi i1), (9, vp b3 0)]) (fun x => fun w => ∃ C, Bun noM F w0 C w [MO.row cBool 4 (x.2.2.1) (x.2.2.2) (x.1), MO.row cGTransfer 54 a9 c16 out4, MO.box b3 54 #[vi (x.2.1).Op, vi (x.2.1).Mesh, vi (x.2.1).From, vi (x.2.1).To, (str (x.2.1).Name)]] [Cl.sl (cInt .i64) a1 c1 from1, Cl.sl (cInt .i64) a2 c2 to1] ∧ m_ref53_Plan_j4 out4 (m_ref53_Plan_l2 from1 to1 fuel2) i1 (x.1) (x.2.1) = some r) ?_ ?_)
  ·clear h hI; rintro ⟨done4, t1, a13, c24⟩ w14 ⟨c25, hI, h⟩
   try dsimp only at hI h
   rw [m_ref53_Plan_j4] at h
   refine c_sub (e := [(0, vs a1 from1.length c1), (1, vs a2 to1.length c2), (5, vs a9 out4.length c16), (6, vs a13 done4.length c24), (7, vi i1), (9, vp b3 0)]) ⟨rfl, rfl, rfl, rfl, rfl, rfl, trivial⟩ ?_
   refine c_region rfl ?_
   refine sm ?_
   refine sq (y_loadN (l := [vi t1.Op, vi t1.Mesh, vi t1.From, vi t1.To, (str t1.Name)]) rfl et u54 rfl size_54 (CellsAt.of_blk (hI.blk (.s (.s .z))) rfl)) ?_
   refine l_lit (c := cGTransfer) (xs := ([t1] : List GTransfer)) (vs := [(0, (Value.agg #[vi t1.Op, vi t1.Mesh, vi t1.From, vi t1.To, (str t1.Name)]))]) (cs := #[vi t1.Op, vi t1.Mesh, vi t1.From, vi t1.To, (str t1.Name)]) (css := [[vi t1.Op, vi t1.Mesh, vi t1.From, vi t1.To, (str t1.Name)]]) hI gn rfl rfl u51 info_54 rfl ⟨rfl, et, trivial⟩ (by kernel_rfl) ⟨rfl, trivial⟩ rfl rfl rfl ?_
   clear hI; intro b4 c26 w15 hI
   obtain ⟨zs3, hx14, h⟩ := bnd_some h
   refine l_append (xs := out4) (ys := ([t1] : List GTransfer)) hI (.s (.s .z)) (hI.rd .z) hx14 gn rfl rfl u51 info_54 rfl rfl et et ?_
   clear hI; intro a14 c27 c28 w16 hI
   refine sa ?_
   refine s_nil ?_
   exact k_join (zs3, done4, a14, c27, a13, c24) ⟨rfl, rfl, rfl, rfl, rfl, trivial⟩ ⟨_, hI.arr (.c (.s (.s .z)) (.c (.s .z) .n)) ⟨.z, (.s .z), trivial⟩, h⟩ rfl
  refine sr (sac ?_)
  refine nk (c_block (c_loop (α := Nat × (List Bool) × Int × GTransfer × (Option Addr) × Nat) (fun x => fun w => ∃ C, Bun noM F w0 C w [MO.row cBool 4 (x.2.2.2.2.1) (x.2.2.2.2.2) (x.2.1), MO.row cGTransfer 54 a9 c16 out4, MO.box b3 54 #[vi (x.2.2.2.1).Op, vi (x.2.2.2.1).Mesh, vi (x.2.2.2.1).From, vi (x.2.2.2.1).To, (str (x.2.2.2.1).Name)]] [Cl.sl (cInt .i64) a1 c1 from1, Cl.sl (cInt .i64) a2 c2 to1] ∧ m_ref53_Plan_l3 to1 e6 from1 i1 out4 (m_ref53_Plan_l2 from1 to1 fuel2) (x.1) (x.2.1) (x.2.2.1) (x.2.2.2.1) = some r) (fun x _ => x.1) (fun x => [(0, vs a1 from1.length c1), (1, vs a2 to1.length c2), (5, vs a9 out4.length c16), (6, vs (x.2.2.2.2.1) (x.2.1).length (x.2.2.2.2.2)), (7, vi i1), (8, vi e6), (9, vp b3 0), (10, vi (x.2.2.1))]) (fu, done2, 0, (⟨1, e6, i1, i1, ([] : List UInt8)⟩ : GTransfer), a10, c17) ⟨_, hI.arr (.c (.s (.s .z)) (.c (.s .z) (.c .z .n))) ⟨.z, (.s .z), trivial⟩, h⟩ ⟨rfl, rfl, rfl, rfl, rfl, rfl, rfl, rfl, trivial⟩ ?_))
  clear h hI; rintro ⟨fuel3, done5, j2, t2, a15, c29⟩ w17 ⟨c30, hI, h⟩
  dsimp only at hI h
  rcases fuel3 with _ | fuel3
  ·rw [m_ref53_Plan_l3] at h; cases h
  rw [m_ref53_Plan_l3] at h
  refine c_sub (e := [(0, vs a1 from1.length c1), (1, vs a2 to1.length c2), (5, vs a9 out4.length c16), (6, vs a15 done5.length c29), (7, vi i1), (8, vi e6), (9, vp b3 0), (10, vi j2)]) ⟨rfl, rfl, rfl, rfl, rfl, rfl, rfl, rfl, trivial⟩ ?_
  refine c_seq (sr (sm ?_))
  refine sm ?_
  refine sq (y_lenl rfl u42 et) ?_
  refine sq (y_lss rfl et et) ?_
  refine nk (cif h et (fun hb h => ?_) (fun hb h => ?_))
  ·refine c_skip (k_same (c_join (α := (List Bool) × GTransfer × (Option Addr) × Nat) (fun _ => ⟨124, []⟩) (fun x => [(0, vs a1 from1.length c1), (1, vs a2 to1.length c2), (5, vs a9 out4.length c16), (6, vs (x.2.2.1) (x.1).length (x.2.2.2)), (7, vi i1), (8, vi e6), (9, vp b3 0), (10, vi j2)]) (fun x => fun w => ∃ C, Bun noM F w0 C w [MO.row cBool 4 (x.2.2.1) (x.2.2.2) (x.1), MO.row cGTransfer 54 a9 c16 out4, MO.box b3 54 #[vi (x.2.1).Op, vi (x.2.1).Mesh, vi (x.2.1).From, vi (x.2.1).To, (str (x.2.1).Name)]] [Cl.sl (cInt .i64) a1 c1 from1, Cl.sl (cInt .i64) a2 c2 to1] ∧ m_ref53_Plan_j5 (m_ref53_Plan_l3 to1 e6 from1 i1 out4 (m_ref53_Plan_l2 from1 to1 fuel2) fuel3) j2 (x.1) (x.2.1) = some r) ?_ ?_))
   ·clear h hI; rintro ⟨done6, t3, a16, c31⟩ w18 ⟨c32, hI, h⟩
    try dsimp only at hI h
    rw [m_ref53_Plan_j5] at h
    refine c_sub (e := [(0, vs a1 from1.length c1), (1, vs a2 to1.length c2), (5, vs a9 out4.length c16), (6, vs a16 done6.length c31), (7, vi i1), (8, vi e6), (9, vp b3 0), (10, vi j2)]) ⟨rfl, rfl, rfl, rfl, rfl, rfl, rfl, rfl, trivial⟩ ?_
    refine c_region rfl ?_
    refine sm ?_
    refine sq (y_add rfl et ev_const) ?_
    refine sa ?_
    refine s_nil ?_
    exact k_loop (fuel3, done6, wi64 (j2 + 1), t3, a16, c31) ⟨rfl, rfl, rfl, rfl, rfl, rfl, rfl, rfl, trivial⟩ ⟨_, hI.arr (.c .z (.c .z (.c .z .n))) ⟨.z, (.s .z), trivial⟩, h⟩ (Nat.lt_succ_self _)
   refine c_block (sr (sm ?_))
   refine sm ?_
   obtain ⟨e8, hx15, h⟩ := bnd_some h
   obtain ⟨ad8, cs8, hA8, hr8, hq12⟩ := hI.clat (.s .z) hx15
   obtain rfl : cs8 = [vi e8] := hr8
   refine sq (y_indexAddr rfl u42 size_3 et et (lat_bd hx15) hA8) ?_
   refine sq (y_load1 (v := (vi e8)) rfl et u3 rfl hq12.1) ?_
   refine sm ?_
   refine sq (y_eql rfl et et) ?_
   refine sm ?_
   refine s_gval (g_true rfl rfl rfl rfl) rfl (fun hc => y_move rfl et) ?_
   refine s_gval (g_true rfl rfl rfl rfl) rfl (fun hc => y_move rfl et) ?_
   obtain ⟨e9, hx16, h⟩ := bnd_some h
   replace hx16 := gd_some hx16
   obtain ⟨ad9, cs9, hq13⟩ := hI.gclat .z hx16
   have hq14 : (decide (e8 = e6)) = true → CA (Dj F c30) w17 (ad9.add (Int.toNat j2 * 1)) [vi e9] := fun hc => by have k := hq13 hc; have e : cs9 = _ := k.2.1; rw [← e]; exact k.2.2
   refine s_gval (g_true rfl rfl rfl rfl) rfl (fun hc => (y_indexAddr rfl u42 size_3 (ev_gv et hc) (ev_gv et hc) (lat_bd (hx16 hc)) (hq13 hc).1)) ?_
   refine s_gval (g_true rfl rfl rfl rfl) rfl (fun hc => (y_load1 (v := (vi e9)) rfl (ev_gv et hc) u3 rfl (hq14 hc).1)) ?_
   refine s_gval (g_true rfl rfl rfl rfl) rfl (fun hc => y_eql rfl (ev_gv et hc) ev_const) ?_
   refine sq (y_and rfl et et) ?_
   refine nk (cif h et (fun hb h => ?_) (fun hb h => ?_))
   ·refine sr (sm ?_)
    refine sm ?_
    refine sm ?_
    refine sq (y_build (vs := [(0, vi 3), (1, vi e6), (2, vi i1), (3, vi j2)]) (cs := #[vi 3, vi e6, vi i1, vi j2, (str ([] : List UInt8))]) rfl ⟨rfl, ev_const, ⟨rfl, et, ⟨rfl, et, ⟨rfl, et, trivial⟩⟩⟩⟩ (by kernel_rfl)) ?_
    refine l_store (new := [vi 3, vi e6, vi i1, vi j2, (str ([] : List UInt8))]) (cs' := #[vi 3, vi e6, vi i1, vi j2, (str ([] : List UInt8))]) hI (.s (.s .z)) gn rfl rfl et et rfl size_54 rfl rfl rfl ?_
    clear hI; intro c33 w19 hI
    refine nk (c_region rfl ?_)
    refine sm ?_
    refine sm ?_
    obtain ⟨ho1, h⟩ := chk_some h
    obtain ⟨ad10, hA10⟩ := hI.addr .z ho1
    refine sq (y_indexAddr rfl u105 size_4 et et ho1 hA10) ?_
    refine l_storeRow (p := Int.toNat j2) (new := [vb true]) (off := 0) (x' := true) hI .z gn rfl rfl (by have := ho1; omega) hA10 rfl et ev_const rfl size_4 rfl (by show 0 + 1 ≤ 1; omega) (fun _ cs0 _ hr0 => by rw [spl_full (by have e := Cod.len _ hr0; exact e)]; exact rfl) ?_
    clear hI; intro c34 w20 hI
    refine s_nil ?_
    exact k_join (done5.set (Int.toNat j2) true, (⟨3, e6, i1, j2, ([] : List UInt8)⟩ : GTransfer), a15, c29) ⟨rfl, rfl, rfl, (lookset rfl), rfl, rfl, rfl, rfl, trivial⟩ ⟨_, hI.arr (.c .z (.c .z (.c .z .n))) ⟨.z, (.s .z), trivial⟩, h⟩ rfl
   exact c_skip (k_join (done5, t2, a15, c29) ⟨rfl, rfl, rfl, rfl, rfl, rfl, rfl, rfl, trivial⟩ ⟨_, hI.arr (.c .z (.c .z (.c .z .n))) ⟨.z, (.s .z), trivial⟩, h⟩ rfl)
  refine c_exit ?_
  refine k_in ?_
  exact k_join (done5, t2, a15, c29) ⟨rfl, rfl, rfl, rfl, rfl, rfl, trivial⟩ ⟨_, hI.arr (.c .z (.c .z (.c .z .n))) ⟨.z, (.s .z), trivial⟩, h⟩ rfl
 refine c_exit ?_
 refine k_in ?_
 exact k_join (out4, done2, a9, c16, a10, c17) ⟨rfl, rfl, rfl, rfl, trivial⟩ ⟨_, hI.arr (.c .z (.c .z .n)) ⟨.z, (.s .z), trivial⟩, h⟩ rfl
theorem c_ref53_Reshard (F : NP) (w0 : World) (hF : ∀ k, F k → k < w0.heap.size) (m1 : GMesh) (l1 : List GTensor) (from1 : List Int) (to1 : List Int) (a1 : Option Addr) (c1 : Nat) (a2 : Option Addr) (c2 : Nat) (a3 : Option Addr) (c3 : Nat) (a4 : Option Addr) (c4 : Nat) (hc : AllCl [Cl.sl (cInt .i64) a1 c1 m1.Dims, Cl.sl cGTensor a2 c2 l1, Cl.sl (cInt .i64) a3 c3 from1, Cl.sl (cInt .i64) a4 c4 to1] F w0) (r : List GTensor × Int × Int)
  (h : m_ref53_Reshard m1 l1 from1 to1 = some r) :
  Calls Tryz.prog 25 #[(Value.agg #[vs a1 m1.Dims.length c1]), vs a2 l1.length c2, vs a3 from1.length c3, vs a4 to1.length c4] w0 fun e w => ∃ (a5 : Option Addr) (c5 : Nat), e = .returned (Value.tuple #[vs a5 r.1.length c5, vi r.2.1, vi r.2.2]) ∧ Ext w0 w ∧ AllCl [Cl.sl cGTensor a5 c5 r.1] F w := by
 refine enterK Tryz.func25 rfl Tryz.ntmps25 rfl ?_
 have hI := Bun.start hF hc
 clear hc
 rw [m_ref53_Reshard] at h
 refine sr (l_box (v := (Value.agg #[vs a1 m1.Dims.length c1])) (cs := #[vs a1 m1.Dims.length c1]) hI gn rfl rfl et rfl ?_)
 clear hI; intro b1 c6 w1 hI
 obtain ⟨c7, hI⟩ := hI.relBox .z
 refine sac ?_
 refine sac ?_
 refine sac ?_
 refine nk (c_seq (sr (sq (y_loadN (l := [vs a1 m1.Dims.length c1]) rfl et u24 rfl size_24 (hI.kblk (l := [vs a1 m1.Dims.length c1]) .z rfl).1) ?_)))
 refine sm ?_
 obtain ⟨r1, hx1, h⟩ := bnd_some h
 refine s_call gn rfl (r_callF (vs := [(Value.agg #[vs a1 m1.Dims.length c1]), vs a2 l1.length c2]) rfl ok_20 ⟨et, ⟨et, trivial⟩⟩) (Calls.mono (c_ref53_Check (Dj F c7) w1 hI.lt m1 l1 a1 c1 a2 c2 ⟨(hI.get (.s .z)), (hI.get (.s (.s .z))), trivial⟩ r1 hx1) ?_)
 rintro _ w2 ⟨rfl, hx2, hl1⟩
 refine ⟨_, rfl, ?_⟩
 replace hI := (hI.ext hx2)
 refine sa ?_
 refine nk (sr (sm ?_))
 refine sq (y_neq rfl et ev_const) ?_
 refine nk (cif h et (fun hb h => ?_) (fun hb h => ?_))
 ·refine sr (sm ?_)
  refine sac ?_
  refine sac ?_
  refine sa ?_
  refine nk (c_ret ?_)
  have hI := hI.add (c := Cl.sl cGTensor none 0 ([] : List GTensor)) SlC.nil
  obtain rfl := some_inj h
  exact q_ret (vs := [vs none 0 0, vi 0, vi r1]) Tryz.results25 ⟨ev_tmp rfl rfl, ⟨ev_tmp rfl rfl, ⟨ev_tmp rfl rfl, trivial⟩⟩⟩ ⟨none, 0, rfl, hI.ext0, hI.fin ⟨.z, trivial⟩⟩
 refine c_skip (k_same (c_seq (c_seq (c_drawX [] false (.c (0, .q) (.c (1, .q) (.c (2, .q) (.c (3, .q) (.c (4, .q) (.c (5, .q) (.c (6, .q) (.c (7, .s) (.c (8, .q) .n))))))))) hI (by kernel_rfl) (by kernel_rfl) ?_))))
 clear hI; intro w3 hI
 refine a_read rfl gn rfl (fun w' hw' => (y_loadN (l := [vs a1 m1.Dims.length c1]) rfl et u24 rfl size_24 ((hI.kblk (l := [vs a1 m1.Dims.length c1]) .z rfl).at_ (SX.any rfl hw')))) (by kernel_rfl) ?_
 refine a_q rfl gn rfl (fun w' => y_move rfl et) ?_
 obtain ⟨e1, hx3, h⟩ := bnd_some h
 obtain ⟨ad1, cs1, hA1, hr1, hq1⟩ := hI.clat (.s (.s .z)) hx3
 obtain ⟨a6, c8, a7, c9, rfl, hf1, hf2⟩ := hr1
 have hI := hI.add (c := Cl.sl (cInt .i64) a6 c8 e1.Dims) hf1
 have hI := hI.add (c := Cl.sl cGVal a7 c9 e1.Vals) hf2
 refine a_q rfl gn rfl (fun w' => y_indexAddr rfl u25 size_41 et ev_const (lat_bd hx3) hA1) ?_
 refine a_q rfl gn rfl (fun w' => y_fieldAddr rfl et u41 rfl size_22 rfl) ?_
 refine a_read rfl gn rfl (fun w' hw' => (y_load1 (v := (vs a6 e1.Dims.length c8)) rfl et u22 rfl ((CA.part hq1 rfl).at_ (SX.any rfl hw')))) (by kernel_rfl) ?_
 refine a_q rfl gn rfl (fun w' => y_move rfl et) ?_
 refine a_q rfl gn rfl (fun w' => y_move rfl et) ?_
 obtain ⟨r2, hx4, h⟩ := bnd_some h
 refine la_call rfl gn rfl (r_callF (vs := [(Value.agg #[vs a1 m1.Dims.length c1]), vs a6 e1.Dims.length c8, vs a3 from1.length c3, vs a4 to1.length c4]) rfl ok_54 ⟨et, ⟨et, ⟨et, ⟨et, trivial⟩⟩⟩⟩) (Calls.mono (c_ref53_specs (Dj F c7) w3 hI.lt m1 e1.Dims from1 to1 a1 c1 a6 c8 a3 c3 a4 c4 ⟨(hI.get (.s (.s (.s .z)))), (hI.get (.s .z)), (hI.get (.s (.s (.s (.s (.s .z)))))), (hI.get (.s (.s (.s (.s (.s (.s .z))))))), trivial⟩ r2 hx4) ?_)
 rintro _ w4 ⟨rfl, hx5, hl2⟩
 refine ⟨_, rfl, hx5, ?_⟩
 replace hI := (hI.ext hx5)
 refine a_q rfl gn rfl (fun w' => y_assign rfl et) ?_
 refine a_nil ?_
 refine k_same (sr (sm ?_))
 refine sq (y_neq rfl et ev_const) ?_
 refine nk (cif h et (fun hb h => ?_) (fun hb h => ?_))
 ·refine sr (sm ?_)
  refine sac ?_
  refine sac ?_
  refine sa ?_
  refine nk (c_ret ?_)
  have hI := hI.add (c := Cl.sl cGTensor none 0 ([] : List GTensor)) SlC.nil
  obtain rfl := some_inj h
  exact q_ret (vs := [vs none 0 0, vi 0, vi r2]) Tryz.results25 ⟨ev_tmp rfl rfl, ⟨ev_tmp rfl rfl, ⟨ev_tmp rfl rfl, trivial⟩⟩⟩ ⟨none, 0, rfl, hI.ext0, hI.fin ⟨.z, trivial⟩⟩
 refine c_skip (k_same (sr (sm ?_)))
 refine sm ?_
 obtain ⟨r3, hx6, h⟩ := bnd_some h
 refine s_call gn rfl (r_callF (vs := [vs a3 from1.length c3, vs a4 to1.length c4]) rfl ok_55 ⟨et, ⟨et, trivial⟩⟩) (Calls.mono (c_ref53_Plan (Dj F c7) w4 hI.lt from1 to1 a3 c3 a4 c4 ⟨(hI.get (.s (.s (.s (.s (.s .z)))))), (hI.get (.s (.s (.s (.s (.s (.s .z))))))), trivial⟩ r3 hx6) ?_)
 rintro _ w5 ⟨a8, c10, rfl, hx7, hl3⟩
 refine ⟨_, rfl, ?_⟩
 replace hI := (hI.ext hx7).adds hl3
 refine sa ?_
 refine s_nil ?_
 refine k_next (e := [(1, vs a2 l1.length c2), (4, vp b1 0), (13, vs a8 r3.length c10)]) ⟨rfl, rfl, rfl, trivial⟩ ?_
 refine sr (sm ?_)
 refine sa ?_
 refine nk (c_seq (sr (sac ?_)))
 refine nk (c_block (c_loop (α := Nat × (List GTensor) × Int × (Option Addr) × Nat) (fun x => fun w => ∃ C, Bun noM F w0 C w [] [Cl.sl cGTensor (x.2.2.2.1) (x.2.2.2.2) (x.2.1), Cl.blk b1 24 #[vs a1 m1.Dims.length c1], Cl.sl (cInt .i64) a1 c1 m1.Dims, Cl.sl cGTransfer a8 c10 r3] ∧ m_ref53_Reshard_l1 r3 m1 (x.1) (x.2.1) (x.2.2.1) = some r) (fun x _ => x.1) (fun x => [(4, vp b1 0), (13, vs a8 r3.length c10), (14, vs (x.2.2.2.1) (x.2.1).length (x.2.2.2.2)), (15, vi (x.2.2.1))]) (fu, l1, 0, a2, c2) ⟨_, hI.arr .n ⟨(.s (.s (.s (.s (.s .z))))), (.s (.s (.s .z))), (.s (.s (.s (.s .z)))), .z, trivial⟩, h⟩ ⟨rfl, rfl, rfl, rfl, trivial⟩ ?_))
 clear h hI; rintro ⟨fuel1, out1, i1, a9, c11⟩ w6 ⟨c12, hI, h⟩
 dsimp only at hI h
 rcases fuel1 with _ | fuel1
 ·rw [m_ref53_Reshard_l1] at h; cases h
 rw [m_ref53_Reshard_l1] at h
 refine c_sub (e := [(4, vp b1 0), (13, vs a8 r3.length c10), (14, vs a9 out1.length c11), (15, vi i1)]) ⟨rfl, rfl, rfl, rfl, trivial⟩ ?_
 refine c_seq (sr (sm ?_))
 refine sm ?_
 refine sq (y_lenl rfl u51 et) ?_
 refine sq (y_lss rfl et et) ?_
 refine nk (cif h et (fun hb h => ?_) (fun hb h => ?_))
 ·refine c_skip (k_same (c_seq (c_block (sr (sm ?_)))))
  refine sm ?_
  obtain ⟨e2, hx8, h⟩ := bnd_some h
  obtain ⟨ad2, cs2, hA2, hr2, hq2⟩ := hI.clat (.s (.s (.s .z))) hx8
  obtain rfl : cs2 = [vi e2.Op, vi e2.Mesh, vi e2.From, vi e2.To, (str e2.Name)] := hr2
  refine sq (y_indexAddr rfl u51 size_54 et et (lat_bd hx8) hA2) ?_
  refine sq (y_loadN (l := [vi e2.Op, vi e2.Mesh, vi e2.From, vi e2.To, (str e2.Name)]) rfl et u54 rfl size_54 hq2.1) ?_
  refine l_alloc (cs := #[vi 0, vi 0, vi 0, vi 0, (str ([] : List UInt8))]) hI gn rfl rfl zero_54 rfl ?_
  clear hI; intro b2 c13 w7 hI
  refine l_store (new := [vi e2.Op, vi e2.Mesh, vi e2.From, vi e2.To, (str e2.Name)]) (cs' := #[vi e2.Op, vi e2.Mesh, vi e2.From, vi e2.To, (str e2.Name)]) hI .z gn rfl rfl et et rfl size_54 rfl rfl rfl ?_
  clear hI; intro c14 w8 hI
  refine nk (sr (sq (y_loadN (l := [vs a1 m1.Dims.length c1]) rfl et u24 rfl size_24 (hI.kblk (l := [vs a1 m1.Dims.length c1]) (.s .z) rfl).1) ?_))
  refine sm ?_
  refine sq (y_fieldAddr rfl et u54 rfl size_3 rfl) ?_
  refine sq (y_load1 (v := (vi e2.Mesh)) rfl et u3 rfl (CellsAt.of_blk (hI.blk .z) rfl)) ?_
  refine sq (y_fieldAddr rfl et u54 rfl size_3 rfl) ?_
  refine sq (y_load1 (v := (vi e2.From)) rfl et u3 rfl (CellsAt.of_blk (hI.blk .z) rfl)) ?_
  obtain ⟨r4, hx9, h⟩ := bnd_some h
  refine s_call gn rfl (r_callF (vs := [(Value.agg #[vs a1 m1.Dims.length c1]), vs a9 out1.length c11, vi e2.Mesh, vi e2.From]) rfl ok_14 ⟨et, ⟨et, ⟨et, ⟨et, trivial⟩⟩⟩⟩) (Calls.mono (c_ref53_SliceLocal (Dj F c14) w8 hI.lt m1 out1 e2.Mesh e2.From a1 c1 a9 c11 ⟨(hI.get (.s (.s .z))), (hI.get .z), trivial⟩ r4 hx9) ?_)
  rintro _ w9 ⟨a10, c15, rfl, hx10, hl4⟩
  refine ⟨_, rfl, ?_⟩
  replace hI := (hI.ext hx10).adds hl4
  refine sm ?_
  refine sq (y_extract rfl et rfl) ?_
  refine sq (y_extract rfl et rfl) ?_
  refine sa ?_
  refine sa ?_
  refine nk (c_join (α := (List GTensor) × Int × (Option Addr) × Nat) (fun _ => ⟨95, []⟩) (fun x => [(4, vp b1 0), (13, vs a8 r3.length c10), (14, vs a9 out1.length c11), (15, vi i1), (16, vp b2 0), (17, vs (x.2.2.1) (x.1).length (x.2.2.2)), (18, vi (x.2.1))]) (fun x => fun w => ∃ C, Bun noM F w0 C w [MO.box b2 54 #[vi e2.Op, vi e2.Mesh, vi e2.From, vi e2.To, (str e2.Name)]] [Cl.sl cGTensor (x.2.2.1) (x.2.2.2) (x.1), Cl.blk b1 24 #[vs a1 m1.Dims.length c1], Cl.sl (cInt .i64) a1 c1 m1.Dims, Cl.sl cGTransfer a8 c10 r3, Cl.sl cGTensor a9 c11 out1] ∧ m_ref53_Reshard_j1 e2 m1 out1 (m_ref53_Reshard_l1 r3 m1 fuel1) i1 (x.1) (x.2.1) = some r) ?_ ?_)
  ·clear h hI; rintro ⟨next1, e3, a11, c16⟩ w10 ⟨c17, hI, h⟩
   try dsimp only at hI h
   rw [m_ref53_Reshard_j1] at h
   refine c_sub (e := [(4, vp b1 0), (13, vs a8 r3.length c10), (14, vs a9 out1.length c11), (15, vi i1), (16, vp b2 0), (17, vs a11 next1.length c16), (18, vi e3)]) ⟨rfl, rfl, rfl, rfl, rfl, rfl, rfl, trivial⟩ ?_
   refine c_join (α := (List GTensor) × Int × (Option Addr) × Nat) (fun _ => ⟨95, []⟩) (fun x => [(4, vp b1 0), (13, vs a8 r3.length c10), (15, vi i1), (17, vs (x.2.2.1) (x.1).length (x.2.2.2)), (18, vi (x.2.1))]) (fun x => fun w => ∃ C, Bun noM F w0 C w [] [Cl.sl cGTensor (x.2.2.1) (x.2.2.2) (x.1), Cl.blk b1 24 #[vs a1 m1.Dims.length c1], Cl.sl (cInt .i64) a1 c1 m1.Dims, Cl.sl cGTransfer a8 c10 r3] ∧ m_ref53_Reshard_j2 (m_ref53_Reshard_l1 r3 m1 fuel1) i1 (x.1) (x.2.1) = some r) ?_ ?_
   ·clear h hI; rintro ⟨next2, e4, a12, c18⟩ w11 ⟨c19, hI, h⟩
    try dsimp only at hI h
    rw [m_ref53_Reshard_j2] at h
    refine c_sub (e := [(4, vp b1 0), (13, vs a8 r3.length c10), (15, vi i1), (17, vs a12 next2.length c18), (18, vi e4)]) ⟨rfl, rfl, rfl, rfl, rfl, trivial⟩ ?_
    refine c_seq (sr (sm ?_))
    refine sq (y_neq rfl et ev_const) ?_
    refine nk (cif h et (fun hb h => ?_) (fun hb h => ?_))
    ·refine sr (sm ?_)
     refine sac ?_
     refine sac ?_
     refine sa ?_
     refine nk (c_ret ?_)
     have hI := hI.add (c := Cl.sl cGTensor none 0 ([] : List GTensor)) SlC.nil
     obtain rfl := some_inj h
     exact q_ret (vs := [vs none 0 0, vi 0, vi e4]) Tryz.results25 ⟨ev_tmp rfl rfl, ⟨ev_tmp rfl rfl, ⟨ev_tmp rfl rfl, trivial⟩⟩⟩ ⟨none, 0, rfl, hI.ext0, hI.fin ⟨.z, trivial⟩⟩
    refine c_skip (k_same (c_region rfl ?_))
    refine sm ?_
    refine sa ?_
    refine nk (c_region rfl ?_)
    refine sm ?_
    refine sq (y_add rfl et ev_const) ?_
    refine sa ?_
    refine s_nil ?_
    exact k_loop (fuel1, next2, wi64 (i1 + 1), a12, c18) ⟨rfl, rfl, rfl, rfl, trivial⟩ ⟨_, hI.arr .n ⟨.z, (.s .z), (.s (.s .z)), (.s (.s (.s .z))), trivial⟩, h⟩ (Nat.lt_succ_self _)
   refine sr (sq (y_fieldAddr rfl et u54 rfl size_3 rfl) ?_)
   refine sq (y_load1 (v := (vi e2.Op)) rfl et u3 rfl (CellsAt.of_blk (hI.blk .z) rfl)) ?_
   refine sq (y_eql rfl et ev_const) ?_
   refine nk (cif h et (fun hb h => ?_) (fun hb h => ?_))
   ·refine c_region rfl ?_
    refine sq (y_loadN (l := [vs a1 m1.Dims.length c1]) rfl et u24 rfl size_24 (hI.kblk (l := [vs a1 m1.Dims.length c1]) (.s .z) rfl).1) ?_
    refine sm ?_
    refine sq (y_fieldAddr rfl et u54 rfl size_3 rfl) ?_
    refine sq (y_load1 (v := (vi e2.Mesh)) rfl et u3 rfl (CellsAt.of_blk (hI.blk .z) rfl)) ?_
    refine sq (y_fieldAddr rfl et u54 rfl size_3 rfl) ?_
    refine sq (y_load1 (v := (vi e2.From)) rfl et u3 rfl (CellsAt.of_blk (hI.blk .z) rfl)) ?_
    refine sq (y_fieldAddr rfl et u54 rfl size_3 rfl) ?_
    refine sq (y_load1 (v := (vi e2.To)) rfl et u3 rfl (CellsAt.of_blk (hI.blk .z) rfl)) ?_
    obtain ⟨r5, hx11, h⟩ := bnd_some h
    refine s_call gn rfl (r_callF (vs := [(Value.agg #[vs a1 m1.Dims.length c1]), vs a9 out1.length c11, vi e2.Mesh, vi e2.From, vi e2.To]) rfl ok_23 ⟨et, ⟨et, ⟨et, ⟨et, ⟨et, trivial⟩⟩⟩⟩⟩) (Calls.mono (c_ref53_AllToAll (Dj F c17) w10 hI.lt m1 out1 e2.Mesh e2.From e2.To a1 c1 a9 c11 ⟨(hI.get (.s (.s .z))), (hI.get (.s (.s (.s (.s .z))))), trivial⟩ r5 hx11) ?_)
    rintro _ w12 ⟨a13, c20, rfl, hx12, hl5⟩
    refine ⟨_, rfl, ?_⟩
    replace hI := (hI.ext hx12).adds hl5
    refine sm ?_
    refine sq (y_extract rfl et rfl) ?_
    refine sq (y_extract rfl et rfl) ?_
    refine sa ?_
    refine sa ?_
    refine s_nil ?_
    exact k_join (r5.1, r5.2, a13, c20) ⟨rfl, rfl, rfl, rfl, rfl, trivial⟩ ⟨_, hI.arr .n ⟨.z, (.s (.s .z)), (.s (.s (.s .z))), (.s (.s (.s (.s .z)))), trivial⟩, h⟩ rfl
   exact c_skip (k_join (next1, e3, a11, c16) ⟨rfl, rfl, rfl, rfl, rfl, trivial⟩ ⟨_, hI.arr .n ⟨.z, (.s .z), (.s (.s .z)), (.s (.s (.s .z))), trivial⟩, h⟩ rfl)
  refine sr (sq (y_fieldAddr rfl et u54 rfl size_3 rfl) ?_)
  refine sq (y_load1 (v := (vi e2.Op)) rfl et u3 rfl (CellsAt.of_blk (hI.blk .z) rfl)) ?_
  refine sq (y_eql rfl et ev_const) ?_
  refine nk (cif h et (fun hb h => ?_) (fun hb h => ?_))
  ·refine c_region rfl ?_
   refine sq (y_loadN (l := [vs a1 m1.Dims.length c1]) rfl et u24 rfl size_24 (hI.kblk (l := [vs a1 m1.Dims.length c1]) (.s (.s .z)) rfl).1) ?_
   refine sm ?_
   refine sq (y_fieldAddr rfl et u54 rfl size_3 rfl) ?_
   refine sq (y_load1 (v := (vi e2.Mesh)) rfl et u3 rfl (CellsAt.of_blk (hI.blk .z) rfl)) ?_
   refine sq (y_fieldAddr rfl et u54 rfl size_3 rfl) ?_
   refine sq (y_load1 (v := (vi e2.From)) rfl et u3 rfl (CellsAt.of_blk (hI.blk .z) rfl)) ?_
   obtain ⟨r6, hx13, h⟩ := bnd_some h
   refine s_call gn rfl (r_callF (vs := [(Value.agg #[vs a1 m1.Dims.length c1]), vs a9 out1.length c11, vi e2.Mesh, vi e2.From]) rfl ok_12 ⟨et, ⟨et, ⟨et, ⟨et, trivial⟩⟩⟩⟩) (Calls.mono (c_ref53_AllGather (Dj F c14) w9 hI.lt m1 out1 e2.Mesh e2.From a1 c1 a9 c11 ⟨(hI.get (.s (.s (.s .z)))), (hI.get (.s .z)), trivial⟩ r6 hx13) ?_)
   rintro _ w13 ⟨a14, c21, rfl, hx14, hl6⟩
   refine ⟨_, rfl, ?_⟩
   replace hI := (hI.ext hx14).adds hl6
   refine sm ?_
   refine sq (y_extract rfl et rfl) ?_
   refine sq (y_extract rfl et rfl) ?_
   refine sa ?_
   refine sa ?_
   refine s_nil ?_
   exact k_join (r6.1, r6.2, a14, c21) ⟨rfl, rfl, rfl, rfl, rfl, rfl, rfl, trivial⟩ ⟨_, hI.arr (.c .z .n) ⟨.z, (.s (.s (.s .z))), (.s (.s (.s (.s .z)))), (.s (.s (.s (.s (.s .z))))), (.s (.s .z)), trivial⟩, h⟩ rfl
  exact c_skip (k_join (r4.1, r4.2, a10, c15) ⟨rfl, rfl, rfl, rfl, rfl, rfl, rfl, trivial⟩ ⟨_, hI.arr (.c .z .n) ⟨.z, (.s (.s .z)), (.s (.s (.s .z))), (.s (.s (.s (.s .z)))), (.s .z), trivial⟩, h⟩ rfl)
 refine c_exit ?_
 refine k_in ?_
 refine k_same (sr (sm ?_))
 refine sm ?_
 refine sq (y_lenl rfl u51 et) ?_
 refine sa ?_
 refine sa ?_
 refine sac ?_
 refine nk (c_ret ?_)
 obtain rfl := some_inj h
 exact q_ret (vs := [vs a9 out1.length c11, vi (r3.length : Int), vi 0]) Tryz.results25 ⟨ev_tmp rfl rfl, ⟨ev_tmp rfl rfl, ⟨ev_tmp rfl rfl, trivial⟩⟩⟩ ⟨a9, c11, rfl, hI.ext0, hI.fin ⟨.z, trivial⟩⟩
theorem c_law53_CollectiveReshards (F : NP) (w0 : World) (hF : ∀ k, F k → k < w0.heap.size) (m1 : GMesh) (l1 : List GTensor) (from1 : List Int) (to1 : List Int) (a1 : Option Addr) (c1 : Nat) (a2 : Option Addr) (c2 : Nat) (a3 : Option Addr) (c3 : Nat) (a4 : Option Addr) (c4 : Nat) (hc : AllCl [Cl.sl (cInt .i64) a1 c1 m1.Dims, Cl.sl cGTensor a2 c2 l1, Cl.sl (cInt .i64) a3 c3 from1, Cl.sl (cInt .i64) a4 c4 to1] F w0) (r : Bool)
  (h : m_law53_CollectiveReshards m1 l1 from1 to1 = some r) :
  Calls Tryz.prog 7 #[(Value.agg #[vs a1 m1.Dims.length c1]), vs a2 l1.length c2, vs a3 from1.length c3, vs a4 to1.length c4] w0 fun e w => e = .returned (vb r) ∧ Ext w0 w ∧ AllCl [] F w := by
 refine enterK Tryz.func7 rfl Tryz.ntmps7 rfl ?_
 have hI := Bun.start hF hc
 clear hc
 rw [m_law53_CollectiveReshards] at h
 refine sr (l_box (v := (Value.agg #[vs a1 m1.Dims.length c1])) (cs := #[vs a1 m1.Dims.length c1]) hI gn rfl rfl et rfl ?_)
 clear hI; intro b1 c5 w1 hI
 obtain ⟨c6, hI⟩ := hI.relBox .z
 refine sac ?_
 refine nk (c_seq (sr (sq (y_loadN (l := [vs a1 m1.Dims.length c1]) rfl et u24 rfl size_24 (hI.kblk (l := [vs a1 m1.Dims.length c1]) .z rfl).1) ?_)))
 refine sm ?_
 obtain ⟨r1, hx1, h⟩ := bnd_some h
 refine s_call gn rfl (r_callF (vs := [(Value.agg #[vs a1 m1.Dims.length c1]), vs a2 l1.length c2]) rfl ok_9 ⟨et, ⟨et, trivial⟩⟩) (Calls.mono (c_law53_small (Dj F c6) w1 hI.lt m1 l1 a1 c1 a2 c2 ⟨(hI.get (.s .z)), (hI.get (.s (.s .z))), trivial⟩ r1 hx1) ?_)
 rintro _ w2 ⟨rfl, hx2, hl1⟩
 refine ⟨_, rfl, ?_⟩
 replace hI := (hI.ext hx2)
 refine sq (y_not rfl et) ?_
 refine sm ?_
 refine s_gval (g_false rfl rfl rfl rfl) rfl (fun hc => y_move rfl et) ?_
 refine s_gval (g_false rfl rfl rfl rfl) rfl (fun hc => y_lenl rfl u42 (ev_gv et hc)) ?_
 refine s_gval (g_false rfl rfl rfl rfl) rfl (fun hc => y_gtr rfl (ev_gv et hc) ev_const) ?_
 refine sq (y_or rfl et et) ?_
 refine sm ?_
 refine s_gval (g_false rfl rfl rfl rfl) rfl (fun hc => y_move rfl et) ?_
 refine s_gval (g_false rfl rfl rfl rfl) rfl (fun hc => y_lenl rfl u42 (ev_gv et hc)) ?_
 refine s_gval (g_false rfl rfl rfl rfl) rfl (fun hc => y_gtr rfl (ev_gv et hc) ev_const) ?_
 refine sq (y_or rfl et et) ?_
 refine nk (cif h et (fun hb h => ?_) (fun hb h => ?_))
 ·refine sr ?_
  obtain ⟨r2, hx3, h⟩ := bnd_some h
  refine s_call gn rfl (r_callF (vs := []) rfl ok_10 trivial) (Calls.mono (c_law53_examples (Dj F c6) w2 hI.lt trivial r2 hx3) ?_)
  rintro _ w3 ⟨rfl, hx4, hl2⟩
  refine ⟨_, rfl, ?_⟩
  replace hI := (hI.ext hx4)
  refine sa ?_
  refine nk (c_ret ?_)
  obtain rfl := some_inj h
  exact q_ret (vs := [vb r2]) Tryz.results7 ⟨ev_tmp rfl rfl, trivial⟩ (fq hI trivial)
 refine c_skip (k_same (sr (sq (y_loadN (l := [vs a1 m1.Dims.length c1]) rfl et u24 rfl size_24 (hI.kblk (l := [vs a1 m1.Dims.length c1]) .z rfl).1) ?_)))
 refine sm ?_
 refine sm ?_
 refine sm ?_
 obtain ⟨r3, hx5, h⟩ := bnd_some h
 refine s_call gn rfl (r_callF (vs := [(Value.agg #[vs a1 m1.Dims.length c1]), vs a2 l1.length c2, vs a3 from1.length c3, vs a4 to1.length c4]) rfl ok_24 ⟨et, ⟨et, ⟨et, ⟨et, trivial⟩⟩⟩⟩) (Calls.mono (c_collective_Reshard (Dj F c6) w2 hI.lt m1 l1 from1 to1 a1 c1 a2 c2 a3 c3 a4 c4 ⟨(hI.get (.s .z)), (hI.get (.s (.s .z))), (hI.get (.s (.s (.s .z)))), (hI.get (.s (.s (.s (.s .z))))), trivial⟩ r3 hx5) ?_)
 rintro _ w4 ⟨a5, c7, rfl, hx6, hl3⟩
 refine ⟨_, rfl, ?_⟩
 replace hI := (hI.ext hx6).adds hl3
 refine sm ?_
 refine sq (y_extract rfl et rfl) ?_
 refine sq (y_extract rfl et rfl) ?_
 refine sq (y_extract rfl et rfl) ?_
 refine sa ?_
 refine sa ?_
 refine sa ?_
 refine s_nil ?_
 refine k_next (e := [(1, vs a2 l1.length c2), (2, vs a3 from1.length c3), (3, vs a4 to1.length c4), (4, vp b1 0), (9, vs a5 r3.1.length c7), (10, vi r3.2.1), (11, vi r3.2.2)]) ⟨rfl, rfl, rfl, rfl, rfl, rfl, rfl, trivial⟩ ?_
 refine sr (sq (y_loadN (l := [vs a1 m1.Dims.length c1]) rfl et u24 rfl size_24 (hI.kblk (l := [vs a1 m1.Dims.length c1]) (.s .z) rfl).1) ?_)
 refine sm ?_
 refine sm ?_
 refine sm ?_
 obtain ⟨r4, hx7, h⟩ := bnd_some h
 refine s_call gn rfl (r_callF (vs := [(Value.agg #[vs a1 m1.Dims.length c1]), vs a2 l1.length c2, vs a3 from1.length c3, vs a4 to1.length c4]) rfl ok_25 ⟨et, ⟨et, ⟨et, ⟨et, trivial⟩⟩⟩⟩) (Calls.mono (c_ref53_Reshard (Dj F c6) w4 hI.lt m1 l1 from1 to1 a1 c1 a2 c2 a3 c3 a4 c4 ⟨(hI.get (.s (.s .z))), (hI.get (.s (.s (.s .z)))), (hI.get (.s (.s (.s (.s .z))))), (hI.get (.s (.s (.s (.s (.s .z)))))), trivial⟩ r4 hx7) ?_)
 rintro _ w5 ⟨a6, c8, rfl, hx8, hl4⟩
 refine ⟨_, rfl, ?_⟩
 replace hI := (hI.ext hx8).adds hl4
 refine sm ?_
 refine sq (y_extract rfl et rfl) ?_
 refine sq (y_extract rfl et rfl) ?_
 refine sq (y_extract rfl et rfl) ?_
 refine sa ?_
 refine sa ?_
 refine sa ?_
 refine nk (sr (sm ?_))
 refine sm ?_
 obtain ⟨r5, hx9, h⟩ := bnd_some h
 refine s_call gn rfl (r_callF (vs := [vs a5 r3.1.length c7, vs a6 r4.1.length c8]) rfl ok_15 ⟨et, ⟨et, trivial⟩⟩) (Calls.mono (c_base_Tensors (Dj F c6) w5 hI.lt r3.1 r4.1 a5 c7 a6 c8 ⟨(hI.get (.s .z)), (hI.get .z), trivial⟩ r5 hx9) ?_)
 rintro _ w6 ⟨rfl, hx10, hl5⟩
 refine ⟨_, rfl, ?_⟩
 replace hI := (hI.ext hx10)
 refine sm ?_
 refine s_gval (g_true rfl rfl rfl rfl) rfl (fun hc => y_move rfl et) ?_
 refine s_gval (g_true rfl rfl rfl rfl) rfl (fun hc => y_move rfl et) ?_
 refine s_gval (g_true rfl rfl rfl rfl) rfl (fun hc => y_eql rfl (ev_gv et hc) (ev_gv et hc)) ?_
 refine sq (y_and rfl et et) ?_
 refine sm ?_
 refine s_gval (g_true rfl rfl rfl rfl) rfl (fun hc => y_move rfl et) ?_
 refine s_gval (g_true rfl rfl rfl rfl) rfl (fun hc => y_move rfl et) ?_
 refine s_gval (g_true rfl rfl rfl rfl) rfl (fun hc => y_eql rfl (ev_gv et hc) (ev_gv et hc)) ?_
 refine sq (y_and rfl et et) ?_
 refine sm ?_
 obtain ⟨r6, hx11, h⟩ := bnd_some h
 replace hx11 := gd_some hx11
 refine s_gcallU (v := (vb r6)) (g_true rfl rfl rfl rfl) rfl (fun hc => (r_callF (vs := []) rfl ok_10 trivial)) (fun hc => (c_law53_examples (Dj F c6) w6 hI.lt trivial r6 (hx11 hc)).mono fun _ _ k => ⟨k.1, k.2.1⟩) ?_
 intro w7 hx12; replace hI := hI.ext hx12
 refine sq (y_and rfl et et) ?_
 refine sa ?_
 refine s_nil ?_
 refine k_next (e := [(8, (vb (((r5 && (decide (r3.2.1 = r4.2.1))) && (decide (r3.2.2 = r4.2.2))) && r6)))]) ⟨rfl, trivial⟩ ?_
 refine c_ret ?_
 obtain rfl := some_inj h
 exact q_ret (vs := [(vb (((r5 && (decide (r3.2.1 = r4.2.1))) && (decide (r3.2.2 = r4.2.2))) && r6))]) Tryz.results7 ⟨ev_tmp rfl rfl, trivial⟩ (fq hI trivial)
end Go.Proofs.YtpedfojbfbccaaaGreat
