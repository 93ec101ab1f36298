import Derived.Test.YtebpdmfmknfkjaaGreatDoorSCQ7a
namespace Go.Proofs.YtebpdmfmknfkjaaGreatDoor
open Go Go.RowKit Go.Vc
set_option maxRecDepth 100000
set_option maxHeartbeats 4000000
set_option linter.unusedVariables false
set_option linter.unusedSimpArgs false
theorem c_expr_validNode (F : NP) (w0 : World) (hF : ∀ k, F k → k < w0.heap.size) (e1 : GExpr) (a1 : Option Addr) (c1 : Nat) (a2 : Option Addr) (c2 : Nat) (a3 : Option Addr) (c3 : Nat) (hc : AllCl [Cl.sl cGMono a1 c1 e1.Lin.L, Cl.sl cGIndex a2 c2 e1.Idx, Cl.sl cGExpr a3 c3 e1.Args, clSpace] F w0) (r : Int)
  (h : m_expr_validNode e1 = some r) :
  Calls Tryz.prog 94 #[(Value.agg #[vi e1.Op, (str e1.Name), vi e1.Val.N, vi e1.Val.D, vi e1.Type_.Kind, vi e1.Type_.Bits, vi e1.Type_.Frac, vi e1.Type_.Round, vi e1.Type_.Over, vi e1.Lin.K, vs a1 e1.Lin.L.length c1, vs a2 e1.Idx.length c2, vs a3 e1.Args.length c3])] w0 fun e w => e = .returned (vi r) ∧ Ext w0 w ∧ AllCl [] F w := by
 refine enterK Tryz.func94 rfl Tryz.ntmps94 rfl ?_
 have hI := Bun.start hF hc
 clear hc
 rw [m_expr_validNode] at h
 refine sr (l_box (v := (Value.agg #[vi e1.Op, (str e1.Name), vi e1.Val.N, vi e1.Val.D, vi e1.Type_.Kind, vi e1.Type_.Bits, vi e1.Type_.Frac, vi e1.Type_.Round, vi e1.Type_.Over, vi e1.Lin.K, vs a1 e1.Lin.L.length c1, vs a2 e1.Idx.length c2, vs a3 e1.Args.length c3])) (cs := #[vi e1.Op, (str e1.Name), vi e1.Val.N, vi e1.Val.D, vi e1.Type_.Kind, vi e1.Type_.Bits, vi e1.Type_.Frac, vi e1.Type_.Round, vi e1.Type_.Over, vi e1.Lin.K, vs a1 e1.Lin.L.length c1, vs a2 e1.Idx.length c2, vs a3 e1.Args.length c3]) hI gn rfl rfl et rfl ?_)
 clear hI; intro b1 c4 w1 hI
 obtain ⟨c5, hI⟩ := hI.relBox .z
 refine l_alloc (cs := #[vi 0]) hI gn rfl rfl zero_44 rfl ?_
 clear hI; intro b2 c6 w2 hI
 refine nk (c_seq (c_block (sr (sq (y_loadN (l := [vi e1.Op, (str e1.Name), vi e1.Val.N, vi e1.Val.D, vi e1.Type_.Kind, vi e1.Type_.Bits, vi e1.Type_.Frac, vi e1.Type_.Round, vi e1.Type_.Over, vi e1.Lin.K, vs a1 e1.Lin.L.length c1, vs a2 e1.Idx.length c2, vs a3 e1.Args.length c3]) rfl et u39 rfl size_39 (hI.kblk (l := [vi e1.Op, (str e1.Name), vi e1.Val.N, vi e1.Val.D, vi e1.Type_.Kind, vi e1.Type_.Bits, vi e1.Type_.Frac, vi e1.Type_.Round, vi e1.Type_.Over, vi e1.Lin.K, vs a1 e1.Lin.L.length c1, vs a2 e1.Idx.length c2, vs a3 e1.Args.length c3]) .z rfl).1) ?_))))
 obtain ⟨r1, hx1, h⟩ := bnd_some h
 refine s_call gn rfl (r_callF (vs := [(Value.agg #[vi e1.Op, (str e1.Name), vi e1.Val.N, vi e1.Val.D, vi e1.Type_.Kind, vi e1.Type_.Bits, vi e1.Type_.Frac, vi e1.Type_.Round, vi e1.Type_.Over, vi e1.Lin.K, vs a1 e1.Lin.L.length c1, vs a2 e1.Idx.length c2, vs a3 e1.Args.length c3])]) rfl ok_128 ⟨et, trivial⟩) (Calls.mono (c_expr_syntax (Dj F c6) w2 hI.lt e1 a1 c1 a2 c2 a3 c3 ⟨(hI.get (.s .z)), (hI.get (.s (.s .z))), (hI.get (.s (.s (.s .z)))), trivial⟩ r1 hx1) ?_)
 rintro _ w3 ⟨rfl, hx2, hl1⟩
 refine ⟨_, rfl, ?_⟩
 replace hI := (hI.ext hx2)
 refine sq (y_not rfl et) ?_
 refine sa ?_
 refine nk (cif h et (fun hb h => ?_) (fun hb h => ?_))
 ·refine sr (l_store (new := [vi 5]) (cs' := #[vi 5]) hI .z gn rfl rfl et ev_const rfl size_44 rfl rfl rfl ?_)
  clear hI; intro c7 w4 hI
  refine nk (c_ret ?_)
  obtain rfl := some_inj h
  exact q_ret (vs := [vi 5]) Tryz.results94 ⟨⟨_, ev_tmp rfl rfl, load_one (v := (vi 5)) u44 rfl (CellsAt.of_blk (hI.blk .z) rfl)⟩, trivial⟩ (fq hI trivial)
 refine sr (sq (y_loadN (l := [vi e1.Op, (str e1.Name), vi e1.Val.N, vi e1.Val.D, vi e1.Type_.Kind, vi e1.Type_.Bits, vi e1.Type_.Frac, vi e1.Type_.Round, vi e1.Type_.Over, vi e1.Lin.K, vs a1 e1.Lin.L.length c1, vs a2 e1.Idx.length c2, vs a3 e1.Args.length c3]) rfl et u39 rfl size_39 (hI.kblk (l := [vi e1.Op, (str e1.Name), vi e1.Val.N, vi e1.Val.D, vi e1.Type_.Kind, vi e1.Type_.Bits, vi e1.Type_.Frac, vi e1.Type_.Round, vi e1.Type_.Over, vi e1.Lin.K, vs a1 e1.Lin.L.length c1, vs a2 e1.Idx.length c2, vs a3 e1.Args.length c3]) .z rfl).1) ?_)
 obtain ⟨r2, hx3, h⟩ := bnd_some h
 refine s_call gn rfl (r_callF (vs := [(Value.agg #[vi e1.Op, (str e1.Name), vi e1.Val.N, vi e1.Val.D, vi e1.Type_.Kind, vi e1.Type_.Bits, vi e1.Type_.Frac, vi e1.Type_.Round, vi e1.Type_.Over, vi e1.Lin.K, vs a1 e1.Lin.L.length c1, vs a2 e1.Idx.length c2, vs a3 e1.Args.length c3])]) rfl ok_129 ⟨et, trivial⟩) (Calls.mono (c_expr_names (Dj F c6) w3 hI.lt e1 a1 c1 a2 c2 a3 c3 ⟨(hI.get (.s .z)), (hI.get (.s (.s .z))), (hI.get (.s (.s (.s .z)))), (hI.get (.s (.s (.s (.s .z))))), trivial⟩ r2 hx3) ?_)
 rintro _ w5 ⟨rfl, hx4, hl2⟩
 refine ⟨_, rfl, ?_⟩
 replace hI := (hI.ext hx4)
 refine sq (y_not rfl et) ?_
 refine sa ?_
 refine nk (cif h et (fun hb h => ?_) (fun hb h => ?_))
 ·refine sr (l_store (new := [vi 7]) (cs' := #[vi 7]) hI .z gn rfl rfl et ev_const rfl size_44 rfl rfl rfl ?_)
  clear hI; intro c8 w6 hI
  refine nk (c_ret ?_)
  obtain rfl := some_inj h
  exact q_ret (vs := [vi 7]) Tryz.results94 ⟨⟨_, ev_tmp rfl rfl, load_one (v := (vi 7)) u44 rfl (CellsAt.of_blk (hI.blk .z) rfl)⟩, trivial⟩ (fq hI trivial)
 refine sr (sq (y_loadN (l := [vi e1.Op, (str e1.Name), vi e1.Val.N, vi e1.Val.D, vi e1.Type_.Kind, vi e1.Type_.Bits, vi e1.Type_.Frac, vi e1.Type_.Round, vi e1.Type_.Over, vi e1.Lin.K, vs a1 e1.Lin.L.length c1, vs a2 e1.Idx.length c2, vs a3 e1.Args.length c3]) rfl et u39 rfl size_39 (hI.kblk (l := [vi e1.Op, (str e1.Name), vi e1.Val.N, vi e1.Val.D, vi e1.Type_.Kind, vi e1.Type_.Bits, vi e1.Type_.Frac, vi e1.Type_.Round, vi e1.Type_.Over, vi e1.Lin.K, vs a1 e1.Lin.L.length c1, vs a2 e1.Idx.length c2, vs a3 e1.Args.length c3]) .z rfl).1) ?_)
 obtain ⟨r3, hx5, h⟩ := bnd_some h
 refine s_call gn rfl (r_callF (vs := [(Value.agg #[vi e1.Op, (str e1.Name), vi e1.Val.N, vi e1.Val.D, vi e1.Type_.Kind, vi e1.Type_.Bits, vi e1.Type_.Frac, vi e1.Type_.Round, vi e1.Type_.Over, vi e1.Lin.K, vs a1 e1.Lin.L.length c1, vs a2 e1.Idx.length c2, vs a3 e1.Args.length c3])]) rfl ok_130 ⟨et, trivial⟩) (Calls.mono (c_expr_rank (Dj F c6) w5 hI.lt e1 a1 c1 a2 c2 a3 c3 ⟨(hI.get (.s .z)), (hI.get (.s (.s .z))), (hI.get (.s (.s (.s .z)))), trivial⟩ r3 hx5) ?_)
 rintro _ w7 ⟨rfl, hx6, hl3⟩
 refine ⟨_, rfl, ?_⟩
 replace hI := (hI.ext hx6)
 refine sq (y_not rfl et) ?_
 refine sa ?_
 refine nk (cif h et (fun hb h => ?_) (fun hb h => ?_))
 ·refine sr (l_store (new := [vi 11]) (cs' := #[vi 11]) hI .z gn rfl rfl et ev_const rfl size_44 rfl rfl rfl ?_)
  clear hI; intro c9 w8 hI
  refine nk (c_ret ?_)
  obtain rfl := some_inj h
  exact q_ret (vs := [vi 11]) Tryz.results94 ⟨⟨_, ev_tmp rfl rfl, load_one (v := (vi 11)) u44 rfl (CellsAt.of_blk (hI.blk .z) rfl)⟩, trivial⟩ (fq hI trivial)
 refine sr (sq (y_loadN (l := [vi e1.Op, (str e1.Name), vi e1.Val.N, vi e1.Val.D, vi e1.Type_.Kind, vi e1.Type_.Bits, vi e1.Type_.Frac, vi e1.Type_.Round, vi e1.Type_.Over, vi e1.Lin.K, vs a1 e1.Lin.L.length c1, vs a2 e1.Idx.length c2, vs a3 e1.Args.length c3]) rfl et u39 rfl size_39 (hI.kblk (l := [vi e1.Op, (str e1.Name), vi e1.Val.N, vi e1.Val.D, vi e1.Type_.Kind, vi e1.Type_.Bits, vi e1.Type_.Frac, vi e1.Type_.Round, vi e1.Type_.Over, vi e1.Lin.K, vs a1 e1.Lin.L.length c1, vs a2 e1.Idx.length c2, vs a3 e1.Args.length c3]) .z rfl).1) ?_)
 obtain ⟨r4, hx7, h⟩ := bnd_some h
 refine s_call gn rfl (r_callF (vs := [(Value.agg #[vi e1.Op, (str e1.Name), vi e1.Val.N, vi e1.Val.D, vi e1.Type_.Kind, vi e1.Type_.Bits, vi e1.Type_.Frac, vi e1.Type_.Round, vi e1.Type_.Over, vi e1.Lin.K, vs a1 e1.Lin.L.length c1, vs a2 e1.Idx.length c2, vs a3 e1.Args.length c3])]) rfl ok_131 ⟨et, trivial⟩) (Calls.mono (c_expr_types (Dj F c6) w7 hI.lt e1 a1 c1 a2 c2 a3 c3 ⟨(hI.get (.s .z)), (hI.get (.s (.s .z))), (hI.get (.s (.s (.s .z)))), trivial⟩ r4 hx7) ?_)
 rintro _ w9 ⟨rfl, hx8, hl4⟩
 refine ⟨_, rfl, ?_⟩
 replace hI := (hI.ext hx8)
 refine sq (y_not rfl et) ?_
 refine sa ?_
 refine nk (cif h et (fun hb h => ?_) (fun hb h => ?_))
 ·refine sr (l_store (new := [vi 10]) (cs' := #[vi 10]) hI .z gn rfl rfl et ev_const rfl size_44 rfl rfl rfl ?_)
  clear hI; intro c10 w10 hI
  refine nk (c_ret ?_)
  obtain rfl := some_inj h
  exact q_ret (vs := [vi 10]) Tryz.results94 ⟨⟨_, ev_tmp rfl rfl, load_one (v := (vi 10)) u44 rfl (CellsAt.of_blk (hI.blk .z) rfl)⟩, trivial⟩ (fq hI trivial)
 refine sr (sq (y_fieldAddr rfl et u39 rfl size_3 rfl) ?_)
 refine sq (y_load1 (v := (vi e1.Op)) rfl et u3 rfl (hI.kblk (l := [vi e1.Op]) .z rfl).1) ?_
 refine sq (y_eql rfl et ev_const) ?_
 refine sm ?_
 refine s_gval (g_true rfl rfl rfl rfl) rfl (fun hc => y_fieldAddr rfl et u39 rfl size_23 rfl) ?_
 refine s_gval (g_true rfl rfl rfl rfl) rfl (fun hc => (y_loadN (l := (lType e1.Type_)) rfl (ev_gv et hc) u23 rfl size_23 (hI.kblk (l := (lType e1.Type_)) .z rfl).1)) ?_
 refine s_gval (g_true rfl rfl rfl rfl) rfl (fun hc => y_fieldAddr rfl et u39 rfl size_36 rfl) ?_
 refine s_gval (g_true rfl rfl rfl rfl) rfl (fun hc => (y_loadN (l := (lVal e1.Val)) rfl (ev_gv et hc) u36 rfl size_36 (hI.kblk (l := (lVal e1.Val)) .z rfl).1)) ?_
 obtain ⟨r5, hx9, h⟩ := bnd_some h
 replace hx9 := gd_some hx9
 refine s_gcallU (v := (vb r5)) (g_true rfl rfl rfl rfl) rfl (fun hc => (r_callF (vs := [(Value.agg (AType e1.Type_)), (Value.agg (AVal e1.Val))]) rfl ok_132 ⟨(ev_gv et hc), ⟨(ev_gv et hc), trivial⟩⟩)) (fun hc => (c_value_Valid (Dj F c6) w9 hI.lt e1.Type_ e1.Val trivial r5 (hx9 hc)).mono fun _ _ k => ⟨k.1, k.2.1⟩) ?_
 intro w11 hx10; replace hI := hI.ext hx10
 refine s_gval (g_true rfl rfl rfl rfl) rfl (fun hc => y_not rfl (ev_gv et hc)) ?_
 refine sq (y_and rfl et et) ?_
 refine sa ?_
 refine s_nil ?_
 refine k_next (e := [(1, vp b1 0), (2, vp b2 0), (20, (vb ((decide (e1.Op = 1)) && (!r5))))]) ⟨rfl, rfl, rfl, trivial⟩ ?_
 refine cif h et (fun hb h => ?_) (fun hb h => ?_)
 ·refine sr (l_store (new := [vi 1]) (cs' := #[vi 1]) hI .z gn rfl rfl et ev_const rfl size_44 rfl rfl rfl ?_)
  clear hI; intro c11 w12 hI
  refine nk (c_ret ?_)
  obtain rfl := some_inj h
  exact q_ret (vs := [vi 1]) Tryz.results94 ⟨⟨_, ev_tmp rfl rfl, load_one (v := (vi 1)) u44 rfl (CellsAt.of_blk (hI.blk .z) rfl)⟩, trivial⟩ (fq hI trivial)
 refine c_skip (k_same (c_seq (sr (sq (y_loadN (l := [vi e1.Op, (str e1.Name), vi e1.Val.N, vi e1.Val.D, vi e1.Type_.Kind, vi e1.Type_.Bits, vi e1.Type_.Frac, vi e1.Type_.Round, vi e1.Type_.Over, vi e1.Lin.K, vs a1 e1.Lin.L.length c1, vs a2 e1.Idx.length c2, vs a3 e1.Args.length c3]) rfl et u39 rfl size_39 (hI.kblk (l := [vi e1.Op, (str e1.Name), vi e1.Val.N, vi e1.Val.D, vi e1.Type_.Kind, vi e1.Type_.Bits, vi e1.Type_.Frac, vi e1.Type_.Round, vi e1.Type_.Over, vi e1.Lin.K, vs a1 e1.Lin.L.length c1, vs a2 e1.Idx.length c2, vs a3 e1.Args.length c3]) .z rfl).1) ?_))))
 obtain ⟨r6, hx11, h⟩ := bnd_some h
 refine s_call gn rfl (r_callF (vs := [(Value.agg #[vi e1.Op, (str e1.Name), vi e1.Val.N, vi e1.Val.D, vi e1.Type_.Kind, vi e1.Type_.Bits, vi e1.Type_.Frac, vi e1.Type_.Round, vi e1.Type_.Over, vi e1.Lin.K, vs a1 e1.Lin.L.length c1, vs a2 e1.Idx.length c2, vs a3 e1.Args.length c3])]) rfl ok_133 ⟨et, trivial⟩) (Calls.mono (c_expr_forms (Dj F c6) w11 hI.lt e1 a1 c1 a2 c2 a3 c3 ⟨(hI.get (.s .z)), (hI.get (.s (.s .z))), (hI.get (.s (.s (.s .z)))), trivial⟩ r6 hx11) ?_)
 rintro _ w13 ⟨b3, a4, c12, a5, c13, a6, c14, rfl, hx12, hl6⟩
 refine ⟨_, rfl, ?_⟩
 replace hI := (hI.ext hx12).adds hl6
 refine nk (c_block (c_rangeFunc [Code.ret] hI et ok_163 (fun l1 q1 fn1 tm1 rc1 hrc1 c16 w15 hE1 hI => ?_)))
 obtain ⟨c17, f1, hB, hl7, hk1⟩ := hI.hands (.l (.r (.l .n)))
 have hB : Bun c17 f1 w15 c17 w15 [MO.st (StI.loop l1 rc1 (fun (s : Int) (b : Unit) => [MO.box b2 44 #[vi s]]) (fun (s : Int) (b : Unit) => [Cl.blk b3 39 #[vi r6.Op, (str r6.Name), vi r6.Val.N, vi r6.Val.D, vi r6.Type_.Kind, vi r6.Type_.Bits, vi r6.Type_.Frac, vi r6.Type_.Round, vi r6.Type_.Over, vi r6.Lin.K, vs a4 r6.Lin.L.length c12, vs a5 r6.Idx.length c13, vs a6 r6.Args.length c14], Cl.sl cGMono a4 c12 r6.Lin.L, Cl.sl cGIndex a5 c13 r6.Idx, Cl.sl cGExpr a6 c14 r6.Args, clSpace])) (0, 0)] _ := Bun.mkst (b := ()) hB ⟨(.s (.s (.s .z))), .z, (.s .z), (.s (.s .z)), (.s (.s (.s (.s (.s (.s (.s (.s .z)))))))), trivial⟩
 have hY1 : fnS_k4 (StI.loop l1 rc1 (fun (s : Int) (b : Unit) => [MO.box b2 44 #[vi s]]) (fun (s : Int) (b : Unit) => [Cl.blk b3 39 #[vi r6.Op, (str r6.Name), vi r6.Val.N, vi r6.Val.D, vi r6.Type_.Kind, vi r6.Type_.Bits, vi r6.Type_.Frac, vi r6.Type_.Round, vi r6.Type_.Over, vi r6.Lin.K, vs a4 r6.Lin.L.length c12, vs a5 r6.Idx.length c13, vs a6 r6.Args.length c14], Cl.sl cGMono a4 c12 r6.Lin.L, Cl.sl cGIndex a5 c13 r6.Idx, Cl.sl cGExpr a6 c14 r6.Args, clSpace])) (Value.func (.yield l1) #[] #[]) (fun k_0 q => if q.1 = 0 then m_expr_validNode_b1 k_0 q.2 else none) (Dj f1 c17) w15 := by
  refine ⟨rfl, fun C0 F w0 _ => ?_⟩
  rintro y1 a7 c18 ⟨o_, v1⟩ r hB h
  replace h : o_ = 0 ∧ m_expr_validNode_b1 y1 v1 = some r := chk_some h
  have ho_ := h.1; subst ho_; replace h := h.2
  rw [m_expr_validNode_b1] at h
  obtain ⟨_, hI⟩ := Bun.unst hB
  subst hrc1
  replace hI : Bun C0 F w0 C0 w0 [MO.loop l1 (lrec fn1 tm1 _ _ _ q1 [Code.ret] 0), MO.box b2 44 #[vi v1]] [Cl.blk b3 39 #[vi r6.Op, (str r6.Name), vi r6.Val.N, vi r6.Val.D, vi r6.Type_.Kind, vi r6.Type_.Bits, vi r6.Type_.Frac, vi r6.Type_.Round, vi r6.Type_.Over, vi r6.Lin.K, vs a4 r6.Lin.L.length c12, vs a5 r6.Idx.length c13, vs a6 r6.Args.length c14], Cl.sl cGMono a4 c12 r6.Lin.L, Cl.sl cGIndex a5 c13 r6.Idx, Cl.sl cGExpr a6 c14 r6.Args, clSpace, Cl.sl cGMono a7 c18 y1.L] := hI
  clear hB
  refine callV_yield hI rfl (has_round1 (hE1 ⟨38, []⟩ rfl rfl)) ?_
  refine c_region rfl ?_
  refine l_alloc (cs := #[vi 0, vs none 0 0]) hI gn rfl rfl zero_29 rfl ?_
  clear hI; intro b4 c19 w16 hI
  refine l_store (new := (lLin y1 a7 c18)) (cs' := (ALin y1 a7 c18)) hI .z gn rfl rfl et et rfl size_29 rfl rfl rfl ?_
  clear hI; intro c20 w17 hI
  refine s_nil ?_
  refine k_begin hI (.s .z) (fun c21 w18 hI => ?_)
  refine c_block (sr (sq (y_loadN (l := (lLin y1 a7 c18)) rfl et u29 rfl size_29 (CellsAt.of_blk (hI.blk .z) rfl)) ?_))
  obtain ⟨r7, hx13, h⟩ := bnd_some h
  refine s_call gn rfl (r_callF (vs := [(Value.agg (ALin y1 a7 c18))]) rfl ok_34 ⟨et, trivial⟩) (Calls.mono (c_lin_Validate (Dj F c21) w18 hI.lt y1 a7 c18 ⟨(hI.get (.s (.s (.s (.s (.s .z)))))), trivial⟩ r7 hx13) ?_)
  rintro _ w19 ⟨rfl, hx14, hl8⟩
  refine ⟨_, rfl, ?_⟩
  replace hI := (hI.ext hx14)
  refine sq (y_neq rfl et ev_const) ?_
  refine nk (cif h et (fun hb h => ?_) (fun hb h => ?_))
  ·refine sr (l_store (new := [vi 1]) (cs' := #[vi 1]) hI (.s (.s .z)) gn rfl rfl et ev_const rfl size_44 rfl rfl rfl ?_)
   clear hI; intro c22 w20 hI
   refine nk (c_ret ?_)
   obtain rfl := some_inj h
   exact fun _ _ => k_round (js := [Code.ret]) (oS := (fun (s : Int) (b : Unit) => [MO.box b2 44 #[vi s]])) (cS := (fun (s : Int) (b : Unit) => [Cl.blk b3 39 #[vi r6.Op, (str r6.Name), vi r6.Val.N, vi r6.Val.D, vi r6.Type_.Kind, vi r6.Type_.Bits, vi r6.Type_.Frac, vi r6.Type_.Round, vi r6.Type_.Over, vi r6.Lin.K, vs a4 r6.Lin.L.length c12, vs a5 r6.Idx.length c13, vs a6 r6.Args.length c14], Cl.sl cGMono a4 c12 r6.Lin.L, Cl.sl cGIndex a5 c13 r6.Idx, Cl.sl cGExpr a6 c14 r6.Args, clSpace])) (out := 1) (s := 1) (b := ()) (hI.arr (.c (.s .z) (.c (.s .z) .n)) ⟨.z, (.s .z), (.s (.s .z)), (.s (.s (.s .z))), (.s (.s (.s (.s .z)))), trivial⟩) rfl (fun C w hB => ⟨C, rfl, hB⟩)
  refine c_skip ?_
  obtain rfl := some_inj h
  exact fun _ _ => k_round (js := [Code.ret]) (oS := (fun (s : Int) (b : Unit) => [MO.box b2 44 #[vi s]])) (cS := (fun (s : Int) (b : Unit) => [Cl.blk b3 39 #[vi r6.Op, (str r6.Name), vi r6.Val.N, vi r6.Val.D, vi r6.Type_.Kind, vi r6.Type_.Bits, vi r6.Type_.Frac, vi r6.Type_.Round, vi r6.Type_.Over, vi r6.Lin.K, vs a4 r6.Lin.L.length c12, vs a5 r6.Idx.length c13, vs a6 r6.Args.length c14], Cl.sl cGMono a4 c12 r6.Lin.L, Cl.sl cGIndex a5 c13 r6.Idx, Cl.sl cGExpr a6 c14 r6.Args, clSpace])) (out := 0) (s := v1) (b := ()) (hI.arr (.c (.s .z) (.c (.s .z) .n)) ⟨.z, (.s .z), (.s (.s .z)), (.s (.s (.s .z))), (.s (.s (.s (.s .z)))), trivial⟩) rfl (fun C w hB => ⟨C, rfl, hB⟩)
 obtain ⟨⟨u1, o1, v2⟩, hx15, h⟩ := bnd_some h
 try dsimp only at h
 refine Calls.mono (c_expr_forms_1_s (StI.loop l1 rc1 (fun (s : Int) (b : Unit) => [MO.box b2 44 #[vi s]]) (fun (s : Int) (b : Unit) => [Cl.blk b3 39 #[vi r6.Op, (str r6.Name), vi r6.Val.N, vi r6.Val.D, vi r6.Type_.Kind, vi r6.Type_.Bits, vi r6.Type_.Frac, vi r6.Type_.Round, vi r6.Type_.Over, vi r6.Lin.K, vs a4 r6.Lin.L.length c12, vs a5 r6.Idx.length c13, vs a6 r6.Args.length c14], Cl.sl cGMono a4 c12 r6.Lin.L, Cl.sl cGIndex a5 c13 r6.Idx, Cl.sl cGExpr a6 c14 r6.Args, clSpace])) c17 f1 w15 (fun k_0 q => if q.1 = 0 then m_expr_validNode_b1 k_0 q.2 else none) r6 (0, 0) (Value.func (.yield l1) #[] #[]) b3 a4 c12 a5 c13 a6 c14 ((hB.add (c := clFnS_k4 (StI.loop l1 rc1 (fun (s : Int) (b : Unit) => [MO.box b2 44 #[vi s]]) (fun (s : Int) (b : Unit) => [Cl.blk b3 39 #[vi r6.Op, (str r6.Name), vi r6.Val.N, vi r6.Val.D, vi r6.Type_.Kind, vi r6.Type_.Bits, vi r6.Type_.Frac, vi r6.Type_.Round, vi r6.Type_.Over, vi r6.Lin.K, vs a4 r6.Lin.L.length c12, vs a5 r6.Idx.length c13, vs a6 r6.Args.length c14], Cl.sl cGMono a4 c12 r6.Lin.L, Cl.sl cGIndex a5 c13 r6.Idx, Cl.sl cGExpr a6 c14 r6.Args, clSpace])) (Value.func (.yield l1) #[] #[]) (fun k_0 q => if q.1 = 0 then m_expr_validNode_b1 k_0 q.2 else none)) hY1).subs ⟨.z, (.s .z), (.s (.s .z)), (.s (.s (.s .z))), (.s (.s (.s (.s .z)))), trivial⟩) _ hx15) ?_
 rintro _ w22 ⟨c24, rfl, hB2⟩
 obtain ⟨_, hB2⟩ := Bun.unst hB2
 subst hrc1
 obtain ⟨c25, hs1, hI⟩ := hk1 _ _ _ _ hB2
 replace hI : Bun noM F w0 c25 w22 [MO.loop l1 (lrec fn1 tm1 _ _ _ q1 [Code.ret] o1), MO.box b2 44 #[vi v2], MO.dfr q1] [Cl.blk b3 39 #[vi r6.Op, (str r6.Name), vi r6.Val.N, vi r6.Val.D, vi r6.Type_.Kind, vi r6.Type_.Bits, vi r6.Type_.Frac, vi r6.Type_.Round, vi r6.Type_.Over, vi r6.Lin.K, vs a4 r6.Lin.L.length c12, vs a5 r6.Idx.length c13, vs a6 r6.Args.length c14], Cl.sl cGMono a4 c12 r6.Lin.L, Cl.sl cGIndex a5 c13 r6.Idx, Cl.sl cGExpr a6 c14 r6.Args, clSpace, Cl.sl cGMono a4 c12 r6.Lin.L, Cl.sl cGIndex a5 c13 r6.Idx, Cl.sl cGExpr a6 c14 r6.Args, Cl.blk b3 39 #[vi r6.Op, (str r6.Name), vi r6.Val.N, vi r6.Val.D, vi r6.Type_.Kind, vi r6.Type_.Bits, vi r6.Type_.Frac, vi r6.Type_.Round, vi r6.Type_.Over, vi r6.Lin.K, vs a4 r6.Lin.L.length c12, vs a5 r6.Idx.length c13, vs a6 r6.Args.length c14], Cl.blk b1 39 #[vi e1.Op, (str e1.Name), vi e1.Val.N, vi e1.Val.D, vi e1.Type_.Kind, vi e1.Type_.Bits, vi e1.Type_.Frac, vi e1.Type_.Round, vi e1.Type_.Over, vi e1.Lin.K, vs a1 e1.Lin.L.length c1, vs a2 e1.Idx.length c2, vs a3 e1.Args.length c3], Cl.sl cGMono a1 c1 e1.Lin.L, Cl.sl cGIndex a2 c2 e1.Idx, Cl.sl cGExpr a3 c3 e1.Args, clSpace] := hI
 refine ⟨_, rfl, k_endLoop hI .z (fun c26 w23 hI => ?_)⟩
 by_cases hz1 : o1 = 0
 ·subst hz1; rw [if_pos rfl] at h
  refine k_same (sr (l_store (new := [vi 0]) (cs' := #[vi 0]) hI (.s .z) gn rfl rfl et ev_const rfl size_44 rfl rfl rfl ?_))
  clear hI; intro c27 w24 hI
  refine nk (c_ret ?_)
  obtain ⟨w25, hs2, c28, hI⟩ : ∃ w2, Shuts Tryz.prog [q1] w24 w2 ∧ ∃ C, Bun noM F w0 C w2 [MO.obj l1 _, MO.box b2 44 #[vi 0], MO.obj q1 (.deferred none)] [Cl.blk b3 39 #[vi r6.Op, (str r6.Name), vi r6.Val.N, vi r6.Val.D, vi r6.Type_.Kind, vi r6.Type_.Bits, vi r6.Type_.Frac, vi r6.Type_.Round, vi r6.Type_.Over, vi r6.Lin.K, vs a4 r6.Lin.L.length c12, vs a5 r6.Idx.length c13, vs a6 r6.Args.length c14], Cl.sl cGMono a4 c12 r6.Lin.L, Cl.sl cGIndex a5 c13 r6.Idx, Cl.sl cGExpr a6 c14 r6.Args, clSpace, Cl.sl cGMono a4 c12 r6.Lin.L, Cl.sl cGIndex a5 c13 r6.Idx, Cl.sl cGExpr a6 c14 r6.Args, Cl.blk b3 39 #[vi r6.Op, (str r6.Name), vi r6.Val.N, vi r6.Val.D, vi r6.Type_.Kind, vi r6.Type_.Bits, vi r6.Type_.Frac, vi r6.Type_.Round, vi r6.Type_.Over, vi r6.Lin.K, vs a4 r6.Lin.L.length c12, vs a5 r6.Idx.length c13, vs a6 r6.Args.length c14], Cl.blk b1 39 #[vi e1.Op, (str e1.Name), vi e1.Val.N, vi e1.Val.D, vi e1.Type_.Kind, vi e1.Type_.Bits, vi e1.Type_.Frac, vi e1.Type_.Round, vi e1.Type_.Over, vi e1.Lin.K, vs a1 e1.Lin.L.length c1, vs a2 e1.Idx.length c2, vs a3 e1.Args.length c3], Cl.sl cGMono a1 c1 e1.Lin.L, Cl.sl cGIndex a2 c2 e1.Idx, Cl.sl cGExpr a3 c3 e1.Args, clSpace] := hI.shut (.s (.s .z)) fun C w hI => shut_nil ⟨_, hI⟩
  obtain rfl := some_inj h
  exact q_retS (vs := [vi 0]) hs2 Tryz.results94 ⟨⟨_, ev_tmp rfl rfl, load_one (v := (vi 0)) u44 rfl (CellsAt.of_blk (hI.blk (.s .z)) rfl)⟩, trivial⟩ (fq hI trivial)
 rw [if_neg hz1] at h
 by_cases hz2 : o1 = 1
 ·subst hz2; rw [if_pos rfl] at h
  refine c_ret ?_
  obtain ⟨w26, hs3, c29, hI⟩ : ∃ w2, Shuts Tryz.prog [q1] w23 w2 ∧ ∃ C, Bun noM F w0 C w2 [MO.obj l1 _, MO.box b2 44 #[vi v2], MO.obj q1 (.deferred none)] [Cl.blk b3 39 #[vi r6.Op, (str r6.Name), vi r6.Val.N, vi r6.Val.D, vi r6.Type_.Kind, vi r6.Type_.Bits, vi r6.Type_.Frac, vi r6.Type_.Round, vi r6.Type_.Over, vi r6.Lin.K, vs a4 r6.Lin.L.length c12, vs a5 r6.Idx.length c13, vs a6 r6.Args.length c14], Cl.sl cGMono a4 c12 r6.Lin.L, Cl.sl cGIndex a5 c13 r6.Idx, Cl.sl cGExpr a6 c14 r6.Args, clSpace, Cl.sl cGMono a4 c12 r6.Lin.L, Cl.sl cGIndex a5 c13 r6.Idx, Cl.sl cGExpr a6 c14 r6.Args, Cl.blk b3 39 #[vi r6.Op, (str r6.Name), vi r6.Val.N, vi r6.Val.D, vi r6.Type_.Kind, vi r6.Type_.Bits, vi r6.Type_.Frac, vi r6.Type_.Round, vi r6.Type_.Over, vi r6.Lin.K, vs a4 r6.Lin.L.length c12, vs a5 r6.Idx.length c13, vs a6 r6.Args.length c14], Cl.blk b1 39 #[vi e1.Op, (str e1.Name), vi e1.Val.N, vi e1.Val.D, vi e1.Type_.Kind, vi e1.Type_.Bits, vi e1.Type_.Frac, vi e1.Type_.Round, vi e1.Type_.Over, vi e1.Lin.K, vs a1 e1.Lin.L.length c1, vs a2 e1.Idx.length c2, vs a3 e1.Args.length c3], Cl.sl cGMono a1 c1 e1.Lin.L, Cl.sl cGIndex a2 c2 e1.Idx, Cl.sl cGExpr a3 c3 e1.Args, clSpace] := hI.shut (.s (.s .z)) fun C w hI => shut_nil ⟨_, hI⟩
  obtain rfl := some_inj h
  exact q_retS (vs := [vi v2]) hs3 Tryz.results94 ⟨⟨_, ev_tmp rfl rfl, load_one (v := (vi v2)) u44 rfl (CellsAt.of_blk (hI.blk (.s .z)) rfl)⟩, trivial⟩ (fq hI trivial)
 rw [if_neg hz2] at h
 cases h
theorem c_expr_Validate (F : NP) (w0 : World) (hF : ∀ k, F k → k < w0.heap.size) (e1 : GExpr) (a1 : Option Addr) (c1 : Nat) (a2 : Option Addr) (c2 : Nat) (a3 : Option Addr) (c3 : Nat) (hc : AllCl [Cl.sl cGMono a1 c1 e1.Lin.L, Cl.sl cGIndex a2 c2 e1.Idx, Cl.sl cGExpr a3 c3 e1.Args, clSpace] F w0) (r : Int)
  (h : m_expr_Validate e1 = some r) :
  Calls Tryz.prog 45 #[(Value.agg #[vi e1.Op, (str e1.Name), vi e1.Val.N, vi e1.Val.D, vi e1.Type_.Kind, vi e1.Type_.Bits, vi e1.Type_.Frac, vi e1.Type_.Round, vi e1.Type_.Over, vi e1.Lin.K, vs a1 e1.Lin.L.length c1, vs a2 e1.Idx.length c2, vs a3 e1.Args.length c3])] w0 fun e w => e = .returned (vi r) ∧ Ext w0 w ∧ AllCl [] F w := by
 refine enterK Tryz.func45 rfl Tryz.ntmps45 rfl ?_
 have hI := Bun.start hF hc
 clear hc
 rw [m_expr_Validate] at h
 refine sr (l_box (v := (Value.agg #[vi e1.Op, (str e1.Name), vi e1.Val.N, vi e1.Val.D, vi e1.Type_.Kind, vi e1.Type_.Bits, vi e1.Type_.Frac, vi e1.Type_.Round, vi e1.Type_.Over, vi e1.Lin.K, vs a1 e1.Lin.L.length c1, vs a2 e1.Idx.length c2, vs a3 e1.Args.length c3])) (cs := #[vi e1.Op, (str e1.Name), vi e1.Val.N, vi e1.Val.D, vi e1.Type_.Kind, vi e1.Type_.Bits, vi e1.Type_.Frac, vi e1.Type_.Round, vi e1.Type_.Over, vi e1.Lin.K, vs a1 e1.Lin.L.length c1, vs a2 e1.Idx.length c2, vs a3 e1.Args.length c3]) hI gn rfl rfl et rfl ?_)
 clear hI; intro b1 c4 w1 hI
 obtain ⟨c5, hI⟩ := hI.relBox .z
 refine l_alloc (cs := #[vi 0]) hI gn rfl rfl zero_44 rfl ?_
 clear hI; intro b2 c6 w2 hI
 refine nk (c_seq (sr (sq (y_loadN (l := [vi e1.Op, (str e1.Name), vi e1.Val.N, vi e1.Val.D, vi e1.Type_.Kind, vi e1.Type_.Bits, vi e1.Type_.Frac, vi e1.Type_.Round, vi e1.Type_.Over, vi e1.Lin.K, vs a1 e1.Lin.L.length c1, vs a2 e1.Idx.length c2, vs a3 e1.Args.length c3]) rfl et u39 rfl size_39 (hI.kblk (l := [vi e1.Op, (str e1.Name), vi e1.Val.N, vi e1.Val.D, vi e1.Type_.Kind, vi e1.Type_.Bits, vi e1.Type_.Frac, vi e1.Type_.Round, vi e1.Type_.Over, vi e1.Lin.K, vs a1 e1.Lin.L.length c1, vs a2 e1.Idx.length c2, vs a3 e1.Args.length c3]) .z rfl).1) ?_)))
 obtain ⟨r1, hx1, h⟩ := bnd_some h
 refine s_call gn rfl (r_callF (vs := [(Value.agg #[vi e1.Op, (str e1.Name), vi e1.Val.N, vi e1.Val.D, vi e1.Type_.Kind, vi e1.Type_.Bits, vi e1.Type_.Frac, vi e1.Type_.Round, vi e1.Type_.Over, vi e1.Lin.K, vs a1 e1.Lin.L.length c1, vs a2 e1.Idx.length c2, vs a3 e1.Args.length c3])]) rfl ok_91 ⟨et, trivial⟩) (Calls.mono (c_expr_Depth (Dj F c6) w2 hI.lt e1 a1 c1 a2 c2 a3 c3 ⟨(hI.get (.s .z)), (hI.get (.s (.s .z))), (hI.get (.s (.s (.s .z)))), trivial⟩ r1 hx1) ?_)
 rintro _ w3 ⟨rfl, hx2, hl1⟩
 refine ⟨_, rfl, ?_⟩
 replace hI := (hI.ext hx2)
 refine sq (y_gtr rfl et ev_const) ?_
 refine nk (cif h et (fun hb h => ?_) (fun hb h => ?_))
 ·refine sr (l_store (new := [vi 13]) (cs' := #[vi 13]) hI .z gn rfl rfl et ev_const rfl size_44 rfl rfl rfl ?_)
  clear hI; intro c7 w4 hI
  refine nk (c_ret ?_)
  obtain rfl := some_inj h
  exact q_ret (vs := [vi 13]) Tryz.results45 ⟨⟨_, ev_tmp rfl rfl, load_one (v := (vi 13)) u44 rfl (CellsAt.of_blk (hI.blk .z) rfl)⟩, trivial⟩ (fq hI trivial)
 refine c_skip (k_same (c_seq (sr (sq (y_loadN (l := [vi e1.Op, (str e1.Name), vi e1.Val.N, vi e1.Val.D, vi e1.Type_.Kind, vi e1.Type_.Bits, vi e1.Type_.Frac, vi e1.Type_.Round, vi e1.Type_.Over, vi e1.Lin.K, vs a1 e1.Lin.L.length c1, vs a2 e1.Idx.length c2, vs a3 e1.Args.length c3]) rfl et u39 rfl size_39 (hI.kblk (l := [vi e1.Op, (str e1.Name), vi e1.Val.N, vi e1.Val.D, vi e1.Type_.Kind, vi e1.Type_.Bits, vi e1.Type_.Frac, vi e1.Type_.Round, vi e1.Type_.Over, vi e1.Lin.K, vs a1 e1.Lin.L.length c1, vs a2 e1.Idx.length c2, vs a3 e1.Args.length c3]) .z rfl).1) ?_))))
 obtain ⟨r2, hx3, h⟩ := bnd_some h
 refine s_call gn rfl (r_callF (vs := [(Value.agg #[vi e1.Op, (str e1.Name), vi e1.Val.N, vi e1.Val.D, vi e1.Type_.Kind, vi e1.Type_.Bits, vi e1.Type_.Frac, vi e1.Type_.Round, vi e1.Type_.Over, vi e1.Lin.K, vs a1 e1.Lin.L.length c1, vs a2 e1.Idx.length c2, vs a3 e1.Args.length c3])]) rfl ok_92 ⟨et, trivial⟩) (Calls.mono (c_expr_Size (Dj F c6) w3 hI.lt e1 a1 c1 a2 c2 a3 c3 ⟨(hI.get (.s .z)), (hI.get (.s (.s .z))), (hI.get (.s (.s (.s .z)))), trivial⟩ r2 hx3) ?_)
 rintro _ w5 ⟨rfl, hx4, hl2⟩
 refine ⟨_, rfl, ?_⟩
 replace hI := (hI.ext hx4)
 refine sq (y_gtr rfl et ev_const) ?_
 refine nk (cif h et (fun hb h => ?_) (fun hb h => ?_))
 ·refine sr (l_store (new := [vi 2]) (cs' := #[vi 2]) hI .z gn rfl rfl et ev_const rfl size_44 rfl rfl rfl ?_)
  clear hI; intro c8 w6 hI
  refine nk (c_ret ?_)
  obtain rfl := some_inj h
  exact q_ret (vs := [vi 2]) Tryz.results45 ⟨⟨_, ev_tmp rfl rfl, load_one (v := (vi 2)) u44 rfl (CellsAt.of_blk (hI.blk .z) rfl)⟩, trivial⟩ (fq hI trivial)
 refine c_skip (k_same (c_seq (sr (sq (y_loadN (l := [vi e1.Op, (str e1.Name), vi e1.Val.N, vi e1.Val.D, vi e1.Type_.Kind, vi e1.Type_.Bits, vi e1.Type_.Frac, vi e1.Type_.Round, vi e1.Type_.Over, vi e1.Lin.K, vs a1 e1.Lin.L.length c1, vs a2 e1.Idx.length c2, vs a3 e1.Args.length c3]) rfl et u39 rfl size_39 (hI.kblk (l := [vi e1.Op, (str e1.Name), vi e1.Val.N, vi e1.Val.D, vi e1.Type_.Kind, vi e1.Type_.Bits, vi e1.Type_.Frac, vi e1.Type_.Round, vi e1.Type_.Over, vi e1.Lin.K, vs a1 e1.Lin.L.length c1, vs a2 e1.Idx.length c2, vs a3 e1.Args.length c3]) .z rfl).1) ?_))))
 obtain ⟨r3, hx5, h⟩ := bnd_some h
 refine s_call gn rfl (r_callF (vs := [(Value.agg #[vi e1.Op, (str e1.Name), vi e1.Val.N, vi e1.Val.D, vi e1.Type_.Kind, vi e1.Type_.Bits, vi e1.Type_.Frac, vi e1.Type_.Round, vi e1.Type_.Over, vi e1.Lin.K, vs a1 e1.Lin.L.length c1, vs a2 e1.Idx.length c2, vs a3 e1.Args.length c3])]) rfl ok_93 ⟨et, trivial⟩) (Calls.mono (c_expr_Walk (Dj F c6) w5 hI.lt e1 a1 c1 a2 c2 a3 c3 ⟨(hI.get (.s .z)), (hI.get (.s (.s .z))), (hI.get (.s (.s (.s .z)))), trivial⟩ r3 hx5) ?_)
 rintro _ w7 ⟨b3, a4, c9, a5, c10, a6, c11, rfl, hx6, hl3⟩
 refine ⟨_, rfl, ?_⟩
 replace hI := (hI.ext hx6).adds hl3
 refine nk (c_block (c_rangeFunc [Code.ret] hI et ok_126 (fun l1 q1 fn1 tm1 rc1 hrc1 c13 w9 hE1 hI => ?_)))
 obtain ⟨c14, f1, hB, hl4, hk1⟩ := hI.hands (.l (.r (.l .n)))
 have hB : Bun c14 f1 w9 c14 w9 [MO.st (StI.loop l1 rc1 (fun (s : Int) (b : Unit) => [MO.box b2 44 #[vi s]]) (fun (s : Int) (b : Unit) => [Cl.blk b3 39 #[vi r3.Op, (str r3.Name), vi r3.Val.N, vi r3.Val.D, vi r3.Type_.Kind, vi r3.Type_.Bits, vi r3.Type_.Frac, vi r3.Type_.Round, vi r3.Type_.Over, vi r3.Lin.K, vs a4 r3.Lin.L.length c9, vs a5 r3.Idx.length c10, vs a6 r3.Args.length c11], Cl.sl cGMono a4 c9 r3.Lin.L, Cl.sl cGIndex a5 c10 r3.Idx, Cl.sl cGExpr a6 c11 r3.Args, clSpace])) (0, 0)] _ := Bun.mkst (b := ()) hB ⟨(.s (.s (.s .z))), .z, (.s .z), (.s (.s .z)), (.s (.s (.s (.s (.s (.s (.s (.s .z)))))))), trivial⟩
 have hY1 : fnS_k1 (StI.loop l1 rc1 (fun (s : Int) (b : Unit) => [MO.box b2 44 #[vi s]]) (fun (s : Int) (b : Unit) => [Cl.blk b3 39 #[vi r3.Op, (str r3.Name), vi r3.Val.N, vi r3.Val.D, vi r3.Type_.Kind, vi r3.Type_.Bits, vi r3.Type_.Frac, vi r3.Type_.Round, vi r3.Type_.Over, vi r3.Lin.K, vs a4 r3.Lin.L.length c9, vs a5 r3.Idx.length c10, vs a6 r3.Args.length c11], Cl.sl cGMono a4 c9 r3.Lin.L, Cl.sl cGIndex a5 c10 r3.Idx, Cl.sl cGExpr a6 c11 r3.Args, clSpace])) (Value.func (.yield l1) #[] #[]) (fun k_0 q => if q.1 = 0 then m_expr_Validate_b1 k_0 q.2 else none) (Dj f1 c14) w9 := by
  refine ⟨rfl, fun C0 F w0 _ => ?_⟩
  rintro y1 a7 c15 a8 c16 a9 c17 ⟨o_, v1⟩ r hB h
  replace h : o_ = 0 ∧ m_expr_Validate_b1 y1 v1 = some r := chk_some h
  have ho_ := h.1; subst ho_; replace h := h.2
  rw [m_expr_Validate_b1] at h
  obtain ⟨_, hI⟩ := Bun.unst hB
  subst hrc1
  replace hI : Bun C0 F w0 C0 w0 [MO.loop l1 (lrec fn1 tm1 _ _ _ q1 [Code.ret] 0), MO.box b2 44 #[vi v1]] [Cl.blk b3 39 #[vi r3.Op, (str r3.Name), vi r3.Val.N, vi r3.Val.D, vi r3.Type_.Kind, vi r3.Type_.Bits, vi r3.Type_.Frac, vi r3.Type_.Round, vi r3.Type_.Over, vi r3.Lin.K, vs a4 r3.Lin.L.length c9, vs a5 r3.Idx.length c10, vs a6 r3.Args.length c11], Cl.sl cGMono a4 c9 r3.Lin.L, Cl.sl cGIndex a5 c10 r3.Idx, Cl.sl cGExpr a6 c11 r3.Args, clSpace, Cl.sl cGMono a7 c15 y1.Lin.L, Cl.sl cGIndex a8 c16 y1.Idx, Cl.sl cGExpr a9 c17 y1.Args] := hI
  clear hB
  refine callV_yield hI rfl (has_round1 (hE1 ⟨19, []⟩ rfl rfl)) ?_
  refine c_region rfl ?_
  refine l_alloc (cs := #[vi 0, (str ([] : List UInt8)), vi 0, vi 0, vi 0, vi 0, vi 0, vi 0, vi 0, vi 0, vs none 0 0, vs none 0 0, vs none 0 0]) hI gn rfl rfl zero_39 rfl ?_
  clear hI; intro b4 c18 w10 hI
  refine l_store (new := [vi y1.Op, (str y1.Name), vi y1.Val.N, vi y1.Val.D, vi y1.Type_.Kind, vi y1.Type_.Bits, vi y1.Type_.Frac, vi y1.Type_.Round, vi y1.Type_.Over, vi y1.Lin.K, vs a7 y1.Lin.L.length c15, vs a8 y1.Idx.length c16, vs a9 y1.Args.length c17]) (cs' := #[vi y1.Op, (str y1.Name), vi y1.Val.N, vi y1.Val.D, vi y1.Type_.Kind, vi y1.Type_.Bits, vi y1.Type_.Frac, vi y1.Type_.Round, vi y1.Type_.Over, vi y1.Lin.K, vs a7 y1.Lin.L.length c15, vs a8 y1.Idx.length c16, vs a9 y1.Args.length c17]) hI .z gn rfl rfl et et rfl size_39 rfl rfl rfl ?_
  clear hI; intro c19 w11 hI
  refine s_nil ?_
  refine k_begin hI (.s .z) (fun c20 w12 hI => ?_)
  refine c_block (sr (sq (y_loadN (l := [vi y1.Op, (str y1.Name), vi y1.Val.N, vi y1.Val.D, vi y1.Type_.Kind, vi y1.Type_.Bits, vi y1.Type_.Frac, vi y1.Type_.Round, vi y1.Type_.Over, vi y1.Lin.K, vs a7 y1.Lin.L.length c15, vs a8 y1.Idx.length c16, vs a9 y1.Args.length c17]) rfl et u39 rfl size_39 (CellsAt.of_blk (hI.blk .z) rfl)) ?_))
  obtain ⟨r4, hx7, h⟩ := bnd_some h
  refine s_call gn rfl (r_callF (vs := [(Value.agg #[vi y1.Op, (str y1.Name), vi y1.Val.N, vi y1.Val.D, vi y1.Type_.Kind, vi y1.Type_.Bits, vi y1.Type_.Frac, vi y1.Type_.Round, vi y1.Type_.Over, vi y1.Lin.K, vs a7 y1.Lin.L.length c15, vs a8 y1.Idx.length c16, vs a9 y1.Args.length c17])]) rfl ok_94 ⟨et, trivial⟩) (Calls.mono (c_expr_validNode (Dj F c20) w12 hI.lt y1 a7 c15 a8 c16 a9 c17 ⟨(hI.get (.s (.s (.s (.s (.s .z)))))), (hI.get (.s (.s (.s (.s (.s (.s .z))))))), (hI.get (.s (.s (.s (.s (.s (.s (.s .z)))))))), (hI.get (.s (.s (.s (.s .z))))), trivial⟩ r4 hx7) ?_)
  rintro _ w13 ⟨rfl, hx8, hl5⟩
  refine ⟨_, rfl, ?_⟩
  replace hI := (hI.ext hx8)
  refine sa ?_
  refine nk (sr (sm ?_))
  refine sq (y_neq rfl et ev_const) ?_
  refine nk (cif h et (fun hb h => ?_) (fun hb h => ?_))
  ·refine sr (sm ?_)
   refine l_store (new := [vi r4]) (cs' := #[vi r4]) hI (.s (.s .z)) gn rfl rfl et et rfl size_44 rfl rfl rfl ?_
   clear hI; intro c21 w14 hI
   refine nk (c_ret ?_)
   obtain rfl := some_inj h
   exact fun _ _ => k_round (js := [Code.ret]) (oS := (fun (s : Int) (b : Unit) => [MO.box b2 44 #[vi s]])) (cS := (fun (s : Int) (b : Unit) => [Cl.blk b3 39 #[vi r3.Op, (str r3.Name), vi r3.Val.N, vi r3.Val.D, vi r3.Type_.Kind, vi r3.Type_.Bits, vi r3.Type_.Frac, vi r3.Type_.Round, vi r3.Type_.Over, vi r3.Lin.K, vs a4 r3.Lin.L.length c9, vs a5 r3.Idx.length c10, vs a6 r3.Args.length c11], Cl.sl cGMono a4 c9 r3.Lin.L, Cl.sl cGIndex a5 c10 r3.Idx, Cl.sl cGExpr a6 c11 r3.Args, clSpace])) (out := 1) (s := r4) (b := ()) (hI.arr (.c (.s .z) (.c (.s .z) .n)) ⟨.z, (.s .z), (.s (.s .z)), (.s (.s (.s .z))), (.s (.s (.s (.s .z)))), trivial⟩) rfl (fun C w hB => ⟨C, rfl, hB⟩)
  refine c_skip ?_
  obtain rfl := some_inj h
  exact fun _ _ => k_round (js := [Code.ret]) (oS := (fun (s : Int) (b : Unit) => [MO.box b2 44 #[vi s]])) (cS := (fun (s : Int) (b : Unit) => [Cl.blk b3 39 #[vi r3.Op, (str r3.Name), vi r3.Val.N, vi r3.Val.D, vi r3.Type_.Kind, vi r3.Type_.Bits, vi r3.Type_.Frac, vi r3.Type_.Round, vi r3.Type_.Over, vi r3.Lin.K, vs a4 r3.Lin.L.length c9, vs a5 r3.Idx.length c10, vs a6 r3.Args.length c11], Cl.sl cGMono a4 c9 r3.Lin.L, Cl.sl cGIndex a5 c10 r3.Idx, Cl.sl cGExpr a6 c11 r3.Args, clSpace])) (out := 0) (s := v1) (b := ()) (hI.arr (.c (.s .z) (.c (.s .z) .n)) ⟨.z, (.s .z), (.s (.s .z)), (.s (.s (.s .z))), (.s (.s (.s (.s .z)))), trivial⟩) rfl (fun C w hB => ⟨C, rfl, hB⟩)
 obtain ⟨⟨u1, o1, v2⟩, hx9, h⟩ := bnd_some h
 try dsimp only at h
 refine Calls.mono (c_expr_Walk_1_s (StI.loop l1 rc1 (fun (s : Int) (b : Unit) => [MO.box b2 44 #[vi s]]) (fun (s : Int) (b : Unit) => [Cl.blk b3 39 #[vi r3.Op, (str r3.Name), vi r3.Val.N, vi r3.Val.D, vi r3.Type_.Kind, vi r3.Type_.Bits, vi r3.Type_.Frac, vi r3.Type_.Round, vi r3.Type_.Over, vi r3.Lin.K, vs a4 r3.Lin.L.length c9, vs a5 r3.Idx.length c10, vs a6 r3.Args.length c11], Cl.sl cGMono a4 c9 r3.Lin.L, Cl.sl cGIndex a5 c10 r3.Idx, Cl.sl cGExpr a6 c11 r3.Args, clSpace])) c14 f1 w9 (fun k_0 q => if q.1 = 0 then m_expr_Validate_b1 k_0 q.2 else none) r3 (0, 0) (Value.func (.yield l1) #[] #[]) b3 a4 c9 a5 c10 a6 c11 ((hB.add (c := clFnS_k1 (StI.loop l1 rc1 (fun (s : Int) (b : Unit) => [MO.box b2 44 #[vi s]]) (fun (s : Int) (b : Unit) => [Cl.blk b3 39 #[vi r3.Op, (str r3.Name), vi r3.Val.N, vi r3.Val.D, vi r3.Type_.Kind, vi r3.Type_.Bits, vi r3.Type_.Frac, vi r3.Type_.Round, vi r3.Type_.Over, vi r3.Lin.K, vs a4 r3.Lin.L.length c9, vs a5 r3.Idx.length c10, vs a6 r3.Args.length c11], Cl.sl cGMono a4 c9 r3.Lin.L, Cl.sl cGIndex a5 c10 r3.Idx, Cl.sl cGExpr a6 c11 r3.Args, clSpace])) (Value.func (.yield l1) #[] #[]) (fun k_0 q => if q.1 = 0 then m_expr_Validate_b1 k_0 q.2 else none)) hY1).subs ⟨.z, (.s .z), (.s (.s .z)), (.s (.s (.s .z))), (.s (.s (.s (.s .z)))), trivial⟩) _ hx9) ?_
 rintro _ w16 ⟨c23, rfl, hB2⟩
 obtain ⟨_, hB2⟩ := Bun.unst hB2
 subst hrc1
 obtain ⟨c24, hs1, hI⟩ := hk1 _ _ _ _ hB2
 replace hI : Bun noM F w0 c24 w16 [MO.loop l1 (lrec fn1 tm1 _ _ _ q1 [Code.ret] o1), MO.box b2 44 #[vi v2], MO.dfr q1] [Cl.blk b3 39 #[vi r3.Op, (str r3.Name), vi r3.Val.N, vi r3.Val.D, vi r3.Type_.Kind, vi r3.Type_.Bits, vi r3.Type_.Frac, vi r3.Type_.Round, vi r3.Type_.Over, vi r3.Lin.K, vs a4 r3.Lin.L.length c9, vs a5 r3.Idx.length c10, vs a6 r3.Args.length c11], Cl.sl cGMono a4 c9 r3.Lin.L, Cl.sl cGIndex a5 c10 r3.Idx, Cl.sl cGExpr a6 c11 r3.Args, clSpace, Cl.sl cGMono a4 c9 r3.Lin.L, Cl.sl cGIndex a5 c10 r3.Idx, Cl.sl cGExpr a6 c11 r3.Args, Cl.blk b3 39 #[vi r3.Op, (str r3.Name), vi r3.Val.N, vi r3.Val.D, vi r3.Type_.Kind, vi r3.Type_.Bits, vi r3.Type_.Frac, vi r3.Type_.Round, vi r3.Type_.Over, vi r3.Lin.K, vs a4 r3.Lin.L.length c9, vs a5 r3.Idx.length c10, vs a6 r3.Args.length c11], Cl.blk b1 39 #[vi e1.Op, (str e1.Name), vi e1.Val.N, vi e1.Val.D, vi e1.Type_.Kind, vi e1.Type_.Bits, vi e1.Type_.Frac, vi e1.Type_.Round, vi e1.Type_.Over, vi e1.Lin.K, vs a1 e1.Lin.L.length c1, vs a2 e1.Idx.length c2, vs a3 e1.Args.length c3], Cl.sl cGMono a1 c1 e1.Lin.L, Cl.sl cGIndex a2 c2 e1.Idx, Cl.sl cGExpr a3 c3 e1.Args, clSpace] := hI
 refine ⟨_, rfl, k_endLoop hI .z (fun c25 w17 hI => ?_)⟩
 by_cases hz1 : o1 = 0
 ·subst hz1; rw [if_pos rfl] at h
  refine k_same (sr (l_store (new := [vi 0]) (cs' := #[vi 0]) hI (.s .z) gn rfl rfl et ev_const rfl size_44 rfl rfl rfl ?_))
  clear hI; intro c26 w18 hI
  refine nk (c_ret ?_)
  obtain ⟨w19, hs2, c27, hI⟩ : ∃ w2, Shuts Tryz.prog [q1] w18 w2 ∧ ∃ C, Bun noM F w0 C w2 [MO.obj l1 _, MO.box b2 44 #[vi 0], MO.obj q1 (.deferred none)] [Cl.blk b3 39 #[vi r3.Op, (str r3.Name), vi r3.Val.N, vi r3.Val.D, vi r3.Type_.Kind, vi r3.Type_.Bits, vi r3.Type_.Frac, vi r3.Type_.Round, vi r3.Type_.Over, vi r3.Lin.K, vs a4 r3.Lin.L.length c9, vs a5 r3.Idx.length c10, vs a6 r3.Args.length c11], Cl.sl cGMono a4 c9 r3.Lin.L, Cl.sl cGIndex a5 c10 r3.Idx, Cl.sl cGExpr a6 c11 r3.Args, clSpace, Cl.sl cGMono a4 c9 r3.Lin.L, Cl.sl cGIndex a5 c10 r3.Idx, Cl.sl cGExpr a6 c11 r3.Args, Cl.blk b3 39 #[vi r3.Op, (str r3.Name), vi r3.Val.N, vi r3.Val.D, vi r3.Type_.Kind, vi r3.Type_.Bits, vi r3.Type_.Frac, vi r3.Type_.Round, vi r3.Type_.Over, vi r3.Lin.K, vs a4 r3.Lin.L.length c9, vs a5 r3.Idx.length c10, vs a6 r3.Args.length c11], Cl.blk b1 39 #[vi e1.Op, (str e1.Name), vi e1.Val.N, vi e1.Val.D, vi e1.Type_.Kind, vi e1.Type_.Bits, vi e1.Type_.Frac, vi e1.Type_.Round, vi e1.Type_.Over, vi e1.Lin.K, vs a1 e1.Lin.L.length c1, vs a2 e1.Idx.length c2, vs a3 e1.Args.length c3], Cl.sl cGMono a1 c1 e1.Lin.L, Cl.sl cGIndex a2 c2 e1.Idx, Cl.sl cGExpr a3 c3 e1.Args, clSpace] := hI.shut (.s (.s .z)) fun C w hI => shut_nil ⟨_, hI⟩
  obtain rfl := some_inj h
  exact q_retS (vs := [vi 0]) hs2 Tryz.results45 ⟨⟨_, ev_tmp rfl rfl, load_one (v := (vi 0)) u44 rfl (CellsAt.of_blk (hI.blk (.s .z)) rfl)⟩, trivial⟩ (fq hI trivial)
 rw [if_neg hz1] at h
 by_cases hz2 : o1 = 1
 ·subst hz2; rw [if_pos rfl] at h
  refine c_ret ?_
  obtain ⟨w20, hs3, c28, hI⟩ : ∃ w2, Shuts Tryz.prog [q1] w17 w2 ∧ ∃ C, Bun noM F w0 C w2 [MO.obj l1 _, MO.box b2 44 #[vi v2], MO.obj q1 (.deferred none)] [Cl.blk b3 39 #[vi r3.Op, (str r3.Name), vi r3.Val.N, vi r3.Val.D, vi r3.Type_.Kind, vi r3.Type_.Bits, vi r3.Type_.Frac, vi r3.Type_.Round, vi r3.Type_.Over, vi r3.Lin.K, vs a4 r3.Lin.L.length c9, vs a5 r3.Idx.length c10, vs a6 r3.Args.length c11], Cl.sl cGMono a4 c9 r3.Lin.L, Cl.sl cGIndex a5 c10 r3.Idx, Cl.sl cGExpr a6 c11 r3.Args, clSpace, Cl.sl cGMono a4 c9 r3.Lin.L, Cl.sl cGIndex a5 c10 r3.Idx, Cl.sl cGExpr a6 c11 r3.Args, Cl.blk b3 39 #[vi r3.Op, (str r3.Name), vi r3.Val.N, vi r3.Val.D, vi r3.Type_.Kind, vi r3.Type_.Bits, vi r3.Type_.Frac, vi r3.Type_.Round, vi r3.Type_.Over, vi r3.Lin.K, vs a4 r3.Lin.L.length c9, vs a5 r3.Idx.length c10, vs a6 r3.Args.length c11], Cl.blk b1 39 #[vi e1.Op, (str e1.Name), vi e1.Val.N, vi e1.Val.D, vi e1.Type_.Kind, vi e1.Type_.Bits, vi e1.Type_.Frac, vi e1.Type_.Round, vi e1.Type_.Over, vi e1.Lin.K, vs a1 e1.Lin.L.length c1, vs a2 e1.Idx.length c2, vs a3 e1.Args.length c3], Cl.sl cGMono a1 c1 e1.Lin.L, Cl.sl cGIndex a2 c2 e1.Idx, Cl.sl cGExpr a3 c3 e1.Args, clSpace] := hI.shut (.s (.s .z)) fun C w hI => shut_nil ⟨_, hI⟩
  obtain rfl := some_inj h
  exact q_retS (vs := [vi v2]) hs3 Tryz.results45 ⟨⟨_, ev_tmp rfl rfl, load_one (v := (vi v2)) u44 rfl (CellsAt.of_blk (hI.blk (.s .z)) rfl)⟩, trivial⟩ (fq hI trivial)
 rw [if_neg hz2] at h
 cases h
theorem c_printer_precedence (F : NP) (w0 : World) (hF : ∀ k, F k → k < w0.heap.size) (op1 : Int) (hc : AllCl [] F w0) (r : Int)
  (h : m_printer_precedence op1 = some r) :
  Calls Tryz.prog 95 #[vi op1] w0 fun e w => e = .returned (vi r) ∧ Ext w0 w ∧ AllCl [] F w := by
 refine enterK Tryz.func95 rfl Tryz.ntmps95 rfl ?_
 have hI := Bun.start hF hc
 clear hc
 rw [m_printer_precedence] at h
 refine sr (sac ?_)
 refine nk (c_seq (sr (sm ?_)))
 refine nk (c_block (sr (sq (y_eql rfl et ev_const) ?_)))
 refine sa ?_
 refine nk (cif h et (fun hb h => ?_) (fun hb h => ?_))
 ·refine sr (sac ?_)
  refine nk (c_ret ?_)
  obtain rfl := some_inj h
  exact q_ret (vs := [vi 1]) Tryz.results95 ⟨ev_tmp rfl rfl, trivial⟩ (fq hI trivial)
 refine sr (sq (y_eql rfl et ev_const) ?_)
 refine sa ?_
 refine nk (cif h et (fun hb h => ?_) (fun hb h => ?_))
 ·refine sr (sac ?_)
  refine nk (c_ret ?_)
  obtain rfl := some_inj h
  exact q_ret (vs := [vi 2]) Tryz.results95 ⟨ev_tmp rfl rfl, trivial⟩ (fq hI trivial)
 refine sr (sq (y_eql rfl et ev_const) ?_)
 refine sa ?_
 refine nk (cif h et (fun hb h => ?_) (fun hb h => ?_))
 ·refine sr (sac ?_)
  refine nk (c_ret ?_)
  obtain rfl := some_inj h
  exact q_ret (vs := [vi 3]) Tryz.results95 ⟨ev_tmp rfl rfl, trivial⟩ (fq hI trivial)
 refine c_join (α := Bool) (fun _ => ⟨22, []⟩) (fun x => [(3, vi op1), (10, vb x)]) (fun x => fun w => ∃ C, Bun noM F w0 C w [] [] ∧ m_printer_precedence_j1 op1 x = some r) ?_ ?_
 ·clear h hI; rintro i1 w1 ⟨c1, hI, h⟩
  try dsimp only at hI h
  rw [m_printer_precedence_j1] at h
  refine c_sub (e := [(3, vi op1), (10, vb i1)]) ⟨rfl, rfl, trivial⟩ ?_
  refine cif h et (fun hb h => ?_) (fun hb h => ?_)
  ·refine sr (sac ?_)
   refine nk (c_ret ?_)
   obtain rfl := some_inj h
   exact q_ret (vs := [vi 4]) Tryz.results95 ⟨ev_tmp rfl rfl, trivial⟩ (fq hI trivial)
  refine c_join (α := Bool) (fun _ => ⟨22, []⟩) (fun x => [(3, vi op1), (14, vb x)]) (fun x => fun w => ∃ C, Bun noM F w0 C w [] [] ∧ m_printer_precedence_j2 op1 x = some r) ?_ ?_
  ·clear h hI; rintro i2 w2 ⟨c2, hI, h⟩
   try dsimp only at hI h
   rw [m_printer_precedence_j2] at h
   refine c_sub (e := [(3, vi op1), (14, vb i2)]) ⟨rfl, rfl, trivial⟩ ?_
   refine cif h et (fun hb h => ?_) (fun hb h => ?_)
   ·refine sr (sac ?_)
    refine nk (c_ret ?_)
    obtain rfl := some_inj h
    exact q_ret (vs := [vi 5]) Tryz.results95 ⟨ev_tmp rfl rfl, trivial⟩ (fq hI trivial)
   refine c_join (α := Bool) (fun _ => ⟨22, []⟩) (fun x => [(3, vi op1), (17, vb x)]) (fun x => fun w => ∃ C, Bun noM F w0 C w [] [] ∧ m_printer_precedence_j3 op1 x = some r) ?_ ?_
   ·clear h hI; rintro i3 w3 ⟨c3, hI, h⟩
    try dsimp only at hI h
    rw [m_printer_precedence_j3] at h
    refine c_sub (e := [(3, vi op1), (17, vb i3)]) ⟨rfl, rfl, trivial⟩ ?_
    refine cif h et (fun hb h => ?_) (fun hb h => ?_)
    ·refine sr (sac ?_)
     refine nk (c_ret ?_)
     obtain rfl := some_inj h
     exact q_ret (vs := [vi 6]) Tryz.results95 ⟨ev_tmp rfl rfl, trivial⟩ (fq hI trivial)
    refine sr (sq (y_eql rfl et ev_const) ?_)
    refine sa ?_
    refine nk (cif h et (fun hb h => ?_) (fun hb h => ?_))
    ·refine sr (sac ?_)
     refine nk (c_ret ?_)
     obtain rfl := some_inj h
     exact q_ret (vs := [vi 7]) Tryz.results95 ⟨ev_tmp rfl rfl, trivial⟩ (fq hI trivial)
    refine c_skip (k_same (sr (sac ?_)))
    refine nk (c_ret ?_)
    obtain rfl := some_inj h
    exact q_ret (vs := [vi 8]) Tryz.results95 ⟨ev_tmp rfl rfl, trivial⟩ (fq hI trivial)
   refine sr (sq (y_eql rfl et ev_const) ?_)
   refine sa ?_
   refine nk (cif h et (fun hb h => ?_) (fun hb h => ?_))
   ·exact c_skip (k_join (decide (op1 = 6)) ⟨rfl, rfl, trivial⟩ ⟨_, hI.arr .n trivial, h⟩ rfl)
   refine c_region rfl ?_
   refine sq (y_eql rfl et ev_const) ?_
   refine sa ?_
   refine s_nil ?_
   exact k_join (decide (op1 = 7)) ⟨rfl, rfl, trivial⟩ ⟨_, hI.arr .n trivial, h⟩ rfl
  refine sr (sq (y_eql rfl et ev_const) ?_)
  refine sa ?_
  refine nk (cif h et (fun hb h => ?_) (fun hb h => ?_))
  ·exact c_skip (k_join (decide (op1 = 4)) ⟨rfl, rfl, trivial⟩ ⟨_, hI.arr .n trivial, h⟩ rfl)
  refine c_region rfl ?_
  refine sq (y_eql rfl et ev_const) ?_
  refine sa ?_
  refine s_nil ?_
  exact k_join (decide (op1 = 5)) ⟨rfl, rfl, trivial⟩ ⟨_, hI.arr .n trivial, h⟩ rfl
 refine sr (sq (y_eql rfl et ev_const) ?_)
 refine sa ?_
 refine nk (cif h et (fun hb h => ?_) (fun hb h => ?_))
 ·exact c_skip (k_join (decide (op1 = 13)) ⟨rfl, rfl, trivial⟩ ⟨_, hI.arr .n trivial, h⟩ rfl)
 refine sr (sq (y_eql rfl et ev_const) ?_)
 refine sa ?_
 refine nk (cif h et (fun hb h => ?_) (fun hb h => ?_))
 ·exact c_skip (k_join (decide (op1 = 14)) ⟨rfl, rfl, trivial⟩ ⟨_, hI.arr .n trivial, h⟩ rfl)
 refine c_region rfl ?_
 refine sq (y_eql rfl et ev_const) ?_
 refine sa ?_
 refine s_nil ?_
 exact k_join (decide (op1 = 15)) ⟨rfl, rfl, trivial⟩ ⟨_, hI.arr .n trivial, h⟩ rfl
theorem c_fixed_check (F : NP) (w0 : World) (hF : ∀ k, F k → k < w0.heap.size) (t1 : GType) (operands1 : List GVal) (a1 : Option Addr) (c1 : Nat) (hc : AllCl [Cl.sl cGVal a1 c1 operands1] F w0) (r : Int)
  (h : m_fixed_check t1 operands1 = some r) :
  Calls Tryz.prog 183 #[(Value.agg (AType t1)), vs a1 operands1.length c1] w0 fun e w => e = .returned (vi r) ∧ Ext w0 w ∧ AllCl [] F w := by
 refine enterK Tryz.func183 rfl Tryz.ntmps183 rfl ?_
 have hI := Bun.start hF hc
 clear hc
 rw [m_fixed_check] at h
 refine sr (l_box (v := (Value.agg (AType t1))) (cs := (AType t1)) hI gn rfl rfl et rfl ?_)
 clear hI; intro b1 c2 w1 hI
 obtain ⟨c3, hI⟩ := hI.relBox .z
 refine sac ?_
 refine nk (c_seq (sr (sq (y_loadN (l := (lType t1)) rfl et u23 rfl size_23 (hI.kblk (l := (lType t1)) .z rfl).1) ?_)))
 obtain ⟨r1, hx1, h⟩ := bnd_some h
 refine s_call gn rfl (r_callF (vs := [(Value.agg (AType t1))]) rfl ok_72 ⟨et, trivial⟩) (Calls.mono (c_fixed_ValidateType (Dj F c3) w1 hI.lt t1 trivial r1 hx1) ?_)
 rintro _ w2 ⟨rfl, hx2, hl1⟩
 refine ⟨_, rfl, ?_⟩
 replace hI := (hI.ext hx2)
 refine sa ?_
 refine nk (sr (sm ?_))
 refine sq (y_neq rfl et ev_const) ?_
 refine nk (cif h et (fun hb h => ?_) (fun hb h => ?_))
 ·refine sr (sm ?_)
  refine sa ?_
  refine nk (c_ret ?_)
  obtain rfl := some_inj h
  exact q_ret (vs := [vi r1]) Tryz.results183 ⟨ev_tmp rfl rfl, trivial⟩ (fq hI trivial)
 refine c_skip (k_same (c_seq (sr (sm ?_))))
 refine sq (y_lenl rfl u181 et) ?_
 refine sq (y_move rfl ev_const) ?_
 refine nk (c_block (c_loop (α := Nat × Int) (fun x => fun w => ∃ C, Bun noM F w0 C w [] [Cl.blk b1 23 (AType t1), Cl.sl cGVal a1 c1 operands1] ∧ m_fixed_check_l1 operands1 t1 (x.1) (x.2) = some r) (fun x _ => x.1) (fun x => [(2, vp b1 0), (13, vs a1 operands1.length c1), (14, vi (operands1.length : Int)), (15, vi (x.2))]) (fu, 0) ⟨_, hI.arr .n ⟨.z, (.s .z), trivial⟩, h⟩ ⟨rfl, rfl, rfl, rfl, trivial⟩ ?_))
 clear h hI; rintro ⟨fuel1, i1⟩ w3 ⟨c4, hI, h⟩
 dsimp only at hI h
 rcases fuel1 with _ | fuel1
 ·rw [m_fixed_check_l1] at h; cases h
 rw [m_fixed_check_l1] at h
 refine c_sub (e := [(2, vp b1 0), (13, vs a1 operands1.length c1), (14, vi (operands1.length : Int)), (15, vi i1)]) ⟨rfl, rfl, rfl, rfl, trivial⟩ ?_
 refine sr (sq (y_lss rfl et et) ?_)
 refine nk (c_seq (cif h et (fun hb h => ?_) (fun hb h => ?_)))
 ·refine c_skip (k_same (c_seq (c_block (sr ?_))))
  obtain ⟨e1, hx3, h⟩ := bnd_some h
  obtain ⟨ad1, cs1, hA1, hr1, hq1⟩ := hI.clat (.s .z) hx3
  obtain rfl : cs1 = (lVal e1) := hr1
  refine sq (y_indexAddr rfl u181 size_36 et et (lat_bd hx3) hA1) ?_
  refine sq (y_loadN (l := (lVal e1)) rfl et u36 rfl size_36 hq1.1) ?_
  refine l_alloc (cs := #[vi 0, vi 0]) hI gn rfl rfl zero_36 rfl ?_
  clear hI; intro b2 c5 w4 hI
  refine l_store (new := (lVal e1)) (cs' := (AVal e1)) hI .z gn rfl rfl et et rfl size_36 rfl rfl rfl ?_
  clear hI; intro c6 w5 hI
  refine nk (sr (sq (y_loadN (l := (lType t1)) rfl et u23 rfl size_23 (hI.kblk (l := (lType t1)) .z rfl).1) ?_))
  refine sq (y_loadN (l := (lVal e1)) rfl et u36 rfl size_36 (CellsAt.of_blk (hI.blk .z) rfl)) ?_
  obtain ⟨r2, hx4, h⟩ := bnd_some h
  refine s_call gn rfl (r_callF (vs := [(Value.agg (AType t1)), (Value.agg (AVal e1))]) rfl ok_160 ⟨et, ⟨et, trivial⟩⟩) (Calls.mono (c_fixed_Valid (Dj F c6) w5 hI.lt t1 e1 trivial r2 hx4) ?_)
  rintro _ w6 ⟨rfl, hx5, hl2⟩
  refine ⟨_, rfl, ?_⟩
  replace hI := (hI.ext hx5)
  refine sq (y_not rfl et) ?_
  refine nk (cif h et (fun hb h => ?_) (fun hb h => ?_))
  ·refine sr (sac ?_)
   refine nk (c_ret ?_)
   obtain rfl := some_inj h
   exact q_ret (vs := [vi 1]) Tryz.results183 ⟨ev_tmp rfl rfl, trivial⟩ (fq hI trivial)
  refine c_skip (k_same (c_region rfl ?_))
  refine sq (y_add rfl et ev_const) ?_
  refine sm ?_
  refine s_nil ?_
  exact k_loop (fuel1, wi64 (i1 + 1)) ⟨rfl, rfl, rfl, rfl, trivial⟩ ⟨_, hI.arr .n ⟨.z, (.s .z), trivial⟩, h⟩ (Nat.lt_succ_self _)
 refine c_exit ?_
 refine k_in ?_
 refine k_same (sr (sac ?_))
 refine nk (c_ret ?_)
 obtain rfl := some_inj h
 exact q_ret (vs := [vi 0]) Tryz.results183 ⟨ev_tmp rfl rfl, trivial⟩ (fq hI trivial)
theorem c_frac_New (F : NP) (w0 : World) (hF : ∀ k, F k → k < w0.heap.size) (n1 : Int) (d1 : Int) (hc : AllCl [] F w0) (r : GVal × Int)
  (h : m_frac_New n1 d1 = some r) :
  Calls Tryz.prog 184 #[vi n1, vi d1] w0 fun e w => e = .returned (Value.tuple #[(Value.agg (AVal r.1)), vi r.2]) ∧ Ext w0 w ∧ AllCl [] F w := by
 refine enterK Tryz.func184 rfl Tryz.ntmps184 rfl ?_
 have hI := Bun.start hF hc
 clear hc
 rw [m_frac_New] at h
 refine sr (l_alloc (cs := #[vi 0, vi 0]) hI gn rfl rfl zero_36 rfl ?_)
 clear hI; intro b1 c1 w1 hI
 refine sac ?_
 refine nk (c_seq (sr (sm ?_)))
 refine sq (y_eql rfl et ev_const) ?_
 refine nk (cif h et (fun hb h => ?_) (fun hb h => ?_))
 ·refine sr (sq (y_build (vs := []) (cs := #[vi 0, vi 0]) rfl trivial (by kernel_rfl)) ?_)
  refine l_store (new := [vi 0, vi 0]) (cs' := #[vi 0, vi 0]) hI .z gn rfl rfl et et rfl size_36 rfl rfl rfl ?_
  clear hI; intro c2 w2 hI
  refine sac ?_
  refine nk (c_ret ?_)
  obtain rfl := some_inj h
  exact q_ret (vs := [(Value.agg #[vi 0, vi 0]), vi 4]) Tryz.results184 ⟨⟨_, ev_tmp rfl rfl, load_agg (l := [vi 0, vi 0]) u36 rfl size_36 (CellsAt.of_blk (hI.blk .z) rfl)⟩, ⟨ev_tmp rfl rfl, trivial⟩⟩ (fq hI trivial)
 refine c_skip (k_same (sr (sm ?_)))
 refine sq (y_lss rfl et ev_const) ?_
 refine sm ?_
 refine sq (y_lss rfl et ev_const) ?_
 refine sq (y_neb rfl u4 et et) ?_
 obtain ⟨negative1, hx1, h⟩ := bnd_some h
 refine sq (binU (y_assign rfl et) (congrArg Value.bool (some_inj hx1))) ?_
 refine nk (sr (sm ?_))
 obtain ⟨r1, hx2, h⟩ := bnd_some h
 refine s_call gn rfl (r_callF (vs := [vi n1]) rfl ok_182 ⟨et, trivial⟩) (Calls.mono (c_frac_magnitude (Dj F c1) w1 hI.lt n1 trivial r1 hx2) ?_)
 rintro _ w3 ⟨rfl, hx3, hl1⟩
 refine ⟨_, rfl, ?_⟩
 replace hI := (hI.ext hx3)
 refine sm ?_
 obtain ⟨r2, hx4, h⟩ := bnd_some h
 refine s_call gn rfl (r_callF (vs := [vi d1]) rfl ok_182 ⟨et, trivial⟩) (Calls.mono (c_frac_magnitude (Dj F c1) w3 hI.lt d1 trivial r2 hx4) ?_)
 rintro _ w4 ⟨rfl, hx5, hl2⟩
 refine ⟨_, rfl, ?_⟩
 replace hI := (hI.ext hx5)
 refine sa ?_
 refine sa ?_
 refine nk (sr (sm ?_))
 refine sm ?_
 obtain ⟨r3, hx6, h⟩ := bnd_some h
 refine s_call gn rfl (r_callF (vs := [(Value.int .u64 r1), (Value.int .u64 r2)]) rfl ok_181 ⟨et, ⟨et, trivial⟩⟩) (Calls.mono (c_frac_gcd (Dj F c1) w4 hI.lt r1 r2 trivial r3 hx6) ?_)
 rintro _ w5 ⟨rfl, hx7, hl3⟩
 refine ⟨_, rfl, ?_⟩
 replace hI := (hI.ext hx7)
 refine sa ?_
 refine nk (c_seq (c_drawX [] false (.c (0, .q) (.c (1, .q) (.c (2, .q) (.c (3, .q) (.c (4, .q) (.c (5, .q) (.c (6, .q) (.c (7, .q) .n)))))))) hI (by kernel_rfl) (by kernel_rfl) ?_))
 clear hI; intro w6 hI
 refine a_q rfl gn rfl (fun w' => y_move rfl et) ?_
 refine a_q rfl gn rfl (fun w' => y_move rfl et) ?_
 obtain ⟨ho1, h⟩ := chk_some h
 refine a_q rfl gn rfl (fun w' => y_quo rfl et et ho1) ?_
 refine a_q rfl gn rfl (fun w' => y_move rfl et) ?_
 refine a_q rfl gn rfl (fun w' => y_move rfl et) ?_
 refine a_q rfl gn rfl (fun w' => y_quo rfl et et ho1) ?_
 refine a_q rfl gn rfl (fun w' => y_assign rfl et) ?_
 refine a_q rfl gn rfl (fun w' => y_assign rfl et) ?_
 refine a_nil ?_
 refine k_next (e := [(4, vp b1 0), (6, vb negative1), (7, (Value.int .u64 (wu64 (Int.tdiv r1 r3)))), (8, (Value.int .u64 (wu64 (Int.tdiv r2 r3))))]) ⟨rfl, rfl, rfl, rfl, trivial⟩ ?_
 refine c_seq (sr (sm ?_))
 refine sq (y_gtr rfl et ev_const) ?_
 refine sm ?_
 refine s_gval (g_false rfl rfl rfl rfl) rfl (fun hc => y_move rfl et) ?_
 refine s_gval (g_false rfl rfl rfl rfl) rfl (fun hc => y_gtr rfl (ev_gv et hc) ev_const) ?_
 refine sq (y_or rfl et et) ?_
 refine nk (cif h et (fun hb h => ?_) (fun hb h => ?_))
 ·refine sr (sq (y_build (vs := []) (cs := #[vi 0, vi 0]) rfl trivial (by kernel_rfl)) ?_)
  refine l_store (new := [vi 0, vi 0]) (cs' := #[vi 0, vi 0]) hI .z gn rfl rfl et et rfl size_36 rfl rfl rfl ?_
  clear hI; intro c3 w7 hI
  refine sac ?_
  refine nk (c_ret ?_)
  obtain rfl := some_inj h
  exact q_ret (vs := [(Value.agg #[vi 0, vi 0]), vi 3]) Tryz.results184 ⟨⟨_, ev_tmp rfl rfl, load_agg (l := [vi 0, vi 0]) u36 rfl size_36 (CellsAt.of_blk (hI.blk .z) rfl)⟩, ⟨ev_tmp rfl rfl, trivial⟩⟩ (fq hI trivial)
 refine c_skip (k_same (c_seq (sr (sm ?_))))
 refine nk (cif h et (fun hb h => ?_) (fun hb h => ?_))
 ·refine sr (sm ?_)
  refine sq (y_conv rfl (by rw [u109]; rfl) u2 et) ?_
  refine sq (y_neg rfl et) ?_
  refine sm ?_
  refine sq (y_conv rfl (by rw [u109]; rfl) u2 et) ?_
  refine sq (y_build (vs := [(0, (vi (wi64 (-(wi64 (wu64 (Int.tdiv r1 r3))))))), (1, (vi (wi64 (wu64 (Int.tdiv r2 r3)))))]) (cs := #[(vi (wi64 (-(wi64 (wu64 (Int.tdiv r1 r3)))))), (vi (wi64 (wu64 (Int.tdiv r2 r3))))]) rfl ⟨rfl, et, ⟨rfl, et, trivial⟩⟩ (by kernel_rfl)) ?_
  refine l_store (new := [(vi (wi64 (-(wi64 (wu64 (Int.tdiv r1 r3)))))), (vi (wi64 (wu64 (Int.tdiv r2 r3))))]) (cs' := #[(vi (wi64 (-(wi64 (wu64 (Int.tdiv r1 r3)))))), (vi (wi64 (wu64 (Int.tdiv r2 r3))))]) hI .z gn rfl rfl et et rfl size_36 rfl rfl rfl ?_
  clear hI; intro c4 w8 hI
  refine sac ?_
  refine nk (c_ret ?_)
  obtain rfl := some_inj h
  exact q_ret (vs := [(Value.agg #[(vi (wi64 (-(wi64 (wu64 (Int.tdiv r1 r3)))))), (vi (wi64 (wu64 (Int.tdiv r2 r3))))]), vi 0]) Tryz.results184 ⟨⟨_, ev_tmp rfl rfl, load_agg (l := [(vi (wi64 (-(wi64 (wu64 (Int.tdiv r1 r3)))))), (vi (wi64 (wu64 (Int.tdiv r2 r3))))]) u36 rfl size_36 (CellsAt.of_blk (hI.blk .z) rfl)⟩, ⟨ev_tmp rfl rfl, trivial⟩⟩ (fq hI trivial)
 refine c_skip (k_same (sr (sm ?_)))
 refine sq (y_conv rfl (by rw [u109]; rfl) u2 et) ?_
 refine sm ?_
 refine sq (y_conv rfl (by rw [u109]; rfl) u2 et) ?_
 refine sq (y_build (vs := [(0, (vi (wi64 (wu64 (Int.tdiv r1 r3))))), (1, (vi (wi64 (wu64 (Int.tdiv r2 r3)))))]) (cs := #[(vi (wi64 (wu64 (Int.tdiv r1 r3)))), (vi (wi64 (wu64 (Int.tdiv r2 r3))))]) rfl ⟨rfl, et, ⟨rfl, et, trivial⟩⟩ (by kernel_rfl)) ?_
 refine l_store (new := [(vi (wi64 (wu64 (Int.tdiv r1 r3)))), (vi (wi64 (wu64 (Int.tdiv r2 r3))))]) (cs' := #[(vi (wi64 (wu64 (Int.tdiv r1 r3)))), (vi (wi64 (wu64 (Int.tdiv r2 r3))))]) hI .z gn rfl rfl et et rfl size_36 rfl rfl rfl ?_
 clear hI; intro c5 w9 hI
 refine sac ?_
 refine nk (c_ret ?_)
 obtain rfl := some_inj h
 exact q_ret (vs := [(Value.agg #[(vi (wi64 (wu64 (Int.tdiv r1 r3)))), (vi (wi64 (wu64 (Int.tdiv r2 r3))))]), vi 0]) Tryz.results184 ⟨⟨_, ev_tmp rfl rfl, load_agg (l := [(vi (wi64 (wu64 (Int.tdiv r1 r3)))), (vi (wi64 (wu64 (Int.tdiv r2 r3))))]) u36 rfl size_36 (CellsAt.of_blk (hI.blk .z) rfl)⟩, ⟨ev_tmp rfl rfl, trivial⟩⟩ (fq hI trivial)
theorem c_fixed_ToFrac (F : NP) (w0 : World) (hF : ∀ k, F k → k < w0.heap.size) (t1 : GType) (v1 : GVal) (hc : AllCl [] F w0) (r : GVal × Int)
  (h : m_fixed_ToFrac t1 v1 = some r) :
  Calls Tryz.prog 165 #[(Value.agg (AType t1)), (Value.agg (AVal v1))] w0 fun e w => e = .returned (Value.tuple #[(Value.agg (AVal r.1)), vi r.2]) ∧ Ext w0 w ∧ AllCl [] F w := by
 refine enterK Tryz.func165 rfl Tryz.ntmps165 rfl ?_
 have hI := Bun.start hF hc
 clear hc
 rw [m_fixed_ToFrac] at h
 refine sr (l_box (v := (Value.agg (AType t1))) (cs := (AType t1)) hI gn rfl rfl et rfl ?_)
 clear hI; intro b1 c1 w1 hI
 obtain ⟨c2, hI⟩ := hI.relBox .z
 refine l_box (v := (Value.agg (AVal v1))) (cs := (AVal v1)) hI gn rfl rfl et rfl ?_
 clear hI; intro b2 c3 w2 hI
 obtain ⟨c4, hI⟩ := hI.relBox .z
 refine l_alloc (cs := #[vi 0, vi 0]) hI gn rfl rfl zero_36 rfl ?_
 clear hI; intro b3 c5 w3 hI
 refine sac ?_
 refine nk (c_seq (sr (sq (y_loadN (l := (lType t1)) rfl et u23 rfl size_23 (hI.kblk (l := (lType t1)) (.s .z) rfl).1) ?_)))
 refine sq (y_loadN (l := (lVal v1)) rfl et u36 rfl size_36 (hI.kblk (l := (lVal v1)) .z rfl).1) ?_
 refine l_lit (c := cGVal) (xs := ([v1] : List GVal)) (vs := [(0, (Value.agg (AVal v1)))]) (cs := (AVal v1)) (css := [(lVal v1)]) hI gn rfl rfl u181 info_36 rfl ⟨rfl, et, trivial⟩ (by kernel_rfl) ⟨rfl, trivial⟩ rfl rfl rfl ?_
 clear hI; intro b4 c6 w4 hI
 obtain ⟨r1, hx1, h⟩ := bnd_some h
 refine s_call gn rfl (r_callF (vs := [(Value.agg (AType t1)), vs (some ⟨b4, 0, none⟩) ([v1] : List GVal).length 1]) rfl ok_183 ⟨et, ⟨et, trivial⟩⟩) (Calls.mono (c_fixed_check noM w4 (fun _ k => k.elim) t1 ([v1] : List GVal) (some ⟨b4, 0, none⟩) 1 ⟨hI.lend .z, trivial⟩ r1 hx1) ?_)
 rintro _ w5 ⟨rfl, hx2, hl1⟩
 refine ⟨_, rfl, ?_⟩
 replace hI := (hI.ext hx2)
 refine sa ?_
 refine nk (sr (sm ?_))
 refine sq (y_neq rfl et ev_const) ?_
 refine nk (cif h et (fun hb h => ?_) (fun hb h => ?_))
 ·refine sr (sq (y_build (vs := []) (cs := #[vi 0, vi 0]) rfl trivial (by kernel_rfl)) ?_)
  refine sm ?_
  refine l_store (new := [vi 0, vi 0]) (cs' := #[vi 0, vi 0]) hI (.s .z) gn rfl rfl et et rfl size_36 rfl rfl rfl ?_
  clear hI; intro c7 w6 hI
  refine sa ?_
  refine nk (c_ret ?_)
  obtain rfl := some_inj h
  exact q_ret (vs := [(Value.agg #[vi 0, vi 0]), vi r1]) Tryz.results165 ⟨⟨_, ev_tmp rfl rfl, load_agg (l := [vi 0, vi 0]) u36 rfl size_36 (CellsAt.of_blk (hI.blk (.s .z)) rfl)⟩, ⟨ev_tmp rfl rfl, trivial⟩⟩ (fq hI trivial)
 refine c_skip (k_same (c_seq (c_drawX [8] false (.c (0, .q) (.c (1, .q) (.c (2, .q) (.c (3, .q) (.c (4, .q) (.c (5, .s) (.c (6, .q) (.c (7, .q) (.c (8, .s) (.c (9, .q) .n)))))))))) hI (by kernel_rfl) (by kernel_rfl) ?_)))
 clear hI; intro w7 hI
 refine a_q rfl gn rfl (fun w' => y_fieldAddr rfl et u36 rfl size_2 rfl) ?_
 refine a_read rfl gn rfl (fun w' hw' => (y_load1 (v := (vi v1.N)) rfl et u2 rfl ((hI.kblk (l := [vi v1.N]) .z rfl).at_ (SX.any rfl hw')))) (by kernel_rfl) ?_
 refine a_q rfl gn rfl (fun w' => y_fieldAddr rfl et u23 rfl size_3 rfl) ?_
 refine a_read rfl gn rfl (fun w' hw' => (y_load1 (v := (vi t1.Frac)) rfl et u3 rfl ((hI.kblk (l := [vi t1.Frac]) (.s .z) rfl).at_ (SX.any rfl hw')))) (by kernel_rfl) ?_
 obtain ⟨ho1, h⟩ := chk_some h
 refine a_q rfl gn rfl (fun w' => y_shl rfl ev_const et ho1) ?_
 obtain ⟨r2, hx3, h⟩ := bnd_some h
 refine la_call rfl gn rfl (r_callF (vs := [vi v1.N, (vi (wi64 (1 * 2 ^ (min (Int.toNat t1.Frac) 64))))]) rfl ok_184 ⟨et, ⟨et, trivial⟩⟩) (Calls.mono (c_frac_New (Dj F c6) w7 hI.lt v1.N (wi64 (1 * 2 ^ (min (Int.toNat t1.Frac) 64))) trivial r2 hx3) ?_)
 rintro _ w8 ⟨rfl, hx4, hl2⟩
 refine ⟨_, rfl, hx4, ?_⟩
 replace hI := (hI.ext hx4)
 refine a_q rfl gn rfl (fun w' => y_extract rfl et rfl) ?_
 refine a_q rfl gn rfl (fun w' => y_extract rfl et rfl) ?_
 refine a_turn (F := F) (C := c6) rfl rfl ?_
 refine la_store (new := (lVal r2.1)) (cs' := (AVal r2.1)) hI (.s .z) rfl gn rfl rfl et et rfl size_36 rfl rfl rfl ?_
 clear hI; intro c8 w9 hI
 refine a_q rfl gn rfl (fun w' => y_assign rfl et) ?_
 refine a_nil ?_
 refine k_same (c_ret ?_)
 obtain rfl := some_inj h
 exact q_ret (vs := [(Value.agg (AVal r2.1)), vi r2.2]) Tryz.results165 ⟨⟨_, ev_tmp rfl rfl, load_agg (l := (lVal r2.1)) u36 rfl size_36 (CellsAt.of_blk (hI.blk (.s .z)) rfl)⟩, ⟨ev_tmp rfl rfl, trivial⟩⟩ (fq hI trivial)
theorem c_value_fraction (F : NP) (w0 : World) (hF : ∀ k, F k → k < w0.heap.size) (t1 : GType) (v1 : GVal) (hc : AllCl [] F w0) (r : GVal)
  (h : m_value_fraction t1 v1 = some r) :
  Calls Tryz.prog 135 #[(Value.agg (AType t1)), (Value.agg (AVal v1))] w0 fun e w => e = .returned (Value.agg (AVal r)) ∧ Ext w0 w ∧ AllCl [] F w := by
 refine enterK Tryz.func135 rfl Tryz.ntmps135 rfl ?_
 have hI := Bun.start hF hc
 clear hc
 rw [m_value_fraction] at h
 refine sr (l_box (v := (Value.agg (AType t1))) (cs := (AType t1)) hI gn rfl rfl et rfl ?_)
 clear hI; intro b1 c1 w1 hI
 obtain ⟨c2, hI⟩ := hI.relBox .z
 refine l_box (v := (Value.agg (AVal v1))) (cs := (AVal v1)) hI gn rfl rfl et rfl ?_
 clear hI; intro b2 c3 w2 hI
 obtain ⟨c4, hI⟩ := hI.relBox .z
 refine l_alloc (cs := #[vi 0, vi 0]) hI gn rfl rfl zero_36 rfl ?_
 clear hI; intro b3 c5 w3 hI
 refine nk (c_seq (sr (sq (y_fieldAddr rfl et u23 rfl size_3 rfl) ?_)))
 refine sq (y_load1 (v := (vi t1.Kind)) rfl et u3 rfl (hI.kblk (l := [vi t1.Kind]) (.s .z) rfl).1) ?_
 refine sq (y_eql rfl et ev_const) ?_
 refine nk (cif h et (fun hb h => ?_) (fun hb h => ?_))
 ·refine sr (sq (y_loadN (l := (lType t1)) rfl et u23 rfl size_23 (hI.kblk (l := (lType t1)) (.s .z) rfl).1) ?_)
  refine sq (y_loadN (l := (lVal v1)) rfl et u36 rfl size_36 (hI.kblk (l := (lVal v1)) .z rfl).1) ?_
  obtain ⟨r1, hx1, h⟩ := bnd_some h
  refine s_call gn rfl (r_callF (vs := [(Value.agg (AType t1)), (Value.agg (AVal v1))]) rfl ok_165 ⟨et, ⟨et, trivial⟩⟩) (Calls.mono (c_fixed_ToFrac (Dj F c5) w3 hI.lt t1 v1 trivial r1 hx1) ?_)
  rintro _ w4 ⟨rfl, hx2, hl1⟩
  refine ⟨_, rfl, ?_⟩
  replace hI := (hI.ext hx2)
  refine sm ?_
  refine sq (y_extract rfl et rfl) ?_
  refine sq (y_extract rfl et rfl) ?_
  refine l_alloc (cs := #[vi 0, vi 0]) hI gn rfl rfl zero_36 rfl ?_
  clear hI; intro b4 c6 w5 hI
  refine l_store (new := (lVal r1.1)) (cs' := (AVal r1.1)) hI .z gn rfl rfl et et rfl size_36 rfl rfl rfl ?_
  clear hI; intro c7 w6 hI
  refine sa ?_
  refine nk (sr (sq (y_loadN (l := (lVal r1.1)) rfl et u36 rfl size_36 (CellsAt.of_blk (hI.blk .z) rfl)) ?_))
  refine l_store (new := (lVal r1.1)) (cs' := (AVal r1.1)) hI (.s .z) gn rfl rfl et et rfl size_36 rfl rfl rfl ?_
  clear hI; intro c8 w7 hI
  refine nk (c_ret ?_)
  obtain rfl := some_inj h
  exact q_ret (vs := [(Value.agg (AVal r1.1))]) Tryz.results135 ⟨⟨_, ev_tmp rfl rfl, load_agg (l := (lVal r1.1)) u36 rfl size_36 (CellsAt.of_blk (hI.blk (.s .z)) rfl)⟩, trivial⟩ (fq hI trivial)
 refine c_skip (k_same (sr (sq (y_loadN (l := (lVal v1)) rfl et u36 rfl size_36 (hI.kblk (l := (lVal v1)) .z rfl).1) ?_)))
 refine l_store (new := (lVal v1)) (cs' := (AVal v1)) hI .z gn rfl rfl et et rfl size_36 rfl rfl rfl ?_
 clear hI; intro c9 w8 hI
 refine nk (c_ret ?_)
 obtain rfl := some_inj h
 exact q_ret (vs := [(Value.agg (AVal v1))]) Tryz.results135 ⟨⟨_, ev_tmp rfl rfl, load_agg (l := (lVal v1)) u36 rfl size_36 (CellsAt.of_blk (hI.blk .z) rfl)⟩, trivial⟩ (fq hI trivial)
theorem c_strconv_FormatInt (F : NP) (w0 : World) (hF : ∀ k, F k → k < w0.heap.size) (i1 : Int) (base1 : Int) (hc : AllCl [clPow10] F w0) (r : List UInt8)
  (h : m_strconv_FormatInt i1 base1 = some r) :
  Calls Tryz.prog 164 #[vi i1, vi base1] w0 fun e w => e = .returned (str r) ∧ Ext w0 w ∧ AllCl [] F w := by
 refine enterK Tryz.func164 rfl Tryz.ntmps164 rfl ?_
 have hI := Bun.start hF hc
 clear hc
 rw [m_strconv_FormatInt] at h
 refine sr (sac ?_)
 refine nk (sr (sm ?_))
 refine sm ?_
 obtain ⟨r1, hx1, h⟩ := bnd_some h
 refine s_call gn rfl (r_callF (vs := [vi i1, vi base1]) rfl ok_120 ⟨et, ⟨et, trivial⟩⟩) (Calls.mono (c_internal_strconv_FormatInt (Dj F noM) w0 hI.lt i1 base1 ⟨(hI.get .z), trivial⟩ r1 hx1) ?_)
 rintro _ w1 ⟨rfl, hx2, hl1⟩
 refine ⟨_, rfl, ?_⟩
 replace hI := (hI.ext hx2)
 refine sa ?_
 refine nk (c_ret ?_)
 obtain rfl := some_inj h
 exact q_ret (vs := [(str r1)]) Tryz.results164 ⟨ev_tmp rfl rfl, trivial⟩ (fq hI trivial)
theorem c_frac_Format (F : NP) (w0 : World) (hF : ∀ k, F k → k < w0.heap.size) (a1 : GVal) (hc : AllCl [clPow10] F w0) (r : List UInt8)
  (h : m_frac_Format a1 = some r) :
  Calls Tryz.prog 134 #[(Value.agg (AVal a1))] w0 fun e w => e = .returned (str r) ∧ Ext w0 w ∧ AllCl [] F w := by
 refine enterK Tryz.func134 rfl Tryz.ntmps134 rfl ?_
 have hI := Bun.start hF hc
 clear hc
 rw [m_frac_Format] at h
 refine sr (l_box (v := (Value.agg (AVal a1))) (cs := (AVal a1)) hI gn rfl rfl et rfl ?_)
 clear hI; intro b1 c1 w1 hI
 obtain ⟨c2, hI⟩ := hI.relBox .z
 refine sac ?_
 refine nk (c_seq (c_block (sr (sq (y_loadN (l := (lVal a1)) rfl et u36 rfl size_36 (hI.kblk (l := (lVal a1)) .z rfl).1) ?_))))
 obtain ⟨r1, hx1, h⟩ := bnd_some h
 refine s_call gn rfl (r_callF (vs := [(Value.agg (AVal a1))]) rfl ok_162 ⟨et, trivial⟩) (Calls.mono (c_frac_Valid (Dj F c2) w1 hI.lt a1 trivial r1 hx1) ?_)
 rintro _ w2 ⟨rfl, hx2, hl1⟩
 refine ⟨_, rfl, ?_⟩
 replace hI := (hI.ext hx2)
 refine sq (y_not rfl et) ?_
 refine sa ?_
 refine nk (cif h et (fun hb h => ?_) (fun hb h => ?_))
 ·refine sr (sac ?_)
  refine nk (c_ret ?_)
  obtain rfl := some_inj h
  exact q_ret (vs := [(str ([] : List UInt8))]) Tryz.results134 ⟨ev_tmp rfl rfl, trivial⟩ (fq hI trivial)
 refine sr (sq (y_fieldAddr rfl et u36 rfl size_2 rfl) ?_)
 refine sq (y_load1 (v := (vi a1.D)) rfl et u2 rfl (hI.kblk (l := [vi a1.D]) .z rfl).1) ?_
 refine sq (y_eql rfl et ev_const) ?_
 refine sa ?_
 refine nk (cif h et (fun hb h => ?_) (fun hb h => ?_))
 ·refine sr (sq (y_fieldAddr rfl et u36 rfl size_2 rfl) ?_)
  refine sq (y_load1 (v := (vi a1.N)) rfl et u2 rfl (hI.kblk (l := [vi a1.N]) .z rfl).1) ?_
  obtain ⟨r2, hx3, h⟩ := bnd_some h
  refine s_call gn rfl (r_callF (vs := [vi a1.N, vi 10]) rfl ok_164 ⟨et, ⟨ev_const, trivial⟩⟩) (Calls.mono (c_strconv_FormatInt (Dj F c2) w2 hI.lt a1.N 10 ⟨(hI.get (.s .z)), trivial⟩ r2 hx3) ?_)
  rintro _ w3 ⟨rfl, hx4, hl2⟩
  refine ⟨_, rfl, ?_⟩
  replace hI := (hI.ext hx4)
  refine sa ?_
  refine nk (c_ret ?_)
  obtain rfl := some_inj h
  exact q_ret (vs := [(str r2)]) Tryz.results134 ⟨ev_tmp rfl rfl, trivial⟩ (fq hI trivial)
 refine c_skip (k_same (c_seq (c_drawX [] false (.c (0, .q) (.c (1, .q) (.c (4, .q) (.c (5, .q) (.c (2, .s) (.c (3, .q) (.c (6, .s) (.c (7, .q) (.c (8, .q) .n))))))))) hI (by kernel_rfl) (by kernel_rfl) ?_)))
 clear hI; intro w4 hI
 refine a_q rfl gn rfl (fun w' => y_fieldAddr rfl et u36 rfl size_2 rfl) ?_
 refine a_read rfl gn rfl (fun w' hw' => (y_load1 (v := (vi a1.N)) rfl et u2 rfl ((hI.kblk (l := [vi a1.N]) .z rfl).at_ (SX.any rfl hw')))) (by kernel_rfl) ?_
 refine a_q rfl gn rfl (fun w' => y_fieldAddr rfl et u36 rfl size_2 rfl) ?_
 refine a_read rfl gn rfl (fun w' hw' => (y_load1 (v := (vi a1.D)) rfl et u2 rfl ((hI.kblk (l := [vi a1.D]) .z rfl).at_ (SX.any rfl hw')))) (by kernel_rfl) ?_
 obtain ⟨r3, hx5, h⟩ := bnd_some h
 refine la_call rfl gn rfl (r_callF (vs := [vi a1.N, vi 10]) rfl ok_164 ⟨et, ⟨ev_const, trivial⟩⟩) (Calls.mono (c_strconv_FormatInt (Dj F c2) w4 hI.lt a1.N 10 ⟨(hI.get (.s .z)), trivial⟩ r3 hx5) ?_)
 rintro _ w5 ⟨rfl, hx6, hl3⟩
 refine ⟨_, rfl, hx6, ?_⟩
 replace hI := (hI.ext hx6)
 obtain ⟨s1, hx7, h⟩ := bnd_some h
 refine a_q rfl gn rfl (fun w' => y_catl rfl et ev_const hx7) ?_
 obtain ⟨r4, hx8, h⟩ := bnd_some h
 refine la_call rfl gn rfl (r_callF (vs := [vi a1.D, vi 10]) rfl ok_164 ⟨et, ⟨ev_const, trivial⟩⟩) (Calls.mono (c_strconv_FormatInt (Dj F c2) w5 hI.lt a1.D 10 ⟨(hI.get (.s .z)), trivial⟩ r4 hx8) ?_)
 rintro _ w6 ⟨rfl, hx9, hl4⟩
 refine ⟨_, rfl, hx9, ?_⟩
 replace hI := (hI.ext hx9)
 obtain ⟨s2, hx10, h⟩ := bnd_some h
 refine a_q rfl gn rfl (fun w' => y_catl rfl et et hx10) ?_
 refine a_q rfl gn rfl (fun w' => y_assign rfl et) ?_
 refine a_nil ?_
 refine k_same (c_ret ?_)
 obtain rfl := some_inj h
 exact q_ret (vs := [(str s2)]) Tryz.results134 ⟨ev_tmp rfl rfl, trivial⟩ (fq hI trivial)
theorem c_value_Format (F : NP) (w0 : World) (hF : ∀ k, F k → k < w0.heap.size) (t1 : GType) (v1 : GVal) (hc : AllCl [clPow10] F w0) (r : List UInt8)
  (h : m_value_Format t1 v1 = some r) :
  Calls Tryz.prog 96 #[(Value.agg (AType t1)), (Value.agg (AVal v1))] w0 fun e w => e = .returned (str r) ∧ Ext w0 w ∧ AllCl [] F w := by
 refine enterK Tryz.func96 rfl Tryz.ntmps96 rfl ?_
 have hI := Bun.start hF hc
 clear hc
 rw [m_value_Format] at h
 refine sr (l_box (v := (Value.agg (AType t1))) (cs := (AType t1)) hI gn rfl rfl et rfl ?_)
 clear hI; intro b1 c1 w1 hI
 obtain ⟨c2, hI⟩ := hI.relBox .z
 refine l_box (v := (Value.agg (AVal v1))) (cs := (AVal v1)) hI gn rfl rfl et rfl ?_
 clear hI; intro b2 c3 w2 hI
 obtain ⟨c4, hI⟩ := hI.relBox .z
 refine sac ?_
 refine nk (c_seq (sr (sq (y_loadN (l := (lType t1)) rfl et u23 rfl size_23 (hI.kblk (l := (lType t1)) (.s .z) rfl).1) ?_)))
 refine sq (y_loadN (l := (lVal v1)) rfl et u36 rfl size_36 (hI.kblk (l := (lVal v1)) .z rfl).1) ?_
 obtain ⟨r1, hx1, h⟩ := bnd_some h
 refine s_call gn rfl (r_callF (vs := [(Value.agg (AType t1)), (Value.agg (AVal v1))]) rfl ok_132 ⟨et, ⟨et, trivial⟩⟩) (Calls.mono (c_value_Valid (Dj F c4) w2 hI.lt t1 v1 trivial r1 hx1) ?_)
 rintro _ w3 ⟨rfl, hx2, hl1⟩
 refine ⟨_, rfl, ?_⟩
 replace hI := (hI.ext hx2)
 refine sq (y_not rfl et) ?_
 refine nk (cif h et (fun hb h => ?_) (fun hb h => ?_))
 ·refine sr (sac ?_)
  refine nk (c_ret ?_)
  obtain rfl := some_inj h
  exact q_ret (vs := [(str ([] : List UInt8))]) Tryz.results96 ⟨ev_tmp rfl rfl, trivial⟩ (fq hI trivial)
 refine c_skip (k_same (sr (sq (y_loadN (l := (lType t1)) rfl et u23 rfl size_23 (hI.kblk (l := (lType t1)) (.s .z) rfl).1) ?_)))
 refine sq (y_loadN (l := (lVal v1)) rfl et u36 rfl size_36 (hI.kblk (l := (lVal v1)) .z rfl).1) ?_
 obtain ⟨r2, hx3, h⟩ := bnd_some h
 refine s_call gn rfl (r_callF (vs := [(Value.agg (AType t1)), (Value.agg (AVal v1))]) rfl ok_135 ⟨et, ⟨et, trivial⟩⟩) (Calls.mono (c_value_fraction (Dj F c4) w3 hI.lt t1 v1 trivial r2 hx3) ?_)
 rintro _ w4 ⟨rfl, hx4, hl2⟩
 refine ⟨_, rfl, ?_⟩
 replace hI := (hI.ext hx4)
 obtain ⟨r3, hx5, h⟩ := bnd_some h
 refine s_call gn rfl (r_callF (vs := [(Value.agg (AVal r2))]) rfl ok_134 ⟨et, trivial⟩) (Calls.mono (c_frac_Format (Dj F c4) w4 hI.lt r2 ⟨(hI.get (.s (.s .z))), trivial⟩ r3 hx5) ?_)
 rintro _ w5 ⟨rfl, hx6, hl3⟩
 refine ⟨_, rfl, ?_⟩
 replace hI := (hI.ext hx6)
 refine sa ?_
 refine nk (c_ret ?_)
 obtain rfl := some_inj h
 exact q_ret (vs := [(str r3)]) Tryz.results96 ⟨ev_tmp rfl rfl, trivial⟩ (fq hI trivial)
theorem c_lin_magnitude (F : NP) (w0 : World) (hF : ∀ k, F k → k < w0.heap.size) (n1 : Int) (hc : AllCl [] F w0) (r : Int)
  (h : m_lin_magnitude n1 = some r) :
  Calls Tryz.prog 79 #[vi n1] w0 fun e w => e = .returned (Value.int .u64 r) ∧ Ext w0 w ∧ AllCl [] F w := by
 refine enterK Tryz.func79 rfl Tryz.ntmps79 rfl ?_
 have hI := Bun.start hF hc
 clear hc
 rw [m_lin_magnitude] at h
 refine sr (sac ?_)
 refine nk (c_seq (sr (sm ?_)))
 refine sq (y_lss rfl et ev_const) ?_
 refine nk (cif h et (fun hb h => ?_) (fun hb h => ?_))
 ·refine sr (sm ?_)
  refine sq (y_conv rfl (by rw [u2]; rfl) u109 et) ?_
  refine sq (y_neg rfl et) ?_
  refine sa ?_
  refine nk (c_ret ?_)
  obtain rfl := some_inj h
  exact q_ret (vs := [(Value.int .u64 (wu64 (-(wu64 n1))))]) Tryz.results79 ⟨ev_tmp rfl rfl, trivial⟩ (fq hI trivial)
 refine c_skip (k_same (sr (sm ?_)))
 refine sq (y_conv rfl (by rw [u2]; rfl) u109 et) ?_
 refine sa ?_
 refine nk (c_ret ?_)
 obtain rfl := some_inj h
 exact q_ret (vs := [(Value.int .u64 (wu64 n1))]) Tryz.results79 ⟨ev_tmp rfl rfl, trivial⟩ (fq hI trivial)
theorem c_strconv_FormatUint (F : NP) (w0 : World) (hF : ∀ k, F k → k < w0.heap.size) (i1 : Int) (base1 : Int) (hc : AllCl [clPow10] F w0) (r : List UInt8)
  (h : m_strconv_FormatUint i1 base1 = some r) :
  Calls Tryz.prog 80 #[(Value.int .u64 i1), vi base1] w0 fun e w => e = .returned (str r) ∧ Ext w0 w ∧ AllCl [] F w := by
 refine enterK Tryz.func80 rfl Tryz.ntmps80 rfl ?_
 have hI := Bun.start hF hc
 clear hc
 rw [m_strconv_FormatUint] at h
 refine sr (sac ?_)
 refine nk (sr (sm ?_))
 refine sm ?_
 obtain ⟨r1, hx1, h⟩ := bnd_some h
 refine s_call gn rfl (r_callF (vs := [(Value.int .u64 i1), vi base1]) rfl ok_122 ⟨et, ⟨et, trivial⟩⟩) (Calls.mono (c_internal_strconv_FormatUint (Dj F noM) w0 hI.lt i1 base1 ⟨(hI.get .z), trivial⟩ r1 hx1) ?_)
 rintro _ w1 ⟨rfl, hx2, hl1⟩
 refine ⟨_, rfl, ?_⟩
 replace hI := (hI.ext hx2)
 refine sa ?_
 refine nk (c_ret ?_)
 obtain rfl := some_inj h
 exact q_ret (vs := [(str r1)]) Tryz.results80 ⟨ev_tmp rfl rfl, trivial⟩ (fq hI trivial)
theorem c_lin_Format_1_w (C0 F : NP) (w0 : World) (by1 : Int) (name1 : List UInt8) (a1 : List UInt8) (b1 : Nat) (hI : Bun C0 F w0 C0 w0 [MO.bld 5 80 b1 a1] [clPow10]) (r : Unit × List UInt8)
  (h : m_lin_Format_1_w by1 name1 a1 = some r) :
  Calls Tryz.prog 77 #[vi by1, (str name1), vp b1 0] w0 fun e w => ∃ (C : NP), e = .returned (Value.tuple #[]) ∧ Bun C0 F w0 C w [MO.bld 5 80 b1 r.2] [] := by
 refine enterK Tryz.func77 rfl Tryz.ntmps77 rfl ?_
 rw [m_lin_Format_1_w] at h
 refine c_join (α := (List UInt8)) (fun _ => ⟨42, []⟩) (fun x => [(0, vi by1), (1, (str name1)), (2, vp b1 0)]) (fun x => fun w => ∃ C, Bun C0 F w0 C w [MO.bld 5 80 b1 x] [clPow10] ∧ m_lin_Format_1_w_j1 by1 name1 x = some r) ?_ ?_
 ·clear h hI; rintro s1 w1 ⟨c1, hI, h⟩
  try dsimp only at hI h
  rw [m_lin_Format_1_w_j1] at h
  refine c_sub (e := [(0, vi by1), (1, (str name1)), (2, vp b1 0)]) ⟨rfl, rfl, rfl, trivial⟩ ?_
  refine c_seq (sr (sm ?_))
  obtain ⟨r1, hx1, h⟩ := bnd_some h
  refine s_call gn rfl (r_callF (vs := [vi by1]) rfl ok_79 ⟨et, trivial⟩) (Calls.mono (c_lin_magnitude (Dj F c1) w1 hI.lt by1 trivial r1 hx1) ?_)
  rintro _ w2 ⟨rfl, hx2, hl1⟩
  refine ⟨_, rfl, ?_⟩
  replace hI := (hI.ext hx2)
  refine sa ?_
  refine nk (sr (sm ?_))
  refine sq (y_eqs rfl et ev_const) ?_
  refine sm ?_
  refine s_gval (g_false rfl rfl rfl rfl) rfl (fun hc => y_move rfl et) ?_
  refine s_gval (g_false rfl rfl rfl rfl) rfl (fun hc => y_neq rfl (ev_gv et hc) ev_const) ?_
  refine sq (y_or rfl et et) ?_
  refine nk (cif h et (fun hb h => ?_) (fun hb h => ?_))
  ·refine sr (sm ?_)
   obtain ⟨r2, hx3, h⟩ := bnd_some h
   refine s_call gn rfl (r_callF (vs := [(Value.int .u64 r1), vi 10]) rfl ok_80 ⟨et, ⟨ev_const, trivial⟩⟩) (Calls.mono (c_strconv_FormatUint (Dj F c1) w2 hI.lt r1 10 ⟨(hI.get .z), trivial⟩ r2 hx3) ?_)
   rintro _ w3 ⟨rfl, hx4, hl2⟩
   refine ⟨_, rfl, ?_⟩
   replace hI := (hI.ext hx4)
   obtain ⟨zs1, hx5, h⟩ := bnd_some h
   obtain ⟨c2, f1, hB, hl3, hk1⟩ := hI.hands (.l .n)
   refine s_call gn rfl (r_callF (vs := [vp b1 0, (str r2)]) rfl ok_66 ⟨et, ⟨et, trivial⟩⟩) (Calls.mono (c_bldWrite bldT_80 c2 f1 w3 b1 s1 r2 zs1 (hB.subs trivial) hx5) ?_)
   rintro _ w4 ⟨c3, rfl, hB2⟩
   obtain ⟨c4, hs1, hI⟩ := hk1 _ _ _ _ hB2
   replace hI : Bun C0 F w0 c4 w4 [MO.bld 5 80 b1 zs1] [clPow10] := hI
   refine ⟨_, rfl, ?_⟩
   refine nk (sr (sm ?_))
   refine sq (y_nes rfl et ev_const) ?_
   refine nk (cif h et (fun hb h => ?_) (fun hb h => ?_))
   ·refine c_region rfl ?_
    obtain ⟨zs2, hx6, h⟩ := bnd_some h
    obtain ⟨c5, f2, hB, hl4, hk2⟩ := hI.hands (.l .n)
    refine s_call gn rfl (r_callF (vs := [vp b1 0, (str ([42] : List UInt8))]) rfl ok_66 ⟨et, ⟨ev_const, trivial⟩⟩) (Calls.mono (c_bldWrite bldT_80 c5 f2 w4 b1 zs1 ([42] : List UInt8) zs2 (hB.subs trivial) hx6) ?_)
    rintro _ w5 ⟨c6, rfl, hB2⟩
    obtain ⟨c7, hs2, hI⟩ := hk2 _ _ _ _ hB2
    replace hI : Bun C0 F w0 c7 w5 [MO.bld 5 80 b1 zs2] [clPow10] := hI
    refine ⟨_, rfl, ?_⟩
    refine nk (c_region rfl ?_)
    refine sm ?_
    obtain ⟨zs3, hx7, h⟩ := bnd_some h
    obtain ⟨c8, f3, hB, hl5, hk3⟩ := hI.hands (.l .n)
    refine s_call gn rfl (r_callF (vs := [vp b1 0, (str name1)]) rfl ok_66 ⟨et, ⟨et, trivial⟩⟩) (Calls.mono (c_bldWrite bldT_80 c8 f3 w5 b1 zs2 name1 zs3 (hB.subs trivial) hx7) ?_)
    rintro _ w6 ⟨c9, rfl, hB2⟩
    obtain ⟨c10, hs3, hI⟩ := hk3 _ _ _ _ hB2
    replace hI : Bun C0 F w0 c10 w6 [MO.bld 5 80 b1 zs3] [clPow10] := hI
    refine ⟨_, rfl, ?_⟩
    refine s_nil ?_
    obtain rfl := some_inj h
    exact q_ret (vs := []) Tryz.results77 trivial ⟨_, rfl, hI.arr (.c .z .n) trivial⟩
   refine c_skip (k_same (c_region rfl ?_))
   refine sm ?_
   obtain ⟨zs4, hx8, h⟩ := bnd_some h
   obtain ⟨c11, f4, hB, hl6, hk4⟩ := hI.hands (.l .n)
   refine s_call gn rfl (r_callF (vs := [vp b1 0, (str name1)]) rfl ok_66 ⟨et, ⟨et, trivial⟩⟩) (Calls.mono (c_bldWrite bldT_80 c11 f4 w4 b1 zs1 name1 zs4 (hB.subs trivial) hx8) ?_)
   rintro _ w7 ⟨c12, rfl, hB2⟩
   obtain ⟨c13, hs4, hI⟩ := hk4 _ _ _ _ hB2
   replace hI : Bun C0 F w0 c13 w7 [MO.bld 5 80 b1 zs4] [clPow10] := hI
   refine ⟨_, rfl, ?_⟩
   refine s_nil ?_
   obtain rfl := some_inj h
   exact q_ret (vs := []) Tryz.results77 trivial ⟨_, rfl, hI.arr (.c .z .n) trivial⟩
  refine c_skip (k_same (c_region rfl ?_))
  refine sm ?_
  obtain ⟨zs5, hx9, h⟩ := bnd_some h
  obtain ⟨c14, f5, hB, hl7, hk5⟩ := hI.hands (.l .n)
  refine s_call gn rfl (r_callF (vs := [vp b1 0, (str name1)]) rfl ok_66 ⟨et, ⟨et, trivial⟩⟩) (Calls.mono (c_bldWrite bldT_80 c14 f5 w2 b1 s1 name1 zs5 (hB.subs trivial) hx9) ?_)
  rintro _ w8 ⟨c15, rfl, hB2⟩
  obtain ⟨c16, hs5, hI⟩ := hk5 _ _ _ _ hB2
  replace hI : Bun C0 F w0 c16 w8 [MO.bld 5 80 b1 zs5] [clPow10] := hI
  refine ⟨_, rfl, ?_⟩
  refine s_nil ?_
  obtain rfl := some_inj h
  exact q_ret (vs := []) Tryz.results77 trivial ⟨_, rfl, hI.arr (.c .z .n) trivial⟩
 refine c_block (sr (s_call gn rfl (r_callF (vs := [vp b1 0]) rfl ok_78 ⟨et, trivial⟩) (Calls.mono (c_bldLen hI .z) ?_)))
 rintro _ _ ⟨rfl, rfl⟩
 refine ⟨_, rfl, ?_⟩
 refine sq (y_eql rfl et ev_const) ?_
 refine sm ?_
 refine s_gval (g_true rfl rfl rfl rfl) rfl (fun hc => y_move rfl et) ?_
 refine s_gval (g_true rfl rfl rfl rfl) rfl (fun hc => y_lss rfl (ev_gv et hc) ev_const) ?_
 refine sq (y_and rfl et et) ?_
 refine sa ?_
 refine nk (cif h et (fun hb h => ?_) (fun hb h => ?_))
 ·refine c_region rfl ?_
  obtain ⟨zs6, hx10, h⟩ := bnd_some h
  obtain ⟨c17, f6, hB, hl8, hk6⟩ := hI.hands (.l .n)
  refine s_call gn rfl (r_callF (vs := [vp b1 0, (str ([45] : List UInt8))]) rfl ok_66 ⟨et, ⟨ev_const, trivial⟩⟩) (Calls.mono (c_bldWrite bldT_80 c17 f6 w0 b1 a1 ([45] : List UInt8) zs6 (hB.subs trivial) hx10) ?_)
  rintro _ w9 ⟨c18, rfl, hB2⟩
  obtain ⟨c19, hs6, hI⟩ := hk6 _ _ _ _ hB2
  replace hI : Bun C0 F w0 c19 w9 [MO.bld 5 80 b1 zs6] [clPow10] := hI
  refine ⟨_, rfl, ?_⟩
  refine s_nil ?_
  exact k_join zs6 ⟨rfl, rfl, rfl, trivial⟩ ⟨_, hI.arr (.c .z .n) ⟨.z, trivial⟩, h⟩ rfl
 refine sr (s_call gn rfl (r_callF (vs := [vp b1 0]) rfl ok_78 ⟨et, trivial⟩) (Calls.mono (c_bldLen hI .z) ?_))
 rintro _ _ ⟨rfl, rfl⟩
 refine ⟨_, rfl, ?_⟩
 refine sq (y_gtr rfl et ev_const) ?_
 refine sm ?_
 refine s_gval (g_true rfl rfl rfl rfl) rfl (fun hc => y_move rfl et) ?_
 refine s_gval (g_true rfl rfl rfl rfl) rfl (fun hc => y_lss rfl (ev_gv et hc) ev_const) ?_
 refine sq (y_and rfl et et) ?_
 refine sa ?_
 refine nk (cif h et (fun hb h => ?_) (fun hb h => ?_))
 ·refine c_region rfl ?_
  obtain ⟨zs7, hx11, h⟩ := bnd_some h
  obtain ⟨c20, f7, hB, hl9, hk7⟩ := hI.hands (.l .n)
  refine s_call gn rfl (r_callF (vs := [vp b1 0, (str ([32, 45, 32] : List UInt8))]) rfl ok_66 ⟨et, ⟨ev_const, trivial⟩⟩) (Calls.mono (c_bldWrite bldT_80 c20 f7 w0 b1 a1 ([32, 45, 32] : List UInt8) zs7 (hB.subs trivial) hx11) ?_)
  rintro _ w10 ⟨c21, rfl, hB2⟩
  obtain ⟨c22, hs7, hI⟩ := hk7 _ _ _ _ hB2
  replace hI : Bun C0 F w0 c22 w10 [MO.bld 5 80 b1 zs7] [clPow10] := hI
  refine ⟨_, rfl, ?_⟩
  refine s_nil ?_
  exact k_join zs7 ⟨rfl, rfl, rfl, trivial⟩ ⟨_, hI.arr (.c .z .n) ⟨.z, trivial⟩, h⟩ rfl
 refine sr (s_call gn rfl (r_callF (vs := [vp b1 0]) rfl ok_78 ⟨et, trivial⟩) (Calls.mono (c_bldLen hI .z) ?_))
 rintro _ _ ⟨rfl, rfl⟩
 refine ⟨_, rfl, ?_⟩
 refine sq (y_gtr rfl et ev_const) ?_
 refine sa ?_
 refine nk (cif h et (fun hb h => ?_) (fun hb h => ?_))
 ·refine c_region rfl ?_
  obtain ⟨zs8, hx12, h⟩ := bnd_some h
  obtain ⟨c23, f8, hB, hl10, hk8⟩ := hI.hands (.l .n)
  refine s_call gn rfl (r_callF (vs := [vp b1 0, (str ([32, 43, 32] : List UInt8))]) rfl ok_66 ⟨et, ⟨ev_const, trivial⟩⟩) (Calls.mono (c_bldWrite bldT_80 c23 f8 w0 b1 a1 ([32, 43, 32] : List UInt8) zs8 (hB.subs trivial) hx12) ?_)
  rintro _ w11 ⟨c24, rfl, hB2⟩
  obtain ⟨c25, hs8, hI⟩ := hk8 _ _ _ _ hB2
  replace hI : Bun C0 F w0 c25 w11 [MO.bld 5 80 b1 zs8] [clPow10] := hI
  refine ⟨_, rfl, ?_⟩
  refine s_nil ?_
  exact k_join zs8 ⟨rfl, rfl, rfl, trivial⟩ ⟨_, hI.arr (.c .z .n) ⟨.z, trivial⟩, h⟩ rfl
 exact c_skip (k_join a1 ⟨rfl, rfl, rfl, trivial⟩ ⟨_, hI.arr (.c .z .n) ⟨.z, trivial⟩, h⟩ rfl)
theorem c_lin_Format (F : NP) (w0 : World) (hF : ∀ k, F k → k < w0.heap.size) (l1 : GLin) (a1 : Option Addr) (c1 : Nat) (hc : AllCl [Cl.sl cGMono a1 c1 l1.L, clPow10] F w0) (r : List UInt8)
  (h : m_lin_Format l1 = some r) :
  Calls Tryz.prog 36 #[(Value.agg (ALin l1 a1 c1))] w0 fun e w => e = .returned (str r) ∧ Ext w0 w ∧ AllCl [] F w := by
 refine enterK Tryz.func36 rfl Tryz.ntmps36 rfl ?_
 have hI := Bun.start hF hc
 clear hc
 rw [m_lin_Format] at h
 refine sr (l_box (v := (Value.agg (ALin l1 a1 c1))) (cs := (ALin l1 a1 c1)) hI gn rfl rfl et rfl ?_)
 clear hI; intro b1 c2 w1 hI
 obtain ⟨c3, hI⟩ := hI.relBox .z
 refine sac ?_
 refine nk (c_seq (sr (sq (y_loadN (l := (lLin l1 a1 c1)) rfl et u29 rfl size_29 (hI.kblk (l := (lLin l1 a1 c1)) .z rfl).1) ?_)))
 obtain ⟨r1, hx1, h⟩ := bnd_some h
 refine s_call gn rfl (r_callF (vs := [(Value.agg (ALin l1 a1 c1))]) rfl ok_34 ⟨et, trivial⟩) (Calls.mono (c_lin_Validate (Dj F c3) w1 hI.lt l1 a1 c1 ⟨(hI.get (.s .z)), trivial⟩ r1 hx1) ?_)
 rintro _ w2 ⟨rfl, hx2, hl1⟩
 refine ⟨_, rfl, ?_⟩
 replace hI := (hI.ext hx2)
 refine sq (y_neq rfl et ev_const) ?_
 refine nk (cif h et (fun hb h => ?_) (fun hb h => ?_))
 ·refine sr (sac ?_)
  refine nk (c_ret ?_)
  obtain rfl := some_inj h
  exact q_ret (vs := [(str ([] : List UInt8))]) Tryz.results36 ⟨ev_tmp rfl rfl, trivial⟩ (fq hI trivial)
 refine c_skip (k_same (sr (l_alloc (cs := #[(Value.pointer none), vs none 0 0]) hI gn rfl rfl zero_80 rfl ?_)))
 clear hI; intro b2 c4 w3 hI
 obtain ⟨c5, hI⟩ := hI.toBld (tb := 5) .z
 refine nk (sr (sq (y_makeFunc (vs := []) (cap := [vp b2 0]) rfl rfl ⟨et, trivial⟩) ?_))
 refine sa ?_
 refine nk (c_join (α := (List UInt8)) (fun _ => ⟨39, []⟩) (fun x => [(1, vp b1 0), (3, vp b2 0), (4, (Value.func (.func 77) #[] #[vp b2 0]))]) (fun x => fun w => ∃ C, Bun noM F w0 C w [MO.bld 5 80 b2 x] [Cl.blk b1 29 (ALin l1 a1 c1), Cl.sl cGMono a1 c1 l1.L, clPow10] ∧ m_lin_Format_j1 l1 x = some r) ?_ ?_)
 ·clear h hI; rintro s1 w4 ⟨c6, hI, h⟩
  try dsimp only at hI h
  rw [m_lin_Format_j1] at h
  refine c_sub (e := [(1, vp b1 0), (3, vp b2 0), (4, (Value.func (.func 77) #[] #[vp b2 0]))]) ⟨rfl, rfl, rfl, trivial⟩ ?_
  refine c_seq (sr (sq (y_fieldAddr rfl et u29 rfl size_2 rfl) ?_))
  refine sq (y_load1 (v := (vi l1.K)) rfl et u2 rfl (hI.kblk (l := [vi l1.K]) .z rfl).1) ?_
  refine sq (y_neq rfl et ev_const) ?_
  refine sm ?_
  refine s_gval (g_false rfl rfl rfl rfl) rfl (fun hc => y_fieldAddr rfl et u29 rfl size_27 rfl) ?_
  refine s_gval (g_false rfl rfl rfl rfl) rfl (fun hc => (y_load1 (v := (vs a1 l1.L.length c1)) rfl (ev_gv et hc) u27 rfl (hI.kblk (l := [vs a1 l1.L.length c1]) .z rfl).1)) ?_
  refine s_gval (g_false rfl rfl rfl rfl) rfl (fun hc => y_lenl rfl u27 (ev_gv et hc)) ?_
  refine s_gval (g_false rfl rfl rfl rfl) rfl (fun hc => y_eql rfl (ev_gv et hc) ev_const) ?_
  refine sq (y_or rfl et et) ?_
  refine nk (cif h et (fun hb h => ?_) (fun hb h => ?_))
  ·refine c_region rfl ?_
   refine sm ?_
   refine sq (y_fieldAddr rfl et u29 rfl size_2 rfl) ?_
   refine sq (y_load1 (v := (vi l1.K)) rfl et u2 rfl (hI.kblk (l := [vi l1.K]) .z rfl).1) ?_
   obtain ⟨c7, f1, hB, hl2, hk1⟩ := hI.hands (.l .n)
   obtain ⟨⟨r2, s2⟩, hx3, h⟩ := bnd_some h
   try dsimp only at h
   refine s_call gn rfl (r_call (fs := []) (vs := [vi l1.K, (str ([] : List UInt8))]) (cap := [vp b2 0]) rfl et ok_77 ⟨et, ⟨ev_const, trivial⟩⟩) (Calls.mono (c_lin_Format_1_w c7 f1 w4 l1.K ([] : List UInt8) s1 b2 (hB.subs ⟨(.s (.s .z)), trivial⟩) _ hx3) ?_)
   rintro _ w5 ⟨c8, rfl, hB2⟩
   obtain ⟨c9, hs1, hI⟩ := hk1 _ _ _ _ hB2
   replace hI : Bun noM F w0 c9 w5 [MO.bld 5 80 b2 s2] [Cl.blk b1 29 (ALin l1 a1 c1), Cl.sl cGMono a1 c1 l1.L, clPow10] := hI
   refine ⟨_, rfl, ?_⟩
   refine nk (sr (s_call gn rfl (r_callF (vs := [vp b2 0]) rfl ok_47 ⟨et, trivial⟩) (Calls.mono (c_bldString bldT_80 hI .z) ?_)))
   clear hI; rintro _ w6 ⟨rfl, c10, hs2, hI⟩
   refine ⟨_, rfl, ?_⟩
   refine sa ?_
   refine nk (c_ret ?_)
   obtain rfl := some_inj h
   exact q_ret (vs := [(str s2)]) Tryz.results36 ⟨ev_tmp rfl rfl, trivial⟩ (fq hI trivial)
  refine c_skip (k_same (sr (s_call gn rfl (r_callF (vs := [vp b2 0]) rfl ok_47 ⟨et, trivial⟩) (Calls.mono (c_bldString bldT_80 hI .z) ?_))))
  clear hI; rintro _ w7 ⟨rfl, c11, hs3, hI⟩
  refine ⟨_, rfl, ?_⟩
  refine sa ?_
  refine nk (c_ret ?_)
  obtain rfl := some_inj h
  exact q_ret (vs := [(str s1)]) Tryz.results36 ⟨ev_tmp rfl rfl, trivial⟩ (fq hI trivial)
 refine sr (sq (y_fieldAddr rfl et u29 rfl size_27 rfl) ?_)
 refine sq (y_load1 (v := (vs a1 l1.L.length c1)) rfl et u27 rfl (hI.kblk (l := [vs a1 l1.L.length c1]) .z rfl).1) ?_
 refine sq (y_lenl rfl u27 et) ?_
 refine sq (y_move rfl ev_const) ?_
 refine nk (c_block (c_loop (α := Nat × Int × (List UInt8)) (fun x => fun w => ∃ C, Bun noM F w0 C w [MO.bld 5 80 b2 (x.2.2)] [Cl.blk b1 29 (ALin l1 a1 c1), Cl.sl cGMono a1 c1 l1.L, clPow10] ∧ m_lin_Format_l1 l1 (x.1) (x.2.1) (x.2.2) = some r) (fun x _ => x.1) (fun x => [(1, vp b1 0), (3, vp b2 0), (4, (Value.func (.func 77) #[] #[vp b2 0])), (12, vs a1 l1.L.length c1), (13, vi (l1.L.length : Int)), (14, vi (x.2.1))]) (fu, 0, ([] : List UInt8)) ⟨_, hI.arr (.c .z .n) ⟨.z, (.s .z), (.s (.s .z)), trivial⟩, h⟩ ⟨rfl, rfl, rfl, rfl, rfl, rfl, trivial⟩ ?_))
 clear h hI; rintro ⟨fuel1, i1, s3⟩ w8 ⟨c12, hI, h⟩
 dsimp only at hI h
 rcases fuel1 with _ | fuel1
 ·rw [m_lin_Format_l1] at h; cases h
 rw [m_lin_Format_l1] at h
 refine c_sub (e := [(1, vp b1 0), (3, vp b2 0), (4, (Value.func (.func 77) #[] #[vp b2 0])), (12, vs a1 l1.L.length c1), (13, vi (l1.L.length : Int)), (14, vi i1)]) ⟨rfl, rfl, rfl, rfl, rfl, rfl, trivial⟩ ?_
 refine sr (sq (y_lss rfl et et) ?_)
 refine nk (c_seq (cif h et (fun hb h => ?_) (fun hb h => ?_)))
 ·refine c_skip (k_same (c_seq (c_block (sr ?_))))
  obtain ⟨e1, hx4, h⟩ := bnd_some h
  obtain ⟨ad1, cs1, hA1, hr1, hq1⟩ := hI.clat (.s .z) hx4
  obtain rfl : cs1 = [(str e1.Name), vi e1.By] := hr1
  refine sq (y_indexAddr rfl u27 size_112 et et (lat_bd hx4) hA1) ?_
  refine sq (y_loadN (l := [(str e1.Name), vi e1.By]) rfl et u112 rfl size_112 hq1.1) ?_
  refine l_alloc (cs := #[(str ([] : List UInt8)), vi 0]) hI gn rfl rfl zero_112 rfl ?_
  clear hI; intro b3 c13 w9 hI
  refine l_store (new := [(str e1.Name), vi e1.By]) (cs' := #[(str e1.Name), vi e1.By]) hI .z gn rfl rfl et et rfl size_112 rfl rfl rfl ?_
  clear hI; intro c14 w10 hI
  refine nk (c_region rfl ?_)
  refine sm ?_
  refine sq (y_fieldAddr rfl et u112 rfl size_2 rfl) ?_
  refine sq (y_load1 (v := (vi e1.By)) rfl et u2 rfl (CellsAt.of_blk (hI.blk .z) rfl)) ?_
  refine sq (y_fieldAddr rfl et u112 rfl size_9 rfl) ?_
  refine sq (y_load1 (v := (str e1.Name)) rfl et u9 rfl (CellsAt.of_blk (hI.blk .z) rfl)) ?_
  obtain ⟨c15, f2, hB, hl3, hk2⟩ := hI.hands (.r (.l .n))
  obtain ⟨⟨r3, s4⟩, hx5, h⟩ := bnd_some h
  try dsimp only at h
  refine s_call gn rfl (r_call (fs := []) (vs := [vi e1.By, (str e1.Name)]) (cap := [vp b2 0]) rfl et ok_77 ⟨et, ⟨et, trivial⟩⟩) (Calls.mono (c_lin_Format_1_w c15 f2 w10 e1.By e1.Name s3 b2 (hB.subs ⟨(.s (.s .z)), trivial⟩) _ hx5) ?_)
  rintro _ w11 ⟨c16, rfl, hB2⟩
  obtain ⟨c17, hs4, hI⟩ := hk2 _ _ _ _ hB2
  replace hI : Bun noM F w0 c17 w11 [MO.bld 5 80 b2 s4, MO.box b3 112 #[(str e1.Name), vi e1.By]] [Cl.blk b1 29 (ALin l1 a1 c1), Cl.sl cGMono a1 c1 l1.L, clPow10] := hI
  refine ⟨_, rfl, ?_⟩
  refine nk (c_region rfl ?_)
  refine sq (y_add rfl et ev_const) ?_
  refine sm ?_
  refine s_nil ?_
  exact k_loop (fuel1, wi64 (i1 + 1), s4) ⟨rfl, rfl, rfl, rfl, rfl, rfl, trivial⟩ ⟨_, hI.arr (.c .z .n) ⟨.z, (.s .z), (.s (.s .z)), trivial⟩, h⟩ (Nat.lt_succ_self _)
 refine c_exit ?_
 refine k_in ?_
 exact k_join s3 ⟨rfl, rfl, rfl, trivial⟩ ⟨_, hI.arr (.c .z .n) ⟨.z, (.s .z), (.s (.s .z)), trivial⟩, h⟩ rfl
theorem c_printer_forms_valid (F : NP) (w0 : World) (hF : ∀ k, F k → k < w0.heap.size) (l1 : List GLin) (a1 : Option Addr) (c1 : Nat) (hc : AllCl [Cl.sl cGLin a1 c1 l1] F w0) (r : Bool)
  (h : m_printer_forms_valid l1 = some r) :
  Calls Tryz.prog 35 #[vs a1 l1.length c1] w0 fun e w => e = .returned (vb r) ∧ Ext w0 w ∧ AllCl [] F w := by
 refine enterK Tryz.func35 rfl Tryz.ntmps35 rfl ?_
 have hI := Bun.start hF hc
 clear hc
 rw [m_printer_forms_valid] at h
 refine sr (sac ?_)
 refine nk (c_seq (sr (sm ?_)))
 refine sq (y_lenl rfl u68 et) ?_
 refine sq (y_move rfl ev_const) ?_
 refine nk (c_block (c_loop (α := Nat × Int) (fun x => fun w => ∃ C, Bun noM F w0 C w [] [Cl.sl cGLin a1 c1 l1] ∧ m_printer_forms_valid_l1 l1 (x.1) (x.2) = some r) (fun x _ => x.1) (fun x => [(5, vs a1 l1.length c1), (6, vi (l1.length : Int)), (7, vi (x.2))]) (fu, 0) ⟨_, hI.arr .n ⟨.z, trivial⟩, h⟩ ⟨rfl, rfl, rfl, trivial⟩ ?_))
 clear h hI; rintro ⟨fuel1, i1⟩ w1 ⟨c2, hI, h⟩
 dsimp only at hI h
 rcases fuel1 with _ | fuel1
 ·rw [m_printer_forms_valid_l1] at h; cases h
 rw [m_printer_forms_valid_l1] at h
 refine c_sub (e := [(5, vs a1 l1.length c1), (6, vi (l1.length : Int)), (7, vi i1)]) ⟨rfl, rfl, rfl, trivial⟩ ?_
 refine sr (sq (y_lss rfl et et) ?_)
 refine nk (c_seq (cif h et (fun hb h => ?_) (fun hb h => ?_)))
 ·refine c_skip (k_same (c_seq (c_block (sr ?_))))
  obtain ⟨e1, hx1, h⟩ := bnd_some h
  obtain ⟨ad1, cs1, hA1, hr1, hq1⟩ := hI.clat .z hx1
  obtain ⟨a2, c3, rfl, hf1⟩ := hr1
  have hI := hI.add (c := Cl.sl cGMono a2 c3 e1.L) hf1
  refine sq (y_indexAddr rfl u68 size_29 et et (lat_bd hx1) hA1) ?_
  refine sq (y_loadN (l := (lLin e1 a2 c3)) rfl et u29 rfl size_29 hq1.1) ?_
  refine l_alloc (cs := #[vi 0, vs none 0 0]) hI gn rfl rfl zero_29 rfl ?_
  clear hI; intro b1 c4 w2 hI
  refine l_store (new := (lLin e1 a2 c3)) (cs' := (ALin e1 a2 c3)) hI .z gn rfl rfl et et rfl size_29 rfl rfl rfl ?_
  clear hI; intro c5 w3 hI
  refine nk (sr (sq (y_loadN (l := (lLin e1 a2 c3)) rfl et u29 rfl size_29 (CellsAt.of_blk (hI.blk .z) rfl)) ?_))
  obtain ⟨r1, hx2, h⟩ := bnd_some h
  refine s_call gn rfl (r_callF (vs := [(Value.agg (ALin e1 a2 c3))]) rfl ok_34 ⟨et, trivial⟩) (Calls.mono (c_lin_Validate (Dj F c5) w3 hI.lt e1 a2 c3 ⟨(hI.get .z), trivial⟩ r1 hx2) ?_)
  rintro _ w4 ⟨rfl, hx3, hl1⟩
  refine ⟨_, rfl, ?_⟩
  replace hI := (hI.ext hx3)
  refine sq (y_neq rfl et ev_const) ?_
  refine nk (cif h et (fun hb h => ?_) (fun hb h => ?_))
  ·refine sr (sac ?_)
   refine nk (c_ret ?_)
   obtain rfl := some_inj h
   exact q_ret (vs := [vb false]) Tryz.results35 ⟨ev_tmp rfl rfl, trivial⟩ (fq hI trivial)
  refine c_skip (k_same (c_region rfl ?_))
  refine sq (y_add rfl et ev_const) ?_
  refine sm ?_
  refine s_nil ?_
  exact k_loop (fuel1, wi64 (i1 + 1)) ⟨rfl, rfl, rfl, trivial⟩ ⟨_, hI.arr .n ⟨(.s .z), trivial⟩, h⟩ (Nat.lt_succ_self _)
 refine c_exit ?_
 refine k_in ?_
 refine k_same (sr (sac ?_))
 refine nk (c_ret ?_)
 obtain rfl := some_inj h
 exact q_ret (vs := [vb true]) Tryz.results35 ⟨ev_tmp rfl rfl, trivial⟩ (fq hI trivial)
theorem c_printer_forms_item (F : NP) (w0 : World) (hF : ∀ k, F k → k < w0.heap.size) (l1 : List GLin) (i1 : Int) (a1 : Option Addr) (c1 : Nat) (hc : AllCl [Cl.sl cGLin a1 c1 l1, clPow10] F w0) (r : List UInt8)
  (h : m_printer_forms_item l1 i1 = some r) :
  Calls Tryz.prog 39 #[vs a1 l1.length c1, vi i1] w0 fun e w => e = .returned (str r) ∧ Ext w0 w ∧ AllCl [] F w := by
 refine enterK Tryz.func39 rfl Tryz.ntmps39 rfl ?_
 have hI := Bun.start hF hc
 clear hc
 rw [m_printer_forms_item] at h
 refine sr (sac ?_)
 refine nk (sr (sm ?_))
 refine sm ?_
 obtain ⟨e1, hx1, h⟩ := bnd_some h
 obtain ⟨ad1, cs1, hA1, hr1, hq1⟩ := hI.clat .z hx1
 obtain ⟨a2, c2, rfl, hf1⟩ := hr1
 have hI := hI.add (c := Cl.sl cGMono a2 c2 e1.L) hf1
 refine sq (y_indexAddr rfl u68 size_29 et et (lat_bd hx1) hA1) ?_
 refine sq (y_loadN (l := (lLin e1 a2 c2)) rfl et u29 rfl size_29 hq1.1) ?_
 obtain ⟨r1, hx2, h⟩ := bnd_some h
 refine s_call gn rfl (r_callF (vs := [(Value.agg (ALin e1 a2 c2))]) rfl ok_36 ⟨et, trivial⟩) (Calls.mono (c_lin_Format (Dj F noM) w0 hI.lt e1 a2 c2 ⟨(hI.get .z), (hI.get (.s (.s .z))), trivial⟩ r1 hx2) ?_)
 rintro _ w1 ⟨rfl, hx3, hl1⟩
 refine ⟨_, rfl, ?_⟩
 replace hI := (hI.ext hx3)
 refine sa ?_
 refine nk (c_ret ?_)
 obtain rfl := some_inj h
 exact q_ret (vs := [(str r1)]) Tryz.results39 ⟨ev_tmp rfl rfl, trivial⟩ (fq hI trivial)
theorem c_printer_list (F : NP) (w0 : World) (hF : ∀ k, F k → k < w0.heap.size) (n1 : Int) (item1 : (Int → Option (List UInt8))) (fv1 : Value) (hc : AllCl [clFn_k5 fv1 item1] F w0) (r : List UInt8)
  (h : m_printer_list n1 item1 = some r) :
  Calls Tryz.prog 38 #[vi n1, fv1] w0 fun e w => e = .returned (str r) ∧ Ext w0 w ∧ AllCl [] F w := by
 refine enterK Tryz.func38 rfl Tryz.ntmps38 rfl ?_
 have hI := Bun.start hF hc
 clear hc
 rw [m_printer_list] at h
 refine sr (sac ?_)
 refine nk (sr (l_alloc (cs := #[(Value.pointer none), vs none 0 0]) hI gn rfl rfl zero_80 rfl ?_))
 clear hI; intro b1 c1 w1 hI
 obtain ⟨c2, hI⟩ := hI.toBld (tb := 5) .z
 refine nk (c_seq (sr (sm ?_)))
 refine sq (y_move rfl ev_const) ?_
 refine nk (c_block (c_loop (α := Nat × Int × (List UInt8)) (fun x => fun w => ∃ C, Bun noM F w0 C w [MO.bld 5 80 b1 (x.2.2)] [clFn_k5 fv1 item1] ∧ m_printer_list_l1 n1 item1 (x.1) (x.2.1) (x.2.2) = some r) (fun x _ => x.1) (fun x => [(1, fv1), (5, vp b1 0), (7, vi n1), (8, vi (x.2.1))]) (fu, 0, ([] : List UInt8)) ⟨_, hI.arr (.c .z .n) ⟨.z, trivial⟩, h⟩ ⟨rfl, rfl, rfl, rfl, trivial⟩ ?_))
 clear h hI; rintro ⟨fuel1, i1, s1⟩ w2 ⟨c3, hI, h⟩
 dsimp only at hI h
 rcases fuel1 with _ | fuel1
 ·rw [m_printer_list_l1] at h; cases h
 rw [m_printer_list_l1] at h
 refine c_sub (e := [(1, fv1), (5, vp b1 0), (7, vi n1), (8, vi i1)]) ⟨rfl, rfl, rfl, rfl, trivial⟩ ?_
 refine sr (sq (y_lss rfl et et) ?_)
 refine nk (c_seq (cif h et (fun hb h => ?_) (fun hb h => ?_)))
 ·refine c_skip (k_same (c_seq (c_block (sr (sm ?_)))))
  refine sa ?_
  refine nk (c_join (α := (List UInt8)) (fun _ => ⟨20, []⟩) (fun x => [(1, fv1), (5, vp b1 0), (7, vi n1), (8, vi i1), (6, vi i1)]) (fun x => fun w => ∃ C, Bun noM F w0 C w [MO.bld 5 80 b1 x] [clFn_k5 fv1 item1] ∧ m_printer_list_j1 item1 i1 (m_printer_list_l1 n1 item1 fuel1) x = some r) ?_ ?_)
  ·clear h hI; rintro s2 w3 ⟨c4, hI, h⟩
   try dsimp only at hI h
   rw [m_printer_list_j1] at h
   refine c_sub (e := [(1, fv1), (5, vp b1 0), (7, vi n1), (8, vi i1), (6, vi i1)]) ⟨rfl, rfl, rfl, rfl, rfl, trivial⟩ ?_
   refine c_region rfl ?_
   refine sm ?_
   refine sm ?_
   obtain ⟨r1, hx1, h⟩ := bnd_some h
   refine s_callV (args := [vi i1]) gn rfl rfl et ⟨et, trivial⟩ (CallV.mono ((hI.get .z).2 (Dj F c4) w3 (Sp.of_ext .rfl') hI.lt i1 r1 trivial hx1) ?_)
   rintro _ w4 ⟨rfl, hx2, hl1⟩
   refine ⟨_, rfl, ?_⟩
   replace hI := (hI.ext hx2)
   obtain ⟨zs1, hx3, h⟩ := bnd_some h
   obtain ⟨c5, f1, hB, hl2, hk1⟩ := hI.hands (.l .n)
   refine s_call gn rfl (r_callF (vs := [vp b1 0, (str r1)]) rfl ok_66 ⟨et, ⟨et, trivial⟩⟩) (Calls.mono (c_bldWrite bldT_80 c5 f1 w4 b1 s2 r1 zs1 (hB.subs trivial) hx3) ?_)
   rintro _ w5 ⟨c6, rfl, hB2⟩
   obtain ⟨c7, hs1, hI⟩ := hk1 _ _ _ _ hB2
   replace hI : Bun noM F w0 c7 w5 [MO.bld 5 80 b1 zs1] [clFn_k5 fv1 item1] := hI
   refine ⟨_, rfl, ?_⟩
   refine nk (c_region rfl ?_)
   refine sq (y_add rfl et ev_const) ?_
   refine sm ?_
   refine s_nil ?_
   exact k_loop (fuel1, wi64 (i1 + 1), zs1) ⟨rfl, rfl, rfl, rfl, trivial⟩ ⟨_, hI.arr (.c .z .n) ⟨.z, trivial⟩, h⟩ (Nat.lt_succ_self _)
  refine sr (sm ?_)
  refine sq (y_gtr rfl et ev_const) ?_
  refine nk (cif h et (fun hb h => ?_) (fun hb h => ?_))
  ·refine c_region rfl ?_
   obtain ⟨zs2, hx4, h⟩ := bnd_some h
   obtain ⟨c8, f2, hB, hl3, hk2⟩ := hI.hands (.l .n)
   refine s_call gn rfl (r_callF (vs := [vp b1 0, (str ([44, 32] : List UInt8))]) rfl ok_66 ⟨et, ⟨ev_const, trivial⟩⟩) (Calls.mono (c_bldWrite bldT_80 c8 f2 w2 b1 s1 ([44, 32] : List UInt8) zs2 (hB.subs trivial) hx4) ?_)
   rintro _ w6 ⟨c9, rfl, hB2⟩
   obtain ⟨c10, hs2, hI⟩ := hk2 _ _ _ _ hB2
   replace hI : Bun noM F w0 c10 w6 [MO.bld 5 80 b1 zs2] [clFn_k5 fv1 item1] := hI
   refine ⟨_, rfl, ?_⟩
   refine s_nil ?_
   exact k_join zs2 ⟨rfl, rfl, rfl, rfl, rfl, trivial⟩ ⟨_, hI.arr (.c .z .n) ⟨.z, trivial⟩, h⟩ rfl
  exact c_skip (k_join s1 ⟨rfl, rfl, rfl, rfl, rfl, trivial⟩ ⟨_, hI.arr (.c .z .n) ⟨.z, trivial⟩, h⟩ rfl)
 refine c_exit ?_
 refine k_in ?_
 refine k_same (sr (s_call gn rfl (r_callF (vs := [vp b1 0]) rfl ok_47 ⟨et, trivial⟩) (Calls.mono (c_bldString bldT_80 hI .z) ?_)))
 clear hI; rintro _ w7 ⟨rfl, c11, hs3, hI⟩
 refine ⟨_, rfl, ?_⟩
 refine sa ?_
 refine nk (c_ret ?_)
 obtain rfl := some_inj h
 exact q_ret (vs := [(str s1)]) Tryz.results38 ⟨ev_tmp rfl rfl, trivial⟩ (fq hI trivial)
theorem c_printer_Index (F : NP) (w0 : World) (hF : ∀ k, F k → k < w0.heap.size) (x1 : GIndex) (a1 : Option Addr) (c1 : Nat) (a2 : Option Addr) (c2 : Nat) (hc : AllCl [Cl.sl cGMono a1 c1 x1.Lin.L, Cl.sl cGLin a2 c2 x1.At, clPow10, clSpace] F w0) (r : List UInt8)
  (h : m_printer_Index x1 = some r) :
  Calls Tryz.prog 14 #[(Value.agg #[vi x1.Lin.K, vs a1 x1.Lin.L.length c1, (str x1.From), vs a2 x1.At.length c2])] w0 fun e w => e = .returned (str r) ∧ Ext w0 w ∧ AllCl [] F w := by
 refine enterK Tryz.func14 rfl Tryz.ntmps14 rfl ?_
 have hI := Bun.start hF hc
 clear hc
 rw [m_printer_Index] at h
 refine sr (l_box (v := (Value.agg #[vi x1.Lin.K, vs a1 x1.Lin.L.length c1, (str x1.From), vs a2 x1.At.length c2])) (cs := #[vi x1.Lin.K, vs a1 x1.Lin.L.length c1, (str x1.From), vs a2 x1.At.length c2]) hI gn rfl rfl et rfl ?_)
 clear hI; intro b1 c3 w1 hI
 obtain ⟨c4, hI⟩ := hI.relBox .z
 refine sac ?_
 refine nk (sr (sq (y_fieldAddr rfl et u32 rfl size_30 rfl) ?_))
 refine sq (y_load1 (v := (vs a2 x1.At.length c2)) rfl et u30 rfl (hI.kblk (l := [vs a2 x1.At.length c2]) .z rfl).1) ?_
 refine sa ?_
 refine nk (c_seq (c_block (sr (sq (y_fieldAddr rfl et u32 rfl size_29 rfl) ?_))))
 refine sq (y_loadN (l := (lLin x1.Lin a1 c1)) rfl et u29 rfl size_29 (hI.kblk (l := (lLin x1.Lin a1 c1)) .z rfl).1) ?_
 obtain ⟨r1, hx1, h⟩ := bnd_some h
 refine s_call gn rfl (r_callF (vs := [(Value.agg (ALin x1.Lin a1 c1))]) rfl ok_34 ⟨et, trivial⟩) (Calls.mono (c_lin_Validate (Dj F c4) w1 hI.lt x1.Lin a1 c1 ⟨(hI.get (.s .z)), trivial⟩ r1 hx1) ?_)
 rintro _ w2 ⟨rfl, hx2, hl1⟩
 refine ⟨_, rfl, ?_⟩
 replace hI := (hI.ext hx2)
 refine sq (y_neq rfl et ev_const) ?_
 refine sm ?_
 refine s_gval (g_false rfl rfl rfl rfl) rfl (fun hc => y_move rfl et) ?_
 obtain ⟨r2, hx3, h⟩ := bnd_some h
 replace hx3 := gd_some hx3
 refine s_gcallU (v := (vb r2)) (g_false rfl rfl rfl rfl) rfl (fun hc => (r_callF (vs := [vs a2 x1.At.length c2]) rfl ok_35 ⟨(ev_gv et hc), trivial⟩)) (fun hc => (c_printer_forms_valid (Dj F c4) w2 hI.lt x1.At a2 c2 ⟨(hI.get (.s (.s .z))), trivial⟩ r2 (hx3 hc)).mono fun _ _ k => ⟨k.1, k.2.1⟩) ?_
 intro w3 hx4; replace hI := hI.ext hx4
 refine s_gval (g_false rfl rfl rfl rfl) rfl (fun hc => y_not rfl (ev_gv et hc)) ?_
 refine sq (y_or rfl et et) ?_
 refine sa ?_
 refine nk (cif h et (fun hb h => ?_) (fun hb h => ?_))
 ·refine sr (sac ?_)
  refine nk (c_ret ?_)
  obtain rfl := some_inj h
  exact q_ret (vs := [(str ([] : List UInt8))]) Tryz.results14 ⟨ev_tmp rfl rfl, trivial⟩ (fq hI trivial)
 refine sr (sq (y_fieldAddr rfl et u32 rfl size_9 rfl) ?_)
 refine sq (y_load1 (v := (str x1.From)) rfl et u9 rfl (hI.kblk (l := [(str x1.From)]) .z rfl).1) ?_
 refine sq (y_eqs rfl et ev_const) ?_
 refine sm ?_
 refine s_gval (g_true rfl rfl rfl rfl) rfl (fun hc => y_fieldAddr rfl et u32 rfl size_30 rfl) ?_
 refine s_gval (g_true rfl rfl rfl rfl) rfl (fun hc => (y_load1 (v := (vs a2 x1.At.length c2)) rfl (ev_gv et hc) u30 rfl (hI.kblk (l := [vs a2 x1.At.length c2]) .z rfl).1)) ?_
 refine s_gval (g_true rfl rfl rfl rfl) rfl (fun hc => y_lenl rfl u30 (ev_gv et hc)) ?_
 refine s_gval (g_true rfl rfl rfl rfl) rfl (fun hc => y_gtr rfl (ev_gv et hc) ev_const) ?_
 refine sq (y_and rfl et et) ?_
 refine sa ?_
 refine nk (cif h et (fun hb h => ?_) (fun hb h => ?_))
 ·refine sr (sac ?_)
  refine s_nil ?_
  refine k_next (e := [(2, (str ([] : List UInt8)))]) ⟨rfl, trivial⟩ ?_
  refine c_ret ?_
  obtain rfl := some_inj h
  exact q_ret (vs := [(str ([] : List UInt8))]) Tryz.results14 ⟨ev_tmp rfl rfl, trivial⟩ (fq hI trivial)
 refine sr (sq (y_fieldAddr rfl et u32 rfl size_9 rfl) ?_)
 refine sq (y_load1 (v := (str x1.From)) rfl et u9 rfl (hI.kblk (l := [(str x1.From)]) .z rfl).1) ?_
 refine sq (y_eqs rfl et ev_const) ?_
 refine sa ?_
 refine s_nil ?_
 refine k_next (e := [(1, vp b1 0), (3, vs a2 x1.At.length c2), (26, (vb (decide (x1.From = ([] : List UInt8)))))]) ⟨rfl, rfl, rfl, trivial⟩ ?_
 refine cif h et (fun hb h => ?_) (fun hb h => ?_)
 ·refine sr (sq (y_fieldAddr rfl et u32 rfl size_29 rfl) ?_)
  refine sq (y_loadN (l := (lLin x1.Lin a1 c1)) rfl et u29 rfl size_29 (hI.kblk (l := (lLin x1.Lin a1 c1)) .z rfl).1) ?_
  obtain ⟨r3, hx5, h⟩ := bnd_some h
  refine s_call gn rfl (r_callF (vs := [(Value.agg (ALin x1.Lin a1 c1))]) rfl ok_36 ⟨et, trivial⟩) (Calls.mono (c_lin_Format (Dj F c4) w3 hI.lt x1.Lin a1 c1 ⟨(hI.get (.s .z)), (hI.get (.s (.s (.s .z)))), trivial⟩ r3 hx5) ?_)
  rintro _ w4 ⟨rfl, hx6, hl3⟩
  refine ⟨_, rfl, ?_⟩
  replace hI := (hI.ext hx6)
  refine sa ?_
  refine nk (c_ret ?_)
  obtain rfl := some_inj h
  exact q_ret (vs := [(str r3)]) Tryz.results14 ⟨ev_tmp rfl rfl, trivial⟩ (fq hI trivial)
 refine sr (sq (y_fieldAddr rfl et u32 rfl size_9 rfl) ?_)
 refine sq (y_load1 (v := (str x1.From)) rfl et u9 rfl (hI.kblk (l := [(str x1.From)]) .z rfl).1) ?_
 obtain ⟨r4, hx7, h⟩ := bnd_some h
 refine s_call gn rfl (r_callF (vs := [(str x1.From)]) rfl ok_37 ⟨et, trivial⟩) (Calls.mono (c_lexer_IsName (Dj F c4) w3 hI.lt x1.From ⟨(hI.get (.s (.s (.s (.s .z))))), trivial⟩ r4 hx7) ?_)
 rintro _ w5 ⟨rfl, hx8, hl4⟩
 refine ⟨_, rfl, ?_⟩
 replace hI := (hI.ext hx8)
 refine sq (y_not rfl et) ?_
 refine sm ?_
 refine s_gval (g_false rfl rfl rfl rfl) rfl (fun hc => y_fieldAddr rfl et u32 rfl size_29 rfl) ?_
 refine s_gval (g_false rfl rfl rfl rfl) rfl (fun hc => y_fieldAddr rfl (ev_gv et hc) u29 rfl size_2 rfl) ?_
 refine s_gval (g_false rfl rfl rfl rfl) rfl (fun hc => (y_load1 (v := (vi x1.Lin.K)) rfl (ev_gv et hc) u2 rfl (hI.kblk (l := [vi x1.Lin.K]) .z rfl).1)) ?_
 refine s_gval (g_false rfl rfl rfl rfl) rfl (fun hc => y_neq rfl (ev_gv et hc) ev_const) ?_
 refine sq (y_or rfl et et) ?_
 refine sm ?_
 refine s_gval (g_false rfl rfl rfl rfl) rfl (fun hc => y_fieldAddr rfl et u32 rfl size_29 rfl) ?_
 refine s_gval (g_false rfl rfl rfl rfl) rfl (fun hc => y_fieldAddr rfl (ev_gv et hc) u29 rfl size_27 rfl) ?_
 refine s_gval (g_false rfl rfl rfl rfl) rfl (fun hc => (y_load1 (v := (vs a1 x1.Lin.L.length c1)) rfl (ev_gv et hc) u27 rfl (hI.kblk (l := [vs a1 x1.Lin.L.length c1]) .z rfl).1)) ?_
 refine s_gval (g_false rfl rfl rfl rfl) rfl (fun hc => y_lenl rfl u27 (ev_gv et hc)) ?_
 refine s_gval (g_false rfl rfl rfl rfl) rfl (fun hc => y_gtr rfl (ev_gv et hc) ev_const) ?_
 refine sq (y_or rfl et et) ?_
 refine sa ?_
 refine nk (cif h et (fun hb h => ?_) (fun hb h => ?_))
 ·refine sr (sac ?_)
  refine nk (c_ret ?_)
  obtain rfl := some_inj h
  exact q_ret (vs := [(str ([] : List UInt8))]) Tryz.results14 ⟨ev_tmp rfl rfl, trivial⟩ (fq hI trivial)
 refine c_skip (k_same (c_seq (c_drawX [] false (.c (0, .q) (.c (1, .q) (.c (2, .q) (.c (3, .q) (.c (4, .q) (.c (5, .q) (.c (6, .q) (.c (7, .s) (.c (8, .q) (.c (9, .q) (.c (10, .q) .n))))))))))) hI (by kernel_rfl) (by kernel_rfl) ?_)))
 clear hI; intro w6 hI
 refine a_q rfl gn rfl (fun w' => y_fieldAddr rfl et u32 rfl size_9 rfl) ?_
 refine a_read rfl gn rfl (fun w' hw' => (y_load1 (v := (str x1.From)) rfl et u9 rfl ((hI.kblk (l := [(str x1.From)]) .z rfl).at_ (SX.any rfl hw')))) (by kernel_rfl) ?_
 obtain ⟨s1, hx9, h⟩ := bnd_some h
 refine a_q rfl gn rfl (fun w' => y_catl rfl et ev_const hx9) ?_
 refine a_q rfl gn rfl (fun w' => y_move rfl et) ?_
 refine a_q rfl gn rfl (fun w' => y_lenl rfl u68 et) ?_
 refine a_q rfl gn rfl (fun w' => y_move rfl et) ?_
 refine a_q rfl gn rfl (fun w' => y_makeBound (vs := [vs a2 x1.At.length c2]) rfl rfl ⟨et, trivial⟩) ?_
 have hI := hI.add (c := clFn_k5 (Value.func (.func 39) #[vs a2 x1.At.length c2] #[]) (m_printer_forms_item x1.At)) ⟨rfl, fun D' w' hs hl x_1 r k h => CallV.fnB (fs := [vs a2 x1.At.length c2]) ok_39 (c_printer_forms_item D' w' hl x1.At x_1 a2 c2 ⟨(Cl.sp _ hs (hI.get (.s (.s .z)))), (Cl.sp _ hs (hI.get (.s (.s (.s .z))))), trivial⟩ r h)⟩
 obtain ⟨r5, hx10, h⟩ := bnd_some h
 refine la_call rfl gn rfl (r_callF (vs := [vi (x1.At.length : Int), (Value.func (.func 39) #[vs a2 x1.At.length c2] #[])]) rfl ok_38 ⟨et, ⟨et, trivial⟩⟩) (Calls.mono (c_printer_list (Dj F c4) w6 hI.lt (x1.At.length : Int) (m_printer_forms_item x1.At) (Value.func (.func 39) #[vs a2 x1.At.length c2] #[]) ⟨(hI.get .z), trivial⟩ r5 hx10) ?_)
 rintro _ w7 ⟨rfl, hx11, hl5⟩
 refine ⟨_, rfl, hx11, ?_⟩
 replace hI := (hI.ext hx11)
 obtain ⟨s2, hx12, h⟩ := bnd_some h
 refine a_q rfl gn rfl (fun w' => y_catl rfl et et hx12) ?_
 obtain ⟨s3, hx13, h⟩ := bnd_some h
 refine a_q rfl gn rfl (fun w' => y_catl rfl et ev_const hx13) ?_
 refine a_q rfl gn rfl (fun w' => y_assign rfl et) ?_
 refine a_nil ?_
 refine k_next (e := [(2, (str s3))]) ⟨rfl, trivial⟩ ?_
 refine c_ret ?_
 obtain rfl := some_inj h
 exact q_ret (vs := [(str s3)]) Tryz.results14 ⟨ev_tmp rfl rfl, trivial⟩ (fq hI trivial)
theorem c_printer_indices_item (F : NP) (w0 : World) (hF : ∀ k, F k → k < w0.heap.size) (l1 : List GIndex) (i1 : Int) (a1 : Option Addr) (c1 : Nat) (hc : AllCl [Cl.sl cGIndex a1 c1 l1, clPow10, clSpace] F w0) (r : List UInt8)
  (h : m_printer_indices_item l1 i1 = some r) :
  Calls Tryz.prog 97 #[vs a1 l1.length c1, vi i1] w0 fun e w => e = .returned (str r) ∧ Ext w0 w ∧ AllCl [] F w := by
 refine enterK Tryz.func97 rfl Tryz.ntmps97 rfl ?_
 have hI := Bun.start hF hc
 clear hc
 rw [m_printer_indices_item] at h
 refine sr (sac ?_)
 refine nk (sr (sm ?_))
 refine sm ?_
 obtain ⟨e1, hx1, h⟩ := bnd_some h
 obtain ⟨ad1, cs1, hA1, hr1, hq1⟩ := hI.clat .z hx1
 obtain ⟨a2, c2, a3, c3, rfl, hf1, hf2⟩ := hr1
 have hI := hI.add (c := Cl.sl cGMono a2 c2 e1.Lin.L) hf1
 have hI := hI.add (c := Cl.sl cGLin a3 c3 e1.At) hf2
 refine sq (y_indexAddr rfl u126 size_32 et et (lat_bd hx1) hA1) ?_
 refine sq (y_loadN (l := [vi e1.Lin.K, vs a2 e1.Lin.L.length c2, (str e1.From), vs a3 e1.At.length c3]) rfl et u32 rfl size_32 hq1.1) ?_
 obtain ⟨r1, hx2, h⟩ := bnd_some h
 refine s_call gn rfl (r_callF (vs := [(Value.agg #[vi e1.Lin.K, vs a2 e1.Lin.L.length c2, (str e1.From), vs a3 e1.At.length c3])]) rfl ok_14 ⟨et, trivial⟩) (Calls.mono (c_printer_Index (Dj F noM) w0 hI.lt e1 a2 c2 a3 c3 ⟨(hI.get (.s .z)), (hI.get .z), (hI.get (.s (.s (.s .z)))), (hI.get (.s (.s (.s (.s .z))))), trivial⟩ r1 hx2) ?_)
 rintro _ w1 ⟨rfl, hx3, hl1⟩
 refine ⟨_, rfl, ?_⟩
 replace hI := (hI.ext hx3)
 refine sa ?_
 refine nk (c_ret ?_)
 obtain rfl := some_inj h
 exact q_ret (vs := [(str r1)]) Tryz.results97 ⟨ev_tmp rfl rfl, trivial⟩ (fq hI trivial)
theorem c_printer_symbol (F : NP) (w0 : World) (hF : ∀ k, F k → k < w0.heap.size) (op1 : Int) (hc : AllCl [] F w0) (r : List UInt8)
  (h : m_printer_symbol op1 = some r) :
  Calls Tryz.prog 100 #[vi op1] w0 fun e w => e = .returned (str r) ∧ Ext w0 w ∧ AllCl [] F w := by
 refine enterK Tryz.func100 rfl Tryz.ntmps100 rfl ?_
 have hI := Bun.start hF hc
 clear hc
 rw [m_printer_symbol] at h
 refine sr (sac ?_)
 refine nk (c_seq (sr (sm ?_)))
 refine nk (c_block (sr (sq (y_eql rfl et ev_const) ?_)))
 refine sa ?_
 refine nk (cif h et (fun hb h => ?_) (fun hb h => ?_))
 ·refine sr (sac ?_)
  refine nk (c_ret ?_)
  obtain rfl := some_inj h
  exact q_ret (vs := [(str ([43] : List UInt8))]) Tryz.results100 ⟨ev_tmp rfl rfl, trivial⟩ (fq hI trivial)
 refine sr (sq (y_eql rfl et ev_const) ?_)
 refine sa ?_
 refine nk (cif h et (fun hb h => ?_) (fun hb h => ?_))
 ·refine sr (sac ?_)
  refine nk (c_ret ?_)
  obtain rfl := some_inj h
  exact q_ret (vs := [(str ([45] : List UInt8))]) Tryz.results100 ⟨ev_tmp rfl rfl, trivial⟩ (fq hI trivial)
 refine sr (sq (y_eql rfl et ev_const) ?_)
 refine sa ?_
 refine nk (cif h et (fun hb h => ?_) (fun hb h => ?_))
 ·refine sr (sac ?_)
  refine nk (c_ret ?_)
  obtain rfl := some_inj h
  exact q_ret (vs := [(str ([42] : List UInt8))]) Tryz.results100 ⟨ev_tmp rfl rfl, trivial⟩ (fq hI trivial)
 refine sr (sq (y_eql rfl et ev_const) ?_)
 refine sa ?_
 refine nk (cif h et (fun hb h => ?_) (fun hb h => ?_))
 ·refine sr (sac ?_)
  refine nk (c_ret ?_)
  obtain rfl := some_inj h
  exact q_ret (vs := [(str ([47] : List UInt8))]) Tryz.results100 ⟨ev_tmp rfl rfl, trivial⟩ (fq hI trivial)
 refine sr (sq (y_eql rfl et ev_const) ?_)
 refine sa ?_
 refine nk (cif h et (fun hb h => ?_) (fun hb h => ?_))
 ·refine sr (sac ?_)
  refine nk (c_ret ?_)
  obtain rfl := some_inj h
  exact q_ret (vs := [(str ([60] : List UInt8))]) Tryz.results100 ⟨ev_tmp rfl rfl, trivial⟩ (fq hI trivial)
 refine sr (sq (y_eql rfl et ev_const) ?_)
 refine sa ?_
 refine nk (cif h et (fun hb h => ?_) (fun hb h => ?_))
 ·refine sr (sac ?_)
  refine nk (c_ret ?_)
  obtain rfl := some_inj h
  exact q_ret (vs := [(str ([60, 61] : List UInt8))]) Tryz.results100 ⟨ev_tmp rfl rfl, trivial⟩ (fq hI trivial)
 refine sr (sq (y_eql rfl et ev_const) ?_)
 refine sa ?_
 refine nk (cif h et (fun hb h => ?_) (fun hb h => ?_))
 ·refine sr (sac ?_)
  refine nk (c_ret ?_)
  obtain rfl := some_inj h
  exact q_ret (vs := [(str ([61, 61] : List UInt8))]) Tryz.results100 ⟨ev_tmp rfl rfl, trivial⟩ (fq hI trivial)
 refine sr (sq (y_eql rfl et ev_const) ?_)
 refine sa ?_
 refine nk (cif h et (fun hb h => ?_) (fun hb h => ?_))
 ·refine sr (sac ?_)
  refine nk (c_ret ?_)
  obtain rfl := some_inj h
  exact q_ret (vs := [(str ([38] : List UInt8))]) Tryz.results100 ⟨ev_tmp rfl rfl, trivial⟩ (fq hI trivial)
 refine sr (sq (y_eql rfl et ev_const) ?_)
 refine sa ?_
 refine nk (cif h et (fun hb h => ?_) (fun hb h => ?_))
 ·refine sr (sac ?_)
  refine nk (c_ret ?_)
  obtain rfl := some_inj h
  exact q_ret (vs := [(str ([124] : List UInt8))]) Tryz.results100 ⟨ev_tmp rfl rfl, trivial⟩ (fq hI trivial)
 refine c_skip (k_same (sr (sac ?_)))
 refine nk (c_ret ?_)
 obtain rfl := some_inj h
 exact q_ret (vs := [(str ([] : List UInt8))]) Tryz.results100 ⟨ev_tmp rfl rfl, trivial⟩ (fq hI trivial)
theorem c_printer_writer_operand_w (rec_ : ((List UInt8) → GExpr → Option (Unit × List UInt8))) (hrec : ∀ (C0 F : NP) (w0 : World) (w1 : List UInt8) (e1 : GExpr) (b1 : Nat) (a1 : Option Addr) (c1 : Nat) (a2 : Option Addr) (c2 : Nat) (a3 : Option Addr) (c3 : Nat) (hI : Bun C0 F w0 C0 w0 [MO.bld 5 82 b1 w1] [Cl.sl cGMono a1 c1 e1.Lin.L, Cl.sl cGIndex a2 c2 e1.Idx, Cl.sl cGExpr a3 c3 e1.Args, clPow10, clSpace]) (r : Unit × List UInt8) (h : rec_ w1 e1 = some r), Calls Tryz.prog 46 #[vp b1 0, (Value.agg #[vi e1.Op, (str e1.Name), vi e1.Val.N, vi e1.Val.D, vi e1.Type_.Kind, vi e1.Type_.Bits, vi e1.Type_.Frac, vi e1.Type_.Round, vi e1.Type_.Over, vi e1.Lin.K, vs a1 e1.Lin.L.length c1, vs a2 e1.Idx.length c2, vs a3 e1.Args.length c3])] w0 fun e w => ∃ (C : NP), e = .returned (Value.tuple #[]) ∧ Bun C0 F w0 C w [MO.bld 5 82 b1 r.2] []) (C0 F : NP) (w0 : World) (w1 : List UInt8) (e1 : GExpr) (least1 : Int) (b1 : Nat) (a1 : Option Addr) (c1 : Nat) (a2 : Option Addr) (c2 : Nat) (a3 : Option Addr) (c3 : Nat) (hI : Bun C0 F w0 C0 w0 [MO.bld 5 82 b1 w1] [Cl.sl cGMono a1 c1 e1.Lin.L, Cl.sl cGIndex a2 c2 e1.Idx, Cl.sl cGExpr a3 c3 e1.Args, clPow10, clSpace]) (r : Unit × List UInt8)
  (h : m_printer_writer_operand_w rec_ w1 e1 least1 = some r) :
  Calls Tryz.prog 98 #[vp b1 0, (Value.agg #[vi e1.Op, (str e1.Name), vi e1.Val.N, vi e1.Val.D, vi e1.Type_.Kind, vi e1.Type_.Bits, vi e1.Type_.Frac, vi e1.Type_.Round, vi e1.Type_.Over, vi e1.Lin.K, vs a1 e1.Lin.L.length c1, vs a2 e1.Idx.length c2, vs a3 e1.Args.length c3]), vi least1] w0 fun e w => ∃ (C : NP), e = .returned (Value.tuple #[]) ∧ Bun C0 F w0 C w [MO.bld 5 82 b1 r.2] [] := by
 refine enterK Tryz.func98 rfl Tryz.ntmps98 rfl ?_
 rw [m_printer_writer_operand_w] at h
 refine sr (l_box (v := (Value.agg #[vi e1.Op, (str e1.Name), vi e1.Val.N, vi e1.Val.D, vi e1.Type_.Kind, vi e1.Type_.Bits, vi e1.Type_.Frac, vi e1.Type_.Round, vi e1.Type_.Over, vi e1.Lin.K, vs a1 e1.Lin.L.length c1, vs a2 e1.Idx.length c2, vs a3 e1.Args.length c3])) (cs := #[vi e1.Op, (str e1.Name), vi e1.Val.N, vi e1.Val.D, vi e1.Type_.Kind, vi e1.Type_.Bits, vi e1.Type_.Frac, vi e1.Type_.Round, vi e1.Type_.Over, vi e1.Lin.K, vs a1 e1.Lin.L.length c1, vs a2 e1.Idx.length c2, vs a3 e1.Args.length c3]) hI gn rfl rfl et rfl ?_)
 clear hI; intro b2 c4 w2 hI
 obtain ⟨c5, hI⟩ := hI.relBox .z
 refine nk (c_seq (sr (sq (y_fieldAddr rfl et u39 rfl size_3 rfl) ?_)))
 refine sq (y_load1 (v := (vi e1.Op)) rfl et u3 rfl (hI.kblk (l := [vi e1.Op]) .z rfl).1) ?_
 obtain ⟨r1, hx1, h⟩ := bnd_some h
 refine s_call gn rfl (r_callF (vs := [vi e1.Op]) rfl ok_95 ⟨et, trivial⟩) (Calls.mono (c_printer_precedence (Dj F c5) w2 hI.lt e1.Op trivial r1 hx1) ?_)
 rintro _ w3 ⟨rfl, hx2, hl1⟩
 refine ⟨_, rfl, ?_⟩
 replace hI := (hI.ext hx2)
 refine sm ?_
 refine sq (y_geq rfl et et) ?_
 refine nk (cif h et (fun hb h => ?_) (fun hb h => ?_))
 ·refine sr (sm ?_)
  refine sq (y_loadN (l := [vi e1.Op, (str e1.Name), vi e1.Val.N, vi e1.Val.D, vi e1.Type_.Kind, vi e1.Type_.Bits, vi e1.Type_.Frac, vi e1.Type_.Round, vi e1.Type_.Over, vi e1.Lin.K, vs a1 e1.Lin.L.length c1, vs a2 e1.Idx.length c2, vs a3 e1.Args.length c3]) rfl et u39 rfl size_39 (hI.kblk (l := [vi e1.Op, (str e1.Name), vi e1.Val.N, vi e1.Val.D, vi e1.Type_.Kind, vi e1.Type_.Bits, vi e1.Type_.Frac, vi e1.Type_.Round, vi e1.Type_.Over, vi e1.Lin.K, vs a1 e1.Lin.L.length c1, vs a2 e1.Idx.length c2, vs a3 e1.Args.length c3]) .z rfl).1) ?_
  obtain ⟨c6, f1, hB, hl2, hk1⟩ := hI.hands (.l .n)
  obtain ⟨⟨r2, s1⟩, hx3, h⟩ := bnd_some h
  try dsimp only at h
  refine s_call gn rfl (r_callF (vs := [vp b1 0, (Value.agg #[vi e1.Op, (str e1.Name), vi e1.Val.N, vi e1.Val.D, vi e1.Type_.Kind, vi e1.Type_.Bits, vi e1.Type_.Frac, vi e1.Type_.Round, vi e1.Type_.Over, vi e1.Lin.K, vs a1 e1.Lin.L.length c1, vs a2 e1.Idx.length c2, vs a3 e1.Args.length c3])]) rfl ok_46 ⟨et, ⟨et, trivial⟩⟩) (Calls.mono (hrec c6 f1 w3 w1 e1 b1 a1 c1 a2 c2 a3 c3 (hB.subs ⟨(.s .z), (.s (.s .z)), (.s (.s (.s .z))), (.s (.s (.s (.s .z)))), (.s (.s (.s (.s (.s .z))))), trivial⟩) _ hx3) ?_)
  rintro _ w4 ⟨c7, rfl, hB2⟩
  obtain ⟨c8, hs1, hI⟩ := hk1 _ _ _ _ hB2
  replace hI : Bun C0 F w0 c8 w4 [MO.bld 5 82 b1 s1] [Cl.blk b2 39 #[vi e1.Op, (str e1.Name), vi e1.Val.N, vi e1.Val.D, vi e1.Type_.Kind, vi e1.Type_.Bits, vi e1.Type_.Frac, vi e1.Type_.Round, vi e1.Type_.Over, vi e1.Lin.K, vs a1 e1.Lin.L.length c1, vs a2 e1.Idx.length c2, vs a3 e1.Args.length c3], Cl.sl cGMono a1 c1 e1.Lin.L, Cl.sl cGIndex a2 c2 e1.Idx, Cl.sl cGExpr a3 c3 e1.Args, clPow10, clSpace] := hI
  refine ⟨_, rfl, ?_⟩
  refine nk (c_ret ?_)
  obtain rfl := some_inj h
  exact q_ret (vs := []) Tryz.results98 trivial ⟨_, rfl, hI.arr (.c .z .n) trivial⟩
 refine c_skip (k_same (sr (sm ?_)))
 refine sq (y_nilCheck rfl et) ?_
 refine sq (y_fieldAddr rfl et u82 rfl size_80 rfl) ?_
 obtain ⟨zs1, hx4, h⟩ := bnd_some h
 obtain ⟨c9, f2, hB, hl3, hk2⟩ := hI.hands (.l .n)
 refine s_call gn rfl (r_callF (vs := [vp b1 0, (str ([40] : List UInt8))]) rfl ok_66 ⟨et, ⟨ev_const, trivial⟩⟩) (Calls.mono (c_bldWrite bldT_82 c9 f2 w3 b1 w1 ([40] : List UInt8) zs1 (hB.subs trivial) hx4) ?_)
 rintro _ w5 ⟨c10, rfl, hB2⟩
 obtain ⟨c11, hs2, hI⟩ := hk2 _ _ _ _ hB2
 replace hI : Bun C0 F w0 c11 w5 [MO.bld 5 82 b1 zs1] [Cl.blk b2 39 #[vi e1.Op, (str e1.Name), vi e1.Val.N, vi e1.Val.D, vi e1.Type_.Kind, vi e1.Type_.Bits, vi e1.Type_.Frac, vi e1.Type_.Round, vi e1.Type_.Over, vi e1.Lin.K, vs a1 e1.Lin.L.length c1, vs a2 e1.Idx.length c2, vs a3 e1.Args.length c3], Cl.sl cGMono a1 c1 e1.Lin.L, Cl.sl cGIndex a2 c2 e1.Idx, Cl.sl cGExpr a3 c3 e1.Args, clPow10, clSpace] := hI
 refine ⟨_, rfl, ?_⟩
 refine nk (sr (sm ?_))
 refine sq (y_loadN (l := [vi e1.Op, (str e1.Name), vi e1.Val.N, vi e1.Val.D, vi e1.Type_.Kind, vi e1.Type_.Bits, vi e1.Type_.Frac, vi e1.Type_.Round, vi e1.Type_.Over, vi e1.Lin.K, vs a1 e1.Lin.L.length c1, vs a2 e1.Idx.length c2, vs a3 e1.Args.length c3]) rfl et u39 rfl size_39 (hI.kblk (l := [vi e1.Op, (str e1.Name), vi e1.Val.N, vi e1.Val.D, vi e1.Type_.Kind, vi e1.Type_.Bits, vi e1.Type_.Frac, vi e1.Type_.Round, vi e1.Type_.Over, vi e1.Lin.K, vs a1 e1.Lin.L.length c1, vs a2 e1.Idx.length c2, vs a3 e1.Args.length c3]) .z rfl).1) ?_
 obtain ⟨c12, f3, hB, hl4, hk3⟩ := hI.hands (.l .n)
 obtain ⟨⟨r3, s2⟩, hx5, h⟩ := bnd_some h
 try dsimp only at h
 refine s_call gn rfl (r_callF (vs := [vp b1 0, (Value.agg #[vi e1.Op, (str e1.Name), vi e1.Val.N, vi e1.Val.D, vi e1.Type_.Kind, vi e1.Type_.Bits, vi e1.Type_.Frac, vi e1.Type_.Round, vi e1.Type_.Over, vi e1.Lin.K, vs a1 e1.Lin.L.length c1, vs a2 e1.Idx.length c2, vs a3 e1.Args.length c3])]) rfl ok_46 ⟨et, ⟨et, trivial⟩⟩) (Calls.mono (hrec c12 f3 w5 zs1 e1 b1 a1 c1 a2 c2 a3 c3 (hB.subs ⟨(.s .z), (.s (.s .z)), (.s (.s (.s .z))), (.s (.s (.s (.s .z)))), (.s (.s (.s (.s (.s .z))))), trivial⟩) _ hx5) ?_)
 rintro _ w6 ⟨c13, rfl, hB2⟩
 obtain ⟨c14, hs3, hI⟩ := hk3 _ _ _ _ hB2
 replace hI : Bun C0 F w0 c14 w6 [MO.bld 5 82 b1 s2] [Cl.blk b2 39 #[vi e1.Op, (str e1.Name), vi e1.Val.N, vi e1.Val.D, vi e1.Type_.Kind, vi e1.Type_.Bits, vi e1.Type_.Frac, vi e1.Type_.Round, vi e1.Type_.Over, vi e1.Lin.K, vs a1 e1.Lin.L.length c1, vs a2 e1.Idx.length c2, vs a3 e1.Args.length c3], Cl.sl cGMono a1 c1 e1.Lin.L, Cl.sl cGIndex a2 c2 e1.Idx, Cl.sl cGExpr a3 c3 e1.Args, clPow10, clSpace] := hI
 refine ⟨_, rfl, ?_⟩
 refine nk (c_region rfl ?_)
 refine sm ?_
 refine sq (y_nilCheck rfl et) ?_
 refine sq (y_fieldAddr rfl et u82 rfl size_80 rfl) ?_
 obtain ⟨zs2, hx6, h⟩ := bnd_some h
 obtain ⟨c15, f4, hB, hl5, hk4⟩ := hI.hands (.l .n)
 refine s_call gn rfl (r_callF (vs := [vp b1 0, (str ([41] : List UInt8))]) rfl ok_66 ⟨et, ⟨ev_const, trivial⟩⟩) (Calls.mono (c_bldWrite bldT_82 c15 f4 w6 b1 s2 ([41] : List UInt8) zs2 (hB.subs trivial) hx6) ?_)
 rintro _ w7 ⟨c16, rfl, hB2⟩
 obtain ⟨c17, hs4, hI⟩ := hk4 _ _ _ _ hB2
 replace hI : Bun C0 F w0 c17 w7 [MO.bld 5 82 b1 zs2] [Cl.blk b2 39 #[vi e1.Op, (str e1.Name), vi e1.Val.N, vi e1.Val.D, vi e1.Type_.Kind, vi e1.Type_.Bits, vi e1.Type_.Frac, vi e1.Type_.Round, vi e1.Type_.Over, vi e1.Lin.K, vs a1 e1.Lin.L.length c1, vs a2 e1.Idx.length c2, vs a3 e1.Args.length c3], Cl.sl cGMono a1 c1 e1.Lin.L, Cl.sl cGIndex a2 c2 e1.Idx, Cl.sl cGExpr a3 c3 e1.Args, clPow10, clSpace] := hI
 refine ⟨_, rfl, ?_⟩
 refine s_nil ?_
 obtain rfl := some_inj h
 exact q_ret (vs := []) Tryz.results98 trivial ⟨_, rfl, hI.arr (.c .z .n) trivial⟩
theorem c_printer_writer_call_w (rec_ : ((List UInt8) → GExpr → Option (Unit × List UInt8))) (hrec : ∀ (C0 F : NP) (w0 : World) (w1 : List UInt8) (e1 : GExpr) (b1 : Nat) (a1 : Option Addr) (c1 : Nat) (a2 : Option Addr) (c2 : Nat) (a3 : Option Addr) (c3 : Nat) (hI : Bun C0 F w0 C0 w0 [MO.bld 5 82 b1 w1] [Cl.sl cGMono a1 c1 e1.Lin.L, Cl.sl cGIndex a2 c2 e1.Idx, Cl.sl cGExpr a3 c3 e1.Args, clPow10, clSpace]) (r : Unit × List UInt8) (h : rec_ w1 e1 = some r), Calls Tryz.prog 46 #[vp b1 0, (Value.agg #[vi e1.Op, (str e1.Name), vi e1.Val.N, vi e1.Val.D, vi e1.Type_.Kind, vi e1.Type_.Bits, vi e1.Type_.Frac, vi e1.Type_.Round, vi e1.Type_.Over, vi e1.Lin.K, vs a1 e1.Lin.L.length c1, vs a2 e1.Idx.length c2, vs a3 e1.Args.length c3])] w0 fun e w => ∃ (C : NP), e = .returned (Value.tuple #[]) ∧ Bun C0 F w0 C w [MO.bld 5 82 b1 r.2] []) (C0 F : NP) (w0 : World) (w1 : List UInt8) (name1 : List UInt8) (first1 : List UInt8) (args1 : List GExpr) (b1 : Nat) (a1 : Option Addr) (c1 : Nat) (hI : Bun C0 F w0 C0 w0 [MO.bld 5 82 b1 w1] [Cl.sl cGExpr a1 c1 args1, clPow10, clSpace]) (r : Unit × List UInt8)
  (h : m_printer_writer_call_w rec_ w1 name1 first1 args1 = some r) :
  Calls Tryz.prog 99 #[vp b1 0, (str name1), (str first1), vs a1 args1.length c1] w0 fun e w => ∃ (C : NP), e = .returned (Value.tuple #[]) ∧ Bun C0 F w0 C w [MO.bld 5 82 b1 r.2] [] := by
 refine enterK Tryz.func99 rfl Tryz.ntmps99 rfl ?_
 rw [m_printer_writer_call_w] at h
 refine sr (sm ?_)
 refine sq (y_nilCheck rfl et) ?_
 refine sq (y_fieldAddr rfl et u82 rfl size_80 rfl) ?_
 refine sm ?_
 obtain ⟨s1, hx1, h⟩ := bnd_some h
 refine sq (y_catl rfl et ev_const hx1) ?_
 refine sm ?_
 obtain ⟨s2, hx2, h⟩ := bnd_some h
 refine sq (y_catl rfl et et hx2) ?_
 obtain ⟨zs1, hx3, h⟩ := bnd_some h
 obtain ⟨c2, f1, hB, hl1, hk1⟩ := hI.hands (.l .n)
 refine s_call gn rfl (r_callF (vs := [vp b1 0, (str s2)]) rfl ok_66 ⟨et, ⟨et, trivial⟩⟩) (Calls.mono (c_bldWrite bldT_82 c2 f1 w0 b1 w1 s2 zs1 (hB.subs trivial) hx3) ?_)
 rintro _ w2 ⟨c3, rfl, hB2⟩
 obtain ⟨c4, hs1, hI⟩ := hk1 _ _ _ _ hB2
 replace hI : Bun C0 F w0 c4 w2 [MO.bld 5 82 b1 zs1] [Cl.sl cGExpr a1 c1 args1, clPow10, clSpace] := hI
 refine ⟨_, rfl, ?_⟩
 refine nk (c_seq (sr (sm ?_)))
 refine sq (y_lenl rfl u37 et) ?_
 refine sq (y_move rfl ev_const) ?_
 refine nk (c_block (c_loop (α := Nat × Int × (List UInt8)) (fun x => fun w => ∃ C, Bun C0 F w0 C w [MO.bld 5 82 b1 (x.2.2)] [Cl.sl cGExpr a1 c1 args1, clPow10, clSpace] ∧ m_printer_writer_call_w_l1 args1 first1 rec_ (x.1) (x.2.1) (x.2.2) = some r) (fun x _ => x.1) (fun x => [(0, vp b1 0), (2, (str first1)), (18, vs a1 args1.length c1), (19, vi (args1.length : Int)), (20, vi (x.2.1))]) (fu, 0, zs1) ⟨_, hI.arr (.c .z .n) ⟨.z, (.s .z), (.s (.s .z)), trivial⟩, h⟩ ⟨rfl, rfl, rfl, rfl, rfl, trivial⟩ ?_))
 clear h hI; rintro ⟨fuel1, i1, s3⟩ w3 ⟨c5, hI, h⟩
 dsimp only at hI h
 rcases fuel1 with _ | fuel1
 ·rw [m_printer_writer_call_w_l1] at h; cases h
 rw [m_printer_writer_call_w_l1] at h
 refine c_sub (e := [(0, vp b1 0), (2, (str first1)), (18, vs a1 args1.length c1), (19, vi (args1.length : Int)), (20, vi i1)]) ⟨rfl, rfl, rfl, rfl, rfl, trivial⟩ ?_
 refine sr (sq (y_lss rfl et et) ?_)
 refine nk (c_seq (cif h et (fun hb h => ?_) (fun hb h => ?_)))
 ·refine c_skip (k_same (c_seq (c_block (sr (sm ?_)))))
  obtain ⟨e1, hx4, h⟩ := bnd_some h
  obtain ⟨ad1, cs1, hA1, hr1, hq1⟩ := hI.clat .z hx4
  obtain ⟨a2, c6, a3, c7, a4, c8, rfl, hf1, hf2, hf3⟩ := cGExpr_out hr1
  have hI := hI.add (c := Cl.sl cGMono a2 c6 e1.Lin.L) hf1
  have hI := hI.add (c := Cl.sl cGIndex a3 c7 e1.Idx) hf2
  have hI := hI.add (c := Cl.sl cGExpr a4 c8 e1.Args) hf3
  refine sq (y_indexAddr rfl u37 size_39 et et (lat_bd hx4) hA1) ?_
  refine sq (y_loadN (l := [vi e1.Op, (str e1.Name), vi e1.Val.N, vi e1.Val.D, vi e1.Type_.Kind, vi e1.Type_.Bits, vi e1.Type_.Frac, vi e1.Type_.Round, vi e1.Type_.Over, vi e1.Lin.K, vs a2 e1.Lin.L.length c6, vs a3 e1.Idx.length c7, vs a4 e1.Args.length c8]) rfl et u39 rfl size_39 hq1.1) ?_
  refine l_alloc (cs := #[vi 0, (str ([] : List UInt8)), vi 0, vi 0, vi 0, vi 0, vi 0, vi 0, vi 0, vi 0, vs none 0 0, vs none 0 0, vs none 0 0]) hI gn rfl rfl zero_39 rfl ?_
  clear hI; intro b2 c9 w4 hI
  refine sa ?_
  refine l_store (new := [vi e1.Op, (str e1.Name), vi e1.Val.N, vi e1.Val.D, vi e1.Type_.Kind, vi e1.Type_.Bits, vi e1.Type_.Frac, vi e1.Type_.Round, vi e1.Type_.Over, vi e1.Lin.K, vs a2 e1.Lin.L.length c6, vs a3 e1.Idx.length c7, vs a4 e1.Args.length c8]) (cs' := #[vi e1.Op, (str e1.Name), vi e1.Val.N, vi e1.Val.D, vi e1.Type_.Kind, vi e1.Type_.Bits, vi e1.Type_.Frac, vi e1.Type_.Round, vi e1.Type_.Over, vi e1.Lin.K, vs a2 e1.Lin.L.length c6, vs a3 e1.Idx.length c7, vs a4 e1.Args.length c8]) hI .z gn rfl rfl et et rfl size_39 rfl rfl rfl ?_
  clear hI; intro c10 w5 hI
  refine nk (c_join (α := (List UInt8)) (fun _ => ⟨43, []⟩) (fun x => [(0, vp b1 0), (2, (str first1)), (18, vs a1 args1.length c1), (19, vi (args1.length : Int)), (20, vi i1), (9, vp b2 0)]) (fun x => fun w => ∃ C, Bun C0 F w0 C w [MO.bld 5 82 b1 x, MO.box b2 39 #[vi e1.Op, (str e1.Name), vi e1.Val.N, vi e1.Val.D, vi e1.Type_.Kind, vi e1.Type_.Bits, vi e1.Type_.Frac, vi e1.Type_.Round, vi e1.Type_.Over, vi e1.Lin.K, vs a2 e1.Lin.L.length c6, vs a3 e1.Idx.length c7, vs a4 e1.Args.length c8]] [Cl.sl cGExpr a1 c1 args1, Cl.sl cGMono a2 c6 e1.Lin.L, Cl.sl cGIndex a3 c7 e1.Idx, Cl.sl cGExpr a4 c8 e1.Args, clPow10, clSpace] ∧ m_printer_writer_call_w_j1 rec_ e1 (m_printer_writer_call_w_l1 args1 first1 rec_ fuel1) i1 x = some r) ?_ ?_)
  ·clear h hI; rintro s4 w6 ⟨c11, hI, h⟩
   try dsimp only at hI h
   rw [m_printer_writer_call_w_j1] at h
   refine c_sub (e := [(0, vp b1 0), (2, (str first1)), (18, vs a1 args1.length c1), (19, vi (args1.length : Int)), (20, vi i1), (9, vp b2 0)]) ⟨rfl, rfl, rfl, rfl, rfl, rfl, trivial⟩ ?_
   refine c_region rfl ?_
   refine sm ?_
   refine sq (y_loadN (l := [vi e1.Op, (str e1.Name), vi e1.Val.N, vi e1.Val.D, vi e1.Type_.Kind, vi e1.Type_.Bits, vi e1.Type_.Frac, vi e1.Type_.Round, vi e1.Type_.Over, vi e1.Lin.K, vs a2 e1.Lin.L.length c6, vs a3 e1.Idx.length c7, vs a4 e1.Args.length c8]) rfl et u39 rfl size_39 (CellsAt.of_blk (hI.blk (.s .z)) rfl)) ?_
   obtain ⟨c12, f2, hB, hl2, hk2⟩ := hI.hands (.l (.r .n))
   obtain ⟨⟨r1, s5⟩, hx5, h⟩ := bnd_some h
   try dsimp only at h
   refine s_call gn rfl (r_callF (vs := [vp b1 0, (Value.agg #[vi e1.Op, (str e1.Name), vi e1.Val.N, vi e1.Val.D, vi e1.Type_.Kind, vi e1.Type_.Bits, vi e1.Type_.Frac, vi e1.Type_.Round, vi e1.Type_.Over, vi e1.Lin.K, vs a2 e1.Lin.L.length c6, vs a3 e1.Idx.length c7, vs a4 e1.Args.length c8])]) rfl ok_46 ⟨et, ⟨et, trivial⟩⟩) (Calls.mono (hrec c12 f2 w6 s4 e1 b1 a2 c6 a3 c7 a4 c8 (hB.subs ⟨(.s .z), (.s (.s .z)), (.s (.s (.s .z))), (.s (.s (.s (.s .z)))), (.s (.s (.s (.s (.s .z))))), trivial⟩) _ hx5) ?_)
   rintro _ w7 ⟨c13, rfl, hB2⟩
   obtain ⟨c14, hs2, hI⟩ := hk2 _ _ _ _ hB2
   replace hI : Bun C0 F w0 c14 w7 [MO.bld 5 82 b1 s5, MO.box b2 39 #[vi e1.Op, (str e1.Name), vi e1.Val.N, vi e1.Val.D, vi e1.Type_.Kind, vi e1.Type_.Bits, vi e1.Type_.Frac, vi e1.Type_.Round, vi e1.Type_.Over, vi e1.Lin.K, vs a2 e1.Lin.L.length c6, vs a3 e1.Idx.length c7, vs a4 e1.Args.length c8]] [Cl.sl cGExpr a1 c1 args1, Cl.sl cGMono a2 c6 e1.Lin.L, Cl.sl cGIndex a3 c7 e1.Idx, Cl.sl cGExpr a4 c8 e1.Args, clPow10, clSpace] := hI
   refine ⟨_, rfl, ?_⟩
   refine nk (c_region rfl ?_)
   refine sq (y_add rfl et ev_const) ?_
   refine sm ?_
   refine s_nil ?_
   exact k_loop (fuel1, wi64 (i1 + 1), s5) ⟨rfl, rfl, rfl, rfl, rfl, trivial⟩ ⟨_, hI.arr (.c .z .n) ⟨.z, (.s (.s (.s (.s .z)))), (.s (.s (.s (.s (.s .z))))), trivial⟩, h⟩ (Nat.lt_succ_self _)
  refine sr (sm ?_)
  refine sq (y_gtr rfl et ev_const) ?_
  refine sm ?_
  refine s_gval (g_false rfl rfl rfl rfl) rfl (fun hc => y_move rfl et) ?_
  refine s_gval (g_false rfl rfl rfl rfl) rfl (fun hc => y_nes rfl (ev_gv et hc) ev_const) ?_
  refine sq (y_or rfl et et) ?_
  refine nk (cif h et (fun hb h => ?_) (fun hb h => ?_))
  ·refine c_region rfl ?_
   refine sm ?_
   refine sq (y_nilCheck rfl et) ?_
   refine sq (y_fieldAddr rfl et u82 rfl size_80 rfl) ?_
   obtain ⟨zs2, hx6, h⟩ := bnd_some h
   obtain ⟨c15, f3, hB, hl3, hk3⟩ := hI.hands (.r (.l .n))
   refine s_call gn rfl (r_callF (vs := [vp b1 0, (str ([44, 32] : List UInt8))]) rfl ok_66 ⟨et, ⟨ev_const, trivial⟩⟩) (Calls.mono (c_bldWrite bldT_82 c15 f3 w5 b1 s3 ([44, 32] : List UInt8) zs2 (hB.subs trivial) hx6) ?_)
   rintro _ w8 ⟨c16, rfl, hB2⟩
   obtain ⟨c17, hs3, hI⟩ := hk3 _ _ _ _ hB2
   replace hI : Bun C0 F w0 c17 w8 [MO.bld 5 82 b1 zs2, MO.box b2 39 #[vi e1.Op, (str e1.Name), vi e1.Val.N, vi e1.Val.D, vi e1.Type_.Kind, vi e1.Type_.Bits, vi e1.Type_.Frac, vi e1.Type_.Round, vi e1.Type_.Over, vi e1.Lin.K, vs a2 e1.Lin.L.length c6, vs a3 e1.Idx.length c7, vs a4 e1.Args.length c8]] [Cl.sl cGExpr a4 c8 e1.Args, Cl.sl cGIndex a3 c7 e1.Idx, Cl.sl cGMono a2 c6 e1.Lin.L, Cl.sl cGExpr a1 c1 args1, clPow10, clSpace] := hI
   refine ⟨_, rfl, ?_⟩
   refine s_nil ?_
   exact k_join zs2 ⟨rfl, rfl, rfl, rfl, rfl, rfl, trivial⟩ ⟨_, hI.arr (.c .z (.c .z .n)) ⟨(.s (.s (.s .z))), (.s (.s .z)), (.s .z), .z, (.s (.s (.s (.s .z)))), (.s (.s (.s (.s (.s .z))))), trivial⟩, h⟩ rfl
  exact c_skip (k_join s3 ⟨rfl, rfl, rfl, rfl, rfl, rfl, trivial⟩ ⟨_, hI.arr (.c (.s .z) (.c .z .n)) ⟨(.s (.s (.s .z))), (.s (.s .z)), (.s .z), .z, (.s (.s (.s (.s .z)))), (.s (.s (.s (.s (.s .z))))), trivial⟩, h⟩ rfl)
 refine c_exit ?_
 refine k_in ?_
 refine k_same (c_region rfl ?_)
 refine sm ?_
 refine sq (y_nilCheck rfl et) ?_
 refine sq (y_fieldAddr rfl et u82 rfl size_80 rfl) ?_
 obtain ⟨zs3, hx7, h⟩ := bnd_some h
 obtain ⟨c18, f4, hB, hl4, hk4⟩ := hI.hands (.l .n)
 refine s_call gn rfl (r_callF (vs := [vp b1 0, (str ([41] : List UInt8))]) rfl ok_66 ⟨et, ⟨ev_const, trivial⟩⟩) (Calls.mono (c_bldWrite bldT_82 c18 f4 w3 b1 s3 ([41] : List UInt8) zs3 (hB.subs trivial) hx7) ?_)
 rintro _ w9 ⟨c19, rfl, hB2⟩
 obtain ⟨c20, hs4, hI⟩ := hk4 _ _ _ _ hB2
 replace hI : Bun C0 F w0 c20 w9 [MO.bld 5 82 b1 zs3] [Cl.sl cGExpr a1 c1 args1, clPow10, clSpace] := hI
 refine ⟨_, rfl, ?_⟩
 refine s_nil ?_
 obtain rfl := some_inj h
 exact q_ret (vs := []) Tryz.results99 trivial ⟨_, rfl, hI.arr (.c .z .n) trivial⟩
theorem c_printer_writer_expr_w_b (rec_ : ((List UInt8) → GExpr → Option (Unit × List UInt8))) (hrec : ∀ (C0 F : NP) (w0 : World) (w1 : List UInt8) (e1 : GExpr) (b1 : Nat) (a1 : Option Addr) (c1 : Nat) (a2 : Option Addr) (c2 : Nat) (a3 : Option Addr) (c3 : Nat) (hI : Bun C0 F w0 C0 w0 [MO.bld 5 82 b1 w1] [Cl.sl cGMono a1 c1 e1.Lin.L, Cl.sl cGIndex a2 c2 e1.Idx, Cl.sl cGExpr a3 c3 e1.Args, clPow10, clSpace]) (r : Unit × List UInt8) (h : rec_ w1 e1 = some r), Calls Tryz.prog 46 #[vp b1 0, (Value.agg #[vi e1.Op, (str e1.Name), vi e1.Val.N, vi e1.Val.D, vi e1.Type_.Kind, vi e1.Type_.Bits, vi e1.Type_.Frac, vi e1.Type_.Round, vi e1.Type_.Over, vi e1.Lin.K, vs a1 e1.Lin.L.length c1, vs a2 e1.Idx.length c2, vs a3 e1.Args.length c3])] w0 fun e w => ∃ (C : NP), e = .returned (Value.tuple #[]) ∧ Bun C0 F w0 C w [MO.bld 5 82 b1 r.2] [])
  (C0 F : NP) (w0 : World) (w1 : List UInt8) (e1 : GExpr) (b1 : Nat) (a1 : Option Addr) (c1 : Nat) (a2 : Option Addr) (c2 : Nat) (a3 : Option Addr) (c3 : Nat) (hI : Bun C0 F w0 C0 w0 [MO.bld 5 82 b1 w1] [Cl.sl cGMono a1 c1 e1.Lin.L, Cl.sl cGIndex a2 c2 e1.Idx, Cl.sl cGExpr a3 c3 e1.Args, clPow10, clSpace]) (r : Unit × List UInt8) (h : m_printer_writer_expr_w_b rec_ w1 e1 = some r) : Calls Tryz.prog 46 #[vp b1 0, (Value.agg #[vi e1.Op, (str e1.Name), vi e1.Val.N, vi e1.Val.D, vi e1.Type_.Kind, vi e1.Type_.Bits, vi e1.Type_.Frac, vi e1.Type_.Round, vi e1.Type_.Over, vi e1.Lin.K, vs a1 e1.Lin.L.length c1, vs a2 e1.Idx.length c2, vs a3 e1.Args.length c3])] w0 fun e w => ∃ (C : NP), e = .returned (Value.tuple #[]) ∧ Bun C0 F w0 C w [MO.bld 5 82 b1 r.2] [] := by
 refine enterK Tryz.func46 rfl Tryz.ntmps46 rfl ?_
 rw [m_printer_writer_expr_w_b] at h
 refine sr (l_box (v := (Value.agg #[vi e1.Op, (str e1.Name), vi e1.Val.N, vi e1.Val.D, vi e1.Type_.Kind, vi e1.Type_.Bits, vi e1.Type_.Frac, vi e1.Type_.Round, vi e1.Type_.Over, vi e1.Lin.K, vs a1 e1.Lin.L.length c1, vs a2 e1.Idx.length c2, vs a3 e1.Args.length c3])) (cs := #[vi e1.Op, (str e1.Name), vi e1.Val.N, vi e1.Val.D, vi e1.Type_.Kind, vi e1.Type_.Bits, vi e1.Type_.Frac, vi e1.Type_.Round, vi e1.Type_.Over, vi e1.Lin.K, vs a1 e1.Lin.L.length c1, vs a2 e1.Idx.length c2, vs a3 e1.Args.length c3]) hI gn rfl rfl et rfl ?_)
 clear hI; intro b2 c4 w2 hI
 obtain ⟨c5, hI⟩ := hI.relBox .z
 refine nk (sr (sq (y_fieldAddr rfl et u39 rfl size_3 rfl) ?_))
 refine sq (y_load1 (v := (vi e1.Op)) rfl et u3 rfl (hI.kblk (l := [vi e1.Op]) .z rfl).1) ?_
 obtain ⟨r1, hx1, h⟩ := bnd_some h
 refine s_call gn rfl (r_callF (vs := [vi e1.Op]) rfl ok_95 ⟨et, trivial⟩) (Calls.mono (c_printer_precedence (Dj F c5) w2 hI.lt e1.Op trivial r1 hx1) ?_)
 rintro _ w3 ⟨rfl, hx2, hl1⟩
 refine ⟨_, rfl, ?_⟩
 replace hI := (hI.ext hx2)
 refine sa ?_
 refine nk (sr (sq (y_fieldAddr rfl et u39 rfl size_3 rfl) ?_))
 refine sq (y_load1 (v := (vi e1.Op)) rfl et u3 rfl (hI.kblk (l := [vi e1.Op]) .z rfl).1) ?_
 refine nk (c_block (sr (sq (y_eql rfl et ev_const) ?_)))
 refine sa ?_
 refine nk (cif h et (fun hb h => ?_) (fun hb h => ?_))
 ·refine c_drawX [14] false (.c (0, .q) (.c (1, .q) (.c (2, .q) (.c (3, .q) (.c (4, .q) (.c (7, .q) (.c (8, .q) (.c (9, .q) (.c (10, .q) (.c (5, .s) (.c (6, .q) (.c (11, .s) (.c (12, .q) (.c (13, .q) (.c (14, .s) .n))))))))))))))) hI (by kernel_rfl) (by kernel_rfl) ?_
  clear hI; intro w4 hI
  refine a_q rfl gn rfl (fun w' => y_move rfl et) ?_
  refine a_q rfl gn rfl (fun w' => y_nilCheck rfl et) ?_
  refine a_q rfl gn rfl (fun w' => y_fieldAddr rfl et u82 rfl size_80 rfl) ?_
  refine a_q rfl gn rfl (fun w' => y_fieldAddr rfl et u39 rfl size_23 rfl) ?_
  refine a_read rfl gn rfl (fun w' hw' => (y_loadN (l := (lType e1.Type_)) rfl et u23 rfl size_23 ((hI.kblk (l := (lType e1.Type_)) .z rfl).at_ (SX.any rfl hw')))) (by kernel_rfl) ?_
  refine a_q rfl gn rfl (fun w' => y_fieldAddr rfl et u39 rfl size_23 rfl) ?_
  refine a_read rfl gn rfl (fun w' hw' => (y_loadN (l := (lType e1.Type_)) rfl et u23 rfl size_23 ((hI.kblk (l := (lType e1.Type_)) .z rfl).at_ (SX.any rfl hw')))) (by kernel_rfl) ?_
  refine a_q rfl gn rfl (fun w' => y_fieldAddr rfl et u39 rfl size_36 rfl) ?_
  refine a_read rfl gn rfl (fun w' hw' => (y_loadN (l := (lVal e1.Val)) rfl et u36 rfl size_36 ((hI.kblk (l := (lVal e1.Val)) .z rfl).at_ (SX.any rfl hw')))) (by kernel_rfl) ?_
  obtain ⟨r2, hx3, h⟩ := bnd_some h
  refine la_call rfl gn rfl (r_callF (vs := [(Value.agg (AType e1.Type_))]) rfl ok_10 ⟨et, trivial⟩) (Calls.mono (c_printer_Type (Dj F c5) w4 hI.lt e1.Type_ ⟨(hI.get (.s (.s (.s (.s .z))))), trivial⟩ r2 hx3) ?_)
  rintro _ w5 ⟨rfl, hx4, hl2⟩
  refine ⟨_, rfl, hx4, ?_⟩
  replace hI := (hI.ext hx4)
  obtain ⟨s1, hx5, h⟩ := bnd_some h
  refine a_q rfl gn rfl (fun w' => y_catl rfl et ev_const hx5) ?_
  obtain ⟨r3, hx6, h⟩ := bnd_some h
  refine la_call rfl gn rfl (r_callF (vs := [(Value.agg (AType e1.Type_)), (Value.agg (AVal e1.Val))]) rfl ok_96 ⟨et, ⟨et, trivial⟩⟩) (Calls.mono (c_value_Format (Dj F c5) w5 hI.lt e1.Type_ e1.Val ⟨(hI.get (.s (.s (.s (.s .z))))), trivial⟩ r3 hx6) ?_)
  rintro _ w6 ⟨rfl, hx7, hl3⟩
  refine ⟨_, rfl, hx7, ?_⟩
  replace hI := (hI.ext hx7)
  obtain ⟨s2, hx8, h⟩ := bnd_some h
  refine a_q rfl gn rfl (fun w' => y_catl rfl et et hx8) ?_
  obtain ⟨s3, hx9, h⟩ := bnd_some h
  refine a_q rfl gn rfl (fun w' => y_catl rfl et ev_const hx9) ?_
  refine a_turn (F := F) (C := c5) rfl rfl ?_
  obtain ⟨zs1, hx10, h⟩ := bnd_some h
  obtain ⟨c6, f1, hB, hl4, hk1⟩ := hI.hands (.l .n)
  refine la_callX rfl gn rfl (r_callF (vs := [vp b1 0, (str s3)]) rfl ok_66 ⟨et, ⟨et, trivial⟩⟩) (Calls.mono (c_bldWrite bldT_82 c6 f1 w6 b1 w1 s3 zs1 (hB.subs trivial) hx10) ?_)
  rintro _ w7 ⟨c7, rfl, hB2⟩
  obtain ⟨c8, hs1, hI⟩ := hk1 _ _ _ _ hB2
  replace hI : Bun C0 F w0 c8 w7 [MO.bld 5 82 b1 zs1] [Cl.blk b2 39 #[vi e1.Op, (str e1.Name), vi e1.Val.N, vi e1.Val.D, vi e1.Type_.Kind, vi e1.Type_.Bits, vi e1.Type_.Frac, vi e1.Type_.Round, vi e1.Type_.Over, vi e1.Lin.K, vs a1 e1.Lin.L.length c1, vs a2 e1.Idx.length c2, vs a3 e1.Args.length c3], Cl.sl cGMono a1 c1 e1.Lin.L, Cl.sl cGIndex a2 c2 e1.Idx, Cl.sl cGExpr a3 c3 e1.Args, clPow10, clSpace] := hI
  refine ⟨_, rfl, DM true F c8, hs1, ?_⟩
  refine a_nil ?_
  obtain rfl := some_inj h
  exact q_ret (vs := []) Tryz.results46 trivial ⟨_, rfl, hI.arr (.c .z .n) trivial⟩
 refine sr (sq (y_eql rfl et ev_const) ?_)
 refine sa ?_
 refine nk (cif h et (fun hb h => ?_) (fun hb h => ?_))
 ·refine c_drawX [8] false (.c (0, .q) (.c (1, .q) (.c (2, .q) (.c (3, .q) (.c (4, .q) (.c (5, .s) (.c (6, .q) (.c (7, .q) (.c (8, .s) .n))))))))) hI (by kernel_rfl) (by kernel_rfl) ?_
  clear hI; intro w8 hI
  refine a_q rfl gn rfl (fun w' => y_move rfl et) ?_
  refine a_q rfl gn rfl (fun w' => y_nilCheck rfl et) ?_
  refine a_q rfl gn rfl (fun w' => y_fieldAddr rfl et u82 rfl size_80 rfl) ?_
  refine a_q rfl gn rfl (fun w' => y_fieldAddr rfl et u39 rfl size_29 rfl) ?_
  refine a_read rfl gn rfl (fun w' hw' => (y_loadN (l := (lLin e1.Lin a1 c1)) rfl et u29 rfl size_29 ((hI.kblk (l := (lLin e1.Lin a1 c1)) .z rfl).at_ (SX.any rfl hw')))) (by kernel_rfl) ?_
  obtain ⟨r4, hx11, h⟩ := bnd_some h
  refine la_call rfl gn rfl (r_callF (vs := [(Value.agg (ALin e1.Lin a1 c1))]) rfl ok_36 ⟨et, trivial⟩) (Calls.mono (c_lin_Format (Dj F c5) w8 hI.lt e1.Lin a1 c1 ⟨(hI.get (.s .z)), (hI.get (.s (.s (.s (.s .z))))), trivial⟩ r4 hx11) ?_)
  rintro _ w9 ⟨rfl, hx12, hl5⟩
  refine ⟨_, rfl, hx12, ?_⟩
  replace hI := (hI.ext hx12)
  obtain ⟨s4, hx13, h⟩ := bnd_some h
  refine a_q rfl gn rfl (fun w' => y_catl rfl ev_const et hx13) ?_
  obtain ⟨s5, hx14, h⟩ := bnd_some h
  refine a_q rfl gn rfl (fun w' => y_catl rfl et ev_const hx14) ?_
  refine a_turn (F := F) (C := c5) rfl rfl ?_
  obtain ⟨zs2, hx15, h⟩ := bnd_some h
  obtain ⟨c9, f2, hB, hl6, hk2⟩ := hI.hands (.l .n)
  refine la_callX rfl gn rfl (r_callF (vs := [vp b1 0, (str s5)]) rfl ok_66 ⟨et, ⟨et, trivial⟩⟩) (Calls.mono (c_bldWrite bldT_82 c9 f2 w9 b1 w1 s5 zs2 (hB.subs trivial) hx15) ?_)
  rintro _ w10 ⟨c10, rfl, hB2⟩
  obtain ⟨c11, hs2, hI⟩ := hk2 _ _ _ _ hB2
  replace hI : Bun C0 F w0 c11 w10 [MO.bld 5 82 b1 zs2] [Cl.blk b2 39 #[vi e1.Op, (str e1.Name), vi e1.Val.N, vi e1.Val.D, vi e1.Type_.Kind, vi e1.Type_.Bits, vi e1.Type_.Frac, vi e1.Type_.Round, vi e1.Type_.Over, vi e1.Lin.K, vs a1 e1.Lin.L.length c1, vs a2 e1.Idx.length c2, vs a3 e1.Args.length c3], Cl.sl cGMono a1 c1 e1.Lin.L, Cl.sl cGIndex a2 c2 e1.Idx, Cl.sl cGExpr a3 c3 e1.Args, clPow10, clSpace] := hI
  refine ⟨_, rfl, DM true F c11, hs2, ?_⟩
  refine a_nil ?_
  obtain rfl := some_inj h
  exact q_ret (vs := []) Tryz.results46 trivial ⟨_, rfl, hI.arr (.c .z .n) trivial⟩
 refine sr (sq (y_eql rfl et ev_const) ?_)
 refine sa ?_
 refine nk (cif h et (fun hb h => ?_) (fun hb h => ?_))
 ·refine sr (sq (y_fieldAddr rfl et u39 rfl size_34 rfl) ?_)
  refine sq (y_load1 (v := (vs a2 e1.Idx.length c2)) rfl et u34 rfl (hI.kblk (l := [vs a2 e1.Idx.length c2]) .z rfl).1) ?_
  refine sa ?_
  refine nk (c_drawX [13] false (.c (0, .q) (.c (1, .q) (.c (2, .q) (.c (3, .q) (.c (4, .q) (.c (5, .q) (.c (6, .q) (.c (7, .q) (.c (8, .q) (.c (9, .q) (.c (10, .s) (.c (11, .q) (.c (12, .q) (.c (13, .s) .n)))))))))))))) hI (by kernel_rfl) (by kernel_rfl) ?_)
  clear hI; intro w11 hI
  refine a_q rfl gn rfl (fun w' => y_move rfl et) ?_
  refine a_q rfl gn rfl (fun w' => y_nilCheck rfl et) ?_
  refine a_q rfl gn rfl (fun w' => y_fieldAddr rfl et u82 rfl size_80 rfl) ?_
  refine a_q rfl gn rfl (fun w' => y_fieldAddr rfl et u39 rfl size_9 rfl) ?_
  refine a_read rfl gn rfl (fun w' hw' => (y_load1 (v := (str e1.Name)) rfl et u9 rfl ((hI.kblk (l := [(str e1.Name)]) .z rfl).at_ (SX.any rfl hw')))) (by kernel_rfl) ?_
  obtain ⟨s6, hx16, h⟩ := bnd_some h
  refine a_q rfl gn rfl (fun w' => y_catl rfl et ev_const hx16) ?_
  refine a_q rfl gn rfl (fun w' => y_move rfl et) ?_
  refine a_q rfl gn rfl (fun w' => y_lenl rfl u126 et) ?_
  refine a_q rfl gn rfl (fun w' => y_move rfl et) ?_
  refine a_q rfl gn rfl (fun w' => y_makeBound (vs := [vs a2 e1.Idx.length c2]) rfl rfl ⟨et, trivial⟩) ?_
  have hI := hI.add (c := clFn_k5 (Value.func (.func 97) #[vs a2 e1.Idx.length c2] #[]) (m_printer_indices_item e1.Idx)) ⟨rfl, fun D' w' hs hl x_1 r k h => CallV.fnB (fs := [vs a2 e1.Idx.length c2]) ok_97 (c_printer_indices_item D' w' hl e1.Idx x_1 a2 c2 ⟨(Cl.sp _ hs (hI.get (.s (.s .z)))), (Cl.sp _ hs (hI.get (.s (.s (.s (.s .z)))))), (Cl.sp _ hs (hI.get (.s (.s (.s (.s (.s .z))))))), trivial⟩ r h)⟩
  obtain ⟨r5, hx17, h⟩ := bnd_some h
  refine la_call rfl gn rfl (r_callF (vs := [vi (e1.Idx.length : Int), (Value.func (.func 97) #[vs a2 e1.Idx.length c2] #[])]) rfl ok_38 ⟨et, ⟨et, trivial⟩⟩) (Calls.mono (c_printer_list (Dj F c5) w11 hI.lt (e1.Idx.length : Int) (m_printer_indices_item e1.Idx) (Value.func (.func 97) #[vs a2 e1.Idx.length c2] #[]) ⟨(hI.get .z), trivial⟩ r5 hx17) ?_)
  rintro _ w12 ⟨rfl, hx18, hl7⟩
  refine ⟨_, rfl, hx18, ?_⟩
  replace hI := (hI.ext hx18)
  obtain ⟨s7, hx19, h⟩ := bnd_some h
  refine a_q rfl gn rfl (fun w' => y_catl rfl et et hx19) ?_
  obtain ⟨s8, hx20, h⟩ := bnd_some h
  refine a_q rfl gn rfl (fun w' => y_catl rfl et ev_const hx20) ?_
  refine a_turn (F := F) (C := c5) rfl rfl ?_
  obtain ⟨zs3, hx21, h⟩ := bnd_some h
  obtain ⟨c12, f3, hB, hl8, hk3⟩ := hI.hands (.l .n)
  refine la_callX rfl gn rfl (r_callF (vs := [vp b1 0, (str s8)]) rfl ok_66 ⟨et, ⟨et, trivial⟩⟩) (Calls.mono (c_bldWrite bldT_82 c12 f3 w12 b1 w1 s8 zs3 (hB.subs trivial) hx21) ?_)
  rintro _ w13 ⟨c13, rfl, hB2⟩
  obtain ⟨c14, hs3, hI⟩ := hk3 _ _ _ _ hB2
  replace hI : Bun C0 F w0 c14 w13 [MO.bld 5 82 b1 zs3] [clFn_k5 (Value.func (.func 97) #[vs a2 e1.Idx.length c2] #[]) (m_printer_indices_item e1.Idx), Cl.blk b2 39 #[vi e1.Op, (str e1.Name), vi e1.Val.N, vi e1.Val.D, vi e1.Type_.Kind, vi e1.Type_.Bits, vi e1.Type_.Frac, vi e1.Type_.Round, vi e1.Type_.Over, vi e1.Lin.K, vs a1 e1.Lin.L.length c1, vs a2 e1.Idx.length c2, vs a3 e1.Args.length c3], Cl.sl cGMono a1 c1 e1.Lin.L, Cl.sl cGIndex a2 c2 e1.Idx, Cl.sl cGExpr a3 c3 e1.Args, clPow10, clSpace] := hI
  refine ⟨_, rfl, DM true F c14, hs3, ?_⟩
  refine a_nil ?_
  obtain rfl := some_inj h
  exact q_ret (vs := []) Tryz.results46 trivial ⟨_, rfl, hI.arr (.c .z .n) trivial⟩
 refine sr (sq (y_eql rfl et ev_const) ?_)
 refine sa ?_
 refine nk (cif h et (fun hb h => ?_) (fun hb h => ?_))
 ·refine sr (sm ?_)
  refine sq (y_nilCheck rfl et) ?_
  refine sq (y_fieldAddr rfl et u82 rfl size_80 rfl) ?_
  obtain ⟨zs4, hx22, h⟩ := bnd_some h
  obtain ⟨c15, f4, hB, hl9, hk4⟩ := hI.hands (.l .n)
  refine s_call gn rfl (r_callF (vs := [vp b1 0, (str ([45] : List UInt8))]) rfl ok_66 ⟨et, ⟨ev_const, trivial⟩⟩) (Calls.mono (c_bldWrite bldT_82 c15 f4 w3 b1 w1 ([45] : List UInt8) zs4 (hB.subs trivial) hx22) ?_)
  rintro _ w14 ⟨c16, rfl, hB2⟩
  obtain ⟨c17, hs4, hI⟩ := hk4 _ _ _ _ hB2
  replace hI : Bun C0 F w0 c17 w14 [MO.bld 5 82 b1 zs4] [Cl.blk b2 39 #[vi e1.Op, (str e1.Name), vi e1.Val.N, vi e1.Val.D, vi e1.Type_.Kind, vi e1.Type_.Bits, vi e1.Type_.Frac, vi e1.Type_.Round, vi e1.Type_.Over, vi e1.Lin.K, vs a1 e1.Lin.L.length c1, vs a2 e1.Idx.length c2, vs a3 e1.Args.length c3], Cl.sl cGMono a1 c1 e1.Lin.L, Cl.sl cGIndex a2 c2 e1.Idx, Cl.sl cGExpr a3 c3 e1.Args, clPow10, clSpace] := hI
  refine ⟨_, rfl, ?_⟩
  refine nk (c_region rfl ?_)
  refine sm ?_
  refine sq (y_fieldAddr rfl et u39 rfl size_37 rfl) ?_
  refine sq (y_load1 (v := (vs a3 e1.Args.length c3)) rfl et u37 rfl (hI.kblk (l := [vs a3 e1.Args.length c3]) .z rfl).1) ?_
  obtain ⟨e2, hx23, h⟩ := bnd_some h
  obtain ⟨ad1, cs1, hA1, hr1, hq1⟩ := hI.clat (.s (.s (.s .z))) hx23
  obtain ⟨a4, c18, a5, c19, a6, c20, rfl, hf1, hf2, hf3⟩ := cGExpr_out hr1
  have hI := hI.add (c := Cl.sl cGMono a4 c18 e2.Lin.L) hf1
  have hI := hI.add (c := Cl.sl cGIndex a5 c19 e2.Idx) hf2
  have hI := hI.add (c := Cl.sl cGExpr a6 c20 e2.Args) hf3
  refine sq (y_indexAddr rfl u37 size_39 et ev_const (lat_bd hx23) hA1) ?_
  refine sq (y_loadN (l := [vi e2.Op, (str e2.Name), vi e2.Val.N, vi e2.Val.D, vi e2.Type_.Kind, vi e2.Type_.Bits, vi e2.Type_.Frac, vi e2.Type_.Round, vi e2.Type_.Over, vi e2.Lin.K, vs a4 e2.Lin.L.length c18, vs a5 e2.Idx.length c19, vs a6 e2.Args.length c20]) rfl et u39 rfl size_39 hq1.1) ?_
  refine sm ?_
  obtain ⟨c21, f5, hB, hl10, hk5⟩ := hI.hands (.l .n)
  obtain ⟨⟨r6, s9⟩, hx24, h⟩ := bnd_some h
  try dsimp only at h
  refine s_call gn rfl (r_callF (vs := [vp b1 0, (Value.agg #[vi e2.Op, (str e2.Name), vi e2.Val.N, vi e2.Val.D, vi e2.Type_.Kind, vi e2.Type_.Bits, vi e2.Type_.Frac, vi e2.Type_.Round, vi e2.Type_.Over, vi e2.Lin.K, vs a4 e2.Lin.L.length c18, vs a5 e2.Idx.length c19, vs a6 e2.Args.length c20]), vi r1]) rfl ok_98 ⟨et, ⟨et, ⟨et, trivial⟩⟩⟩) (Calls.mono (c_printer_writer_operand_w rec_ hrec c21 f5 w14 zs4 e2 r1 b1 a4 c18 a5 c19 a6 c20 (hB.subs ⟨(.s (.s .z)), (.s .z), .z, (.s (.s (.s (.s (.s (.s (.s .z))))))), (.s (.s (.s (.s (.s (.s (.s (.s .z)))))))), trivial⟩) _ hx24) ?_)
  rintro _ w15 ⟨c22, rfl, hB2⟩
  obtain ⟨c23, hs5, hI⟩ := hk5 _ _ _ _ hB2
  replace hI : Bun C0 F w0 c23 w15 [MO.bld 5 82 b1 s9] [Cl.sl cGExpr a6 c20 e2.Args, Cl.sl cGIndex a5 c19 e2.Idx, Cl.sl cGMono a4 c18 e2.Lin.L, Cl.blk b2 39 #[vi e1.Op, (str e1.Name), vi e1.Val.N, vi e1.Val.D, vi e1.Type_.Kind, vi e1.Type_.Bits, vi e1.Type_.Frac, vi e1.Type_.Round, vi e1.Type_.Over, vi e1.Lin.K, vs a1 e1.Lin.L.length c1, vs a2 e1.Idx.length c2, vs a3 e1.Args.length c3], Cl.sl cGMono a1 c1 e1.Lin.L, Cl.sl cGIndex a2 c2 e1.Idx, Cl.sl cGExpr a3 c3 e1.Args, clPow10, clSpace] := hI
  refine ⟨_, rfl, ?_⟩
  refine s_nil ?_
  obtain rfl := some_inj h
  exact q_ret (vs := []) Tryz.results46 trivial ⟨_, rfl, hI.arr (.c .z .n) trivial⟩
 refine sr (sq (y_eql rfl et ev_const) ?_)
 refine sa ?_
 refine nk (cif h et (fun hb h => ?_) (fun hb h => ?_))
 ·refine sr (sm ?_)
  refine sq (y_nilCheck rfl et) ?_
  refine sq (y_fieldAddr rfl et u82 rfl size_80 rfl) ?_
  obtain ⟨zs5, hx25, h⟩ := bnd_some h
  obtain ⟨c24, f6, hB, hl11, hk6⟩ := hI.hands (.l .n)
  refine s_call gn rfl (r_callF (vs := [vp b1 0, (str ([33] : List UInt8))]) rfl ok_66 ⟨et, ⟨ev_const, trivial⟩⟩) (Calls.mono (c_bldWrite bldT_82 c24 f6 w3 b1 w1 ([33] : List UInt8) zs5 (hB.subs trivial) hx25) ?_)
  rintro _ w16 ⟨c25, rfl, hB2⟩
  obtain ⟨c26, hs6, hI⟩ := hk6 _ _ _ _ hB2
  replace hI : Bun C0 F w0 c26 w16 [MO.bld 5 82 b1 zs5] [Cl.blk b2 39 #[vi e1.Op, (str e1.Name), vi e1.Val.N, vi e1.Val.D, vi e1.Type_.Kind, vi e1.Type_.Bits, vi e1.Type_.Frac, vi e1.Type_.Round, vi e1.Type_.Over, vi e1.Lin.K, vs a1 e1.Lin.L.length c1, vs a2 e1.Idx.length c2, vs a3 e1.Args.length c3], Cl.sl cGMono a1 c1 e1.Lin.L, Cl.sl cGIndex a2 c2 e1.Idx, Cl.sl cGExpr a3 c3 e1.Args, clPow10, clSpace] := hI
  refine ⟨_, rfl, ?_⟩
  refine nk (c_region rfl ?_)
  refine sm ?_
  refine sq (y_fieldAddr rfl et u39 rfl size_37 rfl) ?_
  refine sq (y_load1 (v := (vs a3 e1.Args.length c3)) rfl et u37 rfl (hI.kblk (l := [vs a3 e1.Args.length c3]) .z rfl).1) ?_
  obtain ⟨e3, hx26, h⟩ := bnd_some h
  obtain ⟨ad2, cs2, hA2, hr2, hq2⟩ := hI.clat (.s (.s (.s .z))) hx26
  obtain ⟨a7, c27, a8, c28, a9, c29, rfl, hf4, hf5, hf6⟩ := cGExpr_out hr2
  have hI := hI.add (c := Cl.sl cGMono a7 c27 e3.Lin.L) hf4
  have hI := hI.add (c := Cl.sl cGIndex a8 c28 e3.Idx) hf5
  have hI := hI.add (c := Cl.sl cGExpr a9 c29 e3.Args) hf6
  refine sq (y_indexAddr rfl u37 size_39 et ev_const (lat_bd hx26) hA2) ?_
  refine sq (y_loadN (l := [vi e3.Op, (str e3.Name), vi e3.Val.N, vi e3.Val.D, vi e3.Type_.Kind, vi e3.Type_.Bits, vi e3.Type_.Frac, vi e3.Type_.Round, vi e3.Type_.Over, vi e3.Lin.K, vs a7 e3.Lin.L.length c27, vs a8 e3.Idx.length c28, vs a9 e3.Args.length c29]) rfl et u39 rfl size_39 hq2.1) ?_
  refine sm ?_
  obtain ⟨c30, f7, hB, hl12, hk7⟩ := hI.hands (.l .n)
  obtain ⟨⟨r7, s10⟩, hx27, h⟩ := bnd_some h
  try dsimp only at h
  refine s_call gn rfl (r_callF (vs := [vp b1 0, (Value.agg #[vi e3.Op, (str e3.Name), vi e3.Val.N, vi e3.Val.D, vi e3.Type_.Kind, vi e3.Type_.Bits, vi e3.Type_.Frac, vi e3.Type_.Round, vi e3.Type_.Over, vi e3.Lin.K, vs a7 e3.Lin.L.length c27, vs a8 e3.Idx.length c28, vs a9 e3.Args.length c29]), vi r1]) rfl ok_98 ⟨et, ⟨et, ⟨et, trivial⟩⟩⟩) (Calls.mono (c_printer_writer_operand_w rec_ hrec c30 f7 w16 zs5 e3 r1 b1 a7 c27 a8 c28 a9 c29 (hB.subs ⟨(.s (.s .z)), (.s .z), .z, (.s (.s (.s (.s (.s (.s (.s .z))))))), (.s (.s (.s (.s (.s (.s (.s (.s .z)))))))), trivial⟩) _ hx27) ?_)
  rintro _ w17 ⟨c31, rfl, hB2⟩
  obtain ⟨c32, hs7, hI⟩ := hk7 _ _ _ _ hB2
  replace hI : Bun C0 F w0 c32 w17 [MO.bld 5 82 b1 s10] [Cl.sl cGExpr a9 c29 e3.Args, Cl.sl cGIndex a8 c28 e3.Idx, Cl.sl cGMono a7 c27 e3.Lin.L, Cl.blk b2 39 #[vi e1.Op, (str e1.Name), vi e1.Val.N, vi e1.Val.D, vi e1.Type_.Kind, vi e1.Type_.Bits, vi e1.Type_.Frac, vi e1.Type_.Round, vi e1.Type_.Over, vi e1.Lin.K, vs a1 e1.Lin.L.length c1, vs a2 e1.Idx.length c2, vs a3 e1.Args.length c3], Cl.sl cGMono a1 c1 e1.Lin.L, Cl.sl cGIndex a2 c2 e1.Idx, Cl.sl cGExpr a3 c3 e1.Args, clPow10, clSpace] := hI
  refine ⟨_, rfl, ?_⟩
  refine s_nil ?_
  obtain rfl := some_inj h
  exact q_ret (vs := []) Tryz.results46 trivial ⟨_, rfl, hI.arr (.c .z .n) trivial⟩
 refine sr (sq (y_eql rfl et ev_const) ?_)
 refine sa ?_
 refine nk (cif h et (fun hb h => ?_) (fun hb h => ?_))
 ·refine c_region rfl ?_
  refine sm ?_
  refine sq (y_fieldAddr rfl et u39 rfl size_37 rfl) ?_
  refine sq (y_load1 (v := (vs a3 e1.Args.length c3)) rfl et u37 rfl (hI.kblk (l := [vs a3 e1.Args.length c3]) .z rfl).1) ?_
  obtain ⟨c33, f8, hB, hl13, hk8⟩ := hI.hands (.l .n)
  obtain ⟨⟨r8, s11⟩, hx28, h⟩ := bnd_some h
  try dsimp only at h
  refine s_call gn rfl (r_callF (vs := [vp b1 0, (str ([109, 105, 110] : List UInt8)), (str ([] : List UInt8)), vs a3 e1.Args.length c3]) rfl ok_99 ⟨et, ⟨ev_const, ⟨ev_const, ⟨et, trivial⟩⟩⟩⟩) (Calls.mono (c_printer_writer_call_w rec_ hrec c33 f8 w3 w1 ([109, 105, 110] : List UInt8) ([] : List UInt8) e1.Args b1 a3 c3 (hB.subs ⟨(.s (.s (.s .z))), (.s (.s (.s (.s .z)))), (.s (.s (.s (.s (.s .z))))), trivial⟩) _ hx28) ?_)
  rintro _ w18 ⟨c34, rfl, hB2⟩
  obtain ⟨c35, hs8, hI⟩ := hk8 _ _ _ _ hB2
  replace hI : Bun C0 F w0 c35 w18 [MO.bld 5 82 b1 s11] [Cl.blk b2 39 #[vi e1.Op, (str e1.Name), vi e1.Val.N, vi e1.Val.D, vi e1.Type_.Kind, vi e1.Type_.Bits, vi e1.Type_.Frac, vi e1.Type_.Round, vi e1.Type_.Over, vi e1.Lin.K, vs a1 e1.Lin.L.length c1, vs a2 e1.Idx.length c2, vs a3 e1.Args.length c3], Cl.sl cGMono a1 c1 e1.Lin.L, Cl.sl cGIndex a2 c2 e1.Idx, Cl.sl cGExpr a3 c3 e1.Args, clPow10, clSpace] := hI
  refine ⟨_, rfl, ?_⟩
  refine s_nil ?_
  obtain rfl := some_inj h
  exact q_ret (vs := []) Tryz.results46 trivial ⟨_, rfl, hI.arr (.c .z .n) trivial⟩
 refine sr (sq (y_eql rfl et ev_const) ?_)
 refine sa ?_
 refine nk (cif h et (fun hb h => ?_) (fun hb h => ?_))
 ·refine c_region rfl ?_
  refine sm ?_
  refine sq (y_fieldAddr rfl et u39 rfl size_37 rfl) ?_
  refine sq (y_load1 (v := (vs a3 e1.Args.length c3)) rfl et u37 rfl (hI.kblk (l := [vs a3 e1.Args.length c3]) .z rfl).1) ?_
  obtain ⟨c36, f9, hB, hl14, hk9⟩ := hI.hands (.l .n)
  obtain ⟨⟨r9, s12⟩, hx29, h⟩ := bnd_some h
  try dsimp only at h
  refine s_call gn rfl (r_callF (vs := [vp b1 0, (str ([109, 97, 120] : List UInt8)), (str ([] : List UInt8)), vs a3 e1.Args.length c3]) rfl ok_99 ⟨et, ⟨ev_const, ⟨ev_const, ⟨et, trivial⟩⟩⟩⟩) (Calls.mono (c_printer_writer_call_w rec_ hrec c36 f9 w3 w1 ([109, 97, 120] : List UInt8) ([] : List UInt8) e1.Args b1 a3 c3 (hB.subs ⟨(.s (.s (.s .z))), (.s (.s (.s (.s .z)))), (.s (.s (.s (.s (.s .z))))), trivial⟩) _ hx29) ?_)
  rintro _ w19 ⟨c37, rfl, hB2⟩
  obtain ⟨c38, hs9, hI⟩ := hk9 _ _ _ _ hB2
  replace hI : Bun C0 F w0 c38 w19 [MO.bld 5 82 b1 s12] [Cl.blk b2 39 #[vi e1.Op, (str e1.Name), vi e1.Val.N, vi e1.Val.D, vi e1.Type_.Kind, vi e1.Type_.Bits, vi e1.Type_.Frac, vi e1.Type_.Round, vi e1.Type_.Over, vi e1.Lin.K, vs a1 e1.Lin.L.length c1, vs a2 e1.Idx.length c2, vs a3 e1.Args.length c3], Cl.sl cGMono a1 c1 e1.Lin.L, Cl.sl cGIndex a2 c2 e1.Idx, Cl.sl cGExpr a3 c3 e1.Args, clPow10, clSpace] := hI
  refine ⟨_, rfl, ?_⟩
  refine s_nil ?_
  obtain rfl := some_inj h
  exact q_ret (vs := []) Tryz.results46 trivial ⟨_, rfl, hI.arr (.c .z .n) trivial⟩
 refine sr (sq (y_eql rfl et ev_const) ?_)
 refine sa ?_
 refine nk (cif h et (fun hb h => ?_) (fun hb h => ?_))
 ·refine c_region rfl ?_
  refine sm ?_
  refine sq (y_fieldAddr rfl et u39 rfl size_37 rfl) ?_
  refine sq (y_load1 (v := (vs a3 e1.Args.length c3)) rfl et u37 rfl (hI.kblk (l := [vs a3 e1.Args.length c3]) .z rfl).1) ?_
  obtain ⟨c39, f10, hB, hl15, hk10⟩ := hI.hands (.l .n)
  obtain ⟨⟨r10, s13⟩, hx30, h⟩ := bnd_some h
  try dsimp only at h
  refine s_call gn rfl (r_callF (vs := [vp b1 0, (str ([105, 102] : List UInt8)), (str ([] : List UInt8)), vs a3 e1.Args.length c3]) rfl ok_99 ⟨et, ⟨ev_const, ⟨ev_const, ⟨et, trivial⟩⟩⟩⟩) (Calls.mono (c_printer_writer_call_w rec_ hrec c39 f10 w3 w1 ([105, 102] : List UInt8) ([] : List UInt8) e1.Args b1 a3 c3 (hB.subs ⟨(.s (.s (.s .z))), (.s (.s (.s (.s .z)))), (.s (.s (.s (.s (.s .z))))), trivial⟩) _ hx30) ?_)
  rintro _ w20 ⟨c40, rfl, hB2⟩
  obtain ⟨c41, hs10, hI⟩ := hk10 _ _ _ _ hB2
  replace hI : Bun C0 F w0 c41 w20 [MO.bld 5 82 b1 s13] [Cl.blk b2 39 #[vi e1.Op, (str e1.Name), vi e1.Val.N, vi e1.Val.D, vi e1.Type_.Kind, vi e1.Type_.Bits, vi e1.Type_.Frac, vi e1.Type_.Round, vi e1.Type_.Over, vi e1.Lin.K, vs a1 e1.Lin.L.length c1, vs a2 e1.Idx.length c2, vs a3 e1.Args.length c3], Cl.sl cGMono a1 c1 e1.Lin.L, Cl.sl cGIndex a2 c2 e1.Idx, Cl.sl cGExpr a3 c3 e1.Args, clPow10, clSpace] := hI
  refine ⟨_, rfl, ?_⟩
  refine s_nil ?_
  obtain rfl := some_inj h
  exact q_ret (vs := []) Tryz.results46 trivial ⟨_, rfl, hI.arr (.c .z .n) trivial⟩
 refine sr (sq (y_eql rfl et ev_const) ?_)
 refine sa ?_
 refine nk (cif h et (fun hb h => ?_) (fun hb h => ?_))
 ·refine c_drawX [6] false (.c (0, .q) (.c (1, .q) (.c (2, .q) (.c (4, .q) (.c (5, .q) (.c (3, .s) (.c (6, .s) .n))))))) hI (by kernel_rfl) (by kernel_rfl) ?_
  clear hI; intro w21 hI
  refine a_q rfl gn rfl (fun w' => y_move rfl et) ?_
  refine a_q rfl gn rfl (fun w' => y_fieldAddr rfl et u39 rfl size_23 rfl) ?_
  refine a_read rfl gn rfl (fun w' hw' => (y_loadN (l := (lType e1.Type_)) rfl et u23 rfl size_23 ((hI.kblk (l := (lType e1.Type_)) .z rfl).at_ (SX.any rfl hw')))) (by kernel_rfl) ?_
  refine a_q rfl gn rfl (fun w' => y_fieldAddr rfl et u39 rfl size_37 rfl) ?_
  refine a_read rfl gn rfl (fun w' hw' => (y_load1 (v := (vs a3 e1.Args.length c3)) rfl et u37 rfl ((hI.kblk (l := [vs a3 e1.Args.length c3]) .z rfl).at_ (SX.any rfl hw')))) (by kernel_rfl) ?_
  obtain ⟨r11, hx31, h⟩ := bnd_some h
  refine la_call rfl gn rfl (r_callF (vs := [(Value.agg (AType e1.Type_))]) rfl ok_10 ⟨et, trivial⟩) (Calls.mono (c_printer_Type (Dj F c5) w21 hI.lt e1.Type_ ⟨(hI.get (.s (.s (.s (.s .z))))), trivial⟩ r11 hx31) ?_)
  rintro _ w22 ⟨rfl, hx32, hl16⟩
  refine ⟨_, rfl, hx32, ?_⟩
  replace hI := (hI.ext hx32)
  refine a_turn (F := F) (C := c5) rfl rfl ?_
  obtain ⟨c42, f11, hB, hl17, hk11⟩ := hI.hands (.l .n)
  obtain ⟨⟨r12, s14⟩, hx33, h⟩ := bnd_some h
  try dsimp only at h
  refine la_callX rfl gn rfl (r_callF (vs := [vp b1 0, (str ([99, 97, 115, 116] : List UInt8)), (str r11), vs a3 e1.Args.length c3]) rfl ok_99 ⟨et, ⟨ev_const, ⟨et, ⟨et, trivial⟩⟩⟩⟩) (Calls.mono (c_printer_writer_call_w rec_ hrec c42 f11 w22 w1 ([99, 97, 115, 116] : List UInt8) r11 e1.Args b1 a3 c3 (hB.subs ⟨(.s (.s (.s .z))), (.s (.s (.s (.s .z)))), (.s (.s (.s (.s (.s .z))))), trivial⟩) _ hx33) ?_)
  rintro _ w23 ⟨c43, rfl, hB2⟩
  obtain ⟨c44, hs11, hI⟩ := hk11 _ _ _ _ hB2
  replace hI : Bun C0 F w0 c44 w23 [MO.bld 5 82 b1 s14] [Cl.blk b2 39 #[vi e1.Op, (str e1.Name), vi e1.Val.N, vi e1.Val.D, vi e1.Type_.Kind, vi e1.Type_.Bits, vi e1.Type_.Frac, vi e1.Type_.Round, vi e1.Type_.Over, vi e1.Lin.K, vs a1 e1.Lin.L.length c1, vs a2 e1.Idx.length c2, vs a3 e1.Args.length c3], Cl.sl cGMono a1 c1 e1.Lin.L, Cl.sl cGIndex a2 c2 e1.Idx, Cl.sl cGExpr a3 c3 e1.Args, clPow10, clSpace] := hI
  refine ⟨_, rfl, DM true F c44, hs11, ?_⟩
  refine a_nil ?_
  obtain rfl := some_inj h
  exact q_ret (vs := []) Tryz.results46 trivial ⟨_, rfl, hI.arr (.c .z .n) trivial⟩
 refine sr (sm ?_)
 refine sq (y_fieldAddr rfl et u39 rfl size_37 rfl) ?_
 refine sq (y_load1 (v := (vs a3 e1.Args.length c3)) rfl et u37 rfl (hI.kblk (l := [vs a3 e1.Args.length c3]) .z rfl).1) ?_
 obtain ⟨e4, hx34, h⟩ := bnd_some h
 obtain ⟨ad3, cs3, hA3, hr3, hq3⟩ := hI.clat (.s (.s (.s .z))) hx34
 obtain ⟨a10, c45, a11, c46, a12, c47, rfl, hf7, hf8, hf9⟩ := cGExpr_out hr3
 have hI := hI.add (c := Cl.sl cGMono a10 c45 e4.Lin.L) hf7
 have hI := hI.add (c := Cl.sl cGIndex a11 c46 e4.Idx) hf8
 have hI := hI.add (c := Cl.sl cGExpr a12 c47 e4.Args) hf9
 refine sq (y_indexAddr rfl u37 size_39 et ev_const (lat_bd hx34) hA3) ?_
 refine sq (y_loadN (l := [vi e4.Op, (str e4.Name), vi e4.Val.N, vi e4.Val.D, vi e4.Type_.Kind, vi e4.Type_.Bits, vi e4.Type_.Frac, vi e4.Type_.Round, vi e4.Type_.Over, vi e4.Lin.K, vs a10 e4.Lin.L.length c45, vs a11 e4.Idx.length c46, vs a12 e4.Args.length c47]) rfl et u39 rfl size_39 hq3.1) ?_
 refine sm ?_
 obtain ⟨c48, f12, hB, hl18, hk12⟩ := hI.hands (.l .n)
 obtain ⟨⟨r13, s15⟩, hx35, h⟩ := bnd_some h
 try dsimp only at h
 refine s_call gn rfl (r_callF (vs := [vp b1 0, (Value.agg #[vi e4.Op, (str e4.Name), vi e4.Val.N, vi e4.Val.D, vi e4.Type_.Kind, vi e4.Type_.Bits, vi e4.Type_.Frac, vi e4.Type_.Round, vi e4.Type_.Over, vi e4.Lin.K, vs a10 e4.Lin.L.length c45, vs a11 e4.Idx.length c46, vs a12 e4.Args.length c47]), vi r1]) rfl ok_98 ⟨et, ⟨et, ⟨et, trivial⟩⟩⟩) (Calls.mono (c_printer_writer_operand_w rec_ hrec c48 f12 w3 w1 e4 r1 b1 a10 c45 a11 c46 a12 c47 (hB.subs ⟨(.s (.s .z)), (.s .z), .z, (.s (.s (.s (.s (.s (.s (.s .z))))))), (.s (.s (.s (.s (.s (.s (.s (.s .z)))))))), trivial⟩) _ hx35) ?_)
 rintro _ w24 ⟨c49, rfl, hB2⟩
 obtain ⟨c50, hs12, hI⟩ := hk12 _ _ _ _ hB2
 replace hI : Bun C0 F w0 c50 w24 [MO.bld 5 82 b1 s15] [Cl.sl cGExpr a12 c47 e4.Args, Cl.sl cGIndex a11 c46 e4.Idx, Cl.sl cGMono a10 c45 e4.Lin.L, Cl.blk b2 39 #[vi e1.Op, (str e1.Name), vi e1.Val.N, vi e1.Val.D, vi e1.Type_.Kind, vi e1.Type_.Bits, vi e1.Type_.Frac, vi e1.Type_.Round, vi e1.Type_.Over, vi e1.Lin.K, vs a1 e1.Lin.L.length c1, vs a2 e1.Idx.length c2, vs a3 e1.Args.length c3], Cl.sl cGMono a1 c1 e1.Lin.L, Cl.sl cGIndex a2 c2 e1.Idx, Cl.sl cGExpr a3 c3 e1.Args, clPow10, clSpace] := hI
 refine ⟨_, rfl, ?_⟩
 refine s_nil ?_
 refine k_next (e := [(0, vp b1 0), (3, vp b2 0), (4, vi r1)]) ⟨rfl, rfl, rfl, trivial⟩ ?_
 refine c_seq (c_drawX [8] false (.c (0, .q) (.c (1, .q) (.c (2, .q) (.c (3, .q) (.c (4, .q) (.c (5, .s) (.c (6, .q) (.c (7, .q) (.c (8, .s) .n))))))))) hI (by kernel_rfl) (by kernel_rfl) ?_)
 clear hI; intro w25 hI
 refine a_q rfl gn rfl (fun w' => y_move rfl et) ?_
 refine a_q rfl gn rfl (fun w' => y_nilCheck rfl et) ?_
 refine a_q rfl gn rfl (fun w' => y_fieldAddr rfl et u82 rfl size_80 rfl) ?_
 refine a_q rfl gn rfl (fun w' => y_fieldAddr rfl et u39 rfl size_3 rfl) ?_
 refine a_read rfl gn rfl (fun w' hw' => (y_load1 (v := (vi e1.Op)) rfl et u3 rfl ((hI.kblk (l := [vi e1.Op]) (.s (.s (.s .z))) rfl).at_ (SX.any rfl hw')))) (by kernel_rfl) ?_
 obtain ⟨r14, hx36, h⟩ := bnd_some h
 refine la_call rfl gn rfl (r_callF (vs := [vi e1.Op]) rfl ok_100 ⟨et, trivial⟩) (Calls.mono (c_printer_symbol (Dj F c50) w25 hI.lt e1.Op trivial r14 hx36) ?_)
 rintro _ w26 ⟨rfl, hx37, hl19⟩
 refine ⟨_, rfl, hx37, ?_⟩
 replace hI := (hI.ext hx37)
 obtain ⟨s16, hx38, h⟩ := bnd_some h
 refine a_q rfl gn rfl (fun w' => y_catl rfl ev_const et hx38) ?_
 obtain ⟨s17, hx39, h⟩ := bnd_some h
 refine a_q rfl gn rfl (fun w' => y_catl rfl et ev_const hx39) ?_
 refine a_turn (F := F) (C := c50) rfl rfl ?_
 obtain ⟨zs6, hx40, h⟩ := bnd_some h
 obtain ⟨c51, f13, hB, hl20, hk13⟩ := hI.hands (.l .n)
 refine la_callX rfl gn rfl (r_callF (vs := [vp b1 0, (str s17)]) rfl ok_66 ⟨et, ⟨et, trivial⟩⟩) (Calls.mono (c_bldWrite bldT_82 c51 f13 w26 b1 s15 s17 zs6 (hB.subs trivial) hx40) ?_)
 rintro _ w27 ⟨c52, rfl, hB2⟩
 obtain ⟨c53, hs13, hI⟩ := hk13 _ _ _ _ hB2
 replace hI : Bun C0 F w0 c53 w27 [MO.bld 5 82 b1 zs6] [Cl.sl cGExpr a12 c47 e4.Args, Cl.sl cGIndex a11 c46 e4.Idx, Cl.sl cGMono a10 c45 e4.Lin.L, Cl.blk b2 39 #[vi e1.Op, (str e1.Name), vi e1.Val.N, vi e1.Val.D, vi e1.Type_.Kind, vi e1.Type_.Bits, vi e1.Type_.Frac, vi e1.Type_.Round, vi e1.Type_.Over, vi e1.Lin.K, vs a1 e1.Lin.L.length c1, vs a2 e1.Idx.length c2, vs a3 e1.Args.length c3], Cl.sl cGMono a1 c1 e1.Lin.L, Cl.sl cGIndex a2 c2 e1.Idx, Cl.sl cGExpr a3 c3 e1.Args, clPow10, clSpace] := hI
 refine ⟨_, rfl, DM true F c53, hs13, ?_⟩
 refine a_nil ?_
 refine k_same (c_region rfl ?_)
 refine sm ?_
 refine sq (y_fieldAddr rfl et u39 rfl size_37 rfl) ?_
 refine sq (y_load1 (v := (vs a3 e1.Args.length c3)) rfl et u37 rfl (hI.kblk (l := [vs a3 e1.Args.length c3]) (.s (.s (.s .z))) rfl).1) ?_
 obtain ⟨e5, hx41, h⟩ := bnd_some h
 obtain ⟨ad4, cs4, hA4, hr4, hq4⟩ := hI.clat (.s (.s (.s (.s (.s (.s .z)))))) hx41
 obtain ⟨a13, c54, a14, c55, a15, c56, rfl, hf10, hf11, hf12⟩ := cGExpr_out hr4
 have hI := hI.add (c := Cl.sl cGMono a13 c54 e5.Lin.L) hf10
 have hI := hI.add (c := Cl.sl cGIndex a14 c55 e5.Idx) hf11
 have hI := hI.add (c := Cl.sl cGExpr a15 c56 e5.Args) hf12
 refine sq (y_indexAddr rfl u37 size_39 et ev_const (lat_bd hx41) hA4) ?_
 refine sq (y_loadN (l := [vi e5.Op, (str e5.Name), vi e5.Val.N, vi e5.Val.D, vi e5.Type_.Kind, vi e5.Type_.Bits, vi e5.Type_.Frac, vi e5.Type_.Round, vi e5.Type_.Over, vi e5.Lin.K, vs a13 e5.Lin.L.length c54, vs a14 e5.Idx.length c55, vs a15 e5.Args.length c56]) rfl et u39 rfl size_39 hq4.1) ?_
 refine sm ?_
 refine sq (y_add rfl et ev_const) ?_
 obtain ⟨c57, f14, hB, hl21, hk14⟩ := hI.hands (.l .n)
 obtain ⟨⟨r15, s18⟩, hx42, h⟩ := bnd_some h
 try dsimp only at h
 refine s_call gn rfl (r_callF (vs := [vp b1 0, (Value.agg #[vi e5.Op, (str e5.Name), vi e5.Val.N, vi e5.Val.D, vi e5.Type_.Kind, vi e5.Type_.Bits, vi e5.Type_.Frac, vi e5.Type_.Round, vi e5.Type_.Over, vi e5.Lin.K, vs a13 e5.Lin.L.length c54, vs a14 e5.Idx.length c55, vs a15 e5.Args.length c56]), (vi (wi64 (r1 + 1)))]) rfl ok_98 ⟨et, ⟨et, ⟨et, trivial⟩⟩⟩) (Calls.mono (c_printer_writer_operand_w rec_ hrec c57 f14 w27 zs6 e5 (wi64 (r1 + 1)) b1 a13 c54 a14 c55 a15 c56 (hB.subs ⟨(.s (.s .z)), (.s .z), .z, (.s (.s (.s (.s (.s (.s (.s (.s (.s (.s .z)))))))))), (.s (.s (.s (.s (.s (.s (.s (.s (.s (.s (.s .z))))))))))), trivial⟩) _ hx42) ?_)
 rintro _ w28 ⟨c58, rfl, hB2⟩
 obtain ⟨c59, hs14, hI⟩ := hk14 _ _ _ _ hB2
 replace hI : Bun C0 F w0 c59 w28 [MO.bld 5 82 b1 s18] [Cl.sl cGExpr a15 c56 e5.Args, Cl.sl cGIndex a14 c55 e5.Idx, Cl.sl cGMono a13 c54 e5.Lin.L, Cl.sl cGExpr a12 c47 e4.Args, Cl.sl cGIndex a11 c46 e4.Idx, Cl.sl cGMono a10 c45 e4.Lin.L, Cl.blk b2 39 #[vi e1.Op, (str e1.Name), vi e1.Val.N, vi e1.Val.D, vi e1.Type_.Kind, vi e1.Type_.Bits, vi e1.Type_.Frac, vi e1.Type_.Round, vi e1.Type_.Over, vi e1.Lin.K, vs a1 e1.Lin.L.length c1, vs a2 e1.Idx.length c2, vs a3 e1.Args.length c3], Cl.sl cGMono a1 c1 e1.Lin.L, Cl.sl cGIndex a2 c2 e1.Idx, Cl.sl cGExpr a3 c3 e1.Args, clPow10, clSpace] := hI
 refine ⟨_, rfl, ?_⟩
 refine s_nil ?_
 obtain rfl := some_inj h
 exact q_ret (vs := []) Tryz.results46 trivial ⟨_, rfl, hI.arr (.c .z .n) trivial⟩
theorem c_printer_writer_expr_w_r (n : Nat) : ∀ (C0 F : NP) (w0 : World) (w1 : List UInt8) (e1 : GExpr) (b1 : Nat) (a1 : Option Addr) (c1 : Nat) (a2 : Option Addr) (c2 : Nat) (a3 : Option Addr) (c3 : Nat) (hI : Bun C0 F w0 C0 w0 [MO.bld 5 82 b1 w1] [Cl.sl cGMono a1 c1 e1.Lin.L, Cl.sl cGIndex a2 c2 e1.Idx, Cl.sl cGExpr a3 c3 e1.Args, clPow10, clSpace]) (r : Unit × List UInt8) (h : m_printer_writer_expr_w_r n w1 e1 = some r), Calls Tryz.prog 46 #[vp b1 0, (Value.agg #[vi e1.Op, (str e1.Name), vi e1.Val.N, vi e1.Val.D, vi e1.Type_.Kind, vi e1.Type_.Bits, vi e1.Type_.Frac, vi e1.Type_.Round, vi e1.Type_.Over, vi e1.Lin.K, vs a1 e1.Lin.L.length c1, vs a2 e1.Idx.length c2, vs a3 e1.Args.length c3])] w0 fun e w => ∃ (C : NP), e = .returned (Value.tuple #[]) ∧ Bun C0 F w0 C w [MO.bld 5 82 b1 r.2] [] := by
 induction n with
 | zero => intro C0 F w0 w1 e1 b1 a1 c1 a2 c2 a3 c3 hI r h; cases h
 | succ n ih => intro C0 F w0 w1 e1 b1 a1 c1 a2 c2 a3 c3 hI r h; exact c_printer_writer_expr_w_b (m_printer_writer_expr_w_r n) ih C0 F w0 w1 e1 b1 a1 c1 a2 c2 a3 c3 hI r h
theorem c_printer_writer_expr_w (C0 F : NP) (w0 : World) (w1 : List UInt8) (e1 : GExpr) (b1 : Nat) (a1 : Option Addr) (c1 : Nat) (a2 : Option Addr) (c2 : Nat) (a3 : Option Addr) (c3 : Nat) (hI : Bun C0 F w0 C0 w0 [MO.bld 5 82 b1 w1] [Cl.sl cGMono a1 c1 e1.Lin.L, Cl.sl cGIndex a2 c2 e1.Idx, Cl.sl cGExpr a3 c3 e1.Args, clPow10, clSpace]) (r : Unit × List UInt8) (h : m_printer_writer_expr_w w1 e1 = some r) : Calls Tryz.prog 46 #[vp b1 0, (Value.agg #[vi e1.Op, (str e1.Name), vi e1.Val.N, vi e1.Val.D, vi e1.Type_.Kind, vi e1.Type_.Bits, vi e1.Type_.Frac, vi e1.Type_.Round, vi e1.Type_.Over, vi e1.Lin.K, vs a1 e1.Lin.L.length c1, vs a2 e1.Idx.length c2, vs a3 e1.Args.length c3])] w0 fun e w => ∃ (C : NP), e = .returned (Value.tuple #[]) ∧ Bun C0 F w0 C w [MO.bld 5 82 b1 r.2] [] := c_printer_writer_expr_w_r fu C0 F w0 w1 e1 b1 a1 c1 a2 c2 a3 c3 hI r h
theorem c_printer_Expr (F : NP) (w0 : World) (hF : ∀ k, F k → k < w0.heap.size) (e1 : GExpr) (a1 : Option Addr) (c1 : Nat) (a2 : Option Addr) (c2 : Nat) (a3 : Option Addr) (c3 : Nat) (hc : AllCl [Cl.sl cGMono a1 c1 e1.Lin.L, Cl.sl cGIndex a2 c2 e1.Idx, Cl.sl cGExpr a3 c3 e1.Args, clSpace, clPow10] F w0) (r : List UInt8)
  (h : m_printer_Expr e1 = some r) :
  Calls Tryz.prog 17 #[(Value.agg #[vi e1.Op, (str e1.Name), vi e1.Val.N, vi e1.Val.D, vi e1.Type_.Kind, vi e1.Type_.Bits, vi e1.Type_.Frac, vi e1.Type_.Round, vi e1.Type_.Over, vi e1.Lin.K, vs a1 e1.Lin.L.length c1, vs a2 e1.Idx.length c2, vs a3 e1.Args.length c3])] w0 fun e w => e = .returned (str r) ∧ Ext w0 w ∧ AllCl [] F w := by
 refine enterK Tryz.func17 rfl Tryz.ntmps17 rfl ?_
 have hI := Bun.start hF hc
 clear hc
 rw [m_printer_Expr] at h
 refine sr (l_box (v := (Value.agg #[vi e1.Op, (str e1.Name), vi e1.Val.N, vi e1.Val.D, vi e1.Type_.Kind, vi e1.Type_.Bits, vi e1.Type_.Frac, vi e1.Type_.Round, vi e1.Type_.Over, vi e1.Lin.K, vs a1 e1.Lin.L.length c1, vs a2 e1.Idx.length c2, vs a3 e1.Args.length c3])) (cs := #[vi e1.Op, (str e1.Name), vi e1.Val.N, vi e1.Val.D, vi e1.Type_.Kind, vi e1.Type_.Bits, vi e1.Type_.Frac, vi e1.Type_.Round, vi e1.Type_.Over, vi e1.Lin.K, vs a1 e1.Lin.L.length c1, vs a2 e1.Idx.length c2, vs a3 e1.Args.length c3]) hI gn rfl rfl et rfl ?_)
 clear hI; intro b1 c4 w1 hI
 obtain ⟨c5, hI⟩ := hI.relBox .z
 refine sac ?_
 refine nk (c_seq (sr (sq (y_loadN (l := [vi e1.Op, (str e1.Name), vi e1.Val.N, vi e1.Val.D, vi e1.Type_.Kind, vi e1.Type_.Bits, vi e1.Type_.Frac, vi e1.Type_.Round, vi e1.Type_.Over, vi e1.Lin.K, vs a1 e1.Lin.L.length c1, vs a2 e1.Idx.length c2, vs a3 e1.Args.length c3]) rfl et u39 rfl size_39 (hI.kblk (l := [vi e1.Op, (str e1.Name), vi e1.Val.N, vi e1.Val.D, vi e1.Type_.Kind, vi e1.Type_.Bits, vi e1.Type_.Frac, vi e1.Type_.Round, vi e1.Type_.Over, vi e1.Lin.K, vs a1 e1.Lin.L.length c1, vs a2 e1.Idx.length c2, vs a3 e1.Args.length c3]) .z rfl).1) ?_)))
 obtain ⟨r1, hx1, h⟩ := bnd_some h
 refine s_call gn rfl (r_callF (vs := [(Value.agg #[vi e1.Op, (str e1.Name), vi e1.Val.N, vi e1.Val.D, vi e1.Type_.Kind, vi e1.Type_.Bits, vi e1.Type_.Frac, vi e1.Type_.Round, vi e1.Type_.Over, vi e1.Lin.K, vs a1 e1.Lin.L.length c1, vs a2 e1.Idx.length c2, vs a3 e1.Args.length c3])]) rfl ok_45 ⟨et, trivial⟩) (Calls.mono (c_expr_Validate (Dj F c5) w1 hI.lt e1 a1 c1 a2 c2 a3 c3 ⟨(hI.get (.s .z)), (hI.get (.s (.s .z))), (hI.get (.s (.s (.s .z)))), (hI.get (.s (.s (.s (.s .z))))), trivial⟩ r1 hx1) ?_)
 rintro _ w2 ⟨rfl, hx2, hl1⟩
 refine ⟨_, rfl, ?_⟩
 replace hI := (hI.ext hx2)
 refine sq (y_neq rfl et ev_const) ?_
 refine nk (cif h et (fun hb h => ?_) (fun hb h => ?_))
 ·refine sr (sac ?_)
  refine nk (c_ret ?_)
  obtain rfl := some_inj h
  exact q_ret (vs := [(str ([] : List UInt8))]) Tryz.results17 ⟨ev_tmp rfl rfl, trivial⟩ (fq hI trivial)
 refine c_skip (k_same (sr (sq (y_build (vs := []) (cs := #[(Value.pointer none), vs none 0 0]) rfl trivial (by kernel_rfl)) ?_)))
 refine l_box (v := (Value.agg #[(Value.pointer none), vs none 0 0])) (cs := #[(Value.pointer none), vs none 0 0]) hI gn rfl rfl et rfl ?_
 clear hI; intro b2 c6 w3 hI
 obtain ⟨c7, hI⟩ := hI.toBld (tb := 5) .z
 refine sa ?_
 refine nk (sr (sm ?_))
 refine sq (y_loadN (l := [vi e1.Op, (str e1.Name), vi e1.Val.N, vi e1.Val.D, vi e1.Type_.Kind, vi e1.Type_.Bits, vi e1.Type_.Frac, vi e1.Type_.Round, vi e1.Type_.Over, vi e1.Lin.K, vs a1 e1.Lin.L.length c1, vs a2 e1.Idx.length c2, vs a3 e1.Args.length c3]) rfl et u39 rfl size_39 (hI.kblk (l := [vi e1.Op, (str e1.Name), vi e1.Val.N, vi e1.Val.D, vi e1.Type_.Kind, vi e1.Type_.Bits, vi e1.Type_.Frac, vi e1.Type_.Round, vi e1.Type_.Over, vi e1.Lin.K, vs a1 e1.Lin.L.length c1, vs a2 e1.Idx.length c2, vs a3 e1.Args.length c3]) .z rfl).1) ?_
 obtain ⟨c8, f1, hB, hl2, hk1⟩ := hI.hands (.l .n)
 obtain ⟨⟨r2, s1⟩, hx3, h⟩ := bnd_some h
 try dsimp only at h
 refine s_call gn rfl (r_callF (vs := [vp b2 0, (Value.agg #[vi e1.Op, (str e1.Name), vi e1.Val.N, vi e1.Val.D, vi e1.Type_.Kind, vi e1.Type_.Bits, vi e1.Type_.Frac, vi e1.Type_.Round, vi e1.Type_.Over, vi e1.Lin.K, vs a1 e1.Lin.L.length c1, vs a2 e1.Idx.length c2, vs a3 e1.Args.length c3])]) rfl ok_46 ⟨et, ⟨et, trivial⟩⟩) (Calls.mono (c_printer_writer_expr_w c8 f1 w3 ([] : List UInt8) e1 b2 a1 c1 a2 c2 a3 c3 (hB.subs ⟨(.s .z), (.s (.s .z)), (.s (.s (.s .z))), (.s (.s (.s (.s (.s .z))))), (.s (.s (.s (.s .z)))), trivial⟩) _ hx3) ?_)
 rintro _ w4 ⟨c9, rfl, hB2⟩
 obtain ⟨c10, hs1, hI⟩ := hk1 _ _ _ _ hB2
 replace hI : Bun noM F w0 c10 w4 [MO.bld 5 82 b2 s1] [Cl.blk b1 39 #[vi e1.Op, (str e1.Name), vi e1.Val.N, vi e1.Val.D, vi e1.Type_.Kind, vi e1.Type_.Bits, vi e1.Type_.Frac, vi e1.Type_.Round, vi e1.Type_.Over, vi e1.Lin.K, vs a1 e1.Lin.L.length c1, vs a2 e1.Idx.length c2, vs a3 e1.Args.length c3], Cl.sl cGMono a1 c1 e1.Lin.L, Cl.sl cGIndex a2 c2 e1.Idx, Cl.sl cGExpr a3 c3 e1.Args, clSpace, clPow10] := hI
 refine ⟨_, rfl, ?_⟩
 refine nk (sr (sm ?_))
 refine sq (y_nilCheck rfl et) ?_
 refine sq (y_fieldAddr rfl et u82 rfl size_80 rfl) ?_
 refine s_call gn rfl (r_callF (vs := [vp b2 0]) rfl ok_47 ⟨et, trivial⟩) (Calls.mono (c_bldString bldT_82 hI .z) ?_)
 clear hI; rintro _ w5 ⟨rfl, c11, hs2, hI⟩
 refine ⟨_, rfl, ?_⟩
 refine sa ?_
 refine nk (c_ret ?_)
 obtain rfl := some_inj h
 exact q_ret (vs := [(str s1)]) Tryz.results17 ⟨ev_tmp rfl rfl, trivial⟩ (fq hI trivial)
theorem c_law15_alive (F : NP) (w0 : World) (hF : ∀ k, F k → k < w0.heap.size) (hc : AllCl [clPow10, clSpace] F w0) (r : Bool)
  (h : m_law15_alive = some r) :
  Calls Tryz.prog 12 #[] w0 fun e w => e = .returned (vb r) ∧ Ext w0 w ∧ AllCl [] F w := by
 refine enterK Tryz.func12 rfl Tryz.ntmps12 rfl ?_
 have hI := Bun.start hF hc
 clear hc
 rw [m_law15_alive] at h
 refine sr (sac ?_)
 refine nk (sr (sq (y_build (vs := [(0, vi 3)]) (cs := #[vi 3, vi 0, vi 0, vi 0, vi 0]) rfl ⟨rfl, ev_const, trivial⟩ (by kernel_rfl)) ?_))
 obtain ⟨r1, hx1, h⟩ := bnd_some h
 refine s_call gn rfl (r_callF (vs := [(Value.agg #[vi 3, vi 0, vi 0, vi 0, vi 0])]) rfl ok_10 ⟨et, trivial⟩) (Calls.mono (c_printer_Type (Dj F noM) w0 hI.lt (⟨3, 0, 0, 0, 0⟩ : GType) ⟨(hI.get .z), trivial⟩ r1 hx1) ?_)
 rintro _ w1 ⟨rfl, hx2, hl1⟩
 refine ⟨_, rfl, ?_⟩
 replace hI := (hI.ext hx2)
 refine sq (y_eqs rfl et ev_const) ?_
 refine sm ?_
 refine s_gval (g_true rfl rfl rfl rfl) rfl (fun hc => (y_build (vs := [(0, vi 3), (1, (str ([97] : List UInt8)))]) (cs := #[vi 3, (str ([97] : List UInt8)), vi 0, vi 0, vi 0, vi 0, vi 0, vi 0, vi 0, vi 0, vs none 0 0, vs none 0 0, vs none 0 0]) rfl ⟨rfl, ev_const, ⟨rfl, ev_const, trivial⟩⟩ (by kernel_rfl))) ?_
 obtain ⟨ho1, h⟩ := chk_some h
 have hI := hI.add (c := Cl.sl cGMono none 0 ([] : List GMono)) SlC.nil
 have hI := hI.add (c := Cl.sl cGIndex none 0 ([] : List GIndex)) SlC.nil
 have hI := hI.add (c := Cl.sl cGExpr none 0 ([] : List GExpr)) SlC.nil
 obtain ⟨r2, hx3, h⟩ := bnd_some h
 refine s_call (grd_as (g_true rfl rfl rfl rfl) ho1) rfl (r_callF (vs := [(Value.agg #[vi 3, (str ([97] : List UInt8)), vi 0, vi 0, vi 0, vi 0, vi 0, vi 0, vi 0, vi 0, vs none 0 0, vs none 0 0, vs none 0 0])]) rfl ok_17 ⟨(ev_gv et ho1), trivial⟩) (Calls.mono (c_printer_Expr (Dj F noM) w1 hI.lt (⟨3, ([97] : List UInt8), (⟨0, 0⟩ : GVal), (⟨0, 0, 0, 0, 0⟩ : GType), (⟨0, ([] : List GMono)⟩ : GLin), ([] : List GIndex), ([] : List GExpr)⟩ : GExpr) none 0 none 0 none 0 ⟨(hI.get (.s (.s .z))), (hI.get (.s .z)), (hI.get .z), (hI.get (.s (.s (.s (.s .z))))), (hI.get (.s (.s (.s .z)))), trivial⟩ r2 hx3) ?_)
 rintro _ w2 ⟨rfl, hx4, hl2⟩
 refine ⟨_, rfl, ?_⟩
 replace hI := (hI.ext hx4)
 refine s_gval (g_true rfl rfl rfl rfl) rfl (fun hc => y_eqs rfl et ev_const) ?_
 refine sq (y_and rfl et et) ?_
 refine sa ?_
 refine nk (c_ret ?_)
 obtain rfl := some_inj h
 exact q_ret (vs := [(vb ((decide (r1 = ([105, 110, 116] : List UInt8))) && (decide (r2 = ([97, 91, 93] : List UInt8)))))]) Tryz.results12 ⟨ev_tmp rfl rfl, trivial⟩ (fq hI trivial)
theorem c_base_Weigh_b (rec_ : (GExpr → Int → Option Int)) (hrec : ∀ (F : NP) (w0 : World) (hF : ∀ k, F k → k < w0.heap.size) (e1 : GExpr) (most1 : Int) (a1 : Option Addr) (c1 : Nat) (a2 : Option Addr) (c2 : Nat) (a3 : Option Addr) (c3 : Nat) (hc : AllCl [Cl.sl cGMono a1 c1 e1.Lin.L, Cl.sl cGIndex a2 c2 e1.Idx, Cl.sl cGExpr a3 c3 e1.Args] F w0) (r : Int) (h : rec_ e1 most1 = some r), Calls Tryz.prog 13 #[(Value.agg #[vi e1.Op, (str e1.Name), vi e1.Val.N, vi e1.Val.D, vi e1.Type_.Kind, vi e1.Type_.Bits, vi e1.Type_.Frac, vi e1.Type_.Round, vi e1.Type_.Over, vi e1.Lin.K, vs a1 e1.Lin.L.length c1, vs a2 e1.Idx.length c2, vs a3 e1.Args.length c3]), vi most1] w0 fun e w => e = .returned (vi r) ∧ Ext w0 w ∧ AllCl [] F w)
  (F : NP) (w0 : World) (hF : ∀ k, F k → k < w0.heap.size) (e1 : GExpr) (most1 : Int) (a1 : Option Addr) (c1 : Nat) (a2 : Option Addr) (c2 : Nat) (a3 : Option Addr) (c3 : Nat) (hc : AllCl [Cl.sl cGMono a1 c1 e1.Lin.L, Cl.sl cGIndex a2 c2 e1.Idx, Cl.sl cGExpr a3 c3 e1.Args] F w0) (r : Int) (h : m_base_Weigh_b rec_ e1 most1 = some r) : Calls Tryz.prog 13 #[(Value.agg #[vi e1.Op, (str e1.Name), vi e1.Val.N, vi e1.Val.D, vi e1.Type_.Kind, vi e1.Type_.Bits, vi e1.Type_.Frac, vi e1.Type_.Round, vi e1.Type_.Over, vi e1.Lin.K, vs a1 e1.Lin.L.length c1, vs a2 e1.Idx.length c2, vs a3 e1.Args.length c3]), vi most1] w0 fun e w => e = .returned (vi r) ∧ Ext w0 w ∧ AllCl [] F w := by
 refine enterK Tryz.func13 rfl Tryz.ntmps13 rfl ?_
 have hI := Bun.start hF hc
 clear hc
 rw [m_base_Weigh_b] at h
 refine sr (l_box (v := (Value.agg #[vi e1.Op, (str e1.Name), vi e1.Val.N, vi e1.Val.D, vi e1.Type_.Kind, vi e1.Type_.Bits, vi e1.Type_.Frac, vi e1.Type_.Round, vi e1.Type_.Over, vi e1.Lin.K, vs a1 e1.Lin.L.length c1, vs a2 e1.Idx.length c2, vs a3 e1.Args.length c3])) (cs := #[vi e1.Op, (str e1.Name), vi e1.Val.N, vi e1.Val.D, vi e1.Type_.Kind, vi e1.Type_.Bits, vi e1.Type_.Frac, vi e1.Type_.Round, vi e1.Type_.Over, vi e1.Lin.K, vs a1 e1.Lin.L.length c1, vs a2 e1.Idx.length c2, vs a3 e1.Args.length c3]) hI gn rfl rfl et rfl ?_)
 clear hI; intro b1 c4 w1 hI
 obtain ⟨c5, hI⟩ := hI.relBox .z
 refine sac ?_
 refine nk (sr (sq (y_fieldAddr rfl et u39 rfl size_29 rfl) ?_))
 refine sq (y_fieldAddr rfl et u29 rfl size_27 rfl) ?_
 refine sq (y_load1 (v := (vs a1 e1.Lin.L.length c1)) rfl et u27 rfl (hI.kblk (l := [vs a1 e1.Lin.L.length c1]) .z rfl).1) ?_
 refine sq (y_lenl rfl u27 et) ?_
 refine sq (y_add rfl ev_const et) ?_
 refine sq (y_fieldAddr rfl et u39 rfl size_34 rfl) ?_
 refine sq (y_load1 (v := (vs a2 e1.Idx.length c2)) rfl et u34 rfl (hI.kblk (l := [vs a2 e1.Idx.length c2]) .z rfl).1) ?_
 refine sq (y_lenl rfl u34 et) ?_
 refine sq (y_add rfl et et) ?_
 obtain ⟨n1, hx1, h⟩ := bnd_some h
 refine sq (binU (y_assign rfl et) (congrArg (Value.int .i64) (some_inj hx1))) ?_
 refine nk (c_join (α := Int) (fun _ => ⟨101, []⟩) (fun x => [(1, vi most1), (2, vp b1 0), (5, vi x)]) (fun x => fun w => ∃ C, Bun noM F w0 C w [] [Cl.blk b1 39 #[vi e1.Op, (str e1.Name), vi e1.Val.N, vi e1.Val.D, vi e1.Type_.Kind, vi e1.Type_.Bits, vi e1.Type_.Frac, vi e1.Type_.Round, vi e1.Type_.Over, vi e1.Lin.K, vs a1 e1.Lin.L.length c1, vs a2 e1.Idx.length c2, vs a3 e1.Args.length c3], Cl.sl cGMono a1 c1 e1.Lin.L, Cl.sl cGIndex a2 c2 e1.Idx, Cl.sl cGExpr a3 c3 e1.Args] ∧ m_base_Weigh_j1 e1 most1 rec_ x = some r) ?_ ?_)
 ·clear h hI; rintro n2 w2 ⟨c6, hI, h⟩
  try dsimp only at hI h
  rw [m_base_Weigh_j1] at h
  refine c_sub (e := [(1, vi most1), (2, vp b1 0), (5, vi n2)]) ⟨rfl, rfl, rfl, trivial⟩ ?_
  refine c_seq (sr (sac ?_))
  refine nk (c_block (c_loop (α := Nat × Int × Int) (fun x => fun w => ∃ C, Bun noM F w0 C w [] [Cl.blk b1 39 #[vi e1.Op, (str e1.Name), vi e1.Val.N, vi e1.Val.D, vi e1.Type_.Kind, vi e1.Type_.Bits, vi e1.Type_.Frac, vi e1.Type_.Round, vi e1.Type_.Over, vi e1.Lin.K, vs a1 e1.Lin.L.length c1, vs a2 e1.Idx.length c2, vs a3 e1.Args.length c3], Cl.sl cGMono a1 c1 e1.Lin.L, Cl.sl cGIndex a2 c2 e1.Idx, Cl.sl cGExpr a3 c3 e1.Args] ∧ m_base_Weigh_l1 e1 most1 rec_ (x.1) (x.2.1) (x.2.2) = some r) (fun x _ => x.1) (fun x => [(1, vi most1), (2, vp b1 0), (5, vi (x.2.1)), (8, vi (x.2.2))]) (fu, n2, 0) ⟨_, hI.arr .n ⟨.z, (.s .z), (.s (.s .z)), (.s (.s (.s .z))), trivial⟩, h⟩ ⟨rfl, rfl, rfl, rfl, trivial⟩ ?_))
  clear h hI; rintro ⟨fuel1, n3, i1⟩ w3 ⟨c7, hI, h⟩
  dsimp only at hI h
  rcases fuel1 with _ | fuel1
  ·rw [m_base_Weigh_l1] at h; cases h
  rw [m_base_Weigh_l1] at h
  refine c_sub (e := [(1, vi most1), (2, vp b1 0), (5, vi n3), (8, vi i1)]) ⟨rfl, rfl, rfl, rfl, trivial⟩ ?_
  refine c_seq (sr (sm ?_))
  refine sq (y_fieldAddr rfl et u39 rfl size_37 rfl) ?_
  refine sq (y_load1 (v := (vs a3 e1.Args.length c3)) rfl et u37 rfl (hI.kblk (l := [vs a3 e1.Args.length c3]) .z rfl).1) ?_
  refine sq (y_lenl rfl u37 et) ?_
  refine sq (y_lss rfl et et) ?_
  refine sm ?_
  refine s_gval (g_true rfl rfl rfl rfl) rfl (fun hc => y_move rfl et) ?_
  refine s_gval (g_true rfl rfl rfl rfl) rfl (fun hc => y_move rfl et) ?_
  refine s_gval (g_true rfl rfl rfl rfl) rfl (fun hc => y_leq rfl (ev_gv et hc) (ev_gv et hc)) ?_
  refine sq (y_and rfl et et) ?_
  refine nk (cif h et (fun hb h => ?_) (fun hb h => ?_))
  ·refine c_skip (k_same (c_seq (c_block (c_region rfl ?_))))
   refine sm ?_
   refine sq (y_fieldAddr rfl et u39 rfl size_37 rfl) ?_
   refine sq (y_load1 (v := (vs a3 e1.Args.length c3)) rfl et u37 rfl (hI.kblk (l := [vs a3 e1.Args.length c3]) .z rfl).1) ?_
   refine sm ?_
   obtain ⟨e2, hx2, h⟩ := bnd_some h
   obtain ⟨ad1, cs1, hA1, hr1, hq1⟩ := hI.clat (.s (.s (.s .z))) hx2
   obtain ⟨a4, c8, a5, c9, a6, c10, rfl, hf1, hf2, hf3⟩ := cGExpr_out hr1
   have hI := hI.add (c := Cl.sl cGMono a4 c8 e2.Lin.L) hf1
   have hI := hI.add (c := Cl.sl cGIndex a5 c9 e2.Idx) hf2
   have hI := hI.add (c := Cl.sl cGExpr a6 c10 e2.Args) hf3
   refine sq (y_indexAddr rfl u37 size_39 et et (lat_bd hx2) hA1) ?_
   refine sq (y_loadN (l := [vi e2.Op, (str e2.Name), vi e2.Val.N, vi e2.Val.D, vi e2.Type_.Kind, vi e2.Type_.Bits, vi e2.Type_.Frac, vi e2.Type_.Round, vi e2.Type_.Over, vi e2.Lin.K, vs a4 e2.Lin.L.length c8, vs a5 e2.Idx.length c9, vs a6 e2.Args.length c10]) rfl et u39 rfl size_39 hq1.1) ?_
   refine sm ?_
   refine sm ?_
   refine sq (y_sub rfl et et) ?_
   obtain ⟨r1, hx3, h⟩ := bnd_some h
   refine s_call gn rfl (r_callF (vs := [(Value.agg #[vi e2.Op, (str e2.Name), vi e2.Val.N, vi e2.Val.D, vi e2.Type_.Kind, vi e2.Type_.Bits, vi e2.Type_.Frac, vi e2.Type_.Round, vi e2.Type_.Over, vi e2.Lin.K, vs a4 e2.Lin.L.length c8, vs a5 e2.Idx.length c9, vs a6 e2.Args.length c10]), (vi (wi64 (most1 - n3)))]) rfl ok_13 ⟨et, ⟨et, trivial⟩⟩) (Calls.mono (hrec (Dj F c7) w3 hI.lt e2 (wi64 (most1 - n3)) a4 c8 a5 c9 a6 c10 ⟨(hI.get (.s (.s .z))), (hI.get (.s .z)), (hI.get .z), trivial⟩ r1 hx3) ?_)
   rintro _ w4 ⟨rfl, hx4, hl1⟩
   refine ⟨_, rfl, ?_⟩
   replace hI := (hI.ext hx4)
   refine sq (y_add rfl et et) ?_
   refine sa ?_
   refine nk (c_region rfl ?_)
   refine sm ?_
   refine sq (y_add rfl et ev_const) ?_
   refine sa ?_
   refine s_nil ?_
   exact k_loop (fuel1, wi64 (n3 + r1), wi64 (i1 + 1)) ⟨rfl, rfl, rfl, rfl, trivial⟩ ⟨_, hI.arr .n ⟨(.s (.s (.s .z))), (.s (.s (.s (.s .z)))), (.s (.s (.s (.s (.s .z))))), (.s (.s (.s (.s (.s (.s .z)))))), trivial⟩, h⟩ (Nat.lt_succ_self _)
  refine c_exit ?_
  refine k_in ?_
  refine k_same (sr (sm ?_))
  refine sa ?_
  refine nk (c_ret ?_)
  obtain rfl := some_inj h
  exact q_ret (vs := [vi n3]) Tryz.results13 ⟨ev_tmp rfl rfl, trivial⟩ (fq hI trivial)
 refine sr (sac ?_)
 refine nk (c_block (c_loop (α := Nat × Int × Int) (fun x => fun w => ∃ C, Bun noM F w0 C w [] [Cl.blk b1 39 #[vi e1.Op, (str e1.Name), vi e1.Val.N, vi e1.Val.D, vi e1.Type_.Kind, vi e1.Type_.Bits, vi e1.Type_.Frac, vi e1.Type_.Round, vi e1.Type_.Over, vi e1.Lin.K, vs a1 e1.Lin.L.length c1, vs a2 e1.Idx.length c2, vs a3 e1.Args.length c3], Cl.sl cGMono a1 c1 e1.Lin.L, Cl.sl cGIndex a2 c2 e1.Idx, Cl.sl cGExpr a3 c3 e1.Args] ∧ m_base_Weigh_l2 e1 most1 rec_ (x.1) (x.2.1) (x.2.2) = some r) (fun x _ => x.1) (fun x => [(1, vi most1), (2, vp b1 0), (5, vi (x.2.1)), (6, vi (x.2.2))]) (fu, n1, 0) ⟨_, hI.arr .n ⟨.z, (.s .z), (.s (.s .z)), (.s (.s (.s .z))), trivial⟩, h⟩ ⟨rfl, rfl, rfl, rfl, trivial⟩ ?_))
 clear h hI; rintro ⟨fuel2, n4, i2⟩ w5 ⟨c11, hI, h⟩
 dsimp only at hI h
 rcases fuel2 with _ | fuel2
 ·rw [m_base_Weigh_l2] at h; cases h
 rw [m_base_Weigh_l2] at h
 refine c_sub (e := [(1, vi most1), (2, vp b1 0), (5, vi n4), (6, vi i2)]) ⟨rfl, rfl, rfl, rfl, trivial⟩ ?_
 refine c_seq (sr (sm ?_))
 refine sq (y_fieldAddr rfl et u39 rfl size_34 rfl) ?_
 refine sq (y_load1 (v := (vs a2 e1.Idx.length c2)) rfl et u34 rfl (hI.kblk (l := [vs a2 e1.Idx.length c2]) .z rfl).1) ?_
 refine sq (y_lenl rfl u34 et) ?_
 refine sq (y_lss rfl et et) ?_
 refine sm ?_
 refine s_gval (g_true rfl rfl rfl rfl) rfl (fun hc => y_move rfl et) ?_
 refine s_gval (g_true rfl rfl rfl rfl) rfl (fun hc => y_move rfl et) ?_
 refine s_gval (g_true rfl rfl rfl rfl) rfl (fun hc => y_leq rfl (ev_gv et hc) (ev_gv et hc)) ?_
 refine sq (y_and rfl et et) ?_
 refine nk (cif h et (fun hb h => ?_) (fun hb h => ?_))
 ·refine c_skip (k_same (c_join (α := Int) (fun _ => ⟨101, []⟩) (fun x => [(1, vi most1), (2, vp b1 0), (5, vi x), (6, vi i2)]) (fun x => fun w => ∃ C, Bun noM F w0 C w [] [Cl.blk b1 39 #[vi e1.Op, (str e1.Name), vi e1.Val.N, vi e1.Val.D, vi e1.Type_.Kind, vi e1.Type_.Bits, vi e1.Type_.Frac, vi e1.Type_.Round, vi e1.Type_.Over, vi e1.Lin.K, vs a1 e1.Lin.L.length c1, vs a2 e1.Idx.length c2, vs a3 e1.Args.length c3], Cl.sl cGMono a1 c1 e1.Lin.L, Cl.sl cGIndex a2 c2 e1.Idx, Cl.sl cGExpr a3 c3 e1.Args] ∧ m_base_Weigh_j2 (m_base_Weigh_l2 e1 most1 rec_ fuel2) i2 x = some r) ?_ ?_))
  ·clear h hI; rintro n5 w6 ⟨c12, hI, h⟩
   try dsimp only at hI h
   rw [m_base_Weigh_j2] at h
   refine c_sub (e := [(1, vi most1), (2, vp b1 0), (5, vi n5), (6, vi i2)]) ⟨rfl, rfl, rfl, rfl, trivial⟩ ?_
   refine c_region rfl ?_
   refine sm ?_
   refine sq (y_add rfl et ev_const) ?_
   refine sa ?_
   refine s_nil ?_
   exact k_loop (fuel2, n5, wi64 (i2 + 1)) ⟨rfl, rfl, rfl, rfl, trivial⟩ ⟨_, hI.arr .n ⟨.z, (.s .z), (.s (.s .z)), (.s (.s (.s .z))), trivial⟩, h⟩ (Nat.lt_succ_self _)
  refine c_block (c_seq (c_drawX [] false (.c (0, .q) (.c (1, .q) (.c (2, .q) (.c (3, .q) (.c (4, .q) (.c (5, .q) (.c (6, .q) (.c (7, .q) (.c (8, .q) (.c (9, .q) (.c (10, .q) (.c (11, .q) (.c (12, .q) (.c (13, .q) (.c (14, .q) (.c (15, .q) (.c (16, .q) (.c (17, .q) (.c (18, .q) .n))))))))))))))))))) hI (by kernel_rfl) (by kernel_rfl) ?_))
  clear hI; intro w7 hI
  refine a_q rfl gn rfl (fun w' => y_move rfl et) ?_
  refine a_q rfl gn rfl (fun w' => y_fieldAddr rfl et u39 rfl size_34 rfl) ?_
  refine a_read rfl gn rfl (fun w' hw' => (y_load1 (v := (vs a2 e1.Idx.length c2)) rfl et u34 rfl ((hI.kblk (l := [vs a2 e1.Idx.length c2]) .z rfl).at_ (SX.any rfl hw')))) (by kernel_rfl) ?_
  refine a_q rfl gn rfl (fun w' => y_move rfl et) ?_
  obtain ⟨e3, hx5, h⟩ := bnd_some h
  obtain ⟨ad2, cs2, hA2, hr2, hq2⟩ := hI.clat (.s (.s .z)) hx5
  obtain ⟨a7, c13, a8, c14, rfl, hf4, hf5⟩ := hr2
  have hI := hI.add (c := Cl.sl cGMono a7 c13 e3.Lin.L) hf4
  have hI := hI.add (c := Cl.sl cGLin a8 c14 e3.At) hf5
  refine a_q rfl gn rfl (fun w' => y_indexAddr rfl u34 size_32 et et (lat_bd hx5) hA2) ?_
  refine a_q rfl gn rfl (fun w' => y_fieldAddr rfl et u32 rfl size_29 rfl) ?_
  refine a_q rfl gn rfl (fun w' => y_fieldAddr2 rfl et u29 rfl size_27 rfl) ?_
  refine a_read rfl gn rfl (fun w' hw' => (y_load1 (v := (vs a7 e3.Lin.L.length c13)) rfl et u27 rfl ((CA.part hq2 rfl).at_ (SX.any rfl hw')))) (by kernel_rfl) ?_
  refine a_q rfl gn rfl (fun w' => y_lenl rfl u27 et) ?_
  refine a_q rfl gn rfl (fun w' => y_add rfl et et) ?_
  refine a_q rfl gn rfl (fun w' => y_fieldAddr rfl et u39 rfl size_34 rfl) ?_
  refine a_read rfl gn rfl (fun w' hw' => (y_load1 (v := (vs a2 e1.Idx.length c2)) rfl et u34 rfl ((hI.kblk (l := [vs a2 e1.Idx.length c2]) (.s (.s .z)) rfl).at_ (SX.any rfl hw')))) (by kernel_rfl) ?_
  refine a_q rfl gn rfl (fun w' => y_move rfl et) ?_
  obtain ⟨e4, hx6, h⟩ := bnd_some h
  obtain ⟨ad3, cs3, hA3, hr3, hq3⟩ := hI.clat (.s (.s (.s (.s .z)))) hx6
  obtain ⟨a9, c15, a10, c16, rfl, hf6, hf7⟩ := hr3
  have hI := hI.add (c := Cl.sl cGMono a9 c15 e4.Lin.L) hf6
  have hI := hI.add (c := Cl.sl cGLin a10 c16 e4.At) hf7
  refine a_q rfl gn rfl (fun w' => y_indexAddr rfl u34 size_32 et et (lat_bd hx6) hA3) ?_
  refine a_q rfl gn rfl (fun w' => y_fieldAddr rfl et u32 rfl size_30 rfl) ?_
  refine a_read rfl gn rfl (fun w' hw' => (y_load1 (v := (vs a10 e4.At.length c16)) rfl et u30 rfl ((CA.part hq3 rfl).at_ (SX.any rfl hw')))) (by kernel_rfl) ?_
  refine a_q rfl gn rfl (fun w' => y_lenl rfl u30 et) ?_
  refine a_q rfl gn rfl (fun w' => y_add rfl et et) ?_
  refine a_q rfl gn rfl (fun w' => y_assign rfl et) ?_
  refine a_nil ?_
  refine k_next (e := [(1, vi most1), (2, vp b1 0), (5, (vi (wi64 ((wi64 (n4 + (e3.Lin.L.length : Int))) + (e4.At.length : Int))))), (6, vi i2)]) ⟨rfl, rfl, rfl, rfl, trivial⟩ ?_
  refine sr (sac ?_)
  refine nk (c_block (c_loop (α := Nat × Int × Int) (fun x => fun w => ∃ C, Bun noM F w0 C w [] [Cl.blk b1 39 #[vi e1.Op, (str e1.Name), vi e1.Val.N, vi e1.Val.D, vi e1.Type_.Kind, vi e1.Type_.Bits, vi e1.Type_.Frac, vi e1.Type_.Round, vi e1.Type_.Over, vi e1.Lin.K, vs a1 e1.Lin.L.length c1, vs a2 e1.Idx.length c2, vs a3 e1.Args.length c3], Cl.sl cGMono a1 c1 e1.Lin.L, Cl.sl cGIndex a2 c2 e1.Idx, Cl.sl cGExpr a3 c3 e1.Args] ∧ m_base_Weigh_l3 e1 i2 most1 (m_base_Weigh_l2 e1 most1 rec_ fuel2) (x.1) (x.2.1) (x.2.2) = some r) (fun x _ => x.1) (fun x => [(1, vi most1), (2, vp b1 0), (5, vi (x.2.1)), (6, vi i2), (7, vi (x.2.2))]) (fu, wi64 ((wi64 (n4 + (e3.Lin.L.length : Int))) + (e4.At.length : Int)), 0) ⟨_, hI.arr .n ⟨(.s (.s (.s (.s .z)))), (.s (.s (.s (.s (.s .z))))), (.s (.s (.s (.s (.s (.s .z)))))), (.s (.s (.s (.s (.s (.s (.s .z))))))), trivial⟩, h⟩ ⟨rfl, rfl, rfl, rfl, rfl, trivial⟩ ?_))
  clear h hI; rintro ⟨fuel3, n6, k1⟩ w8 ⟨c17, hI, h⟩
  dsimp only at hI h
  rcases fuel3 with _ | fuel3
  ·rw [m_base_Weigh_l3] at h; cases h
  rw [m_base_Weigh_l3] at h
  refine c_sub (e := [(1, vi most1), (2, vp b1 0), (5, vi n6), (6, vi i2), (7, vi k1)]) ⟨rfl, rfl, rfl, rfl, rfl, trivial⟩ ?_
  refine c_seq (sr (sm ?_))
  refine sq (y_fieldAddr rfl et u39 rfl size_34 rfl) ?_
  refine sq (y_load1 (v := (vs a2 e1.Idx.length c2)) rfl et u34 rfl (hI.kblk (l := [vs a2 e1.Idx.length c2]) .z rfl).1) ?_
  refine sm ?_
  obtain ⟨e5, hx7, h⟩ := bnd_some h
  obtain ⟨ad4, cs4, hA4, hr4, hq4⟩ := hI.clat (.s (.s .z)) hx7
  obtain ⟨a11, c18, a12, c19, rfl, hf8, hf9⟩ := hr4
  have hI := hI.add (c := Cl.sl cGMono a11 c18 e5.Lin.L) hf8
  have hI := hI.add (c := Cl.sl cGLin a12 c19 e5.At) hf9
  refine sq (y_indexAddr rfl u34 size_32 et et (lat_bd hx7) hA4) ?_
  refine sq (y_fieldAddr rfl et u32 rfl size_30 rfl) ?_
  refine sq (y_load1 (v := (vs a12 e5.At.length c19)) rfl et u30 rfl (CA.part hq4 rfl).1) ?_
  refine sq (y_lenl rfl u30 et) ?_
  refine sq (y_lss rfl et et) ?_
  refine sm ?_
  refine s_gval (g_true rfl rfl rfl rfl) rfl (fun hc => y_move rfl et) ?_
  refine s_gval (g_true rfl rfl rfl rfl) rfl (fun hc => y_move rfl et) ?_
  refine s_gval (g_true rfl rfl rfl rfl) rfl (fun hc => y_leq rfl (ev_gv et hc) (ev_gv et hc)) ?_
  refine sq (y_and rfl et et) ?_
  refine nk (cif h et (fun hb h => ?_) (fun hb h => ?_))
  ·refine c_skip (k_same (c_seq (c_block (c_region rfl ?_))))
   refine sm ?_
   refine sq (y_fieldAddr rfl et u39 rfl size_34 rfl) ?_
   refine sq (y_load1 (v := (vs a2 e1.Idx.length c2)) rfl et u34 rfl (hI.kblk (l := [vs a2 e1.Idx.length c2]) (.s (.s .z)) rfl).1) ?_
   refine sm ?_
   obtain ⟨e6, hx8, h⟩ := bnd_some h
   obtain ⟨ad5, cs5, hA5, hr5, hq5⟩ := hI.clat (.s (.s (.s (.s .z)))) hx8
   obtain ⟨a13, c20, a14, c21, rfl, hf10, hf11⟩ := hr5
   have hI := hI.add (c := Cl.sl cGMono a13 c20 e6.Lin.L) hf10
   have hI := hI.add (c := Cl.sl cGLin a14 c21 e6.At) hf11
   refine sq (y_indexAddr rfl u34 size_32 et et (lat_bd hx8) hA5) ?_
   refine sq (y_fieldAddr rfl et u32 rfl size_30 rfl) ?_
   refine sq (y_load1 (v := (vs a14 e6.At.length c21)) rfl et u30 rfl (CA.part hq5 rfl).1) ?_
   refine sm ?_
   obtain ⟨e7, hx9, h⟩ := bnd_some h
   obtain ⟨ad6, cs6, hA6, hr6, hq6⟩ := hI.clat .z hx9
   obtain ⟨a15, c22, rfl, hf12⟩ := hr6
   have hI := hI.add (c := Cl.sl cGMono a15 c22 e7.L) hf12
   refine sq (y_indexAddr rfl u30 size_29 et et (lat_bd hx9) hA6) ?_
   refine sq (y_fieldAddr rfl et u29 rfl size_27 rfl) ?_
   refine sq (y_load1 (v := (vs a15 e7.L.length c22)) rfl et u27 rfl (CA.part hq6 rfl).1) ?_
   refine sq (y_lenl rfl u27 et) ?_
   refine sq (y_add rfl et et) ?_
   obtain ⟨n7, hx10, h⟩ := bnd_some h
   refine sq (binU (y_assign rfl et) (congrArg (Value.int .i64) (some_inj hx10))) ?_
   refine s_nil ?_
   refine k_next (e := [(1, vi most1), (2, vp b1 0), (5, vi n7), (6, vi i2), (7, vi k1)]) ⟨rfl, rfl, rfl, rfl, rfl, trivial⟩ ?_
   refine c_region rfl ?_
   refine sm ?_
   refine sq (y_add rfl et ev_const) ?_
   refine sa ?_
   refine s_nil ?_
   exact k_loop (fuel3, n7, wi64 (k1 + 1)) ⟨rfl, rfl, rfl, rfl, rfl, trivial⟩ ⟨_, hI.arr .n ⟨(.s (.s (.s (.s (.s .z))))), (.s (.s (.s (.s (.s (.s .z)))))), (.s (.s (.s (.s (.s (.s (.s .z))))))), (.s (.s (.s (.s (.s (.s (.s (.s .z)))))))), trivial⟩, h⟩ (Nat.lt_succ_self _)
  refine c_exit ?_
  refine k_in ?_
  exact k_join n6 ⟨rfl, rfl, rfl, rfl, trivial⟩ ⟨_, hI.arr .n ⟨(.s (.s .z)), (.s (.s (.s .z))), (.s (.s (.s (.s .z)))), (.s (.s (.s (.s (.s .z))))), trivial⟩, h⟩ rfl
 refine c_exit ?_
 refine k_in ?_
 exact k_join n4 ⟨rfl, rfl, rfl, trivial⟩ ⟨_, hI.arr .n ⟨.z, (.s .z), (.s (.s .z)), (.s (.s (.s .z))), trivial⟩, h⟩ rfl
theorem c_base_Weigh_r (n : Nat) : ∀ (F : NP) (w0 : World) (hF : ∀ k, F k → k < w0.heap.size) (e1 : GExpr) (most1 : Int) (a1 : Option Addr) (c1 : Nat) (a2 : Option Addr) (c2 : Nat) (a3 : Option Addr) (c3 : Nat) (hc : AllCl [Cl.sl cGMono a1 c1 e1.Lin.L, Cl.sl cGIndex a2 c2 e1.Idx, Cl.sl cGExpr a3 c3 e1.Args] F w0) (r : Int) (h : m_base_Weigh_r n e1 most1 = some r), Calls Tryz.prog 13 #[(Value.agg #[vi e1.Op, (str e1.Name), vi e1.Val.N, vi e1.Val.D, vi e1.Type_.Kind, vi e1.Type_.Bits, vi e1.Type_.Frac, vi e1.Type_.Round, vi e1.Type_.Over, vi e1.Lin.K, vs a1 e1.Lin.L.length c1, vs a2 e1.Idx.length c2, vs a3 e1.Args.length c3]), vi most1] w0 fun e w => e = .returned (vi r) ∧ Ext w0 w ∧ AllCl [] F w := by
 induction n with
 | zero => intro F w0 hF e1 most1 a1 c1 a2 c2 a3 c3 hc r h; cases h
 | succ n ih => intro F w0 hF e1 most1 a1 c1 a2 c2 a3 c3 hc r h; exact c_base_Weigh_b (m_base_Weigh_r n) ih F w0 hF e1 most1 a1 c1 a2 c2 a3 c3 hc r h
theorem c_base_Weigh (F : NP) (w0 : World) (hF : ∀ k, F k → k < w0.heap.size) (e1 : GExpr) (most1 : Int) (a1 : Option Addr) (c1 : Nat) (a2 : Option Addr) (c2 : Nat) (a3 : Option Addr) (c3 : Nat) (hc : AllCl [Cl.sl cGMono a1 c1 e1.Lin.L, Cl.sl cGIndex a2 c2 e1.Idx, Cl.sl cGExpr a3 c3 e1.Args] F w0) (r : Int) (h : m_base_Weigh e1 most1 = some r) : Calls Tryz.prog 13 #[(Value.agg #[vi e1.Op, (str e1.Name), vi e1.Val.N, vi e1.Val.D, vi e1.Type_.Kind, vi e1.Type_.Bits, vi e1.Type_.Frac, vi e1.Type_.Round, vi e1.Type_.Over, vi e1.Lin.K, vs a1 e1.Lin.L.length c1, vs a2 e1.Idx.length c2, vs a3 e1.Args.length c3]), vi most1] w0 fun e w => e = .returned (vi r) ∧ Ext w0 w ∧ AllCl [] F w := c_base_Weigh_r fu F w0 hF e1 most1 a1 c1 a2 c2 a3 c3 hc r h
theorem c_base_Words (F : NP) (w0 : World) (hF : ∀ k, F k → k < w0.heap.size) (hc : AllCl [] F w0) (r : List (List UInt8))
  (h : m_base_Words = some r) :
  Calls Tryz.prog 90 #[] w0 fun e w => ∃ (a1 : Option Addr) (c1 : Nat), e = .returned (vs a1 r.length c1) ∧ Ext w0 w ∧ AllCl [Cl.sl cStr a1 c1 r] F w := by
 refine enterK Tryz.func90 rfl Tryz.ntmps90 rfl ?_
 have hI := Bun.start hF hc
 clear hc
 rw [m_base_Words] at h
 refine sr (sac ?_)
 refine nk (sr (l_lit (c := cStr) (xs := ([([115, 105, 122, 101] : List UInt8), ([119, 104, 101, 114, 101] : List UInt8), ([105, 110] : List UInt8), ([100, 101, 102] : List UInt8), ([111, 117, 116] : List UInt8), ([115, 117, 109] : List UInt8), ([112, 114, 111, 100] : List UInt8), ([109, 105, 110] : List UInt8), ([109, 97, 120] : List UInt8), ([115, 99, 97, 110] : List UInt8), ([111, 118, 101, 114] : List UInt8), ([105, 102] : List UInt8), ([99, 97, 115, 116] : List UInt8), ([102, 114, 97, 99] : List UInt8), ([105, 110, 116] : List UInt8), ([102, 105, 120] : List UInt8), ([99, 101, 105, 108] : List UInt8), ([102, 108, 111, 111, 114] : List UInt8), ([122, 101, 114, 111] : List UInt8), ([101, 118, 101, 110] : List UInt8), ([115, 97, 116] : List UInt8), ([119, 114, 97, 112] : List UInt8)] : List (List UInt8))) (vs := [(0, (str ([115, 105, 122, 101] : List UInt8))), (1, (str ([119, 104, 101, 114, 101] : List UInt8))), (2, (str ([105, 110] : List UInt8))), (3, (str ([100, 101, 102] : List UInt8))), (4, (str ([111, 117, 116] : List UInt8))), (5, (str ([115, 117, 109] : List UInt8))), (6, (str ([112, 114, 111, 100] : List UInt8))), (7, (str ([109, 105, 110] : List UInt8))), (8, (str ([109, 97, 120] : List UInt8))), (9, (str ([115, 99, 97, 110] : List UInt8))), (10, (str ([111, 118, 101, 114] : List UInt8))), (11, (str ([105, 102] : List UInt8))), (12, (str ([99, 97, 115, 116] : List UInt8))), (13, (str ([102, 114, 97, 99] : List UInt8))), (14, (str ([105, 110, 116] : List UInt8))), (15, (str ([102, 105, 120] : List UInt8))), (16, (str ([99, 101, 105, 108] : List UInt8))), (17, (str ([102, 108, 111, 111, 114] : List UInt8))), (18, (str ([122, 101, 114, 111] : List UInt8))), (19, (str ([101, 118, 101, 110] : List UInt8))), (20, (str ([115, 97, 116] : List UInt8))), (21, (str ([119, 114, 97, 112] : List UInt8)))]) (cs := #[(str ([115, 105, 122, 101] : List UInt8)), (str ([119, 104, 101, 114, 101] : List UInt8)), (str ([105, 110] : List UInt8)), (str ([100, 101, 102] : List UInt8)), (str ([111, 117, 116] : List UInt8)), (str ([115, 117, 109] : List UInt8)), (str ([112, 114, 111, 100] : List UInt8)), (str ([109, 105, 110] : List UInt8)), (str ([109, 97, 120] : List UInt8)), (str ([115, 99, 97, 110] : List UInt8)), (str ([111, 118, 101, 114] : List UInt8)), (str ([105, 102] : List UInt8)), (str ([99, 97, 115, 116] : List UInt8)), (str ([102, 114, 97, 99] : List UInt8)), (str ([105, 110, 116] : List UInt8)), (str ([102, 105, 120] : List UInt8)), (str ([99, 101, 105, 108] : List UInt8)), (str ([102, 108, 111, 111, 114] : List UInt8)), (str ([122, 101, 114, 111] : List UInt8)), (str ([101, 118, 101, 110] : List UInt8)), (str ([115, 97, 116] : List UInt8)), (str ([119, 114, 97, 112] : List UInt8))]) (css := [[(str ([115, 105, 122, 101] : List UInt8))], [(str ([119, 104, 101, 114, 101] : List UInt8))], [(str ([105, 110] : List UInt8))], [(str ([100, 101, 102] : List UInt8))], [(str ([111, 117, 116] : List UInt8))], [(str ([115, 117, 109] : List UInt8))], [(str ([112, 114, 111, 100] : List UInt8))], [(str ([109, 105, 110] : List UInt8))], [(str ([109, 97, 120] : List UInt8))], [(str ([115, 99, 97, 110] : List UInt8))], [(str ([111, 118, 101, 114] : List UInt8))], [(str ([105, 102] : List UInt8))], [(str ([99, 97, 115, 116] : List UInt8))], [(str ([102, 114, 97, 99] : List UInt8))], [(str ([105, 110, 116] : List UInt8))], [(str ([102, 105, 120] : List UInt8))], [(str ([99, 101, 105, 108] : List UInt8))], [(str ([102, 108, 111, 111, 114] : List UInt8))], [(str ([122, 101, 114, 111] : List UInt8))], [(str ([101, 118, 101, 110] : List UInt8))], [(str ([115, 97, 116] : List UInt8))], [(str ([119, 114, 97, 112] : List UInt8))]]) hI gn rfl rfl u55 info_9 rfl ⟨rfl, ev_const, ⟨rfl, ev_const, ⟨rfl, ev_const, ⟨rfl, ev_const, ⟨rfl, ev_const, ⟨rfl, ev_const, ⟨rfl, ev_const, ⟨rfl, ev_const, ⟨rfl, ev_const, ⟨rfl, ev_const, ⟨rfl, ev_const, ⟨rfl, ev_const, ⟨rfl, ev_const, ⟨rfl, ev_const, ⟨rfl, ev_const, ⟨rfl, ev_const, ⟨rfl, ev_const, ⟨rfl, ev_const, ⟨rfl, ev_const, ⟨rfl, ev_const, ⟨rfl, ev_const, ⟨rfl, ev_const, trivial⟩⟩⟩⟩⟩⟩⟩⟩⟩⟩⟩⟩⟩⟩⟩⟩⟩⟩⟩⟩⟩⟩ (by kernel_rfl) ⟨rfl, ⟨rfl, ⟨rfl, ⟨rfl, ⟨rfl, ⟨rfl, ⟨rfl, ⟨rfl, ⟨rfl, ⟨rfl, ⟨rfl, ⟨rfl, ⟨rfl, ⟨rfl, ⟨rfl, ⟨rfl, ⟨rfl, ⟨rfl, ⟨rfl, ⟨rfl, ⟨rfl, ⟨rfl, trivial⟩⟩⟩⟩⟩⟩⟩⟩⟩⟩⟩⟩⟩⟩⟩⟩⟩⟩⟩⟩⟩⟩ rfl rfl rfl ?_))
 clear hI; intro b1 c2 w1 hI
 refine sa ?_
 refine nk (c_ret ?_)
 obtain ⟨c3, hI⟩ := hI.release .z
 obtain rfl := some_inj h
 exact q_ret (vs := [(vs (some ⟨b1, 0, none⟩) ([([115, 105, 122, 101] : List UInt8), ([119, 104, 101, 114, 101] : List UInt8), ([105, 110] : List UInt8), ([100, 101, 102] : List UInt8), ([111, 117, 116] : List UInt8), ([115, 117, 109] : List UInt8), ([112, 114, 111, 100] : List UInt8), ([109, 105, 110] : List UInt8), ([109, 97, 120] : List UInt8), ([115, 99, 97, 110] : List UInt8), ([111, 118, 101, 114] : List UInt8), ([105, 102] : List UInt8), ([99, 97, 115, 116] : List UInt8), ([102, 114, 97, 99] : List UInt8), ([105, 110, 116] : List UInt8), ([102, 105, 120] : List UInt8), ([99, 101, 105, 108] : List UInt8), ([102, 108, 111, 111, 114] : List UInt8), ([122, 101, 114, 111] : List UInt8), ([101, 118, 101, 110] : List UInt8), ([115, 97, 116] : List UInt8), ([119, 114, 97, 112] : List UInt8)] : List (List UInt8)).length 22)]) Tryz.results90 ⟨ev_tmp rfl rfl, trivial⟩ ⟨some ⟨b1, 0, none⟩, 22, rfl, hI.ext0, hI.fin ⟨.z, trivial⟩⟩
theorem c_base_Has (F : NP) (w0 : World) (hF : ∀ k, F k → k < w0.heap.size) (l1 : List (List UInt8)) (s1 : List UInt8) (a1 : Option Addr) (c1 : Nat) (hc : AllCl [Cl.sl cStr a1 c1 l1] F w0) (r : Bool)
  (h : m_base_Has l1 s1 = some r) :
  Calls Tryz.prog 89 #[vs a1 l1.length c1, (str s1)] w0 fun e w => e = .returned (vb r) ∧ Ext w0 w ∧ AllCl [] F w := by
 refine enterK Tryz.func89 rfl Tryz.ntmps89 rfl ?_
 have hI := Bun.start hF hc
 clear hc
 rw [m_base_Has] at h
 refine sr (sac ?_)
 refine nk (c_seq (sr (sac ?_)))
 refine nk (c_block (c_loop (α := Nat × Int) (fun x => fun w => ∃ C, Bun noM F w0 C w [] [Cl.sl cStr a1 c1 l1] ∧ m_base_Has_l1 l1 s1 (x.1) (x.2) = some r) (fun x _ => x.1) (fun x => [(0, vs a1 l1.length c1), (1, (str s1)), (5, vi (x.2))]) (fu, 0) ⟨_, hI.arr .n ⟨.z, trivial⟩, h⟩ ⟨rfl, rfl, rfl, trivial⟩ ?_))
 clear h hI; rintro ⟨fuel1, i1⟩ w1 ⟨c2, hI, h⟩
 dsimp only at hI h
 rcases fuel1 with _ | fuel1
 ·rw [m_base_Has_l1] at h; cases h
 rw [m_base_Has_l1] at h
 refine c_sub (e := [(0, vs a1 l1.length c1), (1, (str s1)), (5, vi i1)]) ⟨rfl, rfl, rfl, trivial⟩ ?_
 refine c_seq (sr (sm ?_))
 refine sm ?_
 refine sq (y_lenl rfl u55 et) ?_
 refine sq (y_lss rfl et et) ?_
 refine nk (cif h et (fun hb h => ?_) (fun hb h => ?_))
 ·refine c_skip (k_same (c_seq (c_block (sr (sm ?_)))))
  refine sm ?_
  obtain ⟨e1, hx1, h⟩ := bnd_some h
  obtain ⟨ad1, cs1, hA1, hr1, hq1⟩ := hI.clat .z hx1
  obtain rfl : cs1 = [(str e1)] := hr1
  refine sq (y_indexAddr rfl u55 size_9 et et (lat_bd hx1) hA1) ?_
  refine sq (y_load1 (v := (str e1)) rfl et u9 rfl hq1.1) ?_
  refine sm ?_
  refine sq (y_eqs rfl et et) ?_
  refine nk (cif h et (fun hb h => ?_) (fun hb h => ?_))
  ·refine sr (sac ?_)
   refine nk (c_ret ?_)
   obtain rfl := some_inj h
   exact q_ret (vs := [vb true]) Tryz.results89 ⟨ev_tmp rfl rfl, trivial⟩ (fq hI trivial)
  refine c_skip (k_same (c_region rfl ?_))
  refine sm ?_
  refine sq (y_add rfl et ev_const) ?_
  refine sa ?_
  refine s_nil ?_
  exact k_loop (fuel1, wi64 (i1 + 1)) ⟨rfl, rfl, rfl, trivial⟩ ⟨_, hI.arr .n ⟨.z, trivial⟩, h⟩ (Nat.lt_succ_self _)
 refine c_exit ?_
 refine k_in ?_
 refine k_same (sr (sac ?_))
 refine nk (c_ret ?_)
 obtain rfl := some_inj h
 exact q_ret (vs := [vb false]) Tryz.results89 ⟨ev_tmp rfl rfl, trivial⟩ (fq hI trivial)
theorem c_base_Name (F : NP) (w0 : World) (hF : ∀ k, F k → k < w0.heap.size) (s1 : List UInt8) (hc : AllCl [] F w0) (r : Bool)
  (h : m_base_Name s1 = some r) :
  Calls Tryz.prog 43 #[(str s1)] w0 fun e w => e = .returned (vb r) ∧ Ext w0 w ∧ AllCl [] F w := by
 refine enterK Tryz.func43 rfl Tryz.ntmps43 rfl ?_
 have hI := Bun.start hF hc
 clear hc
 rw [m_base_Name] at h
 refine sr (sac ?_)
 refine nk (c_seq (sr (sm ?_)))
 refine sq (y_lens rfl u9 et) ?_
 refine sq (y_lss rfl et ev_const) ?_
 refine sm ?_
 refine s_gval (g_false rfl rfl rfl rfl) rfl (fun hc => y_move rfl et) ?_
 refine s_gval (g_false rfl rfl rfl rfl) rfl (fun hc => y_lens rfl u9 (ev_gv et hc)) ?_
 refine s_gval (g_false rfl rfl rfl rfl) rfl (fun hc => y_gtr rfl (ev_gv et hc) ev_const) ?_
 refine sq (y_or rfl et et) ?_
 refine sm ?_
 obtain ⟨r1, hx1, h⟩ := bnd_some h
 replace hx1 := gd_some hx1
 refine s_gcallS (β := (Option Addr) × Nat) (fun x => (vs (x.1) r1.length (x.2))) (fun x w' => AllCl [Cl.sl cStr (x.1) (x.2) r1] (Dj F noM) w') (g_false rfl rfl rfl rfl) rfl (fun hc => (r_callF (vs := []) rfl ok_90 trivial)) (fun hc => (c_base_Words (Dj F noM) w0 hI.lt trivial r1 (hx1 hc)).mono fun _ _ ⟨a1, c1, k1_, k2_, k3_⟩ => ⟨(a1, c1), k1_, k2_, k3_⟩) ?_
 rintro ⟨a1, c1⟩ w1 hx2 hl1; replace hI := hI.ext hx2
 have hI := hI.add (c := Cl.gsl (!((decide ((s1.length : Int) < 1)) || (decide (16 < (s1.length : Int))))) cStr a1 c1 r1) (fun hc => (hl1 hc).1)
 refine s_gval (g_false rfl rfl rfl rfl) rfl (fun hc => y_move rfl et) ?_
 obtain ⟨r2, hx3, h⟩ := bnd_some h
 replace hx3 := gd_some hx3
 refine s_gcallU (v := (vb r2)) (g_false rfl rfl rfl rfl) rfl (fun hc => (r_callF (vs := [vs a1 r1.length c1, (str s1)]) rfl ok_89 ⟨(ev_gv et hc), ⟨(ev_gv et hc), trivial⟩⟩)) (fun hc => (c_base_Has (Dj F noM) w1 hI.lt r1 s1 a1 c1 ⟨(hI.get .z hc), trivial⟩ r2 (hx3 hc)).mono fun _ _ k => ⟨k.1, k.2.1⟩) ?_
 intro w2 hx4; replace hI := hI.ext hx4
 refine sq (y_or rfl et et) ?_
 refine nk (cif h et (fun hb h => ?_) (fun hb h => ?_))
 ·refine sr (sac ?_)
  refine nk (c_ret ?_)
  obtain rfl := some_inj h
  exact q_ret (vs := [vb false]) Tryz.results43 ⟨ev_tmp rfl rfl, trivial⟩ (fq hI trivial)
 refine c_skip (k_same (c_seq (sr (sac ?_))))
 refine nk (c_block (c_loop (α := Nat × Int) (fun x => fun w => ∃ C, Bun noM F w0 C w [] [] ∧ m_base_Name_l1 s1 (x.1) (x.2) = some r) (fun x _ => x.1) (fun x => [(0, (str s1)), (3, vi (x.2))]) (fu, 0) ⟨_, hI.arr .n trivial, h⟩ ⟨rfl, rfl, trivial⟩ ?_))
 clear h hI; rintro ⟨fuel1, i1⟩ w3 ⟨c2, hI, h⟩
 dsimp only at hI h
 rcases fuel1 with _ | fuel1
 ·rw [m_base_Name_l1] at h; cases h
 rw [m_base_Name_l1] at h
 refine c_sub (e := [(0, (str s1)), (3, vi i1)]) ⟨rfl, rfl, trivial⟩ ?_
 refine c_seq (sr (sm ?_))
 refine sm ?_
 refine sq (y_lens rfl u9 et) ?_
 refine sq (y_lss rfl et et) ?_
 refine nk (cif h et (fun hb h => ?_) (fun hb h => ?_))
 ·refine c_skip (k_same (c_seq (c_block (sr (sm ?_)))))
  refine sm ?_
  obtain ⟨b1, hx5, h⟩ := bnd_some h
  refine sq (y_satl rfl u9 et et hx5) ?_
  refine sa ?_
  refine nk (sr (sm ?_))
  refine sq (y_geq rfl et ev_const) ?_
  refine sm ?_
  refine s_gval (g_true rfl rfl rfl rfl) rfl (fun hc => y_move rfl et) ?_
  refine s_gval (g_true rfl rfl rfl rfl) rfl (fun hc => y_leq rfl (ev_gv et hc) ev_const) ?_
  refine sq (y_and rfl et et) ?_
  refine sm ?_
  refine s_gval (g_false rfl rfl rfl rfl) rfl (fun hc => y_move rfl et) ?_
  refine s_gval (g_false rfl rfl rfl rfl) rfl (fun hc => y_gtr rfl (ev_gv et hc) ev_const) ?_
  refine s_gval (g_false rfl rfl rfl rfl) rfl (fun hc => y_move rfl (ev_gv et hc)) ?_
  refine s_gval (g_true2 rfl rfl rfl rfl) rfl (fun hc => y_move rfl et) ?_
  refine s_gval (g_true2 rfl rfl rfl rfl) rfl (fun hc => y_geq rfl (ev_gv et hc) ev_const) ?_
  refine s_gval (g_true2 rfl rfl rfl rfl) rfl (fun hc => y_move rfl (ev_gv et hc)) ?_
  refine s_gval (g_true2 rfl rfl rfl rfl) rfl (fun hc => y_move rfl et) ?_
  refine s_gval (g_true2 rfl rfl rfl rfl) rfl (fun hc => y_leq rfl (ev_gv et hc) ev_const) ?_
  refine s_gval (g_true2 rfl rfl rfl rfl) rfl (fun hc => y_and2 rfl hc et et) ?_
  refine s_gval (g_true2 rfl rfl rfl rfl) rfl (fun hc => y_move rfl (ev_gv et hc)) ?_
  refine s_gval (g_false2 rfl rfl rfl rfl) rfl (fun hc => y_move rfl et) ?_
  refine s_gval (g_false2 rfl rfl rfl rfl) rfl (fun hc => y_eql rfl (ev_gv et hc) ev_const) ?_
  refine s_gval (g_true2 rfl rfl rfl rfl) rfl (fun hc => y_or2 rfl hc et et) ?_
  refine s_gval (g_false rfl rfl rfl rfl) rfl (fun hc => y_and2 rfl hc et et) ?_
  refine sq (y_or rfl et et) ?_
  refine sq (y_not rfl et) ?_
  refine s_nil ?_
  refine k_next (e := [(0, (str s1)), (3, vi i1), (49, (vb (!(((decide (97 ≤ b1)) && (decide (b1 ≤ 122))) || ((decide (0 < i1)) && (((decide (48 ≤ b1)) && (decide (b1 ≤ 57))) || (decide (b1 = 95))))))))]) ⟨rfl, rfl, rfl, trivial⟩ ?_
  refine cif h et (fun hb h => ?_) (fun hb h => ?_)
  ·refine sr (sac ?_)
   refine nk (c_ret ?_)
   obtain rfl := some_inj h
   exact q_ret (vs := [vb false]) Tryz.results43 ⟨ev_tmp rfl rfl, trivial⟩ (fq hI trivial)
  refine c_skip (k_same (c_region rfl ?_))
  refine sm ?_
  refine sq (y_add rfl et ev_const) ?_
  refine sa ?_
  refine s_nil ?_
  exact k_loop (fuel1, wi64 (i1 + 1)) ⟨rfl, rfl, trivial⟩ ⟨_, hI.arr .n trivial, h⟩ (Nat.lt_succ_self _)
 refine c_exit ?_
 refine k_in ?_
 refine k_same (sr (sac ?_))
 refine nk (c_ret ?_)
 obtain rfl := some_inj h
 exact q_ret (vs := [vb true]) Tryz.results43 ⟨ev_tmp rfl rfl, trivial⟩ (fq hI trivial)
theorem c_base_LinRight (F : NP) (w0 : World) (hF : ∀ k, F k → k < w0.heap.size) (l1 : GLin) (a1 : Option Addr) (c1 : Nat) (hc : AllCl [Cl.sl cGMono a1 c1 l1.L] F w0) (r : Bool)
  (h : m_base_LinRight l1 = some r) :
  Calls Tryz.prog 40 #[(Value.agg (ALin l1 a1 c1))] w0 fun e w => e = .returned (vb r) ∧ Ext w0 w ∧ AllCl [] F w := by
 refine enterK Tryz.func40 rfl Tryz.ntmps40 rfl ?_
 have hI := Bun.start hF hc
 clear hc
 rw [m_base_LinRight] at h
 refine sr (l_box (v := (Value.agg (ALin l1 a1 c1))) (cs := (ALin l1 a1 c1)) hI gn rfl rfl et rfl ?_)
 clear hI; intro b1 c2 w1 hI
 obtain ⟨c3, hI⟩ := hI.relBox .z
 refine sac ?_
 refine nk (c_seq (sr (sac ?_)))
 refine nk (c_block (c_loop (α := Nat × Int) (fun x => fun w => ∃ C, Bun noM F w0 C w [] [Cl.blk b1 29 (ALin l1 a1 c1), Cl.sl cGMono a1 c1 l1.L] ∧ m_base_LinRight_l1 l1 (x.1) (x.2) = some r) (fun x _ => x.1) (fun x => [(1, vp b1 0), (3, vi (x.2))]) (fu, 0) ⟨_, hI.arr .n ⟨.z, (.s .z), trivial⟩, h⟩ ⟨rfl, rfl, trivial⟩ ?_))
 clear h hI; rintro ⟨fuel1, i1⟩ w2 ⟨c4, hI, h⟩
 dsimp only at hI h
 rcases fuel1 with _ | fuel1
 ·rw [m_base_LinRight_l1] at h; cases h
 rw [m_base_LinRight_l1] at h
 refine c_sub (e := [(1, vp b1 0), (3, vi i1)]) ⟨rfl, rfl, trivial⟩ ?_
 refine c_seq (sr (sm ?_))
 refine sq (y_fieldAddr rfl et u29 rfl size_27 rfl) ?_
 refine sq (y_load1 (v := (vs a1 l1.L.length c1)) rfl et u27 rfl (hI.kblk (l := [vs a1 l1.L.length c1]) .z rfl).1) ?_
 refine sq (y_lenl rfl u27 et) ?_
 refine sq (y_lss rfl et et) ?_
 refine nk (cif h et (fun hb h => ?_) (fun hb h => ?_))
 ·refine c_skip (k_same (c_seq (c_block (c_seq (c_drawX [] false (.c (0, .q) (.c (1, .q) (.c (2, .q) (.c (3, .q) (.c (4, .q) (.c (5, .q) (.c (6, .s) (.c (7, .q) (.c (8, .q) (.c (9, .q) (.c (10, .q) (.c (11, .q) (.c (12, .q) (.c (13, .q) (.c (14, .q) (.c (15, .q) (.c (16, .q) (.c (17, .q) (.c (18, .q) (.c (19, .q) (.c (20, .q) (.c (21, .q) (.c (22, .q) (.c (23, .q) (.c (24, .q) (.c (25, .q) (.c (26, .q) (.c (27, .q) (.c (28, .q) (.c (29, .q) (.c (30, .q) (.c (31, .q) (.c (32, .q) (.c (33, .q) (.c (34, .q) (.c (35, .q) (.c (36, .q) .n))))))))))))))))))))))))))))))))))))) hI (by kernel_rfl) (by kernel_rfl) ?_)))))
  clear hI; intro w3 hI
  refine a_q rfl gn rfl (fun w' => y_fieldAddr rfl et u29 rfl size_27 rfl) ?_
  refine a_read rfl gn rfl (fun w' hw' => (y_load1 (v := (vs a1 l1.L.length c1)) rfl et u27 rfl ((hI.kblk (l := [vs a1 l1.L.length c1]) .z rfl).at_ (SX.any rfl hw')))) (by kernel_rfl) ?_
  refine a_q rfl gn rfl (fun w' => y_move rfl et) ?_
  obtain ⟨e1, hx1, h⟩ := bnd_some h
  obtain ⟨ad1, cs1, hA1, hr1, hq1⟩ := hI.clat (.s .z) hx1
  obtain rfl : cs1 = [(str e1.Name), vi e1.By] := hr1
  refine a_q rfl gn rfl (fun w' => y_indexAddr rfl u27 size_112 et et (lat_bd hx1) hA1) ?_
  refine a_q rfl gn rfl (fun w' => y_fieldAddr rfl et u112 rfl size_9 rfl) ?_
  refine a_read rfl gn rfl (fun w' hw' => (y_load1 (v := (str e1.Name)) rfl et u9 rfl ((CA.part hq1 rfl).at_ (SX.any rfl hw')))) (by kernel_rfl) ?_
  obtain ⟨r1, hx2, h⟩ := bnd_some h
  refine la_call rfl gn rfl (r_callF (vs := [(str e1.Name)]) rfl ok_43 ⟨et, trivial⟩) (Calls.mono (c_base_Name (Dj F c4) w3 hI.lt e1.Name trivial r1 hx2) ?_)
  rintro _ w4 ⟨rfl, hx3, hl1⟩
  refine ⟨_, rfl, hx3, ?_⟩
  replace hI := (hI.ext hx3)
  refine a_q rfl gn rfl (fun w' => y_not rfl et) ?_
  refine a_q rfl gn rfl (fun w' => y_move rfl et) ?_
  refine a_gval rfl (g_false rfl rfl rfl rfl) rfl (fun hc => fun w' => (y_fieldAddr rfl et u29 rfl size_27 rfl)) ?_
  refine a_gread rfl (g_false rfl rfl rfl rfl) rfl (fun hc => fun w' hw' => (y_load1 (v := (vs a1 l1.L.length c1)) rfl (ev_gv et hc) u27 rfl ((hI.kblk (l := [vs a1 l1.L.length c1]) .z rfl).at_ (SX.any rfl hw')))) (by kernel_rfl) ?_
  refine a_gval rfl (g_false rfl rfl rfl rfl) rfl (fun hc => fun w' => (y_move rfl et)) ?_
  obtain ⟨e2, hx4, h⟩ := bnd_some h
  replace hx4 := gd_some hx4
  obtain ⟨ad2, cs2, hq2⟩ := hI.gclat (.s .z) hx4
  have hq3 : (!(!r1)) = true → CA (Dj F c4) w4 (ad2.add (Int.toNat i1 * 2)) [(str e2.Name), vi e2.By] := fun hc => by have k := hq2 hc; have e : cs2 = _ := k.2.1; rw [← e]; exact k.2.2
  refine a_gval rfl (g_false rfl rfl rfl rfl) rfl (fun hc => fun w' => (y_indexAddr rfl u27 size_112 (ev_gv et hc) (ev_gv et hc) (lat_bd (hx4 hc)) (hq2 hc).1)) ?_
  refine a_gval rfl (g_false rfl rfl rfl rfl) rfl (fun hc => fun w' => (y_fieldAddr rfl (ev_gv et hc) u112 rfl size_2 rfl)) ?_
  refine a_gread rfl (g_false rfl rfl rfl rfl) rfl (fun hc => fun w' hw' => (y_load1 (v := (vi e2.By)) rfl (ev_gv et hc) u2 rfl ((CA.part (hq3 hc) rfl).at_ (SX.any rfl hw')))) (by kernel_rfl) ?_
  refine a_gval rfl (g_false rfl rfl rfl rfl) rfl (fun hc => fun w' => (y_eql rfl (ev_gv et hc) ev_const)) ?_
  refine a_q rfl gn rfl (fun w' => y_or rfl et et) ?_
  refine a_q rfl gn rfl (fun w' => y_move rfl et) ?_
  refine a_gval rfl (g_false rfl rfl rfl rfl) rfl (fun hc => fun w' => (y_move rfl et)) ?_
  refine a_gval rfl (g_false rfl rfl rfl rfl) rfl (fun hc => fun w' => (y_gtr rfl (ev_gv et hc) ev_const)) ?_
  refine a_gval rfl (g_false rfl rfl rfl rfl) rfl (fun hc => fun w' => (y_move rfl (ev_gv et hc))) ?_
  refine a_gval rfl (g_true2 rfl rfl rfl rfl) rfl (fun hc => fun w' => (y_fieldAddr rfl et u29 rfl size_27 rfl)) ?_
  refine a_gread rfl (g_true2 rfl rfl rfl rfl) rfl (fun hc => fun w' hw' => (y_load1 (v := (vs a1 l1.L.length c1)) rfl (ev_gv et hc) u27 rfl ((hI.kblk (l := [vs a1 l1.L.length c1]) .z rfl).at_ (SX.any rfl hw')))) (by kernel_rfl) ?_
  refine a_gval rfl (g_true2 rfl rfl rfl rfl) rfl (fun hc => fun w' => (y_move rfl et)) ?_
  refine a_gval rfl (g_true2 rfl rfl rfl rfl) rfl (fun hc => fun w' => (y_sub rfl (ev_gv et hc) ev_const)) ?_
  obtain ⟨e3, hx5, h⟩ := bnd_some h
  replace hx5 := gd_some hx5
  obtain ⟨ad3, cs3, hq4⟩ := hI.gclat (.s .z) hx5
  have hq5 : ((!((!r1) || (decide (e2.By = 0)))) && (decide (0 < i1))) = true → CA (Dj F c4) w4 (ad3.add (Int.toNat (wi64 (i1 - 1)) * 2)) [(str e3.Name), vi e3.By] := fun hc => by have k := hq4 hc; have e : cs3 = _ := k.2.1; rw [← e]; exact k.2.2
  refine a_gval rfl (g_true2 rfl rfl rfl rfl) rfl (fun hc => fun w' => (y_indexAddr rfl u27 size_112 (ev_gv et hc) (ev_gv et hc) (lat_bd (hx5 hc)) (hq4 hc).1)) ?_
  refine a_gval rfl (g_true2 rfl rfl rfl rfl) rfl (fun hc => fun w' => (y_fieldAddr rfl (ev_gv et hc) u112 rfl size_9 rfl)) ?_
  refine a_gread rfl (g_true2 rfl rfl rfl rfl) rfl (fun hc => fun w' hw' => (y_load1 (v := (str e3.Name)) rfl (ev_gv et hc) u9 rfl ((CA.part (hq5 hc) rfl).at_ (SX.any rfl hw')))) (by kernel_rfl) ?_
  refine a_gval rfl (g_true2 rfl rfl rfl rfl) rfl (fun hc => fun w' => (y_fieldAddr rfl et u29 rfl size_27 rfl)) ?_
  refine a_gread rfl (g_true2 rfl rfl rfl rfl) rfl (fun hc => fun w' hw' => (y_load1 (v := (vs a1 l1.L.length c1)) rfl (ev_gv et hc) u27 rfl ((hI.kblk (l := [vs a1 l1.L.length c1]) .z rfl).at_ (SX.any rfl hw')))) (by kernel_rfl) ?_
  refine a_gval rfl (g_true2 rfl rfl rfl rfl) rfl (fun hc => fun w' => (y_move rfl et)) ?_
  obtain ⟨e4, hx6, h⟩ := bnd_some h
  replace hx6 := gd_some hx6
  obtain ⟨ad4, cs4, hq6⟩ := hI.gclat (.s .z) hx6
  have hq7 : ((!((!r1) || (decide (e2.By = 0)))) && (decide (0 < i1))) = true → CA (Dj F c4) w4 (ad4.add (Int.toNat i1 * 2)) [(str e4.Name), vi e4.By] := fun hc => by have k := hq6 hc; have e : cs4 = _ := k.2.1; rw [← e]; exact k.2.2
  refine a_gval rfl (g_true2 rfl rfl rfl rfl) rfl (fun hc => fun w' => (y_indexAddr rfl u27 size_112 (ev_gv et hc) (ev_gv et hc) (lat_bd (hx6 hc)) (hq6 hc).1)) ?_
  refine a_gval rfl (g_true2 rfl rfl rfl rfl) rfl (fun hc => fun w' => (y_fieldAddr rfl (ev_gv et hc) u112 rfl size_9 rfl)) ?_
  refine a_gread rfl (g_true2 rfl rfl rfl rfl) rfl (fun hc => fun w' hw' => (y_load1 (v := (str e4.Name)) rfl (ev_gv et hc) u9 rfl ((CA.part (hq7 hc) rfl).at_ (SX.any rfl hw')))) (by kernel_rfl) ?_
  refine a_gval rfl (g_true2 rfl rfl rfl rfl) rfl (fun hc => fun w' => (y_ges rfl (ev_gv et hc) (ev_gv et hc))) ?_
  refine a_gval rfl (g_false rfl rfl rfl rfl) rfl (fun hc => fun w' => (y_and2 rfl hc et et)) ?_
  refine a_q rfl gn rfl (fun w' => y_or rfl et et) ?_
  refine a_nil ?_
  refine k_next (e := [(1, vp b1 0), (3, vi i1), (47, (vb (((!r1) || (decide (e2.By = 0))) || ((decide (0 < i1)) && (!Op.bytesLess e3.Name e4.Name)))))]) ⟨rfl, rfl, rfl, trivial⟩ ?_
  refine cif h et (fun hb h => ?_) (fun hb h => ?_)
  ·refine sr (sac ?_)
   refine nk (c_ret ?_)
   obtain rfl := some_inj h
   exact q_ret (vs := [vb false]) Tryz.results40 ⟨ev_tmp rfl rfl, trivial⟩ (fq hI trivial)
  refine c_skip (k_same (c_region rfl ?_))
  refine sm ?_
  refine sq (y_add rfl et ev_const) ?_
  refine sa ?_
  refine s_nil ?_
  exact k_loop (fuel1, wi64 (i1 + 1)) ⟨rfl, rfl, trivial⟩ ⟨_, hI.arr .n ⟨.z, (.s .z), trivial⟩, h⟩ (Nat.lt_succ_self _)
 refine c_exit ?_
 refine k_in ?_
 refine k_same (sr (sac ?_))
 refine nk (c_ret ?_)
 obtain rfl := some_inj h
 exact q_ret (vs := [vb true]) Tryz.results40 ⟨ev_tmp rfl rfl, trivial⟩ (fq hI trivial)
theorem c_ref15_Small (F : NP) (w0 : World) (hF : ∀ k, F k → k < w0.heap.size) (e1 : GExpr) (a1 : Option Addr) (c1 : Nat) (a2 : Option Addr) (c2 : Nat) (a3 : Option Addr) (c3 : Nat) (hc : AllCl [Cl.sl cGMono a1 c1 e1.Lin.L, Cl.sl cGIndex a2 c2 e1.Idx, Cl.sl cGExpr a3 c3 e1.Args] F w0) (r : Bool)
  (h : m_ref15_Small e1 = some r) :
  Calls Tryz.prog 16 #[(Value.agg #[vi e1.Op, (str e1.Name), vi e1.Val.N, vi e1.Val.D, vi e1.Type_.Kind, vi e1.Type_.Bits, vi e1.Type_.Frac, vi e1.Type_.Round, vi e1.Type_.Over, vi e1.Lin.K, vs a1 e1.Lin.L.length c1, vs a2 e1.Idx.length c2, vs a3 e1.Args.length c3])] w0 fun e w => e = .returned (vb r) ∧ Ext w0 w ∧ AllCl [] F w := by
 refine enterK Tryz.func16 rfl Tryz.ntmps16 rfl ?_
 have hI := Bun.start hF hc
 clear hc
 rw [m_ref15_Small] at h
 refine sr (l_box (v := (Value.agg #[vi e1.Op, (str e1.Name), vi e1.Val.N, vi e1.Val.D, vi e1.Type_.Kind, vi e1.Type_.Bits, vi e1.Type_.Frac, vi e1.Type_.Round, vi e1.Type_.Over, vi e1.Lin.K, vs a1 e1.Lin.L.length c1, vs a2 e1.Idx.length c2, vs a3 e1.Args.length c3])) (cs := #[vi e1.Op, (str e1.Name), vi e1.Val.N, vi e1.Val.D, vi e1.Type_.Kind, vi e1.Type_.Bits, vi e1.Type_.Frac, vi e1.Type_.Round, vi e1.Type_.Over, vi e1.Lin.K, vs a1 e1.Lin.L.length c1, vs a2 e1.Idx.length c2, vs a3 e1.Args.length c3]) hI gn rfl rfl et rfl ?_)
 clear hI; intro b1 c4 w1 hI
 obtain ⟨c5, hI⟩ := hI.relBox .z
 refine sac ?_
 refine nk (sr (sq (y_loadN (l := [vi e1.Op, (str e1.Name), vi e1.Val.N, vi e1.Val.D, vi e1.Type_.Kind, vi e1.Type_.Bits, vi e1.Type_.Frac, vi e1.Type_.Round, vi e1.Type_.Over, vi e1.Lin.K, vs a1 e1.Lin.L.length c1, vs a2 e1.Idx.length c2, vs a3 e1.Args.length c3]) rfl et u39 rfl size_39 (hI.kblk (l := [vi e1.Op, (str e1.Name), vi e1.Val.N, vi e1.Val.D, vi e1.Type_.Kind, vi e1.Type_.Bits, vi e1.Type_.Frac, vi e1.Type_.Round, vi e1.Type_.Over, vi e1.Lin.K, vs a1 e1.Lin.L.length c1, vs a2 e1.Idx.length c2, vs a3 e1.Args.length c3]) .z rfl).1) ?_))
 obtain ⟨r1, hx1, h⟩ := bnd_some h
 refine s_call gn rfl (r_callF (vs := [(Value.agg #[vi e1.Op, (str e1.Name), vi e1.Val.N, vi e1.Val.D, vi e1.Type_.Kind, vi e1.Type_.Bits, vi e1.Type_.Frac, vi e1.Type_.Round, vi e1.Type_.Over, vi e1.Lin.K, vs a1 e1.Lin.L.length c1, vs a2 e1.Idx.length c2, vs a3 e1.Args.length c3]), vi 300]) rfl ok_13 ⟨et, ⟨ev_const, trivial⟩⟩) (Calls.mono (c_base_Weigh (Dj F c5) w1 hI.lt e1 300 a1 c1 a2 c2 a3 c3 ⟨(hI.get (.s .z)), (hI.get (.s (.s .z))), (hI.get (.s (.s (.s .z)))), trivial⟩ r1 hx1) ?_)
 rintro _ w2 ⟨rfl, hx2, hl1⟩
 refine ⟨_, rfl, ?_⟩
 replace hI := (hI.ext hx2)
 refine sq (y_leq rfl et ev_const) ?_
 refine sa ?_
 refine nk (c_ret ?_)
 obtain rfl := some_inj h
 exact q_ret (vs := [(vb (decide (r1 ≤ 300)))]) Tryz.results16 ⟨ev_tmp rfl rfl, trivial⟩ (fq hI trivial)
theorem c_ref14_depth_b (rec_ : (GExpr → Int → Option Int)) (hrec : ∀ (F : NP) (w0 : World) (hF : ∀ k, F k → k < w0.heap.size) (e1 : GExpr) (most1 : Int) (a1 : Option Addr) (c1 : Nat) (a2 : Option Addr) (c2 : Nat) (a3 : Option Addr) (c3 : Nat) (hc : AllCl [Cl.sl cGMono a1 c1 e1.Lin.L, Cl.sl cGIndex a2 c2 e1.Idx, Cl.sl cGExpr a3 c3 e1.Args] F w0) (r : Int) (h : rec_ e1 most1 = some r), Calls Tryz.prog 105 #[(Value.agg #[vi e1.Op, (str e1.Name), vi e1.Val.N, vi e1.Val.D, vi e1.Type_.Kind, vi e1.Type_.Bits, vi e1.Type_.Frac, vi e1.Type_.Round, vi e1.Type_.Over, vi e1.Lin.K, vs a1 e1.Lin.L.length c1, vs a2 e1.Idx.length c2, vs a3 e1.Args.length c3]), vi most1] w0 fun e w => e = .returned (vi r) ∧ Ext w0 w ∧ AllCl [] F w)
  (F : NP) (w0 : World) (hF : ∀ k, F k → k < w0.heap.size) (e1 : GExpr) (most1 : Int) (a1 : Option Addr) (c1 : Nat) (a2 : Option Addr) (c2 : Nat) (a3 : Option Addr) (c3 : Nat) (hc : AllCl [Cl.sl cGMono a1 c1 e1.Lin.L, Cl.sl cGIndex a2 c2 e1.Idx, Cl.sl cGExpr a3 c3 e1.Args] F w0) (r : Int) (h : m_ref14_depth_b rec_ e1 most1 = some r) : Calls Tryz.prog 105 #[(Value.agg #[vi e1.Op, (str e1.Name), vi e1.Val.N, vi e1.Val.D, vi e1.Type_.Kind, vi e1.Type_.Bits, vi e1.Type_.Frac, vi e1.Type_.Round, vi e1.Type_.Over, vi e1.Lin.K, vs a1 e1.Lin.L.length c1, vs a2 e1.Idx.length c2, vs a3 e1.Args.length c3]), vi most1] w0 fun e w => e = .returned (vi r) ∧ Ext w0 w ∧ AllCl [] F w := by
 refine enterK Tryz.func105 rfl Tryz.ntmps105 rfl ?_
 have hI := Bun.start hF hc
 clear hc
 rw [m_ref14_depth_b] at h
 refine sr (l_box (v := (Value.agg #[vi e1.Op, (str e1.Name), vi e1.Val.N, vi e1.Val.D, vi e1.Type_.Kind, vi e1.Type_.Bits, vi e1.Type_.Frac, vi e1.Type_.Round, vi e1.Type_.Over, vi e1.Lin.K, vs a1 e1.Lin.L.length c1, vs a2 e1.Idx.length c2, vs a3 e1.Args.length c3])) (cs := #[vi e1.Op, (str e1.Name), vi e1.Val.N, vi e1.Val.D, vi e1.Type_.Kind, vi e1.Type_.Bits, vi e1.Type_.Frac, vi e1.Type_.Round, vi e1.Type_.Over, vi e1.Lin.K, vs a1 e1.Lin.L.length c1, vs a2 e1.Idx.length c2, vs a3 e1.Args.length c3]) hI gn rfl rfl et rfl ?_)
 clear hI; intro b1 c4 w1 hI
 obtain ⟨c5, hI⟩ := hI.relBox .z
 refine sac ?_
 refine nk (sr (sac ?_))
 refine nk (c_seq (sr (sac ?_)))
 refine nk (c_block (c_loop (α := Nat × Int × Int) (fun x => fun w => ∃ C, Bun noM F w0 C w [] [Cl.blk b1 39 #[vi e1.Op, (str e1.Name), vi e1.Val.N, vi e1.Val.D, vi e1.Type_.Kind, vi e1.Type_.Bits, vi e1.Type_.Frac, vi e1.Type_.Round, vi e1.Type_.Over, vi e1.Lin.K, vs a1 e1.Lin.L.length c1, vs a2 e1.Idx.length c2, vs a3 e1.Args.length c3], Cl.sl cGMono a1 c1 e1.Lin.L, Cl.sl cGIndex a2 c2 e1.Idx, Cl.sl cGExpr a3 c3 e1.Args] ∧ m_ref14_depth_l1 e1 most1 rec_ (x.1) (x.2.1) (x.2.2) = some r) (fun x _ => x.1) (fun x => [(1, vi most1), (2, vp b1 0), (5, vi (x.2.1)), (6, vi (x.2.2))]) (fu, 1, 0) ⟨_, hI.arr .n ⟨.z, (.s .z), (.s (.s .z)), (.s (.s (.s .z))), trivial⟩, h⟩ ⟨rfl, rfl, rfl, rfl, trivial⟩ ?_))
 clear h hI; rintro ⟨fuel1, d1, i1⟩ w2 ⟨c6, hI, h⟩
 dsimp only at hI h
 rcases fuel1 with _ | fuel1
 ·rw [m_ref14_depth_l1] at h; cases h
 rw [m_ref14_depth_l1] at h
 refine c_sub (e := [(1, vi most1), (2, vp b1 0), (5, vi d1), (6, vi i1)]) ⟨rfl, rfl, rfl, rfl, trivial⟩ ?_
 refine c_seq (sr (sm ?_))
 refine sq (y_fieldAddr rfl et u39 rfl size_37 rfl) ?_
 refine sq (y_load1 (v := (vs a3 e1.Args.length c3)) rfl et u37 rfl (hI.kblk (l := [vs a3 e1.Args.length c3]) .z rfl).1) ?_
 refine sq (y_lenl rfl u37 et) ?_
 refine sq (y_lss rfl et et) ?_
 refine sm ?_
 refine s_gval (g_true rfl rfl rfl rfl) rfl (fun hc => y_move rfl et) ?_
 refine s_gval (g_true rfl rfl rfl rfl) rfl (fun hc => y_gtr rfl (ev_gv et hc) ev_const) ?_
 refine sq (y_and rfl et et) ?_
 refine nk (cif h et (fun hb h => ?_) (fun hb h => ?_))
 ·refine c_skip (k_same (c_seq (c_block (c_region rfl ?_))))
  refine sm ?_
  refine sq (y_fieldAddr rfl et u39 rfl size_37 rfl) ?_
  refine sq (y_load1 (v := (vs a3 e1.Args.length c3)) rfl et u37 rfl (hI.kblk (l := [vs a3 e1.Args.length c3]) .z rfl).1) ?_
  refine sm ?_
  obtain ⟨e2, hx1, h⟩ := bnd_some h
  obtain ⟨ad1, cs1, hA1, hr1, hq1⟩ := hI.clat (.s (.s (.s .z))) hx1
  obtain ⟨a4, c7, a5, c8, a6, c9, rfl, hf1, hf2, hf3⟩ := cGExpr_out hr1
  have hI := hI.add (c := Cl.sl cGMono a4 c7 e2.Lin.L) hf1
  have hI := hI.add (c := Cl.sl cGIndex a5 c8 e2.Idx) hf2
  have hI := hI.add (c := Cl.sl cGExpr a6 c9 e2.Args) hf3
  refine sq (y_indexAddr rfl u37 size_39 et et (lat_bd hx1) hA1) ?_
  refine sq (y_loadN (l := [vi e2.Op, (str e2.Name), vi e2.Val.N, vi e2.Val.D, vi e2.Type_.Kind, vi e2.Type_.Bits, vi e2.Type_.Frac, vi e2.Type_.Round, vi e2.Type_.Over, vi e2.Lin.K, vs a4 e2.Lin.L.length c7, vs a5 e2.Idx.length c8, vs a6 e2.Args.length c9]) rfl et u39 rfl size_39 hq1.1) ?_
  refine sm ?_
  refine sq (y_sub rfl et ev_const) ?_
  obtain ⟨r1, hx2, h⟩ := bnd_some h
  refine s_call gn rfl (r_callF (vs := [(Value.agg #[vi e2.Op, (str e2.Name), vi e2.Val.N, vi e2.Val.D, vi e2.Type_.Kind, vi e2.Type_.Bits, vi e2.Type_.Frac, vi e2.Type_.Round, vi e2.Type_.Over, vi e2.Lin.K, vs a4 e2.Lin.L.length c7, vs a5 e2.Idx.length c8, vs a6 e2.Args.length c9]), (vi (wi64 (most1 - 1)))]) rfl ok_105 ⟨et, ⟨et, trivial⟩⟩) (Calls.mono (hrec (Dj F c6) w2 hI.lt e2 (wi64 (most1 - 1)) a4 c7 a5 c8 a6 c9 ⟨(hI.get (.s (.s .z))), (hI.get (.s .z)), (hI.get .z), trivial⟩ r1 hx2) ?_)
  rintro _ w3 ⟨rfl, hx3, hl1⟩
  refine ⟨_, rfl, ?_⟩
  replace hI := (hI.ext hx3)
  refine sq (y_add rfl ev_const et) ?_
  refine sq (y_max rfl et et) ?_
  refine sa ?_
  refine nk (c_region rfl ?_)
  refine sm ?_
  refine sq (y_add rfl et ev_const) ?_
  refine sa ?_
  refine s_nil ?_
  exact k_loop (fuel1, max d1 (wi64 (1 + r1)), wi64 (i1 + 1)) ⟨rfl, rfl, rfl, rfl, trivial⟩ ⟨_, hI.arr .n ⟨(.s (.s (.s .z))), (.s (.s (.s (.s .z)))), (.s (.s (.s (.s (.s .z))))), (.s (.s (.s (.s (.s (.s .z)))))), trivial⟩, h⟩ (Nat.lt_succ_self _)
 refine c_exit ?_
 refine k_in ?_
 refine k_same (sr (sm ?_))
 refine sa ?_
 refine nk (c_ret ?_)
 obtain rfl := some_inj h
 exact q_ret (vs := [vi d1]) Tryz.results105 ⟨ev_tmp rfl rfl, trivial⟩ (fq hI trivial)
theorem c_ref14_depth_r (n : Nat) : ∀ (F : NP) (w0 : World) (hF : ∀ k, F k → k < w0.heap.size) (e1 : GExpr) (most1 : Int) (a1 : Option Addr) (c1 : Nat) (a2 : Option Addr) (c2 : Nat) (a3 : Option Addr) (c3 : Nat) (hc : AllCl [Cl.sl cGMono a1 c1 e1.Lin.L, Cl.sl cGIndex a2 c2 e1.Idx, Cl.sl cGExpr a3 c3 e1.Args] F w0) (r : Int) (h : m_ref14_depth_r n e1 most1 = some r), Calls Tryz.prog 105 #[(Value.agg #[vi e1.Op, (str e1.Name), vi e1.Val.N, vi e1.Val.D, vi e1.Type_.Kind, vi e1.Type_.Bits, vi e1.Type_.Frac, vi e1.Type_.Round, vi e1.Type_.Over, vi e1.Lin.K, vs a1 e1.Lin.L.length c1, vs a2 e1.Idx.length c2, vs a3 e1.Args.length c3]), vi most1] w0 fun e w => e = .returned (vi r) ∧ Ext w0 w ∧ AllCl [] F w := by
 induction n with
 | zero => intro F w0 hF e1 most1 a1 c1 a2 c2 a3 c3 hc r h; cases h
 | succ n ih => intro F w0 hF e1 most1 a1 c1 a2 c2 a3 c3 hc r h; exact c_ref14_depth_b (m_ref14_depth_r n) ih F w0 hF e1 most1 a1 c1 a2 c2 a3 c3 hc r h
theorem c_ref14_depth (F : NP) (w0 : World) (hF : ∀ k, F k → k < w0.heap.size) (e1 : GExpr) (most1 : Int) (a1 : Option Addr) (c1 : Nat) (a2 : Option Addr) (c2 : Nat) (a3 : Option Addr) (c3 : Nat) (hc : AllCl [Cl.sl cGMono a1 c1 e1.Lin.L, Cl.sl cGIndex a2 c2 e1.Idx, Cl.sl cGExpr a3 c3 e1.Args] F w0) (r : Int) (h : m_ref14_depth e1 most1 = some r) : Calls Tryz.prog 105 #[(Value.agg #[vi e1.Op, (str e1.Name), vi e1.Val.N, vi e1.Val.D, vi e1.Type_.Kind, vi e1.Type_.Bits, vi e1.Type_.Frac, vi e1.Type_.Round, vi e1.Type_.Over, vi e1.Lin.K, vs a1 e1.Lin.L.length c1, vs a2 e1.Idx.length c2, vs a3 e1.Args.length c3]), vi most1] w0 fun e w => e = .returned (vi r) ∧ Ext w0 w ∧ AllCl [] F w := c_ref14_depth_r fu F w0 hF e1 most1 a1 c1 a2 c2 a3 c3 hc r h
theorem c_ref14_Depth (F : NP) (w0 : World) (hF : ∀ k, F k → k < w0.heap.size) (e1 : GExpr) (a1 : Option Addr) (c1 : Nat) (a2 : Option Addr) (c2 : Nat) (a3 : Option Addr) (c3 : Nat) (hc : AllCl [Cl.sl cGMono a1 c1 e1.Lin.L, Cl.sl cGIndex a2 c2 e1.Idx, Cl.sl cGExpr a3 c3 e1.Args] F w0) (r : Int)
  (h : m_ref14_Depth e1 = some r) :
  Calls Tryz.prog 49 #[(Value.agg #[vi e1.Op, (str e1.Name), vi e1.Val.N, vi e1.Val.D, vi e1.Type_.Kind, vi e1.Type_.Bits, vi e1.Type_.Frac, vi e1.Type_.Round, vi e1.Type_.Over, vi e1.Lin.K, vs a1 e1.Lin.L.length c1, vs a2 e1.Idx.length c2, vs a3 e1.Args.length c3])] w0 fun e w => e = .returned (vi r) ∧ Ext w0 w ∧ AllCl [] F w := by
 refine enterK Tryz.func49 rfl Tryz.ntmps49 rfl ?_
 have hI := Bun.start hF hc
 clear hc
 rw [m_ref14_Depth] at h
 refine sr (l_box (v := (Value.agg #[vi e1.Op, (str e1.Name), vi e1.Val.N, vi e1.Val.D, vi e1.Type_.Kind, vi e1.Type_.Bits, vi e1.Type_.Frac, vi e1.Type_.Round, vi e1.Type_.Over, vi e1.Lin.K, vs a1 e1.Lin.L.length c1, vs a2 e1.Idx.length c2, vs a3 e1.Args.length c3])) (cs := #[vi e1.Op, (str e1.Name), vi e1.Val.N, vi e1.Val.D, vi e1.Type_.Kind, vi e1.Type_.Bits, vi e1.Type_.Frac, vi e1.Type_.Round, vi e1.Type_.Over, vi e1.Lin.K, vs a1 e1.Lin.L.length c1, vs a2 e1.Idx.length c2, vs a3 e1.Args.length c3]) hI gn rfl rfl et rfl ?_)
 clear hI; intro b1 c4 w1 hI
 obtain ⟨c5, hI⟩ := hI.relBox .z
 refine sac ?_
 refine nk (sr (sq (y_loadN (l := [vi e1.Op, (str e1.Name), vi e1.Val.N, vi e1.Val.D, vi e1.Type_.Kind, vi e1.Type_.Bits, vi e1.Type_.Frac, vi e1.Type_.Round, vi e1.Type_.Over, vi e1.Lin.K, vs a1 e1.Lin.L.length c1, vs a2 e1.Idx.length c2, vs a3 e1.Args.length c3]) rfl et u39 rfl size_39 (hI.kblk (l := [vi e1.Op, (str e1.Name), vi e1.Val.N, vi e1.Val.D, vi e1.Type_.Kind, vi e1.Type_.Bits, vi e1.Type_.Frac, vi e1.Type_.Round, vi e1.Type_.Over, vi e1.Lin.K, vs a1 e1.Lin.L.length c1, vs a2 e1.Idx.length c2, vs a3 e1.Args.length c3]) .z rfl).1) ?_))
 obtain ⟨r1, hx1, h⟩ := bnd_some h
 refine s_call gn rfl (r_callF (vs := [(Value.agg #[vi e1.Op, (str e1.Name), vi e1.Val.N, vi e1.Val.D, vi e1.Type_.Kind, vi e1.Type_.Bits, vi e1.Type_.Frac, vi e1.Type_.Round, vi e1.Type_.Over, vi e1.Lin.K, vs a1 e1.Lin.L.length c1, vs a2 e1.Idx.length c2, vs a3 e1.Args.length c3]), vi 41]) rfl ok_105 ⟨et, ⟨ev_const, trivial⟩⟩) (Calls.mono (c_ref14_depth (Dj F c5) w1 hI.lt e1 41 a1 c1 a2 c2 a3 c3 ⟨(hI.get (.s .z)), (hI.get (.s (.s .z))), (hI.get (.s (.s (.s .z)))), trivial⟩ r1 hx1) ?_)
 rintro _ w2 ⟨rfl, hx2, hl1⟩
 refine ⟨_, rfl, ?_⟩
 replace hI := (hI.ext hx2)
 refine sa ?_
 refine nk (c_ret ?_)
 obtain rfl := some_inj h
 exact q_ret (vs := [vi r1]) Tryz.results49 ⟨ev_tmp rfl rfl, trivial⟩ (fq hI trivial)
theorem c_ref14_size_b (rec_ : (GExpr → Int → Option Int)) (hrec : ∀ (F : NP) (w0 : World) (hF : ∀ k, F k → k < w0.heap.size) (e1 : GExpr) (most1 : Int) (a1 : Option Addr) (c1 : Nat) (a2 : Option Addr) (c2 : Nat) (a3 : Option Addr) (c3 : Nat) (hc : AllCl [Cl.sl cGMono a1 c1 e1.Lin.L, Cl.sl cGIndex a2 c2 e1.Idx, Cl.sl cGExpr a3 c3 e1.Args] F w0) (r : Int) (h : rec_ e1 most1 = some r), Calls Tryz.prog 106 #[(Value.agg #[vi e1.Op, (str e1.Name), vi e1.Val.N, vi e1.Val.D, vi e1.Type_.Kind, vi e1.Type_.Bits, vi e1.Type_.Frac, vi e1.Type_.Round, vi e1.Type_.Over, vi e1.Lin.K, vs a1 e1.Lin.L.length c1, vs a2 e1.Idx.length c2, vs a3 e1.Args.length c3]), vi most1] w0 fun e w => e = .returned (vi r) ∧ Ext w0 w ∧ AllCl [] F w)
  (F : NP) (w0 : World) (hF : ∀ k, F k → k < w0.heap.size) (e1 : GExpr) (most1 : Int) (a1 : Option Addr) (c1 : Nat) (a2 : Option Addr) (c2 : Nat) (a3 : Option Addr) (c3 : Nat) (hc : AllCl [Cl.sl cGMono a1 c1 e1.Lin.L, Cl.sl cGIndex a2 c2 e1.Idx, Cl.sl cGExpr a3 c3 e1.Args] F w0) (r : Int) (h : m_ref14_size_b rec_ e1 most1 = some r) : Calls Tryz.prog 106 #[(Value.agg #[vi e1.Op, (str e1.Name), vi e1.Val.N, vi e1.Val.D, vi e1.Type_.Kind, vi e1.Type_.Bits, vi e1.Type_.Frac, vi e1.Type_.Round, vi e1.Type_.Over, vi e1.Lin.K, vs a1 e1.Lin.L.length c1, vs a2 e1.Idx.length c2, vs a3 e1.Args.length c3]), vi most1] w0 fun e w => e = .returned (vi r) ∧ Ext w0 w ∧ AllCl [] F w := by
 refine enterK Tryz.func106 rfl Tryz.ntmps106 rfl ?_
 have hI := Bun.start hF hc
 clear hc
 rw [m_ref14_size_b] at h
 refine sr (l_box (v := (Value.agg #[vi e1.Op, (str e1.Name), vi e1.Val.N, vi e1.Val.D, vi e1.Type_.Kind, vi e1.Type_.Bits, vi e1.Type_.Frac, vi e1.Type_.Round, vi e1.Type_.Over, vi e1.Lin.K, vs a1 e1.Lin.L.length c1, vs a2 e1.Idx.length c2, vs a3 e1.Args.length c3])) (cs := #[vi e1.Op, (str e1.Name), vi e1.Val.N, vi e1.Val.D, vi e1.Type_.Kind, vi e1.Type_.Bits, vi e1.Type_.Frac, vi e1.Type_.Round, vi e1.Type_.Over, vi e1.Lin.K, vs a1 e1.Lin.L.length c1, vs a2 e1.Idx.length c2, vs a3 e1.Args.length c3]) hI gn rfl rfl et rfl ?_)
 clear hI; intro b1 c4 w1 hI
 obtain ⟨c5, hI⟩ := hI.relBox .z
 refine sac ?_
 refine nk (sr (sac ?_))
 refine nk (c_seq (sr (sac ?_)))
 refine nk (c_block (c_loop (α := Nat × Int × Int) (fun x => fun w => ∃ C, Bun noM F w0 C w [] [Cl.blk b1 39 #[vi e1.Op, (str e1.Name), vi e1.Val.N, vi e1.Val.D, vi e1.Type_.Kind, vi e1.Type_.Bits, vi e1.Type_.Frac, vi e1.Type_.Round, vi e1.Type_.Over, vi e1.Lin.K, vs a1 e1.Lin.L.length c1, vs a2 e1.Idx.length c2, vs a3 e1.Args.length c3], Cl.sl cGMono a1 c1 e1.Lin.L, Cl.sl cGIndex a2 c2 e1.Idx, Cl.sl cGExpr a3 c3 e1.Args] ∧ m_ref14_size_l1 e1 most1 rec_ (x.1) (x.2.1) (x.2.2) = some r) (fun x _ => x.1) (fun x => [(1, vi most1), (2, vp b1 0), (5, vi (x.2.1)), (6, vi (x.2.2))]) (fu, 1, 0) ⟨_, hI.arr .n ⟨.z, (.s .z), (.s (.s .z)), (.s (.s (.s .z))), trivial⟩, h⟩ ⟨rfl, rfl, rfl, rfl, trivial⟩ ?_))
 clear h hI; rintro ⟨fuel1, n1, i1⟩ w2 ⟨c6, hI, h⟩
 dsimp only at hI h
 rcases fuel1 with _ | fuel1
 ·rw [m_ref14_size_l1] at h; cases h
 rw [m_ref14_size_l1] at h
 refine c_sub (e := [(1, vi most1), (2, vp b1 0), (5, vi n1), (6, vi i1)]) ⟨rfl, rfl, rfl, rfl, trivial⟩ ?_
 refine c_seq (sr (sm ?_))
 refine sq (y_fieldAddr rfl et u39 rfl size_37 rfl) ?_
 refine sq (y_load1 (v := (vs a3 e1.Args.length c3)) rfl et u37 rfl (hI.kblk (l := [vs a3 e1.Args.length c3]) .z rfl).1) ?_
 refine sq (y_lenl rfl u37 et) ?_
 refine sq (y_lss rfl et et) ?_
 refine sm ?_
 refine s_gval (g_true rfl rfl rfl rfl) rfl (fun hc => y_move rfl et) ?_
 refine s_gval (g_true rfl rfl rfl rfl) rfl (fun hc => y_move rfl et) ?_
 refine s_gval (g_true rfl rfl rfl rfl) rfl (fun hc => y_leq rfl (ev_gv et hc) (ev_gv et hc)) ?_
 refine sq (y_and rfl et et) ?_
 refine nk (cif h et (fun hb h => ?_) (fun hb h => ?_))
 ·refine c_skip (k_same (c_seq (c_block (c_region rfl ?_))))
  refine sm ?_
  refine sq (y_fieldAddr rfl et u39 rfl size_37 rfl) ?_
  refine sq (y_load1 (v := (vs a3 e1.Args.length c3)) rfl et u37 rfl (hI.kblk (l := [vs a3 e1.Args.length c3]) .z rfl).1) ?_
  refine sm ?_
  obtain ⟨e2, hx1, h⟩ := bnd_some h
  obtain ⟨ad1, cs1, hA1, hr1, hq1⟩ := hI.clat (.s (.s (.s .z))) hx1
  obtain ⟨a4, c7, a5, c8, a6, c9, rfl, hf1, hf2, hf3⟩ := cGExpr_out hr1
  have hI := hI.add (c := Cl.sl cGMono a4 c7 e2.Lin.L) hf1
  have hI := hI.add (c := Cl.sl cGIndex a5 c8 e2.Idx) hf2
  have hI := hI.add (c := Cl.sl cGExpr a6 c9 e2.Args) hf3
  refine sq (y_indexAddr rfl u37 size_39 et et (lat_bd hx1) hA1) ?_
  refine sq (y_loadN (l := [vi e2.Op, (str e2.Name), vi e2.Val.N, vi e2.Val.D, vi e2.Type_.Kind, vi e2.Type_.Bits, vi e2.Type_.Frac, vi e2.Type_.Round, vi e2.Type_.Over, vi e2.Lin.K, vs a4 e2.Lin.L.length c7, vs a5 e2.Idx.length c8, vs a6 e2.Args.length c9]) rfl et u39 rfl size_39 hq1.1) ?_
  refine sm ?_
  refine sm ?_
  refine sq (y_sub rfl et et) ?_
  obtain ⟨r1, hx2, h⟩ := bnd_some h
  refine s_call gn rfl (r_callF (vs := [(Value.agg #[vi e2.Op, (str e2.Name), vi e2.Val.N, vi e2.Val.D, vi e2.Type_.Kind, vi e2.Type_.Bits, vi e2.Type_.Frac, vi e2.Type_.Round, vi e2.Type_.Over, vi e2.Lin.K, vs a4 e2.Lin.L.length c7, vs a5 e2.Idx.length c8, vs a6 e2.Args.length c9]), (vi (wi64 (most1 - n1)))]) rfl ok_106 ⟨et, ⟨et, trivial⟩⟩) (Calls.mono (hrec (Dj F c6) w2 hI.lt e2 (wi64 (most1 - n1)) a4 c7 a5 c8 a6 c9 ⟨(hI.get (.s (.s .z))), (hI.get (.s .z)), (hI.get .z), trivial⟩ r1 hx2) ?_)
  rintro _ w3 ⟨rfl, hx3, hl1⟩
  refine ⟨_, rfl, ?_⟩
  replace hI := (hI.ext hx3)
  refine sq (y_add rfl et et) ?_
  refine sa ?_
  refine nk (c_region rfl ?_)
  refine sm ?_
  refine sq (y_add rfl et ev_const) ?_
  refine sa ?_
  refine s_nil ?_
  exact k_loop (fuel1, wi64 (n1 + r1), wi64 (i1 + 1)) ⟨rfl, rfl, rfl, rfl, trivial⟩ ⟨_, hI.arr .n ⟨(.s (.s (.s .z))), (.s (.s (.s (.s .z)))), (.s (.s (.s (.s (.s .z))))), (.s (.s (.s (.s (.s (.s .z)))))), trivial⟩, h⟩ (Nat.lt_succ_self _)
 refine c_exit ?_
 refine k_in ?_
 refine k_same (sr (sm ?_))
 refine sa ?_
 refine nk (c_ret ?_)
 obtain rfl := some_inj h
 exact q_ret (vs := [vi n1]) Tryz.results106 ⟨ev_tmp rfl rfl, trivial⟩ (fq hI trivial)
theorem c_ref14_size_r (n : Nat) : ∀ (F : NP) (w0 : World) (hF : ∀ k, F k → k < w0.heap.size) (e1 : GExpr) (most1 : Int) (a1 : Option Addr) (c1 : Nat) (a2 : Option Addr) (c2 : Nat) (a3 : Option Addr) (c3 : Nat) (hc : AllCl [Cl.sl cGMono a1 c1 e1.Lin.L, Cl.sl cGIndex a2 c2 e1.Idx, Cl.sl cGExpr a3 c3 e1.Args] F w0) (r : Int) (h : m_ref14_size_r n e1 most1 = some r), Calls Tryz.prog 106 #[(Value.agg #[vi e1.Op, (str e1.Name), vi e1.Val.N, vi e1.Val.D, vi e1.Type_.Kind, vi e1.Type_.Bits, vi e1.Type_.Frac, vi e1.Type_.Round, vi e1.Type_.Over, vi e1.Lin.K, vs a1 e1.Lin.L.length c1, vs a2 e1.Idx.length c2, vs a3 e1.Args.length c3]), vi most1] w0 fun e w => e = .returned (vi r) ∧ Ext w0 w ∧ AllCl [] F w := by
 induction n with
 | zero => intro F w0 hF e1 most1 a1 c1 a2 c2 a3 c3 hc r h; cases h
 | succ n ih => intro F w0 hF e1 most1 a1 c1 a2 c2 a3 c3 hc r h; exact c_ref14_size_b (m_ref14_size_r n) ih F w0 hF e1 most1 a1 c1 a2 c2 a3 c3 hc r h
theorem c_ref14_size (F : NP) (w0 : World) (hF : ∀ k, F k → k < w0.heap.size) (e1 : GExpr) (most1 : Int) (a1 : Option Addr) (c1 : Nat) (a2 : Option Addr) (c2 : Nat) (a3 : Option Addr) (c3 : Nat) (hc : AllCl [Cl.sl cGMono a1 c1 e1.Lin.L, Cl.sl cGIndex a2 c2 e1.Idx, Cl.sl cGExpr a3 c3 e1.Args] F w0) (r : Int) (h : m_ref14_size e1 most1 = some r) : Calls Tryz.prog 106 #[(Value.agg #[vi e1.Op, (str e1.Name), vi e1.Val.N, vi e1.Val.D, vi e1.Type_.Kind, vi e1.Type_.Bits, vi e1.Type_.Frac, vi e1.Type_.Round, vi e1.Type_.Over, vi e1.Lin.K, vs a1 e1.Lin.L.length c1, vs a2 e1.Idx.length c2, vs a3 e1.Args.length c3]), vi most1] w0 fun e w => e = .returned (vi r) ∧ Ext w0 w ∧ AllCl [] F w := c_ref14_size_r fu F w0 hF e1 most1 a1 c1 a2 c2 a3 c3 hc r h
end Go.Proofs.YtebpdmfmknfkjaaGreatDoor
