import Derived.Test.YtebpdmfmknfkjaaGreatDoorSCQ7b
namespace Go.Proofs.YtebpdmfmknfkjaaGreatDoor
open Go Go.RowKit Go.Vc
set_option maxRecDepth 100000
set_option maxHeartbeats 4000000
set_option linter.unusedVariables false
set_option linter.unusedSimpArgs false
theorem c_ref14_Size (F : NP) (w0 : World) (hF : ∀ k, F k → k < w0.heap.size) (e1 : GExpr) (a1 : Option Addr) (c1 : Nat) (a2 : Option Addr) (c2 : Nat) (a3 : Option Addr) (c3 : Nat) (hc : AllCl [Cl.sl cGMono a1 c1 e1.Lin.L, Cl.sl cGIndex a2 c2 e1.Idx, Cl.sl cGExpr a3 c3 e1.Args] F w0) (r : Int)
  (h : m_ref14_Size e1 = some r) :
  Calls Tryz.prog 50 #[(Value.agg #[vi e1.Op, (str e1.Name), vi e1.Val.N, vi e1.Val.D, vi e1.Type_.Kind, vi e1.Type_.Bits, vi e1.Type_.Frac, vi e1.Type_.Round, vi e1.Type_.Over, vi e1.Lin.K, vs a1 e1.Lin.L.length c1, vs a2 e1.Idx.length c2, vs a3 e1.Args.length c3])] w0 fun e w => e = .returned (vi r) ∧ Ext w0 w ∧ AllCl [] F w := by
 refine enterK Tryz.func50 rfl Tryz.ntmps50 rfl ?_
 have hI := Bun.start hF hc
 clear hc
 rw [m_ref14_Size] at h
 refine sr (l_box (v := (Value.agg #[vi e1.Op, (str e1.Name), vi e1.Val.N, vi e1.Val.D, vi e1.Type_.Kind, vi e1.Type_.Bits, vi e1.Type_.Frac, vi e1.Type_.Round, vi e1.Type_.Over, vi e1.Lin.K, vs a1 e1.Lin.L.length c1, vs a2 e1.Idx.length c2, vs a3 e1.Args.length c3])) (cs := #[vi e1.Op, (str e1.Name), vi e1.Val.N, vi e1.Val.D, vi e1.Type_.Kind, vi e1.Type_.Bits, vi e1.Type_.Frac, vi e1.Type_.Round, vi e1.Type_.Over, vi e1.Lin.K, vs a1 e1.Lin.L.length c1, vs a2 e1.Idx.length c2, vs a3 e1.Args.length c3]) hI gn rfl rfl et rfl ?_)
 clear hI; intro b1 c4 w1 hI
 obtain ⟨c5, hI⟩ := hI.relBox .z
 refine sac ?_
 refine nk (sr (sq (y_loadN (l := [vi e1.Op, (str e1.Name), vi e1.Val.N, vi e1.Val.D, vi e1.Type_.Kind, vi e1.Type_.Bits, vi e1.Type_.Frac, vi e1.Type_.Round, vi e1.Type_.Over, vi e1.Lin.K, vs a1 e1.Lin.L.length c1, vs a2 e1.Idx.length c2, vs a3 e1.Args.length c3]) rfl et u39 rfl size_39 (hI.kblk (l := [vi e1.Op, (str e1.Name), vi e1.Val.N, vi e1.Val.D, vi e1.Type_.Kind, vi e1.Type_.Bits, vi e1.Type_.Frac, vi e1.Type_.Round, vi e1.Type_.Over, vi e1.Lin.K, vs a1 e1.Lin.L.length c1, vs a2 e1.Idx.length c2, vs a3 e1.Args.length c3]) .z rfl).1) ?_))
 obtain ⟨r1, hx1, h⟩ := bnd_some h
 refine s_call gn rfl (r_callF (vs := [(Value.agg #[vi e1.Op, (str e1.Name), vi e1.Val.N, vi e1.Val.D, vi e1.Type_.Kind, vi e1.Type_.Bits, vi e1.Type_.Frac, vi e1.Type_.Round, vi e1.Type_.Over, vi e1.Lin.K, vs a1 e1.Lin.L.length c1, vs a2 e1.Idx.length c2, vs a3 e1.Args.length c3]), vi 2000]) rfl ok_106 ⟨et, ⟨ev_const, trivial⟩⟩) (Calls.mono (c_ref14_size (Dj F c5) w1 hI.lt e1 2000 a1 c1 a2 c2 a3 c3 ⟨(hI.get (.s .z)), (hI.get (.s (.s .z))), (hI.get (.s (.s (.s .z)))), trivial⟩ r1 hx1) ?_)
 rintro _ w2 ⟨rfl, hx2, hl1⟩
 refine ⟨_, rfl, ?_⟩
 replace hI := (hI.ext hx2)
 refine sq (y_min rfl et ev_const) ?_
 refine sa ?_
 refine nk (c_ret ?_)
 obtain rfl := some_inj h
 exact q_ret (vs := [vi (min r1 2001)]) Tryz.results50 ⟨ev_tmp rfl rfl, trivial⟩ (fq hI trivial)
theorem c_ref14_plain (F : NP) (w0 : World) (hF : ∀ k, F k → k < w0.heap.size) (e1 : GExpr) (a1 : Option Addr) (c1 : Nat) (a2 : Option Addr) (c2 : Nat) (a3 : Option Addr) (c3 : Nat) (hc : AllCl [Cl.sl cGMono a1 c1 e1.Lin.L, Cl.sl cGIndex a2 c2 e1.Idx, Cl.sl cGExpr a3 c3 e1.Args] F w0) (r : Bool)
  (h : m_ref14_plain e1 = some r) :
  Calls Tryz.prog 107 #[(Value.agg #[vi e1.Op, (str e1.Name), vi e1.Val.N, vi e1.Val.D, vi e1.Type_.Kind, vi e1.Type_.Bits, vi e1.Type_.Frac, vi e1.Type_.Round, vi e1.Type_.Over, vi e1.Lin.K, vs a1 e1.Lin.L.length c1, vs a2 e1.Idx.length c2, vs a3 e1.Args.length c3])] w0 fun e w => e = .returned (vb r) ∧ Ext w0 w ∧ AllCl [] F w := by
 refine enterK Tryz.func107 rfl Tryz.ntmps107 rfl ?_
 have hI := Bun.start hF hc
 clear hc
 rw [m_ref14_plain] at h
 refine sr (l_box (v := (Value.agg #[vi e1.Op, (str e1.Name), vi e1.Val.N, vi e1.Val.D, vi e1.Type_.Kind, vi e1.Type_.Bits, vi e1.Type_.Frac, vi e1.Type_.Round, vi e1.Type_.Over, vi e1.Lin.K, vs a1 e1.Lin.L.length c1, vs a2 e1.Idx.length c2, vs a3 e1.Args.length c3])) (cs := #[vi e1.Op, (str e1.Name), vi e1.Val.N, vi e1.Val.D, vi e1.Type_.Kind, vi e1.Type_.Bits, vi e1.Type_.Frac, vi e1.Type_.Round, vi e1.Type_.Over, vi e1.Lin.K, vs a1 e1.Lin.L.length c1, vs a2 e1.Idx.length c2, vs a3 e1.Args.length c3]) hI gn rfl rfl et rfl ?_)
 clear hI; intro b1 c4 w1 hI
 obtain ⟨c5, hI⟩ := hI.relBox .z
 refine sac ?_
 refine nk (c_seq (sr (sq (y_fieldAddr rfl et u39 rfl size_3 rfl) ?_)))
 refine sq (y_load1 (v := (vi e1.Op)) rfl et u3 rfl (hI.kblk (l := [vi e1.Op]) .z rfl).1) ?_
 refine sq (y_lss rfl et ev_const) ?_
 refine sm ?_
 refine s_gval (g_false rfl rfl rfl rfl) rfl (fun hc => y_fieldAddr rfl et u39 rfl size_3 rfl) ?_
 refine s_gval (g_false rfl rfl rfl rfl) rfl (fun hc => (y_load1 (v := (vi e1.Op)) rfl (ev_gv et hc) u3 rfl (hI.kblk (l := [vi e1.Op]) .z rfl).1)) ?_
 refine s_gval (g_false rfl rfl rfl rfl) rfl (fun hc => y_gtr rfl (ev_gv et hc) ev_const) ?_
 refine sq (y_or rfl et et) ?_
 refine nk (cif h et (fun hb h => ?_) (fun hb h => ?_))
 ·refine sr (sac ?_)
  refine nk (c_ret ?_)
  obtain rfl := some_inj h
  exact q_ret (vs := [vb false]) Tryz.results107 ⟨ev_tmp rfl rfl, trivial⟩ (fq hI trivial)
 refine c_skip (k_same (c_seq (sr (sq (y_fieldAddr rfl et u39 rfl size_3 rfl) ?_))))
 refine sq (y_load1 (v := (vi e1.Op)) rfl et u3 rfl (hI.kblk (l := [vi e1.Op]) .z rfl).1) ?_
 refine sq (y_neq rfl et ev_const) ?_
 refine sm ?_
 refine s_gval (g_true rfl rfl rfl rfl) rfl (fun hc => y_fieldAddr rfl et u39 rfl size_36 rfl) ?_
 refine s_gval (g_true rfl rfl rfl rfl) rfl (fun hc => (y_loadN (l := (lVal e1.Val)) rfl (ev_gv et hc) u36 rfl size_36 (hI.kblk (l := (lVal e1.Val)) .z rfl).1)) ?_
 refine s_gval (g_true rfl rfl rfl rfl) rfl (fun hc => y_build (vs := []) (cs := #[vi 0, vi 0]) rfl trivial (by kernel_rfl)) ?_
 refine s_gval (g_true rfl rfl rfl rfl) rfl (fun hc => y_bin rfl (ev_gv et hc) (ev_gv et hc) (eqstruct_36n ..) (eqguard_36 ..)) ?_
 refine sq (y_and rfl et et) ?_
 refine sm ?_
 refine s_gval (g_false rfl rfl rfl rfl) rfl (fun hc => y_fieldAddr rfl et u39 rfl size_3 rfl) ?_
 refine s_gval (g_false rfl rfl rfl rfl) rfl (fun hc => (y_load1 (v := (vi e1.Op)) rfl (ev_gv et hc) u3 rfl (hI.kblk (l := [vi e1.Op]) .z rfl).1)) ?_
 refine s_gval (g_false rfl rfl rfl rfl) rfl (fun hc => y_neq rfl (ev_gv et hc) ev_const) ?_
 refine s_gval (g_false rfl rfl rfl rfl) rfl (fun hc => y_move rfl (ev_gv et hc)) ?_
 refine s_gval (g_true2 rfl rfl rfl rfl) rfl (fun hc => y_fieldAddr rfl et u39 rfl size_3 rfl) ?_
 refine s_gval (g_true2 rfl rfl rfl rfl) rfl (fun hc => (y_load1 (v := (vi e1.Op)) rfl (ev_gv et hc) u3 rfl (hI.kblk (l := [vi e1.Op]) .z rfl).1)) ?_
 refine s_gval (g_true2 rfl rfl rfl rfl) rfl (fun hc => y_neq rfl (ev_gv et hc) ev_const) ?_
 refine s_gval (g_false rfl rfl rfl rfl) rfl (fun hc => y_and2 rfl hc et et) ?_
 refine s_gval (g_false rfl rfl rfl rfl) rfl (fun hc => y_move rfl (ev_gv et hc)) ?_
 refine s_gval (g_true2 rfl rfl rfl rfl) rfl (fun hc => y_fieldAddr rfl et u39 rfl size_23 rfl) ?_
 refine s_gval (g_true2 rfl rfl rfl rfl) rfl (fun hc => (y_loadN (l := (lType e1.Type_)) rfl (ev_gv et hc) u23 rfl size_23 (hI.kblk (l := (lType e1.Type_)) .z rfl).1)) ?_
 refine s_gval (g_true2 rfl rfl rfl rfl) rfl (fun hc => y_build (vs := []) (cs := ZType) rfl trivial (by kernel_rfl)) ?_
 refine s_gval (g_true2 rfl rfl rfl rfl) rfl (fun hc => y_bin rfl (ev_gv et hc) (ev_gv et hc) (eqstruct_23n ..) (eqguard_23 ..)) ?_
 refine s_gval (g_false rfl rfl rfl rfl) rfl (fun hc => y_and2 rfl hc et et) ?_
 refine sq (y_or rfl et et) ?_
 refine s_nil ?_
 refine k_next (e := [(1, vp b1 0), (37, (vb (((!decide (e1.Op = 1)) && (!((decide (e1.Val.N = 0)) && (decide (e1.Val.D = 0))))) || (((!decide (e1.Op = 1)) && (!decide (e1.Op = 12))) && (!((decide (e1.Type_.Kind = 0)) && (decide (e1.Type_.Bits = 0)) && (decide (e1.Type_.Frac = 0)) && (decide (e1.Type_.Round = 0)) && (decide (e1.Type_.Over = 0))))))))]) ⟨rfl, rfl, trivial⟩ ?_
 refine cif h et (fun hb h => ?_) (fun hb h => ?_)
 ·refine sr (sac ?_)
  refine nk (c_ret ?_)
  obtain rfl := some_inj h
  exact q_ret (vs := [vb false]) Tryz.results107 ⟨ev_tmp rfl rfl, trivial⟩ (fq hI trivial)
 refine c_skip (k_same (c_seq (sr (sq (y_fieldAddr rfl et u39 rfl size_3 rfl) ?_))))
 refine sq (y_load1 (v := (vi e1.Op)) rfl et u3 rfl (hI.kblk (l := [vi e1.Op]) .z rfl).1) ?_
 refine sq (y_neq rfl et ev_const) ?_
 refine sm ?_
 refine s_gval (g_true rfl rfl rfl rfl) rfl (fun hc => y_fieldAddr rfl et u39 rfl size_29 rfl) ?_
 refine s_gval (g_true rfl rfl rfl rfl) rfl (fun hc => y_fieldAddr rfl (ev_gv et hc) u29 rfl size_2 rfl) ?_
 refine s_gval (g_true rfl rfl rfl rfl) rfl (fun hc => (y_load1 (v := (vi e1.Lin.K)) rfl (ev_gv et hc) u2 rfl (hI.kblk (l := [vi e1.Lin.K]) .z rfl).1)) ?_
 refine s_gval (g_true rfl rfl rfl rfl) rfl (fun hc => y_neq rfl (ev_gv et hc) ev_const) ?_
 refine s_gval (g_true rfl rfl rfl rfl) rfl (fun hc => y_move rfl (ev_gv et hc)) ?_
 refine s_gval (g_false2 rfl rfl rfl rfl) rfl (fun hc => y_fieldAddr rfl et u39 rfl size_29 rfl) ?_
 refine s_gval (g_false2 rfl rfl rfl rfl) rfl (fun hc => y_fieldAddr rfl (ev_gv et hc) u29 rfl size_27 rfl) ?_
 refine s_gval (g_false2 rfl rfl rfl rfl) rfl (fun hc => (y_load1 (v := (vs a1 e1.Lin.L.length c1)) rfl (ev_gv et hc) u27 rfl (hI.kblk (l := [vs a1 e1.Lin.L.length c1]) .z rfl).1)) ?_
 refine s_gval (g_false2 rfl rfl rfl rfl) rfl (fun hc => y_lenl rfl u27 (ev_gv et hc)) ?_
 refine s_gval (g_false2 rfl rfl rfl rfl) rfl (fun hc => y_gtr rfl (ev_gv et hc) ev_const) ?_
 refine s_gval (g_true rfl rfl rfl rfl) rfl (fun hc => y_or2 rfl hc et et) ?_
 refine sq (y_and rfl et et) ?_
 refine sm ?_
 refine s_gval (g_false rfl rfl rfl rfl) rfl (fun hc => y_fieldAddr rfl et u39 rfl size_3 rfl) ?_
 refine s_gval (g_false rfl rfl rfl rfl) rfl (fun hc => (y_load1 (v := (vi e1.Op)) rfl (ev_gv et hc) u3 rfl (hI.kblk (l := [vi e1.Op]) .z rfl).1)) ?_
 refine s_gval (g_false rfl rfl rfl rfl) rfl (fun hc => y_neq rfl (ev_gv et hc) ev_const) ?_
 refine s_gval (g_false rfl rfl rfl rfl) rfl (fun hc => y_move rfl (ev_gv et hc)) ?_
 refine s_gval (g_true2 rfl rfl rfl rfl) rfl (fun hc => y_fieldAddr rfl et u39 rfl size_9 rfl) ?_
 refine s_gval (g_true2 rfl rfl rfl rfl) rfl (fun hc => (y_load1 (v := (str e1.Name)) rfl (ev_gv et hc) u9 rfl (hI.kblk (l := [(str e1.Name)]) .z rfl).1)) ?_
 refine s_gval (g_true2 rfl rfl rfl rfl) rfl (fun hc => y_nes rfl (ev_gv et hc) ev_const) ?_
 refine s_gval (g_true2 rfl rfl rfl rfl) rfl (fun hc => y_move rfl (ev_gv et hc)) ?_
 refine s_gval (g_false2 rfl rfl rfl rfl) rfl (fun hc => y_fieldAddr rfl et u39 rfl size_34 rfl) ?_
 refine s_gval (g_false2 rfl rfl rfl rfl) rfl (fun hc => (y_load1 (v := (vs a2 e1.Idx.length c2)) rfl (ev_gv et hc) u34 rfl (hI.kblk (l := [vs a2 e1.Idx.length c2]) .z rfl).1)) ?_
 refine s_gval (g_false2 rfl rfl rfl rfl) rfl (fun hc => y_lenl rfl u34 (ev_gv et hc)) ?_
 refine s_gval (g_false2 rfl rfl rfl rfl) rfl (fun hc => y_gtr rfl (ev_gv et hc) ev_const) ?_
 refine s_gval (g_true2 rfl rfl rfl rfl) rfl (fun hc => y_or2 rfl hc et et) ?_
 refine s_gval (g_false rfl rfl rfl rfl) rfl (fun hc => y_and2 rfl hc et et) ?_
 refine sq (y_or rfl et et) ?_
 refine s_nil ?_
 refine k_next (e := [(1, vp b1 0), (69, (vb (((!decide (e1.Op = 2)) && ((!decide (e1.Lin.K = 0)) || (decide (0 < (e1.Lin.L.length : Int))))) || ((!decide (e1.Op = 3)) && ((!decide (e1.Name = ([] : List UInt8))) || (decide (0 < (e1.Idx.length : Int))))))))]) ⟨rfl, rfl, trivial⟩ ?_
 refine cif h et (fun hb h => ?_) (fun hb h => ?_)
 ·refine sr (sac ?_)
  refine nk (c_ret ?_)
  obtain rfl := some_inj h
  exact q_ret (vs := [vb false]) Tryz.results107 ⟨ev_tmp rfl rfl, trivial⟩ (fq hI trivial)
 refine c_skip (k_same (c_seq (sr (sac ?_))))
 refine nk (c_block (c_loop (α := Nat × Int) (fun x => fun w => ∃ C, Bun noM F w0 C w [] [Cl.blk b1 39 #[vi e1.Op, (str e1.Name), vi e1.Val.N, vi e1.Val.D, vi e1.Type_.Kind, vi e1.Type_.Bits, vi e1.Type_.Frac, vi e1.Type_.Round, vi e1.Type_.Over, vi e1.Lin.K, vs a1 e1.Lin.L.length c1, vs a2 e1.Idx.length c2, vs a3 e1.Args.length c3], Cl.sl cGMono a1 c1 e1.Lin.L, Cl.sl cGIndex a2 c2 e1.Idx, Cl.sl cGExpr a3 c3 e1.Args] ∧ m_ref14_plain_l1 e1 (x.1) (x.2) = some r) (fun x _ => x.1) (fun x => [(1, vp b1 0), (3, vi (x.2))]) (fu, 0) ⟨_, hI.arr .n ⟨.z, (.s .z), (.s (.s .z)), (.s (.s (.s .z))), trivial⟩, h⟩ ⟨rfl, rfl, trivial⟩ ?_))
 clear h hI; rintro ⟨fuel1, i1⟩ w2 ⟨c6, hI, h⟩
 dsimp only at hI h
 rcases fuel1 with _ | fuel1
 ·rw [m_ref14_plain_l1] at h; cases h
 rw [m_ref14_plain_l1] at h
 refine c_sub (e := [(1, vp b1 0), (3, vi i1)]) ⟨rfl, rfl, trivial⟩ ?_
 refine c_seq (sr (sm ?_))
 refine sq (y_fieldAddr rfl et u39 rfl size_34 rfl) ?_
 refine sq (y_load1 (v := (vs a2 e1.Idx.length c2)) rfl et u34 rfl (hI.kblk (l := [vs a2 e1.Idx.length c2]) .z rfl).1) ?_
 refine sq (y_lenl rfl u34 et) ?_
 refine sq (y_lss rfl et et) ?_
 refine nk (cif h et (fun hb h => ?_) (fun hb h => ?_))
 ·refine c_skip (k_same (c_seq (c_block (sr (sq (y_fieldAddr rfl et u39 rfl size_34 rfl) ?_)))))
  refine sq (y_load1 (v := (vs a2 e1.Idx.length c2)) rfl et u34 rfl (hI.kblk (l := [vs a2 e1.Idx.length c2]) .z rfl).1) ?_
  refine sm ?_
  obtain ⟨e2, hx1, h⟩ := bnd_some h
  obtain ⟨ad1, cs1, hA1, hr1, hq1⟩ := hI.clat (.s (.s .z)) hx1
  obtain ⟨a4, c7, a5, c8, rfl, hf1, hf2⟩ := hr1
  have hI := hI.add (c := Cl.sl cGMono a4 c7 e2.Lin.L) hf1
  have hI := hI.add (c := Cl.sl cGLin a5 c8 e2.At) hf2
  refine sq (y_indexAddr rfl u34 size_32 et et (lat_bd hx1) hA1) ?_
  refine sq (y_loadN (l := [vi e2.Lin.K, vs a4 e2.Lin.L.length c7, (str e2.From), vs a5 e2.At.length c8]) rfl et u32 rfl size_32 hq1.1) ?_
  refine l_alloc (cs := #[vi 0, vs none 0 0, (str ([] : List UInt8)), vs none 0 0]) hI gn rfl rfl zero_32 rfl ?_
  clear hI; intro b2 c9 w3 hI
  refine l_store (new := [vi e2.Lin.K, vs a4 e2.Lin.L.length c7, (str e2.From), vs a5 e2.At.length c8]) (cs' := #[vi e2.Lin.K, vs a4 e2.Lin.L.length c7, (str e2.From), vs a5 e2.At.length c8]) hI .z gn rfl rfl et et rfl size_32 rfl rfl rfl ?_
  clear hI; intro c10 w4 hI
  refine nk (sr (sq (y_fieldAddr rfl et u32 rfl size_9 rfl) ?_))
  refine sq (y_load1 (v := (str e2.From)) rfl et u9 rfl (CellsAt.of_blk (hI.blk .z) rfl)) ?_
  refine sq (y_eqs rfl et ev_const) ?_
  refine sm ?_
  refine s_gval (g_true rfl rfl rfl rfl) rfl (fun hc => y_fieldAddr rfl et u32 rfl size_30 rfl) ?_
  refine s_gval (g_true rfl rfl rfl rfl) rfl (fun hc => (y_load1 (v := (vs a5 e2.At.length c8)) rfl (ev_gv et hc) u30 rfl (CellsAt.of_blk (hI.blk .z) rfl))) ?_
  refine s_gval (g_true rfl rfl rfl rfl) rfl (fun hc => y_lenl rfl u30 (ev_gv et hc)) ?_
  refine s_gval (g_true rfl rfl rfl rfl) rfl (fun hc => y_gtr rfl (ev_gv et hc) ev_const) ?_
  refine sq (y_and rfl et et) ?_
  refine sm ?_
  refine s_gval (g_false rfl rfl rfl rfl) rfl (fun hc => y_fieldAddr rfl et u32 rfl size_9 rfl) ?_
  refine s_gval (g_false rfl rfl rfl rfl) rfl (fun hc => (y_load1 (v := (str e2.From)) rfl (ev_gv et hc) u9 rfl (CellsAt.of_blk (hI.blk .z) rfl))) ?_
  refine s_gval (g_false rfl rfl rfl rfl) rfl (fun hc => y_nes rfl (ev_gv et hc) ev_const) ?_
  refine s_gval (g_false rfl rfl rfl rfl) rfl (fun hc => y_move rfl (ev_gv et hc)) ?_
  refine s_gval (g_true2 rfl rfl rfl rfl) rfl (fun hc => y_fieldAddr rfl et u32 rfl size_29 rfl) ?_
  refine s_gval (g_true2 rfl rfl rfl rfl) rfl (fun hc => y_fieldAddr rfl (ev_gv et hc) u29 rfl size_2 rfl) ?_
  refine s_gval (g_true2 rfl rfl rfl rfl) rfl (fun hc => (y_load1 (v := (vi e2.Lin.K)) rfl (ev_gv et hc) u2 rfl (CellsAt.of_blk (hI.blk .z) rfl))) ?_
  refine s_gval (g_true2 rfl rfl rfl rfl) rfl (fun hc => y_neq rfl (ev_gv et hc) ev_const) ?_
  refine s_gval (g_true2 rfl rfl rfl rfl) rfl (fun hc => y_move rfl (ev_gv et hc)) ?_
  refine s_gval (g_false2 rfl rfl rfl rfl) rfl (fun hc => y_fieldAddr rfl et u32 rfl size_29 rfl) ?_
  refine s_gval (g_false2 rfl rfl rfl rfl) rfl (fun hc => y_fieldAddr rfl (ev_gv et hc) u29 rfl size_27 rfl) ?_
  refine s_gval (g_false2 rfl rfl rfl rfl) rfl (fun hc => (y_load1 (v := (vs a4 e2.Lin.L.length c7)) rfl (ev_gv et hc) u27 rfl (CellsAt.of_blk (hI.blk .z) rfl))) ?_
  refine s_gval (g_false2 rfl rfl rfl rfl) rfl (fun hc => y_lenl rfl u27 (ev_gv et hc)) ?_
  refine s_gval (g_false2 rfl rfl rfl rfl) rfl (fun hc => y_gtr rfl (ev_gv et hc) ev_const) ?_
  refine s_gval (g_true2 rfl rfl rfl rfl) rfl (fun hc => y_or2 rfl hc et et) ?_
  refine s_gval (g_false rfl rfl rfl rfl) rfl (fun hc => y_and2 rfl hc et et) ?_
  refine sq (y_or rfl et et) ?_
  refine s_nil ?_
  refine k_next (e := [(1, vp b1 0), (3, vi i1), (108, (vb (((decide (e2.From = ([] : List UInt8))) && (decide (0 < (e2.At.length : Int)))) || ((!decide (e2.From = ([] : List UInt8))) && ((!decide (e2.Lin.K = 0)) || (decide (0 < (e2.Lin.L.length : Int))))))))]) ⟨rfl, rfl, rfl, trivial⟩ ?_
  refine cif h et (fun hb h => ?_) (fun hb h => ?_)
  ·refine sr (sac ?_)
   refine nk (c_ret ?_)
   obtain rfl := some_inj h
   exact q_ret (vs := [vb false]) Tryz.results107 ⟨ev_tmp rfl rfl, trivial⟩ (fq hI trivial)
  refine c_skip (k_same (c_region rfl ?_))
  refine sm ?_
  refine sq (y_add rfl et ev_const) ?_
  refine sa ?_
  refine s_nil ?_
  exact k_loop (fuel1, wi64 (i1 + 1)) ⟨rfl, rfl, trivial⟩ ⟨_, hI.arr .n ⟨(.s (.s .z)), (.s (.s (.s .z))), (.s (.s (.s (.s .z)))), (.s (.s (.s (.s (.s .z))))), trivial⟩, h⟩ (Nat.lt_succ_self _)
 refine c_exit ?_
 refine k_in ?_
 refine k_same (sr (sac ?_))
 refine nk (c_ret ?_)
 obtain rfl := some_inj h
 exact q_ret (vs := [vb true]) Tryz.results107 ⟨ev_tmp rfl rfl, trivial⟩ (fq hI trivial)
theorem c_ref14_named (F : NP) (w0 : World) (hF : ∀ k, F k → k < w0.heap.size) (e1 : GExpr) (a1 : Option Addr) (c1 : Nat) (a2 : Option Addr) (c2 : Nat) (a3 : Option Addr) (c3 : Nat) (hc : AllCl [Cl.sl cGMono a1 c1 e1.Lin.L, Cl.sl cGIndex a2 c2 e1.Idx, Cl.sl cGExpr a3 c3 e1.Args] F w0) (r : Bool)
  (h : m_ref14_named e1 = some r) :
  Calls Tryz.prog 108 #[(Value.agg #[vi e1.Op, (str e1.Name), vi e1.Val.N, vi e1.Val.D, vi e1.Type_.Kind, vi e1.Type_.Bits, vi e1.Type_.Frac, vi e1.Type_.Round, vi e1.Type_.Over, vi e1.Lin.K, vs a1 e1.Lin.L.length c1, vs a2 e1.Idx.length c2, vs a3 e1.Args.length c3])] w0 fun e w => e = .returned (vb r) ∧ Ext w0 w ∧ AllCl [] F w := by
 refine enterK Tryz.func108 rfl Tryz.ntmps108 rfl ?_
 have hI := Bun.start hF hc
 clear hc
 rw [m_ref14_named] at h
 refine sr (l_box (v := (Value.agg #[vi e1.Op, (str e1.Name), vi e1.Val.N, vi e1.Val.D, vi e1.Type_.Kind, vi e1.Type_.Bits, vi e1.Type_.Frac, vi e1.Type_.Round, vi e1.Type_.Over, vi e1.Lin.K, vs a1 e1.Lin.L.length c1, vs a2 e1.Idx.length c2, vs a3 e1.Args.length c3])) (cs := #[vi e1.Op, (str e1.Name), vi e1.Val.N, vi e1.Val.D, vi e1.Type_.Kind, vi e1.Type_.Bits, vi e1.Type_.Frac, vi e1.Type_.Round, vi e1.Type_.Over, vi e1.Lin.K, vs a1 e1.Lin.L.length c1, vs a2 e1.Idx.length c2, vs a3 e1.Args.length c3]) hI gn rfl rfl et rfl ?_)
 clear hI; intro b1 c4 w1 hI
 obtain ⟨c5, hI⟩ := hI.relBox .z
 refine sac ?_
 refine nk (c_seq (sr (sq (y_fieldAddr rfl et u39 rfl size_3 rfl) ?_)))
 refine sq (y_load1 (v := (vi e1.Op)) rfl et u3 rfl (hI.kblk (l := [vi e1.Op]) .z rfl).1) ?_
 refine sq (y_eql rfl et ev_const) ?_
 refine sm ?_
 refine s_gval (g_true rfl rfl rfl rfl) rfl (fun hc => y_fieldAddr rfl et u39 rfl size_9 rfl) ?_
 refine s_gval (g_true rfl rfl rfl rfl) rfl (fun hc => (y_load1 (v := (str e1.Name)) rfl (ev_gv et hc) u9 rfl (hI.kblk (l := [(str e1.Name)]) .z rfl).1)) ?_
 obtain ⟨r1, hx1, h⟩ := bnd_some h
 replace hx1 := gd_some hx1
 refine s_gcallU (v := (vb r1)) (g_true rfl rfl rfl rfl) rfl (fun hc => (r_callF (vs := [(str e1.Name)]) rfl ok_43 ⟨(ev_gv et hc), trivial⟩)) (fun hc => (c_base_Name (Dj F c5) w1 hI.lt e1.Name trivial r1 (hx1 hc)).mono fun _ _ k => ⟨k.1, k.2.1⟩) ?_
 intro w2 hx2; replace hI := hI.ext hx2
 refine s_gval (g_true rfl rfl rfl rfl) rfl (fun hc => y_not rfl (ev_gv et hc)) ?_
 refine sq (y_and rfl et et) ?_
 refine nk (cif h et (fun hb h => ?_) (fun hb h => ?_))
 ·refine sr (sac ?_)
  refine nk (c_ret ?_)
  obtain rfl := some_inj h
  exact q_ret (vs := [vb false]) Tryz.results108 ⟨ev_tmp rfl rfl, trivial⟩ (fq hI trivial)
 refine c_skip (k_same (c_seq (sr (sac ?_))))
 refine nk (c_block (c_loop (α := Nat × Int) (fun x => fun w => ∃ C, Bun noM F w0 C w [] [Cl.blk b1 39 #[vi e1.Op, (str e1.Name), vi e1.Val.N, vi e1.Val.D, vi e1.Type_.Kind, vi e1.Type_.Bits, vi e1.Type_.Frac, vi e1.Type_.Round, vi e1.Type_.Over, vi e1.Lin.K, vs a1 e1.Lin.L.length c1, vs a2 e1.Idx.length c2, vs a3 e1.Args.length c3], Cl.sl cGMono a1 c1 e1.Lin.L, Cl.sl cGIndex a2 c2 e1.Idx, Cl.sl cGExpr a3 c3 e1.Args] ∧ m_ref14_named_l1 e1 (x.1) (x.2) = some r) (fun x _ => x.1) (fun x => [(1, vp b1 0), (3, vi (x.2))]) (fu, 0) ⟨_, hI.arr .n ⟨.z, (.s .z), (.s (.s .z)), (.s (.s (.s .z))), trivial⟩, h⟩ ⟨rfl, rfl, trivial⟩ ?_))
 clear h hI; rintro ⟨fuel1, i1⟩ w3 ⟨c6, hI, h⟩
 dsimp only at hI h
 rcases fuel1 with _ | fuel1
 ·rw [m_ref14_named_l1] at h; cases h
 rw [m_ref14_named_l1] at h
 refine c_sub (e := [(1, vp b1 0), (3, vi i1)]) ⟨rfl, rfl, trivial⟩ ?_
 refine c_seq (sr (sm ?_))
 refine sq (y_fieldAddr rfl et u39 rfl size_34 rfl) ?_
 refine sq (y_load1 (v := (vs a2 e1.Idx.length c2)) rfl et u34 rfl (hI.kblk (l := [vs a2 e1.Idx.length c2]) .z rfl).1) ?_
 refine sq (y_lenl rfl u34 et) ?_
 refine sq (y_lss rfl et et) ?_
 refine nk (cif h et (fun hb h => ?_) (fun hb h => ?_))
 ·refine c_skip (k_same (c_seq (c_block (sr (sq (y_fieldAddr rfl et u39 rfl size_34 rfl) ?_)))))
  refine sq (y_load1 (v := (vs a2 e1.Idx.length c2)) rfl et u34 rfl (hI.kblk (l := [vs a2 e1.Idx.length c2]) .z rfl).1) ?_
  refine sm ?_
  obtain ⟨e2, hx3, h⟩ := bnd_some h
  obtain ⟨ad1, cs1, hA1, hr1, hq1⟩ := hI.clat (.s (.s .z)) hx3
  obtain ⟨a4, c7, a5, c8, rfl, hf1, hf2⟩ := hr1
  have hI := hI.add (c := Cl.sl cGMono a4 c7 e2.Lin.L) hf1
  have hI := hI.add (c := Cl.sl cGLin a5 c8 e2.At) hf2
  refine sq (y_indexAddr rfl u34 size_32 et et (lat_bd hx3) hA1) ?_
  refine sq (y_fieldAddr rfl et u32 rfl size_9 rfl) ?_
  refine sq (y_load1 (v := (str e2.From)) rfl et u9 rfl (CA.part hq1 rfl).1) ?_
  refine sq (y_nes rfl et ev_const) ?_
  refine sm ?_
  refine s_gval (g_true rfl rfl rfl rfl) rfl (fun hc => y_fieldAddr rfl et u39 rfl size_34 rfl) ?_
  refine s_gval (g_true rfl rfl rfl rfl) rfl (fun hc => (y_load1 (v := (vs a2 e1.Idx.length c2)) rfl (ev_gv et hc) u34 rfl (hI.kblk (l := [vs a2 e1.Idx.length c2]) (.s (.s .z)) rfl).1)) ?_
  refine s_gval (g_true rfl rfl rfl rfl) rfl (fun hc => y_move rfl et) ?_
  obtain ⟨e3, hx4, h⟩ := bnd_some h
  replace hx4 := gd_some hx4
  obtain ⟨ad2, cs2, hq2⟩ := hI.gclat (.s (.s (.s (.s .z)))) hx4
  obtain ⟨a6, c9, a7, c10, hq3⟩ : ∃ (a6 : Option Addr) (c9 : Nat) (a7 : Option Addr) (c10 : Nat), (!decide (e2.From = ([] : List UInt8))) = true → (a2 = some ad2 ∧ cs2 = [vi e3.Lin.K, vs a6 e3.Lin.L.length c9, (str e3.From), vs a7 e3.At.length c10] ∧ CA (Dj F c6) w3 (ad2.add (Int.toNat i1 * 4)) cs2 ∧ SlC cGMono (Dj F c6) w3 a6 c9 e3.Lin.L ∧ SlC cGLin (Dj F c6) w3 a7 c10 e3.At) := by
   by_cases hc : (!decide (e2.From = ([] : List UInt8))) = true
   ·obtain ⟨k1, k2, k3⟩ := hq2 hc; obtain ⟨a6, c9, a7, c10, rfl, hf3, hf4⟩ := k2; exact ⟨a6, c9, a7, c10, fun _ => ⟨k1, rfl, k3, hf3, hf4⟩⟩
   exact ⟨default, default, default, default, fun k => absurd k hc⟩
  clear hq2
  have hI := hI.add (c := Cl.gsl (!decide (e2.From = ([] : List UInt8))) cGMono a6 c9 e3.Lin.L) (fun hc => (hq3 hc).2.2.2.1)
  have hI := hI.add (c := Cl.gsl (!decide (e2.From = ([] : List UInt8))) cGLin a7 c10 e3.At) (fun hc => (hq3 hc).2.2.2.2)
  have hq4 : (!decide (e2.From = ([] : List UInt8))) = true → CA (Dj F c6) w3 (ad2.add (Int.toNat i1 * 4)) [vi e3.Lin.K, vs a6 e3.Lin.L.length c9, (str e3.From), vs a7 e3.At.length c10] := fun hc => by have k := hq3 hc; have e : cs2 = _ := k.2.1; rw [← e]; exact k.2.2.1
  refine s_gval (g_true rfl rfl rfl rfl) rfl (fun hc => (y_indexAddr rfl u34 size_32 (ev_gv et hc) (ev_gv et hc) (lat_bd (hx4 hc)) (hq3 hc).1)) ?_
  refine s_gval (g_true rfl rfl rfl rfl) rfl (fun hc => y_fieldAddr rfl (ev_gv et hc) u32 rfl size_9 rfl) ?_
  refine s_gval (g_true rfl rfl rfl rfl) rfl (fun hc => (y_load1 (v := (str e3.From)) rfl (ev_gv et hc) u9 rfl (CA.part (hq4 hc) rfl).1)) ?_
  obtain ⟨r2, hx5, h⟩ := bnd_some h
  replace hx5 := gd_some hx5
  refine s_gcallU (v := (vb r2)) (g_true rfl rfl rfl rfl) rfl (fun hc => (r_callF (vs := [(str e3.From)]) rfl ok_43 ⟨(ev_gv et hc), trivial⟩)) (fun hc => (c_base_Name (Dj F c6) w3 hI.lt e3.From trivial r2 (hx5 hc)).mono fun _ _ k => ⟨k.1, k.2.1⟩) ?_
  intro w4 hx6; replace hI := hI.ext hx6
  refine s_gval (g_true rfl rfl rfl rfl) rfl (fun hc => y_not rfl (ev_gv et hc)) ?_
  refine sq (y_and rfl et et) ?_
  refine nk (cif h et (fun hb h => ?_) (fun hb h => ?_))
  ·refine sr (sac ?_)
   refine s_nil ?_
   refine k_next (e := [(2, vb false)]) ⟨rfl, trivial⟩ ?_
   refine c_ret ?_
   obtain rfl := some_inj h
   exact q_ret (vs := [vb false]) Tryz.results108 ⟨ev_tmp rfl rfl, trivial⟩ (fq hI trivial)
  refine c_skip (k_same (c_region rfl ?_))
  refine sm ?_
  refine sq (y_add rfl et ev_const) ?_
  refine sa ?_
  refine s_nil ?_
  exact k_loop (fuel1, wi64 (i1 + 1)) ⟨rfl, rfl, trivial⟩ ⟨_, hI.arr .n ⟨(.s (.s (.s (.s .z)))), (.s (.s (.s (.s (.s .z))))), (.s (.s (.s (.s (.s (.s .z)))))), (.s (.s (.s (.s (.s (.s (.s .z))))))), trivial⟩, h⟩ (Nat.lt_succ_self _)
 refine c_exit ?_
 refine k_in ?_
 refine k_same (sr (sac ?_))
 refine nk (c_ret ?_)
 obtain rfl := some_inj h
 exact q_ret (vs := [vb true]) Tryz.results108 ⟨ev_tmp rfl rfl, trivial⟩ (fq hI trivial)
theorem c_ref14_args (F : NP) (w0 : World) (hF : ∀ k, F k → k < w0.heap.size) (op1 : Int) (hc : AllCl [] F w0) (r : Int)
  (h : m_ref14_args op1 = some r) :
  Calls Tryz.prog 139 #[vi op1] w0 fun e w => e = .returned (vi r) ∧ Ext w0 w ∧ AllCl [] F w := by
 refine enterK Tryz.func139 rfl Tryz.ntmps139 rfl ?_
 have hI := Bun.start hF hc
 clear hc
 rw [m_ref14_args] at h
 refine sr (sac ?_)
 refine nk (c_seq (sr (sm ?_)))
 refine nk (c_block (c_join (α := Bool) (fun _ => ⟨14, []⟩) (fun x => [(3, vi op1), (4, vb x)]) (fun x => fun w => ∃ C, Bun noM F w0 C w [] [] ∧ m_ref14_args_j1 op1 x = some r) ?_ ?_))
 ·clear h hI; rintro i1 w1 ⟨c1, hI, h⟩
  try dsimp only at hI h
  rw [m_ref14_args_j1] at h
  refine c_sub (e := [(3, vi op1), (4, vb i1)]) ⟨rfl, rfl, trivial⟩ ?_
  refine cif h et (fun hb h => ?_) (fun hb h => ?_)
  ·refine sr (sac ?_)
   refine nk (c_ret ?_)
   obtain rfl := some_inj h
   exact q_ret (vs := [vi 0]) Tryz.results139 ⟨ev_tmp rfl rfl, trivial⟩ (fq hI trivial)
  refine c_join (α := Bool) (fun _ => ⟨14, []⟩) (fun x => [(3, vi op1), (8, vb x)]) (fun x => fun w => ∃ C, Bun noM F w0 C w [] [] ∧ m_ref14_args_j2 op1 x = some r) ?_ ?_
  ·clear h hI; rintro i2 w2 ⟨c2, hI, h⟩
   try dsimp only at hI h
   rw [m_ref14_args_j2] at h
   refine c_sub (e := [(3, vi op1), (8, vb i2)]) ⟨rfl, rfl, trivial⟩ ?_
   refine cif h et (fun hb h => ?_) (fun hb h => ?_)
   ·refine sr (sac ?_)
    refine nk (c_ret ?_)
    obtain rfl := some_inj h
    exact q_ret (vs := [vi 1]) Tryz.results139 ⟨ev_tmp rfl rfl, trivial⟩ (fq hI trivial)
   refine sr (sq (y_eql rfl et ev_const) ?_)
   refine sa ?_
   refine nk (cif h et (fun hb h => ?_) (fun hb h => ?_))
   ·refine sr (sac ?_)
    refine nk (c_ret ?_)
    obtain rfl := some_inj h
    exact q_ret (vs := [vi 3]) Tryz.results139 ⟨ev_tmp rfl rfl, trivial⟩ (fq hI trivial)
   refine c_skip (k_same (sr (sac ?_)))
   refine nk (c_ret ?_)
   obtain rfl := some_inj h
   exact q_ret (vs := [vi 2]) Tryz.results139 ⟨ev_tmp rfl rfl, trivial⟩ (fq hI trivial)
  refine sr (sq (y_eql rfl et ev_const) ?_)
  refine sa ?_
  refine nk (cif h et (fun hb h => ?_) (fun hb h => ?_))
  ·exact c_skip (k_join (decide (op1 = 8)) ⟨rfl, rfl, trivial⟩ ⟨_, hI.arr .n trivial, h⟩ rfl)
  refine sr (sq (y_eql rfl et ev_const) ?_)
  refine sa ?_
  refine nk (cif h et (fun hb h => ?_) (fun hb h => ?_))
  ·exact c_skip (k_join (decide (op1 = 12)) ⟨rfl, rfl, trivial⟩ ⟨_, hI.arr .n trivial, h⟩ rfl)
  refine c_region rfl ?_
  refine sq (y_eql rfl et ev_const) ?_
  refine sa ?_
  refine s_nil ?_
  exact k_join (decide (op1 = 18)) ⟨rfl, rfl, trivial⟩ ⟨_, hI.arr .n trivial, h⟩ rfl
 refine sr (sq (y_eql rfl et ev_const) ?_)
 refine sa ?_
 refine nk (cif h et (fun hb h => ?_) (fun hb h => ?_))
 ·exact c_skip (k_join (decide (op1 = 1)) ⟨rfl, rfl, trivial⟩ ⟨_, hI.arr .n trivial, h⟩ rfl)
 refine sr (sq (y_eql rfl et ev_const) ?_)
 refine sa ?_
 refine nk (cif h et (fun hb h => ?_) (fun hb h => ?_))
 ·exact c_skip (k_join (decide (op1 = 2)) ⟨rfl, rfl, trivial⟩ ⟨_, hI.arr .n trivial, h⟩ rfl)
 refine c_region rfl ?_
 refine sq (y_eql rfl et ev_const) ?_
 refine sa ?_
 refine s_nil ?_
 exact k_join (decide (op1 = 3)) ⟨rfl, rfl, trivial⟩ ⟨_, hI.arr .n trivial, h⟩ rfl
theorem c_ref14_ranked (F : NP) (w0 : World) (hF : ∀ k, F k → k < w0.heap.size) (e1 : GExpr) (a1 : Option Addr) (c1 : Nat) (a2 : Option Addr) (c2 : Nat) (a3 : Option Addr) (c3 : Nat) (hc : AllCl [Cl.sl cGMono a1 c1 e1.Lin.L, Cl.sl cGIndex a2 c2 e1.Idx, Cl.sl cGExpr a3 c3 e1.Args] F w0) (r : Bool)
  (h : m_ref14_ranked e1 = some r) :
  Calls Tryz.prog 109 #[(Value.agg #[vi e1.Op, (str e1.Name), vi e1.Val.N, vi e1.Val.D, vi e1.Type_.Kind, vi e1.Type_.Bits, vi e1.Type_.Frac, vi e1.Type_.Round, vi e1.Type_.Over, vi e1.Lin.K, vs a1 e1.Lin.L.length c1, vs a2 e1.Idx.length c2, vs a3 e1.Args.length c3])] w0 fun e w => e = .returned (vb r) ∧ Ext w0 w ∧ AllCl [] F w := by
 refine enterK Tryz.func109 rfl Tryz.ntmps109 rfl ?_
 have hI := Bun.start hF hc
 clear hc
 rw [m_ref14_ranked] at h
 refine sr (l_box (v := (Value.agg #[vi e1.Op, (str e1.Name), vi e1.Val.N, vi e1.Val.D, vi e1.Type_.Kind, vi e1.Type_.Bits, vi e1.Type_.Frac, vi e1.Type_.Round, vi e1.Type_.Over, vi e1.Lin.K, vs a1 e1.Lin.L.length c1, vs a2 e1.Idx.length c2, vs a3 e1.Args.length c3])) (cs := #[vi e1.Op, (str e1.Name), vi e1.Val.N, vi e1.Val.D, vi e1.Type_.Kind, vi e1.Type_.Bits, vi e1.Type_.Frac, vi e1.Type_.Round, vi e1.Type_.Over, vi e1.Lin.K, vs a1 e1.Lin.L.length c1, vs a2 e1.Idx.length c2, vs a3 e1.Args.length c3]) hI gn rfl rfl et rfl ?_)
 clear hI; intro b1 c4 w1 hI
 obtain ⟨c5, hI⟩ := hI.relBox .z
 refine sac ?_
 refine nk (c_seq (c_seq (c_drawX [] false (.c (0, .q) (.c (1, .q) (.c (2, .q) (.c (3, .q) (.c (4, .q) (.c (5, .s) (.c (6, .q) (.c (7, .q) (.c (8, .q) (.c (9, .q) (.c (10, .q) (.c (11, .q) (.c (12, .q) .n))))))))))))) hI (by kernel_rfl) (by kernel_rfl) ?_)))
 clear hI; intro w2 hI
 refine a_q rfl gn rfl (fun w' => y_fieldAddr rfl et u39 rfl size_37 rfl) ?_
 refine a_read rfl gn rfl (fun w' hw' => (y_load1 (v := (vs a3 e1.Args.length c3)) rfl et u37 rfl ((hI.kblk (l := [vs a3 e1.Args.length c3]) .z rfl).at_ (SX.any rfl hw')))) (by kernel_rfl) ?_
 refine a_q rfl gn rfl (fun w' => y_lenl rfl u37 et) ?_
 refine a_q rfl gn rfl (fun w' => y_fieldAddr rfl et u39 rfl size_3 rfl) ?_
 refine a_read rfl gn rfl (fun w' hw' => (y_load1 (v := (vi e1.Op)) rfl et u3 rfl ((hI.kblk (l := [vi e1.Op]) .z rfl).at_ (SX.any rfl hw')))) (by kernel_rfl) ?_
 obtain ⟨r1, hx1, h⟩ := bnd_some h
 refine la_call rfl gn rfl (r_callF (vs := [vi e1.Op]) rfl ok_139 ⟨et, trivial⟩) (Calls.mono (c_ref14_args (Dj F c5) w2 hI.lt e1.Op trivial r1 hx1) ?_)
 rintro _ w3 ⟨rfl, hx2, hl1⟩
 refine ⟨_, rfl, hx2, ?_⟩
 replace hI := (hI.ext hx2)
 refine a_q rfl gn rfl (fun w' => y_neq rfl et et) ?_
 refine a_q rfl gn rfl (fun w' => y_move rfl et) ?_
 refine a_gval rfl (g_false rfl rfl rfl rfl) rfl (fun hc => fun w' => (y_fieldAddr rfl et u39 rfl size_34 rfl)) ?_
 refine a_gread rfl (g_false rfl rfl rfl rfl) rfl (fun hc => fun w' hw' => (y_load1 (v := (vs a2 e1.Idx.length c2)) rfl (ev_gv et hc) u34 rfl ((hI.kblk (l := [vs a2 e1.Idx.length c2]) .z rfl).at_ (SX.any rfl hw')))) (by kernel_rfl) ?_
 refine a_gval rfl (g_false rfl rfl rfl rfl) rfl (fun hc => fun w' => (y_lenl rfl u34 (ev_gv et hc))) ?_
 refine a_gval rfl (g_false rfl rfl rfl rfl) rfl (fun hc => fun w' => (y_gtr rfl (ev_gv et hc) ev_const)) ?_
 refine a_q rfl gn rfl (fun w' => y_or rfl et et) ?_
 refine a_nil ?_
 refine k_same (cif h et (fun hb h => ?_) (fun hb h => ?_))
 ·refine sr (sac ?_)
  refine nk (c_ret ?_)
  obtain rfl := some_inj h
  exact q_ret (vs := [vb false]) Tryz.results109 ⟨ev_tmp rfl rfl, trivial⟩ (fq hI trivial)
 refine c_skip (k_same (c_seq (sr (sac ?_))))
 refine nk (c_block (c_loop (α := Nat × Int) (fun x => fun w => ∃ C, Bun noM F w0 C w [] [Cl.blk b1 39 #[vi e1.Op, (str e1.Name), vi e1.Val.N, vi e1.Val.D, vi e1.Type_.Kind, vi e1.Type_.Bits, vi e1.Type_.Frac, vi e1.Type_.Round, vi e1.Type_.Over, vi e1.Lin.K, vs a1 e1.Lin.L.length c1, vs a2 e1.Idx.length c2, vs a3 e1.Args.length c3], Cl.sl cGMono a1 c1 e1.Lin.L, Cl.sl cGIndex a2 c2 e1.Idx, Cl.sl cGExpr a3 c3 e1.Args] ∧ m_ref14_ranked_l1 e1 (x.1) (x.2) = some r) (fun x _ => x.1) (fun x => [(1, vp b1 0), (3, vi (x.2))]) (fu, 0) ⟨_, hI.arr .n ⟨.z, (.s .z), (.s (.s .z)), (.s (.s (.s .z))), trivial⟩, h⟩ ⟨rfl, rfl, trivial⟩ ?_))
 clear h hI; rintro ⟨fuel1, i1⟩ w4 ⟨c6, hI, h⟩
 dsimp only at hI h
 rcases fuel1 with _ | fuel1
 ·rw [m_ref14_ranked_l1] at h; cases h
 rw [m_ref14_ranked_l1] at h
 refine c_sub (e := [(1, vp b1 0), (3, vi i1)]) ⟨rfl, rfl, trivial⟩ ?_
 refine c_seq (sr (sm ?_))
 refine sq (y_fieldAddr rfl et u39 rfl size_34 rfl) ?_
 refine sq (y_load1 (v := (vs a2 e1.Idx.length c2)) rfl et u34 rfl (hI.kblk (l := [vs a2 e1.Idx.length c2]) .z rfl).1) ?_
 refine sq (y_lenl rfl u34 et) ?_
 refine sq (y_lss rfl et et) ?_
 refine nk (cif h et (fun hb h => ?_) (fun hb h => ?_))
 ·refine c_skip (k_same (c_seq (c_block (sr (sq (y_fieldAddr rfl et u39 rfl size_34 rfl) ?_)))))
  refine sq (y_load1 (v := (vs a2 e1.Idx.length c2)) rfl et u34 rfl (hI.kblk (l := [vs a2 e1.Idx.length c2]) .z rfl).1) ?_
  refine sm ?_
  obtain ⟨e2, hx3, h⟩ := bnd_some h
  obtain ⟨ad1, cs1, hA1, hr1, hq1⟩ := hI.clat (.s (.s .z)) hx3
  obtain ⟨a4, c7, a5, c8, rfl, hf1, hf2⟩ := hr1
  have hI := hI.add (c := Cl.sl cGMono a4 c7 e2.Lin.L) hf1
  have hI := hI.add (c := Cl.sl cGLin a5 c8 e2.At) hf2
  refine sq (y_indexAddr rfl u34 size_32 et et (lat_bd hx3) hA1) ?_
  refine sq (y_fieldAddr rfl et u32 rfl size_30 rfl) ?_
  refine sq (y_load1 (v := (vs a5 e2.At.length c8)) rfl et u30 rfl (CA.part hq1 rfl).1) ?_
  refine sq (y_lenl rfl u30 et) ?_
  refine sq (y_gtr rfl et ev_const) ?_
  refine nk (cif h et (fun hb h => ?_) (fun hb h => ?_))
  ·refine sr (sac ?_)
   refine nk (c_ret ?_)
   obtain rfl := some_inj h
   exact q_ret (vs := [vb false]) Tryz.results109 ⟨ev_tmp rfl rfl, trivial⟩ (fq hI trivial)
  refine c_skip (k_same (c_region rfl ?_))
  refine sm ?_
  refine sq (y_add rfl et ev_const) ?_
  refine sa ?_
  refine s_nil ?_
  exact k_loop (fuel1, wi64 (i1 + 1)) ⟨rfl, rfl, trivial⟩ ⟨_, hI.arr .n ⟨(.s (.s .z)), (.s (.s (.s .z))), (.s (.s (.s (.s .z)))), (.s (.s (.s (.s (.s .z))))), trivial⟩, h⟩ (Nat.lt_succ_self _)
 refine c_exit ?_
 refine k_in ?_
 refine k_same (sr (sac ?_))
 refine nk (c_ret ?_)
 obtain rfl := some_inj h
 exact q_ret (vs := [vb true]) Tryz.results109 ⟨ev_tmp rfl rfl, trivial⟩ (fq hI trivial)
theorem c_ref14_IsCondition (F : NP) (w0 : World) (hF : ∀ k, F k → k < w0.heap.size) (e1 : GExpr) (a1 : Option Addr) (c1 : Nat) (a2 : Option Addr) (c2 : Nat) (a3 : Option Addr) (c3 : Nat) (hc : AllCl [Cl.sl cGMono a1 c1 e1.Lin.L, Cl.sl cGIndex a2 c2 e1.Idx, Cl.sl cGExpr a3 c3 e1.Args] F w0) (r : Bool)
  (h : m_ref14_IsCondition e1 = some r) :
  Calls Tryz.prog 140 #[(Value.agg #[vi e1.Op, (str e1.Name), vi e1.Val.N, vi e1.Val.D, vi e1.Type_.Kind, vi e1.Type_.Bits, vi e1.Type_.Frac, vi e1.Type_.Round, vi e1.Type_.Over, vi e1.Lin.K, vs a1 e1.Lin.L.length c1, vs a2 e1.Idx.length c2, vs a3 e1.Args.length c3])] w0 fun e w => e = .returned (vb r) ∧ Ext w0 w ∧ AllCl [] F w := by
 refine enterK Tryz.func140 rfl Tryz.ntmps140 rfl ?_
 have hI := Bun.start hF hc
 clear hc
 rw [m_ref14_IsCondition] at h
 refine sr (l_box (v := (Value.agg #[vi e1.Op, (str e1.Name), vi e1.Val.N, vi e1.Val.D, vi e1.Type_.Kind, vi e1.Type_.Bits, vi e1.Type_.Frac, vi e1.Type_.Round, vi e1.Type_.Over, vi e1.Lin.K, vs a1 e1.Lin.L.length c1, vs a2 e1.Idx.length c2, vs a3 e1.Args.length c3])) (cs := #[vi e1.Op, (str e1.Name), vi e1.Val.N, vi e1.Val.D, vi e1.Type_.Kind, vi e1.Type_.Bits, vi e1.Type_.Frac, vi e1.Type_.Round, vi e1.Type_.Over, vi e1.Lin.K, vs a1 e1.Lin.L.length c1, vs a2 e1.Idx.length c2, vs a3 e1.Args.length c3]) hI gn rfl rfl et rfl ?_)
 clear hI; intro b1 c4 w1 hI
 obtain ⟨c5, hI⟩ := hI.relBox .z
 refine sac ?_
 refine nk (sr (sq (y_fieldAddr rfl et u39 rfl size_3 rfl) ?_))
 refine sq (y_load1 (v := (vi e1.Op)) rfl et u3 rfl (hI.kblk (l := [vi e1.Op]) .z rfl).1) ?_
 refine sq (y_geq rfl et ev_const) ?_
 refine sm ?_
 refine s_gval (g_true rfl rfl rfl rfl) rfl (fun hc => y_fieldAddr rfl et u39 rfl size_3 rfl) ?_
 refine s_gval (g_true rfl rfl rfl rfl) rfl (fun hc => (y_load1 (v := (vi e1.Op)) rfl (ev_gv et hc) u3 rfl (hI.kblk (l := [vi e1.Op]) .z rfl).1)) ?_
 refine s_gval (g_true rfl rfl rfl rfl) rfl (fun hc => y_leq rfl (ev_gv et hc) ev_const) ?_
 refine sq (y_and rfl et et) ?_
 refine sa ?_
 refine nk (c_ret ?_)
 obtain rfl := some_inj h
 exact q_ret (vs := [(vb ((decide (13 ≤ e1.Op)) && (decide (e1.Op ≤ 18))))]) Tryz.results140 ⟨ev_tmp rfl rfl, trivial⟩ (fq hI trivial)
theorem c_ref14_wants (F : NP) (w0 : World) (hF : ∀ k, F k → k < w0.heap.size) (op1 : Int) (at1 : Int) (hc : AllCl [] F w0) (r : Bool)
  (h : m_ref14_wants op1 at1 = some r) :
  Calls Tryz.prog 141 #[vi op1, vi at1] w0 fun e w => e = .returned (vb r) ∧ Ext w0 w ∧ AllCl [] F w := by
 refine enterK Tryz.func141 rfl Tryz.ntmps141 rfl ?_
 have hI := Bun.start hF hc
 clear hc
 rw [m_ref14_wants] at h
 refine sr (sac ?_)
 refine nk (sr (sm ?_))
 refine sq (y_eql rfl et ev_const) ?_
 refine sm ?_
 refine s_gval (g_true rfl rfl rfl rfl) rfl (fun hc => y_move rfl et) ?_
 refine s_gval (g_true rfl rfl rfl rfl) rfl (fun hc => y_eql rfl (ev_gv et hc) ev_const) ?_
 refine sq (y_and rfl et et) ?_
 refine sm ?_
 refine s_gval (g_false rfl rfl rfl rfl) rfl (fun hc => y_move rfl et) ?_
 refine s_gval (g_false rfl rfl rfl rfl) rfl (fun hc => y_eql rfl (ev_gv et hc) ev_const) ?_
 refine sq (y_or rfl et et) ?_
 refine sm ?_
 refine s_gval (g_false rfl rfl rfl rfl) rfl (fun hc => y_move rfl et) ?_
 refine s_gval (g_false rfl rfl rfl rfl) rfl (fun hc => y_eql rfl (ev_gv et hc) ev_const) ?_
 refine sq (y_or rfl et et) ?_
 refine sm ?_
 refine s_gval (g_false rfl rfl rfl rfl) rfl (fun hc => y_move rfl et) ?_
 refine s_gval (g_false rfl rfl rfl rfl) rfl (fun hc => y_eql rfl (ev_gv et hc) ev_const) ?_
 refine sq (y_or rfl et et) ?_
 refine sa ?_
 refine nk (c_ret ?_)
 obtain rfl := some_inj h
 exact q_ret (vs := [(vb (((((decide (op1 = 11)) && (decide (at1 = 0))) || (decide (op1 = 16))) || (decide (op1 = 17))) || (decide (op1 = 18))))]) Tryz.results141 ⟨ev_tmp rfl rfl, trivial⟩ (fq hI trivial)
theorem c_ref14_typed (F : NP) (w0 : World) (hF : ∀ k, F k → k < w0.heap.size) (e1 : GExpr) (a1 : Option Addr) (c1 : Nat) (a2 : Option Addr) (c2 : Nat) (a3 : Option Addr) (c3 : Nat) (hc : AllCl [Cl.sl cGMono a1 c1 e1.Lin.L, Cl.sl cGIndex a2 c2 e1.Idx, Cl.sl cGExpr a3 c3 e1.Args] F w0) (r : Bool)
  (h : m_ref14_typed e1 = some r) :
  Calls Tryz.prog 110 #[(Value.agg #[vi e1.Op, (str e1.Name), vi e1.Val.N, vi e1.Val.D, vi e1.Type_.Kind, vi e1.Type_.Bits, vi e1.Type_.Frac, vi e1.Type_.Round, vi e1.Type_.Over, vi e1.Lin.K, vs a1 e1.Lin.L.length c1, vs a2 e1.Idx.length c2, vs a3 e1.Args.length c3])] w0 fun e w => e = .returned (vb r) ∧ Ext w0 w ∧ AllCl [] F w := by
 refine enterK Tryz.func110 rfl Tryz.ntmps110 rfl ?_
 have hI := Bun.start hF hc
 clear hc
 rw [m_ref14_typed] at h
 refine sr (l_box (v := (Value.agg #[vi e1.Op, (str e1.Name), vi e1.Val.N, vi e1.Val.D, vi e1.Type_.Kind, vi e1.Type_.Bits, vi e1.Type_.Frac, vi e1.Type_.Round, vi e1.Type_.Over, vi e1.Lin.K, vs a1 e1.Lin.L.length c1, vs a2 e1.Idx.length c2, vs a3 e1.Args.length c3])) (cs := #[vi e1.Op, (str e1.Name), vi e1.Val.N, vi e1.Val.D, vi e1.Type_.Kind, vi e1.Type_.Bits, vi e1.Type_.Frac, vi e1.Type_.Round, vi e1.Type_.Over, vi e1.Lin.K, vs a1 e1.Lin.L.length c1, vs a2 e1.Idx.length c2, vs a3 e1.Args.length c3]) hI gn rfl rfl et rfl ?_)
 clear hI; intro b1 c4 w1 hI
 obtain ⟨c5, hI⟩ := hI.relBox .z
 refine sac ?_
 refine nk (c_seq (sr (sq (y_fieldAddr rfl et u39 rfl size_3 rfl) ?_)))
 refine sq (y_load1 (v := (vi e1.Op)) rfl et u3 rfl (hI.kblk (l := [vi e1.Op]) .z rfl).1) ?_
 refine sq (y_eql rfl et ev_const) ?_
 refine sm ?_
 refine s_gval (g_false rfl rfl rfl rfl) rfl (fun hc => y_fieldAddr rfl et u39 rfl size_3 rfl) ?_
 refine s_gval (g_false rfl rfl rfl rfl) rfl (fun hc => (y_load1 (v := (vi e1.Op)) rfl (ev_gv et hc) u3 rfl (hI.kblk (l := [vi e1.Op]) .z rfl).1)) ?_
 refine s_gval (g_false rfl rfl rfl rfl) rfl (fun hc => y_eql rfl (ev_gv et hc) ev_const) ?_
 refine sq (y_or rfl et et) ?_
 refine sm ?_
 refine s_gval (g_true rfl rfl rfl rfl) rfl (fun hc => y_fieldAddr rfl et u39 rfl size_23 rfl) ?_
 refine s_gval (g_true rfl rfl rfl rfl) rfl (fun hc => (y_loadN (l := (lType e1.Type_)) rfl (ev_gv et hc) u23 rfl size_23 (hI.kblk (l := (lType e1.Type_)) .z rfl).1)) ?_
 obtain ⟨r1, hx1, h⟩ := bnd_some h
 replace hx1 := gd_some hx1
 refine s_gcallU (v := (vb r1)) (g_true rfl rfl rfl rfl) rfl (fun hc => (r_callF (vs := [(Value.agg (AType e1.Type_))]) rfl ok_31 ⟨(ev_gv et hc), trivial⟩)) (fun hc => (c_base_Type (Dj F c5) w1 hI.lt e1.Type_ trivial r1 (hx1 hc)).mono fun _ _ k => ⟨k.1, k.2.1⟩) ?_
 intro w2 hx2; replace hI := hI.ext hx2
 refine s_gval (g_true rfl rfl rfl rfl) rfl (fun hc => y_not rfl (ev_gv et hc)) ?_
 refine sq (y_and rfl et et) ?_
 refine nk (cif h et (fun hb h => ?_) (fun hb h => ?_))
 ·refine sr (sac ?_)
  refine nk (c_ret ?_)
  obtain rfl := some_inj h
  exact q_ret (vs := [vb false]) Tryz.results110 ⟨ev_tmp rfl rfl, trivial⟩ (fq hI trivial)
 refine c_skip (k_same (c_seq (sr (sac ?_))))
 refine nk (c_block (c_loop (α := Nat × Int) (fun x => fun w => ∃ C, Bun noM F w0 C w [] [Cl.blk b1 39 #[vi e1.Op, (str e1.Name), vi e1.Val.N, vi e1.Val.D, vi e1.Type_.Kind, vi e1.Type_.Bits, vi e1.Type_.Frac, vi e1.Type_.Round, vi e1.Type_.Over, vi e1.Lin.K, vs a1 e1.Lin.L.length c1, vs a2 e1.Idx.length c2, vs a3 e1.Args.length c3], Cl.sl cGMono a1 c1 e1.Lin.L, Cl.sl cGIndex a2 c2 e1.Idx, Cl.sl cGExpr a3 c3 e1.Args] ∧ m_ref14_typed_l1 e1 (x.1) (x.2) = some r) (fun x _ => x.1) (fun x => [(1, vp b1 0), (3, vi (x.2))]) (fu, 0) ⟨_, hI.arr .n ⟨.z, (.s .z), (.s (.s .z)), (.s (.s (.s .z))), trivial⟩, h⟩ ⟨rfl, rfl, trivial⟩ ?_))
 clear h hI; rintro ⟨fuel1, i1⟩ w3 ⟨c6, hI, h⟩
 dsimp only at hI h
 rcases fuel1 with _ | fuel1
 ·rw [m_ref14_typed_l1] at h; cases h
 rw [m_ref14_typed_l1] at h
 refine c_sub (e := [(1, vp b1 0), (3, vi i1)]) ⟨rfl, rfl, trivial⟩ ?_
 refine c_seq (sr (sm ?_))
 refine sq (y_fieldAddr rfl et u39 rfl size_37 rfl) ?_
 refine sq (y_load1 (v := (vs a3 e1.Args.length c3)) rfl et u37 rfl (hI.kblk (l := [vs a3 e1.Args.length c3]) .z rfl).1) ?_
 refine sq (y_lenl rfl u37 et) ?_
 refine sq (y_lss rfl et et) ?_
 refine nk (cif h et (fun hb h => ?_) (fun hb h => ?_))
 ·refine c_skip (k_same (c_seq (c_block (c_seq (c_drawX [] false (.c (0, .q) (.c (1, .q) (.c (2, .q) (.c (3, .q) (.c (4, .q) (.c (6, .q) (.c (7, .q) (.c (8, .q) (.c (5, .s) (.c (9, .s) (.c (10, .q) .n))))))))))) hI (by kernel_rfl) (by kernel_rfl) ?_)))))
  clear hI; intro w4 hI
  refine a_q rfl gn rfl (fun w' => y_fieldAddr rfl et u39 rfl size_37 rfl) ?_
  refine a_read rfl gn rfl (fun w' hw' => (y_load1 (v := (vs a3 e1.Args.length c3)) rfl et u37 rfl ((hI.kblk (l := [vs a3 e1.Args.length c3]) .z rfl).at_ (SX.any rfl hw')))) (by kernel_rfl) ?_
  refine a_q rfl gn rfl (fun w' => y_move rfl et) ?_
  obtain ⟨e2, hx3, h⟩ := bnd_some h
  obtain ⟨ad1, cs1, hA1, hr1, hq1⟩ := hI.clat (.s (.s (.s .z))) hx3
  obtain ⟨a4, c7, a5, c8, a6, c9, rfl, hf1, hf2, hf3⟩ := cGExpr_out hr1
  have hI := hI.add (c := Cl.sl cGMono a4 c7 e2.Lin.L) hf1
  have hI := hI.add (c := Cl.sl cGIndex a5 c8 e2.Idx) hf2
  have hI := hI.add (c := Cl.sl cGExpr a6 c9 e2.Args) hf3
  refine a_q rfl gn rfl (fun w' => y_indexAddr rfl u37 size_39 et et (lat_bd hx3) hA1) ?_
  refine a_read rfl gn rfl (fun w' hw' => (y_loadN (l := [vi e2.Op, (str e2.Name), vi e2.Val.N, vi e2.Val.D, vi e2.Type_.Kind, vi e2.Type_.Bits, vi e2.Type_.Frac, vi e2.Type_.Round, vi e2.Type_.Over, vi e2.Lin.K, vs a4 e2.Lin.L.length c7, vs a5 e2.Idx.length c8, vs a6 e2.Args.length c9]) rfl et u39 rfl size_39 (hq1.at_ (SX.any rfl hw')))) (by kernel_rfl) ?_
  refine a_q rfl gn rfl (fun w' => y_fieldAddr rfl et u39 rfl size_3 rfl) ?_
  refine a_read rfl gn rfl (fun w' hw' => (y_load1 (v := (vi e1.Op)) rfl et u3 rfl ((hI.kblk (l := [vi e1.Op]) (.s (.s (.s .z))) rfl).at_ (SX.any rfl hw')))) (by kernel_rfl) ?_
  refine a_q rfl gn rfl (fun w' => y_move rfl et) ?_
  obtain ⟨r2, hx4, h⟩ := bnd_some h
  refine la_call rfl gn rfl (r_callF (vs := [(Value.agg #[vi e2.Op, (str e2.Name), vi e2.Val.N, vi e2.Val.D, vi e2.Type_.Kind, vi e2.Type_.Bits, vi e2.Type_.Frac, vi e2.Type_.Round, vi e2.Type_.Over, vi e2.Lin.K, vs a4 e2.Lin.L.length c7, vs a5 e2.Idx.length c8, vs a6 e2.Args.length c9])]) rfl ok_140 ⟨et, trivial⟩) (Calls.mono (c_ref14_IsCondition (Dj F c6) w4 hI.lt e2 a4 c7 a5 c8 a6 c9 ⟨(hI.get (.s (.s .z))), (hI.get (.s .z)), (hI.get .z), trivial⟩ r2 hx4) ?_)
  rintro _ w5 ⟨rfl, hx5, hl2⟩
  refine ⟨_, rfl, hx5, ?_⟩
  replace hI := (hI.ext hx5)
  obtain ⟨r3, hx6, h⟩ := bnd_some h
  refine la_call rfl gn rfl (r_callF (vs := [vi e1.Op, vi i1]) rfl ok_141 ⟨et, ⟨et, trivial⟩⟩) (Calls.mono (c_ref14_wants (Dj F c6) w5 hI.lt e1.Op i1 trivial r3 hx6) ?_)
  rintro _ w6 ⟨rfl, hx7, hl3⟩
  refine ⟨_, rfl, hx7, ?_⟩
  replace hI := (hI.ext hx7)
  refine a_q rfl gn rfl (fun w' => y_neb rfl u4 et et) ?_
  refine a_nil ?_
  refine k_same (cif h et (fun hb h => ?_) (fun hb h => ?_))
  ·refine sr (sac ?_)
   refine nk (c_ret ?_)
   obtain rfl := some_inj h
   exact q_ret (vs := [vb false]) Tryz.results110 ⟨ev_tmp rfl rfl, trivial⟩ (fq hI trivial)
  refine c_skip (k_same (c_region rfl ?_))
  refine sm ?_
  refine sq (y_add rfl et ev_const) ?_
  refine sa ?_
  refine s_nil ?_
  exact k_loop (fuel1, wi64 (i1 + 1)) ⟨rfl, rfl, trivial⟩ ⟨_, hI.arr .n ⟨(.s (.s (.s .z))), (.s (.s (.s (.s .z)))), (.s (.s (.s (.s (.s .z))))), (.s (.s (.s (.s (.s (.s .z)))))), trivial⟩, h⟩ (Nat.lt_succ_self _)
 refine c_exit ?_
 refine k_in ?_
 refine k_same (sr (sac ?_))
 refine nk (c_ret ?_)
 obtain rfl := some_inj h
 exact q_ret (vs := [vb true]) Tryz.results110 ⟨ev_tmp rfl rfl, trivial⟩ (fq hI trivial)
theorem c_base_gcd (F : NP) (w0 : World) (hF : ∀ k, F k → k < w0.heap.size) (a1 : Int) (b1 : Int) (hc : AllCl [] F w0) (r : Int)
  (h : m_base_gcd a1 b1 = some r) :
  Calls Tryz.prog 169 #[vi a1, vi b1] w0 fun e w => e = .returned (vi r) ∧ Ext w0 w ∧ AllCl [] F w := by
 refine enterK Tryz.func169 rfl Tryz.ntmps169 rfl ?_
 have hI := Bun.start hF hc
 clear hc
 rw [m_base_gcd] at h
 refine sr (sac ?_)
 refine nk (c_seq (c_block (c_loop (α := Nat × Int × Int) (fun x => fun w => ∃ C, Bun noM F w0 C w [] [] ∧ m_base_gcd_l1 (x.1) (x.2.1) (x.2.2) = some r) (fun x _ => x.1) (fun x => [(0, vi (x.2.1)), (1, vi (x.2.2))]) (fu, a1, b1) ⟨_, hI.arr .n trivial, h⟩ ⟨rfl, rfl, trivial⟩ ?_)))
 clear h hI; rintro ⟨fuel1, a2, b2⟩ w1 ⟨c1, hI, h⟩
 dsimp only at hI h
 rcases fuel1 with _ | fuel1
 ·rw [m_base_gcd_l1] at h; cases h
 rw [m_base_gcd_l1] at h
 refine c_sub (e := [(0, vi a2), (1, vi b2)]) ⟨rfl, rfl, trivial⟩ ?_
 refine c_seq (sr (sm ?_))
 refine sq (y_neq rfl et ev_const) ?_
 refine nk (cif h et (fun hb h => ?_) (fun hb h => ?_))
 ·refine c_skip (k_same (c_block (c_drawX [] false (.c (0, .q) (.c (1, .q) (.c (2, .q) (.c (3, .q) (.c (4, .q) (.c (5, .q) .n)))))) hI (by kernel_rfl) (by kernel_rfl) ?_)))
  clear hI; intro w2 hI
  refine a_q rfl gn rfl (fun w' => y_move rfl et) ?_
  refine a_q rfl gn rfl (fun w' => y_move rfl et) ?_
  refine a_q rfl gn rfl (fun w' => y_move rfl et) ?_
  obtain ⟨ho1, h⟩ := chk_some h
  refine a_q rfl gn rfl (fun w' => y_rem rfl et et ho1) ?_
  refine a_q rfl gn rfl (fun w' => y_assign rfl et) ?_
  refine a_q rfl gn rfl (fun w' => y_assign rfl et) ?_
  refine a_nil ?_
  exact k_loop (fuel1, b2, Int.tmod a2 b2) ⟨rfl, rfl, trivial⟩ ⟨_, hI.arr .n trivial, h⟩ (Nat.lt_succ_self _)
 refine c_exit ?_
 refine k_in ?_
 refine k_same (sr (sm ?_))
 refine sa ?_
 refine nk (c_ret ?_)
 obtain rfl := some_inj h
 exact q_ret (vs := [vi a2]) Tryz.results169 ⟨ev_tmp rfl rfl, trivial⟩ (fq hI trivial)
theorem c_base_Val (F : NP) (w0 : World) (hF : ∀ k, F k → k < w0.heap.size) (t1 : GType) (v1 : GVal) (hc : AllCl [] F w0) (r : Bool)
  (h : m_base_Val t1 v1 = some r) :
  Calls Tryz.prog 142 #[(Value.agg (AType t1)), (Value.agg (AVal v1))] w0 fun e w => e = .returned (vb r) ∧ Ext w0 w ∧ AllCl [] F w := by
 refine enterK Tryz.func142 rfl Tryz.ntmps142 rfl ?_
 have hI := Bun.start hF hc
 clear hc
 rw [m_base_Val] at h
 refine sr (l_box (v := (Value.agg (AType t1))) (cs := (AType t1)) hI gn rfl rfl et rfl ?_)
 clear hI; intro b1 c1 w1 hI
 obtain ⟨c2, hI⟩ := hI.relBox .z
 refine l_box (v := (Value.agg (AVal v1))) (cs := (AVal v1)) hI gn rfl rfl et rfl ?_
 clear hI; intro b2 c3 w2 hI
 obtain ⟨c4, hI⟩ := hI.relBox .z
 refine sac ?_
 refine nk (c_seq (sr (sq (y_fieldAddr rfl et u23 rfl size_3 rfl) ?_)))
 refine sq (y_load1 (v := (vi t1.Kind)) rfl et u3 rfl (hI.kblk (l := [vi t1.Kind]) (.s .z) rfl).1) ?_
 refine sq (y_eql rfl et ev_const) ?_
 refine nk (cif h et (fun hb h => ?_) (fun hb h => ?_))
 ·refine sr (sq (y_fieldAddr rfl et u23 rfl size_3 rfl) ?_)
  refine sq (y_load1 (v := (vi t1.Bits)) rfl et u3 rfl (hI.kblk (l := [vi t1.Bits]) (.s .z) rfl).1) ?_
  refine sq (y_sub rfl et ev_const) ?_
  obtain ⟨ho1, h⟩ := chk_some h
  refine sq (y_shl rfl ev_const et ho1) ?_
  obtain ⟨half1, hx1, h⟩ := bnd_some h
  refine sq (binU (y_assign rfl et) (congrArg (Value.int .i64) (some_inj hx1))) ?_
  refine nk (sr (sq (y_fieldAddr rfl et u36 rfl size_2 rfl) ?_))
  refine sq (y_load1 (v := (vi v1.D)) rfl et u2 rfl (hI.kblk (l := [vi v1.D]) .z rfl).1) ?_
  refine sq (y_eql rfl et ev_const) ?_
  refine sm ?_
  refine s_gval (g_true rfl rfl rfl rfl) rfl (fun hc => y_fieldAddr rfl et u36 rfl size_2 rfl) ?_
  refine s_gval (g_true rfl rfl rfl rfl) rfl (fun hc => (y_load1 (v := (vi v1.N)) rfl (ev_gv et hc) u2 rfl (hI.kblk (l := [vi v1.N]) .z rfl).1)) ?_
  refine s_gval (g_true rfl rfl rfl rfl) rfl (fun hc => y_move rfl et) ?_
  refine s_gval (g_true rfl rfl rfl rfl) rfl (fun hc => y_neg rfl (ev_gv et hc)) ?_
  refine s_gval (g_true rfl rfl rfl rfl) rfl (fun hc => y_geq rfl (ev_gv et hc) (ev_gv et hc)) ?_
  refine sq (y_and rfl et et) ?_
  refine sm ?_
  refine s_gval (g_true rfl rfl rfl rfl) rfl (fun hc => y_fieldAddr rfl et u36 rfl size_2 rfl) ?_
  refine s_gval (g_true rfl rfl rfl rfl) rfl (fun hc => (y_load1 (v := (vi v1.N)) rfl (ev_gv et hc) u2 rfl (hI.kblk (l := [vi v1.N]) .z rfl).1)) ?_
  refine s_gval (g_true rfl rfl rfl rfl) rfl (fun hc => y_move rfl et) ?_
  refine s_gval (g_true rfl rfl rfl rfl) rfl (fun hc => y_lss rfl (ev_gv et hc) (ev_gv et hc)) ?_
  refine sq (y_and rfl et et) ?_
  refine sa ?_
  refine s_nil ?_
  refine k_next (e := [(4, (vb (((decide (v1.D = 1)) && (decide (wi64 (-half1) ≤ v1.N))) && (decide (v1.N < half1)))))]) ⟨rfl, trivial⟩ ?_
  refine c_ret ?_
  obtain rfl := some_inj h
  exact q_ret (vs := [(vb (((decide (v1.D = 1)) && (decide (wi64 (-half1) ≤ v1.N))) && (decide (v1.N < half1))))]) Tryz.results142 ⟨ev_tmp rfl rfl, trivial⟩ (fq hI trivial)
 refine c_skip (k_same (c_seq (sr (sq (y_fieldAddr rfl et u36 rfl size_2 rfl) ?_))))
 refine sq (y_load1 (v := (vi v1.N)) rfl et u2 rfl (hI.kblk (l := [vi v1.N]) .z rfl).1) ?_
 refine sq (y_gtr rfl et ev_const) ?_
 refine sm ?_
 refine s_gval (g_false rfl rfl rfl rfl) rfl (fun hc => y_fieldAddr rfl et u36 rfl size_2 rfl) ?_
 refine s_gval (g_false rfl rfl rfl rfl) rfl (fun hc => (y_load1 (v := (vi v1.N)) rfl (ev_gv et hc) u2 rfl (hI.kblk (l := [vi v1.N]) .z rfl).1)) ?_
 refine s_gval (g_false rfl rfl rfl rfl) rfl (fun hc => y_lss rfl (ev_gv et hc) ev_const) ?_
 refine sq (y_or rfl et et) ?_
 refine sm ?_
 refine s_gval (g_false rfl rfl rfl rfl) rfl (fun hc => y_fieldAddr rfl et u36 rfl size_2 rfl) ?_
 refine s_gval (g_false rfl rfl rfl rfl) rfl (fun hc => (y_load1 (v := (vi v1.D)) rfl (ev_gv et hc) u2 rfl (hI.kblk (l := [vi v1.D]) .z rfl).1)) ?_
 refine s_gval (g_false rfl rfl rfl rfl) rfl (fun hc => y_lss rfl (ev_gv et hc) ev_const) ?_
 refine sq (y_or rfl et et) ?_
 refine sm ?_
 refine s_gval (g_false rfl rfl rfl rfl) rfl (fun hc => y_fieldAddr rfl et u36 rfl size_2 rfl) ?_
 refine s_gval (g_false rfl rfl rfl rfl) rfl (fun hc => (y_load1 (v := (vi v1.D)) rfl (ev_gv et hc) u2 rfl (hI.kblk (l := [vi v1.D]) .z rfl).1)) ?_
 refine s_gval (g_false rfl rfl rfl rfl) rfl (fun hc => y_gtr rfl (ev_gv et hc) ev_const) ?_
 refine sq (y_or rfl et et) ?_
 refine nk (cif h et (fun hb h => ?_) (fun hb h => ?_))
 ·refine sr (sac ?_)
  refine s_nil ?_
  refine k_next (e := [(4, vb false)]) ⟨rfl, trivial⟩ ?_
  refine c_ret ?_
  obtain rfl := some_inj h
  exact q_ret (vs := [vb false]) Tryz.results142 ⟨ev_tmp rfl rfl, trivial⟩ (fq hI trivial)
 refine c_skip (k_next (e := [(2, vp b1 0), (3, vp b2 0)]) ⟨rfl, rfl, trivial⟩ ?_)
 refine c_seq (sr (sq (y_fieldAddr rfl et u23 rfl size_3 rfl) ?_))
 refine sq (y_load1 (v := (vi t1.Kind)) rfl et u3 rfl (hI.kblk (l := [vi t1.Kind]) (.s .z) rfl).1) ?_
 refine sq (y_eql rfl et ev_const) ?_
 refine nk (cif h et (fun hb h => ?_) (fun hb h => ?_))
 ·refine sr (sq (y_fieldAddr rfl et u36 rfl size_2 rfl) ?_)
  refine sq (y_load1 (v := (vi v1.D)) rfl et u2 rfl (hI.kblk (l := [vi v1.D]) .z rfl).1) ?_
  refine sq (y_eql rfl et ev_const) ?_
  refine sa ?_
  refine nk (c_ret ?_)
  obtain rfl := some_inj h
  exact q_ret (vs := [(vb (decide (v1.D = 1)))]) Tryz.results142 ⟨ev_tmp rfl rfl, trivial⟩ (fq hI trivial)
 refine c_skip (k_same (sr (sq (y_fieldAddr rfl et u36 rfl size_2 rfl) ?_)))
 refine sq (y_load1 (v := (vi v1.N)) rfl et u2 rfl (hI.kblk (l := [vi v1.N]) .z rfl).1) ?_
 refine sq (y_fieldAddr rfl et u36 rfl size_2 rfl) ?_
 refine sq (y_load1 (v := (vi v1.N)) rfl et u2 rfl (hI.kblk (l := [vi v1.N]) .z rfl).1) ?_
 refine sq (y_neg rfl et) ?_
 refine sq (y_max rfl et et) ?_
 refine sq (y_fieldAddr rfl et u36 rfl size_2 rfl) ?_
 refine sq (y_load1 (v := (vi v1.D)) rfl et u2 rfl (hI.kblk (l := [vi v1.D]) .z rfl).1) ?_
 obtain ⟨r1, hx2, h⟩ := bnd_some h
 refine s_call gn rfl (r_callF (vs := [(vi (max v1.N (wi64 (-v1.N)))), vi v1.D]) rfl ok_169 ⟨et, ⟨et, trivial⟩⟩) (Calls.mono (c_base_gcd (Dj F c4) w2 hI.lt (max v1.N (wi64 (-v1.N))) v1.D trivial r1 hx2) ?_)
 rintro _ w3 ⟨rfl, hx3, hl1⟩
 refine ⟨_, rfl, ?_⟩
 replace hI := (hI.ext hx3)
 refine sq (y_eql rfl et ev_const) ?_
 refine sa ?_
 refine nk (c_ret ?_)
 obtain rfl := some_inj h
 exact q_ret (vs := [(vb (decide (r1 = 1)))]) Tryz.results142 ⟨ev_tmp rfl rfl, trivial⟩ (fq hI trivial)
theorem c_ref14_formed (F : NP) (w0 : World) (hF : ∀ k, F k → k < w0.heap.size) (e1 : GExpr) (a1 : Option Addr) (c1 : Nat) (a2 : Option Addr) (c2 : Nat) (a3 : Option Addr) (c3 : Nat) (hc : AllCl [Cl.sl cGMono a1 c1 e1.Lin.L, Cl.sl cGIndex a2 c2 e1.Idx, Cl.sl cGExpr a3 c3 e1.Args] F w0) (r : Bool)
  (h : m_ref14_formed e1 = some r) :
  Calls Tryz.prog 111 #[(Value.agg #[vi e1.Op, (str e1.Name), vi e1.Val.N, vi e1.Val.D, vi e1.Type_.Kind, vi e1.Type_.Bits, vi e1.Type_.Frac, vi e1.Type_.Round, vi e1.Type_.Over, vi e1.Lin.K, vs a1 e1.Lin.L.length c1, vs a2 e1.Idx.length c2, vs a3 e1.Args.length c3])] w0 fun e w => e = .returned (vb r) ∧ Ext w0 w ∧ AllCl [] F w := by
 refine enterK Tryz.func111 rfl Tryz.ntmps111 rfl ?_
 have hI := Bun.start hF hc
 clear hc
 rw [m_ref14_formed] at h
 refine sr (l_box (v := (Value.agg #[vi e1.Op, (str e1.Name), vi e1.Val.N, vi e1.Val.D, vi e1.Type_.Kind, vi e1.Type_.Bits, vi e1.Type_.Frac, vi e1.Type_.Round, vi e1.Type_.Over, vi e1.Lin.K, vs a1 e1.Lin.L.length c1, vs a2 e1.Idx.length c2, vs a3 e1.Args.length c3])) (cs := #[vi e1.Op, (str e1.Name), vi e1.Val.N, vi e1.Val.D, vi e1.Type_.Kind, vi e1.Type_.Bits, vi e1.Type_.Frac, vi e1.Type_.Round, vi e1.Type_.Over, vi e1.Lin.K, vs a1 e1.Lin.L.length c1, vs a2 e1.Idx.length c2, vs a3 e1.Args.length c3]) hI gn rfl rfl et rfl ?_)
 clear hI; intro b1 c4 w1 hI
 obtain ⟨c5, hI⟩ := hI.relBox .z
 refine sac ?_
 refine nk (c_seq (sr (sq (y_fieldAddr rfl et u39 rfl size_3 rfl) ?_)))
 refine sq (y_load1 (v := (vi e1.Op)) rfl et u3 rfl (hI.kblk (l := [vi e1.Op]) .z rfl).1) ?_
 refine sq (y_eql rfl et ev_const) ?_
 refine sm ?_
 refine s_gval (g_true rfl rfl rfl rfl) rfl (fun hc => y_fieldAddr rfl et u39 rfl size_23 rfl) ?_
 refine s_gval (g_true rfl rfl rfl rfl) rfl (fun hc => (y_loadN (l := (lType e1.Type_)) rfl (ev_gv et hc) u23 rfl size_23 (hI.kblk (l := (lType e1.Type_)) .z rfl).1)) ?_
 refine s_gval (g_true rfl rfl rfl rfl) rfl (fun hc => y_fieldAddr rfl et u39 rfl size_36 rfl) ?_
 refine s_gval (g_true rfl rfl rfl rfl) rfl (fun hc => (y_loadN (l := (lVal e1.Val)) rfl (ev_gv et hc) u36 rfl size_36 (hI.kblk (l := (lVal e1.Val)) .z rfl).1)) ?_
 obtain ⟨r1, hx1, h⟩ := bnd_some h
 replace hx1 := gd_some hx1
 refine s_gcallU (v := (vb r1)) (g_true rfl rfl rfl rfl) rfl (fun hc => (r_callF (vs := [(Value.agg (AType e1.Type_)), (Value.agg (AVal e1.Val))]) rfl ok_142 ⟨(ev_gv et hc), ⟨(ev_gv et hc), trivial⟩⟩)) (fun hc => (c_base_Val (Dj F c5) w1 hI.lt e1.Type_ e1.Val trivial r1 (hx1 hc)).mono fun _ _ k => ⟨k.1, k.2.1⟩) ?_
 intro w2 hx2; replace hI := hI.ext hx2
 refine s_gval (g_true rfl rfl rfl rfl) rfl (fun hc => y_not rfl (ev_gv et hc)) ?_
 refine sq (y_and rfl et et) ?_
 refine sm ?_
 refine s_gval (g_false rfl rfl rfl rfl) rfl (fun hc => y_fieldAddr rfl et u39 rfl size_29 rfl) ?_
 refine s_gval (g_false rfl rfl rfl rfl) rfl (fun hc => (y_loadN (l := (lLin e1.Lin a1 c1)) rfl (ev_gv et hc) u29 rfl size_29 (hI.kblk (l := (lLin e1.Lin a1 c1)) .z rfl).1)) ?_
 obtain ⟨r2, hx3, h⟩ := bnd_some h
 replace hx3 := gd_some hx3
 refine s_gcallU (v := (vb r2)) (g_false rfl rfl rfl rfl) rfl (fun hc => (r_callF (vs := [(Value.agg (ALin e1.Lin a1 c1))]) rfl ok_40 ⟨(ev_gv et hc), trivial⟩)) (fun hc => (c_base_LinRight (Dj F c5) w2 hI.lt e1.Lin a1 c1 ⟨(hI.get (.s .z)), trivial⟩ r2 (hx3 hc)).mono fun _ _ k => ⟨k.1, k.2.1⟩) ?_
 intro w3 hx4; replace hI := hI.ext hx4
 refine s_gval (g_false rfl rfl rfl rfl) rfl (fun hc => y_not rfl (ev_gv et hc)) ?_
 refine sq (y_or rfl et et) ?_
 refine nk (cif h et (fun hb h => ?_) (fun hb h => ?_))
 ·refine sr (sac ?_)
  refine nk (c_ret ?_)
  obtain rfl := some_inj h
  exact q_ret (vs := [vb false]) Tryz.results111 ⟨ev_tmp rfl rfl, trivial⟩ (fq hI trivial)
 refine c_skip (k_same (c_seq (sr (sac ?_))))
 refine nk (c_block (c_loop (α := Nat × Int) (fun x => fun w => ∃ C, Bun noM F w0 C w [] [Cl.blk b1 39 #[vi e1.Op, (str e1.Name), vi e1.Val.N, vi e1.Val.D, vi e1.Type_.Kind, vi e1.Type_.Bits, vi e1.Type_.Frac, vi e1.Type_.Round, vi e1.Type_.Over, vi e1.Lin.K, vs a1 e1.Lin.L.length c1, vs a2 e1.Idx.length c2, vs a3 e1.Args.length c3], Cl.sl cGMono a1 c1 e1.Lin.L, Cl.sl cGIndex a2 c2 e1.Idx, Cl.sl cGExpr a3 c3 e1.Args] ∧ m_ref14_formed_l1 e1 (x.1) (x.2) = some r) (fun x _ => x.1) (fun x => [(1, vp b1 0), (3, vi (x.2))]) (fu, 0) ⟨_, hI.arr .n ⟨.z, (.s .z), (.s (.s .z)), (.s (.s (.s .z))), trivial⟩, h⟩ ⟨rfl, rfl, trivial⟩ ?_))
 clear h hI; rintro ⟨fuel1, i1⟩ w4 ⟨c6, hI, h⟩
 dsimp only at hI h
 rcases fuel1 with _ | fuel1
 ·rw [m_ref14_formed_l1] at h; cases h
 rw [m_ref14_formed_l1] at h
 refine c_sub (e := [(1, vp b1 0), (3, vi i1)]) ⟨rfl, rfl, trivial⟩ ?_
 refine c_seq (sr (sm ?_))
 refine sq (y_fieldAddr rfl et u39 rfl size_34 rfl) ?_
 refine sq (y_load1 (v := (vs a2 e1.Idx.length c2)) rfl et u34 rfl (hI.kblk (l := [vs a2 e1.Idx.length c2]) .z rfl).1) ?_
 refine sq (y_lenl rfl u34 et) ?_
 refine sq (y_lss rfl et et) ?_
 refine nk (cif h et (fun hb h => ?_) (fun hb h => ?_))
 ·refine c_skip (k_same (c_join (α := Unit) (fun _ => ⟨59, []⟩) (fun _ => [(1, vp b1 0), (3, vi i1)]) (fun _ => fun w => ∃ C, Bun noM F w0 C w [] [Cl.blk b1 39 #[vi e1.Op, (str e1.Name), vi e1.Val.N, vi e1.Val.D, vi e1.Type_.Kind, vi e1.Type_.Bits, vi e1.Type_.Frac, vi e1.Type_.Round, vi e1.Type_.Over, vi e1.Lin.K, vs a1 e1.Lin.L.length c1, vs a2 e1.Idx.length c2, vs a3 e1.Args.length c3], Cl.sl cGMono a1 c1 e1.Lin.L, Cl.sl cGIndex a2 c2 e1.Idx, Cl.sl cGExpr a3 c3 e1.Args] ∧ m_ref14_formed_j1 (m_ref14_formed_l1 e1 fuel1) i1 = some r) ?_ ?_))
  ·clear h hI; rintro _ w5 ⟨c7, hI, h⟩
   try dsimp only at hI h
   rw [m_ref14_formed_j1] at h
   refine c_sub (e := [(1, vp b1 0), (3, vi i1)]) ⟨rfl, rfl, trivial⟩ ?_
   refine c_region rfl ?_
   refine sm ?_
   refine sq (y_add rfl et ev_const) ?_
   refine sa ?_
   refine s_nil ?_
   exact k_loop (fuel1, wi64 (i1 + 1)) ⟨rfl, rfl, trivial⟩ ⟨_, hI.arr .n ⟨.z, (.s .z), (.s (.s .z)), (.s (.s (.s .z))), trivial⟩, h⟩ (Nat.lt_succ_self _)
  refine c_block (c_seq (sr (sq (y_fieldAddr rfl et u39 rfl size_34 rfl) ?_)))
  refine sq (y_load1 (v := (vs a2 e1.Idx.length c2)) rfl et u34 rfl (hI.kblk (l := [vs a2 e1.Idx.length c2]) .z rfl).1) ?_
  refine sm ?_
  obtain ⟨e2, hx5, h⟩ := bnd_some h
  obtain ⟨ad1, cs1, hA1, hr1, hq1⟩ := hI.clat (.s (.s .z)) hx5
  obtain ⟨a4, c8, a5, c9, rfl, hf1, hf2⟩ := hr1
  have hI := hI.add (c := Cl.sl cGMono a4 c8 e2.Lin.L) hf1
  have hI := hI.add (c := Cl.sl cGLin a5 c9 e2.At) hf2
  refine sq (y_indexAddr rfl u34 size_32 et et (lat_bd hx5) hA1) ?_
  refine sq (y_fieldAddr rfl et u32 rfl size_29 rfl) ?_
  refine sq (y_loadN (l := (lLin e2.Lin a4 c8)) rfl et u29 rfl size_29 (CA.part hq1 rfl).1) ?_
  obtain ⟨r3, hx6, h⟩ := bnd_some h
  refine s_call gn rfl (r_callF (vs := [(Value.agg (ALin e2.Lin a4 c8))]) rfl ok_40 ⟨et, trivial⟩) (Calls.mono (c_base_LinRight (Dj F c6) w4 hI.lt e2.Lin a4 c8 ⟨(hI.get (.s .z)), trivial⟩ r3 hx6) ?_)
  rintro _ w6 ⟨rfl, hx7, hl3⟩
  refine ⟨_, rfl, ?_⟩
  replace hI := (hI.ext hx7)
  refine sq (y_not rfl et) ?_
  refine nk (cif h et (fun hb h => ?_) (fun hb h => ?_))
  ·refine sr (sac ?_)
   refine nk (c_ret ?_)
   obtain rfl := some_inj h
   exact q_ret (vs := [vb false]) Tryz.results111 ⟨ev_tmp rfl rfl, trivial⟩ (fq hI trivial)
  refine c_skip (k_same (sr (sac ?_)))
  refine nk (c_block (c_loop (α := Nat × Int) (fun x => fun w => ∃ C, Bun noM F w0 C w [] [Cl.blk b1 39 #[vi e1.Op, (str e1.Name), vi e1.Val.N, vi e1.Val.D, vi e1.Type_.Kind, vi e1.Type_.Bits, vi e1.Type_.Frac, vi e1.Type_.Round, vi e1.Type_.Over, vi e1.Lin.K, vs a1 e1.Lin.L.length c1, vs a2 e1.Idx.length c2, vs a3 e1.Args.length c3], Cl.sl cGMono a1 c1 e1.Lin.L, Cl.sl cGIndex a2 c2 e1.Idx, Cl.sl cGExpr a3 c3 e1.Args] ∧ m_ref14_formed_l2 e1 i1 (m_ref14_formed_l1 e1 fuel1) (x.1) (x.2) = some r) (fun x _ => x.1) (fun x => [(1, vp b1 0), (3, vi i1), (4, vi (x.2))]) (fu, 0) ⟨_, hI.arr .n ⟨(.s (.s .z)), (.s (.s (.s .z))), (.s (.s (.s (.s .z)))), (.s (.s (.s (.s (.s .z))))), trivial⟩, h⟩ ⟨rfl, rfl, rfl, trivial⟩ ?_))
  clear h hI; rintro ⟨fuel2, k1⟩ w7 ⟨c10, hI, h⟩
  dsimp only at hI h
  rcases fuel2 with _ | fuel2
  ·rw [m_ref14_formed_l2] at h; cases h
  rw [m_ref14_formed_l2] at h
  refine c_sub (e := [(1, vp b1 0), (3, vi i1), (4, vi k1)]) ⟨rfl, rfl, rfl, trivial⟩ ?_
  refine c_seq (sr (sm ?_))
  refine sq (y_fieldAddr rfl et u39 rfl size_34 rfl) ?_
  refine sq (y_load1 (v := (vs a2 e1.Idx.length c2)) rfl et u34 rfl (hI.kblk (l := [vs a2 e1.Idx.length c2]) .z rfl).1) ?_
  refine sm ?_
  obtain ⟨e3, hx8, h⟩ := bnd_some h
  obtain ⟨ad2, cs2, hA2, hr2, hq2⟩ := hI.clat (.s (.s .z)) hx8
  obtain ⟨a6, c11, a7, c12, rfl, hf3, hf4⟩ := hr2
  have hI := hI.add (c := Cl.sl cGMono a6 c11 e3.Lin.L) hf3
  have hI := hI.add (c := Cl.sl cGLin a7 c12 e3.At) hf4
  refine sq (y_indexAddr rfl u34 size_32 et et (lat_bd hx8) hA2) ?_
  refine sq (y_fieldAddr rfl et u32 rfl size_30 rfl) ?_
  refine sq (y_load1 (v := (vs a7 e3.At.length c12)) rfl et u30 rfl (CA.part hq2 rfl).1) ?_
  refine sq (y_lenl rfl u30 et) ?_
  refine sq (y_lss rfl et et) ?_
  refine nk (cif h et (fun hb h => ?_) (fun hb h => ?_))
  ·refine c_skip (k_same (c_seq (c_block (sr (sq (y_fieldAddr rfl et u39 rfl size_34 rfl) ?_)))))
   refine sq (y_load1 (v := (vs a2 e1.Idx.length c2)) rfl et u34 rfl (hI.kblk (l := [vs a2 e1.Idx.length c2]) (.s (.s .z)) rfl).1) ?_
   refine sm ?_
   obtain ⟨e4, hx9, h⟩ := bnd_some h
   obtain ⟨ad3, cs3, hA3, hr3, hq3⟩ := hI.clat (.s (.s (.s (.s .z)))) hx9
   obtain ⟨a8, c13, a9, c14, rfl, hf5, hf6⟩ := hr3
   have hI := hI.add (c := Cl.sl cGMono a8 c13 e4.Lin.L) hf5
   have hI := hI.add (c := Cl.sl cGLin a9 c14 e4.At) hf6
   refine sq (y_indexAddr rfl u34 size_32 et et (lat_bd hx9) hA3) ?_
   refine sq (y_fieldAddr rfl et u32 rfl size_30 rfl) ?_
   refine sq (y_load1 (v := (vs a9 e4.At.length c14)) rfl et u30 rfl (CA.part hq3 rfl).1) ?_
   refine sm ?_
   obtain ⟨e5, hx10, h⟩ := bnd_some h
   obtain ⟨ad4, cs4, hA4, hr4, hq4⟩ := hI.clat .z hx10
   obtain ⟨a10, c15, rfl, hf7⟩ := hr4
   have hI := hI.add (c := Cl.sl cGMono a10 c15 e5.L) hf7
   refine sq (y_indexAddr rfl u30 size_29 et et (lat_bd hx10) hA4) ?_
   refine sq (y_loadN (l := (lLin e5 a10 c15)) rfl et u29 rfl size_29 hq4.1) ?_
   obtain ⟨r4, hx11, h⟩ := bnd_some h
   refine s_call gn rfl (r_callF (vs := [(Value.agg (ALin e5 a10 c15))]) rfl ok_40 ⟨et, trivial⟩) (Calls.mono (c_base_LinRight (Dj F c10) w7 hI.lt e5 a10 c15 ⟨(hI.get .z), trivial⟩ r4 hx11) ?_)
   rintro _ w8 ⟨rfl, hx12, hl4⟩
   refine ⟨_, rfl, ?_⟩
   replace hI := (hI.ext hx12)
   refine sq (y_not rfl et) ?_
   refine nk (cif h et (fun hb h => ?_) (fun hb h => ?_))
   ·refine sr (sac ?_)
    refine nk (c_ret ?_)
    obtain rfl := some_inj h
    exact q_ret (vs := [vb false]) Tryz.results111 ⟨ev_tmp rfl rfl, trivial⟩ (fq hI trivial)
   refine c_skip (k_same (c_region rfl ?_))
   refine sm ?_
   refine sq (y_add rfl et ev_const) ?_
   refine sa ?_
   refine s_nil ?_
   exact k_loop (fuel2, wi64 (k1 + 1)) ⟨rfl, rfl, rfl, trivial⟩ ⟨_, hI.arr .n ⟨(.s (.s (.s (.s (.s .z))))), (.s (.s (.s (.s (.s (.s .z)))))), (.s (.s (.s (.s (.s (.s (.s .z))))))), (.s (.s (.s (.s (.s (.s (.s (.s .z)))))))), trivial⟩, h⟩ (Nat.lt_succ_self _)
  refine c_exit ?_
  refine k_in ?_
  exact k_join () ⟨rfl, rfl, trivial⟩ ⟨_, hI.arr .n ⟨(.s (.s .z)), (.s (.s (.s .z))), (.s (.s (.s (.s .z)))), (.s (.s (.s (.s (.s .z))))), trivial⟩, h⟩ rfl
 refine c_exit ?_
 refine k_in ?_
 refine k_same (sr (sac ?_))
 refine nk (c_ret ?_)
 obtain rfl := some_inj h
 exact q_ret (vs := [vb true]) Tryz.results111 ⟨ev_tmp rfl rfl, trivial⟩ (fq hI trivial)
theorem c_ref14_part_b (rec_ : (GExpr → Option Int)) (hrec : ∀ (F : NP) (w0 : World) (hF : ∀ k, F k → k < w0.heap.size) (e1 : GExpr) (a1 : Option Addr) (c1 : Nat) (a2 : Option Addr) (c2 : Nat) (a3 : Option Addr) (c3 : Nat) (hc : AllCl [Cl.sl cGMono a1 c1 e1.Lin.L, Cl.sl cGIndex a2 c2 e1.Idx, Cl.sl cGExpr a3 c3 e1.Args] F w0) (r : Int) (h : rec_ e1 = some r), Calls Tryz.prog 51 #[(Value.agg #[vi e1.Op, (str e1.Name), vi e1.Val.N, vi e1.Val.D, vi e1.Type_.Kind, vi e1.Type_.Bits, vi e1.Type_.Frac, vi e1.Type_.Round, vi e1.Type_.Over, vi e1.Lin.K, vs a1 e1.Lin.L.length c1, vs a2 e1.Idx.length c2, vs a3 e1.Args.length c3])] w0 fun e w => e = .returned (vi r) ∧ Ext w0 w ∧ AllCl [] F w)
  (F : NP) (w0 : World) (hF : ∀ k, F k → k < w0.heap.size) (e1 : GExpr) (a1 : Option Addr) (c1 : Nat) (a2 : Option Addr) (c2 : Nat) (a3 : Option Addr) (c3 : Nat) (hc : AllCl [Cl.sl cGMono a1 c1 e1.Lin.L, Cl.sl cGIndex a2 c2 e1.Idx, Cl.sl cGExpr a3 c3 e1.Args] F w0) (r : Int) (h : m_ref14_part_b rec_ e1 = some r) : Calls Tryz.prog 51 #[(Value.agg #[vi e1.Op, (str e1.Name), vi e1.Val.N, vi e1.Val.D, vi e1.Type_.Kind, vi e1.Type_.Bits, vi e1.Type_.Frac, vi e1.Type_.Round, vi e1.Type_.Over, vi e1.Lin.K, vs a1 e1.Lin.L.length c1, vs a2 e1.Idx.length c2, vs a3 e1.Args.length c3])] w0 fun e w => e = .returned (vi r) ∧ Ext w0 w ∧ AllCl [] F w := by
 refine enterK Tryz.func51 rfl Tryz.ntmps51 rfl ?_
 have hI := Bun.start hF hc
 clear hc
 rw [m_ref14_part_b] at h
 refine sr (l_box (v := (Value.agg #[vi e1.Op, (str e1.Name), vi e1.Val.N, vi e1.Val.D, vi e1.Type_.Kind, vi e1.Type_.Bits, vi e1.Type_.Frac, vi e1.Type_.Round, vi e1.Type_.Over, vi e1.Lin.K, vs a1 e1.Lin.L.length c1, vs a2 e1.Idx.length c2, vs a3 e1.Args.length c3])) (cs := #[vi e1.Op, (str e1.Name), vi e1.Val.N, vi e1.Val.D, vi e1.Type_.Kind, vi e1.Type_.Bits, vi e1.Type_.Frac, vi e1.Type_.Round, vi e1.Type_.Over, vi e1.Lin.K, vs a1 e1.Lin.L.length c1, vs a2 e1.Idx.length c2, vs a3 e1.Args.length c3]) hI gn rfl rfl et rfl ?_)
 clear hI; intro b1 c4 w1 hI
 obtain ⟨c5, hI⟩ := hI.relBox .z
 refine sac ?_
 refine nk (c_seq (c_block (sr (sq (y_loadN (l := [vi e1.Op, (str e1.Name), vi e1.Val.N, vi e1.Val.D, vi e1.Type_.Kind, vi e1.Type_.Bits, vi e1.Type_.Frac, vi e1.Type_.Round, vi e1.Type_.Over, vi e1.Lin.K, vs a1 e1.Lin.L.length c1, vs a2 e1.Idx.length c2, vs a3 e1.Args.length c3]) rfl et u39 rfl size_39 (hI.kblk (l := [vi e1.Op, (str e1.Name), vi e1.Val.N, vi e1.Val.D, vi e1.Type_.Kind, vi e1.Type_.Bits, vi e1.Type_.Frac, vi e1.Type_.Round, vi e1.Type_.Over, vi e1.Lin.K, vs a1 e1.Lin.L.length c1, vs a2 e1.Idx.length c2, vs a3 e1.Args.length c3]) .z rfl).1) ?_))))
 obtain ⟨r1, hx1, h⟩ := bnd_some h
 refine s_call gn rfl (r_callF (vs := [(Value.agg #[vi e1.Op, (str e1.Name), vi e1.Val.N, vi e1.Val.D, vi e1.Type_.Kind, vi e1.Type_.Bits, vi e1.Type_.Frac, vi e1.Type_.Round, vi e1.Type_.Over, vi e1.Lin.K, vs a1 e1.Lin.L.length c1, vs a2 e1.Idx.length c2, vs a3 e1.Args.length c3])]) rfl ok_107 ⟨et, trivial⟩) (Calls.mono (c_ref14_plain (Dj F c5) w1 hI.lt e1 a1 c1 a2 c2 a3 c3 ⟨(hI.get (.s .z)), (hI.get (.s (.s .z))), (hI.get (.s (.s (.s .z)))), trivial⟩ r1 hx1) ?_)
 rintro _ w2 ⟨rfl, hx2, hl1⟩
 refine ⟨_, rfl, ?_⟩
 replace hI := (hI.ext hx2)
 refine sq (y_not rfl et) ?_
 refine sa ?_
 refine nk (cif h et (fun hb h => ?_) (fun hb h => ?_))
 ·refine sr (sac ?_)
  refine nk (c_ret ?_)
  obtain rfl := some_inj h
  exact q_ret (vs := [vi 5]) Tryz.results51 ⟨ev_tmp rfl rfl, trivial⟩ (fq hI trivial)
 refine sr (sq (y_loadN (l := [vi e1.Op, (str e1.Name), vi e1.Val.N, vi e1.Val.D, vi e1.Type_.Kind, vi e1.Type_.Bits, vi e1.Type_.Frac, vi e1.Type_.Round, vi e1.Type_.Over, vi e1.Lin.K, vs a1 e1.Lin.L.length c1, vs a2 e1.Idx.length c2, vs a3 e1.Args.length c3]) rfl et u39 rfl size_39 (hI.kblk (l := [vi e1.Op, (str e1.Name), vi e1.Val.N, vi e1.Val.D, vi e1.Type_.Kind, vi e1.Type_.Bits, vi e1.Type_.Frac, vi e1.Type_.Round, vi e1.Type_.Over, vi e1.Lin.K, vs a1 e1.Lin.L.length c1, vs a2 e1.Idx.length c2, vs a3 e1.Args.length c3]) .z rfl).1) ?_)
 obtain ⟨r2, hx3, h⟩ := bnd_some h
 refine s_call gn rfl (r_callF (vs := [(Value.agg #[vi e1.Op, (str e1.Name), vi e1.Val.N, vi e1.Val.D, vi e1.Type_.Kind, vi e1.Type_.Bits, vi e1.Type_.Frac, vi e1.Type_.Round, vi e1.Type_.Over, vi e1.Lin.K, vs a1 e1.Lin.L.length c1, vs a2 e1.Idx.length c2, vs a3 e1.Args.length c3])]) rfl ok_108 ⟨et, trivial⟩) (Calls.mono (c_ref14_named (Dj F c5) w2 hI.lt e1 a1 c1 a2 c2 a3 c3 ⟨(hI.get (.s .z)), (hI.get (.s (.s .z))), (hI.get (.s (.s (.s .z)))), trivial⟩ r2 hx3) ?_)
 rintro _ w3 ⟨rfl, hx4, hl2⟩
 refine ⟨_, rfl, ?_⟩
 replace hI := (hI.ext hx4)
 refine sq (y_not rfl et) ?_
 refine sa ?_
 refine nk (cif h et (fun hb h => ?_) (fun hb h => ?_))
 ·refine sr (sac ?_)
  refine nk (c_ret ?_)
  obtain rfl := some_inj h
  exact q_ret (vs := [vi 7]) Tryz.results51 ⟨ev_tmp rfl rfl, trivial⟩ (fq hI trivial)
 refine sr (sq (y_loadN (l := [vi e1.Op, (str e1.Name), vi e1.Val.N, vi e1.Val.D, vi e1.Type_.Kind, vi e1.Type_.Bits, vi e1.Type_.Frac, vi e1.Type_.Round, vi e1.Type_.Over, vi e1.Lin.K, vs a1 e1.Lin.L.length c1, vs a2 e1.Idx.length c2, vs a3 e1.Args.length c3]) rfl et u39 rfl size_39 (hI.kblk (l := [vi e1.Op, (str e1.Name), vi e1.Val.N, vi e1.Val.D, vi e1.Type_.Kind, vi e1.Type_.Bits, vi e1.Type_.Frac, vi e1.Type_.Round, vi e1.Type_.Over, vi e1.Lin.K, vs a1 e1.Lin.L.length c1, vs a2 e1.Idx.length c2, vs a3 e1.Args.length c3]) .z rfl).1) ?_)
 obtain ⟨r3, hx5, h⟩ := bnd_some h
 refine s_call gn rfl (r_callF (vs := [(Value.agg #[vi e1.Op, (str e1.Name), vi e1.Val.N, vi e1.Val.D, vi e1.Type_.Kind, vi e1.Type_.Bits, vi e1.Type_.Frac, vi e1.Type_.Round, vi e1.Type_.Over, vi e1.Lin.K, vs a1 e1.Lin.L.length c1, vs a2 e1.Idx.length c2, vs a3 e1.Args.length c3])]) rfl ok_109 ⟨et, trivial⟩) (Calls.mono (c_ref14_ranked (Dj F c5) w3 hI.lt e1 a1 c1 a2 c2 a3 c3 ⟨(hI.get (.s .z)), (hI.get (.s (.s .z))), (hI.get (.s (.s (.s .z)))), trivial⟩ r3 hx5) ?_)
 rintro _ w4 ⟨rfl, hx6, hl3⟩
 refine ⟨_, rfl, ?_⟩
 replace hI := (hI.ext hx6)
 refine sq (y_not rfl et) ?_
 refine sa ?_
 refine nk (cif h et (fun hb h => ?_) (fun hb h => ?_))
 ·refine sr (sac ?_)
  refine nk (c_ret ?_)
  obtain rfl := some_inj h
  exact q_ret (vs := [vi 11]) Tryz.results51 ⟨ev_tmp rfl rfl, trivial⟩ (fq hI trivial)
 refine sr (sq (y_loadN (l := [vi e1.Op, (str e1.Name), vi e1.Val.N, vi e1.Val.D, vi e1.Type_.Kind, vi e1.Type_.Bits, vi e1.Type_.Frac, vi e1.Type_.Round, vi e1.Type_.Over, vi e1.Lin.K, vs a1 e1.Lin.L.length c1, vs a2 e1.Idx.length c2, vs a3 e1.Args.length c3]) rfl et u39 rfl size_39 (hI.kblk (l := [vi e1.Op, (str e1.Name), vi e1.Val.N, vi e1.Val.D, vi e1.Type_.Kind, vi e1.Type_.Bits, vi e1.Type_.Frac, vi e1.Type_.Round, vi e1.Type_.Over, vi e1.Lin.K, vs a1 e1.Lin.L.length c1, vs a2 e1.Idx.length c2, vs a3 e1.Args.length c3]) .z rfl).1) ?_)
 obtain ⟨r4, hx7, h⟩ := bnd_some h
 refine s_call gn rfl (r_callF (vs := [(Value.agg #[vi e1.Op, (str e1.Name), vi e1.Val.N, vi e1.Val.D, vi e1.Type_.Kind, vi e1.Type_.Bits, vi e1.Type_.Frac, vi e1.Type_.Round, vi e1.Type_.Over, vi e1.Lin.K, vs a1 e1.Lin.L.length c1, vs a2 e1.Idx.length c2, vs a3 e1.Args.length c3])]) rfl ok_110 ⟨et, trivial⟩) (Calls.mono (c_ref14_typed (Dj F c5) w4 hI.lt e1 a1 c1 a2 c2 a3 c3 ⟨(hI.get (.s .z)), (hI.get (.s (.s .z))), (hI.get (.s (.s (.s .z)))), trivial⟩ r4 hx7) ?_)
 rintro _ w5 ⟨rfl, hx8, hl4⟩
 refine ⟨_, rfl, ?_⟩
 replace hI := (hI.ext hx8)
 refine sq (y_not rfl et) ?_
 refine sa ?_
 refine nk (cif h et (fun hb h => ?_) (fun hb h => ?_))
 ·refine sr (sac ?_)
  refine nk (c_ret ?_)
  obtain rfl := some_inj h
  exact q_ret (vs := [vi 10]) Tryz.results51 ⟨ev_tmp rfl rfl, trivial⟩ (fq hI trivial)
 refine sr (sq (y_loadN (l := [vi e1.Op, (str e1.Name), vi e1.Val.N, vi e1.Val.D, vi e1.Type_.Kind, vi e1.Type_.Bits, vi e1.Type_.Frac, vi e1.Type_.Round, vi e1.Type_.Over, vi e1.Lin.K, vs a1 e1.Lin.L.length c1, vs a2 e1.Idx.length c2, vs a3 e1.Args.length c3]) rfl et u39 rfl size_39 (hI.kblk (l := [vi e1.Op, (str e1.Name), vi e1.Val.N, vi e1.Val.D, vi e1.Type_.Kind, vi e1.Type_.Bits, vi e1.Type_.Frac, vi e1.Type_.Round, vi e1.Type_.Over, vi e1.Lin.K, vs a1 e1.Lin.L.length c1, vs a2 e1.Idx.length c2, vs a3 e1.Args.length c3]) .z rfl).1) ?_)
 obtain ⟨r5, hx9, h⟩ := bnd_some h
 refine s_call gn rfl (r_callF (vs := [(Value.agg #[vi e1.Op, (str e1.Name), vi e1.Val.N, vi e1.Val.D, vi e1.Type_.Kind, vi e1.Type_.Bits, vi e1.Type_.Frac, vi e1.Type_.Round, vi e1.Type_.Over, vi e1.Lin.K, vs a1 e1.Lin.L.length c1, vs a2 e1.Idx.length c2, vs a3 e1.Args.length c3])]) rfl ok_111 ⟨et, trivial⟩) (Calls.mono (c_ref14_formed (Dj F c5) w5 hI.lt e1 a1 c1 a2 c2 a3 c3 ⟨(hI.get (.s .z)), (hI.get (.s (.s .z))), (hI.get (.s (.s (.s .z)))), trivial⟩ r5 hx9) ?_)
 rintro _ w6 ⟨rfl, hx10, hl5⟩
 refine ⟨_, rfl, ?_⟩
 replace hI := (hI.ext hx10)
 refine sq (y_not rfl et) ?_
 refine sa ?_
 refine nk (cif h et (fun hb h => ?_) (fun hb h => ?_))
 ·refine sr (sac ?_)
  refine nk (c_ret ?_)
  obtain rfl := some_inj h
  exact q_ret (vs := [vi 1]) Tryz.results51 ⟨ev_tmp rfl rfl, trivial⟩ (fq hI trivial)
 refine c_skip (k_same (c_seq (sr (sac ?_))))
 refine nk (c_block (c_loop (α := Nat × Int) (fun x => fun w => ∃ C, Bun noM F w0 C w [] [Cl.blk b1 39 #[vi e1.Op, (str e1.Name), vi e1.Val.N, vi e1.Val.D, vi e1.Type_.Kind, vi e1.Type_.Bits, vi e1.Type_.Frac, vi e1.Type_.Round, vi e1.Type_.Over, vi e1.Lin.K, vs a1 e1.Lin.L.length c1, vs a2 e1.Idx.length c2, vs a3 e1.Args.length c3], Cl.sl cGMono a1 c1 e1.Lin.L, Cl.sl cGIndex a2 c2 e1.Idx, Cl.sl cGExpr a3 c3 e1.Args] ∧ m_ref14_part_l1 e1 rec_ (x.1) (x.2) = some r) (fun x _ => x.1) (fun x => [(1, vp b1 0), (3, vi (x.2))]) (fu, 0) ⟨_, hI.arr .n ⟨.z, (.s .z), (.s (.s .z)), (.s (.s (.s .z))), trivial⟩, h⟩ ⟨rfl, rfl, trivial⟩ ?_))
 clear h hI; rintro ⟨fuel1, i1⟩ w7 ⟨c6, hI, h⟩
 dsimp only at hI h
 rcases fuel1 with _ | fuel1
 ·rw [m_ref14_part_l1] at h; cases h
 rw [m_ref14_part_l1] at h
 refine c_sub (e := [(1, vp b1 0), (3, vi i1)]) ⟨rfl, rfl, trivial⟩ ?_
 refine c_seq (sr (sm ?_))
 refine sq (y_fieldAddr rfl et u39 rfl size_37 rfl) ?_
 refine sq (y_load1 (v := (vs a3 e1.Args.length c3)) rfl et u37 rfl (hI.kblk (l := [vs a3 e1.Args.length c3]) .z rfl).1) ?_
 refine sq (y_lenl rfl u37 et) ?_
 refine sq (y_lss rfl et et) ?_
 refine nk (cif h et (fun hb h => ?_) (fun hb h => ?_))
 ·refine c_skip (k_same (c_seq (c_block (sr (sq (y_fieldAddr rfl et u39 rfl size_37 rfl) ?_)))))
  refine sq (y_load1 (v := (vs a3 e1.Args.length c3)) rfl et u37 rfl (hI.kblk (l := [vs a3 e1.Args.length c3]) .z rfl).1) ?_
  refine sm ?_
  obtain ⟨e2, hx11, h⟩ := bnd_some h
  obtain ⟨ad1, cs1, hA1, hr1, hq1⟩ := hI.clat (.s (.s (.s .z))) hx11
  obtain ⟨a4, c7, a5, c8, a6, c9, rfl, hf1, hf2, hf3⟩ := cGExpr_out hr1
  have hI := hI.add (c := Cl.sl cGMono a4 c7 e2.Lin.L) hf1
  have hI := hI.add (c := Cl.sl cGIndex a5 c8 e2.Idx) hf2
  have hI := hI.add (c := Cl.sl cGExpr a6 c9 e2.Args) hf3
  refine sq (y_indexAddr rfl u37 size_39 et et (lat_bd hx11) hA1) ?_
  refine sq (y_loadN (l := [vi e2.Op, (str e2.Name), vi e2.Val.N, vi e2.Val.D, vi e2.Type_.Kind, vi e2.Type_.Bits, vi e2.Type_.Frac, vi e2.Type_.Round, vi e2.Type_.Over, vi e2.Lin.K, vs a4 e2.Lin.L.length c7, vs a5 e2.Idx.length c8, vs a6 e2.Args.length c9]) rfl et u39 rfl size_39 hq1.1) ?_
  obtain ⟨r6, hx12, h⟩ := bnd_some h
  refine s_call gn rfl (r_callF (vs := [(Value.agg #[vi e2.Op, (str e2.Name), vi e2.Val.N, vi e2.Val.D, vi e2.Type_.Kind, vi e2.Type_.Bits, vi e2.Type_.Frac, vi e2.Type_.Round, vi e2.Type_.Over, vi e2.Lin.K, vs a4 e2.Lin.L.length c7, vs a5 e2.Idx.length c8, vs a6 e2.Args.length c9])]) rfl ok_51 ⟨et, trivial⟩) (Calls.mono (hrec (Dj F c6) w7 hI.lt e2 a4 c7 a5 c8 a6 c9 ⟨(hI.get (.s (.s .z))), (hI.get (.s .z)), (hI.get .z), trivial⟩ r6 hx12) ?_)
  rintro _ w8 ⟨rfl, hx13, hl6⟩
  refine ⟨_, rfl, ?_⟩
  replace hI := (hI.ext hx13)
  refine sa ?_
  refine nk (sr (sm ?_))
  refine sq (y_neq rfl et ev_const) ?_
  refine nk (cif h et (fun hb h => ?_) (fun hb h => ?_))
  ·refine sr (sm ?_)
   refine sa ?_
   refine nk (c_ret ?_)
   obtain rfl := some_inj h
   exact q_ret (vs := [vi r6]) Tryz.results51 ⟨ev_tmp rfl rfl, trivial⟩ (fq hI trivial)
  refine c_skip (k_same (c_region rfl ?_))
  refine sm ?_
  refine sq (y_add rfl et ev_const) ?_
  refine sa ?_
  refine s_nil ?_
  exact k_loop (fuel1, wi64 (i1 + 1)) ⟨rfl, rfl, trivial⟩ ⟨_, hI.arr .n ⟨(.s (.s (.s .z))), (.s (.s (.s (.s .z)))), (.s (.s (.s (.s (.s .z))))), (.s (.s (.s (.s (.s (.s .z)))))), trivial⟩, h⟩ (Nat.lt_succ_self _)
 refine c_exit ?_
 refine k_in ?_
 refine k_same (sr (sac ?_))
 refine nk (c_ret ?_)
 obtain rfl := some_inj h
 exact q_ret (vs := [vi 0]) Tryz.results51 ⟨ev_tmp rfl rfl, trivial⟩ (fq hI trivial)
theorem c_ref14_part_r (n : Nat) : ∀ (F : NP) (w0 : World) (hF : ∀ k, F k → k < w0.heap.size) (e1 : GExpr) (a1 : Option Addr) (c1 : Nat) (a2 : Option Addr) (c2 : Nat) (a3 : Option Addr) (c3 : Nat) (hc : AllCl [Cl.sl cGMono a1 c1 e1.Lin.L, Cl.sl cGIndex a2 c2 e1.Idx, Cl.sl cGExpr a3 c3 e1.Args] F w0) (r : Int) (h : m_ref14_part_r n e1 = some r), Calls Tryz.prog 51 #[(Value.agg #[vi e1.Op, (str e1.Name), vi e1.Val.N, vi e1.Val.D, vi e1.Type_.Kind, vi e1.Type_.Bits, vi e1.Type_.Frac, vi e1.Type_.Round, vi e1.Type_.Over, vi e1.Lin.K, vs a1 e1.Lin.L.length c1, vs a2 e1.Idx.length c2, vs a3 e1.Args.length c3])] w0 fun e w => e = .returned (vi r) ∧ Ext w0 w ∧ AllCl [] F w := by
 induction n with
 | zero => intro F w0 hF e1 a1 c1 a2 c2 a3 c3 hc r h; cases h
 | succ n ih => intro F w0 hF e1 a1 c1 a2 c2 a3 c3 hc r h; exact c_ref14_part_b (m_ref14_part_r n) ih F w0 hF e1 a1 c1 a2 c2 a3 c3 hc r h
theorem c_ref14_part (F : NP) (w0 : World) (hF : ∀ k, F k → k < w0.heap.size) (e1 : GExpr) (a1 : Option Addr) (c1 : Nat) (a2 : Option Addr) (c2 : Nat) (a3 : Option Addr) (c3 : Nat) (hc : AllCl [Cl.sl cGMono a1 c1 e1.Lin.L, Cl.sl cGIndex a2 c2 e1.Idx, Cl.sl cGExpr a3 c3 e1.Args] F w0) (r : Int) (h : m_ref14_part e1 = some r) : Calls Tryz.prog 51 #[(Value.agg #[vi e1.Op, (str e1.Name), vi e1.Val.N, vi e1.Val.D, vi e1.Type_.Kind, vi e1.Type_.Bits, vi e1.Type_.Frac, vi e1.Type_.Round, vi e1.Type_.Over, vi e1.Lin.K, vs a1 e1.Lin.L.length c1, vs a2 e1.Idx.length c2, vs a3 e1.Args.length c3])] w0 fun e w => e = .returned (vi r) ∧ Ext w0 w ∧ AllCl [] F w := c_ref14_part_r fu F w0 hF e1 a1 c1 a2 c2 a3 c3 hc r h
theorem c_ref14_Validate (F : NP) (w0 : World) (hF : ∀ k, F k → k < w0.heap.size) (e1 : GExpr) (a1 : Option Addr) (c1 : Nat) (a2 : Option Addr) (c2 : Nat) (a3 : Option Addr) (c3 : Nat) (hc : AllCl [Cl.sl cGMono a1 c1 e1.Lin.L, Cl.sl cGIndex a2 c2 e1.Idx, Cl.sl cGExpr a3 c3 e1.Args] F w0) (r : Int)
  (h : m_ref14_Validate e1 = some r) :
  Calls Tryz.prog 19 #[(Value.agg #[vi e1.Op, (str e1.Name), vi e1.Val.N, vi e1.Val.D, vi e1.Type_.Kind, vi e1.Type_.Bits, vi e1.Type_.Frac, vi e1.Type_.Round, vi e1.Type_.Over, vi e1.Lin.K, vs a1 e1.Lin.L.length c1, vs a2 e1.Idx.length c2, vs a3 e1.Args.length c3])] w0 fun e w => e = .returned (vi r) ∧ Ext w0 w ∧ AllCl [] F w := by
 refine enterK Tryz.func19 rfl Tryz.ntmps19 rfl ?_
 have hI := Bun.start hF hc
 clear hc
 rw [m_ref14_Validate] at h
 refine sr (l_box (v := (Value.agg #[vi e1.Op, (str e1.Name), vi e1.Val.N, vi e1.Val.D, vi e1.Type_.Kind, vi e1.Type_.Bits, vi e1.Type_.Frac, vi e1.Type_.Round, vi e1.Type_.Over, vi e1.Lin.K, vs a1 e1.Lin.L.length c1, vs a2 e1.Idx.length c2, vs a3 e1.Args.length c3])) (cs := #[vi e1.Op, (str e1.Name), vi e1.Val.N, vi e1.Val.D, vi e1.Type_.Kind, vi e1.Type_.Bits, vi e1.Type_.Frac, vi e1.Type_.Round, vi e1.Type_.Over, vi e1.Lin.K, vs a1 e1.Lin.L.length c1, vs a2 e1.Idx.length c2, vs a3 e1.Args.length c3]) hI gn rfl rfl et rfl ?_)
 clear hI; intro b1 c4 w1 hI
 obtain ⟨c5, hI⟩ := hI.relBox .z
 refine sac ?_
 refine nk (c_seq (sr (sq (y_loadN (l := [vi e1.Op, (str e1.Name), vi e1.Val.N, vi e1.Val.D, vi e1.Type_.Kind, vi e1.Type_.Bits, vi e1.Type_.Frac, vi e1.Type_.Round, vi e1.Type_.Over, vi e1.Lin.K, vs a1 e1.Lin.L.length c1, vs a2 e1.Idx.length c2, vs a3 e1.Args.length c3]) rfl et u39 rfl size_39 (hI.kblk (l := [vi e1.Op, (str e1.Name), vi e1.Val.N, vi e1.Val.D, vi e1.Type_.Kind, vi e1.Type_.Bits, vi e1.Type_.Frac, vi e1.Type_.Round, vi e1.Type_.Over, vi e1.Lin.K, vs a1 e1.Lin.L.length c1, vs a2 e1.Idx.length c2, vs a3 e1.Args.length c3]) .z rfl).1) ?_)))
 obtain ⟨r1, hx1, h⟩ := bnd_some h
 refine s_call gn rfl (r_callF (vs := [(Value.agg #[vi e1.Op, (str e1.Name), vi e1.Val.N, vi e1.Val.D, vi e1.Type_.Kind, vi e1.Type_.Bits, vi e1.Type_.Frac, vi e1.Type_.Round, vi e1.Type_.Over, vi e1.Lin.K, vs a1 e1.Lin.L.length c1, vs a2 e1.Idx.length c2, vs a3 e1.Args.length c3])]) rfl ok_49 ⟨et, trivial⟩) (Calls.mono (c_ref14_Depth (Dj F c5) w1 hI.lt e1 a1 c1 a2 c2 a3 c3 ⟨(hI.get (.s .z)), (hI.get (.s (.s .z))), (hI.get (.s (.s (.s .z)))), trivial⟩ r1 hx1) ?_)
 rintro _ w2 ⟨rfl, hx2, hl1⟩
 refine ⟨_, rfl, ?_⟩
 replace hI := (hI.ext hx2)
 refine sq (y_gtr rfl et ev_const) ?_
 refine nk (cif h et (fun hb h => ?_) (fun hb h => ?_))
 ·refine sr (sac ?_)
  refine nk (c_ret ?_)
  obtain rfl := some_inj h
  exact q_ret (vs := [vi 13]) Tryz.results19 ⟨ev_tmp rfl rfl, trivial⟩ (fq hI trivial)
 refine c_skip (k_same (c_seq (sr (sq (y_loadN (l := [vi e1.Op, (str e1.Name), vi e1.Val.N, vi e1.Val.D, vi e1.Type_.Kind, vi e1.Type_.Bits, vi e1.Type_.Frac, vi e1.Type_.Round, vi e1.Type_.Over, vi e1.Lin.K, vs a1 e1.Lin.L.length c1, vs a2 e1.Idx.length c2, vs a3 e1.Args.length c3]) rfl et u39 rfl size_39 (hI.kblk (l := [vi e1.Op, (str e1.Name), vi e1.Val.N, vi e1.Val.D, vi e1.Type_.Kind, vi e1.Type_.Bits, vi e1.Type_.Frac, vi e1.Type_.Round, vi e1.Type_.Over, vi e1.Lin.K, vs a1 e1.Lin.L.length c1, vs a2 e1.Idx.length c2, vs a3 e1.Args.length c3]) .z rfl).1) ?_))))
 obtain ⟨r2, hx3, h⟩ := bnd_some h
 refine s_call gn rfl (r_callF (vs := [(Value.agg #[vi e1.Op, (str e1.Name), vi e1.Val.N, vi e1.Val.D, vi e1.Type_.Kind, vi e1.Type_.Bits, vi e1.Type_.Frac, vi e1.Type_.Round, vi e1.Type_.Over, vi e1.Lin.K, vs a1 e1.Lin.L.length c1, vs a2 e1.Idx.length c2, vs a3 e1.Args.length c3])]) rfl ok_50 ⟨et, trivial⟩) (Calls.mono (c_ref14_Size (Dj F c5) w2 hI.lt e1 a1 c1 a2 c2 a3 c3 ⟨(hI.get (.s .z)), (hI.get (.s (.s .z))), (hI.get (.s (.s (.s .z)))), trivial⟩ r2 hx3) ?_)
 rintro _ w3 ⟨rfl, hx4, hl2⟩
 refine ⟨_, rfl, ?_⟩
 replace hI := (hI.ext hx4)
 refine sq (y_gtr rfl et ev_const) ?_
 refine nk (cif h et (fun hb h => ?_) (fun hb h => ?_))
 ·refine sr (sac ?_)
  refine nk (c_ret ?_)
  obtain rfl := some_inj h
  exact q_ret (vs := [vi 2]) Tryz.results19 ⟨ev_tmp rfl rfl, trivial⟩ (fq hI trivial)
 refine c_skip (k_same (sr (sq (y_loadN (l := [vi e1.Op, (str e1.Name), vi e1.Val.N, vi e1.Val.D, vi e1.Type_.Kind, vi e1.Type_.Bits, vi e1.Type_.Frac, vi e1.Type_.Round, vi e1.Type_.Over, vi e1.Lin.K, vs a1 e1.Lin.L.length c1, vs a2 e1.Idx.length c2, vs a3 e1.Args.length c3]) rfl et u39 rfl size_39 (hI.kblk (l := [vi e1.Op, (str e1.Name), vi e1.Val.N, vi e1.Val.D, vi e1.Type_.Kind, vi e1.Type_.Bits, vi e1.Type_.Frac, vi e1.Type_.Round, vi e1.Type_.Over, vi e1.Lin.K, vs a1 e1.Lin.L.length c1, vs a2 e1.Idx.length c2, vs a3 e1.Args.length c3]) .z rfl).1) ?_)))
 obtain ⟨r3, hx5, h⟩ := bnd_some h
 refine s_call gn rfl (r_callF (vs := [(Value.agg #[vi e1.Op, (str e1.Name), vi e1.Val.N, vi e1.Val.D, vi e1.Type_.Kind, vi e1.Type_.Bits, vi e1.Type_.Frac, vi e1.Type_.Round, vi e1.Type_.Over, vi e1.Lin.K, vs a1 e1.Lin.L.length c1, vs a2 e1.Idx.length c2, vs a3 e1.Args.length c3])]) rfl ok_51 ⟨et, trivial⟩) (Calls.mono (c_ref14_part (Dj F c5) w3 hI.lt e1 a1 c1 a2 c2 a3 c3 ⟨(hI.get (.s .z)), (hI.get (.s (.s .z))), (hI.get (.s (.s (.s .z)))), trivial⟩ r3 hx5) ?_)
 rintro _ w4 ⟨rfl, hx6, hl3⟩
 refine ⟨_, rfl, ?_⟩
 replace hI := (hI.ext hx6)
 refine sa ?_
 refine nk (c_ret ?_)
 obtain rfl := some_inj h
 exact q_ret (vs := [vi r3]) Tryz.results19 ⟨ev_tmp rfl rfl, trivial⟩ (fq hI trivial)
theorem c_base_Lin (F : NP) (w0 : World) (hF : ∀ k, F k → k < w0.heap.size) (a1 : GLin) (b1 : GLin) (a2 : Option Addr) (c1 : Nat) (a3 : Option Addr) (c2 : Nat) (hc : AllCl [Cl.sl cGMono a2 c1 a1.L, Cl.sl cGMono a3 c2 b1.L] F w0) (r : Bool)
  (h : m_base_Lin a1 b1 = some r) :
  Calls Tryz.prog 52 #[(Value.agg (ALin a1 a2 c1)), (Value.agg (ALin b1 a3 c2))] w0 fun e w => e = .returned (vb r) ∧ Ext w0 w ∧ AllCl [] F w := by
 refine enterK Tryz.func52 rfl Tryz.ntmps52 rfl ?_
 have hI := Bun.start hF hc
 clear hc
 rw [m_base_Lin] at h
 refine sr (l_box (v := (Value.agg (ALin a1 a2 c1))) (cs := (ALin a1 a2 c1)) hI gn rfl rfl et rfl ?_)
 clear hI; intro b2 c3 w1 hI
 obtain ⟨c4, hI⟩ := hI.relBox .z
 refine l_box (v := (Value.agg (ALin b1 a3 c2))) (cs := (ALin b1 a3 c2)) hI gn rfl rfl et rfl ?_
 clear hI; intro b3 c5 w2 hI
 obtain ⟨c6, hI⟩ := hI.relBox .z
 refine sac ?_
 refine nk (c_seq (sr (sq (y_fieldAddr rfl et u29 rfl size_2 rfl) ?_)))
 refine sq (y_load1 (v := (vi a1.K)) rfl et u2 rfl (hI.kblk (l := [vi a1.K]) (.s .z) rfl).1) ?_
 refine sq (y_fieldAddr rfl et u29 rfl size_2 rfl) ?_
 refine sq (y_load1 (v := (vi b1.K)) rfl et u2 rfl (hI.kblk (l := [vi b1.K]) .z rfl).1) ?_
 refine sq (y_neq rfl et et) ?_
 refine sm ?_
 refine s_gval (g_false rfl rfl rfl rfl) rfl (fun hc => y_fieldAddr rfl et u29 rfl size_27 rfl) ?_
 refine s_gval (g_false rfl rfl rfl rfl) rfl (fun hc => (y_load1 (v := (vs a2 a1.L.length c1)) rfl (ev_gv et hc) u27 rfl (hI.kblk (l := [vs a2 a1.L.length c1]) (.s .z) rfl).1)) ?_
 refine s_gval (g_false rfl rfl rfl rfl) rfl (fun hc => y_lenl rfl u27 (ev_gv et hc)) ?_
 refine s_gval (g_false rfl rfl rfl rfl) rfl (fun hc => y_fieldAddr rfl et u29 rfl size_27 rfl) ?_
 refine s_gval (g_false rfl rfl rfl rfl) rfl (fun hc => (y_load1 (v := (vs a3 b1.L.length c2)) rfl (ev_gv et hc) u27 rfl (hI.kblk (l := [vs a3 b1.L.length c2]) .z rfl).1)) ?_
 refine s_gval (g_false rfl rfl rfl rfl) rfl (fun hc => y_lenl rfl u27 (ev_gv et hc)) ?_
 refine s_gval (g_false rfl rfl rfl rfl) rfl (fun hc => y_neq rfl (ev_gv et hc) (ev_gv et hc)) ?_
 refine sq (y_or rfl et et) ?_
 refine nk (cif h et (fun hb h => ?_) (fun hb h => ?_))
 ·refine sr (sac ?_)
  refine nk (c_ret ?_)
  obtain rfl := some_inj h
  exact q_ret (vs := [vb false]) Tryz.results52 ⟨ev_tmp rfl rfl, trivial⟩ (fq hI trivial)
 refine c_skip (k_same (c_seq (sr (sac ?_))))
 refine nk (c_block (c_loop (α := Nat × Int) (fun x => fun w => ∃ C, Bun noM F w0 C w [] [Cl.blk b2 29 (ALin a1 a2 c1), Cl.sl cGMono a2 c1 a1.L, Cl.blk b3 29 (ALin b1 a3 c2), Cl.sl cGMono a3 c2 b1.L] ∧ m_base_Lin_l1 a1 b1 (x.1) (x.2) = some r) (fun x _ => x.1) (fun x => [(2, vp b2 0), (3, vp b3 0), (5, vi (x.2))]) (fu, 0) ⟨_, hI.arr .n ⟨(.s .z), (.s (.s .z)), .z, (.s (.s (.s .z))), trivial⟩, h⟩ ⟨rfl, rfl, rfl, trivial⟩ ?_))
 clear h hI; rintro ⟨fuel1, i1⟩ w3 ⟨c7, hI, h⟩
 dsimp only at hI h
 rcases fuel1 with _ | fuel1
 ·rw [m_base_Lin_l1] at h; cases h
 rw [m_base_Lin_l1] at h
 refine c_sub (e := [(2, vp b2 0), (3, vp b3 0), (5, vi i1)]) ⟨rfl, rfl, rfl, trivial⟩ ?_
 refine c_seq (sr (sm ?_))
 refine sq (y_fieldAddr rfl et u29 rfl size_27 rfl) ?_
 refine sq (y_load1 (v := (vs a2 a1.L.length c1)) rfl et u27 rfl (hI.kblk (l := [vs a2 a1.L.length c1]) .z rfl).1) ?_
 refine sq (y_lenl rfl u27 et) ?_
 refine sq (y_lss rfl et et) ?_
 refine nk (cif h et (fun hb h => ?_) (fun hb h => ?_))
 ·refine c_skip (k_same (c_seq (c_block (c_seq (c_drawX [] false (.c (0, .q) (.c (1, .q) (.c (2, .q) (.c (3, .q) (.c (4, .q) (.c (5, .q) (.c (6, .q) (.c (7, .q) (.c (8, .q) (.c (9, .q) (.c (10, .q) .n))))))))))) hI (by kernel_rfl) (by kernel_rfl) ?_)))))
  clear hI; intro w4 hI
  refine a_q rfl gn rfl (fun w' => y_fieldAddr rfl et u29 rfl size_27 rfl) ?_
  refine a_read rfl gn rfl (fun w' hw' => (y_load1 (v := (vs a2 a1.L.length c1)) rfl et u27 rfl ((hI.kblk (l := [vs a2 a1.L.length c1]) .z rfl).at_ (SX.any rfl hw')))) (by kernel_rfl) ?_
  refine a_q rfl gn rfl (fun w' => y_move rfl et) ?_
  obtain ⟨e1, hx1, h⟩ := bnd_some h
  obtain ⟨ad1, cs1, hA1, hr1, hq1⟩ := hI.clat (.s .z) hx1
  obtain rfl : cs1 = [(str e1.Name), vi e1.By] := hr1
  refine a_q rfl gn rfl (fun w' => y_indexAddr rfl u27 size_112 et et (lat_bd hx1) hA1) ?_
  refine a_read rfl gn rfl (fun w' hw' => (y_loadN (l := [(str e1.Name), vi e1.By]) rfl et u112 rfl size_112 (hq1.at_ (SX.any rfl hw')))) (by kernel_rfl) ?_
  refine a_q rfl gn rfl (fun w' => y_fieldAddr rfl et u29 rfl size_27 rfl) ?_
  refine a_read rfl gn rfl (fun w' hw' => (y_load1 (v := (vs a3 b1.L.length c2)) rfl et u27 rfl ((hI.kblk (l := [vs a3 b1.L.length c2]) (.s (.s .z)) rfl).at_ (SX.any rfl hw')))) (by kernel_rfl) ?_
  refine a_q rfl gn rfl (fun w' => y_move rfl et) ?_
  obtain ⟨e2, hx2, h⟩ := bnd_some h
  obtain ⟨ad2, cs2, hA2, hr2, hq2⟩ := hI.clat (.s (.s (.s .z))) hx2
  obtain rfl : cs2 = [(str e2.Name), vi e2.By] := hr2
  refine a_q rfl gn rfl (fun w' => y_indexAddr rfl u27 size_112 et et (lat_bd hx2) hA2) ?_
  refine a_read rfl gn rfl (fun w' hw' => (y_loadN (l := [(str e2.Name), vi e2.By]) rfl et u112 rfl size_112 (hq2.at_ (SX.any rfl hw')))) (by kernel_rfl) ?_
  refine a_q rfl gn rfl (fun w' => y_bin rfl et et (eqstruct_112n ..) (eqguard_112 ..)) ?_
  refine a_nil ?_
  refine k_same (cif h et (fun hb h => ?_) (fun hb h => ?_))
  ·refine sr (sac ?_)
   refine nk (c_ret ?_)
   obtain rfl := some_inj h
   exact q_ret (vs := [vb false]) Tryz.results52 ⟨ev_tmp rfl rfl, trivial⟩ (fq hI trivial)
  refine c_skip (k_same (c_region rfl ?_))
  refine sm ?_
  refine sq (y_add rfl et ev_const) ?_
  refine sa ?_
  refine s_nil ?_
  exact k_loop (fuel1, wi64 (i1 + 1)) ⟨rfl, rfl, rfl, trivial⟩ ⟨_, hI.arr .n ⟨.z, (.s .z), (.s (.s .z)), (.s (.s (.s .z))), trivial⟩, h⟩ (Nat.lt_succ_self _)
 refine c_exit ?_
 refine k_in ?_
 refine k_same (sr (sac ?_))
 refine nk (c_ret ?_)
 obtain rfl := some_inj h
 exact q_ret (vs := [vb true]) Tryz.results52 ⟨ev_tmp rfl rfl, trivial⟩ (fq hI trivial)
theorem c_base_Lins (F : NP) (w0 : World) (hF : ∀ k, F k → k < w0.heap.size) (a1 : List GLin) (b1 : List GLin) (a2 : Option Addr) (c1 : Nat) (a3 : Option Addr) (c2 : Nat) (hc : AllCl [Cl.sl cGLin a2 c1 a1, Cl.sl cGLin a3 c2 b1] F w0) (r : Bool)
  (h : m_base_Lins a1 b1 = some r) :
  Calls Tryz.prog 143 #[vs a2 a1.length c1, vs a3 b1.length c2] w0 fun e w => e = .returned (vb r) ∧ Ext w0 w ∧ AllCl [] F w := by
 refine enterK Tryz.func143 rfl Tryz.ntmps143 rfl ?_
 have hI := Bun.start hF hc
 clear hc
 rw [m_base_Lins] at h
 refine sr (sac ?_)
 refine nk (c_seq (sr (sm ?_)))
 refine sq (y_lenl rfl u30 et) ?_
 refine sm ?_
 refine sq (y_lenl rfl u30 et) ?_
 refine sq (y_neq rfl et et) ?_
 refine nk (cif h et (fun hb h => ?_) (fun hb h => ?_))
 ·refine sr (sac ?_)
  refine nk (c_ret ?_)
  obtain rfl := some_inj h
  exact q_ret (vs := [vb false]) Tryz.results143 ⟨ev_tmp rfl rfl, trivial⟩ (fq hI trivial)
 refine c_skip (k_same (c_seq (sr (sac ?_))))
 refine nk (c_block (c_loop (α := Nat × Int) (fun x => fun w => ∃ C, Bun noM F w0 C w [] [Cl.sl cGLin a2 c1 a1, Cl.sl cGLin a3 c2 b1] ∧ m_base_Lins_l1 a1 b1 (x.1) (x.2) = some r) (fun x _ => x.1) (fun x => [(0, vs a2 a1.length c1), (1, vs a3 b1.length c2), (5, vi (x.2))]) (fu, 0) ⟨_, hI.arr .n ⟨.z, (.s .z), trivial⟩, h⟩ ⟨rfl, rfl, rfl, trivial⟩ ?_))
 clear h hI; rintro ⟨fuel1, i1⟩ w1 ⟨c3, hI, h⟩
 dsimp only at hI h
 rcases fuel1 with _ | fuel1
 ·rw [m_base_Lins_l1] at h; cases h
 rw [m_base_Lins_l1] at h
 refine c_sub (e := [(0, vs a2 a1.length c1), (1, vs a3 b1.length c2), (5, vi i1)]) ⟨rfl, rfl, rfl, trivial⟩ ?_
 refine c_seq (sr (sm ?_))
 refine sm ?_
 refine sq (y_lenl rfl u30 et) ?_
 refine sq (y_lss rfl et et) ?_
 refine nk (cif h et (fun hb h => ?_) (fun hb h => ?_))
 ·refine c_skip (k_same (c_seq (c_block (c_seq (c_drawX [] false (.c (0, .q) (.c (1, .q) (.c (2, .q) (.c (3, .q) (.c (4, .q) (.c (5, .q) (.c (6, .q) (.c (7, .q) (.c (8, .s) (.c (9, .q) .n)))))))))) hI (by kernel_rfl) (by kernel_rfl) ?_)))))
  clear hI; intro w2 hI
  refine a_q rfl gn rfl (fun w' => y_move rfl et) ?_
  refine a_q rfl gn rfl (fun w' => y_move rfl et) ?_
  obtain ⟨e1, hx1, h⟩ := bnd_some h
  obtain ⟨ad1, cs1, hA1, hr1, hq1⟩ := hI.clat .z hx1
  obtain ⟨a4, c4, rfl, hf1⟩ := hr1
  have hI := hI.add (c := Cl.sl cGMono a4 c4 e1.L) hf1
  refine a_q rfl gn rfl (fun w' => y_indexAddr rfl u30 size_29 et et (lat_bd hx1) hA1) ?_
  refine a_read rfl gn rfl (fun w' hw' => (y_loadN (l := (lLin e1 a4 c4)) rfl et u29 rfl size_29 (hq1.at_ (SX.any rfl hw')))) (by kernel_rfl) ?_
  refine a_q rfl gn rfl (fun w' => y_move rfl et) ?_
  refine a_q rfl gn rfl (fun w' => y_move rfl et) ?_
  obtain ⟨e2, hx2, h⟩ := bnd_some h
  obtain ⟨ad2, cs2, hA2, hr2, hq2⟩ := hI.clat (.s (.s .z)) hx2
  obtain ⟨a5, c5, rfl, hf2⟩ := hr2
  have hI := hI.add (c := Cl.sl cGMono a5 c5 e2.L) hf2
  refine a_q rfl gn rfl (fun w' => y_indexAddr rfl u30 size_29 et et (lat_bd hx2) hA2) ?_
  refine a_read rfl gn rfl (fun w' hw' => (y_loadN (l := (lLin e2 a5 c5)) rfl et u29 rfl size_29 (hq2.at_ (SX.any rfl hw')))) (by kernel_rfl) ?_
  obtain ⟨r1, hx3, h⟩ := bnd_some h
  refine la_call rfl gn rfl (r_callF (vs := [(Value.agg (ALin e1 a4 c4)), (Value.agg (ALin e2 a5 c5))]) rfl ok_52 ⟨et, ⟨et, trivial⟩⟩) (Calls.mono (c_base_Lin (Dj F c3) w2 hI.lt e1 e2 a4 c4 a5 c5 ⟨(hI.get (.s .z)), (hI.get .z), trivial⟩ r1 hx3) ?_)
  rintro _ w3 ⟨rfl, hx4, hl1⟩
  refine ⟨_, rfl, hx4, ?_⟩
  replace hI := (hI.ext hx4)
  refine a_q rfl gn rfl (fun w' => y_not rfl et) ?_
  refine a_nil ?_
  refine k_same (cif h et (fun hb h => ?_) (fun hb h => ?_))
  ·refine sr (sac ?_)
   refine nk (c_ret ?_)
   obtain rfl := some_inj h
   exact q_ret (vs := [vb false]) Tryz.results143 ⟨ev_tmp rfl rfl, trivial⟩ (fq hI trivial)
  refine c_skip (k_same (c_region rfl ?_))
  refine sm ?_
  refine sq (y_add rfl et ev_const) ?_
  refine sa ?_
  refine s_nil ?_
  exact k_loop (fuel1, wi64 (i1 + 1)) ⟨rfl, rfl, rfl, trivial⟩ ⟨_, hI.arr .n ⟨(.s (.s .z)), (.s (.s (.s .z))), trivial⟩, h⟩ (Nat.lt_succ_self _)
 refine c_exit ?_
 refine k_in ?_
 refine k_same (sr (sac ?_))
 refine nk (c_ret ?_)
 obtain rfl := some_inj h
 exact q_ret (vs := [vb true]) Tryz.results143 ⟨ev_tmp rfl rfl, trivial⟩ (fq hI trivial)
theorem c_base_Index (F : NP) (w0 : World) (hF : ∀ k, F k → k < w0.heap.size) (a1 : GIndex) (b1 : GIndex) (a2 : Option Addr) (c1 : Nat) (a3 : Option Addr) (c2 : Nat) (a4 : Option Addr) (c3 : Nat) (a5 : Option Addr) (c4 : Nat) (hc : AllCl [Cl.sl cGMono a2 c1 a1.Lin.L, Cl.sl cGLin a3 c2 a1.At, Cl.sl cGMono a4 c3 b1.Lin.L, Cl.sl cGLin a5 c4 b1.At] F w0) (r : Bool)
  (h : m_base_Index a1 b1 = some r) :
  Calls Tryz.prog 112 #[(Value.agg #[vi a1.Lin.K, vs a2 a1.Lin.L.length c1, (str a1.From), vs a3 a1.At.length c2]), (Value.agg #[vi b1.Lin.K, vs a4 b1.Lin.L.length c3, (str b1.From), vs a5 b1.At.length c4])] w0 fun e w => e = .returned (vb r) ∧ Ext w0 w ∧ AllCl [] F w := by
 refine enterK Tryz.func112 rfl Tryz.ntmps112 rfl ?_
 have hI := Bun.start hF hc
 clear hc
 rw [m_base_Index] at h
 refine sr (l_box (v := (Value.agg #[vi a1.Lin.K, vs a2 a1.Lin.L.length c1, (str a1.From), vs a3 a1.At.length c2])) (cs := #[vi a1.Lin.K, vs a2 a1.Lin.L.length c1, (str a1.From), vs a3 a1.At.length c2]) hI gn rfl rfl et rfl ?_)
 clear hI; intro b2 c5 w1 hI
 obtain ⟨c6, hI⟩ := hI.relBox .z
 refine l_box (v := (Value.agg #[vi b1.Lin.K, vs a4 b1.Lin.L.length c3, (str b1.From), vs a5 b1.At.length c4])) (cs := #[vi b1.Lin.K, vs a4 b1.Lin.L.length c3, (str b1.From), vs a5 b1.At.length c4]) hI gn rfl rfl et rfl ?_
 clear hI; intro b3 c7 w2 hI
 obtain ⟨c8, hI⟩ := hI.relBox .z
 refine sac ?_
 refine nk (sr (sq (y_fieldAddr rfl et u32 rfl size_9 rfl) ?_))
 refine sq (y_load1 (v := (str a1.From)) rfl et u9 rfl (hI.kblk (l := [(str a1.From)]) (.s .z) rfl).1) ?_
 refine sq (y_fieldAddr rfl et u32 rfl size_9 rfl) ?_
 refine sq (y_load1 (v := (str b1.From)) rfl et u9 rfl (hI.kblk (l := [(str b1.From)]) .z rfl).1) ?_
 refine sq (y_eqs rfl et et) ?_
 refine sm ?_
 refine s_gval (g_true rfl rfl rfl rfl) rfl (fun hc => y_fieldAddr rfl et u32 rfl size_29 rfl) ?_
 refine s_gval (g_true rfl rfl rfl rfl) rfl (fun hc => (y_loadN (l := (lLin a1.Lin a2 c1)) rfl (ev_gv et hc) u29 rfl size_29 (hI.kblk (l := (lLin a1.Lin a2 c1)) (.s .z) rfl).1)) ?_
 refine s_gval (g_true rfl rfl rfl rfl) rfl (fun hc => y_fieldAddr rfl et u32 rfl size_29 rfl) ?_
 refine s_gval (g_true rfl rfl rfl rfl) rfl (fun hc => (y_loadN (l := (lLin b1.Lin a4 c3)) rfl (ev_gv et hc) u29 rfl size_29 (hI.kblk (l := (lLin b1.Lin a4 c3)) .z rfl).1)) ?_
 obtain ⟨r1, hx1, h⟩ := bnd_some h
 replace hx1 := gd_some hx1
 refine s_gcallU (v := (vb r1)) (g_true rfl rfl rfl rfl) rfl (fun hc => (r_callF (vs := [(Value.agg (ALin a1.Lin a2 c1)), (Value.agg (ALin b1.Lin a4 c3))]) rfl ok_52 ⟨(ev_gv et hc), ⟨(ev_gv et hc), trivial⟩⟩)) (fun hc => (c_base_Lin (Dj F c8) w2 hI.lt a1.Lin b1.Lin a2 c1 a4 c3 ⟨(hI.get (.s (.s .z))), (hI.get (.s (.s (.s (.s .z))))), trivial⟩ r1 (hx1 hc)).mono fun _ _ k => ⟨k.1, k.2.1⟩) ?_
 intro w3 hx2; replace hI := hI.ext hx2
 refine sq (y_and rfl et et) ?_
 refine sm ?_
 refine s_gval (g_true rfl rfl rfl rfl) rfl (fun hc => y_fieldAddr rfl et u32 rfl size_30 rfl) ?_
 refine s_gval (g_true rfl rfl rfl rfl) rfl (fun hc => (y_load1 (v := (vs a3 a1.At.length c2)) rfl (ev_gv et hc) u30 rfl (hI.kblk (l := [vs a3 a1.At.length c2]) (.s .z) rfl).1)) ?_
 refine s_gval (g_true rfl rfl rfl rfl) rfl (fun hc => y_fieldAddr rfl et u32 rfl size_30 rfl) ?_
 refine s_gval (g_true rfl rfl rfl rfl) rfl (fun hc => (y_load1 (v := (vs a5 b1.At.length c4)) rfl (ev_gv et hc) u30 rfl (hI.kblk (l := [vs a5 b1.At.length c4]) .z rfl).1)) ?_
 obtain ⟨r2, hx3, h⟩ := bnd_some h
 replace hx3 := gd_some hx3
 refine s_gcallU (v := (vb r2)) (g_true rfl rfl rfl rfl) rfl (fun hc => (r_callF (vs := [vs a3 a1.At.length c2, vs a5 b1.At.length c4]) rfl ok_143 ⟨(ev_gv et hc), ⟨(ev_gv et hc), trivial⟩⟩)) (fun hc => (c_base_Lins (Dj F c8) w3 hI.lt a1.At b1.At a3 c2 a5 c4 ⟨(hI.get (.s (.s (.s .z)))), (hI.get (.s (.s (.s (.s (.s .z)))))), trivial⟩ r2 (hx3 hc)).mono fun _ _ k => ⟨k.1, k.2.1⟩) ?_
 intro w4 hx4; replace hI := hI.ext hx4
 refine sq (y_and rfl et et) ?_
 refine sa ?_
 refine nk (c_ret ?_)
 obtain rfl := some_inj h
 exact q_ret (vs := [(vb (((decide (a1.From = b1.From)) && r1) && r2))]) Tryz.results112 ⟨ev_tmp rfl rfl, trivial⟩ (fq hI trivial)
theorem c_base_Indices (F : NP) (w0 : World) (hF : ∀ k, F k → k < w0.heap.size) (a1 : List GIndex) (b1 : List GIndex) (a2 : Option Addr) (c1 : Nat) (a3 : Option Addr) (c2 : Nat) (hc : AllCl [Cl.sl cGIndex a2 c1 a1, Cl.sl cGIndex a3 c2 b1] F w0) (r : Bool)
  (h : m_base_Indices a1 b1 = some r) :
  Calls Tryz.prog 53 #[vs a2 a1.length c1, vs a3 b1.length c2] w0 fun e w => e = .returned (vb r) ∧ Ext w0 w ∧ AllCl [] F w := by
 refine enterK Tryz.func53 rfl Tryz.ntmps53 rfl ?_
 have hI := Bun.start hF hc
 clear hc
 rw [m_base_Indices] at h
 refine sr (sac ?_)
 refine nk (c_seq (sr (sm ?_)))
 refine sq (y_lenl rfl u34 et) ?_
 refine sm ?_
 refine sq (y_lenl rfl u34 et) ?_
 refine sq (y_neq rfl et et) ?_
 refine nk (cif h et (fun hb h => ?_) (fun hb h => ?_))
 ·refine sr (sac ?_)
  refine nk (c_ret ?_)
  obtain rfl := some_inj h
  exact q_ret (vs := [vb false]) Tryz.results53 ⟨ev_tmp rfl rfl, trivial⟩ (fq hI trivial)
 refine c_skip (k_same (c_seq (sr (sac ?_))))
 refine nk (c_block (c_loop (α := Nat × Int) (fun x => fun w => ∃ C, Bun noM F w0 C w [] [Cl.sl cGIndex a2 c1 a1, Cl.sl cGIndex a3 c2 b1] ∧ m_base_Indices_l1 a1 b1 (x.1) (x.2) = some r) (fun x _ => x.1) (fun x => [(0, vs a2 a1.length c1), (1, vs a3 b1.length c2), (5, vi (x.2))]) (fu, 0) ⟨_, hI.arr .n ⟨.z, (.s .z), trivial⟩, h⟩ ⟨rfl, rfl, rfl, trivial⟩ ?_))
 clear h hI; rintro ⟨fuel1, i1⟩ w1 ⟨c3, hI, h⟩
 dsimp only at hI h
 rcases fuel1 with _ | fuel1
 ·rw [m_base_Indices_l1] at h; cases h
 rw [m_base_Indices_l1] at h
 refine c_sub (e := [(0, vs a2 a1.length c1), (1, vs a3 b1.length c2), (5, vi i1)]) ⟨rfl, rfl, rfl, trivial⟩ ?_
 refine c_seq (sr (sm ?_))
 refine sm ?_
 refine sq (y_lenl rfl u34 et) ?_
 refine sq (y_lss rfl et et) ?_
 refine nk (cif h et (fun hb h => ?_) (fun hb h => ?_))
 ·refine c_skip (k_same (c_seq (c_block (c_seq (c_drawX [] false (.c (0, .q) (.c (1, .q) (.c (2, .q) (.c (3, .q) (.c (4, .q) (.c (5, .q) (.c (6, .q) (.c (7, .q) (.c (8, .s) (.c (9, .q) .n)))))))))) hI (by kernel_rfl) (by kernel_rfl) ?_)))))
  clear hI; intro w2 hI
  refine a_q rfl gn rfl (fun w' => y_move rfl et) ?_
  refine a_q rfl gn rfl (fun w' => y_move rfl et) ?_
  obtain ⟨e1, hx1, h⟩ := bnd_some h
  obtain ⟨ad1, cs1, hA1, hr1, hq1⟩ := hI.clat .z hx1
  obtain ⟨a4, c4, a5, c5, rfl, hf1, hf2⟩ := hr1
  have hI := hI.add (c := Cl.sl cGMono a4 c4 e1.Lin.L) hf1
  have hI := hI.add (c := Cl.sl cGLin a5 c5 e1.At) hf2
  refine a_q rfl gn rfl (fun w' => y_indexAddr rfl u34 size_32 et et (lat_bd hx1) hA1) ?_
  refine a_read rfl gn rfl (fun w' hw' => (y_loadN (l := [vi e1.Lin.K, vs a4 e1.Lin.L.length c4, (str e1.From), vs a5 e1.At.length c5]) rfl et u32 rfl size_32 (hq1.at_ (SX.any rfl hw')))) (by kernel_rfl) ?_
  refine a_q rfl gn rfl (fun w' => y_move rfl et) ?_
  refine a_q rfl gn rfl (fun w' => y_move rfl et) ?_
  obtain ⟨e2, hx2, h⟩ := bnd_some h
  obtain ⟨ad2, cs2, hA2, hr2, hq2⟩ := hI.clat (.s (.s (.s .z))) hx2
  obtain ⟨a6, c6, a7, c7, rfl, hf3, hf4⟩ := hr2
  have hI := hI.add (c := Cl.sl cGMono a6 c6 e2.Lin.L) hf3
  have hI := hI.add (c := Cl.sl cGLin a7 c7 e2.At) hf4
  refine a_q rfl gn rfl (fun w' => y_indexAddr rfl u34 size_32 et et (lat_bd hx2) hA2) ?_
  refine a_read rfl gn rfl (fun w' hw' => (y_loadN (l := [vi e2.Lin.K, vs a6 e2.Lin.L.length c6, (str e2.From), vs a7 e2.At.length c7]) rfl et u32 rfl size_32 (hq2.at_ (SX.any rfl hw')))) (by kernel_rfl) ?_
  obtain ⟨r1, hx3, h⟩ := bnd_some h
  refine la_call rfl gn rfl (r_callF (vs := [(Value.agg #[vi e1.Lin.K, vs a4 e1.Lin.L.length c4, (str e1.From), vs a5 e1.At.length c5]), (Value.agg #[vi e2.Lin.K, vs a6 e2.Lin.L.length c6, (str e2.From), vs a7 e2.At.length c7])]) rfl ok_112 ⟨et, ⟨et, trivial⟩⟩) (Calls.mono (c_base_Index (Dj F c3) w2 hI.lt e1 e2 a4 c4 a5 c5 a6 c6 a7 c7 ⟨(hI.get (.s (.s (.s .z)))), (hI.get (.s (.s .z))), (hI.get (.s .z)), (hI.get .z), trivial⟩ r1 hx3) ?_)
  rintro _ w3 ⟨rfl, hx4, hl1⟩
  refine ⟨_, rfl, hx4, ?_⟩
  replace hI := (hI.ext hx4)
  refine a_q rfl gn rfl (fun w' => y_not rfl et) ?_
  refine a_nil ?_
  refine k_same (cif h et (fun hb h => ?_) (fun hb h => ?_))
  ·refine sr (sac ?_)
   refine nk (c_ret ?_)
   obtain rfl := some_inj h
   exact q_ret (vs := [vb false]) Tryz.results53 ⟨ev_tmp rfl rfl, trivial⟩ (fq hI trivial)
  refine c_skip (k_same (c_region rfl ?_))
  refine sm ?_
  refine sq (y_add rfl et ev_const) ?_
  refine sa ?_
  refine s_nil ?_
  exact k_loop (fuel1, wi64 (i1 + 1)) ⟨rfl, rfl, rfl, trivial⟩ ⟨_, hI.arr .n ⟨(.s (.s (.s (.s .z)))), (.s (.s (.s (.s (.s .z))))), trivial⟩, h⟩ (Nat.lt_succ_self _)
 refine c_exit ?_
 refine k_in ?_
 refine k_same (sr (sac ?_))
 refine nk (c_ret ?_)
 obtain rfl := some_inj h
 exact q_ret (vs := [vb true]) Tryz.results53 ⟨ev_tmp rfl rfl, trivial⟩ (fq hI trivial)
theorem c_base_Exprs (rec_ : (GExpr → GExpr → Option Bool)) (hrec : ∀ (F : NP) (w0 : World) (hF : ∀ k, F k → k < w0.heap.size) (a1 : GExpr) (b1 : GExpr) (a2 : Option Addr) (c1 : Nat) (a3 : Option Addr) (c2 : Nat) (a4 : Option Addr) (c3 : Nat) (a5 : Option Addr) (c4 : Nat) (a6 : Option Addr) (c5 : Nat) (a7 : Option Addr) (c6 : Nat) (hc : AllCl [Cl.sl cGMono a2 c1 a1.Lin.L, Cl.sl cGIndex a3 c2 a1.Idx, Cl.sl cGExpr a4 c3 a1.Args, Cl.sl cGMono a5 c4 b1.Lin.L, Cl.sl cGIndex a6 c5 b1.Idx, Cl.sl cGExpr a7 c6 b1.Args] F w0) (r : Bool) (h : rec_ a1 b1 = some r), Calls Tryz.prog 20 #[(Value.agg #[vi a1.Op, (str a1.Name), vi a1.Val.N, vi a1.Val.D, vi a1.Type_.Kind, vi a1.Type_.Bits, vi a1.Type_.Frac, vi a1.Type_.Round, vi a1.Type_.Over, vi a1.Lin.K, vs a2 a1.Lin.L.length c1, vs a3 a1.Idx.length c2, vs a4 a1.Args.length c3]), (Value.agg #[vi b1.Op, (str b1.Name), vi b1.Val.N, vi b1.Val.D, vi b1.Type_.Kind, vi b1.Type_.Bits, vi b1.Type_.Frac, vi b1.Type_.Round, vi b1.Type_.Over, vi b1.Lin.K, vs a5 b1.Lin.L.length c4, vs a6 b1.Idx.length c5, vs a7 b1.Args.length c6])] w0 fun e w => e = .returned (vb r) ∧ Ext w0 w ∧ AllCl [] F w) (F : NP) (w0 : World) (hF : ∀ k, F k → k < w0.heap.size) (a1 : List GExpr) (b1 : List GExpr) (a2 : Option Addr) (c1 : Nat) (a3 : Option Addr) (c2 : Nat) (hc : AllCl [Cl.sl cGExpr a2 c1 a1, Cl.sl cGExpr a3 c2 b1] F w0) (r : Bool)
  (h : m_base_Exprs rec_ a1 b1 = some r) :
  Calls Tryz.prog 54 #[vs a2 a1.length c1, vs a3 b1.length c2] w0 fun e w => e = .returned (vb r) ∧ Ext w0 w ∧ AllCl [] F w := by
 refine enterK Tryz.func54 rfl Tryz.ntmps54 rfl ?_
 have hI := Bun.start hF hc
 clear hc
 rw [m_base_Exprs] at h
 refine sr (sac ?_)
 refine nk (c_seq (sr (sm ?_)))
 refine sq (y_lenl rfl u37 et) ?_
 refine sm ?_
 refine sq (y_lenl rfl u37 et) ?_
 refine sq (y_neq rfl et et) ?_
 refine nk (cif h et (fun hb h => ?_) (fun hb h => ?_))
 ·refine sr (sac ?_)
  refine nk (c_ret ?_)
  obtain rfl := some_inj h
  exact q_ret (vs := [vb false]) Tryz.results54 ⟨ev_tmp rfl rfl, trivial⟩ (fq hI trivial)
 refine c_skip (k_same (c_seq (sr (sac ?_))))
 refine nk (c_block (c_loop (α := Nat × Int) (fun x => fun w => ∃ C, Bun noM F w0 C w [] [Cl.sl cGExpr a2 c1 a1, Cl.sl cGExpr a3 c2 b1] ∧ m_base_Exprs_l1 a1 b1 rec_ (x.1) (x.2) = some r) (fun x _ => x.1) (fun x => [(0, vs a2 a1.length c1), (1, vs a3 b1.length c2), (5, vi (x.2))]) (fu, 0) ⟨_, hI.arr .n ⟨.z, (.s .z), trivial⟩, h⟩ ⟨rfl, rfl, rfl, trivial⟩ ?_))
 clear h hI; rintro ⟨fuel1, i1⟩ w1 ⟨c3, hI, h⟩
 dsimp only at hI h
 rcases fuel1 with _ | fuel1
 ·rw [m_base_Exprs_l1] at h; cases h
 rw [m_base_Exprs_l1] at h
 refine c_sub (e := [(0, vs a2 a1.length c1), (1, vs a3 b1.length c2), (5, vi i1)]) ⟨rfl, rfl, rfl, trivial⟩ ?_
 refine c_seq (sr (sm ?_))
 refine sm ?_
 refine sq (y_lenl rfl u37 et) ?_
 refine sq (y_lss rfl et et) ?_
 refine nk (cif h et (fun hb h => ?_) (fun hb h => ?_))
 ·refine c_skip (k_same (c_seq (c_block (c_seq (c_drawX [] false (.c (0, .q) (.c (1, .q) (.c (2, .q) (.c (3, .q) (.c (4, .q) (.c (5, .q) (.c (6, .q) (.c (7, .q) (.c (8, .s) (.c (9, .q) .n)))))))))) hI (by kernel_rfl) (by kernel_rfl) ?_)))))
  clear hI; intro w2 hI
  refine a_q rfl gn rfl (fun w' => y_move rfl et) ?_
  refine a_q rfl gn rfl (fun w' => y_move rfl et) ?_
  obtain ⟨e1, hx1, h⟩ := bnd_some h
  obtain ⟨ad1, cs1, hA1, hr1, hq1⟩ := hI.clat .z hx1
  obtain ⟨a4, c4, a5, c5, a6, c6, rfl, hf1, hf2, hf3⟩ := cGExpr_out hr1
  have hI := hI.add (c := Cl.sl cGMono a4 c4 e1.Lin.L) hf1
  have hI := hI.add (c := Cl.sl cGIndex a5 c5 e1.Idx) hf2
  have hI := hI.add (c := Cl.sl cGExpr a6 c6 e1.Args) hf3
  refine a_q rfl gn rfl (fun w' => y_indexAddr rfl u37 size_39 et et (lat_bd hx1) hA1) ?_
  refine a_read rfl gn rfl (fun w' hw' => (y_loadN (l := [vi e1.Op, (str e1.Name), vi e1.Val.N, vi e1.Val.D, vi e1.Type_.Kind, vi e1.Type_.Bits, vi e1.Type_.Frac, vi e1.Type_.Round, vi e1.Type_.Over, vi e1.Lin.K, vs a4 e1.Lin.L.length c4, vs a5 e1.Idx.length c5, vs a6 e1.Args.length c6]) rfl et u39 rfl size_39 (hq1.at_ (SX.any rfl hw')))) (by kernel_rfl) ?_
  refine a_q rfl gn rfl (fun w' => y_move rfl et) ?_
  refine a_q rfl gn rfl (fun w' => y_move rfl et) ?_
  obtain ⟨e2, hx2, h⟩ := bnd_some h
  obtain ⟨ad2, cs2, hA2, hr2, hq2⟩ := hI.clat (.s (.s (.s (.s .z)))) hx2
  obtain ⟨a7, c7, a8, c8, a9, c9, rfl, hf4, hf5, hf6⟩ := cGExpr_out hr2
  have hI := hI.add (c := Cl.sl cGMono a7 c7 e2.Lin.L) hf4
  have hI := hI.add (c := Cl.sl cGIndex a8 c8 e2.Idx) hf5
  have hI := hI.add (c := Cl.sl cGExpr a9 c9 e2.Args) hf6
  refine a_q rfl gn rfl (fun w' => y_indexAddr rfl u37 size_39 et et (lat_bd hx2) hA2) ?_
  refine a_read rfl gn rfl (fun w' hw' => (y_loadN (l := [vi e2.Op, (str e2.Name), vi e2.Val.N, vi e2.Val.D, vi e2.Type_.Kind, vi e2.Type_.Bits, vi e2.Type_.Frac, vi e2.Type_.Round, vi e2.Type_.Over, vi e2.Lin.K, vs a7 e2.Lin.L.length c7, vs a8 e2.Idx.length c8, vs a9 e2.Args.length c9]) rfl et u39 rfl size_39 (hq2.at_ (SX.any rfl hw')))) (by kernel_rfl) ?_
  obtain ⟨r1, hx3, h⟩ := bnd_some h
  refine la_call rfl gn rfl (r_callF (vs := [(Value.agg #[vi e1.Op, (str e1.Name), vi e1.Val.N, vi e1.Val.D, vi e1.Type_.Kind, vi e1.Type_.Bits, vi e1.Type_.Frac, vi e1.Type_.Round, vi e1.Type_.Over, vi e1.Lin.K, vs a4 e1.Lin.L.length c4, vs a5 e1.Idx.length c5, vs a6 e1.Args.length c6]), (Value.agg #[vi e2.Op, (str e2.Name), vi e2.Val.N, vi e2.Val.D, vi e2.Type_.Kind, vi e2.Type_.Bits, vi e2.Type_.Frac, vi e2.Type_.Round, vi e2.Type_.Over, vi e2.Lin.K, vs a7 e2.Lin.L.length c7, vs a8 e2.Idx.length c8, vs a9 e2.Args.length c9])]) rfl ok_20 ⟨et, ⟨et, trivial⟩⟩) (Calls.mono (hrec (Dj F c3) w2 hI.lt e1 e2 a4 c4 a5 c5 a6 c6 a7 c7 a8 c8 a9 c9 ⟨(hI.get (.s (.s (.s (.s (.s .z)))))), (hI.get (.s (.s (.s (.s .z))))), (hI.get (.s (.s (.s .z)))), (hI.get (.s (.s .z))), (hI.get (.s .z)), (hI.get .z), trivial⟩ r1 hx3) ?_)
  rintro _ w3 ⟨rfl, hx4, hl1⟩
  refine ⟨_, rfl, hx4, ?_⟩
  replace hI := (hI.ext hx4)
  refine a_q rfl gn rfl (fun w' => y_not rfl et) ?_
  refine a_nil ?_
  refine k_same (cif h et (fun hb h => ?_) (fun hb h => ?_))
  ·refine sr (sac ?_)
   refine nk (c_ret ?_)
   obtain rfl := some_inj h
   exact q_ret (vs := [vb false]) Tryz.results54 ⟨ev_tmp rfl rfl, trivial⟩ (fq hI trivial)
  refine c_skip (k_same (c_region rfl ?_))
  refine sm ?_
  refine sq (y_add rfl et ev_const) ?_
  refine sa ?_
  refine s_nil ?_
  exact k_loop (fuel1, wi64 (i1 + 1)) ⟨rfl, rfl, rfl, trivial⟩ ⟨_, hI.arr .n ⟨(.s (.s (.s (.s (.s (.s .z)))))), (.s (.s (.s (.s (.s (.s (.s .z))))))), trivial⟩, h⟩ (Nat.lt_succ_self _)
 refine c_exit ?_
 refine k_in ?_
 refine k_same (sr (sac ?_))
 refine nk (c_ret ?_)
 obtain rfl := some_inj h
 exact q_ret (vs := [vb true]) Tryz.results54 ⟨ev_tmp rfl rfl, trivial⟩ (fq hI trivial)
theorem c_base_Expr_b (rec_ : (GExpr → GExpr → Option Bool)) (hrec : ∀ (F : NP) (w0 : World) (hF : ∀ k, F k → k < w0.heap.size) (a1 : GExpr) (b1 : GExpr) (a2 : Option Addr) (c1 : Nat) (a3 : Option Addr) (c2 : Nat) (a4 : Option Addr) (c3 : Nat) (a5 : Option Addr) (c4 : Nat) (a6 : Option Addr) (c5 : Nat) (a7 : Option Addr) (c6 : Nat) (hc : AllCl [Cl.sl cGMono a2 c1 a1.Lin.L, Cl.sl cGIndex a3 c2 a1.Idx, Cl.sl cGExpr a4 c3 a1.Args, Cl.sl cGMono a5 c4 b1.Lin.L, Cl.sl cGIndex a6 c5 b1.Idx, Cl.sl cGExpr a7 c6 b1.Args] F w0) (r : Bool) (h : rec_ a1 b1 = some r), Calls Tryz.prog 20 #[(Value.agg #[vi a1.Op, (str a1.Name), vi a1.Val.N, vi a1.Val.D, vi a1.Type_.Kind, vi a1.Type_.Bits, vi a1.Type_.Frac, vi a1.Type_.Round, vi a1.Type_.Over, vi a1.Lin.K, vs a2 a1.Lin.L.length c1, vs a3 a1.Idx.length c2, vs a4 a1.Args.length c3]), (Value.agg #[vi b1.Op, (str b1.Name), vi b1.Val.N, vi b1.Val.D, vi b1.Type_.Kind, vi b1.Type_.Bits, vi b1.Type_.Frac, vi b1.Type_.Round, vi b1.Type_.Over, vi b1.Lin.K, vs a5 b1.Lin.L.length c4, vs a6 b1.Idx.length c5, vs a7 b1.Args.length c6])] w0 fun e w => e = .returned (vb r) ∧ Ext w0 w ∧ AllCl [] F w)
  (F : NP) (w0 : World) (hF : ∀ k, F k → k < w0.heap.size) (a1 : GExpr) (b1 : GExpr) (a2 : Option Addr) (c1 : Nat) (a3 : Option Addr) (c2 : Nat) (a4 : Option Addr) (c3 : Nat) (a5 : Option Addr) (c4 : Nat) (a6 : Option Addr) (c5 : Nat) (a7 : Option Addr) (c6 : Nat) (hc : AllCl [Cl.sl cGMono a2 c1 a1.Lin.L, Cl.sl cGIndex a3 c2 a1.Idx, Cl.sl cGExpr a4 c3 a1.Args, Cl.sl cGMono a5 c4 b1.Lin.L, Cl.sl cGIndex a6 c5 b1.Idx, Cl.sl cGExpr a7 c6 b1.Args] F w0) (r : Bool) (h : m_base_Expr_b rec_ a1 b1 = some r) : Calls Tryz.prog 20 #[(Value.agg #[vi a1.Op, (str a1.Name), vi a1.Val.N, vi a1.Val.D, vi a1.Type_.Kind, vi a1.Type_.Bits, vi a1.Type_.Frac, vi a1.Type_.Round, vi a1.Type_.Over, vi a1.Lin.K, vs a2 a1.Lin.L.length c1, vs a3 a1.Idx.length c2, vs a4 a1.Args.length c3]), (Value.agg #[vi b1.Op, (str b1.Name), vi b1.Val.N, vi b1.Val.D, vi b1.Type_.Kind, vi b1.Type_.Bits, vi b1.Type_.Frac, vi b1.Type_.Round, vi b1.Type_.Over, vi b1.Lin.K, vs a5 b1.Lin.L.length c4, vs a6 b1.Idx.length c5, vs a7 b1.Args.length c6])] w0 fun e w => e = .returned (vb r) ∧ Ext w0 w ∧ AllCl [] F w := by
 refine enterK Tryz.func20 rfl Tryz.ntmps20 rfl ?_
 have hI := Bun.start hF hc
 clear hc
 rw [m_base_Expr_b] at h
 refine sr (l_box (v := (Value.agg #[vi a1.Op, (str a1.Name), vi a1.Val.N, vi a1.Val.D, vi a1.Type_.Kind, vi a1.Type_.Bits, vi a1.Type_.Frac, vi a1.Type_.Round, vi a1.Type_.Over, vi a1.Lin.K, vs a2 a1.Lin.L.length c1, vs a3 a1.Idx.length c2, vs a4 a1.Args.length c3])) (cs := #[vi a1.Op, (str a1.Name), vi a1.Val.N, vi a1.Val.D, vi a1.Type_.Kind, vi a1.Type_.Bits, vi a1.Type_.Frac, vi a1.Type_.Round, vi a1.Type_.Over, vi a1.Lin.K, vs a2 a1.Lin.L.length c1, vs a3 a1.Idx.length c2, vs a4 a1.Args.length c3]) hI gn rfl rfl et rfl ?_)
 clear hI; intro b2 c7 w1 hI
 obtain ⟨c8, hI⟩ := hI.relBox .z
 refine l_box (v := (Value.agg #[vi b1.Op, (str b1.Name), vi b1.Val.N, vi b1.Val.D, vi b1.Type_.Kind, vi b1.Type_.Bits, vi b1.Type_.Frac, vi b1.Type_.Round, vi b1.Type_.Over, vi b1.Lin.K, vs a5 b1.Lin.L.length c4, vs a6 b1.Idx.length c5, vs a7 b1.Args.length c6])) (cs := #[vi b1.Op, (str b1.Name), vi b1.Val.N, vi b1.Val.D, vi b1.Type_.Kind, vi b1.Type_.Bits, vi b1.Type_.Frac, vi b1.Type_.Round, vi b1.Type_.Over, vi b1.Lin.K, vs a5 b1.Lin.L.length c4, vs a6 b1.Idx.length c5, vs a7 b1.Args.length c6]) hI gn rfl rfl et rfl ?_
 clear hI; intro b3 c9 w2 hI
 obtain ⟨c10, hI⟩ := hI.relBox .z
 refine sac ?_
 refine nk (sr (sq (y_fieldAddr rfl et u39 rfl size_3 rfl) ?_))
 refine sq (y_load1 (v := (vi a1.Op)) rfl et u3 rfl (hI.kblk (l := [vi a1.Op]) (.s .z) rfl).1) ?_
 refine sq (y_fieldAddr rfl et u39 rfl size_3 rfl) ?_
 refine sq (y_load1 (v := (vi b1.Op)) rfl et u3 rfl (hI.kblk (l := [vi b1.Op]) .z rfl).1) ?_
 refine sq (y_eql rfl et et) ?_
 refine sm ?_
 refine s_gval (g_true rfl rfl rfl rfl) rfl (fun hc => y_fieldAddr rfl et u39 rfl size_9 rfl) ?_
 refine s_gval (g_true rfl rfl rfl rfl) rfl (fun hc => (y_load1 (v := (str a1.Name)) rfl (ev_gv et hc) u9 rfl (hI.kblk (l := [(str a1.Name)]) (.s .z) rfl).1)) ?_
 refine s_gval (g_true rfl rfl rfl rfl) rfl (fun hc => y_fieldAddr rfl et u39 rfl size_9 rfl) ?_
 refine s_gval (g_true rfl rfl rfl rfl) rfl (fun hc => (y_load1 (v := (str b1.Name)) rfl (ev_gv et hc) u9 rfl (hI.kblk (l := [(str b1.Name)]) .z rfl).1)) ?_
 refine s_gval (g_true rfl rfl rfl rfl) rfl (fun hc => y_eqs rfl (ev_gv et hc) (ev_gv et hc)) ?_
 refine sq (y_and rfl et et) ?_
 refine sm ?_
 refine s_gval (g_true rfl rfl rfl rfl) rfl (fun hc => y_fieldAddr rfl et u39 rfl size_36 rfl) ?_
 refine s_gval (g_true rfl rfl rfl rfl) rfl (fun hc => (y_loadN (l := (lVal a1.Val)) rfl (ev_gv et hc) u36 rfl size_36 (hI.kblk (l := (lVal a1.Val)) (.s .z) rfl).1)) ?_
 refine s_gval (g_true rfl rfl rfl rfl) rfl (fun hc => y_fieldAddr rfl et u39 rfl size_36 rfl) ?_
 refine s_gval (g_true rfl rfl rfl rfl) rfl (fun hc => (y_loadN (l := (lVal b1.Val)) rfl (ev_gv et hc) u36 rfl size_36 (hI.kblk (l := (lVal b1.Val)) .z rfl).1)) ?_
 refine s_gval (g_true rfl rfl rfl rfl) rfl (fun hc => y_bin rfl (ev_gv et hc) (ev_gv et hc) (eqstruct_36 ..) (eqguard_36 ..)) ?_
 refine sq (y_and rfl et et) ?_
 refine sm ?_
 refine s_gval (g_true rfl rfl rfl rfl) rfl (fun hc => y_fieldAddr rfl et u39 rfl size_23 rfl) ?_
 refine s_gval (g_true rfl rfl rfl rfl) rfl (fun hc => (y_loadN (l := (lType a1.Type_)) rfl (ev_gv et hc) u23 rfl size_23 (hI.kblk (l := (lType a1.Type_)) (.s .z) rfl).1)) ?_
 refine s_gval (g_true rfl rfl rfl rfl) rfl (fun hc => y_fieldAddr rfl et u39 rfl size_23 rfl) ?_
 refine s_gval (g_true rfl rfl rfl rfl) rfl (fun hc => (y_loadN (l := (lType b1.Type_)) rfl (ev_gv et hc) u23 rfl size_23 (hI.kblk (l := (lType b1.Type_)) .z rfl).1)) ?_
 refine s_gval (g_true rfl rfl rfl rfl) rfl (fun hc => y_bin rfl (ev_gv et hc) (ev_gv et hc) (eqstruct_23 ..) (eqguard_23 ..)) ?_
 refine sq (y_and rfl et et) ?_
 refine sm ?_
 refine s_gval (g_true rfl rfl rfl rfl) rfl (fun hc => y_fieldAddr rfl et u39 rfl size_29 rfl) ?_
 refine s_gval (g_true rfl rfl rfl rfl) rfl (fun hc => (y_loadN (l := (lLin a1.Lin a2 c1)) rfl (ev_gv et hc) u29 rfl size_29 (hI.kblk (l := (lLin a1.Lin a2 c1)) (.s .z) rfl).1)) ?_
 refine s_gval (g_true rfl rfl rfl rfl) rfl (fun hc => y_fieldAddr rfl et u39 rfl size_29 rfl) ?_
 refine s_gval (g_true rfl rfl rfl rfl) rfl (fun hc => (y_loadN (l := (lLin b1.Lin a5 c4)) rfl (ev_gv et hc) u29 rfl size_29 (hI.kblk (l := (lLin b1.Lin a5 c4)) .z rfl).1)) ?_
 obtain ⟨r1, hx1, h⟩ := bnd_some h
 replace hx1 := gd_some hx1
 refine s_gcallU (v := (vb r1)) (g_true rfl rfl rfl rfl) rfl (fun hc => (r_callF (vs := [(Value.agg (ALin a1.Lin a2 c1)), (Value.agg (ALin b1.Lin a5 c4))]) rfl ok_52 ⟨(ev_gv et hc), ⟨(ev_gv et hc), trivial⟩⟩)) (fun hc => (c_base_Lin (Dj F c10) w2 hI.lt a1.Lin b1.Lin a2 c1 a5 c4 ⟨(hI.get (.s (.s .z))), (hI.get (.s (.s (.s (.s (.s .z)))))), trivial⟩ r1 (hx1 hc)).mono fun _ _ k => ⟨k.1, k.2.1⟩) ?_
 intro w3 hx2; replace hI := hI.ext hx2
 refine sq (y_and rfl et et) ?_
 refine sm ?_
 refine s_gval (g_true rfl rfl rfl rfl) rfl (fun hc => y_fieldAddr rfl et u39 rfl size_34 rfl) ?_
 refine s_gval (g_true rfl rfl rfl rfl) rfl (fun hc => (y_load1 (v := (vs a3 a1.Idx.length c2)) rfl (ev_gv et hc) u34 rfl (hI.kblk (l := [vs a3 a1.Idx.length c2]) (.s .z) rfl).1)) ?_
 refine s_gval (g_true rfl rfl rfl rfl) rfl (fun hc => y_fieldAddr rfl et u39 rfl size_34 rfl) ?_
 refine s_gval (g_true rfl rfl rfl rfl) rfl (fun hc => (y_load1 (v := (vs a6 b1.Idx.length c5)) rfl (ev_gv et hc) u34 rfl (hI.kblk (l := [vs a6 b1.Idx.length c5]) .z rfl).1)) ?_
 obtain ⟨r2, hx3, h⟩ := bnd_some h
 replace hx3 := gd_some hx3
 refine s_gcallU (v := (vb r2)) (g_true rfl rfl rfl rfl) rfl (fun hc => (r_callF (vs := [vs a3 a1.Idx.length c2, vs a6 b1.Idx.length c5]) rfl ok_53 ⟨(ev_gv et hc), ⟨(ev_gv et hc), trivial⟩⟩)) (fun hc => (c_base_Indices (Dj F c10) w3 hI.lt a1.Idx b1.Idx a3 c2 a6 c5 ⟨(hI.get (.s (.s (.s .z)))), (hI.get (.s (.s (.s (.s (.s (.s .z))))))), trivial⟩ r2 (hx3 hc)).mono fun _ _ k => ⟨k.1, k.2.1⟩) ?_
 intro w4 hx4; replace hI := hI.ext hx4
 refine sq (y_and rfl et et) ?_
 refine sm ?_
 refine s_gval (g_true rfl rfl rfl rfl) rfl (fun hc => y_fieldAddr rfl et u39 rfl size_37 rfl) ?_
 refine s_gval (g_true rfl rfl rfl rfl) rfl (fun hc => (y_load1 (v := (vs a4 a1.Args.length c3)) rfl (ev_gv et hc) u37 rfl (hI.kblk (l := [vs a4 a1.Args.length c3]) (.s .z) rfl).1)) ?_
 refine s_gval (g_true rfl rfl rfl rfl) rfl (fun hc => y_fieldAddr rfl et u39 rfl size_37 rfl) ?_
 refine s_gval (g_true rfl rfl rfl rfl) rfl (fun hc => (y_load1 (v := (vs a7 b1.Args.length c6)) rfl (ev_gv et hc) u37 rfl (hI.kblk (l := [vs a7 b1.Args.length c6]) .z rfl).1)) ?_
 obtain ⟨r3, hx5, h⟩ := bnd_some h
 replace hx5 := gd_some hx5
 refine s_gcallU (v := (vb r3)) (g_true rfl rfl rfl rfl) rfl (fun hc => (r_callF (vs := [vs a4 a1.Args.length c3, vs a7 b1.Args.length c6]) rfl ok_54 ⟨(ev_gv et hc), ⟨(ev_gv et hc), trivial⟩⟩)) (fun hc => (c_base_Exprs rec_ hrec (Dj F c10) w4 hI.lt a1.Args b1.Args a4 c3 a7 c6 ⟨(hI.get (.s (.s (.s (.s .z))))), (hI.get (.s (.s (.s (.s (.s (.s (.s .z)))))))), trivial⟩ r3 (hx5 hc)).mono fun _ _ k => ⟨k.1, k.2.1⟩) ?_
 intro w5 hx6; replace hI := hI.ext hx6
 refine sq (y_and rfl et et) ?_
 refine sa ?_
 refine s_nil ?_
 refine k_next (e := [(4, (vb (((((((decide (a1.Op = b1.Op)) && (decide (a1.Name = b1.Name))) && ((decide (a1.Val.N = b1.Val.N)) && (decide (a1.Val.D = b1.Val.D)))) && ((decide (a1.Type_.Kind = b1.Type_.Kind)) && (decide (a1.Type_.Bits = b1.Type_.Bits)) && (decide (a1.Type_.Frac = b1.Type_.Frac)) && (decide (a1.Type_.Round = b1.Type_.Round)) && (decide (a1.Type_.Over = b1.Type_.Over)))) && r1) && r2) && r3)))]) ⟨rfl, trivial⟩ ?_
 refine c_ret ?_
 obtain rfl := some_inj h
 exact q_ret (vs := [(vb (((((((decide (a1.Op = b1.Op)) && (decide (a1.Name = b1.Name))) && ((decide (a1.Val.N = b1.Val.N)) && (decide (a1.Val.D = b1.Val.D)))) && ((decide (a1.Type_.Kind = b1.Type_.Kind)) && (decide (a1.Type_.Bits = b1.Type_.Bits)) && (decide (a1.Type_.Frac = b1.Type_.Frac)) && (decide (a1.Type_.Round = b1.Type_.Round)) && (decide (a1.Type_.Over = b1.Type_.Over)))) && r1) && r2) && r3))]) Tryz.results20 ⟨ev_tmp rfl rfl, trivial⟩ (fq hI trivial)
theorem c_base_Expr_r (n : Nat) : ∀ (F : NP) (w0 : World) (hF : ∀ k, F k → k < w0.heap.size) (a1 : GExpr) (b1 : GExpr) (a2 : Option Addr) (c1 : Nat) (a3 : Option Addr) (c2 : Nat) (a4 : Option Addr) (c3 : Nat) (a5 : Option Addr) (c4 : Nat) (a6 : Option Addr) (c5 : Nat) (a7 : Option Addr) (c6 : Nat) (hc : AllCl [Cl.sl cGMono a2 c1 a1.Lin.L, Cl.sl cGIndex a3 c2 a1.Idx, Cl.sl cGExpr a4 c3 a1.Args, Cl.sl cGMono a5 c4 b1.Lin.L, Cl.sl cGIndex a6 c5 b1.Idx, Cl.sl cGExpr a7 c6 b1.Args] F w0) (r : Bool) (h : m_base_Expr_r n a1 b1 = some r), Calls Tryz.prog 20 #[(Value.agg #[vi a1.Op, (str a1.Name), vi a1.Val.N, vi a1.Val.D, vi a1.Type_.Kind, vi a1.Type_.Bits, vi a1.Type_.Frac, vi a1.Type_.Round, vi a1.Type_.Over, vi a1.Lin.K, vs a2 a1.Lin.L.length c1, vs a3 a1.Idx.length c2, vs a4 a1.Args.length c3]), (Value.agg #[vi b1.Op, (str b1.Name), vi b1.Val.N, vi b1.Val.D, vi b1.Type_.Kind, vi b1.Type_.Bits, vi b1.Type_.Frac, vi b1.Type_.Round, vi b1.Type_.Over, vi b1.Lin.K, vs a5 b1.Lin.L.length c4, vs a6 b1.Idx.length c5, vs a7 b1.Args.length c6])] w0 fun e w => e = .returned (vb r) ∧ Ext w0 w ∧ AllCl [] F w := by
 induction n with
 | zero => intro F w0 hF a1 b1 a2 c1 a3 c2 a4 c3 a5 c4 a6 c5 a7 c6 hc r h; cases h
 | succ n ih => intro F w0 hF a1 b1 a2 c1 a3 c2 a4 c3 a5 c4 a6 c5 a7 c6 hc r h; exact c_base_Expr_b (m_base_Expr_r n) ih F w0 hF a1 b1 a2 c1 a3 c2 a4 c3 a5 c4 a6 c5 a7 c6 hc r h
theorem c_base_Expr (F : NP) (w0 : World) (hF : ∀ k, F k → k < w0.heap.size) (a1 : GExpr) (b1 : GExpr) (a2 : Option Addr) (c1 : Nat) (a3 : Option Addr) (c2 : Nat) (a4 : Option Addr) (c3 : Nat) (a5 : Option Addr) (c4 : Nat) (a6 : Option Addr) (c5 : Nat) (a7 : Option Addr) (c6 : Nat) (hc : AllCl [Cl.sl cGMono a2 c1 a1.Lin.L, Cl.sl cGIndex a3 c2 a1.Idx, Cl.sl cGExpr a4 c3 a1.Args, Cl.sl cGMono a5 c4 b1.Lin.L, Cl.sl cGIndex a6 c5 b1.Idx, Cl.sl cGExpr a7 c6 b1.Args] F w0) (r : Bool) (h : m_base_Expr a1 b1 = some r) : Calls Tryz.prog 20 #[(Value.agg #[vi a1.Op, (str a1.Name), vi a1.Val.N, vi a1.Val.D, vi a1.Type_.Kind, vi a1.Type_.Bits, vi a1.Type_.Frac, vi a1.Type_.Round, vi a1.Type_.Over, vi a1.Lin.K, vs a2 a1.Lin.L.length c1, vs a3 a1.Idx.length c2, vs a4 a1.Args.length c3]), (Value.agg #[vi b1.Op, (str b1.Name), vi b1.Val.N, vi b1.Val.D, vi b1.Type_.Kind, vi b1.Type_.Bits, vi b1.Type_.Frac, vi b1.Type_.Round, vi b1.Type_.Over, vi b1.Lin.K, vs a5 b1.Lin.L.length c4, vs a6 b1.Idx.length c5, vs a7 b1.Args.length c6])] w0 fun e w => e = .returned (vb r) ∧ Ext w0 w ∧ AllCl [] F w := c_base_Expr_r fu F w0 hF a1 b1 a2 c1 a3 c2 a4 c3 a5 c4 a6 c5 a7 c6 hc r h
theorem c_law15_PrinterDistinct (F : NP) (w0 : World) (hF : ∀ k, F k → k < w0.heap.size) (a1 : GExpr) (b1 : GExpr) (a2 : Option Addr) (c1 : Nat) (a3 : Option Addr) (c2 : Nat) (a4 : Option Addr) (c3 : Nat) (a5 : Option Addr) (c4 : Nat) (a6 : Option Addr) (c5 : Nat) (a7 : Option Addr) (c6 : Nat) (hc : AllCl [Cl.sl cGMono a2 c1 a1.Lin.L, Cl.sl cGIndex a3 c2 a1.Idx, Cl.sl cGExpr a4 c3 a1.Args, Cl.sl cGMono a5 c4 b1.Lin.L, Cl.sl cGIndex a6 c5 b1.Idx, Cl.sl cGExpr a7 c6 b1.Args, clPow10, clSpace] F w0) (r : Bool)
  (h : m_law15_PrinterDistinct a1 b1 = some r) :
  Calls Tryz.prog 6 #[(Value.agg #[vi a1.Op, (str a1.Name), vi a1.Val.N, vi a1.Val.D, vi a1.Type_.Kind, vi a1.Type_.Bits, vi a1.Type_.Frac, vi a1.Type_.Round, vi a1.Type_.Over, vi a1.Lin.K, vs a2 a1.Lin.L.length c1, vs a3 a1.Idx.length c2, vs a4 a1.Args.length c3]), (Value.agg #[vi b1.Op, (str b1.Name), vi b1.Val.N, vi b1.Val.D, vi b1.Type_.Kind, vi b1.Type_.Bits, vi b1.Type_.Frac, vi b1.Type_.Round, vi b1.Type_.Over, vi b1.Lin.K, vs a5 b1.Lin.L.length c4, vs a6 b1.Idx.length c5, vs a7 b1.Args.length c6])] w0 fun e w => e = .returned (vb r) ∧ Ext w0 w ∧ AllCl [] F w := by
 refine enterK Tryz.func6 rfl Tryz.ntmps6 rfl ?_
 have hI := Bun.start hF hc
 clear hc
 rw [m_law15_PrinterDistinct] at h
 refine sr (l_box (v := (Value.agg #[vi a1.Op, (str a1.Name), vi a1.Val.N, vi a1.Val.D, vi a1.Type_.Kind, vi a1.Type_.Bits, vi a1.Type_.Frac, vi a1.Type_.Round, vi a1.Type_.Over, vi a1.Lin.K, vs a2 a1.Lin.L.length c1, vs a3 a1.Idx.length c2, vs a4 a1.Args.length c3])) (cs := #[vi a1.Op, (str a1.Name), vi a1.Val.N, vi a1.Val.D, vi a1.Type_.Kind, vi a1.Type_.Bits, vi a1.Type_.Frac, vi a1.Type_.Round, vi a1.Type_.Over, vi a1.Lin.K, vs a2 a1.Lin.L.length c1, vs a3 a1.Idx.length c2, vs a4 a1.Args.length c3]) hI gn rfl rfl et rfl ?_)
 clear hI; intro b2 c7 w1 hI
 obtain ⟨c8, hI⟩ := hI.relBox .z
 refine l_box (v := (Value.agg #[vi b1.Op, (str b1.Name), vi b1.Val.N, vi b1.Val.D, vi b1.Type_.Kind, vi b1.Type_.Bits, vi b1.Type_.Frac, vi b1.Type_.Round, vi b1.Type_.Over, vi b1.Lin.K, vs a5 b1.Lin.L.length c4, vs a6 b1.Idx.length c5, vs a7 b1.Args.length c6])) (cs := #[vi b1.Op, (str b1.Name), vi b1.Val.N, vi b1.Val.D, vi b1.Type_.Kind, vi b1.Type_.Bits, vi b1.Type_.Frac, vi b1.Type_.Round, vi b1.Type_.Over, vi b1.Lin.K, vs a5 b1.Lin.L.length c4, vs a6 b1.Idx.length c5, vs a7 b1.Args.length c6]) hI gn rfl rfl et rfl ?_
 clear hI; intro b3 c9 w2 hI
 obtain ⟨c10, hI⟩ := hI.relBox .z
 refine sac ?_
 refine nk (c_seq (sr (sq (y_loadN (l := [vi a1.Op, (str a1.Name), vi a1.Val.N, vi a1.Val.D, vi a1.Type_.Kind, vi a1.Type_.Bits, vi a1.Type_.Frac, vi a1.Type_.Round, vi a1.Type_.Over, vi a1.Lin.K, vs a2 a1.Lin.L.length c1, vs a3 a1.Idx.length c2, vs a4 a1.Args.length c3]) rfl et u39 rfl size_39 (hI.kblk (l := [vi a1.Op, (str a1.Name), vi a1.Val.N, vi a1.Val.D, vi a1.Type_.Kind, vi a1.Type_.Bits, vi a1.Type_.Frac, vi a1.Type_.Round, vi a1.Type_.Over, vi a1.Lin.K, vs a2 a1.Lin.L.length c1, vs a3 a1.Idx.length c2, vs a4 a1.Args.length c3]) (.s .z) rfl).1) ?_)))
 obtain ⟨r1, hx1, h⟩ := bnd_some h
 refine s_call gn rfl (r_callF (vs := [(Value.agg #[vi a1.Op, (str a1.Name), vi a1.Val.N, vi a1.Val.D, vi a1.Type_.Kind, vi a1.Type_.Bits, vi a1.Type_.Frac, vi a1.Type_.Round, vi a1.Type_.Over, vi a1.Lin.K, vs a2 a1.Lin.L.length c1, vs a3 a1.Idx.length c2, vs a4 a1.Args.length c3])]) rfl ok_16 ⟨et, trivial⟩) (Calls.mono (c_ref15_Small (Dj F c10) w2 hI.lt a1 a2 c1 a3 c2 a4 c3 ⟨(hI.get (.s (.s .z))), (hI.get (.s (.s (.s .z)))), (hI.get (.s (.s (.s (.s .z))))), trivial⟩ r1 hx1) ?_)
 rintro _ w3 ⟨rfl, hx2, hl1⟩
 refine ⟨_, rfl, ?_⟩
 replace hI := (hI.ext hx2)
 refine sq (y_not rfl et) ?_
 refine sm ?_
 refine s_gval (g_false rfl rfl rfl rfl) rfl (fun hc => (y_loadN (l := [vi b1.Op, (str b1.Name), vi b1.Val.N, vi b1.Val.D, vi b1.Type_.Kind, vi b1.Type_.Bits, vi b1.Type_.Frac, vi b1.Type_.Round, vi b1.Type_.Over, vi b1.Lin.K, vs a5 b1.Lin.L.length c4, vs a6 b1.Idx.length c5, vs a7 b1.Args.length c6]) rfl et u39 rfl size_39 (hI.kblk (l := [vi b1.Op, (str b1.Name), vi b1.Val.N, vi b1.Val.D, vi b1.Type_.Kind, vi b1.Type_.Bits, vi b1.Type_.Frac, vi b1.Type_.Round, vi b1.Type_.Over, vi b1.Lin.K, vs a5 b1.Lin.L.length c4, vs a6 b1.Idx.length c5, vs a7 b1.Args.length c6]) .z rfl).1)) ?_
 obtain ⟨r2, hx3, h⟩ := bnd_some h
 replace hx3 := gd_some hx3
 refine s_gcallU (v := (vb r2)) (g_false rfl rfl rfl rfl) rfl (fun hc => (r_callF (vs := [(Value.agg #[vi b1.Op, (str b1.Name), vi b1.Val.N, vi b1.Val.D, vi b1.Type_.Kind, vi b1.Type_.Bits, vi b1.Type_.Frac, vi b1.Type_.Round, vi b1.Type_.Over, vi b1.Lin.K, vs a5 b1.Lin.L.length c4, vs a6 b1.Idx.length c5, vs a7 b1.Args.length c6])]) rfl ok_16 ⟨(ev_gv et hc), trivial⟩)) (fun hc => (c_ref15_Small (Dj F c10) w3 hI.lt b1 a5 c4 a6 c5 a7 c6 ⟨(hI.get (.s (.s (.s (.s (.s .z)))))), (hI.get (.s (.s (.s (.s (.s (.s .z))))))), (hI.get (.s (.s (.s (.s (.s (.s (.s .z)))))))), trivial⟩ r2 (hx3 hc)).mono fun _ _ k => ⟨k.1, k.2.1⟩) ?_
 intro w4 hx4; replace hI := hI.ext hx4
 refine s_gval (g_false rfl rfl rfl rfl) rfl (fun hc => y_not rfl (ev_gv et hc)) ?_
 refine sq (y_or rfl et et) ?_
 refine sm ?_
 refine s_gval (g_false rfl rfl rfl rfl) rfl (fun hc => (y_loadN (l := [vi a1.Op, (str a1.Name), vi a1.Val.N, vi a1.Val.D, vi a1.Type_.Kind, vi a1.Type_.Bits, vi a1.Type_.Frac, vi a1.Type_.Round, vi a1.Type_.Over, vi a1.Lin.K, vs a2 a1.Lin.L.length c1, vs a3 a1.Idx.length c2, vs a4 a1.Args.length c3]) rfl et u39 rfl size_39 (hI.kblk (l := [vi a1.Op, (str a1.Name), vi a1.Val.N, vi a1.Val.D, vi a1.Type_.Kind, vi a1.Type_.Bits, vi a1.Type_.Frac, vi a1.Type_.Round, vi a1.Type_.Over, vi a1.Lin.K, vs a2 a1.Lin.L.length c1, vs a3 a1.Idx.length c2, vs a4 a1.Args.length c3]) (.s .z) rfl).1)) ?_
 obtain ⟨r3, hx5, h⟩ := bnd_some h
 replace hx5 := gd_some hx5
 refine s_gcallU (v := (vi r3)) (g_false rfl rfl rfl rfl) rfl (fun hc => (r_callF (vs := [(Value.agg #[vi a1.Op, (str a1.Name), vi a1.Val.N, vi a1.Val.D, vi a1.Type_.Kind, vi a1.Type_.Bits, vi a1.Type_.Frac, vi a1.Type_.Round, vi a1.Type_.Over, vi a1.Lin.K, vs a2 a1.Lin.L.length c1, vs a3 a1.Idx.length c2, vs a4 a1.Args.length c3])]) rfl ok_19 ⟨(ev_gv et hc), trivial⟩)) (fun hc => (c_ref14_Validate (Dj F c10) w4 hI.lt a1 a2 c1 a3 c2 a4 c3 ⟨(hI.get (.s (.s .z))), (hI.get (.s (.s (.s .z)))), (hI.get (.s (.s (.s (.s .z))))), trivial⟩ r3 (hx5 hc)).mono fun _ _ k => ⟨k.1, k.2.1⟩) ?_
 intro w5 hx6; replace hI := hI.ext hx6
 refine s_gval (g_false rfl rfl rfl rfl) rfl (fun hc => y_neq rfl (ev_gv et hc) ev_const) ?_
 refine sq (y_or rfl et et) ?_
 refine sm ?_
 refine s_gval (g_false rfl rfl rfl rfl) rfl (fun hc => (y_loadN (l := [vi b1.Op, (str b1.Name), vi b1.Val.N, vi b1.Val.D, vi b1.Type_.Kind, vi b1.Type_.Bits, vi b1.Type_.Frac, vi b1.Type_.Round, vi b1.Type_.Over, vi b1.Lin.K, vs a5 b1.Lin.L.length c4, vs a6 b1.Idx.length c5, vs a7 b1.Args.length c6]) rfl et u39 rfl size_39 (hI.kblk (l := [vi b1.Op, (str b1.Name), vi b1.Val.N, vi b1.Val.D, vi b1.Type_.Kind, vi b1.Type_.Bits, vi b1.Type_.Frac, vi b1.Type_.Round, vi b1.Type_.Over, vi b1.Lin.K, vs a5 b1.Lin.L.length c4, vs a6 b1.Idx.length c5, vs a7 b1.Args.length c6]) .z rfl).1)) ?_
 obtain ⟨r4, hx7, h⟩ := bnd_some h
 replace hx7 := gd_some hx7
 refine s_gcallU (v := (vi r4)) (g_false rfl rfl rfl rfl) rfl (fun hc => (r_callF (vs := [(Value.agg #[vi b1.Op, (str b1.Name), vi b1.Val.N, vi b1.Val.D, vi b1.Type_.Kind, vi b1.Type_.Bits, vi b1.Type_.Frac, vi b1.Type_.Round, vi b1.Type_.Over, vi b1.Lin.K, vs a5 b1.Lin.L.length c4, vs a6 b1.Idx.length c5, vs a7 b1.Args.length c6])]) rfl ok_19 ⟨(ev_gv et hc), trivial⟩)) (fun hc => (c_ref14_Validate (Dj F c10) w5 hI.lt b1 a5 c4 a6 c5 a7 c6 ⟨(hI.get (.s (.s (.s (.s (.s .z)))))), (hI.get (.s (.s (.s (.s (.s (.s .z))))))), (hI.get (.s (.s (.s (.s (.s (.s (.s .z)))))))), trivial⟩ r4 (hx7 hc)).mono fun _ _ k => ⟨k.1, k.2.1⟩) ?_
 intro w6 hx8; replace hI := hI.ext hx8
 refine s_gval (g_false rfl rfl rfl rfl) rfl (fun hc => y_neq rfl (ev_gv et hc) ev_const) ?_
 refine sq (y_or rfl et et) ?_
 refine nk (cif h et (fun hb h => ?_) (fun hb h => ?_))
 ·refine sr ?_
  obtain ⟨r5, hx9, h⟩ := bnd_some h
  refine s_call gn rfl (r_callF (vs := []) rfl ok_12 trivial) (Calls.mono (c_law15_alive (Dj F c10) w6 hI.lt ⟨(hI.get (.s (.s (.s (.s (.s (.s (.s (.s .z))))))))), (hI.get (.s (.s (.s (.s (.s (.s (.s (.s (.s .z)))))))))), trivial⟩ r5 hx9) ?_)
  rintro _ w7 ⟨rfl, hx10, hl5⟩
  refine ⟨_, rfl, ?_⟩
  replace hI := (hI.ext hx10)
  refine sa ?_
  refine nk (c_ret ?_)
  obtain rfl := some_inj h
  exact q_ret (vs := [vb r5]) Tryz.results6 ⟨ev_tmp rfl rfl, trivial⟩ (fq hI trivial)
 refine c_skip (k_same (c_seq (c_drawX [] false (.c (0, .q) (.c (2, .q) (.c (5, .q) (.c (6, .q) (.c (1, .s) (.c (3, .s) (.c (4, .q) (.c (7, .s) (.c (8, .q) (.c (9, .q) (.c (10, .s) (.c (11, .q) (.c (12, .q) .n))))))))))))) hI (by kernel_rfl) (by kernel_rfl) ?_)))
 clear hI; intro w8 hI
 refine a_read rfl gn rfl (fun w' hw' => (y_loadN (l := [vi a1.Op, (str a1.Name), vi a1.Val.N, vi a1.Val.D, vi a1.Type_.Kind, vi a1.Type_.Bits, vi a1.Type_.Frac, vi a1.Type_.Round, vi a1.Type_.Over, vi a1.Lin.K, vs a2 a1.Lin.L.length c1, vs a3 a1.Idx.length c2, vs a4 a1.Args.length c3]) rfl et u39 rfl size_39 ((hI.kblk (l := [vi a1.Op, (str a1.Name), vi a1.Val.N, vi a1.Val.D, vi a1.Type_.Kind, vi a1.Type_.Bits, vi a1.Type_.Frac, vi a1.Type_.Round, vi a1.Type_.Over, vi a1.Lin.K, vs a2 a1.Lin.L.length c1, vs a3 a1.Idx.length c2, vs a4 a1.Args.length c3]) (.s .z) rfl).at_ (SX.any rfl hw')))) (by kernel_rfl) ?_
 refine a_read rfl gn rfl (fun w' hw' => (y_loadN (l := [vi b1.Op, (str b1.Name), vi b1.Val.N, vi b1.Val.D, vi b1.Type_.Kind, vi b1.Type_.Bits, vi b1.Type_.Frac, vi b1.Type_.Round, vi b1.Type_.Over, vi b1.Lin.K, vs a5 b1.Lin.L.length c4, vs a6 b1.Idx.length c5, vs a7 b1.Args.length c6]) rfl et u39 rfl size_39 ((hI.kblk (l := [vi b1.Op, (str b1.Name), vi b1.Val.N, vi b1.Val.D, vi b1.Type_.Kind, vi b1.Type_.Bits, vi b1.Type_.Frac, vi b1.Type_.Round, vi b1.Type_.Over, vi b1.Lin.K, vs a5 b1.Lin.L.length c4, vs a6 b1.Idx.length c5, vs a7 b1.Args.length c6]) .z rfl).at_ (SX.any rfl hw')))) (by kernel_rfl) ?_
 refine a_read rfl gn rfl (fun w' hw' => (y_loadN (l := [vi a1.Op, (str a1.Name), vi a1.Val.N, vi a1.Val.D, vi a1.Type_.Kind, vi a1.Type_.Bits, vi a1.Type_.Frac, vi a1.Type_.Round, vi a1.Type_.Over, vi a1.Lin.K, vs a2 a1.Lin.L.length c1, vs a3 a1.Idx.length c2, vs a4 a1.Args.length c3]) rfl et u39 rfl size_39 ((hI.kblk (l := [vi a1.Op, (str a1.Name), vi a1.Val.N, vi a1.Val.D, vi a1.Type_.Kind, vi a1.Type_.Bits, vi a1.Type_.Frac, vi a1.Type_.Round, vi a1.Type_.Over, vi a1.Lin.K, vs a2 a1.Lin.L.length c1, vs a3 a1.Idx.length c2, vs a4 a1.Args.length c3]) (.s .z) rfl).at_ (SX.any rfl hw')))) (by kernel_rfl) ?_
 refine a_read rfl gn rfl (fun w' hw' => (y_loadN (l := [vi b1.Op, (str b1.Name), vi b1.Val.N, vi b1.Val.D, vi b1.Type_.Kind, vi b1.Type_.Bits, vi b1.Type_.Frac, vi b1.Type_.Round, vi b1.Type_.Over, vi b1.Lin.K, vs a5 b1.Lin.L.length c4, vs a6 b1.Idx.length c5, vs a7 b1.Args.length c6]) rfl et u39 rfl size_39 ((hI.kblk (l := [vi b1.Op, (str b1.Name), vi b1.Val.N, vi b1.Val.D, vi b1.Type_.Kind, vi b1.Type_.Bits, vi b1.Type_.Frac, vi b1.Type_.Round, vi b1.Type_.Over, vi b1.Lin.K, vs a5 b1.Lin.L.length c4, vs a6 b1.Idx.length c5, vs a7 b1.Args.length c6]) .z rfl).at_ (SX.any rfl hw')))) (by kernel_rfl) ?_
 obtain ⟨r6, hx11, h⟩ := bnd_some h
 refine la_call rfl gn rfl (r_callF (vs := [(Value.agg #[vi a1.Op, (str a1.Name), vi a1.Val.N, vi a1.Val.D, vi a1.Type_.Kind, vi a1.Type_.Bits, vi a1.Type_.Frac, vi a1.Type_.Round, vi a1.Type_.Over, vi a1.Lin.K, vs a2 a1.Lin.L.length c1, vs a3 a1.Idx.length c2, vs a4 a1.Args.length c3])]) rfl ok_17 ⟨et, trivial⟩) (Calls.mono (c_printer_Expr (Dj F c10) w8 hI.lt a1 a2 c1 a3 c2 a4 c3 ⟨(hI.get (.s (.s .z))), (hI.get (.s (.s (.s .z)))), (hI.get (.s (.s (.s (.s .z))))), (hI.get (.s (.s (.s (.s (.s (.s (.s (.s (.s .z)))))))))), (hI.get (.s (.s (.s (.s (.s (.s (.s (.s .z))))))))), trivial⟩ r6 hx11) ?_)
 rintro _ w9 ⟨rfl, hx12, hl6⟩
 refine ⟨_, rfl, hx12, ?_⟩
 replace hI := (hI.ext hx12)
 obtain ⟨r7, hx13, h⟩ := bnd_some h
 refine la_call rfl gn rfl (r_callF (vs := [(Value.agg #[vi b1.Op, (str b1.Name), vi b1.Val.N, vi b1.Val.D, vi b1.Type_.Kind, vi b1.Type_.Bits, vi b1.Type_.Frac, vi b1.Type_.Round, vi b1.Type_.Over, vi b1.Lin.K, vs a5 b1.Lin.L.length c4, vs a6 b1.Idx.length c5, vs a7 b1.Args.length c6])]) rfl ok_17 ⟨et, trivial⟩) (Calls.mono (c_printer_Expr (Dj F c10) w9 hI.lt b1 a5 c4 a6 c5 a7 c6 ⟨(hI.get (.s (.s (.s (.s (.s .z)))))), (hI.get (.s (.s (.s (.s (.s (.s .z))))))), (hI.get (.s (.s (.s (.s (.s (.s (.s .z)))))))), (hI.get (.s (.s (.s (.s (.s (.s (.s (.s (.s .z)))))))))), (hI.get (.s (.s (.s (.s (.s (.s (.s (.s .z))))))))), trivial⟩ r7 hx13) ?_)
 rintro _ w10 ⟨rfl, hx14, hl7⟩
 refine ⟨_, rfl, hx14, ?_⟩
 replace hI := (hI.ext hx14)
 refine a_q rfl gn rfl (fun w' => y_eqs rfl et et) ?_
 obtain ⟨r8, hx15, h⟩ := bnd_some h
 refine la_call rfl gn rfl (r_callF (vs := [(Value.agg #[vi a1.Op, (str a1.Name), vi a1.Val.N, vi a1.Val.D, vi a1.Type_.Kind, vi a1.Type_.Bits, vi a1.Type_.Frac, vi a1.Type_.Round, vi a1.Type_.Over, vi a1.Lin.K, vs a2 a1.Lin.L.length c1, vs a3 a1.Idx.length c2, vs a4 a1.Args.length c3]), (Value.agg #[vi b1.Op, (str b1.Name), vi b1.Val.N, vi b1.Val.D, vi b1.Type_.Kind, vi b1.Type_.Bits, vi b1.Type_.Frac, vi b1.Type_.Round, vi b1.Type_.Over, vi b1.Lin.K, vs a5 b1.Lin.L.length c4, vs a6 b1.Idx.length c5, vs a7 b1.Args.length c6])]) rfl ok_20 ⟨et, ⟨et, trivial⟩⟩) (Calls.mono (c_base_Expr (Dj F c10) w10 hI.lt a1 b1 a2 c1 a3 c2 a4 c3 a5 c4 a6 c5 a7 c6 ⟨(hI.get (.s (.s .z))), (hI.get (.s (.s (.s .z)))), (hI.get (.s (.s (.s (.s .z))))), (hI.get (.s (.s (.s (.s (.s .z)))))), (hI.get (.s (.s (.s (.s (.s (.s .z))))))), (hI.get (.s (.s (.s (.s (.s (.s (.s .z)))))))), trivial⟩ r8 hx15) ?_)
 rintro _ w11 ⟨rfl, hx16, hl8⟩
 refine ⟨_, rfl, hx16, ?_⟩
 replace hI := (hI.ext hx16)
 refine a_q rfl gn rfl (fun w' => y_eqb rfl u4 et et) ?_
 refine a_q rfl gn rfl (fun w' => y_move rfl et) ?_
 obtain ⟨r9, hx17, h⟩ := bnd_some h
 replace hx17 := gd_some hx17
 refine la_gcallU (v := (vb r9)) rfl (g_true rfl rfl rfl rfl) rfl (fun hc => (r_callF (vs := []) rfl ok_12 trivial)) (fun hc => (c_law15_alive (Dj F c10) w11 hI.lt ⟨(hI.get (.s (.s (.s (.s (.s (.s (.s (.s .z))))))))), (hI.get (.s (.s (.s (.s (.s (.s (.s (.s (.s .z)))))))))), trivial⟩ r9 (hx17 hc)).mono fun _ _ k => ⟨k.1, k.2.1⟩) ?_
 intro w12 hx18; replace hI := hI.ext hx18
 refine a_q rfl gn rfl (fun w' => y_and rfl et et) ?_
 refine a_q rfl gn rfl (fun w' => y_assign rfl et) ?_
 refine a_nil ?_
 refine k_next (e := [(4, (vb (((decide (r6 = r7)) == r8) && r9)))]) ⟨rfl, trivial⟩ ?_
 refine c_ret ?_
 obtain rfl := some_inj h
 exact q_ret (vs := [(vb (((decide (r6 = r7)) == r8) && r9))]) Tryz.results6 ⟨ev_tmp rfl rfl, trivial⟩ (fq hI trivial)
end Go.Proofs.YtebpdmfmknfkjaaGreatDoor
