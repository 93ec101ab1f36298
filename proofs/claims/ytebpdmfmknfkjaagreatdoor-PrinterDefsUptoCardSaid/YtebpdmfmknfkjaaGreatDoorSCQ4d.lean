import Derived.Test.YtebpdmfmknfkjaaGreatDoorSCQ4c
namespace Go.Proofs.YtebpdmfmknfkjaaGreatDoor
open Go Go.RowKit Go.Vc
set_option maxRecDepth 100000
set_option maxHeartbeats 4000000
set_option linter.unusedVariables false
set_option linter.unusedSimpArgs false
theorem c_printer_fold (F : NP) (w0 : World) (hF : ∀ k, F k → k < w0.heap.size) (d1 : GDef) (a1 : Option Addr) (c1 : Nat) (a2 : Option Addr) (c2 : Nat) (a3 : Option Addr) (c3 : Nat) (a4 : Option Addr) (c4 : Nat) (a5 : Option Addr) (c5 : Nat) (hc : AllCl [Cl.sl cGAxis a1 c1 d1.Dims, Cl.sl cGAxis a2 c2 d1.Red, Cl.sl cGMono a3 c3 d1.Body.Lin.L, Cl.sl cGIndex a4 c4 d1.Body.Idx, Cl.sl cGExpr a5 c5 d1.Body.Args, clPow10] F w0) (r : List UInt8)
  (h : m_printer_fold d1 = some r) :
  Calls Tryz.prog 57 #[(Value.agg #[(str d1.Name), vi d1.Type_.Kind, vi d1.Type_.Bits, vi d1.Type_.Frac, vi d1.Type_.Round, vi d1.Type_.Over, vs a1 d1.Dims.length c1, vs a2 d1.Red.length c2, vi d1.Fold, vi d1.Body.Op, (str d1.Body.Name), vi d1.Body.Val.N, vi d1.Body.Val.D, vi d1.Body.Type_.Kind, vi d1.Body.Type_.Bits, vi d1.Body.Type_.Frac, vi d1.Body.Type_.Round, vi d1.Body.Type_.Over, vi d1.Body.Lin.K, vs a3 d1.Body.Lin.L.length c3, vs a4 d1.Body.Idx.length c4, vs a5 d1.Body.Args.length c5])] w0 fun e w => e = .returned (str r) ∧ Ext w0 w ∧ AllCl [] F w := by
 refine enterK Tryz.func57 rfl Tryz.ntmps57 rfl ?_
 have hI := Bun.start hF hc
 clear hc
 rw [m_printer_fold] at h
 refine sr (l_box (v := (Value.agg #[(str d1.Name), vi d1.Type_.Kind, vi d1.Type_.Bits, vi d1.Type_.Frac, vi d1.Type_.Round, vi d1.Type_.Over, vs a1 d1.Dims.length c1, vs a2 d1.Red.length c2, vi d1.Fold, vi d1.Body.Op, (str d1.Body.Name), vi d1.Body.Val.N, vi d1.Body.Val.D, vi d1.Body.Type_.Kind, vi d1.Body.Type_.Bits, vi d1.Body.Type_.Frac, vi d1.Body.Type_.Round, vi d1.Body.Type_.Over, vi d1.Body.Lin.K, vs a3 d1.Body.Lin.L.length c3, vs a4 d1.Body.Idx.length c4, vs a5 d1.Body.Args.length c5])) (cs := #[(str d1.Name), vi d1.Type_.Kind, vi d1.Type_.Bits, vi d1.Type_.Frac, vi d1.Type_.Round, vi d1.Type_.Over, vs a1 d1.Dims.length c1, vs a2 d1.Red.length c2, vi d1.Fold, vi d1.Body.Op, (str d1.Body.Name), vi d1.Body.Val.N, vi d1.Body.Val.D, vi d1.Body.Type_.Kind, vi d1.Body.Type_.Bits, vi d1.Body.Type_.Frac, vi d1.Body.Type_.Round, vi d1.Body.Type_.Over, vi d1.Body.Lin.K, vs a3 d1.Body.Lin.L.length c3, vs a4 d1.Body.Idx.length c4, vs a5 d1.Body.Args.length c5]) hI gn rfl rfl et rfl ?_)
 clear hI; intro b1 c6 w1 hI
 obtain ⟨c7, hI⟩ := hI.relBox .z
 refine sac ?_
 refine nk (sr (sac ?_))
 refine nk (c_join (α := (List UInt8)) (fun _ => ⟨34, []⟩) (fun x => [(1, vp b1 0), (3, (str x))]) (fun x => fun w => ∃ C, Bun noM F w0 C w [] [Cl.blk b1 49 #[(str d1.Name), vi d1.Type_.Kind, vi d1.Type_.Bits, vi d1.Type_.Frac, vi d1.Type_.Round, vi d1.Type_.Over, vs a1 d1.Dims.length c1, vs a2 d1.Red.length c2, vi d1.Fold, vi d1.Body.Op, (str d1.Body.Name), vi d1.Body.Val.N, vi d1.Body.Val.D, vi d1.Body.Type_.Kind, vi d1.Body.Type_.Bits, vi d1.Body.Type_.Frac, vi d1.Body.Type_.Round, vi d1.Body.Type_.Over, vi d1.Body.Lin.K, vs a3 d1.Body.Lin.L.length c3, vs a4 d1.Body.Idx.length c4, vs a5 d1.Body.Args.length c5], Cl.sl cGAxis a1 c1 d1.Dims, Cl.sl cGAxis a2 c2 d1.Red, Cl.sl cGMono a3 c3 d1.Body.Lin.L, Cl.sl cGIndex a4 c4 d1.Body.Idx, Cl.sl cGExpr a5 c5 d1.Body.Args, clPow10] ∧ m_printer_fold_j1 d1 x = some r) ?_ ?_)
 ·clear h hI; rintro word1 w2 ⟨c8, hI, h⟩
  try dsimp only at hI h
  rw [m_printer_fold_j1] at h
  refine c_sub (e := [(1, vp b1 0), (3, (str word1))]) ⟨rfl, rfl, trivial⟩ ?_
  refine c_seq (sr (sq (y_fieldAddr rfl et u49 rfl size_47 rfl) ?_))
  refine sq (y_load1 (v := (vs a2 d1.Red.length c2)) rfl et u47 rfl (hI.kblk (l := [vs a2 d1.Red.length c2]) .z rfl).1) ?_
  refine sa ?_
  refine nk (sr (sm ?_))
  refine sq (y_lenl rfl u89 et) ?_
  refine sq (y_gtr rfl et ev_const) ?_
  refine nk (cif h et (fun hb h => ?_) (fun hb h => ?_))
  ·refine c_region rfl ?_
   refine sm ?_
   refine sm ?_
   refine sq (y_lenl rfl u89 et) ?_
   refine sm ?_
   refine sq (y_makeBound (vs := [vs a2 d1.Red.length c2]) rfl rfl ⟨et, trivial⟩) ?_
   have hI := hI.add (c := clFn_k5 (Value.func (.func 56) #[vs a2 d1.Red.length c2] #[]) (m_printer_axes_item d1.Red)) ⟨rfl, fun D' w' hs hl x_1 r k h => CallV.fnB (fs := [vs a2 d1.Red.length c2]) ok_56 (c_printer_axes_item D' w' hl d1.Red x_1 a2 c2 ⟨(Cl.sp _ hs (hI.get (.s (.s .z)))), (Cl.sp _ hs (hI.get (.s (.s (.s (.s (.s (.s .z)))))))), trivial⟩ r h)⟩
   obtain ⟨r1, hx1, h⟩ := bnd_some h
   refine s_call gn rfl (r_callF (vs := [vi (d1.Red.length : Int), (Value.func (.func 56) #[vs a2 d1.Red.length c2] #[])]) rfl ok_38 ⟨et, ⟨et, trivial⟩⟩) (Calls.mono (c_printer_list (Dj F c8) w2 hI.lt (d1.Red.length : Int) (m_printer_axes_item d1.Red) (Value.func (.func 56) #[vs a2 d1.Red.length c2] #[]) ⟨(hI.get .z), trivial⟩ r1 hx1) ?_)
   rintro _ w3 ⟨rfl, hx2, hl1⟩
   refine ⟨_, rfl, ?_⟩
   replace hI := (hI.ext hx2)
   obtain ⟨s1, hx3, h⟩ := bnd_some h
   refine sq (y_catl rfl ev_const et hx3) ?_
   obtain ⟨s2, hx4, h⟩ := bnd_some h
   refine sq (y_catl rfl et et hx4) ?_
   refine sa ?_
   refine nk (sr (sm ?_))
   obtain ⟨s3, hx5, h⟩ := bnd_some h
   refine sq (y_catl rfl et ev_const hx5) ?_
   refine sa ?_
   refine nk (c_ret ?_)
   obtain rfl := some_inj h
   exact q_ret (vs := [(str s3)]) Tryz.results57 ⟨ev_tmp rfl rfl, trivial⟩ (fq hI trivial)
  refine c_skip (k_same (sr (sm ?_)))
  obtain ⟨s4, hx6, h⟩ := bnd_some h
  refine sq (y_catl rfl et ev_const hx6) ?_
  refine sa ?_
  refine nk (c_ret ?_)
  obtain rfl := some_inj h
  exact q_ret (vs := [(str s4)]) Tryz.results57 ⟨ev_tmp rfl rfl, trivial⟩ (fq hI trivial)
 refine sr (sq (y_fieldAddr rfl et u49 rfl size_3 rfl) ?_)
 refine sq (y_load1 (v := (vi d1.Fold)) rfl et u3 rfl (hI.kblk (l := [vi d1.Fold]) .z rfl).1) ?_
 refine nk (c_block (sr (sq (y_eql rfl et ev_const) ?_)))
 refine sa ?_
 refine nk (cif h et (fun hb h => ?_) (fun hb h => ?_))
 ·refine sr (sac ?_)
  refine nk (c_ret ?_)
  obtain rfl := some_inj h
  exact q_ret (vs := [(str ([] : List UInt8))]) Tryz.results57 ⟨ev_tmp rfl rfl, trivial⟩ (fq hI trivial)
 refine sr (sq (y_eql rfl et ev_const) ?_)
 refine sa ?_
 refine nk (cif h et (fun hb h => ?_) (fun hb h => ?_))
 ·refine c_region rfl ?_
  obtain ⟨word2, hx7, h⟩ := bnd_some h
  refine sq (binU (y_assign rfl ev_const) (congrArg (fun l => str l) (some_inj hx7))) ?_
  refine s_nil ?_
  exact k_join word2 ⟨rfl, rfl, trivial⟩ ⟨_, hI.arr .n ⟨.z, (.s .z), (.s (.s .z)), (.s (.s (.s .z))), (.s (.s (.s (.s .z)))), (.s (.s (.s (.s (.s .z))))), (.s (.s (.s (.s (.s (.s .z)))))), trivial⟩, h⟩ rfl
 refine sr (sq (y_eql rfl et ev_const) ?_)
 refine sa ?_
 refine nk (cif h et (fun hb h => ?_) (fun hb h => ?_))
 ·refine c_region rfl ?_
  obtain ⟨word3, hx8, h⟩ := bnd_some h
  refine sq (binU (y_assign rfl ev_const) (congrArg (fun l => str l) (some_inj hx8))) ?_
  refine s_nil ?_
  exact k_join word3 ⟨rfl, rfl, trivial⟩ ⟨_, hI.arr .n ⟨.z, (.s .z), (.s (.s .z)), (.s (.s (.s .z))), (.s (.s (.s (.s .z)))), (.s (.s (.s (.s (.s .z))))), (.s (.s (.s (.s (.s (.s .z)))))), trivial⟩, h⟩ rfl
 refine sr (sq (y_eql rfl et ev_const) ?_)
 refine sa ?_
 refine nk (cif h et (fun hb h => ?_) (fun hb h => ?_))
 ·refine c_region rfl ?_
  obtain ⟨word4, hx9, h⟩ := bnd_some h
  refine sq (binU (y_assign rfl ev_const) (congrArg (fun l => str l) (some_inj hx9))) ?_
  refine s_nil ?_
  exact k_join word4 ⟨rfl, rfl, trivial⟩ ⟨_, hI.arr .n ⟨.z, (.s .z), (.s (.s .z)), (.s (.s (.s .z))), (.s (.s (.s (.s .z)))), (.s (.s (.s (.s (.s .z))))), (.s (.s (.s (.s (.s (.s .z)))))), trivial⟩, h⟩ rfl
 refine sr (sq (y_eql rfl et ev_const) ?_)
 refine sa ?_
 refine nk (cif h et (fun hb h => ?_) (fun hb h => ?_))
 ·refine c_region rfl ?_
  obtain ⟨word5, hx10, h⟩ := bnd_some h
  refine sq (binU (y_assign rfl ev_const) (congrArg (fun l => str l) (some_inj hx10))) ?_
  refine s_nil ?_
  exact k_join word5 ⟨rfl, rfl, trivial⟩ ⟨_, hI.arr .n ⟨.z, (.s .z), (.s (.s .z)), (.s (.s (.s .z))), (.s (.s (.s (.s .z)))), (.s (.s (.s (.s (.s .z))))), (.s (.s (.s (.s (.s (.s .z)))))), trivial⟩, h⟩ rfl
 refine sr (sq (y_eql rfl et ev_const) ?_)
 refine sa ?_
 refine nk (cif h et (fun hb h => ?_) (fun hb h => ?_))
 ·refine c_region rfl ?_
  obtain ⟨word6, hx11, h⟩ := bnd_some h
  refine sq (binU (y_assign rfl ev_const) (congrArg (fun l => str l) (some_inj hx11))) ?_
  refine s_nil ?_
  exact k_join word6 ⟨rfl, rfl, trivial⟩ ⟨_, hI.arr .n ⟨.z, (.s .z), (.s (.s .z)), (.s (.s (.s .z))), (.s (.s (.s (.s .z)))), (.s (.s (.s (.s (.s .z))))), (.s (.s (.s (.s (.s (.s .z)))))), trivial⟩, h⟩ rfl
 exact c_skip (k_join ([] : List UInt8) ⟨rfl, rfl, trivial⟩ ⟨_, hI.arr .n ⟨.z, (.s .z), (.s (.s .z)), (.s (.s (.s .z))), (.s (.s (.s (.s .z)))), (.s (.s (.s (.s (.s .z))))), (.s (.s (.s (.s (.s (.s .z)))))), trivial⟩, h⟩ rfl)
theorem c_printer_Def (F : NP) (w0 : World) (hF : ∀ k, F k → k < w0.heap.size) (d1 : GDef) (a1 : Option Addr) (c1 : Nat) (a2 : Option Addr) (c2 : Nat) (a3 : Option Addr) (c3 : Nat) (a4 : Option Addr) (c4 : Nat) (a5 : Option Addr) (c5 : Nat) (hc : AllCl [Cl.sl cGAxis a1 c1 d1.Dims, Cl.sl cGAxis a2 c2 d1.Red, Cl.sl cGMono a3 c3 d1.Body.Lin.L, Cl.sl cGIndex a4 c4 d1.Body.Idx, Cl.sl cGExpr a5 c5 d1.Body.Args, clSpace, clPow10] F w0) (r : List UInt8)
  (h : m_printer_Def d1 = some r) :
  Calls Tryz.prog 22 #[(Value.agg #[(str d1.Name), vi d1.Type_.Kind, vi d1.Type_.Bits, vi d1.Type_.Frac, vi d1.Type_.Round, vi d1.Type_.Over, vs a1 d1.Dims.length c1, vs a2 d1.Red.length c2, vi d1.Fold, vi d1.Body.Op, (str d1.Body.Name), vi d1.Body.Val.N, vi d1.Body.Val.D, vi d1.Body.Type_.Kind, vi d1.Body.Type_.Bits, vi d1.Body.Type_.Frac, vi d1.Body.Type_.Round, vi d1.Body.Type_.Over, vi d1.Body.Lin.K, vs a3 d1.Body.Lin.L.length c3, vs a4 d1.Body.Idx.length c4, vs a5 d1.Body.Args.length c5])] w0 fun e w => e = .returned (str r) ∧ Ext w0 w ∧ AllCl [] F w := by
 refine enterK Tryz.func22 rfl Tryz.ntmps22 rfl ?_
 have hI := Bun.start hF hc
 clear hc
 rw [m_printer_Def] at h
 refine sr (l_box (v := (Value.agg #[(str d1.Name), vi d1.Type_.Kind, vi d1.Type_.Bits, vi d1.Type_.Frac, vi d1.Type_.Round, vi d1.Type_.Over, vs a1 d1.Dims.length c1, vs a2 d1.Red.length c2, vi d1.Fold, vi d1.Body.Op, (str d1.Body.Name), vi d1.Body.Val.N, vi d1.Body.Val.D, vi d1.Body.Type_.Kind, vi d1.Body.Type_.Bits, vi d1.Body.Type_.Frac, vi d1.Body.Type_.Round, vi d1.Body.Type_.Over, vi d1.Body.Lin.K, vs a3 d1.Body.Lin.L.length c3, vs a4 d1.Body.Idx.length c4, vs a5 d1.Body.Args.length c5])) (cs := #[(str d1.Name), vi d1.Type_.Kind, vi d1.Type_.Bits, vi d1.Type_.Frac, vi d1.Type_.Round, vi d1.Type_.Over, vs a1 d1.Dims.length c1, vs a2 d1.Red.length c2, vi d1.Fold, vi d1.Body.Op, (str d1.Body.Name), vi d1.Body.Val.N, vi d1.Body.Val.D, vi d1.Body.Type_.Kind, vi d1.Body.Type_.Bits, vi d1.Body.Type_.Frac, vi d1.Body.Type_.Round, vi d1.Body.Type_.Over, vi d1.Body.Lin.K, vs a3 d1.Body.Lin.L.length c3, vs a4 d1.Body.Idx.length c4, vs a5 d1.Body.Args.length c5]) hI gn rfl rfl et rfl ?_)
 clear hI; intro b1 c6 w1 hI
 obtain ⟨c7, hI⟩ := hI.relBox .z
 refine sac ?_
 refine nk (c_seq (c_drawX [] false (.c (0, .q) (.c (1, .q) (.c (2, .q) (.c (3, .q) (.c (4, .q) (.c (5, .q) .n)))))) hI (by kernel_rfl) (by kernel_rfl) ?_))
 clear hI; intro w2 hI
 refine a_q rfl gn rfl (fun w' => y_fieldAddr rfl et u49 rfl size_47 rfl) ?_
 refine a_read rfl gn rfl (fun w' hw' => (y_load1 (v := (vs a1 d1.Dims.length c1)) rfl et u47 rfl ((hI.kblk (l := [vs a1 d1.Dims.length c1]) .z rfl).at_ (SX.any rfl hw')))) (by kernel_rfl) ?_
 refine a_q rfl gn rfl (fun w' => y_fieldAddr rfl et u49 rfl size_47 rfl) ?_
 refine a_read rfl gn rfl (fun w' hw' => (y_load1 (v := (vs a2 d1.Red.length c2)) rfl et u47 rfl ((hI.kblk (l := [vs a2 d1.Red.length c2]) .z rfl).at_ (SX.any rfl hw')))) (by kernel_rfl) ?_
 refine a_q rfl gn rfl (fun w' => y_assign rfl et) ?_
 refine a_q rfl gn rfl (fun w' => y_assign rfl et) ?_
 refine a_nil ?_
 refine k_same (c_seq (c_block (sr (sq (y_fieldAddr rfl et u49 rfl size_9 rfl) ?_))))
 refine sq (y_load1 (v := (str d1.Name)) rfl et u9 rfl (hI.kblk (l := [(str d1.Name)]) .z rfl).1) ?_
 obtain ⟨r1, hx1, h⟩ := bnd_some h
 refine s_call gn rfl (r_callF (vs := [(str d1.Name)]) rfl ok_37 ⟨et, trivial⟩) (Calls.mono (c_lexer_IsName (Dj F c7) w2 hI.lt d1.Name ⟨(hI.get (.s (.s (.s (.s (.s (.s .z))))))), trivial⟩ r1 hx1) ?_)
 rintro _ w3 ⟨rfl, hx2, hl1⟩
 refine ⟨_, rfl, ?_⟩
 replace hI := (hI.ext hx2)
 refine sq (y_not rfl et) ?_
 refine sm ?_
 refine s_gval (g_false rfl rfl rfl rfl) rfl (fun hc => y_move rfl et) ?_
 obtain ⟨r2, hx3, h⟩ := bnd_some h
 replace hx3 := gd_some hx3
 refine s_gcallU (v := (vb r2)) (g_false rfl rfl rfl rfl) rfl (fun hc => (r_callF (vs := [vs a1 d1.Dims.length c1]) rfl ok_55 ⟨(ev_gv et hc), trivial⟩)) (fun hc => (c_printer_axes_valid (Dj F c7) w3 hI.lt d1.Dims a1 c1 ⟨(hI.get (.s .z)), (hI.get (.s (.s (.s (.s (.s (.s .z))))))), trivial⟩ r2 (hx3 hc)).mono fun _ _ k => ⟨k.1, k.2.1⟩) ?_
 intro w4 hx4; replace hI := hI.ext hx4
 refine s_gval (g_false rfl rfl rfl rfl) rfl (fun hc => y_not rfl (ev_gv et hc)) ?_
 refine sq (y_or rfl et et) ?_
 refine sm ?_
 refine s_gval (g_false rfl rfl rfl rfl) rfl (fun hc => y_move rfl et) ?_
 obtain ⟨r3, hx5, h⟩ := bnd_some h
 replace hx5 := gd_some hx5
 refine s_gcallU (v := (vb r3)) (g_false rfl rfl rfl rfl) rfl (fun hc => (r_callF (vs := [vs a2 d1.Red.length c2]) rfl ok_55 ⟨(ev_gv et hc), trivial⟩)) (fun hc => (c_printer_axes_valid (Dj F c7) w4 hI.lt d1.Red a2 c2 ⟨(hI.get (.s (.s .z))), (hI.get (.s (.s (.s (.s (.s (.s .z))))))), trivial⟩ r3 (hx5 hc)).mono fun _ _ k => ⟨k.1, k.2.1⟩) ?_
 intro w5 hx6; replace hI := hI.ext hx6
 refine s_gval (g_false rfl rfl rfl rfl) rfl (fun hc => y_not rfl (ev_gv et hc)) ?_
 refine sq (y_or rfl et et) ?_
 refine sm ?_
 refine s_gval (g_false rfl rfl rfl rfl) rfl (fun hc => y_fieldAddr rfl et u49 rfl size_23 rfl) ?_
 refine s_gval (g_false rfl rfl rfl rfl) rfl (fun hc => (y_loadN (l := (lType d1.Type_)) rfl (ev_gv et hc) u23 rfl size_23 (hI.kblk (l := (lType d1.Type_)) .z rfl).1)) ?_
 obtain ⟨r4, hx7, h⟩ := bnd_some h
 replace hx7 := gd_some hx7
 refine s_gcallU (v := (vi r4)) (g_false rfl rfl rfl rfl) rfl (fun hc => (r_callF (vs := [(Value.agg (AType d1.Type_))]) rfl ok_28 ⟨(ev_gv et hc), trivial⟩)) (fun hc => (c_value_ValidateType (Dj F c7) w5 hI.lt d1.Type_ trivial r4 (hx7 hc)).mono fun _ _ k => ⟨k.1, k.2.1⟩) ?_
 intro w6 hx8; replace hI := hI.ext hx8
 refine s_gval (g_false rfl rfl rfl rfl) rfl (fun hc => y_neq rfl (ev_gv et hc) ev_const) ?_
 refine sq (y_or rfl et et) ?_
 refine sa ?_
 refine s_nil ?_
 refine k_next (e := [(1, vp b1 0), (3, vs a1 d1.Dims.length c1), (4, vs a2 d1.Red.length c2), (9, (vb ((((!r1) || (!r2)) || (!r3)) || (!decide (r4 = 0)))))]) ⟨rfl, rfl, rfl, rfl, trivial⟩ ?_
 refine cif h et (fun hb h => ?_) (fun hb h => ?_)
 ·refine sr (sac ?_)
  refine nk (c_ret ?_)
  obtain rfl := some_inj h
  exact q_ret (vs := [(str ([] : List UInt8))]) Tryz.results22 ⟨ev_tmp rfl rfl, trivial⟩ (fq hI trivial)
 refine sr (sq (y_fieldAddr rfl et u49 rfl size_3 rfl) ?_)
 refine sq (y_load1 (v := (vi d1.Fold)) rfl et u3 rfl (hI.kblk (l := [vi d1.Fold]) .z rfl).1) ?_
 refine sq (y_lss rfl et ev_const) ?_
 refine sm ?_
 refine s_gval (g_false rfl rfl rfl rfl) rfl (fun hc => y_fieldAddr rfl et u49 rfl size_3 rfl) ?_
 refine s_gval (g_false rfl rfl rfl rfl) rfl (fun hc => (y_load1 (v := (vi d1.Fold)) rfl (ev_gv et hc) u3 rfl (hI.kblk (l := [vi d1.Fold]) .z rfl).1)) ?_
 refine s_gval (g_false rfl rfl rfl rfl) rfl (fun hc => y_gtr rfl (ev_gv et hc) ev_const) ?_
 refine sq (y_or rfl et et) ?_
 refine sm ?_
 refine s_gval (g_false rfl rfl rfl rfl) rfl (fun hc => y_fieldAddr rfl et u49 rfl size_3 rfl) ?_
 refine s_gval (g_false rfl rfl rfl rfl) rfl (fun hc => (y_load1 (v := (vi d1.Fold)) rfl (ev_gv et hc) u3 rfl (hI.kblk (l := [vi d1.Fold]) .z rfl).1)) ?_
 refine s_gval (g_false rfl rfl rfl rfl) rfl (fun hc => y_eql rfl (ev_gv et hc) ev_const) ?_
 refine s_gval (g_false rfl rfl rfl rfl) rfl (fun hc => y_move rfl (ev_gv et hc)) ?_
 refine s_gval (g_false2 rfl rfl rfl rfl) rfl (fun hc => y_fieldAddr rfl et u49 rfl size_3 rfl) ?_
 refine s_gval (g_false2 rfl rfl rfl rfl) rfl (fun hc => (y_load1 (v := (vi d1.Fold)) rfl (ev_gv et hc) u3 rfl (hI.kblk (l := [vi d1.Fold]) .z rfl).1)) ?_
 refine s_gval (g_false2 rfl rfl rfl rfl) rfl (fun hc => y_eql rfl (ev_gv et hc) ev_const) ?_
 refine s_gval (g_false rfl rfl rfl rfl) rfl (fun hc => y_or2 rfl hc et et) ?_
 refine s_gval (g_false rfl rfl rfl rfl) rfl (fun hc => y_move rfl (ev_gv et hc)) ?_
 refine s_gval (g_true2 rfl rfl rfl rfl) rfl (fun hc => y_move rfl et) ?_
 refine s_gval (g_true2 rfl rfl rfl rfl) rfl (fun hc => y_lenl rfl u89 (ev_gv et hc)) ?_
 refine s_gval (g_true2 rfl rfl rfl rfl) rfl (fun hc => y_gtr rfl (ev_gv et hc) ev_const) ?_
 refine s_gval (g_false rfl rfl rfl rfl) rfl (fun hc => y_and2 rfl hc et et) ?_
 refine sq (y_or rfl et et) ?_
 refine sa ?_
 refine s_nil ?_
 refine k_next (e := [(1, vp b1 0), (3, vs a1 d1.Dims.length c1), (30, (vb (((decide (d1.Fold < 0)) || (decide (5 < d1.Fold))) || (((decide (d1.Fold = 0)) || (decide (d1.Fold = 5))) && (decide (0 < (d1.Red.length : Int)))))))]) ⟨rfl, rfl, rfl, trivial⟩ ?_
 refine cif h et (fun hb h => ?_) (fun hb h => ?_)
 ·refine sr (sac ?_)
  refine nk (c_ret ?_)
  obtain rfl := some_inj h
  exact q_ret (vs := [(str ([] : List UInt8))]) Tryz.results22 ⟨ev_tmp rfl rfl, trivial⟩ (fq hI trivial)
 refine sr (sq (y_fieldAddr rfl et u49 rfl size_39 rfl) ?_)
 refine sq (y_loadN (l := [vi d1.Body.Op, (str d1.Body.Name), vi d1.Body.Val.N, vi d1.Body.Val.D, vi d1.Body.Type_.Kind, vi d1.Body.Type_.Bits, vi d1.Body.Type_.Frac, vi d1.Body.Type_.Round, vi d1.Body.Type_.Over, vi d1.Body.Lin.K, vs a3 d1.Body.Lin.L.length c3, vs a4 d1.Body.Idx.length c4, vs a5 d1.Body.Args.length c5]) rfl et u39 rfl size_39 (hI.kblk (l := [vi d1.Body.Op, (str d1.Body.Name), vi d1.Body.Val.N, vi d1.Body.Val.D, vi d1.Body.Type_.Kind, vi d1.Body.Type_.Bits, vi d1.Body.Type_.Frac, vi d1.Body.Type_.Round, vi d1.Body.Type_.Over, vi d1.Body.Lin.K, vs a3 d1.Body.Lin.L.length c3, vs a4 d1.Body.Idx.length c4, vs a5 d1.Body.Args.length c5]) .z rfl).1) ?_
 obtain ⟨r5, hx9, h⟩ := bnd_some h
 refine s_call gn rfl (r_callF (vs := [(Value.agg #[vi d1.Body.Op, (str d1.Body.Name), vi d1.Body.Val.N, vi d1.Body.Val.D, vi d1.Body.Type_.Kind, vi d1.Body.Type_.Bits, vi d1.Body.Type_.Frac, vi d1.Body.Type_.Round, vi d1.Body.Type_.Over, vi d1.Body.Lin.K, vs a3 d1.Body.Lin.L.length c3, vs a4 d1.Body.Idx.length c4, vs a5 d1.Body.Args.length c5])]) rfl ok_45 ⟨et, trivial⟩) (Calls.mono (c_expr_Validate (Dj F c7) w6 hI.lt d1.Body a3 c3 a4 c4 a5 c5 ⟨(hI.get (.s (.s (.s .z)))), (hI.get (.s (.s (.s (.s .z))))), (hI.get (.s (.s (.s (.s (.s .z)))))), (hI.get (.s (.s (.s (.s (.s (.s .z))))))), trivial⟩ r5 hx9) ?_)
 rintro _ w7 ⟨rfl, hx10, hl5⟩
 refine ⟨_, rfl, ?_⟩
 replace hI := (hI.ext hx10)
 refine sq (y_neq rfl et ev_const) ?_
 refine sa ?_
 refine nk (cif h et (fun hb h => ?_) (fun hb h => ?_))
 ·refine sr (sac ?_)
  refine nk (c_ret ?_)
  obtain rfl := some_inj h
  exact q_ret (vs := [(str ([] : List UInt8))]) Tryz.results22 ⟨ev_tmp rfl rfl, trivial⟩ (fq hI trivial)
 refine c_skip (k_same (c_seq (c_drawX [] false (.c (0, .q) (.c (1, .q) (.c (2, .q) (.c (3, .q) (.c (4, .q) (.c (5, .q) (.c (9, .q) (.c (10, .q) (.c (11, .q) (.c (12, .q) (.c (16, .q) (.c (19, .q) (.c (20, .q) (.c (6, .s) (.c (7, .q) (.c (8, .q) (.c (13, .s) (.c (14, .q) (.c (15, .q) (.c (17, .s) (.c (18, .q) (.c (21, .s) (.c (22, .q) (.c (23, .q) (.c (24, .q) .n))))))))))))))))))))))))) hI (by kernel_rfl) (by kernel_rfl) ?_)))
 clear hI; intro w8 hI
 refine a_q rfl gn rfl (fun w' => y_fieldAddr rfl et u49 rfl size_9 rfl) ?_
 refine a_read rfl gn rfl (fun w' hw' => (y_load1 (v := (str d1.Name)) rfl et u9 rfl ((hI.kblk (l := [(str d1.Name)]) .z rfl).at_ (SX.any rfl hw')))) (by kernel_rfl) ?_
 obtain ⟨s1, hx11, h⟩ := bnd_some h
 refine a_q rfl gn rfl (fun w' => y_catl rfl ev_const et hx11) ?_
 obtain ⟨s2, hx12, h⟩ := bnd_some h
 refine a_q rfl gn rfl (fun w' => y_catl rfl et ev_const hx12) ?_
 refine a_q rfl gn rfl (fun w' => y_fieldAddr rfl et u49 rfl size_23 rfl) ?_
 refine a_read rfl gn rfl (fun w' hw' => (y_loadN (l := (lType d1.Type_)) rfl et u23 rfl size_23 ((hI.kblk (l := (lType d1.Type_)) .z rfl).at_ (SX.any rfl hw')))) (by kernel_rfl) ?_
 refine a_q rfl gn rfl (fun w' => y_move rfl et) ?_
 refine a_q rfl gn rfl (fun w' => y_lenl rfl u89 et) ?_
 refine a_q rfl gn rfl (fun w' => y_move rfl et) ?_
 refine a_q rfl gn rfl (fun w' => y_makeBound (vs := [vs a1 d1.Dims.length c1]) rfl rfl ⟨et, trivial⟩) ?_
 refine a_read rfl gn rfl (fun w' hw' => (y_loadN (l := [(str d1.Name), vi d1.Type_.Kind, vi d1.Type_.Bits, vi d1.Type_.Frac, vi d1.Type_.Round, vi d1.Type_.Over, vs a1 d1.Dims.length c1, vs a2 d1.Red.length c2, vi d1.Fold, vi d1.Body.Op, (str d1.Body.Name), vi d1.Body.Val.N, vi d1.Body.Val.D, vi d1.Body.Type_.Kind, vi d1.Body.Type_.Bits, vi d1.Body.Type_.Frac, vi d1.Body.Type_.Round, vi d1.Body.Type_.Over, vi d1.Body.Lin.K, vs a3 d1.Body.Lin.L.length c3, vs a4 d1.Body.Idx.length c4, vs a5 d1.Body.Args.length c5]) rfl et u49 rfl size_49 ((hI.kblk (l := [(str d1.Name), vi d1.Type_.Kind, vi d1.Type_.Bits, vi d1.Type_.Frac, vi d1.Type_.Round, vi d1.Type_.Over, vs a1 d1.Dims.length c1, vs a2 d1.Red.length c2, vi d1.Fold, vi d1.Body.Op, (str d1.Body.Name), vi d1.Body.Val.N, vi d1.Body.Val.D, vi d1.Body.Type_.Kind, vi d1.Body.Type_.Bits, vi d1.Body.Type_.Frac, vi d1.Body.Type_.Round, vi d1.Body.Type_.Over, vi d1.Body.Lin.K, vs a3 d1.Body.Lin.L.length c3, vs a4 d1.Body.Idx.length c4, vs a5 d1.Body.Args.length c5]) .z rfl).at_ (SX.any rfl hw')))) (by kernel_rfl) ?_
 refine a_q rfl gn rfl (fun w' => y_fieldAddr rfl et u49 rfl size_39 rfl) ?_
 refine a_read rfl gn rfl (fun w' hw' => (y_loadN (l := [vi d1.Body.Op, (str d1.Body.Name), vi d1.Body.Val.N, vi d1.Body.Val.D, vi d1.Body.Type_.Kind, vi d1.Body.Type_.Bits, vi d1.Body.Type_.Frac, vi d1.Body.Type_.Round, vi d1.Body.Type_.Over, vi d1.Body.Lin.K, vs a3 d1.Body.Lin.L.length c3, vs a4 d1.Body.Idx.length c4, vs a5 d1.Body.Args.length c5]) rfl et u39 rfl size_39 ((hI.kblk (l := [vi d1.Body.Op, (str d1.Body.Name), vi d1.Body.Val.N, vi d1.Body.Val.D, vi d1.Body.Type_.Kind, vi d1.Body.Type_.Bits, vi d1.Body.Type_.Frac, vi d1.Body.Type_.Round, vi d1.Body.Type_.Over, vi d1.Body.Lin.K, vs a3 d1.Body.Lin.L.length c3, vs a4 d1.Body.Idx.length c4, vs a5 d1.Body.Args.length c5]) .z rfl).at_ (SX.any rfl hw')))) (by kernel_rfl) ?_
 obtain ⟨r6, hx13, h⟩ := bnd_some h
 refine la_call rfl gn rfl (r_callF (vs := [(Value.agg (AType d1.Type_))]) rfl ok_10 ⟨et, trivial⟩) (Calls.mono (c_printer_Type (Dj F c7) w8 hI.lt d1.Type_ ⟨(hI.get (.s (.s (.s (.s (.s (.s (.s .z)))))))), trivial⟩ r6 hx13) ?_)
 rintro _ w9 ⟨rfl, hx14, hl6⟩
 refine ⟨_, rfl, hx14, ?_⟩
 replace hI := (hI.ext hx14)
 obtain ⟨s3, hx15, h⟩ := bnd_some h
 refine a_q rfl gn rfl (fun w' => y_catl rfl et et hx15) ?_
 obtain ⟨s4, hx16, h⟩ := bnd_some h
 refine a_q rfl gn rfl (fun w' => y_catl rfl et ev_const hx16) ?_
 have hI := hI.add (c := clFn_k5 (Value.func (.func 56) #[vs a1 d1.Dims.length c1] #[]) (m_printer_axes_item d1.Dims)) ⟨rfl, fun D' w' hs hl x_1 r k h => CallV.fnB (fs := [vs a1 d1.Dims.length c1]) ok_56 (c_printer_axes_item D' w' hl d1.Dims x_1 a1 c1 ⟨(Cl.sp _ hs (hI.get (.s .z))), (Cl.sp _ hs (hI.get (.s (.s (.s (.s (.s (.s (.s .z))))))))), trivial⟩ r h)⟩
 obtain ⟨r7, hx17, h⟩ := bnd_some h
 refine la_call rfl gn rfl (r_callF (vs := [vi (d1.Dims.length : Int), (Value.func (.func 56) #[vs a1 d1.Dims.length c1] #[])]) rfl ok_38 ⟨et, ⟨et, trivial⟩⟩) (Calls.mono (c_printer_list (Dj F c7) w9 hI.lt (d1.Dims.length : Int) (m_printer_axes_item d1.Dims) (Value.func (.func 56) #[vs a1 d1.Dims.length c1] #[]) ⟨(hI.get .z), trivial⟩ r7 hx17) ?_)
 rintro _ w10 ⟨rfl, hx18, hl7⟩
 refine ⟨_, rfl, hx18, ?_⟩
 replace hI := (hI.ext hx18)
 obtain ⟨s5, hx19, h⟩ := bnd_some h
 refine a_q rfl gn rfl (fun w' => y_catl rfl et et hx19) ?_
 obtain ⟨s6, hx20, h⟩ := bnd_some h
 refine a_q rfl gn rfl (fun w' => y_catl rfl et ev_const hx20) ?_
 obtain ⟨r8, hx21, h⟩ := bnd_some h
 refine la_call rfl gn rfl (r_callF (vs := [(Value.agg #[(str d1.Name), vi d1.Type_.Kind, vi d1.Type_.Bits, vi d1.Type_.Frac, vi d1.Type_.Round, vi d1.Type_.Over, vs a1 d1.Dims.length c1, vs a2 d1.Red.length c2, vi d1.Fold, vi d1.Body.Op, (str d1.Body.Name), vi d1.Body.Val.N, vi d1.Body.Val.D, vi d1.Body.Type_.Kind, vi d1.Body.Type_.Bits, vi d1.Body.Type_.Frac, vi d1.Body.Type_.Round, vi d1.Body.Type_.Over, vi d1.Body.Lin.K, vs a3 d1.Body.Lin.L.length c3, vs a4 d1.Body.Idx.length c4, vs a5 d1.Body.Args.length c5])]) rfl ok_57 ⟨et, trivial⟩) (Calls.mono (c_printer_fold (Dj F c7) w10 hI.lt d1 a1 c1 a2 c2 a3 c3 a4 c4 a5 c5 ⟨(hI.get (.s (.s .z))), (hI.get (.s (.s (.s .z)))), (hI.get (.s (.s (.s (.s .z))))), (hI.get (.s (.s (.s (.s (.s .z)))))), (hI.get (.s (.s (.s (.s (.s (.s .z))))))), (hI.get (.s (.s (.s (.s (.s (.s (.s (.s .z))))))))), trivial⟩ r8 hx21) ?_)
 rintro _ w11 ⟨rfl, hx22, hl8⟩
 refine ⟨_, rfl, hx22, ?_⟩
 replace hI := (hI.ext hx22)
 obtain ⟨s7, hx23, h⟩ := bnd_some h
 refine a_q rfl gn rfl (fun w' => y_catl rfl et et hx23) ?_
 obtain ⟨r9, hx24, h⟩ := bnd_some h
 refine la_call rfl gn rfl (r_callF (vs := [(Value.agg #[vi d1.Body.Op, (str d1.Body.Name), vi d1.Body.Val.N, vi d1.Body.Val.D, vi d1.Body.Type_.Kind, vi d1.Body.Type_.Bits, vi d1.Body.Type_.Frac, vi d1.Body.Type_.Round, vi d1.Body.Type_.Over, vi d1.Body.Lin.K, vs a3 d1.Body.Lin.L.length c3, vs a4 d1.Body.Idx.length c4, vs a5 d1.Body.Args.length c5])]) rfl ok_17 ⟨et, trivial⟩) (Calls.mono (c_printer_Expr (Dj F c7) w11 hI.lt d1.Body a3 c3 a4 c4 a5 c5 ⟨(hI.get (.s (.s (.s (.s .z))))), (hI.get (.s (.s (.s (.s (.s .z)))))), (hI.get (.s (.s (.s (.s (.s (.s .z))))))), (hI.get (.s (.s (.s (.s (.s (.s (.s .z)))))))), (hI.get (.s (.s (.s (.s (.s (.s (.s (.s .z))))))))), trivial⟩ r9 hx24) ?_)
 rintro _ w12 ⟨rfl, hx25, hl9⟩
 refine ⟨_, rfl, hx25, ?_⟩
 replace hI := (hI.ext hx25)
 obtain ⟨s8, hx26, h⟩ := bnd_some h
 refine a_q rfl gn rfl (fun w' => y_catl rfl et et hx26) ?_
 obtain ⟨s9, hx27, h⟩ := bnd_some h
 refine a_q rfl gn rfl (fun w' => y_catl rfl et ev_const hx27) ?_
 refine a_q rfl gn rfl (fun w' => y_assign rfl et) ?_
 refine a_nil ?_
 refine k_next (e := [(2, (str s9))]) ⟨rfl, trivial⟩ ?_
 refine c_ret ?_
 obtain rfl := some_inj h
 exact q_ret (vs := [(str s9)]) Tryz.results22 ⟨ev_tmp rfl rfl, trivial⟩ (fq hI trivial)
theorem c_ref15_axes (F : NP) (w0 : World) (hF : ∀ k, F k → k < w0.heap.size) (l1 : List GAxis) (a1 : Option Addr) (c1 : Nat) (hc : AllCl [Cl.sl cGAxis a1 c1 l1] F w0) (r : List UInt8 × Bool)
  (h : m_ref15_axes l1 = some r) :
  Calls Tryz.prog 58 #[vs a1 l1.length c1] w0 fun e w => e = .returned (Value.tuple #[(str r.1), vb r.2]) ∧ Ext w0 w ∧ AllCl [] F w := by
 refine enterK Tryz.func58 rfl Tryz.ntmps58 rfl ?_
 have hI := Bun.start hF hc
 clear hc
 rw [m_ref15_axes] at h
 refine sr (sac ?_)
 refine sac ?_
 refine nk (sr (sac ?_))
 refine nk (c_seq (sr (sac ?_)))
 refine nk (c_block (c_loop (α := Nat × (List UInt8) × Int) (fun x => fun w => ∃ C, Bun noM F w0 C w [] [Cl.sl cGAxis a1 c1 l1] ∧ m_ref15_axes_l1 l1 (x.1) (x.2.1) (x.2.2) = some r) (fun x _ => x.1) (fun x => [(0, vs a1 l1.length c1), (4, (str (x.2.1))), (5, vi (x.2.2))]) (fu, ([] : List UInt8), 0) ⟨_, hI.arr .n ⟨.z, trivial⟩, h⟩ ⟨rfl, rfl, rfl, trivial⟩ ?_))
 clear h hI; rintro ⟨fuel1, s1, i1⟩ w1 ⟨c2, hI, h⟩
 dsimp only at hI h
 rcases fuel1 with _ | fuel1
 ·rw [m_ref15_axes_l1] at h; cases h
 rw [m_ref15_axes_l1] at h
 refine c_sub (e := [(0, vs a1 l1.length c1), (4, (str s1)), (5, vi i1)]) ⟨rfl, rfl, rfl, trivial⟩ ?_
 refine c_seq (sr (sm ?_))
 refine sm ?_
 refine sq (y_lenl rfl u47 et) ?_
 refine sq (y_lss rfl et et) ?_
 refine nk (cif h et (fun hb h => ?_) (fun hb h => ?_))
 ·refine c_skip (k_same (c_seq (c_block (c_seq (sr (sm ?_))))))
  refine sm ?_
  obtain ⟨e1, hx1, h⟩ := bnd_some h
  obtain ⟨ad1, cs1, hA1, hr1, hq1⟩ := hI.clat .z hx1
  obtain ⟨a2, c3, rfl, hf1⟩ := hr1
  have hI := hI.add (c := Cl.sl cGMono a2 c3 e1.Size.L) hf1
  refine sq (y_indexAddr rfl u47 size_133 et et (lat_bd hx1) hA1) ?_
  refine sq (y_fieldAddr rfl et u133 rfl size_9 rfl) ?_
  refine sq (y_load1 (v := (str e1.Name)) rfl et u9 rfl (CA.part hq1 rfl).1) ?_
  obtain ⟨r1, hx2, h⟩ := bnd_some h
  refine s_call gn rfl (r_callF (vs := [(str e1.Name)]) rfl ok_43 ⟨et, trivial⟩) (Calls.mono (c_base_Name (Dj F c2) w1 hI.lt e1.Name trivial r1 hx2) ?_)
  rintro _ w2 ⟨rfl, hx3, hl1⟩
  refine ⟨_, rfl, ?_⟩
  replace hI := (hI.ext hx3)
  refine sq (y_not rfl et) ?_
  refine sm ?_
  refine s_gval (g_false rfl rfl rfl rfl) rfl (fun hc => y_move rfl et) ?_
  refine s_gval (g_false rfl rfl rfl rfl) rfl (fun hc => y_move rfl et) ?_
  obtain ⟨e2, hx4, h⟩ := bnd_some h
  replace hx4 := gd_some hx4
  obtain ⟨ad2, cs2, hq2⟩ := hI.gclat (.s .z) hx4
  obtain ⟨a3, c4, hq3⟩ : ∃ (a3 : Option Addr) (c4 : Nat), (!(!r1)) = true → (a1 = some ad2 ∧ cs2 = [(str e2.Name), vi e2.Size.K, vs a3 e2.Size.L.length c4] ∧ CA (Dj F c2) w2 (ad2.add (Int.toNat i1 * 3)) cs2 ∧ SlC cGMono (Dj F c2) w2 a3 c4 e2.Size.L) := by
   by_cases hc : (!(!r1)) = true
   ·obtain ⟨k1, k2, k3⟩ := hq2 hc; obtain ⟨a3, c4, rfl, hf2⟩ := k2; exact ⟨a3, c4, fun _ => ⟨k1, rfl, k3, hf2⟩⟩
   exact ⟨default, default, fun k => absurd k hc⟩
  clear hq2
  have hI := hI.add (c := Cl.gsl (!(!r1)) cGMono a3 c4 e2.Size.L) (fun hc => (hq3 hc).2.2.2)
  have hq4 : (!(!r1)) = true → CA (Dj F c2) w2 (ad2.add (Int.toNat i1 * 3)) [(str e2.Name), vi e2.Size.K, vs a3 e2.Size.L.length c4] := fun hc => by have k := hq3 hc; have e : cs2 = _ := k.2.1; rw [← e]; exact k.2.2.1
  refine s_gval (g_false rfl rfl rfl rfl) rfl (fun hc => (y_indexAddr rfl u47 size_133 (ev_gv et hc) (ev_gv et hc) (lat_bd (hx4 hc)) (hq3 hc).1)) ?_
  refine s_gval (g_false rfl rfl rfl rfl) rfl (fun hc => y_fieldAddr rfl (ev_gv et hc) u133 rfl size_29 rfl) ?_
  refine s_gval (g_false rfl rfl rfl rfl) rfl (fun hc => (y_loadN (l := (lLin e2.Size a3 c4)) rfl (ev_gv et hc) u29 rfl size_29 (CA.part (hq4 hc) rfl).1)) ?_
  obtain ⟨r2, hx5, h⟩ := bnd_some h
  replace hx5 := gd_some hx5
  refine s_gcallU (v := (vb r2)) (g_false rfl rfl rfl rfl) rfl (fun hc => (r_callF (vs := [(Value.agg (ALin e2.Size a3 c4))]) rfl ok_40 ⟨(ev_gv et hc), trivial⟩)) (fun hc => (c_base_LinRight (Dj F c2) w2 hI.lt e2.Size a3 c4 ⟨(hI.get .z hc), trivial⟩ r2 (hx5 hc)).mono fun _ _ k => ⟨k.1, k.2.1⟩) ?_
  intro w3 hx6; replace hI := hI.ext hx6
  refine s_gval (g_false rfl rfl rfl rfl) rfl (fun hc => y_not rfl (ev_gv et hc)) ?_
  refine sq (y_or rfl et et) ?_
  refine nk (cif h et (fun hb h => ?_) (fun hb h => ?_))
  ·refine sr (sac ?_)
   refine sac ?_
   refine nk (c_ret ?_)
   obtain rfl := some_inj h
   exact q_ret (vs := [(str ([] : List UInt8)), vb false]) Tryz.results58 ⟨ev_tmp rfl rfl, ⟨ev_tmp rfl rfl, trivial⟩⟩ (fq hI trivial)
  refine c_skip (k_same (c_join (α := (List UInt8)) (fun _ => ⟨48, []⟩) (fun x => [(0, vs a1 l1.length c1), (4, (str x)), (5, vi i1)]) (fun x => fun w => ∃ C, Bun noM F w0 C w [] [Cl.sl cGAxis a1 c1 l1] ∧ m_ref15_axes_j1 l1 i1 (m_ref15_axes_l1 l1 fuel1) x = some r) ?_ ?_))
  ·clear h hI; rintro s2 w4 ⟨c5, hI, h⟩
   try dsimp only at hI h
   rw [m_ref15_axes_j1] at h
   refine c_sub (e := [(0, vs a1 l1.length c1), (4, (str s2)), (5, vi i1)]) ⟨rfl, rfl, rfl, trivial⟩ ?_
   refine c_drawX [] false (.c (0, .q) (.c (1, .q) (.c (2, .q) (.c (3, .q) (.c (4, .q) (.c (5, .q) (.c (6, .q) (.c (7, .q) (.c (8, .q) (.c (9, .q) (.c (10, .q) (.c (11, .q) (.c (12, .q) (.c (13, .s) (.c (14, .q) (.c (15, .q) .n)))))))))))))))) hI (by kernel_rfl) (by kernel_rfl) ?_
   clear hI; intro w5 hI
   refine a_q rfl gn rfl (fun w' => y_move rfl et) ?_
   refine a_q rfl gn rfl (fun w' => y_move rfl et) ?_
   refine a_q rfl gn rfl (fun w' => y_move rfl et) ?_
   obtain ⟨e3, hx7, h⟩ := bnd_some h
   obtain ⟨ad3, cs3, hA3, hr3, hq5⟩ := hI.clat .z hx7
   obtain ⟨a4, c6, rfl, hf3⟩ := hr3
   have hI := hI.add (c := Cl.sl cGMono a4 c6 e3.Size.L) hf3
   refine a_q rfl gn rfl (fun w' => y_indexAddr rfl u47 size_133 et et (lat_bd hx7) hA3) ?_
   refine a_q rfl gn rfl (fun w' => y_fieldAddr rfl et u133 rfl size_9 rfl) ?_
   refine a_read rfl gn rfl (fun w' hw' => (y_load1 (v := (str e3.Name)) rfl et u9 rfl ((CA.part hq5 rfl).at_ (SX.any rfl hw')))) (by kernel_rfl) ?_
   obtain ⟨s3, hx8, h⟩ := bnd_some h
   refine a_q rfl gn rfl (fun w' => y_catl rfl et et hx8) ?_
   obtain ⟨s4, hx9, h⟩ := bnd_some h
   refine a_q rfl gn rfl (fun w' => y_catl rfl et ev_const hx9) ?_
   refine a_q rfl gn rfl (fun w' => y_move rfl et) ?_
   refine a_q rfl gn rfl (fun w' => y_move rfl et) ?_
   obtain ⟨e4, hx10, h⟩ := bnd_some h
   obtain ⟨ad4, cs4, hA4, hr4, hq6⟩ := hI.clat (.s .z) hx10
   obtain ⟨a5, c7, rfl, hf4⟩ := hr4
   have hI := hI.add (c := Cl.sl cGMono a5 c7 e4.Size.L) hf4
   refine a_q rfl gn rfl (fun w' => y_indexAddr rfl u47 size_133 et et (lat_bd hx10) hA4) ?_
   refine a_q rfl gn rfl (fun w' => y_fieldAddr rfl et u133 rfl size_29 rfl) ?_
   refine a_read rfl gn rfl (fun w' hw' => (y_loadN (l := (lLin e4.Size a5 c7)) rfl et u29 rfl size_29 ((CA.part hq6 rfl).at_ (SX.any rfl hw')))) (by kernel_rfl) ?_
   obtain ⟨r3, hx11, h⟩ := bnd_some h
   refine la_call rfl gn rfl (r_callF (vs := [(Value.agg (ALin e4.Size a5 c7))]) rfl ok_42 ⟨et, trivial⟩) (Calls.mono (c_ref05_Format (Dj F c5) w5 hI.lt e4.Size a5 c7 ⟨(hI.get .z), trivial⟩ r3 hx11) ?_)
   rintro _ w6 ⟨rfl, hx12, hl3⟩
   refine ⟨_, rfl, hx12, ?_⟩
   replace hI := (hI.ext hx12)
   obtain ⟨s5, hx13, h⟩ := bnd_some h
   refine a_q rfl gn rfl (fun w' => y_catl rfl et et hx13) ?_
   refine a_q rfl gn rfl (fun w' => y_assign rfl et) ?_
   refine a_nil ?_
   refine k_same (c_region rfl ?_)
   refine sm ?_
   refine sq (y_add rfl et ev_const) ?_
   refine sa ?_
   refine s_nil ?_
   exact k_loop (fuel1, s5, wi64 (i1 + 1)) ⟨rfl, rfl, rfl, trivial⟩ ⟨_, hI.arr .n ⟨(.s (.s .z)), trivial⟩, h⟩ (Nat.lt_succ_self _)
  refine sr (sm ?_)
  refine sq (y_gtr rfl et ev_const) ?_
  refine nk (cif h et (fun hb h => ?_) (fun hb h => ?_))
  ·refine c_region rfl ?_
   refine sm ?_
   obtain ⟨s6, hx14, h⟩ := bnd_some h
   refine sq (y_catl rfl et ev_const hx14) ?_
   refine sa ?_
   refine s_nil ?_
   exact k_join s6 ⟨rfl, rfl, rfl, trivial⟩ ⟨_, hI.arr .n ⟨(.s (.s .z)), trivial⟩, h⟩ rfl
  exact c_skip (k_join s1 ⟨rfl, rfl, rfl, trivial⟩ ⟨_, hI.arr .n ⟨(.s (.s .z)), trivial⟩, h⟩ rfl)
 refine c_exit ?_
 refine k_in ?_
 refine k_same (sr (sm ?_))
 refine sa ?_
 refine sac ?_
 refine nk (c_ret ?_)
 obtain rfl := some_inj h
 exact q_ret (vs := [(str s1), vb true]) Tryz.results58 ⟨ev_tmp rfl rfl, ⟨ev_tmp rfl rfl, trivial⟩⟩ (fq hI trivial)
theorem c_ref15_word (F : NP) (w0 : World) (hF : ∀ k, F k → k < w0.heap.size) (fold1 : Int) (hc : AllCl [] F w0) (r : List UInt8)
  (h : m_ref15_word fold1 = some r) :
  Calls Tryz.prog 59 #[vi fold1] w0 fun e w => e = .returned (str r) ∧ Ext w0 w ∧ AllCl [] F w := by
 refine enterK Tryz.func59 rfl Tryz.ntmps59 rfl ?_
 have hI := Bun.start hF hc
 clear hc
 rw [m_ref15_word] at h
 refine sr (sac ?_)
 refine nk (c_seq (sr (sm ?_)))
 refine nk (c_block (sr (sq (y_eql rfl et ev_const) ?_)))
 refine sa ?_
 refine nk (cif h et (fun hb h => ?_) (fun hb h => ?_))
 ·refine sr (sac ?_)
  refine nk (c_ret ?_)
  obtain rfl := some_inj h
  exact q_ret (vs := [(str ([115, 117, 109] : List UInt8))]) Tryz.results59 ⟨ev_tmp rfl rfl, trivial⟩ (fq hI trivial)
 refine sr (sq (y_eql rfl et ev_const) ?_)
 refine sa ?_
 refine nk (cif h et (fun hb h => ?_) (fun hb h => ?_))
 ·refine sr (sac ?_)
  refine nk (c_ret ?_)
  obtain rfl := some_inj h
  exact q_ret (vs := [(str ([112, 114, 111, 100] : List UInt8))]) Tryz.results59 ⟨ev_tmp rfl rfl, trivial⟩ (fq hI trivial)
 refine sr (sq (y_eql rfl et ev_const) ?_)
 refine sa ?_
 refine nk (cif h et (fun hb h => ?_) (fun hb h => ?_))
 ·refine sr (sac ?_)
  refine nk (c_ret ?_)
  obtain rfl := some_inj h
  exact q_ret (vs := [(str ([109, 105, 110] : List UInt8))]) Tryz.results59 ⟨ev_tmp rfl rfl, trivial⟩ (fq hI trivial)
 refine sr (sq (y_eql rfl et ev_const) ?_)
 refine sa ?_
 refine nk (cif h et (fun hb h => ?_) (fun hb h => ?_))
 ·refine sr (sac ?_)
  refine nk (c_ret ?_)
  obtain rfl := some_inj h
  exact q_ret (vs := [(str ([109, 97, 120] : List UInt8))]) Tryz.results59 ⟨ev_tmp rfl rfl, trivial⟩ (fq hI trivial)
 refine c_skip (k_same (sr (sac ?_)))
 refine nk (c_ret ?_)
 obtain rfl := some_inj h
 exact q_ret (vs := [(str ([115, 99, 97, 110] : List UInt8))]) Tryz.results59 ⟨ev_tmp rfl rfl, trivial⟩ (fq hI trivial)
theorem c_ref15_Def (F : NP) (w0 : World) (hF : ∀ k, F k → k < w0.heap.size) (d1 : GDef) (a1 : Option Addr) (c1 : Nat) (a2 : Option Addr) (c2 : Nat) (a3 : Option Addr) (c3 : Nat) (a4 : Option Addr) (c4 : Nat) (a5 : Option Addr) (c5 : Nat) (hc : AllCl [Cl.sl cGAxis a1 c1 d1.Dims, Cl.sl cGAxis a2 c2 d1.Red, Cl.sl cGMono a3 c3 d1.Body.Lin.L, Cl.sl cGIndex a4 c4 d1.Body.Idx, Cl.sl cGExpr a5 c5 d1.Body.Args] F w0) (r : List UInt8)
  (h : m_ref15_Def d1 = some r) :
  Calls Tryz.prog 23 #[(Value.agg #[(str d1.Name), vi d1.Type_.Kind, vi d1.Type_.Bits, vi d1.Type_.Frac, vi d1.Type_.Round, vi d1.Type_.Over, vs a1 d1.Dims.length c1, vs a2 d1.Red.length c2, vi d1.Fold, vi d1.Body.Op, (str d1.Body.Name), vi d1.Body.Val.N, vi d1.Body.Val.D, vi d1.Body.Type_.Kind, vi d1.Body.Type_.Bits, vi d1.Body.Type_.Frac, vi d1.Body.Type_.Round, vi d1.Body.Type_.Over, vi d1.Body.Lin.K, vs a3 d1.Body.Lin.L.length c3, vs a4 d1.Body.Idx.length c4, vs a5 d1.Body.Args.length c5])] w0 fun e w => e = .returned (str r) ∧ Ext w0 w ∧ AllCl [] F w := by
 refine enterK Tryz.func23 rfl Tryz.ntmps23 rfl ?_
 have hI := Bun.start hF hc
 clear hc
 rw [m_ref15_Def] at h
 refine sr (l_box (v := (Value.agg #[(str d1.Name), vi d1.Type_.Kind, vi d1.Type_.Bits, vi d1.Type_.Frac, vi d1.Type_.Round, vi d1.Type_.Over, vs a1 d1.Dims.length c1, vs a2 d1.Red.length c2, vi d1.Fold, vi d1.Body.Op, (str d1.Body.Name), vi d1.Body.Val.N, vi d1.Body.Val.D, vi d1.Body.Type_.Kind, vi d1.Body.Type_.Bits, vi d1.Body.Type_.Frac, vi d1.Body.Type_.Round, vi d1.Body.Type_.Over, vi d1.Body.Lin.K, vs a3 d1.Body.Lin.L.length c3, vs a4 d1.Body.Idx.length c4, vs a5 d1.Body.Args.length c5])) (cs := #[(str d1.Name), vi d1.Type_.Kind, vi d1.Type_.Bits, vi d1.Type_.Frac, vi d1.Type_.Round, vi d1.Type_.Over, vs a1 d1.Dims.length c1, vs a2 d1.Red.length c2, vi d1.Fold, vi d1.Body.Op, (str d1.Body.Name), vi d1.Body.Val.N, vi d1.Body.Val.D, vi d1.Body.Type_.Kind, vi d1.Body.Type_.Bits, vi d1.Body.Type_.Frac, vi d1.Body.Type_.Round, vi d1.Body.Type_.Over, vi d1.Body.Lin.K, vs a3 d1.Body.Lin.L.length c3, vs a4 d1.Body.Idx.length c4, vs a5 d1.Body.Args.length c5]) hI gn rfl rfl et rfl ?_)
 clear hI; intro b1 c6 w1 hI
 obtain ⟨c7, hI⟩ := hI.relBox .z
 refine sac ?_
 refine nk (sr (sq (y_fieldAddr rfl et u49 rfl size_47 rfl) ?_))
 refine sq (y_load1 (v := (vs a1 d1.Dims.length c1)) rfl et u47 rfl (hI.kblk (l := [vs a1 d1.Dims.length c1]) .z rfl).1) ?_
 obtain ⟨r1, hx1, h⟩ := bnd_some h
 refine s_call gn rfl (r_callF (vs := [vs a1 d1.Dims.length c1]) rfl ok_58 ⟨et, trivial⟩) (Calls.mono (c_ref15_axes (Dj F c7) w1 hI.lt d1.Dims a1 c1 ⟨(hI.get (.s .z)), trivial⟩ r1 hx1) ?_)
 rintro _ w2 ⟨rfl, hx2, hl1⟩
 refine ⟨_, rfl, ?_⟩
 replace hI := (hI.ext hx2)
 refine sm ?_
 refine sq (y_extract rfl et rfl) ?_
 refine sq (y_extract rfl et rfl) ?_
 refine sa ?_
 refine sa ?_
 refine nk (sr (sq (y_fieldAddr rfl et u49 rfl size_47 rfl) ?_))
 refine sq (y_load1 (v := (vs a2 d1.Red.length c2)) rfl et u47 rfl (hI.kblk (l := [vs a2 d1.Red.length c2]) .z rfl).1) ?_
 obtain ⟨r2, hx3, h⟩ := bnd_some h
 refine s_call gn rfl (r_callF (vs := [vs a2 d1.Red.length c2]) rfl ok_58 ⟨et, trivial⟩) (Calls.mono (c_ref15_axes (Dj F c7) w2 hI.lt d1.Red a2 c2 ⟨(hI.get (.s (.s .z))), trivial⟩ r2 hx3) ?_)
 rintro _ w3 ⟨rfl, hx4, hl2⟩
 refine ⟨_, rfl, ?_⟩
 replace hI := (hI.ext hx4)
 refine sm ?_
 refine sq (y_extract rfl et rfl) ?_
 refine sq (y_extract rfl et rfl) ?_
 refine sa ?_
 refine sa ?_
 refine nk (sr (sq (y_fieldAddr rfl et u49 rfl size_39 rfl) ?_))
 refine sq (y_loadN (l := [vi d1.Body.Op, (str d1.Body.Name), vi d1.Body.Val.N, vi d1.Body.Val.D, vi d1.Body.Type_.Kind, vi d1.Body.Type_.Bits, vi d1.Body.Type_.Frac, vi d1.Body.Type_.Round, vi d1.Body.Type_.Over, vi d1.Body.Lin.K, vs a3 d1.Body.Lin.L.length c3, vs a4 d1.Body.Idx.length c4, vs a5 d1.Body.Args.length c5]) rfl et u39 rfl size_39 (hI.kblk (l := [vi d1.Body.Op, (str d1.Body.Name), vi d1.Body.Val.N, vi d1.Body.Val.D, vi d1.Body.Type_.Kind, vi d1.Body.Type_.Bits, vi d1.Body.Type_.Frac, vi d1.Body.Type_.Round, vi d1.Body.Type_.Over, vi d1.Body.Lin.K, vs a3 d1.Body.Lin.L.length c3, vs a4 d1.Body.Idx.length c4, vs a5 d1.Body.Args.length c5]) .z rfl).1) ?_
 obtain ⟨r3, hx5, h⟩ := bnd_some h
 refine s_call gn rfl (r_callF (vs := [(Value.agg #[vi d1.Body.Op, (str d1.Body.Name), vi d1.Body.Val.N, vi d1.Body.Val.D, vi d1.Body.Type_.Kind, vi d1.Body.Type_.Bits, vi d1.Body.Type_.Frac, vi d1.Body.Type_.Round, vi d1.Body.Type_.Over, vi d1.Body.Lin.K, vs a3 d1.Body.Lin.L.length c3, vs a4 d1.Body.Idx.length c4, vs a5 d1.Body.Args.length c5])]) rfl ok_18 ⟨et, trivial⟩) (Calls.mono (c_ref15_Expr (Dj F c7) w3 hI.lt d1.Body a3 c3 a4 c4 a5 c5 ⟨(hI.get (.s (.s (.s .z)))), (hI.get (.s (.s (.s (.s .z))))), (hI.get (.s (.s (.s (.s (.s .z)))))), trivial⟩ r3 hx5) ?_)
 rintro _ w4 ⟨rfl, hx6, hl3⟩
 refine ⟨_, rfl, ?_⟩
 replace hI := (hI.ext hx6)
 refine sa ?_
 refine nk (c_seq (sr (sm ?_)))
 refine sq (y_not rfl et) ?_
 refine sm ?_
 refine s_gval (g_false rfl rfl rfl rfl) rfl (fun hc => y_move rfl et) ?_
 refine s_gval (g_false rfl rfl rfl rfl) rfl (fun hc => y_not rfl (ev_gv et hc)) ?_
 refine sq (y_or rfl et et) ?_
 refine sm ?_
 refine s_gval (g_false rfl rfl rfl rfl) rfl (fun hc => y_move rfl et) ?_
 refine s_gval (g_false rfl rfl rfl rfl) rfl (fun hc => y_eqs rfl (ev_gv et hc) ev_const) ?_
 refine sq (y_or rfl et et) ?_
 refine sm ?_
 refine s_gval (g_false rfl rfl rfl rfl) rfl (fun hc => y_fieldAddr rfl et u49 rfl size_9 rfl) ?_
 refine s_gval (g_false rfl rfl rfl rfl) rfl (fun hc => (y_load1 (v := (str d1.Name)) rfl (ev_gv et hc) u9 rfl (hI.kblk (l := [(str d1.Name)]) .z rfl).1)) ?_
 obtain ⟨r4, hx7, h⟩ := bnd_some h
 replace hx7 := gd_some hx7
 refine s_gcallU (v := (vb r4)) (g_false rfl rfl rfl rfl) rfl (fun hc => (r_callF (vs := [(str d1.Name)]) rfl ok_43 ⟨(ev_gv et hc), trivial⟩)) (fun hc => (c_base_Name (Dj F c7) w4 hI.lt d1.Name trivial r4 (hx7 hc)).mono fun _ _ k => ⟨k.1, k.2.1⟩) ?_
 intro w5 hx8; replace hI := hI.ext hx8
 refine s_gval (g_false rfl rfl rfl rfl) rfl (fun hc => y_not rfl (ev_gv et hc)) ?_
 refine sq (y_or rfl et et) ?_
 refine sm ?_
 refine s_gval (g_false rfl rfl rfl rfl) rfl (fun hc => y_fieldAddr rfl et u49 rfl size_23 rfl) ?_
 refine s_gval (g_false rfl rfl rfl rfl) rfl (fun hc => (y_loadN (l := (lType d1.Type_)) rfl (ev_gv et hc) u23 rfl size_23 (hI.kblk (l := (lType d1.Type_)) .z rfl).1)) ?_
 obtain ⟨r5, hx9, h⟩ := bnd_some h
 replace hx9 := gd_some hx9
 refine s_gcallU (v := (vb r5)) (g_false rfl rfl rfl rfl) rfl (fun hc => (r_callF (vs := [(Value.agg (AType d1.Type_))]) rfl ok_31 ⟨(ev_gv et hc), trivial⟩)) (fun hc => (c_base_Type (Dj F c7) w5 hI.lt d1.Type_ trivial r5 (hx9 hc)).mono fun _ _ k => ⟨k.1, k.2.1⟩) ?_
 intro w6 hx10; replace hI := hI.ext hx10
 refine s_gval (g_false rfl rfl rfl rfl) rfl (fun hc => y_not rfl (ev_gv et hc)) ?_
 refine sq (y_or rfl et et) ?_
 refine sm ?_
 refine s_gval (g_false rfl rfl rfl rfl) rfl (fun hc => y_fieldAddr rfl et u49 rfl size_3 rfl) ?_
 refine s_gval (g_false rfl rfl rfl rfl) rfl (fun hc => (y_load1 (v := (vi d1.Fold)) rfl (ev_gv et hc) u3 rfl (hI.kblk (l := [vi d1.Fold]) .z rfl).1)) ?_
 refine s_gval (g_false rfl rfl rfl rfl) rfl (fun hc => y_lss rfl (ev_gv et hc) ev_const) ?_
 refine sq (y_or rfl et et) ?_
 refine sm ?_
 refine s_gval (g_false rfl rfl rfl rfl) rfl (fun hc => y_fieldAddr rfl et u49 rfl size_3 rfl) ?_
 refine s_gval (g_false rfl rfl rfl rfl) rfl (fun hc => (y_load1 (v := (vi d1.Fold)) rfl (ev_gv et hc) u3 rfl (hI.kblk (l := [vi d1.Fold]) .z rfl).1)) ?_
 refine s_gval (g_false rfl rfl rfl rfl) rfl (fun hc => y_gtr rfl (ev_gv et hc) ev_const) ?_
 refine sq (y_or rfl et et) ?_
 refine s_nil ?_
 refine k_next (e := [(1, vp b1 0), (3, (str r1.1)), (5, (str r2.1)), (7, (str r3)), (55, (vb (((((((!r1.2) || (!r2.2)) || (decide (r3 = ([] : List UInt8)))) || (!r4)) || (!r5)) || (decide (d1.Fold < 0))) || (decide (5 < d1.Fold)))))]) ⟨rfl, rfl, rfl, rfl, rfl, trivial⟩ ?_
 refine cif h et (fun hb h => ?_) (fun hb h => ?_)
 ·refine sr (sac ?_)
  refine nk (c_ret ?_)
  obtain rfl := some_inj h
  exact q_ret (vs := [(str ([] : List UInt8))]) Tryz.results23 ⟨ev_tmp rfl rfl, trivial⟩ (fq hI trivial)
 refine c_skip (k_same (c_seq (sr (sq (y_fieldAddr rfl et u49 rfl size_47 rfl) ?_))))
 refine sq (y_load1 (v := (vs a2 d1.Red.length c2)) rfl et u47 rfl (hI.kblk (l := [vs a2 d1.Red.length c2]) .z rfl).1) ?_
 refine sq (y_lenl rfl u47 et) ?_
 refine sq (y_gtr rfl et ev_const) ?_
 refine sm ?_
 refine s_gval (g_true rfl rfl rfl rfl) rfl (fun hc => y_fieldAddr rfl et u49 rfl size_3 rfl) ?_
 refine s_gval (g_true rfl rfl rfl rfl) rfl (fun hc => (y_load1 (v := (vi d1.Fold)) rfl (ev_gv et hc) u3 rfl (hI.kblk (l := [vi d1.Fold]) .z rfl).1)) ?_
 refine s_gval (g_true rfl rfl rfl rfl) rfl (fun hc => y_eql rfl (ev_gv et hc) ev_const) ?_
 refine s_gval (g_true rfl rfl rfl rfl) rfl (fun hc => y_move rfl (ev_gv et hc)) ?_
 refine s_gval (g_false2 rfl rfl rfl rfl) rfl (fun hc => y_fieldAddr rfl et u49 rfl size_3 rfl) ?_
 refine s_gval (g_false2 rfl rfl rfl rfl) rfl (fun hc => (y_load1 (v := (vi d1.Fold)) rfl (ev_gv et hc) u3 rfl (hI.kblk (l := [vi d1.Fold]) .z rfl).1)) ?_
 refine s_gval (g_false2 rfl rfl rfl rfl) rfl (fun hc => y_eql rfl (ev_gv et hc) ev_const) ?_
 refine s_gval (g_true rfl rfl rfl rfl) rfl (fun hc => y_or2 rfl hc et et) ?_
 refine sq (y_and rfl et et) ?_
 refine nk (cif h et (fun hb h => ?_) (fun hb h => ?_))
 ·refine sr (sac ?_)
  refine nk (c_ret ?_)
  obtain rfl := some_inj h
  exact q_ret (vs := [(str ([] : List UInt8))]) Tryz.results23 ⟨ev_tmp rfl rfl, trivial⟩ (fq hI trivial)
 refine c_skip (k_same (c_seq (c_drawX [] false (.c (0, .q) (.c (1, .q) (.c (2, .q) (.c (3, .q) (.c (4, .q) (.c (5, .q) (.c (9, .q) (.c (6, .s) (.c (7, .q) (.c (8, .q) (.c (10, .q) (.c (11, .q) (.c (12, .q) .n))))))))))))) hI (by kernel_rfl) (by kernel_rfl) ?_)))
 clear hI; intro w7 hI
 refine a_q rfl gn rfl (fun w' => y_fieldAddr rfl et u49 rfl size_9 rfl) ?_
 refine a_read rfl gn rfl (fun w' hw' => (y_load1 (v := (str d1.Name)) rfl et u9 rfl ((hI.kblk (l := [(str d1.Name)]) .z rfl).at_ (SX.any rfl hw')))) (by kernel_rfl) ?_
 obtain ⟨s1, hx11, h⟩ := bnd_some h
 refine a_q rfl gn rfl (fun w' => y_catl rfl ev_const et hx11) ?_
 obtain ⟨s2, hx12, h⟩ := bnd_some h
 refine a_q rfl gn rfl (fun w' => y_catl rfl et ev_const hx12) ?_
 refine a_q rfl gn rfl (fun w' => y_fieldAddr rfl et u49 rfl size_23 rfl) ?_
 refine a_read rfl gn rfl (fun w' hw' => (y_loadN (l := (lType d1.Type_)) rfl et u23 rfl size_23 ((hI.kblk (l := (lType d1.Type_)) .z rfl).at_ (SX.any rfl hw')))) (by kernel_rfl) ?_
 refine a_q rfl gn rfl (fun w' => y_move rfl et) ?_
 obtain ⟨r6, hx13, h⟩ := bnd_some h
 refine la_call rfl gn rfl (r_callF (vs := [(Value.agg (AType d1.Type_))]) rfl ok_11 ⟨et, trivial⟩) (Calls.mono (c_ref15_Type (Dj F c7) w7 hI.lt d1.Type_ trivial r6 hx13) ?_)
 rintro _ w8 ⟨rfl, hx14, hl6⟩
 refine ⟨_, rfl, hx14, ?_⟩
 replace hI := (hI.ext hx14)
 obtain ⟨s3, hx15, h⟩ := bnd_some h
 refine a_q rfl gn rfl (fun w' => y_catl rfl et et hx15) ?_
 obtain ⟨s4, hx16, h⟩ := bnd_some h
 refine a_q rfl gn rfl (fun w' => y_catl rfl et ev_const hx16) ?_
 obtain ⟨s5, hx17, h⟩ := bnd_some h
 refine a_q rfl gn rfl (fun w' => y_catl rfl et et hx17) ?_
 obtain ⟨s6, hx18, h⟩ := bnd_some h
 refine a_q rfl gn rfl (fun w' => y_catl rfl et ev_const hx18) ?_
 refine a_q rfl gn rfl (fun w' => y_assign rfl et) ?_
 refine a_nil ?_
 refine k_next (e := [(1, vp b1 0), (5, (str r2.1)), (7, (str r3)), (8, (str s6))]) ⟨rfl, rfl, rfl, rfl, trivial⟩ ?_
 refine c_seq (sr (sq (y_fieldAddr rfl et u49 rfl size_3 rfl) ?_))
 refine sq (y_load1 (v := (vi d1.Fold)) rfl et u3 rfl (hI.kblk (l := [vi d1.Fold]) .z rfl).1) ?_
 refine sq (y_neq rfl et ev_const) ?_
 refine nk (cif h et (fun hb h => ?_) (fun hb h => ?_))
 ·refine sr (sm ?_)
  refine sq (y_fieldAddr rfl et u49 rfl size_3 rfl) ?_
  refine sq (y_load1 (v := (vi d1.Fold)) rfl et u3 rfl (hI.kblk (l := [vi d1.Fold]) .z rfl).1) ?_
  obtain ⟨r7, hx19, h⟩ := bnd_some h
  refine s_call gn rfl (r_callF (vs := [vi d1.Fold]) rfl ok_59 ⟨et, trivial⟩) (Calls.mono (c_ref15_word (Dj F c7) w8 hI.lt d1.Fold trivial r7 hx19) ?_)
  rintro _ w9 ⟨rfl, hx20, hl7⟩
  refine ⟨_, rfl, ?_⟩
  replace hI := (hI.ext hx20)
  obtain ⟨s7, hx21, h⟩ := bnd_some h
  refine sq (y_catl rfl et et hx21) ?_
  refine sa ?_
  refine nk (c_seq (sr (sq (y_fieldAddr rfl et u49 rfl size_47 rfl) ?_)))
  refine sq (y_load1 (v := (vs a2 d1.Red.length c2)) rfl et u47 rfl (hI.kblk (l := [vs a2 d1.Red.length c2]) .z rfl).1) ?_
  refine sq (y_lenl rfl u47 et) ?_
  refine sq (y_gtr rfl et ev_const) ?_
  refine nk (cif h et (fun hb h => ?_) (fun hb h => ?_))
  ·refine c_region rfl ?_
   refine sm ?_
   obtain ⟨s8, hx22, h⟩ := bnd_some h
   refine sq (y_catl rfl et ev_const hx22) ?_
   refine sm ?_
   obtain ⟨s9, hx23, h⟩ := bnd_some h
   refine sq (y_catl rfl et et hx23) ?_
   refine sa ?_
   refine nk (c_region rfl ?_)
   refine sm ?_
   obtain ⟨s10, hx24, h⟩ := bnd_some h
   refine sq (y_catl rfl et ev_const hx24) ?_
   refine sa ?_
   refine nk (sr (sm ?_))
   refine sm ?_
   obtain ⟨s11, hx25, h⟩ := bnd_some h
   refine sq (y_catl rfl et et hx25) ?_
   obtain ⟨s12, hx26, h⟩ := bnd_some h
   refine sq (y_catl rfl et ev_const hx26) ?_
   refine sa ?_
   refine s_nil ?_
   refine k_next (e := [(2, (str s12))]) ⟨rfl, trivial⟩ ?_
   refine c_ret ?_
   obtain rfl := some_inj h
   exact q_ret (vs := [(str s12)]) Tryz.results23 ⟨ev_tmp rfl rfl, trivial⟩ (fq hI trivial)
  refine c_skip (k_same (c_region rfl ?_))
  refine sm ?_
  obtain ⟨s13, hx27, h⟩ := bnd_some h
  refine sq (y_catl rfl et ev_const hx27) ?_
  refine sa ?_
  refine nk (sr (sm ?_))
  refine sm ?_
  obtain ⟨s14, hx28, h⟩ := bnd_some h
  refine sq (y_catl rfl et et hx28) ?_
  obtain ⟨s15, hx29, h⟩ := bnd_some h
  refine sq (y_catl rfl et ev_const hx29) ?_
  refine sa ?_
  refine nk (c_ret ?_)
  obtain rfl := some_inj h
  exact q_ret (vs := [(str s15)]) Tryz.results23 ⟨ev_tmp rfl rfl, trivial⟩ (fq hI trivial)
 refine c_skip (k_same (sr (sm ?_)))
 refine sm ?_
 obtain ⟨s16, hx30, h⟩ := bnd_some h
 refine sq (y_catl rfl et et hx30) ?_
 obtain ⟨s17, hx31, h⟩ := bnd_some h
 refine sq (y_catl rfl et ev_const hx31) ?_
 refine sa ?_
 refine nk (c_ret ?_)
 obtain rfl := some_inj h
 exact q_ret (vs := [(str s17)]) Tryz.results23 ⟨ev_tmp rfl rfl, trivial⟩ (fq hI trivial)
theorem c_law15_PrinterDefs (F : NP) (w0 : World) (hF : ∀ k, F k → k < w0.heap.size) (d1 : GDef) (a1 : Option Addr) (c1 : Nat) (a2 : Option Addr) (c2 : Nat) (a3 : Option Addr) (c3 : Nat) (a4 : Option Addr) (c4 : Nat) (a5 : Option Addr) (c5 : Nat) (hc : AllCl [Cl.sl cGAxis a1 c1 d1.Dims, Cl.sl cGAxis a2 c2 d1.Red, Cl.sl cGMono a3 c3 d1.Body.Lin.L, Cl.sl cGIndex a4 c4 d1.Body.Idx, Cl.sl cGExpr a5 c5 d1.Body.Args, clPow10, clSpace] F w0) (r : Bool)
  (h : m_law15_PrinterDefs d1 = some r) :
  Calls Tryz.prog 7 #[(Value.agg #[(str d1.Name), vi d1.Type_.Kind, vi d1.Type_.Bits, vi d1.Type_.Frac, vi d1.Type_.Round, vi d1.Type_.Over, vs a1 d1.Dims.length c1, vs a2 d1.Red.length c2, vi d1.Fold, vi d1.Body.Op, (str d1.Body.Name), vi d1.Body.Val.N, vi d1.Body.Val.D, vi d1.Body.Type_.Kind, vi d1.Body.Type_.Bits, vi d1.Body.Type_.Frac, vi d1.Body.Type_.Round, vi d1.Body.Type_.Over, vi d1.Body.Lin.K, vs a3 d1.Body.Lin.L.length c3, vs a4 d1.Body.Idx.length c4, vs a5 d1.Body.Args.length c5])] w0 fun e w => e = .returned (vb r) ∧ Ext w0 w ∧ AllCl [] F w := by
 refine enterK Tryz.func7 rfl Tryz.ntmps7 rfl ?_
 have hI := Bun.start hF hc
 clear hc
 rw [m_law15_PrinterDefs] at h
 refine sr (l_box (v := (Value.agg #[(str d1.Name), vi d1.Type_.Kind, vi d1.Type_.Bits, vi d1.Type_.Frac, vi d1.Type_.Round, vi d1.Type_.Over, vs a1 d1.Dims.length c1, vs a2 d1.Red.length c2, vi d1.Fold, vi d1.Body.Op, (str d1.Body.Name), vi d1.Body.Val.N, vi d1.Body.Val.D, vi d1.Body.Type_.Kind, vi d1.Body.Type_.Bits, vi d1.Body.Type_.Frac, vi d1.Body.Type_.Round, vi d1.Body.Type_.Over, vi d1.Body.Lin.K, vs a3 d1.Body.Lin.L.length c3, vs a4 d1.Body.Idx.length c4, vs a5 d1.Body.Args.length c5])) (cs := #[(str d1.Name), vi d1.Type_.Kind, vi d1.Type_.Bits, vi d1.Type_.Frac, vi d1.Type_.Round, vi d1.Type_.Over, vs a1 d1.Dims.length c1, vs a2 d1.Red.length c2, vi d1.Fold, vi d1.Body.Op, (str d1.Body.Name), vi d1.Body.Val.N, vi d1.Body.Val.D, vi d1.Body.Type_.Kind, vi d1.Body.Type_.Bits, vi d1.Body.Type_.Frac, vi d1.Body.Type_.Round, vi d1.Body.Type_.Over, vi d1.Body.Lin.K, vs a3 d1.Body.Lin.L.length c3, vs a4 d1.Body.Idx.length c4, vs a5 d1.Body.Args.length c5]) hI gn rfl rfl et rfl ?_)
 clear hI; intro b1 c6 w1 hI
 obtain ⟨c7, hI⟩ := hI.relBox .z
 refine sac ?_
 refine nk (c_seq (sr (sq (y_loadN (l := [(str d1.Name), vi d1.Type_.Kind, vi d1.Type_.Bits, vi d1.Type_.Frac, vi d1.Type_.Round, vi d1.Type_.Over, vs a1 d1.Dims.length c1, vs a2 d1.Red.length c2, vi d1.Fold, vi d1.Body.Op, (str d1.Body.Name), vi d1.Body.Val.N, vi d1.Body.Val.D, vi d1.Body.Type_.Kind, vi d1.Body.Type_.Bits, vi d1.Body.Type_.Frac, vi d1.Body.Type_.Round, vi d1.Body.Type_.Over, vi d1.Body.Lin.K, vs a3 d1.Body.Lin.L.length c3, vs a4 d1.Body.Idx.length c4, vs a5 d1.Body.Args.length c5]) rfl et u49 rfl size_49 (hI.kblk (l := [(str d1.Name), vi d1.Type_.Kind, vi d1.Type_.Bits, vi d1.Type_.Frac, vi d1.Type_.Round, vi d1.Type_.Over, vs a1 d1.Dims.length c1, vs a2 d1.Red.length c2, vi d1.Fold, vi d1.Body.Op, (str d1.Body.Name), vi d1.Body.Val.N, vi d1.Body.Val.D, vi d1.Body.Type_.Kind, vi d1.Body.Type_.Bits, vi d1.Body.Type_.Frac, vi d1.Body.Type_.Round, vi d1.Body.Type_.Over, vi d1.Body.Lin.K, vs a3 d1.Body.Lin.L.length c3, vs a4 d1.Body.Idx.length c4, vs a5 d1.Body.Args.length c5]) .z rfl).1) ?_)))
 obtain ⟨r1, hx1, h⟩ := bnd_some h
 refine s_call gn rfl (r_callF (vs := [(Value.agg #[(str d1.Name), vi d1.Type_.Kind, vi d1.Type_.Bits, vi d1.Type_.Frac, vi d1.Type_.Round, vi d1.Type_.Over, vs a1 d1.Dims.length c1, vs a2 d1.Red.length c2, vi d1.Fold, vi d1.Body.Op, (str d1.Body.Name), vi d1.Body.Val.N, vi d1.Body.Val.D, vi d1.Body.Type_.Kind, vi d1.Body.Type_.Bits, vi d1.Body.Type_.Frac, vi d1.Body.Type_.Round, vi d1.Body.Type_.Over, vi d1.Body.Lin.K, vs a3 d1.Body.Lin.L.length c3, vs a4 d1.Body.Idx.length c4, vs a5 d1.Body.Args.length c5])]) rfl ok_21 ⟨et, trivial⟩) (Calls.mono (c_ref15_SmallDef (Dj F c7) w1 hI.lt d1 a1 c1 a2 c2 a3 c3 a4 c4 a5 c5 ⟨(hI.get (.s .z)), (hI.get (.s (.s .z))), (hI.get (.s (.s (.s .z)))), (hI.get (.s (.s (.s (.s .z))))), (hI.get (.s (.s (.s (.s (.s .z)))))), trivial⟩ r1 hx1) ?_)
 rintro _ w2 ⟨rfl, hx2, hl1⟩
 refine ⟨_, rfl, ?_⟩
 replace hI := (hI.ext hx2)
 refine sq (y_not rfl et) ?_
 refine nk (cif h et (fun hb h => ?_) (fun hb h => ?_))
 ·refine sr ?_
  obtain ⟨r2, hx3, h⟩ := bnd_some h
  refine s_call gn rfl (r_callF (vs := []) rfl ok_12 trivial) (Calls.mono (c_law15_alive (Dj F c7) w2 hI.lt ⟨(hI.get (.s (.s (.s (.s (.s (.s .z))))))), (hI.get (.s (.s (.s (.s (.s (.s (.s .z)))))))), trivial⟩ r2 hx3) ?_)
  rintro _ w3 ⟨rfl, hx4, hl2⟩
  refine ⟨_, rfl, ?_⟩
  replace hI := (hI.ext hx4)
  refine sa ?_
  refine nk (c_ret ?_)
  obtain rfl := some_inj h
  exact q_ret (vs := [vb r2]) Tryz.results7 ⟨ev_tmp rfl rfl, trivial⟩ (fq hI trivial)
 refine c_skip (k_same (c_seq (c_drawX [] false (.c (0, .q) (.c (2, .q) (.c (1, .s) (.c (3, .s) (.c (4, .q) (.c (5, .q) (.c (6, .s) (.c (7, .q) (.c (8, .q) .n))))))))) hI (by kernel_rfl) (by kernel_rfl) ?_)))
 clear hI; intro w4 hI
 refine a_read rfl gn rfl (fun w' hw' => (y_loadN (l := [(str d1.Name), vi d1.Type_.Kind, vi d1.Type_.Bits, vi d1.Type_.Frac, vi d1.Type_.Round, vi d1.Type_.Over, vs a1 d1.Dims.length c1, vs a2 d1.Red.length c2, vi d1.Fold, vi d1.Body.Op, (str d1.Body.Name), vi d1.Body.Val.N, vi d1.Body.Val.D, vi d1.Body.Type_.Kind, vi d1.Body.Type_.Bits, vi d1.Body.Type_.Frac, vi d1.Body.Type_.Round, vi d1.Body.Type_.Over, vi d1.Body.Lin.K, vs a3 d1.Body.Lin.L.length c3, vs a4 d1.Body.Idx.length c4, vs a5 d1.Body.Args.length c5]) rfl et u49 rfl size_49 ((hI.kblk (l := [(str d1.Name), vi d1.Type_.Kind, vi d1.Type_.Bits, vi d1.Type_.Frac, vi d1.Type_.Round, vi d1.Type_.Over, vs a1 d1.Dims.length c1, vs a2 d1.Red.length c2, vi d1.Fold, vi d1.Body.Op, (str d1.Body.Name), vi d1.Body.Val.N, vi d1.Body.Val.D, vi d1.Body.Type_.Kind, vi d1.Body.Type_.Bits, vi d1.Body.Type_.Frac, vi d1.Body.Type_.Round, vi d1.Body.Type_.Over, vi d1.Body.Lin.K, vs a3 d1.Body.Lin.L.length c3, vs a4 d1.Body.Idx.length c4, vs a5 d1.Body.Args.length c5]) .z rfl).at_ (SX.any rfl hw')))) (by kernel_rfl) ?_
 refine a_read rfl gn rfl (fun w' hw' => (y_loadN (l := [(str d1.Name), vi d1.Type_.Kind, vi d1.Type_.Bits, vi d1.Type_.Frac, vi d1.Type_.Round, vi d1.Type_.Over, vs a1 d1.Dims.length c1, vs a2 d1.Red.length c2, vi d1.Fold, vi d1.Body.Op, (str d1.Body.Name), vi d1.Body.Val.N, vi d1.Body.Val.D, vi d1.Body.Type_.Kind, vi d1.Body.Type_.Bits, vi d1.Body.Type_.Frac, vi d1.Body.Type_.Round, vi d1.Body.Type_.Over, vi d1.Body.Lin.K, vs a3 d1.Body.Lin.L.length c3, vs a4 d1.Body.Idx.length c4, vs a5 d1.Body.Args.length c5]) rfl et u49 rfl size_49 ((hI.kblk (l := [(str d1.Name), vi d1.Type_.Kind, vi d1.Type_.Bits, vi d1.Type_.Frac, vi d1.Type_.Round, vi d1.Type_.Over, vs a1 d1.Dims.length c1, vs a2 d1.Red.length c2, vi d1.Fold, vi d1.Body.Op, (str d1.Body.Name), vi d1.Body.Val.N, vi d1.Body.Val.D, vi d1.Body.Type_.Kind, vi d1.Body.Type_.Bits, vi d1.Body.Type_.Frac, vi d1.Body.Type_.Round, vi d1.Body.Type_.Over, vi d1.Body.Lin.K, vs a3 d1.Body.Lin.L.length c3, vs a4 d1.Body.Idx.length c4, vs a5 d1.Body.Args.length c5]) .z rfl).at_ (SX.any rfl hw')))) (by kernel_rfl) ?_
 obtain ⟨r3, hx5, h⟩ := bnd_some h
 refine la_call rfl gn rfl (r_callF (vs := [(Value.agg #[(str d1.Name), vi d1.Type_.Kind, vi d1.Type_.Bits, vi d1.Type_.Frac, vi d1.Type_.Round, vi d1.Type_.Over, vs a1 d1.Dims.length c1, vs a2 d1.Red.length c2, vi d1.Fold, vi d1.Body.Op, (str d1.Body.Name), vi d1.Body.Val.N, vi d1.Body.Val.D, vi d1.Body.Type_.Kind, vi d1.Body.Type_.Bits, vi d1.Body.Type_.Frac, vi d1.Body.Type_.Round, vi d1.Body.Type_.Over, vi d1.Body.Lin.K, vs a3 d1.Body.Lin.L.length c3, vs a4 d1.Body.Idx.length c4, vs a5 d1.Body.Args.length c5])]) rfl ok_22 ⟨et, trivial⟩) (Calls.mono (c_printer_Def (Dj F c7) w4 hI.lt d1 a1 c1 a2 c2 a3 c3 a4 c4 a5 c5 ⟨(hI.get (.s .z)), (hI.get (.s (.s .z))), (hI.get (.s (.s (.s .z)))), (hI.get (.s (.s (.s (.s .z))))), (hI.get (.s (.s (.s (.s (.s .z)))))), (hI.get (.s (.s (.s (.s (.s (.s (.s .z)))))))), (hI.get (.s (.s (.s (.s (.s (.s .z))))))), trivial⟩ r3 hx5) ?_)
 rintro _ w5 ⟨rfl, hx6, hl3⟩
 refine ⟨_, rfl, hx6, ?_⟩
 replace hI := (hI.ext hx6)
 obtain ⟨r4, hx7, h⟩ := bnd_some h
 refine la_call rfl gn rfl (r_callF (vs := [(Value.agg #[(str d1.Name), vi d1.Type_.Kind, vi d1.Type_.Bits, vi d1.Type_.Frac, vi d1.Type_.Round, vi d1.Type_.Over, vs a1 d1.Dims.length c1, vs a2 d1.Red.length c2, vi d1.Fold, vi d1.Body.Op, (str d1.Body.Name), vi d1.Body.Val.N, vi d1.Body.Val.D, vi d1.Body.Type_.Kind, vi d1.Body.Type_.Bits, vi d1.Body.Type_.Frac, vi d1.Body.Type_.Round, vi d1.Body.Type_.Over, vi d1.Body.Lin.K, vs a3 d1.Body.Lin.L.length c3, vs a4 d1.Body.Idx.length c4, vs a5 d1.Body.Args.length c5])]) rfl ok_23 ⟨et, trivial⟩) (Calls.mono (c_ref15_Def (Dj F c7) w5 hI.lt d1 a1 c1 a2 c2 a3 c3 a4 c4 a5 c5 ⟨(hI.get (.s .z)), (hI.get (.s (.s .z))), (hI.get (.s (.s (.s .z)))), (hI.get (.s (.s (.s (.s .z))))), (hI.get (.s (.s (.s (.s (.s .z)))))), trivial⟩ r4 hx7) ?_)
 rintro _ w6 ⟨rfl, hx8, hl4⟩
 refine ⟨_, rfl, hx8, ?_⟩
 replace hI := (hI.ext hx8)
 refine a_q rfl gn rfl (fun w' => y_eqs rfl et et) ?_
 refine a_q rfl gn rfl (fun w' => y_move rfl et) ?_
 obtain ⟨r5, hx9, h⟩ := bnd_some h
 replace hx9 := gd_some hx9
 refine la_gcallU (v := (vb r5)) rfl (g_true rfl rfl rfl rfl) rfl (fun hc => (r_callF (vs := []) rfl ok_12 trivial)) (fun hc => (c_law15_alive (Dj F c7) w6 hI.lt ⟨(hI.get (.s (.s (.s (.s (.s (.s .z))))))), (hI.get (.s (.s (.s (.s (.s (.s (.s .z)))))))), trivial⟩ r5 (hx9 hc)).mono fun _ _ k => ⟨k.1, k.2.1⟩) ?_
 intro w7 hx10; replace hI := hI.ext hx10
 refine a_q rfl gn rfl (fun w' => y_and rfl et et) ?_
 refine a_q rfl gn rfl (fun w' => y_assign rfl et) ?_
 refine a_nil ?_
 refine k_same (c_ret ?_)
 obtain rfl := some_inj h
 exact q_ret (vs := [(vb ((decide (r3 = r4)) && r5))]) Tryz.results7 ⟨ev_tmp rfl rfl, trivial⟩ (fq hI trivial)
end Go.Proofs.YtebpdmfmknfkjaaGreatDoor
