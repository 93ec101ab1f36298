import Derived.Test.YtebpdmfmknfkjaaGreatDoorSCQ5c
namespace Go.Proofs.YtebpdmfmknfkjaaGreatDoor
open Go Go.RowKit Go.Vc
set_option maxRecDepth 100000
set_option maxHeartbeats 4000000
set_option linter.unusedVariables false
set_option linter.unusedSimpArgs false
theorem c_printer_axes_valid (F : NP) (w0 : World) (hF : ∀ k, F k → k < w0.heap.size) (l1 : List GAxis) (a1 : Option Addr) (c1 : Nat) (hc : AllCl [Cl.sl cGAxis a1 c1 l1, clSpace] F w0) (r : Bool)
  (h : m_printer_axes_valid l1 = some r) :
  Calls Tryz.prog 55 #[vs a1 l1.length c1] w0 fun e w => e = .returned (vb r) ∧ Ext w0 w ∧ AllCl [] F w := by
 refine enterK Tryz.func55 rfl Tryz.ntmps55 rfl ?_
 have hI := Bun.start hF hc
 clear hc
 rw [m_printer_axes_valid] at h
 refine sr (sac ?_)
 refine nk (c_seq (sr (sm ?_)))
 refine sq (y_lenl rfl u89 et) ?_
 refine sq (y_move rfl ev_const) ?_
 refine nk (c_block (c_loop (α := Nat × Int) (fun x => fun w => ∃ C, Bun noM F w0 C w [] [Cl.sl cGAxis a1 c1 l1, clSpace] ∧ m_printer_axes_valid_l1 l1 (x.1) (x.2) = some r) (fun x _ => x.1) (fun x => [(5, vs a1 l1.length c1), (6, vi (l1.length : Int)), (7, vi (x.2))]) (fu, 0) ⟨_, hI.arr .n ⟨.z, (.s .z), trivial⟩, h⟩ ⟨rfl, rfl, rfl, trivial⟩ ?_))
 clear h hI; rintro ⟨fuel1, i1⟩ w1 ⟨c2, hI, h⟩
 dsimp only at hI h
 rcases fuel1 with _ | fuel1
 ·rw [m_printer_axes_valid_l1] at h; cases h
 rw [m_printer_axes_valid_l1] at h
 refine c_sub (e := [(5, vs a1 l1.length c1), (6, vi (l1.length : Int)), (7, vi i1)]) ⟨rfl, rfl, rfl, trivial⟩ ?_
 refine sr (sq (y_lss rfl et et) ?_)
 refine nk (c_seq (cif h et (fun hb h => ?_) (fun hb h => ?_)))
 ·refine c_skip (k_same (c_seq (c_block (sr ?_))))
  obtain ⟨e1, hx1, h⟩ := bnd_some h
  obtain ⟨ad1, cs1, hA1, hr1, hq1⟩ := hI.clat .z hx1
  obtain ⟨a2, c3, rfl, hf1⟩ := hr1
  have hI := hI.add (c := Cl.sl cGMono a2 c3 e1.Size.L) hf1
  refine sq (y_indexAddr rfl u89 size_133 et et (lat_bd hx1) hA1) ?_
  refine sq (y_loadN (l := [(str e1.Name), vi e1.Size.K, vs a2 e1.Size.L.length c3]) rfl et u133 rfl size_133 hq1.1) ?_
  refine l_alloc (cs := #[(str ([] : List UInt8)), vi 0, vs none 0 0]) hI gn rfl rfl zero_133 rfl ?_
  clear hI; intro b1 c4 w2 hI
  refine l_store (new := [(str e1.Name), vi e1.Size.K, vs a2 e1.Size.L.length c3]) (cs' := #[(str e1.Name), vi e1.Size.K, vs a2 e1.Size.L.length c3]) hI .z gn rfl rfl et et rfl size_133 rfl rfl rfl ?_
  clear hI; intro c5 w3 hI
  refine nk (sr (sq (y_fieldAddr rfl et u133 rfl size_9 rfl) ?_))
  refine sq (y_load1 (v := (str e1.Name)) rfl et u9 rfl (CellsAt.of_blk (hI.blk .z) rfl)) ?_
  obtain ⟨r1, hx2, h⟩ := bnd_some h
  refine s_call gn rfl (r_callF (vs := [(str e1.Name)]) rfl ok_37 ⟨et, trivial⟩) (Calls.mono (c_lexer_IsName (Dj F c5) w3 hI.lt e1.Name ⟨(hI.get (.s (.s .z))), trivial⟩ r1 hx2) ?_)
  rintro _ w4 ⟨rfl, hx3, hl1⟩
  refine ⟨_, rfl, ?_⟩
  replace hI := (hI.ext hx3)
  refine sq (y_not rfl et) ?_
  refine sm ?_
  refine s_gval (g_false rfl rfl rfl rfl) rfl (fun hc => y_fieldAddr rfl et u133 rfl size_29 rfl) ?_
  refine s_gval (g_false rfl rfl rfl rfl) rfl (fun hc => (y_loadN (l := (lLin e1.Size a2 c3)) rfl (ev_gv et hc) u29 rfl size_29 (CellsAt.of_blk (hI.blk .z) rfl))) ?_
  obtain ⟨r2, hx4, h⟩ := bnd_some h
  replace hx4 := gd_some hx4
  refine s_gcallU (v := (vi r2)) (g_false rfl rfl rfl rfl) rfl (fun hc => (r_callF (vs := [(Value.agg (ALin e1.Size a2 c3))]) rfl ok_34 ⟨(ev_gv et hc), trivial⟩)) (fun hc => (c_lin_Validate (Dj F c5) w4 hI.lt e1.Size a2 c3 ⟨(hI.get .z), trivial⟩ r2 (hx4 hc)).mono fun _ _ k => ⟨k.1, k.2.1⟩) ?_
  intro w5 hx5; replace hI := hI.ext hx5
  refine s_gval (g_false rfl rfl rfl rfl) rfl (fun hc => y_neq rfl (ev_gv et hc) ev_const) ?_
  refine sq (y_or rfl et et) ?_
  refine nk (cif h et (fun hb h => ?_) (fun hb h => ?_))
  ·refine sr (sac ?_)
   refine nk (c_ret ?_)
   obtain rfl := some_inj h
   exact q_ret (vs := [vb false]) Tryz.results55 ⟨ev_tmp rfl rfl, trivial⟩ (fq hI trivial)
  refine c_skip (k_same (c_region rfl ?_))
  refine sq (y_add rfl et ev_const) ?_
  refine sm ?_
  refine s_nil ?_
  exact k_loop (fuel1, wi64 (i1 + 1)) ⟨rfl, rfl, rfl, trivial⟩ ⟨_, hI.arr .n ⟨(.s .z), (.s (.s .z)), trivial⟩, h⟩ (Nat.lt_succ_self _)
 refine c_exit ?_
 refine k_in ?_
 refine k_same (sr (sac ?_))
 refine nk (c_ret ?_)
 obtain rfl := some_inj h
 exact q_ret (vs := [vb true]) Tryz.results55 ⟨ev_tmp rfl rfl, trivial⟩ (fq hI trivial)
theorem c_printer_axes_item (F : NP) (w0 : World) (hF : ∀ k, F k → k < w0.heap.size) (l1 : List GAxis) (i1 : Int) (a1 : Option Addr) (c1 : Nat) (hc : AllCl [Cl.sl cGAxis a1 c1 l1, clPow10] F w0) (r : List UInt8)
  (h : m_printer_axes_item l1 i1 = some r) :
  Calls Tryz.prog 56 #[vs a1 l1.length c1, vi i1] w0 fun e w => e = .returned (str r) ∧ Ext w0 w ∧ AllCl [] F w := by
 refine enterK Tryz.func56 rfl Tryz.ntmps56 rfl ?_
 have hI := Bun.start hF hc
 clear hc
 rw [m_printer_axes_item] at h
 refine sr (sac ?_)
 refine nk (c_seq (c_drawX [] false (.c (0, .q) (.c (1, .q) (.c (2, .q) (.c (3, .q) (.c (4, .q) (.c (5, .q) (.c (6, .q) (.c (7, .q) (.c (8, .q) (.c (9, .q) (.c (10, .q) (.c (11, .s) (.c (12, .q) (.c (13, .q) .n)))))))))))))) hI (by kernel_rfl) (by kernel_rfl) ?_))
 clear hI; intro w1 hI
 refine a_q rfl gn rfl (fun w' => y_move rfl et) ?_
 refine a_q rfl gn rfl (fun w' => y_move rfl et) ?_
 obtain ⟨e1, hx1, h⟩ := bnd_some h
 obtain ⟨ad1, cs1, hA1, hr1, hq1⟩ := hI.clat .z hx1
 obtain ⟨a2, c2, rfl, hf1⟩ := hr1
 have hI := hI.add (c := Cl.sl cGMono a2 c2 e1.Size.L) hf1
 refine a_q rfl gn rfl (fun w' => y_indexAddr rfl u89 size_133 et et (lat_bd hx1) hA1) ?_
 refine a_q rfl gn rfl (fun w' => y_fieldAddr rfl et u133 rfl size_9 rfl) ?_
 refine a_read rfl gn rfl (fun w' hw' => (y_load1 (v := (str e1.Name)) rfl et u9 rfl ((CA.part hq1 rfl).at_ (SX.any rfl hw')))) (by kernel_rfl) ?_
 obtain ⟨s1, hx2, h⟩ := bnd_some h
 refine a_q rfl gn rfl (fun w' => y_catl rfl et ev_const hx2) ?_
 refine a_q rfl gn rfl (fun w' => y_move rfl et) ?_
 refine a_q rfl gn rfl (fun w' => y_move rfl et) ?_
 obtain ⟨e2, hx3, h⟩ := bnd_some h
 obtain ⟨ad2, cs2, hA2, hr2, hq2⟩ := hI.clat (.s .z) hx3
 obtain ⟨a3, c3, rfl, hf2⟩ := hr2
 have hI := hI.add (c := Cl.sl cGMono a3 c3 e2.Size.L) hf2
 refine a_q rfl gn rfl (fun w' => y_indexAddr rfl u89 size_133 et et (lat_bd hx3) hA2) ?_
 refine a_q rfl gn rfl (fun w' => y_fieldAddr rfl et u133 rfl size_29 rfl) ?_
 refine a_read rfl gn rfl (fun w' hw' => (y_loadN (l := (lLin e2.Size a3 c3)) rfl et u29 rfl size_29 ((CA.part hq2 rfl).at_ (SX.any rfl hw')))) (by kernel_rfl) ?_
 obtain ⟨r1, hx4, h⟩ := bnd_some h
 refine la_call rfl gn rfl (r_callF (vs := [(Value.agg (ALin e2.Size a3 c3))]) rfl ok_36 ⟨et, trivial⟩) (Calls.mono (c_lin_Format (Dj F noM) w1 hI.lt e2.Size a3 c3 ⟨(hI.get .z), (hI.get (.s (.s (.s .z)))), trivial⟩ r1 hx4) ?_)
 rintro _ w2 ⟨rfl, hx5, hl1⟩
 refine ⟨_, rfl, hx5, ?_⟩
 replace hI := (hI.ext hx5)
 obtain ⟨s2, hx6, h⟩ := bnd_some h
 refine a_q rfl gn rfl (fun w' => y_catl rfl et et hx6) ?_
 refine a_q rfl gn rfl (fun w' => y_assign rfl et) ?_
 refine a_nil ?_
 refine k_same (c_ret ?_)
 obtain rfl := some_inj h
 exact q_ret (vs := [(str s2)]) Tryz.results56 ⟨ev_tmp rfl rfl, trivial⟩ (fq hI trivial)
theorem c_printer_fold (F : NP) (w0 : World) (hF : ∀ k, F k → k < w0.heap.size) (d1 : GDef) (a1 : Option Addr) (c1 : Nat) (a2 : Option Addr) (c2 : Nat) (a3 : Option Addr) (c3 : Nat) (a4 : Option Addr) (c4 : Nat) (a5 : Option Addr) (c5 : Nat) (hc : AllCl [Cl.sl cGAxis a1 c1 d1.Dims, Cl.sl cGAxis a2 c2 d1.Red, Cl.sl cGMono a3 c3 d1.Body.Lin.L, Cl.sl cGIndex a4 c4 d1.Body.Idx, Cl.sl cGExpr a5 c5 d1.Body.Args, clPow10] F w0) (r : List UInt8)
  (h : m_printer_fold d1 = some r) :
  Calls Tryz.prog 57 #[(Value.agg #[(str d1.Name), vi d1.Type_.Kind, vi d1.Type_.Bits, vi d1.Type_.Frac, vi d1.Type_.Round, vi d1.Type_.Over, vs a1 d1.Dims.length c1, vs a2 d1.Red.length c2, vi d1.Fold, vi d1.Body.Op, (str d1.Body.Name), vi d1.Body.Val.N, vi d1.Body.Val.D, vi d1.Body.Type_.Kind, vi d1.Body.Type_.Bits, vi d1.Body.Type_.Frac, vi d1.Body.Type_.Round, vi d1.Body.Type_.Over, vi d1.Body.Lin.K, vs a3 d1.Body.Lin.L.length c3, vs a4 d1.Body.Idx.length c4, vs a5 d1.Body.Args.length c5])] w0 fun e w => e = .returned (str r) ∧ Ext w0 w ∧ AllCl [] F w := by
 refine enterK Tryz.func57 rfl Tryz.ntmps57 rfl ?_
 have hI := Bun.start hF hc
 clear hc
 rw [m_printer_fold] at h
 refine sr (l_box (v := (Value.agg #[(str d1.Name), vi d1.Type_.Kind, vi d1.Type_.Bits, vi d1.Type_.Frac, vi d1.Type_.Round, vi d1.Type_.Over, vs a1 d1.Dims.length c1, vs a2 d1.Red.length c2, vi d1.Fold, vi d1.Body.Op, (str d1.Body.Name), vi d1.Body.Val.N, vi d1.Body.Val.D, vi d1.Body.Type_.Kind, vi d1.Body.Type_.Bits, vi d1.Body.Type_.Frac, vi d1.Body.Type_.Round, vi d1.Body.Type_.Over, vi d1.Body.Lin.K, vs a3 d1.Body.Lin.L.length c3, vs a4 d1.Body.Idx.length c4, vs a5 d1.Body.Args.length c5])) (cs := #[(str d1.Name), vi d1.Type_.Kind, vi d1.Type_.Bits, vi d1.Type_.Frac, vi d1.Type_.Round, vi d1.Type_.Over, vs a1 d1.Dims.length c1, vs a2 d1.Red.length c2, vi d1.Fold, vi d1.Body.Op, (str d1.Body.Name), vi d1.Body.Val.N, vi d1.Body.Val.D, vi d1.Body.Type_.Kind, vi d1.Body.Type_.Bits, vi d1.Body.Type_.Frac, vi d1.Body.Type_.Round, vi d1.Body.Type_.Over, vi d1.Body.Lin.K, vs a3 d1.Body.Lin.L.length c3, vs a4 d1.Body.Idx.length c4, vs a5 d1.Body.Args.length c5]) hI gn rfl rfl et rfl ?_)
 clear hI; intro b1 c6 w1 hI
 obtain ⟨c7, hI⟩ := hI.relBox .z
 refine sac ?_
 refine nk (sr (sac ?_))
 refine nk (c_join (α := (List UInt8)) (fun _ => ⟨34, []⟩) (fun x => [(1, vp b1 0), (3, (str x))]) (fun x => fun w => ∃ C, Bun noM F w0 C w [] [Cl.blk b1 49 #[(str d1.Name), vi d1.Type_.Kind, vi d1.Type_.Bits, vi d1.Type_.Frac, vi d1.Type_.Round, vi d1.Type_.Over, vs a1 d1.Dims.length c1, vs a2 d1.Red.length c2, vi d1.Fold, vi d1.Body.Op, (str d1.Body.Name), vi d1.Body.Val.N, vi d1.Body.Val.D, vi d1.Body.Type_.Kind, vi d1.Body.Type_.Bits, vi d1.Body.Type_.Frac, vi d1.Body.Type_.Round, vi d1.Body.Type_.Over, vi d1.Body.Lin.K, vs a3 d1.Body.Lin.L.length c3, vs a4 d1.Body.Idx.length c4, vs a5 d1.Body.Args.length c5], Cl.sl cGAxis a1 c1 d1.Dims, Cl.sl cGAxis a2 c2 d1.Red, Cl.sl cGMono a3 c3 d1.Body.Lin.L, Cl.sl cGIndex a4 c4 d1.Body.Idx, Cl.sl cGExpr a5 c5 d1.Body.Args, clPow10] ∧ m_printer_fold_j1 d1 x = some r) ?_ ?_)
 ·clear h hI; rintro word1 w2 ⟨c8, hI, h⟩
  try dsimp only at hI h
  rw [m_printer_fold_j1] at h
  refine c_sub (e := [(1, vp b1 0), (3, (str word1))]) ⟨rfl, rfl, trivial⟩ ?_
  refine c_seq (sr (sq (y_fieldAddr rfl et u49 rfl size_47 rfl) ?_))
  refine sq (y_load1 (v := (vs a2 d1.Red.length c2)) rfl et u47 rfl (hI.kblk (l := [vs a2 d1.Red.length c2]) .z rfl).1) ?_
  refine sa ?_
  refine nk (sr (sm ?_))
  refine sq (y_lenl rfl u89 et) ?_
  refine sq (y_gtr rfl et ev_const) ?_
  refine nk (cif h et (fun hb h => ?_) (fun hb h => ?_))
  ·refine c_region rfl ?_
   refine sm ?_
   refine sm ?_
   refine sq (y_lenl rfl u89 et) ?_
   refine sm ?_
   refine sq (y_makeBound (vs := [vs a2 d1.Red.length c2]) rfl rfl ⟨et, trivial⟩) ?_
   have hI := hI.add (c := clFn_k5 (Value.func (.func 56) #[vs a2 d1.Red.length c2] #[]) (m_printer_axes_item d1.Red)) ⟨rfl, fun D' w' hs hl x_1 r k h => CallV.fnB (fs := [vs a2 d1.Red.length c2]) ok_56 (c_printer_axes_item D' w' hl d1.Red x_1 a2 c2 ⟨(Cl.sp _ hs (hI.get (.s (.s .z)))), (Cl.sp _ hs (hI.get (.s (.s (.s (.s (.s (.s .z)))))))), trivial⟩ r h)⟩
   obtain ⟨r1, hx1, h⟩ := bnd_some h
   refine s_call gn rfl (r_callF (vs := [vi (d1.Red.length : Int), (Value.func (.func 56) #[vs a2 d1.Red.length c2] #[])]) rfl ok_38 ⟨et, ⟨et, trivial⟩⟩) (Calls.mono (c_printer_list (Dj F c8) w2 hI.lt (d1.Red.length : Int) (m_printer_axes_item d1.Red) (Value.func (.func 56) #[vs a2 d1.Red.length c2] #[]) ⟨(hI.get .z), trivial⟩ r1 hx1) ?_)
   rintro _ w3 ⟨rfl, hx2, hl1⟩
   refine ⟨_, rfl, ?_⟩
   replace hI := (hI.ext hx2)
   obtain ⟨s1, hx3, h⟩ := bnd_some h
   refine sq (y_catl rfl ev_const et hx3) ?_
   obtain ⟨s2, hx4, h⟩ := bnd_some h
   refine sq (y_catl rfl et et hx4) ?_
   refine sa ?_
   refine nk (sr (sm ?_))
   obtain ⟨s3, hx5, h⟩ := bnd_some h
   refine sq (y_catl rfl et ev_const hx5) ?_
   refine sa ?_
   refine nk (c_ret ?_)
   obtain rfl := some_inj h
   exact q_ret (vs := [(str s3)]) Tryz.results57 ⟨ev_tmp rfl rfl, trivial⟩ (fq hI trivial)
  refine c_skip (k_same (sr (sm ?_)))
  obtain ⟨s4, hx6, h⟩ := bnd_some h
  refine sq (y_catl rfl et ev_const hx6) ?_
  refine sa ?_
  refine nk (c_ret ?_)
  obtain rfl := some_inj h
  exact q_ret (vs := [(str s4)]) Tryz.results57 ⟨ev_tmp rfl rfl, trivial⟩ (fq hI trivial)
 refine sr (sq (y_fieldAddr rfl et u49 rfl size_3 rfl) ?_)
 refine sq (y_load1 (v := (vi d1.Fold)) rfl et u3 rfl (hI.kblk (l := [vi d1.Fold]) .z rfl).1) ?_
 refine nk (c_block (sr (sq (y_eql rfl et ev_const) ?_)))
 refine sa ?_
 refine nk (cif h et (fun hb h => ?_) (fun hb h => ?_))
 ·refine sr (sac ?_)
  refine nk (c_ret ?_)
  obtain rfl := some_inj h
  exact q_ret (vs := [(str ([] : List UInt8))]) Tryz.results57 ⟨ev_tmp rfl rfl, trivial⟩ (fq hI trivial)
 refine sr (sq (y_eql rfl et ev_const) ?_)
 refine sa ?_
 refine nk (cif h et (fun hb h => ?_) (fun hb h => ?_))
 ·refine c_region rfl ?_
  obtain ⟨word2, hx7, h⟩ := bnd_some h
  refine sq (binU (y_assign rfl ev_const) (congrArg (fun l => str l) (some_inj hx7))) ?_
  refine s_nil ?_
  exact k_join word2 ⟨rfl, rfl, trivial⟩ ⟨_, hI.arr .n ⟨.z, (.s .z), (.s (.s .z)), (.s (.s (.s .z))), (.s (.s (.s (.s .z)))), (.s (.s (.s (.s (.s .z))))), (.s (.s (.s (.s (.s (.s .z)))))), trivial⟩, h⟩ rfl
 refine sr (sq (y_eql rfl et ev_const) ?_)
 refine sa ?_
 refine nk (cif h et (fun hb h => ?_) (fun hb h => ?_))
 ·refine c_region rfl ?_
  obtain ⟨word3, hx8, h⟩ := bnd_some h
  refine sq (binU (y_assign rfl ev_const) (congrArg (fun l => str l) (some_inj hx8))) ?_
  refine s_nil ?_
  exact k_join word3 ⟨rfl, rfl, trivial⟩ ⟨_, hI.arr .n ⟨.z, (.s .z), (.s (.s .z)), (.s (.s (.s .z))), (.s (.s (.s (.s .z)))), (.s (.s (.s (.s (.s .z))))), (.s (.s (.s (.s (.s (.s .z)))))), trivial⟩, h⟩ rfl
 refine sr (sq (y_eql rfl et ev_const) ?_)
 refine sa ?_
 refine nk (cif h et (fun hb h => ?_) (fun hb h => ?_))
 ·refine c_region rfl ?_
  obtain ⟨word4, hx9, h⟩ := bnd_some h
  refine sq (binU (y_assign rfl ev_const) (congrArg (fun l => str l) (some_inj hx9))) ?_
  refine s_nil ?_
  exact k_join word4 ⟨rfl, rfl, trivial⟩ ⟨_, hI.arr .n ⟨.z, (.s .z), (.s (.s .z)), (.s (.s (.s .z))), (.s (.s (.s (.s .z)))), (.s (.s (.s (.s (.s .z))))), (.s (.s (.s (.s (.s (.s .z)))))), trivial⟩, h⟩ rfl
 refine sr (sq (y_eql rfl et ev_const) ?_)
 refine sa ?_
 refine nk (cif h et (fun hb h => ?_) (fun hb h => ?_))
 ·refine c_region rfl ?_
  obtain ⟨word5, hx10, h⟩ := bnd_some h
  refine sq (binU (y_assign rfl ev_const) (congrArg (fun l => str l) (some_inj hx10))) ?_
  refine s_nil ?_
  exact k_join word5 ⟨rfl, rfl, trivial⟩ ⟨_, hI.arr .n ⟨.z, (.s .z), (.s (.s .z)), (.s (.s (.s .z))), (.s (.s (.s (.s .z)))), (.s (.s (.s (.s (.s .z))))), (.s (.s (.s (.s (.s (.s .z)))))), trivial⟩, h⟩ rfl
 refine sr (sq (y_eql rfl et ev_const) ?_)
 refine sa ?_
 refine nk (cif h et (fun hb h => ?_) (fun hb h => ?_))
 ·refine c_region rfl ?_
  obtain ⟨word6, hx11, h⟩ := bnd_some h
  refine sq (binU (y_assign rfl ev_const) (congrArg (fun l => str l) (some_inj hx11))) ?_
  refine s_nil ?_
  exact k_join word6 ⟨rfl, rfl, trivial⟩ ⟨_, hI.arr .n ⟨.z, (.s .z), (.s (.s .z)), (.s (.s (.s .z))), (.s (.s (.s (.s .z)))), (.s (.s (.s (.s (.s .z))))), (.s (.s (.s (.s (.s (.s .z)))))), trivial⟩, h⟩ rfl
 exact c_skip (k_join ([] : List UInt8) ⟨rfl, rfl, trivial⟩ ⟨_, hI.arr .n ⟨.z, (.s .z), (.s (.s .z)), (.s (.s (.s .z))), (.s (.s (.s (.s .z)))), (.s (.s (.s (.s (.s .z))))), (.s (.s (.s (.s (.s (.s .z)))))), trivial⟩, h⟩ rfl)
theorem c_printer_Def (F : NP) (w0 : World) (hF : ∀ k, F k → k < w0.heap.size) (d1 : GDef) (a1 : Option Addr) (c1 : Nat) (a2 : Option Addr) (c2 : Nat) (a3 : Option Addr) (c3 : Nat) (a4 : Option Addr) (c4 : Nat) (a5 : Option Addr) (c5 : Nat) (hc : AllCl [Cl.sl cGAxis a1 c1 d1.Dims, Cl.sl cGAxis a2 c2 d1.Red, Cl.sl cGMono a3 c3 d1.Body.Lin.L, Cl.sl cGIndex a4 c4 d1.Body.Idx, Cl.sl cGExpr a5 c5 d1.Body.Args, clSpace, clPow10] F w0) (r : List UInt8)
  (h : m_printer_Def d1 = some r) :
  Calls Tryz.prog 22 #[(Value.agg #[(str d1.Name), vi d1.Type_.Kind, vi d1.Type_.Bits, vi d1.Type_.Frac, vi d1.Type_.Round, vi d1.Type_.Over, vs a1 d1.Dims.length c1, vs a2 d1.Red.length c2, vi d1.Fold, vi d1.Body.Op, (str d1.Body.Name), vi d1.Body.Val.N, vi d1.Body.Val.D, vi d1.Body.Type_.Kind, vi d1.Body.Type_.Bits, vi d1.Body.Type_.Frac, vi d1.Body.Type_.Round, vi d1.Body.Type_.Over, vi d1.Body.Lin.K, vs a3 d1.Body.Lin.L.length c3, vs a4 d1.Body.Idx.length c4, vs a5 d1.Body.Args.length c5])] w0 fun e w => e = .returned (str r) ∧ Ext w0 w ∧ AllCl [] F w := by
 refine enterK Tryz.func22 rfl Tryz.ntmps22 rfl ?_
 have hI := Bun.start hF hc
 clear hc
 rw [m_printer_Def] at h
 refine sr (l_box (v := (Value.agg #[(str d1.Name), vi d1.Type_.Kind, vi d1.Type_.Bits, vi d1.Type_.Frac, vi d1.Type_.Round, vi d1.Type_.Over, vs a1 d1.Dims.length c1, vs a2 d1.Red.length c2, vi d1.Fold, vi d1.Body.Op, (str d1.Body.Name), vi d1.Body.Val.N, vi d1.Body.Val.D, vi d1.Body.Type_.Kind, vi d1.Body.Type_.Bits, vi d1.Body.Type_.Frac, vi d1.Body.Type_.Round, vi d1.Body.Type_.Over, vi d1.Body.Lin.K, vs a3 d1.Body.Lin.L.length c3, vs a4 d1.Body.Idx.length c4, vs a5 d1.Body.Args.length c5])) (cs := #[(str d1.Name), vi d1.Type_.Kind, vi d1.Type_.Bits, vi d1.Type_.Frac, vi d1.Type_.Round, vi d1.Type_.Over, vs a1 d1.Dims.length c1, vs a2 d1.Red.length c2, vi d1.Fold, vi d1.Body.Op, (str d1.Body.Name), vi d1.Body.Val.N, vi d1.Body.Val.D, vi d1.Body.Type_.Kind, vi d1.Body.Type_.Bits, vi d1.Body.Type_.Frac, vi d1.Body.Type_.Round, vi d1.Body.Type_.Over, vi d1.Body.Lin.K, vs a3 d1.Body.Lin.L.length c3, vs a4 d1.Body.Idx.length c4, vs a5 d1.Body.Args.length c5]) hI gn rfl rfl et rfl ?_)
 clear hI; intro b1 c6 w1 hI
 obtain ⟨c7, hI⟩ := hI.relBox .z
 refine sac ?_
 refine nk (c_seq (c_drawX [] false (.c (0, .q) (.c (1, .q) (.c (2, .q) (.c (3, .q) (.c (4, .q) (.c (5, .q) .n)))))) hI (by kernel_rfl) (by kernel_rfl) ?_))
 clear hI; intro w2 hI
 refine a_q rfl gn rfl (fun w' => y_fieldAddr rfl et u49 rfl size_47 rfl) ?_
 refine a_read rfl gn rfl (fun w' hw' => (y_load1 (v := (vs a1 d1.Dims.length c1)) rfl et u47 rfl ((hI.kblk (l := [vs a1 d1.Dims.length c1]) .z rfl).at_ (SX.any rfl hw')))) (by kernel_rfl) ?_
 refine a_q rfl gn rfl (fun w' => y_fieldAddr rfl et u49 rfl size_47 rfl) ?_
 refine a_read rfl gn rfl (fun w' hw' => (y_load1 (v := (vs a2 d1.Red.length c2)) rfl et u47 rfl ((hI.kblk (l := [vs a2 d1.Red.length c2]) .z rfl).at_ (SX.any rfl hw')))) (by kernel_rfl) ?_
 refine a_q rfl gn rfl (fun w' => y_assign rfl et) ?_
 refine a_q rfl gn rfl (fun w' => y_assign rfl et) ?_
 refine a_nil ?_
 refine k_same (c_seq (c_block (sr (sq (y_fieldAddr rfl et u49 rfl size_9 rfl) ?_))))
 refine sq (y_load1 (v := (str d1.Name)) rfl et u9 rfl (hI.kblk (l := [(str d1.Name)]) .z rfl).1) ?_
 obtain ⟨r1, hx1, h⟩ := bnd_some h
 refine s_call gn rfl (r_callF (vs := [(str d1.Name)]) rfl ok_37 ⟨et, trivial⟩) (Calls.mono (c_lexer_IsName (Dj F c7) w2 hI.lt d1.Name ⟨(hI.get (.s (.s (.s (.s (.s (.s .z))))))), trivial⟩ r1 hx1) ?_)
 rintro _ w3 ⟨rfl, hx2, hl1⟩
 refine ⟨_, rfl, ?_⟩
 replace hI := (hI.ext hx2)
 refine sq (y_not rfl et) ?_
 refine sm ?_
 refine s_gval (g_false rfl rfl rfl rfl) rfl (fun hc => y_move rfl et) ?_
 obtain ⟨r2, hx3, h⟩ := bnd_some h
 replace hx3 := gd_some hx3
 refine s_gcallU (v := (vb r2)) (g_false rfl rfl rfl rfl) rfl (fun hc => (r_callF (vs := [vs a1 d1.Dims.length c1]) rfl ok_55 ⟨(ev_gv et hc), trivial⟩)) (fun hc => (c_printer_axes_valid (Dj F c7) w3 hI.lt d1.Dims a1 c1 ⟨(hI.get (.s .z)), (hI.get (.s (.s (.s (.s (.s (.s .z))))))), trivial⟩ r2 (hx3 hc)).mono fun _ _ k => ⟨k.1, k.2.1⟩) ?_
 intro w4 hx4; replace hI := hI.ext hx4
 refine s_gval (g_false rfl rfl rfl rfl) rfl (fun hc => y_not rfl (ev_gv et hc)) ?_
 refine sq (y_or rfl et et) ?_
 refine sm ?_
 refine s_gval (g_false rfl rfl rfl rfl) rfl (fun hc => y_move rfl et) ?_
 obtain ⟨r3, hx5, h⟩ := bnd_some h
 replace hx5 := gd_some hx5
 refine s_gcallU (v := (vb r3)) (g_false rfl rfl rfl rfl) rfl (fun hc => (r_callF (vs := [vs a2 d1.Red.length c2]) rfl ok_55 ⟨(ev_gv et hc), trivial⟩)) (fun hc => (c_printer_axes_valid (Dj F c7) w4 hI.lt d1.Red a2 c2 ⟨(hI.get (.s (.s .z))), (hI.get (.s (.s (.s (.s (.s (.s .z))))))), trivial⟩ r3 (hx5 hc)).mono fun _ _ k => ⟨k.1, k.2.1⟩) ?_
 intro w5 hx6; replace hI := hI.ext hx6
 refine s_gval (g_false rfl rfl rfl rfl) rfl (fun hc => y_not rfl (ev_gv et hc)) ?_
 refine sq (y_or rfl et et) ?_
 refine sm ?_
 refine s_gval (g_false rfl rfl rfl rfl) rfl (fun hc => y_fieldAddr rfl et u49 rfl size_23 rfl) ?_
 refine s_gval (g_false rfl rfl rfl rfl) rfl (fun hc => (y_loadN (l := (lType d1.Type_)) rfl (ev_gv et hc) u23 rfl size_23 (hI.kblk (l := (lType d1.Type_)) .z rfl).1)) ?_
 obtain ⟨r4, hx7, h⟩ := bnd_some h
 replace hx7 := gd_some hx7
 refine s_gcallU (v := (vi r4)) (g_false rfl rfl rfl rfl) rfl (fun hc => (r_callF (vs := [(Value.agg (AType d1.Type_))]) rfl ok_28 ⟨(ev_gv et hc), trivial⟩)) (fun hc => (c_value_ValidateType (Dj F c7) w5 hI.lt d1.Type_ trivial r4 (hx7 hc)).mono fun _ _ k => ⟨k.1, k.2.1⟩) ?_
 intro w6 hx8; replace hI := hI.ext hx8
 refine s_gval (g_false rfl rfl rfl rfl) rfl (fun hc => y_neq rfl (ev_gv et hc) ev_const) ?_
 refine sq (y_or rfl et et) ?_
 refine sa ?_
 refine s_nil ?_
 refine k_next (e := [(1, vp b1 0), (3, vs a1 d1.Dims.length c1), (4, vs a2 d1.Red.length c2), (9, (vb ((((!r1) || (!r2)) || (!r3)) || (!decide (r4 = 0)))))]) ⟨rfl, rfl, rfl, rfl, trivial⟩ ?_
 refine cif h et (fun hb h => ?_) (fun hb h => ?_)
 ·refine sr (sac ?_)
  refine nk (c_ret ?_)
  obtain rfl := some_inj h
  exact q_ret (vs := [(str ([] : List UInt8))]) Tryz.results22 ⟨ev_tmp rfl rfl, trivial⟩ (fq hI trivial)
 refine sr (sq (y_fieldAddr rfl et u49 rfl size_3 rfl) ?_)
 refine sq (y_load1 (v := (vi d1.Fold)) rfl et u3 rfl (hI.kblk (l := [vi d1.Fold]) .z rfl).1) ?_
 refine sq (y_lss rfl et ev_const) ?_
 refine sm ?_
 refine s_gval (g_false rfl rfl rfl rfl) rfl (fun hc => y_fieldAddr rfl et u49 rfl size_3 rfl) ?_
 refine s_gval (g_false rfl rfl rfl rfl) rfl (fun hc => (y_load1 (v := (vi d1.Fold)) rfl (ev_gv et hc) u3 rfl (hI.kblk (l := [vi d1.Fold]) .z rfl).1)) ?_
 refine s_gval (g_false rfl rfl rfl rfl) rfl (fun hc => y_gtr rfl (ev_gv et hc) ev_const) ?_
 refine sq (y_or rfl et et) ?_
 refine sm ?_
 refine s_gval (g_false rfl rfl rfl rfl) rfl (fun hc => y_fieldAddr rfl et u49 rfl size_3 rfl) ?_
 refine s_gval (g_false rfl rfl rfl rfl) rfl (fun hc => (y_load1 (v := (vi d1.Fold)) rfl (ev_gv et hc) u3 rfl (hI.kblk (l := [vi d1.Fold]) .z rfl).1)) ?_
 refine s_gval (g_false rfl rfl rfl rfl) rfl (fun hc => y_eql rfl (ev_gv et hc) ev_const) ?_
 refine s_gval (g_false rfl rfl rfl rfl) rfl (fun hc => y_move rfl (ev_gv et hc)) ?_
 refine s_gval (g_false2 rfl rfl rfl rfl) rfl (fun hc => y_fieldAddr rfl et u49 rfl size_3 rfl) ?_
 refine s_gval (g_false2 rfl rfl rfl rfl) rfl (fun hc => (y_load1 (v := (vi d1.Fold)) rfl (ev_gv et hc) u3 rfl (hI.kblk (l := [vi d1.Fold]) .z rfl).1)) ?_
 refine s_gval (g_false2 rfl rfl rfl rfl) rfl (fun hc => y_eql rfl (ev_gv et hc) ev_const) ?_
 refine s_gval (g_false rfl rfl rfl rfl) rfl (fun hc => y_or2 rfl hc et et) ?_
 refine s_gval (g_false rfl rfl rfl rfl) rfl (fun hc => y_move rfl (ev_gv et hc)) ?_
 refine s_gval (g_true2 rfl rfl rfl rfl) rfl (fun hc => y_move rfl et) ?_
 refine s_gval (g_true2 rfl rfl rfl rfl) rfl (fun hc => y_lenl rfl u89 (ev_gv et hc)) ?_
 refine s_gval (g_true2 rfl rfl rfl rfl) rfl (fun hc => y_gtr rfl (ev_gv et hc) ev_const) ?_
 refine s_gval (g_false rfl rfl rfl rfl) rfl (fun hc => y_and2 rfl hc et et) ?_
 refine sq (y_or rfl et et) ?_
 refine sa ?_
 refine s_nil ?_
 refine k_next (e := [(1, vp b1 0), (3, vs a1 d1.Dims.length c1), (30, (vb (((decide (d1.Fold < 0)) || (decide (5 < d1.Fold))) || (((decide (d1.Fold = 0)) || (decide (d1.Fold = 5))) && (decide (0 < (d1.Red.length : Int)))))))]) ⟨rfl, rfl, rfl, trivial⟩ ?_
 refine cif h et (fun hb h => ?_) (fun hb h => ?_)
 ·refine sr (sac ?_)
  refine nk (c_ret ?_)
  obtain rfl := some_inj h
  exact q_ret (vs := [(str ([] : List UInt8))]) Tryz.results22 ⟨ev_tmp rfl rfl, trivial⟩ (fq hI trivial)
 refine sr (sq (y_fieldAddr rfl et u49 rfl size_39 rfl) ?_)
 refine sq (y_loadN (l := [vi d1.Body.Op, (str d1.Body.Name), vi d1.Body.Val.N, vi d1.Body.Val.D, vi d1.Body.Type_.Kind, vi d1.Body.Type_.Bits, vi d1.Body.Type_.Frac, vi d1.Body.Type_.Round, vi d1.Body.Type_.Over, vi d1.Body.Lin.K, vs a3 d1.Body.Lin.L.length c3, vs a4 d1.Body.Idx.length c4, vs a5 d1.Body.Args.length c5]) rfl et u39 rfl size_39 (hI.kblk (l := [vi d1.Body.Op, (str d1.Body.Name), vi d1.Body.Val.N, vi d1.Body.Val.D, vi d1.Body.Type_.Kind, vi d1.Body.Type_.Bits, vi d1.Body.Type_.Frac, vi d1.Body.Type_.Round, vi d1.Body.Type_.Over, vi d1.Body.Lin.K, vs a3 d1.Body.Lin.L.length c3, vs a4 d1.Body.Idx.length c4, vs a5 d1.Body.Args.length c5]) .z rfl).1) ?_
 obtain ⟨r5, hx9, h⟩ := bnd_some h
 refine s_call gn rfl (r_callF (vs := [(Value.agg #[vi d1.Body.Op, (str d1.Body.Name), vi d1.Body.Val.N, vi d1.Body.Val.D, vi d1.Body.Type_.Kind, vi d1.Body.Type_.Bits, vi d1.Body.Type_.Frac, vi d1.Body.Type_.Round, vi d1.Body.Type_.Over, vi d1.Body.Lin.K, vs a3 d1.Body.Lin.L.length c3, vs a4 d1.Body.Idx.length c4, vs a5 d1.Body.Args.length c5])]) rfl ok_45 ⟨et, trivial⟩) (Calls.mono (c_expr_Validate (Dj F c7) w6 hI.lt d1.Body a3 c3 a4 c4 a5 c5 ⟨(hI.get (.s (.s (.s .z)))), (hI.get (.s (.s (.s (.s .z))))), (hI.get (.s (.s (.s (.s (.s .z)))))), (hI.get (.s (.s (.s (.s (.s (.s .z))))))), trivial⟩ r5 hx9) ?_)
 rintro _ w7 ⟨rfl, hx10, hl5⟩
 refine ⟨_, rfl, ?_⟩
 replace hI := (hI.ext hx10)
 refine sq (y_neq rfl et ev_const) ?_
 refine sa ?_
 refine nk (cif h et (fun hb h => ?_) (fun hb h => ?_))
 ·refine sr (sac ?_)
  refine nk (c_ret ?_)
  obtain rfl := some_inj h
  exact q_ret (vs := [(str ([] : List UInt8))]) Tryz.results22 ⟨ev_tmp rfl rfl, trivial⟩ (fq hI trivial)
 refine c_skip (k_same (c_seq (c_drawX [] false (.c (0, .q) (.c (1, .q) (.c (2, .q) (.c (3, .q) (.c (4, .q) (.c (5, .q) (.c (9, .q) (.c (10, .q) (.c (11, .q) (.c (12, .q) (.c (16, .q) (.c (19, .q) (.c (20, .q) (.c (6, .s) (.c (7, .q) (.c (8, .q) (.c (13, .s) (.c (14, .q) (.c (15, .q) (.c (17, .s) (.c (18, .q) (.c (21, .s) (.c (22, .q) (.c (23, .q) (.c (24, .q) .n))))))))))))))))))))))))) hI (by kernel_rfl) (by kernel_rfl) ?_)))
 clear hI; intro w8 hI
 refine a_q rfl gn rfl (fun w' => y_fieldAddr rfl et u49 rfl size_9 rfl) ?_
 refine a_read rfl gn rfl (fun w' hw' => (y_load1 (v := (str d1.Name)) rfl et u9 rfl ((hI.kblk (l := [(str d1.Name)]) .z rfl).at_ (SX.any rfl hw')))) (by kernel_rfl) ?_
 obtain ⟨s1, hx11, h⟩ := bnd_some h
 refine a_q rfl gn rfl (fun w' => y_catl rfl ev_const et hx11) ?_
 obtain ⟨s2, hx12, h⟩ := bnd_some h
 refine a_q rfl gn rfl (fun w' => y_catl rfl et ev_const hx12) ?_
 refine a_q rfl gn rfl (fun w' => y_fieldAddr rfl et u49 rfl size_23 rfl) ?_
 refine a_read rfl gn rfl (fun w' hw' => (y_loadN (l := (lType d1.Type_)) rfl et u23 rfl size_23 ((hI.kblk (l := (lType d1.Type_)) .z rfl).at_ (SX.any rfl hw')))) (by kernel_rfl) ?_
 refine a_q rfl gn rfl (fun w' => y_move rfl et) ?_
 refine a_q rfl gn rfl (fun w' => y_lenl rfl u89 et) ?_
 refine a_q rfl gn rfl (fun w' => y_move rfl et) ?_
 refine a_q rfl gn rfl (fun w' => y_makeBound (vs := [vs a1 d1.Dims.length c1]) rfl rfl ⟨et, trivial⟩) ?_
 refine a_read rfl gn rfl (fun w' hw' => (y_loadN (l := [(str d1.Name), vi d1.Type_.Kind, vi d1.Type_.Bits, vi d1.Type_.Frac, vi d1.Type_.Round, vi d1.Type_.Over, vs a1 d1.Dims.length c1, vs a2 d1.Red.length c2, vi d1.Fold, vi d1.Body.Op, (str d1.Body.Name), vi d1.Body.Val.N, vi d1.Body.Val.D, vi d1.Body.Type_.Kind, vi d1.Body.Type_.Bits, vi d1.Body.Type_.Frac, vi d1.Body.Type_.Round, vi d1.Body.Type_.Over, vi d1.Body.Lin.K, vs a3 d1.Body.Lin.L.length c3, vs a4 d1.Body.Idx.length c4, vs a5 d1.Body.Args.length c5]) rfl et u49 rfl size_49 ((hI.kblk (l := [(str d1.Name), vi d1.Type_.Kind, vi d1.Type_.Bits, vi d1.Type_.Frac, vi d1.Type_.Round, vi d1.Type_.Over, vs a1 d1.Dims.length c1, vs a2 d1.Red.length c2, vi d1.Fold, vi d1.Body.Op, (str d1.Body.Name), vi d1.Body.Val.N, vi d1.Body.Val.D, vi d1.Body.Type_.Kind, vi d1.Body.Type_.Bits, vi d1.Body.Type_.Frac, vi d1.Body.Type_.Round, vi d1.Body.Type_.Over, vi d1.Body.Lin.K, vs a3 d1.Body.Lin.L.length c3, vs a4 d1.Body.Idx.length c4, vs a5 d1.Body.Args.length c5]) .z rfl).at_ (SX.any rfl hw')))) (by kernel_rfl) ?_
 refine a_q rfl gn rfl (fun w' => y_fieldAddr rfl et u49 rfl size_39 rfl) ?_
 refine a_read rfl gn rfl (fun w' hw' => (y_loadN (l := [vi d1.Body.Op, (str d1.Body.Name), vi d1.Body.Val.N, vi d1.Body.Val.D, vi d1.Body.Type_.Kind, vi d1.Body.Type_.Bits, vi d1.Body.Type_.Frac, vi d1.Body.Type_.Round, vi d1.Body.Type_.Over, vi d1.Body.Lin.K, vs a3 d1.Body.Lin.L.length c3, vs a4 d1.Body.Idx.length c4, vs a5 d1.Body.Args.length c5]) rfl et u39 rfl size_39 ((hI.kblk (l := [vi d1.Body.Op, (str d1.Body.Name), vi d1.Body.Val.N, vi d1.Body.Val.D, vi d1.Body.Type_.Kind, vi d1.Body.Type_.Bits, vi d1.Body.Type_.Frac, vi d1.Body.Type_.Round, vi d1.Body.Type_.Over, vi d1.Body.Lin.K, vs a3 d1.Body.Lin.L.length c3, vs a4 d1.Body.Idx.length c4, vs a5 d1.Body.Args.length c5]) .z rfl).at_ (SX.any rfl hw')))) (by kernel_rfl) ?_
 obtain ⟨r6, hx13, h⟩ := bnd_some h
 refine la_call rfl gn rfl (r_callF (vs := [(Value.agg (AType d1.Type_))]) rfl ok_10 ⟨et, trivial⟩) (Calls.mono (c_printer_Type (Dj F c7) w8 hI.lt d1.Type_ ⟨(hI.get (.s (.s (.s (.s (.s (.s (.s .z)))))))), trivial⟩ r6 hx13) ?_)
 rintro _ w9 ⟨rfl, hx14, hl6⟩
 refine ⟨_, rfl, hx14, ?_⟩
 replace hI := (hI.ext hx14)
 obtain ⟨s3, hx15, h⟩ := bnd_some h
 refine a_q rfl gn rfl (fun w' => y_catl rfl et et hx15) ?_
 obtain ⟨s4, hx16, h⟩ := bnd_some h
 refine a_q rfl gn rfl (fun w' => y_catl rfl et ev_const hx16) ?_
 have hI := hI.add (c := clFn_k5 (Value.func (.func 56) #[vs a1 d1.Dims.length c1] #[]) (m_printer_axes_item d1.Dims)) ⟨rfl, fun D' w' hs hl x_1 r k h => CallV.fnB (fs := [vs a1 d1.Dims.length c1]) ok_56 (c_printer_axes_item D' w' hl d1.Dims x_1 a1 c1 ⟨(Cl.sp _ hs (hI.get (.s .z))), (Cl.sp _ hs (hI.get (.s (.s (.s (.s (.s (.s (.s .z))))))))), trivial⟩ r h)⟩
 obtain ⟨r7, hx17, h⟩ := bnd_some h
 refine la_call rfl gn rfl (r_callF (vs := [vi (d1.Dims.length : Int), (Value.func (.func 56) #[vs a1 d1.Dims.length c1] #[])]) rfl ok_38 ⟨et, ⟨et, trivial⟩⟩) (Calls.mono (c_printer_list (Dj F c7) w9 hI.lt (d1.Dims.length : Int) (m_printer_axes_item d1.Dims) (Value.func (.func 56) #[vs a1 d1.Dims.length c1] #[]) ⟨(hI.get .z), trivial⟩ r7 hx17) ?_)
 rintro _ w10 ⟨rfl, hx18, hl7⟩
 refine ⟨_, rfl, hx18, ?_⟩
 replace hI := (hI.ext hx18)
 obtain ⟨s5, hx19, h⟩ := bnd_some h
 refine a_q rfl gn rfl (fun w' => y_catl rfl et et hx19) ?_
 obtain ⟨s6, hx20, h⟩ := bnd_some h
 refine a_q rfl gn rfl (fun w' => y_catl rfl et ev_const hx20) ?_
 obtain ⟨r8, hx21, h⟩ := bnd_some h
 refine la_call rfl gn rfl (r_callF (vs := [(Value.agg #[(str d1.Name), vi d1.Type_.Kind, vi d1.Type_.Bits, vi d1.Type_.Frac, vi d1.Type_.Round, vi d1.Type_.Over, vs a1 d1.Dims.length c1, vs a2 d1.Red.length c2, vi d1.Fold, vi d1.Body.Op, (str d1.Body.Name), vi d1.Body.Val.N, vi d1.Body.Val.D, vi d1.Body.Type_.Kind, vi d1.Body.Type_.Bits, vi d1.Body.Type_.Frac, vi d1.Body.Type_.Round, vi d1.Body.Type_.Over, vi d1.Body.Lin.K, vs a3 d1.Body.Lin.L.length c3, vs a4 d1.Body.Idx.length c4, vs a5 d1.Body.Args.length c5])]) rfl ok_57 ⟨et, trivial⟩) (Calls.mono (c_printer_fold (Dj F c7) w10 hI.lt d1 a1 c1 a2 c2 a3 c3 a4 c4 a5 c5 ⟨(hI.get (.s (.s .z))), (hI.get (.s (.s (.s .z)))), (hI.get (.s (.s (.s (.s .z))))), (hI.get (.s (.s (.s (.s (.s .z)))))), (hI.get (.s (.s (.s (.s (.s (.s .z))))))), (hI.get (.s (.s (.s (.s (.s (.s (.s (.s .z))))))))), trivial⟩ r8 hx21) ?_)
 rintro _ w11 ⟨rfl, hx22, hl8⟩
 refine ⟨_, rfl, hx22, ?_⟩
 replace hI := (hI.ext hx22)
 obtain ⟨s7, hx23, h⟩ := bnd_some h
 refine a_q rfl gn rfl (fun w' => y_catl rfl et et hx23) ?_
 obtain ⟨r9, hx24, h⟩ := bnd_some h
 refine la_call rfl gn rfl (r_callF (vs := [(Value.agg #[vi d1.Body.Op, (str d1.Body.Name), vi d1.Body.Val.N, vi d1.Body.Val.D, vi d1.Body.Type_.Kind, vi d1.Body.Type_.Bits, vi d1.Body.Type_.Frac, vi d1.Body.Type_.Round, vi d1.Body.Type_.Over, vi d1.Body.Lin.K, vs a3 d1.Body.Lin.L.length c3, vs a4 d1.Body.Idx.length c4, vs a5 d1.Body.Args.length c5])]) rfl ok_17 ⟨et, trivial⟩) (Calls.mono (c_printer_Expr (Dj F c7) w11 hI.lt d1.Body a3 c3 a4 c4 a5 c5 ⟨(hI.get (.s (.s (.s (.s .z))))), (hI.get (.s (.s (.s (.s (.s .z)))))), (hI.get (.s (.s (.s (.s (.s (.s .z))))))), (hI.get (.s (.s (.s (.s (.s (.s (.s .z)))))))), (hI.get (.s (.s (.s (.s (.s (.s (.s (.s .z))))))))), trivial⟩ r9 hx24) ?_)
 rintro _ w12 ⟨rfl, hx25, hl9⟩
 refine ⟨_, rfl, hx25, ?_⟩
 replace hI := (hI.ext hx25)
 obtain ⟨s8, hx26, h⟩ := bnd_some h
 refine a_q rfl gn rfl (fun w' => y_catl rfl et et hx26) ?_
 obtain ⟨s9, hx27, h⟩ := bnd_some h
 refine a_q rfl gn rfl (fun w' => y_catl rfl et ev_const hx27) ?_
 refine a_q rfl gn rfl (fun w' => y_assign rfl et) ?_
 refine a_nil ?_
 refine k_next (e := [(2, (str s9))]) ⟨rfl, trivial⟩ ?_
 refine c_ret ?_
 obtain rfl := some_inj h
 exact q_ret (vs := [(str s9)]) Tryz.results22 ⟨ev_tmp rfl rfl, trivial⟩ (fq hI trivial)
theorem c_ref15_axes (F : NP) (w0 : World) (hF : ∀ k, F k → k < w0.heap.size) (l1 : List GAxis) (a1 : Option Addr) (c1 : Nat) (hc : AllCl [Cl.sl cGAxis a1 c1 l1] F w0) (r : List UInt8 × Bool)
  (h : m_ref15_axes l1 = some r) :
  Calls Tryz.prog 58 #[vs a1 l1.length c1] w0 fun e w => e = .returned (Value.tuple #[(str r.1), vb r.2]) ∧ Ext w0 w ∧ AllCl [] F w := by
 refine enterK Tryz.func58 rfl Tryz.ntmps58 rfl ?_
 have hI := Bun.start hF hc
 clear hc
 rw [m_ref15_axes] at h
 refine sr (sac ?_)
 refine sac ?_
 refine nk (sr (sac ?_))
 refine nk (c_seq (sr (sac ?_)))
 refine nk (c_block (c_loop (α := Nat × (List UInt8) × Int) (fun x => fun w => ∃ C, Bun noM F w0 C w [] [Cl.sl cGAxis a1 c1 l1] ∧ m_ref15_axes_l1 l1 (x.1) (x.2.1) (x.2.2) = some r) (fun x _ => x.1) (fun x => [(0, vs a1 l1.length c1), (4, (str (x.2.1))), (5, vi (x.2.2))]) (fu, ([] : List UInt8), 0) ⟨_, hI.arr .n ⟨.z, trivial⟩, h⟩ ⟨rfl, rfl, rfl, trivial⟩ ?_))
 clear h hI; rintro ⟨fuel1, s1, i1⟩ w1 ⟨c2, hI, h⟩
 dsimp only at hI h
 rcases fuel1 with _ | fuel1
 ·rw [m_ref15_axes_l1] at h; cases h
 rw [m_ref15_axes_l1] at h
 refine c_sub (e := [(0, vs a1 l1.length c1), (4, (str s1)), (5, vi i1)]) ⟨rfl, rfl, rfl, trivial⟩ ?_
 refine c_seq (sr (sm ?_))
 refine sm ?_
 refine sq (y_lenl rfl u47 et) ?_
 refine sq (y_lss rfl et et) ?_
 refine nk (cif h et (fun hb h => ?_) (fun hb h => ?_))
 ·refine c_skip (k_same (c_seq (c_block (c_seq (sr (sm ?_))))))
  refine sm ?_
  obtain ⟨e1, hx1, h⟩ := bnd_some h
  obtain ⟨ad1, cs1, hA1, hr1, hq1⟩ := hI.clat .z hx1
  obtain ⟨a2, c3, rfl, hf1⟩ := hr1
  have hI := hI.add (c := Cl.sl cGMono a2 c3 e1.Size.L) hf1
  refine sq (y_indexAddr rfl u47 size_133 et et (lat_bd hx1) hA1) ?_
  refine sq (y_fieldAddr rfl et u133 rfl size_9 rfl) ?_
  refine sq (y_load1 (v := (str e1.Name)) rfl et u9 rfl (CA.part hq1 rfl).1) ?_
  obtain ⟨r1, hx2, h⟩ := bnd_some h
  refine s_call gn rfl (r_callF (vs := [(str e1.Name)]) rfl ok_43 ⟨et, trivial⟩) (Calls.mono (c_base_Name (Dj F c2) w1 hI.lt e1.Name trivial r1 hx2) ?_)
  rintro _ w2 ⟨rfl, hx3, hl1⟩
  refine ⟨_, rfl, ?_⟩
  replace hI := (hI.ext hx3)
  refine sq (y_not rfl et) ?_
  refine sm ?_
  refine s_gval (g_false rfl rfl rfl rfl) rfl (fun hc => y_move rfl et) ?_
  refine s_gval (g_false rfl rfl rfl rfl) rfl (fun hc => y_move rfl et) ?_
  obtain ⟨e2, hx4, h⟩ := bnd_some h
  replace hx4 := gd_some hx4
  obtain ⟨ad2, cs2, hq2⟩ := hI.gclat (.s .z) hx4
  obtain ⟨a3, c4, hq3⟩ : ∃ (a3 : Option Addr) (c4 : Nat), (!(!r1)) = true → (a1 = some ad2 ∧ cs2 = [(str e2.Name), vi e2.Size.K, vs a3 e2.Size.L.length c4] ∧ CA (Dj F c2) w2 (ad2.add (Int.toNat i1 * 3)) cs2 ∧ SlC cGMono (Dj F c2) w2 a3 c4 e2.Size.L) := by
   by_cases hc : (!(!r1)) = true
   ·obtain ⟨k1, k2, k3⟩ := hq2 hc; obtain ⟨a3, c4, rfl, hf2⟩ := k2; exact ⟨a3, c4, fun _ => ⟨k1, rfl, k3, hf2⟩⟩
   exact ⟨default, default, fun k => absurd k hc⟩
  clear hq2
  have hI := hI.add (c := Cl.gsl (!(!r1)) cGMono a3 c4 e2.Size.L) (fun hc => (hq3 hc).2.2.2)
  have hq4 : (!(!r1)) = true → CA (Dj F c2) w2 (ad2.add (Int.toNat i1 * 3)) [(str e2.Name), vi e2.Size.K, vs a3 e2.Size.L.length c4] := fun hc => by have k := hq3 hc; have e : cs2 = _ := k.2.1; rw [← e]; exact k.2.2.1
  refine s_gval (g_false rfl rfl rfl rfl) rfl (fun hc => (y_indexAddr rfl u47 size_133 (ev_gv et hc) (ev_gv et hc) (lat_bd (hx4 hc)) (hq3 hc).1)) ?_
  refine s_gval (g_false rfl rfl rfl rfl) rfl (fun hc => y_fieldAddr rfl (ev_gv et hc) u133 rfl size_29 rfl) ?_
  refine s_gval (g_false rfl rfl rfl rfl) rfl (fun hc => (y_loadN (l := (lLin e2.Size a3 c4)) rfl (ev_gv et hc) u29 rfl size_29 (CA.part (hq4 hc) rfl).1)) ?_
  obtain ⟨r2, hx5, h⟩ := bnd_some h
  replace hx5 := gd_some hx5
  refine s_gcallU (v := (vb r2)) (g_false rfl rfl rfl rfl) rfl (fun hc => (r_callF (vs := [(Value.agg (ALin e2.Size a3 c4))]) rfl ok_40 ⟨(ev_gv et hc), trivial⟩)) (fun hc => (c_base_LinRight (Dj F c2) w2 hI.lt e2.Size a3 c4 ⟨(hI.get .z hc), trivial⟩ r2 (hx5 hc)).mono fun _ _ k => ⟨k.1, k.2.1⟩) ?_
  intro w3 hx6; replace hI := hI.ext hx6
  refine s_gval (g_false rfl rfl rfl rfl) rfl (fun hc => y_not rfl (ev_gv et hc)) ?_
  refine sq (y_or rfl et et) ?_
  refine nk (cif h et (fun hb h => ?_) (fun hb h => ?_))
  ·refine sr (sac ?_)
   refine sac ?_
   refine nk (c_ret ?_)
   obtain rfl := some_inj h
   exact q_ret (vs := [(str ([] : List UInt8)), vb false]) Tryz.results58 ⟨ev_tmp rfl rfl, ⟨ev_tmp rfl rfl, trivial⟩⟩ (fq hI trivial)
  refine c_skip (k_same (c_join (α := (List UInt8)) (fun _ => ⟨48, []⟩) (fun x => [(0, vs a1 l1.length c1), (4, (str x)), (5, vi i1)]) (fun x => fun w => ∃ C, Bun noM F w0 C w [] [Cl.sl cGAxis a1 c1 l1] ∧ m_ref15_axes_j1 l1 i1 (m_ref15_axes_l1 l1 fuel1) x = some r) ?_ ?_))
  ·clear h hI; rintro s2 w4 ⟨c5, hI, h⟩
   try dsimp only at hI h
   rw [m_ref15_axes_j1] at h
   refine c_sub (e := [(0, vs a1 l1.length c1), (4, (str s2)), (5, vi i1)]) ⟨rfl, rfl, rfl, trivial⟩ ?_
   refine c_drawX [] false (.c (0, .q) (.c (1, .q) (.c (2, .q) (.c (3, .q) (.c (4, .q) (.c (5, .q) (.c (6, .q) (.c (7, .q) (.c (8, .q) (.c (9, .q) (.c (10, .q) (.c (11, .q) (.c (12, .q) (.c (13, .s) (.c (14, .q) (.c (15, .q) .n)))))))))))))))) hI (by kernel_rfl) (by kernel_rfl) ?_
   clear hI; intro w5 hI
   refine a_q rfl gn rfl (fun w' => y_move rfl et) ?_
   refine a_q rfl gn rfl (fun w' => y_move rfl et) ?_
   refine a_q rfl gn rfl (fun w' => y_move rfl et) ?_
   obtain ⟨e3, hx7, h⟩ := bnd_some h
   obtain ⟨ad3, cs3, hA3, hr3, hq5⟩ := hI.clat .z hx7
   obtain ⟨a4, c6, rfl, hf3⟩ := hr3
   have hI := hI.add (c := Cl.sl cGMono a4 c6 e3.Size.L) hf3
   refine a_q rfl gn rfl (fun w' => y_indexAddr rfl u47 size_133 et et (lat_bd hx7) hA3) ?_
   refine a_q rfl gn rfl (fun w' => y_fieldAddr rfl et u133 rfl size_9 rfl) ?_
   refine a_read rfl gn rfl (fun w' hw' => (y_load1 (v := (str e3.Name)) rfl et u9 rfl ((CA.part hq5 rfl).at_ (SX.any rfl hw')))) (by kernel_rfl) ?_
   obtain ⟨s3, hx8, h⟩ := bnd_some h
   refine a_q rfl gn rfl (fun w' => y_catl rfl et et hx8) ?_
   obtain ⟨s4, hx9, h⟩ := bnd_some h
   refine a_q rfl gn rfl (fun w' => y_catl rfl et ev_const hx9) ?_
   refine a_q rfl gn rfl (fun w' => y_move rfl et) ?_
   refine a_q rfl gn rfl (fun w' => y_move rfl et) ?_
   obtain ⟨e4, hx10, h⟩ := bnd_some h
   obtain ⟨ad4, cs4, hA4, hr4, hq6⟩ := hI.clat (.s .z) hx10
   obtain ⟨a5, c7, rfl, hf4⟩ := hr4
   have hI := hI.add (c := Cl.sl cGMono a5 c7 e4.Size.L) hf4
   refine a_q rfl gn rfl (fun w' => y_indexAddr rfl u47 size_133 et et (lat_bd hx10) hA4) ?_
   refine a_q rfl gn rfl (fun w' => y_fieldAddr rfl et u133 rfl size_29 rfl) ?_
   refine a_read rfl gn rfl (fun w' hw' => (y_loadN (l := (lLin e4.Size a5 c7)) rfl et u29 rfl size_29 ((CA.part hq6 rfl).at_ (SX.any rfl hw')))) (by kernel_rfl) ?_
   obtain ⟨r3, hx11, h⟩ := bnd_some h
   refine la_call rfl gn rfl (r_callF (vs := [(Value.agg (ALin e4.Size a5 c7))]) rfl ok_42 ⟨et, trivial⟩) (Calls.mono (c_ref05_Format (Dj F c5) w5 hI.lt e4.Size a5 c7 ⟨(hI.get .z), trivial⟩ r3 hx11) ?_)
   rintro _ w6 ⟨rfl, hx12, hl3⟩
   refine ⟨_, rfl, hx12, ?_⟩
   replace hI := (hI.ext hx12)
   obtain ⟨s5, hx13, h⟩ := bnd_some h
   refine a_q rfl gn rfl (fun w' => y_catl rfl et et hx13) ?_
   refine a_q rfl gn rfl (fun w' => y_assign rfl et) ?_
   refine a_nil ?_
   refine k_same (c_region rfl ?_)
   refine sm ?_
   refine sq (y_add rfl et ev_const) ?_
   refine sa ?_
   refine s_nil ?_
   exact k_loop (fuel1, s5, wi64 (i1 + 1)) ⟨rfl, rfl, rfl, trivial⟩ ⟨_, hI.arr .n ⟨(.s (.s .z)), trivial⟩, h⟩ (Nat.lt_succ_self _)
  refine sr (sm ?_)
  refine sq (y_gtr rfl et ev_const) ?_
  refine nk (cif h et (fun hb h => ?_) (fun hb h => ?_))
  ·refine c_region rfl ?_
   refine sm ?_
   obtain ⟨s6, hx14, h⟩ := bnd_some h
   refine sq (y_catl rfl et ev_const hx14) ?_
   refine sa ?_
   refine s_nil ?_
   exact k_join s6 ⟨rfl, rfl, rfl, trivial⟩ ⟨_, hI.arr .n ⟨(.s (.s .z)), trivial⟩, h⟩ rfl
  exact c_skip (k_join s1 ⟨rfl, rfl, rfl, trivial⟩ ⟨_, hI.arr .n ⟨(.s (.s .z)), trivial⟩, h⟩ rfl)
 refine c_exit ?_
 refine k_in ?_
 refine k_same (sr (sm ?_))
 refine sa ?_
 refine sac ?_
 refine nk (c_ret ?_)
 obtain rfl := some_inj h
 exact q_ret (vs := [(str s1), vb true]) Tryz.results58 ⟨ev_tmp rfl rfl, ⟨ev_tmp rfl rfl, trivial⟩⟩ (fq hI trivial)
theorem c_ref15_word (F : NP) (w0 : World) (hF : ∀ k, F k → k < w0.heap.size) (fold1 : Int) (hc : AllCl [] F w0) (r : List UInt8)
  (h : m_ref15_word fold1 = some r) :
  Calls Tryz.prog 59 #[vi fold1] w0 fun e w => e = .returned (str r) ∧ Ext w0 w ∧ AllCl [] F w := by
 refine enterK Tryz.func59 rfl Tryz.ntmps59 rfl ?_
 have hI := Bun.start hF hc
 clear hc
 rw [m_ref15_word] at h
 refine sr (sac ?_)
 refine nk (c_seq (sr (sm ?_)))
 refine nk (c_block (sr (sq (y_eql rfl et ev_const) ?_)))
 refine sa ?_
 refine nk (cif h et (fun hb h => ?_) (fun hb h => ?_))
 ·refine sr (sac ?_)
  refine nk (c_ret ?_)
  obtain rfl := some_inj h
  exact q_ret (vs := [(str ([115, 117, 109] : List UInt8))]) Tryz.results59 ⟨ev_tmp rfl rfl, trivial⟩ (fq hI trivial)
 refine sr (sq (y_eql rfl et ev_const) ?_)
 refine sa ?_
 refine nk (cif h et (fun hb h => ?_) (fun hb h => ?_))
 ·refine sr (sac ?_)
  refine nk (c_ret ?_)
  obtain rfl := some_inj h
  exact q_ret (vs := [(str ([112, 114, 111, 100] : List UInt8))]) Tryz.results59 ⟨ev_tmp rfl rfl, trivial⟩ (fq hI trivial)
 refine sr (sq (y_eql rfl et ev_const) ?_)
 refine sa ?_
 refine nk (cif h et (fun hb h => ?_) (fun hb h => ?_))
 ·refine sr (sac ?_)
  refine nk (c_ret ?_)
  obtain rfl := some_inj h
  exact q_ret (vs := [(str ([109, 105, 110] : List UInt8))]) Tryz.results59 ⟨ev_tmp rfl rfl, trivial⟩ (fq hI trivial)
 refine sr (sq (y_eql rfl et ev_const) ?_)
 refine sa ?_
 refine nk (cif h et (fun hb h => ?_) (fun hb h => ?_))
 ·refine sr (sac ?_)
  refine nk (c_ret ?_)
  obtain rfl := some_inj h
  exact q_ret (vs := [(str ([109, 97, 120] : List UInt8))]) Tryz.results59 ⟨ev_tmp rfl rfl, trivial⟩ (fq hI trivial)
 refine c_skip (k_same (sr (sac ?_)))
 refine nk (c_ret ?_)
 obtain rfl := some_inj h
 exact q_ret (vs := [(str ([115, 99, 97, 110] : List UInt8))]) Tryz.results59 ⟨ev_tmp rfl rfl, trivial⟩ (fq hI trivial)
theorem c_ref15_Def (F : NP) (w0 : World) (hF : ∀ k, F k → k < w0.heap.size) (d1 : GDef) (a1 : Option Addr) (c1 : Nat) (a2 : Option Addr) (c2 : Nat) (a3 : Option Addr) (c3 : Nat) (a4 : Option Addr) (c4 : Nat) (a5 : Option Addr) (c5 : Nat) (hc : AllCl [Cl.sl cGAxis a1 c1 d1.Dims, Cl.sl cGAxis a2 c2 d1.Red, Cl.sl cGMono a3 c3 d1.Body.Lin.L, Cl.sl cGIndex a4 c4 d1.Body.Idx, Cl.sl cGExpr a5 c5 d1.Body.Args] F w0) (r : List UInt8)
  (h : m_ref15_Def d1 = some r) :
  Calls Tryz.prog 23 #[(Value.agg #[(str d1.Name), vi d1.Type_.Kind, vi d1.Type_.Bits, vi d1.Type_.Frac, vi d1.Type_.Round, vi d1.Type_.Over, vs a1 d1.Dims.length c1, vs a2 d1.Red.length c2, vi d1.Fold, vi d1.Body.Op, (str d1.Body.Name), vi d1.Body.Val.N, vi d1.Body.Val.D, vi d1.Body.Type_.Kind, vi d1.Body.Type_.Bits, vi d1.Body.Type_.Frac, vi d1.Body.Type_.Round, vi d1.Body.Type_.Over, vi d1.Body.Lin.K, vs a3 d1.Body.Lin.L.length c3, vs a4 d1.Body.Idx.length c4, vs a5 d1.Body.Args.length c5])] w0 fun e w => e = .returned (str r) ∧ Ext w0 w ∧ AllCl [] F w := by
 refine enterK Tryz.func23 rfl Tryz.ntmps23 rfl ?_
 have hI := Bun.start hF hc
 clear hc
 rw [m_ref15_Def] at h
 refine sr (l_box (v := (Value.agg #[(str d1.Name), vi d1.Type_.Kind, vi d1.Type_.Bits, vi d1.Type_.Frac, vi d1.Type_.Round, vi d1.Type_.Over, vs a1 d1.Dims.length c1, vs a2 d1.Red.length c2, vi d1.Fold, vi d1.Body.Op, (str d1.Body.Name), vi d1.Body.Val.N, vi d1.Body.Val.D, vi d1.Body.Type_.Kind, vi d1.Body.Type_.Bits, vi d1.Body.Type_.Frac, vi d1.Body.Type_.Round, vi d1.Body.Type_.Over, vi d1.Body.Lin.K, vs a3 d1.Body.Lin.L.length c3, vs a4 d1.Body.Idx.length c4, vs a5 d1.Body.Args.length c5])) (cs := #[(str d1.Name), vi d1.Type_.Kind, vi d1.Type_.Bits, vi d1.Type_.Frac, vi d1.Type_.Round, vi d1.Type_.Over, vs a1 d1.Dims.length c1, vs a2 d1.Red.length c2, vi d1.Fold, vi d1.Body.Op, (str d1.Body.Name), vi d1.Body.Val.N, vi d1.Body.Val.D, vi d1.Body.Type_.Kind, vi d1.Body.Type_.Bits, vi d1.Body.Type_.Frac, vi d1.Body.Type_.Round, vi d1.Body.Type_.Over, vi d1.Body.Lin.K, vs a3 d1.Body.Lin.L.length c3, vs a4 d1.Body.Idx.length c4, vs a5 d1.Body.Args.length c5]) hI gn rfl rfl et rfl ?_)
 clear hI; intro b1 c6 w1 hI
 obtain ⟨c7, hI⟩ := hI.relBox .z
 refine sac ?_
 refine nk (sr (sq (y_fieldAddr rfl et u49 rfl size_47 rfl) ?_))
 refine sq (y_load1 (v := (vs a1 d1.Dims.length c1)) rfl et u47 rfl (hI.kblk (l := [vs a1 d1.Dims.length c1]) .z rfl).1) ?_
 obtain ⟨r1, hx1, h⟩ := bnd_some h
 refine s_call gn rfl (r_callF (vs := [vs a1 d1.Dims.length c1]) rfl ok_58 ⟨et, trivial⟩) (Calls.mono (c_ref15_axes (Dj F c7) w1 hI.lt d1.Dims a1 c1 ⟨(hI.get (.s .z)), trivial⟩ r1 hx1) ?_)
 rintro _ w2 ⟨rfl, hx2, hl1⟩
 refine ⟨_, rfl, ?_⟩
 replace hI := (hI.ext hx2)
 refine sm ?_
 refine sq (y_extract rfl et rfl) ?_
 refine sq (y_extract rfl et rfl) ?_
 refine sa ?_
 refine sa ?_
 refine nk (sr (sq (y_fieldAddr rfl et u49 rfl size_47 rfl) ?_))
 refine sq (y_load1 (v := (vs a2 d1.Red.length c2)) rfl et u47 rfl (hI.kblk (l := [vs a2 d1.Red.length c2]) .z rfl).1) ?_
 obtain ⟨r2, hx3, h⟩ := bnd_some h
 refine s_call gn rfl (r_callF (vs := [vs a2 d1.Red.length c2]) rfl ok_58 ⟨et, trivial⟩) (Calls.mono (c_ref15_axes (Dj F c7) w2 hI.lt d1.Red a2 c2 ⟨(hI.get (.s (.s .z))), trivial⟩ r2 hx3) ?_)
 rintro _ w3 ⟨rfl, hx4, hl2⟩
 refine ⟨_, rfl, ?_⟩
 replace hI := (hI.ext hx4)
 refine sm ?_
 refine sq (y_extract rfl et rfl) ?_
 refine sq (y_extract rfl et rfl) ?_
 refine sa ?_
 refine sa ?_
 refine nk (sr (sq (y_fieldAddr rfl et u49 rfl size_39 rfl) ?_))
 refine sq (y_loadN (l := [vi d1.Body.Op, (str d1.Body.Name), vi d1.Body.Val.N, vi d1.Body.Val.D, vi d1.Body.Type_.Kind, vi d1.Body.Type_.Bits, vi d1.Body.Type_.Frac, vi d1.Body.Type_.Round, vi d1.Body.Type_.Over, vi d1.Body.Lin.K, vs a3 d1.Body.Lin.L.length c3, vs a4 d1.Body.Idx.length c4, vs a5 d1.Body.Args.length c5]) rfl et u39 rfl size_39 (hI.kblk (l := [vi d1.Body.Op, (str d1.Body.Name), vi d1.Body.Val.N, vi d1.Body.Val.D, vi d1.Body.Type_.Kind, vi d1.Body.Type_.Bits, vi d1.Body.Type_.Frac, vi d1.Body.Type_.Round, vi d1.Body.Type_.Over, vi d1.Body.Lin.K, vs a3 d1.Body.Lin.L.length c3, vs a4 d1.Body.Idx.length c4, vs a5 d1.Body.Args.length c5]) .z rfl).1) ?_
 obtain ⟨r3, hx5, h⟩ := bnd_some h
 refine s_call gn rfl (r_callF (vs := [(Value.agg #[vi d1.Body.Op, (str d1.Body.Name), vi d1.Body.Val.N, vi d1.Body.Val.D, vi d1.Body.Type_.Kind, vi d1.Body.Type_.Bits, vi d1.Body.Type_.Frac, vi d1.Body.Type_.Round, vi d1.Body.Type_.Over, vi d1.Body.Lin.K, vs a3 d1.Body.Lin.L.length c3, vs a4 d1.Body.Idx.length c4, vs a5 d1.Body.Args.length c5])]) rfl ok_18 ⟨et, trivial⟩) (Calls.mono (c_ref15_Expr (Dj F c7) w3 hI.lt d1.Body a3 c3 a4 c4 a5 c5 ⟨(hI.get (.s (.s (.s .z)))), (hI.get (.s (.s (.s (.s .z))))), (hI.get (.s (.s (.s (.s (.s .z)))))), trivial⟩ r3 hx5) ?_)
 rintro _ w4 ⟨rfl, hx6, hl3⟩
 refine ⟨_, rfl, ?_⟩
 replace hI := (hI.ext hx6)
 refine sa ?_
 refine nk (c_seq (sr (sm ?_)))
 refine sq (y_not rfl et) ?_
 refine sm ?_
 refine s_gval (g_false rfl rfl rfl rfl) rfl (fun hc => y_move rfl et) ?_
 refine s_gval (g_false rfl rfl rfl rfl) rfl (fun hc => y_not rfl (ev_gv et hc)) ?_
 refine sq (y_or rfl et et) ?_
 refine sm ?_
 refine s_gval (g_false rfl rfl rfl rfl) rfl (fun hc => y_move rfl et) ?_
 refine s_gval (g_false rfl rfl rfl rfl) rfl (fun hc => y_eqs rfl (ev_gv et hc) ev_const) ?_
 refine sq (y_or rfl et et) ?_
 refine sm ?_
 refine s_gval (g_false rfl rfl rfl rfl) rfl (fun hc => y_fieldAddr rfl et u49 rfl size_9 rfl) ?_
 refine s_gval (g_false rfl rfl rfl rfl) rfl (fun hc => (y_load1 (v := (str d1.Name)) rfl (ev_gv et hc) u9 rfl (hI.kblk (l := [(str d1.Name)]) .z rfl).1)) ?_
 obtain ⟨r4, hx7, h⟩ := bnd_some h
 replace hx7 := gd_some hx7
 refine s_gcallU (v := (vb r4)) (g_false rfl rfl rfl rfl) rfl (fun hc => (r_callF (vs := [(str d1.Name)]) rfl ok_43 ⟨(ev_gv et hc), trivial⟩)) (fun hc => (c_base_Name (Dj F c7) w4 hI.lt d1.Name trivial r4 (hx7 hc)).mono fun _ _ k => ⟨k.1, k.2.1⟩) ?_
 intro w5 hx8; replace hI := hI.ext hx8
 refine s_gval (g_false rfl rfl rfl rfl) rfl (fun hc => y_not rfl (ev_gv et hc)) ?_
 refine sq (y_or rfl et et) ?_
 refine sm ?_
 refine s_gval (g_false rfl rfl rfl rfl) rfl (fun hc => y_fieldAddr rfl et u49 rfl size_23 rfl) ?_
 refine s_gval (g_false rfl rfl rfl rfl) rfl (fun hc => (y_loadN (l := (lType d1.Type_)) rfl (ev_gv et hc) u23 rfl size_23 (hI.kblk (l := (lType d1.Type_)) .z rfl).1)) ?_
 obtain ⟨r5, hx9, h⟩ := bnd_some h
 replace hx9 := gd_some hx9
 refine s_gcallU (v := (vb r5)) (g_false rfl rfl rfl rfl) rfl (fun hc => (r_callF (vs := [(Value.agg (AType d1.Type_))]) rfl ok_31 ⟨(ev_gv et hc), trivial⟩)) (fun hc => (c_base_Type (Dj F c7) w5 hI.lt d1.Type_ trivial r5 (hx9 hc)).mono fun _ _ k => ⟨k.1, k.2.1⟩) ?_
 intro w6 hx10; replace hI := hI.ext hx10
 refine s_gval (g_false rfl rfl rfl rfl) rfl (fun hc => y_not rfl (ev_gv et hc)) ?_
 refine sq (y_or rfl et et) ?_
 refine sm ?_
 refine s_gval (g_false rfl rfl rfl rfl) rfl (fun hc => y_fieldAddr rfl et u49 rfl size_3 rfl) ?_
 refine s_gval (g_false rfl rfl rfl rfl) rfl (fun hc => (y_load1 (v := (vi d1.Fold)) rfl (ev_gv et hc) u3 rfl (hI.kblk (l := [vi d1.Fold]) .z rfl).1)) ?_
 refine s_gval (g_false rfl rfl rfl rfl) rfl (fun hc => y_lss rfl (ev_gv et hc) ev_const) ?_
 refine sq (y_or rfl et et) ?_
 refine sm ?_
 refine s_gval (g_false rfl rfl rfl rfl) rfl (fun hc => y_fieldAddr rfl et u49 rfl size_3 rfl) ?_
 refine s_gval (g_false rfl rfl rfl rfl) rfl (fun hc => (y_load1 (v := (vi d1.Fold)) rfl (ev_gv et hc) u3 rfl (hI.kblk (l := [vi d1.Fold]) .z rfl).1)) ?_
 refine s_gval (g_false rfl rfl rfl rfl) rfl (fun hc => y_gtr rfl (ev_gv et hc) ev_const) ?_
 refine sq (y_or rfl et et) ?_
 refine s_nil ?_
 refine k_next (e := [(1, vp b1 0), (3, (str r1.1)), (5, (str r2.1)), (7, (str r3)), (55, (vb (((((((!r1.2) || (!r2.2)) || (decide (r3 = ([] : List UInt8)))) || (!r4)) || (!r5)) || (decide (d1.Fold < 0))) || (decide (5 < d1.Fold)))))]) ⟨rfl, rfl, rfl, rfl, rfl, trivial⟩ ?_
 refine cif h et (fun hb h => ?_) (fun hb h => ?_)
 ·refine sr (sac ?_)
  refine nk (c_ret ?_)
  obtain rfl := some_inj h
  exact q_ret (vs := [(str ([] : List UInt8))]) Tryz.results23 ⟨ev_tmp rfl rfl, trivial⟩ (fq hI trivial)
 refine c_skip (k_same (c_seq (sr (sq (y_fieldAddr rfl et u49 rfl size_47 rfl) ?_))))
 refine sq (y_load1 (v := (vs a2 d1.Red.length c2)) rfl et u47 rfl (hI.kblk (l := [vs a2 d1.Red.length c2]) .z rfl).1) ?_
 refine sq (y_lenl rfl u47 et) ?_
 refine sq (y_gtr rfl et ev_const) ?_
 refine sm ?_
 refine s_gval (g_true rfl rfl rfl rfl) rfl (fun hc => y_fieldAddr rfl et u49 rfl size_3 rfl) ?_
 refine s_gval (g_true rfl rfl rfl rfl) rfl (fun hc => (y_load1 (v := (vi d1.Fold)) rfl (ev_gv et hc) u3 rfl (hI.kblk (l := [vi d1.Fold]) .z rfl).1)) ?_
 refine s_gval (g_true rfl rfl rfl rfl) rfl (fun hc => y_eql rfl (ev_gv et hc) ev_const) ?_
 refine s_gval (g_true rfl rfl rfl rfl) rfl (fun hc => y_move rfl (ev_gv et hc)) ?_
 refine s_gval (g_false2 rfl rfl rfl rfl) rfl (fun hc => y_fieldAddr rfl et u49 rfl size_3 rfl) ?_
 refine s_gval (g_false2 rfl rfl rfl rfl) rfl (fun hc => (y_load1 (v := (vi d1.Fold)) rfl (ev_gv et hc) u3 rfl (hI.kblk (l := [vi d1.Fold]) .z rfl).1)) ?_
 refine s_gval (g_false2 rfl rfl rfl rfl) rfl (fun hc => y_eql rfl (ev_gv et hc) ev_const) ?_
 refine s_gval (g_true rfl rfl rfl rfl) rfl (fun hc => y_or2 rfl hc et et) ?_
 refine sq (y_and rfl et et) ?_
 refine nk (cif h et (fun hb h => ?_) (fun hb h => ?_))
 ·refine sr (sac ?_)
  refine nk (c_ret ?_)
  obtain rfl := some_inj h
  exact q_ret (vs := [(str ([] : List UInt8))]) Tryz.results23 ⟨ev_tmp rfl rfl, trivial⟩ (fq hI trivial)
 refine c_skip (k_same (c_seq (c_drawX [] false (.c (0, .q) (.c (1, .q) (.c (2, .q) (.c (3, .q) (.c (4, .q) (.c (5, .q) (.c (9, .q) (.c (6, .s) (.c (7, .q) (.c (8, .q) (.c (10, .q) (.c (11, .q) (.c (12, .q) .n))))))))))))) hI (by kernel_rfl) (by kernel_rfl) ?_)))
 clear hI; intro w7 hI
 refine a_q rfl gn rfl (fun w' => y_fieldAddr rfl et u49 rfl size_9 rfl) ?_
 refine a_read rfl gn rfl (fun w' hw' => (y_load1 (v := (str d1.Name)) rfl et u9 rfl ((hI.kblk (l := [(str d1.Name)]) .z rfl).at_ (SX.any rfl hw')))) (by kernel_rfl) ?_
 obtain ⟨s1, hx11, h⟩ := bnd_some h
 refine a_q rfl gn rfl (fun w' => y_catl rfl ev_const et hx11) ?_
 obtain ⟨s2, hx12, h⟩ := bnd_some h
 refine a_q rfl gn rfl (fun w' => y_catl rfl et ev_const hx12) ?_
 refine a_q rfl gn rfl (fun w' => y_fieldAddr rfl et u49 rfl size_23 rfl) ?_
 refine a_read rfl gn rfl (fun w' hw' => (y_loadN (l := (lType d1.Type_)) rfl et u23 rfl size_23 ((hI.kblk (l := (lType d1.Type_)) .z rfl).at_ (SX.any rfl hw')))) (by kernel_rfl) ?_
 refine a_q rfl gn rfl (fun w' => y_move rfl et) ?_
 obtain ⟨r6, hx13, h⟩ := bnd_some h
 refine la_call rfl gn rfl (r_callF (vs := [(Value.agg (AType d1.Type_))]) rfl ok_11 ⟨et, trivial⟩) (Calls.mono (c_ref15_Type (Dj F c7) w7 hI.lt d1.Type_ trivial r6 hx13) ?_)
 rintro _ w8 ⟨rfl, hx14, hl6⟩
 refine ⟨_, rfl, hx14, ?_⟩
 replace hI := (hI.ext hx14)
 obtain ⟨s3, hx15, h⟩ := bnd_some h
 refine a_q rfl gn rfl (fun w' => y_catl rfl et et hx15) ?_
 obtain ⟨s4, hx16, h⟩ := bnd_some h
 refine a_q rfl gn rfl (fun w' => y_catl rfl et ev_const hx16) ?_
 obtain ⟨s5, hx17, h⟩ := bnd_some h
 refine a_q rfl gn rfl (fun w' => y_catl rfl et et hx17) ?_
 obtain ⟨s6, hx18, h⟩ := bnd_some h
 refine a_q rfl gn rfl (fun w' => y_catl rfl et ev_const hx18) ?_
 refine a_q rfl gn rfl (fun w' => y_assign rfl et) ?_
 refine a_nil ?_
 refine k_next (e := [(1, vp b1 0), (5, (str r2.1)), (7, (str r3)), (8, (str s6))]) ⟨rfl, rfl, rfl, rfl, trivial⟩ ?_
 refine c_seq (sr (sq (y_fieldAddr rfl et u49 rfl size_3 rfl) ?_))
 refine sq (y_load1 (v := (vi d1.Fold)) rfl et u3 rfl (hI.kblk (l := [vi d1.Fold]) .z rfl).1) ?_
 refine sq (y_neq rfl et ev_const) ?_
 refine nk (cif h et (fun hb h => ?_) (fun hb h => ?_))
 ·refine sr (sm ?_)
  refine sq (y_fieldAddr rfl et u49 rfl size_3 rfl) ?_
  refine sq (y_load1 (v := (vi d1.Fold)) rfl et u3 rfl (hI.kblk (l := [vi d1.Fold]) .z rfl).1) ?_
  obtain ⟨r7, hx19, h⟩ := bnd_some h
  refine s_call gn rfl (r_callF (vs := [vi d1.Fold]) rfl ok_59 ⟨et, trivial⟩) (Calls.mono (c_ref15_word (Dj F c7) w8 hI.lt d1.Fold trivial r7 hx19) ?_)
  rintro _ w9 ⟨rfl, hx20, hl7⟩
  refine ⟨_, rfl, ?_⟩
  replace hI := (hI.ext hx20)
  obtain ⟨s7, hx21, h⟩ := bnd_some h
  refine sq (y_catl rfl et et hx21) ?_
  refine sa ?_
  refine nk (c_seq (sr (sq (y_fieldAddr rfl et u49 rfl size_47 rfl) ?_)))
  refine sq (y_load1 (v := (vs a2 d1.Red.length c2)) rfl et u47 rfl (hI.kblk (l := [vs a2 d1.Red.length c2]) .z rfl).1) ?_
  refine sq (y_lenl rfl u47 et) ?_
  refine sq (y_gtr rfl et ev_const) ?_
  refine nk (cif h et (fun hb h => ?_) (fun hb h => ?_))
  ·refine c_region rfl ?_
   refine sm ?_
   obtain ⟨s8, hx22, h⟩ := bnd_some h
   refine sq (y_catl rfl et ev_const hx22) ?_
   refine sm ?_
   obtain ⟨s9, hx23, h⟩ := bnd_some h
   refine sq (y_catl rfl et et hx23) ?_
   refine sa ?_
   refine nk (c_region rfl ?_)
   refine sm ?_
   obtain ⟨s10, hx24, h⟩ := bnd_some h
   refine sq (y_catl rfl et ev_const hx24) ?_
   refine sa ?_
   refine nk (sr (sm ?_))
   refine sm ?_
   obtain ⟨s11, hx25, h⟩ := bnd_some h
   refine sq (y_catl rfl et et hx25) ?_
   obtain ⟨s12, hx26, h⟩ := bnd_some h
   refine sq (y_catl rfl et ev_const hx26) ?_
   refine sa ?_
   refine s_nil ?_
   refine k_next (e := [(2, (str s12))]) ⟨rfl, trivial⟩ ?_
   refine c_ret ?_
   obtain rfl := some_inj h
   exact q_ret (vs := [(str s12)]) Tryz.results23 ⟨ev_tmp rfl rfl, trivial⟩ (fq hI trivial)
  refine c_skip (k_same (c_region rfl ?_))
  refine sm ?_
  obtain ⟨s13, hx27, h⟩ := bnd_some h
  refine sq (y_catl rfl et ev_const hx27) ?_
  refine sa ?_
  refine nk (sr (sm ?_))
  refine sm ?_
  obtain ⟨s14, hx28, h⟩ := bnd_some h
  refine sq (y_catl rfl et et hx28) ?_
  obtain ⟨s15, hx29, h⟩ := bnd_some h
  refine sq (y_catl rfl et ev_const hx29) ?_
  refine sa ?_
  refine nk (c_ret ?_)
  obtain rfl := some_inj h
  exact q_ret (vs := [(str s15)]) Tryz.results23 ⟨ev_tmp rfl rfl, trivial⟩ (fq hI trivial)
 refine c_skip (k_same (sr (sm ?_)))
 refine sm ?_
 obtain ⟨s16, hx30, h⟩ := bnd_some h
 refine sq (y_catl rfl et et hx30) ?_
 obtain ⟨s17, hx31, h⟩ := bnd_some h
 refine sq (y_catl rfl et ev_const hx31) ?_
 refine sa ?_
 refine nk (c_ret ?_)
 obtain rfl := some_inj h
 exact q_ret (vs := [(str s17)]) Tryz.results23 ⟨ev_tmp rfl rfl, trivial⟩ (fq hI trivial)
theorem c_ref05_Small (F : NP) (w0 : World) (hF : ∀ k, F k → k < w0.heap.size) (l1 : GLin) (a1 : Option Addr) (c1 : Nat) (hc : AllCl [Cl.sl cGMono a1 c1 l1.L] F w0) (r : Bool)
  (h : m_ref05_Small l1 = some r) :
  Calls Tryz.prog 117 #[(Value.agg (ALin l1 a1 c1))] w0 fun e w => e = .returned (vb r) ∧ Ext w0 w ∧ AllCl [] F w := by
 refine enterK Tryz.func117 rfl Tryz.ntmps117 rfl ?_
 have hI := Bun.start hF hc
 clear hc
 rw [m_ref05_Small] at h
 refine sr (l_box (v := (Value.agg (ALin l1 a1 c1))) (cs := (ALin l1 a1 c1)) hI gn rfl rfl et rfl ?_)
 clear hI; intro b1 c2 w1 hI
 obtain ⟨c3, hI⟩ := hI.relBox .z
 refine sac ?_
 refine nk (c_seq (sr (sq (y_fieldAddr rfl et u29 rfl size_27 rfl) ?_)))
 refine sq (y_load1 (v := (vs a1 l1.L.length c1)) rfl et u27 rfl (hI.kblk (l := [vs a1 l1.L.length c1]) .z rfl).1) ?_
 refine sq (y_lenl rfl u27 et) ?_
 refine sq (y_gtr rfl et ev_const) ?_
 refine nk (cif h et (fun hb h => ?_) (fun hb h => ?_))
 ·refine sr (sac ?_)
  refine nk (c_ret ?_)
  obtain rfl := some_inj h
  exact q_ret (vs := [vb false]) Tryz.results117 ⟨ev_tmp rfl rfl, trivial⟩ (fq hI trivial)
 refine c_skip (k_same (c_seq (sr (sac ?_))))
 refine nk (c_block (c_loop (α := Nat × Int) (fun x => fun w => ∃ C, Bun noM F w0 C w [] [Cl.blk b1 29 (ALin l1 a1 c1), Cl.sl cGMono a1 c1 l1.L] ∧ m_ref05_Small_l1 l1 (x.1) (x.2) = some r) (fun x _ => x.1) (fun x => [(1, vp b1 0), (3, vi (x.2))]) (fu, 0) ⟨_, hI.arr .n ⟨.z, (.s .z), trivial⟩, h⟩ ⟨rfl, rfl, trivial⟩ ?_))
 clear h hI; rintro ⟨fuel1, i1⟩ w2 ⟨c4, hI, h⟩
 dsimp only at hI h
 rcases fuel1 with _ | fuel1
 ·rw [m_ref05_Small_l1] at h; cases h
 rw [m_ref05_Small_l1] at h
 refine c_sub (e := [(1, vp b1 0), (3, vi i1)]) ⟨rfl, rfl, trivial⟩ ?_
 refine c_seq (sr (sm ?_))
 refine sq (y_fieldAddr rfl et u29 rfl size_27 rfl) ?_
 refine sq (y_load1 (v := (vs a1 l1.L.length c1)) rfl et u27 rfl (hI.kblk (l := [vs a1 l1.L.length c1]) .z rfl).1) ?_
 refine sq (y_lenl rfl u27 et) ?_
 refine sq (y_lss rfl et et) ?_
 refine nk (cif h et (fun hb h => ?_) (fun hb h => ?_))
 ·refine c_skip (k_same (c_seq (c_block (sr (sq (y_fieldAddr rfl et u29 rfl size_27 rfl) ?_)))))
  refine sq (y_load1 (v := (vs a1 l1.L.length c1)) rfl et u27 rfl (hI.kblk (l := [vs a1 l1.L.length c1]) .z rfl).1) ?_
  refine sm ?_
  obtain ⟨e1, hx1, h⟩ := bnd_some h
  obtain ⟨ad1, cs1, hA1, hr1, hq1⟩ := hI.clat (.s .z) hx1
  obtain rfl : cs1 = [(str e1.Name), vi e1.By] := hr1
  refine sq (y_indexAddr rfl u27 size_112 et et (lat_bd hx1) hA1) ?_
  refine sq (y_fieldAddr rfl et u112 rfl size_9 rfl) ?_
  refine sq (y_load1 (v := (str e1.Name)) rfl et u9 rfl (CA.part hq1 rfl).1) ?_
  refine sq (y_lens rfl u9 et) ?_
  refine sq (y_gtr rfl et ev_const) ?_
  refine nk (cif h et (fun hb h => ?_) (fun hb h => ?_))
  ·refine sr (sac ?_)
   refine nk (c_ret ?_)
   obtain rfl := some_inj h
   exact q_ret (vs := [vb false]) Tryz.results117 ⟨ev_tmp rfl rfl, trivial⟩ (fq hI trivial)
  refine c_skip (k_same (c_region rfl ?_))
  refine sm ?_
  refine sq (y_add rfl et ev_const) ?_
  refine sa ?_
  refine s_nil ?_
  exact k_loop (fuel1, wi64 (i1 + 1)) ⟨rfl, rfl, trivial⟩ ⟨_, hI.arr .n ⟨.z, (.s .z), trivial⟩, h⟩ (Nat.lt_succ_self _)
 refine c_exit ?_
 refine k_in ?_
 refine k_same (sr (sac ?_))
 refine nk (c_ret ?_)
 obtain rfl := some_inj h
 exact q_ret (vs := [vb true]) Tryz.results117 ⟨ev_tmp rfl rfl, trivial⟩ (fq hI trivial)
theorem c_ref15_small (F : NP) (w0 : World) (hF : ∀ k, F k → k < w0.heap.size) (l1 : List GLin) (a1 : Option Addr) (c1 : Nat) (hc : AllCl [Cl.sl cGLin a1 c1 l1] F w0) (r : Bool)
  (h : m_ref15_small l1 = some r) :
  Calls Tryz.prog 62 #[vs a1 l1.length c1] w0 fun e w => e = .returned (vb r) ∧ Ext w0 w ∧ AllCl [] F w := by
 refine enterK Tryz.func62 rfl Tryz.ntmps62 rfl ?_
 have hI := Bun.start hF hc
 clear hc
 rw [m_ref15_small] at h
 refine sr (sac ?_)
 refine nk (c_seq (sr (sm ?_)))
 refine sq (y_lenl rfl u30 et) ?_
 refine sq (y_gtr rfl et ev_const) ?_
 refine nk (cif h et (fun hb h => ?_) (fun hb h => ?_))
 ·refine sr (sac ?_)
  refine nk (c_ret ?_)
  obtain rfl := some_inj h
  exact q_ret (vs := [vb false]) Tryz.results62 ⟨ev_tmp rfl rfl, trivial⟩ (fq hI trivial)
 refine c_skip (k_same (c_seq (sr (sac ?_))))
 refine nk (c_block (c_loop (α := Nat × Int) (fun x => fun w => ∃ C, Bun noM F w0 C w [] [Cl.sl cGLin a1 c1 l1] ∧ m_ref15_small_l1 l1 (x.1) (x.2) = some r) (fun x _ => x.1) (fun x => [(0, vs a1 l1.length c1), (3, vi (x.2))]) (fu, 0) ⟨_, hI.arr .n ⟨.z, trivial⟩, h⟩ ⟨rfl, rfl, trivial⟩ ?_))
 clear h hI; rintro ⟨fuel1, i1⟩ w1 ⟨c2, hI, h⟩
 dsimp only at hI h
 rcases fuel1 with _ | fuel1
 ·rw [m_ref15_small_l1] at h; cases h
 rw [m_ref15_small_l1] at h
 refine c_sub (e := [(0, vs a1 l1.length c1), (3, vi i1)]) ⟨rfl, rfl, trivial⟩ ?_
 refine c_seq (sr (sm ?_))
 refine sm ?_
 refine sq (y_lenl rfl u30 et) ?_
 refine sq (y_lss rfl et et) ?_
 refine nk (cif h et (fun hb h => ?_) (fun hb h => ?_))
 ·refine c_skip (k_same (c_seq (c_block (sr (sm ?_)))))
  refine sm ?_
  obtain ⟨e1, hx1, h⟩ := bnd_some h
  obtain ⟨ad1, cs1, hA1, hr1, hq1⟩ := hI.clat .z hx1
  obtain ⟨a2, c3, rfl, hf1⟩ := hr1
  have hI := hI.add (c := Cl.sl cGMono a2 c3 e1.L) hf1
  refine sq (y_indexAddr rfl u30 size_29 et et (lat_bd hx1) hA1) ?_
  refine sq (y_loadN (l := (lLin e1 a2 c3)) rfl et u29 rfl size_29 hq1.1) ?_
  obtain ⟨r1, hx2, h⟩ := bnd_some h
  refine s_call gn rfl (r_callF (vs := [(Value.agg (ALin e1 a2 c3))]) rfl ok_117 ⟨et, trivial⟩) (Calls.mono (c_ref05_Small (Dj F c2) w1 hI.lt e1 a2 c3 ⟨(hI.get .z), trivial⟩ r1 hx2) ?_)
  rintro _ w2 ⟨rfl, hx3, hl1⟩
  refine ⟨_, rfl, ?_⟩
  replace hI := (hI.ext hx3)
  refine sq (y_not rfl et) ?_
  refine nk (cif h et (fun hb h => ?_) (fun hb h => ?_))
  ·refine sr (sac ?_)
   refine nk (c_ret ?_)
   obtain rfl := some_inj h
   exact q_ret (vs := [vb false]) Tryz.results62 ⟨ev_tmp rfl rfl, trivial⟩ (fq hI trivial)
  refine c_skip (k_same (c_region rfl ?_))
  refine sm ?_
  refine sq (y_add rfl et ev_const) ?_
  refine sa ?_
  refine s_nil ?_
  exact k_loop (fuel1, wi64 (i1 + 1)) ⟨rfl, rfl, trivial⟩ ⟨_, hI.arr .n ⟨(.s .z), trivial⟩, h⟩ (Nat.lt_succ_self _)
 refine c_exit ?_
 refine k_in ?_
 refine k_same (sr (sac ?_))
 refine nk (c_ret ?_)
 obtain rfl := some_inj h
 exact q_ret (vs := [vb true]) Tryz.results62 ⟨ev_tmp rfl rfl, trivial⟩ (fq hI trivial)
theorem c_ref15_SmallProg (F : NP) (w0 : World) (hF : ∀ k, F k → k < w0.heap.size) (p1 : GProg) (a1 : Option Addr) (c1 : Nat) (a2 : Option Addr) (c2 : Nat) (a3 : Option Addr) (c3 : Nat) (a4 : Option Addr) (c4 : Nat) (a5 : Option Addr) (c5 : Nat) (hc : AllCl [Cl.sl cStr a1 c1 p1.Sizes, Cl.sl cGConstraint a2 c2 p1.Where, Cl.sl cGParam a3 c3 p1.Params, Cl.sl cGDef a4 c4 p1.Defs, Cl.sl cStr a5 c5 p1.Outs] F w0) (r : Bool)
  (h : m_ref15_SmallProg p1 = some r) :
  Calls Tryz.prog 25 #[(Value.agg #[vs a1 p1.Sizes.length c1, vs a2 p1.Where.length c2, vs a3 p1.Params.length c3, vs a4 p1.Defs.length c4, vs a5 p1.Outs.length c5])] w0 fun e w => e = .returned (vb r) ∧ Ext w0 w ∧ AllCl [] F w := by
 refine enterK Tryz.func25 rfl Tryz.ntmps25 rfl ?_
 have hI := Bun.start hF hc
 clear hc
 rw [m_ref15_SmallProg] at h
 refine sr (l_box (v := (Value.agg #[vs a1 p1.Sizes.length c1, vs a2 p1.Where.length c2, vs a3 p1.Params.length c3, vs a4 p1.Defs.length c4, vs a5 p1.Outs.length c5])) (cs := #[vs a1 p1.Sizes.length c1, vs a2 p1.Where.length c2, vs a3 p1.Params.length c3, vs a4 p1.Defs.length c4, vs a5 p1.Outs.length c5]) hI gn rfl rfl et rfl ?_)
 clear hI; intro b1 c6 w1 hI
 obtain ⟨c7, hI⟩ := hI.relBox .z
 refine sac ?_
 refine nk (c_seq (sr (sq (y_fieldAddr rfl et u62 rfl size_55 rfl) ?_)))
 refine sq (y_load1 (v := (vs a1 p1.Sizes.length c1)) rfl et u55 rfl (hI.kblk (l := [vs a1 p1.Sizes.length c1]) .z rfl).1) ?_
 refine sq (y_lenl rfl u55 et) ?_
 refine sq (y_gtr rfl et ev_const) ?_
 refine sm ?_
 refine s_gval (g_false rfl rfl rfl rfl) rfl (fun hc => y_fieldAddr rfl et u62 rfl size_58 rfl) ?_
 refine s_gval (g_false rfl rfl rfl rfl) rfl (fun hc => (y_load1 (v := (vs a2 p1.Where.length c2)) rfl (ev_gv et hc) u58 rfl (hI.kblk (l := [vs a2 p1.Where.length c2]) .z rfl).1)) ?_
 refine s_gval (g_false rfl rfl rfl rfl) rfl (fun hc => y_lenl rfl u58 (ev_gv et hc)) ?_
 refine s_gval (g_false rfl rfl rfl rfl) rfl (fun hc => y_gtr rfl (ev_gv et hc) ev_const) ?_
 refine sq (y_or rfl et et) ?_
 refine sm ?_
 refine s_gval (g_false rfl rfl rfl rfl) rfl (fun hc => y_fieldAddr rfl et u62 rfl size_59 rfl) ?_
 refine s_gval (g_false rfl rfl rfl rfl) rfl (fun hc => (y_load1 (v := (vs a3 p1.Params.length c3)) rfl (ev_gv et hc) u59 rfl (hI.kblk (l := [vs a3 p1.Params.length c3]) .z rfl).1)) ?_
 refine s_gval (g_false rfl rfl rfl rfl) rfl (fun hc => y_lenl rfl u59 (ev_gv et hc)) ?_
 refine s_gval (g_false rfl rfl rfl rfl) rfl (fun hc => y_gtr rfl (ev_gv et hc) ev_const) ?_
 refine sq (y_or rfl et et) ?_
 refine sm ?_
 refine s_gval (g_false rfl rfl rfl rfl) rfl (fun hc => y_fieldAddr rfl et u62 rfl size_60 rfl) ?_
 refine s_gval (g_false rfl rfl rfl rfl) rfl (fun hc => (y_load1 (v := (vs a4 p1.Defs.length c4)) rfl (ev_gv et hc) u60 rfl (hI.kblk (l := [vs a4 p1.Defs.length c4]) .z rfl).1)) ?_
 refine s_gval (g_false rfl rfl rfl rfl) rfl (fun hc => y_lenl rfl u60 (ev_gv et hc)) ?_
 refine s_gval (g_false rfl rfl rfl rfl) rfl (fun hc => y_gtr rfl (ev_gv et hc) ev_const) ?_
 refine sq (y_or rfl et et) ?_
 refine sm ?_
 refine s_gval (g_false rfl rfl rfl rfl) rfl (fun hc => y_fieldAddr rfl et u62 rfl size_55 rfl) ?_
 refine s_gval (g_false rfl rfl rfl rfl) rfl (fun hc => (y_load1 (v := (vs a5 p1.Outs.length c5)) rfl (ev_gv et hc) u55 rfl (hI.kblk (l := [vs a5 p1.Outs.length c5]) .z rfl).1)) ?_
 refine s_gval (g_false rfl rfl rfl rfl) rfl (fun hc => y_lenl rfl u55 (ev_gv et hc)) ?_
 refine s_gval (g_false rfl rfl rfl rfl) rfl (fun hc => y_gtr rfl (ev_gv et hc) ev_const) ?_
 refine sq (y_or rfl et et) ?_
 refine s_nil ?_
 refine k_next (e := [(1, vp b1 0), (32, (vb (((((decide (20 < (p1.Sizes.length : Int))) || (decide (20 < (p1.Where.length : Int)))) || (decide (20 < (p1.Params.length : Int)))) || (decide (20 < (p1.Defs.length : Int)))) || (decide (20 < (p1.Outs.length : Int))))))]) ⟨rfl, rfl, trivial⟩ ?_
 refine cif h et (fun hb h => ?_) (fun hb h => ?_)
 ·refine sr (sac ?_)
  refine nk (c_ret ?_)
  obtain rfl := some_inj h
  exact q_ret (vs := [vb false]) Tryz.results25 ⟨ev_tmp rfl rfl, trivial⟩ (fq hI trivial)
 refine c_skip (k_same (c_join (α := Unit) (fun _ => ⟨62, []⟩) (fun _ => [(1, vp b1 0)]) (fun _ => fun w => ∃ C, Bun noM F w0 C w [] [Cl.blk b1 62 #[vs a1 p1.Sizes.length c1, vs a2 p1.Where.length c2, vs a3 p1.Params.length c3, vs a4 p1.Defs.length c4, vs a5 p1.Outs.length c5], Cl.sl cStr a1 c1 p1.Sizes, Cl.sl cGConstraint a2 c2 p1.Where, Cl.sl cGParam a3 c3 p1.Params, Cl.sl cGDef a4 c4 p1.Defs, Cl.sl cStr a5 c5 p1.Outs] ∧ m_ref15_SmallProg_j1 p1 = some r) ?_ ?_))
 ·clear h hI; rintro _ w2 ⟨c8, hI, h⟩
  try dsimp only at hI h
  rw [m_ref15_SmallProg_j1] at h
  refine c_sub (e := [(1, vp b1 0)]) ⟨rfl, trivial⟩ ?_
  refine c_seq (sr (sac ?_))
  refine nk (c_block (c_loop (α := Nat × Int) (fun x => fun w => ∃ C, Bun noM F w0 C w [] [Cl.blk b1 62 #[vs a1 p1.Sizes.length c1, vs a2 p1.Where.length c2, vs a3 p1.Params.length c3, vs a4 p1.Defs.length c4, vs a5 p1.Outs.length c5], Cl.sl cStr a1 c1 p1.Sizes, Cl.sl cGConstraint a2 c2 p1.Where, Cl.sl cGParam a3 c3 p1.Params, Cl.sl cGDef a4 c4 p1.Defs, Cl.sl cStr a5 c5 p1.Outs] ∧ m_ref15_SmallProg_l1 p1 (x.1) (x.2) = some r) (fun x _ => x.1) (fun x => [(1, vp b1 0), (4, vi (x.2))]) (fu, 0) ⟨_, hI.arr .n ⟨.z, (.s .z), (.s (.s .z)), (.s (.s (.s .z))), (.s (.s (.s (.s .z)))), (.s (.s (.s (.s (.s .z))))), trivial⟩, h⟩ ⟨rfl, rfl, trivial⟩ ?_))
  clear h hI; rintro ⟨fuel1, i1⟩ w3 ⟨c9, hI, h⟩
  dsimp only at hI h
  rcases fuel1 with _ | fuel1
  ·rw [m_ref15_SmallProg_l1] at h; cases h
  rw [m_ref15_SmallProg_l1] at h
  refine c_sub (e := [(1, vp b1 0), (4, vi i1)]) ⟨rfl, rfl, trivial⟩ ?_
  refine c_seq (sr (sm ?_))
  refine sq (y_fieldAddr rfl et u62 rfl size_60 rfl) ?_
  refine sq (y_load1 (v := (vs a4 p1.Defs.length c4)) rfl et u60 rfl (hI.kblk (l := [vs a4 p1.Defs.length c4]) .z rfl).1) ?_
  refine sq (y_lenl rfl u60 et) ?_
  refine sq (y_lss rfl et et) ?_
  refine nk (cif h et (fun hb h => ?_) (fun hb h => ?_))
  ·refine c_skip (k_same (c_seq (c_block (sr (sq (y_fieldAddr rfl et u62 rfl size_60 rfl) ?_)))))
   refine sq (y_load1 (v := (vs a4 p1.Defs.length c4)) rfl et u60 rfl (hI.kblk (l := [vs a4 p1.Defs.length c4]) .z rfl).1) ?_
   refine sm ?_
   obtain ⟨e1, hx1, h⟩ := bnd_some h
   obtain ⟨ad1, cs1, hA1, hr1, hq1⟩ := hI.clat (.s (.s (.s (.s .z)))) hx1
   obtain ⟨a6, c10, a7, c11, a8, c12, a9, c13, a10, c14, rfl, hf1, hf2, hf3, hf4, hf5⟩ := hr1
   have hI := hI.add (c := Cl.sl cGAxis a6 c10 e1.Dims) hf1
   have hI := hI.add (c := Cl.sl cGAxis a7 c11 e1.Red) hf2
   have hI := hI.add (c := Cl.sl cGMono a8 c12 e1.Body.Lin.L) hf3
   have hI := hI.add (c := Cl.sl cGIndex a9 c13 e1.Body.Idx) hf4
   have hI := hI.add (c := Cl.sl cGExpr a10 c14 e1.Body.Args) hf5
   refine sq (y_indexAddr rfl u60 size_49 et et (lat_bd hx1) hA1) ?_
   refine sq (y_loadN (l := [(str e1.Name), vi e1.Type_.Kind, vi e1.Type_.Bits, vi e1.Type_.Frac, vi e1.Type_.Round, vi e1.Type_.Over, vs a6 e1.Dims.length c10, vs a7 e1.Red.length c11, vi e1.Fold, vi e1.Body.Op, (str e1.Body.Name), vi e1.Body.Val.N, vi e1.Body.Val.D, vi e1.Body.Type_.Kind, vi e1.Body.Type_.Bits, vi e1.Body.Type_.Frac, vi e1.Body.Type_.Round, vi e1.Body.Type_.Over, vi e1.Body.Lin.K, vs a8 e1.Body.Lin.L.length c12, vs a9 e1.Body.Idx.length c13, vs a10 e1.Body.Args.length c14]) rfl et u49 rfl size_49 hq1.1) ?_
   obtain ⟨r1, hx2, h⟩ := bnd_some h
   refine s_call gn rfl (r_callF (vs := [(Value.agg #[(str e1.Name), vi e1.Type_.Kind, vi e1.Type_.Bits, vi e1.Type_.Frac, vi e1.Type_.Round, vi e1.Type_.Over, vs a6 e1.Dims.length c10, vs a7 e1.Red.length c11, vi e1.Fold, vi e1.Body.Op, (str e1.Body.Name), vi e1.Body.Val.N, vi e1.Body.Val.D, vi e1.Body.Type_.Kind, vi e1.Body.Type_.Bits, vi e1.Body.Type_.Frac, vi e1.Body.Type_.Round, vi e1.Body.Type_.Over, vi e1.Body.Lin.K, vs a8 e1.Body.Lin.L.length c12, vs a9 e1.Body.Idx.length c13, vs a10 e1.Body.Args.length c14])]) rfl ok_21 ⟨et, trivial⟩) (Calls.mono (c_ref15_SmallDef (Dj F c9) w3 hI.lt e1 a6 c10 a7 c11 a8 c12 a9 c13 a10 c14 ⟨(hI.get (.s (.s (.s (.s .z))))), (hI.get (.s (.s (.s .z)))), (hI.get (.s (.s .z))), (hI.get (.s .z)), (hI.get .z), trivial⟩ r1 hx2) ?_)
   rintro _ w4 ⟨rfl, hx3, hl1⟩
   refine ⟨_, rfl, ?_⟩
   replace hI := (hI.ext hx3)
   refine sq (y_not rfl et) ?_
   refine nk (cif h et (fun hb h => ?_) (fun hb h => ?_))
   ·refine sr (sac ?_)
    refine nk (c_ret ?_)
    obtain rfl := some_inj h
    exact q_ret (vs := [vb false]) Tryz.results25 ⟨ev_tmp rfl rfl, trivial⟩ (fq hI trivial)
   refine c_skip (k_same (c_region rfl ?_))
   refine sm ?_
   refine sq (y_add rfl et ev_const) ?_
   refine sa ?_
   refine s_nil ?_
   exact k_loop (fuel1, wi64 (i1 + 1)) ⟨rfl, rfl, trivial⟩ ⟨_, hI.arr .n ⟨(.s (.s (.s (.s (.s .z))))), (.s (.s (.s (.s (.s (.s .z)))))), (.s (.s (.s (.s (.s (.s (.s .z))))))), (.s (.s (.s (.s (.s (.s (.s (.s .z)))))))), (.s (.s (.s (.s (.s (.s (.s (.s (.s .z))))))))), (.s (.s (.s (.s (.s (.s (.s (.s (.s (.s .z)))))))))), trivial⟩, h⟩ (Nat.lt_succ_self _)
  refine c_exit ?_
  refine k_in ?_
  refine k_same (sr (sac ?_))
  refine nk (c_ret ?_)
  obtain rfl := some_inj h
  exact q_ret (vs := [vb true]) Tryz.results25 ⟨ev_tmp rfl rfl, trivial⟩ (fq hI trivial)
 refine sr (sac ?_)
 refine nk (c_block (c_loop (α := Nat × Int) (fun x => fun w => ∃ C, Bun noM F w0 C w [] [Cl.blk b1 62 #[vs a1 p1.Sizes.length c1, vs a2 p1.Where.length c2, vs a3 p1.Params.length c3, vs a4 p1.Defs.length c4, vs a5 p1.Outs.length c5], Cl.sl cStr a1 c1 p1.Sizes, Cl.sl cGConstraint a2 c2 p1.Where, Cl.sl cGParam a3 c3 p1.Params, Cl.sl cGDef a4 c4 p1.Defs, Cl.sl cStr a5 c5 p1.Outs] ∧ m_ref15_SmallProg_l2 p1 (x.1) (x.2) = some r) (fun x _ => x.1) (fun x => [(1, vp b1 0), (3, vi (x.2))]) (fu, 0) ⟨_, hI.arr .n ⟨.z, (.s .z), (.s (.s .z)), (.s (.s (.s .z))), (.s (.s (.s (.s .z)))), (.s (.s (.s (.s (.s .z))))), trivial⟩, h⟩ ⟨rfl, rfl, trivial⟩ ?_))
 clear h hI; rintro ⟨fuel2, i2⟩ w5 ⟨c15, hI, h⟩
 dsimp only at hI h
 rcases fuel2 with _ | fuel2
 ·rw [m_ref15_SmallProg_l2] at h; cases h
 rw [m_ref15_SmallProg_l2] at h
 refine c_sub (e := [(1, vp b1 0), (3, vi i2)]) ⟨rfl, rfl, trivial⟩ ?_
 refine c_seq (sr (sm ?_))
 refine sq (y_fieldAddr rfl et u62 rfl size_59 rfl) ?_
 refine sq (y_load1 (v := (vs a3 p1.Params.length c3)) rfl et u59 rfl (hI.kblk (l := [vs a3 p1.Params.length c3]) .z rfl).1) ?_
 refine sq (y_lenl rfl u59 et) ?_
 refine sq (y_lss rfl et et) ?_
 refine nk (cif h et (fun hb h => ?_) (fun hb h => ?_))
 ·refine c_skip (k_same (c_seq (c_block (sr (sq (y_fieldAddr rfl et u62 rfl size_59 rfl) ?_)))))
  refine sq (y_load1 (v := (vs a3 p1.Params.length c3)) rfl et u59 rfl (hI.kblk (l := [vs a3 p1.Params.length c3]) .z rfl).1) ?_
  refine sm ?_
  obtain ⟨e2, hx4, h⟩ := bnd_some h
  obtain ⟨ad2, cs2, hA2, hr2, hq2⟩ := hI.clat (.s (.s (.s .z))) hx4
  obtain ⟨a11, c16, rfl, hf6⟩ := hr2
  have hI := hI.add (c := Cl.sl cGLin a11 c16 e2.Dims) hf6
  refine sq (y_indexAddr rfl u59 size_96 et et (lat_bd hx4) hA2) ?_
  refine sq (y_fieldAddr rfl et u96 rfl size_30 rfl) ?_
  refine sq (y_load1 (v := (vs a11 e2.Dims.length c16)) rfl et u30 rfl (CA.part hq2 rfl).1) ?_
  obtain ⟨r2, hx5, h⟩ := bnd_some h
  refine s_call gn rfl (r_callF (vs := [vs a11 e2.Dims.length c16]) rfl ok_62 ⟨et, trivial⟩) (Calls.mono (c_ref15_small (Dj F c15) w5 hI.lt e2.Dims a11 c16 ⟨(hI.get .z), trivial⟩ r2 hx5) ?_)
  rintro _ w6 ⟨rfl, hx6, hl2⟩
  refine ⟨_, rfl, ?_⟩
  replace hI := (hI.ext hx6)
  refine sq (y_not rfl et) ?_
  refine nk (cif h et (fun hb h => ?_) (fun hb h => ?_))
  ·refine sr (sac ?_)
   refine nk (c_ret ?_)
   obtain rfl := some_inj h
   exact q_ret (vs := [vb false]) Tryz.results25 ⟨ev_tmp rfl rfl, trivial⟩ (fq hI trivial)
  refine c_skip (k_same (c_region rfl ?_))
  refine sm ?_
  refine sq (y_add rfl et ev_const) ?_
  refine sa ?_
  refine s_nil ?_
  exact k_loop (fuel2, wi64 (i2 + 1)) ⟨rfl, rfl, trivial⟩ ⟨_, hI.arr .n ⟨(.s .z), (.s (.s .z)), (.s (.s (.s .z))), (.s (.s (.s (.s .z)))), (.s (.s (.s (.s (.s .z))))), (.s (.s (.s (.s (.s (.s .z)))))), trivial⟩, h⟩ (Nat.lt_succ_self _)
 refine c_exit ?_
 refine k_in ?_
 exact k_join () ⟨rfl, trivial⟩ ⟨_, hI.arr .n ⟨.z, (.s .z), (.s (.s .z)), (.s (.s (.s .z))), (.s (.s (.s (.s .z)))), (.s (.s (.s (.s (.s .z))))), trivial⟩, h⟩ rfl
theorem c_printer_names_valid (F : NP) (w0 : World) (hF : ∀ k, F k → k < w0.heap.size) (l1 : List (List UInt8)) (a1 : Option Addr) (c1 : Nat) (hc : AllCl [Cl.sl cStr a1 c1 l1, clSpace] F w0) (r : Bool)
  (h : m_printer_names_valid l1 = some r) :
  Calls Tryz.prog 63 #[vs a1 l1.length c1] w0 fun e w => e = .returned (vb r) ∧ Ext w0 w ∧ AllCl [] F w := by
 refine enterK Tryz.func63 rfl Tryz.ntmps63 rfl ?_
 have hI := Bun.start hF hc
 clear hc
 rw [m_printer_names_valid] at h
 refine sr (sac ?_)
 refine nk (c_seq (sr (sm ?_)))
 refine sq (y_lenl rfl u97 et) ?_
 refine sq (y_move rfl ev_const) ?_
 refine nk (c_block (c_loop (α := Nat × Int) (fun x => fun w => ∃ C, Bun noM F w0 C w [] [Cl.sl cStr a1 c1 l1, clSpace] ∧ m_printer_names_valid_l1 l1 (x.1) (x.2) = some r) (fun x _ => x.1) (fun x => [(5, vs a1 l1.length c1), (6, vi (l1.length : Int)), (7, vi (x.2))]) (fu, 0) ⟨_, hI.arr .n ⟨.z, (.s .z), trivial⟩, h⟩ ⟨rfl, rfl, rfl, trivial⟩ ?_))
 clear h hI; rintro ⟨fuel1, i1⟩ w1 ⟨c2, hI, h⟩
 dsimp only at hI h
 rcases fuel1 with _ | fuel1
 ·rw [m_printer_names_valid_l1] at h; cases h
 rw [m_printer_names_valid_l1] at h
 refine c_sub (e := [(5, vs a1 l1.length c1), (6, vi (l1.length : Int)), (7, vi i1)]) ⟨rfl, rfl, rfl, trivial⟩ ?_
 refine sr (sq (y_lss rfl et et) ?_)
 refine nk (c_seq (cif h et (fun hb h => ?_) (fun hb h => ?_)))
 ·refine c_skip (k_same (c_seq (c_block (sr ?_))))
  obtain ⟨e1, hx1, h⟩ := bnd_some h
  obtain ⟨ad1, cs1, hA1, hr1, hq1⟩ := hI.clat .z hx1
  obtain rfl : cs1 = [(str e1)] := hr1
  refine sq (y_indexAddr rfl u97 size_9 et et (lat_bd hx1) hA1) ?_
  refine sq (y_load1 (v := (str e1)) rfl et u9 rfl hq1.1) ?_
  refine sa ?_
  refine nk (sr (sm ?_))
  obtain ⟨r1, hx2, h⟩ := bnd_some h
  refine s_call gn rfl (r_callF (vs := [(str e1)]) rfl ok_37 ⟨et, trivial⟩) (Calls.mono (c_lexer_IsName (Dj F c2) w1 hI.lt e1 ⟨(hI.get (.s .z)), trivial⟩ r1 hx2) ?_)
  rintro _ w2 ⟨rfl, hx3, hl1⟩
  refine ⟨_, rfl, ?_⟩
  replace hI := (hI.ext hx3)
  refine sq (y_not rfl et) ?_
  refine nk (cif h et (fun hb h => ?_) (fun hb h => ?_))
  ·refine sr (sac ?_)
   refine nk (c_ret ?_)
   obtain rfl := some_inj h
   exact q_ret (vs := [vb false]) Tryz.results63 ⟨ev_tmp rfl rfl, trivial⟩ (fq hI trivial)
  refine c_skip (k_same (c_region rfl ?_))
  refine sq (y_add rfl et ev_const) ?_
  refine sm ?_
  refine s_nil ?_
  exact k_loop (fuel1, wi64 (i1 + 1)) ⟨rfl, rfl, rfl, trivial⟩ ⟨_, hI.arr .n ⟨.z, (.s .z), trivial⟩, h⟩ (Nat.lt_succ_self _)
 refine c_exit ?_
 refine k_in ?_
 refine k_same (sr (sac ?_))
 refine nk (c_ret ?_)
 obtain rfl := some_inj h
 exact q_ret (vs := [vb true]) Tryz.results63 ⟨ev_tmp rfl rfl, trivial⟩ (fq hI trivial)
theorem c_printer_names_item (F : NP) (w0 : World) (hF : ∀ k, F k → k < w0.heap.size) (l1 : List (List UInt8)) (i1 : Int) (a1 : Option Addr) (c1 : Nat) (hc : AllCl [Cl.sl cStr a1 c1 l1] F w0) (r : List UInt8)
  (h : m_printer_names_item l1 i1 = some r) :
  Calls Tryz.prog 118 #[vs a1 l1.length c1, vi i1] w0 fun e w => e = .returned (str r) ∧ Ext w0 w ∧ AllCl [] F w := by
 refine enterK Tryz.func118 rfl Tryz.ntmps118 rfl ?_
 have hI := Bun.start hF hc
 clear hc
 rw [m_printer_names_item] at h
 refine sr (sac ?_)
 refine nk (sr (sm ?_))
 refine sm ?_
 obtain ⟨e1, hx1, h⟩ := bnd_some h
 obtain ⟨ad1, cs1, hA1, hr1, hq1⟩ := hI.clat .z hx1
 obtain rfl : cs1 = [(str e1)] := hr1
 refine sq (y_indexAddr rfl u97 size_9 et et (lat_bd hx1) hA1) ?_
 refine sq (y_load1 (v := (str e1)) rfl et u9 rfl hq1.1) ?_
 refine sa ?_
 refine nk (c_ret ?_)
 obtain rfl := some_inj h
 exact q_ret (vs := [(str e1)]) Tryz.results118 ⟨ev_tmp rfl rfl, trivial⟩ (fq hI trivial)
theorem c_constraint_Validate (F : NP) (w0 : World) (hF : ∀ k, F k → k < w0.heap.size) (c1 : GConstraint) (a1 : Option Addr) (c2 : Nat) (hc : AllCl [Cl.sl cGMono a1 c2 c1.Lin.L] F w0) (r : Int)
  (h : m_constraint_Validate c1 = some r) :
  Calls Tryz.prog 65 #[(Value.agg (AConstraint c1 a1 c2))] w0 fun e w => e = .returned (vi r) ∧ Ext w0 w ∧ AllCl [] F w := by
 refine enterK Tryz.func65 rfl Tryz.ntmps65 rfl ?_
 have hI := Bun.start hF hc
 clear hc
 rw [m_constraint_Validate] at h
 refine sr (l_box (v := (Value.agg (AConstraint c1 a1 c2))) (cs := (AConstraint c1 a1 c2)) hI gn rfl rfl et rfl ?_)
 clear hI; intro b1 c3 w1 hI
 obtain ⟨c4, hI⟩ := hI.relBox .z
 refine sac ?_
 refine nk (sr (sq (y_fieldAddr rfl et u100 rfl size_29 rfl) ?_))
 refine sq (y_loadN (l := (lLin c1.Lin a1 c2)) rfl et u29 rfl size_29 (hI.kblk (l := (lLin c1.Lin a1 c2)) .z rfl).1) ?_
 obtain ⟨r1, hx1, h⟩ := bnd_some h
 refine s_call gn rfl (r_callF (vs := [(Value.agg (ALin c1.Lin a1 c2))]) rfl ok_34 ⟨et, trivial⟩) (Calls.mono (c_lin_Validate (Dj F c4) w1 hI.lt c1.Lin a1 c2 ⟨(hI.get (.s .z)), trivial⟩ r1 hx1) ?_)
 rintro _ w2 ⟨rfl, hx2, hl1⟩
 refine ⟨_, rfl, ?_⟩
 replace hI := (hI.ext hx2)
 refine sa ?_
 refine nk (c_ret ?_)
 obtain rfl := some_inj h
 exact q_ret (vs := [vi r1]) Tryz.results65 ⟨ev_tmp rfl rfl, trivial⟩ (fq hI trivial)
theorem c_constraint_Format (F : NP) (w0 : World) (hF : ∀ k, F k → k < w0.heap.size) (c1 : GConstraint) (a1 : Option Addr) (c2 : Nat) (hc : AllCl [Cl.sl cGMono a1 c2 c1.Lin.L, clPow10] F w0) (r : List UInt8)
  (h : m_constraint_Format c1 = some r) :
  Calls Tryz.prog 67 #[(Value.agg (AConstraint c1 a1 c2))] w0 fun e w => e = .returned (str r) ∧ Ext w0 w ∧ AllCl [] F w := by
 refine enterK Tryz.func67 rfl Tryz.ntmps67 rfl ?_
 have hI := Bun.start hF hc
 clear hc
 rw [m_constraint_Format] at h
 refine sr (l_box (v := (Value.agg (AConstraint c1 a1 c2))) (cs := (AConstraint c1 a1 c2)) hI gn rfl rfl et rfl ?_)
 clear hI; intro b1 c3 w1 hI
 obtain ⟨c4, hI⟩ := hI.relBox .z
 refine sac ?_
 refine nk (c_seq (sr (sq (y_loadN (l := (lConstraint c1 a1 c2)) rfl et u100 rfl size_100 (hI.kblk (l := (lConstraint c1 a1 c2)) .z rfl).1) ?_)))
 obtain ⟨r1, hx1, h⟩ := bnd_some h
 refine s_call gn rfl (r_callF (vs := [(Value.agg (AConstraint c1 a1 c2))]) rfl ok_65 ⟨et, trivial⟩) (Calls.mono (c_constraint_Validate (Dj F c4) w1 hI.lt c1 a1 c2 ⟨(hI.get (.s .z)), trivial⟩ r1 hx1) ?_)
 rintro _ w2 ⟨rfl, hx2, hl1⟩
 refine ⟨_, rfl, ?_⟩
 replace hI := (hI.ext hx2)
 refine sq (y_neq rfl et ev_const) ?_
 refine nk (cif h et (fun hb h => ?_) (fun hb h => ?_))
 ·refine sr (sac ?_)
  refine nk (c_ret ?_)
  obtain rfl := some_inj h
  exact q_ret (vs := [(str ([] : List UInt8))]) Tryz.results67 ⟨ev_tmp rfl rfl, trivial⟩ (fq hI trivial)
 refine c_skip (k_same (c_seq (sr (sq (y_fieldAddr rfl et u100 rfl size_4 rfl) ?_))))
 refine sq (y_load1 (v := (vb c1.Eq)) rfl et u4 rfl (hI.kblk (l := [vb c1.Eq]) .z rfl).1) ?_
 refine nk (cif h et (fun hb h => ?_) (fun hb h => ?_))
 ·refine sr (sq (y_fieldAddr rfl et u100 rfl size_29 rfl) ?_)
  refine sq (y_loadN (l := (lLin c1.Lin a1 c2)) rfl et u29 rfl size_29 (hI.kblk (l := (lLin c1.Lin a1 c2)) .z rfl).1) ?_
  obtain ⟨r2, hx3, h⟩ := bnd_some h
  refine s_call gn rfl (r_callF (vs := [(Value.agg (ALin c1.Lin a1 c2))]) rfl ok_36 ⟨et, trivial⟩) (Calls.mono (c_lin_Format (Dj F c4) w2 hI.lt c1.Lin a1 c2 ⟨(hI.get (.s .z)), (hI.get (.s (.s .z))), trivial⟩ r2 hx3) ?_)
  rintro _ w3 ⟨rfl, hx4, hl2⟩
  refine ⟨_, rfl, ?_⟩
  replace hI := (hI.ext hx4)
  obtain ⟨s1, hx5, h⟩ := bnd_some h
  refine sq (y_catl rfl ev_const et hx5) ?_
  refine sa ?_
  refine nk (c_ret ?_)
  obtain rfl := some_inj h
  exact q_ret (vs := [(str s1)]) Tryz.results67 ⟨ev_tmp rfl rfl, trivial⟩ (fq hI trivial)
 refine c_skip (k_same (sr (sq (y_fieldAddr rfl et u100 rfl size_29 rfl) ?_)))
 refine sq (y_loadN (l := (lLin c1.Lin a1 c2)) rfl et u29 rfl size_29 (hI.kblk (l := (lLin c1.Lin a1 c2)) .z rfl).1) ?_
 obtain ⟨r3, hx6, h⟩ := bnd_some h
 refine s_call gn rfl (r_callF (vs := [(Value.agg (ALin c1.Lin a1 c2))]) rfl ok_36 ⟨et, trivial⟩) (Calls.mono (c_lin_Format (Dj F c4) w2 hI.lt c1.Lin a1 c2 ⟨(hI.get (.s .z)), (hI.get (.s (.s .z))), trivial⟩ r3 hx6) ?_)
 rintro _ w4 ⟨rfl, hx7, hl3⟩
 refine ⟨_, rfl, ?_⟩
 replace hI := (hI.ext hx7)
 obtain ⟨s2, hx8, h⟩ := bnd_some h
 refine sq (y_catl rfl ev_const et hx8) ?_
 refine sa ?_
 refine nk (c_ret ?_)
 obtain rfl := some_inj h
 exact q_ret (vs := [(str s2)]) Tryz.results67 ⟨ev_tmp rfl rfl, trivial⟩ (fq hI trivial)
theorem c_printer_row_w (C0 F : NP) (w0 : World) (b1 : List UInt8) (word1 : List UInt8) (l1 : List (List UInt8)) (b2 : Nat) (a1 : Option Addr) (c1 : Nat) (hI : Bun C0 F w0 C0 w0 [MO.bld 5 80 b2 b1] [Cl.sl cStr a1 c1 l1]) (r : Unit × List UInt8)
  (h : m_printer_row_w b1 word1 l1 = some r) :
  Calls Tryz.prog 64 #[vp b2 0, (str word1), vs a1 l1.length c1] w0 fun e w => ∃ (C : NP), e = .returned (Value.tuple #[]) ∧ Bun C0 F w0 C w [MO.bld 5 80 b2 r.2] [] := by
 refine enterK Tryz.func64 rfl Tryz.ntmps64 rfl ?_
 rw [m_printer_row_w] at h
 refine sr (sm ?_)
 refine sq (y_lenl rfl u97 et) ?_
 refine sq (y_gtr rfl et ev_const) ?_
 refine nk (cif h et (fun hb h => ?_) (fun hb h => ?_))
 ·refine c_region rfl ?_
  refine sm ?_
  refine sm ?_
  obtain ⟨s1, hx1, h⟩ := bnd_some h
  refine sq (y_catl rfl et ev_const hx1) ?_
  refine sm ?_
  refine sq (y_lenl rfl u97 et) ?_
  refine sm ?_
  refine sq (y_makeBound (vs := [vs a1 l1.length c1]) rfl rfl ⟨et, trivial⟩) ?_
  have hI := hI.add (c := clFn_k5 (Value.func (.func 118) #[vs a1 l1.length c1] #[]) (m_printer_names_item l1)) ⟨rfl, fun D' w' hs hl x_1 r k h => CallV.fnB (fs := [vs a1 l1.length c1]) ok_118 (c_printer_names_item D' w' hl l1 x_1 a1 c1 ⟨(Cl.sp _ hs (hI.get .z)), trivial⟩ r h)⟩
  obtain ⟨r1, hx2, h⟩ := bnd_some h
  refine s_call gn rfl (r_callF (vs := [vi (l1.length : Int), (Value.func (.func 118) #[vs a1 l1.length c1] #[])]) rfl ok_38 ⟨et, ⟨et, trivial⟩⟩) (Calls.mono (c_printer_list (Dj F C0) w0 hI.lt (l1.length : Int) (m_printer_names_item l1) (Value.func (.func 118) #[vs a1 l1.length c1] #[]) ⟨(hI.get .z), trivial⟩ r1 hx2) ?_)
  rintro _ w1 ⟨rfl, hx3, hl1⟩
  refine ⟨_, rfl, ?_⟩
  replace hI := (hI.ext hx3)
  obtain ⟨s2, hx4, h⟩ := bnd_some h
  refine sq (y_catl rfl et et hx4) ?_
  obtain ⟨s3, hx5, h⟩ := bnd_some h
  refine sq (y_catl rfl et ev_const hx5) ?_
  obtain ⟨zs1, hx6, h⟩ := bnd_some h
  obtain ⟨c2, f1, hB, hl2, hk1⟩ := hI.hands (.l .n)
  refine s_call gn rfl (r_callF (vs := [vp b2 0, (str s3)]) rfl ok_66 ⟨et, ⟨et, trivial⟩⟩) (Calls.mono (c_bldWrite bldT_80 c2 f1 w1 b2 b1 s3 zs1 (hB.subs trivial) hx6) ?_)
  rintro _ w2 ⟨c3, rfl, hB2⟩
  obtain ⟨c4, hs1, hI⟩ := hk1 _ _ _ _ hB2
  replace hI : Bun C0 F w0 c4 w2 [MO.bld 5 80 b2 zs1] [clFn_k5 (Value.func (.func 118) #[vs a1 l1.length c1] #[]) (m_printer_names_item l1), Cl.sl cStr a1 c1 l1] := hI
  refine ⟨_, rfl, ?_⟩
  refine s_nil ?_
  obtain rfl := some_inj h
  exact q_ret (vs := []) Tryz.results64 trivial ⟨_, rfl, hI.arr (.c .z .n) trivial⟩
 refine c_skip ?_
 obtain rfl := some_inj h
 exact q_ret (vs := []) Tryz.results64 trivial ⟨_, rfl, hI.arr (.c .z .n) trivial⟩
theorem c_printer_Prog (F : NP) (w0 : World) (hF : ∀ k, F k → k < w0.heap.size) (p1 : GProg) (a1 : Option Addr) (c1 : Nat) (a2 : Option Addr) (c2 : Nat) (a3 : Option Addr) (c3 : Nat) (a4 : Option Addr) (c4 : Nat) (a5 : Option Addr) (c5 : Nat) (hc : AllCl [Cl.sl cStr a1 c1 p1.Sizes, Cl.sl cGConstraint a2 c2 p1.Where, Cl.sl cGParam a3 c3 p1.Params, Cl.sl cGDef a4 c4 p1.Defs, Cl.sl cStr a5 c5 p1.Outs, clSpace, clPow10] F w0) (r : List UInt8)
  (h : m_printer_Prog p1 = some r) :
  Calls Tryz.prog 26 #[(Value.agg #[vs a1 p1.Sizes.length c1, vs a2 p1.Where.length c2, vs a3 p1.Params.length c3, vs a4 p1.Defs.length c4, vs a5 p1.Outs.length c5])] w0 fun e w => e = .returned (str r) ∧ Ext w0 w ∧ AllCl [] F w := by
 refine enterK Tryz.func26 rfl Tryz.ntmps26 rfl ?_
 have hI := Bun.start hF hc
 clear hc
 rw [m_printer_Prog] at h
 refine sr (l_box (v := (Value.agg #[vs a1 p1.Sizes.length c1, vs a2 p1.Where.length c2, vs a3 p1.Params.length c3, vs a4 p1.Defs.length c4, vs a5 p1.Outs.length c5])) (cs := #[vs a1 p1.Sizes.length c1, vs a2 p1.Where.length c2, vs a3 p1.Params.length c3, vs a4 p1.Defs.length c4, vs a5 p1.Outs.length c5]) hI gn rfl rfl et rfl ?_)
 clear hI; intro b1 c6 w1 hI
 obtain ⟨c7, hI⟩ := hI.relBox .z
 refine sac ?_
 refine nk (c_seq (sr (sq (y_fieldAddr rfl et u62 rfl size_55 rfl) ?_)))
 refine sq (y_load1 (v := (vs a1 p1.Sizes.length c1)) rfl et u55 rfl (hI.kblk (l := [vs a1 p1.Sizes.length c1]) .z rfl).1) ?_
 obtain ⟨r1, hx1, h⟩ := bnd_some h
 refine s_call gn rfl (r_callF (vs := [vs a1 p1.Sizes.length c1]) rfl ok_63 ⟨et, trivial⟩) (Calls.mono (c_printer_names_valid (Dj F c7) w1 hI.lt p1.Sizes a1 c1 ⟨(hI.get (.s .z)), (hI.get (.s (.s (.s (.s (.s (.s .z))))))), trivial⟩ r1 hx1) ?_)
 rintro _ w2 ⟨rfl, hx2, hl1⟩
 refine ⟨_, rfl, ?_⟩
 replace hI := (hI.ext hx2)
 refine sq (y_not rfl et) ?_
 refine sm ?_
 refine s_gval (g_false rfl rfl rfl rfl) rfl (fun hc => y_fieldAddr rfl et u62 rfl size_55 rfl) ?_
 refine s_gval (g_false rfl rfl rfl rfl) rfl (fun hc => (y_load1 (v := (vs a5 p1.Outs.length c5)) rfl (ev_gv et hc) u55 rfl (hI.kblk (l := [vs a5 p1.Outs.length c5]) .z rfl).1)) ?_
 obtain ⟨r2, hx3, h⟩ := bnd_some h
 replace hx3 := gd_some hx3
 refine s_gcallU (v := (vb r2)) (g_false rfl rfl rfl rfl) rfl (fun hc => (r_callF (vs := [vs a5 p1.Outs.length c5]) rfl ok_63 ⟨(ev_gv et hc), trivial⟩)) (fun hc => (c_printer_names_valid (Dj F c7) w2 hI.lt p1.Outs a5 c5 ⟨(hI.get (.s (.s (.s (.s (.s .z)))))), (hI.get (.s (.s (.s (.s (.s (.s .z))))))), trivial⟩ r2 (hx3 hc)).mono fun _ _ k => ⟨k.1, k.2.1⟩) ?_
 intro w3 hx4; replace hI := hI.ext hx4
 refine s_gval (g_false rfl rfl rfl rfl) rfl (fun hc => y_not rfl (ev_gv et hc)) ?_
 refine sq (y_or rfl et et) ?_
 refine nk (cif h et (fun hb h => ?_) (fun hb h => ?_))
 ·refine sr (sac ?_)
  refine nk (c_ret ?_)
  obtain rfl := some_inj h
  exact q_ret (vs := [(str ([] : List UInt8))]) Tryz.results26 ⟨ev_tmp rfl rfl, trivial⟩ (fq hI trivial)
 refine c_skip (k_same (sr (l_alloc (cs := #[(Value.pointer none), vs none 0 0]) hI gn rfl rfl zero_80 rfl ?_)))
 clear hI; intro b2 c8 w4 hI
 obtain ⟨c9, hI⟩ := hI.toBld (tb := 5) .z
 refine nk (sr (sq (y_fieldAddr rfl et u62 rfl size_55 rfl) ?_))
 refine sq (y_load1 (v := (vs a1 p1.Sizes.length c1)) rfl et u55 rfl (hI.kblk (l := [vs a1 p1.Sizes.length c1]) .z rfl).1) ?_
 obtain ⟨c10, f1, hB, hl3, hk1⟩ := hI.hands (.l .n)
 obtain ⟨⟨r3, s1⟩, hx5, h⟩ := bnd_some h
 try dsimp only at h
 refine s_call gn rfl (r_callF (vs := [vp b2 0, (str ([115, 105, 122, 101] : List UInt8)), vs a1 p1.Sizes.length c1]) rfl ok_64 ⟨et, ⟨ev_const, ⟨et, trivial⟩⟩⟩) (Calls.mono (c_printer_row_w c10 f1 w4 ([] : List UInt8) ([115, 105, 122, 101] : List UInt8) p1.Sizes b2 a1 c1 (hB.subs ⟨(.s .z), trivial⟩) _ hx5) ?_)
 rintro _ w5 ⟨c11, rfl, hB2⟩
 obtain ⟨c12, hs1, hI⟩ := hk1 _ _ _ _ hB2
 replace hI : Bun noM F w0 c12 w5 [MO.bld 5 80 b2 s1] [Cl.blk b1 62 #[vs a1 p1.Sizes.length c1, vs a2 p1.Where.length c2, vs a3 p1.Params.length c3, vs a4 p1.Defs.length c4, vs a5 p1.Outs.length c5], Cl.sl cStr a1 c1 p1.Sizes, Cl.sl cGConstraint a2 c2 p1.Where, Cl.sl cGParam a3 c3 p1.Params, Cl.sl cGDef a4 c4 p1.Defs, Cl.sl cStr a5 c5 p1.Outs, clSpace, clPow10] := hI
 refine ⟨_, rfl, ?_⟩
 refine nk (c_join (α := (List UInt8)) (fun _ => ⟨102, []⟩) (fun x => [(1, vp b1 0), (3, vp b2 0)]) (fun x => fun w => ∃ C, Bun noM F w0 C w [MO.bld 5 80 b2 x] [Cl.blk b1 62 #[vs a1 p1.Sizes.length c1, vs a2 p1.Where.length c2, vs a3 p1.Params.length c3, vs a4 p1.Defs.length c4, vs a5 p1.Outs.length c5], Cl.sl cStr a1 c1 p1.Sizes, Cl.sl cGConstraint a2 c2 p1.Where, Cl.sl cGParam a3 c3 p1.Params, Cl.sl cGDef a4 c4 p1.Defs, Cl.sl cStr a5 c5 p1.Outs, clSpace, clPow10] ∧ m_printer_Prog_j1 p1 x = some r) ?_ ?_)
 ·clear h hI; rintro s2 w6 ⟨c13, hI, h⟩
  try dsimp only at hI h
  rw [m_printer_Prog_j1] at h
  refine c_sub (e := [(1, vp b1 0), (3, vp b2 0)]) ⟨rfl, rfl, trivial⟩ ?_
  refine c_join (α := (List UInt8)) (fun _ => ⟨102, []⟩) (fun x => [(1, vp b1 0), (3, vp b2 0)]) (fun x => fun w => ∃ C, Bun noM F w0 C w [MO.bld 5 80 b2 x] [Cl.blk b1 62 #[vs a1 p1.Sizes.length c1, vs a2 p1.Where.length c2, vs a3 p1.Params.length c3, vs a4 p1.Defs.length c4, vs a5 p1.Outs.length c5], Cl.sl cStr a1 c1 p1.Sizes, Cl.sl cGConstraint a2 c2 p1.Where, Cl.sl cGParam a3 c3 p1.Params, Cl.sl cGDef a4 c4 p1.Defs, Cl.sl cStr a5 c5 p1.Outs, clSpace, clPow10] ∧ m_printer_Prog_j2 p1 x = some r) ?_ ?_
  ·clear h hI; rintro s3 w7 ⟨c14, hI, h⟩
   try dsimp only at hI h
   rw [m_printer_Prog_j2] at h
   refine c_sub (e := [(1, vp b1 0), (3, vp b2 0)]) ⟨rfl, rfl, trivial⟩ ?_
   refine c_seq (sr (sq (y_fieldAddr rfl et u62 rfl size_60 rfl) ?_))
   refine sq (y_load1 (v := (vs a4 p1.Defs.length c4)) rfl et u60 rfl (hI.kblk (l := [vs a4 p1.Defs.length c4]) .z rfl).1) ?_
   refine sq (y_lenl rfl u60 et) ?_
   refine sq (y_move rfl ev_const) ?_
   refine nk (c_block (c_loop (α := Nat × Int × (List UInt8)) (fun x => fun w => ∃ C, Bun noM F w0 C w [MO.bld 5 80 b2 (x.2.2)] [Cl.blk b1 62 #[vs a1 p1.Sizes.length c1, vs a2 p1.Where.length c2, vs a3 p1.Params.length c3, vs a4 p1.Defs.length c4, vs a5 p1.Outs.length c5], Cl.sl cStr a1 c1 p1.Sizes, Cl.sl cGConstraint a2 c2 p1.Where, Cl.sl cGParam a3 c3 p1.Params, Cl.sl cGDef a4 c4 p1.Defs, Cl.sl cStr a5 c5 p1.Outs, clSpace, clPow10] ∧ m_printer_Prog_l1 p1 (x.1) (x.2.1) (x.2.2) = some r) (fun x _ => x.1) (fun x => [(1, vp b1 0), (3, vp b2 0), (84, vs a4 p1.Defs.length c4), (85, vi (p1.Defs.length : Int)), (86, vi (x.2.1))]) (fu, 0, s3) ⟨_, hI.arr (.c .z .n) ⟨.z, (.s .z), (.s (.s .z)), (.s (.s (.s .z))), (.s (.s (.s (.s .z)))), (.s (.s (.s (.s (.s .z))))), (.s (.s (.s (.s (.s (.s .z)))))), (.s (.s (.s (.s (.s (.s (.s .z))))))), trivial⟩, h⟩ ⟨rfl, rfl, rfl, rfl, rfl, trivial⟩ ?_))
   clear h hI; rintro ⟨fuel1, i1, s4⟩ w8 ⟨c15, hI, h⟩
   dsimp only at hI h
   rcases fuel1 with _ | fuel1
   ·rw [m_printer_Prog_l1] at h; cases h
   rw [m_printer_Prog_l1] at h
   refine c_sub (e := [(1, vp b1 0), (3, vp b2 0), (84, vs a4 p1.Defs.length c4), (85, vi (p1.Defs.length : Int)), (86, vi i1)]) ⟨rfl, rfl, rfl, rfl, rfl, trivial⟩ ?_
   refine sr (sq (y_lss rfl et et) ?_)
   refine nk (c_seq (cif h et (fun hb h => ?_) (fun hb h => ?_)))
   ·refine c_skip (k_same (c_seq (c_block (sr ?_))))
    obtain ⟨e1, hx6, h⟩ := bnd_some h
    obtain ⟨ad1, cs1, hA1, hr1, hq1⟩ := hI.clat (.s (.s (.s (.s .z)))) hx6
    obtain ⟨a6, c16, a7, c17, a8, c18, a9, c19, a10, c20, rfl, hf1, hf2, hf3, hf4, hf5⟩ := hr1
    have hI := hI.add (c := Cl.sl cGAxis a6 c16 e1.Dims) hf1
    have hI := hI.add (c := Cl.sl cGAxis a7 c17 e1.Red) hf2
    have hI := hI.add (c := Cl.sl cGMono a8 c18 e1.Body.Lin.L) hf3
    have hI := hI.add (c := Cl.sl cGIndex a9 c19 e1.Body.Idx) hf4
    have hI := hI.add (c := Cl.sl cGExpr a10 c20 e1.Body.Args) hf5
    refine sq (y_indexAddr rfl u60 size_49 et et (lat_bd hx6) hA1) ?_
    refine sq (y_loadN (l := [(str e1.Name), vi e1.Type_.Kind, vi e1.Type_.Bits, vi e1.Type_.Frac, vi e1.Type_.Round, vi e1.Type_.Over, vs a6 e1.Dims.length c16, vs a7 e1.Red.length c17, vi e1.Fold, vi e1.Body.Op, (str e1.Body.Name), vi e1.Body.Val.N, vi e1.Body.Val.D, vi e1.Body.Type_.Kind, vi e1.Body.Type_.Bits, vi e1.Body.Type_.Frac, vi e1.Body.Type_.Round, vi e1.Body.Type_.Over, vi e1.Body.Lin.K, vs a8 e1.Body.Lin.L.length c18, vs a9 e1.Body.Idx.length c19, vs a10 e1.Body.Args.length c20]) rfl et u49 rfl size_49 hq1.1) ?_
    refine l_alloc (cs := #[(str ([] : List UInt8)), vi 0, vi 0, vi 0, vi 0, vi 0, vs none 0 0, vs none 0 0, vi 0, vi 0, (str ([] : List UInt8)), vi 0, vi 0, vi 0, vi 0, vi 0, vi 0, vi 0, vi 0, vs none 0 0, vs none 0 0, vs none 0 0]) hI gn rfl rfl zero_49 rfl ?_
    clear hI; intro b3 c21 w9 hI
    refine l_store (new := [(str e1.Name), vi e1.Type_.Kind, vi e1.Type_.Bits, vi e1.Type_.Frac, vi e1.Type_.Round, vi e1.Type_.Over, vs a6 e1.Dims.length c16, vs a7 e1.Red.length c17, vi e1.Fold, vi e1.Body.Op, (str e1.Body.Name), vi e1.Body.Val.N, vi e1.Body.Val.D, vi e1.Body.Type_.Kind, vi e1.Body.Type_.Bits, vi e1.Body.Type_.Frac, vi e1.Body.Type_.Round, vi e1.Body.Type_.Over, vi e1.Body.Lin.K, vs a8 e1.Body.Lin.L.length c18, vs a9 e1.Body.Idx.length c19, vs a10 e1.Body.Args.length c20]) (cs' := #[(str e1.Name), vi e1.Type_.Kind, vi e1.Type_.Bits, vi e1.Type_.Frac, vi e1.Type_.Round, vi e1.Type_.Over, vs a6 e1.Dims.length c16, vs a7 e1.Red.length c17, vi e1.Fold, vi e1.Body.Op, (str e1.Body.Name), vi e1.Body.Val.N, vi e1.Body.Val.D, vi e1.Body.Type_.Kind, vi e1.Body.Type_.Bits, vi e1.Body.Type_.Frac, vi e1.Body.Type_.Round, vi e1.Body.Type_.Over, vi e1.Body.Lin.K, vs a8 e1.Body.Lin.L.length c18, vs a9 e1.Body.Idx.length c19, vs a10 e1.Body.Args.length c20]) hI .z gn rfl rfl et et rfl size_49 rfl rfl rfl ?_
    clear hI; intro c22 w10 hI
    refine nk (sr (sq (y_loadN (l := [(str e1.Name), vi e1.Type_.Kind, vi e1.Type_.Bits, vi e1.Type_.Frac, vi e1.Type_.Round, vi e1.Type_.Over, vs a6 e1.Dims.length c16, vs a7 e1.Red.length c17, vi e1.Fold, vi e1.Body.Op, (str e1.Body.Name), vi e1.Body.Val.N, vi e1.Body.Val.D, vi e1.Body.Type_.Kind, vi e1.Body.Type_.Bits, vi e1.Body.Type_.Frac, vi e1.Body.Type_.Round, vi e1.Body.Type_.Over, vi e1.Body.Lin.K, vs a8 e1.Body.Lin.L.length c18, vs a9 e1.Body.Idx.length c19, vs a10 e1.Body.Args.length c20]) rfl et u49 rfl size_49 (CellsAt.of_blk (hI.blk .z) rfl)) ?_))
    obtain ⟨r4, hx7, h⟩ := bnd_some h
    refine s_call gn rfl (r_callF (vs := [(Value.agg #[(str e1.Name), vi e1.Type_.Kind, vi e1.Type_.Bits, vi e1.Type_.Frac, vi e1.Type_.Round, vi e1.Type_.Over, vs a6 e1.Dims.length c16, vs a7 e1.Red.length c17, vi e1.Fold, vi e1.Body.Op, (str e1.Body.Name), vi e1.Body.Val.N, vi e1.Body.Val.D, vi e1.Body.Type_.Kind, vi e1.Body.Type_.Bits, vi e1.Body.Type_.Frac, vi e1.Body.Type_.Round, vi e1.Body.Type_.Over, vi e1.Body.Lin.K, vs a8 e1.Body.Lin.L.length c18, vs a9 e1.Body.Idx.length c19, vs a10 e1.Body.Args.length c20])]) rfl ok_22 ⟨et, trivial⟩) (Calls.mono (c_printer_Def (Dj F c22) w10 hI.lt e1 a6 c16 a7 c17 a8 c18 a9 c19 a10 c20 ⟨(hI.get (.s (.s (.s (.s .z))))), (hI.get (.s (.s (.s .z)))), (hI.get (.s (.s .z))), (hI.get (.s .z)), (hI.get .z), (hI.get (.s (.s (.s (.s (.s (.s (.s (.s (.s (.s (.s .z)))))))))))), (hI.get (.s (.s (.s (.s (.s (.s (.s (.s (.s (.s (.s (.s .z))))))))))))), trivial⟩ r4 hx7) ?_)
    rintro _ w11 ⟨rfl, hx8, hl4⟩
    refine ⟨_, rfl, ?_⟩
    replace hI := (hI.ext hx8)
    refine sa ?_
    refine nk (c_seq (sr (sm ?_)))
    refine sq (y_eqs rfl et ev_const) ?_
    refine nk (cif h et (fun hb h => ?_) (fun hb h => ?_))
    ·refine sr (sac ?_)
     refine nk (c_ret ?_)
     obtain rfl := some_inj h
     exact q_ret (vs := [(str ([] : List UInt8))]) Tryz.results26 ⟨ev_tmp rfl rfl, trivial⟩ (fq hI trivial)
    refine c_skip (k_same (c_region rfl ?_))
    refine sm ?_
    obtain ⟨s5, hx9, h⟩ := bnd_some h
    refine sq (y_catl rfl et ev_const hx9) ?_
    obtain ⟨zs1, hx10, h⟩ := bnd_some h
    obtain ⟨c23, f2, hB, hl5, hk2⟩ := hI.hands (.r (.l .n))
    refine s_call gn rfl (r_callF (vs := [vp b2 0, (str s5)]) rfl ok_66 ⟨et, ⟨et, trivial⟩⟩) (Calls.mono (c_bldWrite bldT_80 c23 f2 w11 b2 s4 s5 zs1 (hB.subs trivial) hx10) ?_)
    rintro _ w12 ⟨c24, rfl, hB2⟩
    obtain ⟨c25, hs2, hI⟩ := hk2 _ _ _ _ hB2
    replace hI : Bun noM F w0 c25 w12 [MO.bld 5 80 b2 zs1, MO.box b3 49 #[(str e1.Name), vi e1.Type_.Kind, vi e1.Type_.Bits, vi e1.Type_.Frac, vi e1.Type_.Round, vi e1.Type_.Over, vs a6 e1.Dims.length c16, vs a7 e1.Red.length c17, vi e1.Fold, vi e1.Body.Op, (str e1.Body.Name), vi e1.Body.Val.N, vi e1.Body.Val.D, vi e1.Body.Type_.Kind, vi e1.Body.Type_.Bits, vi e1.Body.Type_.Frac, vi e1.Body.Type_.Round, vi e1.Body.Type_.Over, vi e1.Body.Lin.K, vs a8 e1.Body.Lin.L.length c18, vs a9 e1.Body.Idx.length c19, vs a10 e1.Body.Args.length c20]] [Cl.sl cGExpr a10 c20 e1.Body.Args, Cl.sl cGIndex a9 c19 e1.Body.Idx, Cl.sl cGMono a8 c18 e1.Body.Lin.L, Cl.sl cGAxis a7 c17 e1.Red, Cl.sl cGAxis a6 c16 e1.Dims, Cl.blk b1 62 #[vs a1 p1.Sizes.length c1, vs a2 p1.Where.length c2, vs a3 p1.Params.length c3, vs a4 p1.Defs.length c4, vs a5 p1.Outs.length c5], Cl.sl cStr a1 c1 p1.Sizes, Cl.sl cGConstraint a2 c2 p1.Where, Cl.sl cGParam a3 c3 p1.Params, Cl.sl cGDef a4 c4 p1.Defs, Cl.sl cStr a5 c5 p1.Outs, clSpace, clPow10] := hI
    refine ⟨_, rfl, ?_⟩
    refine nk (c_region rfl ?_)
    refine sq (y_add rfl et ev_const) ?_
    refine sm ?_
    refine s_nil ?_
    exact k_loop (fuel1, wi64 (i1 + 1), zs1) ⟨rfl, rfl, rfl, rfl, rfl, trivial⟩ ⟨_, hI.arr (.c .z .n) ⟨(.s (.s (.s (.s (.s .z))))), (.s (.s (.s (.s (.s (.s .z)))))), (.s (.s (.s (.s (.s (.s (.s .z))))))), (.s (.s (.s (.s (.s (.s (.s (.s .z)))))))), (.s (.s (.s (.s (.s (.s (.s (.s (.s .z))))))))), (.s (.s (.s (.s (.s (.s (.s (.s (.s (.s .z)))))))))), (.s (.s (.s (.s (.s (.s (.s (.s (.s (.s (.s .z))))))))))), (.s (.s (.s (.s (.s (.s (.s (.s (.s (.s (.s (.s .z)))))))))))), trivial⟩, h⟩ (Nat.lt_succ_self _)
   refine c_exit ?_
   refine k_in ?_
   refine k_same (sr (sq (y_fieldAddr rfl et u62 rfl size_55 rfl) ?_))
   refine sq (y_load1 (v := (vs a5 p1.Outs.length c5)) rfl et u55 rfl (hI.kblk (l := [vs a5 p1.Outs.length c5]) .z rfl).1) ?_
   obtain ⟨c26, f3, hB, hl6, hk3⟩ := hI.hands (.l .n)
   obtain ⟨⟨r5, s6⟩, hx11, h⟩ := bnd_some h
   try dsimp only at h
   refine s_call gn rfl (r_callF (vs := [vp b2 0, (str ([111, 117, 116] : List UInt8)), vs a5 p1.Outs.length c5]) rfl ok_64 ⟨et, ⟨ev_const, ⟨et, trivial⟩⟩⟩) (Calls.mono (c_printer_row_w c26 f3 w8 s4 ([111, 117, 116] : List UInt8) p1.Outs b2 a5 c5 (hB.subs ⟨(.s (.s (.s (.s (.s .z))))), trivial⟩) _ hx11) ?_)
   rintro _ w13 ⟨c27, rfl, hB2⟩
   obtain ⟨c28, hs3, hI⟩ := hk3 _ _ _ _ hB2
   replace hI : Bun noM F w0 c28 w13 [MO.bld 5 80 b2 s6] [Cl.blk b1 62 #[vs a1 p1.Sizes.length c1, vs a2 p1.Where.length c2, vs a3 p1.Params.length c3, vs a4 p1.Defs.length c4, vs a5 p1.Outs.length c5], Cl.sl cStr a1 c1 p1.Sizes, Cl.sl cGConstraint a2 c2 p1.Where, Cl.sl cGParam a3 c3 p1.Params, Cl.sl cGDef a4 c4 p1.Defs, Cl.sl cStr a5 c5 p1.Outs, clSpace, clPow10] := hI
   refine ⟨_, rfl, ?_⟩
   refine nk (sr (s_call gn rfl (r_callF (vs := [vp b2 0]) rfl ok_47 ⟨et, trivial⟩) (Calls.mono (c_bldString bldT_80 hI .z) ?_)))
   clear hI; rintro _ w14 ⟨rfl, c29, hs4, hI⟩
   refine ⟨_, rfl, ?_⟩
   refine sa ?_
   refine nk (c_ret ?_)
   obtain rfl := some_inj h
   exact q_ret (vs := [(str s6)]) Tryz.results26 ⟨ev_tmp rfl rfl, trivial⟩ (fq hI trivial)
  refine sr (sq (y_fieldAddr rfl et u62 rfl size_59 rfl) ?_)
  refine sq (y_load1 (v := (vs a3 p1.Params.length c3)) rfl et u59 rfl (hI.kblk (l := [vs a3 p1.Params.length c3]) .z rfl).1) ?_
  refine sq (y_lenl rfl u59 et) ?_
  refine sq (y_move rfl ev_const) ?_
  refine nk (c_block (c_loop (α := Nat × Int × (List UInt8)) (fun x => fun w => ∃ C, Bun noM F w0 C w [MO.bld 5 80 b2 (x.2.2)] [Cl.blk b1 62 #[vs a1 p1.Sizes.length c1, vs a2 p1.Where.length c2, vs a3 p1.Params.length c3, vs a4 p1.Defs.length c4, vs a5 p1.Outs.length c5], Cl.sl cStr a1 c1 p1.Sizes, Cl.sl cGConstraint a2 c2 p1.Where, Cl.sl cGParam a3 c3 p1.Params, Cl.sl cGDef a4 c4 p1.Defs, Cl.sl cStr a5 c5 p1.Outs, clSpace, clPow10] ∧ m_printer_Prog_l2 p1 (x.1) (x.2.1) (x.2.2) = some r) (fun x _ => x.1) (fun x => [(1, vp b1 0), (3, vp b2 0), (42, vs a3 p1.Params.length c3), (43, vi (p1.Params.length : Int)), (44, vi (x.2.1))]) (fu, 0, s2) ⟨_, hI.arr (.c .z .n) ⟨.z, (.s .z), (.s (.s .z)), (.s (.s (.s .z))), (.s (.s (.s (.s .z)))), (.s (.s (.s (.s (.s .z))))), (.s (.s (.s (.s (.s (.s .z)))))), (.s (.s (.s (.s (.s (.s (.s .z))))))), trivial⟩, h⟩ ⟨rfl, rfl, rfl, rfl, rfl, trivial⟩ ?_))
  clear h hI; rintro ⟨fuel2, i2, s7⟩ w15 ⟨c30, hI, h⟩
  dsimp only at hI h
  rcases fuel2 with _ | fuel2
  ·rw [m_printer_Prog_l2] at h; cases h
  rw [m_printer_Prog_l2] at h
  refine c_sub (e := [(1, vp b1 0), (3, vp b2 0), (42, vs a3 p1.Params.length c3), (43, vi (p1.Params.length : Int)), (44, vi i2)]) ⟨rfl, rfl, rfl, rfl, rfl, trivial⟩ ?_
  refine sr (sq (y_lss rfl et et) ?_)
  refine nk (c_seq (cif h et (fun hb h => ?_) (fun hb h => ?_)))
  ·refine c_skip (k_same (c_seq (c_block (sr ?_))))
   obtain ⟨e2, hx12, h⟩ := bnd_some h
   obtain ⟨ad2, cs2, hA2, hr2, hq2⟩ := hI.clat (.s (.s (.s .z))) hx12
   obtain ⟨a11, c31, rfl, hf6⟩ := hr2
   have hI := hI.add (c := Cl.sl cGLin a11 c31 e2.Dims) hf6
   refine sq (y_indexAddr rfl u59 size_96 et et (lat_bd hx12) hA2) ?_
   refine sq (y_loadN (l := [(str e2.Name), vi e2.Type_.Kind, vi e2.Type_.Bits, vi e2.Type_.Frac, vi e2.Type_.Round, vi e2.Type_.Over, vs a11 e2.Dims.length c31]) rfl et u96 rfl size_96 hq2.1) ?_
   refine l_alloc (cs := #[(str ([] : List UInt8)), vi 0, vi 0, vi 0, vi 0, vi 0, vs none 0 0]) hI gn rfl rfl zero_96 rfl ?_
   clear hI; intro b4 c32 w16 hI
   refine l_store (new := [(str e2.Name), vi e2.Type_.Kind, vi e2.Type_.Bits, vi e2.Type_.Frac, vi e2.Type_.Round, vi e2.Type_.Over, vs a11 e2.Dims.length c31]) (cs' := #[(str e2.Name), vi e2.Type_.Kind, vi e2.Type_.Bits, vi e2.Type_.Frac, vi e2.Type_.Round, vi e2.Type_.Over, vs a11 e2.Dims.length c31]) hI .z gn rfl rfl et et rfl size_96 rfl rfl rfl ?_
   clear hI; intro c33 w17 hI
   refine nk (sr (sq (y_fieldAddr rfl et u96 rfl size_30 rfl) ?_))
   refine sq (y_load1 (v := (vs a11 e2.Dims.length c31)) rfl et u30 rfl (CellsAt.of_blk (hI.blk .z) rfl)) ?_
   refine sa ?_
   refine nk (c_seq (sr (sq (y_fieldAddr rfl et u96 rfl size_9 rfl) ?_)))
   refine sq (y_load1 (v := (str e2.Name)) rfl et u9 rfl (CellsAt.of_blk (hI.blk .z) rfl)) ?_
   obtain ⟨r6, hx13, h⟩ := bnd_some h
   refine s_call gn rfl (r_callF (vs := [(str e2.Name)]) rfl ok_37 ⟨et, trivial⟩) (Calls.mono (c_lexer_IsName (Dj F c33) w17 hI.lt e2.Name ⟨(hI.get (.s (.s (.s (.s (.s (.s (.s .z)))))))), trivial⟩ r6 hx13) ?_)
   rintro _ w18 ⟨rfl, hx14, hl7⟩
   refine ⟨_, rfl, ?_⟩
   replace hI := (hI.ext hx14)
   refine sq (y_not rfl et) ?_
   refine sm ?_
   refine s_gval (g_false rfl rfl rfl rfl) rfl (fun hc => y_fieldAddr rfl et u96 rfl size_23 rfl) ?_
   refine s_gval (g_false rfl rfl rfl rfl) rfl (fun hc => (y_loadN (l := (lType e2.Type_)) rfl (ev_gv et hc) u23 rfl size_23 (CellsAt.of_blk (hI.blk .z) rfl))) ?_
   obtain ⟨r7, hx15, h⟩ := bnd_some h
   replace hx15 := gd_some hx15
   refine s_gcallU (v := (vi r7)) (g_false rfl rfl rfl rfl) rfl (fun hc => (r_callF (vs := [(Value.agg (AType e2.Type_))]) rfl ok_28 ⟨(ev_gv et hc), trivial⟩)) (fun hc => (c_value_ValidateType (Dj F c33) w18 hI.lt e2.Type_ trivial r7 (hx15 hc)).mono fun _ _ k => ⟨k.1, k.2.1⟩) ?_
   intro w19 hx16; replace hI := hI.ext hx16
   refine s_gval (g_false rfl rfl rfl rfl) rfl (fun hc => y_neq rfl (ev_gv et hc) ev_const) ?_
   refine sq (y_or rfl et et) ?_
   refine sm ?_
   refine s_gval (g_false rfl rfl rfl rfl) rfl (fun hc => y_move rfl et) ?_
   obtain ⟨r8, hx17, h⟩ := bnd_some h
   replace hx17 := gd_some hx17
   refine s_gcallU (v := (vb r8)) (g_false rfl rfl rfl rfl) rfl (fun hc => (r_callF (vs := [vs a11 e2.Dims.length c31]) rfl ok_35 ⟨(ev_gv et hc), trivial⟩)) (fun hc => (c_printer_forms_valid (Dj F c33) w19 hI.lt e2.Dims a11 c31 ⟨(hI.get .z), trivial⟩ r8 (hx17 hc)).mono fun _ _ k => ⟨k.1, k.2.1⟩) ?_
   intro w20 hx18; replace hI := hI.ext hx18
   refine s_gval (g_false rfl rfl rfl rfl) rfl (fun hc => y_not rfl (ev_gv et hc)) ?_
   refine sq (y_or rfl et et) ?_
   refine nk (cif h et (fun hb h => ?_) (fun hb h => ?_))
   ·refine sr (sac ?_)
    refine s_nil ?_
    refine k_next (e := [(2, (str ([] : List UInt8)))]) ⟨rfl, trivial⟩ ?_
    refine c_ret ?_
    obtain rfl := some_inj h
    exact q_ret (vs := [(str ([] : List UInt8))]) Tryz.results26 ⟨ev_tmp rfl rfl, trivial⟩ (fq hI trivial)
   refine c_skip (k_same (c_drawX [16] false (.c (0, .q) (.c (1, .q) (.c (2, .q) (.c (3, .q) (.c (4, .q) (.c (5, .q) (.c (9, .q) (.c (10, .q) (.c (11, .q) (.c (12, .q) (.c (6, .s) (.c (7, .q) (.c (8, .q) (.c (13, .s) (.c (14, .q) (.c (15, .q) (.c (16, .s) .n))))))))))))))))) hI (by kernel_rfl) (by kernel_rfl) ?_))
   clear hI; intro w21 hI
   refine a_q rfl gn rfl (fun w' => y_fieldAddr rfl et u96 rfl size_9 rfl) ?_
   refine a_read rfl gn rfl (fun w' hw' => (y_load1 (v := (str e2.Name)) rfl et u9 rfl ((CA.blk (hI.blk .z) rfl).at_ (SX.any rfl hw')))) (by kernel_rfl) ?_
   obtain ⟨s8, hx19, h⟩ := bnd_some h
   refine a_q rfl gn rfl (fun w' => y_catl rfl ev_const et hx19) ?_
   obtain ⟨s9, hx20, h⟩ := bnd_some h
   refine a_q rfl gn rfl (fun w' => y_catl rfl et ev_const hx20) ?_
   refine a_q rfl gn rfl (fun w' => y_fieldAddr rfl et u96 rfl size_23 rfl) ?_
   refine a_read rfl gn rfl (fun w' hw' => (y_loadN (l := (lType e2.Type_)) rfl et u23 rfl size_23 ((CA.blk (hI.blk .z) rfl).at_ (SX.any rfl hw')))) (by kernel_rfl) ?_
   refine a_q rfl gn rfl (fun w' => y_move rfl et) ?_
   refine a_q rfl gn rfl (fun w' => y_lenl rfl u68 et) ?_
   refine a_q rfl gn rfl (fun w' => y_move rfl et) ?_
   refine a_q rfl gn rfl (fun w' => y_makeBound (vs := [vs a11 e2.Dims.length c31]) rfl rfl ⟨et, trivial⟩) ?_
   obtain ⟨r9, hx21, h⟩ := bnd_some h
   refine la_call rfl gn rfl (r_callF (vs := [(Value.agg (AType e2.Type_))]) rfl ok_10 ⟨et, trivial⟩) (Calls.mono (c_printer_Type (Dj F c33) w21 hI.lt e2.Type_ ⟨(hI.get (.s (.s (.s (.s (.s (.s (.s (.s .z))))))))), trivial⟩ r9 hx21) ?_)
   rintro _ w22 ⟨rfl, hx22, hl10⟩
   refine ⟨_, rfl, hx22, ?_⟩
   replace hI := (hI.ext hx22)
   obtain ⟨s10, hx23, h⟩ := bnd_some h
   refine a_q rfl gn rfl (fun w' => y_catl rfl et et hx23) ?_
   obtain ⟨s11, hx24, h⟩ := bnd_some h
   refine a_q rfl gn rfl (fun w' => y_catl rfl et ev_const hx24) ?_
   have hI := hI.add (c := clFn_k5 (Value.func (.func 39) #[vs a11 e2.Dims.length c31] #[]) (m_printer_forms_item e2.Dims)) ⟨rfl, fun D' w' hs hl x_1 r k h => CallV.fnB (fs := [vs a11 e2.Dims.length c31]) ok_39 (c_printer_forms_item D' w' hl e2.Dims x_1 a11 c31 ⟨(Cl.sp _ hs (hI.get .z)), (Cl.sp _ hs (hI.get (.s (.s (.s (.s (.s (.s (.s (.s .z)))))))))), trivial⟩ r h)⟩
   obtain ⟨r10, hx25, h⟩ := bnd_some h
   refine la_call rfl gn rfl (r_callF (vs := [vi (e2.Dims.length : Int), (Value.func (.func 39) #[vs a11 e2.Dims.length c31] #[])]) rfl ok_38 ⟨et, ⟨et, trivial⟩⟩) (Calls.mono (c_printer_list (Dj F c33) w22 hI.lt (e2.Dims.length : Int) (m_printer_forms_item e2.Dims) (Value.func (.func 39) #[vs a11 e2.Dims.length c31] #[]) ⟨(hI.get .z), trivial⟩ r10 hx25) ?_)
   rintro _ w23 ⟨rfl, hx26, hl11⟩
   refine ⟨_, rfl, hx26, ?_⟩
   replace hI := (hI.ext hx26)
   obtain ⟨s12, hx27, h⟩ := bnd_some h
   refine a_q rfl gn rfl (fun w' => y_catl rfl et et hx27) ?_
   obtain ⟨s13, hx28, h⟩ := bnd_some h
   refine a_q rfl gn rfl (fun w' => y_catl rfl et ev_const hx28) ?_
   refine a_turn (F := F) (C := c33) rfl rfl ?_
   obtain ⟨zs2, hx29, h⟩ := bnd_some h
   obtain ⟨c34, f4, hB, hl12, hk4⟩ := hI.hands (.r (.l .n))
   refine la_callX rfl gn rfl (r_callF (vs := [vp b2 0, (str s13)]) rfl ok_66 ⟨et, ⟨et, trivial⟩⟩) (Calls.mono (c_bldWrite bldT_80 c34 f4 w23 b2 s7 s13 zs2 (hB.subs trivial) hx29) ?_)
   rintro _ w24 ⟨c35, rfl, hB2⟩
   obtain ⟨c36, hs5, hI⟩ := hk4 _ _ _ _ hB2
   replace hI : Bun noM F w0 c36 w24 [MO.bld 5 80 b2 zs2, MO.box b4 96 #[(str e2.Name), vi e2.Type_.Kind, vi e2.Type_.Bits, vi e2.Type_.Frac, vi e2.Type_.Round, vi e2.Type_.Over, vs a11 e2.Dims.length c31]] [clFn_k5 (Value.func (.func 39) #[vs a11 e2.Dims.length c31] #[]) (m_printer_forms_item e2.Dims), Cl.sl cGLin a11 c31 e2.Dims, Cl.blk b1 62 #[vs a1 p1.Sizes.length c1, vs a2 p1.Where.length c2, vs a3 p1.Params.length c3, vs a4 p1.Defs.length c4, vs a5 p1.Outs.length c5], Cl.sl cStr a1 c1 p1.Sizes, Cl.sl cGConstraint a2 c2 p1.Where, Cl.sl cGParam a3 c3 p1.Params, Cl.sl cGDef a4 c4 p1.Defs, Cl.sl cStr a5 c5 p1.Outs, clSpace, clPow10] := hI
   refine ⟨_, rfl, DM true F c36, hs5, ?_⟩
   refine a_nil ?_
   refine k_next (e := [(1, vp b1 0), (3, vp b2 0), (42, vs a3 p1.Params.length c3), (43, vi (p1.Params.length : Int)), (44, vi i2)]) ⟨rfl, rfl, rfl, rfl, rfl, trivial⟩ ?_
   refine c_region rfl ?_
   refine sq (y_add rfl et ev_const) ?_
   refine sm ?_
   refine s_nil ?_
   exact k_loop (fuel2, wi64 (i2 + 1), zs2) ⟨rfl, rfl, rfl, rfl, rfl, trivial⟩ ⟨_, hI.arr (.c .z .n) ⟨(.s (.s .z)), (.s (.s (.s .z))), (.s (.s (.s (.s .z)))), (.s (.s (.s (.s (.s .z))))), (.s (.s (.s (.s (.s (.s .z)))))), (.s (.s (.s (.s (.s (.s (.s .z))))))), (.s (.s (.s (.s (.s (.s (.s (.s .z)))))))), (.s (.s (.s (.s (.s (.s (.s (.s (.s .z))))))))), trivial⟩, h⟩ (Nat.lt_succ_self _)
  refine c_exit ?_
  refine k_in ?_
  exact k_join s7 ⟨rfl, rfl, trivial⟩ ⟨_, hI.arr (.c .z .n) ⟨.z, (.s .z), (.s (.s .z)), (.s (.s (.s .z))), (.s (.s (.s (.s .z)))), (.s (.s (.s (.s (.s .z))))), (.s (.s (.s (.s (.s (.s .z)))))), (.s (.s (.s (.s (.s (.s (.s .z))))))), trivial⟩, h⟩ rfl
 refine sr (sq (y_fieldAddr rfl et u62 rfl size_58 rfl) ?_)
 refine sq (y_load1 (v := (vs a2 p1.Where.length c2)) rfl et u58 rfl (hI.kblk (l := [vs a2 p1.Where.length c2]) .z rfl).1) ?_
 refine sq (y_lenl rfl u58 et) ?_
 refine sq (y_move rfl ev_const) ?_
 refine nk (c_block (c_loop (α := Nat × Int × (List UInt8)) (fun x => fun w => ∃ C, Bun noM F w0 C w [MO.bld 5 80 b2 (x.2.2)] [Cl.blk b1 62 #[vs a1 p1.Sizes.length c1, vs a2 p1.Where.length c2, vs a3 p1.Params.length c3, vs a4 p1.Defs.length c4, vs a5 p1.Outs.length c5], Cl.sl cStr a1 c1 p1.Sizes, Cl.sl cGConstraint a2 c2 p1.Where, Cl.sl cGParam a3 c3 p1.Params, Cl.sl cGDef a4 c4 p1.Defs, Cl.sl cStr a5 c5 p1.Outs, clSpace, clPow10] ∧ m_printer_Prog_l3 p1 (x.1) (x.2.1) (x.2.2) = some r) (fun x _ => x.1) (fun x => [(1, vp b1 0), (3, vp b2 0), (26, vs a2 p1.Where.length c2), (27, vi (p1.Where.length : Int)), (28, vi (x.2.1))]) (fu, 0, s1) ⟨_, hI.arr (.c .z .n) ⟨.z, (.s .z), (.s (.s .z)), (.s (.s (.s .z))), (.s (.s (.s (.s .z)))), (.s (.s (.s (.s (.s .z))))), (.s (.s (.s (.s (.s (.s .z)))))), (.s (.s (.s (.s (.s (.s (.s .z))))))), trivial⟩, h⟩ ⟨rfl, rfl, rfl, rfl, rfl, trivial⟩ ?_))
 clear h hI; rintro ⟨fuel3, i3, s14⟩ w25 ⟨c37, hI, h⟩
 dsimp only at hI h
 rcases fuel3 with _ | fuel3
 ·rw [m_printer_Prog_l3] at h; cases h
 rw [m_printer_Prog_l3] at h
 refine c_sub (e := [(1, vp b1 0), (3, vp b2 0), (26, vs a2 p1.Where.length c2), (27, vi (p1.Where.length : Int)), (28, vi i3)]) ⟨rfl, rfl, rfl, rfl, rfl, trivial⟩ ?_
 refine sr (sq (y_lss rfl et et) ?_)
 refine nk (c_seq (cif h et (fun hb h => ?_) (fun hb h => ?_)))
 ·refine c_skip (k_same (c_seq (c_block (sr ?_))))
  obtain ⟨e3, hx30, h⟩ := bnd_some h
  obtain ⟨ad3, cs3, hA3, hr3, hq3⟩ := hI.clat (.s (.s .z)) hx30
  obtain ⟨a12, c38, rfl, hf7⟩ := hr3
  have hI := hI.add (c := Cl.sl cGMono a12 c38 e3.Lin.L) hf7
  refine sq (y_indexAddr rfl u58 size_100 et et (lat_bd hx30) hA3) ?_
  refine sq (y_loadN (l := (lConstraint e3 a12 c38)) rfl et u100 rfl size_100 hq3.1) ?_
  refine l_alloc (cs := ZConstraint) hI gn rfl rfl zero_100 rfl ?_
  clear hI; intro b5 c39 w26 hI
  refine l_store (new := (lConstraint e3 a12 c38)) (cs' := (AConstraint e3 a12 c38)) hI .z gn rfl rfl et et rfl size_100 rfl rfl rfl ?_
  clear hI; intro c40 w27 hI
  refine nk (c_seq (sr (sq (y_loadN (l := (lConstraint e3 a12 c38)) rfl et u100 rfl size_100 (CellsAt.of_blk (hI.blk .z) rfl)) ?_)))
  obtain ⟨r11, hx31, h⟩ := bnd_some h
  refine s_call gn rfl (r_callF (vs := [(Value.agg (AConstraint e3 a12 c38))]) rfl ok_65 ⟨et, trivial⟩) (Calls.mono (c_constraint_Validate (Dj F c40) w27 hI.lt e3 a12 c38 ⟨(hI.get .z), trivial⟩ r11 hx31) ?_)
  rintro _ w28 ⟨rfl, hx32, hl13⟩
  refine ⟨_, rfl, ?_⟩
  replace hI := (hI.ext hx32)
  refine sq (y_neq rfl et ev_const) ?_
  refine nk (cif h et (fun hb h => ?_) (fun hb h => ?_))
  ·refine sr (sac ?_)
   refine nk (c_ret ?_)
   obtain rfl := some_inj h
   exact q_ret (vs := [(str ([] : List UInt8))]) Tryz.results26 ⟨ev_tmp rfl rfl, trivial⟩ (fq hI trivial)
  refine c_skip (k_same (c_region rfl ?_))
  refine sq (y_loadN (l := (lConstraint e3 a12 c38)) rfl et u100 rfl size_100 (CellsAt.of_blk (hI.blk .z) rfl)) ?_
  obtain ⟨r12, hx33, h⟩ := bnd_some h
  refine s_call gn rfl (r_callF (vs := [(Value.agg (AConstraint e3 a12 c38))]) rfl ok_67 ⟨et, trivial⟩) (Calls.mono (c_constraint_Format (Dj F c40) w28 hI.lt e3 a12 c38 ⟨(hI.get .z), (hI.get (.s (.s (.s (.s (.s (.s (.s (.s .z))))))))), trivial⟩ r12 hx33) ?_)
  rintro _ w29 ⟨rfl, hx34, hl14⟩
  refine ⟨_, rfl, ?_⟩
  replace hI := (hI.ext hx34)
  obtain ⟨s15, hx35, h⟩ := bnd_some h
  refine sq (y_catl rfl ev_const et hx35) ?_
  obtain ⟨s16, hx36, h⟩ := bnd_some h
  refine sq (y_catl rfl et ev_const hx36) ?_
  obtain ⟨zs3, hx37, h⟩ := bnd_some h
  obtain ⟨c41, f5, hB, hl15, hk5⟩ := hI.hands (.r (.l .n))
  refine s_call gn rfl (r_callF (vs := [vp b2 0, (str s16)]) rfl ok_66 ⟨et, ⟨et, trivial⟩⟩) (Calls.mono (c_bldWrite bldT_80 c41 f5 w29 b2 s14 s16 zs3 (hB.subs trivial) hx37) ?_)
  rintro _ w30 ⟨c42, rfl, hB2⟩
  obtain ⟨c43, hs6, hI⟩ := hk5 _ _ _ _ hB2
  replace hI : Bun noM F w0 c43 w30 [MO.bld 5 80 b2 zs3, MO.box b5 100 (AConstraint e3 a12 c38)] [Cl.sl cGMono a12 c38 e3.Lin.L, Cl.blk b1 62 #[vs a1 p1.Sizes.length c1, vs a2 p1.Where.length c2, vs a3 p1.Params.length c3, vs a4 p1.Defs.length c4, vs a5 p1.Outs.length c5], Cl.sl cStr a1 c1 p1.Sizes, Cl.sl cGConstraint a2 c2 p1.Where, Cl.sl cGParam a3 c3 p1.Params, Cl.sl cGDef a4 c4 p1.Defs, Cl.sl cStr a5 c5 p1.Outs, clSpace, clPow10] := hI
  refine ⟨_, rfl, ?_⟩
  refine nk (c_region rfl ?_)
  refine sq (y_add rfl et ev_const) ?_
  refine sm ?_
  refine s_nil ?_
  exact k_loop (fuel3, wi64 (i3 + 1), zs3) ⟨rfl, rfl, rfl, rfl, rfl, trivial⟩ ⟨_, hI.arr (.c .z .n) ⟨(.s .z), (.s (.s .z)), (.s (.s (.s .z))), (.s (.s (.s (.s .z)))), (.s (.s (.s (.s (.s .z))))), (.s (.s (.s (.s (.s (.s .z)))))), (.s (.s (.s (.s (.s (.s (.s .z))))))), (.s (.s (.s (.s (.s (.s (.s (.s .z)))))))), trivial⟩, h⟩ (Nat.lt_succ_self _)
 refine c_exit ?_
 refine k_in ?_
 exact k_join s14 ⟨rfl, rfl, trivial⟩ ⟨_, hI.arr (.c .z .n) ⟨.z, (.s .z), (.s (.s .z)), (.s (.s (.s .z))), (.s (.s (.s (.s .z)))), (.s (.s (.s (.s (.s .z))))), (.s (.s (.s (.s (.s (.s .z)))))), (.s (.s (.s (.s (.s (.s (.s .z))))))), trivial⟩, h⟩ rfl
theorem c_ref15_names (F : NP) (w0 : World) (hF : ∀ k, F k → k < w0.heap.size) (l1 : List (List UInt8)) (a1 : Option Addr) (c1 : Nat) (hc : AllCl [Cl.sl cStr a1 c1 l1] F w0) (r : List UInt8 × Bool)
  (h : m_ref15_names l1 = some r) :
  Calls Tryz.prog 68 #[vs a1 l1.length c1] w0 fun e w => e = .returned (Value.tuple #[(str r.1), vb r.2]) ∧ Ext w0 w ∧ AllCl [] F w := by
 refine enterK Tryz.func68 rfl Tryz.ntmps68 rfl ?_
 have hI := Bun.start hF hc
 clear hc
 rw [m_ref15_names] at h
 refine sr (sac ?_)
 refine sac ?_
 refine nk (sr (sac ?_))
 refine nk (c_seq (sr (sac ?_)))
 refine nk (c_block (c_loop (α := Nat × (List UInt8) × Int) (fun x => fun w => ∃ C, Bun noM F w0 C w [] [Cl.sl cStr a1 c1 l1] ∧ m_ref15_names_l1 l1 (x.1) (x.2.1) (x.2.2) = some r) (fun x _ => x.1) (fun x => [(0, vs a1 l1.length c1), (4, (str (x.2.1))), (5, vi (x.2.2))]) (fu, ([] : List UInt8), 0) ⟨_, hI.arr .n ⟨.z, trivial⟩, h⟩ ⟨rfl, rfl, rfl, trivial⟩ ?_))
 clear h hI; rintro ⟨fuel1, s1, i1⟩ w1 ⟨c2, hI, h⟩
 dsimp only at hI h
 rcases fuel1 with _ | fuel1
 ·rw [m_ref15_names_l1] at h; cases h
 rw [m_ref15_names_l1] at h
 refine c_sub (e := [(0, vs a1 l1.length c1), (4, (str s1)), (5, vi i1)]) ⟨rfl, rfl, rfl, trivial⟩ ?_
 refine c_seq (sr (sm ?_))
 refine sm ?_
 refine sq (y_lenl rfl u55 et) ?_
 refine sq (y_lss rfl et et) ?_
 refine nk (cif h et (fun hb h => ?_) (fun hb h => ?_))
 ·refine c_skip (k_same (c_seq (c_block (c_seq (sr (sm ?_))))))
  refine sm ?_
  obtain ⟨e1, hx1, h⟩ := bnd_some h
  obtain ⟨ad1, cs1, hA1, hr1, hq1⟩ := hI.clat .z hx1
  obtain rfl : cs1 = [(str e1)] := hr1
  refine sq (y_indexAddr rfl u55 size_9 et et (lat_bd hx1) hA1) ?_
  refine sq (y_load1 (v := (str e1)) rfl et u9 rfl hq1.1) ?_
  obtain ⟨r1, hx2, h⟩ := bnd_some h
  refine s_call gn rfl (r_callF (vs := [(str e1)]) rfl ok_43 ⟨et, trivial⟩) (Calls.mono (c_base_Name (Dj F c2) w1 hI.lt e1 trivial r1 hx2) ?_)
  rintro _ w2 ⟨rfl, hx3, hl1⟩
  refine ⟨_, rfl, ?_⟩
  replace hI := (hI.ext hx3)
  refine sq (y_not rfl et) ?_
  refine nk (cif h et (fun hb h => ?_) (fun hb h => ?_))
  ·refine sr (sac ?_)
   refine sac ?_
   refine nk (c_ret ?_)
   obtain rfl := some_inj h
   exact q_ret (vs := [(str ([] : List UInt8)), vb false]) Tryz.results68 ⟨ev_tmp rfl rfl, ⟨ev_tmp rfl rfl, trivial⟩⟩ (fq hI trivial)
  refine c_skip (k_same (c_join (α := (List UInt8)) (fun _ => ⟨29, []⟩) (fun x => [(0, vs a1 l1.length c1), (4, (str x)), (5, vi i1)]) (fun x => fun w => ∃ C, Bun noM F w0 C w [] [Cl.sl cStr a1 c1 l1] ∧ m_ref15_names_j1 l1 i1 (m_ref15_names_l1 l1 fuel1) x = some r) ?_ ?_))
  ·clear h hI; rintro s2 w3 ⟨c3, hI, h⟩
   try dsimp only at hI h
   rw [m_ref15_names_j1] at h
   refine c_sub (e := [(0, vs a1 l1.length c1), (4, (str s2)), (5, vi i1)]) ⟨rfl, rfl, rfl, trivial⟩ ?_
   refine c_region rfl ?_
   refine sm ?_
   refine sm ?_
   refine sm ?_
   obtain ⟨e2, hx4, h⟩ := bnd_some h
   obtain ⟨ad2, cs2, hA2, hr2, hq2⟩ := hI.clat .z hx4
   obtain rfl : cs2 = [(str e2)] := hr2
   refine sq (y_indexAddr rfl u55 size_9 et et (lat_bd hx4) hA2) ?_
   refine sq (y_load1 (v := (str e2)) rfl et u9 rfl hq2.1) ?_
   obtain ⟨s3, hx5, h⟩ := bnd_some h
   refine sq (y_catl rfl et et hx5) ?_
   refine sa ?_
   refine nk (c_region rfl ?_)
   refine sm ?_
   refine sq (y_add rfl et ev_const) ?_
   refine sa ?_
   refine s_nil ?_
   exact k_loop (fuel1, s3, wi64 (i1 + 1)) ⟨rfl, rfl, rfl, trivial⟩ ⟨_, hI.arr .n ⟨.z, trivial⟩, h⟩ (Nat.lt_succ_self _)
  refine sr (sm ?_)
  refine sq (y_gtr rfl et ev_const) ?_
  refine nk (cif h et (fun hb h => ?_) (fun hb h => ?_))
  ·refine c_region rfl ?_
   refine sm ?_
   obtain ⟨s4, hx6, h⟩ := bnd_some h
   refine sq (y_catl rfl et ev_const hx6) ?_
   refine sa ?_
   refine s_nil ?_
   exact k_join s4 ⟨rfl, rfl, rfl, trivial⟩ ⟨_, hI.arr .n ⟨.z, trivial⟩, h⟩ rfl
  exact c_skip (k_join s1 ⟨rfl, rfl, rfl, trivial⟩ ⟨_, hI.arr .n ⟨.z, trivial⟩, h⟩ rfl)
 refine c_exit ?_
 refine k_in ?_
 refine k_same (sr (sm ?_))
 refine sa ?_
 refine sac ?_
 refine nk (c_ret ?_)
 obtain rfl := some_inj h
 exact q_ret (vs := [(str s1), vb true]) Tryz.results68 ⟨ev_tmp rfl rfl, ⟨ev_tmp rfl rfl, trivial⟩⟩ (fq hI trivial)
theorem c_ref06_Validate (F : NP) (w0 : World) (hF : ∀ k, F k → k < w0.heap.size) (c1 : GConstraint) (a1 : Option Addr) (c2 : Nat) (hc : AllCl [Cl.sl cGMono a1 c2 c1.Lin.L] F w0) (r : Int)
  (h : m_ref06_Validate c1 = some r) :
  Calls Tryz.prog 69 #[(Value.agg (AConstraint c1 a1 c2))] w0 fun e w => e = .returned (vi r) ∧ Ext w0 w ∧ AllCl [] F w := by
 refine enterK Tryz.func69 rfl Tryz.ntmps69 rfl ?_
 have hI := Bun.start hF hc
 clear hc
 rw [m_ref06_Validate] at h
 refine sr (l_box (v := (Value.agg (AConstraint c1 a1 c2))) (cs := (AConstraint c1 a1 c2)) hI gn rfl rfl et rfl ?_)
 clear hI; intro b1 c3 w1 hI
 obtain ⟨c4, hI⟩ := hI.relBox .z
 refine sac ?_
 refine nk (c_seq (sr (sq (y_fieldAddr rfl et u100 rfl size_29 rfl) ?_)))
 refine sq (y_loadN (l := (lLin c1.Lin a1 c2)) rfl et u29 rfl size_29 (hI.kblk (l := (lLin c1.Lin a1 c2)) .z rfl).1) ?_
 obtain ⟨r1, hx1, h⟩ := bnd_some h
 refine s_call gn rfl (r_callF (vs := [(Value.agg (ALin c1.Lin a1 c2))]) rfl ok_40 ⟨et, trivial⟩) (Calls.mono (c_base_LinRight (Dj F c4) w1 hI.lt c1.Lin a1 c2 ⟨(hI.get (.s .z)), trivial⟩ r1 hx1) ?_)
 rintro _ w2 ⟨rfl, hx2, hl1⟩
 refine ⟨_, rfl, ?_⟩
 replace hI := (hI.ext hx2)
 refine sq (y_not rfl et) ?_
 refine nk (cif h et (fun hb h => ?_) (fun hb h => ?_))
 ·refine sr (sac ?_)
  refine nk (c_ret ?_)
  obtain rfl := some_inj h
  exact q_ret (vs := [vi 1]) Tryz.results69 ⟨ev_tmp rfl rfl, trivial⟩ (fq hI trivial)
 refine c_skip (k_same (sr (sac ?_)))
 refine nk (c_ret ?_)
 obtain rfl := some_inj h
 exact q_ret (vs := [vi 0]) Tryz.results69 ⟨ev_tmp rfl rfl, trivial⟩ (fq hI trivial)
theorem c_ref06_Format (F : NP) (w0 : World) (hF : ∀ k, F k → k < w0.heap.size) (c1 : GConstraint) (a1 : Option Addr) (c2 : Nat) (hc : AllCl [Cl.sl cGMono a1 c2 c1.Lin.L] F w0) (r : List UInt8)
  (h : m_ref06_Format c1 = some r) :
  Calls Tryz.prog 70 #[(Value.agg (AConstraint c1 a1 c2))] w0 fun e w => e = .returned (str r) ∧ Ext w0 w ∧ AllCl [] F w := by
 refine enterK Tryz.func70 rfl Tryz.ntmps70 rfl ?_
 have hI := Bun.start hF hc
 clear hc
 rw [m_ref06_Format] at h
 refine sr (l_box (v := (Value.agg (AConstraint c1 a1 c2))) (cs := (AConstraint c1 a1 c2)) hI gn rfl rfl et rfl ?_)
 clear hI; intro b1 c3 w1 hI
 obtain ⟨c4, hI⟩ := hI.relBox .z
 refine sac ?_
 refine nk (c_seq (sr (sq (y_loadN (l := (lConstraint c1 a1 c2)) rfl et u100 rfl size_100 (hI.kblk (l := (lConstraint c1 a1 c2)) .z rfl).1) ?_)))
 obtain ⟨r1, hx1, h⟩ := bnd_some h
 refine s_call gn rfl (r_callF (vs := [(Value.agg (AConstraint c1 a1 c2))]) rfl ok_69 ⟨et, trivial⟩) (Calls.mono (c_ref06_Validate (Dj F c4) w1 hI.lt c1 a1 c2 ⟨(hI.get (.s .z)), trivial⟩ r1 hx1) ?_)
 rintro _ w2 ⟨rfl, hx2, hl1⟩
 refine ⟨_, rfl, ?_⟩
 replace hI := (hI.ext hx2)
 refine sq (y_neq rfl et ev_const) ?_
 refine nk (cif h et (fun hb h => ?_) (fun hb h => ?_))
 ·refine sr (sac ?_)
  refine nk (c_ret ?_)
  obtain rfl := some_inj h
  exact q_ret (vs := [(str ([] : List UInt8))]) Tryz.results70 ⟨ev_tmp rfl rfl, trivial⟩ (fq hI trivial)
 refine c_skip (k_same (c_seq (sr (sq (y_fieldAddr rfl et u100 rfl size_4 rfl) ?_))))
 refine sq (y_load1 (v := (vb c1.Eq)) rfl et u4 rfl (hI.kblk (l := [vb c1.Eq]) .z rfl).1) ?_
 refine nk (cif h et (fun hb h => ?_) (fun hb h => ?_))
 ·refine sr (sq (y_fieldAddr rfl et u100 rfl size_29 rfl) ?_)
  refine sq (y_loadN (l := (lLin c1.Lin a1 c2)) rfl et u29 rfl size_29 (hI.kblk (l := (lLin c1.Lin a1 c2)) .z rfl).1) ?_
  obtain ⟨r2, hx3, h⟩ := bnd_some h
  refine s_call gn rfl (r_callF (vs := [(Value.agg (ALin c1.Lin a1 c2))]) rfl ok_42 ⟨et, trivial⟩) (Calls.mono (c_ref05_Format (Dj F c4) w2 hI.lt c1.Lin a1 c2 ⟨(hI.get (.s .z)), trivial⟩ r2 hx3) ?_)
  rintro _ w3 ⟨rfl, hx4, hl2⟩
  refine ⟨_, rfl, ?_⟩
  replace hI := (hI.ext hx4)
  obtain ⟨s1, hx5, h⟩ := bnd_some h
  refine sq (y_catl rfl ev_const et hx5) ?_
  refine sa ?_
  refine nk (c_ret ?_)
  obtain rfl := some_inj h
  exact q_ret (vs := [(str s1)]) Tryz.results70 ⟨ev_tmp rfl rfl, trivial⟩ (fq hI trivial)
 refine c_skip (k_same (sr (sq (y_fieldAddr rfl et u100 rfl size_29 rfl) ?_)))
 refine sq (y_loadN (l := (lLin c1.Lin a1 c2)) rfl et u29 rfl size_29 (hI.kblk (l := (lLin c1.Lin a1 c2)) .z rfl).1) ?_
 obtain ⟨r3, hx6, h⟩ := bnd_some h
 refine s_call gn rfl (r_callF (vs := [(Value.agg (ALin c1.Lin a1 c2))]) rfl ok_42 ⟨et, trivial⟩) (Calls.mono (c_ref05_Format (Dj F c4) w2 hI.lt c1.Lin a1 c2 ⟨(hI.get (.s .z)), trivial⟩ r3 hx6) ?_)
 rintro _ w4 ⟨rfl, hx7, hl3⟩
 refine ⟨_, rfl, ?_⟩
 replace hI := (hI.ext hx7)
 obtain ⟨s2, hx8, h⟩ := bnd_some h
 refine sq (y_catl rfl ev_const et hx8) ?_
 refine sa ?_
 refine nk (c_ret ?_)
 obtain rfl := some_inj h
 exact q_ret (vs := [(str s2)]) Tryz.results70 ⟨ev_tmp rfl rfl, trivial⟩ (fq hI trivial)
theorem c_ref15_Prog (F : NP) (w0 : World) (hF : ∀ k, F k → k < w0.heap.size) (p1 : GProg) (a1 : Option Addr) (c1 : Nat) (a2 : Option Addr) (c2 : Nat) (a3 : Option Addr) (c3 : Nat) (a4 : Option Addr) (c4 : Nat) (a5 : Option Addr) (c5 : Nat) (hc : AllCl [Cl.sl cStr a1 c1 p1.Sizes, Cl.sl cGConstraint a2 c2 p1.Where, Cl.sl cGParam a3 c3 p1.Params, Cl.sl cGDef a4 c4 p1.Defs, Cl.sl cStr a5 c5 p1.Outs] F w0) (r : List UInt8)
  (h : m_ref15_Prog p1 = some r) :
  Calls Tryz.prog 27 #[(Value.agg #[vs a1 p1.Sizes.length c1, vs a2 p1.Where.length c2, vs a3 p1.Params.length c3, vs a4 p1.Defs.length c4, vs a5 p1.Outs.length c5])] w0 fun e w => e = .returned (str r) ∧ Ext w0 w ∧ AllCl [] F w := by
 refine enterK Tryz.func27 rfl Tryz.ntmps27 rfl ?_
 have hI := Bun.start hF hc
 clear hc
 rw [m_ref15_Prog] at h
 refine sr (l_box (v := (Value.agg #[vs a1 p1.Sizes.length c1, vs a2 p1.Where.length c2, vs a3 p1.Params.length c3, vs a4 p1.Defs.length c4, vs a5 p1.Outs.length c5])) (cs := #[vs a1 p1.Sizes.length c1, vs a2 p1.Where.length c2, vs a3 p1.Params.length c3, vs a4 p1.Defs.length c4, vs a5 p1.Outs.length c5]) hI gn rfl rfl et rfl ?_)
 clear hI; intro b1 c6 w1 hI
 obtain ⟨c7, hI⟩ := hI.relBox .z
 refine sac ?_
 refine nk (sr (sq (y_fieldAddr rfl et u62 rfl size_55 rfl) ?_))
 refine sq (y_load1 (v := (vs a1 p1.Sizes.length c1)) rfl et u55 rfl (hI.kblk (l := [vs a1 p1.Sizes.length c1]) .z rfl).1) ?_
 obtain ⟨r1, hx1, h⟩ := bnd_some h
 refine s_call gn rfl (r_callF (vs := [vs a1 p1.Sizes.length c1]) rfl ok_68 ⟨et, trivial⟩) (Calls.mono (c_ref15_names (Dj F c7) w1 hI.lt p1.Sizes a1 c1 ⟨(hI.get (.s .z)), trivial⟩ r1 hx1) ?_)
 rintro _ w2 ⟨rfl, hx2, hl1⟩
 refine ⟨_, rfl, ?_⟩
 replace hI := (hI.ext hx2)
 refine sm ?_
 refine sq (y_extract rfl et rfl) ?_
 refine sq (y_extract rfl et rfl) ?_
 refine sa ?_
 refine sa ?_
 refine nk (sr (sq (y_fieldAddr rfl et u62 rfl size_55 rfl) ?_))
 refine sq (y_load1 (v := (vs a5 p1.Outs.length c5)) rfl et u55 rfl (hI.kblk (l := [vs a5 p1.Outs.length c5]) .z rfl).1) ?_
 obtain ⟨r2, hx3, h⟩ := bnd_some h
 refine s_call gn rfl (r_callF (vs := [vs a5 p1.Outs.length c5]) rfl ok_68 ⟨et, trivial⟩) (Calls.mono (c_ref15_names (Dj F c7) w2 hI.lt p1.Outs a5 c5 ⟨(hI.get (.s (.s (.s (.s (.s .z)))))), trivial⟩ r2 hx3) ?_)
 rintro _ w3 ⟨rfl, hx4, hl2⟩
 refine ⟨_, rfl, ?_⟩
 replace hI := (hI.ext hx4)
 refine sm ?_
 refine sq (y_extract rfl et rfl) ?_
 refine sq (y_extract rfl et rfl) ?_
 refine sa ?_
 refine sa ?_
 refine nk (c_seq (sr (sm ?_)))
 refine sq (y_not rfl et) ?_
 refine sm ?_
 refine s_gval (g_false rfl rfl rfl rfl) rfl (fun hc => y_move rfl et) ?_
 refine s_gval (g_false rfl rfl rfl rfl) rfl (fun hc => y_not rfl (ev_gv et hc)) ?_
 refine sq (y_or rfl et et) ?_
 refine nk (cif h et (fun hb h => ?_) (fun hb h => ?_))
 ·refine sr (sac ?_)
  refine s_nil ?_
  refine k_next (e := [(2, (str ([] : List UInt8)))]) ⟨rfl, trivial⟩ ?_
  refine c_ret ?_
  obtain rfl := some_inj h
  exact q_ret (vs := [(str ([] : List UInt8))]) Tryz.results27 ⟨ev_tmp rfl rfl, trivial⟩ (fq hI trivial)
 refine c_skip (k_same (sr (sac ?_)))
 refine nk (c_join (α := (List UInt8)) (fun _ => ⟨135, []⟩) (fun x => [(1, vp b1 0), (5, (str r2.1)), (7, (str x))]) (fun x => fun w => ∃ C, Bun noM F w0 C w [] [Cl.blk b1 62 #[vs a1 p1.Sizes.length c1, vs a2 p1.Where.length c2, vs a3 p1.Params.length c3, vs a4 p1.Defs.length c4, vs a5 p1.Outs.length c5], Cl.sl cStr a1 c1 p1.Sizes, Cl.sl cGConstraint a2 c2 p1.Where, Cl.sl cGParam a3 c3 p1.Params, Cl.sl cGDef a4 c4 p1.Defs, Cl.sl cStr a5 c5 p1.Outs] ∧ m_ref15_Prog_j1 p1 r2 x = some r) ?_ ?_)
 ·clear h hI; rintro s1 w4 ⟨c8, hI, h⟩
  try dsimp only at hI h
  rw [m_ref15_Prog_j1] at h
  refine c_sub (e := [(1, vp b1 0), (5, (str r2.1)), (7, (str s1))]) ⟨rfl, rfl, rfl, trivial⟩ ?_
  refine c_join (α := (List UInt8)) (fun _ => ⟨135, []⟩) (fun x => [(1, vp b1 0), (5, (str r2.1)), (7, (str x))]) (fun x => fun w => ∃ C, Bun noM F w0 C w [] [Cl.blk b1 62 #[vs a1 p1.Sizes.length c1, vs a2 p1.Where.length c2, vs a3 p1.Params.length c3, vs a4 p1.Defs.length c4, vs a5 p1.Outs.length c5], Cl.sl cStr a1 c1 p1.Sizes, Cl.sl cGConstraint a2 c2 p1.Where, Cl.sl cGParam a3 c3 p1.Params, Cl.sl cGDef a4 c4 p1.Defs, Cl.sl cStr a5 c5 p1.Outs] ∧ m_ref15_Prog_j2 p1 r2 x = some r) ?_ ?_
  ·clear h hI; rintro s2 w5 ⟨c9, hI, h⟩
   try dsimp only at hI h
   rw [m_ref15_Prog_j2] at h
   refine c_sub (e := [(1, vp b1 0), (5, (str r2.1)), (7, (str s2))]) ⟨rfl, rfl, rfl, trivial⟩ ?_
   refine c_join (α := (List UInt8)) (fun _ => ⟨135, []⟩) (fun x => [(1, vp b1 0), (5, (str r2.1)), (7, (str x))]) (fun x => fun w => ∃ C, Bun noM F w0 C w [] [Cl.blk b1 62 #[vs a1 p1.Sizes.length c1, vs a2 p1.Where.length c2, vs a3 p1.Params.length c3, vs a4 p1.Defs.length c4, vs a5 p1.Outs.length c5], Cl.sl cStr a1 c1 p1.Sizes, Cl.sl cGConstraint a2 c2 p1.Where, Cl.sl cGParam a3 c3 p1.Params, Cl.sl cGDef a4 c4 p1.Defs, Cl.sl cStr a5 c5 p1.Outs] ∧ m_ref15_Prog_j3 p1 r2 x = some r) ?_ ?_
   ·clear h hI; rintro s3 w6 ⟨c10, hI, h⟩
    try dsimp only at hI h
    rw [m_ref15_Prog_j3] at h
    refine c_sub (e := [(1, vp b1 0), (5, (str r2.1)), (7, (str s3))]) ⟨rfl, rfl, rfl, trivial⟩ ?_
    refine c_join (α := (List UInt8)) (fun _ => ⟨135, []⟩) (fun x => [(1, vp b1 0), (5, (str r2.1)), (7, (str x))]) (fun x => fun w => ∃ C, Bun noM F w0 C w [] [Cl.blk b1 62 #[vs a1 p1.Sizes.length c1, vs a2 p1.Where.length c2, vs a3 p1.Params.length c3, vs a4 p1.Defs.length c4, vs a5 p1.Outs.length c5], Cl.sl cStr a1 c1 p1.Sizes, Cl.sl cGConstraint a2 c2 p1.Where, Cl.sl cGParam a3 c3 p1.Params, Cl.sl cGDef a4 c4 p1.Defs, Cl.sl cStr a5 c5 p1.Outs] ∧ m_ref15_Prog_j4 p1 r2 x = some r) ?_ ?_
    ·clear h hI; rintro s4 w7 ⟨c11, hI, h⟩
     try dsimp only at hI h
     rw [m_ref15_Prog_j4] at h
     refine c_sub (e := [(1, vp b1 0), (5, (str r2.1)), (7, (str s4))]) ⟨rfl, rfl, rfl, trivial⟩ ?_
     refine c_seq (sr (sq (y_fieldAddr rfl et u62 rfl size_55 rfl) ?_))
     refine sq (y_load1 (v := (vs a5 p1.Outs.length c5)) rfl et u55 rfl (hI.kblk (l := [vs a5 p1.Outs.length c5]) .z rfl).1) ?_
     refine sq (y_lenl rfl u55 et) ?_
     refine sq (y_gtr rfl et ev_const) ?_
     refine nk (cif h et (fun hb h => ?_) (fun hb h => ?_))
     ·refine c_region rfl ?_
      refine sm ?_
      obtain ⟨s5, hx5, h⟩ := bnd_some h
      refine sq (y_catl rfl et ev_const hx5) ?_
      refine sm ?_
      obtain ⟨s6, hx6, h⟩ := bnd_some h
      refine sq (y_catl rfl et et hx6) ?_
      obtain ⟨s7, hx7, h⟩ := bnd_some h
      refine sq (y_catl rfl et ev_const hx7) ?_
      refine sa ?_
      refine nk (sr (sm ?_))
      refine sa ?_
      refine nk (c_ret ?_)
      obtain rfl := some_inj h
      exact q_ret (vs := [(str s7)]) Tryz.results27 ⟨ev_tmp rfl rfl, trivial⟩ (fq hI trivial)
     refine c_skip (k_same (sr (sm ?_)))
     refine sa ?_
     refine nk (c_ret ?_)
     obtain rfl := some_inj h
     exact q_ret (vs := [(str s4)]) Tryz.results27 ⟨ev_tmp rfl rfl, trivial⟩ (fq hI trivial)
    refine sr (sac ?_)
    refine nk (c_block (c_loop (α := Nat × (List UInt8) × Int) (fun x => fun w => ∃ C, Bun noM F w0 C w [] [Cl.blk b1 62 #[vs a1 p1.Sizes.length c1, vs a2 p1.Where.length c2, vs a3 p1.Params.length c3, vs a4 p1.Defs.length c4, vs a5 p1.Outs.length c5], Cl.sl cStr a1 c1 p1.Sizes, Cl.sl cGConstraint a2 c2 p1.Where, Cl.sl cGParam a3 c3 p1.Params, Cl.sl cGDef a4 c4 p1.Defs, Cl.sl cStr a5 c5 p1.Outs] ∧ m_ref15_Prog_l1 p1 r2 (x.1) (x.2.1) (x.2.2) = some r) (fun x _ => x.1) (fun x => [(1, vp b1 0), (5, (str r2.1)), (7, (str (x.2.1))), (11, vi (x.2.2))]) (fu, s3, 0) ⟨_, hI.arr .n ⟨.z, (.s .z), (.s (.s .z)), (.s (.s (.s .z))), (.s (.s (.s (.s .z)))), (.s (.s (.s (.s (.s .z))))), trivial⟩, h⟩ ⟨rfl, rfl, rfl, rfl, trivial⟩ ?_))
    clear h hI; rintro ⟨fuel1, s8, i1⟩ w8 ⟨c12, hI, h⟩
    dsimp only at hI h
    rcases fuel1 with _ | fuel1
    ·rw [m_ref15_Prog_l1] at h; cases h
    rw [m_ref15_Prog_l1] at h
    refine c_sub (e := [(1, vp b1 0), (5, (str r2.1)), (7, (str s8)), (11, vi i1)]) ⟨rfl, rfl, rfl, rfl, trivial⟩ ?_
    refine c_seq (sr (sm ?_))
    refine sq (y_fieldAddr rfl et u62 rfl size_60 rfl) ?_
    refine sq (y_load1 (v := (vs a4 p1.Defs.length c4)) rfl et u60 rfl (hI.kblk (l := [vs a4 p1.Defs.length c4]) .z rfl).1) ?_
    refine sq (y_lenl rfl u60 et) ?_
    refine sq (y_lss rfl et et) ?_
    refine nk (cif h et (fun hb h => ?_) (fun hb h => ?_))
    ·refine c_skip (k_same (c_seq (c_block (sr (sq (y_fieldAddr rfl et u62 rfl size_60 rfl) ?_)))))
     refine sq (y_load1 (v := (vs a4 p1.Defs.length c4)) rfl et u60 rfl (hI.kblk (l := [vs a4 p1.Defs.length c4]) .z rfl).1) ?_
     refine sm ?_
     obtain ⟨e1, hx8, h⟩ := bnd_some h
     obtain ⟨ad1, cs1, hA1, hr1, hq1⟩ := hI.clat (.s (.s (.s (.s .z)))) hx8
     obtain ⟨a6, c13, a7, c14, a8, c15, a9, c16, a10, c17, rfl, hf1, hf2, hf3, hf4, hf5⟩ := hr1
     have hI := hI.add (c := Cl.sl cGAxis a6 c13 e1.Dims) hf1
     have hI := hI.add (c := Cl.sl cGAxis a7 c14 e1.Red) hf2
     have hI := hI.add (c := Cl.sl cGMono a8 c15 e1.Body.Lin.L) hf3
     have hI := hI.add (c := Cl.sl cGIndex a9 c16 e1.Body.Idx) hf4
     have hI := hI.add (c := Cl.sl cGExpr a10 c17 e1.Body.Args) hf5
     refine sq (y_indexAddr rfl u60 size_49 et et (lat_bd hx8) hA1) ?_
     refine sq (y_loadN (l := [(str e1.Name), vi e1.Type_.Kind, vi e1.Type_.Bits, vi e1.Type_.Frac, vi e1.Type_.Round, vi e1.Type_.Over, vs a6 e1.Dims.length c13, vs a7 e1.Red.length c14, vi e1.Fold, vi e1.Body.Op, (str e1.Body.Name), vi e1.Body.Val.N, vi e1.Body.Val.D, vi e1.Body.Type_.Kind, vi e1.Body.Type_.Bits, vi e1.Body.Type_.Frac, vi e1.Body.Type_.Round, vi e1.Body.Type_.Over, vi e1.Body.Lin.K, vs a8 e1.Body.Lin.L.length c15, vs a9 e1.Body.Idx.length c16, vs a10 e1.Body.Args.length c17]) rfl et u49 rfl size_49 hq1.1) ?_
     obtain ⟨r3, hx9, h⟩ := bnd_some h
     refine s_call gn rfl (r_callF (vs := [(Value.agg #[(str e1.Name), vi e1.Type_.Kind, vi e1.Type_.Bits, vi e1.Type_.Frac, vi e1.Type_.Round, vi e1.Type_.Over, vs a6 e1.Dims.length c13, vs a7 e1.Red.length c14, vi e1.Fold, vi e1.Body.Op, (str e1.Body.Name), vi e1.Body.Val.N, vi e1.Body.Val.D, vi e1.Body.Type_.Kind, vi e1.Body.Type_.Bits, vi e1.Body.Type_.Frac, vi e1.Body.Type_.Round, vi e1.Body.Type_.Over, vi e1.Body.Lin.K, vs a8 e1.Body.Lin.L.length c15, vs a9 e1.Body.Idx.length c16, vs a10 e1.Body.Args.length c17])]) rfl ok_23 ⟨et, trivial⟩) (Calls.mono (c_ref15_Def (Dj F c12) w8 hI.lt e1 a6 c13 a7 c14 a8 c15 a9 c16 a10 c17 ⟨(hI.get (.s (.s (.s (.s .z))))), (hI.get (.s (.s (.s .z)))), (hI.get (.s (.s .z))), (hI.get (.s .z)), (hI.get .z), trivial⟩ r3 hx9) ?_)
     rintro _ w9 ⟨rfl, hx10, hl3⟩
     refine ⟨_, rfl, ?_⟩
     replace hI := (hI.ext hx10)
     refine sa ?_
     refine nk (c_seq (sr (sm ?_)))
     refine sq (y_eqs rfl et ev_const) ?_
     refine nk (cif h et (fun hb h => ?_) (fun hb h => ?_))
     ·refine sr (sac ?_)
      refine nk (c_ret ?_)
      obtain rfl := some_inj h
      exact q_ret (vs := [(str ([] : List UInt8))]) Tryz.results27 ⟨ev_tmp rfl rfl, trivial⟩ (fq hI trivial)
     refine c_skip (k_same (c_region rfl ?_))
     refine sm ?_
     refine sm ?_
     obtain ⟨s9, hx11, h⟩ := bnd_some h
     refine sq (y_catl rfl et et hx11) ?_
     obtain ⟨s10, hx12, h⟩ := bnd_some h
     refine sq (y_catl rfl et ev_const hx12) ?_
     refine sa ?_
     refine nk (c_region rfl ?_)
     refine sm ?_
     refine sq (y_add rfl et ev_const) ?_
     refine sa ?_
     refine s_nil ?_
     exact k_loop (fuel1, s10, wi64 (i1 + 1)) ⟨rfl, rfl, rfl, rfl, trivial⟩ ⟨_, hI.arr .n ⟨(.s (.s (.s (.s (.s .z))))), (.s (.s (.s (.s (.s (.s .z)))))), (.s (.s (.s (.s (.s (.s (.s .z))))))), (.s (.s (.s (.s (.s (.s (.s (.s .z)))))))), (.s (.s (.s (.s (.s (.s (.s (.s (.s .z))))))))), (.s (.s (.s (.s (.s (.s (.s (.s (.s (.s .z)))))))))), trivial⟩, h⟩ (Nat.lt_succ_self _)
    refine c_exit ?_
    refine k_in ?_
    exact k_join s8 ⟨rfl, rfl, rfl, trivial⟩ ⟨_, hI.arr .n ⟨.z, (.s .z), (.s (.s .z)), (.s (.s (.s .z))), (.s (.s (.s (.s .z)))), (.s (.s (.s (.s (.s .z))))), trivial⟩, h⟩ rfl
   refine sr (sac ?_)
   refine nk (c_block (c_loop (α := Nat × (List UInt8) × Int) (fun x => fun w => ∃ C, Bun noM F w0 C w [] [Cl.blk b1 62 #[vs a1 p1.Sizes.length c1, vs a2 p1.Where.length c2, vs a3 p1.Params.length c3, vs a4 p1.Defs.length c4, vs a5 p1.Outs.length c5], Cl.sl cStr a1 c1 p1.Sizes, Cl.sl cGConstraint a2 c2 p1.Where, Cl.sl cGParam a3 c3 p1.Params, Cl.sl cGDef a4 c4 p1.Defs, Cl.sl cStr a5 c5 p1.Outs] ∧ m_ref15_Prog_l2 p1 r2 (x.1) (x.2.1) (x.2.2) = some r) (fun x _ => x.1) (fun x => [(1, vp b1 0), (5, (str r2.1)), (7, (str (x.2.1))), (9, vi (x.2.2))]) (fu, s2, 0) ⟨_, hI.arr .n ⟨.z, (.s .z), (.s (.s .z)), (.s (.s (.s .z))), (.s (.s (.s (.s .z)))), (.s (.s (.s (.s (.s .z))))), trivial⟩, h⟩ ⟨rfl, rfl, rfl, rfl, trivial⟩ ?_))
   clear h hI; rintro ⟨fuel2, s11, i2⟩ w10 ⟨c18, hI, h⟩
   dsimp only at hI h
   rcases fuel2 with _ | fuel2
   ·rw [m_ref15_Prog_l2] at h; cases h
   rw [m_ref15_Prog_l2] at h
   refine c_sub (e := [(1, vp b1 0), (5, (str r2.1)), (7, (str s11)), (9, vi i2)]) ⟨rfl, rfl, rfl, rfl, trivial⟩ ?_
   refine c_seq (sr (sm ?_))
   refine sq (y_fieldAddr rfl et u62 rfl size_59 rfl) ?_
   refine sq (y_load1 (v := (vs a3 p1.Params.length c3)) rfl et u59 rfl (hI.kblk (l := [vs a3 p1.Params.length c3]) .z rfl).1) ?_
   refine sq (y_lenl rfl u59 et) ?_
   refine sq (y_lss rfl et et) ?_
   refine nk (cif h et (fun hb h => ?_) (fun hb h => ?_))
   ·refine c_skip (k_same (c_seq (c_block (sr (sq (y_fieldAddr rfl et u62 rfl size_59 rfl) ?_)))))
    refine sq (y_load1 (v := (vs a3 p1.Params.length c3)) rfl et u59 rfl (hI.kblk (l := [vs a3 p1.Params.length c3]) .z rfl).1) ?_
    refine sm ?_
    obtain ⟨e2, hx13, h⟩ := bnd_some h
    obtain ⟨ad2, cs2, hA2, hr2, hq2⟩ := hI.clat (.s (.s (.s .z))) hx13
    obtain ⟨a11, c19, rfl, hf6⟩ := hr2
    have hI := hI.add (c := Cl.sl cGLin a11 c19 e2.Dims) hf6
    refine sq (y_indexAddr rfl u59 size_96 et et (lat_bd hx13) hA2) ?_
    refine sq (y_loadN (l := [(str e2.Name), vi e2.Type_.Kind, vi e2.Type_.Bits, vi e2.Type_.Frac, vi e2.Type_.Round, vi e2.Type_.Over, vs a11 e2.Dims.length c19]) rfl et u96 rfl size_96 hq2.1) ?_
    refine l_alloc (cs := #[(str ([] : List UInt8)), vi 0, vi 0, vi 0, vi 0, vi 0, vs none 0 0]) hI gn rfl rfl zero_96 rfl ?_
    clear hI; intro b2 c20 w11 hI
    refine l_store (new := [(str e2.Name), vi e2.Type_.Kind, vi e2.Type_.Bits, vi e2.Type_.Frac, vi e2.Type_.Round, vi e2.Type_.Over, vs a11 e2.Dims.length c19]) (cs' := #[(str e2.Name), vi e2.Type_.Kind, vi e2.Type_.Bits, vi e2.Type_.Frac, vi e2.Type_.Round, vi e2.Type_.Over, vs a11 e2.Dims.length c19]) hI .z gn rfl rfl et et rfl size_96 rfl rfl rfl ?_
    clear hI; intro c21 w12 hI
    refine nk (c_seq (sr (sq (y_fieldAddr rfl et u96 rfl size_9 rfl) ?_)))
    refine sq (y_load1 (v := (str e2.Name)) rfl et u9 rfl (CellsAt.of_blk (hI.blk .z) rfl)) ?_
    obtain ⟨r4, hx14, h⟩ := bnd_some h
    refine s_call gn rfl (r_callF (vs := [(str e2.Name)]) rfl ok_43 ⟨et, trivial⟩) (Calls.mono (c_base_Name (Dj F c21) w12 hI.lt e2.Name trivial r4 hx14) ?_)
    rintro _ w13 ⟨rfl, hx15, hl4⟩
    refine ⟨_, rfl, ?_⟩
    replace hI := (hI.ext hx15)
    refine sq (y_not rfl et) ?_
    refine sm ?_
    refine s_gval (g_false rfl rfl rfl rfl) rfl (fun hc => y_fieldAddr rfl et u96 rfl size_23 rfl) ?_
    refine s_gval (g_false rfl rfl rfl rfl) rfl (fun hc => (y_loadN (l := (lType e2.Type_)) rfl (ev_gv et hc) u23 rfl size_23 (CellsAt.of_blk (hI.blk .z) rfl))) ?_
    obtain ⟨r5, hx16, h⟩ := bnd_some h
    replace hx16 := gd_some hx16
    refine s_gcallU (v := (vb r5)) (g_false rfl rfl rfl rfl) rfl (fun hc => (r_callF (vs := [(Value.agg (AType e2.Type_))]) rfl ok_31 ⟨(ev_gv et hc), trivial⟩)) (fun hc => (c_base_Type (Dj F c21) w13 hI.lt e2.Type_ trivial r5 (hx16 hc)).mono fun _ _ k => ⟨k.1, k.2.1⟩) ?_
    intro w14 hx17; replace hI := hI.ext hx17
    refine s_gval (g_false rfl rfl rfl rfl) rfl (fun hc => y_not rfl (ev_gv et hc)) ?_
    refine sq (y_or rfl et et) ?_
    refine sm ?_
    refine s_gval (g_false rfl rfl rfl rfl) rfl (fun hc => y_fieldAddr rfl et u96 rfl size_30 rfl) ?_
    refine s_gval (g_false rfl rfl rfl rfl) rfl (fun hc => (y_load1 (v := (vs a11 e2.Dims.length c19)) rfl (ev_gv et hc) u30 rfl (CellsAt.of_blk (hI.blk .z) rfl))) ?_
    obtain ⟨r6, hx18, h⟩ := bnd_some h
    replace hx18 := gd_some hx18
    refine s_gcallU (v := (vb r6)) (g_false rfl rfl rfl rfl) rfl (fun hc => (r_callF (vs := [vs a11 e2.Dims.length c19]) rfl ok_41 ⟨(ev_gv et hc), trivial⟩)) (fun hc => (c_ref15_valid (Dj F c21) w14 hI.lt e2.Dims a11 c19 ⟨(hI.get .z), trivial⟩ r6 (hx18 hc)).mono fun _ _ k => ⟨k.1, k.2.1⟩) ?_
    intro w15 hx19; replace hI := hI.ext hx19
    refine s_gval (g_false rfl rfl rfl rfl) rfl (fun hc => y_not rfl (ev_gv et hc)) ?_
    refine sq (y_or rfl et et) ?_
    refine s_nil ?_
    refine k_next (e := [(1, vp b1 0), (5, (str r2.1)), (7, (str s11)), (9, vi i2), (10, vp b2 0), (89, (vb (((!r4) || (!r5)) || (!r6))))]) ⟨rfl, rfl, rfl, rfl, rfl, rfl, trivial⟩ ?_
    refine cif h et (fun hb h => ?_) (fun hb h => ?_)
    ·refine sr (sac ?_)
     refine nk (c_ret ?_)
     obtain rfl := some_inj h
     exact q_ret (vs := [(str ([] : List UInt8))]) Tryz.results27 ⟨ev_tmp rfl rfl, trivial⟩ (fq hI trivial)
    refine c_skip (k_same (c_drawX [] false (.c (0, .q) (.c (1, .q) (.c (2, .q) (.c (3, .q) (.c (4, .q) (.c (5, .q) (.c (6, .q) (.c (7, .q) (.c (11, .q) (.c (12, .q) (.c (8, .s) (.c (9, .q) (.c (10, .q) (.c (13, .s) (.c (14, .q) (.c (15, .q) (.c (16, .q) .n))))))))))))))))) hI (by kernel_rfl) (by kernel_rfl) ?_))
    clear hI; intro w16 hI
    refine a_q rfl gn rfl (fun w' => y_move rfl et) ?_
    obtain ⟨s12, hx20, h⟩ := bnd_some h
    refine a_q rfl gn rfl (fun w' => y_catl rfl et ev_const hx20) ?_
    refine a_q rfl gn rfl (fun w' => y_fieldAddr rfl et u96 rfl size_9 rfl) ?_
    refine a_read rfl gn rfl (fun w' hw' => (y_load1 (v := (str e2.Name)) rfl et u9 rfl ((CA.blk (hI.blk .z) rfl).at_ (SX.any rfl hw')))) (by kernel_rfl) ?_
    obtain ⟨s13, hx21, h⟩ := bnd_some h
    refine a_q rfl gn rfl (fun w' => y_catl rfl et et hx21) ?_
    obtain ⟨s14, hx22, h⟩ := bnd_some h
    refine a_q rfl gn rfl (fun w' => y_catl rfl et ev_const hx22) ?_
    refine a_q rfl gn rfl (fun w' => y_fieldAddr rfl et u96 rfl size_23 rfl) ?_
    refine a_read rfl gn rfl (fun w' hw' => (y_loadN (l := (lType e2.Type_)) rfl et u23 rfl size_23 ((CA.blk (hI.blk .z) rfl).at_ (SX.any rfl hw')))) (by kernel_rfl) ?_
    refine a_q rfl gn rfl (fun w' => y_fieldAddr rfl et u96 rfl size_30 rfl) ?_
    refine a_read rfl gn rfl (fun w' hw' => (y_load1 (v := (vs a11 e2.Dims.length c19)) rfl et u30 rfl ((CA.blk (hI.blk .z) rfl).at_ (SX.any rfl hw')))) (by kernel_rfl) ?_
    obtain ⟨r7, hx23, h⟩ := bnd_some h
    refine la_call rfl gn rfl (r_callF (vs := [(Value.agg (AType e2.Type_))]) rfl ok_11 ⟨et, trivial⟩) (Calls.mono (c_ref15_Type (Dj F c21) w16 hI.lt e2.Type_ trivial r7 hx23) ?_)
    rintro _ w17 ⟨rfl, hx24, hl7⟩
    refine ⟨_, rfl, hx24, ?_⟩
    replace hI := (hI.ext hx24)
    obtain ⟨s15, hx25, h⟩ := bnd_some h
    refine a_q rfl gn rfl (fun w' => y_catl rfl et et hx25) ?_
    obtain ⟨s16, hx26, h⟩ := bnd_some h
    refine a_q rfl gn rfl (fun w' => y_catl rfl et ev_const hx26) ?_
    obtain ⟨r8, hx27, h⟩ := bnd_some h
    refine la_call rfl gn rfl (r_callF (vs := [vs a11 e2.Dims.length c19]) rfl ok_44 ⟨et, trivial⟩) (Calls.mono (c_ref15_forms (Dj F c21) w17 hI.lt e2.Dims a11 c19 ⟨(hI.get .z), trivial⟩ r8 hx27) ?_)
    rintro _ w18 ⟨rfl, hx28, hl8⟩
    refine ⟨_, rfl, hx28, ?_⟩
    replace hI := (hI.ext hx28)
    obtain ⟨s17, hx29, h⟩ := bnd_some h
    refine a_q rfl gn rfl (fun w' => y_catl rfl et et hx29) ?_
    obtain ⟨s18, hx30, h⟩ := bnd_some h
    refine a_q rfl gn rfl (fun w' => y_catl rfl et ev_const hx30) ?_
    refine a_q rfl gn rfl (fun w' => y_assign rfl et) ?_
    refine a_nil ?_
    refine k_same (c_region rfl ?_)
    refine sm ?_
    refine sq (y_add rfl et ev_const) ?_
    refine sa ?_
    refine s_nil ?_
    exact k_loop (fuel2, s18, wi64 (i2 + 1)) ⟨rfl, rfl, rfl, rfl, trivial⟩ ⟨_, hI.arr .n ⟨(.s .z), (.s (.s .z)), (.s (.s (.s .z))), (.s (.s (.s (.s .z)))), (.s (.s (.s (.s (.s .z))))), (.s (.s (.s (.s (.s (.s .z)))))), trivial⟩, h⟩ (Nat.lt_succ_self _)
   refine c_exit ?_
   refine k_in ?_
   exact k_join s11 ⟨rfl, rfl, rfl, trivial⟩ ⟨_, hI.arr .n ⟨.z, (.s .z), (.s (.s .z)), (.s (.s (.s .z))), (.s (.s (.s (.s .z)))), (.s (.s (.s (.s (.s .z))))), trivial⟩, h⟩ rfl
  refine sr (sac ?_)
  refine nk (c_block (c_loop (α := Nat × (List UInt8) × Int) (fun x => fun w => ∃ C, Bun noM F w0 C w [] [Cl.blk b1 62 #[vs a1 p1.Sizes.length c1, vs a2 p1.Where.length c2, vs a3 p1.Params.length c3, vs a4 p1.Defs.length c4, vs a5 p1.Outs.length c5], Cl.sl cStr a1 c1 p1.Sizes, Cl.sl cGConstraint a2 c2 p1.Where, Cl.sl cGParam a3 c3 p1.Params, Cl.sl cGDef a4 c4 p1.Defs, Cl.sl cStr a5 c5 p1.Outs] ∧ m_ref15_Prog_l3 p1 r2 (x.1) (x.2.1) (x.2.2) = some r) (fun x _ => x.1) (fun x => [(1, vp b1 0), (5, (str r2.1)), (7, (str (x.2.1))), (8, vi (x.2.2))]) (fu, s1, 0) ⟨_, hI.arr .n ⟨.z, (.s .z), (.s (.s .z)), (.s (.s (.s .z))), (.s (.s (.s (.s .z)))), (.s (.s (.s (.s (.s .z))))), trivial⟩, h⟩ ⟨rfl, rfl, rfl, rfl, trivial⟩ ?_))
  clear h hI; rintro ⟨fuel3, s19, i3⟩ w19 ⟨c22, hI, h⟩
  dsimp only at hI h
  rcases fuel3 with _ | fuel3
  ·rw [m_ref15_Prog_l3] at h; cases h
  rw [m_ref15_Prog_l3] at h
  refine c_sub (e := [(1, vp b1 0), (5, (str r2.1)), (7, (str s19)), (8, vi i3)]) ⟨rfl, rfl, rfl, rfl, trivial⟩ ?_
  refine c_seq (sr (sm ?_))
  refine sq (y_fieldAddr rfl et u62 rfl size_58 rfl) ?_
  refine sq (y_load1 (v := (vs a2 p1.Where.length c2)) rfl et u58 rfl (hI.kblk (l := [vs a2 p1.Where.length c2]) .z rfl).1) ?_
  refine sq (y_lenl rfl u58 et) ?_
  refine sq (y_lss rfl et et) ?_
  refine nk (cif h et (fun hb h => ?_) (fun hb h => ?_))
  ·refine c_skip (k_same (c_seq (c_block (c_seq (sr (sq (y_fieldAddr rfl et u62 rfl size_58 rfl) ?_))))))
   refine sq (y_load1 (v := (vs a2 p1.Where.length c2)) rfl et u58 rfl (hI.kblk (l := [vs a2 p1.Where.length c2]) .z rfl).1) ?_
   refine sm ?_
   obtain ⟨e3, hx31, h⟩ := bnd_some h
   obtain ⟨ad3, cs3, hA3, hr3, hq3⟩ := hI.clat (.s (.s .z)) hx31
   obtain ⟨a12, c23, rfl, hf7⟩ := hr3
   have hI := hI.add (c := Cl.sl cGMono a12 c23 e3.Lin.L) hf7
   refine sq (y_indexAddr rfl u58 size_100 et et (lat_bd hx31) hA3) ?_
   refine sq (y_loadN (l := (lConstraint e3 a12 c23)) rfl et u100 rfl size_100 hq3.1) ?_
   obtain ⟨r9, hx32, h⟩ := bnd_some h
   refine s_call gn rfl (r_callF (vs := [(Value.agg (AConstraint e3 a12 c23))]) rfl ok_69 ⟨et, trivial⟩) (Calls.mono (c_ref06_Validate (Dj F c22) w19 hI.lt e3 a12 c23 ⟨(hI.get .z), trivial⟩ r9 hx32) ?_)
   rintro _ w20 ⟨rfl, hx33, hl9⟩
   refine ⟨_, rfl, ?_⟩
   replace hI := (hI.ext hx33)
   refine sq (y_neq rfl et ev_const) ?_
   refine nk (cif h et (fun hb h => ?_) (fun hb h => ?_))
   ·refine sr (sac ?_)
    refine nk (c_ret ?_)
    obtain rfl := some_inj h
    exact q_ret (vs := [(str ([] : List UInt8))]) Tryz.results27 ⟨ev_tmp rfl rfl, trivial⟩ (fq hI trivial)
   refine c_skip (k_same (c_region rfl ?_))
   refine sm ?_
   obtain ⟨s20, hx34, h⟩ := bnd_some h
   refine sq (y_catl rfl et ev_const hx34) ?_
   refine sq (y_fieldAddr rfl et u62 rfl size_58 rfl) ?_
   refine sq (y_load1 (v := (vs a2 p1.Where.length c2)) rfl et u58 rfl (hI.kblk (l := [vs a2 p1.Where.length c2]) (.s .z) rfl).1) ?_
   refine sm ?_
   obtain ⟨e4, hx35, h⟩ := bnd_some h
   obtain ⟨ad4, cs4, hA4, hr4, hq4⟩ := hI.clat (.s (.s (.s .z))) hx35
   obtain ⟨a13, c24, rfl, hf8⟩ := hr4
   have hI := hI.add (c := Cl.sl cGMono a13 c24 e4.Lin.L) hf8
   refine sq (y_indexAddr rfl u58 size_100 et et (lat_bd hx35) hA4) ?_
   refine sq (y_loadN (l := (lConstraint e4 a13 c24)) rfl et u100 rfl size_100 hq4.1) ?_
   obtain ⟨r10, hx36, h⟩ := bnd_some h
   refine s_call gn rfl (r_callF (vs := [(Value.agg (AConstraint e4 a13 c24))]) rfl ok_70 ⟨et, trivial⟩) (Calls.mono (c_ref06_Format (Dj F c22) w20 hI.lt e4 a13 c24 ⟨(hI.get .z), trivial⟩ r10 hx36) ?_)
   rintro _ w21 ⟨rfl, hx37, hl10⟩
   refine ⟨_, rfl, ?_⟩
   replace hI := (hI.ext hx37)
   obtain ⟨s21, hx38, h⟩ := bnd_some h
   refine sq (y_catl rfl et et hx38) ?_
   obtain ⟨s22, hx39, h⟩ := bnd_some h
   refine sq (y_catl rfl et ev_const hx39) ?_
   refine sa ?_
   refine nk (c_region rfl ?_)
   refine sm ?_
   refine sq (y_add rfl et ev_const) ?_
   refine sa ?_
   refine s_nil ?_
   exact k_loop (fuel3, s22, wi64 (i3 + 1)) ⟨rfl, rfl, rfl, rfl, trivial⟩ ⟨_, hI.arr .n ⟨(.s (.s .z)), (.s (.s (.s .z))), (.s (.s (.s (.s .z)))), (.s (.s (.s (.s (.s .z))))), (.s (.s (.s (.s (.s (.s .z)))))), (.s (.s (.s (.s (.s (.s (.s .z))))))), trivial⟩, h⟩ (Nat.lt_succ_self _)
  refine c_exit ?_
  refine k_in ?_
  exact k_join s19 ⟨rfl, rfl, rfl, trivial⟩ ⟨_, hI.arr .n ⟨.z, (.s .z), (.s (.s .z)), (.s (.s (.s .z))), (.s (.s (.s (.s .z)))), (.s (.s (.s (.s (.s .z))))), trivial⟩, h⟩ rfl
 refine sr (sq (y_fieldAddr rfl et u62 rfl size_55 rfl) ?_)
 refine sq (y_load1 (v := (vs a1 p1.Sizes.length c1)) rfl et u55 rfl (hI.kblk (l := [vs a1 p1.Sizes.length c1]) .z rfl).1) ?_
 refine sq (y_lenl rfl u55 et) ?_
 refine sq (y_gtr rfl et ev_const) ?_
 refine s_nil ?_
 refine k_next (e := [(1, vp b1 0), (3, (str r1.1)), (5, (str r2.1)), (7, (str ([] : List UInt8))), (34, (vb (decide (0 < (p1.Sizes.length : Int)))))]) ⟨rfl, rfl, rfl, rfl, rfl, trivial⟩ ?_
 refine cif h et (fun hb h => ?_) (fun hb h => ?_)
 ·refine c_region rfl ?_
  refine sm ?_
  obtain ⟨s23, hx40, h⟩ := bnd_some h
  refine sq (y_catl rfl ev_const et hx40) ?_
  obtain ⟨s24, hx41, h⟩ := bnd_some h
  refine sq (y_catl rfl et ev_const hx41) ?_
  refine sa ?_
  refine s_nil ?_
  exact k_join s24 ⟨rfl, rfl, rfl, trivial⟩ ⟨_, hI.arr .n ⟨.z, (.s .z), (.s (.s .z)), (.s (.s (.s .z))), (.s (.s (.s (.s .z)))), (.s (.s (.s (.s (.s .z))))), trivial⟩, h⟩ rfl
 exact c_skip (k_join ([] : List UInt8) ⟨rfl, rfl, rfl, trivial⟩ ⟨_, hI.arr .n ⟨.z, (.s .z), (.s (.s .z)), (.s (.s (.s .z))), (.s (.s (.s (.s .z)))), (.s (.s (.s (.s (.s .z))))), trivial⟩, h⟩ rfl)
theorem c_law15_PrinterProgs (F : NP) (w0 : World) (hF : ∀ k, F k → k < w0.heap.size) (p1 : GProg) (a1 : Option Addr) (c1 : Nat) (a2 : Option Addr) (c2 : Nat) (a3 : Option Addr) (c3 : Nat) (a4 : Option Addr) (c4 : Nat) (a5 : Option Addr) (c5 : Nat) (hc : AllCl [Cl.sl cStr a1 c1 p1.Sizes, Cl.sl cGConstraint a2 c2 p1.Where, Cl.sl cGParam a3 c3 p1.Params, Cl.sl cGDef a4 c4 p1.Defs, Cl.sl cStr a5 c5 p1.Outs, clPow10, clSpace] F w0) (r : Bool)
  (h : m_law15_PrinterProgs p1 = some r) :
  Calls Tryz.prog 9 #[(Value.agg #[vs a1 p1.Sizes.length c1, vs a2 p1.Where.length c2, vs a3 p1.Params.length c3, vs a4 p1.Defs.length c4, vs a5 p1.Outs.length c5])] w0 fun e w => e = .returned (vb r) ∧ Ext w0 w ∧ AllCl [] F w := by
 refine enterK Tryz.func9 rfl Tryz.ntmps9 rfl ?_
 have hI := Bun.start hF hc
 clear hc
 rw [m_law15_PrinterProgs] at h
 refine sr (l_box (v := (Value.agg #[vs a1 p1.Sizes.length c1, vs a2 p1.Where.length c2, vs a3 p1.Params.length c3, vs a4 p1.Defs.length c4, vs a5 p1.Outs.length c5])) (cs := #[vs a1 p1.Sizes.length c1, vs a2 p1.Where.length c2, vs a3 p1.Params.length c3, vs a4 p1.Defs.length c4, vs a5 p1.Outs.length c5]) hI gn rfl rfl et rfl ?_)
 clear hI; intro b1 c6 w1 hI
 obtain ⟨c7, hI⟩ := hI.relBox .z
 refine sac ?_
 refine nk (c_seq (sr (sq (y_loadN (l := [vs a1 p1.Sizes.length c1, vs a2 p1.Where.length c2, vs a3 p1.Params.length c3, vs a4 p1.Defs.length c4, vs a5 p1.Outs.length c5]) rfl et u62 rfl size_62 (hI.kblk (l := [vs a1 p1.Sizes.length c1, vs a2 p1.Where.length c2, vs a3 p1.Params.length c3, vs a4 p1.Defs.length c4, vs a5 p1.Outs.length c5]) .z rfl).1) ?_)))
 obtain ⟨r1, hx1, h⟩ := bnd_some h
 refine s_call gn rfl (r_callF (vs := [(Value.agg #[vs a1 p1.Sizes.length c1, vs a2 p1.Where.length c2, vs a3 p1.Params.length c3, vs a4 p1.Defs.length c4, vs a5 p1.Outs.length c5])]) rfl ok_25 ⟨et, trivial⟩) (Calls.mono (c_ref15_SmallProg (Dj F c7) w1 hI.lt p1 a1 c1 a2 c2 a3 c3 a4 c4 a5 c5 ⟨(hI.get (.s .z)), (hI.get (.s (.s .z))), (hI.get (.s (.s (.s .z)))), (hI.get (.s (.s (.s (.s .z))))), (hI.get (.s (.s (.s (.s (.s .z)))))), trivial⟩ r1 hx1) ?_)
 rintro _ w2 ⟨rfl, hx2, hl1⟩
 refine ⟨_, rfl, ?_⟩
 replace hI := (hI.ext hx2)
 refine sq (y_not rfl et) ?_
 refine nk (cif h et (fun hb h => ?_) (fun hb h => ?_))
 ·refine sr ?_
  obtain ⟨r2, hx3, h⟩ := bnd_some h
  refine s_call gn rfl (r_callF (vs := []) rfl ok_12 trivial) (Calls.mono (c_law15_alive (Dj F c7) w2 hI.lt ⟨(hI.get (.s (.s (.s (.s (.s (.s .z))))))), (hI.get (.s (.s (.s (.s (.s (.s (.s .z)))))))), trivial⟩ r2 hx3) ?_)
  rintro _ w3 ⟨rfl, hx4, hl2⟩
  refine ⟨_, rfl, ?_⟩
  replace hI := (hI.ext hx4)
  refine sa ?_
  refine nk (c_ret ?_)
  obtain rfl := some_inj h
  exact q_ret (vs := [vb r2]) Tryz.results9 ⟨ev_tmp rfl rfl, trivial⟩ (fq hI trivial)
 refine c_skip (k_same (c_seq (c_drawX [] false (.c (0, .q) (.c (2, .q) (.c (1, .s) (.c (3, .s) (.c (4, .q) (.c (5, .q) (.c (6, .s) (.c (7, .q) (.c (8, .q) .n))))))))) hI (by kernel_rfl) (by kernel_rfl) ?_)))
 clear hI; intro w4 hI
 refine a_read rfl gn rfl (fun w' hw' => (y_loadN (l := [vs a1 p1.Sizes.length c1, vs a2 p1.Where.length c2, vs a3 p1.Params.length c3, vs a4 p1.Defs.length c4, vs a5 p1.Outs.length c5]) rfl et u62 rfl size_62 ((hI.kblk (l := [vs a1 p1.Sizes.length c1, vs a2 p1.Where.length c2, vs a3 p1.Params.length c3, vs a4 p1.Defs.length c4, vs a5 p1.Outs.length c5]) .z rfl).at_ (SX.any rfl hw')))) (by kernel_rfl) ?_
 refine a_read rfl gn rfl (fun w' hw' => (y_loadN (l := [vs a1 p1.Sizes.length c1, vs a2 p1.Where.length c2, vs a3 p1.Params.length c3, vs a4 p1.Defs.length c4, vs a5 p1.Outs.length c5]) rfl et u62 rfl size_62 ((hI.kblk (l := [vs a1 p1.Sizes.length c1, vs a2 p1.Where.length c2, vs a3 p1.Params.length c3, vs a4 p1.Defs.length c4, vs a5 p1.Outs.length c5]) .z rfl).at_ (SX.any rfl hw')))) (by kernel_rfl) ?_
 obtain ⟨r3, hx5, h⟩ := bnd_some h
 refine la_call rfl gn rfl (r_callF (vs := [(Value.agg #[vs a1 p1.Sizes.length c1, vs a2 p1.Where.length c2, vs a3 p1.Params.length c3, vs a4 p1.Defs.length c4, vs a5 p1.Outs.length c5])]) rfl ok_26 ⟨et, trivial⟩) (Calls.mono (c_printer_Prog (Dj F c7) w4 hI.lt p1 a1 c1 a2 c2 a3 c3 a4 c4 a5 c5 ⟨(hI.get (.s .z)), (hI.get (.s (.s .z))), (hI.get (.s (.s (.s .z)))), (hI.get (.s (.s (.s (.s .z))))), (hI.get (.s (.s (.s (.s (.s .z)))))), (hI.get (.s (.s (.s (.s (.s (.s (.s .z)))))))), (hI.get (.s (.s (.s (.s (.s (.s .z))))))), trivial⟩ r3 hx5) ?_)
 rintro _ w5 ⟨rfl, hx6, hl3⟩
 refine ⟨_, rfl, hx6, ?_⟩
 replace hI := (hI.ext hx6)
 obtain ⟨r4, hx7, h⟩ := bnd_some h
 refine la_call rfl gn rfl (r_callF (vs := [(Value.agg #[vs a1 p1.Sizes.length c1, vs a2 p1.Where.length c2, vs a3 p1.Params.length c3, vs a4 p1.Defs.length c4, vs a5 p1.Outs.length c5])]) rfl ok_27 ⟨et, trivial⟩) (Calls.mono (c_ref15_Prog (Dj F c7) w5 hI.lt p1 a1 c1 a2 c2 a3 c3 a4 c4 a5 c5 ⟨(hI.get (.s .z)), (hI.get (.s (.s .z))), (hI.get (.s (.s (.s .z)))), (hI.get (.s (.s (.s (.s .z))))), (hI.get (.s (.s (.s (.s (.s .z)))))), trivial⟩ r4 hx7) ?_)
 rintro _ w6 ⟨rfl, hx8, hl4⟩
 refine ⟨_, rfl, hx8, ?_⟩
 replace hI := (hI.ext hx8)
 refine a_q rfl gn rfl (fun w' => y_eqs rfl et et) ?_
 refine a_q rfl gn rfl (fun w' => y_move rfl et) ?_
 obtain ⟨r5, hx9, h⟩ := bnd_some h
 replace hx9 := gd_some hx9
 refine la_gcallU (v := (vb r5)) rfl (g_true rfl rfl rfl rfl) rfl (fun hc => (r_callF (vs := []) rfl ok_12 trivial)) (fun hc => (c_law15_alive (Dj F c7) w6 hI.lt ⟨(hI.get (.s (.s (.s (.s (.s (.s .z))))))), (hI.get (.s (.s (.s (.s (.s (.s (.s .z)))))))), trivial⟩ r5 (hx9 hc)).mono fun _ _ k => ⟨k.1, k.2.1⟩) ?_
 intro w7 hx10; replace hI := hI.ext hx10
 refine a_q rfl gn rfl (fun w' => y_and rfl et et) ?_
 refine a_q rfl gn rfl (fun w' => y_assign rfl et) ?_
 refine a_nil ?_
 refine k_same (c_ret ?_)
 obtain rfl := some_inj h
 exact q_ret (vs := [(vb ((decide (r3 = r4)) && r5))]) Tryz.results9 ⟨ev_tmp rfl rfl, trivial⟩ (fq hI trivial)
end Go.Proofs.YtebpdmfmknfkjaaGreatDoor
