import Derived.Test.YtpedfojbfbccaaaGreatSCQ7a
namespace Go.Proofs.YtpedfojbfbccaaaGreat
open Go Go.RowKit Go.Vc
set_option maxRecDepth 100000
set_option maxHeartbeats 4000000
set_option linter.unusedVariables false
set_option linter.unusedSimpArgs false
theorem c_value_Zero (F : NP) (w0 : World) (hF : ∀ k, F k → k < w0.heap.size) (t1 : GType) (hc : AllCl [] F w0) (r : GVal)
  (h : m_value_Zero t1 = some r) :
  Calls Tryz.prog 113 #[(Value.agg (AType t1))] w0 fun e w => e = .returned (Value.agg (AVal r)) ∧ Ext w0 w ∧ AllCl [] F w := by
 refine enterK Tryz.func113 rfl Tryz.ntmps113 rfl ?_
 have hI := Bun.start hF hc
 clear hc
 rw [m_value_Zero] at h
 refine sr (l_box (v := (Value.agg (AType t1))) (cs := (AType t1)) hI gn rfl rfl et rfl ?_)
 clear hI; intro b1 c1 w1 hI
 obtain ⟨c2, hI⟩ := hI.relBox .z
 refine l_alloc (cs := #[vi 0, vi 0]) hI gn rfl rfl zero_68 rfl ?_
 clear hI; intro b2 c3 w2 hI
 refine nk (c_seq (sr (sq (y_loadN (l := (lType t1)) rfl et u38 rfl size_38 (hI.kblk (l := (lType t1)) .z rfl).1) ?_)))
 obtain ⟨r1, hx1, h⟩ := bnd_some h
 refine s_call gn rfl (r_callF (vs := [(Value.agg (AType t1))]) rfl ok_88 ⟨et, trivial⟩) (Calls.mono (c_value_ValidateType (Dj F c3) w2 hI.lt t1 trivial r1 hx1) ?_)
 rintro _ w3 ⟨rfl, hx2, hl1⟩
 refine ⟨_, rfl, ?_⟩
 replace hI := (hI.ext hx2)
 refine sq (y_neq rfl et ev_const) ?_
 refine nk (cif h et (fun hb h => ?_) (fun hb h => ?_))
 ·refine sr (sq (y_build (vs := []) (cs := #[vi 0, vi 0]) rfl trivial (by kernel_rfl)) ?_)
  refine l_store (new := [vi 0, vi 0]) (cs' := #[vi 0, vi 0]) hI .z gn rfl rfl et et rfl size_68 rfl rfl rfl ?_
  clear hI; intro c4 w4 hI
  refine nk (c_ret ?_)
  obtain rfl := some_inj h
  exact q_ret (vs := [(Value.agg #[vi 0, vi 0])]) Tryz.results113 ⟨⟨_, ev_tmp rfl rfl, load_agg (l := [vi 0, vi 0]) u68 rfl size_68 (CellsAt.of_blk (hI.blk .z) rfl)⟩, trivial⟩ (fq hI trivial)
 refine c_skip (k_same (sr (sq (y_build (vs := [(0, vi 0), (1, vi 1)]) (cs := #[vi 0, vi 1]) rfl ⟨rfl, ev_const, ⟨rfl, ev_const, trivial⟩⟩ (by kernel_rfl)) ?_)))
 refine l_store (new := [vi 0, vi 1]) (cs' := #[vi 0, vi 1]) hI .z gn rfl rfl et et rfl size_68 rfl rfl rfl ?_
 clear hI; intro c5 w5 hI
 refine nk (c_ret ?_)
 obtain rfl := some_inj h
 exact q_ret (vs := [(Value.agg #[vi 0, vi 1])]) Tryz.results113 ⟨⟨_, ev_tmp rfl rfl, load_agg (l := [vi 0, vi 1]) u68 rfl size_68 (CellsAt.of_blk (hI.blk .z) rfl)⟩, trivial⟩ (fq hI trivial)
theorem c_value_One (F : NP) (w0 : World) (hF : ∀ k, F k → k < w0.heap.size) (t1 : GType) (hc : AllCl [] F w0) (r : GVal × Int)
  (h : m_value_One t1 = some r) :
  Calls Tryz.prog 114 #[(Value.agg (AType t1))] w0 fun e w => e = .returned (Value.tuple #[(Value.agg (AVal r.1)), vi r.2]) ∧ Ext w0 w ∧ AllCl [] F w := by
 refine enterK Tryz.func114 rfl Tryz.ntmps114 rfl ?_
 have hI := Bun.start hF hc
 clear hc
 rw [m_value_One] at h
 refine sr (l_box (v := (Value.agg (AType t1))) (cs := (AType t1)) hI gn rfl rfl et rfl ?_)
 clear hI; intro b1 c1 w1 hI
 obtain ⟨c2, hI⟩ := hI.relBox .z
 refine l_alloc (cs := #[vi 0, vi 0]) hI gn rfl rfl zero_68 rfl ?_
 clear hI; intro b2 c3 w2 hI
 refine sac ?_
 refine nk (c_seq (c_block (sr (sq (y_loadN (l := (lType t1)) rfl et u38 rfl size_38 (hI.kblk (l := (lType t1)) .z rfl).1) ?_))))
 obtain ⟨r1, hx1, h⟩ := bnd_some h
 refine s_call gn rfl (r_callF (vs := [(Value.agg (AType t1))]) rfl ok_88 ⟨et, trivial⟩) (Calls.mono (c_value_ValidateType (Dj F c3) w2 hI.lt t1 trivial r1 hx1) ?_)
 rintro _ w3 ⟨rfl, hx2, hl1⟩
 refine ⟨_, rfl, ?_⟩
 replace hI := (hI.ext hx2)
 refine sq (y_neq rfl et ev_const) ?_
 refine sa ?_
 refine nk (cif h et (fun hb h => ?_) (fun hb h => ?_))
 ·refine sr (sq (y_build (vs := []) (cs := #[vi 0, vi 0]) rfl trivial (by kernel_rfl)) ?_)
  refine l_store (new := [vi 0, vi 0]) (cs' := #[vi 0, vi 0]) hI .z gn rfl rfl et et rfl size_68 rfl rfl rfl ?_
  clear hI; intro c4 w4 hI
  refine sac ?_
  refine nk (c_ret ?_)
  obtain rfl := some_inj h
  exact q_ret (vs := [(Value.agg #[vi 0, vi 0]), vi 10]) Tryz.results114 ⟨⟨_, ev_tmp rfl rfl, load_agg (l := [vi 0, vi 0]) u68 rfl size_68 (CellsAt.of_blk (hI.blk .z) rfl)⟩, ⟨ev_tmp rfl rfl, trivial⟩⟩ (fq hI trivial)
 refine sr (sq (y_fieldAddr rfl et u38 rfl size_3 rfl) ?_)
 refine sq (y_load1 (v := (vi t1.Kind)) rfl et u3 rfl (hI.kblk (l := [vi t1.Kind]) .z rfl).1) ?_
 refine sq (y_neq rfl et ev_const) ?_
 refine sa ?_
 refine nk (cif h et (fun hb h => ?_) (fun hb h => ?_))
 ·refine sr (sq (y_build (vs := [(0, vi 1), (1, vi 1)]) (cs := #[vi 1, vi 1]) rfl ⟨rfl, ev_const, ⟨rfl, ev_const, trivial⟩⟩ (by kernel_rfl)) ?_)
  refine l_store (new := [vi 1, vi 1]) (cs' := #[vi 1, vi 1]) hI .z gn rfl rfl et et rfl size_68 rfl rfl rfl ?_
  clear hI; intro c5 w5 hI
  refine sac ?_
  refine nk (c_ret ?_)
  obtain rfl := some_inj h
  exact q_ret (vs := [(Value.agg #[vi 1, vi 1]), vi 0]) Tryz.results114 ⟨⟨_, ev_tmp rfl rfl, load_agg (l := [vi 1, vi 1]) u68 rfl size_68 (CellsAt.of_blk (hI.blk .z) rfl)⟩, ⟨ev_tmp rfl rfl, trivial⟩⟩ (fq hI trivial)
 refine c_skip (k_same (sr (sq (y_fieldAddr rfl et u38 rfl size_3 rfl) ?_)))
 refine sq (y_load1 (v := (vi t1.Frac)) rfl et u3 rfl (hI.kblk (l := [vi t1.Frac]) .z rfl).1) ?_
 obtain ⟨ho1, h⟩ := chk_some h
 refine sq (y_shl rfl ev_const et ho1) ?_
 refine sq (y_build (vs := [(0, (vi (wi64 (1 * 2 ^ (min (Int.toNat t1.Frac) 64))))), (1, vi 1)]) (cs := #[(vi (wi64 (1 * 2 ^ (min (Int.toNat t1.Frac) 64)))), vi 1]) rfl ⟨rfl, et, ⟨rfl, ev_const, trivial⟩⟩ (by kernel_rfl)) ?_
 refine l_alloc (cs := #[vi 0, vi 0]) hI gn rfl rfl zero_68 rfl ?_
 clear hI; intro b3 c6 w6 hI
 refine l_store (new := [(vi (wi64 (1 * 2 ^ (min (Int.toNat t1.Frac) 64)))), vi 1]) (cs' := #[(vi (wi64 (1 * 2 ^ (min (Int.toNat t1.Frac) 64)))), vi 1]) hI .z gn rfl rfl et et rfl size_68 rfl rfl rfl ?_
 clear hI; intro c7 w7 hI
 refine nk (c_seq (sr (sq (y_loadN (l := (lType t1)) rfl et u38 rfl size_38 (hI.kblk (l := (lType t1)) .z rfl).1) ?_)))
 refine sq (y_loadN (l := [(vi (wi64 (1 * 2 ^ (min (Int.toNat t1.Frac) 64)))), vi 1]) rfl et u68 rfl size_68 (CellsAt.of_blk (hI.blk .z) rfl)) ?_
 obtain ⟨r2, hx3, h⟩ := bnd_some h
 refine s_call gn rfl (r_callF (vs := [(Value.agg (AType t1)), (Value.agg #[(vi (wi64 (1 * 2 ^ (min (Int.toNat t1.Frac) 64)))), vi 1])]) rfl ok_110 ⟨et, ⟨et, trivial⟩⟩) (Calls.mono (c_fixed_Valid (Dj F c7) w7 hI.lt t1 (⟨wi64 (1 * 2 ^ (min (Int.toNat t1.Frac) 64)), 1⟩ : GVal) trivial r2 hx3) ?_)
 rintro _ w8 ⟨rfl, hx4, hl2⟩
 refine ⟨_, rfl, ?_⟩
 replace hI := (hI.ext hx4)
 refine sq (y_not rfl et) ?_
 refine nk (cif h et (fun hb h => ?_) (fun hb h => ?_))
 ·refine sr (sq (y_build (vs := []) (cs := #[vi 0, vi 0]) rfl trivial (by kernel_rfl)) ?_)
  refine l_store (new := [vi 0, vi 0]) (cs' := #[vi 0, vi 0]) hI (.s .z) gn rfl rfl et et rfl size_68 rfl rfl rfl ?_
  clear hI; intro c8 w9 hI
  refine sac ?_
  refine nk (c_ret ?_)
  obtain rfl := some_inj h
  exact q_ret (vs := [(Value.agg #[vi 0, vi 0]), vi 3]) Tryz.results114 ⟨⟨_, ev_tmp rfl rfl, load_agg (l := [vi 0, vi 0]) u68 rfl size_68 (CellsAt.of_blk (hI.blk (.s .z)) rfl)⟩, ⟨ev_tmp rfl rfl, trivial⟩⟩ (fq hI trivial)
 refine c_skip (k_same (sr (sq (y_loadN (l := [(vi (wi64 (1 * 2 ^ (min (Int.toNat t1.Frac) 64)))), vi 1]) rfl et u68 rfl size_68 (CellsAt.of_blk (hI.blk .z) rfl)) ?_)))
 refine l_store (new := [(vi (wi64 (1 * 2 ^ (min (Int.toNat t1.Frac) 64)))), vi 1]) (cs' := #[(vi (wi64 (1 * 2 ^ (min (Int.toNat t1.Frac) 64)))), vi 1]) hI (.s .z) gn rfl rfl et et rfl size_68 rfl rfl rfl ?_
 clear hI; intro c9 w10 hI
 refine sac ?_
 refine nk (c_ret ?_)
 obtain rfl := some_inj h
 exact q_ret (vs := [(Value.agg #[(vi (wi64 (1 * 2 ^ (min (Int.toNat t1.Frac) 64)))), vi 1]), vi 0]) Tryz.results114 ⟨⟨_, ev_tmp rfl rfl, load_agg (l := [(vi (wi64 (1 * 2 ^ (min (Int.toNat t1.Frac) 64)))), vi 1]) u68 rfl size_68 (CellsAt.of_blk (hI.blk (.s .z)) rfl)⟩, ⟨ev_tmp rfl rfl, trivial⟩⟩ (fq hI trivial)
theorem c_value_Identity (F : NP) (w0 : World) (hF : ∀ k, F k → k < w0.heap.size) (fold1 : Int) (t1 : GType) (hc : AllCl [] F w0) (r : GVal × Bool)
  (h : m_value_Identity fold1 t1 = some r) :
  Calls Tryz.prog 94 #[vi fold1, (Value.agg (AType t1))] w0 fun e w => e = .returned (Value.tuple #[(Value.agg (AVal r.1)), vb r.2]) ∧ Ext w0 w ∧ AllCl [] F w := by
 refine enterK Tryz.func94 rfl Tryz.ntmps94 rfl ?_
 have hI := Bun.start hF hc
 clear hc
 rw [m_value_Identity] at h
 refine sr (l_box (v := (Value.agg (AType t1))) (cs := (AType t1)) hI gn rfl rfl et rfl ?_)
 clear hI; intro b1 c1 w1 hI
 obtain ⟨c2, hI⟩ := hI.relBox .z
 refine l_alloc (cs := #[vi 0, vi 0]) hI gn rfl rfl zero_68 rfl ?_
 clear hI; intro b2 c3 w2 hI
 refine sac ?_
 refine nk (c_seq (sr (sq (y_loadN (l := (lType t1)) rfl et u38 rfl size_38 (hI.kblk (l := (lType t1)) .z rfl).1) ?_)))
 obtain ⟨r1, hx1, h⟩ := bnd_some h
 refine s_call gn rfl (r_callF (vs := [(Value.agg (AType t1))]) rfl ok_88 ⟨et, trivial⟩) (Calls.mono (c_value_ValidateType (Dj F c3) w2 hI.lt t1 trivial r1 hx1) ?_)
 rintro _ w3 ⟨rfl, hx2, hl1⟩
 refine ⟨_, rfl, ?_⟩
 replace hI := (hI.ext hx2)
 refine sq (y_neq rfl et ev_const) ?_
 refine nk (cif h et (fun hb h => ?_) (fun hb h => ?_))
 ·refine sr (sq (y_build (vs := []) (cs := #[vi 0, vi 0]) rfl trivial (by kernel_rfl)) ?_)
  refine l_store (new := [vi 0, vi 0]) (cs' := #[vi 0, vi 0]) hI .z gn rfl rfl et et rfl size_68 rfl rfl rfl ?_
  clear hI; intro c4 w4 hI
  refine sac ?_
  refine nk (c_ret ?_)
  obtain rfl := some_inj h
  exact q_ret (vs := [(Value.agg #[vi 0, vi 0]), vb false]) Tryz.results94 ⟨⟨_, ev_tmp rfl rfl, load_agg (l := [vi 0, vi 0]) u68 rfl size_68 (CellsAt.of_blk (hI.blk .z) rfl)⟩, ⟨ev_tmp rfl rfl, trivial⟩⟩ (fq hI trivial)
 refine c_skip (k_same (c_seq (sr (sm ?_))))
 refine nk (c_block (c_join (α := Bool) (fun _ => ⟨29, []⟩) (fun x => [(3, vp b1 0), (4, vp b2 0), (12, vi fold1), (13, vb x)]) (fun x => fun w => ∃ C, Bun noM F w0 C w [MO.box b2 68 #[vi 0, vi 0]] [Cl.blk b1 38 (AType t1)] ∧ m_value_Identity_j1 t1 fold1 x = some r) ?_ ?_))
 ·clear h hI; rintro i1 w5 ⟨c5, hI, h⟩
  try dsimp only at hI h
  rw [m_value_Identity_j1] at h
  refine c_sub (e := [(3, vp b1 0), (4, vp b2 0), (12, vi fold1), (13, vb i1)]) ⟨rfl, rfl, rfl, rfl, trivial⟩ ?_
  refine cif h et (fun hb h => ?_) (fun hb h => ?_)
  ·refine sr (sq (y_loadN (l := (lType t1)) rfl et u38 rfl size_38 (hI.kblk (l := (lType t1)) .z rfl).1) ?_)
   obtain ⟨r2, hx3, h⟩ := bnd_some h
   refine s_call gn rfl (r_callF (vs := [(Value.agg (AType t1))]) rfl ok_113 ⟨et, trivial⟩) (Calls.mono (c_value_Zero (Dj F c5) w5 hI.lt t1 trivial r2 hx3) ?_)
   rintro _ w6 ⟨rfl, hx4, hl2⟩
   refine ⟨_, rfl, ?_⟩
   replace hI := (hI.ext hx4)
   refine l_store (new := (lVal r2)) (cs' := (AVal r2)) hI .z gn rfl rfl et et rfl size_68 rfl rfl rfl ?_
   clear hI; intro c6 w7 hI
   refine sac ?_
   refine nk (c_ret ?_)
   obtain rfl := some_inj h
   exact q_ret (vs := [(Value.agg (AVal r2)), vb true]) Tryz.results94 ⟨⟨_, ev_tmp rfl rfl, load_agg (l := (lVal r2)) u68 rfl size_68 (CellsAt.of_blk (hI.blk .z) rfl)⟩, ⟨ev_tmp rfl rfl, trivial⟩⟩ (fq hI trivial)
  refine sr (sq (y_eql rfl et ev_const) ?_)
  refine sa ?_
  refine nk (cif h et (fun hb h => ?_) (fun hb h => ?_))
  ·refine sr (sq (y_loadN (l := (lType t1)) rfl et u38 rfl size_38 (hI.kblk (l := (lType t1)) .z rfl).1) ?_)
   obtain ⟨r3, hx5, h⟩ := bnd_some h
   refine s_call gn rfl (r_callF (vs := [(Value.agg (AType t1))]) rfl ok_114 ⟨et, trivial⟩) (Calls.mono (c_value_One (Dj F c5) w5 hI.lt t1 trivial r3 hx5) ?_)
   rintro _ w8 ⟨rfl, hx6, hl3⟩
   refine ⟨_, rfl, ?_⟩
   replace hI := (hI.ext hx6)
   refine sm ?_
   refine sq (y_extract rfl et rfl) ?_
   refine sq (y_extract rfl et rfl) ?_
   refine l_alloc (cs := #[vi 0, vi 0]) hI gn rfl rfl zero_68 rfl ?_
   clear hI; intro b3 c7 w9 hI
   refine l_store (new := (lVal r3.1)) (cs' := (AVal r3.1)) hI .z gn rfl rfl et et rfl size_68 rfl rfl rfl ?_
   clear hI; intro c8 w10 hI
   refine sa ?_
   refine nk (sr (sq (y_loadN (l := (lVal r3.1)) rfl et u68 rfl size_68 (CellsAt.of_blk (hI.blk .z) rfl)) ?_))
   refine sm ?_
   refine sq (y_eql rfl et ev_const) ?_
   refine l_store (new := (lVal r3.1)) (cs' := (AVal r3.1)) hI (.s .z) gn rfl rfl et et rfl size_68 rfl rfl rfl ?_
   clear hI; intro c9 w11 hI
   refine sa ?_
   refine nk (c_ret ?_)
   obtain rfl := some_inj h
   exact q_ret (vs := [(Value.agg (AVal r3.1)), (vb (decide (r3.2 = 0)))]) Tryz.results94 ⟨⟨_, ev_tmp rfl rfl, load_agg (l := (lVal r3.1)) u68 rfl size_68 (CellsAt.of_blk (hI.blk (.s .z)) rfl)⟩, ⟨ev_tmp rfl rfl, trivial⟩⟩ (fq hI trivial)
  refine c_skip (k_same (sr (sq (y_build (vs := []) (cs := #[vi 0, vi 0]) rfl trivial (by kernel_rfl)) ?_)))
  refine l_store (new := [vi 0, vi 0]) (cs' := #[vi 0, vi 0]) hI .z gn rfl rfl et et rfl size_68 rfl rfl rfl ?_
  clear hI; intro c10 w12 hI
  refine sac ?_
  refine nk (c_ret ?_)
  obtain rfl := some_inj h
  exact q_ret (vs := [(Value.agg #[vi 0, vi 0]), vb false]) Tryz.results94 ⟨⟨_, ev_tmp rfl rfl, load_agg (l := [vi 0, vi 0]) u68 rfl size_68 (CellsAt.of_blk (hI.blk .z) rfl)⟩, ⟨ev_tmp rfl rfl, trivial⟩⟩ (fq hI trivial)
 refine sr (sq (y_eql rfl et ev_const) ?_)
 refine sa ?_
 refine nk (cif h et (fun hb h => ?_) (fun hb h => ?_))
 ·exact c_skip (k_join (decide (fold1 = 1)) ⟨rfl, rfl, rfl, rfl, trivial⟩ ⟨_, hI.arr (.c .z .n) ⟨.z, trivial⟩, h⟩ rfl)
 refine c_region rfl ?_
 refine sq (y_eql rfl et ev_const) ?_
 refine sa ?_
 refine s_nil ?_
 exact k_join (decide (fold1 = 5)) ⟨rfl, rfl, rfl, rfl, trivial⟩ ⟨_, hI.arr (.c .z .n) ⟨.z, trivial⟩, h⟩ rfl
theorem c_fixed_Neg_1 (F : NP) (w0 : World) (hF : ∀ k, F k → k < w0.heap.size) (a1 : GType) (x1 : Int) (a2 : Int) (hc : AllCl [] F w0) (r : Int × Int)
  (h : m_fixed_Neg_1 a1 x1 a2 = some r) :
  Calls Tryz.prog 148 #[(Value.agg (AType a1)), vi x1, vi a2] w0 fun e w => e = .returned (Value.tuple #[vi r.1, vi r.2]) ∧ Ext w0 w ∧ AllCl [] F w := by
 refine enterK Tryz.func148 rfl Tryz.ntmps148 rfl ?_
 have hI := Bun.start hF hc
 clear hc
 rw [m_fixed_Neg_1] at h
 refine sr (l_box (v := (Value.agg (AType a1))) (cs := (AType a1)) hI gn rfl rfl et rfl ?_)
 clear hI; intro b1 c1 w1 hI
 obtain ⟨c2, hI⟩ := hI.relBox .z
 refine sac ?_
 refine sac ?_
 refine nk (sr (sm ?_))
 refine sq (y_neg rfl et) ?_
 refine sa ?_
 refine sac ?_
 refine nk (c_ret ?_)
 obtain rfl := some_inj h
 exact q_ret (vs := [(vi (wi64 (-x1))), vi 0]) Tryz.results148 ⟨ev_tmp rfl rfl, ⟨ev_tmp rfl rfl, trivial⟩⟩ (fq hI trivial)
theorem c_fixed_check (F : NP) (w0 : World) (hF : ∀ k, F k → k < w0.heap.size) (t1 : GType) (operands1 : List GVal) (a1 : Option Addr) (c1 : Nat) (hc : AllCl [Cl.sl cGVal a1 c1 operands1] F w0) (r : Int)
  (h : m_fixed_check t1 operands1 = some r) :
  Calls Tryz.prog 157 #[(Value.agg (AType t1)), vs a1 operands1.length c1] w0 fun e w => e = .returned (vi r) ∧ Ext w0 w ∧ AllCl [] F w := by
 refine enterK Tryz.func157 rfl Tryz.ntmps157 rfl ?_
 have hI := Bun.start hF hc
 clear hc
 rw [m_fixed_check] at h
 refine sr (l_box (v := (Value.agg (AType t1))) (cs := (AType t1)) hI gn rfl rfl et rfl ?_)
 clear hI; intro b1 c2 w1 hI
 obtain ⟨c3, hI⟩ := hI.relBox .z
 refine sac ?_
 refine nk (c_seq (sr (sq (y_loadN (l := (lType t1)) rfl et u38 rfl size_38 (hI.kblk (l := (lType t1)) .z rfl).1) ?_)))
 obtain ⟨r1, hx1, h⟩ := bnd_some h
 refine s_call gn rfl (r_callF (vs := [(Value.agg (AType t1))]) rfl ok_109 ⟨et, trivial⟩) (Calls.mono (c_fixed_ValidateType (Dj F c3) w1 hI.lt t1 trivial r1 hx1) ?_)
 rintro _ w2 ⟨rfl, hx2, hl1⟩
 refine ⟨_, rfl, ?_⟩
 replace hI := (hI.ext hx2)
 refine sa ?_
 refine nk (sr (sm ?_))
 refine sq (y_neq rfl et ev_const) ?_
 refine nk (cif h et (fun hb h => ?_) (fun hb h => ?_))
 ·refine sr (sm ?_)
  refine sa ?_
  refine nk (c_ret ?_)
  obtain rfl := some_inj h
  exact q_ret (vs := [vi r1]) Tryz.results157 ⟨ev_tmp rfl rfl, trivial⟩ (fq hI trivial)
 refine c_skip (k_same (c_seq (sr (sm ?_))))
 refine sq (y_lenl rfl u39 et) ?_
 refine sq (y_move rfl ev_const) ?_
 refine nk (c_block (c_loop (α := Nat × Int) (fun x => fun w => ∃ C, Bun noM F w0 C w [] [Cl.blk b1 38 (AType t1), Cl.sl cGVal a1 c1 operands1] ∧ m_fixed_check_l1 operands1 t1 (x.1) (x.2) = some r) (fun x _ => x.1) (fun x => [(2, vp b1 0), (13, vs a1 operands1.length c1), (14, vi (operands1.length : Int)), (15, vi (x.2))]) (fu, 0) ⟨_, hI.arr .n ⟨.z, (.s .z), trivial⟩, h⟩ ⟨rfl, rfl, rfl, rfl, trivial⟩ ?_))
 clear h hI; rintro ⟨fuel1, i1⟩ w3 ⟨c4, hI, h⟩
 dsimp only at hI h
 rcases fuel1 with _ | fuel1
 ·rw [m_fixed_check_l1] at h; cases h
 rw [m_fixed_check_l1] at h
 refine c_sub (e := [(2, vp b1 0), (13, vs a1 operands1.length c1), (14, vi (operands1.length : Int)), (15, vi i1)]) ⟨rfl, rfl, rfl, rfl, trivial⟩ ?_
 refine sr (sq (y_lss rfl et et) ?_)
 refine nk (c_seq (cif h et (fun hb h => ?_) (fun hb h => ?_)))
 ·refine c_skip (k_same (c_seq (c_block (sr ?_))))
  obtain ⟨e1, hx3, h⟩ := bnd_some h
  obtain ⟨ad1, cs1, hA1, hr1, hq1⟩ := hI.clat (.s .z) hx3
  obtain rfl : cs1 = (lVal e1) := hr1
  refine sq (y_indexAddr rfl u39 size_68 et et (lat_bd hx3) hA1) ?_
  refine sq (y_loadN (l := (lVal e1)) rfl et u68 rfl size_68 hq1.1) ?_
  refine l_alloc (cs := #[vi 0, vi 0]) hI gn rfl rfl zero_68 rfl ?_
  clear hI; intro b2 c5 w4 hI
  refine l_store (new := (lVal e1)) (cs' := (AVal e1)) hI .z gn rfl rfl et et rfl size_68 rfl rfl rfl ?_
  clear hI; intro c6 w5 hI
  refine nk (sr (sq (y_loadN (l := (lType t1)) rfl et u38 rfl size_38 (hI.kblk (l := (lType t1)) .z rfl).1) ?_))
  refine sq (y_loadN (l := (lVal e1)) rfl et u68 rfl size_68 (CellsAt.of_blk (hI.blk .z) rfl)) ?_
  obtain ⟨r2, hx4, h⟩ := bnd_some h
  refine s_call gn rfl (r_callF (vs := [(Value.agg (AType t1)), (Value.agg (AVal e1))]) rfl ok_110 ⟨et, ⟨et, trivial⟩⟩) (Calls.mono (c_fixed_Valid (Dj F c6) w5 hI.lt t1 e1 trivial r2 hx4) ?_)
  rintro _ w6 ⟨rfl, hx5, hl2⟩
  refine ⟨_, rfl, ?_⟩
  replace hI := (hI.ext hx5)
  refine sq (y_not rfl et) ?_
  refine nk (cif h et (fun hb h => ?_) (fun hb h => ?_))
  ·refine sr (sac ?_)
   refine nk (c_ret ?_)
   obtain rfl := some_inj h
   exact q_ret (vs := [vi 1]) Tryz.results157 ⟨ev_tmp rfl rfl, trivial⟩ (fq hI trivial)
  refine c_skip (k_same (c_region rfl ?_))
  refine sq (y_add rfl et ev_const) ?_
  refine sm ?_
  refine s_nil ?_
  exact k_loop (fuel1, wi64 (i1 + 1)) ⟨rfl, rfl, rfl, rfl, trivial⟩ ⟨_, hI.arr .n ⟨.z, (.s .z), trivial⟩, h⟩ (Nat.lt_succ_self _)
 refine c_exit ?_
 refine k_in ?_
 refine k_same (sr (sac ?_))
 refine nk (c_ret ?_)
 obtain rfl := some_inj h
 exact q_ret (vs := [vi 0]) Tryz.results157 ⟨ev_tmp rfl rfl, trivial⟩ (fq hI trivial)
theorem c_round_Narrow (F : NP) (w0 : World) (hF : ∀ k, F k → k < w0.heap.size) (n1 : Int) (bits1 : Int) (over1 : Int) (hc : AllCl [] F w0) (r : Int × Bool)
  (h : m_round_Narrow n1 bits1 over1 = some r) :
  Calls Tryz.prog 162 #[vi n1, vi bits1, vi over1] w0 fun e w => e = .returned (Value.tuple #[vi r.1, vb r.2]) ∧ Ext w0 w ∧ AllCl [] F w := by
 refine enterK Tryz.func162 rfl Tryz.ntmps162 rfl ?_
 have hI := Bun.start hF hc
 clear hc
 rw [m_round_Narrow] at h
 refine sr (sac ?_)
 refine sac ?_
 refine nk (c_seq (sr (sm ?_)))
 obtain ⟨r1, hx1, h⟩ := bnd_some h
 refine s_call gn rfl (r_callF (vs := [vi bits1]) rfl ok_146 ⟨et, trivial⟩) (Calls.mono (c_round_valid (Dj F noM) w0 hI.lt bits1 trivial r1 hx1) ?_)
 rintro _ w1 ⟨rfl, hx2, hl1⟩
 refine ⟨_, rfl, ?_⟩
 replace hI := (hI.ext hx2)
 refine sq (y_not rfl et) ?_
 refine sm ?_
 refine s_gval (g_false rfl rfl rfl rfl) rfl (fun hc => y_move rfl et) ?_
 refine s_gval (g_false rfl rfl rfl rfl) rfl (fun hc => y_neq rfl (ev_gv et hc) ev_const) ?_
 refine s_gval (g_false rfl rfl rfl rfl) rfl (fun hc => y_move rfl (ev_gv et hc)) ?_
 refine s_gval (g_true2 rfl rfl rfl rfl) rfl (fun hc => y_move rfl et) ?_
 refine s_gval (g_true2 rfl rfl rfl rfl) rfl (fun hc => y_neq rfl (ev_gv et hc) ev_const) ?_
 refine s_gval (g_false rfl rfl rfl rfl) rfl (fun hc => y_and2 rfl hc et et) ?_
 refine sq (y_or rfl et et) ?_
 refine nk (cif h et (fun hb h => ?_) (fun hb h => ?_))
 ·refine sr (sac ?_)
  refine sac ?_
  refine nk (c_ret ?_)
  obtain rfl := some_inj h
  exact q_ret (vs := [vi 0, vb false]) Tryz.results162 ⟨ev_tmp rfl rfl, ⟨ev_tmp rfl rfl, trivial⟩⟩ (fq hI trivial)
 refine c_skip (k_same (sr (sm ?_)))
 obtain ⟨r2, hx3, h⟩ := bnd_some h
 refine s_call gn rfl (r_callF (vs := [vi bits1]) rfl ok_127 ⟨et, trivial⟩) (Calls.mono (c_round_MinInt (Dj F noM) w1 hI.lt bits1 trivial r2 hx3) ?_)
 rintro _ w2 ⟨rfl, hx4, hl2⟩
 refine ⟨_, rfl, ?_⟩
 replace hI := (hI.ext hx4)
 refine sm ?_
 obtain ⟨r3, hx5, h⟩ := bnd_some h
 refine s_call gn rfl (r_callF (vs := [vi bits1]) rfl ok_128 ⟨et, trivial⟩) (Calls.mono (c_round_MaxInt (Dj F noM) w2 hI.lt bits1 trivial r3 hx5) ?_)
 rintro _ w3 ⟨rfl, hx6, hl3⟩
 refine ⟨_, rfl, ?_⟩
 replace hI := (hI.ext hx6)
 refine sa ?_
 refine sa ?_
 refine nk (c_seq (c_block (sr (sm ?_))))
 refine sm ?_
 refine sq (y_geq rfl et et) ?_
 refine sm ?_
 refine s_gval (g_true rfl rfl rfl rfl) rfl (fun hc => y_move rfl et) ?_
 refine s_gval (g_true rfl rfl rfl rfl) rfl (fun hc => y_move rfl et) ?_
 refine s_gval (g_true rfl rfl rfl rfl) rfl (fun hc => y_leq rfl (ev_gv et hc) (ev_gv et hc)) ?_
 refine sq (y_and rfl et et) ?_
 refine sa ?_
 refine s_nil ?_
 refine k_next (e := [(0, vi n1), (1, vi bits1), (2, vi over1), (8, vi r2), (9, vi r3), (26, (vb ((decide (r2 ≤ n1)) && (decide (n1 ≤ r3)))))]) ⟨rfl, rfl, rfl, rfl, rfl, rfl, trivial⟩ ?_
 refine cif h et (fun hb h => ?_) (fun hb h => ?_)
 ·refine sr (sm ?_)
  refine sa ?_
  refine sac ?_
  refine nk (c_ret ?_)
  obtain rfl := some_inj h
  exact q_ret (vs := [vi n1, vb false]) Tryz.results162 ⟨ev_tmp rfl rfl, ⟨ev_tmp rfl rfl, trivial⟩⟩ (fq hI trivial)
 refine sr (sm ?_)
 refine sq (y_eql rfl et ev_const) ?_
 refine sm ?_
 refine s_gval (g_true rfl rfl rfl rfl) rfl (fun hc => y_move rfl et) ?_
 refine s_gval (g_true rfl rfl rfl rfl) rfl (fun hc => y_move rfl et) ?_
 refine s_gval (g_true rfl rfl rfl rfl) rfl (fun hc => y_lss rfl (ev_gv et hc) (ev_gv et hc)) ?_
 refine sq (y_and rfl et et) ?_
 refine sa ?_
 refine nk (cif h et (fun hb h => ?_) (fun hb h => ?_))
 ·refine sr (sm ?_)
  refine sa ?_
  refine sac ?_
  refine nk (c_ret ?_)
  obtain rfl := some_inj h
  exact q_ret (vs := [vi r2, vb true]) Tryz.results162 ⟨ev_tmp rfl rfl, ⟨ev_tmp rfl rfl, trivial⟩⟩ (fq hI trivial)
 refine sr (sm ?_)
 refine sq (y_eql rfl et ev_const) ?_
 refine sa ?_
 refine nk (cif h et (fun hb h => ?_) (fun hb h => ?_))
 ·refine sr (sm ?_)
  refine sa ?_
  refine sac ?_
  refine nk (c_ret ?_)
  obtain rfl := some_inj h
  exact q_ret (vs := [vi r3, vb true]) Tryz.results162 ⟨ev_tmp rfl rfl, ⟨ev_tmp rfl rfl, trivial⟩⟩ (fq hI trivial)
 refine c_skip (k_same (sr (sm ?_)))
 refine sq (y_sub rfl ev_const et) ?_
 refine sq (y_conv rfl (by rw [u3]; rfl) u133 et) ?_
 refine sa ?_
 refine nk (sr (sm ?_))
 refine sq (y_conv rfl (by rw [u2]; rfl) u129 et) ?_
 refine sm ?_
 obtain ⟨ho1, h⟩ := chk_some h
 refine sq (y_shl rfl et et ho1) ?_
 refine sq (y_conv rfl (by rw [u129]; rfl) u2 et) ?_
 refine sm ?_
 refine sq (y_shr rfl et et ho1) ?_
 refine sa ?_
 refine sac ?_
 refine s_nil ?_
 refine k_next (e := [(6, (vi (Int.fdiv (wi64 (wu64 ((wu64 n1) * 2 ^ (min (Int.toNat (wu64 (wi64 (64 - bits1)))) 64)))) (2 ^ (min (Int.toNat (wu64 (wi64 (64 - bits1)))) 64))))), (7, vb true)]) ⟨rfl, rfl, trivial⟩ ?_
 refine c_ret ?_
 obtain rfl := some_inj h
 exact q_ret (vs := [(vi (Int.fdiv (wi64 (wu64 ((wu64 n1) * 2 ^ (min (Int.toNat (wu64 (wi64 (64 - bits1)))) 64)))) (2 ^ (min (Int.toNat (wu64 (wi64 (64 - bits1)))) 64)))), vb true]) Tryz.results162 ⟨ev_tmp rfl rfl, ⟨ev_tmp rfl rfl, trivial⟩⟩ (fq hI trivial)
theorem c_fixed_narrow (F : NP) (w0 : World) (hF : ∀ k, F k → k < w0.heap.size) (t1 : GType) (n1 : Int) (hc : AllCl [] F w0) (r : GVal)
  (h : m_fixed_narrow t1 n1 = some r) :
  Calls Tryz.prog 158 #[(Value.agg (AType t1)), vi n1] w0 fun e w => e = .returned (Value.agg (AVal r)) ∧ Ext w0 w ∧ AllCl [] F w := by
 refine enterK Tryz.func158 rfl Tryz.ntmps158 rfl ?_
 have hI := Bun.start hF hc
 clear hc
 rw [m_fixed_narrow] at h
 refine sr (l_box (v := (Value.agg (AType t1))) (cs := (AType t1)) hI gn rfl rfl et rfl ?_)
 clear hI; intro b1 c1 w1 hI
 obtain ⟨c2, hI⟩ := hI.relBox .z
 refine l_alloc (cs := #[vi 0, vi 0]) hI gn rfl rfl zero_68 rfl ?_
 clear hI; intro b2 c3 w2 hI
 refine nk (sr (sm ?_))
 refine sq (y_fieldAddr rfl et u38 rfl size_3 rfl) ?_
 refine sq (y_load1 (v := (vi t1.Bits)) rfl et u3 rfl (hI.kblk (l := [vi t1.Bits]) .z rfl).1) ?_
 refine sq (y_fieldAddr rfl et u38 rfl size_3 rfl) ?_
 refine sq (y_load1 (v := (vi t1.Over)) rfl et u3 rfl (hI.kblk (l := [vi t1.Over]) .z rfl).1) ?_
 obtain ⟨r1, hx1, h⟩ := bnd_some h
 refine s_call gn rfl (r_callF (vs := [vi n1, vi t1.Bits, vi t1.Over]) rfl ok_162 ⟨et, ⟨et, ⟨et, trivial⟩⟩⟩) (Calls.mono (c_round_Narrow (Dj F c3) w2 hI.lt n1 t1.Bits t1.Over trivial r1 hx1) ?_)
 rintro _ w3 ⟨rfl, hx2, hl1⟩
 refine ⟨_, rfl, ?_⟩
 replace hI := (hI.ext hx2)
 refine sm ?_
 refine sq (y_extract rfl et rfl) ?_
 refine sq (y_extract rfl et rfl) ?_
 refine sa ?_
 refine sa ?_
 refine nk (sr (sm ?_))
 refine sq (y_build (vs := [(0, vi r1.1), (1, vi 1)]) (cs := #[vi r1.1, vi 1]) rfl ⟨rfl, et, ⟨rfl, ev_const, trivial⟩⟩ (by kernel_rfl)) ?_
 refine l_store (new := [vi r1.1, vi 1]) (cs' := #[vi r1.1, vi 1]) hI .z gn rfl rfl et et rfl size_68 rfl rfl rfl ?_
 clear hI; intro c4 w4 hI
 refine nk (c_ret ?_)
 obtain rfl := some_inj h
 exact q_ret (vs := [(Value.agg #[vi r1.1, vi 1])]) Tryz.results158 ⟨⟨_, ev_tmp rfl rfl, load_agg (l := [vi r1.1, vi 1]) u68 rfl size_68 (CellsAt.of_blk (hI.blk .z) rfl)⟩, trivial⟩ (fq hI trivial)
theorem c_fixed_apply (F : NP) (w0 : World) (hF : ∀ k, F k → k < w0.heap.size) (op1 : Gfixed_operation) (t1 : GType) (a1 : GVal) (b1 : GVal) (fv1 : Value) (hc : AllCl [clFn_k2 fv1 op1.run] F w0) (r : GVal × Int)
  (h : m_fixed_apply op1 t1 a1 b1 = some r) :
  Calls Tryz.prog 147 #[(Value.agg #[fv1]), (Value.agg (AType t1)), (Value.agg (AVal a1)), (Value.agg (AVal b1))] w0 fun e w => e = .returned (Value.tuple #[(Value.agg (AVal r.1)), vi r.2]) ∧ Ext w0 w ∧ AllCl [] F w := by
 refine enterK Tryz.func147 rfl Tryz.ntmps147 rfl ?_
 have hI := Bun.start hF hc
 clear hc
 rw [m_fixed_apply] at h
 refine sr (l_box (v := (Value.agg #[fv1])) (cs := #[fv1]) hI gn rfl rfl et rfl ?_)
 clear hI; intro b2 c1 w1 hI
 obtain ⟨c2, hI⟩ := hI.relBox .z
 refine l_box (v := (Value.agg (AType t1))) (cs := (AType t1)) hI gn rfl rfl et rfl ?_
 clear hI; intro b3 c3 w2 hI
 obtain ⟨c4, hI⟩ := hI.relBox .z
 refine l_box (v := (Value.agg (AVal a1))) (cs := (AVal a1)) hI gn rfl rfl et rfl ?_
 clear hI; intro b4 c5 w3 hI
 obtain ⟨c6, hI⟩ := hI.relBox .z
 refine l_box (v := (Value.agg (AVal b1))) (cs := (AVal b1)) hI gn rfl rfl et rfl ?_
 clear hI; intro b5 c7 w4 hI
 obtain ⟨c8, hI⟩ := hI.relBox .z
 refine l_alloc (cs := #[vi 0, vi 0]) hI gn rfl rfl zero_68 rfl ?_
 clear hI; intro b6 c9 w5 hI
 refine sac ?_
 refine nk (c_seq (sr (sq (y_loadN (l := (lType t1)) rfl et u38 rfl size_38 (hI.kblk (l := (lType t1)) (.s (.s .z)) rfl).1) ?_)))
 refine sq (y_loadN (l := (lVal a1)) rfl et u68 rfl size_68 (hI.kblk (l := (lVal a1)) (.s .z) rfl).1) ?_
 refine sq (y_loadN (l := (lVal b1)) rfl et u68 rfl size_68 (hI.kblk (l := (lVal b1)) .z rfl).1) ?_
 refine l_lit (c := cGVal) (xs := ([a1, b1] : List GVal)) (vs := [(0, (Value.agg (AVal a1))), (1, (Value.agg (AVal b1)))]) (cs := #[vi a1.N, vi a1.D, vi b1.N, vi b1.D]) (css := [(lVal a1), (lVal b1)]) hI gn rfl rfl u39 info_68 rfl ⟨rfl, et, ⟨rfl, et, trivial⟩⟩ (by kernel_rfl) ⟨rfl, ⟨rfl, trivial⟩⟩ rfl rfl rfl ?_
 clear hI; intro b7 c10 w6 hI
 obtain ⟨r1, hx1, h⟩ := bnd_some h
 refine s_call gn rfl (r_callF (vs := [(Value.agg (AType t1)), vs (some ⟨b7, 0, none⟩) ([a1, b1] : List GVal).length 2]) rfl ok_157 ⟨et, ⟨et, trivial⟩⟩) (Calls.mono (c_fixed_check noM w6 (fun _ k => k.elim) t1 ([a1, b1] : List GVal) (some ⟨b7, 0, none⟩) 2 ⟨hI.lend .z, trivial⟩ r1 hx1) ?_)
 rintro _ w7 ⟨rfl, hx2, hl1⟩
 refine ⟨_, rfl, ?_⟩
 replace hI := (hI.ext hx2)
 refine sa ?_
 refine nk (sr (sm ?_))
 refine sq (y_neq rfl et ev_const) ?_
 refine nk (cif h et (fun hb h => ?_) (fun hb h => ?_))
 ·refine sr (sq (y_build (vs := []) (cs := #[vi 0, vi 0]) rfl trivial (by kernel_rfl)) ?_)
  refine sm ?_
  refine l_store (new := [vi 0, vi 0]) (cs' := #[vi 0, vi 0]) hI (.s .z) gn rfl rfl et et rfl size_68 rfl rfl rfl ?_
  clear hI; intro c11 w8 hI
  refine sa ?_
  refine nk (c_ret ?_)
  obtain rfl := some_inj h
  exact q_ret (vs := [(Value.agg #[vi 0, vi 0]), vi r1]) Tryz.results147 ⟨⟨_, ev_tmp rfl rfl, load_agg (l := [vi 0, vi 0]) u68 rfl size_68 (CellsAt.of_blk (hI.blk (.s .z)) rfl)⟩, ⟨ev_tmp rfl rfl, trivial⟩⟩ (fq hI trivial)
 refine c_skip (k_same (sr (sq (y_fieldAddr rfl et u140 rfl size_138 rfl) ?_)))
 refine sq (y_load1 (v := fv1) rfl et u138 rfl (hI.kblk (l := [fv1]) (.s (.s (.s .z))) rfl).1) ?_
 refine sq (y_loadN (l := (lType t1)) rfl et u38 rfl size_38 (hI.kblk (l := (lType t1)) (.s (.s .z)) rfl).1) ?_
 refine sq (y_fieldAddr rfl et u68 rfl size_2 rfl) ?_
 refine sq (y_load1 (v := (vi a1.N)) rfl et u2 rfl (hI.kblk (l := [vi a1.N]) (.s .z) rfl).1) ?_
 refine sq (y_fieldAddr rfl et u68 rfl size_2 rfl) ?_
 refine sq (y_load1 (v := (vi b1.N)) rfl et u2 rfl (hI.kblk (l := [vi b1.N]) .z rfl).1) ?_
 obtain ⟨r2, hx3, h⟩ := bnd_some h
 refine s_callV (args := [(Value.agg (AType t1)), vi a1.N, vi b1.N]) gn rfl rfl et ⟨et, ⟨et, ⟨et, trivial⟩⟩⟩ (CallV.mono ((hI.get (.s (.s (.s (.s .z))))).2 (Dj F c10) w7 (Sp.of_ext .rfl') hI.lt t1 a1.N b1.N r2 trivial hx3) ?_)
 rintro _ w9 ⟨rfl, hx4, hl2⟩
 refine ⟨_, rfl, ?_⟩
 replace hI := (hI.ext hx4)
 refine sm ?_
 refine sq (y_extract rfl et rfl) ?_
 refine sq (y_extract rfl et rfl) ?_
 refine sa ?_
 refine sa ?_
 refine s_nil ?_
 refine k_next (e := [(5, vp b3 0), (8, vp b6 0), (11, vi r2.1), (12, vi r2.2)]) ⟨rfl, rfl, rfl, rfl, trivial⟩ ?_
 refine c_seq (sr (sm ?_))
 refine sq (y_neq rfl et ev_const) ?_
 refine nk (cif h et (fun hb h => ?_) (fun hb h => ?_))
 ·refine sr (sq (y_build (vs := []) (cs := #[vi 0, vi 0]) rfl trivial (by kernel_rfl)) ?_)
  refine sm ?_
  refine l_store (new := [vi 0, vi 0]) (cs' := #[vi 0, vi 0]) hI (.s .z) gn rfl rfl et et rfl size_68 rfl rfl rfl ?_
  clear hI; intro c12 w10 hI
  refine sa ?_
  refine nk (c_ret ?_)
  obtain rfl := some_inj h
  exact q_ret (vs := [(Value.agg #[vi 0, vi 0]), vi r2.2]) Tryz.results147 ⟨⟨_, ev_tmp rfl rfl, load_agg (l := [vi 0, vi 0]) u68 rfl size_68 (CellsAt.of_blk (hI.blk (.s .z)) rfl)⟩, ⟨ev_tmp rfl rfl, trivial⟩⟩ (fq hI trivial)
 refine c_skip (k_same (sr (sq (y_loadN (l := (lType t1)) rfl et u38 rfl size_38 (hI.kblk (l := (lType t1)) (.s (.s .z)) rfl).1) ?_)))
 refine sm ?_
 obtain ⟨r3, hx5, h⟩ := bnd_some h
 refine s_call gn rfl (r_callF (vs := [(Value.agg (AType t1)), vi r2.1]) rfl ok_158 ⟨et, ⟨et, trivial⟩⟩) (Calls.mono (c_fixed_narrow (Dj F c10) w9 hI.lt t1 r2.1 trivial r3 hx5) ?_)
 rintro _ w11 ⟨rfl, hx6, hl3⟩
 refine ⟨_, rfl, ?_⟩
 replace hI := (hI.ext hx6)
 refine l_store (new := (lVal r3)) (cs' := (AVal r3)) hI (.s .z) gn rfl rfl et et rfl size_68 rfl rfl rfl ?_
 clear hI; intro c13 w12 hI
 refine sac ?_
 refine nk (c_ret ?_)
 obtain rfl := some_inj h
 exact q_ret (vs := [(Value.agg (AVal r3)), vi 0]) Tryz.results147 ⟨⟨_, ev_tmp rfl rfl, load_agg (l := (lVal r3)) u68 rfl size_68 (CellsAt.of_blk (hI.blk (.s .z)) rfl)⟩, ⟨ev_tmp rfl rfl, trivial⟩⟩ (fq hI trivial)
theorem c_fixed_Neg (F : NP) (w0 : World) (hF : ∀ k, F k → k < w0.heap.size) (t1 : GType) (a1 : GVal) (hc : AllCl [] F w0) (r : GVal × Int)
  (h : m_fixed_Neg t1 a1 = some r) :
  Calls Tryz.prog 132 #[(Value.agg (AType t1)), (Value.agg (AVal a1))] w0 fun e w => e = .returned (Value.tuple #[(Value.agg (AVal r.1)), vi r.2]) ∧ Ext w0 w ∧ AllCl [] F w := by
 refine enterK Tryz.func132 rfl Tryz.ntmps132 rfl ?_
 have hI := Bun.start hF hc
 clear hc
 rw [m_fixed_Neg] at h
 refine sr (l_box (v := (Value.agg (AType t1))) (cs := (AType t1)) hI gn rfl rfl et rfl ?_)
 clear hI; intro b1 c1 w1 hI
 obtain ⟨c2, hI⟩ := hI.relBox .z
 refine l_box (v := (Value.agg (AVal a1))) (cs := (AVal a1)) hI gn rfl rfl et rfl ?_
 clear hI; intro b2 c3 w2 hI
 obtain ⟨c4, hI⟩ := hI.relBox .z
 refine l_alloc (cs := #[vi 0, vi 0]) hI gn rfl rfl zero_68 rfl ?_
 clear hI; intro b3 c5 w3 hI
 refine sac ?_
 refine nk (sr (sq (y_build (vs := [(0, (Value.func (.func 148) #[] #[]))]) (cs := #[(Value.func (.func 148) #[] #[])]) rfl ⟨rfl, ev_func, trivial⟩ (by kernel_rfl)) ?_))
 refine sq (y_loadN (l := (lType t1)) rfl et u38 rfl size_38 (hI.kblk (l := (lType t1)) (.s .z) rfl).1) ?_
 refine sq (y_loadN (l := (lVal a1)) rfl et u68 rfl size_68 (hI.kblk (l := (lVal a1)) .z rfl).1) ?_
 refine sq (y_loadN (l := (lVal a1)) rfl et u68 rfl size_68 (hI.kblk (l := (lVal a1)) .z rfl).1) ?_
 have hI := hI.add (c := clFn_k2 (Value.func (.func 148) #[] #[]) m_fixed_Neg_1) ⟨rfl, fun D' w' hs hl x_1 x_2 x_3 r k h => CallV.fn (cap := []) ok_148 (c_fixed_Neg_1 D' w' hl x_1 x_2 x_3 trivial r h)⟩
 obtain ⟨r1, hx1, h⟩ := bnd_some h
 refine s_call gn rfl (r_callF (vs := [(Value.agg #[(Value.func (.func 148) #[] #[])]), (Value.agg (AType t1)), (Value.agg (AVal a1)), (Value.agg (AVal a1))]) rfl ok_147 ⟨et, ⟨et, ⟨et, ⟨et, trivial⟩⟩⟩⟩) (Calls.mono (c_fixed_apply (Dj F c5) w3 hI.lt (⟨m_fixed_Neg_1⟩ : Gfixed_operation) t1 a1 a1 (Value.func (.func 148) #[] #[]) ⟨(hI.get .z), trivial⟩ r1 hx1) ?_)
 rintro _ w4 ⟨rfl, hx2, hl1⟩
 refine ⟨_, rfl, ?_⟩
 replace hI := (hI.ext hx2)
 refine sq (y_extract rfl et rfl) ?_
 refine sq (y_extract rfl et rfl) ?_
 refine l_store (new := (lVal r1.1)) (cs' := (AVal r1.1)) hI .z gn rfl rfl et et rfl size_68 rfl rfl rfl ?_
 clear hI; intro c6 w5 hI
 refine sa ?_
 refine nk (c_ret ?_)
 obtain rfl := some_inj h
 exact q_ret (vs := [(Value.agg (AVal r1.1)), vi r1.2]) Tryz.results132 ⟨⟨_, ev_tmp rfl rfl, load_agg (l := (lVal r1.1)) u68 rfl size_68 (CellsAt.of_blk (hI.blk .z) rfl)⟩, ⟨ev_tmp rfl rfl, trivial⟩⟩ (fq hI trivial)
theorem c_value_negate (F : NP) (w0 : World) (hF : ∀ k, F k → k < w0.heap.size) (t1 : GType) (a1 : GVal) (hc : AllCl [] F w0) (r : GVal × Int)
  (h : m_value_negate t1 a1 = some r) :
  Calls Tryz.prog 115 #[(Value.agg (AType t1)), (Value.agg (AVal a1))] w0 fun e w => e = .returned (Value.tuple #[(Value.agg (AVal r.1)), vi r.2]) ∧ Ext w0 w ∧ AllCl [] F w := by
 refine enterK Tryz.func115 rfl Tryz.ntmps115 rfl ?_
 have hI := Bun.start hF hc
 clear hc
 rw [m_value_negate] at h
 refine sr (l_box (v := (Value.agg (AType t1))) (cs := (AType t1)) hI gn rfl rfl et rfl ?_)
 clear hI; intro b1 c1 w1 hI
 obtain ⟨c2, hI⟩ := hI.relBox .z
 refine l_box (v := (Value.agg (AVal a1))) (cs := (AVal a1)) hI gn rfl rfl et rfl ?_
 clear hI; intro b2 c3 w2 hI
 obtain ⟨c4, hI⟩ := hI.relBox .z
 refine l_alloc (cs := #[vi 0, vi 0]) hI gn rfl rfl zero_68 rfl ?_
 clear hI; intro b3 c5 w3 hI
 refine sac ?_
 refine nk (c_seq (sr (sq (y_fieldAddr rfl et u38 rfl size_3 rfl) ?_)))
 refine sq (y_load1 (v := (vi t1.Kind)) rfl et u3 rfl (hI.kblk (l := [vi t1.Kind]) (.s .z) rfl).1) ?_
 refine sq (y_eql rfl et ev_const) ?_
 refine nk (cif h et (fun hb h => ?_) (fun hb h => ?_))
 ·refine sr (sq (y_loadN (l := (lType t1)) rfl et u38 rfl size_38 (hI.kblk (l := (lType t1)) (.s .z) rfl).1) ?_)
  refine sq (y_loadN (l := (lVal a1)) rfl et u68 rfl size_68 (hI.kblk (l := (lVal a1)) .z rfl).1) ?_
  obtain ⟨r1, hx1, h⟩ := bnd_some h
  refine s_call gn rfl (r_callF (vs := [(Value.agg (AType t1)), (Value.agg (AVal a1))]) rfl ok_132 ⟨et, ⟨et, trivial⟩⟩) (Calls.mono (c_fixed_Neg (Dj F c5) w3 hI.lt t1 a1 trivial r1 hx1) ?_)
  rintro _ w4 ⟨rfl, hx2, hl1⟩
  refine ⟨_, rfl, ?_⟩
  replace hI := (hI.ext hx2)
  refine sq (y_extract rfl et rfl) ?_
  refine sq (y_extract rfl et rfl) ?_
  refine l_store (new := (lVal r1.1)) (cs' := (AVal r1.1)) hI .z gn rfl rfl et et rfl size_68 rfl rfl rfl ?_
  clear hI; intro c6 w5 hI
  refine sa ?_
  refine nk (c_ret ?_)
  obtain rfl := some_inj h
  exact q_ret (vs := [(Value.agg (AVal r1.1)), vi r1.2]) Tryz.results115 ⟨⟨_, ev_tmp rfl rfl, load_agg (l := (lVal r1.1)) u68 rfl size_68 (CellsAt.of_blk (hI.blk .z) rfl)⟩, ⟨ev_tmp rfl rfl, trivial⟩⟩ (fq hI trivial)
 refine c_skip (k_same (sr (sq (y_fieldAddr rfl et u68 rfl size_2 rfl) ?_)))
 refine sq (y_load1 (v := (vi a1.N)) rfl et u2 rfl (hI.kblk (l := [vi a1.N]) .z rfl).1) ?_
 refine sq (y_neg rfl et) ?_
 refine sq (y_fieldAddr rfl et u68 rfl size_2 rfl) ?_
 refine sq (y_load1 (v := (vi a1.D)) rfl et u2 rfl (hI.kblk (l := [vi a1.D]) .z rfl).1) ?_
 refine sq (y_build (vs := [(0, (vi (wi64 (-a1.N)))), (1, vi a1.D)]) (cs := #[(vi (wi64 (-a1.N))), vi a1.D]) rfl ⟨rfl, et, ⟨rfl, et, trivial⟩⟩ (by kernel_rfl)) ?_
 refine l_store (new := [(vi (wi64 (-a1.N))), vi a1.D]) (cs' := #[(vi (wi64 (-a1.N))), vi a1.D]) hI .z gn rfl rfl et et rfl size_68 rfl rfl rfl ?_
 clear hI; intro c7 w6 hI
 refine sac ?_
 refine nk (c_ret ?_)
 obtain rfl := some_inj h
 exact q_ret (vs := [(Value.agg #[(vi (wi64 (-a1.N))), vi a1.D]), vi 0]) Tryz.results115 ⟨⟨_, ev_tmp rfl rfl, load_agg (l := [(vi (wi64 (-a1.N))), vi a1.D]) u68 rfl size_68 (CellsAt.of_blk (hI.blk .z) rfl)⟩, ⟨ev_tmp rfl rfl, trivial⟩⟩ (fq hI trivial)
theorem c_frac_order (F : NP) (w0 : World) (hF : ∀ k, F k → k < w0.heap.size) (a1 : Int) (b1 : Int) (hc : AllCl [] F w0) (r : Int)
  (h : m_frac_order a1 b1 = some r) :
  Calls Tryz.prog 149 #[vi a1, vi b1] w0 fun e w => e = .returned (vi r) ∧ Ext w0 w ∧ AllCl [] F w := by
 refine enterK Tryz.func149 rfl Tryz.ntmps149 rfl ?_
 have hI := Bun.start hF hc
 clear hc
 rw [m_frac_order] at h
 refine sr (sac ?_)
 refine nk (c_seq (c_block (sr (sm ?_))))
 refine sm ?_
 refine sq (y_lss rfl et et) ?_
 refine sa ?_
 refine nk (cif h et (fun hb h => ?_) (fun hb h => ?_))
 ·refine sr (sac ?_)
  refine nk (c_ret ?_)
  obtain rfl := some_inj h
  exact q_ret (vs := [vi (-1)]) Tryz.results149 ⟨ev_tmp rfl rfl, trivial⟩ (fq hI trivial)
 refine sr (sm ?_)
 refine sm ?_
 refine sq (y_gtr rfl et et) ?_
 refine sa ?_
 refine nk (cif h et (fun hb h => ?_) (fun hb h => ?_))
 ·refine sr (sac ?_)
  refine nk (c_ret ?_)
  obtain rfl := some_inj h
  exact q_ret (vs := [vi 1]) Tryz.results149 ⟨ev_tmp rfl rfl, trivial⟩ (fq hI trivial)
 refine c_skip (k_same (sr (sac ?_)))
 refine nk (c_ret ?_)
 obtain rfl := some_inj h
 exact q_ret (vs := [vi 0]) Tryz.results149 ⟨ev_tmp rfl rfl, trivial⟩ (fq hI trivial)
theorem c_frac_Compare (F : NP) (w0 : World) (hF : ∀ k, F k → k < w0.heap.size) (a1 : GVal) (b1 : GVal) (hc : AllCl [] F w0) (r : Int)
  (h : m_frac_Compare a1 b1 = some r) :
  Calls Tryz.prog 133 #[(Value.agg (AVal a1)), (Value.agg (AVal b1))] w0 fun e w => e = .returned (vi r) ∧ Ext w0 w ∧ AllCl [] F w := by
 refine enterK Tryz.func133 rfl Tryz.ntmps133 rfl ?_
 have hI := Bun.start hF hc
 clear hc
 rw [m_frac_Compare] at h
 refine sr (l_box (v := (Value.agg (AVal a1))) (cs := (AVal a1)) hI gn rfl rfl et rfl ?_)
 clear hI; intro b2 c1 w1 hI
 obtain ⟨c2, hI⟩ := hI.relBox .z
 refine l_box (v := (Value.agg (AVal b1))) (cs := (AVal b1)) hI gn rfl rfl et rfl ?_
 clear hI; intro b3 c3 w2 hI
 obtain ⟨c4, hI⟩ := hI.relBox .z
 refine sac ?_
 refine nk (c_seq (sr (sq (y_loadN (l := (lVal a1)) rfl et u68 rfl size_68 (hI.kblk (l := (lVal a1)) (.s .z) rfl).1) ?_)))
 obtain ⟨r1, hx1, h⟩ := bnd_some h
 refine s_call gn rfl (r_callF (vs := [(Value.agg (AVal a1))]) rfl ok_112 ⟨et, trivial⟩) (Calls.mono (c_frac_Valid (Dj F c4) w2 hI.lt a1 trivial r1 hx1) ?_)
 rintro _ w3 ⟨rfl, hx2, hl1⟩
 refine ⟨_, rfl, ?_⟩
 replace hI := (hI.ext hx2)
 refine sm ?_
 refine s_gval (g_true rfl rfl rfl rfl) rfl (fun hc => (y_loadN (l := (lVal b1)) rfl et u68 rfl size_68 (hI.kblk (l := (lVal b1)) .z rfl).1)) ?_
 obtain ⟨r2, hx3, h⟩ := bnd_some h
 replace hx3 := gd_some hx3
 refine s_gcallU (v := (vb r2)) (g_true rfl rfl rfl rfl) rfl (fun hc => (r_callF (vs := [(Value.agg (AVal b1))]) rfl ok_112 ⟨(ev_gv et hc), trivial⟩)) (fun hc => (c_frac_Valid (Dj F c4) w3 hI.lt b1 trivial r2 (hx3 hc)).mono fun _ _ k => ⟨k.1, k.2.1⟩) ?_
 intro w4 hx4; replace hI := hI.ext hx4
 refine sq (y_and rfl et et) ?_
 refine nk (cif h et (fun hb h => ?_) (fun hb h => ?_))
 ·refine sr (sq (y_fieldAddr rfl et u68 rfl size_2 rfl) ?_)
  refine sq (y_load1 (v := (vi a1.N)) rfl et u2 rfl (hI.kblk (l := [vi a1.N]) (.s .z) rfl).1) ?_
  refine sq (y_fieldAddr rfl et u68 rfl size_2 rfl) ?_
  refine sq (y_load1 (v := (vi b1.D)) rfl et u2 rfl (hI.kblk (l := [vi b1.D]) .z rfl).1) ?_
  refine sq (y_mul rfl et et) ?_
  refine sq (y_fieldAddr rfl et u68 rfl size_2 rfl) ?_
  refine sq (y_load1 (v := (vi b1.N)) rfl et u2 rfl (hI.kblk (l := [vi b1.N]) .z rfl).1) ?_
  refine sq (y_fieldAddr rfl et u68 rfl size_2 rfl) ?_
  refine sq (y_load1 (v := (vi a1.D)) rfl et u2 rfl (hI.kblk (l := [vi a1.D]) (.s .z) rfl).1) ?_
  refine sq (y_mul rfl et et) ?_
  obtain ⟨r3, hx5, h⟩ := bnd_some h
  refine s_call gn rfl (r_callF (vs := [(vi (wi64 (a1.N * b1.D))), (vi (wi64 (b1.N * a1.D)))]) rfl ok_149 ⟨et, ⟨et, trivial⟩⟩) (Calls.mono (c_frac_order (Dj F c4) w4 hI.lt (wi64 (a1.N * b1.D)) (wi64 (b1.N * a1.D)) trivial r3 hx5) ?_)
  rintro _ w5 ⟨rfl, hx6, hl3⟩
  refine ⟨_, rfl, ?_⟩
  replace hI := (hI.ext hx6)
  refine sa ?_
  refine nk (c_ret ?_)
  obtain rfl := some_inj h
  exact q_ret (vs := [vi r3]) Tryz.results133 ⟨ev_tmp rfl rfl, trivial⟩ (fq hI trivial)
 refine c_skip (k_same (c_seq (sr (sq (y_fieldAddr rfl et u68 rfl size_2 rfl) ?_))))
 refine sq (y_load1 (v := (vi a1.N)) rfl et u2 rfl (hI.kblk (l := [vi a1.N]) (.s .z) rfl).1) ?_
 refine sq (y_fieldAddr rfl et u68 rfl size_2 rfl) ?_
 refine sq (y_load1 (v := (vi b1.N)) rfl et u2 rfl (hI.kblk (l := [vi b1.N]) .z rfl).1) ?_
 obtain ⟨r4, hx7, h⟩ := bnd_some h
 refine s_call gn rfl (r_callF (vs := [vi a1.N, vi b1.N]) rfl ok_149 ⟨et, ⟨et, trivial⟩⟩) (Calls.mono (c_frac_order (Dj F c4) w4 hI.lt a1.N b1.N trivial r4 hx7) ?_)
 rintro _ w6 ⟨rfl, hx8, hl4⟩
 refine ⟨_, rfl, ?_⟩
 replace hI := (hI.ext hx8)
 refine sa ?_
 refine nk (sr (sm ?_))
 refine sq (y_neq rfl et ev_const) ?_
 refine nk (cif h et (fun hb h => ?_) (fun hb h => ?_))
 ·refine sr (sm ?_)
  refine sa ?_
  refine nk (c_ret ?_)
  obtain rfl := some_inj h
  exact q_ret (vs := [vi r4]) Tryz.results133 ⟨ev_tmp rfl rfl, trivial⟩ (fq hI trivial)
 refine c_skip (k_same (sr (sq (y_fieldAddr rfl et u68 rfl size_2 rfl) ?_)))
 refine sq (y_load1 (v := (vi a1.D)) rfl et u2 rfl (hI.kblk (l := [vi a1.D]) (.s .z) rfl).1) ?_
 refine sq (y_fieldAddr rfl et u68 rfl size_2 rfl) ?_
 refine sq (y_load1 (v := (vi b1.D)) rfl et u2 rfl (hI.kblk (l := [vi b1.D]) .z rfl).1) ?_
 obtain ⟨r5, hx9, h⟩ := bnd_some h
 refine s_call gn rfl (r_callF (vs := [vi a1.D, vi b1.D]) rfl ok_149 ⟨et, ⟨et, trivial⟩⟩) (Calls.mono (c_frac_order (Dj F c4) w6 hI.lt a1.D b1.D trivial r5 hx9) ?_)
 rintro _ w7 ⟨rfl, hx10, hl5⟩
 refine ⟨_, rfl, ?_⟩
 replace hI := (hI.ext hx10)
 refine sa ?_
 refine nk (c_ret ?_)
 obtain rfl := some_inj h
 exact q_ret (vs := [vi r5]) Tryz.results133 ⟨ev_tmp rfl rfl, trivial⟩ (fq hI trivial)
theorem c_value_Compare (F : NP) (w0 : World) (hF : ∀ k, F k → k < w0.heap.size) (t1 : GType) (a1 : GVal) (b1 : GVal) (hc : AllCl [] F w0) (r : Int)
  (h : m_value_Compare t1 a1 b1 = some r) :
  Calls Tryz.prog 116 #[(Value.agg (AType t1)), (Value.agg (AVal a1)), (Value.agg (AVal b1))] w0 fun e w => e = .returned (vi r) ∧ Ext w0 w ∧ AllCl [] F w := by
 refine enterK Tryz.func116 rfl Tryz.ntmps116 rfl ?_
 have hI := Bun.start hF hc
 clear hc
 rw [m_value_Compare] at h
 refine sr (l_box (v := (Value.agg (AType t1))) (cs := (AType t1)) hI gn rfl rfl et rfl ?_)
 clear hI; intro b2 c1 w1 hI
 obtain ⟨c2, hI⟩ := hI.relBox .z
 refine l_box (v := (Value.agg (AVal a1))) (cs := (AVal a1)) hI gn rfl rfl et rfl ?_
 clear hI; intro b3 c3 w2 hI
 obtain ⟨c4, hI⟩ := hI.relBox .z
 refine l_box (v := (Value.agg (AVal b1))) (cs := (AVal b1)) hI gn rfl rfl et rfl ?_
 clear hI; intro b4 c5 w3 hI
 obtain ⟨c6, hI⟩ := hI.relBox .z
 refine sac ?_
 refine nk (c_seq (c_block (sr (sq (y_loadN (l := (lType t1)) rfl et u38 rfl size_38 (hI.kblk (l := (lType t1)) (.s (.s .z)) rfl).1) ?_))))
 refine sq (y_loadN (l := (lVal a1)) rfl et u68 rfl size_68 (hI.kblk (l := (lVal a1)) (.s .z) rfl).1) ?_
 obtain ⟨r1, hx1, h⟩ := bnd_some h
 refine s_call gn rfl (r_callF (vs := [(Value.agg (AType t1)), (Value.agg (AVal a1))]) rfl ok_89 ⟨et, ⟨et, trivial⟩⟩) (Calls.mono (c_value_Valid (Dj F c6) w3 hI.lt t1 a1 trivial r1 hx1) ?_)
 rintro _ w4 ⟨rfl, hx2, hl1⟩
 refine ⟨_, rfl, ?_⟩
 replace hI := (hI.ext hx2)
 refine sq (y_not rfl et) ?_
 refine sm ?_
 refine s_gval (g_false rfl rfl rfl rfl) rfl (fun hc => (y_loadN (l := (lType t1)) rfl et u38 rfl size_38 (hI.kblk (l := (lType t1)) (.s (.s .z)) rfl).1)) ?_
 refine s_gval (g_false rfl rfl rfl rfl) rfl (fun hc => (y_loadN (l := (lVal b1)) rfl et u68 rfl size_68 (hI.kblk (l := (lVal b1)) .z rfl).1)) ?_
 obtain ⟨r2, hx3, h⟩ := bnd_some h
 replace hx3 := gd_some hx3
 refine s_gcallU (v := (vb r2)) (g_false rfl rfl rfl rfl) rfl (fun hc => (r_callF (vs := [(Value.agg (AType t1)), (Value.agg (AVal b1))]) rfl ok_89 ⟨(ev_gv et hc), ⟨(ev_gv et hc), trivial⟩⟩)) (fun hc => (c_value_Valid (Dj F c6) w4 hI.lt t1 b1 trivial r2 (hx3 hc)).mono fun _ _ k => ⟨k.1, k.2.1⟩) ?_
 intro w5 hx4; replace hI := hI.ext hx4
 refine s_gval (g_false rfl rfl rfl rfl) rfl (fun hc => y_not rfl (ev_gv et hc)) ?_
 refine sq (y_or rfl et et) ?_
 refine sa ?_
 refine nk (cif h et (fun hb h => ?_) (fun hb h => ?_))
 ·refine sr (sac ?_)
  refine nk (c_ret ?_)
  obtain rfl := some_inj h
  exact q_ret (vs := [vi 0]) Tryz.results116 ⟨ev_tmp rfl rfl, trivial⟩ (fq hI trivial)
 refine sr (sq (y_fieldAddr rfl et u38 rfl size_3 rfl) ?_)
 refine sq (y_load1 (v := (vi t1.Kind)) rfl et u3 rfl (hI.kblk (l := [vi t1.Kind]) (.s (.s .z)) rfl).1) ?_
 refine sq (y_eql rfl et ev_const) ?_
 refine sa ?_
 refine nk (cif h et (fun hb h => ?_) (fun hb h => ?_))
 ·refine sr (sq (y_loadN (l := (lVal a1)) rfl et u68 rfl size_68 (hI.kblk (l := (lVal a1)) (.s .z) rfl).1) ?_)
  refine sq (y_loadN (l := (lVal b1)) rfl et u68 rfl size_68 (hI.kblk (l := (lVal b1)) .z rfl).1) ?_
  obtain ⟨r3, hx5, h⟩ := bnd_some h
  refine s_call gn rfl (r_callF (vs := [(Value.agg (AVal a1)), (Value.agg (AVal b1))]) rfl ok_133 ⟨et, ⟨et, trivial⟩⟩) (Calls.mono (c_frac_Compare (Dj F c6) w5 hI.lt a1 b1 trivial r3 hx5) ?_)
  rintro _ w6 ⟨rfl, hx6, hl3⟩
  refine ⟨_, rfl, ?_⟩
  replace hI := (hI.ext hx6)
  refine sa ?_
  refine s_nil ?_
  refine k_next (e := [(6, vi r3)]) ⟨rfl, trivial⟩ ?_
  refine c_ret ?_
  obtain rfl := some_inj h
  exact q_ret (vs := [vi r3]) Tryz.results116 ⟨ev_tmp rfl rfl, trivial⟩ (fq hI trivial)
 refine sr (sq (y_fieldAddr rfl et u68 rfl size_2 rfl) ?_)
 refine sq (y_load1 (v := (vi a1.N)) rfl et u2 rfl (hI.kblk (l := [vi a1.N]) (.s .z) rfl).1) ?_
 refine sq (y_fieldAddr rfl et u68 rfl size_2 rfl) ?_
 refine sq (y_load1 (v := (vi b1.N)) rfl et u2 rfl (hI.kblk (l := [vi b1.N]) .z rfl).1) ?_
 refine sq (y_lss rfl et et) ?_
 refine sa ?_
 refine s_nil ?_
 refine k_next (e := [(4, vp b3 0), (5, vp b4 0), (25, (vb (decide (a1.N < b1.N))))]) ⟨rfl, rfl, rfl, trivial⟩ ?_
 refine cif h et (fun hb h => ?_) (fun hb h => ?_)
 ·refine sr (sac ?_)
  refine nk (c_ret ?_)
  obtain rfl := some_inj h
  exact q_ret (vs := [vi (-1)]) Tryz.results116 ⟨ev_tmp rfl rfl, trivial⟩ (fq hI trivial)
 refine sr (sq (y_fieldAddr rfl et u68 rfl size_2 rfl) ?_)
 refine sq (y_load1 (v := (vi a1.N)) rfl et u2 rfl (hI.kblk (l := [vi a1.N]) (.s .z) rfl).1) ?_
 refine sq (y_fieldAddr rfl et u68 rfl size_2 rfl) ?_
 refine sq (y_load1 (v := (vi b1.N)) rfl et u2 rfl (hI.kblk (l := [vi b1.N]) .z rfl).1) ?_
 refine sq (y_gtr rfl et et) ?_
 refine sa ?_
 refine nk (cif h et (fun hb h => ?_) (fun hb h => ?_))
 ·refine sr (sac ?_)
  refine nk (c_ret ?_)
  obtain rfl := some_inj h
  exact q_ret (vs := [vi 1]) Tryz.results116 ⟨ev_tmp rfl rfl, trivial⟩ (fq hI trivial)
 refine c_skip (k_same (sr (sac ?_)))
 refine nk (c_ret ?_)
 obtain rfl := some_inj h
 exact q_ret (vs := [vi 0]) Tryz.results116 ⟨ev_tmp rfl rfl, trivial⟩ (fq hI trivial)
theorem c_value_integer (F : NP) (w0 : World) (hF : ∀ k, F k → k < w0.heap.size) (op1 : Int) (a1 : Int) (b1 : Int) (hc : AllCl [] F w0) (r : GVal × Int)
  (h : m_value_integer op1 a1 b1 = some r) :
  Calls Tryz.prog 134 #[vi op1, vi a1, vi b1] w0 fun e w => e = .returned (Value.tuple #[(Value.agg (AVal r.1)), vi r.2]) ∧ Ext w0 w ∧ AllCl [] F w := by
 refine enterK Tryz.func134 rfl Tryz.ntmps134 rfl ?_
 have hI := Bun.start hF hc
 clear hc
 rw [m_value_integer] at h
 refine sr (l_alloc (cs := #[vi 0, vi 0]) hI gn rfl rfl zero_68 rfl ?_)
 clear hI; intro b2 c1 w1 hI
 refine sac ?_
 refine nk (sr (sac ?_))
 refine nk (c_join (α := Int) (fun _ => ⟨50, []⟩) (fun x => [(6, vp b2 0), (8, vi x)]) (fun x => fun w => ∃ C, Bun noM F w0 C w [MO.box b2 68 #[vi 0, vi 0]] [] ∧ m_value_integer_j1 x = some r) ?_ ?_)
 ·clear h hI; rintro n1 w2 ⟨c2, hI, h⟩
  try dsimp only at hI h
  rw [m_value_integer_j1] at h
  refine c_sub (e := [(6, vp b2 0), (8, vi n1)]) ⟨rfl, rfl, trivial⟩ ?_
  refine c_seq (sr (sm ?_))
  obtain ⟨r1, hx1, h⟩ := bnd_some h
  refine s_call gn rfl (r_callF (vs := [vi n1]) rfl ok_111 ⟨et, trivial⟩) (Calls.mono (c_value_whole (Dj F c2) w2 hI.lt n1 trivial r1 hx1) ?_)
  rintro _ w3 ⟨rfl, hx2, hl1⟩
  refine ⟨_, rfl, ?_⟩
  replace hI := (hI.ext hx2)
  refine sq (y_not rfl et) ?_
  refine nk (cif h et (fun hb h => ?_) (fun hb h => ?_))
  ·refine sr (sq (y_build (vs := []) (cs := #[vi 0, vi 0]) rfl trivial (by kernel_rfl)) ?_)
   refine l_store (new := [vi 0, vi 0]) (cs' := #[vi 0, vi 0]) hI .z gn rfl rfl et et rfl size_68 rfl rfl rfl ?_
   clear hI; intro c3 w4 hI
   refine sac ?_
   refine nk (c_ret ?_)
   obtain rfl := some_inj h
   exact q_ret (vs := [(Value.agg #[vi 0, vi 0]), vi 3]) Tryz.results134 ⟨⟨_, ev_tmp rfl rfl, load_agg (l := [vi 0, vi 0]) u68 rfl size_68 (CellsAt.of_blk (hI.blk .z) rfl)⟩, ⟨ev_tmp rfl rfl, trivial⟩⟩ (fq hI trivial)
  refine c_skip (k_same (sr (sm ?_)))
  refine sq (y_build (vs := [(0, vi n1), (1, vi 1)]) (cs := #[vi n1, vi 1]) rfl ⟨rfl, et, ⟨rfl, ev_const, trivial⟩⟩ (by kernel_rfl)) ?_
  refine l_store (new := [vi n1, vi 1]) (cs' := #[vi n1, vi 1]) hI .z gn rfl rfl et et rfl size_68 rfl rfl rfl ?_
  clear hI; intro c4 w5 hI
  refine sac ?_
  refine nk (c_ret ?_)
  obtain rfl := some_inj h
  exact q_ret (vs := [(Value.agg #[vi n1, vi 1]), vi 0]) Tryz.results134 ⟨⟨_, ev_tmp rfl rfl, load_agg (l := [vi n1, vi 1]) u68 rfl size_68 (CellsAt.of_blk (hI.blk .z) rfl)⟩, ⟨ev_tmp rfl rfl, trivial⟩⟩ (fq hI trivial)
 refine sr (sm ?_)
 refine nk (c_block (sr (sq (y_eql rfl et ev_const) ?_)))
 refine sa ?_
 refine nk (cif h et (fun hb h => ?_) (fun hb h => ?_))
 ·refine c_region rfl ?_
  refine sm ?_
  refine sm ?_
  refine sq (y_add rfl et et) ?_
  refine sa ?_
  refine s_nil ?_
  exact k_join (wi64 (a1 + b1)) ⟨rfl, rfl, trivial⟩ ⟨_, hI.arr (.c .z .n) trivial, h⟩ rfl
 refine sr (sq (y_eql rfl et ev_const) ?_)
 refine sa ?_
 refine nk (cif h et (fun hb h => ?_) (fun hb h => ?_))
 ·refine c_region rfl ?_
  refine sm ?_
  refine sm ?_
  refine sq (y_sub rfl et et) ?_
  refine sa ?_
  refine s_nil ?_
  exact k_join (wi64 (a1 - b1)) ⟨rfl, rfl, trivial⟩ ⟨_, hI.arr (.c .z .n) trivial, h⟩ rfl
 refine sr (sq (y_eql rfl et ev_const) ?_)
 refine sa ?_
 refine nk (cif h et (fun hb h => ?_) (fun hb h => ?_))
 ·refine c_region rfl ?_
  refine sm ?_
  refine sm ?_
  refine sq (y_mul rfl et et) ?_
  refine sa ?_
  refine s_nil ?_
  exact k_join (wi64 (a1 * b1)) ⟨rfl, rfl, trivial⟩ ⟨_, hI.arr (.c .z .n) trivial, h⟩ rfl
 refine c_seq (sr (sm ?_))
 refine sq (y_eql rfl et ev_const) ?_
 refine nk (cif h et (fun hb h => ?_) (fun hb h => ?_))
 ·refine sr (sq (y_build (vs := []) (cs := #[vi 0, vi 0]) rfl trivial (by kernel_rfl)) ?_)
  refine l_store (new := [vi 0, vi 0]) (cs' := #[vi 0, vi 0]) hI .z gn rfl rfl et et rfl size_68 rfl rfl rfl ?_
  clear hI; intro c5 w6 hI
  refine sac ?_
  refine nk (c_ret ?_)
  obtain rfl := some_inj h
  exact q_ret (vs := [(Value.agg #[vi 0, vi 0]), vi 4]) Tryz.results134 ⟨⟨_, ev_tmp rfl rfl, load_agg (l := [vi 0, vi 0]) u68 rfl size_68 (CellsAt.of_blk (hI.blk .z) rfl)⟩, ⟨ev_tmp rfl rfl, trivial⟩⟩ (fq hI trivial)
 refine c_skip (k_same (sr (sm ?_)))
 refine sm ?_
 obtain ⟨ho1, h⟩ := chk_some h
 refine sq (y_quo rfl et et ho1) ?_
 refine sa ?_
 refine nk (sr (sm ?_))
 refine sm ?_
 refine sq (y_rem rfl et et ho1) ?_
 refine sq (y_neq rfl et ev_const) ?_
 refine sm ?_
 refine s_gval (g_true rfl rfl rfl rfl) rfl (fun hc => y_move rfl et) ?_
 refine s_gval (g_true rfl rfl rfl rfl) rfl (fun hc => y_lss rfl (ev_gv et hc) ev_const) ?_
 refine s_gval (g_true rfl rfl rfl rfl) rfl (fun hc => y_move rfl et) ?_
 refine s_gval (g_true rfl rfl rfl rfl) rfl (fun hc => y_lss rfl (ev_gv et hc) ev_const) ?_
 refine s_gval (g_true rfl rfl rfl rfl) rfl (fun hc => y_neb rfl u4 (ev_gv et hc) (ev_gv et hc)) ?_
 refine sq (y_and rfl et et) ?_
 refine s_nil ?_
 refine k_next (e := [(6, vp b2 0), (8, (vi (wi64 (Int.tdiv a1 b1)))), (26, (vb ((!decide (Int.tmod a1 b1 = 0)) && ((decide (a1 < 0)) != (decide (b1 < 0))))))]) ⟨rfl, rfl, rfl, trivial⟩ ?_
 refine cif h et (fun hb h => ?_) (fun hb h => ?_)
 ·refine c_region rfl ?_
  refine sm ?_
  refine sq (y_sub rfl et ev_const) ?_
  obtain ⟨n2, hx3, h⟩ := bnd_some h
  refine sq (binU (y_assign rfl et) (congrArg (Value.int .i64) (some_inj hx3))) ?_
  refine s_nil ?_
  exact k_join n2 ⟨rfl, rfl, trivial⟩ ⟨_, hI.arr (.c .z .n) trivial, h⟩ rfl
 exact c_skip (k_join (wi64 (Int.tdiv a1 b1)) ⟨rfl, rfl, trivial⟩ ⟨_, hI.arr (.c .z .n) trivial, h⟩ rfl)
theorem c_fixed_Add_1 (F : NP) (w0 : World) (hF : ∀ k, F k → k < w0.heap.size) (a1 : GType) (x1 : Int) (y1 : Int) (hc : AllCl [] F w0) (r : Int × Int)
  (h : m_fixed_Add_1 a1 x1 y1 = some r) :
  Calls Tryz.prog 150 #[(Value.agg (AType a1)), vi x1, vi y1] w0 fun e w => e = .returned (Value.tuple #[vi r.1, vi r.2]) ∧ Ext w0 w ∧ AllCl [] F w := by
 refine enterK Tryz.func150 rfl Tryz.ntmps150 rfl ?_
 have hI := Bun.start hF hc
 clear hc
 rw [m_fixed_Add_1] at h
 refine sr (l_box (v := (Value.agg (AType a1))) (cs := (AType a1)) hI gn rfl rfl et rfl ?_)
 clear hI; intro b1 c1 w1 hI
 obtain ⟨c2, hI⟩ := hI.relBox .z
 refine sac ?_
 refine sac ?_
 refine nk (sr (sm ?_))
 refine sm ?_
 refine sq (y_add rfl et et) ?_
 refine sa ?_
 refine sac ?_
 refine nk (c_ret ?_)
 obtain rfl := some_inj h
 exact q_ret (vs := [(vi (wi64 (x1 + y1))), vi 0]) Tryz.results150 ⟨ev_tmp rfl rfl, ⟨ev_tmp rfl rfl, trivial⟩⟩ (fq hI trivial)
theorem c_fixed_Add (F : NP) (w0 : World) (hF : ∀ k, F k → k < w0.heap.size) (t1 : GType) (a1 : GVal) (b1 : GVal) (hc : AllCl [] F w0) (r : GVal × Int)
  (h : m_fixed_Add t1 a1 b1 = some r) :
  Calls Tryz.prog 135 #[(Value.agg (AType t1)), (Value.agg (AVal a1)), (Value.agg (AVal b1))] w0 fun e w => e = .returned (Value.tuple #[(Value.agg (AVal r.1)), vi r.2]) ∧ Ext w0 w ∧ AllCl [] F w := by
 refine enterK Tryz.func135 rfl Tryz.ntmps135 rfl ?_
 have hI := Bun.start hF hc
 clear hc
 rw [m_fixed_Add] at h
 refine sr (l_box (v := (Value.agg (AType t1))) (cs := (AType t1)) hI gn rfl rfl et rfl ?_)
 clear hI; intro b2 c1 w1 hI
 obtain ⟨c2, hI⟩ := hI.relBox .z
 refine l_box (v := (Value.agg (AVal a1))) (cs := (AVal a1)) hI gn rfl rfl et rfl ?_
 clear hI; intro b3 c3 w2 hI
 obtain ⟨c4, hI⟩ := hI.relBox .z
 refine l_box (v := (Value.agg (AVal b1))) (cs := (AVal b1)) hI gn rfl rfl et rfl ?_
 clear hI; intro b4 c5 w3 hI
 obtain ⟨c6, hI⟩ := hI.relBox .z
 refine l_alloc (cs := #[vi 0, vi 0]) hI gn rfl rfl zero_68 rfl ?_
 clear hI; intro b5 c7 w4 hI
 refine sac ?_
 refine nk (sr (sq (y_build (vs := [(0, (Value.func (.func 150) #[] #[]))]) (cs := #[(Value.func (.func 150) #[] #[])]) rfl ⟨rfl, ev_func, trivial⟩ (by kernel_rfl)) ?_))
 refine sq (y_loadN (l := (lType t1)) rfl et u38 rfl size_38 (hI.kblk (l := (lType t1)) (.s (.s .z)) rfl).1) ?_
 refine sq (y_loadN (l := (lVal a1)) rfl et u68 rfl size_68 (hI.kblk (l := (lVal a1)) (.s .z) rfl).1) ?_
 refine sq (y_loadN (l := (lVal b1)) rfl et u68 rfl size_68 (hI.kblk (l := (lVal b1)) .z rfl).1) ?_
 have hI := hI.add (c := clFn_k2 (Value.func (.func 150) #[] #[]) m_fixed_Add_1) ⟨rfl, fun D' w' hs hl x_1 x_2 x_3 r k h => CallV.fn (cap := []) ok_150 (c_fixed_Add_1 D' w' hl x_1 x_2 x_3 trivial r h)⟩
 obtain ⟨r1, hx1, h⟩ := bnd_some h
 refine s_call gn rfl (r_callF (vs := [(Value.agg #[(Value.func (.func 150) #[] #[])]), (Value.agg (AType t1)), (Value.agg (AVal a1)), (Value.agg (AVal b1))]) rfl ok_147 ⟨et, ⟨et, ⟨et, ⟨et, trivial⟩⟩⟩⟩) (Calls.mono (c_fixed_apply (Dj F c7) w4 hI.lt (⟨m_fixed_Add_1⟩ : Gfixed_operation) t1 a1 b1 (Value.func (.func 150) #[] #[]) ⟨(hI.get .z), trivial⟩ r1 hx1) ?_)
 rintro _ w5 ⟨rfl, hx2, hl1⟩
 refine ⟨_, rfl, ?_⟩
 replace hI := (hI.ext hx2)
 refine sq (y_extract rfl et rfl) ?_
 refine sq (y_extract rfl et rfl) ?_
 refine l_store (new := (lVal r1.1)) (cs' := (AVal r1.1)) hI .z gn rfl rfl et et rfl size_68 rfl rfl rfl ?_
 clear hI; intro c8 w6 hI
 refine sa ?_
 refine nk (c_ret ?_)
 obtain rfl := some_inj h
 exact q_ret (vs := [(Value.agg (AVal r1.1)), vi r1.2]) Tryz.results135 ⟨⟨_, ev_tmp rfl rfl, load_agg (l := (lVal r1.1)) u68 rfl size_68 (CellsAt.of_blk (hI.blk .z) rfl)⟩, ⟨ev_tmp rfl rfl, trivial⟩⟩ (fq hI trivial)
theorem c_fixed_Sub_1 (F : NP) (w0 : World) (hF : ∀ k, F k → k < w0.heap.size) (a1 : GType) (x1 : Int) (y1 : Int) (hc : AllCl [] F w0) (r : Int × Int)
  (h : m_fixed_Sub_1 a1 x1 y1 = some r) :
  Calls Tryz.prog 151 #[(Value.agg (AType a1)), vi x1, vi y1] w0 fun e w => e = .returned (Value.tuple #[vi r.1, vi r.2]) ∧ Ext w0 w ∧ AllCl [] F w := by
 refine enterK Tryz.func151 rfl Tryz.ntmps151 rfl ?_
 have hI := Bun.start hF hc
 clear hc
 rw [m_fixed_Sub_1] at h
 refine sr (l_box (v := (Value.agg (AType a1))) (cs := (AType a1)) hI gn rfl rfl et rfl ?_)
 clear hI; intro b1 c1 w1 hI
 obtain ⟨c2, hI⟩ := hI.relBox .z
 refine sac ?_
 refine sac ?_
 refine nk (sr (sm ?_))
 refine sm ?_
 refine sq (y_sub rfl et et) ?_
 refine sa ?_
 refine sac ?_
 refine nk (c_ret ?_)
 obtain rfl := some_inj h
 exact q_ret (vs := [(vi (wi64 (x1 - y1))), vi 0]) Tryz.results151 ⟨ev_tmp rfl rfl, ⟨ev_tmp rfl rfl, trivial⟩⟩ (fq hI trivial)
theorem c_fixed_Sub (F : NP) (w0 : World) (hF : ∀ k, F k → k < w0.heap.size) (t1 : GType) (a1 : GVal) (b1 : GVal) (hc : AllCl [] F w0) (r : GVal × Int)
  (h : m_fixed_Sub t1 a1 b1 = some r) :
  Calls Tryz.prog 136 #[(Value.agg (AType t1)), (Value.agg (AVal a1)), (Value.agg (AVal b1))] w0 fun e w => e = .returned (Value.tuple #[(Value.agg (AVal r.1)), vi r.2]) ∧ Ext w0 w ∧ AllCl [] F w := by
 refine enterK Tryz.func136 rfl Tryz.ntmps136 rfl ?_
 have hI := Bun.start hF hc
 clear hc
 rw [m_fixed_Sub] at h
 refine sr (l_box (v := (Value.agg (AType t1))) (cs := (AType t1)) hI gn rfl rfl et rfl ?_)
 clear hI; intro b2 c1 w1 hI
 obtain ⟨c2, hI⟩ := hI.relBox .z
 refine l_box (v := (Value.agg (AVal a1))) (cs := (AVal a1)) hI gn rfl rfl et rfl ?_
 clear hI; intro b3 c3 w2 hI
 obtain ⟨c4, hI⟩ := hI.relBox .z
 refine l_box (v := (Value.agg (AVal b1))) (cs := (AVal b1)) hI gn rfl rfl et rfl ?_
 clear hI; intro b4 c5 w3 hI
 obtain ⟨c6, hI⟩ := hI.relBox .z
 refine l_alloc (cs := #[vi 0, vi 0]) hI gn rfl rfl zero_68 rfl ?_
 clear hI; intro b5 c7 w4 hI
 refine sac ?_
 refine nk (sr (sq (y_build (vs := [(0, (Value.func (.func 151) #[] #[]))]) (cs := #[(Value.func (.func 151) #[] #[])]) rfl ⟨rfl, ev_func, trivial⟩ (by kernel_rfl)) ?_))
 refine sq (y_loadN (l := (lType t1)) rfl et u38 rfl size_38 (hI.kblk (l := (lType t1)) (.s (.s .z)) rfl).1) ?_
 refine sq (y_loadN (l := (lVal a1)) rfl et u68 rfl size_68 (hI.kblk (l := (lVal a1)) (.s .z) rfl).1) ?_
 refine sq (y_loadN (l := (lVal b1)) rfl et u68 rfl size_68 (hI.kblk (l := (lVal b1)) .z rfl).1) ?_
 have hI := hI.add (c := clFn_k2 (Value.func (.func 151) #[] #[]) m_fixed_Sub_1) ⟨rfl, fun D' w' hs hl x_1 x_2 x_3 r k h => CallV.fn (cap := []) ok_151 (c_fixed_Sub_1 D' w' hl x_1 x_2 x_3 trivial r h)⟩
 obtain ⟨r1, hx1, h⟩ := bnd_some h
 refine s_call gn rfl (r_callF (vs := [(Value.agg #[(Value.func (.func 151) #[] #[])]), (Value.agg (AType t1)), (Value.agg (AVal a1)), (Value.agg (AVal b1))]) rfl ok_147 ⟨et, ⟨et, ⟨et, ⟨et, trivial⟩⟩⟩⟩) (Calls.mono (c_fixed_apply (Dj F c7) w4 hI.lt (⟨m_fixed_Sub_1⟩ : Gfixed_operation) t1 a1 b1 (Value.func (.func 151) #[] #[]) ⟨(hI.get .z), trivial⟩ r1 hx1) ?_)
 rintro _ w5 ⟨rfl, hx2, hl1⟩
 refine ⟨_, rfl, ?_⟩
 replace hI := (hI.ext hx2)
 refine sq (y_extract rfl et rfl) ?_
 refine sq (y_extract rfl et rfl) ?_
 refine l_store (new := (lVal r1.1)) (cs' := (AVal r1.1)) hI .z gn rfl rfl et et rfl size_68 rfl rfl rfl ?_
 clear hI; intro c8 w6 hI
 refine sa ?_
 refine nk (c_ret ?_)
 obtain rfl := some_inj h
 exact q_ret (vs := [(Value.agg (AVal r1.1)), vi r1.2]) Tryz.results136 ⟨⟨_, ev_tmp rfl rfl, load_agg (l := (lVal r1.1)) u68 rfl size_68 (CellsAt.of_blk (hI.blk .z) rfl)⟩, ⟨ev_tmp rfl rfl, trivial⟩⟩ (fq hI trivial)
theorem c_round_mode (F : NP) (w0 : World) (hF : ∀ k, F k → k < w0.heap.size) (how1 : Int) (hc : AllCl [] F w0) (r : Bool)
  (h : m_round_mode how1 = some r) :
  Calls Tryz.prog 159 #[vi how1] w0 fun e w => e = .returned (vb r) ∧ Ext w0 w ∧ AllCl [] F w := by
 refine enterK Tryz.func159 rfl Tryz.ntmps159 rfl ?_
 have hI := Bun.start hF hc
 clear hc
 rw [m_round_mode] at h
 refine sr (sac ?_)
 refine nk (sr (sm ?_))
 refine sq (y_geq rfl et ev_const) ?_
 refine sm ?_
 refine s_gval (g_true rfl rfl rfl rfl) rfl (fun hc => y_move rfl et) ?_
 refine s_gval (g_true rfl rfl rfl rfl) rfl (fun hc => y_leq rfl (ev_gv et hc) ev_const) ?_
 refine sq (y_and rfl et et) ?_
 refine sa ?_
 refine nk (c_ret ?_)
 obtain rfl := some_inj h
 exact q_ret (vs := [(vb ((decide (1 ≤ how1)) && (decide (how1 ≤ 4))))]) Tryz.results159 ⟨ev_tmp rfl rfl, trivial⟩ (fq hI trivial)
theorem c_round_magnitude (F : NP) (w0 : World) (hF : ∀ k, F k → k < w0.heap.size) (n1 : Int) (hc : AllCl [] F w0) (r : Int)
  (h : m_round_magnitude n1 = some r) :
  Calls Tryz.prog 161 #[vi n1] w0 fun e w => e = .returned (Value.int .u64 r) ∧ Ext w0 w ∧ AllCl [] F w := by
 refine enterK Tryz.func161 rfl Tryz.ntmps161 rfl ?_
 have hI := Bun.start hF hc
 clear hc
 rw [m_round_magnitude] at h
 refine sr (sac ?_)
 refine nk (c_seq (sr (sm ?_)))
 refine sq (y_lss rfl et ev_const) ?_
 refine nk (cif h et (fun hb h => ?_) (fun hb h => ?_))
 ·refine sr (sm ?_)
  refine sq (y_conv rfl (by rw [u2]; rfl) u129 et) ?_
  refine sq (y_neg rfl et) ?_
  refine sa ?_
  refine nk (c_ret ?_)
  obtain rfl := some_inj h
  exact q_ret (vs := [(Value.int .u64 (wu64 (-(wu64 n1))))]) Tryz.results161 ⟨ev_tmp rfl rfl, trivial⟩ (fq hI trivial)
 refine c_skip (k_same (sr (sm ?_)))
 refine sq (y_conv rfl (by rw [u2]; rfl) u129 et) ?_
 refine sa ?_
 refine nk (c_ret ?_)
 obtain rfl := some_inj h
 exact q_ret (vs := [(Value.int .u64 (wu64 n1))]) Tryz.results161 ⟨ev_tmp rfl rfl, trivial⟩ (fq hI trivial)
theorem c_round_rounded (F : NP) (w0 : World) (hF : ∀ k, F k → k < w0.heap.size) (a1 : Int) (b1 : Int) (negative1 : Bool) (how1 : Int) (hc : AllCl [] F w0) (r : Int)
  (h : m_round_rounded a1 b1 negative1 how1 = some r) :
  Calls Tryz.prog 160 #[(Value.int .u64 a1), (Value.int .u64 b1), vb negative1, vi how1] w0 fun e w => e = .returned (Value.int .u64 r) ∧ Ext w0 w ∧ AllCl [] F w := by
 refine enterK Tryz.func160 rfl Tryz.ntmps160 rfl ?_
 have hI := Bun.start hF hc
 clear hc
 rw [m_round_rounded] at h
 refine sr (sac ?_)
 refine nk (c_scope ?_)
 refine c_seq (c_drawX [] false (.c (0, .q) (.c (1, .q) (.c (2, .q) (.c (3, .q) (.c (4, .q) (.c (5, .q) (.c (6, .q) (.c (7, .q) .n)))))))) hI (by kernel_rfl) (by kernel_rfl) ?_)
 clear hI; intro w1 hI
 refine a_q rfl gn rfl (fun w' => y_move rfl et) ?_
 refine a_q rfl gn rfl (fun w' => y_move rfl et) ?_
 obtain ⟨ho1, h⟩ := chk_some h
 refine a_q rfl gn rfl (fun w' => y_quo rfl et et ho1) ?_
 refine a_q rfl gn rfl (fun w' => y_move rfl et) ?_
 refine a_q rfl gn rfl (fun w' => y_move rfl et) ?_
 refine a_q rfl gn rfl (fun w' => y_rem rfl et et ho1) ?_
 refine a_q rfl gn rfl (fun w' => y_assign rfl et) ?_
 refine a_q rfl gn rfl (fun w' => y_assign rfl et) ?_
 refine a_nil ?_
 refine k_same (sr (sm ?_))
 refine sa ?_
 refine nk (c_seq (c_label ?_))
 refine k_same (c_seq (sr (sm ?_)))
 refine sm ?_
 refine sq (y_add rfl et ev_const) ?_
 refine sq (y_build (vs := [(0, (Value.int .u64 (wu64 (Int.tdiv a1 b1)))), (1, (Value.int .u64 (wu64 ((wu64 (Int.tdiv a1 b1)) + 1))))]) (cs := #[(Value.int .u64 (wu64 (Int.tdiv a1 b1))), (Value.int .u64 (wu64 ((wu64 (Int.tdiv a1 b1)) + 1)))]) rfl ⟨rfl, et, ⟨rfl, et, trivial⟩⟩ (by kernel_rfl)) ?_
 refine sq (y_move rfl ev_const) ?_
 refine nk (c_block (c_loop (α := Nat × Int × Int) (fun x => fun w => ∃ C, Bun noM F w0 C w [] [] ∧ m_round_rounded_l1 a1 b1 how1 negative1 (x.1) (x.2.1) (x.2.2) = some r) (fun x _ => x.1) (fun x => [(1, (Value.int .u64 b1)), (2, vb negative1), (3, vi how1), (9, (Value.int .u64 (wu64 (Int.tdiv a1 b1)))), (10, (Value.int .u64 (Int.tmod a1 b1))), (11, (Value.int .u64 (x.2.1))), (22, (Value.agg #[(Value.int .u64 (wu64 (Int.tdiv a1 b1))), (Value.int .u64 (wu64 ((wu64 (Int.tdiv a1 b1)) + 1)))])), (23, vi (x.2.2))]) (fu, wu64 (Int.tdiv a1 b1), 0) ⟨_, hI.arr .n trivial, h⟩ ⟨rfl, rfl, rfl, rfl, rfl, rfl, rfl, rfl, trivial⟩ ?_))
 clear h hI; rintro ⟨fuel1, m1, i1⟩ w2 ⟨c1, hI, h⟩
 dsimp only at hI h
 rcases fuel1 with _ | fuel1
 ·rw [m_round_rounded_l1] at h; cases h
 rw [m_round_rounded_l1] at h
 refine c_sub (e := [(1, (Value.int .u64 b1)), (2, vb negative1), (3, vi how1), (9, (Value.int .u64 (wu64 (Int.tdiv a1 b1)))), (10, (Value.int .u64 (Int.tmod a1 b1))), (11, (Value.int .u64 m1)), (22, (Value.agg #[(Value.int .u64 (wu64 (Int.tdiv a1 b1))), (Value.int .u64 (wu64 ((wu64 (Int.tdiv a1 b1)) + 1)))])), (23, vi i1)]) ⟨rfl, rfl, rfl, rfl, rfl, rfl, rfl, rfl, trivial⟩ ?_
 refine sr (sq (y_lss rfl et ev_const) ?_)
 refine nk (c_seq (cif h et (fun hb h => ?_) (fun hb h => ?_)))
 ·refine c_skip (k_same (c_seq (c_block (sr ?_))))
  obtain ⟨e1, hx1, h⟩ := bnd_some h
  refine sq (y_indexA (fun x => (Value.int .u64 x)) rfl et et hx1 ⟨fun _ => by kernel_rfl, fun _ => by kernel_rfl, trivial⟩) ?_
  refine sa ?_
  refine nk (c_block (sr (sm ?_)))
  refine sq (y_eql rfl et ev_const) ?_
  refine sm ?_
  refine s_gval (g_false rfl rfl rfl rfl) rfl (fun hc => y_move rfl et) ?_
  refine s_gval (g_false rfl rfl rfl rfl) rfl (fun hc => y_eql rfl (ev_gv et hc) ev_const) ?_
  refine sq (y_or rfl et et) ?_
  refine sa ?_
  refine nk (cif h et (fun hb h => ?_) (fun hb h => ?_))
  ·refine c_exit ?_
   refine k_out rfl ?_
   refine k_out rfl ?_
   refine k_in ?_
   refine k_same (sr (sm ?_))
   refine sa ?_
   refine nk (c_ret ?_)
   obtain rfl := some_inj h
   exact q_ret (vs := [(Value.int .u64 e1)]) Tryz.results160 ⟨ev_tmp rfl rfl, trivial⟩ (fq hI trivial)
  refine c_join (α := Bool) (fun _ => ⟨67, []⟩) (fun x => [(1, (Value.int .u64 b1)), (2, vb negative1), (3, vi how1), (9, (Value.int .u64 (wu64 (Int.tdiv a1 b1)))), (10, (Value.int .u64 (Int.tmod a1 b1))), (11, (Value.int .u64 e1)), (22, (Value.agg #[(Value.int .u64 (wu64 (Int.tdiv a1 b1))), (Value.int .u64 (wu64 ((wu64 (Int.tdiv a1 b1)) + 1)))])), (23, vi i1), (33, vb x)]) (fun x => fun w => ∃ C, Bun noM F w0 C w [] [] ∧ m_round_rounded_j1 e1 how1 a1 b1 (m_round_rounded_l1 a1 b1 how1 negative1 fuel1) i1 x = some r) ?_ ?_
  ·clear h hI; rintro i2 w3 ⟨c2, hI, h⟩
   try dsimp only at hI h
   rw [m_round_rounded_j1] at h
   refine c_sub (e := [(1, (Value.int .u64 b1)), (2, vb negative1), (3, vi how1), (9, (Value.int .u64 (wu64 (Int.tdiv a1 b1)))), (10, (Value.int .u64 (Int.tmod a1 b1))), (11, (Value.int .u64 e1)), (22, (Value.agg #[(Value.int .u64 (wu64 (Int.tdiv a1 b1))), (Value.int .u64 (wu64 ((wu64 (Int.tdiv a1 b1)) + 1)))])), (23, vi i1), (33, vb i2)]) ⟨rfl, rfl, rfl, rfl, rfl, rfl, rfl, rfl, rfl, trivial⟩ ?_
   refine cif h et (fun hb h => ?_) (fun hb h => ?_)
   ·refine c_exit ?_
    refine k_out rfl ?_
    refine k_out rfl ?_
    refine k_in ?_
    refine k_same (sr (sm ?_))
    refine sa ?_
    refine nk (c_ret ?_)
    obtain rfl := some_inj h
    exact q_ret (vs := [(Value.int .u64 e1)]) Tryz.results160 ⟨ev_tmp rfl rfl, trivial⟩ (fq hI trivial)
   refine sr (sm ?_)
   refine sq (y_eql rfl et ev_const) ?_
   refine sm ?_
   refine s_gval (g_true rfl rfl rfl rfl) rfl (fun hc => y_move rfl et) ?_
   refine s_gval (g_true rfl rfl rfl rfl) rfl (fun hc => y_mul rfl ev_const (ev_gv et hc)) ?_
   refine s_gval (g_true rfl rfl rfl rfl) rfl (fun hc => y_move rfl et) ?_
   refine s_gval (g_true rfl rfl rfl rfl) rfl (fun hc => y_lss rfl (ev_gv et hc) (ev_gv et hc)) ?_
   refine s_gval (g_true rfl rfl rfl rfl) rfl (fun hc => y_move rfl (ev_gv et hc)) ?_
   refine s_gval (g_false2 rfl rfl rfl rfl) rfl (fun hc => y_move rfl et) ?_
   refine s_gval (g_false2 rfl rfl rfl rfl) rfl (fun hc => y_mul rfl ev_const (ev_gv et hc)) ?_
   refine s_gval (g_false2 rfl rfl rfl rfl) rfl (fun hc => y_move rfl et) ?_
   refine s_gval (g_false2 rfl rfl rfl rfl) rfl (fun hc => y_eql rfl (ev_gv et hc) (ev_gv et hc)) ?_
   refine s_gval (g_false2 rfl rfl rfl rfl) rfl (fun hc => y_move rfl (ev_gv et hc)) ?_
   refine s_gval (g_true2 rfl rfl rfl rfl) rfl (fun hc => y_move rfl et) ?_
   refine s_gval (g_true2 rfl rfl rfl rfl) rfl (fun hc => y_rem rfl (ev_gv et hc) ev_const (by decide)) ?_
   refine s_gval (g_true2 rfl rfl rfl rfl) rfl (fun hc => y_eql rfl (ev_gv et hc) ev_const) ?_
   refine s_gval (g_false2 rfl rfl rfl rfl) rfl (fun hc => y_and2 rfl hc et et) ?_
   refine s_gval (g_true rfl rfl rfl rfl) rfl (fun hc => y_or2 rfl hc et et) ?_
   refine sq (y_and rfl et et) ?_
   refine sa ?_
   refine nk (cif h et (fun hb h => ?_) (fun hb h => ?_))
   ·refine c_exit ?_
    refine k_out rfl ?_
    refine k_out rfl ?_
    refine k_in ?_
    refine k_next (e := [(11, (Value.int .u64 e1))]) ⟨rfl, trivial⟩ ?_
    refine sr (sm ?_)
    refine sa ?_
    refine nk (c_ret ?_)
    obtain rfl := some_inj h
    exact q_ret (vs := [(Value.int .u64 e1)]) Tryz.results160 ⟨ev_tmp rfl rfl, trivial⟩ (fq hI trivial)
   refine c_skip (k_same (c_region rfl ?_))
   refine sq (y_add rfl et ev_const) ?_
   refine sm ?_
   refine s_nil ?_
   exact k_loop (fuel1, e1, wi64 (i1 + 1)) ⟨rfl, rfl, rfl, rfl, rfl, rfl, rfl, rfl, trivial⟩ ⟨_, hI.arr .n trivial, h⟩ (Nat.lt_succ_self _)
  refine sr (sm ?_)
  refine sq (y_eql rfl et ev_const) ?_
  refine sm ?_
  refine s_gval (g_true rfl rfl rfl rfl) rfl (fun hc => y_move rfl et) ?_
  refine s_gval (g_true rfl rfl rfl rfl) rfl (fun hc => y_not rfl (ev_gv et hc)) ?_
  refine sq (y_and rfl et et) ?_
  refine sa ?_
  refine nk (cif h et (fun hb h => ?_) (fun hb h => ?_))
  ·exact c_skip (k_join ((decide (how1 = 1)) && (!negative1)) ⟨rfl, rfl, rfl, rfl, rfl, rfl, rfl, rfl, rfl, trivial⟩ ⟨_, hI.arr .n trivial, h⟩ rfl)
  refine c_region rfl ?_
  refine sm ?_
  refine sq (y_eql rfl et ev_const) ?_
  refine sm ?_
  refine s_gval (g_true rfl rfl rfl rfl) rfl (fun hc => y_move rfl et) ?_
  refine sq (y_and rfl et et) ?_
  refine sa ?_
  refine s_nil ?_
  exact k_join ((decide (how1 = 2)) && negative1) ⟨rfl, rfl, rfl, rfl, rfl, rfl, rfl, rfl, rfl, trivial⟩ ⟨_, hI.arr .n trivial, h⟩ rfl
 refine c_exit ?_
 refine k_in ?_
 refine k_same (sr (sm ?_))
 refine sa ?_
 refine nk (c_ret ?_)
 obtain rfl := some_inj h
 exact q_ret (vs := [(Value.int .u64 m1)]) Tryz.results160 ⟨ev_tmp rfl rfl, trivial⟩ (fq hI trivial)
theorem c_round_Divide (F : NP) (w0 : World) (hF : ∀ k, F k → k < w0.heap.size) (n1 : Int) (d1 : Int) (how1 : Int) (hc : AllCl [] F w0) (r : Int × Int)
  (h : m_round_Divide n1 d1 how1 = some r) :
  Calls Tryz.prog 153 #[vi n1, vi d1, vi how1] w0 fun e w => e = .returned (Value.tuple #[vi r.1, vi r.2]) ∧ Ext w0 w ∧ AllCl [] F w := by
 refine enterK Tryz.func153 rfl Tryz.ntmps153 rfl ?_
 have hI := Bun.start hF hc
 clear hc
 rw [m_round_Divide] at h
 refine sr (sac ?_)
 refine sac ?_
 refine nk (c_seq (sr (sm ?_)))
 obtain ⟨r1, hx1, h⟩ := bnd_some h
 refine s_call gn rfl (r_callF (vs := [vi how1]) rfl ok_159 ⟨et, trivial⟩) (Calls.mono (c_round_mode (Dj F noM) w0 hI.lt how1 trivial r1 hx1) ?_)
 rintro _ w1 ⟨rfl, hx2, hl1⟩
 refine ⟨_, rfl, ?_⟩
 replace hI := (hI.ext hx2)
 refine sq (y_not rfl et) ?_
 refine nk (cif h et (fun hb h => ?_) (fun hb h => ?_))
 ·refine sr (sac ?_)
  refine sac ?_
  refine nk (c_ret ?_)
  obtain rfl := some_inj h
  exact q_ret (vs := [vi 0, vi 1]) Tryz.results153 ⟨ev_tmp rfl rfl, ⟨ev_tmp rfl rfl, trivial⟩⟩ (fq hI trivial)
 refine c_skip (k_same (c_seq (sr (sm ?_))))
 refine sq (y_eql rfl et ev_const) ?_
 refine nk (cif h et (fun hb h => ?_) (fun hb h => ?_))
 ·refine sr (sac ?_)
  refine sac ?_
  refine nk (c_ret ?_)
  obtain rfl := some_inj h
  exact q_ret (vs := [vi 0, vi 4]) Tryz.results153 ⟨ev_tmp rfl rfl, ⟨ev_tmp rfl rfl, trivial⟩⟩ (fq hI trivial)
 refine c_skip (k_same (sr (sm ?_)))
 refine sq (y_lss rfl et ev_const) ?_
 refine sm ?_
 refine sq (y_lss rfl et ev_const) ?_
 refine sq (y_neb rfl u4 et et) ?_
 obtain ⟨negative1, hx3, h⟩ := bnd_some h
 refine sq (binU (y_assign rfl et) (congrArg Value.bool (some_inj hx3))) ?_
 refine nk (sr (sm ?_))
 obtain ⟨r2, hx4, h⟩ := bnd_some h
 refine s_call gn rfl (r_callF (vs := [vi n1]) rfl ok_161 ⟨et, trivial⟩) (Calls.mono (c_round_magnitude (Dj F noM) w1 hI.lt n1 trivial r2 hx4) ?_)
 rintro _ w2 ⟨rfl, hx5, hl2⟩
 refine ⟨_, rfl, ?_⟩
 replace hI := (hI.ext hx5)
 refine sm ?_
 obtain ⟨r3, hx6, h⟩ := bnd_some h
 refine s_call gn rfl (r_callF (vs := [vi d1]) rfl ok_161 ⟨et, trivial⟩) (Calls.mono (c_round_magnitude (Dj F noM) w2 hI.lt d1 trivial r3 hx6) ?_)
 rintro _ w3 ⟨rfl, hx7, hl3⟩
 refine ⟨_, rfl, ?_⟩
 replace hI := (hI.ext hx7)
 refine sm ?_
 refine sm ?_
 obtain ⟨r4, hx8, h⟩ := bnd_some h
 refine s_call gn rfl (r_callF (vs := [(Value.int .u64 r2), (Value.int .u64 r3), vb negative1, vi how1]) rfl ok_160 ⟨et, ⟨et, ⟨et, ⟨et, trivial⟩⟩⟩⟩) (Calls.mono (c_round_rounded (Dj F noM) w3 hI.lt r2 r3 negative1 how1 trivial r4 hx8) ?_)
 rintro _ w4 ⟨rfl, hx9, hl4⟩
 refine ⟨_, rfl, ?_⟩
 replace hI := (hI.ext hx9)
 refine sa ?_
 refine nk (c_seq (sr (sm ?_)))
 refine nk (cif h et (fun hb h => ?_) (fun hb h => ?_))
 ·refine sr (sm ?_)
  refine sq (y_neg rfl et) ?_
  refine sq (y_conv rfl (by rw [u129]; rfl) u2 et) ?_
  refine sa ?_
  refine sac ?_
  refine s_nil ?_
  refine k_next (e := [(6, (vi (wi64 (wu64 (-r4))))), (7, vi 0)]) ⟨rfl, rfl, trivial⟩ ?_
  refine c_ret ?_
  obtain rfl := some_inj h
  exact q_ret (vs := [(vi (wi64 (wu64 (-r4)))), vi 0]) Tryz.results153 ⟨ev_tmp rfl rfl, ⟨ev_tmp rfl rfl, trivial⟩⟩ (fq hI trivial)
 refine c_skip (k_next (e := [(9, (Value.int .u64 r4))]) ⟨rfl, trivial⟩ ?_)
 refine c_seq (sr (sm ?_))
 refine sq (y_geq rfl et ev_const) ?_
 refine nk (cif h et (fun hb h => ?_) (fun hb h => ?_))
 ·refine sr (sac ?_)
  refine sac ?_
  refine nk (c_ret ?_)
  obtain rfl := some_inj h
  exact q_ret (vs := [vi 0, vi 3]) Tryz.results153 ⟨ev_tmp rfl rfl, ⟨ev_tmp rfl rfl, trivial⟩⟩ (fq hI trivial)
 refine c_skip (k_same (sr (sm ?_)))
 refine sq (y_conv rfl (by rw [u129]; rfl) u2 et) ?_
 refine sa ?_
 refine sac ?_
 refine nk (c_ret ?_)
 obtain rfl := some_inj h
 exact q_ret (vs := [vi (wi64 r4), vi 0]) Tryz.results153 ⟨ev_tmp rfl rfl, ⟨ev_tmp rfl rfl, trivial⟩⟩ (fq hI trivial)
theorem c_fixed_Mul_1 (F : NP) (w0 : World) (hF : ∀ k, F k → k < w0.heap.size) (t1 : GType) (x1 : Int) (y1 : Int) (hc : AllCl [] F w0) (r : Int × Int)
  (h : m_fixed_Mul_1 t1 x1 y1 = some r) :
  Calls Tryz.prog 152 #[(Value.agg (AType t1)), vi x1, vi y1] w0 fun e w => e = .returned (Value.tuple #[vi r.1, vi r.2]) ∧ Ext w0 w ∧ AllCl [] F w := by
 refine enterK Tryz.func152 rfl Tryz.ntmps152 rfl ?_
 have hI := Bun.start hF hc
 clear hc
 rw [m_fixed_Mul_1] at h
 refine sr (l_box (v := (Value.agg (AType t1))) (cs := (AType t1)) hI gn rfl rfl et rfl ?_)
 clear hI; intro b1 c1 w1 hI
 obtain ⟨c2, hI⟩ := hI.relBox .z
 refine sac ?_
 refine sac ?_
 refine nk (c_seq (c_drawX [] false (.c (0, .q) (.c (1, .q) (.c (2, .q) (.c (3, .q) (.c (4, .q) (.c (5, .q) (.c (6, .q) (.c (7, .q) (.c (8, .s) (.c (9, .q) (.c (10, .q) (.c (11, .q) (.c (12, .q) .n))))))))))))) hI (by kernel_rfl) (by kernel_rfl) ?_))
 clear hI; intro w2 hI
 refine a_q rfl gn rfl (fun w' => y_move rfl et) ?_
 refine a_q rfl gn rfl (fun w' => y_move rfl et) ?_
 refine a_q rfl gn rfl (fun w' => y_mul rfl et et) ?_
 refine a_q rfl gn rfl (fun w' => y_fieldAddr rfl et u38 rfl size_3 rfl) ?_
 refine a_read rfl gn rfl (fun w' hw' => (y_load1 (v := (vi t1.Frac)) rfl et u3 rfl ((hI.kblk (l := [vi t1.Frac]) .z rfl).at_ (SX.any rfl hw')))) (by kernel_rfl) ?_
 obtain ⟨ho1, h⟩ := chk_some h
 refine a_q rfl gn rfl (fun w' => y_shl rfl ev_const et ho1) ?_
 refine a_q rfl gn rfl (fun w' => y_fieldAddr rfl et u38 rfl size_3 rfl) ?_
 refine a_read rfl gn rfl (fun w' hw' => (y_load1 (v := (vi t1.Round)) rfl et u3 rfl ((hI.kblk (l := [vi t1.Round]) .z rfl).at_ (SX.any rfl hw')))) (by kernel_rfl) ?_
 obtain ⟨r1, hx1, h⟩ := bnd_some h
 refine la_call rfl gn rfl (r_callF (vs := [(vi (wi64 (x1 * y1))), (vi (wi64 (1 * 2 ^ (min (Int.toNat t1.Frac) 64)))), vi t1.Round]) rfl ok_153 ⟨et, ⟨et, ⟨et, trivial⟩⟩⟩) (Calls.mono (c_round_Divide (Dj F c2) w2 hI.lt (wi64 (x1 * y1)) (wi64 (1 * 2 ^ (min (Int.toNat t1.Frac) 64))) t1.Round trivial r1 hx1) ?_)
 rintro _ w3 ⟨rfl, hx2, hl1⟩
 refine ⟨_, rfl, hx2, ?_⟩
 replace hI := (hI.ext hx2)
 refine a_q rfl gn rfl (fun w' => y_extract rfl et rfl) ?_
 refine a_q rfl gn rfl (fun w' => y_extract rfl et rfl) ?_
 refine a_q rfl gn rfl (fun w' => y_assign rfl et) ?_
 refine a_q rfl gn rfl (fun w' => y_assign rfl et) ?_
 refine a_nil ?_
 refine k_same (c_ret ?_)
 obtain rfl := some_inj h
 exact q_ret (vs := [vi r1.1, vi r1.2]) Tryz.results152 ⟨ev_tmp rfl rfl, ⟨ev_tmp rfl rfl, trivial⟩⟩ (fq hI trivial)
theorem c_fixed_Mul (F : NP) (w0 : World) (hF : ∀ k, F k → k < w0.heap.size) (t1 : GType) (a1 : GVal) (b1 : GVal) (hc : AllCl [] F w0) (r : GVal × Int)
  (h : m_fixed_Mul t1 a1 b1 = some r) :
  Calls Tryz.prog 137 #[(Value.agg (AType t1)), (Value.agg (AVal a1)), (Value.agg (AVal b1))] w0 fun e w => e = .returned (Value.tuple #[(Value.agg (AVal r.1)), vi r.2]) ∧ Ext w0 w ∧ AllCl [] F w := by
 refine enterK Tryz.func137 rfl Tryz.ntmps137 rfl ?_
 have hI := Bun.start hF hc
 clear hc
 rw [m_fixed_Mul] at h
 refine sr (l_box (v := (Value.agg (AType t1))) (cs := (AType t1)) hI gn rfl rfl et rfl ?_)
 clear hI; intro b2 c1 w1 hI
 obtain ⟨c2, hI⟩ := hI.relBox .z
 refine l_box (v := (Value.agg (AVal a1))) (cs := (AVal a1)) hI gn rfl rfl et rfl ?_
 clear hI; intro b3 c3 w2 hI
 obtain ⟨c4, hI⟩ := hI.relBox .z
 refine l_box (v := (Value.agg (AVal b1))) (cs := (AVal b1)) hI gn rfl rfl et rfl ?_
 clear hI; intro b4 c5 w3 hI
 obtain ⟨c6, hI⟩ := hI.relBox .z
 refine l_alloc (cs := #[vi 0, vi 0]) hI gn rfl rfl zero_68 rfl ?_
 clear hI; intro b5 c7 w4 hI
 refine sac ?_
 refine nk (sr (sq (y_build (vs := [(0, (Value.func (.func 152) #[] #[]))]) (cs := #[(Value.func (.func 152) #[] #[])]) rfl ⟨rfl, ev_func, trivial⟩ (by kernel_rfl)) ?_))
 refine sq (y_loadN (l := (lType t1)) rfl et u38 rfl size_38 (hI.kblk (l := (lType t1)) (.s (.s .z)) rfl).1) ?_
 refine sq (y_loadN (l := (lVal a1)) rfl et u68 rfl size_68 (hI.kblk (l := (lVal a1)) (.s .z) rfl).1) ?_
 refine sq (y_loadN (l := (lVal b1)) rfl et u68 rfl size_68 (hI.kblk (l := (lVal b1)) .z rfl).1) ?_
 have hI := hI.add (c := clFn_k2 (Value.func (.func 152) #[] #[]) m_fixed_Mul_1) ⟨rfl, fun D' w' hs hl x_1 x_2 x_3 r k h => CallV.fn (cap := []) ok_152 (c_fixed_Mul_1 D' w' hl x_1 x_2 x_3 trivial r h)⟩
 obtain ⟨r1, hx1, h⟩ := bnd_some h
 refine s_call gn rfl (r_callF (vs := [(Value.agg #[(Value.func (.func 152) #[] #[])]), (Value.agg (AType t1)), (Value.agg (AVal a1)), (Value.agg (AVal b1))]) rfl ok_147 ⟨et, ⟨et, ⟨et, ⟨et, trivial⟩⟩⟩⟩) (Calls.mono (c_fixed_apply (Dj F c7) w4 hI.lt (⟨m_fixed_Mul_1⟩ : Gfixed_operation) t1 a1 b1 (Value.func (.func 152) #[] #[]) ⟨(hI.get .z), trivial⟩ r1 hx1) ?_)
 rintro _ w5 ⟨rfl, hx2, hl1⟩
 refine ⟨_, rfl, ?_⟩
 replace hI := (hI.ext hx2)
 refine sq (y_extract rfl et rfl) ?_
 refine sq (y_extract rfl et rfl) ?_
 refine l_store (new := (lVal r1.1)) (cs' := (AVal r1.1)) hI .z gn rfl rfl et et rfl size_68 rfl rfl rfl ?_
 clear hI; intro c8 w6 hI
 refine sa ?_
 refine nk (c_ret ?_)
 obtain rfl := some_inj h
 exact q_ret (vs := [(Value.agg (AVal r1.1)), vi r1.2]) Tryz.results137 ⟨⟨_, ev_tmp rfl rfl, load_agg (l := (lVal r1.1)) u68 rfl size_68 (CellsAt.of_blk (hI.blk .z) rfl)⟩, ⟨ev_tmp rfl rfl, trivial⟩⟩ (fq hI trivial)
theorem c_fixed_Div_1 (F : NP) (w0 : World) (hF : ∀ k, F k → k < w0.heap.size) (t1 : GType) (x1 : Int) (y1 : Int) (hc : AllCl [] F w0) (r : Int × Int)
  (h : m_fixed_Div_1 t1 x1 y1 = some r) :
  Calls Tryz.prog 154 #[(Value.agg (AType t1)), vi x1, vi y1] w0 fun e w => e = .returned (Value.tuple #[vi r.1, vi r.2]) ∧ Ext w0 w ∧ AllCl [] F w := by
 refine enterK Tryz.func154 rfl Tryz.ntmps154 rfl ?_
 have hI := Bun.start hF hc
 clear hc
 rw [m_fixed_Div_1] at h
 refine sr (l_box (v := (Value.agg (AType t1))) (cs := (AType t1)) hI gn rfl rfl et rfl ?_)
 clear hI; intro b1 c1 w1 hI
 obtain ⟨c2, hI⟩ := hI.relBox .z
 refine sac ?_
 refine sac ?_
 refine nk (c_seq (c_drawX [] false (.c (0, .q) (.c (1, .q) (.c (2, .q) (.c (3, .q) (.c (4, .q) (.c (5, .q) (.c (6, .q) (.c (7, .s) (.c (8, .q) (.c (9, .q) (.c (10, .q) (.c (11, .q) .n)))))))))))) hI (by kernel_rfl) (by kernel_rfl) ?_))
 clear hI; intro w2 hI
 refine a_q rfl gn rfl (fun w' => y_move rfl et) ?_
 refine a_q rfl gn rfl (fun w' => y_fieldAddr rfl et u38 rfl size_3 rfl) ?_
 refine a_read rfl gn rfl (fun w' hw' => (y_load1 (v := (vi t1.Frac)) rfl et u3 rfl ((hI.kblk (l := [vi t1.Frac]) .z rfl).at_ (SX.any rfl hw')))) (by kernel_rfl) ?_
 obtain ⟨ho1, h⟩ := chk_some h
 refine a_q rfl gn rfl (fun w' => y_shl rfl et et ho1) ?_
 refine a_q rfl gn rfl (fun w' => y_move rfl et) ?_
 refine a_q rfl gn rfl (fun w' => y_fieldAddr rfl et u38 rfl size_3 rfl) ?_
 refine a_read rfl gn rfl (fun w' hw' => (y_load1 (v := (vi t1.Round)) rfl et u3 rfl ((hI.kblk (l := [vi t1.Round]) .z rfl).at_ (SX.any rfl hw')))) (by kernel_rfl) ?_
 obtain ⟨r1, hx1, h⟩ := bnd_some h
 refine la_call rfl gn rfl (r_callF (vs := [(vi (wi64 (x1 * 2 ^ (min (Int.toNat t1.Frac) 64)))), vi y1, vi t1.Round]) rfl ok_153 ⟨et, ⟨et, ⟨et, trivial⟩⟩⟩) (Calls.mono (c_round_Divide (Dj F c2) w2 hI.lt (wi64 (x1 * 2 ^ (min (Int.toNat t1.Frac) 64))) y1 t1.Round trivial r1 hx1) ?_)
 rintro _ w3 ⟨rfl, hx2, hl1⟩
 refine ⟨_, rfl, hx2, ?_⟩
 replace hI := (hI.ext hx2)
 refine a_q rfl gn rfl (fun w' => y_extract rfl et rfl) ?_
 refine a_q rfl gn rfl (fun w' => y_extract rfl et rfl) ?_
 refine a_q rfl gn rfl (fun w' => y_assign rfl et) ?_
 refine a_q rfl gn rfl (fun w' => y_assign rfl et) ?_
 refine a_nil ?_
 refine k_same (c_ret ?_)
 obtain rfl := some_inj h
 exact q_ret (vs := [vi r1.1, vi r1.2]) Tryz.results154 ⟨ev_tmp rfl rfl, ⟨ev_tmp rfl rfl, trivial⟩⟩ (fq hI trivial)
theorem c_fixed_Div (F : NP) (w0 : World) (hF : ∀ k, F k → k < w0.heap.size) (t1 : GType) (a1 : GVal) (b1 : GVal) (hc : AllCl [] F w0) (r : GVal × Int)
  (h : m_fixed_Div t1 a1 b1 = some r) :
  Calls Tryz.prog 138 #[(Value.agg (AType t1)), (Value.agg (AVal a1)), (Value.agg (AVal b1))] w0 fun e w => e = .returned (Value.tuple #[(Value.agg (AVal r.1)), vi r.2]) ∧ Ext w0 w ∧ AllCl [] F w := by
 refine enterK Tryz.func138 rfl Tryz.ntmps138 rfl ?_
 have hI := Bun.start hF hc
 clear hc
 rw [m_fixed_Div] at h
 refine sr (l_box (v := (Value.agg (AType t1))) (cs := (AType t1)) hI gn rfl rfl et rfl ?_)
 clear hI; intro b2 c1 w1 hI
 obtain ⟨c2, hI⟩ := hI.relBox .z
 refine l_box (v := (Value.agg (AVal a1))) (cs := (AVal a1)) hI gn rfl rfl et rfl ?_
 clear hI; intro b3 c3 w2 hI
 obtain ⟨c4, hI⟩ := hI.relBox .z
 refine l_box (v := (Value.agg (AVal b1))) (cs := (AVal b1)) hI gn rfl rfl et rfl ?_
 clear hI; intro b4 c5 w3 hI
 obtain ⟨c6, hI⟩ := hI.relBox .z
 refine l_alloc (cs := #[vi 0, vi 0]) hI gn rfl rfl zero_68 rfl ?_
 clear hI; intro b5 c7 w4 hI
 refine sac ?_
 refine nk (sr (sq (y_build (vs := [(0, (Value.func (.func 154) #[] #[]))]) (cs := #[(Value.func (.func 154) #[] #[])]) rfl ⟨rfl, ev_func, trivial⟩ (by kernel_rfl)) ?_))
 refine sq (y_loadN (l := (lType t1)) rfl et u38 rfl size_38 (hI.kblk (l := (lType t1)) (.s (.s .z)) rfl).1) ?_
 refine sq (y_loadN (l := (lVal a1)) rfl et u68 rfl size_68 (hI.kblk (l := (lVal a1)) (.s .z) rfl).1) ?_
 refine sq (y_loadN (l := (lVal b1)) rfl et u68 rfl size_68 (hI.kblk (l := (lVal b1)) .z rfl).1) ?_
 have hI := hI.add (c := clFn_k2 (Value.func (.func 154) #[] #[]) m_fixed_Div_1) ⟨rfl, fun D' w' hs hl x_1 x_2 x_3 r k h => CallV.fn (cap := []) ok_154 (c_fixed_Div_1 D' w' hl x_1 x_2 x_3 trivial r h)⟩
 obtain ⟨r1, hx1, h⟩ := bnd_some h
 refine s_call gn rfl (r_callF (vs := [(Value.agg #[(Value.func (.func 154) #[] #[])]), (Value.agg (AType t1)), (Value.agg (AVal a1)), (Value.agg (AVal b1))]) rfl ok_147 ⟨et, ⟨et, ⟨et, ⟨et, trivial⟩⟩⟩⟩) (Calls.mono (c_fixed_apply (Dj F c7) w4 hI.lt (⟨m_fixed_Div_1⟩ : Gfixed_operation) t1 a1 b1 (Value.func (.func 154) #[] #[]) ⟨(hI.get .z), trivial⟩ r1 hx1) ?_)
 rintro _ w5 ⟨rfl, hx2, hl1⟩
 refine ⟨_, rfl, ?_⟩
 replace hI := (hI.ext hx2)
 refine sq (y_extract rfl et rfl) ?_
 refine sq (y_extract rfl et rfl) ?_
 refine l_store (new := (lVal r1.1)) (cs' := (AVal r1.1)) hI .z gn rfl rfl et et rfl size_68 rfl rfl rfl ?_
 clear hI; intro c8 w6 hI
 refine sa ?_
 refine nk (c_ret ?_)
 obtain rfl := some_inj h
 exact q_ret (vs := [(Value.agg (AVal r1.1)), vi r1.2]) Tryz.results138 ⟨⟨_, ev_tmp rfl rfl, load_agg (l := (lVal r1.1)) u68 rfl size_68 (CellsAt.of_blk (hI.blk .z) rfl)⟩, ⟨ev_tmp rfl rfl, trivial⟩⟩ (fq hI trivial)
theorem c_frac_New (F : NP) (w0 : World) (hF : ∀ k, F k → k < w0.heap.size) (n1 : Int) (d1 : Int) (hc : AllCl [] F w0) (r : GVal × Int)
  (h : m_frac_New n1 d1 = some r) :
  Calls Tryz.prog 155 #[vi n1, vi d1] w0 fun e w => e = .returned (Value.tuple #[(Value.agg (AVal r.1)), vi r.2]) ∧ Ext w0 w ∧ AllCl [] F w := by
 refine enterK Tryz.func155 rfl Tryz.ntmps155 rfl ?_
 have hI := Bun.start hF hc
 clear hc
 rw [m_frac_New] at h
 refine sr (l_alloc (cs := #[vi 0, vi 0]) hI gn rfl rfl zero_68 rfl ?_)
 clear hI; intro b1 c1 w1 hI
 refine sac ?_
 refine nk (c_seq (sr (sm ?_)))
 refine sq (y_eql rfl et ev_const) ?_
 refine nk (cif h et (fun hb h => ?_) (fun hb h => ?_))
 ·refine sr (sq (y_build (vs := []) (cs := #[vi 0, vi 0]) rfl trivial (by kernel_rfl)) ?_)
  refine l_store (new := [vi 0, vi 0]) (cs' := #[vi 0, vi 0]) hI .z gn rfl rfl et et rfl size_68 rfl rfl rfl ?_
  clear hI; intro c2 w2 hI
  refine sac ?_
  refine nk (c_ret ?_)
  obtain rfl := some_inj h
  exact q_ret (vs := [(Value.agg #[vi 0, vi 0]), vi 4]) Tryz.results155 ⟨⟨_, ev_tmp rfl rfl, load_agg (l := [vi 0, vi 0]) u68 rfl size_68 (CellsAt.of_blk (hI.blk .z) rfl)⟩, ⟨ev_tmp rfl rfl, trivial⟩⟩ (fq hI trivial)
 refine c_skip (k_same (sr (sm ?_)))
 refine sq (y_lss rfl et ev_const) ?_
 refine sm ?_
 refine sq (y_lss rfl et ev_const) ?_
 refine sq (y_neb rfl u4 et et) ?_
 obtain ⟨negative1, hx1, h⟩ := bnd_some h
 refine sq (binU (y_assign rfl et) (congrArg Value.bool (some_inj hx1))) ?_
 refine nk (sr (sm ?_))
 obtain ⟨r1, hx2, h⟩ := bnd_some h
 refine s_call gn rfl (r_callF (vs := [vi n1]) rfl ok_131 ⟨et, trivial⟩) (Calls.mono (c_frac_magnitude (Dj F c1) w1 hI.lt n1 trivial r1 hx2) ?_)
 rintro _ w3 ⟨rfl, hx3, hl1⟩
 refine ⟨_, rfl, ?_⟩
 replace hI := (hI.ext hx3)
 refine sm ?_
 obtain ⟨r2, hx4, h⟩ := bnd_some h
 refine s_call gn rfl (r_callF (vs := [vi d1]) rfl ok_131 ⟨et, trivial⟩) (Calls.mono (c_frac_magnitude (Dj F c1) w3 hI.lt d1 trivial r2 hx4) ?_)
 rintro _ w4 ⟨rfl, hx5, hl2⟩
 refine ⟨_, rfl, ?_⟩
 replace hI := (hI.ext hx5)
 refine sa ?_
 refine sa ?_
 refine nk (sr (sm ?_))
 refine sm ?_
 obtain ⟨r3, hx6, h⟩ := bnd_some h
 refine s_call gn rfl (r_callF (vs := [(Value.int .u64 r1), (Value.int .u64 r2)]) rfl ok_130 ⟨et, ⟨et, trivial⟩⟩) (Calls.mono (c_frac_gcd (Dj F c1) w4 hI.lt r1 r2 trivial r3 hx6) ?_)
 rintro _ w5 ⟨rfl, hx7, hl3⟩
 refine ⟨_, rfl, ?_⟩
 replace hI := (hI.ext hx7)
 refine sa ?_
 refine nk (c_seq (c_drawX [] false (.c (0, .q) (.c (1, .q) (.c (2, .q) (.c (3, .q) (.c (4, .q) (.c (5, .q) (.c (6, .q) (.c (7, .q) .n)))))))) hI (by kernel_rfl) (by kernel_rfl) ?_))
 clear hI; intro w6 hI
 refine a_q rfl gn rfl (fun w' => y_move rfl et) ?_
 refine a_q rfl gn rfl (fun w' => y_move rfl et) ?_
 obtain ⟨ho1, h⟩ := chk_some h
 refine a_q rfl gn rfl (fun w' => y_quo rfl et et ho1) ?_
 refine a_q rfl gn rfl (fun w' => y_move rfl et) ?_
 refine a_q rfl gn rfl (fun w' => y_move rfl et) ?_
 refine a_q rfl gn rfl (fun w' => y_quo rfl et et ho1) ?_
 refine a_q rfl gn rfl (fun w' => y_assign rfl et) ?_
 refine a_q rfl gn rfl (fun w' => y_assign rfl et) ?_
 refine a_nil ?_
 refine k_next (e := [(4, vp b1 0), (6, vb negative1), (7, (Value.int .u64 (wu64 (Int.tdiv r1 r3)))), (8, (Value.int .u64 (wu64 (Int.tdiv r2 r3))))]) ⟨rfl, rfl, rfl, rfl, trivial⟩ ?_
 refine c_seq (sr (sm ?_))
 refine sq (y_gtr rfl et ev_const) ?_
 refine sm ?_
 refine s_gval (g_false rfl rfl rfl rfl) rfl (fun hc => y_move rfl et) ?_
 refine s_gval (g_false rfl rfl rfl rfl) rfl (fun hc => y_gtr rfl (ev_gv et hc) ev_const) ?_
 refine sq (y_or rfl et et) ?_
 refine nk (cif h et (fun hb h => ?_) (fun hb h => ?_))
 ·refine sr (sq (y_build (vs := []) (cs := #[vi 0, vi 0]) rfl trivial (by kernel_rfl)) ?_)
  refine l_store (new := [vi 0, vi 0]) (cs' := #[vi 0, vi 0]) hI .z gn rfl rfl et et rfl size_68 rfl rfl rfl ?_
  clear hI; intro c3 w7 hI
  refine sac ?_
  refine nk (c_ret ?_)
  obtain rfl := some_inj h
  exact q_ret (vs := [(Value.agg #[vi 0, vi 0]), vi 3]) Tryz.results155 ⟨⟨_, ev_tmp rfl rfl, load_agg (l := [vi 0, vi 0]) u68 rfl size_68 (CellsAt.of_blk (hI.blk .z) rfl)⟩, ⟨ev_tmp rfl rfl, trivial⟩⟩ (fq hI trivial)
 refine c_skip (k_same (c_seq (sr (sm ?_))))
 refine nk (cif h et (fun hb h => ?_) (fun hb h => ?_))
 ·refine sr (sm ?_)
  refine sq (y_conv rfl (by rw [u129]; rfl) u2 et) ?_
  refine sq (y_neg rfl et) ?_
  refine sm ?_
  refine sq (y_conv rfl (by rw [u129]; rfl) u2 et) ?_
  refine sq (y_build (vs := [(0, (vi (wi64 (-(wi64 (wu64 (Int.tdiv r1 r3))))))), (1, (vi (wi64 (wu64 (Int.tdiv r2 r3)))))]) (cs := #[(vi (wi64 (-(wi64 (wu64 (Int.tdiv r1 r3)))))), (vi (wi64 (wu64 (Int.tdiv r2 r3))))]) rfl ⟨rfl, et, ⟨rfl, et, trivial⟩⟩ (by kernel_rfl)) ?_
  refine l_store (new := [(vi (wi64 (-(wi64 (wu64 (Int.tdiv r1 r3)))))), (vi (wi64 (wu64 (Int.tdiv r2 r3))))]) (cs' := #[(vi (wi64 (-(wi64 (wu64 (Int.tdiv r1 r3)))))), (vi (wi64 (wu64 (Int.tdiv r2 r3))))]) hI .z gn rfl rfl et et rfl size_68 rfl rfl rfl ?_
  clear hI; intro c4 w8 hI
  refine sac ?_
  refine nk (c_ret ?_)
  obtain rfl := some_inj h
  exact q_ret (vs := [(Value.agg #[(vi (wi64 (-(wi64 (wu64 (Int.tdiv r1 r3)))))), (vi (wi64 (wu64 (Int.tdiv r2 r3))))]), vi 0]) Tryz.results155 ⟨⟨_, ev_tmp rfl rfl, load_agg (l := [(vi (wi64 (-(wi64 (wu64 (Int.tdiv r1 r3)))))), (vi (wi64 (wu64 (Int.tdiv r2 r3))))]) u68 rfl size_68 (CellsAt.of_blk (hI.blk .z) rfl)⟩, ⟨ev_tmp rfl rfl, trivial⟩⟩ (fq hI trivial)
 refine c_skip (k_same (sr (sm ?_)))
 refine sq (y_conv rfl (by rw [u129]; rfl) u2 et) ?_
 refine sm ?_
 refine sq (y_conv rfl (by rw [u129]; rfl) u2 et) ?_
 refine sq (y_build (vs := [(0, (vi (wi64 (wu64 (Int.tdiv r1 r3))))), (1, (vi (wi64 (wu64 (Int.tdiv r2 r3)))))]) (cs := #[(vi (wi64 (wu64 (Int.tdiv r1 r3)))), (vi (wi64 (wu64 (Int.tdiv r2 r3))))]) rfl ⟨rfl, et, ⟨rfl, et, trivial⟩⟩ (by kernel_rfl)) ?_
 refine l_store (new := [(vi (wi64 (wu64 (Int.tdiv r1 r3)))), (vi (wi64 (wu64 (Int.tdiv r2 r3))))]) (cs' := #[(vi (wi64 (wu64 (Int.tdiv r1 r3)))), (vi (wi64 (wu64 (Int.tdiv r2 r3))))]) hI .z gn rfl rfl et et rfl size_68 rfl rfl rfl ?_
 clear hI; intro c5 w9 hI
 refine sac ?_
 refine nk (c_ret ?_)
 obtain rfl := some_inj h
 exact q_ret (vs := [(Value.agg #[(vi (wi64 (wu64 (Int.tdiv r1 r3)))), (vi (wi64 (wu64 (Int.tdiv r2 r3))))]), vi 0]) Tryz.results155 ⟨⟨_, ev_tmp rfl rfl, load_agg (l := [(vi (wi64 (wu64 (Int.tdiv r1 r3)))), (vi (wi64 (wu64 (Int.tdiv r2 r3))))]) u68 rfl size_68 (CellsAt.of_blk (hI.blk .z) rfl)⟩, ⟨ev_tmp rfl rfl, trivial⟩⟩ (fq hI trivial)
theorem c_frac_Add (F : NP) (w0 : World) (hF : ∀ k, F k → k < w0.heap.size) (a1 : GVal) (b1 : GVal) (hc : AllCl [] F w0) (r : GVal × Int)
  (h : m_frac_Add a1 b1 = some r) :
  Calls Tryz.prog 139 #[(Value.agg (AVal a1)), (Value.agg (AVal b1))] w0 fun e w => e = .returned (Value.tuple #[(Value.agg (AVal r.1)), vi r.2]) ∧ Ext w0 w ∧ AllCl [] F w := by
 refine enterK Tryz.func139 rfl Tryz.ntmps139 rfl ?_
 have hI := Bun.start hF hc
 clear hc
 rw [m_frac_Add] at h
 refine sr (l_box (v := (Value.agg (AVal a1))) (cs := (AVal a1)) hI gn rfl rfl et rfl ?_)
 clear hI; intro b2 c1 w1 hI
 obtain ⟨c2, hI⟩ := hI.relBox .z
 refine l_box (v := (Value.agg (AVal b1))) (cs := (AVal b1)) hI gn rfl rfl et rfl ?_
 clear hI; intro b3 c3 w2 hI
 obtain ⟨c4, hI⟩ := hI.relBox .z
 refine l_alloc (cs := #[vi 0, vi 0]) hI gn rfl rfl zero_68 rfl ?_
 clear hI; intro b4 c5 w3 hI
 refine sac ?_
 refine nk (c_seq (sr (sq (y_loadN (l := (lVal a1)) rfl et u68 rfl size_68 (hI.kblk (l := (lVal a1)) (.s .z) rfl).1) ?_)))
 obtain ⟨r1, hx1, h⟩ := bnd_some h
 refine s_call gn rfl (r_callF (vs := [(Value.agg (AVal a1))]) rfl ok_112 ⟨et, trivial⟩) (Calls.mono (c_frac_Valid (Dj F c5) w3 hI.lt a1 trivial r1 hx1) ?_)
 rintro _ w4 ⟨rfl, hx2, hl1⟩
 refine ⟨_, rfl, ?_⟩
 replace hI := (hI.ext hx2)
 refine sq (y_not rfl et) ?_
 refine sm ?_
 refine s_gval (g_false rfl rfl rfl rfl) rfl (fun hc => (y_loadN (l := (lVal b1)) rfl et u68 rfl size_68 (hI.kblk (l := (lVal b1)) .z rfl).1)) ?_
 obtain ⟨r2, hx3, h⟩ := bnd_some h
 replace hx3 := gd_some hx3
 refine s_gcallU (v := (vb r2)) (g_false rfl rfl rfl rfl) rfl (fun hc => (r_callF (vs := [(Value.agg (AVal b1))]) rfl ok_112 ⟨(ev_gv et hc), trivial⟩)) (fun hc => (c_frac_Valid (Dj F c5) w4 hI.lt b1 trivial r2 (hx3 hc)).mono fun _ _ k => ⟨k.1, k.2.1⟩) ?_
 intro w5 hx4; replace hI := hI.ext hx4
 refine s_gval (g_false rfl rfl rfl rfl) rfl (fun hc => y_not rfl (ev_gv et hc)) ?_
 refine sq (y_or rfl et et) ?_
 refine nk (cif h et (fun hb h => ?_) (fun hb h => ?_))
 ·refine sr (sq (y_build (vs := []) (cs := #[vi 0, vi 0]) rfl trivial (by kernel_rfl)) ?_)
  refine l_store (new := [vi 0, vi 0]) (cs' := #[vi 0, vi 0]) hI .z gn rfl rfl et et rfl size_68 rfl rfl rfl ?_
  clear hI; intro c6 w6 hI
  refine sac ?_
  refine nk (c_ret ?_)
  obtain rfl := some_inj h
  exact q_ret (vs := [(Value.agg #[vi 0, vi 0]), vi 1]) Tryz.results139 ⟨⟨_, ev_tmp rfl rfl, load_agg (l := [vi 0, vi 0]) u68 rfl size_68 (CellsAt.of_blk (hI.blk .z) rfl)⟩, ⟨ev_tmp rfl rfl, trivial⟩⟩ (fq hI trivial)
 refine c_skip (k_same (sr (sq (y_fieldAddr rfl et u68 rfl size_2 rfl) ?_)))
 refine sq (y_load1 (v := (vi a1.N)) rfl et u2 rfl (hI.kblk (l := [vi a1.N]) (.s .z) rfl).1) ?_
 refine sq (y_fieldAddr rfl et u68 rfl size_2 rfl) ?_
 refine sq (y_load1 (v := (vi b1.D)) rfl et u2 rfl (hI.kblk (l := [vi b1.D]) .z rfl).1) ?_
 refine sq (y_mul rfl et et) ?_
 refine sq (y_fieldAddr rfl et u68 rfl size_2 rfl) ?_
 refine sq (y_load1 (v := (vi b1.N)) rfl et u2 rfl (hI.kblk (l := [vi b1.N]) .z rfl).1) ?_
 refine sq (y_fieldAddr rfl et u68 rfl size_2 rfl) ?_
 refine sq (y_load1 (v := (vi a1.D)) rfl et u2 rfl (hI.kblk (l := [vi a1.D]) (.s .z) rfl).1) ?_
 refine sq (y_mul rfl et et) ?_
 refine sq (y_add rfl et et) ?_
 refine sq (y_fieldAddr rfl et u68 rfl size_2 rfl) ?_
 refine sq (y_load1 (v := (vi a1.D)) rfl et u2 rfl (hI.kblk (l := [vi a1.D]) (.s .z) rfl).1) ?_
 refine sq (y_fieldAddr rfl et u68 rfl size_2 rfl) ?_
 refine sq (y_load1 (v := (vi b1.D)) rfl et u2 rfl (hI.kblk (l := [vi b1.D]) .z rfl).1) ?_
 refine sq (y_mul rfl et et) ?_
 obtain ⟨r3, hx5, h⟩ := bnd_some h
 refine s_call gn rfl (r_callF (vs := [(vi (wi64 ((wi64 (a1.N * b1.D)) + (wi64 (b1.N * a1.D))))), (vi (wi64 (a1.D * b1.D)))]) rfl ok_155 ⟨et, ⟨et, trivial⟩⟩) (Calls.mono (c_frac_New (Dj F c5) w5 hI.lt (wi64 ((wi64 (a1.N * b1.D)) + (wi64 (b1.N * a1.D)))) (wi64 (a1.D * b1.D)) trivial r3 hx5) ?_)
 rintro _ w7 ⟨rfl, hx6, hl3⟩
 refine ⟨_, rfl, ?_⟩
 replace hI := (hI.ext hx6)
 refine sq (y_extract rfl et rfl) ?_
 refine sq (y_extract rfl et rfl) ?_
 refine l_store (new := (lVal r3.1)) (cs' := (AVal r3.1)) hI .z gn rfl rfl et et rfl size_68 rfl rfl rfl ?_
 clear hI; intro c7 w8 hI
 refine sa ?_
 refine s_nil ?_
 refine k_next (e := [(4, vp b4 0), (5, vi r3.2)]) ⟨rfl, rfl, trivial⟩ ?_
 refine c_ret ?_
 obtain rfl := some_inj h
 exact q_ret (vs := [(Value.agg (AVal r3.1)), vi r3.2]) Tryz.results139 ⟨⟨_, ev_tmp rfl rfl, load_agg (l := (lVal r3.1)) u68 rfl size_68 (CellsAt.of_blk (hI.blk .z) rfl)⟩, ⟨ev_tmp rfl rfl, trivial⟩⟩ (fq hI trivial)
theorem c_frac_Sub (F : NP) (w0 : World) (hF : ∀ k, F k → k < w0.heap.size) (a1 : GVal) (b1 : GVal) (hc : AllCl [] F w0) (r : GVal × Int)
  (h : m_frac_Sub a1 b1 = some r) :
  Calls Tryz.prog 140 #[(Value.agg (AVal a1)), (Value.agg (AVal b1))] w0 fun e w => e = .returned (Value.tuple #[(Value.agg (AVal r.1)), vi r.2]) ∧ Ext w0 w ∧ AllCl [] F w := by
 refine enterK Tryz.func140 rfl Tryz.ntmps140 rfl ?_
 have hI := Bun.start hF hc
 clear hc
 rw [m_frac_Sub] at h
 refine sr (l_box (v := (Value.agg (AVal a1))) (cs := (AVal a1)) hI gn rfl rfl et rfl ?_)
 clear hI; intro b2 c1 w1 hI
 obtain ⟨c2, hI⟩ := hI.relBox .z
 refine l_box (v := (Value.agg (AVal b1))) (cs := (AVal b1)) hI gn rfl rfl et rfl ?_
 clear hI; intro b3 c3 w2 hI
 obtain ⟨c4, hI⟩ := hI.relBox .z
 refine l_alloc (cs := #[vi 0, vi 0]) hI gn rfl rfl zero_68 rfl ?_
 clear hI; intro b4 c5 w3 hI
 refine sac ?_
 refine nk (c_seq (sr (sq (y_loadN (l := (lVal a1)) rfl et u68 rfl size_68 (hI.kblk (l := (lVal a1)) (.s .z) rfl).1) ?_)))
 obtain ⟨r1, hx1, h⟩ := bnd_some h
 refine s_call gn rfl (r_callF (vs := [(Value.agg (AVal a1))]) rfl ok_112 ⟨et, trivial⟩) (Calls.mono (c_frac_Valid (Dj F c5) w3 hI.lt a1 trivial r1 hx1) ?_)
 rintro _ w4 ⟨rfl, hx2, hl1⟩
 refine ⟨_, rfl, ?_⟩
 replace hI := (hI.ext hx2)
 refine sq (y_not rfl et) ?_
 refine sm ?_
 refine s_gval (g_false rfl rfl rfl rfl) rfl (fun hc => (y_loadN (l := (lVal b1)) rfl et u68 rfl size_68 (hI.kblk (l := (lVal b1)) .z rfl).1)) ?_
 obtain ⟨r2, hx3, h⟩ := bnd_some h
 replace hx3 := gd_some hx3
 refine s_gcallU (v := (vb r2)) (g_false rfl rfl rfl rfl) rfl (fun hc => (r_callF (vs := [(Value.agg (AVal b1))]) rfl ok_112 ⟨(ev_gv et hc), trivial⟩)) (fun hc => (c_frac_Valid (Dj F c5) w4 hI.lt b1 trivial r2 (hx3 hc)).mono fun _ _ k => ⟨k.1, k.2.1⟩) ?_
 intro w5 hx4; replace hI := hI.ext hx4
 refine s_gval (g_false rfl rfl rfl rfl) rfl (fun hc => y_not rfl (ev_gv et hc)) ?_
 refine sq (y_or rfl et et) ?_
 refine nk (cif h et (fun hb h => ?_) (fun hb h => ?_))
 ·refine sr (sq (y_build (vs := []) (cs := #[vi 0, vi 0]) rfl trivial (by kernel_rfl)) ?_)
  refine l_store (new := [vi 0, vi 0]) (cs' := #[vi 0, vi 0]) hI .z gn rfl rfl et et rfl size_68 rfl rfl rfl ?_
  clear hI; intro c6 w6 hI
  refine sac ?_
  refine nk (c_ret ?_)
  obtain rfl := some_inj h
  exact q_ret (vs := [(Value.agg #[vi 0, vi 0]), vi 1]) Tryz.results140 ⟨⟨_, ev_tmp rfl rfl, load_agg (l := [vi 0, vi 0]) u68 rfl size_68 (CellsAt.of_blk (hI.blk .z) rfl)⟩, ⟨ev_tmp rfl rfl, trivial⟩⟩ (fq hI trivial)
 refine c_skip (k_same (sr (sq (y_fieldAddr rfl et u68 rfl size_2 rfl) ?_)))
 refine sq (y_load1 (v := (vi a1.N)) rfl et u2 rfl (hI.kblk (l := [vi a1.N]) (.s .z) rfl).1) ?_
 refine sq (y_fieldAddr rfl et u68 rfl size_2 rfl) ?_
 refine sq (y_load1 (v := (vi b1.D)) rfl et u2 rfl (hI.kblk (l := [vi b1.D]) .z rfl).1) ?_
 refine sq (y_mul rfl et et) ?_
 refine sq (y_fieldAddr rfl et u68 rfl size_2 rfl) ?_
 refine sq (y_load1 (v := (vi b1.N)) rfl et u2 rfl (hI.kblk (l := [vi b1.N]) .z rfl).1) ?_
 refine sq (y_fieldAddr rfl et u68 rfl size_2 rfl) ?_
 refine sq (y_load1 (v := (vi a1.D)) rfl et u2 rfl (hI.kblk (l := [vi a1.D]) (.s .z) rfl).1) ?_
 refine sq (y_mul rfl et et) ?_
 refine sq (y_sub rfl et et) ?_
 refine sq (y_fieldAddr rfl et u68 rfl size_2 rfl) ?_
 refine sq (y_load1 (v := (vi a1.D)) rfl et u2 rfl (hI.kblk (l := [vi a1.D]) (.s .z) rfl).1) ?_
 refine sq (y_fieldAddr rfl et u68 rfl size_2 rfl) ?_
 refine sq (y_load1 (v := (vi b1.D)) rfl et u2 rfl (hI.kblk (l := [vi b1.D]) .z rfl).1) ?_
 refine sq (y_mul rfl et et) ?_
 obtain ⟨r3, hx5, h⟩ := bnd_some h
 refine s_call gn rfl (r_callF (vs := [(vi (wi64 ((wi64 (a1.N * b1.D)) - (wi64 (b1.N * a1.D))))), (vi (wi64 (a1.D * b1.D)))]) rfl ok_155 ⟨et, ⟨et, trivial⟩⟩) (Calls.mono (c_frac_New (Dj F c5) w5 hI.lt (wi64 ((wi64 (a1.N * b1.D)) - (wi64 (b1.N * a1.D)))) (wi64 (a1.D * b1.D)) trivial r3 hx5) ?_)
 rintro _ w7 ⟨rfl, hx6, hl3⟩
 refine ⟨_, rfl, ?_⟩
 replace hI := (hI.ext hx6)
 refine sq (y_extract rfl et rfl) ?_
 refine sq (y_extract rfl et rfl) ?_
 refine l_store (new := (lVal r3.1)) (cs' := (AVal r3.1)) hI .z gn rfl rfl et et rfl size_68 rfl rfl rfl ?_
 clear hI; intro c7 w8 hI
 refine sa ?_
 refine s_nil ?_
 refine k_next (e := [(4, vp b4 0), (5, vi r3.2)]) ⟨rfl, rfl, trivial⟩ ?_
 refine c_ret ?_
 obtain rfl := some_inj h
 exact q_ret (vs := [(Value.agg (AVal r3.1)), vi r3.2]) Tryz.results140 ⟨⟨_, ev_tmp rfl rfl, load_agg (l := (lVal r3.1)) u68 rfl size_68 (CellsAt.of_blk (hI.blk .z) rfl)⟩, ⟨ev_tmp rfl rfl, trivial⟩⟩ (fq hI trivial)
theorem c_frac_Mul (F : NP) (w0 : World) (hF : ∀ k, F k → k < w0.heap.size) (a1 : GVal) (b1 : GVal) (hc : AllCl [] F w0) (r : GVal × Int)
  (h : m_frac_Mul a1 b1 = some r) :
  Calls Tryz.prog 141 #[(Value.agg (AVal a1)), (Value.agg (AVal b1))] w0 fun e w => e = .returned (Value.tuple #[(Value.agg (AVal r.1)), vi r.2]) ∧ Ext w0 w ∧ AllCl [] F w := by
 refine enterK Tryz.func141 rfl Tryz.ntmps141 rfl ?_
 have hI := Bun.start hF hc
 clear hc
 rw [m_frac_Mul] at h
 refine sr (l_box (v := (Value.agg (AVal a1))) (cs := (AVal a1)) hI gn rfl rfl et rfl ?_)
 clear hI; intro b2 c1 w1 hI
 obtain ⟨c2, hI⟩ := hI.relBox .z
 refine l_box (v := (Value.agg (AVal b1))) (cs := (AVal b1)) hI gn rfl rfl et rfl ?_
 clear hI; intro b3 c3 w2 hI
 obtain ⟨c4, hI⟩ := hI.relBox .z
 refine l_alloc (cs := #[vi 0, vi 0]) hI gn rfl rfl zero_68 rfl ?_
 clear hI; intro b4 c5 w3 hI
 refine sac ?_
 refine nk (c_seq (sr (sq (y_loadN (l := (lVal a1)) rfl et u68 rfl size_68 (hI.kblk (l := (lVal a1)) (.s .z) rfl).1) ?_)))
 obtain ⟨r1, hx1, h⟩ := bnd_some h
 refine s_call gn rfl (r_callF (vs := [(Value.agg (AVal a1))]) rfl ok_112 ⟨et, trivial⟩) (Calls.mono (c_frac_Valid (Dj F c5) w3 hI.lt a1 trivial r1 hx1) ?_)
 rintro _ w4 ⟨rfl, hx2, hl1⟩
 refine ⟨_, rfl, ?_⟩
 replace hI := (hI.ext hx2)
 refine sq (y_not rfl et) ?_
 refine sm ?_
 refine s_gval (g_false rfl rfl rfl rfl) rfl (fun hc => (y_loadN (l := (lVal b1)) rfl et u68 rfl size_68 (hI.kblk (l := (lVal b1)) .z rfl).1)) ?_
 obtain ⟨r2, hx3, h⟩ := bnd_some h
 replace hx3 := gd_some hx3
 refine s_gcallU (v := (vb r2)) (g_false rfl rfl rfl rfl) rfl (fun hc => (r_callF (vs := [(Value.agg (AVal b1))]) rfl ok_112 ⟨(ev_gv et hc), trivial⟩)) (fun hc => (c_frac_Valid (Dj F c5) w4 hI.lt b1 trivial r2 (hx3 hc)).mono fun _ _ k => ⟨k.1, k.2.1⟩) ?_
 intro w5 hx4; replace hI := hI.ext hx4
 refine s_gval (g_false rfl rfl rfl rfl) rfl (fun hc => y_not rfl (ev_gv et hc)) ?_
 refine sq (y_or rfl et et) ?_
 refine nk (cif h et (fun hb h => ?_) (fun hb h => ?_))
 ·refine sr (sq (y_build (vs := []) (cs := #[vi 0, vi 0]) rfl trivial (by kernel_rfl)) ?_)
  refine l_store (new := [vi 0, vi 0]) (cs' := #[vi 0, vi 0]) hI .z gn rfl rfl et et rfl size_68 rfl rfl rfl ?_
  clear hI; intro c6 w6 hI
  refine sac ?_
  refine nk (c_ret ?_)
  obtain rfl := some_inj h
  exact q_ret (vs := [(Value.agg #[vi 0, vi 0]), vi 1]) Tryz.results141 ⟨⟨_, ev_tmp rfl rfl, load_agg (l := [vi 0, vi 0]) u68 rfl size_68 (CellsAt.of_blk (hI.blk .z) rfl)⟩, ⟨ev_tmp rfl rfl, trivial⟩⟩ (fq hI trivial)
 refine c_skip (k_same (sr (sq (y_fieldAddr rfl et u68 rfl size_2 rfl) ?_)))
 refine sq (y_load1 (v := (vi a1.N)) rfl et u2 rfl (hI.kblk (l := [vi a1.N]) (.s .z) rfl).1) ?_
 refine sq (y_fieldAddr rfl et u68 rfl size_2 rfl) ?_
 refine sq (y_load1 (v := (vi b1.N)) rfl et u2 rfl (hI.kblk (l := [vi b1.N]) .z rfl).1) ?_
 refine sq (y_mul rfl et et) ?_
 refine sq (y_fieldAddr rfl et u68 rfl size_2 rfl) ?_
 refine sq (y_load1 (v := (vi a1.D)) rfl et u2 rfl (hI.kblk (l := [vi a1.D]) (.s .z) rfl).1) ?_
 refine sq (y_fieldAddr rfl et u68 rfl size_2 rfl) ?_
 refine sq (y_load1 (v := (vi b1.D)) rfl et u2 rfl (hI.kblk (l := [vi b1.D]) .z rfl).1) ?_
 refine sq (y_mul rfl et et) ?_
 obtain ⟨r3, hx5, h⟩ := bnd_some h
 refine s_call gn rfl (r_callF (vs := [(vi (wi64 (a1.N * b1.N))), (vi (wi64 (a1.D * b1.D)))]) rfl ok_155 ⟨et, ⟨et, trivial⟩⟩) (Calls.mono (c_frac_New (Dj F c5) w5 hI.lt (wi64 (a1.N * b1.N)) (wi64 (a1.D * b1.D)) trivial r3 hx5) ?_)
 rintro _ w7 ⟨rfl, hx6, hl3⟩
 refine ⟨_, rfl, ?_⟩
 replace hI := (hI.ext hx6)
 refine sq (y_extract rfl et rfl) ?_
 refine sq (y_extract rfl et rfl) ?_
 refine l_store (new := (lVal r3.1)) (cs' := (AVal r3.1)) hI .z gn rfl rfl et et rfl size_68 rfl rfl rfl ?_
 clear hI; intro c7 w8 hI
 refine sa ?_
 refine s_nil ?_
 refine k_next (e := [(4, vp b4 0), (5, vi r3.2)]) ⟨rfl, rfl, trivial⟩ ?_
 refine c_ret ?_
 obtain rfl := some_inj h
 exact q_ret (vs := [(Value.agg (AVal r3.1)), vi r3.2]) Tryz.results141 ⟨⟨_, ev_tmp rfl rfl, load_agg (l := (lVal r3.1)) u68 rfl size_68 (CellsAt.of_blk (hI.blk .z) rfl)⟩, ⟨ev_tmp rfl rfl, trivial⟩⟩ (fq hI trivial)
theorem c_frac_Div (F : NP) (w0 : World) (hF : ∀ k, F k → k < w0.heap.size) (a1 : GVal) (b1 : GVal) (hc : AllCl [] F w0) (r : GVal × Int)
  (h : m_frac_Div a1 b1 = some r) :
  Calls Tryz.prog 142 #[(Value.agg (AVal a1)), (Value.agg (AVal b1))] w0 fun e w => e = .returned (Value.tuple #[(Value.agg (AVal r.1)), vi r.2]) ∧ Ext w0 w ∧ AllCl [] F w := by
 refine enterK Tryz.func142 rfl Tryz.ntmps142 rfl ?_
 have hI := Bun.start hF hc
 clear hc
 rw [m_frac_Div] at h
 refine sr (l_box (v := (Value.agg (AVal a1))) (cs := (AVal a1)) hI gn rfl rfl et rfl ?_)
 clear hI; intro b2 c1 w1 hI
 obtain ⟨c2, hI⟩ := hI.relBox .z
 refine l_box (v := (Value.agg (AVal b1))) (cs := (AVal b1)) hI gn rfl rfl et rfl ?_
 clear hI; intro b3 c3 w2 hI
 obtain ⟨c4, hI⟩ := hI.relBox .z
 refine l_alloc (cs := #[vi 0, vi 0]) hI gn rfl rfl zero_68 rfl ?_
 clear hI; intro b4 c5 w3 hI
 refine sac ?_
 refine nk (c_seq (sr (sq (y_loadN (l := (lVal a1)) rfl et u68 rfl size_68 (hI.kblk (l := (lVal a1)) (.s .z) rfl).1) ?_)))
 obtain ⟨r1, hx1, h⟩ := bnd_some h
 refine s_call gn rfl (r_callF (vs := [(Value.agg (AVal a1))]) rfl ok_112 ⟨et, trivial⟩) (Calls.mono (c_frac_Valid (Dj F c5) w3 hI.lt a1 trivial r1 hx1) ?_)
 rintro _ w4 ⟨rfl, hx2, hl1⟩
 refine ⟨_, rfl, ?_⟩
 replace hI := (hI.ext hx2)
 refine sq (y_not rfl et) ?_
 refine sm ?_
 refine s_gval (g_false rfl rfl rfl rfl) rfl (fun hc => (y_loadN (l := (lVal b1)) rfl et u68 rfl size_68 (hI.kblk (l := (lVal b1)) .z rfl).1)) ?_
 obtain ⟨r2, hx3, h⟩ := bnd_some h
 replace hx3 := gd_some hx3
 refine s_gcallU (v := (vb r2)) (g_false rfl rfl rfl rfl) rfl (fun hc => (r_callF (vs := [(Value.agg (AVal b1))]) rfl ok_112 ⟨(ev_gv et hc), trivial⟩)) (fun hc => (c_frac_Valid (Dj F c5) w4 hI.lt b1 trivial r2 (hx3 hc)).mono fun _ _ k => ⟨k.1, k.2.1⟩) ?_
 intro w5 hx4; replace hI := hI.ext hx4
 refine s_gval (g_false rfl rfl rfl rfl) rfl (fun hc => y_not rfl (ev_gv et hc)) ?_
 refine sq (y_or rfl et et) ?_
 refine nk (cif h et (fun hb h => ?_) (fun hb h => ?_))
 ·refine sr (sq (y_build (vs := []) (cs := #[vi 0, vi 0]) rfl trivial (by kernel_rfl)) ?_)
  refine l_store (new := [vi 0, vi 0]) (cs' := #[vi 0, vi 0]) hI .z gn rfl rfl et et rfl size_68 rfl rfl rfl ?_
  clear hI; intro c6 w6 hI
  refine sac ?_
  refine nk (c_ret ?_)
  obtain rfl := some_inj h
  exact q_ret (vs := [(Value.agg #[vi 0, vi 0]), vi 1]) Tryz.results142 ⟨⟨_, ev_tmp rfl rfl, load_agg (l := [vi 0, vi 0]) u68 rfl size_68 (CellsAt.of_blk (hI.blk .z) rfl)⟩, ⟨ev_tmp rfl rfl, trivial⟩⟩ (fq hI trivial)
 refine c_skip (k_same (sr (sq (y_fieldAddr rfl et u68 rfl size_2 rfl) ?_)))
 refine sq (y_load1 (v := (vi a1.N)) rfl et u2 rfl (hI.kblk (l := [vi a1.N]) (.s .z) rfl).1) ?_
 refine sq (y_fieldAddr rfl et u68 rfl size_2 rfl) ?_
 refine sq (y_load1 (v := (vi b1.D)) rfl et u2 rfl (hI.kblk (l := [vi b1.D]) .z rfl).1) ?_
 refine sq (y_mul rfl et et) ?_
 refine sq (y_fieldAddr rfl et u68 rfl size_2 rfl) ?_
 refine sq (y_load1 (v := (vi a1.D)) rfl et u2 rfl (hI.kblk (l := [vi a1.D]) (.s .z) rfl).1) ?_
 refine sq (y_fieldAddr rfl et u68 rfl size_2 rfl) ?_
 refine sq (y_load1 (v := (vi b1.N)) rfl et u2 rfl (hI.kblk (l := [vi b1.N]) .z rfl).1) ?_
 refine sq (y_mul rfl et et) ?_
 obtain ⟨r3, hx5, h⟩ := bnd_some h
 refine s_call gn rfl (r_callF (vs := [(vi (wi64 (a1.N * b1.D))), (vi (wi64 (a1.D * b1.N)))]) rfl ok_155 ⟨et, ⟨et, trivial⟩⟩) (Calls.mono (c_frac_New (Dj F c5) w5 hI.lt (wi64 (a1.N * b1.D)) (wi64 (a1.D * b1.N)) trivial r3 hx5) ?_)
 rintro _ w7 ⟨rfl, hx6, hl3⟩
 refine ⟨_, rfl, ?_⟩
 replace hI := (hI.ext hx6)
 refine sq (y_extract rfl et rfl) ?_
 refine sq (y_extract rfl et rfl) ?_
 refine l_store (new := (lVal r3.1)) (cs' := (AVal r3.1)) hI .z gn rfl rfl et et rfl size_68 rfl rfl rfl ?_
 clear hI; intro c7 w8 hI
 refine sa ?_
 refine s_nil ?_
 refine k_next (e := [(4, vp b4 0), (5, vi r3.2)]) ⟨rfl, rfl, trivial⟩ ?_
 refine c_ret ?_
 obtain rfl := some_inj h
 exact q_ret (vs := [(Value.agg (AVal r3.1)), vi r3.2]) Tryz.results142 ⟨⟨_, ev_tmp rfl rfl, load_agg (l := (lVal r3.1)) u68 rfl size_68 (CellsAt.of_blk (hI.blk .z) rfl)⟩, ⟨ev_tmp rfl rfl, trivial⟩⟩ (fq hI trivial)
theorem c_value_arithmetic (F : NP) (w0 : World) (hF : ∀ k, F k → k < w0.heap.size) (op1 : Int) (t1 : GType) (a1 : GVal) (b1 : GVal) (hc : AllCl [] F w0) (r : GVal × Int)
  (h : m_value_arithmetic op1 t1 a1 b1 = some r) :
  Calls Tryz.prog 117 #[vi op1, (Value.agg (AType t1)), (Value.agg (AVal a1)), (Value.agg (AVal b1))] w0 fun e w => e = .returned (Value.tuple #[(Value.agg (AVal r.1)), vi r.2]) ∧ Ext w0 w ∧ AllCl [] F w := by
 refine enterK Tryz.func117 rfl Tryz.ntmps117 rfl ?_
 have hI := Bun.start hF hc
 clear hc
 rw [m_value_arithmetic] at h
 refine sr (l_box (v := (Value.agg (AType t1))) (cs := (AType t1)) hI gn rfl rfl et rfl ?_)
 clear hI; intro b2 c1 w1 hI
 obtain ⟨c2, hI⟩ := hI.relBox .z
 refine l_box (v := (Value.agg (AVal a1))) (cs := (AVal a1)) hI gn rfl rfl et rfl ?_
 clear hI; intro b3 c3 w2 hI
 obtain ⟨c4, hI⟩ := hI.relBox .z
 refine l_box (v := (Value.agg (AVal b1))) (cs := (AVal b1)) hI gn rfl rfl et rfl ?_
 clear hI; intro b4 c5 w3 hI
 obtain ⟨c6, hI⟩ := hI.relBox .z
 refine l_alloc (cs := #[vi 0, vi 0]) hI gn rfl rfl zero_68 rfl ?_
 clear hI; intro b5 c7 w4 hI
 refine sac ?_
 refine nk (sr (sq (y_fieldAddr rfl et u38 rfl size_3 rfl) ?_))
 refine sq (y_load1 (v := (vi t1.Kind)) rfl et u3 rfl (hI.kblk (l := [vi t1.Kind]) (.s (.s .z)) rfl).1) ?_
 refine sq (y_eql rfl et ev_const) ?_
 refine sa ?_
 refine nk (c_seq (c_block (sr (sq (y_fieldAddr rfl et u38 rfl size_3 rfl) ?_))))
 refine sq (y_load1 (v := (vi t1.Kind)) rfl et u3 rfl (hI.kblk (l := [vi t1.Kind]) (.s (.s .z)) rfl).1) ?_
 refine sq (y_eql rfl et ev_const) ?_
 refine sa ?_
 refine nk (cif h et (fun hb h => ?_) (fun hb h => ?_))
 ·refine sr (sm ?_)
  refine sq (y_fieldAddr rfl et u68 rfl size_2 rfl) ?_
  refine sq (y_load1 (v := (vi a1.N)) rfl et u2 rfl (hI.kblk (l := [vi a1.N]) (.s .z) rfl).1) ?_
  refine sq (y_fieldAddr rfl et u68 rfl size_2 rfl) ?_
  refine sq (y_load1 (v := (vi b1.N)) rfl et u2 rfl (hI.kblk (l := [vi b1.N]) .z rfl).1) ?_
  obtain ⟨r1, hx1, h⟩ := bnd_some h
  refine s_call gn rfl (r_callF (vs := [vi op1, vi a1.N, vi b1.N]) rfl ok_134 ⟨et, ⟨et, ⟨et, trivial⟩⟩⟩) (Calls.mono (c_value_integer (Dj F c7) w4 hI.lt op1 a1.N b1.N trivial r1 hx1) ?_)
  rintro _ w5 ⟨rfl, hx2, hl1⟩
  refine ⟨_, rfl, ?_⟩
  replace hI := (hI.ext hx2)
  refine sq (y_extract rfl et rfl) ?_
  refine sq (y_extract rfl et rfl) ?_
  refine l_store (new := (lVal r1.1)) (cs' := (AVal r1.1)) hI .z gn rfl rfl et et rfl size_68 rfl rfl rfl ?_
  clear hI; intro c8 w6 hI
  refine sa ?_
  refine nk (c_ret ?_)
  obtain rfl := some_inj h
  exact q_ret (vs := [(Value.agg (AVal r1.1)), vi r1.2]) Tryz.results117 ⟨⟨_, ev_tmp rfl rfl, load_agg (l := (lVal r1.1)) u68 rfl size_68 (CellsAt.of_blk (hI.blk .z) rfl)⟩, ⟨ev_tmp rfl rfl, trivial⟩⟩ (fq hI trivial)
 refine sr (sm ?_)
 refine sq (y_eql rfl et ev_const) ?_
 refine sm ?_
 refine s_gval (g_true rfl rfl rfl rfl) rfl (fun hc => y_move rfl et) ?_
 refine sq (y_and rfl et et) ?_
 refine sa ?_
 refine nk (cif h et (fun hb h => ?_) (fun hb h => ?_))
 ·refine sr (sq (y_loadN (l := (lType t1)) rfl et u38 rfl size_38 (hI.kblk (l := (lType t1)) (.s (.s .z)) rfl).1) ?_)
  refine sq (y_loadN (l := (lVal a1)) rfl et u68 rfl size_68 (hI.kblk (l := (lVal a1)) (.s .z) rfl).1) ?_
  refine sq (y_loadN (l := (lVal b1)) rfl et u68 rfl size_68 (hI.kblk (l := (lVal b1)) .z rfl).1) ?_
  obtain ⟨r2, hx3, h⟩ := bnd_some h
  refine s_call gn rfl (r_callF (vs := [(Value.agg (AType t1)), (Value.agg (AVal a1)), (Value.agg (AVal b1))]) rfl ok_135 ⟨et, ⟨et, ⟨et, trivial⟩⟩⟩) (Calls.mono (c_fixed_Add (Dj F c7) w4 hI.lt t1 a1 b1 trivial r2 hx3) ?_)
  rintro _ w7 ⟨rfl, hx4, hl2⟩
  refine ⟨_, rfl, ?_⟩
  replace hI := (hI.ext hx4)
  refine sq (y_extract rfl et rfl) ?_
  refine sq (y_extract rfl et rfl) ?_
  refine l_store (new := (lVal r2.1)) (cs' := (AVal r2.1)) hI .z gn rfl rfl et et rfl size_68 rfl rfl rfl ?_
  clear hI; intro c9 w8 hI
  refine sa ?_
  refine s_nil ?_
  refine k_next (e := [(8, vp b5 0), (9, vi r2.2)]) ⟨rfl, rfl, trivial⟩ ?_
  refine c_ret ?_
  obtain rfl := some_inj h
  exact q_ret (vs := [(Value.agg (AVal r2.1)), vi r2.2]) Tryz.results117 ⟨⟨_, ev_tmp rfl rfl, load_agg (l := (lVal r2.1)) u68 rfl size_68 (CellsAt.of_blk (hI.blk .z) rfl)⟩, ⟨ev_tmp rfl rfl, trivial⟩⟩ (fq hI trivial)
 refine sr (sm ?_)
 refine sq (y_eql rfl et ev_const) ?_
 refine sm ?_
 refine s_gval (g_true rfl rfl rfl rfl) rfl (fun hc => y_move rfl et) ?_
 refine sq (y_and rfl et et) ?_
 refine sa ?_
 refine nk (cif h et (fun hb h => ?_) (fun hb h => ?_))
 ·refine sr (sq (y_loadN (l := (lType t1)) rfl et u38 rfl size_38 (hI.kblk (l := (lType t1)) (.s (.s .z)) rfl).1) ?_)
  refine sq (y_loadN (l := (lVal a1)) rfl et u68 rfl size_68 (hI.kblk (l := (lVal a1)) (.s .z) rfl).1) ?_
  refine sq (y_loadN (l := (lVal b1)) rfl et u68 rfl size_68 (hI.kblk (l := (lVal b1)) .z rfl).1) ?_
  obtain ⟨r3, hx5, h⟩ := bnd_some h
  refine s_call gn rfl (r_callF (vs := [(Value.agg (AType t1)), (Value.agg (AVal a1)), (Value.agg (AVal b1))]) rfl ok_136 ⟨et, ⟨et, ⟨et, trivial⟩⟩⟩) (Calls.mono (c_fixed_Sub (Dj F c7) w4 hI.lt t1 a1 b1 trivial r3 hx5) ?_)
  rintro _ w9 ⟨rfl, hx6, hl3⟩
  refine ⟨_, rfl, ?_⟩
  replace hI := (hI.ext hx6)
  refine sq (y_extract rfl et rfl) ?_
  refine sq (y_extract rfl et rfl) ?_
  refine l_store (new := (lVal r3.1)) (cs' := (AVal r3.1)) hI .z gn rfl rfl et et rfl size_68 rfl rfl rfl ?_
  clear hI; intro c10 w10 hI
  refine sa ?_
  refine s_nil ?_
  refine k_next (e := [(8, vp b5 0), (9, vi r3.2)]) ⟨rfl, rfl, trivial⟩ ?_
  refine c_ret ?_
  obtain rfl := some_inj h
  exact q_ret (vs := [(Value.agg (AVal r3.1)), vi r3.2]) Tryz.results117 ⟨⟨_, ev_tmp rfl rfl, load_agg (l := (lVal r3.1)) u68 rfl size_68 (CellsAt.of_blk (hI.blk .z) rfl)⟩, ⟨ev_tmp rfl rfl, trivial⟩⟩ (fq hI trivial)
 refine sr (sm ?_)
 refine sq (y_eql rfl et ev_const) ?_
 refine sm ?_
 refine s_gval (g_true rfl rfl rfl rfl) rfl (fun hc => y_move rfl et) ?_
 refine sq (y_and rfl et et) ?_
 refine sa ?_
 refine s_nil ?_
 refine k_next (e := [(0, vi op1), (5, vp b2 0), (6, vp b3 0), (7, vp b4 0), (8, vp b5 0), (10, (vb (decide (t1.Kind = 2)))), (50, (vb ((decide (op1 = 6)) && (decide (t1.Kind = 2)))))]) ⟨rfl, rfl, rfl, rfl, rfl, rfl, rfl, trivial⟩ ?_
 refine cif h et (fun hb h => ?_) (fun hb h => ?_)
 ·refine sr (sq (y_loadN (l := (lType t1)) rfl et u38 rfl size_38 (hI.kblk (l := (lType t1)) (.s (.s .z)) rfl).1) ?_)
  refine sq (y_loadN (l := (lVal a1)) rfl et u68 rfl size_68 (hI.kblk (l := (lVal a1)) (.s .z) rfl).1) ?_
  refine sq (y_loadN (l := (lVal b1)) rfl et u68 rfl size_68 (hI.kblk (l := (lVal b1)) .z rfl).1) ?_
  obtain ⟨r4, hx7, h⟩ := bnd_some h
  refine s_call gn rfl (r_callF (vs := [(Value.agg (AType t1)), (Value.agg (AVal a1)), (Value.agg (AVal b1))]) rfl ok_137 ⟨et, ⟨et, ⟨et, trivial⟩⟩⟩) (Calls.mono (c_fixed_Mul (Dj F c7) w4 hI.lt t1 a1 b1 trivial r4 hx7) ?_)
  rintro _ w11 ⟨rfl, hx8, hl4⟩
  refine ⟨_, rfl, ?_⟩
  replace hI := (hI.ext hx8)
  refine sq (y_extract rfl et rfl) ?_
  refine sq (y_extract rfl et rfl) ?_
  refine l_store (new := (lVal r4.1)) (cs' := (AVal r4.1)) hI .z gn rfl rfl et et rfl size_68 rfl rfl rfl ?_
  clear hI; intro c11 w12 hI
  refine sa ?_
  refine nk (c_ret ?_)
  obtain rfl := some_inj h
  exact q_ret (vs := [(Value.agg (AVal r4.1)), vi r4.2]) Tryz.results117 ⟨⟨_, ev_tmp rfl rfl, load_agg (l := (lVal r4.1)) u68 rfl size_68 (CellsAt.of_blk (hI.blk .z) rfl)⟩, ⟨ev_tmp rfl rfl, trivial⟩⟩ (fq hI trivial)
 refine sr (sm ?_)
 refine sa ?_
 refine nk (cif h et (fun hb h => ?_) (fun hb h => ?_))
 ·refine sr (sq (y_loadN (l := (lType t1)) rfl et u38 rfl size_38 (hI.kblk (l := (lType t1)) (.s (.s .z)) rfl).1) ?_)
  refine sq (y_loadN (l := (lVal a1)) rfl et u68 rfl size_68 (hI.kblk (l := (lVal a1)) (.s .z) rfl).1) ?_
  refine sq (y_loadN (l := (lVal b1)) rfl et u68 rfl size_68 (hI.kblk (l := (lVal b1)) .z rfl).1) ?_
  obtain ⟨r5, hx9, h⟩ := bnd_some h
  refine s_call gn rfl (r_callF (vs := [(Value.agg (AType t1)), (Value.agg (AVal a1)), (Value.agg (AVal b1))]) rfl ok_138 ⟨et, ⟨et, ⟨et, trivial⟩⟩⟩) (Calls.mono (c_fixed_Div (Dj F c7) w4 hI.lt t1 a1 b1 trivial r5 hx9) ?_)
  rintro _ w13 ⟨rfl, hx10, hl5⟩
  refine ⟨_, rfl, ?_⟩
  replace hI := (hI.ext hx10)
  refine sq (y_extract rfl et rfl) ?_
  refine sq (y_extract rfl et rfl) ?_
  refine l_store (new := (lVal r5.1)) (cs' := (AVal r5.1)) hI .z gn rfl rfl et et rfl size_68 rfl rfl rfl ?_
  clear hI; intro c12 w14 hI
  refine sa ?_
  refine nk (c_ret ?_)
  obtain rfl := some_inj h
  exact q_ret (vs := [(Value.agg (AVal r5.1)), vi r5.2]) Tryz.results117 ⟨⟨_, ev_tmp rfl rfl, load_agg (l := (lVal r5.1)) u68 rfl size_68 (CellsAt.of_blk (hI.blk .z) rfl)⟩, ⟨ev_tmp rfl rfl, trivial⟩⟩ (fq hI trivial)
 refine sr (sm ?_)
 refine sq (y_eql rfl et ev_const) ?_
 refine sa ?_
 refine nk (cif h et (fun hb h => ?_) (fun hb h => ?_))
 ·refine sr (sq (y_loadN (l := (lVal a1)) rfl et u68 rfl size_68 (hI.kblk (l := (lVal a1)) (.s .z) rfl).1) ?_)
  refine sq (y_loadN (l := (lVal b1)) rfl et u68 rfl size_68 (hI.kblk (l := (lVal b1)) .z rfl).1) ?_
  obtain ⟨r6, hx11, h⟩ := bnd_some h
  refine s_call gn rfl (r_callF (vs := [(Value.agg (AVal a1)), (Value.agg (AVal b1))]) rfl ok_139 ⟨et, ⟨et, trivial⟩⟩) (Calls.mono (c_frac_Add (Dj F c7) w4 hI.lt a1 b1 trivial r6 hx11) ?_)
  rintro _ w15 ⟨rfl, hx12, hl6⟩
  refine ⟨_, rfl, ?_⟩
  replace hI := (hI.ext hx12)
  refine sq (y_extract rfl et rfl) ?_
  refine sq (y_extract rfl et rfl) ?_
  refine l_store (new := (lVal r6.1)) (cs' := (AVal r6.1)) hI .z gn rfl rfl et et rfl size_68 rfl rfl rfl ?_
  clear hI; intro c13 w16 hI
  refine sa ?_
  refine nk (c_ret ?_)
  obtain rfl := some_inj h
  exact q_ret (vs := [(Value.agg (AVal r6.1)), vi r6.2]) Tryz.results117 ⟨⟨_, ev_tmp rfl rfl, load_agg (l := (lVal r6.1)) u68 rfl size_68 (CellsAt.of_blk (hI.blk .z) rfl)⟩, ⟨ev_tmp rfl rfl, trivial⟩⟩ (fq hI trivial)
 refine sr (sm ?_)
 refine sq (y_eql rfl et ev_const) ?_
 refine sa ?_
 refine nk (cif h et (fun hb h => ?_) (fun hb h => ?_))
 ·refine sr (sq (y_loadN (l := (lVal a1)) rfl et u68 rfl size_68 (hI.kblk (l := (lVal a1)) (.s .z) rfl).1) ?_)
  refine sq (y_loadN (l := (lVal b1)) rfl et u68 rfl size_68 (hI.kblk (l := (lVal b1)) .z rfl).1) ?_
  obtain ⟨r7, hx13, h⟩ := bnd_some h
  refine s_call gn rfl (r_callF (vs := [(Value.agg (AVal a1)), (Value.agg (AVal b1))]) rfl ok_140 ⟨et, ⟨et, trivial⟩⟩) (Calls.mono (c_frac_Sub (Dj F c7) w4 hI.lt a1 b1 trivial r7 hx13) ?_)
  rintro _ w17 ⟨rfl, hx14, hl7⟩
  refine ⟨_, rfl, ?_⟩
  replace hI := (hI.ext hx14)
  refine sq (y_extract rfl et rfl) ?_
  refine sq (y_extract rfl et rfl) ?_
  refine l_store (new := (lVal r7.1)) (cs' := (AVal r7.1)) hI .z gn rfl rfl et et rfl size_68 rfl rfl rfl ?_
  clear hI; intro c14 w18 hI
  refine sa ?_
  refine nk (c_ret ?_)
  obtain rfl := some_inj h
  exact q_ret (vs := [(Value.agg (AVal r7.1)), vi r7.2]) Tryz.results117 ⟨⟨_, ev_tmp rfl rfl, load_agg (l := (lVal r7.1)) u68 rfl size_68 (CellsAt.of_blk (hI.blk .z) rfl)⟩, ⟨ev_tmp rfl rfl, trivial⟩⟩ (fq hI trivial)
 refine sr (sm ?_)
 refine sq (y_eql rfl et ev_const) ?_
 refine sa ?_
 refine nk (cif h et (fun hb h => ?_) (fun hb h => ?_))
 ·refine sr (sq (y_loadN (l := (lVal a1)) rfl et u68 rfl size_68 (hI.kblk (l := (lVal a1)) (.s .z) rfl).1) ?_)
  refine sq (y_loadN (l := (lVal b1)) rfl et u68 rfl size_68 (hI.kblk (l := (lVal b1)) .z rfl).1) ?_
  obtain ⟨r8, hx15, h⟩ := bnd_some h
  refine s_call gn rfl (r_callF (vs := [(Value.agg (AVal a1)), (Value.agg (AVal b1))]) rfl ok_141 ⟨et, ⟨et, trivial⟩⟩) (Calls.mono (c_frac_Mul (Dj F c7) w4 hI.lt a1 b1 trivial r8 hx15) ?_)
  rintro _ w19 ⟨rfl, hx16, hl8⟩
  refine ⟨_, rfl, ?_⟩
  replace hI := (hI.ext hx16)
  refine sq (y_extract rfl et rfl) ?_
  refine sq (y_extract rfl et rfl) ?_
  refine l_store (new := (lVal r8.1)) (cs' := (AVal r8.1)) hI .z gn rfl rfl et et rfl size_68 rfl rfl rfl ?_
  clear hI; intro c15 w20 hI
  refine sa ?_
  refine nk (c_ret ?_)
  obtain rfl := some_inj h
  exact q_ret (vs := [(Value.agg (AVal r8.1)), vi r8.2]) Tryz.results117 ⟨⟨_, ev_tmp rfl rfl, load_agg (l := (lVal r8.1)) u68 rfl size_68 (CellsAt.of_blk (hI.blk .z) rfl)⟩, ⟨ev_tmp rfl rfl, trivial⟩⟩ (fq hI trivial)
 refine c_skip (k_same (sr (sq (y_loadN (l := (lVal a1)) rfl et u68 rfl size_68 (hI.kblk (l := (lVal a1)) (.s .z) rfl).1) ?_)))
 refine sq (y_loadN (l := (lVal b1)) rfl et u68 rfl size_68 (hI.kblk (l := (lVal b1)) .z rfl).1) ?_
 obtain ⟨r9, hx17, h⟩ := bnd_some h
 refine s_call gn rfl (r_callF (vs := [(Value.agg (AVal a1)), (Value.agg (AVal b1))]) rfl ok_142 ⟨et, ⟨et, trivial⟩⟩) (Calls.mono (c_frac_Div (Dj F c7) w4 hI.lt a1 b1 trivial r9 hx17) ?_)
 rintro _ w21 ⟨rfl, hx18, hl9⟩
 refine ⟨_, rfl, ?_⟩
 replace hI := (hI.ext hx18)
 refine sq (y_extract rfl et rfl) ?_
 refine sq (y_extract rfl et rfl) ?_
 refine l_store (new := (lVal r9.1)) (cs' := (AVal r9.1)) hI .z gn rfl rfl et et rfl size_68 rfl rfl rfl ?_
 clear hI; intro c16 w22 hI
 refine sa ?_
 refine nk (c_ret ?_)
 obtain rfl := some_inj h
 exact q_ret (vs := [(Value.agg (AVal r9.1)), vi r9.2]) Tryz.results117 ⟨⟨_, ev_tmp rfl rfl, load_agg (l := (lVal r9.1)) u68 rfl size_68 (CellsAt.of_blk (hI.blk .z) rfl)⟩, ⟨ev_tmp rfl rfl, trivial⟩⟩ (fq hI trivial)
theorem c_value_Apply (F : NP) (w0 : World) (hF : ∀ k, F k → k < w0.heap.size) (op1 : Int) (t1 : GType) (a1 : GVal) (b1 : GVal) (hc : AllCl [] F w0) (r : GVal × Int)
  (h : m_value_Apply op1 t1 a1 b1 = some r) :
  Calls Tryz.prog 95 #[vi op1, (Value.agg (AType t1)), (Value.agg (AVal a1)), (Value.agg (AVal b1))] w0 fun e w => e = .returned (Value.tuple #[(Value.agg (AVal r.1)), vi r.2]) ∧ Ext w0 w ∧ AllCl [] F w := by
 refine enterK Tryz.func95 rfl Tryz.ntmps95 rfl ?_
 have hI := Bun.start hF hc
 clear hc
 rw [m_value_Apply] at h
 refine sr (l_box (v := (Value.agg (AType t1))) (cs := (AType t1)) hI gn rfl rfl et rfl ?_)
 clear hI; intro b2 c1 w1 hI
 obtain ⟨c2, hI⟩ := hI.relBox .z
 refine l_box (v := (Value.agg (AVal a1))) (cs := (AVal a1)) hI gn rfl rfl et rfl ?_
 clear hI; intro b3 c3 w2 hI
 obtain ⟨c4, hI⟩ := hI.relBox .z
 refine l_box (v := (Value.agg (AVal b1))) (cs := (AVal b1)) hI gn rfl rfl et rfl ?_
 clear hI; intro b4 c5 w3 hI
 obtain ⟨c6, hI⟩ := hI.relBox .z
 refine l_alloc (cs := #[vi 0, vi 0]) hI gn rfl rfl zero_68 rfl ?_
 clear hI; intro b5 c7 w4 hI
 refine sac ?_
 refine nk (c_seq (c_block (sr (sm ?_))))
 refine sq (y_lss rfl et ev_const) ?_
 refine sm ?_
 refine s_gval (g_false rfl rfl rfl rfl) rfl (fun hc => y_move rfl et) ?_
 refine s_gval (g_false rfl rfl rfl rfl) rfl (fun hc => y_gtr rfl (ev_gv et hc) ev_const) ?_
 refine sq (y_or rfl et et) ?_
 refine sa ?_
 refine nk (cif h et (fun hb h => ?_) (fun hb h => ?_))
 ·refine sr (sq (y_build (vs := []) (cs := #[vi 0, vi 0]) rfl trivial (by kernel_rfl)) ?_)
  refine l_store (new := [vi 0, vi 0]) (cs' := #[vi 0, vi 0]) hI .z gn rfl rfl et et rfl size_68 rfl rfl rfl ?_
  clear hI; intro c8 w5 hI
  refine sac ?_
  refine nk (c_ret ?_)
  obtain rfl := some_inj h
  exact q_ret (vs := [(Value.agg #[vi 0, vi 0]), vi 1]) Tryz.results95 ⟨⟨_, ev_tmp rfl rfl, load_agg (l := [vi 0, vi 0]) u68 rfl size_68 (CellsAt.of_blk (hI.blk .z) rfl)⟩, ⟨ev_tmp rfl rfl, trivial⟩⟩ (fq hI trivial)
 refine sr (sq (y_loadN (l := (lType t1)) rfl et u38 rfl size_38 (hI.kblk (l := (lType t1)) (.s (.s .z)) rfl).1) ?_)
 obtain ⟨r1, hx1, h⟩ := bnd_some h
 refine s_call gn rfl (r_callF (vs := [(Value.agg (AType t1))]) rfl ok_88 ⟨et, trivial⟩) (Calls.mono (c_value_ValidateType (Dj F c7) w4 hI.lt t1 trivial r1 hx1) ?_)
 rintro _ w6 ⟨rfl, hx2, hl1⟩
 refine ⟨_, rfl, ?_⟩
 replace hI := (hI.ext hx2)
 refine sq (y_neq rfl et ev_const) ?_
 refine sa ?_
 refine nk (cif h et (fun hb h => ?_) (fun hb h => ?_))
 ·refine sr (sq (y_build (vs := []) (cs := #[vi 0, vi 0]) rfl trivial (by kernel_rfl)) ?_)
  refine l_store (new := [vi 0, vi 0]) (cs' := #[vi 0, vi 0]) hI .z gn rfl rfl et et rfl size_68 rfl rfl rfl ?_
  clear hI; intro c9 w7 hI
  refine sac ?_
  refine nk (c_ret ?_)
  obtain rfl := some_inj h
  exact q_ret (vs := [(Value.agg #[vi 0, vi 0]), vi 10]) Tryz.results95 ⟨⟨_, ev_tmp rfl rfl, load_agg (l := [vi 0, vi 0]) u68 rfl size_68 (CellsAt.of_blk (hI.blk .z) rfl)⟩, ⟨ev_tmp rfl rfl, trivial⟩⟩ (fq hI trivial)
 refine sr (sq (y_loadN (l := (lType t1)) rfl et u38 rfl size_38 (hI.kblk (l := (lType t1)) (.s (.s .z)) rfl).1) ?_)
 refine sq (y_loadN (l := (lVal a1)) rfl et u68 rfl size_68 (hI.kblk (l := (lVal a1)) (.s .z) rfl).1) ?_
 obtain ⟨r2, hx3, h⟩ := bnd_some h
 refine s_call gn rfl (r_callF (vs := [(Value.agg (AType t1)), (Value.agg (AVal a1))]) rfl ok_89 ⟨et, ⟨et, trivial⟩⟩) (Calls.mono (c_value_Valid (Dj F c7) w6 hI.lt t1 a1 trivial r2 hx3) ?_)
 rintro _ w8 ⟨rfl, hx4, hl2⟩
 refine ⟨_, rfl, ?_⟩
 replace hI := (hI.ext hx4)
 refine sq (y_not rfl et) ?_
 refine sm ?_
 refine s_gval (g_false rfl rfl rfl rfl) rfl (fun hc => y_move rfl et) ?_
 refine s_gval (g_false rfl rfl rfl rfl) rfl (fun hc => y_neq rfl (ev_gv et hc) ev_const) ?_
 refine s_gval (g_false rfl rfl rfl rfl) rfl (fun hc => y_move rfl (ev_gv et hc)) ?_
 refine s_gval (g_true2 rfl rfl rfl rfl) rfl (fun hc => (y_loadN (l := (lType t1)) rfl et u38 rfl size_38 (hI.kblk (l := (lType t1)) (.s (.s .z)) rfl).1)) ?_
 refine s_gval (g_true2 rfl rfl rfl rfl) rfl (fun hc => (y_loadN (l := (lVal b1)) rfl et u68 rfl size_68 (hI.kblk (l := (lVal b1)) .z rfl).1)) ?_
 obtain ⟨r3, hx5, h⟩ := bnd_some h
 replace hx5 := gd_some hx5
 refine s_gcallU (v := (vb r3)) (g_true2 rfl rfl rfl rfl) rfl (fun hc => (r_callF (vs := [(Value.agg (AType t1)), (Value.agg (AVal b1))]) rfl ok_89 ⟨(ev_gv et hc), ⟨(ev_gv et hc), trivial⟩⟩)) (fun hc => (c_value_Valid (Dj F c7) w8 hI.lt t1 b1 trivial r3 (hx5 hc)).mono fun _ _ k => ⟨k.1, k.2.1⟩) ?_
 intro w9 hx6; replace hI := hI.ext hx6
 refine s_gval (g_true2 rfl rfl rfl rfl) rfl (fun hc => y_not rfl (ev_gv et hc)) ?_
 refine s_gval (g_false rfl rfl rfl rfl) rfl (fun hc => y_and2 rfl hc et et) ?_
 refine sq (y_or rfl et et) ?_
 refine sa ?_
 refine s_nil ?_
 refine k_next (e := [(0, vi op1), (5, vp b2 0), (6, vp b3 0), (7, vp b4 0), (8, vp b5 0), (24, (vb ((!r2) || ((!decide (op1 = 8)) && (!r3)))))]) ⟨rfl, rfl, rfl, rfl, rfl, rfl, trivial⟩ ?_
 refine cif h et (fun hb h => ?_) (fun hb h => ?_)
 ·refine sr (sq (y_build (vs := []) (cs := #[vi 0, vi 0]) rfl trivial (by kernel_rfl)) ?_)
  refine l_store (new := [vi 0, vi 0]) (cs' := #[vi 0, vi 0]) hI .z gn rfl rfl et et rfl size_68 rfl rfl rfl ?_
  clear hI; intro c10 w10 hI
  refine sac ?_
  refine nk (c_ret ?_)
  obtain rfl := some_inj h
  exact q_ret (vs := [(Value.agg #[vi 0, vi 0]), vi 1]) Tryz.results95 ⟨⟨_, ev_tmp rfl rfl, load_agg (l := [vi 0, vi 0]) u68 rfl size_68 (CellsAt.of_blk (hI.blk .z) rfl)⟩, ⟨ev_tmp rfl rfl, trivial⟩⟩ (fq hI trivial)
 refine c_skip (k_same (c_seq (sr (sm ?_))))
 refine nk (c_block (sr (sq (y_eql rfl et ev_const) ?_)))
 refine sa ?_
 refine nk (cif h et (fun hb h => ?_) (fun hb h => ?_))
 ·refine sr (sq (y_loadN (l := (lType t1)) rfl et u38 rfl size_38 (hI.kblk (l := (lType t1)) (.s (.s .z)) rfl).1) ?_)
  refine sq (y_loadN (l := (lVal a1)) rfl et u68 rfl size_68 (hI.kblk (l := (lVal a1)) (.s .z) rfl).1) ?_
  obtain ⟨r4, hx7, h⟩ := bnd_some h
  refine s_call gn rfl (r_callF (vs := [(Value.agg (AType t1)), (Value.agg (AVal a1))]) rfl ok_115 ⟨et, ⟨et, trivial⟩⟩) (Calls.mono (c_value_negate (Dj F c7) w9 hI.lt t1 a1 trivial r4 hx7) ?_)
  rintro _ w11 ⟨rfl, hx8, hl4⟩
  refine ⟨_, rfl, ?_⟩
  replace hI := (hI.ext hx8)
  refine sq (y_extract rfl et rfl) ?_
  refine sq (y_extract rfl et rfl) ?_
  refine l_store (new := (lVal r4.1)) (cs' := (AVal r4.1)) hI .z gn rfl rfl et et rfl size_68 rfl rfl rfl ?_
  clear hI; intro c11 w12 hI
  refine sa ?_
  refine nk (c_ret ?_)
  obtain rfl := some_inj h
  exact q_ret (vs := [(Value.agg (AVal r4.1)), vi r4.2]) Tryz.results95 ⟨⟨_, ev_tmp rfl rfl, load_agg (l := (lVal r4.1)) u68 rfl size_68 (CellsAt.of_blk (hI.blk .z) rfl)⟩, ⟨ev_tmp rfl rfl, trivial⟩⟩ (fq hI trivial)
 refine c_join (α := Bool) (fun _ => ⟨73, []⟩) (fun x => [(0, vi op1), (5, vp b2 0), (6, vp b3 0), (7, vp b4 0), (8, vp b5 0), (48, vb x)]) (fun x => fun w => ∃ C, Bun noM F w0 C w [MO.box b5 68 #[vi 0, vi 0]] [Cl.blk b2 38 (AType t1), Cl.blk b3 68 (AVal a1), Cl.blk b4 68 (AVal b1)] ∧ m_value_Apply_j1 t1 a1 b1 op1 x = some r) ?_ ?_
 ·clear h hI; rintro i1 w13 ⟨c12, hI, h⟩
  try dsimp only at hI h
  rw [m_value_Apply_j1] at h
  refine c_sub (e := [(0, vi op1), (5, vp b2 0), (6, vp b3 0), (7, vp b4 0), (8, vp b5 0), (48, vb i1)]) ⟨rfl, rfl, rfl, rfl, rfl, rfl, trivial⟩ ?_
  refine cif h et (fun hb h => ?_) (fun hb h => ?_)
  ·refine c_seq (sr (sq (y_loadN (l := (lType t1)) rfl et u38 rfl size_38 (hI.kblk (l := (lType t1)) .z rfl).1) ?_))
   refine sq (y_loadN (l := (lVal a1)) rfl et u68 rfl size_68 (hI.kblk (l := (lVal a1)) (.s .z) rfl).1) ?_
   refine sq (y_loadN (l := (lVal b1)) rfl et u68 rfl size_68 (hI.kblk (l := (lVal b1)) (.s (.s .z)) rfl).1) ?_
   obtain ⟨r5, hx9, h⟩ := bnd_some h
   refine s_call gn rfl (r_callF (vs := [(Value.agg (AType t1)), (Value.agg (AVal a1)), (Value.agg (AVal b1))]) rfl ok_116 ⟨et, ⟨et, ⟨et, trivial⟩⟩⟩) (Calls.mono (c_value_Compare (Dj F c12) w13 hI.lt t1 a1 b1 trivial r5 hx9) ?_)
   rintro _ w14 ⟨rfl, hx10, hl5⟩
   refine ⟨_, rfl, ?_⟩
   replace hI := (hI.ext hx10)
   refine sa ?_
   refine nk (sr (sm ?_))
   refine sq (y_gtr rfl et ev_const) ?_
   refine sm ?_
   refine sq (y_eql rfl et ev_const) ?_
   refine sq (y_eqb rfl u4 et et) ?_
   refine sm ?_
   refine s_gval (g_true rfl rfl rfl rfl) rfl (fun hc => y_move rfl et) ?_
   refine s_gval (g_true rfl rfl rfl rfl) rfl (fun hc => y_neq rfl (ev_gv et hc) ev_const) ?_
   refine sq (y_and rfl et et) ?_
   refine nk (cif h et (fun hb h => ?_) (fun hb h => ?_))
   ·refine sr (sq (y_loadN (l := (lVal b1)) rfl et u68 rfl size_68 (hI.kblk (l := (lVal b1)) (.s (.s .z)) rfl).1) ?_)
    refine l_store (new := (lVal b1)) (cs' := (AVal b1)) hI .z gn rfl rfl et et rfl size_68 rfl rfl rfl ?_
    clear hI; intro c13 w15 hI
    refine sac ?_
    refine nk (c_ret ?_)
    obtain rfl := some_inj h
    exact q_ret (vs := [(Value.agg (AVal b1)), vi 0]) Tryz.results95 ⟨⟨_, ev_tmp rfl rfl, load_agg (l := (lVal b1)) u68 rfl size_68 (CellsAt.of_blk (hI.blk .z) rfl)⟩, ⟨ev_tmp rfl rfl, trivial⟩⟩ (fq hI trivial)
   refine c_skip (k_same (sr (sq (y_loadN (l := (lVal a1)) rfl et u68 rfl size_68 (hI.kblk (l := (lVal a1)) (.s .z) rfl).1) ?_)))
   refine l_store (new := (lVal a1)) (cs' := (AVal a1)) hI .z gn rfl rfl et et rfl size_68 rfl rfl rfl ?_
   clear hI; intro c14 w16 hI
   refine sac ?_
   refine nk (c_ret ?_)
   obtain rfl := some_inj h
   exact q_ret (vs := [(Value.agg (AVal a1)), vi 0]) Tryz.results95 ⟨⟨_, ev_tmp rfl rfl, load_agg (l := (lVal a1)) u68 rfl size_68 (CellsAt.of_blk (hI.blk .z) rfl)⟩, ⟨ev_tmp rfl rfl, trivial⟩⟩ (fq hI trivial)
  refine c_skip (k_same (sr (sm ?_)))
  refine sq (y_loadN (l := (lType t1)) rfl et u38 rfl size_38 (hI.kblk (l := (lType t1)) .z rfl).1) ?_
  refine sq (y_loadN (l := (lVal a1)) rfl et u68 rfl size_68 (hI.kblk (l := (lVal a1)) (.s .z) rfl).1) ?_
  refine sq (y_loadN (l := (lVal b1)) rfl et u68 rfl size_68 (hI.kblk (l := (lVal b1)) (.s (.s .z)) rfl).1) ?_
  obtain ⟨r6, hx11, h⟩ := bnd_some h
  refine s_call gn rfl (r_callF (vs := [vi op1, (Value.agg (AType t1)), (Value.agg (AVal a1)), (Value.agg (AVal b1))]) rfl ok_117 ⟨et, ⟨et, ⟨et, ⟨et, trivial⟩⟩⟩⟩) (Calls.mono (c_value_arithmetic (Dj F c12) w13 hI.lt op1 t1 a1 b1 trivial r6 hx11) ?_)
  rintro _ w17 ⟨rfl, hx12, hl6⟩
  refine ⟨_, rfl, ?_⟩
  replace hI := (hI.ext hx12)
  refine sq (y_extract rfl et rfl) ?_
  refine sq (y_extract rfl et rfl) ?_
  refine l_store (new := (lVal r6.1)) (cs' := (AVal r6.1)) hI .z gn rfl rfl et et rfl size_68 rfl rfl rfl ?_
  clear hI; intro c15 w18 hI
  refine sa ?_
  refine nk (c_ret ?_)
  obtain rfl := some_inj h
  exact q_ret (vs := [(Value.agg (AVal r6.1)), vi r6.2]) Tryz.results95 ⟨⟨_, ev_tmp rfl rfl, load_agg (l := (lVal r6.1)) u68 rfl size_68 (CellsAt.of_blk (hI.blk .z) rfl)⟩, ⟨ev_tmp rfl rfl, trivial⟩⟩ (fq hI trivial)
 refine sr (sq (y_eql rfl et ev_const) ?_)
 refine sa ?_
 refine nk (cif h et (fun hb h => ?_) (fun hb h => ?_))
 ·exact c_skip (k_join (decide (op1 = 9)) ⟨rfl, rfl, rfl, rfl, rfl, rfl, trivial⟩ ⟨_, hI.arr (.c .z .n) ⟨(.s (.s .z)), (.s .z), .z, trivial⟩, h⟩ rfl)
 refine c_region rfl ?_
 refine sq (y_eql rfl et ev_const) ?_
 refine sa ?_
 refine s_nil ?_
 exact k_join (decide (op1 = 10)) ⟨rfl, rfl, rfl, rfl, rfl, rfl, trivial⟩ ⟨_, hI.arr (.c .z .n) ⟨(.s (.s .z)), (.s .z), .z, trivial⟩, h⟩ rfl
theorem c_value_Reduce (F : NP) (w0 : World) (hF : ∀ k, F k → k < w0.heap.size) (fold1 : Int) (t1 : GType) (l1 : List GVal) (a1 : Option Addr) (c1 : Nat) (hc : AllCl [Cl.sl cGVal a1 c1 l1] F w0) (r : GVal × Int)
  (h : m_value_Reduce fold1 t1 l1 = some r) :
  Calls Tryz.prog 77 #[vi fold1, (Value.agg (AType t1)), vs a1 l1.length c1] w0 fun e w => e = .returned (Value.tuple #[(Value.agg (AVal r.1)), vi r.2]) ∧ Ext w0 w ∧ AllCl [] F w := by
 refine enterK Tryz.func77 rfl Tryz.ntmps77 rfl ?_
 have hI := Bun.start hF hc
 clear hc
 rw [m_value_Reduce] at h
 refine sr (l_box (v := (Value.agg (AType t1))) (cs := (AType t1)) hI gn rfl rfl et rfl ?_)
 clear hI; intro b1 c2 w1 hI
 obtain ⟨c3, hI⟩ := hI.relBox .z
 refine l_alloc (cs := #[vi 0, vi 0]) hI gn rfl rfl zero_68 rfl ?_
 clear hI; intro b2 c4 w2 hI
 refine sac ?_
 refine nk (sr (sm ?_))
 obtain ⟨r1, hx1, h⟩ := bnd_some h
 refine s_call gn rfl (r_callF (vs := [vi fold1]) rfl ok_93 ⟨et, trivial⟩) (Calls.mono (c_value_operator (Dj F c4) w2 hI.lt fold1 trivial r1 hx1) ?_)
 rintro _ w3 ⟨rfl, hx2, hl1⟩
 refine ⟨_, rfl, ?_⟩
 replace hI := (hI.ext hx2)
 refine sm ?_
 refine sq (y_extract rfl et rfl) ?_
 refine sq (y_extract rfl et rfl) ?_
 refine sa ?_
 refine sa ?_
 refine nk (c_seq (c_block (sr (sm ?_))))
 refine sq (y_not rfl et) ?_
 refine sa ?_
 refine nk (cif h et (fun hb h => ?_) (fun hb h => ?_))
 ·refine sr (sq (y_build (vs := []) (cs := #[vi 0, vi 0]) rfl trivial (by kernel_rfl)) ?_)
  refine l_store (new := [vi 0, vi 0]) (cs' := #[vi 0, vi 0]) hI .z gn rfl rfl et et rfl size_68 rfl rfl rfl ?_
  clear hI; intro c5 w4 hI
  refine sac ?_
  refine nk (c_ret ?_)
  obtain rfl := some_inj h
  exact q_ret (vs := [(Value.agg #[vi 0, vi 0]), vi 1]) Tryz.results77 ⟨⟨_, ev_tmp rfl rfl, load_agg (l := [vi 0, vi 0]) u68 rfl size_68 (CellsAt.of_blk (hI.blk .z) rfl)⟩, ⟨ev_tmp rfl rfl, trivial⟩⟩ (fq hI trivial)
 refine sr (sq (y_loadN (l := (lType t1)) rfl et u38 rfl size_38 (hI.kblk (l := (lType t1)) .z rfl).1) ?_)
 obtain ⟨r2, hx3, h⟩ := bnd_some h
 refine s_call gn rfl (r_callF (vs := [(Value.agg (AType t1))]) rfl ok_88 ⟨et, trivial⟩) (Calls.mono (c_value_ValidateType (Dj F c4) w3 hI.lt t1 trivial r2 hx3) ?_)
 rintro _ w5 ⟨rfl, hx4, hl2⟩
 refine ⟨_, rfl, ?_⟩
 replace hI := (hI.ext hx4)
 refine sq (y_neq rfl et ev_const) ?_
 refine sa ?_
 refine nk (cif h et (fun hb h => ?_) (fun hb h => ?_))
 ·refine sr (sq (y_build (vs := []) (cs := #[vi 0, vi 0]) rfl trivial (by kernel_rfl)) ?_)
  refine l_store (new := [vi 0, vi 0]) (cs' := #[vi 0, vi 0]) hI .z gn rfl rfl et et rfl size_68 rfl rfl rfl ?_
  clear hI; intro c6 w6 hI
  refine sac ?_
  refine nk (c_ret ?_)
  obtain rfl := some_inj h
  exact q_ret (vs := [(Value.agg #[vi 0, vi 0]), vi 10]) Tryz.results77 ⟨⟨_, ev_tmp rfl rfl, load_agg (l := [vi 0, vi 0]) u68 rfl size_68 (CellsAt.of_blk (hI.blk .z) rfl)⟩, ⟨ev_tmp rfl rfl, trivial⟩⟩ (fq hI trivial)
 refine c_skip (k_same (c_join (α := Unit) (fun _ => ⟨83, []⟩) (fun _ => [(0, vi fold1), (2, vs a1 l1.length c1), (4, vp b1 0), (6, vp b2 0), (8, vi r1.1)]) (fun _ => fun w => ∃ C, Bun noM F w0 C w [MO.box b2 68 #[vi 0, vi 0]] [Cl.sl cGVal a1 c1 l1, Cl.blk b1 38 (AType t1)] ∧ m_value_Reduce_j1 l1 fold1 t1 r1 = some r) ?_ ?_))
 ·clear h hI; rintro _ w7 ⟨c7, hI, h⟩
  try dsimp only at hI h
  rw [m_value_Reduce_j1] at h
  refine c_sub (e := [(0, vi fold1), (2, vs a1 l1.length c1), (4, vp b1 0), (6, vp b2 0), (8, vi r1.1)]) ⟨rfl, rfl, rfl, rfl, rfl, trivial⟩ ?_
  refine c_seq (sr (sm ?_))
  refine sq (y_lenl rfl u39 et) ?_
  refine sq (y_eql rfl et ev_const) ?_
  refine nk (cif h et (fun hb h => ?_) (fun hb h => ?_))
  ·refine sr (sm ?_)
   refine sq (y_loadN (l := (lType t1)) rfl et u38 rfl size_38 (hI.kblk (l := (lType t1)) (.s .z) rfl).1) ?_
   obtain ⟨r3, hx5, h⟩ := bnd_some h
   refine s_call gn rfl (r_callF (vs := [vi fold1, (Value.agg (AType t1))]) rfl ok_94 ⟨et, ⟨et, trivial⟩⟩) (Calls.mono (c_value_Identity (Dj F c7) w7 hI.lt fold1 t1 trivial r3 hx5) ?_)
   rintro _ w8 ⟨rfl, hx6, hl3⟩
   refine ⟨_, rfl, ?_⟩
   replace hI := (hI.ext hx6)
   refine sm ?_
   refine sq (y_extract rfl et rfl) ?_
   refine sq (y_extract rfl et rfl) ?_
   refine l_alloc (cs := #[vi 0, vi 0]) hI gn rfl rfl zero_68 rfl ?_
   clear hI; intro b3 c8 w9 hI
   refine l_store (new := (lVal r3.1)) (cs' := (AVal r3.1)) hI .z gn rfl rfl et et rfl size_68 rfl rfl rfl ?_
   clear hI; intro c9 w10 hI
   refine sa ?_
   refine nk (c_seq (sr (sm ?_)))
   refine sq (y_not rfl et) ?_
   refine nk (cif h et (fun hb h => ?_) (fun hb h => ?_))
   ·refine sr (sq (y_build (vs := []) (cs := #[vi 0, vi 0]) rfl trivial (by kernel_rfl)) ?_)
    refine l_store (new := [vi 0, vi 0]) (cs' := #[vi 0, vi 0]) hI (.s .z) gn rfl rfl et et rfl size_68 rfl rfl rfl ?_
    clear hI; intro c10 w11 hI
    refine sac ?_
    refine nk (c_ret ?_)
    obtain rfl := some_inj h
    exact q_ret (vs := [(Value.agg #[vi 0, vi 0]), vi 1]) Tryz.results77 ⟨⟨_, ev_tmp rfl rfl, load_agg (l := [vi 0, vi 0]) u68 rfl size_68 (CellsAt.of_blk (hI.blk (.s .z)) rfl)⟩, ⟨ev_tmp rfl rfl, trivial⟩⟩ (fq hI trivial)
   refine c_skip (k_same (sr (sq (y_loadN (l := (lVal r3.1)) rfl et u68 rfl size_68 (CellsAt.of_blk (hI.blk .z) rfl)) ?_)))
   refine l_store (new := (lVal r3.1)) (cs' := (AVal r3.1)) hI (.s .z) gn rfl rfl et et rfl size_68 rfl rfl rfl ?_
   clear hI; intro c11 w12 hI
   refine sac ?_
   refine nk (c_ret ?_)
   obtain rfl := some_inj h
   exact q_ret (vs := [(Value.agg (AVal r3.1)), vi 0]) Tryz.results77 ⟨⟨_, ev_tmp rfl rfl, load_agg (l := (lVal r3.1)) u68 rfl size_68 (CellsAt.of_blk (hI.blk (.s .z)) rfl)⟩, ⟨ev_tmp rfl rfl, trivial⟩⟩ (fq hI trivial)
  refine c_skip (k_same (sr (sm ?_)))
  obtain ⟨e1, hx7, h⟩ := bnd_some h
  obtain ⟨ad1, cs1, hA1, hr1, hq1⟩ := hI.clat .z hx7
  obtain rfl : cs1 = (lVal e1) := hr1
  refine sq (y_indexAddr rfl u39 size_68 et ev_const (lat_bd hx7) hA1) ?_
  refine sq (y_loadN (l := (lVal e1)) rfl et u68 rfl size_68 hq1.1) ?_
  refine l_alloc (cs := #[vi 0, vi 0]) hI gn rfl rfl zero_68 rfl ?_
  clear hI; intro b4 c12 w13 hI
  refine l_store (new := (lVal e1)) (cs' := (AVal e1)) hI .z gn rfl rfl et et rfl size_68 rfl rfl rfl ?_
  clear hI; intro c13 w14 hI
  refine nk (c_seq (sr (sm ?_)))
  obtain ⟨zs1, hx8, h⟩ := bnd_some h
  obtain ⟨a2, hB1⟩ : ∃ B : Option Addr, B = (if c1 = Int.toNat 1 then a1 else Option.map (·.add (Int.toNat 1 * 2)) a1) := ⟨_, rfl⟩
  refine sq (y_lfrom rfl u39 size_68 et ev_const hx8 hB1) ?_
  replace hI := hI.from_ .z hx8 hB1
  refine sq (y_lenl rfl u39 et) ?_
  refine sq (y_move rfl ev_const) ?_
  refine nk (c_block (c_loop (α := Nat × Int × GVal) (fun x => fun w => ∃ C, Bun noM F w0 C w [MO.box b2 68 #[vi 0, vi 0], MO.box b4 68 (AVal (x.2.2))] [Cl.blk b1 38 (AType t1), Cl.sl cGVal a2 (c1 - Int.toNat 1) zs1] ∧ m_value_Reduce_l1 zs1 r1 t1 (x.1) (x.2.1) (x.2.2) = some r) (fun x _ => x.1) (fun x => [(4, vp b1 0), (6, vp b2 0), (8, vi r1.1), (14, vp b4 0), (62, vs a2 zs1.length (c1 - Int.toNat 1)), (63, vi (zs1.length : Int)), (64, vi (x.2.1))]) (fu, 0, e1) ⟨_, hI.arr (.c (.s .z) (.c .z .n)) ⟨(.s (.s .z)), .z, trivial⟩, h⟩ ⟨rfl, rfl, rfl, rfl, rfl, rfl, rfl, trivial⟩ ?_))
  clear h hI; rintro ⟨fuel1, i1, out1⟩ w15 ⟨c14, hI, h⟩
  dsimp only at hI h
  rcases fuel1 with _ | fuel1
  ·rw [m_value_Reduce_l1] at h; cases h
  rw [m_value_Reduce_l1] at h
  refine c_sub (e := [(4, vp b1 0), (6, vp b2 0), (8, vi r1.1), (14, vp b4 0), (62, vs a2 zs1.length (c1 - Int.toNat 1)), (63, vi (zs1.length : Int)), (64, vi i1)]) ⟨rfl, rfl, rfl, rfl, rfl, rfl, rfl, trivial⟩ ?_
  refine sr (sq (y_lss rfl et et) ?_)
  refine nk (c_seq (cif h et (fun hb h => ?_) (fun hb h => ?_)))
  ·refine c_skip (k_same (c_seq (c_block (sr ?_))))
   obtain ⟨e2, hx9, h⟩ := bnd_some h
   obtain ⟨ad2, cs2, hA2, hr2, hq2⟩ := hI.clat (.s .z) hx9
   obtain rfl : cs2 = (lVal e2) := hr2
   refine sq (y_indexAddr rfl u39 size_68 et et (lat_bd hx9) hA2) ?_
   refine sq (y_loadN (l := (lVal e2)) rfl et u68 rfl size_68 hq2.1) ?_
   refine l_alloc (cs := #[vi 0, vi 0]) hI gn rfl rfl zero_68 rfl ?_
   clear hI; intro b5 c15 w16 hI
   refine l_store (new := (lVal e2)) (cs' := (AVal e2)) hI .z gn rfl rfl et et rfl size_68 rfl rfl rfl ?_
   clear hI; intro c16 w17 hI
   refine nk (sr (sm ?_))
   refine sq (y_loadN (l := (lType t1)) rfl et u38 rfl size_38 (hI.kblk (l := (lType t1)) .z rfl).1) ?_
   refine sq (y_loadN (l := (lVal out1)) rfl et u68 rfl size_68 (CellsAt.of_blk (hI.blk (.s (.s .z))) rfl)) ?_
   refine sq (y_loadN (l := (lVal e2)) rfl et u68 rfl size_68 (CellsAt.of_blk (hI.blk .z) rfl)) ?_
   obtain ⟨r4, hx10, h⟩ := bnd_some h
   refine s_call gn rfl (r_callF (vs := [vi r1.1, (Value.agg (AType t1)), (Value.agg (AVal out1)), (Value.agg (AVal e2))]) rfl ok_95 ⟨et, ⟨et, ⟨et, ⟨et, trivial⟩⟩⟩⟩) (Calls.mono (c_value_Apply (Dj F c16) w17 hI.lt r1.1 t1 out1 e2 trivial r4 hx10) ?_)
   rintro _ w18 ⟨rfl, hx11, hl4⟩
   refine ⟨_, rfl, ?_⟩
   replace hI := (hI.ext hx11)
   refine sm ?_
   refine sq (y_extract rfl et rfl) ?_
   refine sq (y_extract rfl et rfl) ?_
   refine l_alloc (cs := #[vi 0, vi 0]) hI gn rfl rfl zero_68 rfl ?_
   clear hI; intro b6 c17 w19 hI
   refine l_store (new := (lVal r4.1)) (cs' := (AVal r4.1)) hI .z gn rfl rfl et et rfl size_68 rfl rfl rfl ?_
   clear hI; intro c18 w20 hI
   refine sa ?_
   refine nk (c_seq (sr (sm ?_)))
   refine sq (y_neq rfl et ev_const) ?_
   refine nk (cif h et (fun hb h => ?_) (fun hb h => ?_))
   ·refine sr (sq (y_build (vs := []) (cs := #[vi 0, vi 0]) rfl trivial (by kernel_rfl)) ?_)
    refine sm ?_
    refine l_store (new := [vi 0, vi 0]) (cs' := #[vi 0, vi 0]) hI (.s (.s .z)) gn rfl rfl et et rfl size_68 rfl rfl rfl ?_
    clear hI; intro c19 w21 hI
    refine sa ?_
    refine s_nil ?_
    refine k_next (e := [(6, vp b2 0), (7, vi r4.2)]) ⟨rfl, rfl, trivial⟩ ?_
    refine c_ret ?_
    obtain rfl := some_inj h
    exact q_ret (vs := [(Value.agg #[vi 0, vi 0]), vi r4.2]) Tryz.results77 ⟨⟨_, ev_tmp rfl rfl, load_agg (l := [vi 0, vi 0]) u68 rfl size_68 (CellsAt.of_blk (hI.blk (.s (.s .z))) rfl)⟩, ⟨ev_tmp rfl rfl, trivial⟩⟩ (fq hI trivial)
   refine c_skip (k_same (c_region rfl ?_))
   refine sq (y_loadN (l := (lVal r4.1)) rfl et u68 rfl size_68 (CellsAt.of_blk (hI.blk .z) rfl)) ?_
   refine l_store (new := (lVal r4.1)) (cs' := (AVal r4.1)) hI (.s (.s (.s .z))) gn rfl rfl et et rfl size_68 rfl rfl rfl ?_
   clear hI; intro c20 w22 hI
   refine nk (c_region rfl ?_)
   refine sq (y_add rfl et ev_const) ?_
   refine sm ?_
   refine s_nil ?_
   exact k_loop (fuel1, wi64 (i1 + 1), r4.1) ⟨rfl, rfl, rfl, rfl, rfl, rfl, rfl, trivial⟩ ⟨_, hI.arr (.c (.s (.s .z)) (.c (.s (.s .z)) .n)) ⟨.z, (.s .z), trivial⟩, h⟩ (Nat.lt_succ_self _)
  refine c_exit ?_
  refine k_in ?_
  refine k_same (sr (sq (y_loadN (l := (lVal out1)) rfl et u68 rfl size_68 (CellsAt.of_blk (hI.blk (.s .z)) rfl)) ?_))
  refine l_store (new := (lVal out1)) (cs' := (AVal out1)) hI .z gn rfl rfl et et rfl size_68 rfl rfl rfl ?_
  clear hI; intro c21 w23 hI
  refine sac ?_
  refine nk (c_ret ?_)
  obtain rfl := some_inj h
  exact q_ret (vs := [(Value.agg (AVal out1)), vi 0]) Tryz.results77 ⟨⟨_, ev_tmp rfl rfl, load_agg (l := (lVal out1)) u68 rfl size_68 (CellsAt.of_blk (hI.blk .z) rfl)⟩, ⟨ev_tmp rfl rfl, trivial⟩⟩ (fq hI trivial)
 refine sr (sm ?_)
 refine sq (y_lenl rfl u39 et) ?_
 refine sq (y_move rfl ev_const) ?_
 refine nk (c_block (c_loop (α := Nat × Int) (fun x => fun w => ∃ C, Bun noM F w0 C w [MO.box b2 68 #[vi 0, vi 0]] [Cl.sl cGVal a1 c1 l1, Cl.blk b1 38 (AType t1)] ∧ m_value_Reduce_l2 l1 t1 fold1 r1 (x.1) (x.2) = some r) (fun x _ => x.1) (fun x => [(0, vi fold1), (2, vs a1 l1.length c1), (4, vp b1 0), (6, vp b2 0), (8, vi r1.1), (33, vs a1 l1.length c1), (34, vi (l1.length : Int)), (35, vi (x.2))]) (fu, 0) ⟨_, hI.arr (.c .z .n) ⟨(.s .z), .z, trivial⟩, h⟩ ⟨rfl, rfl, rfl, rfl, rfl, rfl, rfl, rfl, trivial⟩ ?_))
 clear h hI; rintro ⟨fuel2, i2⟩ w24 ⟨c22, hI, h⟩
 dsimp only at hI h
 rcases fuel2 with _ | fuel2
 ·rw [m_value_Reduce_l2] at h; cases h
 rw [m_value_Reduce_l2] at h
 refine c_sub (e := [(0, vi fold1), (2, vs a1 l1.length c1), (4, vp b1 0), (6, vp b2 0), (8, vi r1.1), (33, vs a1 l1.length c1), (34, vi (l1.length : Int)), (35, vi i2)]) ⟨rfl, rfl, rfl, rfl, rfl, rfl, rfl, rfl, trivial⟩ ?_
 refine sr (sq (y_lss rfl et et) ?_)
 refine nk (c_seq (cif h et (fun hb h => ?_) (fun hb h => ?_)))
 ·refine c_skip (k_same (c_seq (c_block (sr ?_))))
  obtain ⟨e3, hx12, h⟩ := bnd_some h
  obtain ⟨ad3, cs3, hA3, hr3, hq3⟩ := hI.clat .z hx12
  obtain rfl : cs3 = (lVal e3) := hr3
  refine sq (y_indexAddr rfl u39 size_68 et et (lat_bd hx12) hA3) ?_
  refine sq (y_loadN (l := (lVal e3)) rfl et u68 rfl size_68 hq3.1) ?_
  refine l_alloc (cs := #[vi 0, vi 0]) hI gn rfl rfl zero_68 rfl ?_
  clear hI; intro b7 c23 w25 hI
  refine l_store (new := (lVal e3)) (cs' := (AVal e3)) hI .z gn rfl rfl et et rfl size_68 rfl rfl rfl ?_
  clear hI; intro c24 w26 hI
  refine nk (sr (sq (y_loadN (l := (lType t1)) rfl et u38 rfl size_38 (hI.kblk (l := (lType t1)) (.s .z) rfl).1) ?_))
  refine sq (y_loadN (l := (lVal e3)) rfl et u68 rfl size_68 (CellsAt.of_blk (hI.blk .z) rfl)) ?_
  obtain ⟨r5, hx13, h⟩ := bnd_some h
  refine s_call gn rfl (r_callF (vs := [(Value.agg (AType t1)), (Value.agg (AVal e3))]) rfl ok_89 ⟨et, ⟨et, trivial⟩⟩) (Calls.mono (c_value_Valid (Dj F c24) w26 hI.lt t1 e3 trivial r5 hx13) ?_)
  rintro _ w27 ⟨rfl, hx14, hl5⟩
  refine ⟨_, rfl, ?_⟩
  replace hI := (hI.ext hx14)
  refine sq (y_not rfl et) ?_
  refine nk (cif h et (fun hb h => ?_) (fun hb h => ?_))
  ·refine sr (sq (y_build (vs := []) (cs := #[vi 0, vi 0]) rfl trivial (by kernel_rfl)) ?_)
   refine l_store (new := [vi 0, vi 0]) (cs' := #[vi 0, vi 0]) hI (.s .z) gn rfl rfl et et rfl size_68 rfl rfl rfl ?_
   clear hI; intro c25 w28 hI
   refine sac ?_
   refine nk (c_ret ?_)
   obtain rfl := some_inj h
   exact q_ret (vs := [(Value.agg #[vi 0, vi 0]), vi 1]) Tryz.results77 ⟨⟨_, ev_tmp rfl rfl, load_agg (l := [vi 0, vi 0]) u68 rfl size_68 (CellsAt.of_blk (hI.blk (.s .z)) rfl)⟩, ⟨ev_tmp rfl rfl, trivial⟩⟩ (fq hI trivial)
  refine c_skip (k_same (c_region rfl ?_))
  refine sq (y_add rfl et ev_const) ?_
  refine sm ?_
  refine s_nil ?_
  exact k_loop (fuel2, wi64 (i2 + 1)) ⟨rfl, rfl, rfl, rfl, rfl, rfl, rfl, rfl, trivial⟩ ⟨_, hI.arr (.c (.s .z) .n) ⟨.z, (.s .z), trivial⟩, h⟩ (Nat.lt_succ_self _)
 refine c_exit ?_
 refine k_in ?_
 exact k_join () ⟨rfl, rfl, rfl, rfl, rfl, trivial⟩ ⟨_, hI.arr (.c .z .n) ⟨.z, (.s .z), trivial⟩, h⟩ rfl
def tr_collective_combine_1_0 : Tr := (.c (11, .s) .n)
theorem c_collective_combine (F : NP) (w0 : World) (hF : ∀ k, F k → k < w0.heap.size) (fold1 : Int) (group1 : List GTensor) (a1 : Option Addr) (c1 : Nat) (hc : AllCl [Cl.sl cGTensor a1 c1 group1] F w0) (r : GTensor × Int)
  (h : m_collective_combine fold1 group1 = some r) :
  Calls Tryz.prog 46 #[vi fold1, vs a1 group1.length c1] w0 fun e w => ∃ (a2 : Option Addr) (c2 : Nat) (a3 : Option Addr) (c3 : Nat), e = .returned (Value.tuple #[(Value.agg (ATensor r.1 a2 c2 a3 c3)), vi r.2]) ∧ Ext w0 w ∧ AllCl [Cl.sl (cInt .i64) a2 c2 r.1.Dims, Cl.sl cGVal a3 c3 r.1.Vals] F w := by
 refine enterK Tryz.func46 rfl Tryz.ntmps46 rfl ?_
 have hI := Bun.start hF hc
 clear hc
 rw [m_collective_combine] at h
 refine sr (l_alloc (cs := ZTensor) hI gn rfl rfl zero_41 rfl ?_)
 clear hI; intro b1 c4 w1 hI
 refine sac ?_
 refine nk (c_seq ?_)
 obtain ⟨e1, hx1, h⟩ := bnd_some h
 obtain ⟨e2, hx2, h⟩ := bnd_some h
 obtain ⟨zs1, hx3, h⟩ := bnd_some h
 refine c_drawX [11] false (.c (0, .q) (.c (1, .q) (.c (2, .q) (.c (3, .q) (.c (4, .q) (.c (5, .q) (.c (6, .q) (.c (7, .q) (.two 8 (.c (9, .q) (.c (10, .s) tr_collective_combine_1_0)) 10 (.c (8, .s) (.c (9, .q) tr_collective_combine_1_0))))))))))) hI (by kernel_rfl) (by kernel_rfl) ?_
 clear hI; intro w6 hI
 refine a_join (α := (Option Addr) × Nat × (Option Addr) × Nat × (Option Addr) × Nat × (Option Addr) × Nat × (Option Addr) × Nat × Nat × NP) (T := tr_collective_combine_1_0) (fun x => [(0, vi fold1), (1, vs a1 group1.length c1), (4, vp b1 0), (5, vi 0), (6, (Value.pointer (some ⟨(x.2.2.2.2.2.2.2.2.2.2.1), 0, none⟩))), (13, vs a1 group1.length c1), (16, (Value.agg (AType e1.Type_))), (17, vs a1 group1.length c1), (20, vs (x.2.2.2.2.1) e2.Dims.length (x.2.2.2.2.2.1)), (21, vs (x.2.2.2.2.2.2.2.2.1) zs1.length (x.2.2.2.2.2.2.2.2.2.1)), (22, (Value.agg #[vi e1.Type_.Kind, vi e1.Type_.Bits, vi e1.Type_.Frac, vi e1.Type_.Round, vi e1.Type_.Over, vs (x.2.2.2.2.2.2.2.2.1) zs1.length (x.2.2.2.2.2.2.2.2.2.1), vs none 0 0]))]) (fun x w => Bun noM F w0 (x.2.2.2.2.2.2.2.2.2.2.2) w [MO.row (cInt .i64) 3 (x.2.2.2.2.2.2.2.2.1) (x.2.2.2.2.2.2.2.2.2.1) zs1, MO.box (x.2.2.2.2.2.2.2.2.2.2.1) 41 ZTensor, MO.box b1 41 ZTensor] [Cl.sl cGVal (x.2.2.2.2.2.2.1) (x.2.2.2.2.2.2.2.1) e2.Vals, Cl.sl (cInt .i64) (x.2.2.2.2.1) (x.2.2.2.2.2.1) e2.Dims, Cl.sl cGVal (x.2.2.1) (x.2.2.2.1) e1.Vals, Cl.sl (cInt .i64) (x.1) (x.2.1) e1.Dims, Cl.sl cGTensor a1 c1 group1]) (fun x w => SN [11] (DM false F (x.2.2.2.2.2.2.2.2.2.2.2)) w) ?_ ?_
 ·clear hI; rintro ⟨a4, c5, a5, c6, a6, c7, a7, c8, a8, c9, b2, c13⟩ w5 hI
  try dsimp only at hI ⊢
  unfold tr_collective_combine_1_0
  refine a_turn (F := F) (C := c13) rfl rfl ?_
  refine la_store (new := [vi e1.Type_.Kind, vi e1.Type_.Bits, vi e1.Type_.Frac, vi e1.Type_.Round, vi e1.Type_.Over, vs a8 zs1.length c9, vs none 0 0]) (cs' := #[vi e1.Type_.Kind, vi e1.Type_.Bits, vi e1.Type_.Frac, vi e1.Type_.Round, vi e1.Type_.Over, vs a8 zs1.length c9, vs none 0 0]) hI (.s .z) rfl gn rfl rfl et et rfl size_41 rfl rfl rfl ?_
  clear hI; intro c12 w4 hI
  refine a_nil ?_
  refine k_same (c_seq (sr (sm ?_)))
  obtain ⟨e3, hx4, h⟩ := bnd_some h
  obtain ⟨ad3, cs3, hA3, hr3, hq3⟩ := hI.clat (.s (.s (.s (.s .z)))) hx4
  obtain ⟨a9, c14, a10, c15, rfl, hf5, hf6⟩ := hr3
  have hI := hI.add (c := Cl.sl (cInt .i64) a9 c14 e3.Dims) hf5
  have hI := hI.add (c := Cl.sl cGVal a10 c15 e3.Vals) hf6
  refine sq (y_indexAddr rfl u25 size_41 et ev_const (lat_bd hx4) hA3) ?_
  refine sq (y_fieldAddr rfl et u41 rfl size_39 rfl) ?_
  refine sq (y_load1 (v := (vs a10 e3.Vals.length c15)) rfl et u39 rfl (CA.part hq3 rfl).1) ?_
  refine sq (y_lenl rfl u39 et) ?_
  refine sq (y_move rfl ev_const) ?_
  refine nk (c_block ?_)
  have hI := hI.nil cGVal 68 none
  refine c_loop (α := Nat × Int × GTensor × (Option Addr) × Nat × (Option Addr) × Nat) (fun x => fun w => ∃ C, Bun noM F w0 C w [MO.row (cInt .i64) 3 (x.2.2.2.1) (x.2.2.2.2.1) (x.2.2.1).Dims, MO.row cGVal 68 (x.2.2.2.2.2.1) (x.2.2.2.2.2.2) (x.2.2.1).Vals, MO.box b1 41 ZTensor, MO.box b2 41 (ATensor (x.2.2.1) (x.2.2.2.1) (x.2.2.2.2.1) (x.2.2.2.2.2.1) (x.2.2.2.2.2.2))] [Cl.sl cGTensor a1 c1 group1] ∧ m_collective_combine_l1 e3 group1 fold1 (x.1) (x.2.1) (x.2.2.1) = some r) (fun x _ => x.1) (fun x => [(0, vi fold1), (1, vs a1 group1.length c1), (4, vp b1 0), (6, vp b2 0), (27, vi (e3.Vals.length : Int)), (28, vi (x.2.1))]) (fu, 0, (⟨e1.Type_, zs1, ([] : List GVal)⟩ : GTensor), a8, c9, none, 0) ⟨_, hI.arr (.c (.s .z) (.c .z (.c (.s .z) (.c .z .n)))) ⟨(.s (.s (.s (.s (.s (.s .z)))))), trivial⟩, h⟩ ⟨rfl, rfl, rfl, rfl, rfl, rfl, trivial⟩ ?_
  clear h hI; rintro ⟨fuel1, i1, out1, a11, c16, a12, c17⟩ w7 ⟨c18, hI, h⟩
  dsimp only at hI h
  rcases fuel1 with _ | fuel1
  ·rw [m_collective_combine_l1] at h; cases h
  rw [m_collective_combine_l1] at h
  refine c_sub (e := [(0, vi fold1), (1, vs a1 group1.length c1), (4, vp b1 0), (6, vp b2 0), (27, vi (e3.Vals.length : Int)), (28, vi i1)]) ⟨rfl, rfl, rfl, rfl, rfl, rfl, trivial⟩ ?_
  refine sr (sq (y_lss rfl et et) ?_)
  refine nk (c_seq (cif h et (fun hb h => ?_) (fun hb h => ?_)))
  ·refine c_skip (k_same (c_join (α := GTensor × (Option Addr) × Nat × (Option Addr) × Nat) (fun _ => ⟨66, []⟩) (fun x => [(0, vi fold1), (1, vs a1 group1.length c1), (4, vp b1 0), (6, vp b2 0), (27, vi (e3.Vals.length : Int)), (28, vi i1)]) (fun x => fun w => ∃ C, Bun noM F w0 C w [MO.row (cInt .i64) 3 (x.2.1) (x.2.2.1) (x.1).Dims, MO.row cGVal 68 (x.2.2.2.1) (x.2.2.2.2) (x.1).Vals, MO.box b1 41 ZTensor, MO.box b2 41 (ATensor (x.1) (x.2.1) (x.2.2.1) (x.2.2.2.1) (x.2.2.2.2))] [Cl.sl cGTensor a1 c1 group1] ∧ m_collective_combine_j1 (m_collective_combine_l1 e3 group1 fold1 fuel1) i1 (x.1) = some r) ?_ ?_))
   ·clear h hI; rintro ⟨out2, a13, c19, a14, c20⟩ w8 ⟨c21, hI, h⟩
    try dsimp only at hI h
    rw [m_collective_combine_j1] at h
    refine c_sub (e := [(0, vi fold1), (1, vs a1 group1.length c1), (4, vp b1 0), (6, vp b2 0), (27, vi (e3.Vals.length : Int)), (28, vi i1)]) ⟨rfl, rfl, rfl, rfl, rfl, rfl, trivial⟩ ?_
    refine c_region rfl ?_
    refine sq (y_add rfl et ev_const) ?_
    refine sm ?_
    refine s_nil ?_
    exact k_loop (fuel1, wi64 (i1 + 1), out2, a13, c19, a14, c20) ⟨rfl, rfl, rfl, rfl, rfl, rfl, trivial⟩ ⟨_, hI.arr (.c .z (.c .z (.c .z (.c .z .n)))) ⟨.z, trivial⟩, h⟩ (Nat.lt_succ_self _)
   refine c_block (sr (sm ?_))
   refine sa ?_
   refine nk (sr (sac ?_))
   refine nk (c_join (α := (List GVal) × (Option Addr) × Nat) (fun _ => ⟨66, []⟩) (fun x => [(0, vi fold1), (1, vs a1 group1.length c1), (4, vp b1 0), (6, vp b2 0), (27, vi (e3.Vals.length : Int)), (28, vi i1), (8, vs (x.2.1) (x.1).length (x.2.2))]) (fun x => fun w => ∃ C, Bun noM F w0 C w [MO.row cGVal 68 (x.2.1) (x.2.2) (x.1), MO.box b1 41 ZTensor, MO.box b2 41 (ATensor out1 a11 c16 a12 c17), MO.row (cInt .i64) 3 a11 c16 out1.Dims, MO.row cGVal 68 a12 c17 out1.Vals] [Cl.sl cGTensor a1 c1 group1] ∧ m_collective_combine_j2 fold1 out1 (m_collective_combine_l1 e3 group1 fold1 fuel1) i1 (x.1) = some r) ?_ ?_)
   ·clear h hI; rintro ⟨l1, a15, c22⟩ w9 ⟨c23, hI, h⟩
    try dsimp only at hI h
    rw [m_collective_combine_j2] at h
    refine c_sub (e := [(0, vi fold1), (1, vs a1 group1.length c1), (4, vp b1 0), (6, vp b2 0), (27, vi (e3.Vals.length : Int)), (28, vi i1), (8, vs a15 l1.length c22)]) ⟨rfl, rfl, rfl, rfl, rfl, rfl, rfl, trivial⟩ ?_
    refine sr (sm ?_)
    refine sq (y_fieldAddr rfl et u41 rfl size_38 rfl) ?_
    refine sq (y_loadN (l := (lType out1.Type_)) rfl et u38 rfl size_38 (CellsAt.of_blk (hI.blk (.s (.s .z))) rfl)) ?_
    refine sm ?_
    obtain ⟨r1, hx5, h⟩ := bnd_some h
    refine s_call gn rfl (r_callF (vs := [vi fold1, (Value.agg (AType out1.Type_)), vs a15 l1.length c22]) rfl ok_77 ⟨et, ⟨et, ⟨et, trivial⟩⟩⟩) (Calls.mono (c_value_Reduce noM w9 (fun _ k => k.elim) fold1 out1.Type_ l1 a15 c22 ⟨hI.lend .z, trivial⟩ r1 hx5) ?_)
    rintro _ w10 ⟨rfl, hx6, hl1⟩
    refine ⟨_, rfl, ?_⟩
    replace hI := (hI.ext hx6)
    refine sm ?_
    refine sq (y_extract rfl et rfl) ?_
    refine sq (y_extract rfl et rfl) ?_
    refine l_alloc (cs := #[vi 0, vi 0]) hI gn rfl rfl zero_68 rfl ?_
    clear hI; intro b3 c24 w11 hI
    refine l_store (new := (lVal r1.1)) (cs' := (AVal r1.1)) hI .z gn rfl rfl et et rfl size_68 rfl rfl rfl ?_
    clear hI; intro c25 w12 hI
    refine sa ?_
    refine nk (c_seq (sr (sm ?_)))
    refine sq (y_neq rfl et ev_const) ?_
    refine nk (cif h et (fun hb h => ?_) (fun hb h => ?_))
    ·refine sr (sq (y_build (vs := []) (cs := ZTensor) rfl trivial (by kernel_rfl)) ?_)
     refine sm ?_
     refine l_store (new := zTensor) (cs' := ZTensor) hI (.s (.s .z)) gn rfl rfl et et rfl size_41 rfl rfl rfl ?_
     clear hI; intro c26 w13 hI
     refine sa ?_
     refine nk (c_ret ?_)
     have hI := hI.add (c := Cl.sl (cInt .i64) none 0 ([] : List Int)) SlC.nil
     have hI := hI.add (c := Cl.sl cGVal none 0 ([] : List GVal)) SlC.nil
     obtain rfl := some_inj h
     exact q_ret (vs := [(Value.agg ZTensor), vi r1.2]) Tryz.results46 ⟨⟨_, ev_tmp rfl rfl, load_agg (l := zTensor) u41 rfl size_41 (CellsAt.of_blk (hI.blk (.s (.s .z))) rfl)⟩, ⟨ev_tmp rfl rfl, trivial⟩⟩ ⟨none, 0, none, 0, rfl, hI.ext0, hI.fin ⟨(.s .z), .z, trivial⟩⟩
    refine c_skip (k_same (c_region rfl ?_))
    refine sq (y_fieldAddr rfl et u41 rfl size_39 rfl) ?_
    refine sq (y_load1 (v := (vs a12 out1.Vals.length c17)) rfl et u39 rfl (CellsAt.of_blk (hI.blk (.s (.s (.s .z)))) rfl)) ?_
    refine sq (y_loadN (l := (lVal r1.1)) rfl et u68 rfl size_68 (CellsAt.of_blk (hI.blk .z) rfl)) ?_
    refine l_lit (c := cGVal) (xs := ([r1.1] : List GVal)) (vs := [(0, (Value.agg (AVal r1.1)))]) (cs := (AVal r1.1)) (css := [(lVal r1.1)]) hI gn rfl rfl u39 info_68 rfl ⟨rfl, et, trivial⟩ (by kernel_rfl) ⟨rfl, trivial⟩ rfl rfl rfl ?_
    clear hI; intro b4 c27 w14 hI
    obtain ⟨zs2, hx7, h⟩ := bnd_some h
    refine l_append (xs := out1.Vals) (ys := ([r1.1] : List GVal)) hI (.s (.s (.s (.s (.s (.s .z)))))) (hI.rd .z) hx7 gn rfl rfl u39 info_68 rfl rfl et et ?_
    clear hI; intro a16 c28 c29 w15 hI
    refine sq (y_fieldAddr rfl et u41 rfl size_39 rfl) ?_
    refine l_store (new := [vs a16 zs2.length c28]) (cs' := #[vi out1.Type_.Kind, vi out1.Type_.Bits, vi out1.Type_.Frac, vi out1.Type_.Round, vi out1.Type_.Over, vs a11 out1.Dims.length c16, vs a16 zs2.length c28]) hI (.s (.s (.s (.s .z)))) gn rfl rfl et et rfl size_39 rfl rfl rfl ?_
    clear hI; intro c30 w16 hI
    refine s_nil ?_
    exact k_join ((⟨out1.Type_, out1.Dims, zs2⟩ : GTensor), a11, c16, a16, c28) ⟨rfl, rfl, rfl, rfl, rfl, rfl, trivial⟩ ⟨_, hI.arr (.c (.s (.s (.s (.s (.s .z))))) (.c (.s (.s (.s (.s (.s .z))))) (.c (.s (.s (.s .z))) (.c (.s (.s (.s .z))) .n)))) ⟨.z, trivial⟩, h⟩ rfl
   refine sr (sm ?_)
   refine sq (y_lenl rfl u25 et) ?_
   refine sq (y_move rfl ev_const) ?_
   refine nk (c_block ?_)
   have hI := hI.nil cGVal 68 none
   refine c_loop (α := Nat × (List GVal) × Int × (Option Addr) × Nat) (fun x => fun w => ∃ C, Bun noM F w0 C w [MO.row cGVal 68 (x.2.2.2.1) (x.2.2.2.2) (x.2.1), MO.box b1 41 ZTensor, MO.box b2 41 (ATensor out1 a11 c16 a12 c17), MO.row (cInt .i64) 3 a11 c16 out1.Dims, MO.row cGVal 68 a12 c17 out1.Vals] [Cl.sl cGTensor a1 c1 group1] ∧ m_collective_combine_l2 group1 i1 fold1 out1 (m_collective_combine_l1 e3 group1 fold1 fuel1) (x.1) (x.2.1) (x.2.2.1) = some r) (fun x _ => x.1) (fun x => [(0, vi fold1), (1, vs a1 group1.length c1), (4, vp b1 0), (6, vp b2 0), (27, vi (e3.Vals.length : Int)), (28, vi i1), (7, vi i1), (8, vs (x.2.2.2.1) (x.2.1).length (x.2.2.2.2)), (31, vs a1 group1.length c1), (32, vi (group1.length : Int)), (33, vi (x.2.2.1))]) (fu, ([] : List GVal), 0, none, 0) ⟨_, hI.arr (.c .z (.c (.s (.s .z)) (.c (.s (.s .z)) (.c .z (.c .z .n))))) ⟨.z, trivial⟩, h⟩ ⟨rfl, rfl, rfl, rfl, rfl, rfl, rfl, rfl, rfl, rfl, rfl, trivial⟩ ?_
   clear h hI; rintro ⟨fuel2, l2, i2, a17, c31⟩ w17 ⟨c32, hI, h⟩
   dsimp only at hI h
   rcases fuel2 with _ | fuel2
   ·rw [m_collective_combine_l2] at h; cases h
   rw [m_collective_combine_l2] at h
   refine c_sub (e := [(0, vi fold1), (1, vs a1 group1.length c1), (4, vp b1 0), (6, vp b2 0), (27, vi (e3.Vals.length : Int)), (28, vi i1), (7, vi i1), (8, vs a17 l2.length c31), (31, vs a1 group1.length c1), (32, vi (group1.length : Int)), (33, vi i2)]) ⟨rfl, rfl, rfl, rfl, rfl, rfl, rfl, rfl, rfl, rfl, rfl, trivial⟩ ?_
   refine sr (sq (y_lss rfl et et) ?_)
   refine nk (c_seq (cif h et (fun hb h => ?_) (fun hb h => ?_)))
   ·refine c_skip (k_same (c_seq (c_block (sr ?_))))
    obtain ⟨e4, hx8, h⟩ := bnd_some h
    obtain ⟨ad4, cs4, hA4, hr4, hq4⟩ := hI.clat .z hx8
    obtain ⟨a18, c33, a19, c34, rfl, hf7, hf8⟩ := hr4
    have hI := hI.add (c := Cl.sl (cInt .i64) a18 c33 e4.Dims) hf7
    have hI := hI.add (c := Cl.sl cGVal a19 c34 e4.Vals) hf8
    refine sq (y_indexAddr rfl u25 size_41 et et (lat_bd hx8) hA4) ?_
    refine sq (y_loadN (l := (lTensor e4 a18 c33 a19 c34)) rfl et u41 rfl size_41 hq4.1) ?_
    refine l_alloc (cs := ZTensor) hI gn rfl rfl zero_41 rfl ?_
    clear hI; intro b5 c35 w18 hI
    refine l_store (new := (lTensor e4 a18 c33 a19 c34)) (cs' := (ATensor e4 a18 c33 a19 c34)) hI .z gn rfl rfl et et rfl size_41 rfl rfl rfl ?_
    clear hI; intro c36 w19 hI
    refine nk (c_region rfl ?_)
    refine sm ?_
    refine sq (y_fieldAddr rfl et u41 rfl size_39 rfl) ?_
    refine sq (y_load1 (v := (vs a19 e4.Vals.length c34)) rfl et u39 rfl (CellsAt.of_blk (hI.blk .z) rfl)) ?_
    refine sm ?_
    obtain ⟨e5, hx9, h⟩ := bnd_some h
    obtain ⟨ad5, cs5, hA5, hr5, hq5⟩ := hI.clat .z hx9
    obtain rfl : cs5 = (lVal e5) := hr5
    refine sq (y_indexAddr rfl u39 size_68 et et (lat_bd hx9) hA5) ?_
    refine sq (y_loadN (l := (lVal e5)) rfl et u68 rfl size_68 hq5.1) ?_
    refine l_lit (c := cGVal) (xs := ([e5] : List GVal)) (vs := [(0, (Value.agg (AVal e5)))]) (cs := (AVal e5)) (css := [(lVal e5)]) hI gn rfl rfl u39 info_68 rfl ⟨rfl, et, trivial⟩ (by kernel_rfl) ⟨rfl, trivial⟩ rfl rfl rfl ?_
    clear hI; intro b6 c37 w20 hI
    obtain ⟨zs3, hx10, h⟩ := bnd_some h
    refine l_append (xs := l2) (ys := ([e5] : List GVal)) hI (.s (.s .z)) (hI.rd .z) hx10 gn rfl rfl u39 info_68 rfl rfl et et ?_
    clear hI; intro a20 c38 c39 w21 hI
    refine sa ?_
    refine nk (c_region rfl ?_)
    refine sq (y_add rfl et ev_const) ?_
    refine sm ?_
    refine s_nil ?_
    exact k_loop (fuel2, zs3, wi64 (i2 + 1), a20, c38) ⟨rfl, rfl, rfl, rfl, rfl, rfl, rfl, rfl, rfl, rfl, rfl, trivial⟩ ⟨_, hI.arr (.c (.s (.s .z)) (.c (.s (.s .z)) (.c (.s (.s .z)) (.c (.s (.s .z)) (.c (.s (.s .z)) .n))))) ⟨(.s (.s .z)), trivial⟩, h⟩ (Nat.lt_succ_self _)
   refine c_exit ?_
   refine k_in ?_
   exact k_join (l2, a17, c31) ⟨rfl, rfl, rfl, rfl, rfl, rfl, rfl, trivial⟩ ⟨_, hI.arr (.c .z (.c .z (.c .z (.c .z (.c .z .n))))) ⟨.z, trivial⟩, h⟩ rfl
  refine c_exit ?_
  refine k_in ?_
  refine k_same (sr (sq (y_loadN (l := (lTensor out1 a11 c16 a12 c17)) rfl et u41 rfl size_41 (CellsAt.of_blk (hI.blk (.s (.s (.s .z)))) rfl)) ?_))
  refine l_store (new := (lTensor out1 a11 c16 a12 c17)) (cs' := (ATensor out1 a11 c16 a12 c17)) hI (.s (.s .z)) gn rfl rfl et et rfl size_41 rfl rfl rfl ?_
  clear hI; intro c40 w22 hI
  refine sac ?_
  refine nk (c_ret ?_)
  obtain ⟨c41, hI⟩ := hI.release .z
  obtain ⟨c42, hI⟩ := hI.release .z
  obtain rfl := some_inj h
  exact q_ret (vs := [(Value.agg (ATensor out1 a11 c16 a12 c17)), vi 0]) Tryz.results46 ⟨⟨_, ev_tmp rfl rfl, load_agg (l := (lTensor out1 a11 c16 a12 c17)) u41 rfl size_41 (CellsAt.of_blk (hI.blk .z) rfl)⟩, ⟨ev_tmp rfl rfl, trivial⟩⟩ ⟨a11, c16, a12, c17, rfl, hI.ext0, hI.fin ⟨(.s .z), .z, trivial⟩⟩
 intro hk_tr_collective_combine_1_0
 refine a_q rfl gn rfl (fun w' => y_move rfl et) ?_
 obtain ⟨ad1, cs1, hA1, hr1, hq1⟩ := hI.clat .z hx1
 obtain ⟨a4, c5, a5, c6, rfl, hf1, hf2⟩ := hr1
 have hI := hI.add (c := Cl.sl (cInt .i64) a4 c5 e1.Dims) hf1
 have hI := hI.add (c := Cl.sl cGVal a5 c6 e1.Vals) hf2
 refine a_q rfl gn rfl (fun w' => y_indexAddr rfl u25 size_41 et ev_const (lat_bd hx1) hA1) ?_
 refine a_q rfl gn rfl (fun w' => y_fieldAddr rfl et u41 rfl size_38 rfl) ?_
 refine a_read rfl gn rfl (fun w' hw' => (y_loadN (l := (lType e1.Type_)) rfl et u38 rfl size_38 ((CA.part hq1 rfl).at_ (SX.any rfl hw')))) (by kernel_rfl) ?_
 refine a_q rfl gn rfl (fun w' => y_move rfl et) ?_
 obtain ⟨ad2, cs2, hA2, hr2, hq2⟩ := hI.clat (.s (.s .z)) hx2
 obtain ⟨a6, c7, a7, c8, rfl, hf3, hf4⟩ := hr2
 have hI := hI.add (c := Cl.sl (cInt .i64) a6 c7 e2.Dims) hf3
 have hI := hI.add (c := Cl.sl cGVal a7 c8 e2.Vals) hf4
 refine a_q rfl gn rfl (fun w' => y_indexAddr rfl u25 size_41 et ev_const (lat_bd hx2) hA2) ?_
 refine a_q rfl gn rfl (fun w' => y_fieldAddr rfl et u41 rfl size_22 rfl) ?_
 refine a_read rfl gn rfl (fun w' hw' => (y_load1 (v := (vs a6 e2.Dims.length c7)) rfl et u22 rfl ((CA.part hq2 rfl).at_ (SX.any rfl hw')))) (by kernel_rfl) ?_
 refine a_two ?_ ?_
 ·skip
  replace hI := hI.nil (cInt .i64) 3 none
  refine la_appendX (ys := e2.Dims) hI .z (hI.crd (.s .z)) hx3 rfl gn rfl rfl u22 info_3 rfl rfl ev_const et ?_
  clear hI; intro a8 c9 c10 w2 hI
  refine a_q rfl gn rfl (fun w' => (y_build (vs := [(0, (Value.agg (AType e1.Type_))), (1, vs a8 zs1.length c9)]) (cs := #[vi e1.Type_.Kind, vi e1.Type_.Bits, vi e1.Type_.Frac, vi e1.Type_.Round, vi e1.Type_.Over, vs a8 zs1.length c9, vs none 0 0]) rfl ⟨rfl, et, ⟨rfl, et, trivial⟩⟩ (by kernel_rfl))) ?_
  refine la_alloc (cs := ZTensor) hI rfl gn rfl rfl zero_41 rfl ?_
  clear hI; intro b2 c11 w3 hI
  exact a_sub (hk_tr_collective_combine_1_0 (a4, c5, a5, c6, a6, c7, a7, c8, a8, c9, b2, c11) _ (hI.arr (.c (.s .z) (.c .z (.c .z .n))) ⟨.z, (.s .z), (.s (.s .z)), (.s (.s (.s .z))), (.s (.s (.s (.s .z)))), trivial⟩)) ⟨rfl, rfl, rfl, rfl, rfl, rfl, rfl, rfl, rfl, rfl, rfl, trivial⟩
 refine la_alloc (cs := ZTensor) hI rfl gn rfl rfl zero_41 rfl ?_
 clear hI; intro b2 c11 w3 hI
 replace hI := hI.nil (cInt .i64) 3 none
 refine la_appendX (ys := e2.Dims) hI .z (hI.crd (.s .z)) hx3 rfl gn rfl rfl u22 info_3 rfl rfl ev_const et ?_
 clear hI; intro a8 c9 c10 w2 hI
 refine a_q rfl gn rfl (fun w' => (y_build (vs := [(0, (Value.agg (AType e1.Type_))), (1, vs a8 zs1.length c9)]) (cs := #[vi e1.Type_.Kind, vi e1.Type_.Bits, vi e1.Type_.Frac, vi e1.Type_.Round, vi e1.Type_.Over, vs a8 zs1.length c9, vs none 0 0]) rfl ⟨rfl, et, ⟨rfl, et, trivial⟩⟩ (by kernel_rfl))) ?_
 exact a_sub (hk_tr_collective_combine_1_0 (a4, c5, a5, c6, a6, c7, a7, c8, a8, c9, b2, c10) _ (hI.arr (.c .z (.c .z (.c .z .n))) ⟨.z, (.s .z), (.s (.s .z)), (.s (.s (.s .z))), (.s (.s (.s (.s .z)))), trivial⟩)) ⟨rfl, rfl, rfl, rfl, rfl, rfl, rfl, rfl, rfl, rfl, rfl, trivial⟩
theorem c_collective_AllReduce_1 (F : NP) (w0 : World) (hF : ∀ k, F k → k < w0.heap.size) (a1 : Int) (group1 : List GTensor) (a3 : Int) (a2 : Option Addr) (c1 : Nat) (b1 : Nat) (hc : AllCl [Cl.sl cGTensor a2 c1 group1, Cl.blk b1 3 #[vi a3]] F w0) (r : GTensor × Int)
  (h : m_collective_AllReduce_1 a1 group1 a3 = some r) :
  Calls Tryz.prog 45 #[vi a1, vs a2 group1.length c1, vp b1 0] w0 fun e w => ∃ (a4 : Option Addr) (c2 : Nat) (a5 : Option Addr) (c3 : Nat), e = .returned (Value.tuple #[(Value.agg (ATensor r.1 a4 c2 a5 c3)), vi r.2]) ∧ Ext w0 w ∧ AllCl [Cl.sl (cInt .i64) a4 c2 r.1.Dims, Cl.sl cGVal a5 c3 r.1.Vals] F w := by
 refine enterK Tryz.func45 rfl Tryz.ntmps45 rfl ?_
 have hI := Bun.start hF hc
 clear hc
 rw [m_collective_AllReduce_1] at h
 refine sr (l_alloc (cs := ZTensor) hI gn rfl rfl zero_41 rfl ?_)
 clear hI; intro b2 c4 w1 hI
 refine sac ?_
 refine nk (sr (sq (y_load1 (v := (vi a3)) rfl et u3 rfl (hI.kblk (l := [vi a3]) (.s .z) rfl).1) ?_))
 refine sm ?_
 obtain ⟨r1, hx1, h⟩ := bnd_some h
 refine s_call gn rfl (r_callF (vs := [vi a3, vs a2 group1.length c1]) rfl ok_46 ⟨et, ⟨et, trivial⟩⟩) (Calls.mono (c_collective_combine (Dj F c4) w1 hI.lt a3 group1 a2 c1 ⟨(hI.get .z), trivial⟩ r1 hx1) ?_)
 rintro _ w2 ⟨a6, c5, a7, c6, rfl, hx2, hl1⟩
 refine ⟨_, rfl, ?_⟩
 replace hI := (hI.ext hx2).adds hl1
 refine sq (y_extract rfl et rfl) ?_
 refine sq (y_extract rfl et rfl) ?_
 refine l_store (new := (lTensor r1.1 a6 c5 a7 c6)) (cs' := (ATensor r1.1 a6 c5 a7 c6)) hI .z gn rfl rfl et et rfl size_41 rfl rfl rfl ?_
 clear hI; intro c7 w3 hI
 refine sa ?_
 refine nk (c_ret ?_)
 obtain rfl := some_inj h
 exact q_ret (vs := [(Value.agg (ATensor r1.1 a6 c5 a7 c6)), vi r1.2]) Tryz.results45 ⟨⟨_, ev_tmp rfl rfl, load_agg (l := (lTensor r1.1 a6 c5 a7 c6)) u41 rfl size_41 (CellsAt.of_blk (hI.blk .z) rfl)⟩, ⟨ev_tmp rfl rfl, trivial⟩⟩ ⟨a6, c5, a7, c6, rfl, hI.ext0, hI.fin ⟨.z, (.s .z), trivial⟩⟩
theorem c_collective_AllReduce (F : NP) (w0 : World) (hF : ∀ k, F k → k < w0.heap.size) (m1 : GMesh) (l1 : List GTensor) (axis1 : Int) (fold1 : Int) (a1 : Option Addr) (c1 : Nat) (a2 : Option Addr) (c2 : Nat) (hc : AllCl [Cl.sl (cInt .i64) a1 c1 m1.Dims, Cl.sl cGTensor a2 c2 l1] F w0) (r : List GTensor × Int)
  (h : m_collective_AllReduce m1 l1 axis1 fold1 = some r) :
  Calls Tryz.prog 16 #[(Value.agg #[vs a1 m1.Dims.length c1]), vs a2 l1.length c2, vi axis1, vi fold1] w0 fun e w => ∃ (a3 : Option Addr) (c3 : Nat), e = .returned (Value.tuple #[vs a3 r.1.length c3, vi r.2]) ∧ Ext w0 w ∧ AllCl [Cl.sl cGTensor a3 c3 r.1] F w := by
 refine enterK Tryz.func16 rfl Tryz.ntmps16 rfl ?_
 have hI := Bun.start hF hc
 clear hc
 rw [m_collective_AllReduce] at h
 refine sr (l_box (v := (Value.agg #[vs a1 m1.Dims.length c1])) (cs := #[vs a1 m1.Dims.length c1]) hI gn rfl rfl et rfl ?_)
 clear hI; intro b1 c4 w1 hI
 obtain ⟨c5, hI⟩ := hI.relBox .z
 refine l_box (v := (vi fold1)) (cs := #[vi fold1]) hI gn rfl rfl et rfl ?_
 clear hI; intro b2 c6 w2 hI
 obtain ⟨c7, hI⟩ := hI.relBox .z
 refine sac ?_
 refine sac ?_
 refine nk (c_seq (sr (sq (y_loadN (l := [vs a1 m1.Dims.length c1]) rfl et u24 rfl size_24 (hI.kblk (l := [vs a1 m1.Dims.length c1]) (.s .z) rfl).1) ?_)))
 refine sm ?_
 obtain ⟨r1, hx1, h⟩ := bnd_some h
 refine s_call gn rfl (r_callF (vs := [(Value.agg #[vs a1 m1.Dims.length c1]), vs a2 l1.length c2]) rfl ok_43 ⟨et, ⟨et, trivial⟩⟩) (Calls.mono (c_collective_check (Dj F c7) w2 hI.lt m1 l1 a1 c1 a2 c2 ⟨(hI.get (.s (.s .z))), (hI.get (.s (.s (.s .z)))), trivial⟩ r1 hx1) ?_)
 rintro _ w3 ⟨rfl, hx2, hl1⟩
 refine ⟨_, rfl, ?_⟩
 replace hI := (hI.ext hx2)
 refine sa ?_
 refine nk (sr (sm ?_))
 refine sq (y_neq rfl et ev_const) ?_
 refine nk (cif h et (fun hb h => ?_) (fun hb h => ?_))
 ·refine sr (sm ?_)
  refine sac ?_
  refine sa ?_
  refine nk (c_ret ?_)
  have hI := hI.add (c := Cl.sl cGTensor none 0 ([] : List GTensor)) SlC.nil
  obtain rfl := some_inj h
  exact q_ret (vs := [vs none 0 0, vi r1]) Tryz.results16 ⟨ev_tmp rfl rfl, ⟨ev_tmp rfl rfl, trivial⟩⟩ ⟨none, 0, rfl, hI.ext0, hI.fin ⟨.z, trivial⟩⟩
 refine c_skip (k_same (c_seq (sr (sq (y_loadN (l := [vs a1 m1.Dims.length c1]) rfl et u24 rfl size_24 (hI.kblk (l := [vs a1 m1.Dims.length c1]) (.s .z) rfl).1) ?_))))
 refine sm ?_
 obtain ⟨r2, hx3, h⟩ := bnd_some h
 refine s_call gn rfl (r_callF (vs := [(Value.agg #[vs a1 m1.Dims.length c1]), vi axis1]) rfl ok_44 ⟨et, ⟨et, trivial⟩⟩) (Calls.mono (c_collective_hasAxis (Dj F c7) w3 hI.lt m1 axis1 a1 c1 ⟨(hI.get (.s (.s .z))), trivial⟩ r2 hx3) ?_)
 rintro _ w4 ⟨rfl, hx4, hl2⟩
 refine ⟨_, rfl, ?_⟩
 replace hI := (hI.ext hx4)
 refine sq (y_not rfl et) ?_
 refine nk (cif h et (fun hb h => ?_) (fun hb h => ?_))
 ·refine sr (sac ?_)
  refine sac ?_
  refine nk (c_ret ?_)
  have hI := hI.add (c := Cl.sl cGTensor none 0 ([] : List GTensor)) SlC.nil
  obtain rfl := some_inj h
  exact q_ret (vs := [vs none 0 0, vi 23]) Tryz.results16 ⟨ev_tmp rfl rfl, ⟨ev_tmp rfl rfl, trivial⟩⟩ ⟨none, 0, rfl, hI.ext0, hI.fin ⟨.z, trivial⟩⟩
 refine c_skip (k_same (c_seq (sr (sq (y_load1 (v := (vi fold1)) rfl et u3 rfl (hI.kblk (l := [vi fold1]) .z rfl).1) ?_))))
 refine sq (y_lss rfl et ev_const) ?_
 refine sm ?_
 refine s_gval (g_false rfl rfl rfl rfl) rfl (fun hc => (y_load1 (v := (vi fold1)) rfl et u3 rfl (hI.kblk (l := [vi fold1]) .z rfl).1)) ?_
 refine s_gval (g_false rfl rfl rfl rfl) rfl (fun hc => y_gtr rfl (ev_gv et hc) ev_const) ?_
 refine sq (y_or rfl et et) ?_
 refine nk (cif h et (fun hb h => ?_) (fun hb h => ?_))
 ·refine sr (sac ?_)
  refine sac ?_
  refine nk (c_ret ?_)
  have hI := hI.add (c := Cl.sl cGTensor none 0 ([] : List GTensor)) SlC.nil
  obtain rfl := some_inj h
  exact q_ret (vs := [vs none 0 0, vi 1]) Tryz.results16 ⟨ev_tmp rfl rfl, ⟨ev_tmp rfl rfl, trivial⟩⟩ ⟨none, 0, rfl, hI.ext0, hI.fin ⟨.z, trivial⟩⟩
 refine c_skip (k_same (sr (sq (y_makeFunc (vs := []) (cap := [vp b2 0]) rfl rfl ⟨et, trivial⟩) ?_)))
 refine sq (y_build (vs := [(0, (Value.func (.func 45) #[] #[vp b2 0]))]) (cs := #[(Value.func (.func 45) #[] #[vp b2 0])]) rfl ⟨rfl, et, trivial⟩ (by kernel_rfl)) ?_
 refine l_alloc (cs := #[Value.nilFunc]) hI gn rfl rfl zero_60 rfl ?_
 clear hI; intro b3 c8 w5 hI
 refine l_store (new := [(Value.func (.func 45) #[] #[vp b2 0])]) (cs' := #[(Value.func (.func 45) #[] #[vp b2 0])]) hI .z gn rfl rfl et et rfl size_60 rfl rfl rfl ?_
 clear hI; intro c9 w6 hI
 refine nk (sr (sq (y_loadN (l := [(Value.func (.func 45) #[] #[vp b2 0])]) rfl et u60 rfl size_60 (CellsAt.of_blk (hI.blk .z) rfl)) ?_))
 refine sq (y_loadN (l := [vs a1 m1.Dims.length c1]) rfl et u24 rfl size_24 (hI.kblk (l := [vs a1 m1.Dims.length c1]) (.s .z) rfl).1) ?_
 refine sm ?_
 refine sm ?_
 have hI := hI.add (c := clFn_k1 (Value.func (.func 45) #[] #[vp b2 0]) (fun y_1 y_2 => m_collective_AllReduce_1 y_1 y_2 fold1)) ⟨rfl, fun D' w' hs hl x_1 x_2 A_3 c_4 r k h => CallV.fn (cap := [vp b2 0]) ok_45 (c_collective_AllReduce_1 D' w' hl x_1 x_2 fold1 A_3 c_4 b2 ⟨k.1, (Cl.sp _ hs (hI.get .z)), trivial⟩ r h)⟩
 obtain ⟨r3, hx5, h⟩ := bnd_some h
 refine s_call gn rfl (r_callF (vs := [(Value.agg #[(Value.func (.func 45) #[] #[vp b2 0])]), (Value.agg #[vs a1 m1.Dims.length c1]), vs a2 l1.length c2, vi axis1]) rfl ok_34 ⟨et, ⟨et, ⟨et, ⟨et, trivial⟩⟩⟩⟩) (Calls.mono (c_collective_operation_apply (Dj F c9) w6 hI.lt (⟨(fun y_1 y_2 => m_collective_AllReduce_1 y_1 y_2 fold1)⟩ : Gcollective_operation) m1 l1 axis1 (Value.func (.func 45) #[] #[vp b2 0]) a1 c1 a2 c2 ⟨(hI.get .z), (hI.get (.s (.s (.s .z)))), (hI.get (.s (.s (.s (.s .z))))), trivial⟩ r3 hx5) ?_)
 rintro _ w7 ⟨a4, c10, rfl, hx6, hl3⟩
 refine ⟨_, rfl, ?_⟩
 replace hI := (hI.ext hx6).adds hl3
 refine sq (y_extract rfl et rfl) ?_
 refine sq (y_extract rfl et rfl) ?_
 refine sa ?_
 refine sa ?_
 refine s_nil ?_
 refine k_next (e := [(8, vs a4 r3.1.length c10), (9, vi r3.2)]) ⟨rfl, rfl, trivial⟩ ?_
 refine c_ret ?_
 obtain rfl := some_inj h
 exact q_ret (vs := [vs a4 r3.1.length c10, vi r3.2]) Tryz.results16 ⟨ev_tmp rfl rfl, ⟨ev_tmp rfl rfl, trivial⟩⟩ ⟨a4, c10, rfl, hI.ext0, hI.fin ⟨.z, trivial⟩⟩
theorem c_shape_Slice (F : NP) (w0 : World) (hF : ∀ k, F k → k < w0.heap.size) (d1 : List Int) (axis1 : Int) (from1 : Int) (to1 : Int) (a1 : Option Addr) (c1 : Nat) (hc : AllCl [Cl.sl (cInt .i64) a1 c1 d1] F w0) (r : List Int × Int)
  (h : m_shape_Slice d1 axis1 from1 to1 = some r) :
  Calls Tryz.prog 72 #[vs a1 d1.length c1, vi axis1, vi from1, vi to1] w0 fun e w => ∃ (a2 : Option Addr) (c2 : Nat), e = .returned (Value.tuple #[vs a2 r.1.length c2, vi r.2]) ∧ Ext w0 w ∧ AllCl [Cl.sl (cInt .i64) a2 c2 r.1] F w := by
 refine enterK Tryz.func72 rfl Tryz.ntmps72 rfl ?_
 have hI := Bun.start hF hc
 clear hc
 rw [m_shape_Slice] at h
 refine sr (sac ?_)
 refine sac ?_
 refine nk (c_seq (sr (sm ?_)))
 obtain ⟨r1, hx1, h⟩ := bnd_some h
 refine s_call gn rfl (r_callF (vs := [vs a1 d1.length c1]) rfl ok_82 ⟨et, trivial⟩) (Calls.mono (c_shape_Validate (Dj F noM) w0 hI.lt d1 a1 c1 ⟨(hI.get .z), trivial⟩ r1 hx1) ?_)
 rintro _ w1 ⟨rfl, hx2, hl1⟩
 refine ⟨_, rfl, ?_⟩
 replace hI := (hI.ext hx2)
 refine sa ?_
 refine nk (sr (sm ?_))
 refine sq (y_neq rfl et ev_const) ?_
 refine nk (cif h et (fun hb h => ?_) (fun hb h => ?_))
 ·refine sr (sm ?_)
  refine sac ?_
  refine sa ?_
  refine nk (c_ret ?_)
  have hI := hI.add (c := Cl.sl (cInt .i64) none 0 ([] : List Int)) SlC.nil
  obtain rfl := some_inj h
  exact q_ret (vs := [vs none 0 0, vi r1]) Tryz.results72 ⟨ev_tmp rfl rfl, ⟨ev_tmp rfl rfl, trivial⟩⟩ ⟨none, 0, rfl, hI.ext0, hI.fin ⟨.z, trivial⟩⟩
 refine c_skip (k_same (c_seq (sr (sm ?_))))
 refine sq (y_lss rfl et ev_const) ?_
 refine sm ?_
 refine s_gval (g_false rfl rfl rfl rfl) rfl (fun hc => y_move rfl et) ?_
 refine s_gval (g_false rfl rfl rfl rfl) rfl (fun hc => y_move rfl et) ?_
 refine s_gval (g_false rfl rfl rfl rfl) rfl (fun hc => y_lenl rfl u22 (ev_gv et hc)) ?_
 refine s_gval (g_false rfl rfl rfl rfl) rfl (fun hc => y_geq rfl (ev_gv et hc) (ev_gv et hc)) ?_
 refine sq (y_or rfl et et) ?_
 refine nk (cif h et (fun hb h => ?_) (fun hb h => ?_))
 ·refine sr (sac ?_)
  refine sac ?_
  refine nk (c_ret ?_)
  have hI := hI.add (c := Cl.sl (cInt .i64) none 0 ([] : List Int)) SlC.nil
  obtain rfl := some_inj h
  exact q_ret (vs := [vs none 0 0, vi 11]) Tryz.results72 ⟨ev_tmp rfl rfl, ⟨ev_tmp rfl rfl, trivial⟩⟩ ⟨none, 0, rfl, hI.ext0, hI.fin ⟨.z, trivial⟩⟩
 refine c_skip (k_same (c_seq (sr (sm ?_))))
 refine sq (y_lss rfl et ev_const) ?_
 refine sm ?_
 refine s_gval (g_false rfl rfl rfl rfl) rfl (fun hc => y_move rfl et) ?_
 refine s_gval (g_false rfl rfl rfl rfl) rfl (fun hc => y_move rfl et) ?_
 refine s_gval (g_false rfl rfl rfl rfl) rfl (fun hc => y_geq rfl (ev_gv et hc) (ev_gv et hc)) ?_
 refine sq (y_or rfl et et) ?_
 refine sm ?_
 refine s_gval (g_false rfl rfl rfl rfl) rfl (fun hc => y_move rfl et) ?_
 refine s_gval (g_false rfl rfl rfl rfl) rfl (fun hc => y_move rfl et) ?_
 refine s_gval (g_false rfl rfl rfl rfl) rfl (fun hc => y_move rfl et) ?_
 obtain ⟨e1, hx3, h⟩ := bnd_some h
 replace hx3 := gd_some hx3
 obtain ⟨ad1, cs1, hq1⟩ := hI.gclat .z hx3
 have hq2 : (!((decide (from1 < 0)) || (decide (to1 ≤ from1)))) = true → CA (Dj F noM) w1 (ad1.add (Int.toNat axis1 * 1)) [vi e1] := fun hc => by have k := hq1 hc; have e : cs1 = _ := k.2.1; rw [← e]; exact k.2.2
 refine s_gval (g_false rfl rfl rfl rfl) rfl (fun hc => (y_indexAddr rfl u22 size_3 (ev_gv et hc) (ev_gv et hc) (lat_bd (hx3 hc)) (hq1 hc).1)) ?_
 refine s_gval (g_false rfl rfl rfl rfl) rfl (fun hc => (y_load1 (v := (vi e1)) rfl (ev_gv et hc) u3 rfl (hq2 hc).1)) ?_
 refine s_gval (g_false rfl rfl rfl rfl) rfl (fun hc => y_gtr rfl (ev_gv et hc) (ev_gv et hc)) ?_
 refine sq (y_or rfl et et) ?_
 refine s_nil ?_
 refine k_next (e := [(0, vs a1 d1.length c1), (1, vi axis1), (2, vi from1), (3, vi to1), (39, (vb (((decide (from1 < 0)) || (decide (to1 ≤ from1))) || (decide (e1 < to1)))))]) ⟨rfl, rfl, rfl, rfl, rfl, trivial⟩ ?_
 refine cif h et (fun hb h => ?_) (fun hb h => ?_)
 ·refine sr (sac ?_)
  refine sac ?_
  refine nk (c_ret ?_)
  have hI := hI.add (c := Cl.sl (cInt .i64) none 0 ([] : List Int)) SlC.nil
  obtain rfl := some_inj h
  exact q_ret (vs := [vs none 0 0, vi 12]) Tryz.results72 ⟨ev_tmp rfl rfl, ⟨ev_tmp rfl rfl, trivial⟩⟩ ⟨none, 0, rfl, hI.ext0, hI.fin ⟨.z, trivial⟩⟩
 refine c_skip (k_same (sr (sm ?_)))
 obtain ⟨c3, f1, hB, hl2, hk1⟩ := hI.hands .n
 obtain ⟨r2, hx4, h⟩ := bnd_some h
 try dsimp only at h
 refine s_call gn rfl (r_callF (vs := [vs a1 d1.length c1]) rfl ok_85 ⟨et, trivial⟩) (Calls.mono (c_slices_Clone_int_int_o c3 f1 w1 d1 a1 c1 (hB.subs ⟨.z, trivial⟩) _ hx4) ?_)
 rintro _ w2 ⟨a3, c4, c5, rfl, hB2⟩
 obtain ⟨c6, hs1, hI⟩ := hk1 _ _ _ _ hB2
 replace hI : Bun noM F w0 c6 w2 [MO.row (cInt .i64) 3 a3 c4 r2] [Cl.sl (cInt .i64) a1 c1 d1] := hI
 refine ⟨_, rfl, ?_⟩
 refine sa ?_
 refine nk (sr (sm ?_))
 refine sm ?_
 refine sm ?_
 refine sm ?_
 refine sq (y_sub rfl et et) ?_
 obtain ⟨ho1, h⟩ := chk_some h
 obtain ⟨ad2, hA2⟩ := hI.addr .z ho1
 refine sq (y_indexAddr rfl u22 size_3 et et ho1 hA2) ?_
 refine l_storeRow (p := Int.toNat axis1) (new := [(vi (wi64 (to1 - from1)))]) (off := 0) (x' := wi64 (to1 - from1)) hI .z gn rfl rfl (by have := ho1; omega) hA2 rfl et et rfl size_3 rfl (by show 0 + 1 ≤ 1; omega) (fun _ cs0 _ hr0 => by rw [spl_full (by have e := Cod.len _ hr0; exact e)]; exact rfl) ?_
 clear hI; intro c7 w3 hI
 refine s_nil ?_
 refine k_next (e := [(11, (vs a3 (r2.set (Int.toNat axis1) (wi64 (to1 - from1))).length c4))]) ⟨(lookset rfl), trivial⟩ ?_
 refine sr (sm ?_)
 refine sa ?_
 refine sac ?_
 refine nk (c_ret ?_)
 obtain ⟨c8, hI⟩ := hI.release .z
 obtain rfl := some_inj h
 exact q_ret (vs := [(vs a3 (r2.set (Int.toNat axis1) (wi64 (to1 - from1))).length c4), vi 0]) Tryz.results72 ⟨ev_tmp rfl rfl, ⟨ev_tmp rfl rfl, trivial⟩⟩ ⟨a3, c4, rfl, hI.ext0, hI.fin ⟨.z, trivial⟩⟩
theorem c_tensor_Slice_1 (F : NP) (w0 : World) (hF : ∀ k, F k → k < w0.heap.size) (p1 : List Int) (a2 : Int) (a3 : Int) (a1 : Option Addr) (c1 : Nat) (b1 : Nat) (b2 : Nat) (hc : AllCl [Cl.sl (cInt .i64) a1 c1 p1, Cl.blk b1 3 #[vi a2], Cl.blk b2 3 #[vi a3]] F w0) (r : List Int)
  (h : m_tensor_Slice_1 p1 a2 a3 = some r) :
  Calls Tryz.prog 74 #[vs a1 p1.length c1, vp b1 0, vp b2 0] w0 fun e w => ∃ (a4 : Option Addr) (c2 : Nat), e = .returned (vs a4 r.length c2) ∧ Ext w0 w ∧ AllCl [Cl.sl (cInt .i64) a4 c2 r] F w := by
 refine enterK Tryz.func74 rfl Tryz.ntmps74 rfl ?_
 have hI := Bun.start hF hc
 clear hc
 rw [m_tensor_Slice_1] at h
 refine sr (sac ?_)
 refine nk (sr (sm ?_))
 obtain ⟨zs1, hx1, h⟩ := bnd_some h
 replace hI := hI.nil (cInt .i64) 3 none
 refine l_append (xs := ([] : List Int)) (ys := p1) hI .z (hI.crd .z) hx1 gn rfl rfl u22 info_3 rfl rfl ev_const et ?_
 clear hI; intro a5 c3 c4 w1 hI
 refine sa ?_
 refine nk (c_seq (c_drawX [7] false (.c (0, .q) (.c (1, .q) (.c (2, .q) (.c (3, .q) (.c (4, .q) (.c (5, .q) (.c (6, .q) (.c (7, .s) .n)))))))) hI (by kernel_rfl) (by kernel_rfl) ?_))
 clear hI; intro w2 hI
 refine a_q rfl gn rfl (fun w' => y_move rfl et) ?_
 refine a_read rfl gn rfl (fun w' hw' => (y_load1 (v := (vi a2)) rfl et u3 rfl ((hI.kblk (l := [vi a2]) (.s .z) rfl).at_ (SX.any rfl hw')))) (by kernel_rfl) ?_
 obtain ⟨e1, hx2, h⟩ := bnd_some h
 obtain ⟨ad1, cs1, hA1, hr1, hq1⟩ := hI.olat .z hx2
 obtain rfl : cs1 = [vi e1] := hr1
 refine a_q rfl gn rfl (fun w' => y_indexAddr rfl u22 size_3 et et (lat_bd hx2) hA1) ?_
 refine a_read rfl gn rfl (fun w' hw' => (y_load1 (v := (vi e1)) rfl et u3 rfl (hq1.at_ (SX.any rfl hw')))) (by kernel_rfl) ?_
 refine a_read rfl gn rfl (fun w' hw' => (y_load1 (v := (vi a3)) rfl et u3 rfl ((hI.kblk (l := [vi a3]) (.s (.s .z)) rfl).at_ (SX.any rfl hw')))) (by kernel_rfl) ?_
 refine a_q rfl gn rfl (fun w' => y_add rfl et et) ?_
 obtain ⟨ho1, h⟩ := chk_some h
 obtain ⟨ad2, hA2⟩ := hI.addr .z ho1
 refine a_q rfl gn rfl (fun w' => y_indexAddr rfl u22 size_3 et et ho1 hA2) ?_
 refine a_turn (F := F) (C := c4) rfl rfl ?_
 refine la_storeRow (p := Int.toNat a2) (new := [(vi (wi64 (e1 + a3)))]) (off := 0) (x' := wi64 (e1 + a3)) hI .z rfl gn rfl rfl (by have := ho1; omega) hA2 rfl et et rfl size_3 rfl (by show 0 + 1 ≤ 1; omega) (fun _ cs0 _ hr0 => by rw [spl_full (by have e := Cod.len _ hr0; exact e)]; exact rfl) ?_
 clear hI; intro c5 w3 hI
 refine a_nil ?_
 refine k_next (e := [(5, (vs a5 (zs1.set (Int.toNat a2) (wi64 (e1 + a3))).length c3))]) ⟨(lookset rfl), trivial⟩ ?_
 refine sr (sm ?_)
 refine sa ?_
 refine nk (c_ret ?_)
 obtain ⟨c6, hI⟩ := hI.release .z
 obtain rfl := some_inj h
 exact q_ret (vs := [(vs a5 (zs1.set (Int.toNat a2) (wi64 (e1 + a3))).length c3)]) Tryz.results74 ⟨ev_tmp rfl rfl, trivial⟩ ⟨a5, c3, rfl, hI.ext0, hI.fin ⟨.z, trivial⟩⟩
theorem c_shape_Point (F : NP) (w0 : World) (hF : ∀ k, F k → k < w0.heap.size) (d1 : List Int) (at1 : Int) (a1 : Option Addr) (c1 : Nat) (hc : AllCl [Cl.sl (cInt .i64) a1 c1 d1] F w0) (r : List Int × Bool)
  (h : m_shape_Point d1 at1 = some r) :
  Calls Tryz.prog 90 #[vs a1 d1.length c1, vi at1] w0 fun e w => ∃ (a2 : Option Addr) (c2 : Nat), e = .returned (Value.tuple #[vs a2 r.1.length c2, vb r.2]) ∧ Ext w0 w ∧ AllCl [Cl.sl (cInt .i64) a2 c2 r.1] F w := by
 refine enterK Tryz.func90 rfl Tryz.ntmps90 rfl ?_
 have hI := Bun.start hF hc
 clear hc
 rw [m_shape_Point] at h
 refine sr (sac ?_)
 refine sac ?_
 refine nk (c_seq (sr (sm ?_)))
 refine sq (y_lss rfl et ev_const) ?_
 refine sm ?_
 refine s_gval (g_false rfl rfl rfl rfl) rfl (fun hc => y_move rfl et) ?_
 refine s_gval (g_false rfl rfl rfl rfl) rfl (fun hc => y_move rfl et) ?_
 obtain ⟨r1, hx1, h⟩ := bnd_some h
 replace hx1 := gd_some hx1
 refine s_gcallU (v := (vi r1)) (g_false rfl rfl rfl rfl) rfl (fun hc => (r_callF (vs := [vs a1 d1.length c1]) rfl ok_84 ⟨(ev_gv et hc), trivial⟩)) (fun hc => (c_shape_Size (Dj F noM) w0 hI.lt d1 a1 c1 ⟨(hI.get .z), trivial⟩ r1 (hx1 hc)).mono fun _ _ k => ⟨k.1, k.2.1⟩) ?_
 intro w1 hx2; replace hI := hI.ext hx2
 refine s_gval (g_false rfl rfl rfl rfl) rfl (fun hc => y_geq rfl (ev_gv et hc) (ev_gv et hc)) ?_
 refine sq (y_or rfl et et) ?_
 refine nk (cif h et (fun hb h => ?_) (fun hb h => ?_))
 ·refine sr (sac ?_)
  refine sac ?_
  refine nk (c_ret ?_)
  have hI := hI.add (c := Cl.sl (cInt .i64) none 0 ([] : List Int)) SlC.nil
  obtain rfl := some_inj h
  exact q_ret (vs := [vs none 0 0, vb false]) Tryz.results90 ⟨ev_tmp rfl rfl, ⟨ev_tmp rfl rfl, trivial⟩⟩ ⟨none, 0, rfl, hI.ext0, hI.fin ⟨.z, trivial⟩⟩
 refine c_skip (k_same (sr (l_alloc (cs := #[vi 0, vi 0, vi 0, vi 0, vi 0, vi 0]) hI gn rfl rfl zero_121 rfl ?_)))
 clear hI; intro b1 c3 w2 hI
 obtain ⟨c4, -, hI⟩ := hI.toArr (xs := (List.replicate 6 (0 : Int))) (enc := (Value.int .i64)) (N := 6) .z rfl rfl
 refine nk (c_seq (sr (sm ?_)))
 refine sq (y_lenl rfl u22 et) ?_
 refine sq (y_sub rfl et ev_const) ?_
 obtain ⟨i1, hx3, h⟩ := bnd_some h
 refine sq (binU (y_assign rfl et) (congrArg (Value.int .i64) (some_inj hx3))) ?_
 refine nk (c_block (c_loop (α := Nat × Int × Int × (List Int)) (fun x => fun w => ∃ C, Bun noM F w0 C w [MO.arr b1 121 (Value.int .i64) 6 (x.2.2.2)] [Cl.sl (cInt .i64) a1 c1 d1] ∧ m_shape_Point_l1 d1 (x.1) (x.2.1) (x.2.2.1) (x.2.2.2) = some r) (fun x _ => x.1) (fun x => [(0, vs a1 d1.length c1), (1, vi (x.2.1)), (6, vp b1 0), (7, vi (x.2.2.1))]) (fu, at1, i1, (List.replicate 6 (0 : Int))) ⟨_, hI.arr (.c .z .n) ⟨.z, trivial⟩, h⟩ ⟨rfl, rfl, rfl, rfl, trivial⟩ ?_))
 clear h hI; rintro ⟨fuel1, at2, i2, p1⟩ w3 ⟨c5, hI, h⟩
 dsimp only at hI h
 rcases fuel1 with _ | fuel1
 ·rw [m_shape_Point_l1] at h; cases h
 rw [m_shape_Point_l1] at h
 refine c_sub (e := [(0, vs a1 d1.length c1), (1, vi at2), (6, vp b1 0), (7, vi i2)]) ⟨rfl, rfl, rfl, rfl, trivial⟩ ?_
 refine c_seq (sr (sm ?_))
 refine sq (y_geq rfl et ev_const) ?_
 refine nk (cif h et (fun hb h => ?_) (fun hb h => ?_))
 ·refine c_skip (k_same (c_seq (c_block (sr (sm ?_)))))
  refine sm ?_
  refine sm ?_
  refine sm ?_
  obtain ⟨e1, hx4, h⟩ := bnd_some h
  obtain ⟨ad1, cs1, hA1, hr1, hq1⟩ := hI.clat .z hx4
  obtain rfl : cs1 = [vi e1] := hr1
  refine sq (y_indexAddr rfl u22 size_3 et et (lat_bd hx4) hA1) ?_
  refine sq (y_load1 (v := (vi e1)) rfl et u3 rfl hq1.1) ?_
  obtain ⟨ho1, h⟩ := chk_some h
  refine sq (y_rem rfl et et ho1) ?_
  obtain ⟨ho2, h⟩ := chk_some h
  refine sq (y_indexAddrN rfl et et u121 size_3 ho2) ?_
  refine l_storeArr (p := i2) (u := Int.tmod at2 e1) hI .z ho2 rfl rfl gn rfl rfl et et size_3 ?_
  clear hI; intro c6 w4 hI
  refine nk (c_region rfl ?_)
  refine sm ?_
  refine sm ?_
  refine sm ?_
  obtain ⟨e2, hx5, h⟩ := bnd_some h
  obtain ⟨ad2, cs2, hA2, hr2, hq2⟩ := hI.clat .z hx5
  obtain rfl : cs2 = [vi e2] := hr2
  refine sq (y_indexAddr rfl u22 size_3 et et (lat_bd hx5) hA2) ?_
  refine sq (y_load1 (v := (vi e2)) rfl et u3 rfl hq2.1) ?_
  obtain ⟨ho3, h⟩ := chk_some h
  refine sq (y_quo rfl et et ho3) ?_
  refine sa ?_
  refine nk (c_region rfl ?_)
  refine sm ?_
  refine sq (y_sub rfl et ev_const) ?_
  refine sa ?_
  refine s_nil ?_
  exact k_loop (fuel1, wi64 (Int.tdiv at2 e2), wi64 (i2 - 1), (p1).set (i2).toNat (Int.tmod at2 e1)) ⟨rfl, rfl, rfl, rfl, trivial⟩ ⟨_, hI.arr (.c .z .n) ⟨.z, trivial⟩, h⟩ (Nat.lt_succ_self _)
 refine c_exit ?_
 refine k_in ?_
 refine k_same (sr (sm ?_))
 refine sq (y_lenl rfl u22 et) ?_
 obtain ⟨zs1, hx6, h⟩ := bnd_some h
 refine sq (y_sliceArrU rfl et et u121 size_3 (hI.arrBlk .z).2 hx6) ?_
 obtain ⟨c7, hI⟩ := hI.relArr (c := (cInt .i64)) .z (fun _ _ _ => rfl)
 replace hI := hI.upto .z hx6
 obtain ⟨c8, f1, hB, hl2, hk1⟩ := hI.hands .n
 obtain ⟨r2, hx7, h⟩ := bnd_some h
 try dsimp only at h
 refine s_call gn rfl (r_callF (vs := [vs (some ⟨b1, 0, none⟩) zs1.length 6]) rfl ok_85 ⟨et, trivial⟩) (Calls.mono (c_slices_Clone_int_int_o c8 f1 w3 zs1 (some ⟨b1, 0, none⟩) 6 (hB.subs ⟨.z, trivial⟩) _ hx7) ?_)
 rintro _ w5 ⟨a3, c9, c10, rfl, hB2⟩
 obtain ⟨c11, hs1, hI⟩ := hk1 _ _ _ _ hB2
 replace hI : Bun noM F w0 c11 w5 [MO.row (cInt .i64) 3 a3 c9 r2] [Cl.sl (cInt .i64) (some ⟨b1, 0, none⟩) 6 zs1, Cl.sl (cInt .i64) (some ⟨b1, 0, none⟩) 6 p1, Cl.sl (cInt .i64) a1 c1 d1] := hI
 refine ⟨_, rfl, ?_⟩
 refine sa ?_
 refine sac ?_
 refine nk (c_ret ?_)
 obtain ⟨c12, hI⟩ := hI.release .z
 obtain rfl := some_inj h
 exact q_ret (vs := [vs a3 r2.length c9, vb true]) Tryz.results90 ⟨ev_tmp rfl rfl, ⟨ev_tmp rfl rfl, trivial⟩⟩ ⟨a3, c9, rfl, hI.ext0, hI.fin ⟨.z, trivial⟩⟩
theorem c_shape_Offset (F : NP) (w0 : World) (hF : ∀ k, F k → k < w0.heap.size) (d1 : List Int) (p1 : List Int) (a1 : Option Addr) (c1 : Nat) (a2 : Option Addr) (c2 : Nat) (hc : AllCl [Cl.sl (cInt .i64) a1 c1 d1, Cl.sl (cInt .i64) a2 c2 p1] F w0) (r : Int × Bool)
  (h : m_shape_Offset d1 p1 = some r) :
  Calls Tryz.prog 91 #[vs a1 d1.length c1, vs a2 p1.length c2] w0 fun e w => e = .returned (Value.tuple #[vi r.1, vb r.2]) ∧ Ext w0 w ∧ AllCl [] F w := by
 refine enterK Tryz.func91 rfl Tryz.ntmps91 rfl ?_
 have hI := Bun.start hF hc
 clear hc
 rw [m_shape_Offset] at h
 refine sr (sac ?_)
 refine sac ?_
 refine nk (c_seq (sr (sm ?_)))
 obtain ⟨r1, hx1, h⟩ := bnd_some h
 refine s_call gn rfl (r_callF (vs := [vs a1 d1.length c1]) rfl ok_82 ⟨et, trivial⟩) (Calls.mono (c_shape_Validate (Dj F noM) w0 hI.lt d1 a1 c1 ⟨(hI.get .z), trivial⟩ r1 hx1) ?_)
 rintro _ w1 ⟨rfl, hx2, hl1⟩
 refine ⟨_, rfl, ?_⟩
 replace hI := (hI.ext hx2)
 refine sq (y_neq rfl et ev_const) ?_
 refine sm ?_
 refine s_gval (g_false rfl rfl rfl rfl) rfl (fun hc => y_move rfl et) ?_
 refine s_gval (g_false rfl rfl rfl rfl) rfl (fun hc => y_lenl rfl u22 (ev_gv et hc)) ?_
 refine s_gval (g_false rfl rfl rfl rfl) rfl (fun hc => y_move rfl et) ?_
 refine s_gval (g_false rfl rfl rfl rfl) rfl (fun hc => y_lenl rfl u22 (ev_gv et hc)) ?_
 refine s_gval (g_false rfl rfl rfl rfl) rfl (fun hc => y_neq rfl (ev_gv et hc) (ev_gv et hc)) ?_
 refine sq (y_or rfl et et) ?_
 refine nk (cif h et (fun hb h => ?_) (fun hb h => ?_))
 ·refine sr (sac ?_)
  refine sac ?_
  refine nk (c_ret ?_)
  obtain rfl := some_inj h
  exact q_ret (vs := [vi 0, vb false]) Tryz.results91 ⟨ev_tmp rfl rfl, ⟨ev_tmp rfl rfl, trivial⟩⟩ (fq hI trivial)
 refine c_skip (k_same (sr (sac ?_)))
 refine nk (c_seq (sr (sm ?_)))
 refine sq (y_lenl rfl u22 et) ?_
 refine sq (y_move rfl ev_const) ?_
 refine nk (c_block (c_loop (α := Nat × Int × Int) (fun x => fun w => ∃ C, Bun noM F w0 C w [] [Cl.sl (cInt .i64) a2 c2 p1, Cl.sl (cInt .i64) a1 c1 d1] ∧ m_shape_Offset_l1 d1 p1 (x.1) (x.2.1) (x.2.2) = some r) (fun x _ => x.1) (fun x => [(1, vs a2 p1.length c2), (6, vi (x.2.1)), (19, vs a1 d1.length c1), (20, vi (d1.length : Int)), (21, vi (x.2.2))]) (fu, 0, 0) ⟨_, hI.arr .n ⟨(.s .z), .z, trivial⟩, h⟩ ⟨rfl, rfl, rfl, rfl, rfl, trivial⟩ ?_))
 clear h hI; rintro ⟨fuel1, at1, i1⟩ w2 ⟨c3, hI, h⟩
 dsimp only at hI h
 rcases fuel1 with _ | fuel1
 ·rw [m_shape_Offset_l1] at h; cases h
 rw [m_shape_Offset_l1] at h
 refine c_sub (e := [(1, vs a2 p1.length c2), (6, vi at1), (19, vs a1 d1.length c1), (20, vi (d1.length : Int)), (21, vi i1)]) ⟨rfl, rfl, rfl, rfl, rfl, trivial⟩ ?_
 refine sr (sq (y_lss rfl et et) ?_)
 refine nk (c_seq (cif h et (fun hb h => ?_) (fun hb h => ?_)))
 ·refine c_skip (k_same (c_seq (c_block (sr (sm ?_)))))
  obtain ⟨e1, hx3, h⟩ := bnd_some h
  obtain ⟨ad1, cs1, hA1, hr1, hq1⟩ := hI.clat (.s .z) hx3
  obtain rfl : cs1 = [vi e1] := hr1
  refine sq (y_indexAddr rfl u22 size_3 et et (lat_bd hx3) hA1) ?_
  refine sq (y_load1 (v := (vi e1)) rfl et u3 rfl hq1.1) ?_
  refine sa ?_
  refine sa ?_
  refine nk (c_seq (sr (sm ?_)))
  refine sm ?_
  obtain ⟨e2, hx4, h⟩ := bnd_some h
  obtain ⟨ad2, cs2, hA2, hr2, hq2⟩ := hI.clat .z hx4
  obtain rfl : cs2 = [vi e2] := hr2
  refine sq (y_indexAddr rfl u22 size_3 et et (lat_bd hx4) hA2) ?_
  refine sq (y_load1 (v := (vi e2)) rfl et u3 rfl hq2.1) ?_
  refine sq (y_lss rfl et ev_const) ?_
  refine sm ?_
  refine s_gval (g_false rfl rfl rfl rfl) rfl (fun hc => y_move rfl et) ?_
  refine s_gval (g_false rfl rfl rfl rfl) rfl (fun hc => y_move rfl et) ?_
  obtain ⟨e3, hx5, h⟩ := bnd_some h
  replace hx5 := gd_some hx5
  obtain ⟨ad3, cs3, hq3⟩ := hI.gclat .z hx5
  have hq4 : (!(decide (e2 < 0))) = true → CA (Dj F c3) w2 (ad3.add (Int.toNat i1 * 1)) [vi e3] := fun hc => by have k := hq3 hc; have e : cs3 = _ := k.2.1; rw [← e]; exact k.2.2
  refine s_gval (g_false rfl rfl rfl rfl) rfl (fun hc => (y_indexAddr rfl u22 size_3 (ev_gv et hc) (ev_gv et hc) (lat_bd (hx5 hc)) (hq3 hc).1)) ?_
  refine s_gval (g_false rfl rfl rfl rfl) rfl (fun hc => (y_load1 (v := (vi e3)) rfl (ev_gv et hc) u3 rfl (hq4 hc).1)) ?_
  refine s_gval (g_false rfl rfl rfl rfl) rfl (fun hc => y_move rfl et) ?_
  refine s_gval (g_false rfl rfl rfl rfl) rfl (fun hc => y_geq rfl (ev_gv et hc) (ev_gv et hc)) ?_
  refine sq (y_or rfl et et) ?_
  refine nk (cif h et (fun hb h => ?_) (fun hb h => ?_))
  ·refine sr (sac ?_)
   refine sac ?_
   refine s_nil ?_
   refine k_next (e := [(4, vi 0), (5, vb false)]) ⟨rfl, rfl, trivial⟩ ?_
   refine c_ret ?_
   obtain rfl := some_inj h
   exact q_ret (vs := [vi 0, vb false]) Tryz.results91 ⟨ev_tmp rfl rfl, ⟨ev_tmp rfl rfl, trivial⟩⟩ (fq hI trivial)
  refine c_skip (k_same (c_region rfl ?_))
  refine sm ?_
  refine sm ?_
  refine sq (y_mul rfl et et) ?_
  refine sm ?_
  refine sm ?_
  obtain ⟨e4, hx6, h⟩ := bnd_some h
  obtain ⟨ad4, cs4, hA4, hr4, hq5⟩ := hI.clat .z hx6
  obtain rfl : cs4 = [vi e4] := hr4
  refine sq (y_indexAddr rfl u22 size_3 et et (lat_bd hx6) hA4) ?_
  refine sq (y_load1 (v := (vi e4)) rfl et u3 rfl hq5.1) ?_
  refine sq (y_add rfl et et) ?_
  obtain ⟨at2, hx7, h⟩ := bnd_some h
  refine sq (binU (y_assign rfl et) (congrArg (Value.int .i64) (some_inj hx7))) ?_
  refine s_nil ?_
  refine k_next (e := [(1, vs a2 p1.length c2), (6, vi at2), (19, vs a1 d1.length c1), (20, vi (d1.length : Int)), (21, vi i1)]) ⟨rfl, rfl, rfl, rfl, rfl, trivial⟩ ?_
  refine c_region rfl ?_
  refine sq (y_add rfl et ev_const) ?_
  refine sm ?_
  refine s_nil ?_
  exact k_loop (fuel1, at2, wi64 (i1 + 1)) ⟨rfl, rfl, rfl, rfl, rfl, trivial⟩ ⟨_, hI.arr .n ⟨.z, (.s .z), trivial⟩, h⟩ (Nat.lt_succ_self _)
 refine c_exit ?_
 refine k_in ?_
 refine k_same (sr (sm ?_))
 refine sa ?_
 refine sac ?_
 refine nk (c_ret ?_)
 obtain rfl := some_inj h
 exact q_ret (vs := [vi at1, vb true]) Tryz.results91 ⟨ev_tmp rfl rfl, ⟨ev_tmp rfl rfl, trivial⟩⟩ (fq hI trivial)
theorem c_tensor_gather (F : NP) (w0 : World) (hF : ∀ k, F k → k < w0.heap.size) (t1 : GTensor) (dims1 : List Int) (from1 : ((List Int) → Option (List Int))) (a1 : Option Addr) (c1 : Nat) (a2 : Option Addr) (c2 : Nat) (a3 : Option Addr) (c3 : Nat) (fv1 : Value) (hc : AllCl [Cl.sl (cInt .i64) a1 c1 t1.Dims, Cl.sl cGVal a2 c2 t1.Vals, Cl.sl (cInt .i64) a3 c3 dims1, clFn_k3 fv1 from1] F w0) (r : GTensor)
  (h : m_tensor_gather t1 dims1 from1 = some r) :
  Calls Tryz.prog 73 #[(Value.agg (ATensor t1 a1 c1 a2 c2)), vs a3 dims1.length c3, fv1] w0 fun e w => ∃ (a4 : Option Addr) (c4 : Nat) (a5 : Option Addr) (c5 : Nat), e = .returned (Value.agg (ATensor r a4 c4 a5 c5)) ∧ Ext w0 w ∧ AllCl [Cl.sl (cInt .i64) a4 c4 r.Dims, Cl.sl cGVal a5 c5 r.Vals] F w := by
 refine enterK Tryz.func73 rfl Tryz.ntmps73 rfl ?_
 have hI := Bun.start hF hc
 clear hc
 rw [m_tensor_gather] at h
 refine sr (l_box (v := (Value.agg (ATensor t1 a1 c1 a2 c2))) (cs := (ATensor t1 a1 c1 a2 c2)) hI gn rfl rfl et rfl ?_)
 clear hI; intro b1 c6 w1 hI
 obtain ⟨c7, hI⟩ := hI.relBox .z
 refine l_alloc (cs := ZTensor) hI gn rfl rfl zero_41 rfl ?_
 clear hI; intro b2 c8 w2 hI
 refine nk (sr (sq (y_fieldAddr rfl et u41 rfl size_38 rfl) ?_))
 refine sq (y_loadN (l := (lType t1.Type_)) rfl et u38 rfl size_38 (hI.kblk (l := (lType t1.Type_)) .z rfl).1) ?_
 refine sm ?_
 refine sq (y_build (vs := [(0, (Value.agg (AType t1.Type_))), (1, vs a3 dims1.length c3)]) (cs := #[vi t1.Type_.Kind, vi t1.Type_.Bits, vi t1.Type_.Frac, vi t1.Type_.Round, vi t1.Type_.Over, vs a3 dims1.length c3, vs none 0 0]) rfl ⟨rfl, et, ⟨rfl, et, trivial⟩⟩ (by kernel_rfl)) ?_
 refine l_alloc (cs := ZTensor) hI gn rfl rfl zero_41 rfl ?_
 clear hI; intro b3 c9 w3 hI
 refine l_store (new := [vi t1.Type_.Kind, vi t1.Type_.Bits, vi t1.Type_.Frac, vi t1.Type_.Round, vi t1.Type_.Over, vs a3 dims1.length c3, vs none 0 0]) (cs' := #[vi t1.Type_.Kind, vi t1.Type_.Bits, vi t1.Type_.Frac, vi t1.Type_.Round, vi t1.Type_.Over, vs a3 dims1.length c3, vs none 0 0]) hI .z gn rfl rfl et et rfl size_41 rfl rfl rfl ?_
 clear hI; intro c10 w4 hI
 refine nk (c_seq (sr (sm ?_)))
 obtain ⟨r1, hx1, h⟩ := bnd_some h
 refine s_call gn rfl (r_callF (vs := [vs a3 dims1.length c3]) rfl ok_84 ⟨et, trivial⟩) (Calls.mono (c_shape_Size (Dj F c10) w4 hI.lt dims1 a3 c3 ⟨(hI.get (.s (.s (.s .z)))), trivial⟩ r1 hx1) ?_)
 rintro _ w5 ⟨rfl, hx2, hl1⟩
 refine ⟨_, rfl, ?_⟩
 replace hI := (hI.ext hx2)
 refine sq (y_move rfl ev_const) ?_
 refine nk (c_block ?_)
 have hI := hI.nil cGVal 68 none
 refine c_loop (α := Nat × Int × GTensor × (Option Addr) × Nat × (Option Addr) × Nat) (fun x => fun w => ∃ C, Bun noM F w0 C w [MO.row cGVal 68 (x.2.2.2.2.2.1) (x.2.2.2.2.2.2) (x.2.2.1).Vals, MO.box b2 41 ZTensor, MO.box b3 41 (ATensor (x.2.2.1) (x.2.2.2.1) (x.2.2.2.2.1) (x.2.2.2.2.2.1) (x.2.2.2.2.2.2))] [Cl.sl (cInt .i64) (x.2.2.2.1) (x.2.2.2.2.1) (x.2.2.1).Dims, Cl.sl (cInt .i64) a3 c3 dims1, clFn_k3 fv1 from1, Cl.blk b1 41 (ATensor t1 a1 c1 a2 c2), Cl.sl (cInt .i64) a1 c1 t1.Dims, Cl.sl cGVal a2 c2 t1.Vals] ∧ m_tensor_gather_l1 r1 dims1 from1 t1 (x.1) (x.2.1) (x.2.2.1) = some r) (fun x _ => x.1) (fun x => [(1, vs a3 dims1.length c3), (2, fv1), (3, vp b1 0), (6, vp b2 0), (7, vp b3 0), (18, vi r1), (19, vi (x.2.1))]) (fu, 0, (⟨t1.Type_, dims1, ([] : List GVal)⟩ : GTensor), a3, c3, none, 0) ⟨_, hI.arr (.c .z (.c (.s .z) (.c .z .n))) ⟨(.s (.s (.s .z))), (.s (.s (.s .z))), (.s (.s (.s (.s .z)))), .z, (.s .z), (.s (.s .z)), trivial⟩, h⟩ ⟨rfl, rfl, rfl, rfl, rfl, rfl, rfl, trivial⟩ ?_
 clear h hI; rintro ⟨fuel1, i1, out1, a6, c11, a7, c12⟩ w6 ⟨c13, hI, h⟩
 dsimp only at hI h
 rcases fuel1 with _ | fuel1
 ·rw [m_tensor_gather_l1] at h; cases h
 rw [m_tensor_gather_l1] at h
 refine c_sub (e := [(1, vs a3 dims1.length c3), (2, fv1), (3, vp b1 0), (6, vp b2 0), (7, vp b3 0), (18, vi r1), (19, vi i1)]) ⟨rfl, rfl, rfl, rfl, rfl, rfl, rfl, trivial⟩ ?_
 refine sr (sq (y_lss rfl et et) ?_)
 refine nk (c_seq (cif h et (fun hb h => ?_) (fun hb h => ?_)))
 ·refine c_skip (k_same (c_seq (c_block (sr (sm ?_)))))
  refine sa ?_
  refine nk (sr (sm ?_))
  refine sm ?_
  obtain ⟨r2, hx3, h⟩ := bnd_some h
  refine s_call gn rfl (r_callF (vs := [vs a3 dims1.length c3, vi i1]) rfl ok_90 ⟨et, ⟨et, trivial⟩⟩) (Calls.mono (c_shape_Point (Dj F c13) w6 hI.lt dims1 i1 a3 c3 ⟨(hI.get (.s .z)), trivial⟩ r2 hx3) ?_)
  rintro _ w7 ⟨a8, c14, rfl, hx4, hl2⟩
  refine ⟨_, rfl, ?_⟩
  replace hI := (hI.ext hx4).adds hl2
  refine sm ?_
  refine sq (y_extract rfl et rfl) ?_
  refine sq (y_extract rfl et rfl) ?_
  refine sa ?_
  refine sa ?_
  refine nk (c_seq (c_drawX [] false (.c (0, .q) (.c (1, .q) (.c (2, .q) (.c (3, .q) (.c (4, .s) (.c (5, .s) (.c (6, .q) (.c (7, .q) (.c (8, .q) (.c (9, .q) (.c (10, .q) .n))))))))))) hI (by kernel_rfl) (by kernel_rfl) ?_))
  clear hI; intro w8 hI
  refine a_q rfl gn rfl (fun w' => y_fieldAddr rfl et u41 rfl size_22 rfl) ?_
  refine a_read rfl gn rfl (fun w' hw' => (y_load1 (v := (vs a1 t1.Dims.length c1)) rfl et u22 rfl ((hI.kblk (l := [vs a1 t1.Dims.length c1]) (.s (.s (.s (.s .z)))) rfl).at_ (SX.any rfl hw')))) (by kernel_rfl) ?_
  refine a_q rfl gn rfl (fun w' => y_move rfl et) ?_
  refine a_q rfl gn rfl (fun w' => y_move rfl et) ?_
  obtain ⟨r3, hx5, h⟩ := bnd_some h
  refine la_callV (args := [vs a8 r2.1.length c14]) rfl gn rfl rfl et ⟨et, trivial⟩ (CallV.mono ((hI.get (.s (.s (.s .z)))).2 (Dj F c13) w8 (Sp.of_ext .rfl') hI.lt r2.1 a8 c14 r3 ⟨(hI.get .z), trivial⟩ hx5) ?_)
  rintro _ w9 ⟨a9, c15, rfl, hx6, hl3⟩
  refine ⟨_, rfl, _, Sp.of_ext hx6, ?_⟩
  replace hI := (hI.ext hx6).adds hl3
  obtain ⟨r4, hx7, h⟩ := bnd_some h
  refine la_call rfl gn rfl (r_callF (vs := [vs a1 t1.Dims.length c1, vs a9 r3.length c15]) rfl ok_91 ⟨et, ⟨et, trivial⟩⟩) (Calls.mono (c_shape_Offset (Dj F c13) w9 hI.lt t1.Dims r3 a1 c1 a9 c15 ⟨(hI.get (.s (.s (.s (.s (.s (.s .z))))))), (hI.get .z), trivial⟩ r4 hx7) ?_)
  rintro _ w10 ⟨rfl, hx8, hl4⟩
  refine ⟨_, rfl, hx8, ?_⟩
  replace hI := (hI.ext hx8)
  refine a_q rfl gn rfl (fun w' => y_move rfl et) ?_
  refine a_q rfl gn rfl (fun w' => y_extract rfl et rfl) ?_
  refine a_q rfl gn rfl (fun w' => y_extract rfl et rfl) ?_
  refine a_q rfl gn rfl (fun w' => y_assign rfl et) ?_
  refine a_q rfl gn rfl (fun w' => y_assign rfl et) ?_
  refine a_nil ?_
  refine k_same (c_drawX [8, 10] false (.c (0, .q) (.c (1, .q) (.c (2, .q) (.c (3, .q) (.c (4, .q) (.c (5, .q) (.c (6, .q) (.c (7, .s) (.c (8, .s) (.c (9, .q) (.c (10, .s) .n))))))))))) hI (by kernel_rfl) (by kernel_rfl) ?_)
  clear hI; intro w11 hI
  refine a_q rfl gn rfl (fun w' => y_fieldAddr rfl et u41 rfl size_39 rfl) ?_
  refine a_read rfl gn rfl (fun w' hw' => (y_load1 (v := (vs a7 out1.Vals.length c12)) rfl et u39 rfl ((CA.blk (hI.blk (.s (.s .z))) rfl).at_ (SX.any rfl hw')))) (by kernel_rfl) ?_
  refine a_q rfl gn rfl (fun w' => y_fieldAddr rfl et u41 rfl size_39 rfl) ?_
  refine a_read rfl gn rfl (fun w' hw' => (y_load1 (v := (vs a2 t1.Vals.length c2)) rfl et u39 rfl ((hI.kblk (l := [vs a2 t1.Vals.length c2]) (.s (.s (.s (.s (.s .z))))) rfl).at_ (SX.any rfl hw')))) (by kernel_rfl) ?_
  refine a_q rfl gn rfl (fun w' => y_move rfl et) ?_
  obtain ⟨e1, hx9, h⟩ := bnd_some h
  obtain ⟨ad1, cs1, hA1, hr1, hq1⟩ := hI.clat (.s (.s (.s (.s (.s (.s (.s .z))))))) hx9
  obtain rfl : cs1 = (lVal e1) := hr1
  refine a_q rfl gn rfl (fun w' => y_indexAddr rfl u39 size_68 et et (lat_bd hx9) hA1) ?_
  refine a_read rfl gn rfl (fun w' hw' => (y_loadN (l := (lVal e1)) rfl et u68 rfl size_68 (hq1.at_ (SX.any rfl hw')))) (by kernel_rfl) ?_
  refine la_lit (c := cGVal) (xs := ([e1] : List GVal)) (vs := [(0, (Value.agg (AVal e1)))]) (cs := (AVal e1)) (css := [(lVal e1)]) hI rfl gn rfl rfl u39 info_68 rfl ⟨rfl, et, trivial⟩ (by kernel_rfl) ⟨rfl, trivial⟩ rfl rfl rfl ?_
  clear hI; intro b4 c16 w12 hI
  refine a_turn (F := F) (C := c16) rfl rfl ?_
  obtain ⟨zs1, hx10, h⟩ := bnd_some h
  refine la_append (xs := out1.Vals) (ys := ([e1] : List GVal)) hI (.s .z) (hI.rd .z) hx10 rfl gn rfl rfl u39 info_68 rfl rfl et et ?_
  clear hI; intro a10 c17 c18 w13 hI
  refine a_q rfl gn rfl (fun w' => y_fieldAddr rfl et u41 rfl size_39 rfl) ?_
  refine la_store (new := [vs a10 zs1.length c17]) (cs' := #[vi out1.Type_.Kind, vi out1.Type_.Bits, vi out1.Type_.Frac, vi out1.Type_.Round, vi out1.Type_.Over, vs a6 out1.Dims.length c11, vs a10 zs1.length c17]) hI (.s (.s (.s .z))) rfl gn rfl rfl et et rfl size_39 rfl rfl rfl ?_
  clear hI; intro c19 w14 hI
  refine a_nil ?_
  refine k_next (e := [(1, vs a3 dims1.length c3), (2, fv1), (3, vp b1 0), (6, vp b2 0), (7, vp b3 0), (18, vi r1), (19, vi i1)]) ⟨rfl, rfl, rfl, rfl, rfl, rfl, rfl, trivial⟩ ?_
  refine c_region rfl ?_
  refine sq (y_add rfl et ev_const) ?_
  refine sm ?_
  refine s_nil ?_
  exact k_loop (fuel1, wi64 (i1 + 1), (⟨out1.Type_, out1.Dims, zs1⟩ : GTensor), a6, c11, a10, c17) ⟨rfl, rfl, rfl, rfl, rfl, rfl, rfl, trivial⟩ ⟨_, hI.arr (.c (.s .z) (.c (.s .z) (.c (.s .z) .n))) ⟨(.s (.s .z)), (.s (.s (.s .z))), (.s (.s (.s (.s .z)))), (.s (.s (.s (.s (.s .z))))), (.s (.s (.s (.s (.s (.s .z)))))), (.s (.s (.s (.s (.s (.s (.s .z))))))), trivial⟩, h⟩ (Nat.lt_succ_self _)
 refine c_exit ?_
 refine k_in ?_
 refine k_same (sr (sq (y_loadN (l := (lTensor out1 a6 c11 a7 c12)) rfl et u41 rfl size_41 (CellsAt.of_blk (hI.blk (.s (.s .z))) rfl)) ?_))
 refine l_store (new := (lTensor out1 a6 c11 a7 c12)) (cs' := (ATensor out1 a6 c11 a7 c12)) hI (.s .z) gn rfl rfl et et rfl size_41 rfl rfl rfl ?_
 clear hI; intro c20 w15 hI
 refine nk (c_ret ?_)
 obtain ⟨c21, hI⟩ := hI.release .z
 obtain rfl := some_inj h
 exact q_ret (vs := [(Value.agg (ATensor out1 a6 c11 a7 c12))]) Tryz.results73 ⟨⟨_, ev_tmp rfl rfl, load_agg (l := (lTensor out1 a6 c11 a7 c12)) u41 rfl size_41 (CellsAt.of_blk (hI.blk .z) rfl)⟩, trivial⟩ ⟨a6, c11, a7, c12, rfl, hI.ext0, hI.fin ⟨(.s .z), .z, trivial⟩⟩
theorem c_tensor_Slice (F : NP) (w0 : World) (hF : ∀ k, F k → k < w0.heap.size) (t1 : GTensor) (axis1 : Int) (from1 : Int) (to1 : Int) (a1 : Option Addr) (c1 : Nat) (a2 : Option Addr) (c2 : Nat) (hc : AllCl [Cl.sl (cInt .i64) a1 c1 t1.Dims, Cl.sl cGVal a2 c2 t1.Vals] F w0) (r : GTensor × Int)
  (h : m_tensor_Slice t1 axis1 from1 to1 = some r) :
  Calls Tryz.prog 40 #[(Value.agg (ATensor t1 a1 c1 a2 c2)), vi axis1, vi from1, vi to1] w0 fun e w => ∃ (a3 : Option Addr) (c3 : Nat) (a4 : Option Addr) (c4 : Nat), e = .returned (Value.tuple #[(Value.agg (ATensor r.1 a3 c3 a4 c4)), vi r.2]) ∧ Ext w0 w ∧ AllCl [Cl.sl (cInt .i64) a3 c3 r.1.Dims, Cl.sl cGVal a4 c4 r.1.Vals] F w := by
 refine enterK Tryz.func40 rfl Tryz.ntmps40 rfl ?_
 have hI := Bun.start hF hc
 clear hc
 rw [m_tensor_Slice] at h
 refine sr (l_box (v := (Value.agg (ATensor t1 a1 c1 a2 c2))) (cs := (ATensor t1 a1 c1 a2 c2)) hI gn rfl rfl et rfl ?_)
 clear hI; intro b1 c5 w1 hI
 obtain ⟨c6, hI⟩ := hI.relBox .z
 refine l_box (v := (vi axis1)) (cs := #[vi axis1]) hI gn rfl rfl et rfl ?_
 clear hI; intro b2 c7 w2 hI
 obtain ⟨c8, hI⟩ := hI.relBox .z
 refine l_box (v := (vi from1)) (cs := #[vi from1]) hI gn rfl rfl et rfl ?_
 clear hI; intro b3 c9 w3 hI
 obtain ⟨c10, hI⟩ := hI.relBox .z
 refine l_alloc (cs := ZTensor) hI gn rfl rfl zero_41 rfl ?_
 clear hI; intro b4 c11 w4 hI
 refine sac ?_
 refine nk (c_seq (sr (sq (y_loadN (l := (lTensor t1 a1 c1 a2 c2)) rfl et u41 rfl size_41 (hI.kblk (l := (lTensor t1 a1 c1 a2 c2)) (.s (.s .z)) rfl).1) ?_)))
 obtain ⟨r1, hx1, h⟩ := bnd_some h
 refine s_call gn rfl (r_callF (vs := [(Value.agg (ATensor t1 a1 c1 a2 c2))]) rfl ok_71 ⟨et, trivial⟩) (Calls.mono (c_tensor_Validate (Dj F c11) w4 hI.lt t1 a1 c1 a2 c2 ⟨(hI.get (.s (.s (.s .z)))), (hI.get (.s (.s (.s (.s .z))))), trivial⟩ r1 hx1) ?_)
 rintro _ w5 ⟨rfl, hx2, hl1⟩
 refine ⟨_, rfl, ?_⟩
 replace hI := (hI.ext hx2)
 refine sa ?_
 refine nk (sr (sm ?_))
 refine sq (y_neq rfl et ev_const) ?_
 refine nk (cif h et (fun hb h => ?_) (fun hb h => ?_))
 ·refine sr (sq (y_build (vs := []) (cs := ZTensor) rfl trivial (by kernel_rfl)) ?_)
  refine sm ?_
  refine l_store (new := zTensor) (cs' := ZTensor) hI .z gn rfl rfl et et rfl size_41 rfl rfl rfl ?_
  clear hI; intro c12 w6 hI
  refine sa ?_
  refine nk (c_ret ?_)
  have hI := hI.add (c := Cl.sl (cInt .i64) none 0 ([] : List Int)) SlC.nil
  have hI := hI.add (c := Cl.sl cGVal none 0 ([] : List GVal)) SlC.nil
  obtain rfl := some_inj h
  exact q_ret (vs := [(Value.agg ZTensor), vi r1]) Tryz.results40 ⟨⟨_, ev_tmp rfl rfl, load_agg (l := zTensor) u41 rfl size_41 (CellsAt.of_blk (hI.blk .z) rfl)⟩, ⟨ev_tmp rfl rfl, trivial⟩⟩ ⟨none, 0, none, 0, rfl, hI.ext0, hI.fin ⟨(.s .z), .z, trivial⟩⟩
 refine c_skip (k_same (sr (sq (y_fieldAddr rfl et u41 rfl size_22 rfl) ?_)))
 refine sq (y_load1 (v := (vs a1 t1.Dims.length c1)) rfl et u22 rfl (hI.kblk (l := [vs a1 t1.Dims.length c1]) (.s (.s .z)) rfl).1) ?_
 refine sq (y_load1 (v := (vi axis1)) rfl et u3 rfl (hI.kblk (l := [vi axis1]) (.s .z) rfl).1) ?_
 refine sq (y_load1 (v := (vi from1)) rfl et u3 rfl (hI.kblk (l := [vi from1]) .z rfl).1) ?_
 refine sm ?_
 obtain ⟨r2, hx3, h⟩ := bnd_some h
 refine s_call gn rfl (r_callF (vs := [vs a1 t1.Dims.length c1, vi axis1, vi from1, vi to1]) rfl ok_72 ⟨et, ⟨et, ⟨et, ⟨et, trivial⟩⟩⟩⟩) (Calls.mono (c_shape_Slice (Dj F c11) w5 hI.lt t1.Dims axis1 from1 to1 a1 c1 ⟨(hI.get (.s (.s (.s .z)))), trivial⟩ r2 hx3) ?_)
 rintro _ w7 ⟨a5, c13, rfl, hx4, hl2⟩
 refine ⟨_, rfl, ?_⟩
 replace hI := (hI.ext hx4).adds hl2
 refine sm ?_
 refine sq (y_extract rfl et rfl) ?_
 refine sq (y_extract rfl et rfl) ?_
 refine sa ?_
 refine sa ?_
 refine nk (c_seq (sr (sm ?_)))
 refine sq (y_neq rfl et ev_const) ?_
 refine nk (cif h et (fun hb h => ?_) (fun hb h => ?_))
 ·refine sr (sq (y_build (vs := []) (cs := ZTensor) rfl trivial (by kernel_rfl)) ?_)
  refine sm ?_
  refine l_store (new := zTensor) (cs' := ZTensor) hI .z gn rfl rfl et et rfl size_41 rfl rfl rfl ?_
  clear hI; intro c14 w8 hI
  refine sa ?_
  refine s_nil ?_
  refine k_next (e := [(8, vp b4 0), (9, vi r2.2)]) ⟨rfl, rfl, trivial⟩ ?_
  refine c_ret ?_
  have hI := hI.add (c := Cl.sl (cInt .i64) none 0 ([] : List Int)) SlC.nil
  have hI := hI.add (c := Cl.sl cGVal none 0 ([] : List GVal)) SlC.nil
  obtain rfl := some_inj h
  exact q_ret (vs := [(Value.agg ZTensor), vi r2.2]) Tryz.results40 ⟨⟨_, ev_tmp rfl rfl, load_agg (l := zTensor) u41 rfl size_41 (CellsAt.of_blk (hI.blk .z) rfl)⟩, ⟨ev_tmp rfl rfl, trivial⟩⟩ ⟨none, 0, none, 0, rfl, hI.ext0, hI.fin ⟨(.s .z), .z, trivial⟩⟩
 refine c_skip (k_same (sr (sq (y_loadN (l := (lTensor t1 a1 c1 a2 c2)) rfl et u41 rfl size_41 (hI.kblk (l := (lTensor t1 a1 c1 a2 c2)) (.s (.s (.s .z))) rfl).1) ?_)))
 refine sm ?_
 refine sq (y_makeFunc (vs := []) (cap := [vp b2 0, vp b3 0]) rfl rfl ⟨et, ⟨et, trivial⟩⟩) ?_
 have hI := hI.add (c := clFn_k3 (Value.func (.func 74) #[] #[vp b2 0, vp b3 0]) (fun y_1 => m_tensor_Slice_1 y_1 axis1 from1)) ⟨rfl, fun D' w' hs hl x_1 A_2 c_3 r k h => CallV.fn (cap := [vp b2 0, vp b3 0]) ok_74 (c_tensor_Slice_1 D' w' hl x_1 axis1 from1 A_2 c_3 b2 b3 ⟨k.1, (Cl.sp _ hs (hI.get (.s (.s .z)))), (Cl.sp _ hs (hI.get (.s .z))), trivial⟩ r h)⟩
 obtain ⟨r3, hx5, h⟩ := bnd_some h
 refine s_call gn rfl (r_callF (vs := [(Value.agg (ATensor t1 a1 c1 a2 c2)), vs a5 r2.1.length c13, (Value.func (.func 74) #[] #[vp b2 0, vp b3 0])]) rfl ok_73 ⟨et, ⟨et, ⟨et, trivial⟩⟩⟩) (Calls.mono (c_tensor_gather (Dj F c11) w7 hI.lt t1 r2.1 (fun y_1 => m_tensor_Slice_1 y_1 axis1 from1) a1 c1 a2 c2 a5 c13 (Value.func (.func 74) #[] #[vp b2 0, vp b3 0]) ⟨(hI.get (.s (.s (.s (.s (.s .z)))))), (hI.get (.s (.s (.s (.s (.s (.s .z))))))), (hI.get (.s .z)), (hI.get .z), trivial⟩ r3 hx5) ?_)
 rintro _ w9 ⟨a6, c15, a7, c16, rfl, hx6, hl3⟩
 refine ⟨_, rfl, ?_⟩
 replace hI := (hI.ext hx6).adds hl3
 refine l_store (new := (lTensor r3 a6 c15 a7 c16)) (cs' := (ATensor r3 a6 c15 a7 c16)) hI .z gn rfl rfl et et rfl size_41 rfl rfl rfl ?_
 clear hI; intro c17 w10 hI
 refine sac ?_
 refine s_nil ?_
 refine k_next (e := [(8, vp b4 0), (9, vi 0)]) ⟨rfl, rfl, trivial⟩ ?_
 refine c_ret ?_
 obtain rfl := some_inj h
 exact q_ret (vs := [(Value.agg (ATensor r3 a6 c15 a7 c16)), vi 0]) Tryz.results40 ⟨⟨_, ev_tmp rfl rfl, load_agg (l := (lTensor r3 a6 c15 a7 c16)) u41 rfl size_41 (CellsAt.of_blk (hI.blk .z) rfl)⟩, ⟨ev_tmp rfl rfl, trivial⟩⟩ ⟨a6, c15, a7, c16, rfl, hI.ext0, hI.fin ⟨.z, (.s .z), trivial⟩⟩
end Go.Proofs.YtpedfojbfbccaaaGreat
