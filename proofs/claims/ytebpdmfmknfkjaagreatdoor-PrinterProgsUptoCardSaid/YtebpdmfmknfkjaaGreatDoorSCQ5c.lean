import Derived.Test.YtebpdmfmknfkjaaGreatDoorSCQ5b
namespace Go.Proofs.YtebpdmfmknfkjaaGreatDoor
open Go Go.RowKit Go.Vc
set_option maxRecDepth 100000
set_option maxHeartbeats 4000000
set_option linter.unusedVariables false
set_option linter.unusedSimpArgs false
theorem c_ref05_Validate (F : NP) (w0 : World) (hF : ∀ k, F k → k < w0.heap.size) (l1 : GLin) (a1 : Option Addr) (c1 : Nat) (hc : AllCl [Cl.sl cGMono a1 c1 l1.L] F w0) (r : Int)
  (h : m_ref05_Validate l1 = some r) :
  Calls Tryz.prog 85 #[(Value.agg (ALin l1 a1 c1))] w0 fun e w => e = .returned (vi r) ∧ Ext w0 w ∧ AllCl [] F w := by
 refine enterK Tryz.func85 rfl Tryz.ntmps85 rfl ?_
 have hI := Bun.start hF hc
 clear hc
 rw [m_ref05_Validate] at h
 refine sr (l_box (v := (Value.agg (ALin l1 a1 c1))) (cs := (ALin l1 a1 c1)) hI gn rfl rfl et rfl ?_)
 clear hI; intro b1 c2 w1 hI
 obtain ⟨c3, hI⟩ := hI.relBox .z
 refine sac ?_
 refine nk (c_seq (sr (sq (y_loadN (l := (lLin l1 a1 c1)) rfl et u29 rfl size_29 (hI.kblk (l := (lLin l1 a1 c1)) .z rfl).1) ?_)))
 obtain ⟨r1, hx1, h⟩ := bnd_some h
 refine s_call gn rfl (r_callF (vs := [(Value.agg (ALin l1 a1 c1))]) rfl ok_40 ⟨et, trivial⟩) (Calls.mono (c_base_LinRight (Dj F c3) w1 hI.lt l1 a1 c1 ⟨(hI.get (.s .z)), trivial⟩ r1 hx1) ?_)
 rintro _ w2 ⟨rfl, hx2, hl1⟩
 refine ⟨_, rfl, ?_⟩
 replace hI := (hI.ext hx2)
 refine sq (y_not rfl et) ?_
 refine nk (cif h et (fun hb h => ?_) (fun hb h => ?_))
 ·refine sr (sac ?_)
  refine nk (c_ret ?_)
  obtain rfl := some_inj h
  exact q_ret (vs := [vi 1]) Tryz.results85 ⟨ev_tmp rfl rfl, trivial⟩ (fq hI trivial)
 refine c_skip (k_same (sr (sac ?_)))
 refine nk (c_ret ?_)
 obtain rfl := some_inj h
 exact q_ret (vs := [vi 0]) Tryz.results85 ⟨ev_tmp rfl rfl, trivial⟩ (fq hI trivial)
theorem c_ref05_size (F : NP) (w0 : World) (hF : ∀ k, F k → k < w0.heap.size) (n1 : Int) (hc : AllCl [] F w0) (r : Int)
  (h : m_ref05_size n1 = some r) :
  Calls Tryz.prog 86 #[vi n1] w0 fun e w => e = .returned (Value.int .u64 r) ∧ Ext w0 w ∧ AllCl [] F w := by
 refine enterK Tryz.func86 rfl Tryz.ntmps86 rfl ?_
 have hI := Bun.start hF hc
 clear hc
 rw [m_ref05_size] at h
 refine sr (sac ?_)
 refine nk (c_seq (sr (sm ?_)))
 refine sq (y_lss rfl et ev_const) ?_
 refine nk (cif h et (fun hb h => ?_) (fun hb h => ?_))
 ·refine sr (sm ?_)
  refine sq (y_add rfl et ev_const) ?_
  refine sq (y_neg rfl et) ?_
  refine sq (y_conv rfl (by rw [u2]; rfl) u109 et) ?_
  refine sq (y_add rfl et ev_const) ?_
  refine sa ?_
  refine nk (c_ret ?_)
  obtain rfl := some_inj h
  exact q_ret (vs := [(Value.int .u64 (wu64 ((wu64 (wi64 (-(wi64 (n1 + 1))))) + 1)))]) Tryz.results86 ⟨ev_tmp rfl rfl, trivial⟩ (fq hI trivial)
 refine c_skip (k_same (sr (sm ?_)))
 refine sq (y_conv rfl (by rw [u2]; rfl) u109 et) ?_
 refine sa ?_
 refine nk (c_ret ?_)
 obtain rfl := some_inj h
 exact q_ret (vs := [(Value.int .u64 (wu64 n1))]) Tryz.results86 ⟨ev_tmp rfl rfl, trivial⟩ (fq hI trivial)
theorem c_ref05_digits (F : NP) (w0 : World) (hF : ∀ k, F k → k < w0.heap.size) (n1 : Int) (hc : AllCl [] F w0) (r : List UInt8)
  (h : m_ref05_digits n1 = some r) :
  Calls Tryz.prog 87 #[(Value.int .u64 n1)] w0 fun e w => e = .returned (str r) ∧ Ext w0 w ∧ AllCl [] F w := by
 refine enterK Tryz.func87 rfl Tryz.ntmps87 rfl ?_
 have hI := Bun.start hF hc
 clear hc
 rw [m_ref05_digits] at h
 refine sr (sac ?_)
 refine nk (sr (sac ?_))
 refine nk (c_block (c_loop (α := Nat × Int × (List UInt8)) (fun x => fun w => ∃ C, Bun noM F w0 C w [] [] ∧ m_ref05_digits_l1 (x.1) (x.2.1) (x.2.2) = some r) (fun x _ => x.1) (fun x => [(0, (Value.int .u64 (x.2.1))), (3, (str (x.2.2)))]) (fu, n1, ([] : List UInt8)) ⟨_, hI.arr .n trivial, h⟩ ⟨rfl, rfl, trivial⟩ ?_))
 clear h hI; rintro ⟨fuel1, n2, s1⟩ w1 ⟨c1, hI, h⟩
 dsimp only at hI h
 rcases fuel1 with _ | fuel1
 ·rw [m_ref05_digits_l1] at h; cases h
 rw [m_ref05_digits_l1] at h
 refine c_sub (e := [(0, (Value.int .u64 n2)), (3, (str s1))]) ⟨rfl, rfl, trivial⟩ ?_
 refine c_block (sr (sm ?_))
 refine sq (y_rem rfl et ev_const (by decide)) ?_
 refine sq (y_add rfl ev_const et) ?_
 refine sq (y_conv rfl (by rw [u109]; rfl) u5 et) ?_
 refine l_lit (c := (cInt .u8)) (xs := ([wu8 (wu64 (48 + (Int.tmod n2 10)))] : List Int)) (vs := [(0, (Value.int .u8 (wu8 (wu64 (48 + (Int.tmod n2 10))))))]) (cs := #[(Value.int .u8 (wu8 (wu64 (48 + (Int.tmod n2 10)))))]) (css := [[(Value.int .u8 (wu8 (wu64 (48 + (Int.tmod n2 10)))))]]) hI gn rfl rfl u78 info_5 rfl ⟨rfl, et, trivial⟩ (by kernel_rfl) ⟨rfl, trivial⟩ rfl rfl rfl ?_
 clear hI; intro b1 c2 w2 hI
 refine sq (y_bytesStr rfl et u78 u9 u5 (hI.rd .z)) ?_
 refine sm ?_
 obtain ⟨s2, hx1, h⟩ := bnd_some h
 refine sq (y_catl rfl et et hx1) ?_
 refine sa ?_
 refine nk (sr (sm ?_))
 refine sq (y_quo rfl et ev_const (by decide)) ?_
 refine sa ?_
 refine nk (sr (sm ?_))
 refine sq (y_eql rfl et ev_const) ?_
 refine nk (cif h et (fun hb h => ?_) (fun hb h => ?_))
 ·refine sr (sm ?_)
  refine sa ?_
  refine nk (c_ret ?_)
  obtain rfl := some_inj h
  exact q_ret (vs := [(str s2)]) Tryz.results87 ⟨ev_tmp rfl rfl, trivial⟩ (fq hI trivial)
 exact c_skip (k_loop (fuel1, wu64 (Int.tdiv n2 10), s2) ⟨rfl, rfl, trivial⟩ ⟨_, hI.arr .n trivial, h⟩ (Nat.lt_succ_self _))
theorem c_ref05_term (F : NP) (w0 : World) (hF : ∀ k, F k → k < w0.heap.size) (s1 : List UInt8) (negative1 : Bool) (t1 : List UInt8) (hc : AllCl [] F w0) (r : List UInt8)
  (h : m_ref05_term s1 negative1 t1 = some r) :
  Calls Tryz.prog 88 #[(str s1), vb negative1, (str t1)] w0 fun e w => e = .returned (str r) ∧ Ext w0 w ∧ AllCl [] F w := by
 refine enterK Tryz.func88 rfl Tryz.ntmps88 rfl ?_
 have hI := Bun.start hF hc
 clear hc
 rw [m_ref05_term] at h
 refine sr (sac ?_)
 refine nk (c_seq (sr (sm ?_)))
 refine sq (y_eqs rfl et ev_const) ?_
 refine sm ?_
 refine s_gval (g_true rfl rfl rfl rfl) rfl (fun hc => y_move rfl et) ?_
 refine sq (y_and rfl et et) ?_
 refine nk (cif h et (fun hb h => ?_) (fun hb h => ?_))
 ·refine sr (sm ?_)
  obtain ⟨s2, hx1, h⟩ := bnd_some h
  refine sq (y_catl rfl ev_const et hx1) ?_
  refine sa ?_
  refine nk (c_ret ?_)
  obtain rfl := some_inj h
  exact q_ret (vs := [(str s2)]) Tryz.results88 ⟨ev_tmp rfl rfl, trivial⟩ (fq hI trivial)
 refine c_skip (k_same (c_seq (sr (sm ?_))))
 refine sq (y_eqs rfl et ev_const) ?_
 refine nk (cif h et (fun hb h => ?_) (fun hb h => ?_))
 ·refine sr (sm ?_)
  refine sa ?_
  refine nk (c_ret ?_)
  obtain rfl := some_inj h
  exact q_ret (vs := [(str t1)]) Tryz.results88 ⟨ev_tmp rfl rfl, trivial⟩ (fq hI trivial)
 refine c_skip (k_same (c_seq (sr (sm ?_))))
 refine nk (cif h et (fun hb h => ?_) (fun hb h => ?_))
 ·refine sr (sm ?_)
  obtain ⟨s3, hx2, h⟩ := bnd_some h
  refine sq (y_catl rfl et ev_const hx2) ?_
  refine sm ?_
  obtain ⟨s4, hx3, h⟩ := bnd_some h
  refine sq (y_catl rfl et et hx3) ?_
  refine sa ?_
  refine nk (c_ret ?_)
  obtain rfl := some_inj h
  exact q_ret (vs := [(str s4)]) Tryz.results88 ⟨ev_tmp rfl rfl, trivial⟩ (fq hI trivial)
 refine c_skip (k_same (sr (sm ?_)))
 obtain ⟨s5, hx4, h⟩ := bnd_some h
 refine sq (y_catl rfl et ev_const hx4) ?_
 refine sm ?_
 obtain ⟨s6, hx5, h⟩ := bnd_some h
 refine sq (y_catl rfl et et hx5) ?_
 refine sa ?_
 refine nk (c_ret ?_)
 obtain rfl := some_inj h
 exact q_ret (vs := [(str s6)]) Tryz.results88 ⟨ev_tmp rfl rfl, trivial⟩ (fq hI trivial)
theorem c_ref05_Format (F : NP) (w0 : World) (hF : ∀ k, F k → k < w0.heap.size) (l1 : GLin) (a1 : Option Addr) (c1 : Nat) (hc : AllCl [Cl.sl cGMono a1 c1 l1.L] F w0) (r : List UInt8)
  (h : m_ref05_Format l1 = some r) :
  Calls Tryz.prog 42 #[(Value.agg (ALin l1 a1 c1))] w0 fun e w => e = .returned (str r) ∧ Ext w0 w ∧ AllCl [] F w := by
 refine enterK Tryz.func42 rfl Tryz.ntmps42 rfl ?_
 have hI := Bun.start hF hc
 clear hc
 rw [m_ref05_Format] at h
 refine sr (l_box (v := (Value.agg (ALin l1 a1 c1))) (cs := (ALin l1 a1 c1)) hI gn rfl rfl et rfl ?_)
 clear hI; intro b1 c2 w1 hI
 obtain ⟨c3, hI⟩ := hI.relBox .z
 refine sac ?_
 refine nk (c_seq (sr (sq (y_loadN (l := (lLin l1 a1 c1)) rfl et u29 rfl size_29 (hI.kblk (l := (lLin l1 a1 c1)) .z rfl).1) ?_)))
 obtain ⟨r1, hx1, h⟩ := bnd_some h
 refine s_call gn rfl (r_callF (vs := [(Value.agg (ALin l1 a1 c1))]) rfl ok_85 ⟨et, trivial⟩) (Calls.mono (c_ref05_Validate (Dj F c3) w1 hI.lt l1 a1 c1 ⟨(hI.get (.s .z)), trivial⟩ r1 hx1) ?_)
 rintro _ w2 ⟨rfl, hx2, hl1⟩
 refine ⟨_, rfl, ?_⟩
 replace hI := (hI.ext hx2)
 refine sq (y_neq rfl et ev_const) ?_
 refine nk (cif h et (fun hb h => ?_) (fun hb h => ?_))
 ·refine sr (sac ?_)
  refine nk (c_ret ?_)
  obtain rfl := some_inj h
  exact q_ret (vs := [(str ([] : List UInt8))]) Tryz.results42 ⟨ev_tmp rfl rfl, trivial⟩ (fq hI trivial)
 refine c_skip (k_same (sr (sac ?_)))
 refine nk (c_join (α := (List UInt8)) (fun _ => ⟨62, []⟩) (fun x => [(1, vp b1 0), (3, (str x))]) (fun x => fun w => ∃ C, Bun noM F w0 C w [] [Cl.blk b1 29 (ALin l1 a1 c1), Cl.sl cGMono a1 c1 l1.L] ∧ m_ref05_Format_j1 l1 x = some r) ?_ ?_)
 ·clear h hI; rintro s1 w3 ⟨c4, hI, h⟩
  try dsimp only at hI h
  rw [m_ref05_Format_j1] at h
  refine c_sub (e := [(1, vp b1 0), (3, (str s1))]) ⟨rfl, rfl, trivial⟩ ?_
  refine c_seq (sr (sq (y_fieldAddr rfl et u29 rfl size_2 rfl) ?_))
  refine sq (y_load1 (v := (vi l1.K)) rfl et u2 rfl (hI.kblk (l := [vi l1.K]) .z rfl).1) ?_
  refine sq (y_neq rfl et ev_const) ?_
  refine sm ?_
  refine s_gval (g_false rfl rfl rfl rfl) rfl (fun hc => y_fieldAddr rfl et u29 rfl size_27 rfl) ?_
  refine s_gval (g_false rfl rfl rfl rfl) rfl (fun hc => (y_load1 (v := (vs a1 l1.L.length c1)) rfl (ev_gv et hc) u27 rfl (hI.kblk (l := [vs a1 l1.L.length c1]) .z rfl).1)) ?_
  refine s_gval (g_false rfl rfl rfl rfl) rfl (fun hc => y_lenl rfl u27 (ev_gv et hc)) ?_
  refine s_gval (g_false rfl rfl rfl rfl) rfl (fun hc => y_eql rfl (ev_gv et hc) ev_const) ?_
  refine sq (y_or rfl et et) ?_
  refine nk (cif h et (fun hb h => ?_) (fun hb h => ?_))
  ·refine c_drawX [] false (.c (0, .q) (.c (1, .q) (.c (2, .q) (.c (3, .q) (.c (4, .q) (.c (5, .q) (.c (6, .s) (.c (7, .s) (.c (8, .s) (.c (9, .q) .n)))))))))) hI (by kernel_rfl) (by kernel_rfl) ?_
   clear hI; intro w4 hI
   refine a_q rfl gn rfl (fun w' => y_move rfl et) ?_
   refine a_q rfl gn rfl (fun w' => y_fieldAddr rfl et u29 rfl size_2 rfl) ?_
   refine a_read rfl gn rfl (fun w' hw' => (y_load1 (v := (vi l1.K)) rfl et u2 rfl ((hI.kblk (l := [vi l1.K]) .z rfl).at_ (SX.any rfl hw')))) (by kernel_rfl) ?_
   refine a_q rfl gn rfl (fun w' => y_lss rfl et ev_const) ?_
   refine a_q rfl gn rfl (fun w' => y_fieldAddr rfl et u29 rfl size_2 rfl) ?_
   refine a_read rfl gn rfl (fun w' hw' => (y_load1 (v := (vi l1.K)) rfl et u2 rfl ((hI.kblk (l := [vi l1.K]) .z rfl).at_ (SX.any rfl hw')))) (by kernel_rfl) ?_
   obtain ⟨r2, hx3, h⟩ := bnd_some h
   refine la_call rfl gn rfl (r_callF (vs := [vi l1.K]) rfl ok_86 ⟨et, trivial⟩) (Calls.mono (c_ref05_size (Dj F c4) w4 hI.lt l1.K trivial r2 hx3) ?_)
   rintro _ w5 ⟨rfl, hx4, hl2⟩
   refine ⟨_, rfl, hx4, ?_⟩
   replace hI := (hI.ext hx4)
   obtain ⟨r3, hx5, h⟩ := bnd_some h
   refine la_call rfl gn rfl (r_callF (vs := [(Value.int .u64 r2)]) rfl ok_87 ⟨et, trivial⟩) (Calls.mono (c_ref05_digits (Dj F c4) w5 hI.lt r2 trivial r3 hx5) ?_)
   rintro _ w6 ⟨rfl, hx6, hl3⟩
   refine ⟨_, rfl, hx6, ?_⟩
   replace hI := (hI.ext hx6)
   obtain ⟨r4, hx7, h⟩ := bnd_some h
   refine la_call rfl gn rfl (r_callF (vs := [(str s1), (vb (decide (l1.K < 0))), (str r3)]) rfl ok_88 ⟨et, ⟨et, ⟨et, trivial⟩⟩⟩) (Calls.mono (c_ref05_term (Dj F c4) w6 hI.lt s1 (decide (l1.K < 0)) r3 trivial r4 hx7) ?_)
   rintro _ w7 ⟨rfl, hx8, hl4⟩
   refine ⟨_, rfl, hx8, ?_⟩
   replace hI := (hI.ext hx8)
   refine a_q rfl gn rfl (fun w' => y_assign rfl et) ?_
   refine a_nil ?_
   refine k_same (sr (sm ?_))
   refine sa ?_
   refine nk (c_ret ?_)
   obtain rfl := some_inj h
   exact q_ret (vs := [(str r4)]) Tryz.results42 ⟨ev_tmp rfl rfl, trivial⟩ (fq hI trivial)
  refine c_skip (k_same (sr (sm ?_)))
  refine sa ?_
  refine nk (c_ret ?_)
  obtain rfl := some_inj h
  exact q_ret (vs := [(str s1)]) Tryz.results42 ⟨ev_tmp rfl rfl, trivial⟩ (fq hI trivial)
 refine sr (sac ?_)
 refine nk (c_block (c_loop (α := Nat × (List UInt8) × Int) (fun x => fun w => ∃ C, Bun noM F w0 C w [] [Cl.blk b1 29 (ALin l1 a1 c1), Cl.sl cGMono a1 c1 l1.L] ∧ m_ref05_Format_l1 l1 (x.1) (x.2.1) (x.2.2) = some r) (fun x _ => x.1) (fun x => [(1, vp b1 0), (3, (str (x.2.1))), (4, vi (x.2.2))]) (fu, ([] : List UInt8), 0) ⟨_, hI.arr .n ⟨.z, (.s .z), trivial⟩, h⟩ ⟨rfl, rfl, rfl, trivial⟩ ?_))
 clear h hI; rintro ⟨fuel1, s2, i1⟩ w8 ⟨c5, hI, h⟩
 dsimp only at hI h
 rcases fuel1 with _ | fuel1
 ·rw [m_ref05_Format_l1] at h; cases h
 rw [m_ref05_Format_l1] at h
 refine c_sub (e := [(1, vp b1 0), (3, (str s2)), (4, vi i1)]) ⟨rfl, rfl, rfl, trivial⟩ ?_
 refine c_seq (sr (sm ?_))
 refine sq (y_fieldAddr rfl et u29 rfl size_27 rfl) ?_
 refine sq (y_load1 (v := (vs a1 l1.L.length c1)) rfl et u27 rfl (hI.kblk (l := [vs a1 l1.L.length c1]) .z rfl).1) ?_
 refine sq (y_lenl rfl u27 et) ?_
 refine sq (y_lss rfl et et) ?_
 refine nk (cif h et (fun hb h => ?_) (fun hb h => ?_))
 ·refine c_skip (k_same (c_seq (c_block (sr (sq (y_fieldAddr rfl et u29 rfl size_27 rfl) ?_)))))
  refine sq (y_load1 (v := (vs a1 l1.L.length c1)) rfl et u27 rfl (hI.kblk (l := [vs a1 l1.L.length c1]) .z rfl).1) ?_
  refine sm ?_
  obtain ⟨e1, hx9, h⟩ := bnd_some h
  obtain ⟨ad1, cs1, hA1, hr1, hq1⟩ := hI.clat (.s .z) hx9
  obtain rfl : cs1 = [(str e1.Name), vi e1.By] := hr1
  refine sq (y_indexAddr rfl u27 size_112 et et (lat_bd hx9) hA1) ?_
  refine sq (y_fieldAddr rfl et u112 rfl size_2 rfl) ?_
  refine sq (y_load1 (v := (vi e1.By)) rfl et u2 rfl (CA.part hq1 rfl).1) ?_
  refine sa ?_
  refine nk (sr (sq (y_fieldAddr rfl et u29 rfl size_27 rfl) ?_))
  refine sq (y_load1 (v := (vs a1 l1.L.length c1)) rfl et u27 rfl (hI.kblk (l := [vs a1 l1.L.length c1]) .z rfl).1) ?_
  refine sm ?_
  obtain ⟨e2, hx10, h⟩ := bnd_some h
  obtain ⟨ad2, cs2, hA2, hr2, hq2⟩ := hI.clat (.s .z) hx10
  obtain rfl : cs2 = [(str e2.Name), vi e2.By] := hr2
  refine sq (y_indexAddr rfl u27 size_112 et et (lat_bd hx10) hA2) ?_
  refine sq (y_fieldAddr rfl et u112 rfl size_9 rfl) ?_
  refine sq (y_load1 (v := (str e2.Name)) rfl et u9 rfl (CA.part hq2 rfl).1) ?_
  refine sa ?_
  refine nk (c_join (α := (List UInt8)) (fun _ => ⟨62, []⟩) (fun x => [(1, vp b1 0), (3, (str s2)), (4, vi i1), (5, vi e1.By), (6, (str x))]) (fun x => fun w => ∃ C, Bun noM F w0 C w [] [Cl.blk b1 29 (ALin l1 a1 c1), Cl.sl cGMono a1 c1 l1.L] ∧ m_ref05_Format_j2 s2 e1 (m_ref05_Format_l1 l1 fuel1) i1 x = some r) ?_ ?_)
  ·clear h hI; rintro t1 w9 ⟨c6, hI, h⟩
   try dsimp only at hI h
   rw [m_ref05_Format_j2] at h
   refine c_sub (e := [(1, vp b1 0), (3, (str s2)), (4, vi i1), (5, vi e1.By), (6, (str t1))]) ⟨rfl, rfl, rfl, rfl, rfl, trivial⟩ ?_
   refine c_region rfl ?_
   refine sm ?_
   refine sm ?_
   refine sq (y_lss rfl et ev_const) ?_
   refine sm ?_
   obtain ⟨r5, hx11, h⟩ := bnd_some h
   refine s_call gn rfl (r_callF (vs := [(str s2), (vb (decide (e1.By < 0))), (str t1)]) rfl ok_88 ⟨et, ⟨et, ⟨et, trivial⟩⟩⟩) (Calls.mono (c_ref05_term (Dj F c6) w9 hI.lt s2 (decide (e1.By < 0)) t1 trivial r5 hx11) ?_)
   rintro _ w10 ⟨rfl, hx12, hl5⟩
   refine ⟨_, rfl, ?_⟩
   replace hI := (hI.ext hx12)
   refine sa ?_
   refine nk (c_region rfl ?_)
   refine sm ?_
   refine sq (y_add rfl et ev_const) ?_
   refine sa ?_
   refine s_nil ?_
   exact k_loop (fuel1, r5, wi64 (i1 + 1)) ⟨rfl, rfl, rfl, trivial⟩ ⟨_, hI.arr .n ⟨.z, (.s .z), trivial⟩, h⟩ (Nat.lt_succ_self _)
  refine sr (sm ?_)
  obtain ⟨r6, hx13, h⟩ := bnd_some h
  refine s_call gn rfl (r_callF (vs := [vi e1.By]) rfl ok_86 ⟨et, trivial⟩) (Calls.mono (c_ref05_size (Dj F c5) w8 hI.lt e1.By trivial r6 hx13) ?_)
  rintro _ w11 ⟨rfl, hx14, hl6⟩
  refine ⟨_, rfl, ?_⟩
  replace hI := (hI.ext hx14)
  refine sq (y_neq rfl et ev_const) ?_
  refine nk (cif h et (fun hb h => ?_) (fun hb h => ?_))
  ·refine c_region rfl ?_
   refine sm ?_
   obtain ⟨r7, hx15, h⟩ := bnd_some h
   refine s_call gn rfl (r_callF (vs := [vi e1.By]) rfl ok_86 ⟨et, trivial⟩) (Calls.mono (c_ref05_size (Dj F c5) w11 hI.lt e1.By trivial r7 hx15) ?_)
   rintro _ w12 ⟨rfl, hx16, hl7⟩
   refine ⟨_, rfl, ?_⟩
   replace hI := (hI.ext hx16)
   obtain ⟨r8, hx17, h⟩ := bnd_some h
   refine s_call gn rfl (r_callF (vs := [(Value.int .u64 r7)]) rfl ok_87 ⟨et, trivial⟩) (Calls.mono (c_ref05_digits (Dj F c5) w12 hI.lt r7 trivial r8 hx17) ?_)
   rintro _ w13 ⟨rfl, hx18, hl8⟩
   refine ⟨_, rfl, ?_⟩
   replace hI := (hI.ext hx18)
   obtain ⟨s3, hx19, h⟩ := bnd_some h
   refine sq (y_catl rfl et ev_const hx19) ?_
   refine sm ?_
   obtain ⟨s4, hx20, h⟩ := bnd_some h
   refine sq (y_catl rfl et et hx20) ?_
   refine sa ?_
   refine s_nil ?_
   exact k_join s4 ⟨rfl, rfl, rfl, rfl, rfl, trivial⟩ ⟨_, hI.arr .n ⟨.z, (.s .z), trivial⟩, h⟩ rfl
  exact c_skip (k_join e2.Name ⟨rfl, rfl, rfl, rfl, rfl, trivial⟩ ⟨_, hI.arr .n ⟨.z, (.s .z), trivial⟩, h⟩ rfl)
 refine c_exit ?_
 refine k_in ?_
 exact k_join s2 ⟨rfl, rfl, trivial⟩ ⟨_, hI.arr .n ⟨.z, (.s .z), trivial⟩, h⟩ rfl
theorem c_ref15_forms (F : NP) (w0 : World) (hF : ∀ k, F k → k < w0.heap.size) (l1 : List GLin) (a1 : Option Addr) (c1 : Nat) (hc : AllCl [Cl.sl cGLin a1 c1 l1] F w0) (r : List UInt8)
  (h : m_ref15_forms l1 = some r) :
  Calls Tryz.prog 44 #[vs a1 l1.length c1] w0 fun e w => e = .returned (str r) ∧ Ext w0 w ∧ AllCl [] F w := by
 refine enterK Tryz.func44 rfl Tryz.ntmps44 rfl ?_
 have hI := Bun.start hF hc
 clear hc
 rw [m_ref15_forms] at h
 refine sr (sac ?_)
 refine nk (sr (sac ?_))
 refine nk (c_seq (sr (sac ?_)))
 refine nk (c_block (c_loop (α := Nat × (List UInt8) × Int) (fun x => fun w => ∃ C, Bun noM F w0 C w [] [Cl.sl cGLin a1 c1 l1] ∧ m_ref15_forms_l1 l1 (x.1) (x.2.1) (x.2.2) = some r) (fun x _ => x.1) (fun x => [(0, vs a1 l1.length c1), (3, (str (x.2.1))), (4, vi (x.2.2))]) (fu, ([] : List UInt8), 0) ⟨_, hI.arr .n ⟨.z, trivial⟩, h⟩ ⟨rfl, rfl, rfl, trivial⟩ ?_))
 clear h hI; rintro ⟨fuel1, s1, i1⟩ w1 ⟨c2, hI, h⟩
 dsimp only at hI h
 rcases fuel1 with _ | fuel1
 ·rw [m_ref15_forms_l1] at h; cases h
 rw [m_ref15_forms_l1] at h
 refine c_sub (e := [(0, vs a1 l1.length c1), (3, (str s1)), (4, vi i1)]) ⟨rfl, rfl, rfl, trivial⟩ ?_
 refine c_seq (sr (sm ?_))
 refine sm ?_
 refine sq (y_lenl rfl u30 et) ?_
 refine sq (y_lss rfl et et) ?_
 refine nk (cif h et (fun hb h => ?_) (fun hb h => ?_))
 ·refine c_skip (k_same (c_seq (c_block (c_join (α := (List UInt8)) (fun _ => ⟨23, []⟩) (fun x => [(0, vs a1 l1.length c1), (3, (str x)), (4, vi i1)]) (fun x => fun w => ∃ C, Bun noM F w0 C w [] [Cl.sl cGLin a1 c1 l1] ∧ m_ref15_forms_j1 l1 i1 (m_ref15_forms_l1 l1 fuel1) x = some r) ?_ ?_))))
  ·clear h hI; rintro s2 w2 ⟨c3, hI, h⟩
   try dsimp only at hI h
   rw [m_ref15_forms_j1] at h
   refine c_sub (e := [(0, vs a1 l1.length c1), (3, (str s2)), (4, vi i1)]) ⟨rfl, rfl, rfl, trivial⟩ ?_
   refine c_region rfl ?_
   refine sm ?_
   refine sm ?_
   refine sm ?_
   obtain ⟨e1, hx1, h⟩ := bnd_some h
   obtain ⟨ad1, cs1, hA1, hr1, hq1⟩ := hI.clat .z hx1
   obtain ⟨a2, c4, rfl, hf1⟩ := hr1
   have hI := hI.add (c := Cl.sl cGMono a2 c4 e1.L) hf1
   refine sq (y_indexAddr rfl u30 size_29 et et (lat_bd hx1) hA1) ?_
   refine sq (y_loadN (l := (lLin e1 a2 c4)) rfl et u29 rfl size_29 hq1.1) ?_
   obtain ⟨r1, hx2, h⟩ := bnd_some h
   refine s_call gn rfl (r_callF (vs := [(Value.agg (ALin e1 a2 c4))]) rfl ok_42 ⟨et, trivial⟩) (Calls.mono (c_ref05_Format (Dj F c3) w2 hI.lt e1 a2 c4 ⟨(hI.get .z), trivial⟩ r1 hx2) ?_)
   rintro _ w3 ⟨rfl, hx3, hl1⟩
   refine ⟨_, rfl, ?_⟩
   replace hI := (hI.ext hx3)
   obtain ⟨s3, hx4, h⟩ := bnd_some h
   refine sq (y_catl rfl et et hx4) ?_
   refine sa ?_
   refine nk (c_region rfl ?_)
   refine sm ?_
   refine sq (y_add rfl et ev_const) ?_
   refine sa ?_
   refine s_nil ?_
   exact k_loop (fuel1, s3, wi64 (i1 + 1)) ⟨rfl, rfl, rfl, trivial⟩ ⟨_, hI.arr .n ⟨(.s .z), trivial⟩, h⟩ (Nat.lt_succ_self _)
  refine sr (sm ?_)
  refine sq (y_gtr rfl et ev_const) ?_
  refine nk (cif h et (fun hb h => ?_) (fun hb h => ?_))
  ·refine c_region rfl ?_
   refine sm ?_
   obtain ⟨s4, hx5, h⟩ := bnd_some h
   refine sq (y_catl rfl et ev_const hx5) ?_
   refine sa ?_
   refine s_nil ?_
   exact k_join s4 ⟨rfl, rfl, rfl, trivial⟩ ⟨_, hI.arr .n ⟨.z, trivial⟩, h⟩ rfl
  exact c_skip (k_join s1 ⟨rfl, rfl, rfl, trivial⟩ ⟨_, hI.arr .n ⟨.z, trivial⟩, h⟩ rfl)
 refine c_exit ?_
 refine k_in ?_
 refine k_same (sr (sm ?_))
 refine sa ?_
 refine nk (c_ret ?_)
 obtain rfl := some_inj h
 exact q_ret (vs := [(str s1)]) Tryz.results44 ⟨ev_tmp rfl rfl, trivial⟩ (fq hI trivial)
theorem c_ref15_Index (F : NP) (w0 : World) (hF : ∀ k, F k → k < w0.heap.size) (x1 : GIndex) (a1 : Option Addr) (c1 : Nat) (a2 : Option Addr) (c2 : Nat) (hc : AllCl [Cl.sl cGMono a1 c1 x1.Lin.L, Cl.sl cGLin a2 c2 x1.At] F w0) (r : List UInt8)
  (h : m_ref15_Index x1 = some r) :
  Calls Tryz.prog 15 #[(Value.agg #[vi x1.Lin.K, vs a1 x1.Lin.L.length c1, (str x1.From), vs a2 x1.At.length c2])] w0 fun e w => e = .returned (str r) ∧ Ext w0 w ∧ AllCl [] F w := by
 refine enterK Tryz.func15 rfl Tryz.ntmps15 rfl ?_
 have hI := Bun.start hF hc
 clear hc
 rw [m_ref15_Index] at h
 refine sr (l_box (v := (Value.agg #[vi x1.Lin.K, vs a1 x1.Lin.L.length c1, (str x1.From), vs a2 x1.At.length c2])) (cs := #[vi x1.Lin.K, vs a1 x1.Lin.L.length c1, (str x1.From), vs a2 x1.At.length c2]) hI gn rfl rfl et rfl ?_)
 clear hI; intro b1 c3 w1 hI
 obtain ⟨c4, hI⟩ := hI.relBox .z
 refine sac ?_
 refine nk (c_seq (sr (sq (y_fieldAddr rfl et u32 rfl size_29 rfl) ?_)))
 refine sq (y_loadN (l := (lLin x1.Lin a1 c1)) rfl et u29 rfl size_29 (hI.kblk (l := (lLin x1.Lin a1 c1)) .z rfl).1) ?_
 obtain ⟨r1, hx1, h⟩ := bnd_some h
 refine s_call gn rfl (r_callF (vs := [(Value.agg (ALin x1.Lin a1 c1))]) rfl ok_40 ⟨et, trivial⟩) (Calls.mono (c_base_LinRight (Dj F c4) w1 hI.lt x1.Lin a1 c1 ⟨(hI.get (.s .z)), trivial⟩ r1 hx1) ?_)
 rintro _ w2 ⟨rfl, hx2, hl1⟩
 refine ⟨_, rfl, ?_⟩
 replace hI := (hI.ext hx2)
 refine sq (y_not rfl et) ?_
 refine sm ?_
 refine s_gval (g_false rfl rfl rfl rfl) rfl (fun hc => y_fieldAddr rfl et u32 rfl size_30 rfl) ?_
 refine s_gval (g_false rfl rfl rfl rfl) rfl (fun hc => (y_load1 (v := (vs a2 x1.At.length c2)) rfl (ev_gv et hc) u30 rfl (hI.kblk (l := [vs a2 x1.At.length c2]) .z rfl).1)) ?_
 obtain ⟨r2, hx3, h⟩ := bnd_some h
 replace hx3 := gd_some hx3
 refine s_gcallU (v := (vb r2)) (g_false rfl rfl rfl rfl) rfl (fun hc => (r_callF (vs := [vs a2 x1.At.length c2]) rfl ok_41 ⟨(ev_gv et hc), trivial⟩)) (fun hc => (c_ref15_valid (Dj F c4) w2 hI.lt x1.At a2 c2 ⟨(hI.get (.s (.s .z))), trivial⟩ r2 (hx3 hc)).mono fun _ _ k => ⟨k.1, k.2.1⟩) ?_
 intro w3 hx4; replace hI := hI.ext hx4
 refine s_gval (g_false rfl rfl rfl rfl) rfl (fun hc => y_not rfl (ev_gv et hc)) ?_
 refine sq (y_or rfl et et) ?_
 refine nk (cif h et (fun hb h => ?_) (fun hb h => ?_))
 ·refine sr (sac ?_)
  refine nk (c_ret ?_)
  obtain rfl := some_inj h
  exact q_ret (vs := [(str ([] : List UInt8))]) Tryz.results15 ⟨ev_tmp rfl rfl, trivial⟩ (fq hI trivial)
 refine c_skip (k_same (c_seq (sr (sq (y_fieldAddr rfl et u32 rfl size_9 rfl) ?_))))
 refine sq (y_load1 (v := (str x1.From)) rfl et u9 rfl (hI.kblk (l := [(str x1.From)]) .z rfl).1) ?_
 refine sq (y_eqs rfl et ev_const) ?_
 refine nk (cif h et (fun hb h => ?_) (fun hb h => ?_))
 ·refine c_seq (sr (sq (y_fieldAddr rfl et u32 rfl size_30 rfl) ?_))
  refine sq (y_load1 (v := (vs a2 x1.At.length c2)) rfl et u30 rfl (hI.kblk (l := [vs a2 x1.At.length c2]) .z rfl).1) ?_
  refine sq (y_lenl rfl u30 et) ?_
  refine sq (y_gtr rfl et ev_const) ?_
  refine nk (cif h et (fun hb h => ?_) (fun hb h => ?_))
  ·refine sr (sac ?_)
   refine nk (c_ret ?_)
   obtain rfl := some_inj h
   exact q_ret (vs := [(str ([] : List UInt8))]) Tryz.results15 ⟨ev_tmp rfl rfl, trivial⟩ (fq hI trivial)
  refine c_skip (k_same (sr (sq (y_fieldAddr rfl et u32 rfl size_29 rfl) ?_)))
  refine sq (y_loadN (l := (lLin x1.Lin a1 c1)) rfl et u29 rfl size_29 (hI.kblk (l := (lLin x1.Lin a1 c1)) .z rfl).1) ?_
  obtain ⟨r3, hx5, h⟩ := bnd_some h
  refine s_call gn rfl (r_callF (vs := [(Value.agg (ALin x1.Lin a1 c1))]) rfl ok_42 ⟨et, trivial⟩) (Calls.mono (c_ref05_Format (Dj F c4) w3 hI.lt x1.Lin a1 c1 ⟨(hI.get (.s .z)), trivial⟩ r3 hx5) ?_)
  rintro _ w4 ⟨rfl, hx6, hl3⟩
  refine ⟨_, rfl, ?_⟩
  replace hI := (hI.ext hx6)
  refine sa ?_
  refine nk (c_ret ?_)
  obtain rfl := some_inj h
  exact q_ret (vs := [(str r3)]) Tryz.results15 ⟨ev_tmp rfl rfl, trivial⟩ (fq hI trivial)
 refine c_skip (k_same (c_seq (sr (sq (y_fieldAddr rfl et u32 rfl size_9 rfl) ?_))))
 refine sq (y_load1 (v := (str x1.From)) rfl et u9 rfl (hI.kblk (l := [(str x1.From)]) .z rfl).1) ?_
 obtain ⟨r4, hx7, h⟩ := bnd_some h
 refine s_call gn rfl (r_callF (vs := [(str x1.From)]) rfl ok_43 ⟨et, trivial⟩) (Calls.mono (c_base_Name (Dj F c4) w3 hI.lt x1.From trivial r4 hx7) ?_)
 rintro _ w5 ⟨rfl, hx8, hl4⟩
 refine ⟨_, rfl, ?_⟩
 replace hI := (hI.ext hx8)
 refine sq (y_not rfl et) ?_
 refine sm ?_
 refine s_gval (g_false rfl rfl rfl rfl) rfl (fun hc => y_fieldAddr rfl et u32 rfl size_29 rfl) ?_
 refine s_gval (g_false rfl rfl rfl rfl) rfl (fun hc => y_fieldAddr rfl (ev_gv et hc) u29 rfl size_2 rfl) ?_
 refine s_gval (g_false rfl rfl rfl rfl) rfl (fun hc => (y_load1 (v := (vi x1.Lin.K)) rfl (ev_gv et hc) u2 rfl (hI.kblk (l := [vi x1.Lin.K]) .z rfl).1)) ?_
 refine s_gval (g_false rfl rfl rfl rfl) rfl (fun hc => y_neq rfl (ev_gv et hc) ev_const) ?_
 refine sq (y_or rfl et et) ?_
 refine sm ?_
 refine s_gval (g_false rfl rfl rfl rfl) rfl (fun hc => y_fieldAddr rfl et u32 rfl size_29 rfl) ?_
 refine s_gval (g_false rfl rfl rfl rfl) rfl (fun hc => y_fieldAddr rfl (ev_gv et hc) u29 rfl size_27 rfl) ?_
 refine s_gval (g_false rfl rfl rfl rfl) rfl (fun hc => (y_load1 (v := (vs a1 x1.Lin.L.length c1)) rfl (ev_gv et hc) u27 rfl (hI.kblk (l := [vs a1 x1.Lin.L.length c1]) .z rfl).1)) ?_
 refine s_gval (g_false rfl rfl rfl rfl) rfl (fun hc => y_lenl rfl u27 (ev_gv et hc)) ?_
 refine s_gval (g_false rfl rfl rfl rfl) rfl (fun hc => y_gtr rfl (ev_gv et hc) ev_const) ?_
 refine sq (y_or rfl et et) ?_
 refine s_nil ?_
 refine k_next (e := [(1, vp b1 0), (39, (vb (((!r4) || (!decide (x1.Lin.K = 0))) || (decide (0 < (x1.Lin.L.length : Int))))))]) ⟨rfl, rfl, trivial⟩ ?_
 refine cif h et (fun hb h => ?_) (fun hb h => ?_)
 ·refine sr (sac ?_)
  refine nk (c_ret ?_)
  obtain rfl := some_inj h
  exact q_ret (vs := [(str ([] : List UInt8))]) Tryz.results15 ⟨ev_tmp rfl rfl, trivial⟩ (fq hI trivial)
 refine c_skip (k_same (c_seq (c_drawX [] false (.c (0, .q) (.c (1, .q) (.c (2, .q) (.c (3, .q) (.c (4, .q) (.c (5, .s) (.c (6, .q) (.c (7, .q) (.c (8, .q) .n))))))))) hI (by kernel_rfl) (by kernel_rfl) ?_)))
 clear hI; intro w6 hI
 refine a_q rfl gn rfl (fun w' => y_fieldAddr rfl et u32 rfl size_9 rfl) ?_
 refine a_read rfl gn rfl (fun w' hw' => (y_load1 (v := (str x1.From)) rfl et u9 rfl ((hI.kblk (l := [(str x1.From)]) .z rfl).at_ (SX.any rfl hw')))) (by kernel_rfl) ?_
 obtain ⟨s1, hx9, h⟩ := bnd_some h
 refine a_q rfl gn rfl (fun w' => y_catl rfl et ev_const hx9) ?_
 refine a_q rfl gn rfl (fun w' => y_fieldAddr rfl et u32 rfl size_30 rfl) ?_
 refine a_read rfl gn rfl (fun w' hw' => (y_load1 (v := (vs a2 x1.At.length c2)) rfl et u30 rfl ((hI.kblk (l := [vs a2 x1.At.length c2]) .z rfl).at_ (SX.any rfl hw')))) (by kernel_rfl) ?_
 obtain ⟨r5, hx10, h⟩ := bnd_some h
 refine la_call rfl gn rfl (r_callF (vs := [vs a2 x1.At.length c2]) rfl ok_44 ⟨et, trivial⟩) (Calls.mono (c_ref15_forms (Dj F c4) w6 hI.lt x1.At a2 c2 ⟨(hI.get (.s (.s .z))), trivial⟩ r5 hx10) ?_)
 rintro _ w7 ⟨rfl, hx11, hl5⟩
 refine ⟨_, rfl, hx11, ?_⟩
 replace hI := (hI.ext hx11)
 obtain ⟨s2, hx12, h⟩ := bnd_some h
 refine a_q rfl gn rfl (fun w' => y_catl rfl et et hx12) ?_
 obtain ⟨s3, hx13, h⟩ := bnd_some h
 refine a_q rfl gn rfl (fun w' => y_catl rfl et ev_const hx13) ?_
 refine a_q rfl gn rfl (fun w' => y_assign rfl et) ?_
 refine a_nil ?_
 refine k_same (c_ret ?_)
 obtain rfl := some_inj h
 exact q_ret (vs := [(str s3)]) Tryz.results15 ⟨ev_tmp rfl rfl, trivial⟩ (fq hI trivial)
theorem c_ref15_Small (F : NP) (w0 : World) (hF : ∀ k, F k → k < w0.heap.size) (e1 : GExpr) (a1 : Option Addr) (c1 : Nat) (a2 : Option Addr) (c2 : Nat) (a3 : Option Addr) (c3 : Nat) (hc : AllCl [Cl.sl cGMono a1 c1 e1.Lin.L, Cl.sl cGIndex a2 c2 e1.Idx, Cl.sl cGExpr a3 c3 e1.Args] F w0) (r : Bool)
  (h : m_ref15_Small e1 = some r) :
  Calls Tryz.prog 16 #[(Value.agg #[vi e1.Op, (str e1.Name), vi e1.Val.N, vi e1.Val.D, vi e1.Type_.Kind, vi e1.Type_.Bits, vi e1.Type_.Frac, vi e1.Type_.Round, vi e1.Type_.Over, vi e1.Lin.K, vs a1 e1.Lin.L.length c1, vs a2 e1.Idx.length c2, vs a3 e1.Args.length c3])] w0 fun e w => e = .returned (vb r) ∧ Ext w0 w ∧ AllCl [] F w := by
 refine enterK Tryz.func16 rfl Tryz.ntmps16 rfl ?_
 have hI := Bun.start hF hc
 clear hc
 rw [m_ref15_Small] at h
 refine sr (l_box (v := (Value.agg #[vi e1.Op, (str e1.Name), vi e1.Val.N, vi e1.Val.D, vi e1.Type_.Kind, vi e1.Type_.Bits, vi e1.Type_.Frac, vi e1.Type_.Round, vi e1.Type_.Over, vi e1.Lin.K, vs a1 e1.Lin.L.length c1, vs a2 e1.Idx.length c2, vs a3 e1.Args.length c3])) (cs := #[vi e1.Op, (str e1.Name), vi e1.Val.N, vi e1.Val.D, vi e1.Type_.Kind, vi e1.Type_.Bits, vi e1.Type_.Frac, vi e1.Type_.Round, vi e1.Type_.Over, vi e1.Lin.K, vs a1 e1.Lin.L.length c1, vs a2 e1.Idx.length c2, vs a3 e1.Args.length c3]) hI gn rfl rfl et rfl ?_)
 clear hI; intro b1 c4 w1 hI
 obtain ⟨c5, hI⟩ := hI.relBox .z
 refine sac ?_
 refine nk (sr (sq (y_loadN (l := [vi e1.Op, (str e1.Name), vi e1.Val.N, vi e1.Val.D, vi e1.Type_.Kind, vi e1.Type_.Bits, vi e1.Type_.Frac, vi e1.Type_.Round, vi e1.Type_.Over, vi e1.Lin.K, vs a1 e1.Lin.L.length c1, vs a2 e1.Idx.length c2, vs a3 e1.Args.length c3]) rfl et u39 rfl size_39 (hI.kblk (l := [vi e1.Op, (str e1.Name), vi e1.Val.N, vi e1.Val.D, vi e1.Type_.Kind, vi e1.Type_.Bits, vi e1.Type_.Frac, vi e1.Type_.Round, vi e1.Type_.Over, vi e1.Lin.K, vs a1 e1.Lin.L.length c1, vs a2 e1.Idx.length c2, vs a3 e1.Args.length c3]) .z rfl).1) ?_))
 obtain ⟨r1, hx1, h⟩ := bnd_some h
 refine s_call gn rfl (r_callF (vs := [(Value.agg #[vi e1.Op, (str e1.Name), vi e1.Val.N, vi e1.Val.D, vi e1.Type_.Kind, vi e1.Type_.Bits, vi e1.Type_.Frac, vi e1.Type_.Round, vi e1.Type_.Over, vi e1.Lin.K, vs a1 e1.Lin.L.length c1, vs a2 e1.Idx.length c2, vs a3 e1.Args.length c3]), vi 300]) rfl ok_13 ⟨et, ⟨ev_const, trivial⟩⟩) (Calls.mono (c_base_Weigh (Dj F c5) w1 hI.lt e1 300 a1 c1 a2 c2 a3 c3 ⟨(hI.get (.s .z)), (hI.get (.s (.s .z))), (hI.get (.s (.s (.s .z)))), trivial⟩ r1 hx1) ?_)
 rintro _ w2 ⟨rfl, hx2, hl1⟩
 refine ⟨_, rfl, ?_⟩
 replace hI := (hI.ext hx2)
 refine sq (y_leq rfl et ev_const) ?_
 refine sa ?_
 refine nk (c_ret ?_)
 obtain rfl := some_inj h
 exact q_ret (vs := [(vb (decide (r1 ≤ 300)))]) Tryz.results16 ⟨ev_tmp rfl rfl, trivial⟩ (fq hI trivial)
theorem c_ref14_depth_b (rec_ : (GExpr → Int → Option Int)) (hrec : ∀ (F : NP) (w0 : World) (hF : ∀ k, F k → k < w0.heap.size) (e1 : GExpr) (most1 : Int) (a1 : Option Addr) (c1 : Nat) (a2 : Option Addr) (c2 : Nat) (a3 : Option Addr) (c3 : Nat) (hc : AllCl [Cl.sl cGMono a1 c1 e1.Lin.L, Cl.sl cGIndex a2 c2 e1.Idx, Cl.sl cGExpr a3 c3 e1.Args] F w0) (r : Int) (h : rec_ e1 most1 = some r), Calls Tryz.prog 105 #[(Value.agg #[vi e1.Op, (str e1.Name), vi e1.Val.N, vi e1.Val.D, vi e1.Type_.Kind, vi e1.Type_.Bits, vi e1.Type_.Frac, vi e1.Type_.Round, vi e1.Type_.Over, vi e1.Lin.K, vs a1 e1.Lin.L.length c1, vs a2 e1.Idx.length c2, vs a3 e1.Args.length c3]), vi most1] w0 fun e w => e = .returned (vi r) ∧ Ext w0 w ∧ AllCl [] F w)
  (F : NP) (w0 : World) (hF : ∀ k, F k → k < w0.heap.size) (e1 : GExpr) (most1 : Int) (a1 : Option Addr) (c1 : Nat) (a2 : Option Addr) (c2 : Nat) (a3 : Option Addr) (c3 : Nat) (hc : AllCl [Cl.sl cGMono a1 c1 e1.Lin.L, Cl.sl cGIndex a2 c2 e1.Idx, Cl.sl cGExpr a3 c3 e1.Args] F w0) (r : Int) (h : m_ref14_depth_b rec_ e1 most1 = some r) : Calls Tryz.prog 105 #[(Value.agg #[vi e1.Op, (str e1.Name), vi e1.Val.N, vi e1.Val.D, vi e1.Type_.Kind, vi e1.Type_.Bits, vi e1.Type_.Frac, vi e1.Type_.Round, vi e1.Type_.Over, vi e1.Lin.K, vs a1 e1.Lin.L.length c1, vs a2 e1.Idx.length c2, vs a3 e1.Args.length c3]), vi most1] w0 fun e w => e = .returned (vi r) ∧ Ext w0 w ∧ AllCl [] F w := by
 refine enterK Tryz.func105 rfl Tryz.ntmps105 rfl ?_
 have hI := Bun.start hF hc
 clear hc
 rw [m_ref14_depth_b] at h
 refine sr (l_box (v := (Value.agg #[vi e1.Op, (str e1.Name), vi e1.Val.N, vi e1.Val.D, vi e1.Type_.Kind, vi e1.Type_.Bits, vi e1.Type_.Frac, vi e1.Type_.Round, vi e1.Type_.Over, vi e1.Lin.K, vs a1 e1.Lin.L.length c1, vs a2 e1.Idx.length c2, vs a3 e1.Args.length c3])) (cs := #[vi e1.Op, (str e1.Name), vi e1.Val.N, vi e1.Val.D, vi e1.Type_.Kind, vi e1.Type_.Bits, vi e1.Type_.Frac, vi e1.Type_.Round, vi e1.Type_.Over, vi e1.Lin.K, vs a1 e1.Lin.L.length c1, vs a2 e1.Idx.length c2, vs a3 e1.Args.length c3]) hI gn rfl rfl et rfl ?_)
 clear hI; intro b1 c4 w1 hI
 obtain ⟨c5, hI⟩ := hI.relBox .z
 refine sac ?_
 refine nk (sr (sac ?_))
 refine nk (c_seq (sr (sac ?_)))
 refine nk (c_block (c_loop (α := Nat × Int × Int) (fun x => fun w => ∃ C, Bun noM F w0 C w [] [Cl.blk b1 39 #[vi e1.Op, (str e1.Name), vi e1.Val.N, vi e1.Val.D, vi e1.Type_.Kind, vi e1.Type_.Bits, vi e1.Type_.Frac, vi e1.Type_.Round, vi e1.Type_.Over, vi e1.Lin.K, vs a1 e1.Lin.L.length c1, vs a2 e1.Idx.length c2, vs a3 e1.Args.length c3], Cl.sl cGMono a1 c1 e1.Lin.L, Cl.sl cGIndex a2 c2 e1.Idx, Cl.sl cGExpr a3 c3 e1.Args] ∧ m_ref14_depth_l1 e1 most1 rec_ (x.1) (x.2.1) (x.2.2) = some r) (fun x _ => x.1) (fun x => [(1, vi most1), (2, vp b1 0), (5, vi (x.2.1)), (6, vi (x.2.2))]) (fu, 1, 0) ⟨_, hI.arr .n ⟨.z, (.s .z), (.s (.s .z)), (.s (.s (.s .z))), trivial⟩, h⟩ ⟨rfl, rfl, rfl, rfl, trivial⟩ ?_))
 clear h hI; rintro ⟨fuel1, d1, i1⟩ w2 ⟨c6, hI, h⟩
 dsimp only at hI h
 rcases fuel1 with _ | fuel1
 ·rw [m_ref14_depth_l1] at h; cases h
 rw [m_ref14_depth_l1] at h
 refine c_sub (e := [(1, vi most1), (2, vp b1 0), (5, vi d1), (6, vi i1)]) ⟨rfl, rfl, rfl, rfl, trivial⟩ ?_
 refine c_seq (sr (sm ?_))
 refine sq (y_fieldAddr rfl et u39 rfl size_37 rfl) ?_
 refine sq (y_load1 (v := (vs a3 e1.Args.length c3)) rfl et u37 rfl (hI.kblk (l := [vs a3 e1.Args.length c3]) .z rfl).1) ?_
 refine sq (y_lenl rfl u37 et) ?_
 refine sq (y_lss rfl et et) ?_
 refine sm ?_
 refine s_gval (g_true rfl rfl rfl rfl) rfl (fun hc => y_move rfl et) ?_
 refine s_gval (g_true rfl rfl rfl rfl) rfl (fun hc => y_gtr rfl (ev_gv et hc) ev_const) ?_
 refine sq (y_and rfl et et) ?_
 refine nk (cif h et (fun hb h => ?_) (fun hb h => ?_))
 ·refine c_skip (k_same (c_seq (c_block (c_region rfl ?_))))
  refine sm ?_
  refine sq (y_fieldAddr rfl et u39 rfl size_37 rfl) ?_
  refine sq (y_load1 (v := (vs a3 e1.Args.length c3)) rfl et u37 rfl (hI.kblk (l := [vs a3 e1.Args.length c3]) .z rfl).1) ?_
  refine sm ?_
  obtain ⟨e2, hx1, h⟩ := bnd_some h
  obtain ⟨ad1, cs1, hA1, hr1, hq1⟩ := hI.clat (.s (.s (.s .z))) hx1
  obtain ⟨a4, c7, a5, c8, a6, c9, rfl, hf1, hf2, hf3⟩ := cGExpr_out hr1
  have hI := hI.add (c := Cl.sl cGMono a4 c7 e2.Lin.L) hf1
  have hI := hI.add (c := Cl.sl cGIndex a5 c8 e2.Idx) hf2
  have hI := hI.add (c := Cl.sl cGExpr a6 c9 e2.Args) hf3
  refine sq (y_indexAddr rfl u37 size_39 et et (lat_bd hx1) hA1) ?_
  refine sq (y_loadN (l := [vi e2.Op, (str e2.Name), vi e2.Val.N, vi e2.Val.D, vi e2.Type_.Kind, vi e2.Type_.Bits, vi e2.Type_.Frac, vi e2.Type_.Round, vi e2.Type_.Over, vi e2.Lin.K, vs a4 e2.Lin.L.length c7, vs a5 e2.Idx.length c8, vs a6 e2.Args.length c9]) rfl et u39 rfl size_39 hq1.1) ?_
  refine sm ?_
  refine sq (y_sub rfl et ev_const) ?_
  obtain ⟨r1, hx2, h⟩ := bnd_some h
  refine s_call gn rfl (r_callF (vs := [(Value.agg #[vi e2.Op, (str e2.Name), vi e2.Val.N, vi e2.Val.D, vi e2.Type_.Kind, vi e2.Type_.Bits, vi e2.Type_.Frac, vi e2.Type_.Round, vi e2.Type_.Over, vi e2.Lin.K, vs a4 e2.Lin.L.length c7, vs a5 e2.Idx.length c8, vs a6 e2.Args.length c9]), (vi (wi64 (most1 - 1)))]) rfl ok_105 ⟨et, ⟨et, trivial⟩⟩) (Calls.mono (hrec (Dj F c6) w2 hI.lt e2 (wi64 (most1 - 1)) a4 c7 a5 c8 a6 c9 ⟨(hI.get (.s (.s .z))), (hI.get (.s .z)), (hI.get .z), trivial⟩ r1 hx2) ?_)
  rintro _ w3 ⟨rfl, hx3, hl1⟩
  refine ⟨_, rfl, ?_⟩
  replace hI := (hI.ext hx3)
  refine sq (y_add rfl ev_const et) ?_
  refine sq (y_max rfl et et) ?_
  refine sa ?_
  refine nk (c_region rfl ?_)
  refine sm ?_
  refine sq (y_add rfl et ev_const) ?_
  refine sa ?_
  refine s_nil ?_
  exact k_loop (fuel1, max d1 (wi64 (1 + r1)), wi64 (i1 + 1)) ⟨rfl, rfl, rfl, rfl, trivial⟩ ⟨_, hI.arr .n ⟨(.s (.s (.s .z))), (.s (.s (.s (.s .z)))), (.s (.s (.s (.s (.s .z))))), (.s (.s (.s (.s (.s (.s .z)))))), trivial⟩, h⟩ (Nat.lt_succ_self _)
 refine c_exit ?_
 refine k_in ?_
 refine k_same (sr (sm ?_))
 refine sa ?_
 refine nk (c_ret ?_)
 obtain rfl := some_inj h
 exact q_ret (vs := [vi d1]) Tryz.results105 ⟨ev_tmp rfl rfl, trivial⟩ (fq hI trivial)
theorem c_ref14_depth_r (n : Nat) : ∀ (F : NP) (w0 : World) (hF : ∀ k, F k → k < w0.heap.size) (e1 : GExpr) (most1 : Int) (a1 : Option Addr) (c1 : Nat) (a2 : Option Addr) (c2 : Nat) (a3 : Option Addr) (c3 : Nat) (hc : AllCl [Cl.sl cGMono a1 c1 e1.Lin.L, Cl.sl cGIndex a2 c2 e1.Idx, Cl.sl cGExpr a3 c3 e1.Args] F w0) (r : Int) (h : m_ref14_depth_r n e1 most1 = some r), Calls Tryz.prog 105 #[(Value.agg #[vi e1.Op, (str e1.Name), vi e1.Val.N, vi e1.Val.D, vi e1.Type_.Kind, vi e1.Type_.Bits, vi e1.Type_.Frac, vi e1.Type_.Round, vi e1.Type_.Over, vi e1.Lin.K, vs a1 e1.Lin.L.length c1, vs a2 e1.Idx.length c2, vs a3 e1.Args.length c3]), vi most1] w0 fun e w => e = .returned (vi r) ∧ Ext w0 w ∧ AllCl [] F w := by
 induction n with
 | zero => intro F w0 hF e1 most1 a1 c1 a2 c2 a3 c3 hc r h; cases h
 | succ n ih => intro F w0 hF e1 most1 a1 c1 a2 c2 a3 c3 hc r h; exact c_ref14_depth_b (m_ref14_depth_r n) ih F w0 hF e1 most1 a1 c1 a2 c2 a3 c3 hc r h
theorem c_ref14_depth (F : NP) (w0 : World) (hF : ∀ k, F k → k < w0.heap.size) (e1 : GExpr) (most1 : Int) (a1 : Option Addr) (c1 : Nat) (a2 : Option Addr) (c2 : Nat) (a3 : Option Addr) (c3 : Nat) (hc : AllCl [Cl.sl cGMono a1 c1 e1.Lin.L, Cl.sl cGIndex a2 c2 e1.Idx, Cl.sl cGExpr a3 c3 e1.Args] F w0) (r : Int) (h : m_ref14_depth e1 most1 = some r) : Calls Tryz.prog 105 #[(Value.agg #[vi e1.Op, (str e1.Name), vi e1.Val.N, vi e1.Val.D, vi e1.Type_.Kind, vi e1.Type_.Bits, vi e1.Type_.Frac, vi e1.Type_.Round, vi e1.Type_.Over, vi e1.Lin.K, vs a1 e1.Lin.L.length c1, vs a2 e1.Idx.length c2, vs a3 e1.Args.length c3]), vi most1] w0 fun e w => e = .returned (vi r) ∧ Ext w0 w ∧ AllCl [] F w := c_ref14_depth_r fu F w0 hF e1 most1 a1 c1 a2 c2 a3 c3 hc r h
theorem c_ref14_Depth (F : NP) (w0 : World) (hF : ∀ k, F k → k < w0.heap.size) (e1 : GExpr) (a1 : Option Addr) (c1 : Nat) (a2 : Option Addr) (c2 : Nat) (a3 : Option Addr) (c3 : Nat) (hc : AllCl [Cl.sl cGMono a1 c1 e1.Lin.L, Cl.sl cGIndex a2 c2 e1.Idx, Cl.sl cGExpr a3 c3 e1.Args] F w0) (r : Int)
  (h : m_ref14_Depth e1 = some r) :
  Calls Tryz.prog 49 #[(Value.agg #[vi e1.Op, (str e1.Name), vi e1.Val.N, vi e1.Val.D, vi e1.Type_.Kind, vi e1.Type_.Bits, vi e1.Type_.Frac, vi e1.Type_.Round, vi e1.Type_.Over, vi e1.Lin.K, vs a1 e1.Lin.L.length c1, vs a2 e1.Idx.length c2, vs a3 e1.Args.length c3])] w0 fun e w => e = .returned (vi r) ∧ Ext w0 w ∧ AllCl [] F w := by
 refine enterK Tryz.func49 rfl Tryz.ntmps49 rfl ?_
 have hI := Bun.start hF hc
 clear hc
 rw [m_ref14_Depth] at h
 refine sr (l_box (v := (Value.agg #[vi e1.Op, (str e1.Name), vi e1.Val.N, vi e1.Val.D, vi e1.Type_.Kind, vi e1.Type_.Bits, vi e1.Type_.Frac, vi e1.Type_.Round, vi e1.Type_.Over, vi e1.Lin.K, vs a1 e1.Lin.L.length c1, vs a2 e1.Idx.length c2, vs a3 e1.Args.length c3])) (cs := #[vi e1.Op, (str e1.Name), vi e1.Val.N, vi e1.Val.D, vi e1.Type_.Kind, vi e1.Type_.Bits, vi e1.Type_.Frac, vi e1.Type_.Round, vi e1.Type_.Over, vi e1.Lin.K, vs a1 e1.Lin.L.length c1, vs a2 e1.Idx.length c2, vs a3 e1.Args.length c3]) hI gn rfl rfl et rfl ?_)
 clear hI; intro b1 c4 w1 hI
 obtain ⟨c5, hI⟩ := hI.relBox .z
 refine sac ?_
 refine nk (sr (sq (y_loadN (l := [vi e1.Op, (str e1.Name), vi e1.Val.N, vi e1.Val.D, vi e1.Type_.Kind, vi e1.Type_.Bits, vi e1.Type_.Frac, vi e1.Type_.Round, vi e1.Type_.Over, vi e1.Lin.K, vs a1 e1.Lin.L.length c1, vs a2 e1.Idx.length c2, vs a3 e1.Args.length c3]) rfl et u39 rfl size_39 (hI.kblk (l := [vi e1.Op, (str e1.Name), vi e1.Val.N, vi e1.Val.D, vi e1.Type_.Kind, vi e1.Type_.Bits, vi e1.Type_.Frac, vi e1.Type_.Round, vi e1.Type_.Over, vi e1.Lin.K, vs a1 e1.Lin.L.length c1, vs a2 e1.Idx.length c2, vs a3 e1.Args.length c3]) .z rfl).1) ?_))
 obtain ⟨r1, hx1, h⟩ := bnd_some h
 refine s_call gn rfl (r_callF (vs := [(Value.agg #[vi e1.Op, (str e1.Name), vi e1.Val.N, vi e1.Val.D, vi e1.Type_.Kind, vi e1.Type_.Bits, vi e1.Type_.Frac, vi e1.Type_.Round, vi e1.Type_.Over, vi e1.Lin.K, vs a1 e1.Lin.L.length c1, vs a2 e1.Idx.length c2, vs a3 e1.Args.length c3]), vi 41]) rfl ok_105 ⟨et, ⟨ev_const, trivial⟩⟩) (Calls.mono (c_ref14_depth (Dj F c5) w1 hI.lt e1 41 a1 c1 a2 c2 a3 c3 ⟨(hI.get (.s .z)), (hI.get (.s (.s .z))), (hI.get (.s (.s (.s .z)))), trivial⟩ r1 hx1) ?_)
 rintro _ w2 ⟨rfl, hx2, hl1⟩
 refine ⟨_, rfl, ?_⟩
 replace hI := (hI.ext hx2)
 refine sa ?_
 refine nk (c_ret ?_)
 obtain rfl := some_inj h
 exact q_ret (vs := [vi r1]) Tryz.results49 ⟨ev_tmp rfl rfl, trivial⟩ (fq hI trivial)
theorem c_ref14_size_b (rec_ : (GExpr → Int → Option Int)) (hrec : ∀ (F : NP) (w0 : World) (hF : ∀ k, F k → k < w0.heap.size) (e1 : GExpr) (most1 : Int) (a1 : Option Addr) (c1 : Nat) (a2 : Option Addr) (c2 : Nat) (a3 : Option Addr) (c3 : Nat) (hc : AllCl [Cl.sl cGMono a1 c1 e1.Lin.L, Cl.sl cGIndex a2 c2 e1.Idx, Cl.sl cGExpr a3 c3 e1.Args] F w0) (r : Int) (h : rec_ e1 most1 = some r), Calls Tryz.prog 106 #[(Value.agg #[vi e1.Op, (str e1.Name), vi e1.Val.N, vi e1.Val.D, vi e1.Type_.Kind, vi e1.Type_.Bits, vi e1.Type_.Frac, vi e1.Type_.Round, vi e1.Type_.Over, vi e1.Lin.K, vs a1 e1.Lin.L.length c1, vs a2 e1.Idx.length c2, vs a3 e1.Args.length c3]), vi most1] w0 fun e w => e = .returned (vi r) ∧ Ext w0 w ∧ AllCl [] F w)
  (F : NP) (w0 : World) (hF : ∀ k, F k → k < w0.heap.size) (e1 : GExpr) (most1 : Int) (a1 : Option Addr) (c1 : Nat) (a2 : Option Addr) (c2 : Nat) (a3 : Option Addr) (c3 : Nat) (hc : AllCl [Cl.sl cGMono a1 c1 e1.Lin.L, Cl.sl cGIndex a2 c2 e1.Idx, Cl.sl cGExpr a3 c3 e1.Args] F w0) (r : Int) (h : m_ref14_size_b rec_ e1 most1 = some r) : Calls Tryz.prog 106 #[(Value.agg #[vi e1.Op, (str e1.Name), vi e1.Val.N, vi e1.Val.D, vi e1.Type_.Kind, vi e1.Type_.Bits, vi e1.Type_.Frac, vi e1.Type_.Round, vi e1.Type_.Over, vi e1.Lin.K, vs a1 e1.Lin.L.length c1, vs a2 e1.Idx.length c2, vs a3 e1.Args.length c3]), vi most1] w0 fun e w => e = .returned (vi r) ∧ Ext w0 w ∧ AllCl [] F w := by
 refine enterK Tryz.func106 rfl Tryz.ntmps106 rfl ?_
 have hI := Bun.start hF hc
 clear hc
 rw [m_ref14_size_b] at h
 refine sr (l_box (v := (Value.agg #[vi e1.Op, (str e1.Name), vi e1.Val.N, vi e1.Val.D, vi e1.Type_.Kind, vi e1.Type_.Bits, vi e1.Type_.Frac, vi e1.Type_.Round, vi e1.Type_.Over, vi e1.Lin.K, vs a1 e1.Lin.L.length c1, vs a2 e1.Idx.length c2, vs a3 e1.Args.length c3])) (cs := #[vi e1.Op, (str e1.Name), vi e1.Val.N, vi e1.Val.D, vi e1.Type_.Kind, vi e1.Type_.Bits, vi e1.Type_.Frac, vi e1.Type_.Round, vi e1.Type_.Over, vi e1.Lin.K, vs a1 e1.Lin.L.length c1, vs a2 e1.Idx.length c2, vs a3 e1.Args.length c3]) hI gn rfl rfl et rfl ?_)
 clear hI; intro b1 c4 w1 hI
 obtain ⟨c5, hI⟩ := hI.relBox .z
 refine sac ?_
 refine nk (sr (sac ?_))
 refine nk (c_seq (sr (sac ?_)))
 refine nk (c_block (c_loop (α := Nat × Int × Int) (fun x => fun w => ∃ C, Bun noM F w0 C w [] [Cl.blk b1 39 #[vi e1.Op, (str e1.Name), vi e1.Val.N, vi e1.Val.D, vi e1.Type_.Kind, vi e1.Type_.Bits, vi e1.Type_.Frac, vi e1.Type_.Round, vi e1.Type_.Over, vi e1.Lin.K, vs a1 e1.Lin.L.length c1, vs a2 e1.Idx.length c2, vs a3 e1.Args.length c3], Cl.sl cGMono a1 c1 e1.Lin.L, Cl.sl cGIndex a2 c2 e1.Idx, Cl.sl cGExpr a3 c3 e1.Args] ∧ m_ref14_size_l1 e1 most1 rec_ (x.1) (x.2.1) (x.2.2) = some r) (fun x _ => x.1) (fun x => [(1, vi most1), (2, vp b1 0), (5, vi (x.2.1)), (6, vi (x.2.2))]) (fu, 1, 0) ⟨_, hI.arr .n ⟨.z, (.s .z), (.s (.s .z)), (.s (.s (.s .z))), trivial⟩, h⟩ ⟨rfl, rfl, rfl, rfl, trivial⟩ ?_))
 clear h hI; rintro ⟨fuel1, n1, i1⟩ w2 ⟨c6, hI, h⟩
 dsimp only at hI h
 rcases fuel1 with _ | fuel1
 ·rw [m_ref14_size_l1] at h; cases h
 rw [m_ref14_size_l1] at h
 refine c_sub (e := [(1, vi most1), (2, vp b1 0), (5, vi n1), (6, vi i1)]) ⟨rfl, rfl, rfl, rfl, trivial⟩ ?_
 refine c_seq (sr (sm ?_))
 refine sq (y_fieldAddr rfl et u39 rfl size_37 rfl) ?_
 refine sq (y_load1 (v := (vs a3 e1.Args.length c3)) rfl et u37 rfl (hI.kblk (l := [vs a3 e1.Args.length c3]) .z rfl).1) ?_
 refine sq (y_lenl rfl u37 et) ?_
 refine sq (y_lss rfl et et) ?_
 refine sm ?_
 refine s_gval (g_true rfl rfl rfl rfl) rfl (fun hc => y_move rfl et) ?_
 refine s_gval (g_true rfl rfl rfl rfl) rfl (fun hc => y_move rfl et) ?_
 refine s_gval (g_true rfl rfl rfl rfl) rfl (fun hc => y_leq rfl (ev_gv et hc) (ev_gv et hc)) ?_
 refine sq (y_and rfl et et) ?_
 refine nk (cif h et (fun hb h => ?_) (fun hb h => ?_))
 ·refine c_skip (k_same (c_seq (c_block (c_region rfl ?_))))
  refine sm ?_
  refine sq (y_fieldAddr rfl et u39 rfl size_37 rfl) ?_
  refine sq (y_load1 (v := (vs a3 e1.Args.length c3)) rfl et u37 rfl (hI.kblk (l := [vs a3 e1.Args.length c3]) .z rfl).1) ?_
  refine sm ?_
  obtain ⟨e2, hx1, h⟩ := bnd_some h
  obtain ⟨ad1, cs1, hA1, hr1, hq1⟩ := hI.clat (.s (.s (.s .z))) hx1
  obtain ⟨a4, c7, a5, c8, a6, c9, rfl, hf1, hf2, hf3⟩ := cGExpr_out hr1
  have hI := hI.add (c := Cl.sl cGMono a4 c7 e2.Lin.L) hf1
  have hI := hI.add (c := Cl.sl cGIndex a5 c8 e2.Idx) hf2
  have hI := hI.add (c := Cl.sl cGExpr a6 c9 e2.Args) hf3
  refine sq (y_indexAddr rfl u37 size_39 et et (lat_bd hx1) hA1) ?_
  refine sq (y_loadN (l := [vi e2.Op, (str e2.Name), vi e2.Val.N, vi e2.Val.D, vi e2.Type_.Kind, vi e2.Type_.Bits, vi e2.Type_.Frac, vi e2.Type_.Round, vi e2.Type_.Over, vi e2.Lin.K, vs a4 e2.Lin.L.length c7, vs a5 e2.Idx.length c8, vs a6 e2.Args.length c9]) rfl et u39 rfl size_39 hq1.1) ?_
  refine sm ?_
  refine sm ?_
  refine sq (y_sub rfl et et) ?_
  obtain ⟨r1, hx2, h⟩ := bnd_some h
  refine s_call gn rfl (r_callF (vs := [(Value.agg #[vi e2.Op, (str e2.Name), vi e2.Val.N, vi e2.Val.D, vi e2.Type_.Kind, vi e2.Type_.Bits, vi e2.Type_.Frac, vi e2.Type_.Round, vi e2.Type_.Over, vi e2.Lin.K, vs a4 e2.Lin.L.length c7, vs a5 e2.Idx.length c8, vs a6 e2.Args.length c9]), (vi (wi64 (most1 - n1)))]) rfl ok_106 ⟨et, ⟨et, trivial⟩⟩) (Calls.mono (hrec (Dj F c6) w2 hI.lt e2 (wi64 (most1 - n1)) a4 c7 a5 c8 a6 c9 ⟨(hI.get (.s (.s .z))), (hI.get (.s .z)), (hI.get .z), trivial⟩ r1 hx2) ?_)
  rintro _ w3 ⟨rfl, hx3, hl1⟩
  refine ⟨_, rfl, ?_⟩
  replace hI := (hI.ext hx3)
  refine sq (y_add rfl et et) ?_
  refine sa ?_
  refine nk (c_region rfl ?_)
  refine sm ?_
  refine sq (y_add rfl et ev_const) ?_
  refine sa ?_
  refine s_nil ?_
  exact k_loop (fuel1, wi64 (n1 + r1), wi64 (i1 + 1)) ⟨rfl, rfl, rfl, rfl, trivial⟩ ⟨_, hI.arr .n ⟨(.s (.s (.s .z))), (.s (.s (.s (.s .z)))), (.s (.s (.s (.s (.s .z))))), (.s (.s (.s (.s (.s (.s .z)))))), trivial⟩, h⟩ (Nat.lt_succ_self _)
 refine c_exit ?_
 refine k_in ?_
 refine k_same (sr (sm ?_))
 refine sa ?_
 refine nk (c_ret ?_)
 obtain rfl := some_inj h
 exact q_ret (vs := [vi n1]) Tryz.results106 ⟨ev_tmp rfl rfl, trivial⟩ (fq hI trivial)
theorem c_ref14_size_r (n : Nat) : ∀ (F : NP) (w0 : World) (hF : ∀ k, F k → k < w0.heap.size) (e1 : GExpr) (most1 : Int) (a1 : Option Addr) (c1 : Nat) (a2 : Option Addr) (c2 : Nat) (a3 : Option Addr) (c3 : Nat) (hc : AllCl [Cl.sl cGMono a1 c1 e1.Lin.L, Cl.sl cGIndex a2 c2 e1.Idx, Cl.sl cGExpr a3 c3 e1.Args] F w0) (r : Int) (h : m_ref14_size_r n e1 most1 = some r), Calls Tryz.prog 106 #[(Value.agg #[vi e1.Op, (str e1.Name), vi e1.Val.N, vi e1.Val.D, vi e1.Type_.Kind, vi e1.Type_.Bits, vi e1.Type_.Frac, vi e1.Type_.Round, vi e1.Type_.Over, vi e1.Lin.K, vs a1 e1.Lin.L.length c1, vs a2 e1.Idx.length c2, vs a3 e1.Args.length c3]), vi most1] w0 fun e w => e = .returned (vi r) ∧ Ext w0 w ∧ AllCl [] F w := by
 induction n with
 | zero => intro F w0 hF e1 most1 a1 c1 a2 c2 a3 c3 hc r h; cases h
 | succ n ih => intro F w0 hF e1 most1 a1 c1 a2 c2 a3 c3 hc r h; exact c_ref14_size_b (m_ref14_size_r n) ih F w0 hF e1 most1 a1 c1 a2 c2 a3 c3 hc r h
theorem c_ref14_size (F : NP) (w0 : World) (hF : ∀ k, F k → k < w0.heap.size) (e1 : GExpr) (most1 : Int) (a1 : Option Addr) (c1 : Nat) (a2 : Option Addr) (c2 : Nat) (a3 : Option Addr) (c3 : Nat) (hc : AllCl [Cl.sl cGMono a1 c1 e1.Lin.L, Cl.sl cGIndex a2 c2 e1.Idx, Cl.sl cGExpr a3 c3 e1.Args] F w0) (r : Int) (h : m_ref14_size e1 most1 = some r) : Calls Tryz.prog 106 #[(Value.agg #[vi e1.Op, (str e1.Name), vi e1.Val.N, vi e1.Val.D, vi e1.Type_.Kind, vi e1.Type_.Bits, vi e1.Type_.Frac, vi e1.Type_.Round, vi e1.Type_.Over, vi e1.Lin.K, vs a1 e1.Lin.L.length c1, vs a2 e1.Idx.length c2, vs a3 e1.Args.length c3]), vi most1] w0 fun e w => e = .returned (vi r) ∧ Ext w0 w ∧ AllCl [] F w := c_ref14_size_r fu F w0 hF e1 most1 a1 c1 a2 c2 a3 c3 hc r h
theorem c_ref14_Size (F : NP) (w0 : World) (hF : ∀ k, F k → k < w0.heap.size) (e1 : GExpr) (a1 : Option Addr) (c1 : Nat) (a2 : Option Addr) (c2 : Nat) (a3 : Option Addr) (c3 : Nat) (hc : AllCl [Cl.sl cGMono a1 c1 e1.Lin.L, Cl.sl cGIndex a2 c2 e1.Idx, Cl.sl cGExpr a3 c3 e1.Args] F w0) (r : Int)
  (h : m_ref14_Size e1 = some r) :
  Calls Tryz.prog 50 #[(Value.agg #[vi e1.Op, (str e1.Name), vi e1.Val.N, vi e1.Val.D, vi e1.Type_.Kind, vi e1.Type_.Bits, vi e1.Type_.Frac, vi e1.Type_.Round, vi e1.Type_.Over, vi e1.Lin.K, vs a1 e1.Lin.L.length c1, vs a2 e1.Idx.length c2, vs a3 e1.Args.length c3])] w0 fun e w => e = .returned (vi r) ∧ Ext w0 w ∧ AllCl [] F w := by
 refine enterK Tryz.func50 rfl Tryz.ntmps50 rfl ?_
 have hI := Bun.start hF hc
 clear hc
 rw [m_ref14_Size] at h
 refine sr (l_box (v := (Value.agg #[vi e1.Op, (str e1.Name), vi e1.Val.N, vi e1.Val.D, vi e1.Type_.Kind, vi e1.Type_.Bits, vi e1.Type_.Frac, vi e1.Type_.Round, vi e1.Type_.Over, vi e1.Lin.K, vs a1 e1.Lin.L.length c1, vs a2 e1.Idx.length c2, vs a3 e1.Args.length c3])) (cs := #[vi e1.Op, (str e1.Name), vi e1.Val.N, vi e1.Val.D, vi e1.Type_.Kind, vi e1.Type_.Bits, vi e1.Type_.Frac, vi e1.Type_.Round, vi e1.Type_.Over, vi e1.Lin.K, vs a1 e1.Lin.L.length c1, vs a2 e1.Idx.length c2, vs a3 e1.Args.length c3]) hI gn rfl rfl et rfl ?_)
 clear hI; intro b1 c4 w1 hI
 obtain ⟨c5, hI⟩ := hI.relBox .z
 refine sac ?_
 refine nk (sr (sq (y_loadN (l := [vi e1.Op, (str e1.Name), vi e1.Val.N, vi e1.Val.D, vi e1.Type_.Kind, vi e1.Type_.Bits, vi e1.Type_.Frac, vi e1.Type_.Round, vi e1.Type_.Over, vi e1.Lin.K, vs a1 e1.Lin.L.length c1, vs a2 e1.Idx.length c2, vs a3 e1.Args.length c3]) rfl et u39 rfl size_39 (hI.kblk (l := [vi e1.Op, (str e1.Name), vi e1.Val.N, vi e1.Val.D, vi e1.Type_.Kind, vi e1.Type_.Bits, vi e1.Type_.Frac, vi e1.Type_.Round, vi e1.Type_.Over, vi e1.Lin.K, vs a1 e1.Lin.L.length c1, vs a2 e1.Idx.length c2, vs a3 e1.Args.length c3]) .z rfl).1) ?_))
 obtain ⟨r1, hx1, h⟩ := bnd_some h
 refine s_call gn rfl (r_callF (vs := [(Value.agg #[vi e1.Op, (str e1.Name), vi e1.Val.N, vi e1.Val.D, vi e1.Type_.Kind, vi e1.Type_.Bits, vi e1.Type_.Frac, vi e1.Type_.Round, vi e1.Type_.Over, vi e1.Lin.K, vs a1 e1.Lin.L.length c1, vs a2 e1.Idx.length c2, vs a3 e1.Args.length c3]), vi 2000]) rfl ok_106 ⟨et, ⟨ev_const, trivial⟩⟩) (Calls.mono (c_ref14_size (Dj F c5) w1 hI.lt e1 2000 a1 c1 a2 c2 a3 c3 ⟨(hI.get (.s .z)), (hI.get (.s (.s .z))), (hI.get (.s (.s (.s .z)))), trivial⟩ r1 hx1) ?_)
 rintro _ w2 ⟨rfl, hx2, hl1⟩
 refine ⟨_, rfl, ?_⟩
 replace hI := (hI.ext hx2)
 refine sq (y_min rfl et ev_const) ?_
 refine sa ?_
 refine nk (c_ret ?_)
 obtain rfl := some_inj h
 exact q_ret (vs := [vi (min r1 2001)]) Tryz.results50 ⟨ev_tmp rfl rfl, trivial⟩ (fq hI trivial)
theorem c_ref14_plain (F : NP) (w0 : World) (hF : ∀ k, F k → k < w0.heap.size) (e1 : GExpr) (a1 : Option Addr) (c1 : Nat) (a2 : Option Addr) (c2 : Nat) (a3 : Option Addr) (c3 : Nat) (hc : AllCl [Cl.sl cGMono a1 c1 e1.Lin.L, Cl.sl cGIndex a2 c2 e1.Idx, Cl.sl cGExpr a3 c3 e1.Args] F w0) (r : Bool)
  (h : m_ref14_plain e1 = some r) :
  Calls Tryz.prog 107 #[(Value.agg #[vi e1.Op, (str e1.Name), vi e1.Val.N, vi e1.Val.D, vi e1.Type_.Kind, vi e1.Type_.Bits, vi e1.Type_.Frac, vi e1.Type_.Round, vi e1.Type_.Over, vi e1.Lin.K, vs a1 e1.Lin.L.length c1, vs a2 e1.Idx.length c2, vs a3 e1.Args.length c3])] w0 fun e w => e = .returned (vb r) ∧ Ext w0 w ∧ AllCl [] F w := by
 refine enterK Tryz.func107 rfl Tryz.ntmps107 rfl ?_
 have hI := Bun.start hF hc
 clear hc
 rw [m_ref14_plain] at h
 refine sr (l_box (v := (Value.agg #[vi e1.Op, (str e1.Name), vi e1.Val.N, vi e1.Val.D, vi e1.Type_.Kind, vi e1.Type_.Bits, vi e1.Type_.Frac, vi e1.Type_.Round, vi e1.Type_.Over, vi e1.Lin.K, vs a1 e1.Lin.L.length c1, vs a2 e1.Idx.length c2, vs a3 e1.Args.length c3])) (cs := #[vi e1.Op, (str e1.Name), vi e1.Val.N, vi e1.Val.D, vi e1.Type_.Kind, vi e1.Type_.Bits, vi e1.Type_.Frac, vi e1.Type_.Round, vi e1.Type_.Over, vi e1.Lin.K, vs a1 e1.Lin.L.length c1, vs a2 e1.Idx.length c2, vs a3 e1.Args.length c3]) hI gn rfl rfl et rfl ?_)
 clear hI; intro b1 c4 w1 hI
 obtain ⟨c5, hI⟩ := hI.relBox .z
 refine sac ?_
 refine nk (c_seq (sr (sq (y_fieldAddr rfl et u39 rfl size_3 rfl) ?_)))
 refine sq (y_load1 (v := (vi e1.Op)) rfl et u3 rfl (hI.kblk (l := [vi e1.Op]) .z rfl).1) ?_
 refine sq (y_lss rfl et ev_const) ?_
 refine sm ?_
 refine s_gval (g_false rfl rfl rfl rfl) rfl (fun hc => y_fieldAddr rfl et u39 rfl size_3 rfl) ?_
 refine s_gval (g_false rfl rfl rfl rfl) rfl (fun hc => (y_load1 (v := (vi e1.Op)) rfl (ev_gv et hc) u3 rfl (hI.kblk (l := [vi e1.Op]) .z rfl).1)) ?_
 refine s_gval (g_false rfl rfl rfl rfl) rfl (fun hc => y_gtr rfl (ev_gv et hc) ev_const) ?_
 refine sq (y_or rfl et et) ?_
 refine nk (cif h et (fun hb h => ?_) (fun hb h => ?_))
 ·refine sr (sac ?_)
  refine nk (c_ret ?_)
  obtain rfl := some_inj h
  exact q_ret (vs := [vb false]) Tryz.results107 ⟨ev_tmp rfl rfl, trivial⟩ (fq hI trivial)
 refine c_skip (k_same (c_seq (sr (sq (y_fieldAddr rfl et u39 rfl size_3 rfl) ?_))))
 refine sq (y_load1 (v := (vi e1.Op)) rfl et u3 rfl (hI.kblk (l := [vi e1.Op]) .z rfl).1) ?_
 refine sq (y_neq rfl et ev_const) ?_
 refine sm ?_
 refine s_gval (g_true rfl rfl rfl rfl) rfl (fun hc => y_fieldAddr rfl et u39 rfl size_36 rfl) ?_
 refine s_gval (g_true rfl rfl rfl rfl) rfl (fun hc => (y_loadN (l := (lVal e1.Val)) rfl (ev_gv et hc) u36 rfl size_36 (hI.kblk (l := (lVal e1.Val)) .z rfl).1)) ?_
 refine s_gval (g_true rfl rfl rfl rfl) rfl (fun hc => y_build (vs := []) (cs := #[vi 0, vi 0]) rfl trivial (by kernel_rfl)) ?_
 refine s_gval (g_true rfl rfl rfl rfl) rfl (fun hc => y_bin rfl (ev_gv et hc) (ev_gv et hc) (eqstruct_36n ..) (eqguard_36 ..)) ?_
 refine sq (y_and rfl et et) ?_
 refine sm ?_
 refine s_gval (g_false rfl rfl rfl rfl) rfl (fun hc => y_fieldAddr rfl et u39 rfl size_3 rfl) ?_
 refine s_gval (g_false rfl rfl rfl rfl) rfl (fun hc => (y_load1 (v := (vi e1.Op)) rfl (ev_gv et hc) u3 rfl (hI.kblk (l := [vi e1.Op]) .z rfl).1)) ?_
 refine s_gval (g_false rfl rfl rfl rfl) rfl (fun hc => y_neq rfl (ev_gv et hc) ev_const) ?_
 refine s_gval (g_false rfl rfl rfl rfl) rfl (fun hc => y_move rfl (ev_gv et hc)) ?_
 refine s_gval (g_true2 rfl rfl rfl rfl) rfl (fun hc => y_fieldAddr rfl et u39 rfl size_3 rfl) ?_
 refine s_gval (g_true2 rfl rfl rfl rfl) rfl (fun hc => (y_load1 (v := (vi e1.Op)) rfl (ev_gv et hc) u3 rfl (hI.kblk (l := [vi e1.Op]) .z rfl).1)) ?_
 refine s_gval (g_true2 rfl rfl rfl rfl) rfl (fun hc => y_neq rfl (ev_gv et hc) ev_const) ?_
 refine s_gval (g_false rfl rfl rfl rfl) rfl (fun hc => y_and2 rfl hc et et) ?_
 refine s_gval (g_false rfl rfl rfl rfl) rfl (fun hc => y_move rfl (ev_gv et hc)) ?_
 refine s_gval (g_true2 rfl rfl rfl rfl) rfl (fun hc => y_fieldAddr rfl et u39 rfl size_23 rfl) ?_
 refine s_gval (g_true2 rfl rfl rfl rfl) rfl (fun hc => (y_loadN (l := (lType e1.Type_)) rfl (ev_gv et hc) u23 rfl size_23 (hI.kblk (l := (lType e1.Type_)) .z rfl).1)) ?_
 refine s_gval (g_true2 rfl rfl rfl rfl) rfl (fun hc => y_build (vs := []) (cs := ZType) rfl trivial (by kernel_rfl)) ?_
 refine s_gval (g_true2 rfl rfl rfl rfl) rfl (fun hc => y_bin rfl (ev_gv et hc) (ev_gv et hc) (eqstruct_23n ..) (eqguard_23 ..)) ?_
 refine s_gval (g_false rfl rfl rfl rfl) rfl (fun hc => y_and2 rfl hc et et) ?_
 refine sq (y_or rfl et et) ?_
 refine s_nil ?_
 refine k_next (e := [(1, vp b1 0), (37, (vb (((!decide (e1.Op = 1)) && (!((decide (e1.Val.N = 0)) && (decide (e1.Val.D = 0))))) || (((!decide (e1.Op = 1)) && (!decide (e1.Op = 12))) && (!((decide (e1.Type_.Kind = 0)) && (decide (e1.Type_.Bits = 0)) && (decide (e1.Type_.Frac = 0)) && (decide (e1.Type_.Round = 0)) && (decide (e1.Type_.Over = 0))))))))]) ⟨rfl, rfl, trivial⟩ ?_
 refine cif h et (fun hb h => ?_) (fun hb h => ?_)
 ·refine sr (sac ?_)
  refine nk (c_ret ?_)
  obtain rfl := some_inj h
  exact q_ret (vs := [vb false]) Tryz.results107 ⟨ev_tmp rfl rfl, trivial⟩ (fq hI trivial)
 refine c_skip (k_same (c_seq (sr (sq (y_fieldAddr rfl et u39 rfl size_3 rfl) ?_))))
 refine sq (y_load1 (v := (vi e1.Op)) rfl et u3 rfl (hI.kblk (l := [vi e1.Op]) .z rfl).1) ?_
 refine sq (y_neq rfl et ev_const) ?_
 refine sm ?_
 refine s_gval (g_true rfl rfl rfl rfl) rfl (fun hc => y_fieldAddr rfl et u39 rfl size_29 rfl) ?_
 refine s_gval (g_true rfl rfl rfl rfl) rfl (fun hc => y_fieldAddr rfl (ev_gv et hc) u29 rfl size_2 rfl) ?_
 refine s_gval (g_true rfl rfl rfl rfl) rfl (fun hc => (y_load1 (v := (vi e1.Lin.K)) rfl (ev_gv et hc) u2 rfl (hI.kblk (l := [vi e1.Lin.K]) .z rfl).1)) ?_
 refine s_gval (g_true rfl rfl rfl rfl) rfl (fun hc => y_neq rfl (ev_gv et hc) ev_const) ?_
 refine s_gval (g_true rfl rfl rfl rfl) rfl (fun hc => y_move rfl (ev_gv et hc)) ?_
 refine s_gval (g_false2 rfl rfl rfl rfl) rfl (fun hc => y_fieldAddr rfl et u39 rfl size_29 rfl) ?_
 refine s_gval (g_false2 rfl rfl rfl rfl) rfl (fun hc => y_fieldAddr rfl (ev_gv et hc) u29 rfl size_27 rfl) ?_
 refine s_gval (g_false2 rfl rfl rfl rfl) rfl (fun hc => (y_load1 (v := (vs a1 e1.Lin.L.length c1)) rfl (ev_gv et hc) u27 rfl (hI.kblk (l := [vs a1 e1.Lin.L.length c1]) .z rfl).1)) ?_
 refine s_gval (g_false2 rfl rfl rfl rfl) rfl (fun hc => y_lenl rfl u27 (ev_gv et hc)) ?_
 refine s_gval (g_false2 rfl rfl rfl rfl) rfl (fun hc => y_gtr rfl (ev_gv et hc) ev_const) ?_
 refine s_gval (g_true rfl rfl rfl rfl) rfl (fun hc => y_or2 rfl hc et et) ?_
 refine sq (y_and rfl et et) ?_
 refine sm ?_
 refine s_gval (g_false rfl rfl rfl rfl) rfl (fun hc => y_fieldAddr rfl et u39 rfl size_3 rfl) ?_
 refine s_gval (g_false rfl rfl rfl rfl) rfl (fun hc => (y_load1 (v := (vi e1.Op)) rfl (ev_gv et hc) u3 rfl (hI.kblk (l := [vi e1.Op]) .z rfl).1)) ?_
 refine s_gval (g_false rfl rfl rfl rfl) rfl (fun hc => y_neq rfl (ev_gv et hc) ev_const) ?_
 refine s_gval (g_false rfl rfl rfl rfl) rfl (fun hc => y_move rfl (ev_gv et hc)) ?_
 refine s_gval (g_true2 rfl rfl rfl rfl) rfl (fun hc => y_fieldAddr rfl et u39 rfl size_9 rfl) ?_
 refine s_gval (g_true2 rfl rfl rfl rfl) rfl (fun hc => (y_load1 (v := (str e1.Name)) rfl (ev_gv et hc) u9 rfl (hI.kblk (l := [(str e1.Name)]) .z rfl).1)) ?_
 refine s_gval (g_true2 rfl rfl rfl rfl) rfl (fun hc => y_nes rfl (ev_gv et hc) ev_const) ?_
 refine s_gval (g_true2 rfl rfl rfl rfl) rfl (fun hc => y_move rfl (ev_gv et hc)) ?_
 refine s_gval (g_false2 rfl rfl rfl rfl) rfl (fun hc => y_fieldAddr rfl et u39 rfl size_34 rfl) ?_
 refine s_gval (g_false2 rfl rfl rfl rfl) rfl (fun hc => (y_load1 (v := (vs a2 e1.Idx.length c2)) rfl (ev_gv et hc) u34 rfl (hI.kblk (l := [vs a2 e1.Idx.length c2]) .z rfl).1)) ?_
 refine s_gval (g_false2 rfl rfl rfl rfl) rfl (fun hc => y_lenl rfl u34 (ev_gv et hc)) ?_
 refine s_gval (g_false2 rfl rfl rfl rfl) rfl (fun hc => y_gtr rfl (ev_gv et hc) ev_const) ?_
 refine s_gval (g_true2 rfl rfl rfl rfl) rfl (fun hc => y_or2 rfl hc et et) ?_
 refine s_gval (g_false rfl rfl rfl rfl) rfl (fun hc => y_and2 rfl hc et et) ?_
 refine sq (y_or rfl et et) ?_
 refine s_nil ?_
 refine k_next (e := [(1, vp b1 0), (69, (vb (((!decide (e1.Op = 2)) && ((!decide (e1.Lin.K = 0)) || (decide (0 < (e1.Lin.L.length : Int))))) || ((!decide (e1.Op = 3)) && ((!decide (e1.Name = ([] : List UInt8))) || (decide (0 < (e1.Idx.length : Int))))))))]) ⟨rfl, rfl, trivial⟩ ?_
 refine cif h et (fun hb h => ?_) (fun hb h => ?_)
 ·refine sr (sac ?_)
  refine nk (c_ret ?_)
  obtain rfl := some_inj h
  exact q_ret (vs := [vb false]) Tryz.results107 ⟨ev_tmp rfl rfl, trivial⟩ (fq hI trivial)
 refine c_skip (k_same (c_seq (sr (sac ?_))))
 refine nk (c_block (c_loop (α := Nat × Int) (fun x => fun w => ∃ C, Bun noM F w0 C w [] [Cl.blk b1 39 #[vi e1.Op, (str e1.Name), vi e1.Val.N, vi e1.Val.D, vi e1.Type_.Kind, vi e1.Type_.Bits, vi e1.Type_.Frac, vi e1.Type_.Round, vi e1.Type_.Over, vi e1.Lin.K, vs a1 e1.Lin.L.length c1, vs a2 e1.Idx.length c2, vs a3 e1.Args.length c3], Cl.sl cGMono a1 c1 e1.Lin.L, Cl.sl cGIndex a2 c2 e1.Idx, Cl.sl cGExpr a3 c3 e1.Args] ∧ m_ref14_plain_l1 e1 (x.1) (x.2) = some r) (fun x _ => x.1) (fun x => [(1, vp b1 0), (3, vi (x.2))]) (fu, 0) ⟨_, hI.arr .n ⟨.z, (.s .z), (.s (.s .z)), (.s (.s (.s .z))), trivial⟩, h⟩ ⟨rfl, rfl, trivial⟩ ?_))
 clear h hI; rintro ⟨fuel1, i1⟩ w2 ⟨c6, hI, h⟩
 dsimp only at hI h
 rcases fuel1 with _ | fuel1
 ·rw [m_ref14_plain_l1] at h; cases h
 rw [m_ref14_plain_l1] at h
 refine c_sub (e := [(1, vp b1 0), (3, vi i1)]) ⟨rfl, rfl, trivial⟩ ?_
 refine c_seq (sr (sm ?_))
 refine sq (y_fieldAddr rfl et u39 rfl size_34 rfl) ?_
 refine sq (y_load1 (v := (vs a2 e1.Idx.length c2)) rfl et u34 rfl (hI.kblk (l := [vs a2 e1.Idx.length c2]) .z rfl).1) ?_
 refine sq (y_lenl rfl u34 et) ?_
 refine sq (y_lss rfl et et) ?_
 refine nk (cif h et (fun hb h => ?_) (fun hb h => ?_))
 ·refine c_skip (k_same (c_seq (c_block (sr (sq (y_fieldAddr rfl et u39 rfl size_34 rfl) ?_)))))
  refine sq (y_load1 (v := (vs a2 e1.Idx.length c2)) rfl et u34 rfl (hI.kblk (l := [vs a2 e1.Idx.length c2]) .z rfl).1) ?_
  refine sm ?_
  obtain ⟨e2, hx1, h⟩ := bnd_some h
  obtain ⟨ad1, cs1, hA1, hr1, hq1⟩ := hI.clat (.s (.s .z)) hx1
  obtain ⟨a4, c7, a5, c8, rfl, hf1, hf2⟩ := hr1
  have hI := hI.add (c := Cl.sl cGMono a4 c7 e2.Lin.L) hf1
  have hI := hI.add (c := Cl.sl cGLin a5 c8 e2.At) hf2
  refine sq (y_indexAddr rfl u34 size_32 et et (lat_bd hx1) hA1) ?_
  refine sq (y_loadN (l := [vi e2.Lin.K, vs a4 e2.Lin.L.length c7, (str e2.From), vs a5 e2.At.length c8]) rfl et u32 rfl size_32 hq1.1) ?_
  refine l_alloc (cs := #[vi 0, vs none 0 0, (str ([] : List UInt8)), vs none 0 0]) hI gn rfl rfl zero_32 rfl ?_
  clear hI; intro b2 c9 w3 hI
  refine l_store (new := [vi e2.Lin.K, vs a4 e2.Lin.L.length c7, (str e2.From), vs a5 e2.At.length c8]) (cs' := #[vi e2.Lin.K, vs a4 e2.Lin.L.length c7, (str e2.From), vs a5 e2.At.length c8]) hI .z gn rfl rfl et et rfl size_32 rfl rfl rfl ?_
  clear hI; intro c10 w4 hI
  refine nk (sr (sq (y_fieldAddr rfl et u32 rfl size_9 rfl) ?_))
  refine sq (y_load1 (v := (str e2.From)) rfl et u9 rfl (CellsAt.of_blk (hI.blk .z) rfl)) ?_
  refine sq (y_eqs rfl et ev_const) ?_
  refine sm ?_
  refine s_gval (g_true rfl rfl rfl rfl) rfl (fun hc => y_fieldAddr rfl et u32 rfl size_30 rfl) ?_
  refine s_gval (g_true rfl rfl rfl rfl) rfl (fun hc => (y_load1 (v := (vs a5 e2.At.length c8)) rfl (ev_gv et hc) u30 rfl (CellsAt.of_blk (hI.blk .z) rfl))) ?_
  refine s_gval (g_true rfl rfl rfl rfl) rfl (fun hc => y_lenl rfl u30 (ev_gv et hc)) ?_
  refine s_gval (g_true rfl rfl rfl rfl) rfl (fun hc => y_gtr rfl (ev_gv et hc) ev_const) ?_
  refine sq (y_and rfl et et) ?_
  refine sm ?_
  refine s_gval (g_false rfl rfl rfl rfl) rfl (fun hc => y_fieldAddr rfl et u32 rfl size_9 rfl) ?_
  refine s_gval (g_false rfl rfl rfl rfl) rfl (fun hc => (y_load1 (v := (str e2.From)) rfl (ev_gv et hc) u9 rfl (CellsAt.of_blk (hI.blk .z) rfl))) ?_
  refine s_gval (g_false rfl rfl rfl rfl) rfl (fun hc => y_nes rfl (ev_gv et hc) ev_const) ?_
  refine s_gval (g_false rfl rfl rfl rfl) rfl (fun hc => y_move rfl (ev_gv et hc)) ?_
  refine s_gval (g_true2 rfl rfl rfl rfl) rfl (fun hc => y_fieldAddr rfl et u32 rfl size_29 rfl) ?_
  refine s_gval (g_true2 rfl rfl rfl rfl) rfl (fun hc => y_fieldAddr rfl (ev_gv et hc) u29 rfl size_2 rfl) ?_
  refine s_gval (g_true2 rfl rfl rfl rfl) rfl (fun hc => (y_load1 (v := (vi e2.Lin.K)) rfl (ev_gv et hc) u2 rfl (CellsAt.of_blk (hI.blk .z) rfl))) ?_
  refine s_gval (g_true2 rfl rfl rfl rfl) rfl (fun hc => y_neq rfl (ev_gv et hc) ev_const) ?_
  refine s_gval (g_true2 rfl rfl rfl rfl) rfl (fun hc => y_move rfl (ev_gv et hc)) ?_
  refine s_gval (g_false2 rfl rfl rfl rfl) rfl (fun hc => y_fieldAddr rfl et u32 rfl size_29 rfl) ?_
  refine s_gval (g_false2 rfl rfl rfl rfl) rfl (fun hc => y_fieldAddr rfl (ev_gv et hc) u29 rfl size_27 rfl) ?_
  refine s_gval (g_false2 rfl rfl rfl rfl) rfl (fun hc => (y_load1 (v := (vs a4 e2.Lin.L.length c7)) rfl (ev_gv et hc) u27 rfl (CellsAt.of_blk (hI.blk .z) rfl))) ?_
  refine s_gval (g_false2 rfl rfl rfl rfl) rfl (fun hc => y_lenl rfl u27 (ev_gv et hc)) ?_
  refine s_gval (g_false2 rfl rfl rfl rfl) rfl (fun hc => y_gtr rfl (ev_gv et hc) ev_const) ?_
  refine s_gval (g_true2 rfl rfl rfl rfl) rfl (fun hc => y_or2 rfl hc et et) ?_
  refine s_gval (g_false rfl rfl rfl rfl) rfl (fun hc => y_and2 rfl hc et et) ?_
  refine sq (y_or rfl et et) ?_
  refine s_nil ?_
  refine k_next (e := [(1, vp b1 0), (3, vi i1), (108, (vb (((decide (e2.From = ([] : List UInt8))) && (decide (0 < (e2.At.length : Int)))) || ((!decide (e2.From = ([] : List UInt8))) && ((!decide (e2.Lin.K = 0)) || (decide (0 < (e2.Lin.L.length : Int))))))))]) ⟨rfl, rfl, rfl, trivial⟩ ?_
  refine cif h et (fun hb h => ?_) (fun hb h => ?_)
  ·refine sr (sac ?_)
   refine nk (c_ret ?_)
   obtain rfl := some_inj h
   exact q_ret (vs := [vb false]) Tryz.results107 ⟨ev_tmp rfl rfl, trivial⟩ (fq hI trivial)
  refine c_skip (k_same (c_region rfl ?_))
  refine sm ?_
  refine sq (y_add rfl et ev_const) ?_
  refine sa ?_
  refine s_nil ?_
  exact k_loop (fuel1, wi64 (i1 + 1)) ⟨rfl, rfl, trivial⟩ ⟨_, hI.arr .n ⟨(.s (.s .z)), (.s (.s (.s .z))), (.s (.s (.s (.s .z)))), (.s (.s (.s (.s (.s .z))))), trivial⟩, h⟩ (Nat.lt_succ_self _)
 refine c_exit ?_
 refine k_in ?_
 refine k_same (sr (sac ?_))
 refine nk (c_ret ?_)
 obtain rfl := some_inj h
 exact q_ret (vs := [vb true]) Tryz.results107 ⟨ev_tmp rfl rfl, trivial⟩ (fq hI trivial)
theorem c_ref14_named (F : NP) (w0 : World) (hF : ∀ k, F k → k < w0.heap.size) (e1 : GExpr) (a1 : Option Addr) (c1 : Nat) (a2 : Option Addr) (c2 : Nat) (a3 : Option Addr) (c3 : Nat) (hc : AllCl [Cl.sl cGMono a1 c1 e1.Lin.L, Cl.sl cGIndex a2 c2 e1.Idx, Cl.sl cGExpr a3 c3 e1.Args] F w0) (r : Bool)
  (h : m_ref14_named e1 = some r) :
  Calls Tryz.prog 108 #[(Value.agg #[vi e1.Op, (str e1.Name), vi e1.Val.N, vi e1.Val.D, vi e1.Type_.Kind, vi e1.Type_.Bits, vi e1.Type_.Frac, vi e1.Type_.Round, vi e1.Type_.Over, vi e1.Lin.K, vs a1 e1.Lin.L.length c1, vs a2 e1.Idx.length c2, vs a3 e1.Args.length c3])] w0 fun e w => e = .returned (vb r) ∧ Ext w0 w ∧ AllCl [] F w := by
 refine enterK Tryz.func108 rfl Tryz.ntmps108 rfl ?_
 have hI := Bun.start hF hc
 clear hc
 rw [m_ref14_named] at h
 refine sr (l_box (v := (Value.agg #[vi e1.Op, (str e1.Name), vi e1.Val.N, vi e1.Val.D, vi e1.Type_.Kind, vi e1.Type_.Bits, vi e1.Type_.Frac, vi e1.Type_.Round, vi e1.Type_.Over, vi e1.Lin.K, vs a1 e1.Lin.L.length c1, vs a2 e1.Idx.length c2, vs a3 e1.Args.length c3])) (cs := #[vi e1.Op, (str e1.Name), vi e1.Val.N, vi e1.Val.D, vi e1.Type_.Kind, vi e1.Type_.Bits, vi e1.Type_.Frac, vi e1.Type_.Round, vi e1.Type_.Over, vi e1.Lin.K, vs a1 e1.Lin.L.length c1, vs a2 e1.Idx.length c2, vs a3 e1.Args.length c3]) hI gn rfl rfl et rfl ?_)
 clear hI; intro b1 c4 w1 hI
 obtain ⟨c5, hI⟩ := hI.relBox .z
 refine sac ?_
 refine nk (c_seq (sr (sq (y_fieldAddr rfl et u39 rfl size_3 rfl) ?_)))
 refine sq (y_load1 (v := (vi e1.Op)) rfl et u3 rfl (hI.kblk (l := [vi e1.Op]) .z rfl).1) ?_
 refine sq (y_eql rfl et ev_const) ?_
 refine sm ?_
 refine s_gval (g_true rfl rfl rfl rfl) rfl (fun hc => y_fieldAddr rfl et u39 rfl size_9 rfl) ?_
 refine s_gval (g_true rfl rfl rfl rfl) rfl (fun hc => (y_load1 (v := (str e1.Name)) rfl (ev_gv et hc) u9 rfl (hI.kblk (l := [(str e1.Name)]) .z rfl).1)) ?_
 obtain ⟨r1, hx1, h⟩ := bnd_some h
 replace hx1 := gd_some hx1
 refine s_gcallU (v := (vb r1)) (g_true rfl rfl rfl rfl) rfl (fun hc => (r_callF (vs := [(str e1.Name)]) rfl ok_43 ⟨(ev_gv et hc), trivial⟩)) (fun hc => (c_base_Name (Dj F c5) w1 hI.lt e1.Name trivial r1 (hx1 hc)).mono fun _ _ k => ⟨k.1, k.2.1⟩) ?_
 intro w2 hx2; replace hI := hI.ext hx2
 refine s_gval (g_true rfl rfl rfl rfl) rfl (fun hc => y_not rfl (ev_gv et hc)) ?_
 refine sq (y_and rfl et et) ?_
 refine nk (cif h et (fun hb h => ?_) (fun hb h => ?_))
 ·refine sr (sac ?_)
  refine nk (c_ret ?_)
  obtain rfl := some_inj h
  exact q_ret (vs := [vb false]) Tryz.results108 ⟨ev_tmp rfl rfl, trivial⟩ (fq hI trivial)
 refine c_skip (k_same (c_seq (sr (sac ?_))))
 refine nk (c_block (c_loop (α := Nat × Int) (fun x => fun w => ∃ C, Bun noM F w0 C w [] [Cl.blk b1 39 #[vi e1.Op, (str e1.Name), vi e1.Val.N, vi e1.Val.D, vi e1.Type_.Kind, vi e1.Type_.Bits, vi e1.Type_.Frac, vi e1.Type_.Round, vi e1.Type_.Over, vi e1.Lin.K, vs a1 e1.Lin.L.length c1, vs a2 e1.Idx.length c2, vs a3 e1.Args.length c3], Cl.sl cGMono a1 c1 e1.Lin.L, Cl.sl cGIndex a2 c2 e1.Idx, Cl.sl cGExpr a3 c3 e1.Args] ∧ m_ref14_named_l1 e1 (x.1) (x.2) = some r) (fun x _ => x.1) (fun x => [(1, vp b1 0), (3, vi (x.2))]) (fu, 0) ⟨_, hI.arr .n ⟨.z, (.s .z), (.s (.s .z)), (.s (.s (.s .z))), trivial⟩, h⟩ ⟨rfl, rfl, trivial⟩ ?_))
 clear h hI; rintro ⟨fuel1, i1⟩ w3 ⟨c6, hI, h⟩
 dsimp only at hI h
 rcases fuel1 with _ | fuel1
 ·rw [m_ref14_named_l1] at h; cases h
 rw [m_ref14_named_l1] at h
 refine c_sub (e := [(1, vp b1 0), (3, vi i1)]) ⟨rfl, rfl, trivial⟩ ?_
 refine c_seq (sr (sm ?_))
 refine sq (y_fieldAddr rfl et u39 rfl size_34 rfl) ?_
 refine sq (y_load1 (v := (vs a2 e1.Idx.length c2)) rfl et u34 rfl (hI.kblk (l := [vs a2 e1.Idx.length c2]) .z rfl).1) ?_
 refine sq (y_lenl rfl u34 et) ?_
 refine sq (y_lss rfl et et) ?_
 refine nk (cif h et (fun hb h => ?_) (fun hb h => ?_))
 ·refine c_skip (k_same (c_seq (c_block (sr (sq (y_fieldAddr rfl et u39 rfl size_34 rfl) ?_)))))
  refine sq (y_load1 (v := (vs a2 e1.Idx.length c2)) rfl et u34 rfl (hI.kblk (l := [vs a2 e1.Idx.length c2]) .z rfl).1) ?_
  refine sm ?_
  obtain ⟨e2, hx3, h⟩ := bnd_some h
  obtain ⟨ad1, cs1, hA1, hr1, hq1⟩ := hI.clat (.s (.s .z)) hx3
  obtain ⟨a4, c7, a5, c8, rfl, hf1, hf2⟩ := hr1
  have hI := hI.add (c := Cl.sl cGMono a4 c7 e2.Lin.L) hf1
  have hI := hI.add (c := Cl.sl cGLin a5 c8 e2.At) hf2
  refine sq (y_indexAddr rfl u34 size_32 et et (lat_bd hx3) hA1) ?_
  refine sq (y_fieldAddr rfl et u32 rfl size_9 rfl) ?_
  refine sq (y_load1 (v := (str e2.From)) rfl et u9 rfl (CA.part hq1 rfl).1) ?_
  refine sq (y_nes rfl et ev_const) ?_
  refine sm ?_
  refine s_gval (g_true rfl rfl rfl rfl) rfl (fun hc => y_fieldAddr rfl et u39 rfl size_34 rfl) ?_
  refine s_gval (g_true rfl rfl rfl rfl) rfl (fun hc => (y_load1 (v := (vs a2 e1.Idx.length c2)) rfl (ev_gv et hc) u34 rfl (hI.kblk (l := [vs a2 e1.Idx.length c2]) (.s (.s .z)) rfl).1)) ?_
  refine s_gval (g_true rfl rfl rfl rfl) rfl (fun hc => y_move rfl et) ?_
  obtain ⟨e3, hx4, h⟩ := bnd_some h
  replace hx4 := gd_some hx4
  obtain ⟨ad2, cs2, hq2⟩ := hI.gclat (.s (.s (.s (.s .z)))) hx4
  obtain ⟨a6, c9, a7, c10, hq3⟩ : ∃ (a6 : Option Addr) (c9 : Nat) (a7 : Option Addr) (c10 : Nat), (!decide (e2.From = ([] : List UInt8))) = true → (a2 = some ad2 ∧ cs2 = [vi e3.Lin.K, vs a6 e3.Lin.L.length c9, (str e3.From), vs a7 e3.At.length c10] ∧ CA (Dj F c6) w3 (ad2.add (Int.toNat i1 * 4)) cs2 ∧ SlC cGMono (Dj F c6) w3 a6 c9 e3.Lin.L ∧ SlC cGLin (Dj F c6) w3 a7 c10 e3.At) := by
   by_cases hc : (!decide (e2.From = ([] : List UInt8))) = true
   ·obtain ⟨k1, k2, k3⟩ := hq2 hc; obtain ⟨a6, c9, a7, c10, rfl, hf3, hf4⟩ := k2; exact ⟨a6, c9, a7, c10, fun _ => ⟨k1, rfl, k3, hf3, hf4⟩⟩
   exact ⟨default, default, default, default, fun k => absurd k hc⟩
  clear hq2
  have hI := hI.add (c := Cl.gsl (!decide (e2.From = ([] : List UInt8))) cGMono a6 c9 e3.Lin.L) (fun hc => (hq3 hc).2.2.2.1)
  have hI := hI.add (c := Cl.gsl (!decide (e2.From = ([] : List UInt8))) cGLin a7 c10 e3.At) (fun hc => (hq3 hc).2.2.2.2)
  have hq4 : (!decide (e2.From = ([] : List UInt8))) = true → CA (Dj F c6) w3 (ad2.add (Int.toNat i1 * 4)) [vi e3.Lin.K, vs a6 e3.Lin.L.length c9, (str e3.From), vs a7 e3.At.length c10] := fun hc => by have k := hq3 hc; have e : cs2 = _ := k.2.1; rw [← e]; exact k.2.2.1
  refine s_gval (g_true rfl rfl rfl rfl) rfl (fun hc => (y_indexAddr rfl u34 size_32 (ev_gv et hc) (ev_gv et hc) (lat_bd (hx4 hc)) (hq3 hc).1)) ?_
  refine s_gval (g_true rfl rfl rfl rfl) rfl (fun hc => y_fieldAddr rfl (ev_gv et hc) u32 rfl size_9 rfl) ?_
  refine s_gval (g_true rfl rfl rfl rfl) rfl (fun hc => (y_load1 (v := (str e3.From)) rfl (ev_gv et hc) u9 rfl (CA.part (hq4 hc) rfl).1)) ?_
  obtain ⟨r2, hx5, h⟩ := bnd_some h
  replace hx5 := gd_some hx5
  refine s_gcallU (v := (vb r2)) (g_true rfl rfl rfl rfl) rfl (fun hc => (r_callF (vs := [(str e3.From)]) rfl ok_43 ⟨(ev_gv et hc), trivial⟩)) (fun hc => (c_base_Name (Dj F c6) w3 hI.lt e3.From trivial r2 (hx5 hc)).mono fun _ _ k => ⟨k.1, k.2.1⟩) ?_
  intro w4 hx6; replace hI := hI.ext hx6
  refine s_gval (g_true rfl rfl rfl rfl) rfl (fun hc => y_not rfl (ev_gv et hc)) ?_
  refine sq (y_and rfl et et) ?_
  refine nk (cif h et (fun hb h => ?_) (fun hb h => ?_))
  ·refine sr (sac ?_)
   refine s_nil ?_
   refine k_next (e := [(2, vb false)]) ⟨rfl, trivial⟩ ?_
   refine c_ret ?_
   obtain rfl := some_inj h
   exact q_ret (vs := [vb false]) Tryz.results108 ⟨ev_tmp rfl rfl, trivial⟩ (fq hI trivial)
  refine c_skip (k_same (c_region rfl ?_))
  refine sm ?_
  refine sq (y_add rfl et ev_const) ?_
  refine sa ?_
  refine s_nil ?_
  exact k_loop (fuel1, wi64 (i1 + 1)) ⟨rfl, rfl, trivial⟩ ⟨_, hI.arr .n ⟨(.s (.s (.s (.s .z)))), (.s (.s (.s (.s (.s .z))))), (.s (.s (.s (.s (.s (.s .z)))))), (.s (.s (.s (.s (.s (.s (.s .z))))))), trivial⟩, h⟩ (Nat.lt_succ_self _)
 refine c_exit ?_
 refine k_in ?_
 refine k_same (sr (sac ?_))
 refine nk (c_ret ?_)
 obtain rfl := some_inj h
 exact q_ret (vs := [vb true]) Tryz.results108 ⟨ev_tmp rfl rfl, trivial⟩ (fq hI trivial)
theorem c_ref14_args (F : NP) (w0 : World) (hF : ∀ k, F k → k < w0.heap.size) (op1 : Int) (hc : AllCl [] F w0) (r : Int)
  (h : m_ref14_args op1 = some r) :
  Calls Tryz.prog 139 #[vi op1] w0 fun e w => e = .returned (vi r) ∧ Ext w0 w ∧ AllCl [] F w := by
 refine enterK Tryz.func139 rfl Tryz.ntmps139 rfl ?_
 have hI := Bun.start hF hc
 clear hc
 rw [m_ref14_args] at h
 refine sr (sac ?_)
 refine nk (c_seq (sr (sm ?_)))
 refine nk (c_block (c_join (α := Bool) (fun _ => ⟨14, []⟩) (fun x => [(3, vi op1), (4, vb x)]) (fun x => fun w => ∃ C, Bun noM F w0 C w [] [] ∧ m_ref14_args_j1 op1 x = some r) ?_ ?_))
 ·clear h hI; rintro i1 w1 ⟨c1, hI, h⟩
  try dsimp only at hI h
  rw [m_ref14_args_j1] at h
  refine c_sub (e := [(3, vi op1), (4, vb i1)]) ⟨rfl, rfl, trivial⟩ ?_
  refine cif h et (fun hb h => ?_) (fun hb h => ?_)
  ·refine sr (sac ?_)
   refine nk (c_ret ?_)
   obtain rfl := some_inj h
   exact q_ret (vs := [vi 0]) Tryz.results139 ⟨ev_tmp rfl rfl, trivial⟩ (fq hI trivial)
  refine c_join (α := Bool) (fun _ => ⟨14, []⟩) (fun x => [(3, vi op1), (8, vb x)]) (fun x => fun w => ∃ C, Bun noM F w0 C w [] [] ∧ m_ref14_args_j2 op1 x = some r) ?_ ?_
  ·clear h hI; rintro i2 w2 ⟨c2, hI, h⟩
   try dsimp only at hI h
   rw [m_ref14_args_j2] at h
   refine c_sub (e := [(3, vi op1), (8, vb i2)]) ⟨rfl, rfl, trivial⟩ ?_
   refine cif h et (fun hb h => ?_) (fun hb h => ?_)
   ·refine sr (sac ?_)
    refine nk (c_ret ?_)
    obtain rfl := some_inj h
    exact q_ret (vs := [vi 1]) Tryz.results139 ⟨ev_tmp rfl rfl, trivial⟩ (fq hI trivial)
   refine sr (sq (y_eql rfl et ev_const) ?_)
   refine sa ?_
   refine nk (cif h et (fun hb h => ?_) (fun hb h => ?_))
   ·refine sr (sac ?_)
    refine nk (c_ret ?_)
    obtain rfl := some_inj h
    exact q_ret (vs := [vi 3]) Tryz.results139 ⟨ev_tmp rfl rfl, trivial⟩ (fq hI trivial)
   refine c_skip (k_same (sr (sac ?_)))
   refine nk (c_ret ?_)
   obtain rfl := some_inj h
   exact q_ret (vs := [vi 2]) Tryz.results139 ⟨ev_tmp rfl rfl, trivial⟩ (fq hI trivial)
  refine sr (sq (y_eql rfl et ev_const) ?_)
  refine sa ?_
  refine nk (cif h et (fun hb h => ?_) (fun hb h => ?_))
  ·exact c_skip (k_join (decide (op1 = 8)) ⟨rfl, rfl, trivial⟩ ⟨_, hI.arr .n trivial, h⟩ rfl)
  refine sr (sq (y_eql rfl et ev_const) ?_)
  refine sa ?_
  refine nk (cif h et (fun hb h => ?_) (fun hb h => ?_))
  ·exact c_skip (k_join (decide (op1 = 12)) ⟨rfl, rfl, trivial⟩ ⟨_, hI.arr .n trivial, h⟩ rfl)
  refine c_region rfl ?_
  refine sq (y_eql rfl et ev_const) ?_
  refine sa ?_
  refine s_nil ?_
  exact k_join (decide (op1 = 18)) ⟨rfl, rfl, trivial⟩ ⟨_, hI.arr .n trivial, h⟩ rfl
 refine sr (sq (y_eql rfl et ev_const) ?_)
 refine sa ?_
 refine nk (cif h et (fun hb h => ?_) (fun hb h => ?_))
 ·exact c_skip (k_join (decide (op1 = 1)) ⟨rfl, rfl, trivial⟩ ⟨_, hI.arr .n trivial, h⟩ rfl)
 refine sr (sq (y_eql rfl et ev_const) ?_)
 refine sa ?_
 refine nk (cif h et (fun hb h => ?_) (fun hb h => ?_))
 ·exact c_skip (k_join (decide (op1 = 2)) ⟨rfl, rfl, trivial⟩ ⟨_, hI.arr .n trivial, h⟩ rfl)
 refine c_region rfl ?_
 refine sq (y_eql rfl et ev_const) ?_
 refine sa ?_
 refine s_nil ?_
 exact k_join (decide (op1 = 3)) ⟨rfl, rfl, trivial⟩ ⟨_, hI.arr .n trivial, h⟩ rfl
theorem c_ref14_ranked (F : NP) (w0 : World) (hF : ∀ k, F k → k < w0.heap.size) (e1 : GExpr) (a1 : Option Addr) (c1 : Nat) (a2 : Option Addr) (c2 : Nat) (a3 : Option Addr) (c3 : Nat) (hc : AllCl [Cl.sl cGMono a1 c1 e1.Lin.L, Cl.sl cGIndex a2 c2 e1.Idx, Cl.sl cGExpr a3 c3 e1.Args] F w0) (r : Bool)
  (h : m_ref14_ranked e1 = some r) :
  Calls Tryz.prog 109 #[(Value.agg #[vi e1.Op, (str e1.Name), vi e1.Val.N, vi e1.Val.D, vi e1.Type_.Kind, vi e1.Type_.Bits, vi e1.Type_.Frac, vi e1.Type_.Round, vi e1.Type_.Over, vi e1.Lin.K, vs a1 e1.Lin.L.length c1, vs a2 e1.Idx.length c2, vs a3 e1.Args.length c3])] w0 fun e w => e = .returned (vb r) ∧ Ext w0 w ∧ AllCl [] F w := by
 refine enterK Tryz.func109 rfl Tryz.ntmps109 rfl ?_
 have hI := Bun.start hF hc
 clear hc
 rw [m_ref14_ranked] at h
 refine sr (l_box (v := (Value.agg #[vi e1.Op, (str e1.Name), vi e1.Val.N, vi e1.Val.D, vi e1.Type_.Kind, vi e1.Type_.Bits, vi e1.Type_.Frac, vi e1.Type_.Round, vi e1.Type_.Over, vi e1.Lin.K, vs a1 e1.Lin.L.length c1, vs a2 e1.Idx.length c2, vs a3 e1.Args.length c3])) (cs := #[vi e1.Op, (str e1.Name), vi e1.Val.N, vi e1.Val.D, vi e1.Type_.Kind, vi e1.Type_.Bits, vi e1.Type_.Frac, vi e1.Type_.Round, vi e1.Type_.Over, vi e1.Lin.K, vs a1 e1.Lin.L.length c1, vs a2 e1.Idx.length c2, vs a3 e1.Args.length c3]) hI gn rfl rfl et rfl ?_)
 clear hI; intro b1 c4 w1 hI
 obtain ⟨c5, hI⟩ := hI.relBox .z
 refine sac ?_
 refine nk (c_seq (c_seq (c_drawX [] false (.c (0, .q) (.c (1, .q) (.c (2, .q) (.c (3, .q) (.c (4, .q) (.c (5, .s) (.c (6, .q) (.c (7, .q) (.c (8, .q) (.c (9, .q) (.c (10, .q) (.c (11, .q) (.c (12, .q) .n))))))))))))) hI (by kernel_rfl) (by kernel_rfl) ?_)))
 clear hI; intro w2 hI
 refine a_q rfl gn rfl (fun w' => y_fieldAddr rfl et u39 rfl size_37 rfl) ?_
 refine a_read rfl gn rfl (fun w' hw' => (y_load1 (v := (vs a3 e1.Args.length c3)) rfl et u37 rfl ((hI.kblk (l := [vs a3 e1.Args.length c3]) .z rfl).at_ (SX.any rfl hw')))) (by kernel_rfl) ?_
 refine a_q rfl gn rfl (fun w' => y_lenl rfl u37 et) ?_
 refine a_q rfl gn rfl (fun w' => y_fieldAddr rfl et u39 rfl size_3 rfl) ?_
 refine a_read rfl gn rfl (fun w' hw' => (y_load1 (v := (vi e1.Op)) rfl et u3 rfl ((hI.kblk (l := [vi e1.Op]) .z rfl).at_ (SX.any rfl hw')))) (by kernel_rfl) ?_
 obtain ⟨r1, hx1, h⟩ := bnd_some h
 refine la_call rfl gn rfl (r_callF (vs := [vi e1.Op]) rfl ok_139 ⟨et, trivial⟩) (Calls.mono (c_ref14_args (Dj F c5) w2 hI.lt e1.Op trivial r1 hx1) ?_)
 rintro _ w3 ⟨rfl, hx2, hl1⟩
 refine ⟨_, rfl, hx2, ?_⟩
 replace hI := (hI.ext hx2)
 refine a_q rfl gn rfl (fun w' => y_neq rfl et et) ?_
 refine a_q rfl gn rfl (fun w' => y_move rfl et) ?_
 refine a_gval rfl (g_false rfl rfl rfl rfl) rfl (fun hc => fun w' => (y_fieldAddr rfl et u39 rfl size_34 rfl)) ?_
 refine a_gread rfl (g_false rfl rfl rfl rfl) rfl (fun hc => fun w' hw' => (y_load1 (v := (vs a2 e1.Idx.length c2)) rfl (ev_gv et hc) u34 rfl ((hI.kblk (l := [vs a2 e1.Idx.length c2]) .z rfl).at_ (SX.any rfl hw')))) (by kernel_rfl) ?_
 refine a_gval rfl (g_false rfl rfl rfl rfl) rfl (fun hc => fun w' => (y_lenl rfl u34 (ev_gv et hc))) ?_
 refine a_gval rfl (g_false rfl rfl rfl rfl) rfl (fun hc => fun w' => (y_gtr rfl (ev_gv et hc) ev_const)) ?_
 refine a_q rfl gn rfl (fun w' => y_or rfl et et) ?_
 refine a_nil ?_
 refine k_same (cif h et (fun hb h => ?_) (fun hb h => ?_))
 ·refine sr (sac ?_)
  refine nk (c_ret ?_)
  obtain rfl := some_inj h
  exact q_ret (vs := [vb false]) Tryz.results109 ⟨ev_tmp rfl rfl, trivial⟩ (fq hI trivial)
 refine c_skip (k_same (c_seq (sr (sac ?_))))
 refine nk (c_block (c_loop (α := Nat × Int) (fun x => fun w => ∃ C, Bun noM F w0 C w [] [Cl.blk b1 39 #[vi e1.Op, (str e1.Name), vi e1.Val.N, vi e1.Val.D, vi e1.Type_.Kind, vi e1.Type_.Bits, vi e1.Type_.Frac, vi e1.Type_.Round, vi e1.Type_.Over, vi e1.Lin.K, vs a1 e1.Lin.L.length c1, vs a2 e1.Idx.length c2, vs a3 e1.Args.length c3], Cl.sl cGMono a1 c1 e1.Lin.L, Cl.sl cGIndex a2 c2 e1.Idx, Cl.sl cGExpr a3 c3 e1.Args] ∧ m_ref14_ranked_l1 e1 (x.1) (x.2) = some r) (fun x _ => x.1) (fun x => [(1, vp b1 0), (3, vi (x.2))]) (fu, 0) ⟨_, hI.arr .n ⟨.z, (.s .z), (.s (.s .z)), (.s (.s (.s .z))), trivial⟩, h⟩ ⟨rfl, rfl, trivial⟩ ?_))
 clear h hI; rintro ⟨fuel1, i1⟩ w4 ⟨c6, hI, h⟩
 dsimp only at hI h
 rcases fuel1 with _ | fuel1
 ·rw [m_ref14_ranked_l1] at h; cases h
 rw [m_ref14_ranked_l1] at h
 refine c_sub (e := [(1, vp b1 0), (3, vi i1)]) ⟨rfl, rfl, trivial⟩ ?_
 refine c_seq (sr (sm ?_))
 refine sq (y_fieldAddr rfl et u39 rfl size_34 rfl) ?_
 refine sq (y_load1 (v := (vs a2 e1.Idx.length c2)) rfl et u34 rfl (hI.kblk (l := [vs a2 e1.Idx.length c2]) .z rfl).1) ?_
 refine sq (y_lenl rfl u34 et) ?_
 refine sq (y_lss rfl et et) ?_
 refine nk (cif h et (fun hb h => ?_) (fun hb h => ?_))
 ·refine c_skip (k_same (c_seq (c_block (sr (sq (y_fieldAddr rfl et u39 rfl size_34 rfl) ?_)))))
  refine sq (y_load1 (v := (vs a2 e1.Idx.length c2)) rfl et u34 rfl (hI.kblk (l := [vs a2 e1.Idx.length c2]) .z rfl).1) ?_
  refine sm ?_
  obtain ⟨e2, hx3, h⟩ := bnd_some h
  obtain ⟨ad1, cs1, hA1, hr1, hq1⟩ := hI.clat (.s (.s .z)) hx3
  obtain ⟨a4, c7, a5, c8, rfl, hf1, hf2⟩ := hr1
  have hI := hI.add (c := Cl.sl cGMono a4 c7 e2.Lin.L) hf1
  have hI := hI.add (c := Cl.sl cGLin a5 c8 e2.At) hf2
  refine sq (y_indexAddr rfl u34 size_32 et et (lat_bd hx3) hA1) ?_
  refine sq (y_fieldAddr rfl et u32 rfl size_30 rfl) ?_
  refine sq (y_load1 (v := (vs a5 e2.At.length c8)) rfl et u30 rfl (CA.part hq1 rfl).1) ?_
  refine sq (y_lenl rfl u30 et) ?_
  refine sq (y_gtr rfl et ev_const) ?_
  refine nk (cif h et (fun hb h => ?_) (fun hb h => ?_))
  ·refine sr (sac ?_)
   refine nk (c_ret ?_)
   obtain rfl := some_inj h
   exact q_ret (vs := [vb false]) Tryz.results109 ⟨ev_tmp rfl rfl, trivial⟩ (fq hI trivial)
  refine c_skip (k_same (c_region rfl ?_))
  refine sm ?_
  refine sq (y_add rfl et ev_const) ?_
  refine sa ?_
  refine s_nil ?_
  exact k_loop (fuel1, wi64 (i1 + 1)) ⟨rfl, rfl, trivial⟩ ⟨_, hI.arr .n ⟨(.s (.s .z)), (.s (.s (.s .z))), (.s (.s (.s (.s .z)))), (.s (.s (.s (.s (.s .z))))), trivial⟩, h⟩ (Nat.lt_succ_self _)
 refine c_exit ?_
 refine k_in ?_
 refine k_same (sr (sac ?_))
 refine nk (c_ret ?_)
 obtain rfl := some_inj h
 exact q_ret (vs := [vb true]) Tryz.results109 ⟨ev_tmp rfl rfl, trivial⟩ (fq hI trivial)
theorem c_ref14_IsCondition (F : NP) (w0 : World) (hF : ∀ k, F k → k < w0.heap.size) (e1 : GExpr) (a1 : Option Addr) (c1 : Nat) (a2 : Option Addr) (c2 : Nat) (a3 : Option Addr) (c3 : Nat) (hc : AllCl [Cl.sl cGMono a1 c1 e1.Lin.L, Cl.sl cGIndex a2 c2 e1.Idx, Cl.sl cGExpr a3 c3 e1.Args] F w0) (r : Bool)
  (h : m_ref14_IsCondition e1 = some r) :
  Calls Tryz.prog 140 #[(Value.agg #[vi e1.Op, (str e1.Name), vi e1.Val.N, vi e1.Val.D, vi e1.Type_.Kind, vi e1.Type_.Bits, vi e1.Type_.Frac, vi e1.Type_.Round, vi e1.Type_.Over, vi e1.Lin.K, vs a1 e1.Lin.L.length c1, vs a2 e1.Idx.length c2, vs a3 e1.Args.length c3])] w0 fun e w => e = .returned (vb r) ∧ Ext w0 w ∧ AllCl [] F w := by
 refine enterK Tryz.func140 rfl Tryz.ntmps140 rfl ?_
 have hI := Bun.start hF hc
 clear hc
 rw [m_ref14_IsCondition] at h
 refine sr (l_box (v := (Value.agg #[vi e1.Op, (str e1.Name), vi e1.Val.N, vi e1.Val.D, vi e1.Type_.Kind, vi e1.Type_.Bits, vi e1.Type_.Frac, vi e1.Type_.Round, vi e1.Type_.Over, vi e1.Lin.K, vs a1 e1.Lin.L.length c1, vs a2 e1.Idx.length c2, vs a3 e1.Args.length c3])) (cs := #[vi e1.Op, (str e1.Name), vi e1.Val.N, vi e1.Val.D, vi e1.Type_.Kind, vi e1.Type_.Bits, vi e1.Type_.Frac, vi e1.Type_.Round, vi e1.Type_.Over, vi e1.Lin.K, vs a1 e1.Lin.L.length c1, vs a2 e1.Idx.length c2, vs a3 e1.Args.length c3]) hI gn rfl rfl et rfl ?_)
 clear hI; intro b1 c4 w1 hI
 obtain ⟨c5, hI⟩ := hI.relBox .z
 refine sac ?_
 refine nk (sr (sq (y_fieldAddr rfl et u39 rfl size_3 rfl) ?_))
 refine sq (y_load1 (v := (vi e1.Op)) rfl et u3 rfl (hI.kblk (l := [vi e1.Op]) .z rfl).1) ?_
 refine sq (y_geq rfl et ev_const) ?_
 refine sm ?_
 refine s_gval (g_true rfl rfl rfl rfl) rfl (fun hc => y_fieldAddr rfl et u39 rfl size_3 rfl) ?_
 refine s_gval (g_true rfl rfl rfl rfl) rfl (fun hc => (y_load1 (v := (vi e1.Op)) rfl (ev_gv et hc) u3 rfl (hI.kblk (l := [vi e1.Op]) .z rfl).1)) ?_
 refine s_gval (g_true rfl rfl rfl rfl) rfl (fun hc => y_leq rfl (ev_gv et hc) ev_const) ?_
 refine sq (y_and rfl et et) ?_
 refine sa ?_
 refine nk (c_ret ?_)
 obtain rfl := some_inj h
 exact q_ret (vs := [(vb ((decide (13 ≤ e1.Op)) && (decide (e1.Op ≤ 18))))]) Tryz.results140 ⟨ev_tmp rfl rfl, trivial⟩ (fq hI trivial)
theorem c_ref14_wants (F : NP) (w0 : World) (hF : ∀ k, F k → k < w0.heap.size) (op1 : Int) (at1 : Int) (hc : AllCl [] F w0) (r : Bool)
  (h : m_ref14_wants op1 at1 = some r) :
  Calls Tryz.prog 141 #[vi op1, vi at1] w0 fun e w => e = .returned (vb r) ∧ Ext w0 w ∧ AllCl [] F w := by
 refine enterK Tryz.func141 rfl Tryz.ntmps141 rfl ?_
 have hI := Bun.start hF hc
 clear hc
 rw [m_ref14_wants] at h
 refine sr (sac ?_)
 refine nk (sr (sm ?_))
 refine sq (y_eql rfl et ev_const) ?_
 refine sm ?_
 refine s_gval (g_true rfl rfl rfl rfl) rfl (fun hc => y_move rfl et) ?_
 refine s_gval (g_true rfl rfl rfl rfl) rfl (fun hc => y_eql rfl (ev_gv et hc) ev_const) ?_
 refine sq (y_and rfl et et) ?_
 refine sm ?_
 refine s_gval (g_false rfl rfl rfl rfl) rfl (fun hc => y_move rfl et) ?_
 refine s_gval (g_false rfl rfl rfl rfl) rfl (fun hc => y_eql rfl (ev_gv et hc) ev_const) ?_
 refine sq (y_or rfl et et) ?_
 refine sm ?_
 refine s_gval (g_false rfl rfl rfl rfl) rfl (fun hc => y_move rfl et) ?_
 refine s_gval (g_false rfl rfl rfl rfl) rfl (fun hc => y_eql rfl (ev_gv et hc) ev_const) ?_
 refine sq (y_or rfl et et) ?_
 refine sm ?_
 refine s_gval (g_false rfl rfl rfl rfl) rfl (fun hc => y_move rfl et) ?_
 refine s_gval (g_false rfl rfl rfl rfl) rfl (fun hc => y_eql rfl (ev_gv et hc) ev_const) ?_
 refine sq (y_or rfl et et) ?_
 refine sa ?_
 refine nk (c_ret ?_)
 obtain rfl := some_inj h
 exact q_ret (vs := [(vb (((((decide (op1 = 11)) && (decide (at1 = 0))) || (decide (op1 = 16))) || (decide (op1 = 17))) || (decide (op1 = 18))))]) Tryz.results141 ⟨ev_tmp rfl rfl, trivial⟩ (fq hI trivial)
theorem c_ref14_typed (F : NP) (w0 : World) (hF : ∀ k, F k → k < w0.heap.size) (e1 : GExpr) (a1 : Option Addr) (c1 : Nat) (a2 : Option Addr) (c2 : Nat) (a3 : Option Addr) (c3 : Nat) (hc : AllCl [Cl.sl cGMono a1 c1 e1.Lin.L, Cl.sl cGIndex a2 c2 e1.Idx, Cl.sl cGExpr a3 c3 e1.Args] F w0) (r : Bool)
  (h : m_ref14_typed e1 = some r) :
  Calls Tryz.prog 110 #[(Value.agg #[vi e1.Op, (str e1.Name), vi e1.Val.N, vi e1.Val.D, vi e1.Type_.Kind, vi e1.Type_.Bits, vi e1.Type_.Frac, vi e1.Type_.Round, vi e1.Type_.Over, vi e1.Lin.K, vs a1 e1.Lin.L.length c1, vs a2 e1.Idx.length c2, vs a3 e1.Args.length c3])] w0 fun e w => e = .returned (vb r) ∧ Ext w0 w ∧ AllCl [] F w := by
 refine enterK Tryz.func110 rfl Tryz.ntmps110 rfl ?_
 have hI := Bun.start hF hc
 clear hc
 rw [m_ref14_typed] at h
 refine sr (l_box (v := (Value.agg #[vi e1.Op, (str e1.Name), vi e1.Val.N, vi e1.Val.D, vi e1.Type_.Kind, vi e1.Type_.Bits, vi e1.Type_.Frac, vi e1.Type_.Round, vi e1.Type_.Over, vi e1.Lin.K, vs a1 e1.Lin.L.length c1, vs a2 e1.Idx.length c2, vs a3 e1.Args.length c3])) (cs := #[vi e1.Op, (str e1.Name), vi e1.Val.N, vi e1.Val.D, vi e1.Type_.Kind, vi e1.Type_.Bits, vi e1.Type_.Frac, vi e1.Type_.Round, vi e1.Type_.Over, vi e1.Lin.K, vs a1 e1.Lin.L.length c1, vs a2 e1.Idx.length c2, vs a3 e1.Args.length c3]) hI gn rfl rfl et rfl ?_)
 clear hI; intro b1 c4 w1 hI
 obtain ⟨c5, hI⟩ := hI.relBox .z
 refine sac ?_
 refine nk (c_seq (sr (sq (y_fieldAddr rfl et u39 rfl size_3 rfl) ?_)))
 refine sq (y_load1 (v := (vi e1.Op)) rfl et u3 rfl (hI.kblk (l := [vi e1.Op]) .z rfl).1) ?_
 refine sq (y_eql rfl et ev_const) ?_
 refine sm ?_
 refine s_gval (g_false rfl rfl rfl rfl) rfl (fun hc => y_fieldAddr rfl et u39 rfl size_3 rfl) ?_
 refine s_gval (g_false rfl rfl rfl rfl) rfl (fun hc => (y_load1 (v := (vi e1.Op)) rfl (ev_gv et hc) u3 rfl (hI.kblk (l := [vi e1.Op]) .z rfl).1)) ?_
 refine s_gval (g_false rfl rfl rfl rfl) rfl (fun hc => y_eql rfl (ev_gv et hc) ev_const) ?_
 refine sq (y_or rfl et et) ?_
 refine sm ?_
 refine s_gval (g_true rfl rfl rfl rfl) rfl (fun hc => y_fieldAddr rfl et u39 rfl size_23 rfl) ?_
 refine s_gval (g_true rfl rfl rfl rfl) rfl (fun hc => (y_loadN (l := (lType e1.Type_)) rfl (ev_gv et hc) u23 rfl size_23 (hI.kblk (l := (lType e1.Type_)) .z rfl).1)) ?_
 obtain ⟨r1, hx1, h⟩ := bnd_some h
 replace hx1 := gd_some hx1
 refine s_gcallU (v := (vb r1)) (g_true rfl rfl rfl rfl) rfl (fun hc => (r_callF (vs := [(Value.agg (AType e1.Type_))]) rfl ok_31 ⟨(ev_gv et hc), trivial⟩)) (fun hc => (c_base_Type (Dj F c5) w1 hI.lt e1.Type_ trivial r1 (hx1 hc)).mono fun _ _ k => ⟨k.1, k.2.1⟩) ?_
 intro w2 hx2; replace hI := hI.ext hx2
 refine s_gval (g_true rfl rfl rfl rfl) rfl (fun hc => y_not rfl (ev_gv et hc)) ?_
 refine sq (y_and rfl et et) ?_
 refine nk (cif h et (fun hb h => ?_) (fun hb h => ?_))
 ·refine sr (sac ?_)
  refine nk (c_ret ?_)
  obtain rfl := some_inj h
  exact q_ret (vs := [vb false]) Tryz.results110 ⟨ev_tmp rfl rfl, trivial⟩ (fq hI trivial)
 refine c_skip (k_same (c_seq (sr (sac ?_))))
 refine nk (c_block (c_loop (α := Nat × Int) (fun x => fun w => ∃ C, Bun noM F w0 C w [] [Cl.blk b1 39 #[vi e1.Op, (str e1.Name), vi e1.Val.N, vi e1.Val.D, vi e1.Type_.Kind, vi e1.Type_.Bits, vi e1.Type_.Frac, vi e1.Type_.Round, vi e1.Type_.Over, vi e1.Lin.K, vs a1 e1.Lin.L.length c1, vs a2 e1.Idx.length c2, vs a3 e1.Args.length c3], Cl.sl cGMono a1 c1 e1.Lin.L, Cl.sl cGIndex a2 c2 e1.Idx, Cl.sl cGExpr a3 c3 e1.Args] ∧ m_ref14_typed_l1 e1 (x.1) (x.2) = some r) (fun x _ => x.1) (fun x => [(1, vp b1 0), (3, vi (x.2))]) (fu, 0) ⟨_, hI.arr .n ⟨.z, (.s .z), (.s (.s .z)), (.s (.s (.s .z))), trivial⟩, h⟩ ⟨rfl, rfl, trivial⟩ ?_))
 clear h hI; rintro ⟨fuel1, i1⟩ w3 ⟨c6, hI, h⟩
 dsimp only at hI h
 rcases fuel1 with _ | fuel1
 ·rw [m_ref14_typed_l1] at h; cases h
 rw [m_ref14_typed_l1] at h
 refine c_sub (e := [(1, vp b1 0), (3, vi i1)]) ⟨rfl, rfl, trivial⟩ ?_
 refine c_seq (sr (sm ?_))
 refine sq (y_fieldAddr rfl et u39 rfl size_37 rfl) ?_
 refine sq (y_load1 (v := (vs a3 e1.Args.length c3)) rfl et u37 rfl (hI.kblk (l := [vs a3 e1.Args.length c3]) .z rfl).1) ?_
 refine sq (y_lenl rfl u37 et) ?_
 refine sq (y_lss rfl et et) ?_
 refine nk (cif h et (fun hb h => ?_) (fun hb h => ?_))
 ·refine c_skip (k_same (c_seq (c_block (c_seq (c_drawX [] false (.c (0, .q) (.c (1, .q) (.c (2, .q) (.c (3, .q) (.c (4, .q) (.c (6, .q) (.c (7, .q) (.c (8, .q) (.c (5, .s) (.c (9, .s) (.c (10, .q) .n))))))))))) hI (by kernel_rfl) (by kernel_rfl) ?_)))))
  clear hI; intro w4 hI
  refine a_q rfl gn rfl (fun w' => y_fieldAddr rfl et u39 rfl size_37 rfl) ?_
  refine a_read rfl gn rfl (fun w' hw' => (y_load1 (v := (vs a3 e1.Args.length c3)) rfl et u37 rfl ((hI.kblk (l := [vs a3 e1.Args.length c3]) .z rfl).at_ (SX.any rfl hw')))) (by kernel_rfl) ?_
  refine a_q rfl gn rfl (fun w' => y_move rfl et) ?_
  obtain ⟨e2, hx3, h⟩ := bnd_some h
  obtain ⟨ad1, cs1, hA1, hr1, hq1⟩ := hI.clat (.s (.s (.s .z))) hx3
  obtain ⟨a4, c7, a5, c8, a6, c9, rfl, hf1, hf2, hf3⟩ := cGExpr_out hr1
  have hI := hI.add (c := Cl.sl cGMono a4 c7 e2.Lin.L) hf1
  have hI := hI.add (c := Cl.sl cGIndex a5 c8 e2.Idx) hf2
  have hI := hI.add (c := Cl.sl cGExpr a6 c9 e2.Args) hf3
  refine a_q rfl gn rfl (fun w' => y_indexAddr rfl u37 size_39 et et (lat_bd hx3) hA1) ?_
  refine a_read rfl gn rfl (fun w' hw' => (y_loadN (l := [vi e2.Op, (str e2.Name), vi e2.Val.N, vi e2.Val.D, vi e2.Type_.Kind, vi e2.Type_.Bits, vi e2.Type_.Frac, vi e2.Type_.Round, vi e2.Type_.Over, vi e2.Lin.K, vs a4 e2.Lin.L.length c7, vs a5 e2.Idx.length c8, vs a6 e2.Args.length c9]) rfl et u39 rfl size_39 (hq1.at_ (SX.any rfl hw')))) (by kernel_rfl) ?_
  refine a_q rfl gn rfl (fun w' => y_fieldAddr rfl et u39 rfl size_3 rfl) ?_
  refine a_read rfl gn rfl (fun w' hw' => (y_load1 (v := (vi e1.Op)) rfl et u3 rfl ((hI.kblk (l := [vi e1.Op]) (.s (.s (.s .z))) rfl).at_ (SX.any rfl hw')))) (by kernel_rfl) ?_
  refine a_q rfl gn rfl (fun w' => y_move rfl et) ?_
  obtain ⟨r2, hx4, h⟩ := bnd_some h
  refine la_call rfl gn rfl (r_callF (vs := [(Value.agg #[vi e2.Op, (str e2.Name), vi e2.Val.N, vi e2.Val.D, vi e2.Type_.Kind, vi e2.Type_.Bits, vi e2.Type_.Frac, vi e2.Type_.Round, vi e2.Type_.Over, vi e2.Lin.K, vs a4 e2.Lin.L.length c7, vs a5 e2.Idx.length c8, vs a6 e2.Args.length c9])]) rfl ok_140 ⟨et, trivial⟩) (Calls.mono (c_ref14_IsCondition (Dj F c6) w4 hI.lt e2 a4 c7 a5 c8 a6 c9 ⟨(hI.get (.s (.s .z))), (hI.get (.s .z)), (hI.get .z), trivial⟩ r2 hx4) ?_)
  rintro _ w5 ⟨rfl, hx5, hl2⟩
  refine ⟨_, rfl, hx5, ?_⟩
  replace hI := (hI.ext hx5)
  obtain ⟨r3, hx6, h⟩ := bnd_some h
  refine la_call rfl gn rfl (r_callF (vs := [vi e1.Op, vi i1]) rfl ok_141 ⟨et, ⟨et, trivial⟩⟩) (Calls.mono (c_ref14_wants (Dj F c6) w5 hI.lt e1.Op i1 trivial r3 hx6) ?_)
  rintro _ w6 ⟨rfl, hx7, hl3⟩
  refine ⟨_, rfl, hx7, ?_⟩
  replace hI := (hI.ext hx7)
  refine a_q rfl gn rfl (fun w' => y_neb rfl u4 et et) ?_
  refine a_nil ?_
  refine k_same (cif h et (fun hb h => ?_) (fun hb h => ?_))
  ·refine sr (sac ?_)
   refine nk (c_ret ?_)
   obtain rfl := some_inj h
   exact q_ret (vs := [vb false]) Tryz.results110 ⟨ev_tmp rfl rfl, trivial⟩ (fq hI trivial)
  refine c_skip (k_same (c_region rfl ?_))
  refine sm ?_
  refine sq (y_add rfl et ev_const) ?_
  refine sa ?_
  refine s_nil ?_
  exact k_loop (fuel1, wi64 (i1 + 1)) ⟨rfl, rfl, trivial⟩ ⟨_, hI.arr .n ⟨(.s (.s (.s .z))), (.s (.s (.s (.s .z)))), (.s (.s (.s (.s (.s .z))))), (.s (.s (.s (.s (.s (.s .z)))))), trivial⟩, h⟩ (Nat.lt_succ_self _)
 refine c_exit ?_
 refine k_in ?_
 refine k_same (sr (sac ?_))
 refine nk (c_ret ?_)
 obtain rfl := some_inj h
 exact q_ret (vs := [vb true]) Tryz.results110 ⟨ev_tmp rfl rfl, trivial⟩ (fq hI trivial)
theorem c_base_gcd (F : NP) (w0 : World) (hF : ∀ k, F k → k < w0.heap.size) (a1 : Int) (b1 : Int) (hc : AllCl [] F w0) (r : Int)
  (h : m_base_gcd a1 b1 = some r) :
  Calls Tryz.prog 169 #[vi a1, vi b1] w0 fun e w => e = .returned (vi r) ∧ Ext w0 w ∧ AllCl [] F w := by
 refine enterK Tryz.func169 rfl Tryz.ntmps169 rfl ?_
 have hI := Bun.start hF hc
 clear hc
 rw [m_base_gcd] at h
 refine sr (sac ?_)
 refine nk (c_seq (c_block (c_loop (α := Nat × Int × Int) (fun x => fun w => ∃ C, Bun noM F w0 C w [] [] ∧ m_base_gcd_l1 (x.1) (x.2.1) (x.2.2) = some r) (fun x _ => x.1) (fun x => [(0, vi (x.2.1)), (1, vi (x.2.2))]) (fu, a1, b1) ⟨_, hI.arr .n trivial, h⟩ ⟨rfl, rfl, trivial⟩ ?_)))
 clear h hI; rintro ⟨fuel1, a2, b2⟩ w1 ⟨c1, hI, h⟩
 dsimp only at hI h
 rcases fuel1 with _ | fuel1
 ·rw [m_base_gcd_l1] at h; cases h
 rw [m_base_gcd_l1] at h
 refine c_sub (e := [(0, vi a2), (1, vi b2)]) ⟨rfl, rfl, trivial⟩ ?_
 refine c_seq (sr (sm ?_))
 refine sq (y_neq rfl et ev_const) ?_
 refine nk (cif h et (fun hb h => ?_) (fun hb h => ?_))
 ·refine c_skip (k_same (c_block (c_drawX [] false (.c (0, .q) (.c (1, .q) (.c (2, .q) (.c (3, .q) (.c (4, .q) (.c (5, .q) .n)))))) hI (by kernel_rfl) (by kernel_rfl) ?_)))
  clear hI; intro w2 hI
  refine a_q rfl gn rfl (fun w' => y_move rfl et) ?_
  refine a_q rfl gn rfl (fun w' => y_move rfl et) ?_
  refine a_q rfl gn rfl (fun w' => y_move rfl et) ?_
  obtain ⟨ho1, h⟩ := chk_some h
  refine a_q rfl gn rfl (fun w' => y_rem rfl et et ho1) ?_
  refine a_q rfl gn rfl (fun w' => y_assign rfl et) ?_
  refine a_q rfl gn rfl (fun w' => y_assign rfl et) ?_
  refine a_nil ?_
  exact k_loop (fuel1, b2, Int.tmod a2 b2) ⟨rfl, rfl, trivial⟩ ⟨_, hI.arr .n trivial, h⟩ (Nat.lt_succ_self _)
 refine c_exit ?_
 refine k_in ?_
 refine k_same (sr (sm ?_))
 refine sa ?_
 refine nk (c_ret ?_)
 obtain rfl := some_inj h
 exact q_ret (vs := [vi a2]) Tryz.results169 ⟨ev_tmp rfl rfl, trivial⟩ (fq hI trivial)
theorem c_base_Val (F : NP) (w0 : World) (hF : ∀ k, F k → k < w0.heap.size) (t1 : GType) (v1 : GVal) (hc : AllCl [] F w0) (r : Bool)
  (h : m_base_Val t1 v1 = some r) :
  Calls Tryz.prog 142 #[(Value.agg (AType t1)), (Value.agg (AVal v1))] w0 fun e w => e = .returned (vb r) ∧ Ext w0 w ∧ AllCl [] F w := by
 refine enterK Tryz.func142 rfl Tryz.ntmps142 rfl ?_
 have hI := Bun.start hF hc
 clear hc
 rw [m_base_Val] at h
 refine sr (l_box (v := (Value.agg (AType t1))) (cs := (AType t1)) hI gn rfl rfl et rfl ?_)
 clear hI; intro b1 c1 w1 hI
 obtain ⟨c2, hI⟩ := hI.relBox .z
 refine l_box (v := (Value.agg (AVal v1))) (cs := (AVal v1)) hI gn rfl rfl et rfl ?_
 clear hI; intro b2 c3 w2 hI
 obtain ⟨c4, hI⟩ := hI.relBox .z
 refine sac ?_
 refine nk (c_seq (sr (sq (y_fieldAddr rfl et u23 rfl size_3 rfl) ?_)))
 refine sq (y_load1 (v := (vi t1.Kind)) rfl et u3 rfl (hI.kblk (l := [vi t1.Kind]) (.s .z) rfl).1) ?_
 refine sq (y_eql rfl et ev_const) ?_
 refine nk (cif h et (fun hb h => ?_) (fun hb h => ?_))
 ·refine sr (sq (y_fieldAddr rfl et u23 rfl size_3 rfl) ?_)
  refine sq (y_load1 (v := (vi t1.Bits)) rfl et u3 rfl (hI.kblk (l := [vi t1.Bits]) (.s .z) rfl).1) ?_
  refine sq (y_sub rfl et ev_const) ?_
  obtain ⟨ho1, h⟩ := chk_some h
  refine sq (y_shl rfl ev_const et ho1) ?_
  obtain ⟨half1, hx1, h⟩ := bnd_some h
  refine sq (binU (y_assign rfl et) (congrArg (Value.int .i64) (some_inj hx1))) ?_
  refine nk (sr (sq (y_fieldAddr rfl et u36 rfl size_2 rfl) ?_))
  refine sq (y_load1 (v := (vi v1.D)) rfl et u2 rfl (hI.kblk (l := [vi v1.D]) .z rfl).1) ?_
  refine sq (y_eql rfl et ev_const) ?_
  refine sm ?_
  refine s_gval (g_true rfl rfl rfl rfl) rfl (fun hc => y_fieldAddr rfl et u36 rfl size_2 rfl) ?_
  refine s_gval (g_true rfl rfl rfl rfl) rfl (fun hc => (y_load1 (v := (vi v1.N)) rfl (ev_gv et hc) u2 rfl (hI.kblk (l := [vi v1.N]) .z rfl).1)) ?_
  refine s_gval (g_true rfl rfl rfl rfl) rfl (fun hc => y_move rfl et) ?_
  refine s_gval (g_true rfl rfl rfl rfl) rfl (fun hc => y_neg rfl (ev_gv et hc)) ?_
  refine s_gval (g_true rfl rfl rfl rfl) rfl (fun hc => y_geq rfl (ev_gv et hc) (ev_gv et hc)) ?_
  refine sq (y_and rfl et et) ?_
  refine sm ?_
  refine s_gval (g_true rfl rfl rfl rfl) rfl (fun hc => y_fieldAddr rfl et u36 rfl size_2 rfl) ?_
  refine s_gval (g_true rfl rfl rfl rfl) rfl (fun hc => (y_load1 (v := (vi v1.N)) rfl (ev_gv et hc) u2 rfl (hI.kblk (l := [vi v1.N]) .z rfl).1)) ?_
  refine s_gval (g_true rfl rfl rfl rfl) rfl (fun hc => y_move rfl et) ?_
  refine s_gval (g_true rfl rfl rfl rfl) rfl (fun hc => y_lss rfl (ev_gv et hc) (ev_gv et hc)) ?_
  refine sq (y_and rfl et et) ?_
  refine sa ?_
  refine s_nil ?_
  refine k_next (e := [(4, (vb (((decide (v1.D = 1)) && (decide (wi64 (-half1) ≤ v1.N))) && (decide (v1.N < half1)))))]) ⟨rfl, trivial⟩ ?_
  refine c_ret ?_
  obtain rfl := some_inj h
  exact q_ret (vs := [(vb (((decide (v1.D = 1)) && (decide (wi64 (-half1) ≤ v1.N))) && (decide (v1.N < half1))))]) Tryz.results142 ⟨ev_tmp rfl rfl, trivial⟩ (fq hI trivial)
 refine c_skip (k_same (c_seq (sr (sq (y_fieldAddr rfl et u36 rfl size_2 rfl) ?_))))
 refine sq (y_load1 (v := (vi v1.N)) rfl et u2 rfl (hI.kblk (l := [vi v1.N]) .z rfl).1) ?_
 refine sq (y_gtr rfl et ev_const) ?_
 refine sm ?_
 refine s_gval (g_false rfl rfl rfl rfl) rfl (fun hc => y_fieldAddr rfl et u36 rfl size_2 rfl) ?_
 refine s_gval (g_false rfl rfl rfl rfl) rfl (fun hc => (y_load1 (v := (vi v1.N)) rfl (ev_gv et hc) u2 rfl (hI.kblk (l := [vi v1.N]) .z rfl).1)) ?_
 refine s_gval (g_false rfl rfl rfl rfl) rfl (fun hc => y_lss rfl (ev_gv et hc) ev_const) ?_
 refine sq (y_or rfl et et) ?_
 refine sm ?_
 refine s_gval (g_false rfl rfl rfl rfl) rfl (fun hc => y_fieldAddr rfl et u36 rfl size_2 rfl) ?_
 refine s_gval (g_false rfl rfl rfl rfl) rfl (fun hc => (y_load1 (v := (vi v1.D)) rfl (ev_gv et hc) u2 rfl (hI.kblk (l := [vi v1.D]) .z rfl).1)) ?_
 refine s_gval (g_false rfl rfl rfl rfl) rfl (fun hc => y_lss rfl (ev_gv et hc) ev_const) ?_
 refine sq (y_or rfl et et) ?_
 refine sm ?_
 refine s_gval (g_false rfl rfl rfl rfl) rfl (fun hc => y_fieldAddr rfl et u36 rfl size_2 rfl) ?_
 refine s_gval (g_false rfl rfl rfl rfl) rfl (fun hc => (y_load1 (v := (vi v1.D)) rfl (ev_gv et hc) u2 rfl (hI.kblk (l := [vi v1.D]) .z rfl).1)) ?_
 refine s_gval (g_false rfl rfl rfl rfl) rfl (fun hc => y_gtr rfl (ev_gv et hc) ev_const) ?_
 refine sq (y_or rfl et et) ?_
 refine nk (cif h et (fun hb h => ?_) (fun hb h => ?_))
 ·refine sr (sac ?_)
  refine s_nil ?_
  refine k_next (e := [(4, vb false)]) ⟨rfl, trivial⟩ ?_
  refine c_ret ?_
  obtain rfl := some_inj h
  exact q_ret (vs := [vb false]) Tryz.results142 ⟨ev_tmp rfl rfl, trivial⟩ (fq hI trivial)
 refine c_skip (k_next (e := [(2, vp b1 0), (3, vp b2 0)]) ⟨rfl, rfl, trivial⟩ ?_)
 refine c_seq (sr (sq (y_fieldAddr rfl et u23 rfl size_3 rfl) ?_))
 refine sq (y_load1 (v := (vi t1.Kind)) rfl et u3 rfl (hI.kblk (l := [vi t1.Kind]) (.s .z) rfl).1) ?_
 refine sq (y_eql rfl et ev_const) ?_
 refine nk (cif h et (fun hb h => ?_) (fun hb h => ?_))
 ·refine sr (sq (y_fieldAddr rfl et u36 rfl size_2 rfl) ?_)
  refine sq (y_load1 (v := (vi v1.D)) rfl et u2 rfl (hI.kblk (l := [vi v1.D]) .z rfl).1) ?_
  refine sq (y_eql rfl et ev_const) ?_
  refine sa ?_
  refine nk (c_ret ?_)
  obtain rfl := some_inj h
  exact q_ret (vs := [(vb (decide (v1.D = 1)))]) Tryz.results142 ⟨ev_tmp rfl rfl, trivial⟩ (fq hI trivial)
 refine c_skip (k_same (sr (sq (y_fieldAddr rfl et u36 rfl size_2 rfl) ?_)))
 refine sq (y_load1 (v := (vi v1.N)) rfl et u2 rfl (hI.kblk (l := [vi v1.N]) .z rfl).1) ?_
 refine sq (y_fieldAddr rfl et u36 rfl size_2 rfl) ?_
 refine sq (y_load1 (v := (vi v1.N)) rfl et u2 rfl (hI.kblk (l := [vi v1.N]) .z rfl).1) ?_
 refine sq (y_neg rfl et) ?_
 refine sq (y_max rfl et et) ?_
 refine sq (y_fieldAddr rfl et u36 rfl size_2 rfl) ?_
 refine sq (y_load1 (v := (vi v1.D)) rfl et u2 rfl (hI.kblk (l := [vi v1.D]) .z rfl).1) ?_
 obtain ⟨r1, hx2, h⟩ := bnd_some h
 refine s_call gn rfl (r_callF (vs := [(vi (max v1.N (wi64 (-v1.N)))), vi v1.D]) rfl ok_169 ⟨et, ⟨et, trivial⟩⟩) (Calls.mono (c_base_gcd (Dj F c4) w2 hI.lt (max v1.N (wi64 (-v1.N))) v1.D trivial r1 hx2) ?_)
 rintro _ w3 ⟨rfl, hx3, hl1⟩
 refine ⟨_, rfl, ?_⟩
 replace hI := (hI.ext hx3)
 refine sq (y_eql rfl et ev_const) ?_
 refine sa ?_
 refine nk (c_ret ?_)
 obtain rfl := some_inj h
 exact q_ret (vs := [(vb (decide (r1 = 1)))]) Tryz.results142 ⟨ev_tmp rfl rfl, trivial⟩ (fq hI trivial)
theorem c_ref14_formed (F : NP) (w0 : World) (hF : ∀ k, F k → k < w0.heap.size) (e1 : GExpr) (a1 : Option Addr) (c1 : Nat) (a2 : Option Addr) (c2 : Nat) (a3 : Option Addr) (c3 : Nat) (hc : AllCl [Cl.sl cGMono a1 c1 e1.Lin.L, Cl.sl cGIndex a2 c2 e1.Idx, Cl.sl cGExpr a3 c3 e1.Args] F w0) (r : Bool)
  (h : m_ref14_formed e1 = some r) :
  Calls Tryz.prog 111 #[(Value.agg #[vi e1.Op, (str e1.Name), vi e1.Val.N, vi e1.Val.D, vi e1.Type_.Kind, vi e1.Type_.Bits, vi e1.Type_.Frac, vi e1.Type_.Round, vi e1.Type_.Over, vi e1.Lin.K, vs a1 e1.Lin.L.length c1, vs a2 e1.Idx.length c2, vs a3 e1.Args.length c3])] w0 fun e w => e = .returned (vb r) ∧ Ext w0 w ∧ AllCl [] F w := by
 refine enterK Tryz.func111 rfl Tryz.ntmps111 rfl ?_
 have hI := Bun.start hF hc
 clear hc
 rw [m_ref14_formed] at h
 refine sr (l_box (v := (Value.agg #[vi e1.Op, (str e1.Name), vi e1.Val.N, vi e1.Val.D, vi e1.Type_.Kind, vi e1.Type_.Bits, vi e1.Type_.Frac, vi e1.Type_.Round, vi e1.Type_.Over, vi e1.Lin.K, vs a1 e1.Lin.L.length c1, vs a2 e1.Idx.length c2, vs a3 e1.Args.length c3])) (cs := #[vi e1.Op, (str e1.Name), vi e1.Val.N, vi e1.Val.D, vi e1.Type_.Kind, vi e1.Type_.Bits, vi e1.Type_.Frac, vi e1.Type_.Round, vi e1.Type_.Over, vi e1.Lin.K, vs a1 e1.Lin.L.length c1, vs a2 e1.Idx.length c2, vs a3 e1.Args.length c3]) hI gn rfl rfl et rfl ?_)
 clear hI; intro b1 c4 w1 hI
 obtain ⟨c5, hI⟩ := hI.relBox .z
 refine sac ?_
 refine nk (c_seq (sr (sq (y_fieldAddr rfl et u39 rfl size_3 rfl) ?_)))
 refine sq (y_load1 (v := (vi e1.Op)) rfl et u3 rfl (hI.kblk (l := [vi e1.Op]) .z rfl).1) ?_
 refine sq (y_eql rfl et ev_const) ?_
 refine sm ?_
 refine s_gval (g_true rfl rfl rfl rfl) rfl (fun hc => y_fieldAddr rfl et u39 rfl size_23 rfl) ?_
 refine s_gval (g_true rfl rfl rfl rfl) rfl (fun hc => (y_loadN (l := (lType e1.Type_)) rfl (ev_gv et hc) u23 rfl size_23 (hI.kblk (l := (lType e1.Type_)) .z rfl).1)) ?_
 refine s_gval (g_true rfl rfl rfl rfl) rfl (fun hc => y_fieldAddr rfl et u39 rfl size_36 rfl) ?_
 refine s_gval (g_true rfl rfl rfl rfl) rfl (fun hc => (y_loadN (l := (lVal e1.Val)) rfl (ev_gv et hc) u36 rfl size_36 (hI.kblk (l := (lVal e1.Val)) .z rfl).1)) ?_
 obtain ⟨r1, hx1, h⟩ := bnd_some h
 replace hx1 := gd_some hx1
 refine s_gcallU (v := (vb r1)) (g_true rfl rfl rfl rfl) rfl (fun hc => (r_callF (vs := [(Value.agg (AType e1.Type_)), (Value.agg (AVal e1.Val))]) rfl ok_142 ⟨(ev_gv et hc), ⟨(ev_gv et hc), trivial⟩⟩)) (fun hc => (c_base_Val (Dj F c5) w1 hI.lt e1.Type_ e1.Val trivial r1 (hx1 hc)).mono fun _ _ k => ⟨k.1, k.2.1⟩) ?_
 intro w2 hx2; replace hI := hI.ext hx2
 refine s_gval (g_true rfl rfl rfl rfl) rfl (fun hc => y_not rfl (ev_gv et hc)) ?_
 refine sq (y_and rfl et et) ?_
 refine sm ?_
 refine s_gval (g_false rfl rfl rfl rfl) rfl (fun hc => y_fieldAddr rfl et u39 rfl size_29 rfl) ?_
 refine s_gval (g_false rfl rfl rfl rfl) rfl (fun hc => (y_loadN (l := (lLin e1.Lin a1 c1)) rfl (ev_gv et hc) u29 rfl size_29 (hI.kblk (l := (lLin e1.Lin a1 c1)) .z rfl).1)) ?_
 obtain ⟨r2, hx3, h⟩ := bnd_some h
 replace hx3 := gd_some hx3
 refine s_gcallU (v := (vb r2)) (g_false rfl rfl rfl rfl) rfl (fun hc => (r_callF (vs := [(Value.agg (ALin e1.Lin a1 c1))]) rfl ok_40 ⟨(ev_gv et hc), trivial⟩)) (fun hc => (c_base_LinRight (Dj F c5) w2 hI.lt e1.Lin a1 c1 ⟨(hI.get (.s .z)), trivial⟩ r2 (hx3 hc)).mono fun _ _ k => ⟨k.1, k.2.1⟩) ?_
 intro w3 hx4; replace hI := hI.ext hx4
 refine s_gval (g_false rfl rfl rfl rfl) rfl (fun hc => y_not rfl (ev_gv et hc)) ?_
 refine sq (y_or rfl et et) ?_
 refine nk (cif h et (fun hb h => ?_) (fun hb h => ?_))
 ·refine sr (sac ?_)
  refine nk (c_ret ?_)
  obtain rfl := some_inj h
  exact q_ret (vs := [vb false]) Tryz.results111 ⟨ev_tmp rfl rfl, trivial⟩ (fq hI trivial)
 refine c_skip (k_same (c_seq (sr (sac ?_))))
 refine nk (c_block (c_loop (α := Nat × Int) (fun x => fun w => ∃ C, Bun noM F w0 C w [] [Cl.blk b1 39 #[vi e1.Op, (str e1.Name), vi e1.Val.N, vi e1.Val.D, vi e1.Type_.Kind, vi e1.Type_.Bits, vi e1.Type_.Frac, vi e1.Type_.Round, vi e1.Type_.Over, vi e1.Lin.K, vs a1 e1.Lin.L.length c1, vs a2 e1.Idx.length c2, vs a3 e1.Args.length c3], Cl.sl cGMono a1 c1 e1.Lin.L, Cl.sl cGIndex a2 c2 e1.Idx, Cl.sl cGExpr a3 c3 e1.Args] ∧ m_ref14_formed_l1 e1 (x.1) (x.2) = some r) (fun x _ => x.1) (fun x => [(1, vp b1 0), (3, vi (x.2))]) (fu, 0) ⟨_, hI.arr .n ⟨.z, (.s .z), (.s (.s .z)), (.s (.s (.s .z))), trivial⟩, h⟩ ⟨rfl, rfl, trivial⟩ ?_))
 clear h hI; rintro ⟨fuel1, i1⟩ w4 ⟨c6, hI, h⟩
 dsimp only at hI h
 rcases fuel1 with _ | fuel1
 ·rw [m_ref14_formed_l1] at h; cases h
 rw [m_ref14_formed_l1] at h
 refine c_sub (e := [(1, vp b1 0), (3, vi i1)]) ⟨rfl, rfl, trivial⟩ ?_
 refine c_seq (sr (sm ?_))
 refine sq (y_fieldAddr rfl et u39 rfl size_34 rfl) ?_
 refine sq (y_load1 (v := (vs a2 e1.Idx.length c2)) rfl et u34 rfl (hI.kblk (l := [vs a2 e1.Idx.length c2]) .z rfl).1) ?_
 refine sq (y_lenl rfl u34 et) ?_
 refine sq (y_lss rfl et et) ?_
 refine nk (cif h et (fun hb h => ?_) (fun hb h => ?_))
 ·refine c_skip (k_same (c_join (α := Unit) (fun _ => ⟨59, []⟩) (fun _ => [(1, vp b1 0), (3, vi i1)]) (fun _ => fun w => ∃ C, Bun noM F w0 C w [] [Cl.blk b1 39 #[vi e1.Op, (str e1.Name), vi e1.Val.N, vi e1.Val.D, vi e1.Type_.Kind, vi e1.Type_.Bits, vi e1.Type_.Frac, vi e1.Type_.Round, vi e1.Type_.Over, vi e1.Lin.K, vs a1 e1.Lin.L.length c1, vs a2 e1.Idx.length c2, vs a3 e1.Args.length c3], Cl.sl cGMono a1 c1 e1.Lin.L, Cl.sl cGIndex a2 c2 e1.Idx, Cl.sl cGExpr a3 c3 e1.Args] ∧ m_ref14_formed_j1 (m_ref14_formed_l1 e1 fuel1) i1 = some r) ?_ ?_))
  ·clear h hI; rintro _ w5 ⟨c7, hI, h⟩
   try dsimp only at hI h
   rw [m_ref14_formed_j1] at h
   refine c_sub (e := [(1, vp b1 0), (3, vi i1)]) ⟨rfl, rfl, trivial⟩ ?_
   refine c_region rfl ?_
   refine sm ?_
   refine sq (y_add rfl et ev_const) ?_
   refine sa ?_
   refine s_nil ?_
   exact k_loop (fuel1, wi64 (i1 + 1)) ⟨rfl, rfl, trivial⟩ ⟨_, hI.arr .n ⟨.z, (.s .z), (.s (.s .z)), (.s (.s (.s .z))), trivial⟩, h⟩ (Nat.lt_succ_self _)
  refine c_block (c_seq (sr (sq (y_fieldAddr rfl et u39 rfl size_34 rfl) ?_)))
  refine sq (y_load1 (v := (vs a2 e1.Idx.length c2)) rfl et u34 rfl (hI.kblk (l := [vs a2 e1.Idx.length c2]) .z rfl).1) ?_
  refine sm ?_
  obtain ⟨e2, hx5, h⟩ := bnd_some h
  obtain ⟨ad1, cs1, hA1, hr1, hq1⟩ := hI.clat (.s (.s .z)) hx5
  obtain ⟨a4, c8, a5, c9, rfl, hf1, hf2⟩ := hr1
  have hI := hI.add (c := Cl.sl cGMono a4 c8 e2.Lin.L) hf1
  have hI := hI.add (c := Cl.sl cGLin a5 c9 e2.At) hf2
  refine sq (y_indexAddr rfl u34 size_32 et et (lat_bd hx5) hA1) ?_
  refine sq (y_fieldAddr rfl et u32 rfl size_29 rfl) ?_
  refine sq (y_loadN (l := (lLin e2.Lin a4 c8)) rfl et u29 rfl size_29 (CA.part hq1 rfl).1) ?_
  obtain ⟨r3, hx6, h⟩ := bnd_some h
  refine s_call gn rfl (r_callF (vs := [(Value.agg (ALin e2.Lin a4 c8))]) rfl ok_40 ⟨et, trivial⟩) (Calls.mono (c_base_LinRight (Dj F c6) w4 hI.lt e2.Lin a4 c8 ⟨(hI.get (.s .z)), trivial⟩ r3 hx6) ?_)
  rintro _ w6 ⟨rfl, hx7, hl3⟩
  refine ⟨_, rfl, ?_⟩
  replace hI := (hI.ext hx7)
  refine sq (y_not rfl et) ?_
  refine nk (cif h et (fun hb h => ?_) (fun hb h => ?_))
  ·refine sr (sac ?_)
   refine nk (c_ret ?_)
   obtain rfl := some_inj h
   exact q_ret (vs := [vb false]) Tryz.results111 ⟨ev_tmp rfl rfl, trivial⟩ (fq hI trivial)
  refine c_skip (k_same (sr (sac ?_)))
  refine nk (c_block (c_loop (α := Nat × Int) (fun x => fun w => ∃ C, Bun noM F w0 C w [] [Cl.blk b1 39 #[vi e1.Op, (str e1.Name), vi e1.Val.N, vi e1.Val.D, vi e1.Type_.Kind, vi e1.Type_.Bits, vi e1.Type_.Frac, vi e1.Type_.Round, vi e1.Type_.Over, vi e1.Lin.K, vs a1 e1.Lin.L.length c1, vs a2 e1.Idx.length c2, vs a3 e1.Args.length c3], Cl.sl cGMono a1 c1 e1.Lin.L, Cl.sl cGIndex a2 c2 e1.Idx, Cl.sl cGExpr a3 c3 e1.Args] ∧ m_ref14_formed_l2 e1 i1 (m_ref14_formed_l1 e1 fuel1) (x.1) (x.2) = some r) (fun x _ => x.1) (fun x => [(1, vp b1 0), (3, vi i1), (4, vi (x.2))]) (fu, 0) ⟨_, hI.arr .n ⟨(.s (.s .z)), (.s (.s (.s .z))), (.s (.s (.s (.s .z)))), (.s (.s (.s (.s (.s .z))))), trivial⟩, h⟩ ⟨rfl, rfl, rfl, trivial⟩ ?_))
  clear h hI; rintro ⟨fuel2, k1⟩ w7 ⟨c10, hI, h⟩
  dsimp only at hI h
  rcases fuel2 with _ | fuel2
  ·rw [m_ref14_formed_l2] at h; cases h
  rw [m_ref14_formed_l2] at h
  refine c_sub (e := [(1, vp b1 0), (3, vi i1), (4, vi k1)]) ⟨rfl, rfl, rfl, trivial⟩ ?_
  refine c_seq (sr (sm ?_))
  refine sq (y_fieldAddr rfl et u39 rfl size_34 rfl) ?_
  refine sq (y_load1 (v := (vs a2 e1.Idx.length c2)) rfl et u34 rfl (hI.kblk (l := [vs a2 e1.Idx.length c2]) .z rfl).1) ?_
  refine sm ?_
  obtain ⟨e3, hx8, h⟩ := bnd_some h
  obtain ⟨ad2, cs2, hA2, hr2, hq2⟩ := hI.clat (.s (.s .z)) hx8
  obtain ⟨a6, c11, a7, c12, rfl, hf3, hf4⟩ := hr2
  have hI := hI.add (c := Cl.sl cGMono a6 c11 e3.Lin.L) hf3
  have hI := hI.add (c := Cl.sl cGLin a7 c12 e3.At) hf4
  refine sq (y_indexAddr rfl u34 size_32 et et (lat_bd hx8) hA2) ?_
  refine sq (y_fieldAddr rfl et u32 rfl size_30 rfl) ?_
  refine sq (y_load1 (v := (vs a7 e3.At.length c12)) rfl et u30 rfl (CA.part hq2 rfl).1) ?_
  refine sq (y_lenl rfl u30 et) ?_
  refine sq (y_lss rfl et et) ?_
  refine nk (cif h et (fun hb h => ?_) (fun hb h => ?_))
  ·refine c_skip (k_same (c_seq (c_block (sr (sq (y_fieldAddr rfl et u39 rfl size_34 rfl) ?_)))))
   refine sq (y_load1 (v := (vs a2 e1.Idx.length c2)) rfl et u34 rfl (hI.kblk (l := [vs a2 e1.Idx.length c2]) (.s (.s .z)) rfl).1) ?_
   refine sm ?_
   obtain ⟨e4, hx9, h⟩ := bnd_some h
   obtain ⟨ad3, cs3, hA3, hr3, hq3⟩ := hI.clat (.s (.s (.s (.s .z)))) hx9
   obtain ⟨a8, c13, a9, c14, rfl, hf5, hf6⟩ := hr3
   have hI := hI.add (c := Cl.sl cGMono a8 c13 e4.Lin.L) hf5
   have hI := hI.add (c := Cl.sl cGLin a9 c14 e4.At) hf6
   refine sq (y_indexAddr rfl u34 size_32 et et (lat_bd hx9) hA3) ?_
   refine sq (y_fieldAddr rfl et u32 rfl size_30 rfl) ?_
   refine sq (y_load1 (v := (vs a9 e4.At.length c14)) rfl et u30 rfl (CA.part hq3 rfl).1) ?_
   refine sm ?_
   obtain ⟨e5, hx10, h⟩ := bnd_some h
   obtain ⟨ad4, cs4, hA4, hr4, hq4⟩ := hI.clat .z hx10
   obtain ⟨a10, c15, rfl, hf7⟩ := hr4
   have hI := hI.add (c := Cl.sl cGMono a10 c15 e5.L) hf7
   refine sq (y_indexAddr rfl u30 size_29 et et (lat_bd hx10) hA4) ?_
   refine sq (y_loadN (l := (lLin e5 a10 c15)) rfl et u29 rfl size_29 hq4.1) ?_
   obtain ⟨r4, hx11, h⟩ := bnd_some h
   refine s_call gn rfl (r_callF (vs := [(Value.agg (ALin e5 a10 c15))]) rfl ok_40 ⟨et, trivial⟩) (Calls.mono (c_base_LinRight (Dj F c10) w7 hI.lt e5 a10 c15 ⟨(hI.get .z), trivial⟩ r4 hx11) ?_)
   rintro _ w8 ⟨rfl, hx12, hl4⟩
   refine ⟨_, rfl, ?_⟩
   replace hI := (hI.ext hx12)
   refine sq (y_not rfl et) ?_
   refine nk (cif h et (fun hb h => ?_) (fun hb h => ?_))
   ·refine sr (sac ?_)
    refine nk (c_ret ?_)
    obtain rfl := some_inj h
    exact q_ret (vs := [vb false]) Tryz.results111 ⟨ev_tmp rfl rfl, trivial⟩ (fq hI trivial)
   refine c_skip (k_same (c_region rfl ?_))
   refine sm ?_
   refine sq (y_add rfl et ev_const) ?_
   refine sa ?_
   refine s_nil ?_
   exact k_loop (fuel2, wi64 (k1 + 1)) ⟨rfl, rfl, rfl, trivial⟩ ⟨_, hI.arr .n ⟨(.s (.s (.s (.s (.s .z))))), (.s (.s (.s (.s (.s (.s .z)))))), (.s (.s (.s (.s (.s (.s (.s .z))))))), (.s (.s (.s (.s (.s (.s (.s (.s .z)))))))), trivial⟩, h⟩ (Nat.lt_succ_self _)
  refine c_exit ?_
  refine k_in ?_
  exact k_join () ⟨rfl, rfl, trivial⟩ ⟨_, hI.arr .n ⟨(.s (.s .z)), (.s (.s (.s .z))), (.s (.s (.s (.s .z)))), (.s (.s (.s (.s (.s .z))))), trivial⟩, h⟩ rfl
 refine c_exit ?_
 refine k_in ?_
 refine k_same (sr (sac ?_))
 refine nk (c_ret ?_)
 obtain rfl := some_inj h
 exact q_ret (vs := [vb true]) Tryz.results111 ⟨ev_tmp rfl rfl, trivial⟩ (fq hI trivial)
theorem c_ref14_part_b (rec_ : (GExpr → Option Int)) (hrec : ∀ (F : NP) (w0 : World) (hF : ∀ k, F k → k < w0.heap.size) (e1 : GExpr) (a1 : Option Addr) (c1 : Nat) (a2 : Option Addr) (c2 : Nat) (a3 : Option Addr) (c3 : Nat) (hc : AllCl [Cl.sl cGMono a1 c1 e1.Lin.L, Cl.sl cGIndex a2 c2 e1.Idx, Cl.sl cGExpr a3 c3 e1.Args] F w0) (r : Int) (h : rec_ e1 = some r), Calls Tryz.prog 51 #[(Value.agg #[vi e1.Op, (str e1.Name), vi e1.Val.N, vi e1.Val.D, vi e1.Type_.Kind, vi e1.Type_.Bits, vi e1.Type_.Frac, vi e1.Type_.Round, vi e1.Type_.Over, vi e1.Lin.K, vs a1 e1.Lin.L.length c1, vs a2 e1.Idx.length c2, vs a3 e1.Args.length c3])] w0 fun e w => e = .returned (vi r) ∧ Ext w0 w ∧ AllCl [] F w)
  (F : NP) (w0 : World) (hF : ∀ k, F k → k < w0.heap.size) (e1 : GExpr) (a1 : Option Addr) (c1 : Nat) (a2 : Option Addr) (c2 : Nat) (a3 : Option Addr) (c3 : Nat) (hc : AllCl [Cl.sl cGMono a1 c1 e1.Lin.L, Cl.sl cGIndex a2 c2 e1.Idx, Cl.sl cGExpr a3 c3 e1.Args] F w0) (r : Int) (h : m_ref14_part_b rec_ e1 = some r) : Calls Tryz.prog 51 #[(Value.agg #[vi e1.Op, (str e1.Name), vi e1.Val.N, vi e1.Val.D, vi e1.Type_.Kind, vi e1.Type_.Bits, vi e1.Type_.Frac, vi e1.Type_.Round, vi e1.Type_.Over, vi e1.Lin.K, vs a1 e1.Lin.L.length c1, vs a2 e1.Idx.length c2, vs a3 e1.Args.length c3])] w0 fun e w => e = .returned (vi r) ∧ Ext w0 w ∧ AllCl [] F w := by
 refine enterK Tryz.func51 rfl Tryz.ntmps51 rfl ?_
 have hI := Bun.start hF hc
 clear hc
 rw [m_ref14_part_b] at h
 refine sr (l_box (v := (Value.agg #[vi e1.Op, (str e1.Name), vi e1.Val.N, vi e1.Val.D, vi e1.Type_.Kind, vi e1.Type_.Bits, vi e1.Type_.Frac, vi e1.Type_.Round, vi e1.Type_.Over, vi e1.Lin.K, vs a1 e1.Lin.L.length c1, vs a2 e1.Idx.length c2, vs a3 e1.Args.length c3])) (cs := #[vi e1.Op, (str e1.Name), vi e1.Val.N, vi e1.Val.D, vi e1.Type_.Kind, vi e1.Type_.Bits, vi e1.Type_.Frac, vi e1.Type_.Round, vi e1.Type_.Over, vi e1.Lin.K, vs a1 e1.Lin.L.length c1, vs a2 e1.Idx.length c2, vs a3 e1.Args.length c3]) hI gn rfl rfl et rfl ?_)
 clear hI; intro b1 c4 w1 hI
 obtain ⟨c5, hI⟩ := hI.relBox .z
 refine sac ?_
 refine nk (c_seq (c_block (sr (sq (y_loadN (l := [vi e1.Op, (str e1.Name), vi e1.Val.N, vi e1.Val.D, vi e1.Type_.Kind, vi e1.Type_.Bits, vi e1.Type_.Frac, vi e1.Type_.Round, vi e1.Type_.Over, vi e1.Lin.K, vs a1 e1.Lin.L.length c1, vs a2 e1.Idx.length c2, vs a3 e1.Args.length c3]) rfl et u39 rfl size_39 (hI.kblk (l := [vi e1.Op, (str e1.Name), vi e1.Val.N, vi e1.Val.D, vi e1.Type_.Kind, vi e1.Type_.Bits, vi e1.Type_.Frac, vi e1.Type_.Round, vi e1.Type_.Over, vi e1.Lin.K, vs a1 e1.Lin.L.length c1, vs a2 e1.Idx.length c2, vs a3 e1.Args.length c3]) .z rfl).1) ?_))))
 obtain ⟨r1, hx1, h⟩ := bnd_some h
 refine s_call gn rfl (r_callF (vs := [(Value.agg #[vi e1.Op, (str e1.Name), vi e1.Val.N, vi e1.Val.D, vi e1.Type_.Kind, vi e1.Type_.Bits, vi e1.Type_.Frac, vi e1.Type_.Round, vi e1.Type_.Over, vi e1.Lin.K, vs a1 e1.Lin.L.length c1, vs a2 e1.Idx.length c2, vs a3 e1.Args.length c3])]) rfl ok_107 ⟨et, trivial⟩) (Calls.mono (c_ref14_plain (Dj F c5) w1 hI.lt e1 a1 c1 a2 c2 a3 c3 ⟨(hI.get (.s .z)), (hI.get (.s (.s .z))), (hI.get (.s (.s (.s .z)))), trivial⟩ r1 hx1) ?_)
 rintro _ w2 ⟨rfl, hx2, hl1⟩
 refine ⟨_, rfl, ?_⟩
 replace hI := (hI.ext hx2)
 refine sq (y_not rfl et) ?_
 refine sa ?_
 refine nk (cif h et (fun hb h => ?_) (fun hb h => ?_))
 ·refine sr (sac ?_)
  refine nk (c_ret ?_)
  obtain rfl := some_inj h
  exact q_ret (vs := [vi 5]) Tryz.results51 ⟨ev_tmp rfl rfl, trivial⟩ (fq hI trivial)
 refine sr (sq (y_loadN (l := [vi e1.Op, (str e1.Name), vi e1.Val.N, vi e1.Val.D, vi e1.Type_.Kind, vi e1.Type_.Bits, vi e1.Type_.Frac, vi e1.Type_.Round, vi e1.Type_.Over, vi e1.Lin.K, vs a1 e1.Lin.L.length c1, vs a2 e1.Idx.length c2, vs a3 e1.Args.length c3]) rfl et u39 rfl size_39 (hI.kblk (l := [vi e1.Op, (str e1.Name), vi e1.Val.N, vi e1.Val.D, vi e1.Type_.Kind, vi e1.Type_.Bits, vi e1.Type_.Frac, vi e1.Type_.Round, vi e1.Type_.Over, vi e1.Lin.K, vs a1 e1.Lin.L.length c1, vs a2 e1.Idx.length c2, vs a3 e1.Args.length c3]) .z rfl).1) ?_)
 obtain ⟨r2, hx3, h⟩ := bnd_some h
 refine s_call gn rfl (r_callF (vs := [(Value.agg #[vi e1.Op, (str e1.Name), vi e1.Val.N, vi e1.Val.D, vi e1.Type_.Kind, vi e1.Type_.Bits, vi e1.Type_.Frac, vi e1.Type_.Round, vi e1.Type_.Over, vi e1.Lin.K, vs a1 e1.Lin.L.length c1, vs a2 e1.Idx.length c2, vs a3 e1.Args.length c3])]) rfl ok_108 ⟨et, trivial⟩) (Calls.mono (c_ref14_named (Dj F c5) w2 hI.lt e1 a1 c1 a2 c2 a3 c3 ⟨(hI.get (.s .z)), (hI.get (.s (.s .z))), (hI.get (.s (.s (.s .z)))), trivial⟩ r2 hx3) ?_)
 rintro _ w3 ⟨rfl, hx4, hl2⟩
 refine ⟨_, rfl, ?_⟩
 replace hI := (hI.ext hx4)
 refine sq (y_not rfl et) ?_
 refine sa ?_
 refine nk (cif h et (fun hb h => ?_) (fun hb h => ?_))
 ·refine sr (sac ?_)
  refine nk (c_ret ?_)
  obtain rfl := some_inj h
  exact q_ret (vs := [vi 7]) Tryz.results51 ⟨ev_tmp rfl rfl, trivial⟩ (fq hI trivial)
 refine sr (sq (y_loadN (l := [vi e1.Op, (str e1.Name), vi e1.Val.N, vi e1.Val.D, vi e1.Type_.Kind, vi e1.Type_.Bits, vi e1.Type_.Frac, vi e1.Type_.Round, vi e1.Type_.Over, vi e1.Lin.K, vs a1 e1.Lin.L.length c1, vs a2 e1.Idx.length c2, vs a3 e1.Args.length c3]) rfl et u39 rfl size_39 (hI.kblk (l := [vi e1.Op, (str e1.Name), vi e1.Val.N, vi e1.Val.D, vi e1.Type_.Kind, vi e1.Type_.Bits, vi e1.Type_.Frac, vi e1.Type_.Round, vi e1.Type_.Over, vi e1.Lin.K, vs a1 e1.Lin.L.length c1, vs a2 e1.Idx.length c2, vs a3 e1.Args.length c3]) .z rfl).1) ?_)
 obtain ⟨r3, hx5, h⟩ := bnd_some h
 refine s_call gn rfl (r_callF (vs := [(Value.agg #[vi e1.Op, (str e1.Name), vi e1.Val.N, vi e1.Val.D, vi e1.Type_.Kind, vi e1.Type_.Bits, vi e1.Type_.Frac, vi e1.Type_.Round, vi e1.Type_.Over, vi e1.Lin.K, vs a1 e1.Lin.L.length c1, vs a2 e1.Idx.length c2, vs a3 e1.Args.length c3])]) rfl ok_109 ⟨et, trivial⟩) (Calls.mono (c_ref14_ranked (Dj F c5) w3 hI.lt e1 a1 c1 a2 c2 a3 c3 ⟨(hI.get (.s .z)), (hI.get (.s (.s .z))), (hI.get (.s (.s (.s .z)))), trivial⟩ r3 hx5) ?_)
 rintro _ w4 ⟨rfl, hx6, hl3⟩
 refine ⟨_, rfl, ?_⟩
 replace hI := (hI.ext hx6)
 refine sq (y_not rfl et) ?_
 refine sa ?_
 refine nk (cif h et (fun hb h => ?_) (fun hb h => ?_))
 ·refine sr (sac ?_)
  refine nk (c_ret ?_)
  obtain rfl := some_inj h
  exact q_ret (vs := [vi 11]) Tryz.results51 ⟨ev_tmp rfl rfl, trivial⟩ (fq hI trivial)
 refine sr (sq (y_loadN (l := [vi e1.Op, (str e1.Name), vi e1.Val.N, vi e1.Val.D, vi e1.Type_.Kind, vi e1.Type_.Bits, vi e1.Type_.Frac, vi e1.Type_.Round, vi e1.Type_.Over, vi e1.Lin.K, vs a1 e1.Lin.L.length c1, vs a2 e1.Idx.length c2, vs a3 e1.Args.length c3]) rfl et u39 rfl size_39 (hI.kblk (l := [vi e1.Op, (str e1.Name), vi e1.Val.N, vi e1.Val.D, vi e1.Type_.Kind, vi e1.Type_.Bits, vi e1.Type_.Frac, vi e1.Type_.Round, vi e1.Type_.Over, vi e1.Lin.K, vs a1 e1.Lin.L.length c1, vs a2 e1.Idx.length c2, vs a3 e1.Args.length c3]) .z rfl).1) ?_)
 obtain ⟨r4, hx7, h⟩ := bnd_some h
 refine s_call gn rfl (r_callF (vs := [(Value.agg #[vi e1.Op, (str e1.Name), vi e1.Val.N, vi e1.Val.D, vi e1.Type_.Kind, vi e1.Type_.Bits, vi e1.Type_.Frac, vi e1.Type_.Round, vi e1.Type_.Over, vi e1.Lin.K, vs a1 e1.Lin.L.length c1, vs a2 e1.Idx.length c2, vs a3 e1.Args.length c3])]) rfl ok_110 ⟨et, trivial⟩) (Calls.mono (c_ref14_typed (Dj F c5) w4 hI.lt e1 a1 c1 a2 c2 a3 c3 ⟨(hI.get (.s .z)), (hI.get (.s (.s .z))), (hI.get (.s (.s (.s .z)))), trivial⟩ r4 hx7) ?_)
 rintro _ w5 ⟨rfl, hx8, hl4⟩
 refine ⟨_, rfl, ?_⟩
 replace hI := (hI.ext hx8)
 refine sq (y_not rfl et) ?_
 refine sa ?_
 refine nk (cif h et (fun hb h => ?_) (fun hb h => ?_))
 ·refine sr (sac ?_)
  refine nk (c_ret ?_)
  obtain rfl := some_inj h
  exact q_ret (vs := [vi 10]) Tryz.results51 ⟨ev_tmp rfl rfl, trivial⟩ (fq hI trivial)
 refine sr (sq (y_loadN (l := [vi e1.Op, (str e1.Name), vi e1.Val.N, vi e1.Val.D, vi e1.Type_.Kind, vi e1.Type_.Bits, vi e1.Type_.Frac, vi e1.Type_.Round, vi e1.Type_.Over, vi e1.Lin.K, vs a1 e1.Lin.L.length c1, vs a2 e1.Idx.length c2, vs a3 e1.Args.length c3]) rfl et u39 rfl size_39 (hI.kblk (l := [vi e1.Op, (str e1.Name), vi e1.Val.N, vi e1.Val.D, vi e1.Type_.Kind, vi e1.Type_.Bits, vi e1.Type_.Frac, vi e1.Type_.Round, vi e1.Type_.Over, vi e1.Lin.K, vs a1 e1.Lin.L.length c1, vs a2 e1.Idx.length c2, vs a3 e1.Args.length c3]) .z rfl).1) ?_)
 obtain ⟨r5, hx9, h⟩ := bnd_some h
 refine s_call gn rfl (r_callF (vs := [(Value.agg #[vi e1.Op, (str e1.Name), vi e1.Val.N, vi e1.Val.D, vi e1.Type_.Kind, vi e1.Type_.Bits, vi e1.Type_.Frac, vi e1.Type_.Round, vi e1.Type_.Over, vi e1.Lin.K, vs a1 e1.Lin.L.length c1, vs a2 e1.Idx.length c2, vs a3 e1.Args.length c3])]) rfl ok_111 ⟨et, trivial⟩) (Calls.mono (c_ref14_formed (Dj F c5) w5 hI.lt e1 a1 c1 a2 c2 a3 c3 ⟨(hI.get (.s .z)), (hI.get (.s (.s .z))), (hI.get (.s (.s (.s .z)))), trivial⟩ r5 hx9) ?_)
 rintro _ w6 ⟨rfl, hx10, hl5⟩
 refine ⟨_, rfl, ?_⟩
 replace hI := (hI.ext hx10)
 refine sq (y_not rfl et) ?_
 refine sa ?_
 refine nk (cif h et (fun hb h => ?_) (fun hb h => ?_))
 ·refine sr (sac ?_)
  refine nk (c_ret ?_)
  obtain rfl := some_inj h
  exact q_ret (vs := [vi 1]) Tryz.results51 ⟨ev_tmp rfl rfl, trivial⟩ (fq hI trivial)
 refine c_skip (k_same (c_seq (sr (sac ?_))))
 refine nk (c_block (c_loop (α := Nat × Int) (fun x => fun w => ∃ C, Bun noM F w0 C w [] [Cl.blk b1 39 #[vi e1.Op, (str e1.Name), vi e1.Val.N, vi e1.Val.D, vi e1.Type_.Kind, vi e1.Type_.Bits, vi e1.Type_.Frac, vi e1.Type_.Round, vi e1.Type_.Over, vi e1.Lin.K, vs a1 e1.Lin.L.length c1, vs a2 e1.Idx.length c2, vs a3 e1.Args.length c3], Cl.sl cGMono a1 c1 e1.Lin.L, Cl.sl cGIndex a2 c2 e1.Idx, Cl.sl cGExpr a3 c3 e1.Args] ∧ m_ref14_part_l1 e1 rec_ (x.1) (x.2) = some r) (fun x _ => x.1) (fun x => [(1, vp b1 0), (3, vi (x.2))]) (fu, 0) ⟨_, hI.arr .n ⟨.z, (.s .z), (.s (.s .z)), (.s (.s (.s .z))), trivial⟩, h⟩ ⟨rfl, rfl, trivial⟩ ?_))
 clear h hI; rintro ⟨fuel1, i1⟩ w7 ⟨c6, hI, h⟩
 dsimp only at hI h
 rcases fuel1 with _ | fuel1
 ·rw [m_ref14_part_l1] at h; cases h
 rw [m_ref14_part_l1] at h
 refine c_sub (e := [(1, vp b1 0), (3, vi i1)]) ⟨rfl, rfl, trivial⟩ ?_
 refine c_seq (sr (sm ?_))
 refine sq (y_fieldAddr rfl et u39 rfl size_37 rfl) ?_
 refine sq (y_load1 (v := (vs a3 e1.Args.length c3)) rfl et u37 rfl (hI.kblk (l := [vs a3 e1.Args.length c3]) .z rfl).1) ?_
 refine sq (y_lenl rfl u37 et) ?_
 refine sq (y_lss rfl et et) ?_
 refine nk (cif h et (fun hb h => ?_) (fun hb h => ?_))
 ·refine c_skip (k_same (c_seq (c_block (sr (sq (y_fieldAddr rfl et u39 rfl size_37 rfl) ?_)))))
  refine sq (y_load1 (v := (vs a3 e1.Args.length c3)) rfl et u37 rfl (hI.kblk (l := [vs a3 e1.Args.length c3]) .z rfl).1) ?_
  refine sm ?_
  obtain ⟨e2, hx11, h⟩ := bnd_some h
  obtain ⟨ad1, cs1, hA1, hr1, hq1⟩ := hI.clat (.s (.s (.s .z))) hx11
  obtain ⟨a4, c7, a5, c8, a6, c9, rfl, hf1, hf2, hf3⟩ := cGExpr_out hr1
  have hI := hI.add (c := Cl.sl cGMono a4 c7 e2.Lin.L) hf1
  have hI := hI.add (c := Cl.sl cGIndex a5 c8 e2.Idx) hf2
  have hI := hI.add (c := Cl.sl cGExpr a6 c9 e2.Args) hf3
  refine sq (y_indexAddr rfl u37 size_39 et et (lat_bd hx11) hA1) ?_
  refine sq (y_loadN (l := [vi e2.Op, (str e2.Name), vi e2.Val.N, vi e2.Val.D, vi e2.Type_.Kind, vi e2.Type_.Bits, vi e2.Type_.Frac, vi e2.Type_.Round, vi e2.Type_.Over, vi e2.Lin.K, vs a4 e2.Lin.L.length c7, vs a5 e2.Idx.length c8, vs a6 e2.Args.length c9]) rfl et u39 rfl size_39 hq1.1) ?_
  obtain ⟨r6, hx12, h⟩ := bnd_some h
  refine s_call gn rfl (r_callF (vs := [(Value.agg #[vi e2.Op, (str e2.Name), vi e2.Val.N, vi e2.Val.D, vi e2.Type_.Kind, vi e2.Type_.Bits, vi e2.Type_.Frac, vi e2.Type_.Round, vi e2.Type_.Over, vi e2.Lin.K, vs a4 e2.Lin.L.length c7, vs a5 e2.Idx.length c8, vs a6 e2.Args.length c9])]) rfl ok_51 ⟨et, trivial⟩) (Calls.mono (hrec (Dj F c6) w7 hI.lt e2 a4 c7 a5 c8 a6 c9 ⟨(hI.get (.s (.s .z))), (hI.get (.s .z)), (hI.get .z), trivial⟩ r6 hx12) ?_)
  rintro _ w8 ⟨rfl, hx13, hl6⟩
  refine ⟨_, rfl, ?_⟩
  replace hI := (hI.ext hx13)
  refine sa ?_
  refine nk (sr (sm ?_))
  refine sq (y_neq rfl et ev_const) ?_
  refine nk (cif h et (fun hb h => ?_) (fun hb h => ?_))
  ·refine sr (sm ?_)
   refine sa ?_
   refine nk (c_ret ?_)
   obtain rfl := some_inj h
   exact q_ret (vs := [vi r6]) Tryz.results51 ⟨ev_tmp rfl rfl, trivial⟩ (fq hI trivial)
  refine c_skip (k_same (c_region rfl ?_))
  refine sm ?_
  refine sq (y_add rfl et ev_const) ?_
  refine sa ?_
  refine s_nil ?_
  exact k_loop (fuel1, wi64 (i1 + 1)) ⟨rfl, rfl, trivial⟩ ⟨_, hI.arr .n ⟨(.s (.s (.s .z))), (.s (.s (.s (.s .z)))), (.s (.s (.s (.s (.s .z))))), (.s (.s (.s (.s (.s (.s .z)))))), trivial⟩, h⟩ (Nat.lt_succ_self _)
 refine c_exit ?_
 refine k_in ?_
 refine k_same (sr (sac ?_))
 refine nk (c_ret ?_)
 obtain rfl := some_inj h
 exact q_ret (vs := [vi 0]) Tryz.results51 ⟨ev_tmp rfl rfl, trivial⟩ (fq hI trivial)
theorem c_ref14_part_r (n : Nat) : ∀ (F : NP) (w0 : World) (hF : ∀ k, F k → k < w0.heap.size) (e1 : GExpr) (a1 : Option Addr) (c1 : Nat) (a2 : Option Addr) (c2 : Nat) (a3 : Option Addr) (c3 : Nat) (hc : AllCl [Cl.sl cGMono a1 c1 e1.Lin.L, Cl.sl cGIndex a2 c2 e1.Idx, Cl.sl cGExpr a3 c3 e1.Args] F w0) (r : Int) (h : m_ref14_part_r n e1 = some r), Calls Tryz.prog 51 #[(Value.agg #[vi e1.Op, (str e1.Name), vi e1.Val.N, vi e1.Val.D, vi e1.Type_.Kind, vi e1.Type_.Bits, vi e1.Type_.Frac, vi e1.Type_.Round, vi e1.Type_.Over, vi e1.Lin.K, vs a1 e1.Lin.L.length c1, vs a2 e1.Idx.length c2, vs a3 e1.Args.length c3])] w0 fun e w => e = .returned (vi r) ∧ Ext w0 w ∧ AllCl [] F w := by
 induction n with
 | zero => intro F w0 hF e1 a1 c1 a2 c2 a3 c3 hc r h; cases h
 | succ n ih => intro F w0 hF e1 a1 c1 a2 c2 a3 c3 hc r h; exact c_ref14_part_b (m_ref14_part_r n) ih F w0 hF e1 a1 c1 a2 c2 a3 c3 hc r h
theorem c_ref14_part (F : NP) (w0 : World) (hF : ∀ k, F k → k < w0.heap.size) (e1 : GExpr) (a1 : Option Addr) (c1 : Nat) (a2 : Option Addr) (c2 : Nat) (a3 : Option Addr) (c3 : Nat) (hc : AllCl [Cl.sl cGMono a1 c1 e1.Lin.L, Cl.sl cGIndex a2 c2 e1.Idx, Cl.sl cGExpr a3 c3 e1.Args] F w0) (r : Int) (h : m_ref14_part e1 = some r) : Calls Tryz.prog 51 #[(Value.agg #[vi e1.Op, (str e1.Name), vi e1.Val.N, vi e1.Val.D, vi e1.Type_.Kind, vi e1.Type_.Bits, vi e1.Type_.Frac, vi e1.Type_.Round, vi e1.Type_.Over, vi e1.Lin.K, vs a1 e1.Lin.L.length c1, vs a2 e1.Idx.length c2, vs a3 e1.Args.length c3])] w0 fun e w => e = .returned (vi r) ∧ Ext w0 w ∧ AllCl [] F w := c_ref14_part_r fu F w0 hF e1 a1 c1 a2 c2 a3 c3 hc r h
theorem c_ref14_Validate (F : NP) (w0 : World) (hF : ∀ k, F k → k < w0.heap.size) (e1 : GExpr) (a1 : Option Addr) (c1 : Nat) (a2 : Option Addr) (c2 : Nat) (a3 : Option Addr) (c3 : Nat) (hc : AllCl [Cl.sl cGMono a1 c1 e1.Lin.L, Cl.sl cGIndex a2 c2 e1.Idx, Cl.sl cGExpr a3 c3 e1.Args] F w0) (r : Int)
  (h : m_ref14_Validate e1 = some r) :
  Calls Tryz.prog 19 #[(Value.agg #[vi e1.Op, (str e1.Name), vi e1.Val.N, vi e1.Val.D, vi e1.Type_.Kind, vi e1.Type_.Bits, vi e1.Type_.Frac, vi e1.Type_.Round, vi e1.Type_.Over, vi e1.Lin.K, vs a1 e1.Lin.L.length c1, vs a2 e1.Idx.length c2, vs a3 e1.Args.length c3])] w0 fun e w => e = .returned (vi r) ∧ Ext w0 w ∧ AllCl [] F w := by
 refine enterK Tryz.func19 rfl Tryz.ntmps19 rfl ?_
 have hI := Bun.start hF hc
 clear hc
 rw [m_ref14_Validate] at h
 refine sr (l_box (v := (Value.agg #[vi e1.Op, (str e1.Name), vi e1.Val.N, vi e1.Val.D, vi e1.Type_.Kind, vi e1.Type_.Bits, vi e1.Type_.Frac, vi e1.Type_.Round, vi e1.Type_.Over, vi e1.Lin.K, vs a1 e1.Lin.L.length c1, vs a2 e1.Idx.length c2, vs a3 e1.Args.length c3])) (cs := #[vi e1.Op, (str e1.Name), vi e1.Val.N, vi e1.Val.D, vi e1.Type_.Kind, vi e1.Type_.Bits, vi e1.Type_.Frac, vi e1.Type_.Round, vi e1.Type_.Over, vi e1.Lin.K, vs a1 e1.Lin.L.length c1, vs a2 e1.Idx.length c2, vs a3 e1.Args.length c3]) hI gn rfl rfl et rfl ?_)
 clear hI; intro b1 c4 w1 hI
 obtain ⟨c5, hI⟩ := hI.relBox .z
 refine sac ?_
 refine nk (c_seq (sr (sq (y_loadN (l := [vi e1.Op, (str e1.Name), vi e1.Val.N, vi e1.Val.D, vi e1.Type_.Kind, vi e1.Type_.Bits, vi e1.Type_.Frac, vi e1.Type_.Round, vi e1.Type_.Over, vi e1.Lin.K, vs a1 e1.Lin.L.length c1, vs a2 e1.Idx.length c2, vs a3 e1.Args.length c3]) rfl et u39 rfl size_39 (hI.kblk (l := [vi e1.Op, (str e1.Name), vi e1.Val.N, vi e1.Val.D, vi e1.Type_.Kind, vi e1.Type_.Bits, vi e1.Type_.Frac, vi e1.Type_.Round, vi e1.Type_.Over, vi e1.Lin.K, vs a1 e1.Lin.L.length c1, vs a2 e1.Idx.length c2, vs a3 e1.Args.length c3]) .z rfl).1) ?_)))
 obtain ⟨r1, hx1, h⟩ := bnd_some h
 refine s_call gn rfl (r_callF (vs := [(Value.agg #[vi e1.Op, (str e1.Name), vi e1.Val.N, vi e1.Val.D, vi e1.Type_.Kind, vi e1.Type_.Bits, vi e1.Type_.Frac, vi e1.Type_.Round, vi e1.Type_.Over, vi e1.Lin.K, vs a1 e1.Lin.L.length c1, vs a2 e1.Idx.length c2, vs a3 e1.Args.length c3])]) rfl ok_49 ⟨et, trivial⟩) (Calls.mono (c_ref14_Depth (Dj F c5) w1 hI.lt e1 a1 c1 a2 c2 a3 c3 ⟨(hI.get (.s .z)), (hI.get (.s (.s .z))), (hI.get (.s (.s (.s .z)))), trivial⟩ r1 hx1) ?_)
 rintro _ w2 ⟨rfl, hx2, hl1⟩
 refine ⟨_, rfl, ?_⟩
 replace hI := (hI.ext hx2)
 refine sq (y_gtr rfl et ev_const) ?_
 refine nk (cif h et (fun hb h => ?_) (fun hb h => ?_))
 ·refine sr (sac ?_)
  refine nk (c_ret ?_)
  obtain rfl := some_inj h
  exact q_ret (vs := [vi 13]) Tryz.results19 ⟨ev_tmp rfl rfl, trivial⟩ (fq hI trivial)
 refine c_skip (k_same (c_seq (sr (sq (y_loadN (l := [vi e1.Op, (str e1.Name), vi e1.Val.N, vi e1.Val.D, vi e1.Type_.Kind, vi e1.Type_.Bits, vi e1.Type_.Frac, vi e1.Type_.Round, vi e1.Type_.Over, vi e1.Lin.K, vs a1 e1.Lin.L.length c1, vs a2 e1.Idx.length c2, vs a3 e1.Args.length c3]) rfl et u39 rfl size_39 (hI.kblk (l := [vi e1.Op, (str e1.Name), vi e1.Val.N, vi e1.Val.D, vi e1.Type_.Kind, vi e1.Type_.Bits, vi e1.Type_.Frac, vi e1.Type_.Round, vi e1.Type_.Over, vi e1.Lin.K, vs a1 e1.Lin.L.length c1, vs a2 e1.Idx.length c2, vs a3 e1.Args.length c3]) .z rfl).1) ?_))))
 obtain ⟨r2, hx3, h⟩ := bnd_some h
 refine s_call gn rfl (r_callF (vs := [(Value.agg #[vi e1.Op, (str e1.Name), vi e1.Val.N, vi e1.Val.D, vi e1.Type_.Kind, vi e1.Type_.Bits, vi e1.Type_.Frac, vi e1.Type_.Round, vi e1.Type_.Over, vi e1.Lin.K, vs a1 e1.Lin.L.length c1, vs a2 e1.Idx.length c2, vs a3 e1.Args.length c3])]) rfl ok_50 ⟨et, trivial⟩) (Calls.mono (c_ref14_Size (Dj F c5) w2 hI.lt e1 a1 c1 a2 c2 a3 c3 ⟨(hI.get (.s .z)), (hI.get (.s (.s .z))), (hI.get (.s (.s (.s .z)))), trivial⟩ r2 hx3) ?_)
 rintro _ w3 ⟨rfl, hx4, hl2⟩
 refine ⟨_, rfl, ?_⟩
 replace hI := (hI.ext hx4)
 refine sq (y_gtr rfl et ev_const) ?_
 refine nk (cif h et (fun hb h => ?_) (fun hb h => ?_))
 ·refine sr (sac ?_)
  refine nk (c_ret ?_)
  obtain rfl := some_inj h
  exact q_ret (vs := [vi 2]) Tryz.results19 ⟨ev_tmp rfl rfl, trivial⟩ (fq hI trivial)
 refine c_skip (k_same (sr (sq (y_loadN (l := [vi e1.Op, (str e1.Name), vi e1.Val.N, vi e1.Val.D, vi e1.Type_.Kind, vi e1.Type_.Bits, vi e1.Type_.Frac, vi e1.Type_.Round, vi e1.Type_.Over, vi e1.Lin.K, vs a1 e1.Lin.L.length c1, vs a2 e1.Idx.length c2, vs a3 e1.Args.length c3]) rfl et u39 rfl size_39 (hI.kblk (l := [vi e1.Op, (str e1.Name), vi e1.Val.N, vi e1.Val.D, vi e1.Type_.Kind, vi e1.Type_.Bits, vi e1.Type_.Frac, vi e1.Type_.Round, vi e1.Type_.Over, vi e1.Lin.K, vs a1 e1.Lin.L.length c1, vs a2 e1.Idx.length c2, vs a3 e1.Args.length c3]) .z rfl).1) ?_)))
 obtain ⟨r3, hx5, h⟩ := bnd_some h
 refine s_call gn rfl (r_callF (vs := [(Value.agg #[vi e1.Op, (str e1.Name), vi e1.Val.N, vi e1.Val.D, vi e1.Type_.Kind, vi e1.Type_.Bits, vi e1.Type_.Frac, vi e1.Type_.Round, vi e1.Type_.Over, vi e1.Lin.K, vs a1 e1.Lin.L.length c1, vs a2 e1.Idx.length c2, vs a3 e1.Args.length c3])]) rfl ok_51 ⟨et, trivial⟩) (Calls.mono (c_ref14_part (Dj F c5) w3 hI.lt e1 a1 c1 a2 c2 a3 c3 ⟨(hI.get (.s .z)), (hI.get (.s (.s .z))), (hI.get (.s (.s (.s .z)))), trivial⟩ r3 hx5) ?_)
 rintro _ w4 ⟨rfl, hx6, hl3⟩
 refine ⟨_, rfl, ?_⟩
 replace hI := (hI.ext hx6)
 refine sa ?_
 refine nk (c_ret ?_)
 obtain rfl := some_inj h
 exact q_ret (vs := [vi r3]) Tryz.results19 ⟨ev_tmp rfl rfl, trivial⟩ (fq hI trivial)
theorem c_ref15_sign (F : NP) (w0 : World) (hF : ∀ k, F k → k < w0.heap.size) (op1 : Int) (hc : AllCl [] F w0) (r : List UInt8)
  (h : m_ref15_sign op1 = some r) :
  Calls Tryz.prog 101 #[vi op1] w0 fun e w => e = .returned (str r) ∧ Ext w0 w ∧ AllCl [] F w := by
 refine enterK Tryz.func101 rfl Tryz.ntmps101 rfl ?_
 have hI := Bun.start hF hc
 clear hc
 rw [m_ref15_sign] at h
 refine sr (sac ?_)
 refine nk (c_seq (sr (sm ?_)))
 refine nk (c_block (sr (sq (y_eql rfl et ev_const) ?_)))
 refine sa ?_
 refine nk (cif h et (fun hb h => ?_) (fun hb h => ?_))
 ·refine sr (sac ?_)
  refine nk (c_ret ?_)
  obtain rfl := some_inj h
  exact q_ret (vs := [(str ([32, 43, 32] : List UInt8))]) Tryz.results101 ⟨ev_tmp rfl rfl, trivial⟩ (fq hI trivial)
 refine sr (sq (y_eql rfl et ev_const) ?_)
 refine sa ?_
 refine nk (cif h et (fun hb h => ?_) (fun hb h => ?_))
 ·refine sr (sac ?_)
  refine nk (c_ret ?_)
  obtain rfl := some_inj h
  exact q_ret (vs := [(str ([32, 45, 32] : List UInt8))]) Tryz.results101 ⟨ev_tmp rfl rfl, trivial⟩ (fq hI trivial)
 refine sr (sq (y_eql rfl et ev_const) ?_)
 refine sa ?_
 refine nk (cif h et (fun hb h => ?_) (fun hb h => ?_))
 ·refine sr (sac ?_)
  refine nk (c_ret ?_)
  obtain rfl := some_inj h
  exact q_ret (vs := [(str ([32, 42, 32] : List UInt8))]) Tryz.results101 ⟨ev_tmp rfl rfl, trivial⟩ (fq hI trivial)
 refine sr (sq (y_eql rfl et ev_const) ?_)
 refine sa ?_
 refine nk (cif h et (fun hb h => ?_) (fun hb h => ?_))
 ·refine sr (sac ?_)
  refine nk (c_ret ?_)
  obtain rfl := some_inj h
  exact q_ret (vs := [(str ([32, 47, 32] : List UInt8))]) Tryz.results101 ⟨ev_tmp rfl rfl, trivial⟩ (fq hI trivial)
 refine sr (sq (y_eql rfl et ev_const) ?_)
 refine sa ?_
 refine nk (cif h et (fun hb h => ?_) (fun hb h => ?_))
 ·refine sr (sac ?_)
  refine nk (c_ret ?_)
  obtain rfl := some_inj h
  exact q_ret (vs := [(str ([32, 60, 32] : List UInt8))]) Tryz.results101 ⟨ev_tmp rfl rfl, trivial⟩ (fq hI trivial)
 refine sr (sq (y_eql rfl et ev_const) ?_)
 refine sa ?_
 refine nk (cif h et (fun hb h => ?_) (fun hb h => ?_))
 ·refine sr (sac ?_)
  refine nk (c_ret ?_)
  obtain rfl := some_inj h
  exact q_ret (vs := [(str ([32, 60, 61, 32] : List UInt8))]) Tryz.results101 ⟨ev_tmp rfl rfl, trivial⟩ (fq hI trivial)
 refine sr (sq (y_eql rfl et ev_const) ?_)
 refine sa ?_
 refine nk (cif h et (fun hb h => ?_) (fun hb h => ?_))
 ·refine sr (sac ?_)
  refine nk (c_ret ?_)
  obtain rfl := some_inj h
  exact q_ret (vs := [(str ([32, 61, 61, 32] : List UInt8))]) Tryz.results101 ⟨ev_tmp rfl rfl, trivial⟩ (fq hI trivial)
 refine sr (sq (y_eql rfl et ev_const) ?_)
 refine sa ?_
 refine nk (cif h et (fun hb h => ?_) (fun hb h => ?_))
 ·refine sr (sac ?_)
  refine nk (c_ret ?_)
  obtain rfl := some_inj h
  exact q_ret (vs := [(str ([32, 38, 32] : List UInt8))]) Tryz.results101 ⟨ev_tmp rfl rfl, trivial⟩ (fq hI trivial)
 refine sr (sq (y_eql rfl et ev_const) ?_)
 refine sa ?_
 refine nk (cif h et (fun hb h => ?_) (fun hb h => ?_))
 ·refine sr (sac ?_)
  refine nk (c_ret ?_)
  obtain rfl := some_inj h
  exact q_ret (vs := [(str ([32, 124, 32] : List UInt8))]) Tryz.results101 ⟨ev_tmp rfl rfl, trivial⟩ (fq hI trivial)
 refine c_skip (k_same (sr (sac ?_)))
 refine nk (c_ret ?_)
 obtain rfl := some_inj h
 exact q_ret (vs := [(str ([] : List UInt8))]) Tryz.results101 ⟨ev_tmp rfl rfl, trivial⟩ (fq hI trivial)
theorem c_ref15_Level (F : NP) (w0 : World) (hF : ∀ k, F k → k < w0.heap.size) (op1 : Int) (hc : AllCl [] F w0) (r : Int)
  (h : m_ref15_Level op1 = some r) :
  Calls Tryz.prog 103 #[vi op1] w0 fun e w => e = .returned (vi r) ∧ Ext w0 w ∧ AllCl [] F w := by
 refine enterK Tryz.func103 rfl Tryz.ntmps103 rfl ?_
 have hI := Bun.start hF hc
 clear hc
 rw [m_ref15_Level] at h
 refine sr (sac ?_)
 refine nk (c_seq (sr (sm ?_)))
 refine nk (c_block (sr (sq (y_eql rfl et ev_const) ?_)))
 refine sa ?_
 refine nk (cif h et (fun hb h => ?_) (fun hb h => ?_))
 ·refine sr (sac ?_)
  refine nk (c_ret ?_)
  obtain rfl := some_inj h
  exact q_ret (vs := [vi 1]) Tryz.results103 ⟨ev_tmp rfl rfl, trivial⟩ (fq hI trivial)
 refine sr (sq (y_eql rfl et ev_const) ?_)
 refine sa ?_
 refine nk (cif h et (fun hb h => ?_) (fun hb h => ?_))
 ·refine sr (sac ?_)
  refine nk (c_ret ?_)
  obtain rfl := some_inj h
  exact q_ret (vs := [vi 2]) Tryz.results103 ⟨ev_tmp rfl rfl, trivial⟩ (fq hI trivial)
 refine sr (sq (y_eql rfl et ev_const) ?_)
 refine sa ?_
 refine nk (cif h et (fun hb h => ?_) (fun hb h => ?_))
 ·refine sr (sac ?_)
  refine nk (c_ret ?_)
  obtain rfl := some_inj h
  exact q_ret (vs := [vi 3]) Tryz.results103 ⟨ev_tmp rfl rfl, trivial⟩ (fq hI trivial)
 refine c_join (α := Bool) (fun _ => ⟨22, []⟩) (fun x => [(3, vi op1), (10, vb x)]) (fun x => fun w => ∃ C, Bun noM F w0 C w [] [] ∧ m_ref15_Level_j1 op1 x = some r) ?_ ?_
 ·clear h hI; rintro i1 w1 ⟨c1, hI, h⟩
  try dsimp only at hI h
  rw [m_ref15_Level_j1] at h
  refine c_sub (e := [(3, vi op1), (10, vb i1)]) ⟨rfl, rfl, trivial⟩ ?_
  refine cif h et (fun hb h => ?_) (fun hb h => ?_)
  ·refine sr (sac ?_)
   refine nk (c_ret ?_)
   obtain rfl := some_inj h
   exact q_ret (vs := [vi 4]) Tryz.results103 ⟨ev_tmp rfl rfl, trivial⟩ (fq hI trivial)
  refine c_join (α := Bool) (fun _ => ⟨22, []⟩) (fun x => [(3, vi op1), (14, vb x)]) (fun x => fun w => ∃ C, Bun noM F w0 C w [] [] ∧ m_ref15_Level_j2 op1 x = some r) ?_ ?_
  ·clear h hI; rintro i2 w2 ⟨c2, hI, h⟩
   try dsimp only at hI h
   rw [m_ref15_Level_j2] at h
   refine c_sub (e := [(3, vi op1), (14, vb i2)]) ⟨rfl, rfl, trivial⟩ ?_
   refine cif h et (fun hb h => ?_) (fun hb h => ?_)
   ·refine sr (sac ?_)
    refine nk (c_ret ?_)
    obtain rfl := some_inj h
    exact q_ret (vs := [vi 5]) Tryz.results103 ⟨ev_tmp rfl rfl, trivial⟩ (fq hI trivial)
   refine c_join (α := Bool) (fun _ => ⟨22, []⟩) (fun x => [(3, vi op1), (17, vb x)]) (fun x => fun w => ∃ C, Bun noM F w0 C w [] [] ∧ m_ref15_Level_j3 op1 x = some r) ?_ ?_
   ·clear h hI; rintro i3 w3 ⟨c3, hI, h⟩
    try dsimp only at hI h
    rw [m_ref15_Level_j3] at h
    refine c_sub (e := [(3, vi op1), (17, vb i3)]) ⟨rfl, rfl, trivial⟩ ?_
    refine cif h et (fun hb h => ?_) (fun hb h => ?_)
    ·refine sr (sac ?_)
     refine nk (c_ret ?_)
     obtain rfl := some_inj h
     exact q_ret (vs := [vi 6]) Tryz.results103 ⟨ev_tmp rfl rfl, trivial⟩ (fq hI trivial)
    refine sr (sq (y_eql rfl et ev_const) ?_)
    refine sa ?_
    refine nk (cif h et (fun hb h => ?_) (fun hb h => ?_))
    ·refine sr (sac ?_)
     refine nk (c_ret ?_)
     obtain rfl := some_inj h
     exact q_ret (vs := [vi 7]) Tryz.results103 ⟨ev_tmp rfl rfl, trivial⟩ (fq hI trivial)
    refine c_skip (k_same (sr (sac ?_)))
    refine nk (c_ret ?_)
    obtain rfl := some_inj h
    exact q_ret (vs := [vi 8]) Tryz.results103 ⟨ev_tmp rfl rfl, trivial⟩ (fq hI trivial)
   refine sr (sq (y_eql rfl et ev_const) ?_)
   refine sa ?_
   refine nk (cif h et (fun hb h => ?_) (fun hb h => ?_))
   ·exact c_skip (k_join (decide (op1 = 6)) ⟨rfl, rfl, trivial⟩ ⟨_, hI.arr .n trivial, h⟩ rfl)
   refine c_region rfl ?_
   refine sq (y_eql rfl et ev_const) ?_
   refine sa ?_
   refine s_nil ?_
   exact k_join (decide (op1 = 7)) ⟨rfl, rfl, trivial⟩ ⟨_, hI.arr .n trivial, h⟩ rfl
  refine sr (sq (y_eql rfl et ev_const) ?_)
  refine sa ?_
  refine nk (cif h et (fun hb h => ?_) (fun hb h => ?_))
  ·exact c_skip (k_join (decide (op1 = 4)) ⟨rfl, rfl, trivial⟩ ⟨_, hI.arr .n trivial, h⟩ rfl)
  refine c_region rfl ?_
  refine sq (y_eql rfl et ev_const) ?_
  refine sa ?_
  refine s_nil ?_
  exact k_join (decide (op1 = 5)) ⟨rfl, rfl, trivial⟩ ⟨_, hI.arr .n trivial, h⟩ rfl
 refine sr (sq (y_eql rfl et ev_const) ?_)
 refine sa ?_
 refine nk (cif h et (fun hb h => ?_) (fun hb h => ?_))
 ·exact c_skip (k_join (decide (op1 = 13)) ⟨rfl, rfl, trivial⟩ ⟨_, hI.arr .n trivial, h⟩ rfl)
 refine sr (sq (y_eql rfl et ev_const) ?_)
 refine sa ?_
 refine nk (cif h et (fun hb h => ?_) (fun hb h => ?_))
 ·exact c_skip (k_join (decide (op1 = 14)) ⟨rfl, rfl, trivial⟩ ⟨_, hI.arr .n trivial, h⟩ rfl)
 refine c_region rfl ?_
 refine sq (y_eql rfl et ev_const) ?_
 refine sa ?_
 refine s_nil ?_
 exact k_join (decide (op1 = 15)) ⟨rfl, rfl, trivial⟩ ⟨_, hI.arr .n trivial, h⟩ rfl
theorem c_ref15_operand (rec_ : (GExpr → Option (List UInt8))) (hrec : ∀ (F : NP) (w0 : World) (hF : ∀ k, F k → k < w0.heap.size) (e1 : GExpr) (a1 : Option Addr) (c1 : Nat) (a2 : Option Addr) (c2 : Nat) (a3 : Option Addr) (c3 : Nat) (hc : AllCl [Cl.sl cGMono a1 c1 e1.Lin.L, Cl.sl cGIndex a2 c2 e1.Idx, Cl.sl cGExpr a3 c3 e1.Args] F w0) (r : List UInt8) (h : rec_ e1 = some r), Calls Tryz.prog 48 #[(Value.agg #[vi e1.Op, (str e1.Name), vi e1.Val.N, vi e1.Val.D, vi e1.Type_.Kind, vi e1.Type_.Bits, vi e1.Type_.Frac, vi e1.Type_.Round, vi e1.Type_.Over, vi e1.Lin.K, vs a1 e1.Lin.L.length c1, vs a2 e1.Idx.length c2, vs a3 e1.Args.length c3])] w0 fun e w => e = .returned (str r) ∧ Ext w0 w ∧ AllCl [] F w) (F : NP) (w0 : World) (hF : ∀ k, F k → k < w0.heap.size) (e1 : GExpr) (least1 : Int) (a1 : Option Addr) (c1 : Nat) (a2 : Option Addr) (c2 : Nat) (a3 : Option Addr) (c3 : Nat) (hc : AllCl [Cl.sl cGMono a1 c1 e1.Lin.L, Cl.sl cGIndex a2 c2 e1.Idx, Cl.sl cGExpr a3 c3 e1.Args] F w0) (r : List UInt8)
  (h : m_ref15_operand rec_ e1 least1 = some r) :
  Calls Tryz.prog 102 #[(Value.agg #[vi e1.Op, (str e1.Name), vi e1.Val.N, vi e1.Val.D, vi e1.Type_.Kind, vi e1.Type_.Bits, vi e1.Type_.Frac, vi e1.Type_.Round, vi e1.Type_.Over, vi e1.Lin.K, vs a1 e1.Lin.L.length c1, vs a2 e1.Idx.length c2, vs a3 e1.Args.length c3]), vi least1] w0 fun e w => e = .returned (str r) ∧ Ext w0 w ∧ AllCl [] F w := by
 refine enterK Tryz.func102 rfl Tryz.ntmps102 rfl ?_
 have hI := Bun.start hF hc
 clear hc
 rw [m_ref15_operand] at h
 refine sr (l_box (v := (Value.agg #[vi e1.Op, (str e1.Name), vi e1.Val.N, vi e1.Val.D, vi e1.Type_.Kind, vi e1.Type_.Bits, vi e1.Type_.Frac, vi e1.Type_.Round, vi e1.Type_.Over, vi e1.Lin.K, vs a1 e1.Lin.L.length c1, vs a2 e1.Idx.length c2, vs a3 e1.Args.length c3])) (cs := #[vi e1.Op, (str e1.Name), vi e1.Val.N, vi e1.Val.D, vi e1.Type_.Kind, vi e1.Type_.Bits, vi e1.Type_.Frac, vi e1.Type_.Round, vi e1.Type_.Over, vi e1.Lin.K, vs a1 e1.Lin.L.length c1, vs a2 e1.Idx.length c2, vs a3 e1.Args.length c3]) hI gn rfl rfl et rfl ?_)
 clear hI; intro b1 c4 w1 hI
 obtain ⟨c5, hI⟩ := hI.relBox .z
 refine sac ?_
 refine nk (c_seq (sr (sq (y_fieldAddr rfl et u39 rfl size_3 rfl) ?_)))
 refine sq (y_load1 (v := (vi e1.Op)) rfl et u3 rfl (hI.kblk (l := [vi e1.Op]) .z rfl).1) ?_
 obtain ⟨r1, hx1, h⟩ := bnd_some h
 refine s_call gn rfl (r_callF (vs := [vi e1.Op]) rfl ok_103 ⟨et, trivial⟩) (Calls.mono (c_ref15_Level (Dj F c5) w1 hI.lt e1.Op trivial r1 hx1) ?_)
 rintro _ w2 ⟨rfl, hx2, hl1⟩
 refine ⟨_, rfl, ?_⟩
 replace hI := (hI.ext hx2)
 refine sm ?_
 refine sq (y_lss rfl et et) ?_
 refine nk (cif h et (fun hb h => ?_) (fun hb h => ?_))
 ·refine sr (sq (y_loadN (l := [vi e1.Op, (str e1.Name), vi e1.Val.N, vi e1.Val.D, vi e1.Type_.Kind, vi e1.Type_.Bits, vi e1.Type_.Frac, vi e1.Type_.Round, vi e1.Type_.Over, vi e1.Lin.K, vs a1 e1.Lin.L.length c1, vs a2 e1.Idx.length c2, vs a3 e1.Args.length c3]) rfl et u39 rfl size_39 (hI.kblk (l := [vi e1.Op, (str e1.Name), vi e1.Val.N, vi e1.Val.D, vi e1.Type_.Kind, vi e1.Type_.Bits, vi e1.Type_.Frac, vi e1.Type_.Round, vi e1.Type_.Over, vi e1.Lin.K, vs a1 e1.Lin.L.length c1, vs a2 e1.Idx.length c2, vs a3 e1.Args.length c3]) .z rfl).1) ?_)
  obtain ⟨r2, hx3, h⟩ := bnd_some h
  refine s_call gn rfl (r_callF (vs := [(Value.agg #[vi e1.Op, (str e1.Name), vi e1.Val.N, vi e1.Val.D, vi e1.Type_.Kind, vi e1.Type_.Bits, vi e1.Type_.Frac, vi e1.Type_.Round, vi e1.Type_.Over, vi e1.Lin.K, vs a1 e1.Lin.L.length c1, vs a2 e1.Idx.length c2, vs a3 e1.Args.length c3])]) rfl ok_48 ⟨et, trivial⟩) (Calls.mono (hrec (Dj F c5) w2 hI.lt e1 a1 c1 a2 c2 a3 c3 ⟨(hI.get (.s .z)), (hI.get (.s (.s .z))), (hI.get (.s (.s (.s .z)))), trivial⟩ r2 hx3) ?_)
  rintro _ w3 ⟨rfl, hx4, hl2⟩
  refine ⟨_, rfl, ?_⟩
  replace hI := (hI.ext hx4)
  obtain ⟨s1, hx5, h⟩ := bnd_some h
  refine sq (y_catl rfl ev_const et hx5) ?_
  obtain ⟨s2, hx6, h⟩ := bnd_some h
  refine sq (y_catl rfl et ev_const hx6) ?_
  refine sa ?_
  refine nk (c_ret ?_)
  obtain rfl := some_inj h
  exact q_ret (vs := [(str s2)]) Tryz.results102 ⟨ev_tmp rfl rfl, trivial⟩ (fq hI trivial)
 refine c_skip (k_same (sr (sq (y_loadN (l := [vi e1.Op, (str e1.Name), vi e1.Val.N, vi e1.Val.D, vi e1.Type_.Kind, vi e1.Type_.Bits, vi e1.Type_.Frac, vi e1.Type_.Round, vi e1.Type_.Over, vi e1.Lin.K, vs a1 e1.Lin.L.length c1, vs a2 e1.Idx.length c2, vs a3 e1.Args.length c3]) rfl et u39 rfl size_39 (hI.kblk (l := [vi e1.Op, (str e1.Name), vi e1.Val.N, vi e1.Val.D, vi e1.Type_.Kind, vi e1.Type_.Bits, vi e1.Type_.Frac, vi e1.Type_.Round, vi e1.Type_.Over, vi e1.Lin.K, vs a1 e1.Lin.L.length c1, vs a2 e1.Idx.length c2, vs a3 e1.Args.length c3]) .z rfl).1) ?_)))
 obtain ⟨r3, hx7, h⟩ := bnd_some h
 refine s_call gn rfl (r_callF (vs := [(Value.agg #[vi e1.Op, (str e1.Name), vi e1.Val.N, vi e1.Val.D, vi e1.Type_.Kind, vi e1.Type_.Bits, vi e1.Type_.Frac, vi e1.Type_.Round, vi e1.Type_.Over, vi e1.Lin.K, vs a1 e1.Lin.L.length c1, vs a2 e1.Idx.length c2, vs a3 e1.Args.length c3])]) rfl ok_48 ⟨et, trivial⟩) (Calls.mono (hrec (Dj F c5) w2 hI.lt e1 a1 c1 a2 c2 a3 c3 ⟨(hI.get (.s .z)), (hI.get (.s (.s .z))), (hI.get (.s (.s (.s .z)))), trivial⟩ r3 hx7) ?_)
 rintro _ w4 ⟨rfl, hx8, hl3⟩
 refine ⟨_, rfl, ?_⟩
 replace hI := (hI.ext hx8)
 refine sa ?_
 refine nk (c_ret ?_)
 obtain rfl := some_inj h
 exact q_ret (vs := [(str r3)]) Tryz.results102 ⟨ev_tmp rfl rfl, trivial⟩ (fq hI trivial)
theorem c_ref04_Valid (F : NP) (w0 : World) (hF : ∀ k, F k → k < w0.heap.size) (t1 : GType) (v1 : GVal) (hc : AllCl [] F w0) (r : Bool)
  (h : m_ref04_Valid t1 v1 = some r) :
  Calls Tryz.prog 136 #[(Value.agg (AType t1)), (Value.agg (AVal v1))] w0 fun e w => e = .returned (vb r) ∧ Ext w0 w ∧ AllCl [] F w := by
 refine enterK Tryz.func136 rfl Tryz.ntmps136 rfl ?_
 have hI := Bun.start hF hc
 clear hc
 rw [m_ref04_Valid] at h
 refine sr (l_box (v := (Value.agg (AType t1))) (cs := (AType t1)) hI gn rfl rfl et rfl ?_)
 clear hI; intro b1 c1 w1 hI
 obtain ⟨c2, hI⟩ := hI.relBox .z
 refine l_box (v := (Value.agg (AVal v1))) (cs := (AVal v1)) hI gn rfl rfl et rfl ?_
 clear hI; intro b2 c3 w2 hI
 obtain ⟨c4, hI⟩ := hI.relBox .z
 refine sac ?_
 refine nk (sr (sq (y_loadN (l := (lType t1)) rfl et u23 rfl size_23 (hI.kblk (l := (lType t1)) (.s .z) rfl).1) ?_))
 obtain ⟨r1, hx1, h⟩ := bnd_some h
 refine s_call gn rfl (r_callF (vs := [(Value.agg (AType t1))]) rfl ok_31 ⟨et, trivial⟩) (Calls.mono (c_base_Type (Dj F c4) w2 hI.lt t1 trivial r1 hx1) ?_)
 rintro _ w3 ⟨rfl, hx2, hl1⟩
 refine ⟨_, rfl, ?_⟩
 replace hI := (hI.ext hx2)
 refine sm ?_
 refine s_gval (g_true rfl rfl rfl rfl) rfl (fun hc => (y_loadN (l := (lType t1)) rfl et u23 rfl size_23 (hI.kblk (l := (lType t1)) (.s .z) rfl).1)) ?_
 refine s_gval (g_true rfl rfl rfl rfl) rfl (fun hc => (y_loadN (l := (lVal v1)) rfl et u36 rfl size_36 (hI.kblk (l := (lVal v1)) .z rfl).1)) ?_
 obtain ⟨r2, hx3, h⟩ := bnd_some h
 replace hx3 := gd_some hx3
 refine s_gcallU (v := (vb r2)) (g_true rfl rfl rfl rfl) rfl (fun hc => (r_callF (vs := [(Value.agg (AType t1)), (Value.agg (AVal v1))]) rfl ok_142 ⟨(ev_gv et hc), ⟨(ev_gv et hc), trivial⟩⟩)) (fun hc => (c_base_Val (Dj F c4) w3 hI.lt t1 v1 trivial r2 (hx3 hc)).mono fun _ _ k => ⟨k.1, k.2.1⟩) ?_
 intro w4 hx4; replace hI := hI.ext hx4
 refine sq (y_and rfl et et) ?_
 refine sa ?_
 refine nk (c_ret ?_)
 obtain rfl := some_inj h
 exact q_ret (vs := [vb (r1 && r2)]) Tryz.results136 ⟨ev_tmp rfl rfl, trivial⟩ (fq hI trivial)
theorem c_ref04_step (F : NP) (w0 : World) (hF : ∀ k, F k → k < w0.heap.size) (t1 : GType) (hc : AllCl [] F w0) (r : Int)
  (h : m_ref04_step t1 = some r) :
  Calls Tryz.prog 168 #[(Value.agg (AType t1))] w0 fun e w => e = .returned (vi r) ∧ Ext w0 w ∧ AllCl [] F w := by
 refine enterK Tryz.func168 rfl Tryz.ntmps168 rfl ?_
 have hI := Bun.start hF hc
 clear hc
 rw [m_ref04_step] at h
 refine sr (l_box (v := (Value.agg (AType t1))) (cs := (AType t1)) hI gn rfl rfl et rfl ?_)
 clear hI; intro b1 c1 w1 hI
 obtain ⟨c2, hI⟩ := hI.relBox .z
 refine sac ?_
 refine nk (sr (sq (y_fieldAddr rfl et u23 rfl size_3 rfl) ?_))
 refine sq (y_load1 (v := (vi t1.Frac)) rfl et u3 rfl (hI.kblk (l := [vi t1.Frac]) .z rfl).1) ?_
 refine sq (y_conv rfl (by rw [u3]; rfl) u166 et) ?_
 obtain ⟨ho1, h⟩ := chk_some h
 refine sq (y_shl rfl ev_const et ho1) ?_
 refine sa ?_
 refine nk (c_ret ?_)
 obtain rfl := some_inj h
 exact q_ret (vs := [(vi (wi64 (1 * 2 ^ (min (Int.toNat (wu64 t1.Frac)) 64))))]) Tryz.results168 ⟨ev_tmp rfl rfl, trivial⟩ (fq hI trivial)
theorem c_ref01_gcd (F : NP) (w0 : World) (hF : ∀ k, F k → k < w0.heap.size) (a1 : Int) (b1 : Int) (hc : AllCl [] F w0) (r : Int)
  (h : m_ref01_gcd a1 b1 = some r) :
  Calls Tryz.prog 190 #[(Value.int .u64 a1), (Value.int .u64 b1)] w0 fun e w => e = .returned (Value.int .u64 r) ∧ Ext w0 w ∧ AllCl [] F w := by
 refine enterK Tryz.func190 rfl Tryz.ntmps190 rfl ?_
 have hI := Bun.start hF hc
 clear hc
 rw [m_ref01_gcd] at h
 refine sr (sac ?_)
 refine nk (c_seq (c_block (c_loop (α := Nat × Int × Int) (fun x => fun w => ∃ C, Bun noM F w0 C w [] [] ∧ m_ref01_gcd_l1 (x.1) (x.2.1) (x.2.2) = some r) (fun x _ => x.1) (fun x => [(0, (Value.int .u64 (x.2.1))), (1, (Value.int .u64 (x.2.2)))]) (fu, a1, b1) ⟨_, hI.arr .n trivial, h⟩ ⟨rfl, rfl, trivial⟩ ?_)))
 clear h hI; rintro ⟨fuel1, a2, b2⟩ w1 ⟨c1, hI, h⟩
 dsimp only at hI h
 rcases fuel1 with _ | fuel1
 ·rw [m_ref01_gcd_l1] at h; cases h
 rw [m_ref01_gcd_l1] at h
 refine c_sub (e := [(0, (Value.int .u64 a2)), (1, (Value.int .u64 b2))]) ⟨rfl, rfl, trivial⟩ ?_
 refine c_seq (sr (sm ?_))
 refine sq (y_neq rfl et ev_const) ?_
 refine nk (cif h et (fun hb h => ?_) (fun hb h => ?_))
 ·refine c_skip (k_same (c_block (c_drawX [] false (.c (0, .q) (.c (1, .q) (.c (2, .q) (.c (3, .q) (.c (4, .q) (.c (5, .q) .n)))))) hI (by kernel_rfl) (by kernel_rfl) ?_)))
  clear hI; intro w2 hI
  refine a_q rfl gn rfl (fun w' => y_move rfl et) ?_
  refine a_q rfl gn rfl (fun w' => y_move rfl et) ?_
  refine a_q rfl gn rfl (fun w' => y_move rfl et) ?_
  obtain ⟨ho1, h⟩ := chk_some h
  refine a_q rfl gn rfl (fun w' => y_rem rfl et et ho1) ?_
  refine a_q rfl gn rfl (fun w' => y_assign rfl et) ?_
  refine a_q rfl gn rfl (fun w' => y_assign rfl et) ?_
  refine a_nil ?_
  exact k_loop (fuel1, b2, Int.tmod a2 b2) ⟨rfl, rfl, trivial⟩ ⟨_, hI.arr .n trivial, h⟩ (Nat.lt_succ_self _)
 refine c_exit ?_
 refine k_in ?_
 refine k_same (sr (sm ?_))
 refine sa ?_
 refine nk (c_ret ?_)
 obtain rfl := some_inj h
 exact q_ret (vs := [(Value.int .u64 a2)]) Tryz.results190 ⟨ev_tmp rfl rfl, trivial⟩ (fq hI trivial)
theorem c_ref01_made (F : NP) (w0 : World) (hF : ∀ k, F k → k < w0.heap.size) (minus1 : Bool) (n1 : Int) (d1 : Int) (hc : AllCl [] F w0) (r : GVal × Int)
  (h : m_ref01_made minus1 n1 d1 = some r) :
  Calls Tryz.prog 185 #[vb minus1, (Value.int .u64 n1), (Value.int .u64 d1)] w0 fun e w => e = .returned (Value.tuple #[(Value.agg (AVal r.1)), vi r.2]) ∧ Ext w0 w ∧ AllCl [] F w := by
 refine enterK Tryz.func185 rfl Tryz.ntmps185 rfl ?_
 have hI := Bun.start hF hc
 clear hc
 rw [m_ref01_made] at h
 refine sr (l_alloc (cs := #[vi 0, vi 0]) hI gn rfl rfl zero_36 rfl ?_)
 clear hI; intro b1 c1 w1 hI
 refine sac ?_
 refine nk (sr (sm ?_))
 refine sm ?_
 obtain ⟨r1, hx1, h⟩ := bnd_some h
 refine s_call gn rfl (r_callF (vs := [(Value.int .u64 n1), (Value.int .u64 d1)]) rfl ok_190 ⟨et, ⟨et, trivial⟩⟩) (Calls.mono (c_ref01_gcd (Dj F c1) w1 hI.lt n1 d1 trivial r1 hx1) ?_)
 rintro _ w2 ⟨rfl, hx2, hl1⟩
 refine ⟨_, rfl, ?_⟩
 replace hI := (hI.ext hx2)
 refine sa ?_
 refine nk (sr (sm ?_))
 refine sm ?_
 obtain ⟨ho1, h⟩ := chk_some h
 refine sq (y_quo rfl et et ho1) ?_
 refine sa ?_
 refine nk (sr (sm ?_))
 refine sm ?_
 refine sq (y_quo rfl et et ho1) ?_
 refine sa ?_
 refine nk (c_seq (sr (sm ?_)))
 refine sq (y_gtr rfl et ev_const) ?_
 refine sm ?_
 refine s_gval (g_false rfl rfl rfl rfl) rfl (fun hc => y_move rfl et) ?_
 refine s_gval (g_false rfl rfl rfl rfl) rfl (fun hc => y_gtr rfl (ev_gv et hc) ev_const) ?_
 refine sq (y_or rfl et et) ?_
 refine nk (cif h et (fun hb h => ?_) (fun hb h => ?_))
 ·refine sr (sq (y_build (vs := []) (cs := #[vi 0, vi 0]) rfl trivial (by kernel_rfl)) ?_)
  refine l_store (new := [vi 0, vi 0]) (cs' := #[vi 0, vi 0]) hI .z gn rfl rfl et et rfl size_36 rfl rfl rfl ?_
  clear hI; intro c2 w3 hI
  refine sac ?_
  refine nk (c_ret ?_)
  obtain rfl := some_inj h
  exact q_ret (vs := [(Value.agg #[vi 0, vi 0]), vi 3]) Tryz.results185 ⟨⟨_, ev_tmp rfl rfl, load_agg (l := [vi 0, vi 0]) u36 rfl size_36 (CellsAt.of_blk (hI.blk .z) rfl)⟩, ⟨ev_tmp rfl rfl, trivial⟩⟩ (fq hI trivial)
 refine c_skip (k_same (c_seq (sr (sm ?_))))
 refine nk (cif h et (fun hb h => ?_) (fun hb h => ?_))
 ·refine sr (sm ?_)
  refine sq (y_conv rfl (by rw [u109]; rfl) u2 et) ?_
  refine sq (y_neg rfl et) ?_
  refine sm ?_
  refine sq (y_conv rfl (by rw [u109]; rfl) u2 et) ?_
  refine sq (y_build (vs := [(0, (vi (wi64 (-(wi64 (wu64 (Int.tdiv n1 r1))))))), (1, (vi (wi64 (wu64 (Int.tdiv d1 r1)))))]) (cs := #[(vi (wi64 (-(wi64 (wu64 (Int.tdiv n1 r1)))))), (vi (wi64 (wu64 (Int.tdiv d1 r1))))]) rfl ⟨rfl, et, ⟨rfl, et, trivial⟩⟩ (by kernel_rfl)) ?_
  refine l_store (new := [(vi (wi64 (-(wi64 (wu64 (Int.tdiv n1 r1)))))), (vi (wi64 (wu64 (Int.tdiv d1 r1))))]) (cs' := #[(vi (wi64 (-(wi64 (wu64 (Int.tdiv n1 r1)))))), (vi (wi64 (wu64 (Int.tdiv d1 r1))))]) hI .z gn rfl rfl et et rfl size_36 rfl rfl rfl ?_
  clear hI; intro c3 w4 hI
  refine sac ?_
  refine s_nil ?_
  refine k_next (e := [(6, vp b1 0), (7, vi 0)]) ⟨rfl, rfl, trivial⟩ ?_
  refine c_ret ?_
  obtain rfl := some_inj h
  exact q_ret (vs := [(Value.agg #[(vi (wi64 (-(wi64 (wu64 (Int.tdiv n1 r1)))))), (vi (wi64 (wu64 (Int.tdiv d1 r1))))]), vi 0]) Tryz.results185 ⟨⟨_, ev_tmp rfl rfl, load_agg (l := [(vi (wi64 (-(wi64 (wu64 (Int.tdiv n1 r1)))))), (vi (wi64 (wu64 (Int.tdiv d1 r1))))]) u36 rfl size_36 (CellsAt.of_blk (hI.blk .z) rfl)⟩, ⟨ev_tmp rfl rfl, trivial⟩⟩ (fq hI trivial)
 refine c_skip (k_same (sr (sm ?_)))
 refine sq (y_conv rfl (by rw [u109]; rfl) u2 et) ?_
 refine sm ?_
 refine sq (y_conv rfl (by rw [u109]; rfl) u2 et) ?_
 refine sq (y_build (vs := [(0, (vi (wi64 (wu64 (Int.tdiv n1 r1))))), (1, (vi (wi64 (wu64 (Int.tdiv d1 r1)))))]) (cs := #[(vi (wi64 (wu64 (Int.tdiv n1 r1)))), (vi (wi64 (wu64 (Int.tdiv d1 r1))))]) rfl ⟨rfl, et, ⟨rfl, et, trivial⟩⟩ (by kernel_rfl)) ?_
 refine l_store (new := [(vi (wi64 (wu64 (Int.tdiv n1 r1)))), (vi (wi64 (wu64 (Int.tdiv d1 r1))))]) (cs' := #[(vi (wi64 (wu64 (Int.tdiv n1 r1)))), (vi (wi64 (wu64 (Int.tdiv d1 r1))))]) hI .z gn rfl rfl et et rfl size_36 rfl rfl rfl ?_
 clear hI; intro c4 w5 hI
 refine sac ?_
 refine s_nil ?_
 refine k_next (e := [(6, vp b1 0), (7, vi 0)]) ⟨rfl, rfl, trivial⟩ ?_
 refine c_ret ?_
 obtain rfl := some_inj h
 exact q_ret (vs := [(Value.agg #[(vi (wi64 (wu64 (Int.tdiv n1 r1)))), (vi (wi64 (wu64 (Int.tdiv d1 r1))))]), vi 0]) Tryz.results185 ⟨⟨_, ev_tmp rfl rfl, load_agg (l := [(vi (wi64 (wu64 (Int.tdiv n1 r1)))), (vi (wi64 (wu64 (Int.tdiv d1 r1))))]) u36 rfl size_36 (CellsAt.of_blk (hI.blk .z) rfl)⟩, ⟨ev_tmp rfl rfl, trivial⟩⟩ (fq hI trivial)
theorem c_ref01_New (F : NP) (w0 : World) (hF : ∀ k, F k → k < w0.heap.size) (n1 : Int) (d1 : Int) (hc : AllCl [] F w0) (r : GVal × Int)
  (h : m_ref01_New n1 d1 = some r) :
  Calls Tryz.prog 167 #[vi n1, vi d1] w0 fun e w => e = .returned (Value.tuple #[(Value.agg (AVal r.1)), vi r.2]) ∧ Ext w0 w ∧ AllCl [] F w := by
 refine enterK Tryz.func167 rfl Tryz.ntmps167 rfl ?_
 have hI := Bun.start hF hc
 clear hc
 rw [m_ref01_New] at h
 refine sr (l_alloc (cs := #[vi 0, vi 0]) hI gn rfl rfl zero_36 rfl ?_)
 clear hI; intro b1 c1 w1 hI
 refine sac ?_
 refine nk (c_seq (sr (sm ?_)))
 refine sq (y_eql rfl et ev_const) ?_
 refine nk (cif h et (fun hb h => ?_) (fun hb h => ?_))
 ·refine sr (sq (y_build (vs := []) (cs := #[vi 0, vi 0]) rfl trivial (by kernel_rfl)) ?_)
  refine l_store (new := [vi 0, vi 0]) (cs' := #[vi 0, vi 0]) hI .z gn rfl rfl et et rfl size_36 rfl rfl rfl ?_
  clear hI; intro c2 w2 hI
  refine sac ?_
  refine nk (c_ret ?_)
  obtain rfl := some_inj h
  exact q_ret (vs := [(Value.agg #[vi 0, vi 0]), vi 4]) Tryz.results167 ⟨⟨_, ev_tmp rfl rfl, load_agg (l := [vi 0, vi 0]) u36 rfl size_36 (CellsAt.of_blk (hI.blk .z) rfl)⟩, ⟨ev_tmp rfl rfl, trivial⟩⟩ (fq hI trivial)
 refine c_skip (k_same (sr (sm ?_)))
 refine sq (y_lss rfl et ev_const) ?_
 refine sm ?_
 refine sq (y_lss rfl et ev_const) ?_
 refine sq (y_neb rfl u4 et et) ?_
 refine sm ?_
 obtain ⟨r1, hx1, h⟩ := bnd_some h
 refine s_call gn rfl (r_callF (vs := [vi n1]) rfl ok_75 ⟨et, trivial⟩) (Calls.mono (c_ref01_size (Dj F c1) w1 hI.lt n1 trivial r1 hx1) ?_)
 rintro _ w3 ⟨rfl, hx2, hl1⟩
 refine ⟨_, rfl, ?_⟩
 replace hI := (hI.ext hx2)
 refine sm ?_
 obtain ⟨r2, hx3, h⟩ := bnd_some h
 refine s_call gn rfl (r_callF (vs := [vi d1]) rfl ok_75 ⟨et, trivial⟩) (Calls.mono (c_ref01_size (Dj F c1) w3 hI.lt d1 trivial r2 hx3) ?_)
 rintro _ w4 ⟨rfl, hx4, hl2⟩
 refine ⟨_, rfl, ?_⟩
 replace hI := (hI.ext hx4)
 obtain ⟨r3, hx5, h⟩ := bnd_some h
 refine s_call gn rfl (r_callF (vs := [(vb ((decide (n1 < 0)) != (decide (d1 < 0)))), (Value.int .u64 r1), (Value.int .u64 r2)]) rfl ok_185 ⟨et, ⟨et, ⟨et, trivial⟩⟩⟩) (Calls.mono (c_ref01_made (Dj F c1) w4 hI.lt ((decide (n1 < 0)) != (decide (d1 < 0))) r1 r2 trivial r3 hx5) ?_)
 rintro _ w5 ⟨rfl, hx6, hl3⟩
 refine ⟨_, rfl, ?_⟩
 replace hI := (hI.ext hx6)
 refine sq (y_extract rfl et rfl) ?_
 refine sq (y_extract rfl et rfl) ?_
 refine l_store (new := (lVal r3.1)) (cs' := (AVal r3.1)) hI .z gn rfl rfl et et rfl size_36 rfl rfl rfl ?_
 clear hI; intro c3 w6 hI
 refine sa ?_
 refine nk (c_ret ?_)
 obtain rfl := some_inj h
 exact q_ret (vs := [(Value.agg (AVal r3.1)), vi r3.2]) Tryz.results167 ⟨⟨_, ev_tmp rfl rfl, load_agg (l := (lVal r3.1)) u36 rfl size_36 (CellsAt.of_blk (hI.blk .z) rfl)⟩, ⟨ev_tmp rfl rfl, trivial⟩⟩ (fq hI trivial)
theorem c_ref04_Value (F : NP) (w0 : World) (hF : ∀ k, F k → k < w0.heap.size) (t1 : GType) (v1 : GVal) (hc : AllCl [] F w0) (r : GVal)
  (h : m_ref04_Value t1 v1 = some r) :
  Calls Tryz.prog 138 #[(Value.agg (AType t1)), (Value.agg (AVal v1))] w0 fun e w => e = .returned (Value.agg (AVal r)) ∧ Ext w0 w ∧ AllCl [] F w := by
 refine enterK Tryz.func138 rfl Tryz.ntmps138 rfl ?_
 have hI := Bun.start hF hc
 clear hc
 rw [m_ref04_Value] at h
 refine sr (l_box (v := (Value.agg (AType t1))) (cs := (AType t1)) hI gn rfl rfl et rfl ?_)
 clear hI; intro b1 c1 w1 hI
 obtain ⟨c2, hI⟩ := hI.relBox .z
 refine l_box (v := (Value.agg (AVal v1))) (cs := (AVal v1)) hI gn rfl rfl et rfl ?_
 clear hI; intro b2 c3 w2 hI
 refine l_alloc (cs := #[vi 0, vi 0]) hI gn rfl rfl zero_36 rfl ?_
 clear hI; intro b3 c4 w3 hI
 refine nk (c_seq (sr (sq (y_fieldAddr rfl et u23 rfl size_3 rfl) ?_)))
 refine sq (y_load1 (v := (vi t1.Kind)) rfl et u3 rfl (hI.kblk (l := [vi t1.Kind]) .z rfl).1) ?_
 refine sq (y_eql rfl et ev_const) ?_
 refine nk (cif h et (fun hb h => ?_) (fun hb h => ?_))
 ·refine c_drawX [8] false (.c (0, .q) (.c (1, .q) (.c (2, .q) (.c (3, .s) (.c (4, .s) (.c (5, .q) (.c (6, .q) (.c (7, .q) (.c (8, .s) .n))))))))) hI (by kernel_rfl) (by kernel_rfl) ?_
  clear hI; intro w4 hI
  refine a_q rfl gn rfl (fun w' => y_fieldAddr rfl et u36 rfl size_2 rfl) ?_
  refine a_read rfl gn rfl (fun w' hw' => (y_load1 (v := (vi v1.N)) rfl et u2 rfl ((CA.blk (hI.blk (.s .z)) rfl).at_ (SX.any rfl hw')))) (by kernel_rfl) ?_
  refine a_read rfl gn rfl (fun w' hw' => (y_loadN (l := (lType t1)) rfl et u23 rfl size_23 ((hI.kblk (l := (lType t1)) .z rfl).at_ (SX.any rfl hw')))) (by kernel_rfl) ?_
  obtain ⟨r1, hx1, h⟩ := bnd_some h
  refine la_call rfl gn rfl (r_callF (vs := [(Value.agg (AType t1))]) rfl ok_168 ⟨et, trivial⟩) (Calls.mono (c_ref04_step (Dj F c4) w4 hI.lt t1 trivial r1 hx1) ?_)
  rintro _ w5 ⟨rfl, hx2, hl1⟩
  refine ⟨_, rfl, hx2, ?_⟩
  replace hI := (hI.ext hx2)
  obtain ⟨r2, hx3, h⟩ := bnd_some h
  refine la_call rfl gn rfl (r_callF (vs := [vi v1.N, vi r1]) rfl ok_167 ⟨et, ⟨et, trivial⟩⟩) (Calls.mono (c_ref01_New (Dj F c4) w5 hI.lt v1.N r1 trivial r2 hx3) ?_)
  rintro _ w6 ⟨rfl, hx4, hl2⟩
  refine ⟨_, rfl, hx4, ?_⟩
  replace hI := (hI.ext hx4)
  refine a_q rfl gn rfl (fun w' => y_move rfl et) ?_
  refine a_q rfl gn rfl (fun w' => y_extract rfl et rfl) ?_
  refine a_q rfl gn rfl (fun w' => y_extract rfl et rfl) ?_
  refine a_turn (F := F) (C := c4) rfl rfl ?_
  refine la_store (new := (lVal r2.1)) (cs' := (AVal r2.1)) hI (.s .z) rfl gn rfl rfl et et rfl size_36 rfl rfl rfl ?_
  clear hI; intro c5 w7 hI
  refine a_nil ?_
  refine k_same (sr (sq (y_loadN (l := (lVal r2.1)) rfl et u36 rfl size_36 (CellsAt.of_blk (hI.blk (.s .z)) rfl)) ?_))
  refine l_store (new := (lVal r2.1)) (cs' := (AVal r2.1)) hI .z gn rfl rfl et et rfl size_36 rfl rfl rfl ?_
  clear hI; intro c6 w8 hI
  refine nk (c_ret ?_)
  obtain rfl := some_inj h
  exact q_ret (vs := [(Value.agg (AVal r2.1))]) Tryz.results138 ⟨⟨_, ev_tmp rfl rfl, load_agg (l := (lVal r2.1)) u36 rfl size_36 (CellsAt.of_blk (hI.blk .z) rfl)⟩, trivial⟩ (fq hI trivial)
 refine c_skip (k_same (sr (sq (y_loadN (l := (lVal v1)) rfl et u36 rfl size_36 (CellsAt.of_blk (hI.blk (.s .z)) rfl)) ?_)))
 refine l_store (new := (lVal v1)) (cs' := (AVal v1)) hI .z gn rfl rfl et et rfl size_36 rfl rfl rfl ?_
 clear hI; intro c7 w9 hI
 refine nk (c_ret ?_)
 obtain rfl := some_inj h
 exact q_ret (vs := [(Value.agg (AVal v1))]) Tryz.results138 ⟨⟨_, ev_tmp rfl rfl, load_agg (l := (lVal v1)) u36 rfl size_36 (CellsAt.of_blk (hI.blk .z) rfl)⟩, trivial⟩ (fq hI trivial)
theorem c_ref01_Valid (F : NP) (w0 : World) (hF : ∀ k, F k → k < w0.heap.size) (v1 : GVal) (hc : AllCl [] F w0) (r : Bool)
  (h : m_ref01_Valid v1 = some r) :
  Calls Tryz.prog 166 #[(Value.agg (AVal v1))] w0 fun e w => e = .returned (vb r) ∧ Ext w0 w ∧ AllCl [] F w := by
 refine enterK Tryz.func166 rfl Tryz.ntmps166 rfl ?_
 have hI := Bun.start hF hc
 clear hc
 rw [m_ref01_Valid] at h
 refine sr (l_box (v := (Value.agg (AVal v1))) (cs := (AVal v1)) hI gn rfl rfl et rfl ?_)
 clear hI; intro b1 c1 w1 hI
 obtain ⟨c2, hI⟩ := hI.relBox .z
 refine sac ?_
 refine nk (sr (sq (y_build (vs := [(0, vi 1)]) (cs := #[vi 1, vi 0, vi 0, vi 0, vi 0]) rfl ⟨rfl, ev_const, trivial⟩ (by kernel_rfl)) ?_))
 refine sq (y_loadN (l := (lVal v1)) rfl et u36 rfl size_36 (hI.kblk (l := (lVal v1)) .z rfl).1) ?_
 obtain ⟨r1, hx1, h⟩ := bnd_some h
 refine s_call gn rfl (r_callF (vs := [(Value.agg #[vi 1, vi 0, vi 0, vi 0, vi 0]), (Value.agg (AVal v1))]) rfl ok_142 ⟨et, ⟨et, trivial⟩⟩) (Calls.mono (c_base_Val (Dj F c2) w1 hI.lt (⟨1, 0, 0, 0, 0⟩ : GType) v1 trivial r1 hx1) ?_)
 rintro _ w2 ⟨rfl, hx2, hl1⟩
 refine ⟨_, rfl, ?_⟩
 replace hI := (hI.ext hx2)
 refine sa ?_
 refine nk (c_ret ?_)
 obtain rfl := some_inj h
 exact q_ret (vs := [vb r1]) Tryz.results166 ⟨ev_tmp rfl rfl, trivial⟩ (fq hI trivial)
theorem c_ref01_Format (F : NP) (w0 : World) (hF : ∀ k, F k → k < w0.heap.size) (a1 : GVal) (hc : AllCl [] F w0) (r : List UInt8)
  (h : m_ref01_Format a1 = some r) :
  Calls Tryz.prog 137 #[(Value.agg (AVal a1))] w0 fun e w => e = .returned (str r) ∧ Ext w0 w ∧ AllCl [] F w := by
 refine enterK Tryz.func137 rfl Tryz.ntmps137 rfl ?_
 have hI := Bun.start hF hc
 clear hc
 rw [m_ref01_Format] at h
 refine sr (l_box (v := (Value.agg (AVal a1))) (cs := (AVal a1)) hI gn rfl rfl et rfl ?_)
 clear hI; intro b1 c1 w1 hI
 obtain ⟨c2, hI⟩ := hI.relBox .z
 refine sac ?_
 refine nk (c_seq (sr (sq (y_loadN (l := (lVal a1)) rfl et u36 rfl size_36 (hI.kblk (l := (lVal a1)) .z rfl).1) ?_)))
 obtain ⟨r1, hx1, h⟩ := bnd_some h
 refine s_call gn rfl (r_callF (vs := [(Value.agg (AVal a1))]) rfl ok_166 ⟨et, trivial⟩) (Calls.mono (c_ref01_Valid (Dj F c2) w1 hI.lt a1 trivial r1 hx1) ?_)
 rintro _ w2 ⟨rfl, hx2, hl1⟩
 refine ⟨_, rfl, ?_⟩
 replace hI := (hI.ext hx2)
 refine sq (y_not rfl et) ?_
 refine nk (cif h et (fun hb h => ?_) (fun hb h => ?_))
 ·refine sr (sac ?_)
  refine nk (c_ret ?_)
  obtain rfl := some_inj h
  exact q_ret (vs := [(str ([] : List UInt8))]) Tryz.results137 ⟨ev_tmp rfl rfl, trivial⟩ (fq hI trivial)
 refine c_skip (k_same (c_seq (sr (sq (y_fieldAddr rfl et u36 rfl size_2 rfl) ?_))))
 refine sq (y_load1 (v := (vi a1.D)) rfl et u2 rfl (hI.kblk (l := [vi a1.D]) .z rfl).1) ?_
 refine sq (y_eql rfl et ev_const) ?_
 refine nk (cif h et (fun hb h => ?_) (fun hb h => ?_))
 ·refine sr (sq (y_fieldAddr rfl et u36 rfl size_2 rfl) ?_)
  refine sq (y_load1 (v := (vi a1.N)) rfl et u2 rfl (hI.kblk (l := [vi a1.N]) .z rfl).1) ?_
  obtain ⟨r2, hx3, h⟩ := bnd_some h
  refine s_call gn rfl (r_callF (vs := [vi a1.N]) rfl ok_32 ⟨et, trivial⟩) (Calls.mono (c_ref01_Digits (Dj F c2) w2 hI.lt a1.N trivial r2 hx3) ?_)
  rintro _ w3 ⟨rfl, hx4, hl2⟩
  refine ⟨_, rfl, ?_⟩
  replace hI := (hI.ext hx4)
  refine sa ?_
  refine nk (c_ret ?_)
  obtain rfl := some_inj h
  exact q_ret (vs := [(str r2)]) Tryz.results137 ⟨ev_tmp rfl rfl, trivial⟩ (fq hI trivial)
 refine c_skip (k_same (c_seq (c_drawX [] false (.c (0, .q) (.c (1, .q) (.c (4, .q) (.c (5, .q) (.c (2, .s) (.c (3, .q) (.c (6, .s) (.c (7, .q) (.c (8, .q) .n))))))))) hI (by kernel_rfl) (by kernel_rfl) ?_)))
 clear hI; intro w4 hI
 refine a_q rfl gn rfl (fun w' => y_fieldAddr rfl et u36 rfl size_2 rfl) ?_
 refine a_read rfl gn rfl (fun w' hw' => (y_load1 (v := (vi a1.N)) rfl et u2 rfl ((hI.kblk (l := [vi a1.N]) .z rfl).at_ (SX.any rfl hw')))) (by kernel_rfl) ?_
 refine a_q rfl gn rfl (fun w' => y_fieldAddr rfl et u36 rfl size_2 rfl) ?_
 refine a_read rfl gn rfl (fun w' hw' => (y_load1 (v := (vi a1.D)) rfl et u2 rfl ((hI.kblk (l := [vi a1.D]) .z rfl).at_ (SX.any rfl hw')))) (by kernel_rfl) ?_
 obtain ⟨r3, hx5, h⟩ := bnd_some h
 refine la_call rfl gn rfl (r_callF (vs := [vi a1.N]) rfl ok_32 ⟨et, trivial⟩) (Calls.mono (c_ref01_Digits (Dj F c2) w4 hI.lt a1.N trivial r3 hx5) ?_)
 rintro _ w5 ⟨rfl, hx6, hl3⟩
 refine ⟨_, rfl, hx6, ?_⟩
 replace hI := (hI.ext hx6)
 obtain ⟨s1, hx7, h⟩ := bnd_some h
 refine a_q rfl gn rfl (fun w' => y_catl rfl et ev_const hx7) ?_
 obtain ⟨r4, hx8, h⟩ := bnd_some h
 refine la_call rfl gn rfl (r_callF (vs := [vi a1.D]) rfl ok_32 ⟨et, trivial⟩) (Calls.mono (c_ref01_Digits (Dj F c2) w5 hI.lt a1.D trivial r4 hx8) ?_)
 rintro _ w6 ⟨rfl, hx9, hl4⟩
 refine ⟨_, rfl, hx9, ?_⟩
 replace hI := (hI.ext hx9)
 obtain ⟨s2, hx10, h⟩ := bnd_some h
 refine a_q rfl gn rfl (fun w' => y_catl rfl et et hx10) ?_
 refine a_q rfl gn rfl (fun w' => y_assign rfl et) ?_
 refine a_nil ?_
 refine k_same (c_ret ?_)
 obtain rfl := some_inj h
 exact q_ret (vs := [(str s2)]) Tryz.results137 ⟨ev_tmp rfl rfl, trivial⟩ (fq hI trivial)
theorem c_ref04_Format (F : NP) (w0 : World) (hF : ∀ k, F k → k < w0.heap.size) (t1 : GType) (v1 : GVal) (hc : AllCl [] F w0) (r : List UInt8)
  (h : m_ref04_Format t1 v1 = some r) :
  Calls Tryz.prog 104 #[(Value.agg (AType t1)), (Value.agg (AVal v1))] w0 fun e w => e = .returned (str r) ∧ Ext w0 w ∧ AllCl [] F w := by
 refine enterK Tryz.func104 rfl Tryz.ntmps104 rfl ?_
 have hI := Bun.start hF hc
 clear hc
 rw [m_ref04_Format] at h
 refine sr (l_box (v := (Value.agg (AType t1))) (cs := (AType t1)) hI gn rfl rfl et rfl ?_)
 clear hI; intro b1 c1 w1 hI
 obtain ⟨c2, hI⟩ := hI.relBox .z
 refine l_box (v := (Value.agg (AVal v1))) (cs := (AVal v1)) hI gn rfl rfl et rfl ?_
 clear hI; intro b2 c3 w2 hI
 obtain ⟨c4, hI⟩ := hI.relBox .z
 refine sac ?_
 refine nk (c_seq (sr (sq (y_loadN (l := (lType t1)) rfl et u23 rfl size_23 (hI.kblk (l := (lType t1)) (.s .z) rfl).1) ?_)))
 refine sq (y_loadN (l := (lVal v1)) rfl et u36 rfl size_36 (hI.kblk (l := (lVal v1)) .z rfl).1) ?_
 obtain ⟨r1, hx1, h⟩ := bnd_some h
 refine s_call gn rfl (r_callF (vs := [(Value.agg (AType t1)), (Value.agg (AVal v1))]) rfl ok_136 ⟨et, ⟨et, trivial⟩⟩) (Calls.mono (c_ref04_Valid (Dj F c4) w2 hI.lt t1 v1 trivial r1 hx1) ?_)
 rintro _ w3 ⟨rfl, hx2, hl1⟩
 refine ⟨_, rfl, ?_⟩
 replace hI := (hI.ext hx2)
 refine sq (y_not rfl et) ?_
 refine nk (cif h et (fun hb h => ?_) (fun hb h => ?_))
 ·refine sr (sac ?_)
  refine nk (c_ret ?_)
  obtain rfl := some_inj h
  exact q_ret (vs := [(str ([] : List UInt8))]) Tryz.results104 ⟨ev_tmp rfl rfl, trivial⟩ (fq hI trivial)
 refine c_skip (k_same (sr (sq (y_loadN (l := (lType t1)) rfl et u23 rfl size_23 (hI.kblk (l := (lType t1)) (.s .z) rfl).1) ?_)))
 refine sq (y_loadN (l := (lVal v1)) rfl et u36 rfl size_36 (hI.kblk (l := (lVal v1)) .z rfl).1) ?_
 obtain ⟨r2, hx3, h⟩ := bnd_some h
 refine s_call gn rfl (r_callF (vs := [(Value.agg (AType t1)), (Value.agg (AVal v1))]) rfl ok_138 ⟨et, ⟨et, trivial⟩⟩) (Calls.mono (c_ref04_Value (Dj F c4) w3 hI.lt t1 v1 trivial r2 hx3) ?_)
 rintro _ w4 ⟨rfl, hx4, hl2⟩
 refine ⟨_, rfl, ?_⟩
 replace hI := (hI.ext hx4)
 obtain ⟨r3, hx5, h⟩ := bnd_some h
 refine s_call gn rfl (r_callF (vs := [(Value.agg (AVal r2))]) rfl ok_137 ⟨et, trivial⟩) (Calls.mono (c_ref01_Format (Dj F c4) w4 hI.lt r2 trivial r3 hx5) ?_)
 rintro _ w5 ⟨rfl, hx6, hl3⟩
 refine ⟨_, rfl, ?_⟩
 replace hI := (hI.ext hx6)
 refine sa ?_
 refine nk (c_ret ?_)
 obtain rfl := some_inj h
 exact q_ret (vs := [(str r3)]) Tryz.results104 ⟨ev_tmp rfl rfl, trivial⟩ (fq hI trivial)
theorem c_ref15_text_b (rec_ : (GExpr → Option (List UInt8))) (hrec : ∀ (F : NP) (w0 : World) (hF : ∀ k, F k → k < w0.heap.size) (e1 : GExpr) (a1 : Option Addr) (c1 : Nat) (a2 : Option Addr) (c2 : Nat) (a3 : Option Addr) (c3 : Nat) (hc : AllCl [Cl.sl cGMono a1 c1 e1.Lin.L, Cl.sl cGIndex a2 c2 e1.Idx, Cl.sl cGExpr a3 c3 e1.Args] F w0) (r : List UInt8) (h : rec_ e1 = some r), Calls Tryz.prog 48 #[(Value.agg #[vi e1.Op, (str e1.Name), vi e1.Val.N, vi e1.Val.D, vi e1.Type_.Kind, vi e1.Type_.Bits, vi e1.Type_.Frac, vi e1.Type_.Round, vi e1.Type_.Over, vi e1.Lin.K, vs a1 e1.Lin.L.length c1, vs a2 e1.Idx.length c2, vs a3 e1.Args.length c3])] w0 fun e w => e = .returned (str r) ∧ Ext w0 w ∧ AllCl [] F w)
  (F : NP) (w0 : World) (hF : ∀ k, F k → k < w0.heap.size) (e1 : GExpr) (a1 : Option Addr) (c1 : Nat) (a2 : Option Addr) (c2 : Nat) (a3 : Option Addr) (c3 : Nat) (hc : AllCl [Cl.sl cGMono a1 c1 e1.Lin.L, Cl.sl cGIndex a2 c2 e1.Idx, Cl.sl cGExpr a3 c3 e1.Args] F w0) (r : List UInt8) (h : m_ref15_text_b rec_ e1 = some r) : Calls Tryz.prog 48 #[(Value.agg #[vi e1.Op, (str e1.Name), vi e1.Val.N, vi e1.Val.D, vi e1.Type_.Kind, vi e1.Type_.Bits, vi e1.Type_.Frac, vi e1.Type_.Round, vi e1.Type_.Over, vi e1.Lin.K, vs a1 e1.Lin.L.length c1, vs a2 e1.Idx.length c2, vs a3 e1.Args.length c3])] w0 fun e w => e = .returned (str r) ∧ Ext w0 w ∧ AllCl [] F w := by
 refine enterK Tryz.func48 rfl Tryz.ntmps48 rfl ?_
 have hI := Bun.start hF hc
 clear hc
 rw [m_ref15_text_b] at h
 refine sr (l_box (v := (Value.agg #[vi e1.Op, (str e1.Name), vi e1.Val.N, vi e1.Val.D, vi e1.Type_.Kind, vi e1.Type_.Bits, vi e1.Type_.Frac, vi e1.Type_.Round, vi e1.Type_.Over, vi e1.Lin.K, vs a1 e1.Lin.L.length c1, vs a2 e1.Idx.length c2, vs a3 e1.Args.length c3])) (cs := #[vi e1.Op, (str e1.Name), vi e1.Val.N, vi e1.Val.D, vi e1.Type_.Kind, vi e1.Type_.Bits, vi e1.Type_.Frac, vi e1.Type_.Round, vi e1.Type_.Over, vi e1.Lin.K, vs a1 e1.Lin.L.length c1, vs a2 e1.Idx.length c2, vs a3 e1.Args.length c3]) hI gn rfl rfl et rfl ?_)
 clear hI; intro b1 c4 w1 hI
 obtain ⟨c5, hI⟩ := hI.relBox .z
 refine sac ?_
 refine nk (c_seq (sr (sq (y_fieldAddr rfl et u39 rfl size_3 rfl) ?_)))
 refine sq (y_load1 (v := (vi e1.Op)) rfl et u3 rfl (hI.kblk (l := [vi e1.Op]) .z rfl).1) ?_
 obtain ⟨r1, hx1, h⟩ := bnd_some h
 refine s_call gn rfl (r_callF (vs := [vi e1.Op]) rfl ok_101 ⟨et, trivial⟩) (Calls.mono (c_ref15_sign (Dj F c5) w1 hI.lt e1.Op trivial r1 hx1) ?_)
 rintro _ w2 ⟨rfl, hx2, hl1⟩
 refine ⟨_, rfl, ?_⟩
 replace hI := (hI.ext hx2)
 refine sa ?_
 refine nk (sr (sm ?_))
 refine sq (y_nes rfl et ev_const) ?_
 refine nk (cif h et (fun hb h => ?_) (fun hb h => ?_))
 ·refine c_seq (c_drawX [] false (.c (0, .q) (.c (1, .q) (.c (2, .q) (.c (3, .q) (.c (4, .q) (.c (5, .q) (.c (8, .q) (.c (10, .q) (.c (11, .q) (.c (12, .q) (.c (13, .q) (.c (14, .q) (.c (15, .q) (.c (6, .s) (.c (7, .s) (.c (9, .q) (.c (16, .s) (.c (17, .q) (.c (18, .s) (.c (19, .q) (.c (20, .q) .n))))))))))))))))))))) hI (by kernel_rfl) (by kernel_rfl) ?_)
  clear hI; intro w3 hI
  refine a_q rfl gn rfl (fun w' => y_fieldAddr rfl et u39 rfl size_37 rfl) ?_
  refine a_read rfl gn rfl (fun w' hw' => (y_load1 (v := (vs a3 e1.Args.length c3)) rfl et u37 rfl ((hI.kblk (l := [vs a3 e1.Args.length c3]) .z rfl).at_ (SX.any rfl hw')))) (by kernel_rfl) ?_
  obtain ⟨e2, hx3, h⟩ := bnd_some h
  obtain ⟨ad1, cs1, hA1, hr1, hq1⟩ := hI.clat (.s (.s (.s .z))) hx3
  obtain ⟨a4, c6, a5, c7, a6, c8, rfl, hf1, hf2, hf3⟩ := cGExpr_out hr1
  have hI := hI.add (c := Cl.sl cGMono a4 c6 e2.Lin.L) hf1
  have hI := hI.add (c := Cl.sl cGIndex a5 c7 e2.Idx) hf2
  have hI := hI.add (c := Cl.sl cGExpr a6 c8 e2.Args) hf3
  refine a_q rfl gn rfl (fun w' => y_indexAddr rfl u37 size_39 et ev_const (lat_bd hx3) hA1) ?_
  refine a_read rfl gn rfl (fun w' hw' => (y_loadN (l := [vi e2.Op, (str e2.Name), vi e2.Val.N, vi e2.Val.D, vi e2.Type_.Kind, vi e2.Type_.Bits, vi e2.Type_.Frac, vi e2.Type_.Round, vi e2.Type_.Over, vi e2.Lin.K, vs a4 e2.Lin.L.length c6, vs a5 e2.Idx.length c7, vs a6 e2.Args.length c8]) rfl et u39 rfl size_39 (hq1.at_ (SX.any rfl hw')))) (by kernel_rfl) ?_
  refine a_q rfl gn rfl (fun w' => y_fieldAddr rfl et u39 rfl size_3 rfl) ?_
  refine a_read rfl gn rfl (fun w' hw' => (y_load1 (v := (vi e1.Op)) rfl et u3 rfl ((hI.kblk (l := [vi e1.Op]) (.s (.s (.s .z))) rfl).at_ (SX.any rfl hw')))) (by kernel_rfl) ?_
  refine a_q rfl gn rfl (fun w' => y_move rfl et) ?_
  refine a_q rfl gn rfl (fun w' => y_fieldAddr rfl et u39 rfl size_37 rfl) ?_
  refine a_read rfl gn rfl (fun w' hw' => (y_load1 (v := (vs a3 e1.Args.length c3)) rfl et u37 rfl ((hI.kblk (l := [vs a3 e1.Args.length c3]) (.s (.s (.s .z))) rfl).at_ (SX.any rfl hw')))) (by kernel_rfl) ?_
  obtain ⟨e3, hx4, h⟩ := bnd_some h
  obtain ⟨ad2, cs2, hA2, hr2, hq2⟩ := hI.clat (.s (.s (.s (.s (.s (.s .z)))))) hx4
  obtain ⟨a7, c9, a8, c10, a9, c11, rfl, hf4, hf5, hf6⟩ := cGExpr_out hr2
  have hI := hI.add (c := Cl.sl cGMono a7 c9 e3.Lin.L) hf4
  have hI := hI.add (c := Cl.sl cGIndex a8 c10 e3.Idx) hf5
  have hI := hI.add (c := Cl.sl cGExpr a9 c11 e3.Args) hf6
  refine a_q rfl gn rfl (fun w' => y_indexAddr rfl u37 size_39 et ev_const (lat_bd hx4) hA2) ?_
  refine a_read rfl gn rfl (fun w' hw' => (y_loadN (l := [vi e3.Op, (str e3.Name), vi e3.Val.N, vi e3.Val.D, vi e3.Type_.Kind, vi e3.Type_.Bits, vi e3.Type_.Frac, vi e3.Type_.Round, vi e3.Type_.Over, vi e3.Lin.K, vs a7 e3.Lin.L.length c9, vs a8 e3.Idx.length c10, vs a9 e3.Args.length c11]) rfl et u39 rfl size_39 (hq2.at_ (SX.any rfl hw')))) (by kernel_rfl) ?_
  refine a_q rfl gn rfl (fun w' => y_fieldAddr rfl et u39 rfl size_3 rfl) ?_
  refine a_read rfl gn rfl (fun w' hw' => (y_load1 (v := (vi e1.Op)) rfl et u3 rfl ((hI.kblk (l := [vi e1.Op]) (.s (.s (.s (.s (.s (.s .z)))))) rfl).at_ (SX.any rfl hw')))) (by kernel_rfl) ?_
  obtain ⟨r2, hx5, h⟩ := bnd_some h
  refine la_call rfl gn rfl (r_callF (vs := [vi e1.Op]) rfl ok_103 ⟨et, trivial⟩) (Calls.mono (c_ref15_Level (Dj F c5) w3 hI.lt e1.Op trivial r2 hx5) ?_)
  rintro _ w4 ⟨rfl, hx6, hl2⟩
  refine ⟨_, rfl, hx6, ?_⟩
  replace hI := (hI.ext hx6)
  obtain ⟨r3, hx7, h⟩ := bnd_some h
  refine la_call rfl gn rfl (r_callF (vs := [(Value.agg #[vi e2.Op, (str e2.Name), vi e2.Val.N, vi e2.Val.D, vi e2.Type_.Kind, vi e2.Type_.Bits, vi e2.Type_.Frac, vi e2.Type_.Round, vi e2.Type_.Over, vi e2.Lin.K, vs a4 e2.Lin.L.length c6, vs a5 e2.Idx.length c7, vs a6 e2.Args.length c8]), vi r2]) rfl ok_102 ⟨et, ⟨et, trivial⟩⟩) (Calls.mono (c_ref15_operand rec_ hrec (Dj F c5) w4 hI.lt e2 r2 a4 c6 a5 c7 a6 c8 ⟨(hI.get (.s (.s (.s (.s (.s .z)))))), (hI.get (.s (.s (.s (.s .z))))), (hI.get (.s (.s (.s .z)))), trivial⟩ r3 hx7) ?_)
  rintro _ w5 ⟨rfl, hx8, hl3⟩
  refine ⟨_, rfl, hx8, ?_⟩
  replace hI := (hI.ext hx8)
  obtain ⟨s1, hx9, h⟩ := bnd_some h
  refine a_q rfl gn rfl (fun w' => y_catl rfl et et hx9) ?_
  obtain ⟨r4, hx10, h⟩ := bnd_some h
  refine la_call rfl gn rfl (r_callF (vs := [vi e1.Op]) rfl ok_103 ⟨et, trivial⟩) (Calls.mono (c_ref15_Level (Dj F c5) w5 hI.lt e1.Op trivial r4 hx10) ?_)
  rintro _ w6 ⟨rfl, hx11, hl4⟩
  refine ⟨_, rfl, hx11, ?_⟩
  replace hI := (hI.ext hx11)
  refine a_q rfl gn rfl (fun w' => y_add rfl et ev_const) ?_
  obtain ⟨r5, hx12, h⟩ := bnd_some h
  refine la_call rfl gn rfl (r_callF (vs := [(Value.agg #[vi e3.Op, (str e3.Name), vi e3.Val.N, vi e3.Val.D, vi e3.Type_.Kind, vi e3.Type_.Bits, vi e3.Type_.Frac, vi e3.Type_.Round, vi e3.Type_.Over, vi e3.Lin.K, vs a7 e3.Lin.L.length c9, vs a8 e3.Idx.length c10, vs a9 e3.Args.length c11]), (vi (wi64 (r4 + 1)))]) rfl ok_102 ⟨et, ⟨et, trivial⟩⟩) (Calls.mono (c_ref15_operand rec_ hrec (Dj F c5) w6 hI.lt e3 (wi64 (r4 + 1)) a7 c9 a8 c10 a9 c11 ⟨(hI.get (.s (.s .z))), (hI.get (.s .z)), (hI.get .z), trivial⟩ r5 hx12) ?_)
  rintro _ w7 ⟨rfl, hx13, hl5⟩
  refine ⟨_, rfl, hx13, ?_⟩
  replace hI := (hI.ext hx13)
  obtain ⟨s2, hx14, h⟩ := bnd_some h
  refine a_q rfl gn rfl (fun w' => y_catl rfl et et hx14) ?_
  refine a_q rfl gn rfl (fun w' => y_assign rfl et) ?_
  refine a_nil ?_
  refine k_next (e := [(2, (str s2))]) ⟨rfl, trivial⟩ ?_
  refine c_ret ?_
  obtain rfl := some_inj h
  exact q_ret (vs := [(str s2)]) Tryz.results48 ⟨ev_tmp rfl rfl, trivial⟩ (fq hI trivial)
 refine c_skip (k_same (c_join (α := Unit) (fun _ => ⟨162, []⟩) (fun _ => [(1, vp b1 0)]) (fun _ => fun w => ∃ C, Bun noM F w0 C w [] [Cl.blk b1 39 #[vi e1.Op, (str e1.Name), vi e1.Val.N, vi e1.Val.D, vi e1.Type_.Kind, vi e1.Type_.Bits, vi e1.Type_.Frac, vi e1.Type_.Round, vi e1.Type_.Over, vi e1.Lin.K, vs a1 e1.Lin.L.length c1, vs a2 e1.Idx.length c2, vs a3 e1.Args.length c3], Cl.sl cGMono a1 c1 e1.Lin.L, Cl.sl cGIndex a2 c2 e1.Idx, Cl.sl cGExpr a3 c3 e1.Args] ∧ m_ref15_text_j1 e1 rec_ = some r) ?_ ?_))
 ·clear h hI; rintro _ w8 ⟨c12, hI, h⟩
  try dsimp only at hI h
  rw [m_ref15_text_j1] at h
  refine c_sub (e := [(1, vp b1 0)]) ⟨rfl, trivial⟩ ?_
  refine c_seq (c_drawX [] false (.c (0, .q) (.c (1, .q) (.c (5, .q) (.c (6, .q) (.c (7, .q) (.c (8, .q) (.c (2, .s) (.c (3, .q) (.c (4, .q) (.c (9, .s) (.c (10, .q) (.c (11, .q) (.c (12, .q) .n))))))))))))) hI (by kernel_rfl) (by kernel_rfl) ?_)
  clear hI; intro w9 hI
  refine a_q rfl gn rfl (fun w' => y_fieldAddr rfl et u39 rfl size_23 rfl) ?_
  refine a_read rfl gn rfl (fun w' hw' => (y_loadN (l := (lType e1.Type_)) rfl et u23 rfl size_23 ((hI.kblk (l := (lType e1.Type_)) .z rfl).at_ (SX.any rfl hw')))) (by kernel_rfl) ?_
  refine a_q rfl gn rfl (fun w' => y_fieldAddr rfl et u39 rfl size_37 rfl) ?_
  refine a_read rfl gn rfl (fun w' hw' => (y_load1 (v := (vs a3 e1.Args.length c3)) rfl et u37 rfl ((hI.kblk (l := [vs a3 e1.Args.length c3]) .z rfl).at_ (SX.any rfl hw')))) (by kernel_rfl) ?_
  obtain ⟨e4, hx15, h⟩ := bnd_some h
  obtain ⟨ad3, cs3, hA3, hr3, hq3⟩ := hI.clat (.s (.s (.s .z))) hx15
  obtain ⟨a10, c13, a11, c14, a12, c15, rfl, hf7, hf8, hf9⟩ := cGExpr_out hr3
  have hI := hI.add (c := Cl.sl cGMono a10 c13 e4.Lin.L) hf7
  have hI := hI.add (c := Cl.sl cGIndex a11 c14 e4.Idx) hf8
  have hI := hI.add (c := Cl.sl cGExpr a12 c15 e4.Args) hf9
  refine a_q rfl gn rfl (fun w' => y_indexAddr rfl u37 size_39 et ev_const (lat_bd hx15) hA3) ?_
  refine a_read rfl gn rfl (fun w' hw' => (y_loadN (l := [vi e4.Op, (str e4.Name), vi e4.Val.N, vi e4.Val.D, vi e4.Type_.Kind, vi e4.Type_.Bits, vi e4.Type_.Frac, vi e4.Type_.Round, vi e4.Type_.Over, vi e4.Lin.K, vs a10 e4.Lin.L.length c13, vs a11 e4.Idx.length c14, vs a12 e4.Args.length c15]) rfl et u39 rfl size_39 (hq3.at_ (SX.any rfl hw')))) (by kernel_rfl) ?_
  obtain ⟨r6, hx16, h⟩ := bnd_some h
  refine la_call rfl gn rfl (r_callF (vs := [(Value.agg (AType e1.Type_))]) rfl ok_11 ⟨et, trivial⟩) (Calls.mono (c_ref15_Type (Dj F c12) w9 hI.lt e1.Type_ trivial r6 hx16) ?_)
  rintro _ w10 ⟨rfl, hx17, hl6⟩
  refine ⟨_, rfl, hx17, ?_⟩
  replace hI := (hI.ext hx17)
  obtain ⟨s3, hx18, h⟩ := bnd_some h
  refine a_q rfl gn rfl (fun w' => y_catl rfl ev_const et hx18) ?_
  obtain ⟨s4, hx19, h⟩ := bnd_some h
  refine a_q rfl gn rfl (fun w' => y_catl rfl et ev_const hx19) ?_
  obtain ⟨r7, hx20, h⟩ := bnd_some h
  refine la_call rfl gn rfl (r_callF (vs := [(Value.agg #[vi e4.Op, (str e4.Name), vi e4.Val.N, vi e4.Val.D, vi e4.Type_.Kind, vi e4.Type_.Bits, vi e4.Type_.Frac, vi e4.Type_.Round, vi e4.Type_.Over, vi e4.Lin.K, vs a10 e4.Lin.L.length c13, vs a11 e4.Idx.length c14, vs a12 e4.Args.length c15])]) rfl ok_48 ⟨et, trivial⟩) (Calls.mono (hrec (Dj F c12) w10 hI.lt e4 a10 c13 a11 c14 a12 c15 ⟨(hI.get (.s (.s .z))), (hI.get (.s .z)), (hI.get .z), trivial⟩ r7 hx20) ?_)
  rintro _ w11 ⟨rfl, hx21, hl7⟩
  refine ⟨_, rfl, hx21, ?_⟩
  replace hI := (hI.ext hx21)
  obtain ⟨s5, hx22, h⟩ := bnd_some h
  refine a_q rfl gn rfl (fun w' => y_catl rfl et et hx22) ?_
  obtain ⟨s6, hx23, h⟩ := bnd_some h
  refine a_q rfl gn rfl (fun w' => y_catl rfl et ev_const hx23) ?_
  refine a_q rfl gn rfl (fun w' => y_assign rfl et) ?_
  refine a_nil ?_
  refine k_same (c_ret ?_)
  obtain rfl := some_inj h
  exact q_ret (vs := [(str s6)]) Tryz.results48 ⟨ev_tmp rfl rfl, trivial⟩ (fq hI trivial)
 refine sr (sq (y_fieldAddr rfl et u39 rfl size_3 rfl) ?_)
 refine sq (y_load1 (v := (vi e1.Op)) rfl et u3 rfl (hI.kblk (l := [vi e1.Op]) .z rfl).1) ?_
 refine nk (c_block (sr (sq (y_eql rfl et ev_const) ?_)))
 refine sa ?_
 refine nk (cif h et (fun hb h => ?_) (fun hb h => ?_))
 ·refine c_seq (c_drawX [] false (.c (0, .q) (.c (1, .q) (.c (4, .q) (.c (5, .q) (.c (6, .q) (.c (7, .q) (.c (2, .s) (.c (3, .q) (.c (8, .s) (.c (9, .q) (.c (10, .q) (.c (11, .q) .n)))))))))))) hI (by kernel_rfl) (by kernel_rfl) ?_)
  clear hI; intro w12 hI
  refine a_q rfl gn rfl (fun w' => y_fieldAddr rfl et u39 rfl size_23 rfl) ?_
  refine a_read rfl gn rfl (fun w' hw' => (y_loadN (l := (lType e1.Type_)) rfl et u23 rfl size_23 ((hI.kblk (l := (lType e1.Type_)) .z rfl).at_ (SX.any rfl hw')))) (by kernel_rfl) ?_
  refine a_q rfl gn rfl (fun w' => y_fieldAddr rfl et u39 rfl size_23 rfl) ?_
  refine a_read rfl gn rfl (fun w' hw' => (y_loadN (l := (lType e1.Type_)) rfl et u23 rfl size_23 ((hI.kblk (l := (lType e1.Type_)) .z rfl).at_ (SX.any rfl hw')))) (by kernel_rfl) ?_
  refine a_q rfl gn rfl (fun w' => y_fieldAddr rfl et u39 rfl size_36 rfl) ?_
  refine a_read rfl gn rfl (fun w' hw' => (y_loadN (l := (lVal e1.Val)) rfl et u36 rfl size_36 ((hI.kblk (l := (lVal e1.Val)) .z rfl).at_ (SX.any rfl hw')))) (by kernel_rfl) ?_
  obtain ⟨r8, hx24, h⟩ := bnd_some h
  refine la_call rfl gn rfl (r_callF (vs := [(Value.agg (AType e1.Type_))]) rfl ok_11 ⟨et, trivial⟩) (Calls.mono (c_ref15_Type (Dj F c5) w12 hI.lt e1.Type_ trivial r8 hx24) ?_)
  rintro _ w13 ⟨rfl, hx25, hl8⟩
  refine ⟨_, rfl, hx25, ?_⟩
  replace hI := (hI.ext hx25)
  obtain ⟨s7, hx26, h⟩ := bnd_some h
  refine a_q rfl gn rfl (fun w' => y_catl rfl et ev_const hx26) ?_
  obtain ⟨r9, hx27, h⟩ := bnd_some h
  refine la_call rfl gn rfl (r_callF (vs := [(Value.agg (AType e1.Type_)), (Value.agg (AVal e1.Val))]) rfl ok_104 ⟨et, ⟨et, trivial⟩⟩) (Calls.mono (c_ref04_Format (Dj F c5) w13 hI.lt e1.Type_ e1.Val trivial r9 hx27) ?_)
  rintro _ w14 ⟨rfl, hx28, hl9⟩
  refine ⟨_, rfl, hx28, ?_⟩
  replace hI := (hI.ext hx28)
  obtain ⟨s8, hx29, h⟩ := bnd_some h
  refine a_q rfl gn rfl (fun w' => y_catl rfl et et hx29) ?_
  obtain ⟨s9, hx30, h⟩ := bnd_some h
  refine a_q rfl gn rfl (fun w' => y_catl rfl et ev_const hx30) ?_
  refine a_q rfl gn rfl (fun w' => y_assign rfl et) ?_
  refine a_nil ?_
  refine k_same (c_ret ?_)
  obtain rfl := some_inj h
  exact q_ret (vs := [(str s9)]) Tryz.results48 ⟨ev_tmp rfl rfl, trivial⟩ (fq hI trivial)
 refine sr (sq (y_eql rfl et ev_const) ?_)
 refine sa ?_
 refine nk (cif h et (fun hb h => ?_) (fun hb h => ?_))
 ·refine sr (sq (y_fieldAddr rfl et u39 rfl size_29 rfl) ?_)
  refine sq (y_loadN (l := (lLin e1.Lin a1 c1)) rfl et u29 rfl size_29 (hI.kblk (l := (lLin e1.Lin a1 c1)) .z rfl).1) ?_
  obtain ⟨r10, hx31, h⟩ := bnd_some h
  refine s_call gn rfl (r_callF (vs := [(Value.agg (ALin e1.Lin a1 c1))]) rfl ok_42 ⟨et, trivial⟩) (Calls.mono (c_ref05_Format (Dj F c5) w2 hI.lt e1.Lin a1 c1 ⟨(hI.get (.s .z)), trivial⟩ r10 hx31) ?_)
  rintro _ w15 ⟨rfl, hx32, hl10⟩
  refine ⟨_, rfl, ?_⟩
  replace hI := (hI.ext hx32)
  obtain ⟨s10, hx33, h⟩ := bnd_some h
  refine sq (y_catl rfl ev_const et hx33) ?_
  obtain ⟨s11, hx34, h⟩ := bnd_some h
  refine sq (y_catl rfl et ev_const hx34) ?_
  refine sa ?_
  refine nk (c_ret ?_)
  obtain rfl := some_inj h
  exact q_ret (vs := [(str s11)]) Tryz.results48 ⟨ev_tmp rfl rfl, trivial⟩ (fq hI trivial)
 refine sr (sq (y_eql rfl et ev_const) ?_)
 refine sa ?_
 refine nk (cif h et (fun hb h => ?_) (fun hb h => ?_))
 ·refine sr (sq (y_fieldAddr rfl et u39 rfl size_9 rfl) ?_)
  refine sq (y_load1 (v := (str e1.Name)) rfl et u9 rfl (hI.kblk (l := [(str e1.Name)]) .z rfl).1) ?_
  obtain ⟨s12, hx35, h⟩ := bnd_some h
  refine sq (y_catl rfl et ev_const hx35) ?_
  refine sa ?_
  refine nk (c_seq (sr (sac ?_)))
  refine nk (c_block (c_loop (α := Nat × (List UInt8) × Int) (fun x => fun w => ∃ C, Bun noM F w0 C w [] [Cl.blk b1 39 #[vi e1.Op, (str e1.Name), vi e1.Val.N, vi e1.Val.D, vi e1.Type_.Kind, vi e1.Type_.Bits, vi e1.Type_.Frac, vi e1.Type_.Round, vi e1.Type_.Over, vi e1.Lin.K, vs a1 e1.Lin.L.length c1, vs a2 e1.Idx.length c2, vs a3 e1.Args.length c3], Cl.sl cGMono a1 c1 e1.Lin.L, Cl.sl cGIndex a2 c2 e1.Idx, Cl.sl cGExpr a3 c3 e1.Args] ∧ m_ref15_text_l1 e1 (x.1) (x.2.1) (x.2.2) = some r) (fun x _ => x.1) (fun x => [(1, vp b1 0), (4, (str (x.2.1))), (5, vi (x.2.2))]) (fu, s12, 0) ⟨_, hI.arr .n ⟨.z, (.s .z), (.s (.s .z)), (.s (.s (.s .z))), trivial⟩, h⟩ ⟨rfl, rfl, rfl, trivial⟩ ?_))
  clear h hI; rintro ⟨fuel1, s13, i1⟩ w16 ⟨c16, hI, h⟩
  dsimp only at hI h
  rcases fuel1 with _ | fuel1
  ·rw [m_ref15_text_l1] at h; cases h
  rw [m_ref15_text_l1] at h
  refine c_sub (e := [(1, vp b1 0), (4, (str s13)), (5, vi i1)]) ⟨rfl, rfl, rfl, trivial⟩ ?_
  refine c_seq (sr (sm ?_))
  refine sq (y_fieldAddr rfl et u39 rfl size_34 rfl) ?_
  refine sq (y_load1 (v := (vs a2 e1.Idx.length c2)) rfl et u34 rfl (hI.kblk (l := [vs a2 e1.Idx.length c2]) .z rfl).1) ?_
  refine sq (y_lenl rfl u34 et) ?_
  refine sq (y_lss rfl et et) ?_
  refine nk (cif h et (fun hb h => ?_) (fun hb h => ?_))
  ·refine c_skip (k_same (c_seq (c_block (c_join (α := (List UInt8)) (fun _ => ⟨162, []⟩) (fun x => [(1, vp b1 0), (4, (str x)), (5, vi i1)]) (fun x => fun w => ∃ C, Bun noM F w0 C w [] [Cl.blk b1 39 #[vi e1.Op, (str e1.Name), vi e1.Val.N, vi e1.Val.D, vi e1.Type_.Kind, vi e1.Type_.Bits, vi e1.Type_.Frac, vi e1.Type_.Round, vi e1.Type_.Over, vi e1.Lin.K, vs a1 e1.Lin.L.length c1, vs a2 e1.Idx.length c2, vs a3 e1.Args.length c3], Cl.sl cGMono a1 c1 e1.Lin.L, Cl.sl cGIndex a2 c2 e1.Idx, Cl.sl cGExpr a3 c3 e1.Args] ∧ m_ref15_text_j2 e1 i1 (m_ref15_text_l1 e1 fuel1) x = some r) ?_ ?_))))
   ·clear h hI; rintro s14 w17 ⟨c17, hI, h⟩
    try dsimp only at hI h
    rw [m_ref15_text_j2] at h
    refine c_sub (e := [(1, vp b1 0), (4, (str s14)), (5, vi i1)]) ⟨rfl, rfl, rfl, trivial⟩ ?_
    refine c_region rfl ?_
    refine sm ?_
    refine sq (y_fieldAddr rfl et u39 rfl size_34 rfl) ?_
    refine sq (y_load1 (v := (vs a2 e1.Idx.length c2)) rfl et u34 rfl (hI.kblk (l := [vs a2 e1.Idx.length c2]) .z rfl).1) ?_
    refine sm ?_
    obtain ⟨e5, hx36, h⟩ := bnd_some h
    obtain ⟨ad4, cs4, hA4, hr4, hq4⟩ := hI.clat (.s (.s .z)) hx36
    obtain ⟨a13, c18, a14, c19, rfl, hf10, hf11⟩ := hr4
    have hI := hI.add (c := Cl.sl cGMono a13 c18 e5.Lin.L) hf10
    have hI := hI.add (c := Cl.sl cGLin a14 c19 e5.At) hf11
    refine sq (y_indexAddr rfl u34 size_32 et et (lat_bd hx36) hA4) ?_
    refine sq (y_loadN (l := [vi e5.Lin.K, vs a13 e5.Lin.L.length c18, (str e5.From), vs a14 e5.At.length c19]) rfl et u32 rfl size_32 hq4.1) ?_
    obtain ⟨r11, hx37, h⟩ := bnd_some h
    refine s_call gn rfl (r_callF (vs := [(Value.agg #[vi e5.Lin.K, vs a13 e5.Lin.L.length c18, (str e5.From), vs a14 e5.At.length c19])]) rfl ok_15 ⟨et, trivial⟩) (Calls.mono (c_ref15_Index (Dj F c17) w17 hI.lt e5 a13 c18 a14 c19 ⟨(hI.get (.s .z)), (hI.get .z), trivial⟩ r11 hx37) ?_)
    rintro _ w18 ⟨rfl, hx38, hl11⟩
    refine ⟨_, rfl, ?_⟩
    replace hI := (hI.ext hx38)
    obtain ⟨s15, hx39, h⟩ := bnd_some h
    refine sq (y_catl rfl et et hx39) ?_
    refine sa ?_
    refine nk (c_region rfl ?_)
    refine sm ?_
    refine sq (y_add rfl et ev_const) ?_
    refine sa ?_
    refine s_nil ?_
    exact k_loop (fuel1, s15, wi64 (i1 + 1)) ⟨rfl, rfl, rfl, trivial⟩ ⟨_, hI.arr .n ⟨(.s (.s .z)), (.s (.s (.s .z))), (.s (.s (.s (.s .z)))), (.s (.s (.s (.s (.s .z))))), trivial⟩, h⟩ (Nat.lt_succ_self _)
   refine sr (sm ?_)
   refine sq (y_gtr rfl et ev_const) ?_
   refine nk (cif h et (fun hb h => ?_) (fun hb h => ?_))
   ·refine c_region rfl ?_
    refine sm ?_
    obtain ⟨s16, hx40, h⟩ := bnd_some h
    refine sq (y_catl rfl et ev_const hx40) ?_
    refine sa ?_
    refine s_nil ?_
    exact k_join s16 ⟨rfl, rfl, rfl, trivial⟩ ⟨_, hI.arr .n ⟨.z, (.s .z), (.s (.s .z)), (.s (.s (.s .z))), trivial⟩, h⟩ rfl
   exact c_skip (k_join s13 ⟨rfl, rfl, rfl, trivial⟩ ⟨_, hI.arr .n ⟨.z, (.s .z), (.s (.s .z)), (.s (.s (.s .z))), trivial⟩, h⟩ rfl)
  refine c_exit ?_
  refine k_in ?_
  refine k_same (sr (sm ?_))
  obtain ⟨s17, hx41, h⟩ := bnd_some h
  refine sq (y_catl rfl et ev_const hx41) ?_
  refine sa ?_
  refine nk (c_ret ?_)
  obtain rfl := some_inj h
  exact q_ret (vs := [(str s17)]) Tryz.results48 ⟨ev_tmp rfl rfl, trivial⟩ (fq hI trivial)
 refine sr (sq (y_eql rfl et ev_const) ?_)
 refine sa ?_
 refine nk (cif h et (fun hb h => ?_) (fun hb h => ?_))
 ·refine sr (sq (y_fieldAddr rfl et u39 rfl size_37 rfl) ?_)
  refine sq (y_load1 (v := (vs a3 e1.Args.length c3)) rfl et u37 rfl (hI.kblk (l := [vs a3 e1.Args.length c3]) .z rfl).1) ?_
  obtain ⟨e6, hx42, h⟩ := bnd_some h
  obtain ⟨ad5, cs5, hA5, hr5, hq5⟩ := hI.clat (.s (.s (.s .z))) hx42
  obtain ⟨a15, c20, a16, c21, a17, c22, rfl, hf12, hf13, hf14⟩ := cGExpr_out hr5
  have hI := hI.add (c := Cl.sl cGMono a15 c20 e6.Lin.L) hf12
  have hI := hI.add (c := Cl.sl cGIndex a16 c21 e6.Idx) hf13
  have hI := hI.add (c := Cl.sl cGExpr a17 c22 e6.Args) hf14
  refine sq (y_indexAddr rfl u37 size_39 et ev_const (lat_bd hx42) hA5) ?_
  refine sq (y_loadN (l := [vi e6.Op, (str e6.Name), vi e6.Val.N, vi e6.Val.D, vi e6.Type_.Kind, vi e6.Type_.Bits, vi e6.Type_.Frac, vi e6.Type_.Round, vi e6.Type_.Over, vi e6.Lin.K, vs a15 e6.Lin.L.length c20, vs a16 e6.Idx.length c21, vs a17 e6.Args.length c22]) rfl et u39 rfl size_39 hq5.1) ?_
  obtain ⟨r12, hx43, h⟩ := bnd_some h
  refine s_call gn rfl (r_callF (vs := [(Value.agg #[vi e6.Op, (str e6.Name), vi e6.Val.N, vi e6.Val.D, vi e6.Type_.Kind, vi e6.Type_.Bits, vi e6.Type_.Frac, vi e6.Type_.Round, vi e6.Type_.Over, vi e6.Lin.K, vs a15 e6.Lin.L.length c20, vs a16 e6.Idx.length c21, vs a17 e6.Args.length c22]), vi 7]) rfl ok_102 ⟨et, ⟨ev_const, trivial⟩⟩) (Calls.mono (c_ref15_operand rec_ hrec (Dj F c5) w2 hI.lt e6 7 a15 c20 a16 c21 a17 c22 ⟨(hI.get (.s (.s .z))), (hI.get (.s .z)), (hI.get .z), trivial⟩ r12 hx43) ?_)
  rintro _ w19 ⟨rfl, hx44, hl12⟩
  refine ⟨_, rfl, ?_⟩
  replace hI := (hI.ext hx44)
  obtain ⟨s18, hx45, h⟩ := bnd_some h
  refine sq (y_catl rfl ev_const et hx45) ?_
  refine sa ?_
  refine s_nil ?_
  refine k_next (e := [(2, (str s18))]) ⟨rfl, trivial⟩ ?_
  refine c_ret ?_
  obtain rfl := some_inj h
  exact q_ret (vs := [(str s18)]) Tryz.results48 ⟨ev_tmp rfl rfl, trivial⟩ (fq hI trivial)
 refine sr (sq (y_eql rfl et ev_const) ?_)
 refine sa ?_
 refine nk (cif h et (fun hb h => ?_) (fun hb h => ?_))
 ·refine sr (sq (y_fieldAddr rfl et u39 rfl size_37 rfl) ?_)
  refine sq (y_load1 (v := (vs a3 e1.Args.length c3)) rfl et u37 rfl (hI.kblk (l := [vs a3 e1.Args.length c3]) .z rfl).1) ?_
  obtain ⟨e7, hx46, h⟩ := bnd_some h
  obtain ⟨ad6, cs6, hA6, hr6, hq6⟩ := hI.clat (.s (.s (.s .z))) hx46
  obtain ⟨a18, c23, a19, c24, a20, c25, rfl, hf15, hf16, hf17⟩ := cGExpr_out hr6
  have hI := hI.add (c := Cl.sl cGMono a18 c23 e7.Lin.L) hf15
  have hI := hI.add (c := Cl.sl cGIndex a19 c24 e7.Idx) hf16
  have hI := hI.add (c := Cl.sl cGExpr a20 c25 e7.Args) hf17
  refine sq (y_indexAddr rfl u37 size_39 et ev_const (lat_bd hx46) hA6) ?_
  refine sq (y_loadN (l := [vi e7.Op, (str e7.Name), vi e7.Val.N, vi e7.Val.D, vi e7.Type_.Kind, vi e7.Type_.Bits, vi e7.Type_.Frac, vi e7.Type_.Round, vi e7.Type_.Over, vi e7.Lin.K, vs a18 e7.Lin.L.length c23, vs a19 e7.Idx.length c24, vs a20 e7.Args.length c25]) rfl et u39 rfl size_39 hq6.1) ?_
  obtain ⟨r13, hx47, h⟩ := bnd_some h
  refine s_call gn rfl (r_callF (vs := [(Value.agg #[vi e7.Op, (str e7.Name), vi e7.Val.N, vi e7.Val.D, vi e7.Type_.Kind, vi e7.Type_.Bits, vi e7.Type_.Frac, vi e7.Type_.Round, vi e7.Type_.Over, vi e7.Lin.K, vs a18 e7.Lin.L.length c23, vs a19 e7.Idx.length c24, vs a20 e7.Args.length c25]), vi 3]) rfl ok_102 ⟨et, ⟨ev_const, trivial⟩⟩) (Calls.mono (c_ref15_operand rec_ hrec (Dj F c5) w2 hI.lt e7 3 a18 c23 a19 c24 a20 c25 ⟨(hI.get (.s (.s .z))), (hI.get (.s .z)), (hI.get .z), trivial⟩ r13 hx47) ?_)
  rintro _ w20 ⟨rfl, hx48, hl13⟩
  refine ⟨_, rfl, ?_⟩
  replace hI := (hI.ext hx48)
  obtain ⟨s19, hx49, h⟩ := bnd_some h
  refine sq (y_catl rfl ev_const et hx49) ?_
  refine sa ?_
  refine s_nil ?_
  refine k_next (e := [(2, (str s19))]) ⟨rfl, trivial⟩ ?_
  refine c_ret ?_
  obtain rfl := some_inj h
  exact q_ret (vs := [(str s19)]) Tryz.results48 ⟨ev_tmp rfl rfl, trivial⟩ (fq hI trivial)
 refine sr (sq (y_eql rfl et ev_const) ?_)
 refine sa ?_
 refine nk (cif h et (fun hb h => ?_) (fun hb h => ?_))
 ·refine c_seq (c_drawX [] false (.c (0, .q) (.c (1, .q) (.c (2, .q) (.c (3, .q) (.c (7, .q) (.c (8, .q) (.c (9, .q) (.c (10, .q) (.c (4, .s) (.c (5, .q) (.c (6, .q) (.c (11, .s) (.c (12, .q) (.c (13, .q) (.c (14, .q) .n))))))))))))))) hI (by kernel_rfl) (by kernel_rfl) ?_)
  clear hI; intro w21 hI
  refine a_q rfl gn rfl (fun w' => y_fieldAddr rfl et u39 rfl size_37 rfl) ?_
  refine a_read rfl gn rfl (fun w' hw' => (y_load1 (v := (vs a3 e1.Args.length c3)) rfl et u37 rfl ((hI.kblk (l := [vs a3 e1.Args.length c3]) .z rfl).at_ (SX.any rfl hw')))) (by kernel_rfl) ?_
  obtain ⟨e8, hx50, h⟩ := bnd_some h
  obtain ⟨ad7, cs7, hA7, hr7, hq7⟩ := hI.clat (.s (.s (.s .z))) hx50
  obtain ⟨a21, c26, a22, c27, a23, c28, rfl, hf18, hf19, hf20⟩ := cGExpr_out hr7
  have hI := hI.add (c := Cl.sl cGMono a21 c26 e8.Lin.L) hf18
  have hI := hI.add (c := Cl.sl cGIndex a22 c27 e8.Idx) hf19
  have hI := hI.add (c := Cl.sl cGExpr a23 c28 e8.Args) hf20
  refine a_q rfl gn rfl (fun w' => y_indexAddr rfl u37 size_39 et ev_const (lat_bd hx50) hA7) ?_
  refine a_read rfl gn rfl (fun w' hw' => (y_loadN (l := [vi e8.Op, (str e8.Name), vi e8.Val.N, vi e8.Val.D, vi e8.Type_.Kind, vi e8.Type_.Bits, vi e8.Type_.Frac, vi e8.Type_.Round, vi e8.Type_.Over, vi e8.Lin.K, vs a21 e8.Lin.L.length c26, vs a22 e8.Idx.length c27, vs a23 e8.Args.length c28]) rfl et u39 rfl size_39 (hq7.at_ (SX.any rfl hw')))) (by kernel_rfl) ?_
  refine a_q rfl gn rfl (fun w' => y_fieldAddr rfl et u39 rfl size_37 rfl) ?_
  refine a_read rfl gn rfl (fun w' hw' => (y_load1 (v := (vs a3 e1.Args.length c3)) rfl et u37 rfl ((hI.kblk (l := [vs a3 e1.Args.length c3]) (.s (.s (.s .z))) rfl).at_ (SX.any rfl hw')))) (by kernel_rfl) ?_
  obtain ⟨e9, hx51, h⟩ := bnd_some h
  obtain ⟨ad8, cs8, hA8, hr8, hq8⟩ := hI.clat (.s (.s (.s (.s (.s (.s .z)))))) hx51
  obtain ⟨a24, c29, a25, c30, a26, c31, rfl, hf21, hf22, hf23⟩ := cGExpr_out hr8
  have hI := hI.add (c := Cl.sl cGMono a24 c29 e9.Lin.L) hf21
  have hI := hI.add (c := Cl.sl cGIndex a25 c30 e9.Idx) hf22
  have hI := hI.add (c := Cl.sl cGExpr a26 c31 e9.Args) hf23
  refine a_q rfl gn rfl (fun w' => y_indexAddr rfl u37 size_39 et ev_const (lat_bd hx51) hA8) ?_
  refine a_read rfl gn rfl (fun w' hw' => (y_loadN (l := [vi e9.Op, (str e9.Name), vi e9.Val.N, vi e9.Val.D, vi e9.Type_.Kind, vi e9.Type_.Bits, vi e9.Type_.Frac, vi e9.Type_.Round, vi e9.Type_.Over, vi e9.Lin.K, vs a24 e9.Lin.L.length c29, vs a25 e9.Idx.length c30, vs a26 e9.Args.length c31]) rfl et u39 rfl size_39 (hq8.at_ (SX.any rfl hw')))) (by kernel_rfl) ?_
  obtain ⟨r14, hx52, h⟩ := bnd_some h
  refine la_call rfl gn rfl (r_callF (vs := [(Value.agg #[vi e8.Op, (str e8.Name), vi e8.Val.N, vi e8.Val.D, vi e8.Type_.Kind, vi e8.Type_.Bits, vi e8.Type_.Frac, vi e8.Type_.Round, vi e8.Type_.Over, vi e8.Lin.K, vs a21 e8.Lin.L.length c26, vs a22 e8.Idx.length c27, vs a23 e8.Args.length c28])]) rfl ok_48 ⟨et, trivial⟩) (Calls.mono (hrec (Dj F c5) w21 hI.lt e8 a21 c26 a22 c27 a23 c28 ⟨(hI.get (.s (.s (.s (.s (.s .z)))))), (hI.get (.s (.s (.s (.s .z))))), (hI.get (.s (.s (.s .z)))), trivial⟩ r14 hx52) ?_)
  rintro _ w22 ⟨rfl, hx53, hl14⟩
  refine ⟨_, rfl, hx53, ?_⟩
  replace hI := (hI.ext hx53)
  obtain ⟨s20, hx54, h⟩ := bnd_some h
  refine a_q rfl gn rfl (fun w' => y_catl rfl ev_const et hx54) ?_
  obtain ⟨s21, hx55, h⟩ := bnd_some h
  refine a_q rfl gn rfl (fun w' => y_catl rfl et ev_const hx55) ?_
  obtain ⟨r15, hx56, h⟩ := bnd_some h
  refine la_call rfl gn rfl (r_callF (vs := [(Value.agg #[vi e9.Op, (str e9.Name), vi e9.Val.N, vi e9.Val.D, vi e9.Type_.Kind, vi e9.Type_.Bits, vi e9.Type_.Frac, vi e9.Type_.Round, vi e9.Type_.Over, vi e9.Lin.K, vs a24 e9.Lin.L.length c29, vs a25 e9.Idx.length c30, vs a26 e9.Args.length c31])]) rfl ok_48 ⟨et, trivial⟩) (Calls.mono (hrec (Dj F c5) w22 hI.lt e9 a24 c29 a25 c30 a26 c31 ⟨(hI.get (.s (.s .z))), (hI.get (.s .z)), (hI.get .z), trivial⟩ r15 hx56) ?_)
  rintro _ w23 ⟨rfl, hx57, hl15⟩
  refine ⟨_, rfl, hx57, ?_⟩
  replace hI := (hI.ext hx57)
  obtain ⟨s22, hx58, h⟩ := bnd_some h
  refine a_q rfl gn rfl (fun w' => y_catl rfl et et hx58) ?_
  obtain ⟨s23, hx59, h⟩ := bnd_some h
  refine a_q rfl gn rfl (fun w' => y_catl rfl et ev_const hx59) ?_
  refine a_q rfl gn rfl (fun w' => y_assign rfl et) ?_
  refine a_nil ?_
  refine k_next (e := [(2, (str s23))]) ⟨rfl, trivial⟩ ?_
  refine c_ret ?_
  obtain rfl := some_inj h
  exact q_ret (vs := [(str s23)]) Tryz.results48 ⟨ev_tmp rfl rfl, trivial⟩ (fq hI trivial)
 refine sr (sq (y_eql rfl et ev_const) ?_)
 refine sa ?_
 refine nk (cif h et (fun hb h => ?_) (fun hb h => ?_))
 ·refine c_seq (c_drawX [] false (.c (0, .q) (.c (1, .q) (.c (2, .q) (.c (3, .q) (.c (7, .q) (.c (8, .q) (.c (9, .q) (.c (10, .q) (.c (4, .s) (.c (5, .q) (.c (6, .q) (.c (11, .s) (.c (12, .q) (.c (13, .q) (.c (14, .q) .n))))))))))))))) hI (by kernel_rfl) (by kernel_rfl) ?_)
  clear hI; intro w24 hI
  refine a_q rfl gn rfl (fun w' => y_fieldAddr rfl et u39 rfl size_37 rfl) ?_
  refine a_read rfl gn rfl (fun w' hw' => (y_load1 (v := (vs a3 e1.Args.length c3)) rfl et u37 rfl ((hI.kblk (l := [vs a3 e1.Args.length c3]) .z rfl).at_ (SX.any rfl hw')))) (by kernel_rfl) ?_
  obtain ⟨e10, hx60, h⟩ := bnd_some h
  obtain ⟨ad9, cs9, hA9, hr9, hq9⟩ := hI.clat (.s (.s (.s .z))) hx60
  obtain ⟨a27, c32, a28, c33, a29, c34, rfl, hf24, hf25, hf26⟩ := cGExpr_out hr9
  have hI := hI.add (c := Cl.sl cGMono a27 c32 e10.Lin.L) hf24
  have hI := hI.add (c := Cl.sl cGIndex a28 c33 e10.Idx) hf25
  have hI := hI.add (c := Cl.sl cGExpr a29 c34 e10.Args) hf26
  refine a_q rfl gn rfl (fun w' => y_indexAddr rfl u37 size_39 et ev_const (lat_bd hx60) hA9) ?_
  refine a_read rfl gn rfl (fun w' hw' => (y_loadN (l := [vi e10.Op, (str e10.Name), vi e10.Val.N, vi e10.Val.D, vi e10.Type_.Kind, vi e10.Type_.Bits, vi e10.Type_.Frac, vi e10.Type_.Round, vi e10.Type_.Over, vi e10.Lin.K, vs a27 e10.Lin.L.length c32, vs a28 e10.Idx.length c33, vs a29 e10.Args.length c34]) rfl et u39 rfl size_39 (hq9.at_ (SX.any rfl hw')))) (by kernel_rfl) ?_
  refine a_q rfl gn rfl (fun w' => y_fieldAddr rfl et u39 rfl size_37 rfl) ?_
  refine a_read rfl gn rfl (fun w' hw' => (y_load1 (v := (vs a3 e1.Args.length c3)) rfl et u37 rfl ((hI.kblk (l := [vs a3 e1.Args.length c3]) (.s (.s (.s .z))) rfl).at_ (SX.any rfl hw')))) (by kernel_rfl) ?_
  obtain ⟨e11, hx61, h⟩ := bnd_some h
  obtain ⟨ad10, cs10, hA10, hr10, hq10⟩ := hI.clat (.s (.s (.s (.s (.s (.s .z)))))) hx61
  obtain ⟨a30, c35, a31, c36, a32, c37, rfl, hf27, hf28, hf29⟩ := cGExpr_out hr10
  have hI := hI.add (c := Cl.sl cGMono a30 c35 e11.Lin.L) hf27
  have hI := hI.add (c := Cl.sl cGIndex a31 c36 e11.Idx) hf28
  have hI := hI.add (c := Cl.sl cGExpr a32 c37 e11.Args) hf29
  refine a_q rfl gn rfl (fun w' => y_indexAddr rfl u37 size_39 et ev_const (lat_bd hx61) hA10) ?_
  refine a_read rfl gn rfl (fun w' hw' => (y_loadN (l := [vi e11.Op, (str e11.Name), vi e11.Val.N, vi e11.Val.D, vi e11.Type_.Kind, vi e11.Type_.Bits, vi e11.Type_.Frac, vi e11.Type_.Round, vi e11.Type_.Over, vi e11.Lin.K, vs a30 e11.Lin.L.length c35, vs a31 e11.Idx.length c36, vs a32 e11.Args.length c37]) rfl et u39 rfl size_39 (hq10.at_ (SX.any rfl hw')))) (by kernel_rfl) ?_
  obtain ⟨r16, hx62, h⟩ := bnd_some h
  refine la_call rfl gn rfl (r_callF (vs := [(Value.agg #[vi e10.Op, (str e10.Name), vi e10.Val.N, vi e10.Val.D, vi e10.Type_.Kind, vi e10.Type_.Bits, vi e10.Type_.Frac, vi e10.Type_.Round, vi e10.Type_.Over, vi e10.Lin.K, vs a27 e10.Lin.L.length c32, vs a28 e10.Idx.length c33, vs a29 e10.Args.length c34])]) rfl ok_48 ⟨et, trivial⟩) (Calls.mono (hrec (Dj F c5) w24 hI.lt e10 a27 c32 a28 c33 a29 c34 ⟨(hI.get (.s (.s (.s (.s (.s .z)))))), (hI.get (.s (.s (.s (.s .z))))), (hI.get (.s (.s (.s .z)))), trivial⟩ r16 hx62) ?_)
  rintro _ w25 ⟨rfl, hx63, hl16⟩
  refine ⟨_, rfl, hx63, ?_⟩
  replace hI := (hI.ext hx63)
  obtain ⟨s24, hx64, h⟩ := bnd_some h
  refine a_q rfl gn rfl (fun w' => y_catl rfl ev_const et hx64) ?_
  obtain ⟨s25, hx65, h⟩ := bnd_some h
  refine a_q rfl gn rfl (fun w' => y_catl rfl et ev_const hx65) ?_
  obtain ⟨r17, hx66, h⟩ := bnd_some h
  refine la_call rfl gn rfl (r_callF (vs := [(Value.agg #[vi e11.Op, (str e11.Name), vi e11.Val.N, vi e11.Val.D, vi e11.Type_.Kind, vi e11.Type_.Bits, vi e11.Type_.Frac, vi e11.Type_.Round, vi e11.Type_.Over, vi e11.Lin.K, vs a30 e11.Lin.L.length c35, vs a31 e11.Idx.length c36, vs a32 e11.Args.length c37])]) rfl ok_48 ⟨et, trivial⟩) (Calls.mono (hrec (Dj F c5) w25 hI.lt e11 a30 c35 a31 c36 a32 c37 ⟨(hI.get (.s (.s .z))), (hI.get (.s .z)), (hI.get .z), trivial⟩ r17 hx66) ?_)
  rintro _ w26 ⟨rfl, hx67, hl17⟩
  refine ⟨_, rfl, hx67, ?_⟩
  replace hI := (hI.ext hx67)
  obtain ⟨s26, hx68, h⟩ := bnd_some h
  refine a_q rfl gn rfl (fun w' => y_catl rfl et et hx68) ?_
  obtain ⟨s27, hx69, h⟩ := bnd_some h
  refine a_q rfl gn rfl (fun w' => y_catl rfl et ev_const hx69) ?_
  refine a_q rfl gn rfl (fun w' => y_assign rfl et) ?_
  refine a_nil ?_
  refine k_next (e := [(2, (str s27))]) ⟨rfl, trivial⟩ ?_
  refine c_ret ?_
  obtain rfl := some_inj h
  exact q_ret (vs := [(str s27)]) Tryz.results48 ⟨ev_tmp rfl rfl, trivial⟩ (fq hI trivial)
 refine sr (sq (y_eql rfl et ev_const) ?_)
 refine sa ?_
 refine s_nil ?_
 refine k_next (e := [(1, vp b1 0), (127, (vb (decide (e1.Op = 11))))]) ⟨rfl, rfl, trivial⟩ ?_
 refine cif h et (fun hb h => ?_) (fun hb h => ?_)
 ·refine c_seq (c_drawX [] false (.c (0, .q) (.c (1, .q) (.c (2, .q) (.c (3, .q) (.c (7, .q) (.c (8, .q) (.c (9, .q) (.c (10, .q) (.c (14, .q) (.c (15, .q) (.c (16, .q) (.c (17, .q) (.c (4, .s) (.c (5, .q) (.c (6, .q) (.c (11, .s) (.c (12, .q) (.c (13, .q) (.c (18, .s) (.c (19, .q) (.c (20, .q) (.c (21, .q) .n)))))))))))))))))))))) hI (by kernel_rfl) (by kernel_rfl) ?_)
  clear hI; intro w27 hI
  refine a_q rfl gn rfl (fun w' => y_fieldAddr rfl et u39 rfl size_37 rfl) ?_
  refine a_read rfl gn rfl (fun w' hw' => (y_load1 (v := (vs a3 e1.Args.length c3)) rfl et u37 rfl ((hI.kblk (l := [vs a3 e1.Args.length c3]) .z rfl).at_ (SX.any rfl hw')))) (by kernel_rfl) ?_
  obtain ⟨e12, hx70, h⟩ := bnd_some h
  obtain ⟨ad11, cs11, hA11, hr11, hq11⟩ := hI.clat (.s (.s (.s .z))) hx70
  obtain ⟨a33, c38, a34, c39, a35, c40, rfl, hf30, hf31, hf32⟩ := cGExpr_out hr11
  have hI := hI.add (c := Cl.sl cGMono a33 c38 e12.Lin.L) hf30
  have hI := hI.add (c := Cl.sl cGIndex a34 c39 e12.Idx) hf31
  have hI := hI.add (c := Cl.sl cGExpr a35 c40 e12.Args) hf32
  refine a_q rfl gn rfl (fun w' => y_indexAddr rfl u37 size_39 et ev_const (lat_bd hx70) hA11) ?_
  refine a_read rfl gn rfl (fun w' hw' => (y_loadN (l := [vi e12.Op, (str e12.Name), vi e12.Val.N, vi e12.Val.D, vi e12.Type_.Kind, vi e12.Type_.Bits, vi e12.Type_.Frac, vi e12.Type_.Round, vi e12.Type_.Over, vi e12.Lin.K, vs a33 e12.Lin.L.length c38, vs a34 e12.Idx.length c39, vs a35 e12.Args.length c40]) rfl et u39 rfl size_39 (hq11.at_ (SX.any rfl hw')))) (by kernel_rfl) ?_
  refine a_q rfl gn rfl (fun w' => y_fieldAddr rfl et u39 rfl size_37 rfl) ?_
  refine a_read rfl gn rfl (fun w' hw' => (y_load1 (v := (vs a3 e1.Args.length c3)) rfl et u37 rfl ((hI.kblk (l := [vs a3 e1.Args.length c3]) (.s (.s (.s .z))) rfl).at_ (SX.any rfl hw')))) (by kernel_rfl) ?_
  obtain ⟨e13, hx71, h⟩ := bnd_some h
  obtain ⟨ad12, cs12, hA12, hr12, hq12⟩ := hI.clat (.s (.s (.s (.s (.s (.s .z)))))) hx71
  obtain ⟨a36, c41, a37, c42, a38, c43, rfl, hf33, hf34, hf35⟩ := cGExpr_out hr12
  have hI := hI.add (c := Cl.sl cGMono a36 c41 e13.Lin.L) hf33
  have hI := hI.add (c := Cl.sl cGIndex a37 c42 e13.Idx) hf34
  have hI := hI.add (c := Cl.sl cGExpr a38 c43 e13.Args) hf35
  refine a_q rfl gn rfl (fun w' => y_indexAddr rfl u37 size_39 et ev_const (lat_bd hx71) hA12) ?_
  refine a_read rfl gn rfl (fun w' hw' => (y_loadN (l := [vi e13.Op, (str e13.Name), vi e13.Val.N, vi e13.Val.D, vi e13.Type_.Kind, vi e13.Type_.Bits, vi e13.Type_.Frac, vi e13.Type_.Round, vi e13.Type_.Over, vi e13.Lin.K, vs a36 e13.Lin.L.length c41, vs a37 e13.Idx.length c42, vs a38 e13.Args.length c43]) rfl et u39 rfl size_39 (hq12.at_ (SX.any rfl hw')))) (by kernel_rfl) ?_
  refine a_q rfl gn rfl (fun w' => y_fieldAddr rfl et u39 rfl size_37 rfl) ?_
  refine a_read rfl gn rfl (fun w' hw' => (y_load1 (v := (vs a3 e1.Args.length c3)) rfl et u37 rfl ((hI.kblk (l := [vs a3 e1.Args.length c3]) (.s (.s (.s (.s (.s (.s .z)))))) rfl).at_ (SX.any rfl hw')))) (by kernel_rfl) ?_
  obtain ⟨e14, hx72, h⟩ := bnd_some h
  obtain ⟨ad13, cs13, hA13, hr13, hq13⟩ := hI.clat (.s (.s (.s (.s (.s (.s (.s (.s (.s .z))))))))) hx72
  obtain ⟨a39, c44, a40, c45, a41, c46, rfl, hf36, hf37, hf38⟩ := cGExpr_out hr13
  have hI := hI.add (c := Cl.sl cGMono a39 c44 e14.Lin.L) hf36
  have hI := hI.add (c := Cl.sl cGIndex a40 c45 e14.Idx) hf37
  have hI := hI.add (c := Cl.sl cGExpr a41 c46 e14.Args) hf38
  refine a_q rfl gn rfl (fun w' => y_indexAddr rfl u37 size_39 et ev_const (lat_bd hx72) hA13) ?_
  refine a_read rfl gn rfl (fun w' hw' => (y_loadN (l := [vi e14.Op, (str e14.Name), vi e14.Val.N, vi e14.Val.D, vi e14.Type_.Kind, vi e14.Type_.Bits, vi e14.Type_.Frac, vi e14.Type_.Round, vi e14.Type_.Over, vi e14.Lin.K, vs a39 e14.Lin.L.length c44, vs a40 e14.Idx.length c45, vs a41 e14.Args.length c46]) rfl et u39 rfl size_39 (hq13.at_ (SX.any rfl hw')))) (by kernel_rfl) ?_
  obtain ⟨r18, hx73, h⟩ := bnd_some h
  refine la_call rfl gn rfl (r_callF (vs := [(Value.agg #[vi e12.Op, (str e12.Name), vi e12.Val.N, vi e12.Val.D, vi e12.Type_.Kind, vi e12.Type_.Bits, vi e12.Type_.Frac, vi e12.Type_.Round, vi e12.Type_.Over, vi e12.Lin.K, vs a33 e12.Lin.L.length c38, vs a34 e12.Idx.length c39, vs a35 e12.Args.length c40])]) rfl ok_48 ⟨et, trivial⟩) (Calls.mono (hrec (Dj F c5) w27 hI.lt e12 a33 c38 a34 c39 a35 c40 ⟨(hI.get (.s (.s (.s (.s (.s (.s (.s (.s .z))))))))), (hI.get (.s (.s (.s (.s (.s (.s (.s .z)))))))), (hI.get (.s (.s (.s (.s (.s (.s .z))))))), trivial⟩ r18 hx73) ?_)
  rintro _ w28 ⟨rfl, hx74, hl18⟩
  refine ⟨_, rfl, hx74, ?_⟩
  replace hI := (hI.ext hx74)
  obtain ⟨s28, hx75, h⟩ := bnd_some h
  refine a_q rfl gn rfl (fun w' => y_catl rfl ev_const et hx75) ?_
  obtain ⟨s29, hx76, h⟩ := bnd_some h
  refine a_q rfl gn rfl (fun w' => y_catl rfl et ev_const hx76) ?_
  obtain ⟨r19, hx77, h⟩ := bnd_some h
  refine la_call rfl gn rfl (r_callF (vs := [(Value.agg #[vi e13.Op, (str e13.Name), vi e13.Val.N, vi e13.Val.D, vi e13.Type_.Kind, vi e13.Type_.Bits, vi e13.Type_.Frac, vi e13.Type_.Round, vi e13.Type_.Over, vi e13.Lin.K, vs a36 e13.Lin.L.length c41, vs a37 e13.Idx.length c42, vs a38 e13.Args.length c43])]) rfl ok_48 ⟨et, trivial⟩) (Calls.mono (hrec (Dj F c5) w28 hI.lt e13 a36 c41 a37 c42 a38 c43 ⟨(hI.get (.s (.s (.s (.s (.s .z)))))), (hI.get (.s (.s (.s (.s .z))))), (hI.get (.s (.s (.s .z)))), trivial⟩ r19 hx77) ?_)
  rintro _ w29 ⟨rfl, hx78, hl19⟩
  refine ⟨_, rfl, hx78, ?_⟩
  replace hI := (hI.ext hx78)
  obtain ⟨s30, hx79, h⟩ := bnd_some h
  refine a_q rfl gn rfl (fun w' => y_catl rfl et et hx79) ?_
  obtain ⟨s31, hx80, h⟩ := bnd_some h
  refine a_q rfl gn rfl (fun w' => y_catl rfl et ev_const hx80) ?_
  obtain ⟨r20, hx81, h⟩ := bnd_some h
  refine la_call rfl gn rfl (r_callF (vs := [(Value.agg #[vi e14.Op, (str e14.Name), vi e14.Val.N, vi e14.Val.D, vi e14.Type_.Kind, vi e14.Type_.Bits, vi e14.Type_.Frac, vi e14.Type_.Round, vi e14.Type_.Over, vi e14.Lin.K, vs a39 e14.Lin.L.length c44, vs a40 e14.Idx.length c45, vs a41 e14.Args.length c46])]) rfl ok_48 ⟨et, trivial⟩) (Calls.mono (hrec (Dj F c5) w29 hI.lt e14 a39 c44 a40 c45 a41 c46 ⟨(hI.get (.s (.s .z))), (hI.get (.s .z)), (hI.get .z), trivial⟩ r20 hx81) ?_)
  rintro _ w30 ⟨rfl, hx82, hl20⟩
  refine ⟨_, rfl, hx82, ?_⟩
  replace hI := (hI.ext hx82)
  obtain ⟨s32, hx83, h⟩ := bnd_some h
  refine a_q rfl gn rfl (fun w' => y_catl rfl et et hx83) ?_
  obtain ⟨s33, hx84, h⟩ := bnd_some h
  refine a_q rfl gn rfl (fun w' => y_catl rfl et ev_const hx84) ?_
  refine a_q rfl gn rfl (fun w' => y_assign rfl et) ?_
  refine a_nil ?_
  refine k_same (c_ret ?_)
  obtain rfl := some_inj h
  exact q_ret (vs := [(str s33)]) Tryz.results48 ⟨ev_tmp rfl rfl, trivial⟩ (fq hI trivial)
 exact c_skip (k_join () ⟨rfl, trivial⟩ ⟨_, hI.arr .n ⟨.z, (.s .z), (.s (.s .z)), (.s (.s (.s .z))), trivial⟩, h⟩ rfl)
theorem c_ref15_text_r (n : Nat) : ∀ (F : NP) (w0 : World) (hF : ∀ k, F k → k < w0.heap.size) (e1 : GExpr) (a1 : Option Addr) (c1 : Nat) (a2 : Option Addr) (c2 : Nat) (a3 : Option Addr) (c3 : Nat) (hc : AllCl [Cl.sl cGMono a1 c1 e1.Lin.L, Cl.sl cGIndex a2 c2 e1.Idx, Cl.sl cGExpr a3 c3 e1.Args] F w0) (r : List UInt8) (h : m_ref15_text_r n e1 = some r), Calls Tryz.prog 48 #[(Value.agg #[vi e1.Op, (str e1.Name), vi e1.Val.N, vi e1.Val.D, vi e1.Type_.Kind, vi e1.Type_.Bits, vi e1.Type_.Frac, vi e1.Type_.Round, vi e1.Type_.Over, vi e1.Lin.K, vs a1 e1.Lin.L.length c1, vs a2 e1.Idx.length c2, vs a3 e1.Args.length c3])] w0 fun e w => e = .returned (str r) ∧ Ext w0 w ∧ AllCl [] F w := by
 induction n with
 | zero => intro F w0 hF e1 a1 c1 a2 c2 a3 c3 hc r h; cases h
 | succ n ih => intro F w0 hF e1 a1 c1 a2 c2 a3 c3 hc r h; exact c_ref15_text_b (m_ref15_text_r n) ih F w0 hF e1 a1 c1 a2 c2 a3 c3 hc r h
theorem c_ref15_text (F : NP) (w0 : World) (hF : ∀ k, F k → k < w0.heap.size) (e1 : GExpr) (a1 : Option Addr) (c1 : Nat) (a2 : Option Addr) (c2 : Nat) (a3 : Option Addr) (c3 : Nat) (hc : AllCl [Cl.sl cGMono a1 c1 e1.Lin.L, Cl.sl cGIndex a2 c2 e1.Idx, Cl.sl cGExpr a3 c3 e1.Args] F w0) (r : List UInt8) (h : m_ref15_text e1 = some r) : Calls Tryz.prog 48 #[(Value.agg #[vi e1.Op, (str e1.Name), vi e1.Val.N, vi e1.Val.D, vi e1.Type_.Kind, vi e1.Type_.Bits, vi e1.Type_.Frac, vi e1.Type_.Round, vi e1.Type_.Over, vi e1.Lin.K, vs a1 e1.Lin.L.length c1, vs a2 e1.Idx.length c2, vs a3 e1.Args.length c3])] w0 fun e w => e = .returned (str r) ∧ Ext w0 w ∧ AllCl [] F w := c_ref15_text_r fu F w0 hF e1 a1 c1 a2 c2 a3 c3 hc r h
theorem c_ref15_Expr (F : NP) (w0 : World) (hF : ∀ k, F k → k < w0.heap.size) (e1 : GExpr) (a1 : Option Addr) (c1 : Nat) (a2 : Option Addr) (c2 : Nat) (a3 : Option Addr) (c3 : Nat) (hc : AllCl [Cl.sl cGMono a1 c1 e1.Lin.L, Cl.sl cGIndex a2 c2 e1.Idx, Cl.sl cGExpr a3 c3 e1.Args] F w0) (r : List UInt8)
  (h : m_ref15_Expr e1 = some r) :
  Calls Tryz.prog 18 #[(Value.agg #[vi e1.Op, (str e1.Name), vi e1.Val.N, vi e1.Val.D, vi e1.Type_.Kind, vi e1.Type_.Bits, vi e1.Type_.Frac, vi e1.Type_.Round, vi e1.Type_.Over, vi e1.Lin.K, vs a1 e1.Lin.L.length c1, vs a2 e1.Idx.length c2, vs a3 e1.Args.length c3])] w0 fun e w => e = .returned (str r) ∧ Ext w0 w ∧ AllCl [] F w := by
 refine enterK Tryz.func18 rfl Tryz.ntmps18 rfl ?_
 have hI := Bun.start hF hc
 clear hc
 rw [m_ref15_Expr] at h
 refine sr (l_box (v := (Value.agg #[vi e1.Op, (str e1.Name), vi e1.Val.N, vi e1.Val.D, vi e1.Type_.Kind, vi e1.Type_.Bits, vi e1.Type_.Frac, vi e1.Type_.Round, vi e1.Type_.Over, vi e1.Lin.K, vs a1 e1.Lin.L.length c1, vs a2 e1.Idx.length c2, vs a3 e1.Args.length c3])) (cs := #[vi e1.Op, (str e1.Name), vi e1.Val.N, vi e1.Val.D, vi e1.Type_.Kind, vi e1.Type_.Bits, vi e1.Type_.Frac, vi e1.Type_.Round, vi e1.Type_.Over, vi e1.Lin.K, vs a1 e1.Lin.L.length c1, vs a2 e1.Idx.length c2, vs a3 e1.Args.length c3]) hI gn rfl rfl et rfl ?_)
 clear hI; intro b1 c4 w1 hI
 obtain ⟨c5, hI⟩ := hI.relBox .z
 refine sac ?_
 refine nk (c_seq (sr (sq (y_loadN (l := [vi e1.Op, (str e1.Name), vi e1.Val.N, vi e1.Val.D, vi e1.Type_.Kind, vi e1.Type_.Bits, vi e1.Type_.Frac, vi e1.Type_.Round, vi e1.Type_.Over, vi e1.Lin.K, vs a1 e1.Lin.L.length c1, vs a2 e1.Idx.length c2, vs a3 e1.Args.length c3]) rfl et u39 rfl size_39 (hI.kblk (l := [vi e1.Op, (str e1.Name), vi e1.Val.N, vi e1.Val.D, vi e1.Type_.Kind, vi e1.Type_.Bits, vi e1.Type_.Frac, vi e1.Type_.Round, vi e1.Type_.Over, vi e1.Lin.K, vs a1 e1.Lin.L.length c1, vs a2 e1.Idx.length c2, vs a3 e1.Args.length c3]) .z rfl).1) ?_)))
 obtain ⟨r1, hx1, h⟩ := bnd_some h
 refine s_call gn rfl (r_callF (vs := [(Value.agg #[vi e1.Op, (str e1.Name), vi e1.Val.N, vi e1.Val.D, vi e1.Type_.Kind, vi e1.Type_.Bits, vi e1.Type_.Frac, vi e1.Type_.Round, vi e1.Type_.Over, vi e1.Lin.K, vs a1 e1.Lin.L.length c1, vs a2 e1.Idx.length c2, vs a3 e1.Args.length c3])]) rfl ok_19 ⟨et, trivial⟩) (Calls.mono (c_ref14_Validate (Dj F c5) w1 hI.lt e1 a1 c1 a2 c2 a3 c3 ⟨(hI.get (.s .z)), (hI.get (.s (.s .z))), (hI.get (.s (.s (.s .z)))), trivial⟩ r1 hx1) ?_)
 rintro _ w2 ⟨rfl, hx2, hl1⟩
 refine ⟨_, rfl, ?_⟩
 replace hI := (hI.ext hx2)
 refine sq (y_neq rfl et ev_const) ?_
 refine nk (cif h et (fun hb h => ?_) (fun hb h => ?_))
 ·refine sr (sac ?_)
  refine nk (c_ret ?_)
  obtain rfl := some_inj h
  exact q_ret (vs := [(str ([] : List UInt8))]) Tryz.results18 ⟨ev_tmp rfl rfl, trivial⟩ (fq hI trivial)
 refine c_skip (k_same (sr (sq (y_loadN (l := [vi e1.Op, (str e1.Name), vi e1.Val.N, vi e1.Val.D, vi e1.Type_.Kind, vi e1.Type_.Bits, vi e1.Type_.Frac, vi e1.Type_.Round, vi e1.Type_.Over, vi e1.Lin.K, vs a1 e1.Lin.L.length c1, vs a2 e1.Idx.length c2, vs a3 e1.Args.length c3]) rfl et u39 rfl size_39 (hI.kblk (l := [vi e1.Op, (str e1.Name), vi e1.Val.N, vi e1.Val.D, vi e1.Type_.Kind, vi e1.Type_.Bits, vi e1.Type_.Frac, vi e1.Type_.Round, vi e1.Type_.Over, vi e1.Lin.K, vs a1 e1.Lin.L.length c1, vs a2 e1.Idx.length c2, vs a3 e1.Args.length c3]) .z rfl).1) ?_)))
 obtain ⟨r2, hx3, h⟩ := bnd_some h
 refine s_call gn rfl (r_callF (vs := [(Value.agg #[vi e1.Op, (str e1.Name), vi e1.Val.N, vi e1.Val.D, vi e1.Type_.Kind, vi e1.Type_.Bits, vi e1.Type_.Frac, vi e1.Type_.Round, vi e1.Type_.Over, vi e1.Lin.K, vs a1 e1.Lin.L.length c1, vs a2 e1.Idx.length c2, vs a3 e1.Args.length c3])]) rfl ok_48 ⟨et, trivial⟩) (Calls.mono (c_ref15_text (Dj F c5) w2 hI.lt e1 a1 c1 a2 c2 a3 c3 ⟨(hI.get (.s .z)), (hI.get (.s (.s .z))), (hI.get (.s (.s (.s .z)))), trivial⟩ r2 hx3) ?_)
 rintro _ w3 ⟨rfl, hx4, hl2⟩
 refine ⟨_, rfl, ?_⟩
 replace hI := (hI.ext hx4)
 refine sa ?_
 refine nk (c_ret ?_)
 obtain rfl := some_inj h
 exact q_ret (vs := [(str r2)]) Tryz.results18 ⟨ev_tmp rfl rfl, trivial⟩ (fq hI trivial)
theorem c_ref15_SmallDef (F : NP) (w0 : World) (hF : ∀ k, F k → k < w0.heap.size) (d1 : GDef) (a1 : Option Addr) (c1 : Nat) (a2 : Option Addr) (c2 : Nat) (a3 : Option Addr) (c3 : Nat) (a4 : Option Addr) (c4 : Nat) (a5 : Option Addr) (c5 : Nat) (hc : AllCl [Cl.sl cGAxis a1 c1 d1.Dims, Cl.sl cGAxis a2 c2 d1.Red, Cl.sl cGMono a3 c3 d1.Body.Lin.L, Cl.sl cGIndex a4 c4 d1.Body.Idx, Cl.sl cGExpr a5 c5 d1.Body.Args] F w0) (r : Bool)
  (h : m_ref15_SmallDef d1 = some r) :
  Calls Tryz.prog 21 #[(Value.agg #[(str d1.Name), vi d1.Type_.Kind, vi d1.Type_.Bits, vi d1.Type_.Frac, vi d1.Type_.Round, vi d1.Type_.Over, vs a1 d1.Dims.length c1, vs a2 d1.Red.length c2, vi d1.Fold, vi d1.Body.Op, (str d1.Body.Name), vi d1.Body.Val.N, vi d1.Body.Val.D, vi d1.Body.Type_.Kind, vi d1.Body.Type_.Bits, vi d1.Body.Type_.Frac, vi d1.Body.Type_.Round, vi d1.Body.Type_.Over, vi d1.Body.Lin.K, vs a3 d1.Body.Lin.L.length c3, vs a4 d1.Body.Idx.length c4, vs a5 d1.Body.Args.length c5])] w0 fun e w => e = .returned (vb r) ∧ Ext w0 w ∧ AllCl [] F w := by
 refine enterK Tryz.func21 rfl Tryz.ntmps21 rfl ?_
 have hI := Bun.start hF hc
 clear hc
 rw [m_ref15_SmallDef] at h
 refine sr (l_box (v := (Value.agg #[(str d1.Name), vi d1.Type_.Kind, vi d1.Type_.Bits, vi d1.Type_.Frac, vi d1.Type_.Round, vi d1.Type_.Over, vs a1 d1.Dims.length c1, vs a2 d1.Red.length c2, vi d1.Fold, vi d1.Body.Op, (str d1.Body.Name), vi d1.Body.Val.N, vi d1.Body.Val.D, vi d1.Body.Type_.Kind, vi d1.Body.Type_.Bits, vi d1.Body.Type_.Frac, vi d1.Body.Type_.Round, vi d1.Body.Type_.Over, vi d1.Body.Lin.K, vs a3 d1.Body.Lin.L.length c3, vs a4 d1.Body.Idx.length c4, vs a5 d1.Body.Args.length c5])) (cs := #[(str d1.Name), vi d1.Type_.Kind, vi d1.Type_.Bits, vi d1.Type_.Frac, vi d1.Type_.Round, vi d1.Type_.Over, vs a1 d1.Dims.length c1, vs a2 d1.Red.length c2, vi d1.Fold, vi d1.Body.Op, (str d1.Body.Name), vi d1.Body.Val.N, vi d1.Body.Val.D, vi d1.Body.Type_.Kind, vi d1.Body.Type_.Bits, vi d1.Body.Type_.Frac, vi d1.Body.Type_.Round, vi d1.Body.Type_.Over, vi d1.Body.Lin.K, vs a3 d1.Body.Lin.L.length c3, vs a4 d1.Body.Idx.length c4, vs a5 d1.Body.Args.length c5]) hI gn rfl rfl et rfl ?_)
 clear hI; intro b1 c6 w1 hI
 obtain ⟨c7, hI⟩ := hI.relBox .z
 refine sac ?_
 refine nk (sr (sq (y_fieldAddr rfl et u49 rfl size_39 rfl) ?_))
 refine sq (y_loadN (l := [vi d1.Body.Op, (str d1.Body.Name), vi d1.Body.Val.N, vi d1.Body.Val.D, vi d1.Body.Type_.Kind, vi d1.Body.Type_.Bits, vi d1.Body.Type_.Frac, vi d1.Body.Type_.Round, vi d1.Body.Type_.Over, vi d1.Body.Lin.K, vs a3 d1.Body.Lin.L.length c3, vs a4 d1.Body.Idx.length c4, vs a5 d1.Body.Args.length c5]) rfl et u39 rfl size_39 (hI.kblk (l := [vi d1.Body.Op, (str d1.Body.Name), vi d1.Body.Val.N, vi d1.Body.Val.D, vi d1.Body.Type_.Kind, vi d1.Body.Type_.Bits, vi d1.Body.Type_.Frac, vi d1.Body.Type_.Round, vi d1.Body.Type_.Over, vi d1.Body.Lin.K, vs a3 d1.Body.Lin.L.length c3, vs a4 d1.Body.Idx.length c4, vs a5 d1.Body.Args.length c5]) .z rfl).1) ?_
 obtain ⟨r1, hx1, h⟩ := bnd_some h
 refine s_call gn rfl (r_callF (vs := [(Value.agg #[vi d1.Body.Op, (str d1.Body.Name), vi d1.Body.Val.N, vi d1.Body.Val.D, vi d1.Body.Type_.Kind, vi d1.Body.Type_.Bits, vi d1.Body.Type_.Frac, vi d1.Body.Type_.Round, vi d1.Body.Type_.Over, vi d1.Body.Lin.K, vs a3 d1.Body.Lin.L.length c3, vs a4 d1.Body.Idx.length c4, vs a5 d1.Body.Args.length c5])]) rfl ok_16 ⟨et, trivial⟩) (Calls.mono (c_ref15_Small (Dj F c7) w1 hI.lt d1.Body a3 c3 a4 c4 a5 c5 ⟨(hI.get (.s (.s (.s .z)))), (hI.get (.s (.s (.s (.s .z))))), (hI.get (.s (.s (.s (.s (.s .z)))))), trivial⟩ r1 hx1) ?_)
 rintro _ w2 ⟨rfl, hx2, hl1⟩
 refine ⟨_, rfl, ?_⟩
 replace hI := (hI.ext hx2)
 refine sm ?_
 refine s_gval (g_true rfl rfl rfl rfl) rfl (fun hc => y_fieldAddr rfl et u49 rfl size_47 rfl) ?_
 refine s_gval (g_true rfl rfl rfl rfl) rfl (fun hc => (y_load1 (v := (vs a1 d1.Dims.length c1)) rfl (ev_gv et hc) u47 rfl (hI.kblk (l := [vs a1 d1.Dims.length c1]) .z rfl).1)) ?_
 refine s_gval (g_true rfl rfl rfl rfl) rfl (fun hc => y_lenl rfl u47 (ev_gv et hc)) ?_
 refine s_gval (g_true rfl rfl rfl rfl) rfl (fun hc => y_leq rfl (ev_gv et hc) ev_const) ?_
 refine sq (y_and rfl et et) ?_
 refine sm ?_
 refine s_gval (g_true rfl rfl rfl rfl) rfl (fun hc => y_fieldAddr rfl et u49 rfl size_47 rfl) ?_
 refine s_gval (g_true rfl rfl rfl rfl) rfl (fun hc => (y_load1 (v := (vs a2 d1.Red.length c2)) rfl (ev_gv et hc) u47 rfl (hI.kblk (l := [vs a2 d1.Red.length c2]) .z rfl).1)) ?_
 refine s_gval (g_true rfl rfl rfl rfl) rfl (fun hc => y_lenl rfl u47 (ev_gv et hc)) ?_
 refine s_gval (g_true rfl rfl rfl rfl) rfl (fun hc => y_leq rfl (ev_gv et hc) ev_const) ?_
 refine sq (y_and rfl et et) ?_
 refine sa ?_
 refine nk (c_ret ?_)
 obtain rfl := some_inj h
 exact q_ret (vs := [(vb ((r1 && (decide ((d1.Dims.length : Int) ≤ 20))) && (decide ((d1.Red.length : Int) ≤ 20))))]) Tryz.results21 ⟨ev_tmp rfl rfl, trivial⟩ (fq hI trivial)
end Go.Proofs.YtebpdmfmknfkjaaGreatDoor
