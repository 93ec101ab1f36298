import Derived.Test.YtaokohndeepbjaaSCta
namespace Go.Proofs.Ytaokohndeepbjaa
open Go Go.RowKit Go.Vc
set_option linter.unusedVariables false
set_option linter.unusedSimpArgs false
set_option maxRecDepth 100000 in
set_option maxHeartbeats 4000000 in
theorem c_slices_Compare_int64_int64 (F : NP) (w0 : World) (hF : ∀ k, F k → k < w0.heap.size) (s1_1 : List Int) (s2_1 : List Int) (a1 : Option Addr) (c1 : Nat) (a2 : Option Addr) (c2 : Nat) (hc : AllCl [Cl.sl (cInt .i64) a1 c1 s1_1, Cl.sl (cInt .i64) a2 c2 s2_1] F w0) (r : Int)
  (h : m_slices_Compare_int64_int64 s1_1 s2_1 = some r) :
  Calls Try.prog 60 #[(vs a1 s1_1.length c1), (vs a2 s2_1.length c2)] w0 fun e w => e = .returned (vi r) ∧ Ext w0 w ∧ AllCl [] F w := by
 refine enterK (l := [(vs a1 s1_1.length c1), (vs a2 s2_1.length c2)]) Try.func60 rfl Try.ntmps60 rfl ?_
 have hI := Bun.start hF hc
 clear hc
 rw [m_slices_Compare_int64_int64] at h
 refine sr ?_
 refine sac ?_
 refine nk ?_
 refine c_join (α := Unit) (fun _ => ⟨36, []⟩) (fun _ => [(0, (vs a1 s1_1.length c1)), (1, (vs a2 s2_1.length c2))]) (fun _ => fun w => ∃ C, Bun noM F w0 C w [] [Cl.sl (cInt .i64) a1 c1 s1_1, Cl.sl (cInt .i64) a2 c2 s2_1] ∧ m_slices_Compare_int64_int64_j1 s1_1 s2_1 = some r) ?_ ?_
 ·clear h hI; rintro _ w1 ⟨c3, hI, h⟩
  try dsimp only at hI h
  rw [m_slices_Compare_int64_int64_j1] at h
  refine c_sub (e := [(0, (vs a1 s1_1.length c1)), (1, (vs a2 s2_1.length c2))]) ⟨rfl, rfl, trivial⟩ ?_
  refine c_seq ?_
  refine sr ?_
  refine sm ?_
  refine sq (y_lenl rfl Try.underlying28 et) ?_
  refine sm ?_
  refine sq (y_lenl rfl Try.underlying28 et) ?_
  refine sq (y_lss rfl et et) ?_
  refine nk ?_
  refine c_cond (b := decide ((s1_1.length : Int) < (s2_1.length : Int))) et (fun hb => ?_) (fun hb => ?_)
  ·replace h := ite_t hb h
   refine sr ?_
   refine sac ?_
   refine nk ?_
   refine c_ret ?_
   obtain rfl := some_inj h
   exact q_ret (vs := [(vi (-1))]) Try.results60 ⟨ev_tmp rfl rfl, trivial⟩ ⟨rfl, hI.ext0, hI.fin trivial⟩
  ·replace h := ite_f hb h
   refine c_skip ?_
   refine k_same ?_
   refine sr ?_
   refine sac ?_
   refine nk ?_
   refine c_ret ?_
   obtain rfl := some_inj h
   exact q_ret (vs := [(vi 0)]) Try.results60 ⟨ev_tmp rfl rfl, trivial⟩ ⟨rfl, hI.ext0, hI.fin trivial⟩
 ·skip
  refine sr ?_
  refine sm ?_
  refine sq (y_lenl rfl Try.underlying28 et) ?_
  refine sq (y_move rfl ev_const) ?_
  refine nk ?_
  refine c_block ?_
  refine c_loop (α := Nat × Int) (fun x => fun w => ∃ C, Bun noM F w0 C w [] [Cl.sl (cInt .i64) a1 c1 s1_1, Cl.sl (cInt .i64) a2 c2 s2_1] ∧ m_slices_Compare_int64_int64_l1 s1_1 s2_1 (x.1) (x.2) = some r) (fun x _ => x.1) (fun x => [(0, (vs a1 s1_1.length c1)), (1, (vs a2 s2_1.length c2)), (9, (vs a1 s1_1.length c1)), (10, (vi (s1_1.length : Int))), (11, (vi (x.2)))]) (fu, 0) ⟨_, hI.arr .n ⟨.z, (.s .z), trivial⟩, h⟩ ⟨rfl, rfl, rfl, rfl, rfl, trivial⟩ ?_
  clear h hI; rintro ⟨fuel1, i1⟩ w2 ⟨c4, hI, h⟩
  dsimp only at hI h
  rcases fuel1 with _ | fuel1
  ·rw [m_slices_Compare_int64_int64_l1] at h; cases h
  rw [m_slices_Compare_int64_int64_l1] at h
  refine c_sub (e := [(0, (vs a1 s1_1.length c1)), (1, (vs a2 s2_1.length c2)), (9, (vs a1 s1_1.length c1)), (10, (vi (s1_1.length : Int))), (11, (vi i1))]) ⟨rfl, rfl, rfl, rfl, rfl, trivial⟩ ?_
  refine sr ?_
  refine sq (y_lss rfl et et) ?_
  refine nk ?_
  refine c_seq ?_
  refine c_cond (b := decide (i1 < (s1_1.length : Int))) et (fun hb => ?_) (fun hb => ?_)
  ·replace h := ite_t hb h
   refine c_skip ?_
   refine k_same ?_
   refine c_seq ?_
   refine c_block ?_
   refine sr ?_
   refine sm ?_
   obtain ⟨e1, hx1, h⟩ := bnd_some h
   obtain ⟨ad1, cs1, hA1, hr1, hq1⟩ := hI.clat .z hx1
   obtain rfl : cs1 = [(vi e1)] := hr1
   refine sq (y_indexAddr rfl Try.underlying28 size_2 et et (lat_bd hx1) hA1) ?_
   refine sq (y_load1 (v := (vi e1)) rfl et Try.underlying2 rfl hq1.1) ?_
   refine sa ?_
   refine sa ?_
   refine nk ?_
   refine c_seq ?_
   refine sr ?_
   refine sm ?_
   refine sm ?_
   refine sq (y_lenl rfl Try.underlying28 et) ?_
   refine sq (y_geq rfl et et) ?_
   refine nk ?_
   refine c_cond (b := decide ((s2_1.length : Int) ≤ i1)) et (fun hb => ?_) (fun hb => ?_)
   ·replace h := ite_t hb h
    refine sr ?_
    refine sac ?_
    refine nk ?_
    refine c_ret ?_
    obtain rfl := some_inj h
    exact q_ret (vs := [(vi 1)]) Try.results60 ⟨ev_tmp rfl rfl, trivial⟩ ⟨rfl, hI.ext0, hI.fin trivial⟩
   ·replace h := ite_f hb h
    refine c_skip ?_
    refine k_same ?_
    refine sr ?_
    refine sm ?_
    refine sm ?_
    obtain ⟨e2, hx2, h⟩ := bnd_some h
    obtain ⟨ad2, cs2, hA2, hr2, hq2⟩ := hI.clat (.s .z) hx2
    obtain rfl : cs2 = [(vi e2)] := hr2
    refine sq (y_indexAddr rfl Try.underlying28 size_2 et et (lat_bd hx2) hA2) ?_
    refine sq (y_load1 (v := (vi e2)) rfl et Try.underlying2 rfl hq2.1) ?_
    refine sa ?_
    refine nk ?_
    refine sr ?_
    refine sm ?_
    refine sm ?_
    obtain ⟨r1, hx3, h⟩ := bnd_some h
    refine s_call gn rfl (r_callF (vs := [(vi e1), (vi e2)]) rfl ok_76 ⟨et, ⟨et, trivial⟩⟩) (Calls.mono (c_cmp_Compare_int64 (Dj F c4) w2 hI.lt e1 e2 trivial r1 hx3) ?_)
    rintro _ w3 ⟨rfl, hx4, hl1⟩
    refine ⟨_, rfl, ?_⟩
    replace hI := (hI.ext hx4)
    refine sa ?_
    refine nk ?_
    refine sr ?_
    refine sm ?_
    refine sq (y_neq rfl et ev_const) ?_
    refine nk ?_
    refine c_cond (b := !decide (r1 = 0)) et (fun hb => ?_) (fun hb => ?_)
    ·replace h := ite_t hb h
     refine sr ?_
     refine sm ?_
     refine sa ?_
     refine s_nil ?_
     refine k_next (e := [(4, (vi r1))]) ⟨rfl, trivial⟩ ?_
     refine c_ret ?_
     obtain rfl := some_inj h
     exact q_ret (vs := [(vi r1)]) Try.results60 ⟨ev_tmp rfl rfl, trivial⟩ ⟨rfl, hI.ext0, hI.fin trivial⟩
    ·replace h := ite_f hb h
     refine c_skip ?_
     refine k_same ?_
     refine c_region rfl ?_
     refine sq (y_add rfl et ev_const) ?_
     refine sm ?_
     refine s_nil ?_
     exact k_loop (fuel1, wi64 (i1 + 1)) ⟨rfl, rfl, rfl, rfl, rfl, trivial⟩ ⟨_, hI.arr .n ⟨.z, (.s .z), trivial⟩, h⟩ (Nat.lt_succ_self _)
  ·replace h := ite_f hb h
   refine c_exit ?_
   refine k_in ?_
   exact k_join () ⟨rfl, rfl, trivial⟩ ⟨_, hI.arr .n ⟨.z, (.s .z), trivial⟩, h⟩ rfl
set_option maxRecDepth 100000 in
set_option maxHeartbeats 4000000 in
theorem c_affine_sorted_1 (F : NP) (w0 : World) (hF : ∀ k, F k → k < w0.heap.size) (a1 : Gaffine_pair) (b1 : Gaffine_pair) (a2 : Option Addr) (c1 : Nat) (a3 : Option Addr) (c2 : Nat) (a4 : Option Addr) (c3 : Nat) (a5 : Option Addr) (c4 : Nat) (hc : AllCl [Cl.sl (cInt .i64) a2 c1 a1.p, Cl.sl (cInt .i64) a3 c2 a1.to_, Cl.sl (cInt .i64) a4 c3 b1.p, Cl.sl (cInt .i64) a5 c4 b1.to_] F w0) (r : Int)
  (h : m_affine_sorted_1 a1 b1 = some r) :
  Calls Try.prog 59 #[(Value.agg #[(vs a2 a1.p.length c1), (vs a3 a1.to_.length c2)]), (Value.agg #[(vs a4 b1.p.length c3), (vs a5 b1.to_.length c4)])] w0 fun e w => e = .returned (vi r) ∧ Ext w0 w ∧ AllCl [] F w := by
 refine enterK (l := [(Value.agg #[(vs a2 a1.p.length c1), (vs a3 a1.to_.length c2)]), (Value.agg #[(vs a4 b1.p.length c3), (vs a5 b1.to_.length c4)])]) Try.func59 rfl Try.ntmps59 rfl ?_
 have hI := Bun.start hF hc
 clear hc
 rw [m_affine_sorted_1] at h
 refine sr ?_
 refine l_box (v := (Value.agg #[(vs a2 a1.p.length c1), (vs a3 a1.to_.length c2)])) (cs := #[(vs a2 a1.p.length c1), (vs a3 a1.to_.length c2)]) hI gn rfl rfl et rfl ?_
 clear hI; intro b2 c5 w1 hI
 obtain ⟨c6, hI⟩ := hI.relBox .z
 refine l_box (v := (Value.agg #[(vs a4 b1.p.length c3), (vs a5 b1.to_.length c4)])) (cs := #[(vs a4 b1.p.length c3), (vs a5 b1.to_.length c4)]) hI gn rfl rfl et rfl ?_
 clear hI; intro b3 c7 w2 hI
 obtain ⟨c8, hI⟩ := hI.relBox .z
 refine sac ?_
 refine nk ?_
 refine sr ?_
 refine sq (y_fieldAddr rfl et Try.underlying69 rfl size_28 rfl) ?_
 refine sq (y_load1 (v := (vs a3 a1.to_.length c2)) rfl et Try.underlying28 rfl (hI.kblk (l := [(vs a3 a1.to_.length c2)]) (.s .z) rfl).1) ?_
 refine sq (y_fieldAddr rfl et Try.underlying69 rfl size_28 rfl) ?_
 refine sq (y_load1 (v := (vs a5 b1.to_.length c4)) rfl et Try.underlying28 rfl (hI.kblk (l := [(vs a5 b1.to_.length c4)]) .z rfl).1) ?_
 obtain ⟨r1, hx1, h⟩ := bnd_some h
 refine s_call gn rfl (r_callF (vs := [(vs a3 a1.to_.length c2), (vs a5 b1.to_.length c4)]) rfl ok_60 ⟨et, ⟨et, trivial⟩⟩) (Calls.mono (c_slices_Compare_int64_int64 (Dj F c8) w2 hI.lt a1.to_ b1.to_ a3 c2 a5 c4 ⟨(hI.get (.s (.s (.s .z)))), (hI.get (.s (.s (.s (.s (.s .z)))))), trivial⟩ r1 hx1) ?_)
 rintro _ w3 ⟨rfl, hx2, hl1⟩
 refine ⟨_, rfl, ?_⟩
 replace hI := (hI.ext hx2)
 refine sa ?_
 refine nk ?_
 refine c_ret ?_
 obtain rfl := some_inj h
 exact q_ret (vs := [(vi r1)]) Try.results59 ⟨ev_tmp rfl rfl, trivial⟩ ⟨rfl, hI.ext0, hI.fin trivial⟩
set_option maxRecDepth 100000 in
set_option maxHeartbeats 4000000 in
theorem c_slices_Clone_affine_pair_affine_pair_o (C0 F : NP) (w0 : World) (s1 : List Gaffine_pair) (a1 : Option Addr) (c1 : Nat) (hI : Bun C0 F w0 C0 w0 [] [Cl.sl cGaffine_pair a1 c1 s1]) (r : List Gaffine_pair)
  (h : m_slices_Clone_affine_pair_affine_pair_o s1 = some r) :
  Calls Try.prog 57 #[(vs a1 s1.length c1)] w0 fun e w => ∃ (a2 : Option Addr) (c2 : Nat) (C : NP), e = .returned (vs a2 r.length c2) ∧ Bun C0 F w0 C w [MO.row cGaffine_pair 69 a2 c2 r] [] := by
 refine enterK (l := [(vs a1 s1.length c1)]) Try.func57 rfl Try.ntmps57 rfl ?_
 rw [m_slices_Clone_affine_pair_affine_pair_o] at h
 refine sr ?_
 refine sac ?_
 refine nk ?_
 refine c_seq ?_
 refine sr ?_
 refine sm ?_
 refine sq (y_eqnil rfl et ev_const Try.underlying64) ?_
 refine nk ?_
 refine c_cond (b := Option.isNone a1) et (fun hb => ?_) (fun hb => ?_)
 ·have hn_ := hI.nilEmpty .z hb
  replace h : some (([] : List Gaffine_pair)) = some r := by rw [hn_] at h; simpa [lapp] using h
  refine sr ?_
  refine sac ?_
  refine nk ?_
  refine c_ret ?_
  have hI := hI.nil cGaffine_pair 69 none
  obtain rfl := some_inj h
  exact q_ret (vs := [(vs none ([] : List Gaffine_pair).length 0)]) Try.results57 ⟨ev_tmp rfl rfl, trivial⟩ ⟨none, 0, _, rfl, hI.arr (.c .z .n) trivial⟩
 ·skip
  refine c_skip ?_
  refine k_same ?_
  refine sr ?_
  refine l_lit (c := cGaffine_pair) (xs := ([] : List Gaffine_pair)) (vs := []) (cs := #[]) (css := []) hI gn rfl rfl Try.underlying64 info_69 rfl trivial (by kernel_rfl) trivial rfl rfl rfl ?_
  clear hI; intro b1 c3 w1 hI
  refine sm ?_
  obtain ⟨zs1, hx1, h⟩ := bnd_some h
  refine l_append (xs := ([] : List Gaffine_pair)) (ys := s1) hI .z (hI.crd .z) hx1 gn rfl rfl Try.underlying64 info_69 rfl rfl et et ?_
  clear hI; intro a3 c4 c5 w2 hI
  refine sa ?_
  refine nk ?_
  refine c_ret ?_
  obtain rfl := some_inj h
  exact q_ret (vs := [(vs a3 zs1.length c4)]) Try.results57 ⟨ev_tmp rfl rfl, trivial⟩ ⟨a3, c4, _, rfl, hI.arr (.c .z .n) trivial⟩
set_option maxRecDepth 100000 in
set_option maxHeartbeats 4000000 in
theorem c_slices_insertionSortCmpFunc_affine_pair_w (C0 F : NP) (w0 : World) (data1 : List Gaffine_pair) (a2 : Int) (b1 : Int) (cmp1 : (Gaffine_pair → Gaffine_pair → Option Int)) (a1 : Option Addr) (n1 : Nat) (c1 : Nat) (fv1 : Value) (hI : Bun C0 F w0 C0 w0 [MO.prow cGaffine_pair 69 a1 n1 c1 data1] [clFn_k5 fv1 cmp1]) (r : Unit × List Gaffine_pair)
  (h : m_slices_insertionSortCmpFunc_affine_pair_w data1 a2 b1 cmp1 = some r) :
  Calls Try.prog 80 #[(vs a1 n1 c1), (vi a2), (vi b1), fv1] w0 fun e w => ∃ (C : NP), e = .returned (Value.tuple #[]) ∧ Bun C0 F w0 C w [MO.prow cGaffine_pair 69 a1 n1 c1 r.2] [] := by
 refine enterK (l := [(vs a1 n1 c1), (vi a2), (vi b1), fv1]) Try.func80 rfl Try.ntmps80 rfl ?_
 rw [m_slices_insertionSortCmpFunc_affine_pair_w] at h
 refine sr ?_
 refine sm ?_
 refine sq (y_add rfl et ev_const) ?_
 refine sa ?_
 refine nk ?_
 refine c_block ?_
 refine c_loop (α := Nat × Int × (List Gaffine_pair)) (fun x => fun w => ∃ C, Bun C0 F w0 C w [MO.prow cGaffine_pair 69 a1 n1 c1 (x.2.2)] [clFn_k5 fv1 cmp1] ∧ m_slices_insertionSortCmpFunc_affine_pair_w_l1 b1 a2 cmp1 (x.1) (x.2.1) (x.2.2) = some r) (fun x _ => x.1) (fun x => [(0, (vs a1 n1 c1)), (1, (vi a2)), (2, (vi b1)), (3, fv1), (8, (vi (x.2.1)))]) (fu, wi64 (a2 + 1), data1) ⟨_, hI.arr (.c .z .n) ⟨.z, trivial⟩, h⟩ ⟨rfl, rfl, rfl, rfl, rfl, trivial⟩ ?_
 clear h hI; rintro ⟨fuel1, i1, l1⟩ w1 ⟨c2, hI, h⟩
 dsimp only at hI h
 rcases fuel1 with _ | fuel1
 ·rw [m_slices_insertionSortCmpFunc_affine_pair_w_l1] at h; cases h
 rw [m_slices_insertionSortCmpFunc_affine_pair_w_l1] at h
 refine c_sub (e := [(0, (vs a1 n1 c1)), (1, (vi a2)), (2, (vi b1)), (3, fv1), (8, (vi i1))]) ⟨rfl, rfl, rfl, rfl, rfl, trivial⟩ ?_
 refine c_seq ?_
 refine sr ?_
 refine sm ?_
 refine sm ?_
 refine sq (y_lss rfl et et) ?_
 refine nk ?_
 refine c_cond (b := decide (i1 < b1)) et (fun hb => ?_) (fun hb => ?_)
 ·replace h := ite_t hb h
  refine c_skip ?_
  refine k_same ?_
  refine c_join (α := (List Gaffine_pair)) (fun _ => ⟨53, []⟩) (fun x => [(0, (vs a1 n1 c1)), (1, (vi a2)), (2, (vi b1)), (3, fv1), (8, (vi i1))]) (fun x => fun w => ∃ C, Bun C0 F w0 C w [MO.prow cGaffine_pair 69 a1 n1 c1 x] [clFn_k5 fv1 cmp1] ∧ m_slices_insertionSortCmpFunc_affine_pair_w_j1 (m_slices_insertionSortCmpFunc_affine_pair_w_l1 b1 a2 cmp1 fuel1) i1 x = some r) ?_ ?_
  ·clear h hI; rintro l2 w2 ⟨c3, hI, h⟩
   try dsimp only at hI h
   rw [m_slices_insertionSortCmpFunc_affine_pair_w_j1] at h
   refine c_sub (e := [(0, (vs a1 n1 c1)), (1, (vi a2)), (2, (vi b1)), (3, fv1), (8, (vi i1))]) ⟨rfl, rfl, rfl, rfl, rfl, trivial⟩ ?_
   refine c_region rfl ?_
   refine sm ?_
   refine sq (y_add rfl et ev_const) ?_
   refine sa ?_
   refine s_nil ?_
   exact k_loop (fuel1, wi64 (i1 + 1), l2) ⟨rfl, rfl, rfl, rfl, rfl, trivial⟩ ⟨_, hI.arr (.c .z .n) ⟨.z, trivial⟩, h⟩ (Nat.lt_succ_self _)
  ·skip
   refine c_block ?_
   refine sr ?_
   refine sm ?_
   refine sa ?_
   refine nk ?_
   refine c_block ?_
   refine c_loop (α := Nat × Int × (List Gaffine_pair)) (fun x => fun w => ∃ C, Bun C0 F w0 C w [MO.prow cGaffine_pair 69 a1 n1 c1 (x.2.2)] [clFn_k5 fv1 cmp1] ∧ m_slices_insertionSortCmpFunc_affine_pair_w_l2 a2 cmp1 (m_slices_insertionSortCmpFunc_affine_pair_w_l1 b1 a2 cmp1 fuel1) i1 (x.1) (x.2.1) (x.2.2) = some r) (fun x _ => x.1) (fun x => [(0, (vs a1 n1 c1)), (1, (vi a2)), (2, (vi b1)), (3, fv1), (8, (vi i1)), (9, (vi (x.2.1)))]) (fu, i1, l1) ⟨_, hI.arr (.c .z .n) ⟨.z, trivial⟩, h⟩ ⟨rfl, rfl, rfl, rfl, rfl, rfl, trivial⟩ ?_
   clear h hI; rintro ⟨fuel2, j1, l3⟩ w3 ⟨c4, hI, h⟩
   dsimp only at hI h
   rcases fuel2 with _ | fuel2
   ·rw [m_slices_insertionSortCmpFunc_affine_pair_w_l2] at h; cases h
   rw [m_slices_insertionSortCmpFunc_affine_pair_w_l2] at h
   refine c_sub (e := [(0, (vs a1 n1 c1)), (1, (vi a2)), (2, (vi b1)), (3, fv1), (8, (vi i1)), (9, (vi j1))]) ⟨rfl, rfl, rfl, rfl, rfl, rfl, trivial⟩ ?_
   refine c_seq ?_
   refine c_seq ?_
   refine c_drawX [] false (.c (0, .q) (.c (1, .q) (.c (2, .q) (.c (3, .q) (.c (4, .q) (.c (5, .q) (.c (6, .q) (.c (7, .q) (.c (8, .q) (.c (9, .q) (.c (10, .q) (.c (11, .q) (.c (12, .q) (.c (13, .q) (.c (14, .s) (.c (15, .q) (.c (16, .q) .n))))))))))))))))) hI (by kernel_rfl) (by kernel_rfl) ?_
   clear hI; intro w4 hI
   refine a_q rfl gn rfl (fun w' => (y_move rfl et)) ?_
   refine a_q rfl gn rfl (fun w' => (y_move rfl et)) ?_
   refine a_q rfl gn rfl (fun w' => (y_gtr rfl et et)) ?_
   refine a_q rfl gn rfl (fun w' => (y_move rfl et)) ?_
   refine a_gval rfl (g_true rfl rfl rfl rfl) rfl (fun hc => fun w' => (y_move rfl et)) ?_
   refine a_gval rfl (g_true rfl rfl rfl rfl) rfl (fun hc => fun w' => (y_move rfl et)) ?_
   refine a_gval rfl (g_true rfl rfl rfl rfl) rfl (fun hc => fun w' => (y_move rfl et)) ?_
   obtain ⟨e1, hx1, h⟩ := bnd_some h
   replace hx1 := gd_some hx1
   obtain ⟨ad1, cs1, hq1⟩ := (hI.unpin .z).2.golat .z hx1
   obtain ⟨a3, c5, a4, c6, hq2⟩ : ∃ (a3 : Option Addr) (c5 : Nat) (a4 : Option Addr) (c6 : Nat), (decide (a2 < j1)) = true → (a1 = some ad1 ∧ cs1 = [(vs a3 e1.p.length c5), (vs a4 e1.to_.length c6)] ∧ CA noM w4 (ad1.add (Int.toNat j1 * 2)) cs1 ∧ SlC (cInt .i64) (Dj F c4) w4 a3 c5 e1.p ∧ SlC (cInt .i64) (Dj F c4) w4 a4 c6 e1.to_) := by
    by_cases hc : (decide (a2 < j1)) = true
    ·obtain ⟨k1, k2, k3⟩ := hq1 hc; obtain ⟨a3, c5, a4, c6, rfl, hf1, hf2⟩ := k2; exact ⟨a3, c5, a4, c6, fun _ => ⟨k1, rfl, k3, hf1, hf2⟩⟩
    ·exact ⟨default, default, default, default, fun k => absurd k hc⟩
   clear hq1
   have hI := hI.add (c := Cl.gsl (decide (a2 < j1)) (cInt .i64) a3 c5 e1.p) (fun hc => (hq2 hc).2.2.2.1)
   have hI := hI.add (c := Cl.gsl (decide (a2 < j1)) (cInt .i64) a4 c6 e1.to_) (fun hc => (hq2 hc).2.2.2.2)
   have hq3 : (decide (a2 < j1)) = true → CA noM w4 (ad1.add (Int.toNat j1 * 2)) [(vs a3 e1.p.length c5), (vs a4 e1.to_.length c6)] := fun hc => by have k := hq2 hc; have e : cs1 = _ := k.2.1; rw [← e]; exact k.2.2.1
   refine a_gval rfl (g_true rfl rfl rfl rfl) rfl (fun hc => fun w' => (y_indexAddr rfl Try.underlying64 size_69 (ev_gv et hc) (ev_gv et hc) (bdn (hI.unpin .z).1 (lat_bd (hx1 hc))) (hq2 hc).1)) ?_
   refine a_gread rfl (g_true rfl rfl rfl rfl) rfl (fun hc => fun w' hw' => (y_loadN (l := [(vs a3 e1.p.length c5), (vs a4 e1.to_.length c6)]) rfl (ev_gv et hc) Try.underlying69 rfl size_69 ((hq3 hc).at_ (SX.any rfl hw')))) (by kernel_rfl) ?_
   refine a_gval rfl (g_true rfl rfl rfl rfl) rfl (fun hc => fun w' => (y_move rfl et)) ?_
   refine a_gval rfl (g_true rfl rfl rfl rfl) rfl (fun hc => fun w' => (y_move rfl et)) ?_
   refine a_gval rfl (g_true rfl rfl rfl rfl) rfl (fun hc => fun w' => (y_sub rfl (ev_gv et hc) ev_const)) ?_
   obtain ⟨e2, hx2, h⟩ := bnd_some h
   replace hx2 := gd_some hx2
   obtain ⟨ad2, cs2, hq4⟩ := (hI.unpin .z).2.golat .z hx2
   obtain ⟨a5, c7, a6, c8, hq5⟩ : ∃ (a5 : Option Addr) (c7 : Nat) (a6 : Option Addr) (c8 : Nat), (decide (a2 < j1)) = true → (a1 = some ad2 ∧ cs2 = [(vs a5 e2.p.length c7), (vs a6 e2.to_.length c8)] ∧ CA noM w4 (ad2.add (Int.toNat (wi64 (j1 - 1)) * 2)) cs2 ∧ SlC (cInt .i64) (Dj F c4) w4 a5 c7 e2.p ∧ SlC (cInt .i64) (Dj F c4) w4 a6 c8 e2.to_) := by
    by_cases hc : (decide (a2 < j1)) = true
    ·obtain ⟨k1, k2, k3⟩ := hq4 hc; obtain ⟨a5, c7, a6, c8, rfl, hf3, hf4⟩ := k2; exact ⟨a5, c7, a6, c8, fun _ => ⟨k1, rfl, k3, hf3, hf4⟩⟩
    ·exact ⟨default, default, default, default, fun k => absurd k hc⟩
   clear hq4
   have hI := hI.add (c := Cl.gsl (decide (a2 < j1)) (cInt .i64) a5 c7 e2.p) (fun hc => (hq5 hc).2.2.2.1)
   have hI := hI.add (c := Cl.gsl (decide (a2 < j1)) (cInt .i64) a6 c8 e2.to_) (fun hc => (hq5 hc).2.2.2.2)
   have hq6 : (decide (a2 < j1)) = true → CA noM w4 (ad2.add (Int.toNat (wi64 (j1 - 1)) * 2)) [(vs a5 e2.p.length c7), (vs a6 e2.to_.length c8)] := fun hc => by have k := hq5 hc; have e : cs2 = _ := k.2.1; rw [← e]; exact k.2.2.1
   refine a_gval rfl (g_true rfl rfl rfl rfl) rfl (fun hc => fun w' => (y_indexAddr rfl Try.underlying64 size_69 (ev_gv et hc) (ev_gv et hc) (bdn (hI.unpin .z).1 (lat_bd (hx2 hc))) (hq5 hc).1)) ?_
   refine a_gread rfl (g_true rfl rfl rfl rfl) rfl (fun hc => fun w' hw' => (y_loadN (l := [(vs a5 e2.p.length c7), (vs a6 e2.to_.length c8)]) rfl (ev_gv et hc) Try.underlying69 rfl size_69 ((hq6 hc).at_ (SX.any rfl hw')))) (by kernel_rfl) ?_
   obtain ⟨r1, hx3, h⟩ := bnd_some h
   replace hx3 := gd_some hx3
   refine la_gcallV (u := (vi r1)) (args := [(Value.agg #[(vs a3 e1.p.length c5), (vs a4 e1.to_.length c6)]), (Value.agg #[(vs a5 e2.p.length c7), (vs a6 e2.to_.length c8)])]) rfl (g_true rfl rfl rfl rfl) rfl rfl (fun hc => (ev_gv et hc)) (fun hc => ⟨(ev_gv et hc), ⟨(ev_gv et hc), trivial⟩⟩) (fun hc => CallV.mono ((hI.get (.s (.s (.s (.s .z))))).2 (Dj F c4) w4 (Sp.of_ext .rfl') hI.lt e1 e2 a3 c5 a4 c6 a5 c7 a6 c8 r1 ⟨(hI.get (.s (.s (.s .z))) hc), (hI.get (.s (.s .z)) hc), (hI.get (.s .z) hc), (hI.get .z hc), trivial⟩ (hx3 hc)) fun _ _ k => ⟨k.1, k.2.1⟩) ?_
   intro w5 hx4; replace hI := hI.ext hx4
   refine a_gval rfl (g_true rfl rfl rfl rfl) rfl (fun hc => fun w' => (y_lss rfl (ev_gv et hc) ev_const)) ?_
   refine a_q rfl gn rfl (fun w' => (y_and rfl et et)) ?_
   refine a_nil ?_
   refine k_same ?_
   refine c_cond (b := (decide (a2 < j1)) && (decide (r1 < 0))) et (fun hb => ?_) (fun hb => ?_)
   ·replace h := ite_t hb h
    refine c_skip ?_
    refine k_same ?_
    refine c_seq ?_
    refine c_block ?_
    refine c_drawX [15, 17] false (.c (0, .q) (.c (1, .q) (.c (2, .q) (.c (3, .q) (.c (4, .q) (.c (5, .q) (.c (6, .q) (.c (7, .q) (.c (8, .q) (.c (9, .q) (.c (10, .q) (.c (11, .q) (.c (12, .q) (.c (13, .q) (.c (14, .q) (.c (15, .s) (.c (16, .q) (.c (17, .s) .n)))))))))))))))))) hI (by kernel_rfl) (by kernel_rfl) ?_
    clear hI; intro w6 hI
    refine a_q rfl gn rfl (fun w' => (y_move rfl et)) ?_
    refine a_q rfl gn rfl (fun w' => (y_move rfl et)) ?_
    refine a_q rfl gn rfl (fun w' => (y_move rfl et)) ?_
    refine a_q rfl gn rfl (fun w' => (y_move rfl et)) ?_
    refine a_q rfl gn rfl (fun w' => (y_sub rfl et ev_const)) ?_
    refine a_q rfl gn rfl (fun w' => (y_move rfl et)) ?_
    refine a_q rfl gn rfl (fun w' => (y_move rfl et)) ?_
    refine a_q rfl gn rfl (fun w' => (y_sub rfl et ev_const)) ?_
    obtain ⟨e3, hx5, h⟩ := bnd_some h
    obtain ⟨ad3, cs3, hA3, hr3, hq7⟩ := (hI.unpin .z).2.olat .z hx5
    obtain ⟨a7, c9, a8, c10, rfl, hf5, hf6⟩ := hr3
    have hI := hI.add (c := Cl.sl (cInt .i64) a7 c9 e3.p) hf5
    have hI := hI.add (c := Cl.sl (cInt .i64) a8 c10 e3.to_) hf6
    refine a_q rfl gn rfl (fun w' => (y_indexAddr rfl Try.underlying64 size_69 et et (bdn (hI.unpin .z).1 (lat_bd hx5)) hA3)) ?_
    refine a_read rfl gn rfl (fun w' hw' => (y_loadN (l := [(vs a7 e3.p.length c9), (vs a8 e3.to_.length c10)]) rfl et Try.underlying69 rfl size_69 (hq7.at_ (SX.any rfl hw')))) (by kernel_rfl) ?_
    refine a_q rfl gn rfl (fun w' => (y_move rfl et)) ?_
    refine a_q rfl gn rfl (fun w' => (y_move rfl et)) ?_
    obtain ⟨e4, hx6, h⟩ := bnd_some h
    obtain ⟨ad4, cs4, hA4, hr4, hq8⟩ := (hI.unpin .z).2.olat .z hx6
    obtain ⟨a9, c11, a10, c12, rfl, hf7, hf8⟩ := hr4
    have hI := hI.add (c := Cl.sl (cInt .i64) a9 c11 e4.p) hf7
    have hI := hI.add (c := Cl.sl (cInt .i64) a10 c12 e4.to_) hf8
    refine a_q rfl gn rfl (fun w' => (y_indexAddr rfl Try.underlying64 size_69 et et (bdn (hI.unpin .z).1 (lat_bd hx6)) hA4)) ?_
    refine a_read rfl gn rfl (fun w' hw' => (y_loadN (l := [(vs a9 e4.p.length c11), (vs a10 e4.to_.length c12)]) rfl et Try.underlying69 rfl size_69 (hq8.at_ (SX.any rfl hw')))) (by kernel_rfl) ?_
    obtain ⟨ho1, h⟩ := chk_some h
    obtain ⟨ad5, hA5⟩ := (hI.unpin .z).2.addr .z ho1
    refine a_q rfl gn rfl (fun w' => (y_indexAddr rfl Try.underlying64 size_69 et et (bdn (hI.unpin .z).1 ho1) hA5)) ?_
    refine a_turn (F := F) (C := c4) rfl rfl ?_
    obtain ⟨hl2, hP⟩ := hI.unpin .z
    refine la_storeRow (p := Int.toNat j1) (new := [(vs a7 e3.p.length c9), (vs a8 e3.to_.length c10)]) (off := 0) (x' := e3) hP .z rfl gn rfl rfl (by have := ho1; first | omega | (simp only [List.length_set]; omega)) hA5 rfl et et rfl size_69 rfl (by show 0 + 2 ≤ 2; omega) (fun _ cs0 _ hr0 => by rw [spl_full (by have e := Cod.len _ hr0; exact e)]; exact ⟨a7, c9, a8, c10, rfl, hI.get (.s (.s (.s .z))), hI.get (.s (.s .z))⟩) ?_
    clear hI hP; intro c13 w7 hI
    replace hI := hI.pin .z (lset_len hl2)
    obtain ⟨ho2, h⟩ := chk_some h
    obtain ⟨ad6, hA6⟩ := (hI.unpin .z).2.addr .z ho2
    refine a_q rfl gn rfl (fun w' => (y_indexAddr rfl Try.underlying64 size_69 et et (bdn (hI.unpin .z).1 ho2) hA6)) ?_
    obtain ⟨hl3, hP⟩ := hI.unpin .z
    refine la_storeRow (p := Int.toNat (wi64 (j1 - 1))) (new := [(vs a9 e4.p.length c11), (vs a10 e4.to_.length c12)]) (off := 0) (x' := e4) hP .z rfl gn rfl rfl (by have := ho2; first | omega | (simp only [List.length_set]; omega)) hA6 rfl et et rfl size_69 rfl (by show 0 + 2 ≤ 2; omega) (fun _ cs0 _ hr0 => by rw [spl_full (by have e := Cod.len _ hr0; exact e)]; exact ⟨a9, c11, a10, c12, rfl, hI.get (.s .z), hI.get .z⟩) ?_
    clear hI hP; intro c14 w8 hI
    replace hI := hI.pin .z (lset_len hl3)
    refine a_nil ?_
    refine k_next (e := [(0, (vs a1 n1 c1)), (1, (vi a2)), (2, (vi b1)), (3, fv1), (8, (vi i1)), (9, (vi j1))]) ⟨rfl, rfl, rfl, rfl, rfl, rfl, trivial⟩ ?_
    refine c_region rfl ?_
    refine sm ?_
    refine sq (y_sub rfl et ev_const) ?_
    refine sa ?_
    refine s_nil ?_
    exact k_loop (fuel2, wi64 (j1 - 1), (l3.set (Int.toNat j1) e3).set (Int.toNat (wi64 (j1 - 1))) e4) ⟨rfl, rfl, rfl, rfl, rfl, rfl, trivial⟩ ⟨_, hI.arr (.c .z .n) ⟨(.s (.s (.s (.s (.s (.s (.s (.s .z)))))))), trivial⟩, h⟩ (Nat.lt_succ_self _)
   ·replace h := ite_f hb h
    refine c_exit ?_
    refine k_in ?_
    exact k_join l3 ⟨rfl, rfl, rfl, rfl, rfl, trivial⟩ ⟨_, hI.arr (.c .z .n) ⟨(.s (.s (.s (.s .z)))), trivial⟩, h⟩ rfl
 ·replace h := ite_f hb h
  refine c_exit ?_
  refine k_in ?_
  obtain rfl := some_inj h
  exact q_ret (vs := []) Try.results80 trivial ⟨_, rfl, hI.arr (.c .z .n) trivial⟩
set_option maxRecDepth 100000 in
set_option maxHeartbeats 4000000 in
theorem c_slices_swapRangeCmpFunc_affine_pair_w (C0 F : NP) (w0 : World) (data1 : List Gaffine_pair) (a2 : Int) (b1 : Int) (n2 : Int) (cmp1 : (Gaffine_pair → Gaffine_pair → Option Int)) (a1 : Option Addr) (n1 : Nat) (c1 : Nat) (fv1 : Value) (hI : Bun C0 F w0 C0 w0 [MO.prow cGaffine_pair 69 a1 n1 c1 data1] [clFn_k5 fv1 cmp1]) (r : Unit × List Gaffine_pair)
  (h : m_slices_swapRangeCmpFunc_affine_pair_w data1 a2 b1 n2 cmp1 = some r) :
  Calls Try.prog 85 #[(vs a1 n1 c1), (vi a2), (vi b1), (vi n2), fv1] w0 fun e w => ∃ (C : NP), e = .returned (Value.tuple #[]) ∧ Bun C0 F w0 C w [MO.prow cGaffine_pair 69 a1 n1 c1 r.2] [] := by
 refine enterK (l := [(vs a1 n1 c1), (vi a2), (vi b1), (vi n2), fv1]) Try.func85 rfl Try.ntmps85 rfl ?_
 rw [m_slices_swapRangeCmpFunc_affine_pair_w] at h
 refine sr ?_
 refine sac ?_
 refine nk ?_
 refine c_block ?_
 refine c_loop (α := Nat × Int × (List Gaffine_pair)) (fun x => fun w => ∃ C, Bun C0 F w0 C w [MO.prow cGaffine_pair 69 a1 n1 c1 (x.2.2)] [] ∧ m_slices_swapRangeCmpFunc_affine_pair_w_l1 n2 b1 a2 (x.1) (x.2.1) (x.2.2) = some r) (fun x _ => x.1) (fun x => [(0, (vs a1 n1 c1)), (1, (vi a2)), (2, (vi b1)), (3, (vi n2)), (10, (vi (x.2.1)))]) (fu, 0, data1) ⟨_, hI.arr (.c .z .n) trivial, h⟩ ⟨rfl, rfl, rfl, rfl, rfl, trivial⟩ ?_
 clear h hI; rintro ⟨fuel1, i1, l1⟩ w1 ⟨c2, hI, h⟩
 dsimp only at hI h
 rcases fuel1 with _ | fuel1
 ·rw [m_slices_swapRangeCmpFunc_affine_pair_w_l1] at h; cases h
 rw [m_slices_swapRangeCmpFunc_affine_pair_w_l1] at h
 refine c_sub (e := [(0, (vs a1 n1 c1)), (1, (vi a2)), (2, (vi b1)), (3, (vi n2)), (10, (vi i1))]) ⟨rfl, rfl, rfl, rfl, rfl, trivial⟩ ?_
 refine c_seq ?_
 refine sr ?_
 refine sm ?_
 refine sm ?_
 refine sq (y_lss rfl et et) ?_
 refine nk ?_
 refine c_cond (b := decide (i1 < n2)) et (fun hb => ?_) (fun hb => ?_)
 ·replace h := ite_t hb h
  refine c_skip ?_
  refine k_same ?_
  refine c_seq ?_
  refine c_block ?_
  refine c_drawX [21, 23] false (.c (0, .q) (.c (1, .q) (.c (2, .q) (.c (3, .q) (.c (4, .q) (.c (5, .q) (.c (6, .q) (.c (7, .q) (.c (8, .q) (.c (9, .q) (.c (10, .q) (.c (11, .q) (.c (12, .q) (.c (13, .q) (.c (14, .q) (.c (15, .q) (.c (16, .q) (.c (17, .q) (.c (18, .q) (.c (19, .q) (.c (20, .q) (.c (21, .s) (.c (22, .q) (.c (23, .s) .n)))))))))))))))))))))))) hI (by kernel_rfl) (by kernel_rfl) ?_
  clear hI; intro w2 hI
  refine a_q rfl gn rfl (fun w' => (y_move rfl et)) ?_
  refine a_q rfl gn rfl (fun w' => (y_move rfl et)) ?_
  refine a_q rfl gn rfl (fun w' => (y_move rfl et)) ?_
  refine a_q rfl gn rfl (fun w' => (y_add rfl et et)) ?_
  refine a_q rfl gn rfl (fun w' => (y_move rfl et)) ?_
  refine a_q rfl gn rfl (fun w' => (y_move rfl et)) ?_
  refine a_q rfl gn rfl (fun w' => (y_move rfl et)) ?_
  refine a_q rfl gn rfl (fun w' => (y_add rfl et et)) ?_
  refine a_q rfl gn rfl (fun w' => (y_move rfl et)) ?_
  refine a_q rfl gn rfl (fun w' => (y_move rfl et)) ?_
  refine a_q rfl gn rfl (fun w' => (y_move rfl et)) ?_
  refine a_q rfl gn rfl (fun w' => (y_add rfl et et)) ?_
  obtain ⟨e1, hx1, h⟩ := bnd_some h
  obtain ⟨ad1, cs1, hA1, hr1, hq1⟩ := (hI.unpin .z).2.olat .z hx1
  obtain ⟨a3, c3, a4, c4, rfl, hf1, hf2⟩ := hr1
  have hI := hI.add (c := Cl.sl (cInt .i64) a3 c3 e1.p) hf1
  have hI := hI.add (c := Cl.sl (cInt .i64) a4 c4 e1.to_) hf2
  refine a_q rfl gn rfl (fun w' => (y_indexAddr rfl Try.underlying64 size_69 et et (bdn (hI.unpin .z).1 (lat_bd hx1)) hA1)) ?_
  refine a_read rfl gn rfl (fun w' hw' => (y_loadN (l := [(vs a3 e1.p.length c3), (vs a4 e1.to_.length c4)]) rfl et Try.underlying69 rfl size_69 (hq1.at_ (SX.any rfl hw')))) (by kernel_rfl) ?_
  refine a_q rfl gn rfl (fun w' => (y_move rfl et)) ?_
  refine a_q rfl gn rfl (fun w' => (y_move rfl et)) ?_
  refine a_q rfl gn rfl (fun w' => (y_move rfl et)) ?_
  refine a_q rfl gn rfl (fun w' => (y_add rfl et et)) ?_
  obtain ⟨e2, hx2, h⟩ := bnd_some h
  obtain ⟨ad2, cs2, hA2, hr2, hq2⟩ := (hI.unpin .z).2.olat .z hx2
  obtain ⟨a5, c5, a6, c6, rfl, hf3, hf4⟩ := hr2
  have hI := hI.add (c := Cl.sl (cInt .i64) a5 c5 e2.p) hf3
  have hI := hI.add (c := Cl.sl (cInt .i64) a6 c6 e2.to_) hf4
  refine a_q rfl gn rfl (fun w' => (y_indexAddr rfl Try.underlying64 size_69 et et (bdn (hI.unpin .z).1 (lat_bd hx2)) hA2)) ?_
  refine a_read rfl gn rfl (fun w' hw' => (y_loadN (l := [(vs a5 e2.p.length c5), (vs a6 e2.to_.length c6)]) rfl et Try.underlying69 rfl size_69 (hq2.at_ (SX.any rfl hw')))) (by kernel_rfl) ?_
  obtain ⟨ho1, h⟩ := chk_some h
  obtain ⟨ad3, hA3⟩ := (hI.unpin .z).2.addr .z ho1
  refine a_q rfl gn rfl (fun w' => (y_indexAddr rfl Try.underlying64 size_69 et et (bdn (hI.unpin .z).1 ho1) hA3)) ?_
  refine a_turn (F := F) (C := c2) rfl rfl ?_
  obtain ⟨hl1, hP⟩ := hI.unpin .z
  refine la_storeRow (p := Int.toNat (wi64 (a2 + i1))) (new := [(vs a3 e1.p.length c3), (vs a4 e1.to_.length c4)]) (off := 0) (x' := e1) hP .z rfl gn rfl rfl (by have := ho1; first | omega | (simp only [List.length_set]; omega)) hA3 rfl et et rfl size_69 rfl (by show 0 + 2 ≤ 2; omega) (fun _ cs0 _ hr0 => by rw [spl_full (by have e := Cod.len _ hr0; exact e)]; exact ⟨a3, c3, a4, c4, rfl, hI.get (.s (.s (.s .z))), hI.get (.s (.s .z))⟩) ?_
  clear hI hP; intro c7 w3 hI
  replace hI := hI.pin .z (lset_len hl1)
  obtain ⟨ho2, h⟩ := chk_some h
  obtain ⟨ad4, hA4⟩ := (hI.unpin .z).2.addr .z ho2
  refine a_q rfl gn rfl (fun w' => (y_indexAddr rfl Try.underlying64 size_69 et et (bdn (hI.unpin .z).1 ho2) hA4)) ?_
  obtain ⟨hl2, hP⟩ := hI.unpin .z
  refine la_storeRow (p := Int.toNat (wi64 (b1 + i1))) (new := [(vs a5 e2.p.length c5), (vs a6 e2.to_.length c6)]) (off := 0) (x' := e2) hP .z rfl gn rfl rfl (by have := ho2; first | omega | (simp only [List.length_set]; omega)) hA4 rfl et et rfl size_69 rfl (by show 0 + 2 ≤ 2; omega) (fun _ cs0 _ hr0 => by rw [spl_full (by have e := Cod.len _ hr0; exact e)]; exact ⟨a5, c5, a6, c6, rfl, hI.get (.s .z), hI.get .z⟩) ?_
  clear hI hP; intro c8 w4 hI
  replace hI := hI.pin .z (lset_len hl2)
  refine a_nil ?_
  refine k_next (e := [(0, (vs a1 n1 c1)), (1, (vi a2)), (2, (vi b1)), (3, (vi n2)), (10, (vi i1))]) ⟨rfl, rfl, rfl, rfl, rfl, trivial⟩ ?_
  refine c_region rfl ?_
  refine sm ?_
  refine sq (y_add rfl et ev_const) ?_
  refine sa ?_
  refine s_nil ?_
  exact k_loop (fuel1, wi64 (i1 + 1), (l1.set (Int.toNat (wi64 (a2 + i1))) e1).set (Int.toNat (wi64 (b1 + i1))) e2) ⟨rfl, rfl, rfl, rfl, rfl, trivial⟩ ⟨_, hI.arr (.c .z .n) trivial, h⟩ (Nat.lt_succ_self _)
 ·replace h := ite_f hb h
  refine c_exit ?_
  refine k_in ?_
  obtain rfl := some_inj h
  exact q_ret (vs := []) Try.results85 trivial ⟨_, rfl, hI.arr (.c .z .n) trivial⟩
set_option maxRecDepth 100000 in
set_option maxHeartbeats 4000000 in
theorem c_slices_rotateCmpFunc_affine_pair_w (C0 F : NP) (w0 : World) (data1 : List Gaffine_pair) (a2 : Int) (m1 : Int) (b1 : Int) (cmp1 : (Gaffine_pair → Gaffine_pair → Option Int)) (a1 : Option Addr) (n1 : Nat) (c1 : Nat) (fv1 : Value) (hI : Bun C0 F w0 C0 w0 [MO.prow cGaffine_pair 69 a1 n1 c1 data1] [clFn_k5 fv1 cmp1]) (r : Unit × List Gaffine_pair)
  (h : m_slices_rotateCmpFunc_affine_pair_w data1 a2 m1 b1 cmp1 = some r) :
  Calls Try.prog 84 #[(vs a1 n1 c1), (vi a2), (vi m1), (vi b1), fv1] w0 fun e w => ∃ (C : NP), e = .returned (Value.tuple #[]) ∧ Bun C0 F w0 C w [MO.prow cGaffine_pair 69 a1 n1 c1 r.2] [] := by
 refine enterK (l := [(vs a1 n1 c1), (vi a2), (vi m1), (vi b1), fv1]) Try.func84 rfl Try.ntmps84 rfl ?_
 rw [m_slices_rotateCmpFunc_affine_pair_w] at h
 refine sr ?_
 refine sm ?_
 refine sm ?_
 refine sq (y_sub rfl et et) ?_
 refine sa ?_
 refine nk ?_
 refine sr ?_
 refine sm ?_
 refine sm ?_
 refine sq (y_sub rfl et et) ?_
 refine sa ?_
 refine nk ?_
 refine c_seq ?_
 refine c_block ?_
 refine c_loop (α := Nat × Int × Int × (List Gaffine_pair)) (fun x => fun w => ∃ C, Bun C0 F w0 C w [MO.prow cGaffine_pair 69 a1 n1 c1 (x.2.2.2)] [clFn_k5 fv1 cmp1] ∧ m_slices_rotateCmpFunc_affine_pair_w_l1 m1 cmp1 (x.1) (x.2.1) (x.2.2.1) (x.2.2.2) = some r) (fun x _ => x.1) (fun x => [(0, (vs a1 n1 c1)), (2, (vi m1)), (4, fv1), (10, (vi (x.2.1))), (11, (vi (x.2.2.1)))]) (fu, wi64 (m1 - a2), wi64 (b1 - m1), data1) ⟨_, hI.arr (.c .z .n) ⟨.z, trivial⟩, h⟩ ⟨rfl, rfl, rfl, rfl, rfl, trivial⟩ ?_
 clear h hI; rintro ⟨fuel1, i1, j1, l1⟩ w1 ⟨c2, hI, h⟩
 dsimp only at hI h
 rcases fuel1 with _ | fuel1
 ·rw [m_slices_rotateCmpFunc_affine_pair_w_l1] at h; cases h
 rw [m_slices_rotateCmpFunc_affine_pair_w_l1] at h
 refine c_sub (e := [(0, (vs a1 n1 c1)), (2, (vi m1)), (4, fv1), (10, (vi i1)), (11, (vi j1))]) ⟨rfl, rfl, rfl, rfl, rfl, trivial⟩ ?_
 refine c_seq ?_
 refine sr ?_
 refine sm ?_
 refine sm ?_
 refine sq (y_neq rfl et et) ?_
 refine nk ?_
 refine c_cond (b := !decide (i1 = j1)) et (fun hb => ?_) (fun hb => ?_)
 ·replace h := ite_t hb h
  refine c_skip ?_
  refine k_same ?_
  refine c_block ?_
  refine sr ?_
  refine sm ?_
  refine sm ?_
  refine sq (y_gtr rfl et et) ?_
  refine nk ?_
  refine c_cond (b := decide (j1 < i1)) et (fun hb => ?_) (fun hb => ?_)
  ·replace h := ite_t hb h
   refine sr ?_
   refine sm ?_
   refine sm ?_
   refine sm ?_
   refine sq (y_sub rfl et et) ?_
   refine sm ?_
   refine sm ?_
   refine sm ?_
   obtain ⟨c3, f1, hB, hl1, hk1⟩ := hI.hands (.l .n)
   obtain ⟨⟨r1, s1⟩, hx1, h⟩ := bnd_some h
   try dsimp only at h
   refine s_call gn rfl (r_callF (vs := [(vs a1 n1 c1), (vi (wi64 (m1 - i1))), (vi m1), (vi j1), fv1]) rfl ok_85 ⟨et, ⟨et, ⟨et, ⟨et, ⟨et, trivial⟩⟩⟩⟩⟩) (Calls.mono (c_slices_swapRangeCmpFunc_affine_pair_w c3 f1 w1 l1 (wi64 (m1 - i1)) m1 j1 cmp1 a1 n1 c1 fv1 (hB.subs ⟨.z, trivial⟩) _ hx1) ?_)
   rintro _ w2 ⟨c4, rfl, hB2⟩
   obtain ⟨c5, hs1, hI⟩ := hk1 _ _ _ _ hB2
   replace hI : Bun C0 F w0 c5 w2 [MO.prow cGaffine_pair 69 a1 n1 c1 s1] [clFn_k5 fv1 cmp1] := hI
   refine ⟨_, rfl, ?_⟩
   refine nk ?_
   refine c_region rfl ?_
   refine sm ?_
   refine sm ?_
   refine sq (y_sub rfl et et) ?_
   refine sa ?_
   refine s_nil ?_
   exact k_loop (fuel1, wi64 (i1 - j1), j1, s1) ⟨rfl, rfl, rfl, rfl, rfl, trivial⟩ ⟨_, hI.arr (.c .z .n) ⟨.z, trivial⟩, h⟩ (Nat.lt_succ_self _)
  ·replace h := ite_f hb h
   refine sr ?_
   refine sm ?_
   refine sm ?_
   refine sm ?_
   refine sq (y_sub rfl et et) ?_
   refine sm ?_
   refine sm ?_
   refine sq (y_add rfl et et) ?_
   refine sm ?_
   refine sq (y_sub rfl et et) ?_
   refine sm ?_
   refine sm ?_
   obtain ⟨c6, f2, hB, hl2, hk2⟩ := hI.hands (.l .n)
   obtain ⟨⟨r2, s2⟩, hx2, h⟩ := bnd_some h
   try dsimp only at h
   refine s_call gn rfl (r_callF (vs := [(vs a1 n1 c1), (vi (wi64 (m1 - i1))), (vi (wi64 ((wi64 (m1 + j1)) - i1))), (vi i1), fv1]) rfl ok_85 ⟨et, ⟨et, ⟨et, ⟨et, ⟨et, trivial⟩⟩⟩⟩⟩) (Calls.mono (c_slices_swapRangeCmpFunc_affine_pair_w c6 f2 w1 l1 (wi64 (m1 - i1)) (wi64 ((wi64 (m1 + j1)) - i1)) i1 cmp1 a1 n1 c1 fv1 (hB.subs ⟨.z, trivial⟩) _ hx2) ?_)
   rintro _ w3 ⟨c7, rfl, hB2⟩
   obtain ⟨c8, hs2, hI⟩ := hk2 _ _ _ _ hB2
   replace hI : Bun C0 F w0 c8 w3 [MO.prow cGaffine_pair 69 a1 n1 c1 s2] [clFn_k5 fv1 cmp1] := hI
   refine ⟨_, rfl, ?_⟩
   refine nk ?_
   refine c_region rfl ?_
   refine sm ?_
   refine sm ?_
   refine sq (y_sub rfl et et) ?_
   refine sa ?_
   refine s_nil ?_
   exact k_loop (fuel1, i1, wi64 (j1 - i1), s2) ⟨rfl, rfl, rfl, rfl, rfl, trivial⟩ ⟨_, hI.arr (.c .z .n) ⟨.z, trivial⟩, h⟩ (Nat.lt_succ_self _)
 ·replace h := ite_f hb h
  refine c_exit ?_
  refine k_in ?_
  refine k_same ?_
  refine c_region rfl ?_
  refine sm ?_
  refine sm ?_
  refine sm ?_
  refine sq (y_sub rfl et et) ?_
  refine sm ?_
  refine sm ?_
  refine sm ?_
  obtain ⟨c9, f3, hB, hl3, hk3⟩ := hI.hands (.l .n)
  obtain ⟨⟨r3, s3⟩, hx3, h⟩ := bnd_some h
  try dsimp only at h
  refine s_call gn rfl (r_callF (vs := [(vs a1 n1 c1), (vi (wi64 (m1 - i1))), (vi m1), (vi i1), fv1]) rfl ok_85 ⟨et, ⟨et, ⟨et, ⟨et, ⟨et, trivial⟩⟩⟩⟩⟩) (Calls.mono (c_slices_swapRangeCmpFunc_affine_pair_w c9 f3 w1 l1 (wi64 (m1 - i1)) m1 i1 cmp1 a1 n1 c1 fv1 (hB.subs ⟨.z, trivial⟩) _ hx3) ?_)
  rintro _ w4 ⟨c10, rfl, hB2⟩
  obtain ⟨c11, hs3, hI⟩ := hk3 _ _ _ _ hB2
  replace hI : Bun C0 F w0 c11 w4 [MO.prow cGaffine_pair 69 a1 n1 c1 s3] [clFn_k5 fv1 cmp1] := hI
  refine ⟨_, rfl, ?_⟩
  refine s_nil ?_
  obtain rfl := some_inj h
  exact q_ret (vs := []) Try.results84 trivial ⟨_, rfl, hI.arr (.c .z .n) trivial⟩
set_option maxRecDepth 100000 in
set_option maxHeartbeats 4000000 in
theorem c_slices_symMergeCmpFunc_affine_pair_w_b (rec_ : ((List Gaffine_pair) → Int → Int → Int → (Gaffine_pair → Gaffine_pair → Option Int) → Option (Unit × List Gaffine_pair))) (hrec : ∀ (C0 F : NP) (w0 : World) (data1 : List Gaffine_pair) (a2 : Int) (m1 : Int) (b1 : Int) (cmp1 : (Gaffine_pair → Gaffine_pair → Option Int)) (a1 : Option Addr) (n1 : Nat) (c1 : Nat) (fv1 : Value) (hI : Bun C0 F w0 C0 w0 [MO.prow cGaffine_pair 69 a1 n1 c1 data1] [clFn_k5 fv1 cmp1]) (r : Unit × List Gaffine_pair) (h : rec_ data1 a2 m1 b1 cmp1 = some r), Calls Try.prog 81 #[(vs a1 n1 c1), (vi a2), (vi m1), (vi b1), fv1] w0 fun e w => ∃ (C : NP), e = .returned (Value.tuple #[]) ∧ Bun C0 F w0 C w [MO.prow cGaffine_pair 69 a1 n1 c1 r.2] [])
  (C0 F : NP) (w0 : World) (data1 : List Gaffine_pair) (a2 : Int) (m1 : Int) (b1 : Int) (cmp1 : (Gaffine_pair → Gaffine_pair → Option Int)) (a1 : Option Addr) (n1 : Nat) (c1 : Nat) (fv1 : Value) (hI : Bun C0 F w0 C0 w0 [MO.prow cGaffine_pair 69 a1 n1 c1 data1] [clFn_k5 fv1 cmp1]) (r : Unit × List Gaffine_pair) (h : m_slices_symMergeCmpFunc_affine_pair_w_b rec_ data1 a2 m1 b1 cmp1 = some r) : Calls Try.prog 81 #[(vs a1 n1 c1), (vi a2), (vi m1), (vi b1), fv1] w0 fun e w => ∃ (C : NP), e = .returned (Value.tuple #[]) ∧ Bun C0 F w0 C w [MO.prow cGaffine_pair 69 a1 n1 c1 r.2] [] := by
 refine enterK (l := [(vs a1 n1 c1), (vi a2), (vi m1), (vi b1), fv1]) Try.func81 rfl Try.ntmps81 rfl ?_
 rw [m_slices_symMergeCmpFunc_affine_pair_w_b] at h
 refine c_join (α := Unit) (fun _ => ⟨220, []⟩) (fun _ => [(0, (vs a1 n1 c1)), (1, (vi a2)), (2, (vi m1)), (3, (vi b1)), (4, fv1)]) (fun _ => fun w => ∃ C, Bun C0 F w0 C w [MO.prow cGaffine_pair 69 a1 n1 c1 data1] [clFn_k5 fv1 cmp1] ∧ m_slices_symMergeCmpFunc_affine_pair_w_j1 b1 m1 data1 cmp1 a2 rec_ = some r) ?_ ?_
 ·clear h hI; rintro _ w1 ⟨c2, hI, h⟩
  try dsimp only at hI h
  rw [m_slices_symMergeCmpFunc_affine_pair_w_j1] at h
  refine c_sub (e := [(0, (vs a1 n1 c1)), (1, (vi a2)), (2, (vi m1)), (3, (vi b1)), (4, fv1)]) ⟨rfl, rfl, rfl, rfl, rfl, trivial⟩ ?_
  refine c_join (α := Unit) (fun _ => ⟨220, []⟩) (fun _ => [(0, (vs a1 n1 c1)), (1, (vi a2)), (2, (vi m1)), (3, (vi b1)), (4, fv1)]) (fun _ => fun w => ∃ C, Bun C0 F w0 C w [MO.prow cGaffine_pair 69 a1 n1 c1 data1] [clFn_k5 fv1 cmp1] ∧ m_slices_symMergeCmpFunc_affine_pair_w_j2 a2 b1 m1 data1 cmp1 rec_ = some r) ?_ ?_
  ·clear h hI; rintro _ w2 ⟨c3, hI, h⟩
   try dsimp only at hI h
   rw [m_slices_symMergeCmpFunc_affine_pair_w_j2] at h
   refine c_sub (e := [(0, (vs a1 n1 c1)), (1, (vi a2)), (2, (vi m1)), (3, (vi b1)), (4, fv1)]) ⟨rfl, rfl, rfl, rfl, rfl, trivial⟩ ?_
   refine sr ?_
   refine sm ?_
   refine sm ?_
   refine sq (y_add rfl et et) ?_
   refine sq (y_conv rfl (by rw [Try.underlying3]; rfl) Try.underlying112 et) ?_
   refine sq (y_shrc (s := 1) rfl et ev_const (by decide) rfl) ?_
   refine sq (y_conv rfl (by rw [Try.underlying112]; rfl) Try.underlying3 et) ?_
   obtain ⟨mid1, hx1, h⟩ := bnd_some h
   refine sq (binU (y_assign rfl et) (congrArg (Value.int .i64) (some_inj hx1))) ?_
   refine nk ?_
   refine sr ?_
   refine sm ?_
   refine sm ?_
   refine sq (y_add rfl et et) ?_
   refine sa ?_
   refine nk ?_
   refine sr ?_
   refine sac ?_
   refine sac ?_
   refine nk ?_
   refine c_join (α := Int × Int) (fun _ => ⟨220, []⟩) (fun x => [(0, (vs a1 n1 c1)), (1, (vi a2)), (2, (vi m1)), (3, (vi b1)), (4, fv1), (18, (vi mid1)), (19, (vi (wi64 (mid1 + m1)))), (20, (vi (x.1))), (21, (vi (x.2)))]) (fun x => fun w => ∃ C, Bun C0 F w0 C w [MO.prow cGaffine_pair 69 a1 n1 c1 data1] [clFn_k5 fv1 cmp1] ∧ m_slices_symMergeCmpFunc_affine_pair_w_j3 mid1 m1 data1 cmp1 a2 rec_ b1 (x.1) (x.2) = some r) ?_ ?_
   ·clear h hI; rintro ⟨start1, r1⟩ w3 ⟨c4, hI, h⟩
    try dsimp only at hI h
    rw [m_slices_symMergeCmpFunc_affine_pair_w_j3] at h
    refine c_sub (e := [(0, (vs a1 n1 c1)), (1, (vi a2)), (2, (vi m1)), (3, (vi b1)), (4, fv1), (18, (vi mid1)), (19, (vi (wi64 (mid1 + m1)))), (20, (vi start1)), (21, (vi r1))]) ⟨rfl, rfl, rfl, rfl, rfl, rfl, rfl, rfl, rfl, trivial⟩ ?_
    refine sr ?_
    refine sm ?_
    refine sq (y_sub rfl et ev_const) ?_
    obtain ⟨p1, hx2, h⟩ := bnd_some h
    refine sq (binU (y_assign rfl et) (congrArg (Value.int .i64) (some_inj hx2))) ?_
    refine nk ?_
    refine c_join (α := Int) (fun _ => ⟨220, []⟩) (fun x => [(0, (vs a1 n1 c1)), (1, (vi a2)), (2, (vi m1)), (3, (vi b1)), (4, fv1), (18, (vi mid1)), (19, (vi (wi64 (mid1 + m1)))), (20, (vi x))]) (fun x => fun w => ∃ C, Bun C0 F w0 C w [MO.prow cGaffine_pair 69 a1 n1 c1 data1] [clFn_k5 fv1 cmp1] ∧ m_slices_symMergeCmpFunc_affine_pair_w_j4 mid1 m1 data1 cmp1 a2 rec_ b1 x = some r) ?_ ?_
    ·clear h hI; rintro start2 w4 ⟨c5, hI, h⟩
     try dsimp only at hI h
     rw [m_slices_symMergeCmpFunc_affine_pair_w_j4] at h
     refine c_sub (e := [(0, (vs a1 n1 c1)), (1, (vi a2)), (2, (vi m1)), (3, (vi b1)), (4, fv1), (18, (vi mid1)), (19, (vi (wi64 (mid1 + m1)))), (20, (vi start2))]) ⟨rfl, rfl, rfl, rfl, rfl, rfl, rfl, rfl, trivial⟩ ?_
     refine sr ?_
     refine sm ?_
     refine sm ?_
     refine sq (y_sub rfl et et) ?_
     obtain ⟨end1, hx3, h⟩ := bnd_some h
     refine sq (binU (y_assign rfl et) (congrArg (Value.int .i64) (some_inj hx3))) ?_
     refine nk ?_
     refine c_join (α := (List Gaffine_pair)) (fun _ => ⟨220, []⟩) (fun x => [(0, (vs a1 n1 c1)), (1, (vi a2)), (3, (vi b1)), (4, fv1), (18, (vi mid1)), (20, (vi start2)), (24, (vi end1))]) (fun x => fun w => ∃ C, Bun C0 F w0 C w [MO.prow cGaffine_pair 69 a1 n1 c1 x] [clFn_k5 fv1 cmp1] ∧ m_slices_symMergeCmpFunc_affine_pair_w_j5 a2 start2 mid1 rec_ cmp1 end1 b1 x = some r) ?_ ?_
     ·clear h hI; rintro l1 w5 ⟨c6, hI, h⟩
      try dsimp only at hI h
      rw [m_slices_symMergeCmpFunc_affine_pair_w_j5] at h
      refine c_sub (e := [(0, (vs a1 n1 c1)), (1, (vi a2)), (3, (vi b1)), (4, fv1), (18, (vi mid1)), (20, (vi start2)), (24, (vi end1))]) ⟨rfl, rfl, rfl, rfl, rfl, rfl, rfl, trivial⟩ ?_
      refine c_join (α := (List Gaffine_pair)) (fun _ => ⟨220, []⟩) (fun x => [(0, (vs a1 n1 c1)), (3, (vi b1)), (4, fv1), (18, (vi mid1)), (24, (vi end1))]) (fun x => fun w => ∃ C, Bun C0 F w0 C w [MO.prow cGaffine_pair 69 a1 n1 c1 x] [clFn_k5 fv1 cmp1] ∧ m_slices_symMergeCmpFunc_affine_pair_w_j6 mid1 end1 b1 rec_ cmp1 x = some r) ?_ ?_
      ·clear h hI; rintro l2 w6 ⟨c7, hI, h⟩
       try dsimp only at hI h
       rw [m_slices_symMergeCmpFunc_affine_pair_w_j6] at h
       refine c_sub (e := [(0, (vs a1 n1 c1)), (3, (vi b1)), (4, fv1), (18, (vi mid1)), (24, (vi end1))]) ⟨rfl, rfl, rfl, rfl, rfl, trivial⟩ ?_
       refine sr ?_
       refine sm ?_
       refine sm ?_
       refine sq (y_lss rfl et et) ?_
       refine sm ?_
       refine s_gval (g_true rfl rfl rfl rfl) rfl (fun hc => (y_move rfl et)) ?_
       refine s_gval (g_true rfl rfl rfl rfl) rfl (fun hc => (y_move rfl et)) ?_
       refine s_gval (g_true rfl rfl rfl rfl) rfl (fun hc => (y_lss rfl (ev_gv et hc) (ev_gv et hc))) ?_
       refine sq (y_and rfl et et) ?_
       refine nk ?_
       refine c_cond (b := (decide (mid1 < end1)) && (decide (end1 < b1))) et (fun hb => ?_) (fun hb => ?_)
       ·replace h := ite_t hb h
        refine c_region rfl ?_
        refine sm ?_
        refine sm ?_
        refine sm ?_
        refine sm ?_
        refine sm ?_
        obtain ⟨c8, f1, hB, hl1, hk1⟩ := hI.hands (.l .n)
        obtain ⟨⟨r2, s1⟩, hx4, h⟩ := bnd_some h
        try dsimp only at h
        refine s_call gn rfl (r_callF (vs := [(vs a1 n1 c1), (vi mid1), (vi end1), (vi b1), fv1]) rfl ok_81 ⟨et, ⟨et, ⟨et, ⟨et, ⟨et, trivial⟩⟩⟩⟩⟩) (Calls.mono (hrec c8 f1 w6 l2 mid1 end1 b1 cmp1 a1 n1 c1 fv1 (hB.subs ⟨.z, trivial⟩) _ hx4) ?_)
        rintro _ w7 ⟨c9, rfl, hB2⟩
        obtain ⟨c10, hs1, hI⟩ := hk1 _ _ _ _ hB2
        replace hI : Bun C0 F w0 c10 w7 [MO.prow cGaffine_pair 69 a1 n1 c1 s1] [clFn_k5 fv1 cmp1] := hI
        refine ⟨_, rfl, ?_⟩
        refine s_nil ?_
        obtain rfl := some_inj h
        exact q_ret (vs := []) Try.results81 trivial ⟨_, rfl, hI.arr (.c .z .n) trivial⟩
       ·replace h := ite_f hb h
        refine c_skip ?_
        obtain rfl := some_inj h
        exact q_ret (vs := []) Try.results81 trivial ⟨_, rfl, hI.arr (.c .z .n) trivial⟩
      ·skip
       refine sr ?_
       refine sm ?_
       refine sm ?_
       refine sq (y_lss rfl et et) ?_
       refine sm ?_
       refine s_gval (g_true rfl rfl rfl rfl) rfl (fun hc => (y_move rfl et)) ?_
       refine s_gval (g_true rfl rfl rfl rfl) rfl (fun hc => (y_move rfl et)) ?_
       refine s_gval (g_true rfl rfl rfl rfl) rfl (fun hc => (y_lss rfl (ev_gv et hc) (ev_gv et hc))) ?_
       refine sq (y_and rfl et et) ?_
       refine nk ?_
       refine c_cond (b := (decide (a2 < start2)) && (decide (start2 < mid1))) et (fun hb => ?_) (fun hb => ?_)
       ·replace h := ite_t hb h
        refine c_region rfl ?_
        refine sm ?_
        refine sm ?_
        refine sm ?_
        refine sm ?_
        refine sm ?_
        obtain ⟨c11, f2, hB, hl2, hk2⟩ := hI.hands (.l .n)
        obtain ⟨⟨r3, s2⟩, hx5, h⟩ := bnd_some h
        try dsimp only at h
        refine s_call gn rfl (r_callF (vs := [(vs a1 n1 c1), (vi a2), (vi start2), (vi mid1), fv1]) rfl ok_81 ⟨et, ⟨et, ⟨et, ⟨et, ⟨et, trivial⟩⟩⟩⟩⟩) (Calls.mono (hrec c11 f2 w5 l1 a2 start2 mid1 cmp1 a1 n1 c1 fv1 (hB.subs ⟨.z, trivial⟩) _ hx5) ?_)
        rintro _ w8 ⟨c12, rfl, hB2⟩
        obtain ⟨c13, hs2, hI⟩ := hk2 _ _ _ _ hB2
        replace hI : Bun C0 F w0 c13 w8 [MO.prow cGaffine_pair 69 a1 n1 c1 s2] [clFn_k5 fv1 cmp1] := hI
        refine ⟨_, rfl, ?_⟩
        refine s_nil ?_
        exact k_join s2 ⟨rfl, rfl, rfl, rfl, rfl, trivial⟩ ⟨_, hI.arr (.c .z .n) ⟨.z, trivial⟩, h⟩ rfl
       ·replace h := ite_f hb h
        refine c_skip ?_
        exact k_join l1 ⟨rfl, rfl, rfl, rfl, rfl, trivial⟩ ⟨_, hI.arr (.c .z .n) ⟨.z, trivial⟩, h⟩ rfl
     ·skip
      refine sr ?_
      refine sm ?_
      refine sm ?_
      refine sq (y_lss rfl et et) ?_
      refine sm ?_
      refine s_gval (g_true rfl rfl rfl rfl) rfl (fun hc => (y_move rfl et)) ?_
      refine s_gval (g_true rfl rfl rfl rfl) rfl (fun hc => (y_move rfl et)) ?_
      refine s_gval (g_true rfl rfl rfl rfl) rfl (fun hc => (y_lss rfl (ev_gv et hc) (ev_gv et hc))) ?_
      refine sq (y_and rfl et et) ?_
      refine nk ?_
      refine c_cond (b := (decide (start2 < m1)) && (decide (m1 < end1))) et (fun hb => ?_) (fun hb => ?_)
      ·replace h := ite_t hb h
       refine c_region rfl ?_
       refine sm ?_
       refine sm ?_
       refine sm ?_
       refine sm ?_
       refine sm ?_
       obtain ⟨c14, f3, hB, hl3, hk3⟩ := hI.hands (.l .n)
       obtain ⟨⟨r4, s3⟩, hx6, h⟩ := bnd_some h
       try dsimp only at h
       refine s_call gn rfl (r_callF (vs := [(vs a1 n1 c1), (vi start2), (vi m1), (vi end1), fv1]) rfl ok_84 ⟨et, ⟨et, ⟨et, ⟨et, ⟨et, trivial⟩⟩⟩⟩⟩) (Calls.mono (c_slices_rotateCmpFunc_affine_pair_w c14 f3 w4 data1 start2 m1 end1 cmp1 a1 n1 c1 fv1 (hB.subs ⟨.z, trivial⟩) _ hx6) ?_)
       rintro _ w9 ⟨c15, rfl, hB2⟩
       obtain ⟨c16, hs3, hI⟩ := hk3 _ _ _ _ hB2
       replace hI : Bun C0 F w0 c16 w9 [MO.prow cGaffine_pair 69 a1 n1 c1 s3] [clFn_k5 fv1 cmp1] := hI
       refine ⟨_, rfl, ?_⟩
       refine s_nil ?_
       exact k_join s3 ⟨rfl, rfl, rfl, rfl, rfl, rfl, rfl, trivial⟩ ⟨_, hI.arr (.c .z .n) ⟨.z, trivial⟩, h⟩ rfl
      ·replace h := ite_f hb h
       refine c_skip ?_
       exact k_join data1 ⟨rfl, rfl, rfl, rfl, rfl, rfl, rfl, trivial⟩ ⟨_, hI.arr (.c .z .n) ⟨.z, trivial⟩, h⟩ rfl
    ·skip
     refine c_block ?_
     refine c_loop (α := Nat × Int × Int) (fun x => fun w => ∃ C, Bun C0 F w0 C w [MO.prow cGaffine_pair 69 a1 n1 c1 data1] [clFn_k5 fv1 cmp1] ∧ m_slices_symMergeCmpFunc_affine_pair_w_l1 data1 p1 cmp1 mid1 m1 a2 rec_ b1 (x.1) (x.2.1) (x.2.2) = some r) (fun x _ => x.1) (fun x => [(0, (vs a1 n1 c1)), (1, (vi a2)), (2, (vi m1)), (3, (vi b1)), (4, fv1), (18, (vi mid1)), (19, (vi (wi64 (mid1 + m1)))), (20, (vi (x.2.1))), (21, (vi (x.2.2))), (22, (vi p1))]) (fu, start1, r1) ⟨_, hI.arr (.c .z .n) ⟨.z, trivial⟩, h⟩ ⟨rfl, rfl, rfl, rfl, rfl, rfl, rfl, rfl, rfl, rfl, trivial⟩ ?_
     clear h hI; rintro ⟨fuel1, start3, r5⟩ w10 ⟨c17, hI, h⟩
     dsimp only at hI h
     rcases fuel1 with _ | fuel1
     ·rw [m_slices_symMergeCmpFunc_affine_pair_w_l1] at h; cases h
     rw [m_slices_symMergeCmpFunc_affine_pair_w_l1] at h
     refine c_sub (e := [(0, (vs a1 n1 c1)), (1, (vi a2)), (2, (vi m1)), (3, (vi b1)), (4, fv1), (18, (vi mid1)), (19, (vi (wi64 (mid1 + m1)))), (20, (vi start3)), (21, (vi r5)), (22, (vi p1))]) ⟨rfl, rfl, rfl, rfl, rfl, rfl, rfl, rfl, rfl, rfl, trivial⟩ ?_
     refine c_seq ?_
     refine sr ?_
     refine sm ?_
     refine sm ?_
     refine sq (y_lss rfl et et) ?_
     refine nk ?_
     refine c_cond (b := decide (start3 < r5)) et (fun hb => ?_) (fun hb => ?_)
     ·replace h := ite_t hb h
      refine c_skip ?_
      refine k_same ?_
      refine c_block ?_
      refine sr ?_
      refine sm ?_
      refine sm ?_
      refine sq (y_add rfl et et) ?_
      refine sq (y_conv rfl (by rw [Try.underlying3]; rfl) Try.underlying112 et) ?_
      refine sq (y_shrc (s := 1) rfl et ev_const (by decide) rfl) ?_
      refine sq (y_conv rfl (by rw [Try.underlying112]; rfl) Try.underlying3 et) ?_
      obtain ⟨c18, hx7, h⟩ := bnd_some h
      refine sq (binU (y_assign rfl et) (congrArg (Value.int .i64) (some_inj hx7))) ?_
      refine nk ?_
      refine c_seq ?_
      refine c_drawX [] false (.c (0, .q) (.c (1, .q) (.c (2, .q) (.c (3, .q) (.c (4, .q) (.c (5, .q) (.c (6, .q) (.c (7, .q) (.c (8, .q) (.c (9, .q) (.c (10, .q) (.c (11, .s) (.c (12, .q) (.c (13, .q) .n)))))))))))))) hI (by kernel_rfl) (by kernel_rfl) ?_
      clear hI; intro w11 hI
      refine a_q rfl gn rfl (fun w' => (y_move rfl et)) ?_
      refine a_q rfl gn rfl (fun w' => (y_move rfl et)) ?_
      refine a_q rfl gn rfl (fun w' => (y_move rfl et)) ?_
      refine a_q rfl gn rfl (fun w' => (y_move rfl et)) ?_
      refine a_q rfl gn rfl (fun w' => (y_sub rfl et et)) ?_
      obtain ⟨e1, hx8, h⟩ := bnd_some h
      obtain ⟨ad1, cs1, hA1, hr1, hq1⟩ := (hI.unpin .z).2.olat .z hx8
      obtain ⟨a3, c19, a4, c20, rfl, hf1, hf2⟩ := hr1
      have hI := hI.add (c := Cl.sl (cInt .i64) a3 c19 e1.p) hf1
      have hI := hI.add (c := Cl.sl (cInt .i64) a4 c20 e1.to_) hf2
      refine a_q rfl gn rfl (fun w' => (y_indexAddr rfl Try.underlying64 size_69 et et (bdn (hI.unpin .z).1 (lat_bd hx8)) hA1)) ?_
      refine a_read rfl gn rfl (fun w' hw' => (y_loadN (l := [(vs a3 e1.p.length c19), (vs a4 e1.to_.length c20)]) rfl et Try.underlying69 rfl size_69 (hq1.at_ (SX.any rfl hw')))) (by kernel_rfl) ?_
      refine a_q rfl gn rfl (fun w' => (y_move rfl et)) ?_
      refine a_q rfl gn rfl (fun w' => (y_move rfl et)) ?_
      obtain ⟨e2, hx9, h⟩ := bnd_some h
      obtain ⟨ad2, cs2, hA2, hr2, hq2⟩ := (hI.unpin .z).2.olat .z hx9
      obtain ⟨a5, c21, a6, c22, rfl, hf3, hf4⟩ := hr2
      have hI := hI.add (c := Cl.sl (cInt .i64) a5 c21 e2.p) hf3
      have hI := hI.add (c := Cl.sl (cInt .i64) a6 c22 e2.to_) hf4
      refine a_q rfl gn rfl (fun w' => (y_indexAddr rfl Try.underlying64 size_69 et et (bdn (hI.unpin .z).1 (lat_bd hx9)) hA2)) ?_
      refine a_read rfl gn rfl (fun w' hw' => (y_loadN (l := [(vs a5 e2.p.length c21), (vs a6 e2.to_.length c22)]) rfl et Try.underlying69 rfl size_69 (hq2.at_ (SX.any rfl hw')))) (by kernel_rfl) ?_
      obtain ⟨r6, hx10, h⟩ := bnd_some h
      refine la_callV (args := [(Value.agg #[(vs a3 e1.p.length c19), (vs a4 e1.to_.length c20)]), (Value.agg #[(vs a5 e2.p.length c21), (vs a6 e2.to_.length c22)])]) rfl gn rfl rfl et ⟨et, ⟨et, trivial⟩⟩ (CallV.mono ((hI.get (.s (.s (.s (.s .z))))).2 (Dj F c17) w11 (Sp.of_ext .rfl') hI.lt e1 e2 a3 c19 a4 c20 a5 c21 a6 c22 r6 ⟨(hI.get (.s (.s (.s .z)))), (hI.get (.s (.s .z))), (hI.get (.s .z)), (hI.get .z), trivial⟩ hx10) ?_)
      rintro _ w12 ⟨rfl, hx11, hl4⟩
      refine ⟨_, rfl, _, Sp.of_ext hx11, ?_⟩
      replace hI := (hI.ext hx11)
      refine a_q rfl gn rfl (fun w' => (y_lss rfl et ev_const)) ?_
      refine a_q rfl gn rfl (fun w' => (y_not rfl et)) ?_
      refine a_nil ?_
      refine k_same ?_
      refine c_cond (b := !(decide (r6 < 0))) et (fun hb => ?_) (fun hb => ?_)
      ·replace h := ite_t hb h
       refine c_region rfl ?_
       refine sm ?_
       refine sq (y_add rfl et ev_const) ?_
       refine sa ?_
       refine s_nil ?_
       exact k_loop (fuel1, wi64 (c18 + 1), r5) ⟨rfl, rfl, rfl, rfl, rfl, rfl, rfl, rfl, rfl, rfl, trivial⟩ ⟨_, hI.arr (.c .z .n) ⟨(.s (.s (.s (.s .z)))), trivial⟩, h⟩ (Nat.lt_succ_self _)
      ·replace h := ite_f hb h
       refine c_region rfl ?_
       refine sm ?_
       refine sa ?_
       refine s_nil ?_
       exact k_loop (fuel1, start3, c18) ⟨rfl, rfl, rfl, rfl, rfl, rfl, rfl, rfl, rfl, rfl, trivial⟩ ⟨_, hI.arr (.c .z .n) ⟨(.s (.s (.s (.s .z)))), trivial⟩, h⟩ (Nat.lt_succ_self _)
     ·replace h := ite_f hb h
      refine c_exit ?_
      refine k_in ?_
      exact k_join start3 ⟨rfl, rfl, rfl, rfl, rfl, rfl, rfl, rfl, trivial⟩ ⟨_, hI.arr (.c .z .n) ⟨.z, trivial⟩, h⟩ rfl
   ·skip
    refine sr ?_
    refine sm ?_
    refine sm ?_
    refine sq (y_gtr rfl et et) ?_
    refine nk ?_
    refine c_cond (b := decide (mid1 < m1)) et (fun hb => ?_) (fun hb => ?_)
    ·replace h := ite_t hb h
     refine sr ?_
     refine sm ?_
     refine sm ?_
     refine sq (y_sub rfl et et) ?_
     obtain ⟨start4, hx12, h⟩ := bnd_some h
     refine sq (binU (y_assign rfl et) (congrArg (Value.int .i64) (some_inj hx12))) ?_
     refine nk ?_
     refine c_region rfl ?_
     refine sm ?_
     refine sa ?_
     refine s_nil ?_
     exact k_join (start4, mid1) ⟨rfl, rfl, rfl, rfl, rfl, rfl, rfl, rfl, rfl, trivial⟩ ⟨_, hI.arr (.c .z .n) ⟨.z, trivial⟩, h⟩ rfl
    ·replace h := ite_f hb h
     refine sr ?_
     refine sm ?_
     refine sa ?_
     refine nk ?_
     refine c_region rfl ?_
     refine sm ?_
     refine sa ?_
     refine s_nil ?_
     exact k_join (a2, m1) ⟨rfl, rfl, rfl, rfl, rfl, rfl, rfl, rfl, rfl, trivial⟩ ⟨_, hI.arr (.c .z .n) ⟨.z, trivial⟩, h⟩ rfl
  ·skip
   refine sr ?_
   refine sm ?_
   refine sm ?_
   refine sq (y_sub rfl et et) ?_
   refine sq (y_eql rfl et ev_const) ?_
   refine nk ?_
   refine c_cond (b := decide (wi64 (b1 - m1) = 1)) et (fun hb => ?_) (fun hb => ?_)
   ·replace h := ite_t hb h
    refine sr ?_
    refine sm ?_
    refine sa ?_
    refine nk ?_
    refine sr ?_
    refine sm ?_
    refine sa ?_
    refine nk ?_
    refine c_join (α := Int) (fun _ => ⟨220, []⟩) (fun x => [(0, (vs a1 n1 c1)), (2, (vi m1)), (14, (vi x))]) (fun x => fun w => ∃ C, Bun C0 F w0 C w [MO.prow cGaffine_pair 69 a1 n1 c1 data1] [] ∧ m_slices_symMergeCmpFunc_affine_pair_w_j7 m1 data1 x = some r) ?_ ?_
    ·clear h hI; rintro i1 w13 ⟨c23, hI, h⟩
     try dsimp only at hI h
     rw [m_slices_symMergeCmpFunc_affine_pair_w_j7] at h
     refine c_sub (e := [(0, (vs a1 n1 c1)), (2, (vi m1)), (14, (vi i1))]) ⟨rfl, rfl, rfl, trivial⟩ ?_
     refine c_seq ?_
     refine sr ?_
     refine sm ?_
     refine sa ?_
     refine nk ?_
     refine c_block ?_
     refine c_loop (α := Nat × Int × (List Gaffine_pair)) (fun x => fun w => ∃ C, Bun C0 F w0 C w [MO.prow cGaffine_pair 69 a1 n1 c1 (x.2.2)] [] ∧ m_slices_symMergeCmpFunc_affine_pair_w_l2 i1 (x.1) (x.2.1) (x.2.2) = some r) (fun x _ => x.1) (fun x => [(0, (vs a1 n1 c1)), (14, (vi i1)), (17, (vi (x.2.1)))]) (fu, m1, data1) ⟨_, hI.arr (.c .z .n) trivial, h⟩ ⟨rfl, rfl, rfl, trivial⟩ ?_
     clear h hI; rintro ⟨fuel2, k1, l3⟩ w14 ⟨c24, hI, h⟩
     dsimp only at hI h
     rcases fuel2 with _ | fuel2
     ·rw [m_slices_symMergeCmpFunc_affine_pair_w_l2] at h; cases h
     rw [m_slices_symMergeCmpFunc_affine_pair_w_l2] at h
     refine c_sub (e := [(0, (vs a1 n1 c1)), (14, (vi i1)), (17, (vi k1))]) ⟨rfl, rfl, rfl, trivial⟩ ?_
     refine c_seq ?_
     refine sr ?_
     refine sm ?_
     refine sm ?_
     refine sq (y_gtr rfl et et) ?_
     refine nk ?_
     refine c_cond (b := decide (i1 < k1)) et (fun hb => ?_) (fun hb => ?_)
     ·replace h := ite_t hb h
      refine c_skip ?_
      refine k_same ?_
      refine c_seq ?_
      refine c_block ?_
      refine c_drawX [15, 17] false (.c (0, .q) (.c (1, .q) (.c (2, .q) (.c (3, .q) (.c (4, .q) (.c (5, .q) (.c (6, .q) (.c (7, .q) (.c (8, .q) (.c (9, .q) (.c (10, .q) (.c (11, .q) (.c (12, .q) (.c (13, .q) (.c (14, .q) (.c (15, .s) (.c (16, .q) (.c (17, .s) .n)))))))))))))))))) hI (by kernel_rfl) (by kernel_rfl) ?_
      clear hI; intro w15 hI
      refine a_q rfl gn rfl (fun w' => (y_move rfl et)) ?_
      refine a_q rfl gn rfl (fun w' => (y_move rfl et)) ?_
      refine a_q rfl gn rfl (fun w' => (y_move rfl et)) ?_
      refine a_q rfl gn rfl (fun w' => (y_move rfl et)) ?_
      refine a_q rfl gn rfl (fun w' => (y_sub rfl et ev_const)) ?_
      refine a_q rfl gn rfl (fun w' => (y_move rfl et)) ?_
      refine a_q rfl gn rfl (fun w' => (y_move rfl et)) ?_
      refine a_q rfl gn rfl (fun w' => (y_sub rfl et ev_const)) ?_
      obtain ⟨e3, hx13, h⟩ := bnd_some h
      obtain ⟨ad3, cs3, hA3, hr3, hq3⟩ := (hI.unpin .z).2.olat .z hx13
      obtain ⟨a7, c25, a8, c26, rfl, hf5, hf6⟩ := hr3
      have hI := hI.add (c := Cl.sl (cInt .i64) a7 c25 e3.p) hf5
      have hI := hI.add (c := Cl.sl (cInt .i64) a8 c26 e3.to_) hf6
      refine a_q rfl gn rfl (fun w' => (y_indexAddr rfl Try.underlying64 size_69 et et (bdn (hI.unpin .z).1 (lat_bd hx13)) hA3)) ?_
      refine a_read rfl gn rfl (fun w' hw' => (y_loadN (l := [(vs a7 e3.p.length c25), (vs a8 e3.to_.length c26)]) rfl et Try.underlying69 rfl size_69 (hq3.at_ (SX.any rfl hw')))) (by kernel_rfl) ?_
      refine a_q rfl gn rfl (fun w' => (y_move rfl et)) ?_
      refine a_q rfl gn rfl (fun w' => (y_move rfl et)) ?_
      obtain ⟨e4, hx14, h⟩ := bnd_some h
      obtain ⟨ad4, cs4, hA4, hr4, hq4⟩ := (hI.unpin .z).2.olat .z hx14
      obtain ⟨a9, c27, a10, c28, rfl, hf7, hf8⟩ := hr4
      have hI := hI.add (c := Cl.sl (cInt .i64) a9 c27 e4.p) hf7
      have hI := hI.add (c := Cl.sl (cInt .i64) a10 c28 e4.to_) hf8
      refine a_q rfl gn rfl (fun w' => (y_indexAddr rfl Try.underlying64 size_69 et et (bdn (hI.unpin .z).1 (lat_bd hx14)) hA4)) ?_
      refine a_read rfl gn rfl (fun w' hw' => (y_loadN (l := [(vs a9 e4.p.length c27), (vs a10 e4.to_.length c28)]) rfl et Try.underlying69 rfl size_69 (hq4.at_ (SX.any rfl hw')))) (by kernel_rfl) ?_
      obtain ⟨ho1, h⟩ := chk_some h
      obtain ⟨ad5, hA5⟩ := (hI.unpin .z).2.addr .z ho1
      refine a_q rfl gn rfl (fun w' => (y_indexAddr rfl Try.underlying64 size_69 et et (bdn (hI.unpin .z).1 ho1) hA5)) ?_
      refine a_turn (F := F) (C := c24) rfl rfl ?_
      obtain ⟨hl5, hP⟩ := hI.unpin .z
      refine la_storeRow (p := Int.toNat k1) (new := [(vs a7 e3.p.length c25), (vs a8 e3.to_.length c26)]) (off := 0) (x' := e3) hP .z rfl gn rfl rfl (by have := ho1; first | omega | (simp only [List.length_set]; omega)) hA5 rfl et et rfl size_69 rfl (by show 0 + 2 ≤ 2; omega) (fun _ cs0 _ hr0 => by rw [spl_full (by have e := Cod.len _ hr0; exact e)]; exact ⟨a7, c25, a8, c26, rfl, hI.get (.s (.s (.s .z))), hI.get (.s (.s .z))⟩) ?_
      clear hI hP; intro c29 w16 hI
      replace hI := hI.pin .z (lset_len hl5)
      obtain ⟨ho2, h⟩ := chk_some h
      obtain ⟨ad6, hA6⟩ := (hI.unpin .z).2.addr .z ho2
      refine a_q rfl gn rfl (fun w' => (y_indexAddr rfl Try.underlying64 size_69 et et (bdn (hI.unpin .z).1 ho2) hA6)) ?_
      obtain ⟨hl6, hP⟩ := hI.unpin .z
      refine la_storeRow (p := Int.toNat (wi64 (k1 - 1))) (new := [(vs a9 e4.p.length c27), (vs a10 e4.to_.length c28)]) (off := 0) (x' := e4) hP .z rfl gn rfl rfl (by have := ho2; first | omega | (simp only [List.length_set]; omega)) hA6 rfl et et rfl size_69 rfl (by show 0 + 2 ≤ 2; omega) (fun _ cs0 _ hr0 => by rw [spl_full (by have e := Cod.len _ hr0; exact e)]; exact ⟨a9, c27, a10, c28, rfl, hI.get (.s .z), hI.get .z⟩) ?_
      clear hI hP; intro c30 w17 hI
      replace hI := hI.pin .z (lset_len hl6)
      refine a_nil ?_
      refine k_same ?_
      refine c_region rfl ?_
      refine sm ?_
      refine sq (y_sub rfl et ev_const) ?_
      refine sa ?_
      refine s_nil ?_
      exact k_loop (fuel2, wi64 (k1 - 1), (l3.set (Int.toNat k1) e3).set (Int.toNat (wi64 (k1 - 1))) e4) ⟨rfl, rfl, rfl, trivial⟩ ⟨_, hI.arr (.c .z .n) trivial, h⟩ (Nat.lt_succ_self _)
     ·replace h := ite_f hb h
      refine c_exit ?_
      refine k_in ?_
      refine k_same ?_
      refine c_ret ?_
      obtain rfl := some_inj h
      exact q_ret (vs := []) Try.results81 trivial ⟨_, rfl, hI.arr (.c .z .n) trivial⟩
    ·skip
     refine c_block ?_
     refine c_loop (α := Nat × Int × Int) (fun x => fun w => ∃ C, Bun C0 F w0 C w [MO.prow cGaffine_pair 69 a1 n1 c1 data1] [clFn_k5 fv1 cmp1] ∧ m_slices_symMergeCmpFunc_affine_pair_w_l3 data1 m1 cmp1 (x.1) (x.2.1) (x.2.2) = some r) (fun x _ => x.1) (fun x => [(0, (vs a1 n1 c1)), (2, (vi m1)), (4, fv1), (14, (vi (x.2.1))), (15, (vi (x.2.2)))]) (fu, a2, m1) ⟨_, hI.arr (.c .z .n) ⟨.z, trivial⟩, h⟩ ⟨rfl, rfl, rfl, rfl, rfl, trivial⟩ ?_
     clear h hI; rintro ⟨fuel3, i2, j1⟩ w18 ⟨c31, hI, h⟩
     dsimp only at hI h
     rcases fuel3 with _ | fuel3
     ·rw [m_slices_symMergeCmpFunc_affine_pair_w_l3] at h; cases h
     rw [m_slices_symMergeCmpFunc_affine_pair_w_l3] at h
     refine c_sub (e := [(0, (vs a1 n1 c1)), (2, (vi m1)), (4, fv1), (14, (vi i2)), (15, (vi j1))]) ⟨rfl, rfl, rfl, rfl, rfl, trivial⟩ ?_
     refine c_seq ?_
     refine sr ?_
     refine sm ?_
     refine sm ?_
     refine sq (y_lss rfl et et) ?_
     refine nk ?_
     refine c_cond (b := decide (i2 < j1)) et (fun hb => ?_) (fun hb => ?_)
     ·replace h := ite_t hb h
      refine c_skip ?_
      refine k_same ?_
      refine c_block ?_
      refine sr ?_
      refine sm ?_
      refine sm ?_
      refine sq (y_add rfl et et) ?_
      refine sq (y_conv rfl (by rw [Try.underlying3]; rfl) Try.underlying112 et) ?_
      refine sq (y_shrc (s := 1) rfl et ev_const (by decide) rfl) ?_
      refine sq (y_conv rfl (by rw [Try.underlying112]; rfl) Try.underlying3 et) ?_
      obtain ⟨h1, hx15, h⟩ := bnd_some h
      refine sq (binU (y_assign rfl et) (congrArg (Value.int .i64) (some_inj hx15))) ?_
      refine nk ?_
      refine c_seq ?_
      refine c_drawX [] false (.c (0, .q) (.c (1, .q) (.c (2, .q) (.c (3, .q) (.c (4, .q) (.c (5, .q) (.c (6, .q) (.c (7, .q) (.c (8, .q) (.c (9, .s) (.c (10, .q) (.c (11, .q) .n)))))))))))) hI (by kernel_rfl) (by kernel_rfl) ?_
      clear hI; intro w19 hI
      refine a_q rfl gn rfl (fun w' => (y_move rfl et)) ?_
      refine a_q rfl gn rfl (fun w' => (y_move rfl et)) ?_
      refine a_q rfl gn rfl (fun w' => (y_move rfl et)) ?_
      obtain ⟨e5, hx16, h⟩ := bnd_some h
      obtain ⟨ad7, cs5, hA7, hr5, hq5⟩ := (hI.unpin .z).2.olat .z hx16
      obtain ⟨a11, c32, a12, c33, rfl, hf9, hf10⟩ := hr5
      have hI := hI.add (c := Cl.sl (cInt .i64) a11 c32 e5.p) hf9
      have hI := hI.add (c := Cl.sl (cInt .i64) a12 c33 e5.to_) hf10
      refine a_q rfl gn rfl (fun w' => (y_indexAddr rfl Try.underlying64 size_69 et et (bdn (hI.unpin .z).1 (lat_bd hx16)) hA7)) ?_
      refine a_read rfl gn rfl (fun w' hw' => (y_loadN (l := [(vs a11 e5.p.length c32), (vs a12 e5.to_.length c33)]) rfl et Try.underlying69 rfl size_69 (hq5.at_ (SX.any rfl hw')))) (by kernel_rfl) ?_
      refine a_q rfl gn rfl (fun w' => (y_move rfl et)) ?_
      refine a_q rfl gn rfl (fun w' => (y_move rfl et)) ?_
      obtain ⟨e6, hx17, h⟩ := bnd_some h
      obtain ⟨ad8, cs6, hA8, hr6, hq6⟩ := (hI.unpin .z).2.olat .z hx17
      obtain ⟨a13, c34, a14, c35, rfl, hf11, hf12⟩ := hr6
      have hI := hI.add (c := Cl.sl (cInt .i64) a13 c34 e6.p) hf11
      have hI := hI.add (c := Cl.sl (cInt .i64) a14 c35 e6.to_) hf12
      refine a_q rfl gn rfl (fun w' => (y_indexAddr rfl Try.underlying64 size_69 et et (bdn (hI.unpin .z).1 (lat_bd hx17)) hA8)) ?_
      refine a_read rfl gn rfl (fun w' hw' => (y_loadN (l := [(vs a13 e6.p.length c34), (vs a14 e6.to_.length c35)]) rfl et Try.underlying69 rfl size_69 (hq6.at_ (SX.any rfl hw')))) (by kernel_rfl) ?_
      obtain ⟨r7, hx18, h⟩ := bnd_some h
      refine la_callV (args := [(Value.agg #[(vs a11 e5.p.length c32), (vs a12 e5.to_.length c33)]), (Value.agg #[(vs a13 e6.p.length c34), (vs a14 e6.to_.length c35)])]) rfl gn rfl rfl et ⟨et, ⟨et, trivial⟩⟩ (CallV.mono ((hI.get (.s (.s (.s (.s .z))))).2 (Dj F c31) w19 (Sp.of_ext .rfl') hI.lt e5 e6 a11 c32 a12 c33 a13 c34 a14 c35 r7 ⟨(hI.get (.s (.s (.s .z)))), (hI.get (.s (.s .z))), (hI.get (.s .z)), (hI.get .z), trivial⟩ hx18) ?_)
      rintro _ w20 ⟨rfl, hx19, hl7⟩
      refine ⟨_, rfl, _, Sp.of_ext hx19, ?_⟩
      replace hI := (hI.ext hx19)
      refine a_q rfl gn rfl (fun w' => (y_lss rfl et ev_const)) ?_
      refine a_q rfl gn rfl (fun w' => (y_not rfl et)) ?_
      refine a_nil ?_
      refine k_same ?_
      refine c_cond (b := !(decide (r7 < 0))) et (fun hb => ?_) (fun hb => ?_)
      ·replace h := ite_t hb h
       refine c_region rfl ?_
       refine sm ?_
       refine sq (y_add rfl et ev_const) ?_
       refine sa ?_
       refine s_nil ?_
       exact k_loop (fuel3, wi64 (h1 + 1), j1) ⟨rfl, rfl, rfl, rfl, rfl, trivial⟩ ⟨_, hI.arr (.c .z .n) ⟨(.s (.s (.s (.s .z)))), trivial⟩, h⟩ (Nat.lt_succ_self _)
      ·replace h := ite_f hb h
       refine c_region rfl ?_
       refine sm ?_
       refine sa ?_
       refine s_nil ?_
       exact k_loop (fuel3, i2, h1) ⟨rfl, rfl, rfl, rfl, rfl, trivial⟩ ⟨_, hI.arr (.c .z .n) ⟨(.s (.s (.s (.s .z)))), trivial⟩, h⟩ (Nat.lt_succ_self _)
     ·replace h := ite_f hb h
      refine c_exit ?_
      refine k_in ?_
      exact k_join i2 ⟨rfl, rfl, rfl, trivial⟩ ⟨_, hI.arr (.c .z .n) trivial, h⟩ rfl
   ·replace h := ite_f hb h
    refine c_skip ?_
    exact k_join () ⟨rfl, rfl, rfl, rfl, rfl, trivial⟩ ⟨_, hI.arr (.c .z .n) ⟨.z, trivial⟩, h⟩ rfl
 ·skip
  refine sr ?_
  refine sm ?_
  refine sm ?_
  refine sq (y_sub rfl et et) ?_
  refine sq (y_eql rfl et ev_const) ?_
  refine nk ?_
  refine c_cond (b := decide (wi64 (m1 - a2) = 1)) et (fun hb => ?_) (fun hb => ?_)
  ·replace h := ite_t hb h
   refine sr ?_
   refine sm ?_
   refine sa ?_
   refine nk ?_
   refine sr ?_
   refine sm ?_
   refine sa ?_
   refine nk ?_
   refine c_join (α := Int) (fun _ => ⟨220, []⟩) (fun x => [(0, (vs a1 n1 c1)), (1, (vi a2)), (10, (vi x))]) (fun x => fun w => ∃ C, Bun C0 F w0 C w [MO.prow cGaffine_pair 69 a1 n1 c1 data1] [] ∧ m_slices_symMergeCmpFunc_affine_pair_w_j8 a2 data1 x = some r) ?_ ?_
   ·clear h hI; rintro i3 w21 ⟨c36, hI, h⟩
    try dsimp only at hI h
    rw [m_slices_symMergeCmpFunc_affine_pair_w_j8] at h
    refine c_sub (e := [(0, (vs a1 n1 c1)), (1, (vi a2)), (10, (vi i3))]) ⟨rfl, rfl, rfl, trivial⟩ ?_
    refine c_seq ?_
    refine sr ?_
    refine sm ?_
    refine sa ?_
    refine nk ?_
    refine c_block ?_
    refine c_loop (α := Nat × Int × (List Gaffine_pair)) (fun x => fun w => ∃ C, Bun C0 F w0 C w [MO.prow cGaffine_pair 69 a1 n1 c1 (x.2.2)] [] ∧ m_slices_symMergeCmpFunc_affine_pair_w_l4 i3 (x.1) (x.2.1) (x.2.2) = some r) (fun x _ => x.1) (fun x => [(0, (vs a1 n1 c1)), (10, (vi i3)), (13, (vi (x.2.1)))]) (fu, a2, data1) ⟨_, hI.arr (.c .z .n) trivial, h⟩ ⟨rfl, rfl, rfl, trivial⟩ ?_
    clear h hI; rintro ⟨fuel4, k2, l4⟩ w22 ⟨c37, hI, h⟩
    dsimp only at hI h
    rcases fuel4 with _ | fuel4
    ·rw [m_slices_symMergeCmpFunc_affine_pair_w_l4] at h; cases h
    rw [m_slices_symMergeCmpFunc_affine_pair_w_l4] at h
    refine c_sub (e := [(0, (vs a1 n1 c1)), (10, (vi i3)), (13, (vi k2))]) ⟨rfl, rfl, rfl, trivial⟩ ?_
    refine c_seq ?_
    refine sr ?_
    refine sm ?_
    refine sm ?_
    refine sq (y_sub rfl et ev_const) ?_
    refine sq (y_lss rfl et et) ?_
    refine nk ?_
    refine c_cond (b := decide (k2 < wi64 (i3 - 1))) et (fun hb => ?_) (fun hb => ?_)
    ·replace h := ite_t hb h
     refine c_skip ?_
     refine k_same ?_
     refine c_seq ?_
     refine c_block ?_
     refine c_drawX [15, 17] false (.c (0, .q) (.c (1, .q) (.c (2, .q) (.c (3, .q) (.c (4, .q) (.c (5, .q) (.c (6, .q) (.c (7, .q) (.c (8, .q) (.c (9, .q) (.c (10, .q) (.c (11, .q) (.c (12, .q) (.c (13, .q) (.c (14, .q) (.c (15, .s) (.c (16, .q) (.c (17, .s) .n)))))))))))))))))) hI (by kernel_rfl) (by kernel_rfl) ?_
     clear hI; intro w23 hI
     refine a_q rfl gn rfl (fun w' => (y_move rfl et)) ?_
     refine a_q rfl gn rfl (fun w' => (y_move rfl et)) ?_
     refine a_q rfl gn rfl (fun w' => (y_move rfl et)) ?_
     refine a_q rfl gn rfl (fun w' => (y_move rfl et)) ?_
     refine a_q rfl gn rfl (fun w' => (y_add rfl et ev_const)) ?_
     refine a_q rfl gn rfl (fun w' => (y_move rfl et)) ?_
     refine a_q rfl gn rfl (fun w' => (y_move rfl et)) ?_
     refine a_q rfl gn rfl (fun w' => (y_add rfl et ev_const)) ?_
     obtain ⟨e7, hx20, h⟩ := bnd_some h
     obtain ⟨ad9, cs7, hA9, hr7, hq7⟩ := (hI.unpin .z).2.olat .z hx20
     obtain ⟨a15, c38, a16, c39, rfl, hf13, hf14⟩ := hr7
     have hI := hI.add (c := Cl.sl (cInt .i64) a15 c38 e7.p) hf13
     have hI := hI.add (c := Cl.sl (cInt .i64) a16 c39 e7.to_) hf14
     refine a_q rfl gn rfl (fun w' => (y_indexAddr rfl Try.underlying64 size_69 et et (bdn (hI.unpin .z).1 (lat_bd hx20)) hA9)) ?_
     refine a_read rfl gn rfl (fun w' hw' => (y_loadN (l := [(vs a15 e7.p.length c38), (vs a16 e7.to_.length c39)]) rfl et Try.underlying69 rfl size_69 (hq7.at_ (SX.any rfl hw')))) (by kernel_rfl) ?_
     refine a_q rfl gn rfl (fun w' => (y_move rfl et)) ?_
     refine a_q rfl gn rfl (fun w' => (y_move rfl et)) ?_
     obtain ⟨e8, hx21, h⟩ := bnd_some h
     obtain ⟨ad10, cs8, hA10, hr8, hq8⟩ := (hI.unpin .z).2.olat .z hx21
     obtain ⟨a17, c40, a18, c41, rfl, hf15, hf16⟩ := hr8
     have hI := hI.add (c := Cl.sl (cInt .i64) a17 c40 e8.p) hf15
     have hI := hI.add (c := Cl.sl (cInt .i64) a18 c41 e8.to_) hf16
     refine a_q rfl gn rfl (fun w' => (y_indexAddr rfl Try.underlying64 size_69 et et (bdn (hI.unpin .z).1 (lat_bd hx21)) hA10)) ?_
     refine a_read rfl gn rfl (fun w' hw' => (y_loadN (l := [(vs a17 e8.p.length c40), (vs a18 e8.to_.length c41)]) rfl et Try.underlying69 rfl size_69 (hq8.at_ (SX.any rfl hw')))) (by kernel_rfl) ?_
     obtain ⟨ho3, h⟩ := chk_some h
     obtain ⟨ad11, hA11⟩ := (hI.unpin .z).2.addr .z ho3
     refine a_q rfl gn rfl (fun w' => (y_indexAddr rfl Try.underlying64 size_69 et et (bdn (hI.unpin .z).1 ho3) hA11)) ?_
     refine a_turn (F := F) (C := c37) rfl rfl ?_
     obtain ⟨hl8, hP⟩ := hI.unpin .z
     refine la_storeRow (p := Int.toNat k2) (new := [(vs a15 e7.p.length c38), (vs a16 e7.to_.length c39)]) (off := 0) (x' := e7) hP .z rfl gn rfl rfl (by have := ho3; first | omega | (simp only [List.length_set]; omega)) hA11 rfl et et rfl size_69 rfl (by show 0 + 2 ≤ 2; omega) (fun _ cs0 _ hr0 => by rw [spl_full (by have e := Cod.len _ hr0; exact e)]; exact ⟨a15, c38, a16, c39, rfl, hI.get (.s (.s (.s .z))), hI.get (.s (.s .z))⟩) ?_
     clear hI hP; intro c42 w24 hI
     replace hI := hI.pin .z (lset_len hl8)
     obtain ⟨ho4, h⟩ := chk_some h
     obtain ⟨ad12, hA12⟩ := (hI.unpin .z).2.addr .z ho4
     refine a_q rfl gn rfl (fun w' => (y_indexAddr rfl Try.underlying64 size_69 et et (bdn (hI.unpin .z).1 ho4) hA12)) ?_
     obtain ⟨hl9, hP⟩ := hI.unpin .z
     refine la_storeRow (p := Int.toNat (wi64 (k2 + 1))) (new := [(vs a17 e8.p.length c40), (vs a18 e8.to_.length c41)]) (off := 0) (x' := e8) hP .z rfl gn rfl rfl (by have := ho4; first | omega | (simp only [List.length_set]; omega)) hA12 rfl et et rfl size_69 rfl (by show 0 + 2 ≤ 2; omega) (fun _ cs0 _ hr0 => by rw [spl_full (by have e := Cod.len _ hr0; exact e)]; exact ⟨a17, c40, a18, c41, rfl, hI.get (.s .z), hI.get .z⟩) ?_
     clear hI hP; intro c43 w25 hI
     replace hI := hI.pin .z (lset_len hl9)
     refine a_nil ?_
     refine k_same ?_
     refine c_region rfl ?_
     refine sm ?_
     refine sq (y_add rfl et ev_const) ?_
     refine sa ?_
     refine s_nil ?_
     exact k_loop (fuel4, wi64 (k2 + 1), (l4.set (Int.toNat k2) e7).set (Int.toNat (wi64 (k2 + 1))) e8) ⟨rfl, rfl, rfl, trivial⟩ ⟨_, hI.arr (.c .z .n) trivial, h⟩ (Nat.lt_succ_self _)
    ·replace h := ite_f hb h
     refine c_exit ?_
     refine k_in ?_
     refine k_same ?_
     refine c_ret ?_
     obtain rfl := some_inj h
     exact q_ret (vs := []) Try.results81 trivial ⟨_, rfl, hI.arr (.c .z .n) trivial⟩
   ·skip
    refine c_block ?_
    refine c_loop (α := Nat × Int × Int) (fun x => fun w => ∃ C, Bun C0 F w0 C w [MO.prow cGaffine_pair 69 a1 n1 c1 data1] [clFn_k5 fv1 cmp1] ∧ m_slices_symMergeCmpFunc_affine_pair_w_l5 data1 a2 cmp1 (x.1) (x.2.1) (x.2.2) = some r) (fun x _ => x.1) (fun x => [(0, (vs a1 n1 c1)), (1, (vi a2)), (4, fv1), (10, (vi (x.2.1))), (11, (vi (x.2.2)))]) (fu, m1, b1) ⟨_, hI.arr (.c .z .n) ⟨.z, trivial⟩, h⟩ ⟨rfl, rfl, rfl, rfl, rfl, trivial⟩ ?_
    clear h hI; rintro ⟨fuel5, i4, j2⟩ w26 ⟨c44, hI, h⟩
    dsimp only at hI h
    rcases fuel5 with _ | fuel5
    ·rw [m_slices_symMergeCmpFunc_affine_pair_w_l5] at h; cases h
    rw [m_slices_symMergeCmpFunc_affine_pair_w_l5] at h
    refine c_sub (e := [(0, (vs a1 n1 c1)), (1, (vi a2)), (4, fv1), (10, (vi i4)), (11, (vi j2))]) ⟨rfl, rfl, rfl, rfl, rfl, trivial⟩ ?_
    refine c_seq ?_
    refine sr ?_
    refine sm ?_
    refine sm ?_
    refine sq (y_lss rfl et et) ?_
    refine nk ?_
    refine c_cond (b := decide (i4 < j2)) et (fun hb => ?_) (fun hb => ?_)
    ·replace h := ite_t hb h
     refine c_skip ?_
     refine k_same ?_
     refine c_block ?_
     refine sr ?_
     refine sm ?_
     refine sm ?_
     refine sq (y_add rfl et et) ?_
     refine sq (y_conv rfl (by rw [Try.underlying3]; rfl) Try.underlying112 et) ?_
     refine sq (y_shrc (s := 1) rfl et ev_const (by decide) rfl) ?_
     refine sq (y_conv rfl (by rw [Try.underlying112]; rfl) Try.underlying3 et) ?_
     obtain ⟨h2, hx22, h⟩ := bnd_some h
     refine sq (binU (y_assign rfl et) (congrArg (Value.int .i64) (some_inj hx22))) ?_
     refine nk ?_
     refine c_seq ?_
     refine c_drawX [] false (.c (0, .q) (.c (1, .q) (.c (2, .q) (.c (3, .q) (.c (4, .q) (.c (5, .q) (.c (6, .q) (.c (7, .q) (.c (8, .q) (.c (9, .s) (.c (10, .q) .n))))))))))) hI (by kernel_rfl) (by kernel_rfl) ?_
     clear hI; intro w27 hI
     refine a_q rfl gn rfl (fun w' => (y_move rfl et)) ?_
     refine a_q rfl gn rfl (fun w' => (y_move rfl et)) ?_
     refine a_q rfl gn rfl (fun w' => (y_move rfl et)) ?_
     obtain ⟨e9, hx23, h⟩ := bnd_some h
     obtain ⟨ad13, cs9, hA13, hr9, hq9⟩ := (hI.unpin .z).2.olat .z hx23
     obtain ⟨a19, c45, a20, c46, rfl, hf17, hf18⟩ := hr9
     have hI := hI.add (c := Cl.sl (cInt .i64) a19 c45 e9.p) hf17
     have hI := hI.add (c := Cl.sl (cInt .i64) a20 c46 e9.to_) hf18
     refine a_q rfl gn rfl (fun w' => (y_indexAddr rfl Try.underlying64 size_69 et et (bdn (hI.unpin .z).1 (lat_bd hx23)) hA13)) ?_
     refine a_read rfl gn rfl (fun w' hw' => (y_loadN (l := [(vs a19 e9.p.length c45), (vs a20 e9.to_.length c46)]) rfl et Try.underlying69 rfl size_69 (hq9.at_ (SX.any rfl hw')))) (by kernel_rfl) ?_
     refine a_q rfl gn rfl (fun w' => (y_move rfl et)) ?_
     refine a_q rfl gn rfl (fun w' => (y_move rfl et)) ?_
     obtain ⟨e10, hx24, h⟩ := bnd_some h
     obtain ⟨ad14, cs10, hA14, hr10, hq10⟩ := (hI.unpin .z).2.olat .z hx24
     obtain ⟨a21, c47, a22, c48, rfl, hf19, hf20⟩ := hr10
     have hI := hI.add (c := Cl.sl (cInt .i64) a21 c47 e10.p) hf19
     have hI := hI.add (c := Cl.sl (cInt .i64) a22 c48 e10.to_) hf20
     refine a_q rfl gn rfl (fun w' => (y_indexAddr rfl Try.underlying64 size_69 et et (bdn (hI.unpin .z).1 (lat_bd hx24)) hA14)) ?_
     refine a_read rfl gn rfl (fun w' hw' => (y_loadN (l := [(vs a21 e10.p.length c47), (vs a22 e10.to_.length c48)]) rfl et Try.underlying69 rfl size_69 (hq10.at_ (SX.any rfl hw')))) (by kernel_rfl) ?_
     obtain ⟨r8, hx25, h⟩ := bnd_some h
     refine la_callV (args := [(Value.agg #[(vs a19 e9.p.length c45), (vs a20 e9.to_.length c46)]), (Value.agg #[(vs a21 e10.p.length c47), (vs a22 e10.to_.length c48)])]) rfl gn rfl rfl et ⟨et, ⟨et, trivial⟩⟩ (CallV.mono ((hI.get (.s (.s (.s (.s .z))))).2 (Dj F c44) w27 (Sp.of_ext .rfl') hI.lt e9 e10 a19 c45 a20 c46 a21 c47 a22 c48 r8 ⟨(hI.get (.s (.s (.s .z)))), (hI.get (.s (.s .z))), (hI.get (.s .z)), (hI.get .z), trivial⟩ hx25) ?_)
     rintro _ w28 ⟨rfl, hx26, hl10⟩
     refine ⟨_, rfl, _, Sp.of_ext hx26, ?_⟩
     replace hI := (hI.ext hx26)
     refine a_q rfl gn rfl (fun w' => (y_lss rfl et ev_const)) ?_
     refine a_nil ?_
     refine k_same ?_
     refine c_cond (b := decide (r8 < 0)) et (fun hb => ?_) (fun hb => ?_)
     ·replace h := ite_t hb h
      refine c_region rfl ?_
      refine sm ?_
      refine sq (y_add rfl et ev_const) ?_
      refine sa ?_
      refine s_nil ?_
      exact k_loop (fuel5, wi64 (h2 + 1), j2) ⟨rfl, rfl, rfl, rfl, rfl, trivial⟩ ⟨_, hI.arr (.c .z .n) ⟨(.s (.s (.s (.s .z)))), trivial⟩, h⟩ (Nat.lt_succ_self _)
     ·replace h := ite_f hb h
      refine c_region rfl ?_
      refine sm ?_
      refine sa ?_
      refine s_nil ?_
      exact k_loop (fuel5, i4, h2) ⟨rfl, rfl, rfl, rfl, rfl, trivial⟩ ⟨_, hI.arr (.c .z .n) ⟨(.s (.s (.s (.s .z)))), trivial⟩, h⟩ (Nat.lt_succ_self _)
    ·replace h := ite_f hb h
     refine c_exit ?_
     refine k_in ?_
     exact k_join i4 ⟨rfl, rfl, rfl, trivial⟩ ⟨_, hI.arr (.c .z .n) trivial, h⟩ rfl
  ·replace h := ite_f hb h
   refine c_skip ?_
   exact k_join () ⟨rfl, rfl, rfl, rfl, rfl, trivial⟩ ⟨_, hI.arr (.c .z .n) ⟨.z, trivial⟩, h⟩ rfl
theorem c_slices_symMergeCmpFunc_affine_pair_w_r (n : Nat) : ∀ (C0 F : NP) (w0 : World) (data1 : List Gaffine_pair) (a2 : Int) (m1 : Int) (b1 : Int) (cmp1 : (Gaffine_pair → Gaffine_pair → Option Int)) (a1 : Option Addr) (n1 : Nat) (c1 : Nat) (fv1 : Value) (hI : Bun C0 F w0 C0 w0 [MO.prow cGaffine_pair 69 a1 n1 c1 data1] [clFn_k5 fv1 cmp1]) (r : Unit × List Gaffine_pair) (h : m_slices_symMergeCmpFunc_affine_pair_w_r n data1 a2 m1 b1 cmp1 = some r), Calls Try.prog 81 #[(vs a1 n1 c1), (vi a2), (vi m1), (vi b1), fv1] w0 fun e w => ∃ (C : NP), e = .returned (Value.tuple #[]) ∧ Bun C0 F w0 C w [MO.prow cGaffine_pair 69 a1 n1 c1 r.2] [] := by
 induction n with
 | zero => intro C0 F w0 data1 a2 m1 b1 cmp1 a1 n1 c1 fv1 hI r h; cases h
 | succ n ih => intro C0 F w0 data1 a2 m1 b1 cmp1 a1 n1 c1 fv1 hI r h; exact c_slices_symMergeCmpFunc_affine_pair_w_b (m_slices_symMergeCmpFunc_affine_pair_w_r n) ih C0 F w0 data1 a2 m1 b1 cmp1 a1 n1 c1 fv1 hI r h
theorem c_slices_symMergeCmpFunc_affine_pair_w (C0 F : NP) (w0 : World) (data1 : List Gaffine_pair) (a2 : Int) (m1 : Int) (b1 : Int) (cmp1 : (Gaffine_pair → Gaffine_pair → Option Int)) (a1 : Option Addr) (n1 : Nat) (c1 : Nat) (fv1 : Value) (hI : Bun C0 F w0 C0 w0 [MO.prow cGaffine_pair 69 a1 n1 c1 data1] [clFn_k5 fv1 cmp1]) (r : Unit × List Gaffine_pair) (h : m_slices_symMergeCmpFunc_affine_pair_w data1 a2 m1 b1 cmp1 = some r) : Calls Try.prog 81 #[(vs a1 n1 c1), (vi a2), (vi m1), (vi b1), fv1] w0 fun e w => ∃ (C : NP), e = .returned (Value.tuple #[]) ∧ Bun C0 F w0 C w [MO.prow cGaffine_pair 69 a1 n1 c1 r.2] [] := c_slices_symMergeCmpFunc_affine_pair_w_r fu C0 F w0 data1 a2 m1 b1 cmp1 a1 n1 c1 fv1 hI r h
set_option maxRecDepth 100000 in
set_option maxHeartbeats 4000000 in
theorem c_slices_stableCmpFunc_affine_pair_w (C0 F : NP) (w0 : World) (data1 : List Gaffine_pair) (n2 : Int) (cmp1 : (Gaffine_pair → Gaffine_pair → Option Int)) (a1 : Option Addr) (n1 : Nat) (c1 : Nat) (fv1 : Value) (hI : Bun C0 F w0 C0 w0 [MO.prow cGaffine_pair 69 a1 n1 c1 data1] [clFn_k5 fv1 cmp1]) (r : Unit × List Gaffine_pair)
  (h : m_slices_stableCmpFunc_affine_pair_w data1 n2 cmp1 = some r) :
  Calls Try.prog 75 #[(vs a1 n1 c1), (vi n2), fv1] w0 fun e w => ∃ (C : NP), e = .returned (Value.tuple #[]) ∧ Bun C0 F w0 C w [MO.prow cGaffine_pair 69 a1 n1 c1 r.2] [] := by
 refine enterK (l := [(vs a1 n1 c1), (vi n2), fv1]) Try.func75 rfl Try.ntmps75 rfl ?_
 rw [m_slices_stableCmpFunc_affine_pair_w] at h
 refine sr ?_
 refine sac ?_
 refine nk ?_
 refine sr ?_
 refine sm ?_
 refine sac ?_
 refine sa ?_
 refine nk ?_
 refine c_join (α := Int × (List Gaffine_pair)) (fun _ => ⟨63, []⟩) (fun x => [(0, (vs a1 n1 c1)), (1, (vi n2)), (2, fv1), (6, (vi 20)), (7, (vi (x.1)))]) (fun x => fun w => ∃ C, Bun C0 F w0 C w [MO.prow cGaffine_pair 69 a1 n1 c1 (x.2)] [clFn_k5 fv1 cmp1] ∧ m_slices_stableCmpFunc_affine_pair_w_j1 n2 cmp1 (x.1) (x.2) = some r) ?_ ?_
 ·clear h hI; rintro ⟨a2, l1⟩ w1 ⟨c2, hI, h⟩
  try dsimp only at hI h
  rw [m_slices_stableCmpFunc_affine_pair_w_j1] at h
  refine c_sub (e := [(0, (vs a1 n1 c1)), (1, (vi n2)), (2, fv1), (6, (vi 20)), (7, (vi a2))]) ⟨rfl, rfl, rfl, rfl, rfl, trivial⟩ ?_
  refine sr ?_
  refine sm ?_
  refine sm ?_
  refine sm ?_
  refine sm ?_
  obtain ⟨c3, f1, hB, hl1, hk1⟩ := hI.hands (.l .n)
  obtain ⟨⟨r1, s1⟩, hx1, h⟩ := bnd_some h
  try dsimp only at h
  refine s_call gn rfl (r_callF (vs := [(vs a1 n1 c1), (vi a2), (vi n2), fv1]) rfl ok_80 ⟨et, ⟨et, ⟨et, ⟨et, trivial⟩⟩⟩⟩) (Calls.mono (c_slices_insertionSortCmpFunc_affine_pair_w c3 f1 w1 l1 a2 n2 cmp1 a1 n1 c1 fv1 (hB.subs ⟨.z, trivial⟩) _ hx1) ?_)
  rintro _ w2 ⟨c4, rfl, hB2⟩
  obtain ⟨c5, hs1, hI⟩ := hk1 _ _ _ _ hB2
  replace hI : Bun C0 F w0 c5 w2 [MO.prow cGaffine_pair 69 a1 n1 c1 s1] [clFn_k5 fv1 cmp1] := hI
  refine ⟨_, rfl, ?_⟩
  refine nk ?_
  refine c_block ?_
  refine c_loop (α := Nat × Int × (List Gaffine_pair)) (fun x => fun w => ∃ C, Bun C0 F w0 C w [MO.prow cGaffine_pair 69 a1 n1 c1 (x.2.2)] [clFn_k5 fv1 cmp1] ∧ m_slices_stableCmpFunc_affine_pair_w_l1 n2 cmp1 (x.1) (x.2.1) (x.2.2) = some r) (fun x _ => x.1) (fun x => [(0, (vs a1 n1 c1)), (1, (vi n2)), (2, fv1), (6, (vi (x.2.1)))]) (fu, 20, s1) ⟨_, hI.arr (.c .z .n) ⟨.z, trivial⟩, h⟩ ⟨rfl, rfl, rfl, rfl, trivial⟩ ?_
  clear h hI; rintro ⟨fuel1, blockSize1, l2⟩ w3 ⟨c6, hI, h⟩
  dsimp only at hI h
  rcases fuel1 with _ | fuel1
  ·rw [m_slices_stableCmpFunc_affine_pair_w_l1] at h; cases h
  rw [m_slices_stableCmpFunc_affine_pair_w_l1] at h
  refine c_sub (e := [(0, (vs a1 n1 c1)), (1, (vi n2)), (2, fv1), (6, (vi blockSize1))]) ⟨rfl, rfl, rfl, rfl, trivial⟩ ?_
  refine c_seq ?_
  refine sr ?_
  refine sm ?_
  refine sm ?_
  refine sq (y_lss rfl et et) ?_
  refine nk ?_
  refine c_cond (b := decide (blockSize1 < n2)) et (fun hb => ?_) (fun hb => ?_)
  ·replace h := ite_t hb h
   refine c_skip ?_
   refine k_same ?_
   refine c_block ?_
   refine sr ?_
   refine sm ?_
   refine sq (y_mul rfl ev_const et) ?_
   refine sac ?_
   refine sa ?_
   refine nk ?_
   refine c_join (α := Int × (List Gaffine_pair)) (fun _ => ⟨63, []⟩) (fun x => [(0, (vs a1 n1 c1)), (1, (vi n2)), (2, fv1), (6, (vi blockSize1)), (7, (vi (x.1)))]) (fun x => fun w => ∃ C, Bun C0 F w0 C w [MO.prow cGaffine_pair 69 a1 n1 c1 (x.2)] [clFn_k5 fv1 cmp1] ∧ m_slices_stableCmpFunc_affine_pair_w_j2 blockSize1 n2 cmp1 (m_slices_stableCmpFunc_affine_pair_w_l1 n2 cmp1 fuel1) (x.1) (x.2) = some r) ?_ ?_
   ·clear h hI; rintro ⟨a3, l3⟩ w4 ⟨c7, hI, h⟩
    try dsimp only at hI h
    rw [m_slices_stableCmpFunc_affine_pair_w_j2] at h
    refine c_sub (e := [(0, (vs a1 n1 c1)), (1, (vi n2)), (2, fv1), (6, (vi blockSize1)), (7, (vi a3))]) ⟨rfl, rfl, rfl, rfl, rfl, trivial⟩ ?_
    refine c_join (α := (List Gaffine_pair)) (fun _ => ⟨63, []⟩) (fun x => [(0, (vs a1 n1 c1)), (1, (vi n2)), (2, fv1), (6, (vi blockSize1))]) (fun x => fun w => ∃ C, Bun C0 F w0 C w [MO.prow cGaffine_pair 69 a1 n1 c1 x] [clFn_k5 fv1 cmp1] ∧ m_slices_stableCmpFunc_affine_pair_w_j3 (m_slices_stableCmpFunc_affine_pair_w_l1 n2 cmp1 fuel1) blockSize1 x = some r) ?_ ?_
    ·clear h hI; rintro l4 w5 ⟨c8, hI, h⟩
     try dsimp only at hI h
     rw [m_slices_stableCmpFunc_affine_pair_w_j3] at h
     refine c_sub (e := [(0, (vs a1 n1 c1)), (1, (vi n2)), (2, fv1), (6, (vi blockSize1))]) ⟨rfl, rfl, rfl, rfl, trivial⟩ ?_
     refine c_region rfl ?_
     refine sm ?_
     refine sq (y_mul rfl et ev_const) ?_
     refine sa ?_
     refine s_nil ?_
     exact k_loop (fuel1, wi64 (blockSize1 * 2), l4) ⟨rfl, rfl, rfl, rfl, trivial⟩ ⟨_, hI.arr (.c .z .n) ⟨.z, trivial⟩, h⟩ (Nat.lt_succ_self _)
    ·skip
     refine sr ?_
     refine sm ?_
     refine sm ?_
     refine sq (y_add rfl et et) ?_
     refine sa ?_
     refine nk ?_
     refine sr ?_
     refine sm ?_
     refine sm ?_
     refine sq (y_lss rfl et et) ?_
     refine nk ?_
     refine c_cond (b := decide (wi64 (a3 + blockSize1) < n2)) et (fun hb => ?_) (fun hb => ?_)
     ·replace h := ite_t hb h
      refine c_region rfl ?_
      refine sm ?_
      refine sm ?_
      refine sm ?_
      refine sm ?_
      refine sm ?_
      obtain ⟨c9, f2, hB, hl2, hk2⟩ := hI.hands (.l .n)
      obtain ⟨⟨r2, s2⟩, hx2, h⟩ := bnd_some h
      try dsimp only at h
      refine s_call gn rfl (r_callF (vs := [(vs a1 n1 c1), (vi a3), (vi (wi64 (a3 + blockSize1))), (vi n2), fv1]) rfl ok_81 ⟨et, ⟨et, ⟨et, ⟨et, ⟨et, trivial⟩⟩⟩⟩⟩) (Calls.mono (c_slices_symMergeCmpFunc_affine_pair_w c9 f2 w4 l3 a3 (wi64 (a3 + blockSize1)) n2 cmp1 a1 n1 c1 fv1 (hB.subs ⟨.z, trivial⟩) _ hx2) ?_)
      rintro _ w6 ⟨c10, rfl, hB2⟩
      obtain ⟨c11, hs2, hI⟩ := hk2 _ _ _ _ hB2
      replace hI : Bun C0 F w0 c11 w6 [MO.prow cGaffine_pair 69 a1 n1 c1 s2] [clFn_k5 fv1 cmp1] := hI
      refine ⟨_, rfl, ?_⟩
      refine s_nil ?_
      exact k_join s2 ⟨rfl, rfl, rfl, rfl, trivial⟩ ⟨_, hI.arr (.c .z .n) ⟨.z, trivial⟩, h⟩ rfl
     ·replace h := ite_f hb h
      refine c_skip ?_
      exact k_join l3 ⟨rfl, rfl, rfl, rfl, trivial⟩ ⟨_, hI.arr (.c .z .n) ⟨.z, trivial⟩, h⟩ rfl
   ·skip
    refine c_block ?_
    refine c_loop (α := Nat × Int × Int × (List Gaffine_pair)) (fun x => fun w => ∃ C, Bun C0 F w0 C w [MO.prow cGaffine_pair 69 a1 n1 c1 (x.2.2.2)] [clFn_k5 fv1 cmp1] ∧ m_slices_stableCmpFunc_affine_pair_w_l2 n2 blockSize1 cmp1 (m_slices_stableCmpFunc_affine_pair_w_l1 n2 cmp1 fuel1) (x.1) (x.2.1) (x.2.2.1) (x.2.2.2) = some r) (fun x _ => x.1) (fun x => [(0, (vs a1 n1 c1)), (1, (vi n2)), (2, fv1), (6, (vi blockSize1)), (7, (vi (x.2.1))), (8, (vi (x.2.2.1)))]) (fu, 0, wi64 (2 * blockSize1), l2) ⟨_, hI.arr (.c .z .n) ⟨.z, trivial⟩, h⟩ ⟨rfl, rfl, rfl, rfl, rfl, rfl, trivial⟩ ?_
    clear h hI; rintro ⟨fuel2, a4, b1, l5⟩ w7 ⟨c12, hI, h⟩
    dsimp only at hI h
    rcases fuel2 with _ | fuel2
    ·rw [m_slices_stableCmpFunc_affine_pair_w_l2] at h; cases h
    rw [m_slices_stableCmpFunc_affine_pair_w_l2] at h
    refine c_sub (e := [(0, (vs a1 n1 c1)), (1, (vi n2)), (2, fv1), (6, (vi blockSize1)), (7, (vi a4)), (8, (vi b1))]) ⟨rfl, rfl, rfl, rfl, rfl, rfl, trivial⟩ ?_
    refine c_seq ?_
    refine sr ?_
    refine sm ?_
    refine sm ?_
    refine sq (y_leq rfl et et) ?_
    refine nk ?_
    refine c_cond (b := decide (b1 ≤ n2)) et (fun hb => ?_) (fun hb => ?_)
    ·replace h := ite_t hb h
     refine c_skip ?_
     refine k_same ?_
     refine c_block ?_
     refine sr ?_
     refine sm ?_
     refine sm ?_
     refine sm ?_
     refine sm ?_
     refine sq (y_add rfl et et) ?_
     refine sm ?_
     refine sm ?_
     obtain ⟨c13, f3, hB, hl3, hk3⟩ := hI.hands (.l .n)
     obtain ⟨⟨r3, s3⟩, hx3, h⟩ := bnd_some h
     try dsimp only at h
     refine s_call gn rfl (r_callF (vs := [(vs a1 n1 c1), (vi a4), (vi (wi64 (a4 + blockSize1))), (vi b1), fv1]) rfl ok_81 ⟨et, ⟨et, ⟨et, ⟨et, ⟨et, trivial⟩⟩⟩⟩⟩) (Calls.mono (c_slices_symMergeCmpFunc_affine_pair_w c13 f3 w7 l5 a4 (wi64 (a4 + blockSize1)) b1 cmp1 a1 n1 c1 fv1 (hB.subs ⟨.z, trivial⟩) _ hx3) ?_)
     rintro _ w8 ⟨c14, rfl, hB2⟩
     obtain ⟨c15, hs3, hI⟩ := hk3 _ _ _ _ hB2
     replace hI : Bun C0 F w0 c15 w8 [MO.prow cGaffine_pair 69 a1 n1 c1 s3] [clFn_k5 fv1 cmp1] := hI
     refine ⟨_, rfl, ?_⟩
     refine nk ?_
     refine sr ?_
     refine sm ?_
     refine sa ?_
     refine nk ?_
     refine c_region rfl ?_
     refine sm ?_
     refine sm ?_
     refine sq (y_mul rfl ev_const et) ?_
     refine sq (y_add rfl et et) ?_
     obtain ⟨b2, hx4, h⟩ := bnd_some h
     refine sq (binU (y_assign rfl et) (congrArg (Value.int .i64) (some_inj hx4))) ?_
     refine s_nil ?_
     exact k_loop (fuel2, b1, b2, s3) ⟨rfl, rfl, rfl, rfl, rfl, rfl, trivial⟩ ⟨_, hI.arr (.c .z .n) ⟨.z, trivial⟩, h⟩ (Nat.lt_succ_self _)
    ·replace h := ite_f hb h
     refine c_exit ?_
     refine k_in ?_
     exact k_join (a4, l5) ⟨rfl, rfl, rfl, rfl, rfl, trivial⟩ ⟨_, hI.arr (.c .z .n) ⟨.z, trivial⟩, h⟩ rfl
  ·replace h := ite_f hb h
   refine c_exit ?_
   refine k_in ?_
   obtain rfl := some_inj h
   exact q_ret (vs := []) Try.results75 trivial ⟨_, rfl, hI.arr (.c .z .n) trivial⟩
 ·skip
  refine c_block ?_
  refine c_loop (α := Nat × Int × Int × (List Gaffine_pair)) (fun x => fun w => ∃ C, Bun C0 F w0 C w [MO.prow cGaffine_pair 69 a1 n1 c1 (x.2.2.2)] [clFn_k5 fv1 cmp1] ∧ m_slices_stableCmpFunc_affine_pair_w_l3 n2 cmp1 (x.1) (x.2.1) (x.2.2.1) (x.2.2.2) = some r) (fun x _ => x.1) (fun x => [(0, (vs a1 n1 c1)), (1, (vi n2)), (2, fv1), (6, (vi 20)), (7, (vi (x.2.1))), (8, (vi (x.2.2.1)))]) (fu, 0, 20, data1) ⟨_, hI.arr (.c .z .n) ⟨.z, trivial⟩, h⟩ ⟨rfl, rfl, rfl, rfl, rfl, rfl, trivial⟩ ?_
  clear h hI; rintro ⟨fuel3, a5, b3, l6⟩ w9 ⟨c16, hI, h⟩
  dsimp only at hI h
  rcases fuel3 with _ | fuel3
  ·rw [m_slices_stableCmpFunc_affine_pair_w_l3] at h; cases h
  rw [m_slices_stableCmpFunc_affine_pair_w_l3] at h
  refine c_sub (e := [(0, (vs a1 n1 c1)), (1, (vi n2)), (2, fv1), (6, (vi 20)), (7, (vi a5)), (8, (vi b3))]) ⟨rfl, rfl, rfl, rfl, rfl, rfl, trivial⟩ ?_
  refine c_seq ?_
  refine sr ?_
  refine sm ?_
  refine sm ?_
  refine sq (y_leq rfl et et) ?_
  refine nk ?_
  refine c_cond (b := decide (b3 ≤ n2)) et (fun hb => ?_) (fun hb => ?_)
  ·replace h := ite_t hb h
   refine c_skip ?_
   refine k_same ?_
   refine c_block ?_
   refine sr ?_
   refine sm ?_
   refine sm ?_
   refine sm ?_
   refine sm ?_
   obtain ⟨c17, f4, hB, hl4, hk4⟩ := hI.hands (.l .n)
   obtain ⟨⟨r4, s4⟩, hx5, h⟩ := bnd_some h
   try dsimp only at h
   refine s_call gn rfl (r_callF (vs := [(vs a1 n1 c1), (vi a5), (vi b3), fv1]) rfl ok_80 ⟨et, ⟨et, ⟨et, ⟨et, trivial⟩⟩⟩⟩) (Calls.mono (c_slices_insertionSortCmpFunc_affine_pair_w c17 f4 w9 l6 a5 b3 cmp1 a1 n1 c1 fv1 (hB.subs ⟨.z, trivial⟩) _ hx5) ?_)
   rintro _ w10 ⟨c18, rfl, hB2⟩
   obtain ⟨c19, hs4, hI⟩ := hk4 _ _ _ _ hB2
   replace hI : Bun C0 F w0 c19 w10 [MO.prow cGaffine_pair 69 a1 n1 c1 s4] [clFn_k5 fv1 cmp1] := hI
   refine ⟨_, rfl, ?_⟩
   refine nk ?_
   refine sr ?_
   refine sm ?_
   refine sa ?_
   refine nk ?_
   refine c_region rfl ?_
   refine sm ?_
   refine sm ?_
   refine sq (y_add rfl et et) ?_
   refine sa ?_
   refine s_nil ?_
   exact k_loop (fuel3, b3, wi64 (b3 + 20), s4) ⟨rfl, rfl, rfl, rfl, rfl, rfl, trivial⟩ ⟨_, hI.arr (.c .z .n) ⟨.z, trivial⟩, h⟩ (Nat.lt_succ_self _)
  ·replace h := ite_f hb h
   refine c_exit ?_
   refine k_in ?_
   exact k_join (a5, l6) ⟨rfl, rfl, rfl, rfl, rfl, trivial⟩ ⟨_, hI.arr (.c .z .n) ⟨.z, trivial⟩, h⟩ rfl
set_option maxRecDepth 100000 in
set_option maxHeartbeats 4000000 in
theorem c_slices_SortStableFunc_affine_pair_affine_pair_w (C0 F : NP) (w0 : World) (x1 : List Gaffine_pair) (cmp1 : (Gaffine_pair → Gaffine_pair → Option Int)) (a1 : Option Addr) (n1 : Nat) (c1 : Nat) (fv1 : Value) (hI : Bun C0 F w0 C0 w0 [MO.prow cGaffine_pair 69 a1 n1 c1 x1] [clFn_k5 fv1 cmp1]) (r : Unit × List Gaffine_pair)
  (h : m_slices_SortStableFunc_affine_pair_affine_pair_w x1 cmp1 = some r) :
  Calls Try.prog 58 #[(vs a1 n1 c1), fv1] w0 fun e w => ∃ (C : NP), e = .returned (Value.tuple #[]) ∧ Bun C0 F w0 C w [MO.prow cGaffine_pair 69 a1 n1 c1 r.2] [] := by
 refine enterK (l := [(vs a1 n1 c1), fv1]) Try.func58 rfl Try.ntmps58 rfl ?_
 rw [m_slices_SortStableFunc_affine_pair_affine_pair_w] at h
 refine c_region rfl ?_
 refine sm ?_
 refine sm ?_
 refine sq (y_lenp (hI.unpin .z).1 rfl Try.underlying64 et) ?_
 refine sm ?_
 obtain ⟨c2, f1, hB, hl1, hk1⟩ := hI.hands (.l .n)
 obtain ⟨⟨r1, s1⟩, hx1, h⟩ := bnd_some h
 try dsimp only at h
 refine s_call gn rfl (r_callF (vs := [(vs a1 n1 c1), (vi (x1.length : Int)), fv1]) rfl ok_75 ⟨et, ⟨et, ⟨et, trivial⟩⟩⟩) (Calls.mono (c_slices_stableCmpFunc_affine_pair_w c2 f1 w0 x1 (x1.length : Int) cmp1 a1 n1 c1 fv1 (hB.subs ⟨.z, trivial⟩) _ hx1) ?_)
 rintro _ w1 ⟨c3, rfl, hB2⟩
 obtain ⟨c4, hs1, hI⟩ := hk1 _ _ _ _ hB2
 replace hI : Bun C0 F w0 c4 w1 [MO.prow cGaffine_pair 69 a1 n1 c1 s1] [clFn_k5 fv1 cmp1] := hI
 refine ⟨_, rfl, ?_⟩
 refine s_nil ?_
 obtain rfl := some_inj h
 exact q_ret (vs := []) Try.results58 trivial ⟨_, rfl, hI.arr (.c .z .n) trivial⟩
set_option maxRecDepth 100000 in
set_option maxHeartbeats 4000000 in
theorem c_affine_sorted (F : NP) (w0 : World) (hF : ∀ k, F k → k < w0.heap.size) (l1 : List Gaffine_pair) (a1 : Option Addr) (c1 : Nat) (hc : AllCl [Cl.sl cGaffine_pair a1 c1 l1] F w0) (r : List Gaffine_pair)
  (h : m_affine_sorted l1 = some r) :
  Calls Try.prog 36 #[(vs a1 l1.length c1)] w0 fun e w => ∃ (a2 : Option Addr) (c2 : Nat), e = .returned (vs a2 r.length c2) ∧ Ext w0 w ∧ AllCl [Cl.sl cGaffine_pair a2 c2 r] F w := by
 refine enterK (l := [(vs a1 l1.length c1)]) Try.func36 rfl Try.ntmps36 rfl ?_
 have hI := Bun.start hF hc
 clear hc
 rw [m_affine_sorted] at h
 refine sr ?_
 refine sac ?_
 refine nk ?_
 refine sr ?_
 refine sm ?_
 obtain ⟨c3, f1, hB, hl1, hk1⟩ := hI.hands .n
 obtain ⟨r1, hx1, h⟩ := bnd_some h
 try dsimp only at h
 refine s_call gn rfl (r_callF (vs := [(vs a1 l1.length c1)]) rfl ok_57 ⟨et, trivial⟩) (Calls.mono (c_slices_Clone_affine_pair_affine_pair_o c3 f1 w0 l1 a1 c1 (hB.subs ⟨.z, trivial⟩) _ hx1) ?_)
 rintro _ w1 ⟨a3, c4, c5, rfl, hB2⟩
 obtain ⟨c6, hs1, hI⟩ := hk1 _ _ _ _ hB2
 replace hI : Bun noM F w0 c6 w1 [MO.row cGaffine_pair 69 a3 c4 r1] [Cl.sl cGaffine_pair a1 c1 l1] := hI
 refine ⟨_, rfl, ?_⟩
 refine sa ?_
 refine nk ?_
 refine sr ?_
 refine sm ?_
 replace hI := hI.pin (m := r1.length) .z rfl
 have hI := hI.add (c := clFn_k5 (Value.func (.func 59) #[] #[]) m_affine_sorted_1) ⟨rfl, fun D' w' hs hl x_1 x_6 A_2 c_3 A_4 c_5 A_7 c_8 A_9 c_10 r k h => CallV.fn (cap := []) ok_59 (c_affine_sorted_1 D' w' hl x_1 x_6 A_2 c_3 A_4 c_5 A_7 c_8 A_9 c_10 ⟨k.1, k.2.1, k.2.2.1, k.2.2.2.1, trivial⟩ r h)⟩
 obtain ⟨c7, f2, hB, hl2, hk2⟩ := hI.hands (.l .n)
 obtain ⟨⟨r2, s1⟩, hx2, h⟩ := bnd_some h
 try dsimp only at h
 refine s_call gn rfl (r_callF (vs := [(vs a3 r1.length c4), (Value.func (.func 59) #[] #[])]) rfl ok_58 ⟨et, ⟨ev_func, trivial⟩⟩) (Calls.mono (c_slices_SortStableFunc_affine_pair_affine_pair_w c7 f2 w1 r1 m_affine_sorted_1 a3 r1.length c4 (Value.func (.func 59) #[] #[]) (hB.subs ⟨.z, trivial⟩) _ hx2) ?_)
 rintro _ w2 ⟨c8, rfl, hB2⟩
 obtain ⟨c9, hs2, hI⟩ := hk2 _ _ _ _ hB2
 replace hI : Bun noM F w0 c9 w2 [MO.prow cGaffine_pair 69 a3 r1.length c4 s1] [clFn_k5 (Value.func (.func 59) #[] #[]) m_affine_sorted_1, Cl.sl cGaffine_pair a1 c1 l1] := hI
 obtain ⟨hl3, hI⟩ := hI.unpin .z
 refine ⟨_, rfl, ?_⟩
 refine s_nil ?_
 refine k_next (e := [(0, (vs a3 s1.length c4))]) ⟨(looklen hl3 rfl), trivial⟩ ?_
 refine sr ?_
 refine sm ?_
 refine sa ?_
 refine nk ?_
 refine c_ret ?_
 obtain ⟨c10, hI⟩ := hI.release .z
 obtain rfl := some_inj h
 exact q_ret (vs := [(vs a3 s1.length c4)]) Try.results36 ⟨ev_tmp rfl rfl, trivial⟩ ⟨a3, c4, rfl, hI.ext0, hI.fin ⟨.z, trivial⟩⟩
set_option maxRecDepth 100000 in
set_option maxHeartbeats 4000000 in
theorem c_slices_Equal_int64_int64 (F : NP) (w0 : World) (hF : ∀ k, F k → k < w0.heap.size) (s1_1 : List Int) (s2_1 : List Int) (a1 : Option Addr) (c1 : Nat) (a2 : Option Addr) (c2 : Nat) (hc : AllCl [Cl.sl (cInt .i64) a1 c1 s1_1, Cl.sl (cInt .i64) a2 c2 s2_1] F w0) (r : Bool)
  (h : m_slices_Equal_int64_int64 s1_1 s2_1 = some r) :
  Calls Try.prog 37 #[(vs a1 s1_1.length c1), (vs a2 s2_1.length c2)] w0 fun e w => e = .returned (vb r) ∧ Ext w0 w ∧ AllCl [] F w := by
 refine enterK (l := [(vs a1 s1_1.length c1), (vs a2 s2_1.length c2)]) Try.func37 rfl Try.ntmps37 rfl ?_
 have hI := Bun.start hF hc
 clear hc
 rw [m_slices_Equal_int64_int64] at h
 refine sr ?_
 refine sac ?_
 refine nk ?_
 refine c_seq ?_
 refine sr ?_
 refine sm ?_
 refine sq (y_lenl rfl Try.underlying28 et) ?_
 refine sm ?_
 refine sq (y_lenl rfl Try.underlying28 et) ?_
 refine sq (y_neq rfl et et) ?_
 refine nk ?_
 refine c_cond (b := !decide ((s1_1.length : Int) = (s2_1.length : Int))) et (fun hb => ?_) (fun hb => ?_)
 ·replace h := ite_t hb h
  refine sr ?_
  refine sac ?_
  refine nk ?_
  refine c_ret ?_
  obtain rfl := some_inj h
  exact q_ret (vs := [(vb false)]) Try.results37 ⟨ev_tmp rfl rfl, trivial⟩ ⟨rfl, hI.ext0, hI.fin trivial⟩
 ·replace h := ite_f hb h
  refine c_skip ?_
  refine k_same ?_
  refine c_seq ?_
  refine sr ?_
  refine sm ?_
  refine sq (y_lenl rfl Try.underlying28 et) ?_
  refine sq (y_move rfl ev_const) ?_
  refine nk ?_
  refine c_block ?_
  refine c_loop (α := Nat × Int) (fun x => fun w => ∃ C, Bun noM F w0 C w [] [Cl.sl (cInt .i64) a1 c1 s1_1, Cl.sl (cInt .i64) a2 c2 s2_1] ∧ m_slices_Equal_int64_int64_l1 s1_1 s2_1 (x.1) (x.2) = some r) (fun x _ => x.1) (fun x => [(0, (vs a1 s1_1.length c1)), (1, (vs a2 s2_1.length c2)), (12, (vi (s1_1.length : Int))), (13, (vi (x.2)))]) (fu, 0) ⟨_, hI.arr .n ⟨.z, (.s .z), trivial⟩, h⟩ ⟨rfl, rfl, rfl, rfl, trivial⟩ ?_
  clear h hI; rintro ⟨fuel1, i1⟩ w1 ⟨c3, hI, h⟩
  dsimp only at hI h
  rcases fuel1 with _ | fuel1
  ·rw [m_slices_Equal_int64_int64_l1] at h; cases h
  rw [m_slices_Equal_int64_int64_l1] at h
  refine c_sub (e := [(0, (vs a1 s1_1.length c1)), (1, (vs a2 s2_1.length c2)), (12, (vi (s1_1.length : Int))), (13, (vi i1))]) ⟨rfl, rfl, rfl, rfl, trivial⟩ ?_
  refine sr ?_
  refine sq (y_lss rfl et et) ?_
  refine nk ?_
  refine c_seq ?_
  refine c_cond (b := decide (i1 < (s1_1.length : Int))) et (fun hb => ?_) (fun hb => ?_)
  ·replace h := ite_t hb h
   refine c_skip ?_
   refine k_same ?_
   refine c_seq ?_
   refine c_block ?_
   refine sr ?_
   refine sm ?_
   refine sa ?_
   refine nk ?_
   refine c_seq ?_
   refine c_drawX [] false (.c (0, .q) (.c (1, .q) (.c (2, .q) (.c (3, .q) (.c (4, .q) (.c (5, .q) (.c (6, .q) (.c (7, .q) (.c (8, .q) .n))))))))) hI (by kernel_rfl) (by kernel_rfl) ?_
   clear hI; intro w2 hI
   refine a_q rfl gn rfl (fun w' => (y_move rfl et)) ?_
   refine a_q rfl gn rfl (fun w' => (y_move rfl et)) ?_
   obtain ⟨e1, hx1, h⟩ := bnd_some h
   obtain ⟨ad1, cs1, hA1, hr1, hq1⟩ := hI.clat .z hx1
   obtain rfl : cs1 = [(vi e1)] := hr1
   refine a_q rfl gn rfl (fun w' => (y_indexAddr rfl Try.underlying28 size_2 et et (lat_bd hx1) hA1)) ?_
   refine a_read rfl gn rfl (fun w' hw' => (y_load1 (v := (vi e1)) rfl et Try.underlying2 rfl (hq1.at_ (SX.any rfl hw')))) (by kernel_rfl) ?_
   refine a_q rfl gn rfl (fun w' => (y_move rfl et)) ?_
   refine a_q rfl gn rfl (fun w' => (y_move rfl et)) ?_
   obtain ⟨e2, hx2, h⟩ := bnd_some h
   obtain ⟨ad2, cs2, hA2, hr2, hq2⟩ := hI.clat (.s .z) hx2
   obtain rfl : cs2 = [(vi e2)] := hr2
   refine a_q rfl gn rfl (fun w' => (y_indexAddr rfl Try.underlying28 size_2 et et (lat_bd hx2) hA2)) ?_
   refine a_read rfl gn rfl (fun w' hw' => (y_load1 (v := (vi e2)) rfl et Try.underlying2 rfl (hq2.at_ (SX.any rfl hw')))) (by kernel_rfl) ?_
   refine a_q rfl gn rfl (fun w' => (y_neq rfl et et)) ?_
   refine a_nil ?_
   refine k_same ?_
   refine c_cond (b := !decide (e1 = e2)) et (fun hb => ?_) (fun hb => ?_)
   ·replace h := ite_t hb h
    refine sr ?_
    refine sac ?_
    refine nk ?_
    refine c_ret ?_
    obtain rfl := some_inj h
    exact q_ret (vs := [(vb false)]) Try.results37 ⟨ev_tmp rfl rfl, trivial⟩ ⟨rfl, hI.ext0, hI.fin trivial⟩
   ·replace h := ite_f hb h
    refine c_skip ?_
    refine k_same ?_
    refine c_region rfl ?_
    refine sq (y_add rfl et ev_const) ?_
    refine sm ?_
    refine s_nil ?_
    exact k_loop (fuel1, wi64 (i1 + 1)) ⟨rfl, rfl, rfl, rfl, trivial⟩ ⟨_, hI.arr .n ⟨.z, (.s .z), trivial⟩, h⟩ (Nat.lt_succ_self _)
  ·replace h := ite_f hb h
   refine c_exit ?_
   refine k_in ?_
   refine k_same ?_
   refine sr ?_
   refine sac ?_
   refine nk ?_
   refine c_ret ?_
   obtain rfl := some_inj h
   exact q_ret (vs := [(vb true)]) Try.results37 ⟨ev_tmp rfl rfl, trivial⟩ ⟨rfl, hI.ext0, hI.fin trivial⟩
set_option maxRecDepth 100000 in
set_option maxHeartbeats 4000000 in
theorem c_affine_Image (F : NP) (w0 : World) (hF : ∀ k, F k → k < w0.heap.size) (m1 : List GLin) (names1 : List (List UInt8)) (ext1 : List Int) (a1 : Option Addr) (c1 : Nat) (a2 : Option Addr) (c2 : Nat) (a3 : Option Addr) (c3 : Nat) (hc : AllCl [Cl.sl cGLin a1 c1 m1, Cl.sl cStr a2 c2 names1, Cl.sl (cInt .i64) a3 c3 ext1] F w0) (r : List (List Int) × Int)
  (h : m_affine_Image m1 names1 ext1 = some r) :
  Calls Try.prog 16 #[(vs a1 m1.length c1), (vs a2 names1.length c2), (vs a3 ext1.length c3)] w0 fun e w => ∃ (a4 : Option Addr) (c4 : Nat), e = .returned (Value.tuple #[(vs a4 r.1.length c4), (vi r.2)]) ∧ Ext w0 w ∧ AllCl [Cl.sl (cSl (cInt .i64)) a4 c4 r.1] F w := by
 refine enterK (l := [(vs a1 m1.length c1), (vs a2 names1.length c2), (vs a3 ext1.length c3)]) Try.func16 rfl Try.ntmps16 rfl ?_
 have hI := Bun.start hF hc
 clear hc
 rw [m_affine_Image] at h
 refine sr ?_
 refine sac ?_
 refine sac ?_
 refine nk ?_
 refine c_seq ?_
 refine sr ?_
 refine sm ?_
 refine sm ?_
 obtain ⟨r1, hx1, h⟩ := bnd_some h
 refine s_call gn rfl (r_callF (vs := [(vs a1 m1.length c1), (vs a2 names1.length c2)]) rfl ok_12 ⟨et, ⟨et, trivial⟩⟩) (Calls.mono (c_affine_Validate (Dj F noM) w0 hI.lt m1 names1 a1 c1 a2 c2 ⟨(hI.get .z), (hI.get (.s .z)), trivial⟩ r1 hx1) ?_)
 rintro _ w1 ⟨rfl, hx2, hl1⟩
 refine ⟨_, rfl, ?_⟩
 replace hI := (hI.ext hx2)
 refine sa ?_
 refine nk ?_
 refine sr ?_
 refine sm ?_
 refine sq (y_neq rfl et ev_const) ?_
 refine nk ?_
 refine c_cond (b := !decide (r1 = 0)) et (fun hb => ?_) (fun hb => ?_)
 ·replace h := ite_t hb h
  refine sr ?_
  refine sm ?_
  refine sac ?_
  refine sa ?_
  refine nk ?_
  refine c_ret ?_
  have hI := hI.add (c := Cl.sl (cSl (cInt .i64)) none 0 ([] : List (List Int))) SlC.nil
  obtain rfl := some_inj h
  exact q_ret (vs := [(vs none 0 0), (vi r1)]) Try.results16 ⟨ev_tmp rfl rfl, ⟨ev_tmp rfl rfl, trivial⟩⟩ ⟨none, 0, rfl, hI.ext0, hI.fin ⟨.z, trivial⟩⟩
 ·replace h := ite_f hb h
  refine c_skip ?_
  refine k_same ?_
  refine c_seq ?_
  refine sr ?_
  refine sm ?_
  refine sm ?_
  obtain ⟨r2, hx3, h⟩ := bnd_some h
  refine s_call gn rfl (r_callF (vs := [(vs a2 names1.length c2), (vs a3 ext1.length c3)]) rfl ok_34 ⟨et, ⟨et, trivial⟩⟩) (Calls.mono (c_affine_boxed (Dj F noM) w1 hI.lt names1 ext1 a2 c2 a3 c3 ⟨(hI.get (.s .z)), (hI.get (.s (.s .z))), trivial⟩ r2 hx3) ?_)
  rintro _ w2 ⟨rfl, hx4, hl2⟩
  refine ⟨_, rfl, ?_⟩
  replace hI := (hI.ext hx4)
  refine sa ?_
  refine nk ?_
  refine sr ?_
  refine sm ?_
  refine sq (y_neq rfl et ev_const) ?_
  refine nk ?_
  refine c_cond (b := !decide (r2 = 0)) et (fun hb => ?_) (fun hb => ?_)
  ·replace h := ite_t hb h
   refine sr ?_
   refine sm ?_
   refine sac ?_
   refine sa ?_
   refine nk ?_
   refine c_ret ?_
   have hI := hI.add (c := Cl.sl (cSl (cInt .i64)) none 0 ([] : List (List Int))) SlC.nil
   obtain rfl := some_inj h
   exact q_ret (vs := [(vs none 0 0), (vi r2)]) Try.results16 ⟨ev_tmp rfl rfl, ⟨ev_tmp rfl rfl, trivial⟩⟩ ⟨none, 0, rfl, hI.ext0, hI.fin ⟨.z, trivial⟩⟩
  ·replace h := ite_f hb h
   refine c_skip ?_
   refine k_same ?_
   refine sr ?_
   refine sm ?_
   refine sm ?_
   refine sm ?_
   obtain ⟨r3, hx5, h⟩ := bnd_some h
   refine s_call gn rfl (r_callF (vs := [(vs a1 m1.length c1), (vs a2 names1.length c2), (vs a3 ext1.length c3)]) rfl ok_35 ⟨et, ⟨et, ⟨et, trivial⟩⟩⟩) (Calls.mono (c_affine_all (Dj F noM) w2 hI.lt m1 names1 ext1 a1 c1 a2 c2 a3 c3 ⟨(hI.get .z), (hI.get (.s .z)), (hI.get (.s (.s .z))), trivial⟩ r3 hx5) ?_)
   rintro _ w3 ⟨a5, c5, rfl, hx6, hl3⟩
   refine ⟨_, rfl, ?_⟩
   replace hI := (hI.ext hx6).adds hl3
   refine sm ?_
   refine sq (y_extract rfl et rfl) ?_
   refine sq (y_extract rfl et rfl) ?_
   refine sa ?_
   refine sa ?_
   refine s_nil ?_
   refine k_next (e := [(10, (vs a5 r3.1.length c5)), (11, (vi r3.2))]) ⟨rfl, rfl, trivial⟩ ?_
   refine c_seq ?_
   refine sr ?_
   refine sm ?_
   refine sq (y_neq rfl et ev_const) ?_
   refine nk ?_
   refine c_cond (b := !decide (r3.2 = 0)) et (fun hb => ?_) (fun hb => ?_)
   ·replace h := ite_t hb h
    refine sr ?_
    refine sm ?_
    refine sac ?_
    refine sa ?_
    refine nk ?_
    refine c_ret ?_
    have hI := hI.add (c := Cl.sl (cSl (cInt .i64)) none 0 ([] : List (List Int))) SlC.nil
    obtain rfl := some_inj h
    exact q_ret (vs := [(vs none 0 0), (vi r3.2)]) Try.results16 ⟨ev_tmp rfl rfl, ⟨ev_tmp rfl rfl, trivial⟩⟩ ⟨none, 0, rfl, hI.ext0, hI.fin ⟨.z, trivial⟩⟩
   ·replace h := ite_f hb h
    refine c_skip ?_
    refine k_same ?_
    refine sr ?_
    refine sac ?_
    refine nk ?_
    refine c_seq ?_
    refine sr ?_
    refine sm ?_
    obtain ⟨r4, hx7, h⟩ := bnd_some h
    refine s_call gn rfl (r_callF (vs := [(vs a5 r3.1.length c5)]) rfl ok_36 ⟨et, trivial⟩) (Calls.mono (c_affine_sorted (Dj F noM) w3 hI.lt r3.1 a5 c5 ⟨(hI.get .z), trivial⟩ r4 hx7) ?_)
    rintro _ w4 ⟨a6, c6, rfl, hx8, hl4⟩
    refine ⟨_, rfl, ?_⟩
    replace hI := (hI.ext hx8).adds hl4
    refine sq (y_lenl rfl Try.underlying64 et) ?_
    refine sq (y_move rfl ev_const) ?_
    refine nk ?_
    refine c_block ?_
    have hI := hI.nil (cSl (cInt .i64)) 28 none
    refine c_loop (α := Nat × (List (List Int)) × Int × (Option Addr) × Nat) (fun x => fun w => ∃ C, Bun noM F w0 C w [MO.row (cSl (cInt .i64)) 28 (x.2.2.2.1) (x.2.2.2.2) (x.2.1)] [Cl.sl cGaffine_pair a6 c6 r4] ∧ m_affine_Image_l1 r4 (x.1) (x.2.1) (x.2.2.1) = some r) (fun x _ => x.1) (fun x => [(12, (vs (x.2.2.2.1) (x.2.1).length (x.2.2.2.2))), (39, (vs a6 r4.length c6)), (40, (vi (r4.length : Int))), (41, (vi (x.2.2.1)))]) (fu, ([] : List (List Int)), 0, none, 0) ⟨_, hI.arr (.c .z .n) ⟨.z, trivial⟩, h⟩ ⟨rfl, rfl, rfl, rfl, trivial⟩ ?_
    clear h hI; rintro ⟨fuel1, out1, i1, a7, c7⟩ w5 ⟨c8, hI, h⟩
    dsimp only at hI h
    rcases fuel1 with _ | fuel1
    ·rw [m_affine_Image_l1] at h; cases h
    rw [m_affine_Image_l1] at h
    refine c_sub (e := [(12, (vs a7 out1.length c7)), (39, (vs a6 r4.length c6)), (40, (vi (r4.length : Int))), (41, (vi i1))]) ⟨rfl, rfl, rfl, rfl, trivial⟩ ?_
    refine sr ?_
    refine sq (y_lss rfl et et) ?_
    refine nk ?_
    refine c_seq ?_
    refine c_cond (b := decide (i1 < (r4.length : Int))) et (fun hb => ?_) (fun hb => ?_)
    ·replace h := ite_t hb h
     refine c_skip ?_
     refine k_same ?_
     refine c_join (α := (List (List Int)) × (Option Addr) × Nat) (fun _ => ⟨67, []⟩) (fun x => [(12, (vs (x.2.1) (x.1).length (x.2.2))), (39, (vs a6 r4.length c6)), (40, (vi (r4.length : Int))), (41, (vi i1))]) (fun x => fun w => ∃ C, Bun noM F w0 C w [MO.row (cSl (cInt .i64)) 28 (x.2.1) (x.2.2) (x.1)] [Cl.sl cGaffine_pair a6 c6 r4] ∧ m_affine_Image_j1 (m_affine_Image_l1 r4 fuel1) i1 (x.1) = some r) ?_ ?_
     ·clear h hI; rintro ⟨out2, a8, c9⟩ w6 ⟨c10, hI, h⟩
      try dsimp only at hI h
      rw [m_affine_Image_j1] at h
      refine c_sub (e := [(12, (vs a8 out2.length c9)), (39, (vs a6 r4.length c6)), (40, (vi (r4.length : Int))), (41, (vi i1))]) ⟨rfl, rfl, rfl, rfl, trivial⟩ ?_
      refine c_region rfl ?_
      refine sq (y_add rfl et ev_const) ?_
      refine sm ?_
      refine s_nil ?_
      exact k_loop (fuel1, out2, wi64 (i1 + 1), a8, c9) ⟨rfl, rfl, rfl, rfl, trivial⟩ ⟨_, hI.arr (.c .z .n) ⟨.z, trivial⟩, h⟩ (Nat.lt_succ_self _)
     ·skip
      refine c_block ?_
      refine sr ?_
      obtain ⟨e1, hx9, h⟩ := bnd_some h
      obtain ⟨ad1, cs1, hA1, hr1, hq1⟩ := hI.clat .z hx9
      obtain ⟨a9, c11, a10, c12, rfl, hf1, hf2⟩ := hr1
      have hI := hI.add (c := Cl.sl (cInt .i64) a9 c11 e1.p) hf1
      have hI := hI.add (c := Cl.sl (cInt .i64) a10 c12 e1.to_) hf2
      refine sq (y_indexAddr rfl Try.underlying64 size_69 et et (lat_bd hx9) hA1) ?_
      refine sq (y_loadN (l := [(vs a9 e1.p.length c11), (vs a10 e1.to_.length c12)]) rfl et Try.underlying69 rfl size_69 hq1.1) ?_
      refine l_alloc (cs := #[(vs none 0 0), (vs none 0 0)]) hI gn rfl rfl zero_69 rfl ?_
      clear hI; intro b1 c13 w7 hI
      refine l_store (new := [(vs a9 e1.p.length c11), (vs a10 e1.to_.length c12)]) (cs' := #[(vs a9 e1.p.length c11), (vs a10 e1.to_.length c12)]) hI .z gn rfl rfl et et rfl size_69 rfl rfl rfl ?_
      clear hI; intro c14 w8 hI
      refine nk ?_
      refine sr ?_
      refine sm ?_
      refine sq (y_lenl rfl Try.underlying35 et) ?_
      refine sa ?_
      refine nk ?_
      refine c_seq ?_
      refine c_drawX [] false (.c (0, .q) (.c (1, .q) (.c (2, .q) (.c (3, .q) (.c (4, .q) (.c (5, .q) (.c (6, .q) (.c (7, .q) (.c (8, .q) (.c (9, .q) (.c (10, .s) (.c (11, .q) (.c (12, .q) .n))))))))))))) hI (by kernel_rfl) (by kernel_rfl) ?_
      clear hI; intro w9 hI
      refine a_q rfl gn rfl (fun w' => (y_move rfl et)) ?_
      refine a_q rfl gn rfl (fun w' => (y_eql rfl et ev_const)) ?_
      refine a_q rfl gn rfl (fun w' => (y_move rfl et)) ?_
      refine a_gval rfl (g_false rfl rfl rfl rfl) rfl (fun hc => fun w' => (y_move rfl et)) ?_
      refine a_gval rfl (g_false rfl rfl rfl rfl) rfl (fun hc => fun w' => (y_move rfl et)) ?_
      refine a_gval rfl (g_false rfl rfl rfl rfl) rfl (fun hc => fun w' => (y_sub rfl (ev_gv et hc) ev_const)) ?_
      obtain ⟨e2, hx10, h⟩ := bnd_some h
      replace hx10 := gd_some hx10
      obtain ⟨ad2, cs2, hq2⟩ := hI.golat (.s .z) hx10
      obtain ⟨a11, c15, hq3⟩ : ∃ (a11 : Option Addr) (c15 : Nat), (!(decide ((out1.length : Int) = 0))) = true → (a7 = some ad2 ∧ cs2 = [(vs a11 e2.length c15)] ∧ CA noM w9 (ad2.add (Int.toNat (wi64 ((out1.length : Int) - 1)) * 1)) cs2 ∧ SlC (cInt .i64) (Dj F c14) w9 a11 c15 e2) := by
       by_cases hc : (!(decide ((out1.length : Int) = 0))) = true
       ·obtain ⟨k1, k2, k3⟩ := hq2 hc; obtain ⟨a11, c15, rfl, hf3⟩ := k2; exact ⟨a11, c15, fun _ => ⟨k1, rfl, k3, hf3⟩⟩
       ·exact ⟨default, default, fun k => absurd k hc⟩
      clear hq2
      have hI := hI.add (c := Cl.gsl (!(decide ((out1.length : Int) = 0))) (cInt .i64) a11 c15 e2) (fun hc => (hq3 hc).2.2.2)
      have hq4 : (!(decide ((out1.length : Int) = 0))) = true → CA noM w9 (ad2.add (Int.toNat (wi64 ((out1.length : Int) - 1)) * 1)) [(vs a11 e2.length c15)] := fun hc => by have k := hq3 hc; have e : cs2 = _ := k.2.1; rw [← e]; exact k.2.2.1
      refine a_gval rfl (g_false rfl rfl rfl rfl) rfl (fun hc => fun w' => (y_indexAddr rfl Try.underlying35 size_28 (ev_gv et hc) (ev_gv et hc) (lat_bd (hx10 hc)) (hq3 hc).1)) ?_
      refine a_gread rfl (g_false rfl rfl rfl rfl) rfl (fun hc => fun w' hw' => (y_load1 (v := (vs a11 e2.length c15)) rfl (ev_gv et hc) Try.underlying28 rfl ((hq4 hc).at_ (SX.any rfl hw')))) (by kernel_rfl) ?_
      refine a_gval rfl (g_false rfl rfl rfl rfl) rfl (fun hc => fun w' => (y_fieldAddr rfl et Try.underlying69 rfl size_28 rfl)) ?_
      refine a_gread rfl (g_false rfl rfl rfl rfl) rfl (fun hc => fun w' hw' => (y_load1 (v := (vs a10 e1.to_.length c12)) rfl (ev_gv et hc) Try.underlying28 rfl ((CA.blk (hI.blk .z) rfl).at_ (SX.any rfl hw')))) (by kernel_rfl) ?_
      obtain ⟨r5, hx11, h⟩ := bnd_some h
      replace hx11 := gd_some hx11
      refine la_gcallU (v := (vb r5)) rfl (g_false rfl rfl rfl rfl) rfl (fun hc => (r_callF (vs := [(vs a11 e2.length c15), (vs a10 e1.to_.length c12)]) rfl ok_37 ⟨(ev_gv et hc), ⟨(ev_gv et hc), trivial⟩⟩)) (fun hc => (c_slices_Equal_int64_int64 (Dj F c14) w9 hI.lt e2 e1.to_ a11 c15 a10 c12 ⟨(hI.get .z hc), (hI.get (.s .z)), trivial⟩ r5 (hx11 hc)).mono fun _ _ k => ⟨k.1, k.2.1⟩) ?_
      intro w10 hx12; replace hI := hI.ext hx12
      refine a_gval rfl (g_false rfl rfl rfl rfl) rfl (fun hc => fun w' => (y_not rfl (ev_gv et hc))) ?_
      refine a_q rfl gn rfl (fun w' => (y_or rfl et et)) ?_
      refine a_nil ?_
      refine k_same ?_
      refine c_cond (b := (decide ((out1.length : Int) = 0)) || (!r5)) et (fun hb => ?_) (fun hb => ?_)
      ·replace h := ite_t hb h
       refine c_region rfl ?_
       refine sm ?_
       refine sq (y_fieldAddr rfl et Try.underlying69 rfl size_28 rfl) ?_
       refine sq (y_load1 (v := (vs a10 e1.to_.length c12)) rfl et Try.underlying28 rfl (CellsAt.of_blk (hI.blk .z) rfl)) ?_
       refine l_lit (c := (cSl (cInt .i64))) (xs := ([e1.to_] : List (List Int))) (vs := [(0, (vs a10 e1.to_.length c12))]) (cs := #[(vs a10 e1.to_.length c12)]) (css := [[(vs a10 e1.to_.length c12)]]) hI gn rfl rfl Try.underlying35 info_28 rfl ⟨rfl, et, trivial⟩ (by kernel_rfl) ⟨⟨a10, c12, rfl, hI.get (.s .z)⟩, trivial⟩ rfl rfl rfl ?_
       clear hI; intro b2 c16 w11 hI
       obtain ⟨zs1, hx13, h⟩ := bnd_some h
       refine l_append (xs := out1) (ys := ([e1.to_] : List (List Int))) hI (.s (.s .z)) (hI.rd .z) hx13 gn rfl rfl Try.underlying35 info_28 rfl rfl et et ?_
       clear hI; intro a12 c17 c18 w12 hI
       refine sa ?_
       refine s_nil ?_
       exact k_join (zs1, a12, c17) ⟨rfl, rfl, rfl, rfl, trivial⟩ ⟨_, hI.arr (.c (.s (.s .z)) .n) ⟨(.s (.s (.s .z))), trivial⟩, h⟩ rfl
      ·replace h := ite_f hb h
       refine c_skip ?_
       exact k_join (out1, a7, c7) ⟨rfl, rfl, rfl, rfl, trivial⟩ ⟨_, hI.arr (.c (.s .z) .n) ⟨(.s (.s (.s .z))), trivial⟩, h⟩ rfl
    ·replace h := ite_f hb h
     refine c_exit ?_
     refine k_in ?_
     refine k_same ?_
     refine sr ?_
     refine sm ?_
     refine sa ?_
     refine sac ?_
     refine nk ?_
     refine c_ret ?_
     obtain ⟨c19, hI⟩ := hI.release .z
     obtain rfl := some_inj h
     exact q_ret (vs := [(vs a7 out1.length c7), (vi 0)]) Try.results16 ⟨ev_tmp rfl rfl, ⟨ev_tmp rfl rfl, trivial⟩⟩ ⟨a7, c7, rfl, hI.ext0, hI.fin ⟨.z, trivial⟩⟩
set_option maxRecDepth 100000 in
set_option maxHeartbeats 4000000 in
theorem c_affine_Injective (F : NP) (w0 : World) (hF : ∀ k, F k → k < w0.heap.size) (m1 : List GLin) (names1 : List (List UInt8)) (ext1 : List Int) (a1 : Option Addr) (c1 : Nat) (a2 : Option Addr) (c2 : Nat) (a3 : Option Addr) (c3 : Nat) (hc : AllCl [Cl.sl cGLin a1 c1 m1, Cl.sl cStr a2 c2 names1, Cl.sl (cInt .i64) a3 c3 ext1] F w0) (r : Bool × Int)
  (h : m_affine_Injective m1 names1 ext1 = some r) :
  Calls Try.prog 17 #[(vs a1 m1.length c1), (vs a2 names1.length c2), (vs a3 ext1.length c3)] w0 fun e w => e = .returned (Value.tuple #[(vb r.1), (vi r.2)]) ∧ Ext w0 w ∧ AllCl [] F w := by
 refine enterK (l := [(vs a1 m1.length c1), (vs a2 names1.length c2), (vs a3 ext1.length c3)]) Try.func17 rfl Try.ntmps17 rfl ?_
 have hI := Bun.start hF hc
 clear hc
 rw [m_affine_Injective] at h
 refine sr ?_
 refine sac ?_
 refine sac ?_
 refine nk ?_
 refine sr ?_
 refine sm ?_
 refine sm ?_
 refine sm ?_
 obtain ⟨r1, hx1, h⟩ := bnd_some h
 refine s_call gn rfl (r_callF (vs := [(vs a1 m1.length c1), (vs a2 names1.length c2), (vs a3 ext1.length c3)]) rfl ok_16 ⟨et, ⟨et, ⟨et, trivial⟩⟩⟩) (Calls.mono (c_affine_Image (Dj F noM) w0 hI.lt m1 names1 ext1 a1 c1 a2 c2 a3 c3 ⟨(hI.get .z), (hI.get (.s .z)), (hI.get (.s (.s .z))), trivial⟩ r1 hx1) ?_)
 rintro _ w1 ⟨a4, c4, rfl, hx2, hl1⟩
 refine ⟨_, rfl, ?_⟩
 replace hI := (hI.ext hx2).adds hl1
 refine sm ?_
 refine sq (y_extract rfl et rfl) ?_
 refine sq (y_extract rfl et rfl) ?_
 refine sa ?_
 refine sa ?_
 refine nk ?_
 refine sr ?_
 refine sm ?_
 refine sq (y_eql rfl et ev_const) ?_
 refine sm ?_
 refine s_gval (g_true rfl rfl rfl rfl) rfl (fun hc => (y_move rfl et)) ?_
 refine s_gval (g_true rfl rfl rfl rfl) rfl (fun hc => (y_lenl rfl Try.underlying35 (ev_gv et hc))) ?_
 refine s_gval (g_true rfl rfl rfl rfl) rfl (fun hc => (y_move rfl et)) ?_
 obtain ⟨r2, hx3, h⟩ := bnd_some h
 replace hx3 := gd_some hx3
 refine s_gcallU (v := (vi r2)) (g_true rfl rfl rfl rfl) rfl (fun hc => (r_callF (vs := [(vs a3 ext1.length c3)]) rfl ok_18 ⟨(ev_gv et hc), trivial⟩)) (fun hc => (c_box_Count (Dj F noM) w1 hI.lt ext1 a3 c3 ⟨(hI.get (.s (.s (.s .z)))), trivial⟩ r2 (hx3 hc)).mono fun _ _ k => ⟨k.1, k.2.1⟩) ?_
 intro w2 hx4; replace hI := hI.ext hx4
 refine s_gval (g_true rfl rfl rfl rfl) rfl (fun hc => (y_eql rfl (ev_gv et hc) (ev_gv et hc))) ?_
 refine sq (y_and rfl et et) ?_
 refine sm ?_
 refine sa ?_
 refine sa ?_
 refine nk ?_
 refine c_ret ?_
 obtain rfl := some_inj h
 exact q_ret (vs := [(vb ((decide (r1.2 = 0)) && (decide ((r1.1.length : Int) = r2)))), (vi r1.2)]) Try.results17 ⟨ev_tmp rfl rfl, ⟨ev_tmp rfl rfl, trivial⟩⟩ ⟨rfl, hI.ext0, hI.fin trivial⟩
set_option maxRecDepth 100000 in
set_option maxHeartbeats 4000000 in
theorem c_affine_FirstPreimage_1_w2 (C0 F : NP) (w0 : World) (p1 : List Int) (q1 : List Int) (a3 : List Int) (a5 : List Int) (a7 : Bool) (a1 : Option Addr) (c1 : Nat) (a2 : Option Addr) (c2 : Nat) (b1 : Nat) (a4 : Option Addr) (c3 : Nat) (b2 : Nat) (a6 : Option Addr) (c4 : Nat) (b3 : Nat) (hI : Bun C0 F w0 C0 w0 [MO.box b2 24 #[(vs a6 a5.length c4)], MO.box b3 4 #[(vb a7)]] [Cl.sl (cInt .i64) a1 c1 p1, Cl.sl (cInt .i64) a2 c2 q1, Cl.sl (cInt .i64) a4 c3 a3, Cl.blk b1 28 #[(vs a4 a3.length c3)], Cl.sl (cInt .i64) a6 c4 a5]) (r : Bool × List Int × Bool)
  (h : m_affine_FirstPreimage_1_w2 p1 q1 a3 a5 a7 = some r) :
  Calls Try.prog 40 #[(vs a1 p1.length c1), (vs a2 q1.length c2), (vp b1 0), (vp b2 0), (vp b3 0)] w0 fun e w => ∃ (a8 : Option Addr) (c5 : Nat) (C : NP), e = .returned (vb r.1) ∧ Bun C0 F w0 C w [MO.box b2 24 #[(vs a8 r.2.1.length c5)], MO.box b3 4 #[(vb r.2.2)]] [Cl.sl (cInt .i64) a8 c5 r.2.1] := by
 refine enterK (l := [(vs a1 p1.length c1), (vs a2 q1.length c2), (vp b1 0), (vp b2 0), (vp b3 0)]) Try.func40 rfl Try.ntmps40 rfl ?_
 rw [m_affine_FirstPreimage_1_w2] at h
 refine sr ?_
 refine sac ?_
 refine nk ?_
 refine c_seq ?_
 refine sr ?_
 refine sm ?_
 refine sq (y_load1 (v := (vs a4 a3.length c3)) rfl et Try.underlying28 rfl (hI.kblk (l := [(vs a4 a3.length c3)]) (.s (.s (.s .z))) rfl).1) ?_
 obtain ⟨r1, hx1, h⟩ := bnd_some h
 refine s_call gn rfl (r_callF (vs := [(vs a2 q1.length c2), (vs a4 a3.length c3)]) rfl ok_37 ⟨et, ⟨et, trivial⟩⟩) (Calls.mono (c_slices_Equal_int64_int64 (Dj F C0) w0 hI.lt q1 a3 a2 c2 a4 c3 ⟨(hI.get (.s .z)), (hI.get (.s (.s .z))), trivial⟩ r1 hx1) ?_)
 rintro _ w1 ⟨rfl, hx2, hl1⟩
 refine ⟨_, rfl, ?_⟩
 replace hI := (hI.ext hx2)
 refine nk ?_
 refine c_cond (b := r1) et (fun hb => ?_) (fun hb => ?_)
 ·replace h := ite_t hb h
  refine c_region rfl ?_
  refine sm ?_
  refine l_store (new := [(vs a1 p1.length c1)]) (cs' := #[(vs a1 p1.length c1)]) hI .z gn rfl rfl et et rfl size_24 rfl rfl rfl ?_
  clear hI; intro c6 w2 hI
  refine l_store (new := [(vb true)]) (cs' := #[(vb true)]) hI (.s .z) gn rfl rfl et ev_const rfl size_4 rfl rfl rfl ?_
  clear hI; intro c7 w3 hI
  refine nk ?_
  refine sr ?_
  refine sq (y_load1 (v := (vb true)) rfl et Try.underlying4 rfl (CellsAt.of_blk (hI.blk (.s .z)) rfl)) ?_
  refine sq (y_not rfl et) ?_
  refine sa ?_
  refine nk ?_
  refine c_ret ?_
  obtain rfl := some_inj h
  exact q_ret (vs := [(vb (!true))]) Try.results40 ⟨ev_tmp rfl rfl, trivial⟩ ⟨a1, c1, _, rfl, hI.arr (.c .z (.c .z .n)) ⟨.z, trivial⟩⟩
 ·replace h := ite_f hb h
  refine c_skip ?_
  refine k_same ?_
  refine sr ?_
  refine sq (y_load1 (v := (vb a7)) rfl et Try.underlying4 rfl (CellsAt.of_blk (hI.blk (.s .z)) rfl)) ?_
  refine sq (y_not rfl et) ?_
  refine sa ?_
  refine nk ?_
  refine c_ret ?_
  obtain rfl := some_inj h
  exact q_ret (vs := [(vb (!a7))]) Try.results40 ⟨ev_tmp rfl rfl, trivial⟩ ⟨a6, c4, _, rfl, hI.arr (.c .z (.c .z .n)) ⟨(.s (.s (.s (.s .z)))), trivial⟩⟩
set_option maxRecDepth 100000 in
set_option maxHeartbeats 4000000 in
theorem c_affine_FirstPreimage (F : NP) (w0 : World) (hF : ∀ k, F k → k < w0.heap.size) (m1 : List GLin) (names1 : List (List UInt8)) (ext1 : List Int) (to1 : List Int) (a1 : Option Addr) (c1 : Nat) (a2 : Option Addr) (c2 : Nat) (a3 : Option Addr) (c3 : Nat) (a4 : Option Addr) (c4 : Nat) (hc : AllCl [Cl.sl cGLin a1 c1 m1, Cl.sl cStr a2 c2 names1, Cl.sl (cInt .i64) a3 c3 ext1, Cl.sl (cInt .i64) a4 c4 to1] F w0) (r : List Int × Bool × Int)
  (h : m_affine_FirstPreimage m1 names1 ext1 to1 = some r) :
  Calls Try.prog 20 #[(vs a1 m1.length c1), (vs a2 names1.length c2), (vs a3 ext1.length c3), (vs a4 to1.length c4)] w0 fun e w => ∃ (a5 : Option Addr) (c5 : Nat), e = .returned (Value.tuple #[(vs a5 r.1.length c5), (vb r.2.1), (vi r.2.2)]) ∧ Ext w0 w ∧ AllCl [Cl.sl (cInt .i64) a5 c5 r.1] F w := by
 refine enterK (l := [(vs a1 m1.length c1), (vs a2 names1.length c2), (vs a3 ext1.length c3), (vs a4 to1.length c4)]) Try.func20 rfl Try.ntmps20 rfl ?_
 have hI := Bun.start hF hc
 clear hc
 rw [m_affine_FirstPreimage] at h
 refine sr ?_
 refine l_box (v := (vs a4 to1.length c4)) (cs := #[(vs a4 to1.length c4)]) hI gn rfl rfl et rfl ?_
 clear hI; intro b1 c6 w1 hI
 obtain ⟨c7, hI⟩ := hI.relBox .z
 refine sac ?_
 refine sac ?_
 refine sac ?_
 refine nk ?_
 refine c_seq ?_
 refine sr ?_
 refine sm ?_
 refine sm ?_
 obtain ⟨r1, hx1, h⟩ := bnd_some h
 refine s_call gn rfl (r_callF (vs := [(vs a1 m1.length c1), (vs a2 names1.length c2)]) rfl ok_12 ⟨et, ⟨et, trivial⟩⟩) (Calls.mono (c_affine_Validate (Dj F c7) w1 hI.lt m1 names1 a1 c1 a2 c2 ⟨(hI.get (.s .z)), (hI.get (.s (.s .z))), trivial⟩ r1 hx1) ?_)
 rintro _ w2 ⟨rfl, hx2, hl1⟩
 refine ⟨_, rfl, ?_⟩
 replace hI := (hI.ext hx2)
 refine sa ?_
 refine nk ?_
 refine sr ?_
 refine sm ?_
 refine sq (y_neq rfl et ev_const) ?_
 refine nk ?_
 refine c_cond (b := !decide (r1 = 0)) et (fun hb => ?_) (fun hb => ?_)
 ·replace h := ite_t hb h
  refine sr ?_
  refine sm ?_
  refine sac ?_
  refine sac ?_
  refine sa ?_
  refine nk ?_
  refine c_ret ?_
  have hI := hI.add (c := Cl.sl (cInt .i64) none 0 ([] : List Int)) SlC.nil
  obtain rfl := some_inj h
  exact q_ret (vs := [(vs none 0 0), (vb false), (vi r1)]) Try.results20 ⟨ev_tmp rfl rfl, ⟨ev_tmp rfl rfl, ⟨ev_tmp rfl rfl, trivial⟩⟩⟩ ⟨none, 0, rfl, hI.ext0, hI.fin ⟨.z, trivial⟩⟩
 ·replace h := ite_f hb h
  refine c_skip ?_
  refine k_same ?_
  refine c_seq ?_
  refine sr ?_
  refine sm ?_
  refine sm ?_
  obtain ⟨r2, hx3, h⟩ := bnd_some h
  refine s_call gn rfl (r_callF (vs := [(vs a2 names1.length c2), (vs a3 ext1.length c3)]) rfl ok_34 ⟨et, ⟨et, trivial⟩⟩) (Calls.mono (c_affine_boxed (Dj F c7) w2 hI.lt names1 ext1 a2 c2 a3 c3 ⟨(hI.get (.s (.s .z))), (hI.get (.s (.s (.s .z)))), trivial⟩ r2 hx3) ?_)
  rintro _ w3 ⟨rfl, hx4, hl2⟩
  refine ⟨_, rfl, ?_⟩
  replace hI := (hI.ext hx4)
  refine sa ?_
  refine nk ?_
  refine sr ?_
  refine sm ?_
  refine sq (y_neq rfl et ev_const) ?_
  refine nk ?_
  refine c_cond (b := !decide (r2 = 0)) et (fun hb => ?_) (fun hb => ?_)
  ·replace h := ite_t hb h
   refine sr ?_
   refine sm ?_
   refine sac ?_
   refine sac ?_
   refine sa ?_
   refine nk ?_
   refine c_ret ?_
   have hI := hI.add (c := Cl.sl (cInt .i64) none 0 ([] : List Int)) SlC.nil
   obtain rfl := some_inj h
   exact q_ret (vs := [(vs none 0 0), (vb false), (vi r2)]) Try.results20 ⟨ev_tmp rfl rfl, ⟨ev_tmp rfl rfl, ⟨ev_tmp rfl rfl, trivial⟩⟩⟩ ⟨none, 0, rfl, hI.ext0, hI.fin ⟨.z, trivial⟩⟩
  ·replace h := ite_f hb h
   refine c_skip ?_
   refine k_same ?_
   refine c_seq ?_
   refine sr ?_
   refine sq (y_load1 (v := (vs a4 to1.length c4)) rfl et Try.underlying28 rfl (hI.kblk (l := [(vs a4 to1.length c4)]) .z rfl).1) ?_
   refine sq (y_lenl rfl Try.underlying28 et) ?_
   refine sm ?_
   refine sq (y_lenl rfl Try.underlying22 et) ?_
   refine sq (y_neq rfl et et) ?_
   refine nk ?_
   refine c_cond (b := !decide ((to1.length : Int) = (m1.length : Int))) et (fun hb => ?_) (fun hb => ?_)
   ·replace h := ite_t hb h
    refine sr ?_
    refine sac ?_
    refine sac ?_
    refine sac ?_
    refine nk ?_
    refine c_ret ?_
    have hI := hI.add (c := Cl.sl (cInt .i64) none 0 ([] : List Int)) SlC.nil
    obtain rfl := some_inj h
    exact q_ret (vs := [(vs none 0 0), (vb false), (vi 11)]) Try.results20 ⟨ev_tmp rfl rfl, ⟨ev_tmp rfl rfl, ⟨ev_tmp rfl rfl, trivial⟩⟩⟩ ⟨none, 0, rfl, hI.ext0, hI.fin ⟨.z, trivial⟩⟩
   ·replace h := ite_f hb h
    refine c_skip ?_
    refine k_same ?_
    refine sr ?_
    refine l_alloc (cs := #[(vs none 0 0)]) hI gn rfl rfl zero_24 rfl ?_
    clear hI; intro b2 c8 w4 hI
    refine nk ?_
    refine sr ?_
    refine l_alloc (cs := #[(vb false)]) hI gn rfl rfl zero_4 rfl ?_
    clear hI; intro b3 c9 w5 hI
    refine l_store (new := [(vb false)]) (cs' := #[(vb false)]) hI .z gn rfl rfl et ev_const rfl size_4 rfl rfl rfl ?_
    clear hI; intro c10 w6 hI
    refine nk ?_
    refine sr ?_
    refine sm ?_
    refine sm ?_
    refine sm ?_
    refine sq (y_makeFunc (vs := []) (cap := [(vp b1 0), (vp b2 0), (vp b3 0)]) rfl rfl ⟨et, ⟨et, ⟨et, trivial⟩⟩⟩) ?_
    have hI := hI.add (c := Cl.sl (cInt .i64) none 0 ([] : List Int)) SlC.nil
    obtain ⟨c11, f1, hB, hl3, hk1⟩ := hI.hands (.l (.l .n))
    replace hB := hB.ord (.c (.s .z) (.c .z .n))
    have hB : Bun c11 f1 w6 c11 w6 [MO.st (StI.of (fun (s : (List Int) × Bool) (b : (Option Addr) × Nat) => [MO.box b2 24 #[(vs (b.1) (s.1).length (b.2))], MO.box b3 4 #[(vb (s.2))]]) (fun (s : (List Int) × Bool) (b : (Option Addr) × Nat) => [Cl.sl (cInt .i64) (b.1) (b.2) (s.1)])) (([] : List Int), false)] _ := Bun.mkst (b := (none, 0)) hB ⟨.z, trivial⟩
    have hC := hB
    have hY1 : fnS_k2 (StI.of (fun (s : (List Int) × Bool) (b : (Option Addr) × Nat) => [MO.box b2 24 #[(vs (b.1) (s.1).length (b.2))], MO.box b3 4 #[(vb (s.2))]]) (fun (s : (List Int) × Bool) (b : (Option Addr) × Nat) => [Cl.sl (cInt .i64) (b.1) (b.2) (s.1)])) (Value.func (.func 40) #[] #[(vp b1 0), (vp b2 0), (vp b3 0)]) (fun x_1 x_4 s => m_affine_FirstPreimage_1_w2 x_1 x_4 to1 (s.1) (s.2)) (Dj f1 c11) w6 := by
     refine ⟨rfl, fun C0 F w' hs x_1 x_4 A_2 c_3 A_5 c_6 s r hB h => ?_⟩
     obtain ⟨⟨a6, c12⟩, hB⟩ := Bun.unst hB
     replace hB := hB.add (c := Cl.sl (cInt .i64) a4 c4 to1) (Cl.sp _ hs (hC.get (.s (.s (.s (.s (.s .z)))))))
     replace hB := hB.add (c := Cl.blk b1 28 #[(vs a4 to1.length c4)]) (Cl.sp _ hs (hC.get (.s .z)))
     refine CallV.fn (cap := [(vp b1 0), (vp b2 0), (vp b3 0)]) ok_40 (Calls.mono (c_affine_FirstPreimage_1_w2 C0 F w' x_1 x_4 to1 (s.1) (s.2) A_2 c_3 A_5 c_6 b1 a4 c4 b2 a6 c12 b3 (hB.subs ⟨(.s (.s (.s .z))), (.s (.s (.s (.s .z)))), (.s .z), .z, (.s (.s .z)), trivial⟩) r h) ?_)
     rintro _ w'' ⟨z1, z2, C', rfl, hB2⟩
     exact ⟨C', rfl, (Bun.mkst (os := (fun (s : (List Int) × Bool) (b : (Option Addr) × Nat) => [MO.box b2 24 #[(vs (b.1) (s.1).length (b.2))], MO.box b3 4 #[(vb (s.2))]])) (cl := (fun (s : (List Int) × Bool) (b : (Option Addr) × Nat) => [Cl.sl (cInt .i64) (b.1) (b.2) (s.1)])) (s := r.2) (b := (z1, z2)) hB2 ⟨.z, trivial⟩).subs trivial⟩
    obtain ⟨⟨r3, s1⟩, hx5, h⟩ := bnd_some h
    try dsimp only at h
    refine s_call gn rfl (r_callF (vs := [(vs a1 m1.length c1), (vs a2 names1.length c2), (vs a3 ext1.length c3), (Value.func (.func 40) #[] #[(vp b1 0), (vp b2 0), (vp b3 0)])]) rfl ok_39 ⟨et, ⟨et, ⟨et, ⟨et, trivial⟩⟩⟩⟩) (Calls.mono (c_affine_visit_s (StI.of (fun (s : (List Int) × Bool) (b : (Option Addr) × Nat) => [MO.box b2 24 #[(vs (b.1) (s.1).length (b.2))], MO.box b3 4 #[(vb (s.2))]]) (fun (s : (List Int) × Bool) (b : (Option Addr) × Nat) => [Cl.sl (cInt .i64) (b.1) (b.2) (s.1)])) c11 f1 w6 m1 names1 ext1 (fun x_1 x_4 s => m_affine_FirstPreimage_1_w2 x_1 x_4 to1 (s.1) (s.2)) (([] : List Int), false) a1 c1 a2 c2 a3 c3 (Value.func (.func 40) #[] #[(vp b1 0), (vp b2 0), (vp b3 0)]) ((hB.add (c := (clFnS_k2 (StI.of (fun (s : (List Int) × Bool) (b : (Option Addr) × Nat) => [MO.box b2 24 #[(vs (b.1) (s.1).length (b.2))], MO.box b3 4 #[(vb (s.2))]]) (fun (s : (List Int) × Bool) (b : (Option Addr) × Nat) => [Cl.sl (cInt .i64) (b.1) (b.2) (s.1)])) (Value.func (.func 40) #[] #[(vp b1 0), (vp b2 0), (vp b3 0)]) (fun x_1 x_4 s => m_affine_FirstPreimage_1_w2 x_1 x_4 to1 (s.1) (s.2)))) hY1).subs ⟨(.s (.s (.s .z))), (.s (.s (.s (.s .z)))), (.s (.s (.s (.s (.s .z))))), .z, trivial⟩) _ hx5) ?_)
    rintro _ w7 ⟨c13, rfl, hB2⟩
    obtain ⟨⟨a7, c14⟩, hB2⟩ := Bun.unst hB2
    obtain ⟨c15, hs1, hI⟩ := hk1 _ _ _ _ hB2
    replace hI : Bun noM F w0 c15 w7 [MO.box b2 24 #[(vs a7 (s1.1).length c14)], MO.box b3 4 #[(vb (s1.2))]] [Cl.sl (cInt .i64) a7 c14 (s1.1), Cl.sl (cInt .i64) none 0 ([] : List Int), Cl.blk b1 28 #[(vs a4 to1.length c4)], Cl.sl cGLin a1 c1 m1, Cl.sl cStr a2 c2 names1, Cl.sl (cInt .i64) a3 c3 ext1, Cl.sl (cInt .i64) a4 c4 to1] := hI
    refine ⟨_, rfl, ?_⟩
    refine sa ?_
    refine s_nil ?_
    refine k_next (e := [(13, (vp b2 0)), (14, (vp b3 0)), (15, (vi r3))]) ⟨rfl, rfl, rfl, trivial⟩ ?_
    refine c_seq ?_
    refine sr ?_
    refine sm ?_
    refine sq (y_neq rfl et ev_const) ?_
    refine nk ?_
    refine c_cond (b := !decide (r3 = 0)) et (fun hb => ?_) (fun hb => ?_)
    ·replace h := ite_t hb h
     refine sr ?_
     refine sm ?_
     refine sac ?_
     refine sac ?_
     refine sa ?_
     refine nk ?_
     refine c_ret ?_
     obtain rfl := some_inj h
     exact q_ret (vs := [(vs none 0 0), (vb false), (vi r3)]) Try.results20 ⟨ev_tmp rfl rfl, ⟨ev_tmp rfl rfl, ⟨ev_tmp rfl rfl, trivial⟩⟩⟩ ⟨none, 0, rfl, hI.ext0, hI.fin ⟨(.s .z), trivial⟩⟩
    ·replace h := ite_f hb h
     refine c_skip ?_
     refine k_same ?_
     refine c_seq ?_
     refine c_drawX [] false (.c (0, .q) (.c (1, .q) (.c (2, .q) (.c (3, .q) (.c (4, .q) .n))))) hI (by kernel_rfl) (by kernel_rfl) ?_
     clear hI; intro w8 hI
     refine a_read rfl gn rfl (fun w' hw' => (y_load1 (v := (vs a7 (s1.1).length c14)) rfl et Try.underlying24 rfl ((CA.blk (hI.blk .z) rfl).at_ (SX.any rfl hw')))) (by kernel_rfl) ?_
     refine a_read rfl gn rfl (fun w' hw' => (y_load1 (v := (vb (s1.2))) rfl et Try.underlying4 rfl ((CA.blk (hI.blk (.s .z)) rfl).at_ (SX.any rfl hw')))) (by kernel_rfl) ?_
     refine a_q rfl gn rfl (fun w' => (y_assign rfl et)) ?_
     refine a_q rfl gn rfl (fun w' => (y_assign rfl et)) ?_
     refine a_q rfl gn rfl (fun w' => (y_assign rfl ev_const)) ?_
     refine a_nil ?_
     refine k_same ?_
     refine c_ret ?_
     obtain rfl := some_inj h
     exact q_ret (vs := [(vs a7 (s1.1).length c14), (vb (s1.2)), (vi 0)]) Try.results20 ⟨ev_tmp rfl rfl, ⟨ev_tmp rfl rfl, ⟨ev_tmp rfl rfl, trivial⟩⟩⟩ ⟨a7, c14, rfl, hI.ext0, hI.fin ⟨.z, trivial⟩⟩
set_option maxRecDepth 100000 in
set_option maxHeartbeats 4000000 in
theorem c_base_Int64s (F : NP) (w0 : World) (hF : ∀ k, F k → k < w0.heap.size) (a1 : List Int) (b1 : List Int) (a2 : Option Addr) (c1 : Nat) (a3 : Option Addr) (c2 : Nat) (hc : AllCl [Cl.sl (cInt .i64) a2 c1 a1, Cl.sl (cInt .i64) a3 c2 b1] F w0) (r : Bool)
  (h : m_base_Int64s a1 b1 = some r) :
  Calls Try.prog 14 #[(vs a2 a1.length c1), (vs a3 b1.length c2)] w0 fun e w => e = .returned (vb r) ∧ Ext w0 w ∧ AllCl [] F w := by
 refine enterK (l := [(vs a2 a1.length c1), (vs a3 b1.length c2)]) Try.func14 rfl Try.ntmps14 rfl ?_
 have hI := Bun.start hF hc
 clear hc
 rw [m_base_Int64s] at h
 refine sr ?_
 refine sac ?_
 refine nk ?_
 refine c_seq ?_
 refine sr ?_
 refine sm ?_
 refine sq (y_lenl rfl Try.underlying28 et) ?_
 refine sm ?_
 refine sq (y_lenl rfl Try.underlying28 et) ?_
 refine sq (y_neq rfl et et) ?_
 refine nk ?_
 refine c_cond (b := !decide ((a1.length : Int) = (b1.length : Int))) et (fun hb => ?_) (fun hb => ?_)
 ·replace h := ite_t hb h
  refine sr ?_
  refine sac ?_
  refine nk ?_
  refine c_ret ?_
  obtain rfl := some_inj h
  exact q_ret (vs := [(vb false)]) Try.results14 ⟨ev_tmp rfl rfl, trivial⟩ ⟨rfl, hI.ext0, hI.fin trivial⟩
 ·replace h := ite_f hb h
  refine c_skip ?_
  refine k_same ?_
  refine c_seq ?_
  refine sr ?_
  refine sac ?_
  refine nk ?_
  refine c_block ?_
  refine c_loop (α := Nat × Int) (fun x => fun w => ∃ C, Bun noM F w0 C w [] [Cl.sl (cInt .i64) a2 c1 a1, Cl.sl (cInt .i64) a3 c2 b1] ∧ m_base_Int64s_l1 a1 b1 (x.1) (x.2) = some r) (fun x _ => x.1) (fun x => [(0, (vs a2 a1.length c1)), (1, (vs a3 b1.length c2)), (5, (vi (x.2)))]) (fu, 0) ⟨_, hI.arr .n ⟨.z, (.s .z), trivial⟩, h⟩ ⟨rfl, rfl, rfl, trivial⟩ ?_
  clear h hI; rintro ⟨fuel1, i1⟩ w1 ⟨c3, hI, h⟩
  dsimp only at hI h
  rcases fuel1 with _ | fuel1
  ·rw [m_base_Int64s_l1] at h; cases h
  rw [m_base_Int64s_l1] at h
  refine c_sub (e := [(0, (vs a2 a1.length c1)), (1, (vs a3 b1.length c2)), (5, (vi i1))]) ⟨rfl, rfl, rfl, trivial⟩ ?_
  refine c_seq ?_
  refine sr ?_
  refine sm ?_
  refine sm ?_
  refine sq (y_lenl rfl Try.underlying28 et) ?_
  refine sq (y_lss rfl et et) ?_
  refine nk ?_
  refine c_cond (b := decide (i1 < (a1.length : Int))) et (fun hb => ?_) (fun hb => ?_)
  ·replace h := ite_t hb h
   refine c_skip ?_
   refine k_same ?_
   refine c_seq ?_
   refine c_block ?_
   refine c_seq ?_
   refine c_drawX [] false (.c (0, .q) (.c (1, .q) (.c (2, .q) (.c (3, .q) (.c (4, .q) (.c (5, .q) (.c (6, .q) (.c (7, .q) (.c (8, .q) .n))))))))) hI (by kernel_rfl) (by kernel_rfl) ?_
   clear hI; intro w2 hI
   refine a_q rfl gn rfl (fun w' => (y_move rfl et)) ?_
   refine a_q rfl gn rfl (fun w' => (y_move rfl et)) ?_
   obtain ⟨e1, hx1, h⟩ := bnd_some h
   obtain ⟨ad1, cs1, hA1, hr1, hq1⟩ := hI.clat .z hx1
   obtain rfl : cs1 = [(vi e1)] := hr1
   refine a_q rfl gn rfl (fun w' => (y_indexAddr rfl Try.underlying28 size_2 et et (lat_bd hx1) hA1)) ?_
   refine a_read rfl gn rfl (fun w' hw' => (y_load1 (v := (vi e1)) rfl et Try.underlying2 rfl (hq1.at_ (SX.any rfl hw')))) (by kernel_rfl) ?_
   refine a_q rfl gn rfl (fun w' => (y_move rfl et)) ?_
   refine a_q rfl gn rfl (fun w' => (y_move rfl et)) ?_
   obtain ⟨e2, hx2, h⟩ := bnd_some h
   obtain ⟨ad2, cs2, hA2, hr2, hq2⟩ := hI.clat (.s .z) hx2
   obtain rfl : cs2 = [(vi e2)] := hr2
   refine a_q rfl gn rfl (fun w' => (y_indexAddr rfl Try.underlying28 size_2 et et (lat_bd hx2) hA2)) ?_
   refine a_read rfl gn rfl (fun w' hw' => (y_load1 (v := (vi e2)) rfl et Try.underlying2 rfl (hq2.at_ (SX.any rfl hw')))) (by kernel_rfl) ?_
   refine a_q rfl gn rfl (fun w' => (y_neq rfl et et)) ?_
   refine a_nil ?_
   refine k_same ?_
   refine c_cond (b := !decide (e1 = e2)) et (fun hb => ?_) (fun hb => ?_)
   ·replace h := ite_t hb h
    refine sr ?_
    refine sac ?_
    refine nk ?_
    refine c_ret ?_
    obtain rfl := some_inj h
    exact q_ret (vs := [(vb false)]) Try.results14 ⟨ev_tmp rfl rfl, trivial⟩ ⟨rfl, hI.ext0, hI.fin trivial⟩
   ·replace h := ite_f hb h
    refine c_skip ?_
    refine k_same ?_
    refine c_region rfl ?_
    refine sm ?_
    refine sq (y_add rfl et ev_const) ?_
    refine sa ?_
    refine s_nil ?_
    exact k_loop (fuel1, wi64 (i1 + 1)) ⟨rfl, rfl, rfl, trivial⟩ ⟨_, hI.arr .n ⟨.z, (.s .z), trivial⟩, h⟩ (Nat.lt_succ_self _)
  ·replace h := ite_f hb h
   refine c_exit ?_
   refine k_in ?_
   refine k_same ?_
   refine sr ?_
   refine sac ?_
   refine nk ?_
   refine c_ret ?_
   obtain rfl := some_inj h
   exact q_ret (vs := [(vb true)]) Try.results14 ⟨ev_tmp rfl rfl, trivial⟩ ⟨rfl, hI.ext0, hI.fin trivial⟩
set_option maxRecDepth 100000 in
set_option maxHeartbeats 4000000 in
theorem c_base_Ints (F : NP) (w0 : World) (hF : ∀ k, F k → k < w0.heap.size) (a1 : List Int) (b1 : List Int) (a2 : Option Addr) (c1 : Nat) (a3 : Option Addr) (c2 : Nat) (hc : AllCl [Cl.sl (cInt .i64) a2 c1 a1, Cl.sl (cInt .i64) a3 c2 b1] F w0) (r : Bool)
  (h : m_base_Ints a1 b1 = some r) :
  Calls Try.prog 24 #[(vs a2 a1.length c1), (vs a3 b1.length c2)] w0 fun e w => e = .returned (vb r) ∧ Ext w0 w ∧ AllCl [] F w := by
 refine enterK (l := [(vs a2 a1.length c1), (vs a3 b1.length c2)]) Try.func24 rfl Try.ntmps24 rfl ?_
 have hI := Bun.start hF hc
 clear hc
 rw [m_base_Ints] at h
 refine sr ?_
 refine sac ?_
 refine nk ?_
 refine c_seq ?_
 refine sr ?_
 refine sm ?_
 refine sq (y_lenl rfl Try.underlying24 et) ?_
 refine sm ?_
 refine sq (y_lenl rfl Try.underlying24 et) ?_
 refine sq (y_neq rfl et et) ?_
 refine nk ?_
 refine c_cond (b := !decide ((a1.length : Int) = (b1.length : Int))) et (fun hb => ?_) (fun hb => ?_)
 ·replace h := ite_t hb h
  refine sr ?_
  refine sac ?_
  refine nk ?_
  refine c_ret ?_
  obtain rfl := some_inj h
  exact q_ret (vs := [(vb false)]) Try.results24 ⟨ev_tmp rfl rfl, trivial⟩ ⟨rfl, hI.ext0, hI.fin trivial⟩
 ·replace h := ite_f hb h
  refine c_skip ?_
  refine k_same ?_
  refine c_seq ?_
  refine sr ?_
  refine sac ?_
  refine nk ?_
  refine c_block ?_
  refine c_loop (α := Nat × Int) (fun x => fun w => ∃ C, Bun noM F w0 C w [] [Cl.sl (cInt .i64) a2 c1 a1, Cl.sl (cInt .i64) a3 c2 b1] ∧ m_base_Ints_l1 a1 b1 (x.1) (x.2) = some r) (fun x _ => x.1) (fun x => [(0, (vs a2 a1.length c1)), (1, (vs a3 b1.length c2)), (5, (vi (x.2)))]) (fu, 0) ⟨_, hI.arr .n ⟨.z, (.s .z), trivial⟩, h⟩ ⟨rfl, rfl, rfl, trivial⟩ ?_
  clear h hI; rintro ⟨fuel1, i1⟩ w1 ⟨c3, hI, h⟩
  dsimp only at hI h
  rcases fuel1 with _ | fuel1
  ·rw [m_base_Ints_l1] at h; cases h
  rw [m_base_Ints_l1] at h
  refine c_sub (e := [(0, (vs a2 a1.length c1)), (1, (vs a3 b1.length c2)), (5, (vi i1))]) ⟨rfl, rfl, rfl, trivial⟩ ?_
  refine c_seq ?_
  refine sr ?_
  refine sm ?_
  refine sm ?_
  refine sq (y_lenl rfl Try.underlying24 et) ?_
  refine sq (y_lss rfl et et) ?_
  refine nk ?_
  refine c_cond (b := decide (i1 < (a1.length : Int))) et (fun hb => ?_) (fun hb => ?_)
  ·replace h := ite_t hb h
   refine c_skip ?_
   refine k_same ?_
   refine c_seq ?_
   refine c_block ?_
   refine c_seq ?_
   refine c_drawX [] false (.c (0, .q) (.c (1, .q) (.c (2, .q) (.c (3, .q) (.c (4, .q) (.c (5, .q) (.c (6, .q) (.c (7, .q) (.c (8, .q) .n))))))))) hI (by kernel_rfl) (by kernel_rfl) ?_
   clear hI; intro w2 hI
   refine a_q rfl gn rfl (fun w' => (y_move rfl et)) ?_
   refine a_q rfl gn rfl (fun w' => (y_move rfl et)) ?_
   obtain ⟨e1, hx1, h⟩ := bnd_some h
   obtain ⟨ad1, cs1, hA1, hr1, hq1⟩ := hI.clat .z hx1
   obtain rfl : cs1 = [(vi e1)] := hr1
   refine a_q rfl gn rfl (fun w' => (y_indexAddr rfl Try.underlying24 size_3 et et (lat_bd hx1) hA1)) ?_
   refine a_read rfl gn rfl (fun w' hw' => (y_load1 (v := (vi e1)) rfl et Try.underlying3 rfl (hq1.at_ (SX.any rfl hw')))) (by kernel_rfl) ?_
   refine a_q rfl gn rfl (fun w' => (y_move rfl et)) ?_
   refine a_q rfl gn rfl (fun w' => (y_move rfl et)) ?_
   obtain ⟨e2, hx2, h⟩ := bnd_some h
   obtain ⟨ad2, cs2, hA2, hr2, hq2⟩ := hI.clat (.s .z) hx2
   obtain rfl : cs2 = [(vi e2)] := hr2
   refine a_q rfl gn rfl (fun w' => (y_indexAddr rfl Try.underlying24 size_3 et et (lat_bd hx2) hA2)) ?_
   refine a_read rfl gn rfl (fun w' hw' => (y_load1 (v := (vi e2)) rfl et Try.underlying3 rfl (hq2.at_ (SX.any rfl hw')))) (by kernel_rfl) ?_
   refine a_q rfl gn rfl (fun w' => (y_neq rfl et et)) ?_
   refine a_nil ?_
   refine k_same ?_
   refine c_cond (b := !decide (e1 = e2)) et (fun hb => ?_) (fun hb => ?_)
   ·replace h := ite_t hb h
    refine sr ?_
    refine sac ?_
    refine nk ?_
    refine c_ret ?_
    obtain rfl := some_inj h
    exact q_ret (vs := [(vb false)]) Try.results24 ⟨ev_tmp rfl rfl, trivial⟩ ⟨rfl, hI.ext0, hI.fin trivial⟩
   ·replace h := ite_f hb h
    refine c_skip ?_
    refine k_same ?_
    refine c_region rfl ?_
    refine sm ?_
    refine sq (y_add rfl et ev_const) ?_
    refine sa ?_
    refine s_nil ?_
    exact k_loop (fuel1, wi64 (i1 + 1)) ⟨rfl, rfl, rfl, trivial⟩ ⟨_, hI.arr .n ⟨.z, (.s .z), trivial⟩, h⟩ (Nat.lt_succ_self _)
  ·replace h := ite_f hb h
   refine c_exit ?_
   refine k_in ?_
   refine k_same ?_
   refine sr ?_
   refine sac ?_
   refine nk ?_
   refine c_ret ?_
   obtain rfl := some_inj h
   exact q_ret (vs := [(vb true)]) Try.results24 ⟨ev_tmp rfl rfl, trivial⟩ ⟨rfl, hI.ext0, hI.fin trivial⟩
set_option maxRecDepth 100000 in
set_option maxHeartbeats 4000000 in
theorem c_law10_examples (F : NP) (w0 : World) (hF : ∀ k, F k → k < w0.heap.size) (hc : AllCl [] F w0) (r : Bool)
  (h : m_law10_examples = some r) :
  Calls Try.prog 9 #[] w0 fun e w => e = .returned (vb r) ∧ Ext w0 w ∧ AllCl [] F w := by
 refine enterK (l := []) Try.func9 rfl Try.ntmps9 rfl ?_
 have hI := Bun.start hF hc
 clear hc
 rw [m_law10_examples] at h
 refine sr ?_
 refine sac ?_
 refine nk ?_
 refine sr ?_
 refine l_lit (c := cStr) (xs := ([([105] : List UInt8), ([106] : List UInt8)] : List (List UInt8))) (vs := [(0, (str ([105] : List UInt8))), (1, (str ([106] : List UInt8)))]) (cs := #[(str ([105] : List UInt8)), (str ([106] : List UInt8))]) (css := [[(str ([105] : List UInt8))], [(str ([106] : List UInt8))]]) hI gn rfl rfl Try.underlying23 info_9 rfl ⟨rfl, ev_const, ⟨rfl, ev_const, trivial⟩⟩ (by kernel_rfl) ⟨rfl, ⟨rfl, trivial⟩⟩ rfl rfl rfl ?_
 clear hI; intro b1 c1 w1 hI
 refine sa ?_
 refine nk ?_
 refine sr ?_
 refine sq (y_build (vs := [(0, (str ([105] : List UInt8))), (1, (vi 2))]) (cs := #[(str ([105] : List UInt8)), (vi 2)]) rfl ⟨rfl, ev_const, ⟨rfl, ev_const, trivial⟩⟩ (by kernel_rfl)) ?_
 refine sq (y_build (vs := [(0, (str ([106] : List UInt8))), (1, (vi 1))]) (cs := #[(str ([106] : List UInt8)), (vi 1)]) rfl ⟨rfl, ev_const, ⟨rfl, ev_const, trivial⟩⟩ (by kernel_rfl)) ?_
 refine l_lit (c := cGMono) (xs := ([(⟨([105] : List UInt8), 2⟩ : GMono), (⟨([106] : List UInt8), 1⟩ : GMono)] : List GMono)) (vs := [(0, (Value.agg #[(str ([105] : List UInt8)), (vi 2)])), (1, (Value.agg #[(str ([106] : List UInt8)), (vi 1)]))]) (cs := #[(str ([105] : List UInt8)), (vi 2), (str ([106] : List UInt8)), (vi 1)]) (css := [[(str ([105] : List UInt8)), (vi 2)], [(str ([106] : List UInt8)), (vi 1)]]) hI gn rfl rfl Try.underlying49 info_53 rfl ⟨rfl, et, ⟨rfl, et, trivial⟩⟩ (by kernel_rfl) ⟨rfl, ⟨rfl, trivial⟩⟩ rfl rfl rfl ?_
 clear hI; intro b2 c2 w2 hI
 refine sq (y_build (vs := [(1, (vs (some ⟨b2, 0, none⟩) ([(⟨([105] : List UInt8), 2⟩ : GMono), (⟨([106] : List UInt8), 1⟩ : GMono)] : List GMono).length 2))]) (cs := #[(vi 0), (vs (some ⟨b2, 0, none⟩) ([(⟨([105] : List UInt8), 2⟩ : GMono), (⟨([106] : List UInt8), 1⟩ : GMono)] : List GMono).length 2)]) rfl ⟨rfl, et, trivial⟩ (by kernel_rfl)) ?_
 refine sq (y_build (vs := [(0, (vi 3))]) (cs := #[(vi 3), (vs none 0 0)]) rfl ⟨rfl, ev_const, trivial⟩ (by kernel_rfl)) ?_
 obtain ⟨c3, hI⟩ := hI.release .z
 have hI := hI.add (c := Cl.sl cGMono none 0 ([] : List GMono)) SlC.nil
 refine l_lit (c := cGLin) (xs := ([(⟨0, ([(⟨([105] : List UInt8), 2⟩ : GMono), (⟨([106] : List UInt8), 1⟩ : GMono)] : List GMono)⟩ : GLin), (⟨3, ([] : List GMono)⟩ : GLin)] : List GLin)) (vs := [(0, (Value.agg #[(vi 0), (vs (some ⟨b2, 0, none⟩) ([(⟨([105] : List UInt8), 2⟩ : GMono), (⟨([106] : List UInt8), 1⟩ : GMono)] : List GMono).length 2)])), (1, (Value.agg #[(vi 3), (vs none 0 0)]))]) (cs := #[(vi 0), (vs (some ⟨b2, 0, none⟩) ([(⟨([105] : List UInt8), 2⟩ : GMono), (⟨([106] : List UInt8), 1⟩ : GMono)] : List GMono).length 2), (vi 3), (vs none 0 0)]) (css := [[(vi 0), (vs (some ⟨b2, 0, none⟩) ([(⟨([105] : List UInt8), 2⟩ : GMono), (⟨([106] : List UInt8), 1⟩ : GMono)] : List GMono).length 2)], [(vi 3), (vs none 0 0)]]) hI gn rfl rfl Try.underlying22 info_51 rfl ⟨rfl, et, ⟨rfl, et, trivial⟩⟩ (by kernel_rfl) ⟨⟨(some ⟨b2, 0, none⟩), 2, rfl, hI.get (.s .z)⟩, ⟨⟨none, 0, rfl, hI.get .z⟩, trivial⟩⟩ rfl rfl rfl ?_
 clear hI; intro b3 c4 w3 hI
 refine sa ?_
 refine nk ?_
 refine sr ?_
 refine sm ?_
 refine sm ?_
 refine l_lit (c := (cInt .i64)) (xs := ([1, 2] : List Int)) (vs := [(0, (vi 1)), (1, (vi 2))]) (cs := #[(vi 1), (vi 2)]) (css := [[(vi 1)], [(vi 2)]]) hI gn rfl rfl Try.underlying24 info_3 rfl ⟨rfl, ev_const, ⟨rfl, ev_const, trivial⟩⟩ (by kernel_rfl) ⟨rfl, ⟨rfl, trivial⟩⟩ rfl rfl rfl ?_
 clear hI; intro b4 c5 w4 hI
 obtain ⟨c6, hI⟩ := hI.release (.s .z)
 obtain ⟨c7, hI⟩ := hI.release (.s .z)
 obtain ⟨c8, hI⟩ := hI.release .z
 obtain ⟨r1, hx1, h⟩ := bnd_some h
 refine s_call gn rfl (r_callF (vs := [(vs (some ⟨b3, 0, none⟩) ([(⟨0, ([(⟨([105] : List UInt8), 2⟩ : GMono), (⟨([106] : List UInt8), 1⟩ : GMono)] : List GMono)⟩ : GLin), (⟨3, ([] : List GMono)⟩ : GLin)] : List GLin).length 2), (vs (some ⟨b1, 0, none⟩) ([([105] : List UInt8), ([106] : List UInt8)] : List (List UInt8)).length 2), (vs (some ⟨b4, 0, none⟩) ([1, 2] : List Int).length 2)]) rfl ok_10 ⟨et, ⟨et, ⟨et, trivial⟩⟩⟩) (Calls.mono (c_affine_Apply (Dj F c8) w4 hI.lt ([(⟨0, ([(⟨([105] : List UInt8), 2⟩ : GMono), (⟨([106] : List UInt8), 1⟩ : GMono)] : List GMono)⟩ : GLin), (⟨3, ([] : List GMono)⟩ : GLin)] : List GLin) ([([105] : List UInt8), ([106] : List UInt8)] : List (List UInt8)) ([1, 2] : List Int) (some ⟨b3, 0, none⟩) 2 (some ⟨b1, 0, none⟩) 2 (some ⟨b4, 0, none⟩) 2 ⟨(hI.get (.s (.s .z))), (hI.get (.s .z)), (hI.get .z), trivial⟩ r1 hx1) ?_)
 rintro _ w5 ⟨a1, c9, rfl, hx2, hl1⟩
 refine ⟨_, rfl, ?_⟩
 replace hI := (hI.ext hx2).adds hl1
 refine sm ?_
 refine sq (y_extract rfl et rfl) ?_
 refine sq (y_extract rfl et rfl) ?_
 refine sa ?_
 refine sa ?_
 refine nk ?_
 refine sr ?_
 refine sm ?_
 refine sm ?_
 refine l_lit (c := (cInt .i64)) (xs := ([2, 3] : List Int)) (vs := [(0, (vi 2)), (1, (vi 3))]) (cs := #[(vi 2), (vi 3)]) (css := [[(vi 2)], [(vi 3)]]) hI gn rfl rfl Try.underlying24 info_3 rfl ⟨rfl, ev_const, ⟨rfl, ev_const, trivial⟩⟩ (by kernel_rfl) ⟨rfl, ⟨rfl, trivial⟩⟩ rfl rfl rfl ?_
 clear hI; intro b5 c10 w6 hI
 obtain ⟨r2, hx3, h⟩ := bnd_some h
 refine s_call gn rfl (r_callF (vs := [(vs (some ⟨b3, 0, none⟩) ([(⟨0, ([(⟨([105] : List UInt8), 2⟩ : GMono), (⟨([106] : List UInt8), 1⟩ : GMono)] : List GMono)⟩ : GLin), (⟨3, ([] : List GMono)⟩ : GLin)] : List GLin).length 2), (vs (some ⟨b1, 0, none⟩) ([([105] : List UInt8), ([106] : List UInt8)] : List (List UInt8)).length 2), (vs (some ⟨b5, 0, none⟩) ([2, 3] : List Int).length 2)]) rfl ok_17 ⟨et, ⟨et, ⟨et, trivial⟩⟩⟩) (Calls.mono (c_affine_Injective noM w6 (fun _ k => k.elim) ([(⟨0, ([(⟨([105] : List UInt8), 2⟩ : GMono), (⟨([106] : List UInt8), 1⟩ : GMono)] : List GMono)⟩ : GLin), (⟨3, ([] : List GMono)⟩ : GLin)] : List GLin) ([([105] : List UInt8), ([106] : List UInt8)] : List (List UInt8)) ([2, 3] : List Int) (some ⟨b3, 0, none⟩) 2 (some ⟨b1, 0, none⟩) 2 (some ⟨b5, 0, none⟩) 2 ⟨(hI.get0 (.s (.s (.s .z)))), (hI.get0 (.s (.s .z))), hI.lend .z, trivial⟩ r2 hx3) ?_)
 rintro _ w7 ⟨rfl, hx4, hl2⟩
 refine ⟨_, rfl, ?_⟩
 replace hI := (hI.ext hx4)
 refine sm ?_
 refine sq (y_extract rfl et rfl) ?_
 refine sq (y_extract rfl et rfl) ?_
 refine sa ?_
 refine sa ?_
 refine nk ?_
 refine sr ?_
 refine sm ?_
 refine sm ?_
 refine l_lit (c := (cInt .i64)) (xs := ([2, 3] : List Int)) (vs := [(0, (vi 2)), (1, (vi 3))]) (cs := #[(vi 2), (vi 3)]) (css := [[(vi 2)], [(vi 3)]]) hI gn rfl rfl Try.underlying24 info_3 rfl ⟨rfl, ev_const, ⟨rfl, ev_const, trivial⟩⟩ (by kernel_rfl) ⟨rfl, ⟨rfl, trivial⟩⟩ rfl rfl rfl ?_
 clear hI; intro b6 c11 w8 hI
 obtain ⟨c12, hI⟩ := hI.release .z
 obtain ⟨r3, hx5, h⟩ := bnd_some h
 refine s_call gn rfl (r_callF (vs := [(vs (some ⟨b3, 0, none⟩) ([(⟨0, ([(⟨([105] : List UInt8), 2⟩ : GMono), (⟨([106] : List UInt8), 1⟩ : GMono)] : List GMono)⟩ : GLin), (⟨3, ([] : List GMono)⟩ : GLin)] : List GLin).length 2), (vs (some ⟨b1, 0, none⟩) ([([105] : List UInt8), ([106] : List UInt8)] : List (List UInt8)).length 2), (vs (some ⟨b6, 0, none⟩) ([2, 3] : List Int).length 2)]) rfl ok_16 ⟨et, ⟨et, ⟨et, trivial⟩⟩⟩) (Calls.mono (c_affine_Image (Dj F c12) w8 hI.lt ([(⟨0, ([(⟨([105] : List UInt8), 2⟩ : GMono), (⟨([106] : List UInt8), 1⟩ : GMono)] : List GMono)⟩ : GLin), (⟨3, ([] : List GMono)⟩ : GLin)] : List GLin) ([([105] : List UInt8), ([106] : List UInt8)] : List (List UInt8)) ([2, 3] : List Int) (some ⟨b3, 0, none⟩) 2 (some ⟨b1, 0, none⟩) 2 (some ⟨b6, 0, none⟩) 2 ⟨(hI.get (.s (.s (.s (.s .z))))), (hI.get (.s (.s (.s .z)))), (hI.get .z), trivial⟩ r3 hx5) ?_)
 rintro _ w9 ⟨a2, c13, rfl, hx6, hl3⟩
 refine ⟨_, rfl, ?_⟩
 replace hI := (hI.ext hx6).adds hl3
 refine sm ?_
 refine sq (y_extract rfl et rfl) ?_
 refine sq (y_extract rfl et rfl) ?_
 refine sa ?_
 refine sa ?_
 refine s_nil ?_
 refine k_next (e := [(1, (vs (some ⟨b1, 0, none⟩) ([([105] : List UInt8), ([106] : List UInt8)] : List (List UInt8)).length 2)), (2, (vs (some ⟨b3, 0, none⟩) ([(⟨0, ([(⟨([105] : List UInt8), 2⟩ : GMono), (⟨([106] : List UInt8), 1⟩ : GMono)] : List GMono)⟩ : GLin), (⟨3, ([] : List GMono)⟩ : GLin)] : List GLin).length 2)), (3, (vs a1 r1.1.length c9)), (4, (vi r1.2)), (5, (vb r2.1)), (6, (vi r2.2)), (7, (vs a2 r3.1.length c13)), (8, (vi r3.2))]) ⟨rfl, rfl, rfl, rfl, rfl, rfl, rfl, rfl, trivial⟩ ?_
 refine sr ?_
 refine sm ?_
 refine sm ?_
 refine l_lit (c := (cInt .i64)) (xs := ([2, 3] : List Int)) (vs := [(0, (vi 2)), (1, (vi 3))]) (cs := #[(vi 2), (vi 3)]) (css := [[(vi 2)], [(vi 3)]]) hI gn rfl rfl Try.underlying24 info_3 rfl ⟨rfl, ev_const, ⟨rfl, ev_const, trivial⟩⟩ (by kernel_rfl) ⟨rfl, ⟨rfl, trivial⟩⟩ rfl rfl rfl ?_
 clear hI; intro b7 c14 w10 hI
 refine l_lit (c := (cInt .i64)) (xs := ([2, 3] : List Int)) (vs := [(0, (vi 2)), (1, (vi 3))]) (cs := #[(vi 2), (vi 3)]) (css := [[(vi 2)], [(vi 3)]]) hI gn rfl rfl Try.underlying28 info_2 rfl ⟨rfl, ev_const, ⟨rfl, ev_const, trivial⟩⟩ (by kernel_rfl) ⟨rfl, ⟨rfl, trivial⟩⟩ rfl rfl rfl ?_
 clear hI; intro b8 c15 w11 hI
 obtain ⟨c16, hI⟩ := hI.release (.s .z)
 obtain ⟨c17, hI⟩ := hI.release .z
 obtain ⟨r4, hx7, h⟩ := bnd_some h
 refine s_call gn rfl (r_callF (vs := [(vs (some ⟨b3, 0, none⟩) ([(⟨0, ([(⟨([105] : List UInt8), 2⟩ : GMono), (⟨([106] : List UInt8), 1⟩ : GMono)] : List GMono)⟩ : GLin), (⟨3, ([] : List GMono)⟩ : GLin)] : List GLin).length 2), (vs (some ⟨b1, 0, none⟩) ([([105] : List UInt8), ([106] : List UInt8)] : List (List UInt8)).length 2), (vs (some ⟨b7, 0, none⟩) ([2, 3] : List Int).length 2), (vs (some ⟨b8, 0, none⟩) ([2, 3] : List Int).length 2)]) rfl ok_20 ⟨et, ⟨et, ⟨et, ⟨et, trivial⟩⟩⟩⟩) (Calls.mono (c_affine_FirstPreimage (Dj F c17) w11 hI.lt ([(⟨0, ([(⟨([105] : List UInt8), 2⟩ : GMono), (⟨([106] : List UInt8), 1⟩ : GMono)] : List GMono)⟩ : GLin), (⟨3, ([] : List GMono)⟩ : GLin)] : List GLin) ([([105] : List UInt8), ([106] : List UInt8)] : List (List UInt8)) ([2, 3] : List Int) ([2, 3] : List Int) (some ⟨b3, 0, none⟩) 2 (some ⟨b1, 0, none⟩) 2 (some ⟨b7, 0, none⟩) 2 (some ⟨b8, 0, none⟩) 2 ⟨(hI.get (.s (.s (.s (.s (.s (.s (.s .z)))))))), (hI.get (.s (.s (.s (.s (.s (.s .z))))))), (hI.get (.s .z)), (hI.get .z), trivial⟩ r4 hx7) ?_)
 rintro _ w12 ⟨a3, c18, rfl, hx8, hl4⟩
 refine ⟨_, rfl, ?_⟩
 replace hI := (hI.ext hx8).adds hl4
 refine sm ?_
 refine sq (y_extract rfl et rfl) ?_
 refine sq (y_extract rfl et rfl) ?_
 refine sq (y_extract rfl et rfl) ?_
 refine sa ?_
 refine sa ?_
 refine sa ?_
 refine nk ?_
 refine sr ?_
 refine sm ?_
 refine sq (y_eql rfl et ev_const) ?_
 refine sm ?_
 refine s_gval (g_true rfl rfl rfl rfl) rfl (fun hc => (y_move rfl et)) ?_
 obtain ⟨ho1, h⟩ := chk_some h
 refine l_lit (c := (cInt .i64)) (xs := ([4, 3] : List Int)) (vs := [(0, (vi 4)), (1, (vi 3))]) (cs := #[(vi 4), (vi 3)]) (css := [[(vi 4)], [(vi 3)]]) hI (grd_as (g_true rfl rfl rfl rfl) ho1) rfl rfl Try.underlying28 info_2 rfl ⟨rfl, ev_const, ⟨rfl, ev_const, trivial⟩⟩ (by kernel_rfl) ⟨rfl, ⟨rfl, trivial⟩⟩ rfl rfl rfl ?_
 clear hI; intro b9 c19 w13 hI
 obtain ⟨r5, hx9, h⟩ := bnd_some h
 refine s_call (grd_as (g_true rfl rfl rfl rfl) ho1) rfl (r_callF (vs := [(vs a1 r1.1.length c9), (vs (some ⟨b9, 0, none⟩) ([4, 3] : List Int).length 2)]) rfl ok_14 ⟨(ev_gv et ho1), ⟨et, trivial⟩⟩) (Calls.mono (c_base_Int64s noM w13 (fun _ k => k.elim) r1.1 ([4, 3] : List Int) a1 c9 (some ⟨b9, 0, none⟩) 2 ⟨(hI.get0 (.s (.s (.s (.s (.s .z)))))), hI.lend .z, trivial⟩ r5 hx9) ?_)
 rintro _ w14 ⟨rfl, hx10, hl5⟩
 refine ⟨_, rfl, ?_⟩
 replace hI := (hI.ext hx10)
 refine sq (y_andT rfl ho1 et et) ?_
 refine sm ?_
 refine s_gval (g_true rfl rfl rfl rfl) rfl (fun hc => (y_move rfl et)) ?_
 refine s_gval (g_true rfl rfl rfl rfl) rfl (fun hc => (y_not rfl (ev_gv et hc))) ?_
 refine sq (y_and rfl et et) ?_
 refine sm ?_
 refine s_gval (g_true rfl rfl rfl rfl) rfl (fun hc => (y_move rfl et)) ?_
 refine s_gval (g_true rfl rfl rfl rfl) rfl (fun hc => (y_eql rfl (ev_gv et hc) ev_const)) ?_
 refine sq (y_and rfl et et) ?_
 refine sm ?_
 refine s_gval (g_true rfl rfl rfl rfl) rfl (fun hc => (y_move rfl et)) ?_
 refine s_gval (g_true rfl rfl rfl rfl) rfl (fun hc => (y_lenl rfl Try.underlying35 (ev_gv et hc))) ?_
 refine s_gval (g_true rfl rfl rfl rfl) rfl (fun hc => (y_eql rfl (ev_gv et hc) ev_const)) ?_
 refine sq (y_and rfl et et) ?_
 refine sm ?_
 refine s_gval (g_true rfl rfl rfl rfl) rfl (fun hc => (y_move rfl et)) ?_
 refine s_gval (g_true rfl rfl rfl rfl) rfl (fun hc => (y_eql rfl (ev_gv et hc) ev_const)) ?_
 refine sq (y_and rfl et et) ?_
 refine sm ?_
 refine s_gval (g_true rfl rfl rfl rfl) rfl (fun hc => (y_move rfl et)) ?_
 refine sq (y_and rfl et et) ?_
 refine sm ?_
 refine s_gval (g_true rfl rfl rfl rfl) rfl (fun hc => (y_move rfl et)) ?_
 refine s_gval (g_true rfl rfl rfl rfl) rfl (fun hc => (y_eql rfl (ev_gv et hc) ev_const)) ?_
 refine sq (y_and rfl et et) ?_
 refine sm ?_
 refine s_gval (g_true rfl rfl rfl rfl) rfl (fun hc => (y_move rfl et)) ?_
 obtain ⟨ho2, h⟩ := chk_some h
 refine l_lit (c := (cInt .i64)) (xs := ([0, 2] : List Int)) (vs := [(0, (vi 0)), (1, (vi 2))]) (cs := #[(vi 0), (vi 2)]) (css := [[(vi 0)], [(vi 2)]]) hI (grd_as (g_true rfl rfl rfl rfl) ho2) rfl rfl Try.underlying24 info_3 rfl ⟨rfl, ev_const, ⟨rfl, ev_const, trivial⟩⟩ (by kernel_rfl) ⟨rfl, ⟨rfl, trivial⟩⟩ rfl rfl rfl ?_
 clear hI; intro b10 c20 w15 hI
 obtain ⟨r6, hx11, h⟩ := bnd_some h
 refine s_call (grd_as (g_true rfl rfl rfl rfl) ho2) rfl (r_callF (vs := [(vs a3 r4.1.length c18), (vs (some ⟨b10, 0, none⟩) ([0, 2] : List Int).length 2)]) rfl ok_24 ⟨(ev_gv et ho2), ⟨et, trivial⟩⟩) (Calls.mono (c_base_Ints noM w15 (fun _ k => k.elim) r4.1 ([0, 2] : List Int) a3 c18 (some ⟨b10, 0, none⟩) 2 ⟨(hI.get0 .z), hI.lend .z, trivial⟩ r6 hx11) ?_)
 rintro _ w16 ⟨rfl, hx12, hl6⟩
 refine ⟨_, rfl, ?_⟩
 replace hI := (hI.ext hx12)
 refine sq (y_andT rfl ho2 et et) ?_
 refine sa ?_
 refine s_nil ?_
 refine k_next (e := [(0, (vb (((((((((decide (r1.2 = 0)) && r5) && (!r2.1)) && (decide (r2.2 = 0))) && (decide ((r3.1.length : Int) = 5))) && (decide (r3.2 = 0))) && r4.2.1) && (decide (r4.2.2 = 0))) && r6)))]) ⟨rfl, trivial⟩ ?_
 refine c_ret ?_
 obtain rfl := some_inj h
 exact q_ret (vs := [(vb (((((((((decide (r1.2 = 0)) && r5) && (!r2.1)) && (decide (r2.2 = 0))) && (decide ((r3.1.length : Int) = 5))) && (decide (r3.2 = 0))) && r4.2.1) && (decide (r4.2.2 = 0))) && r6))]) Try.results9 ⟨ev_tmp rfl rfl, trivial⟩ ⟨rfl, hI.ext0, hI.fin trivial⟩
set_option maxRecDepth 100000 in
set_option maxHeartbeats 4000000 in
theorem c_base_Words (F : NP) (w0 : World) (hF : ∀ k, F k → k < w0.heap.size) (hc : AllCl [] F w0) (r : List (List UInt8))
  (h : m_base_Words = some r) :
  Calls Try.prog 54 #[] w0 fun e w => ∃ (a1 : Option Addr) (c1 : Nat), e = .returned (vs a1 r.length c1) ∧ Ext w0 w ∧ AllCl [Cl.sl cStr a1 c1 r] F w := by
 refine enterK (l := []) Try.func54 rfl Try.ntmps54 rfl ?_
 have hI := Bun.start hF hc
 clear hc
 rw [m_base_Words] at h
 refine sr ?_
 refine sac ?_
 refine nk ?_
 refine sr ?_
 refine l_lit (c := cStr) (xs := ([([115, 105, 122, 101] : List UInt8), ([119, 104, 101, 114, 101] : List UInt8), ([105, 110] : List UInt8), ([100, 101, 102] : List UInt8), ([111, 117, 116] : List UInt8), ([115, 117, 109] : List UInt8), ([112, 114, 111, 100] : List UInt8), ([109, 105, 110] : List UInt8), ([109, 97, 120] : List UInt8), ([115, 99, 97, 110] : List UInt8), ([111, 118, 101, 114] : List UInt8), ([105, 102] : List UInt8), ([99, 97, 115, 116] : List UInt8), ([102, 114, 97, 99] : List UInt8), ([105, 110, 116] : List UInt8), ([102, 105, 120] : List UInt8), ([99, 101, 105, 108] : List UInt8), ([102, 108, 111, 111, 114] : List UInt8), ([122, 101, 114, 111] : List UInt8), ([101, 118, 101, 110] : List UInt8), ([115, 97, 116] : List UInt8), ([119, 114, 97, 112] : List UInt8)] : List (List UInt8))) (vs := [(0, (str ([115, 105, 122, 101] : List UInt8))), (1, (str ([119, 104, 101, 114, 101] : List UInt8))), (2, (str ([105, 110] : List UInt8))), (3, (str ([100, 101, 102] : List UInt8))), (4, (str ([111, 117, 116] : List UInt8))), (5, (str ([115, 117, 109] : List UInt8))), (6, (str ([112, 114, 111, 100] : List UInt8))), (7, (str ([109, 105, 110] : List UInt8))), (8, (str ([109, 97, 120] : List UInt8))), (9, (str ([115, 99, 97, 110] : List UInt8))), (10, (str ([111, 118, 101, 114] : List UInt8))), (11, (str ([105, 102] : List UInt8))), (12, (str ([99, 97, 115, 116] : List UInt8))), (13, (str ([102, 114, 97, 99] : List UInt8))), (14, (str ([105, 110, 116] : List UInt8))), (15, (str ([102, 105, 120] : List UInt8))), (16, (str ([99, 101, 105, 108] : List UInt8))), (17, (str ([102, 108, 111, 111, 114] : List UInt8))), (18, (str ([122, 101, 114, 111] : List UInt8))), (19, (str ([101, 118, 101, 110] : List UInt8))), (20, (str ([115, 97, 116] : List UInt8))), (21, (str ([119, 114, 97, 112] : List UInt8)))]) (cs := #[(str ([115, 105, 122, 101] : List UInt8)), (str ([119, 104, 101, 114, 101] : List UInt8)), (str ([105, 110] : List UInt8)), (str ([100, 101, 102] : List UInt8)), (str ([111, 117, 116] : List UInt8)), (str ([115, 117, 109] : List UInt8)), (str ([112, 114, 111, 100] : List UInt8)), (str ([109, 105, 110] : List UInt8)), (str ([109, 97, 120] : List UInt8)), (str ([115, 99, 97, 110] : List UInt8)), (str ([111, 118, 101, 114] : List UInt8)), (str ([105, 102] : List UInt8)), (str ([99, 97, 115, 116] : List UInt8)), (str ([102, 114, 97, 99] : List UInt8)), (str ([105, 110, 116] : List UInt8)), (str ([102, 105, 120] : List UInt8)), (str ([99, 101, 105, 108] : List UInt8)), (str ([102, 108, 111, 111, 114] : List UInt8)), (str ([122, 101, 114, 111] : List UInt8)), (str ([101, 118, 101, 110] : List UInt8)), (str ([115, 97, 116] : List UInt8)), (str ([119, 114, 97, 112] : List UInt8))]) (css := [[(str ([115, 105, 122, 101] : List UInt8))], [(str ([119, 104, 101, 114, 101] : List UInt8))], [(str ([105, 110] : List UInt8))], [(str ([100, 101, 102] : List UInt8))], [(str ([111, 117, 116] : List UInt8))], [(str ([115, 117, 109] : List UInt8))], [(str ([112, 114, 111, 100] : List UInt8))], [(str ([109, 105, 110] : List UInt8))], [(str ([109, 97, 120] : List UInt8))], [(str ([115, 99, 97, 110] : List UInt8))], [(str ([111, 118, 101, 114] : List UInt8))], [(str ([105, 102] : List UInt8))], [(str ([99, 97, 115, 116] : List UInt8))], [(str ([102, 114, 97, 99] : List UInt8))], [(str ([105, 110, 116] : List UInt8))], [(str ([102, 105, 120] : List UInt8))], [(str ([99, 101, 105, 108] : List UInt8))], [(str ([102, 108, 111, 111, 114] : List UInt8))], [(str ([122, 101, 114, 111] : List UInt8))], [(str ([101, 118, 101, 110] : List UInt8))], [(str ([115, 97, 116] : List UInt8))], [(str ([119, 114, 97, 112] : List UInt8))]]) hI gn rfl rfl Try.underlying23 info_9 rfl ⟨rfl, ev_const, ⟨rfl, ev_const, ⟨rfl, ev_const, ⟨rfl, ev_const, ⟨rfl, ev_const, ⟨rfl, ev_const, ⟨rfl, ev_const, ⟨rfl, ev_const, ⟨rfl, ev_const, ⟨rfl, ev_const, ⟨rfl, ev_const, ⟨rfl, ev_const, ⟨rfl, ev_const, ⟨rfl, ev_const, ⟨rfl, ev_const, ⟨rfl, ev_const, ⟨rfl, ev_const, ⟨rfl, ev_const, ⟨rfl, ev_const, ⟨rfl, ev_const, ⟨rfl, ev_const, ⟨rfl, ev_const, trivial⟩⟩⟩⟩⟩⟩⟩⟩⟩⟩⟩⟩⟩⟩⟩⟩⟩⟩⟩⟩⟩⟩ (by kernel_rfl) ⟨rfl, ⟨rfl, ⟨rfl, ⟨rfl, ⟨rfl, ⟨rfl, ⟨rfl, ⟨rfl, ⟨rfl, ⟨rfl, ⟨rfl, ⟨rfl, ⟨rfl, ⟨rfl, ⟨rfl, ⟨rfl, ⟨rfl, ⟨rfl, ⟨rfl, ⟨rfl, ⟨rfl, ⟨rfl, trivial⟩⟩⟩⟩⟩⟩⟩⟩⟩⟩⟩⟩⟩⟩⟩⟩⟩⟩⟩⟩⟩⟩ rfl rfl rfl ?_
 clear hI; intro b1 c2 w1 hI
 refine sa ?_
 refine nk ?_
 refine c_ret ?_
 obtain ⟨c3, hI⟩ := hI.release .z
 obtain rfl := some_inj h
 exact q_ret (vs := [(vs (some ⟨b1, 0, none⟩) ([([115, 105, 122, 101] : List UInt8), ([119, 104, 101, 114, 101] : List UInt8), ([105, 110] : List UInt8), ([100, 101, 102] : List UInt8), ([111, 117, 116] : List UInt8), ([115, 117, 109] : List UInt8), ([112, 114, 111, 100] : List UInt8), ([109, 105, 110] : List UInt8), ([109, 97, 120] : List UInt8), ([115, 99, 97, 110] : List UInt8), ([111, 118, 101, 114] : List UInt8), ([105, 102] : List UInt8), ([99, 97, 115, 116] : List UInt8), ([102, 114, 97, 99] : List UInt8), ([105, 110, 116] : List UInt8), ([102, 105, 120] : List UInt8), ([99, 101, 105, 108] : List UInt8), ([102, 108, 111, 111, 114] : List UInt8), ([122, 101, 114, 111] : List UInt8), ([101, 118, 101, 110] : List UInt8), ([115, 97, 116] : List UInt8), ([119, 114, 97, 112] : List UInt8)] : List (List UInt8)).length 22)]) Try.results54 ⟨ev_tmp rfl rfl, trivial⟩ ⟨some ⟨b1, 0, none⟩, 22, rfl, hI.ext0, hI.fin ⟨.z, trivial⟩⟩
set_option maxRecDepth 100000 in
set_option maxHeartbeats 4000000 in
theorem c_base_Has (F : NP) (w0 : World) (hF : ∀ k, F k → k < w0.heap.size) (l1 : List (List UInt8)) (s1 : List UInt8) (a1 : Option Addr) (c1 : Nat) (hc : AllCl [Cl.sl cStr a1 c1 l1] F w0) (r : Bool)
  (h : m_base_Has l1 s1 = some r) :
  Calls Try.prog 31 #[(vs a1 l1.length c1), (str s1)] w0 fun e w => e = .returned (vb r) ∧ Ext w0 w ∧ AllCl [] F w := by
 refine enterK (l := [(vs a1 l1.length c1), (str s1)]) Try.func31 rfl Try.ntmps31 rfl ?_
 have hI := Bun.start hF hc
 clear hc
 rw [m_base_Has] at h
 refine sr ?_
 refine sac ?_
 refine nk ?_
 refine c_seq ?_
 refine sr ?_
 refine sac ?_
 refine nk ?_
 refine c_block ?_
 refine c_loop (α := Nat × Int) (fun x => fun w => ∃ C, Bun noM F w0 C w [] [Cl.sl cStr a1 c1 l1] ∧ m_base_Has_l1 l1 s1 (x.1) (x.2) = some r) (fun x _ => x.1) (fun x => [(0, (vs a1 l1.length c1)), (1, (str s1)), (5, (vi (x.2)))]) (fu, 0) ⟨_, hI.arr .n ⟨.z, trivial⟩, h⟩ ⟨rfl, rfl, rfl, trivial⟩ ?_
 clear h hI; rintro ⟨fuel1, i1⟩ w1 ⟨c2, hI, h⟩
 dsimp only at hI h
 rcases fuel1 with _ | fuel1
 ·rw [m_base_Has_l1] at h; cases h
 rw [m_base_Has_l1] at h
 refine c_sub (e := [(0, (vs a1 l1.length c1)), (1, (str s1)), (5, (vi i1))]) ⟨rfl, rfl, rfl, trivial⟩ ?_
 refine c_seq ?_
 refine sr ?_
 refine sm ?_
 refine sm ?_
 refine sq (y_lenl rfl Try.underlying23 et) ?_
 refine sq (y_lss rfl et et) ?_
 refine nk ?_
 refine c_cond (b := decide (i1 < (l1.length : Int))) et (fun hb => ?_) (fun hb => ?_)
 ·replace h := ite_t hb h
  refine c_skip ?_
  refine k_same ?_
  refine c_seq ?_
  refine c_block ?_
  refine sr ?_
  refine sm ?_
  refine sm ?_
  obtain ⟨e1, hx1, h⟩ := bnd_some h
  obtain ⟨ad1, cs1, hA1, hr1, hq1⟩ := hI.clat .z hx1
  obtain rfl : cs1 = [(str e1)] := hr1
  refine sq (y_indexAddr rfl Try.underlying23 size_9 et et (lat_bd hx1) hA1) ?_
  refine sq (y_load1 (v := (str e1)) rfl et Try.underlying9 rfl hq1.1) ?_
  refine sm ?_
  refine sq (y_eqs rfl et et) ?_
  refine nk ?_
  refine c_cond (b := decide (e1 = s1)) et (fun hb => ?_) (fun hb => ?_)
  ·replace h := ite_t hb h
   refine sr ?_
   refine sac ?_
   refine nk ?_
   refine c_ret ?_
   obtain rfl := some_inj h
   exact q_ret (vs := [(vb true)]) Try.results31 ⟨ev_tmp rfl rfl, trivial⟩ ⟨rfl, hI.ext0, hI.fin trivial⟩
  ·replace h := ite_f hb h
   refine c_skip ?_
   refine k_same ?_
   refine c_region rfl ?_
   refine sm ?_
   refine sq (y_add rfl et ev_const) ?_
   refine sa ?_
   refine s_nil ?_
   exact k_loop (fuel1, wi64 (i1 + 1)) ⟨rfl, rfl, rfl, trivial⟩ ⟨_, hI.arr .n ⟨.z, trivial⟩, h⟩ (Nat.lt_succ_self _)
 ·replace h := ite_f hb h
  refine c_exit ?_
  refine k_in ?_
  refine k_same ?_
  refine sr ?_
  refine sac ?_
  refine nk ?_
  refine c_ret ?_
  obtain rfl := some_inj h
  exact q_ret (vs := [(vb false)]) Try.results31 ⟨ev_tmp rfl rfl, trivial⟩ ⟨rfl, hI.ext0, hI.fin trivial⟩
set_option maxRecDepth 100000 in
set_option maxHeartbeats 4000000 in
theorem c_base_Name (F : NP) (w0 : World) (hF : ∀ k, F k → k < w0.heap.size) (s1 : List UInt8) (hc : AllCl [] F w0) (r : Bool)
  (h : m_base_Name s1 = some r) :
  Calls Try.prog 30 #[(str s1)] w0 fun e w => e = .returned (vb r) ∧ Ext w0 w ∧ AllCl [] F w := by
 refine enterK (l := [(str s1)]) Try.func30 rfl Try.ntmps30 rfl ?_
 have hI := Bun.start hF hc
 clear hc
 rw [m_base_Name] at h
 refine sr ?_
 refine sac ?_
 refine nk ?_
 refine c_seq ?_
 refine sr ?_
 refine sm ?_
 refine sq (y_lens rfl Try.underlying9 et) ?_
 refine sq (y_lss rfl et ev_const) ?_
 refine sm ?_
 refine s_gval (g_false rfl rfl rfl rfl) rfl (fun hc => (y_move rfl et)) ?_
 refine s_gval (g_false rfl rfl rfl rfl) rfl (fun hc => (y_lens rfl Try.underlying9 (ev_gv et hc))) ?_
 refine s_gval (g_false rfl rfl rfl rfl) rfl (fun hc => (y_gtr rfl (ev_gv et hc) ev_const)) ?_
 refine sq (y_or rfl et et) ?_
 refine sm ?_
 obtain ⟨r1, hx1, h⟩ := bnd_some h
 replace hx1 := gd_some hx1
 refine s_gcallS (β := (Option Addr) × Nat) (fun x => (vs (x.1) r1.length (x.2))) (fun x w' => AllCl [Cl.sl cStr (x.1) (x.2) r1] (Dj F noM) w') (g_false rfl rfl rfl rfl) rfl (fun hc => (r_callF (vs := []) rfl ok_54 trivial)) (fun hc => (c_base_Words (Dj F noM) w0 hI.lt trivial r1 (hx1 hc)).mono fun _ _ ⟨a1, c1, k1_, k2_, k3_⟩ => ⟨(a1, c1), k1_, k2_, k3_⟩) ?_
 rintro ⟨a1, c1⟩ w1 hx2 hl1; replace hI := hI.ext hx2
 have hI := hI.add (c := Cl.gsl (!((decide ((s1.length : Int) < 1)) || (decide (16 < (s1.length : Int))))) cStr a1 c1 r1) (fun hc => (hl1 hc).1)
 refine s_gval (g_false rfl rfl rfl rfl) rfl (fun hc => (y_move rfl et)) ?_
 obtain ⟨r2, hx3, h⟩ := bnd_some h
 replace hx3 := gd_some hx3
 refine s_gcallU (v := (vb r2)) (g_false rfl rfl rfl rfl) rfl (fun hc => (r_callF (vs := [(vs a1 r1.length c1), (str s1)]) rfl ok_31 ⟨(ev_gv et hc), ⟨(ev_gv et hc), trivial⟩⟩)) (fun hc => (c_base_Has (Dj F noM) w1 hI.lt r1 s1 a1 c1 ⟨(hI.get .z hc), trivial⟩ r2 (hx3 hc)).mono fun _ _ k => ⟨k.1, k.2.1⟩) ?_
 intro w2 hx4; replace hI := hI.ext hx4
 refine sq (y_or rfl et et) ?_
 refine nk ?_
 refine c_cond (b := ((decide ((s1.length : Int) < 1)) || (decide (16 < (s1.length : Int)))) || r2) et (fun hb => ?_) (fun hb => ?_)
 ·replace h := ite_t hb h
  refine sr ?_
  refine sac ?_
  refine nk ?_
  refine c_ret ?_
  obtain rfl := some_inj h
  exact q_ret (vs := [(vb false)]) Try.results30 ⟨ev_tmp rfl rfl, trivial⟩ ⟨rfl, hI.ext0, hI.fin trivial⟩
 ·replace h := ite_f hb h
  refine c_skip ?_
  refine k_same ?_
  refine c_seq ?_
  refine sr ?_
  refine sac ?_
  refine nk ?_
  refine c_block ?_
  refine c_loop (α := Nat × Int) (fun x => fun w => ∃ C, Bun noM F w0 C w [] [] ∧ m_base_Name_l1 s1 (x.1) (x.2) = some r) (fun x _ => x.1) (fun x => [(0, (str s1)), (3, (vi (x.2)))]) (fu, 0) ⟨_, hI.arr .n trivial, h⟩ ⟨rfl, rfl, trivial⟩ ?_
  clear h hI; rintro ⟨fuel1, i1⟩ w3 ⟨c2, hI, h⟩
  dsimp only at hI h
  rcases fuel1 with _ | fuel1
  ·rw [m_base_Name_l1] at h; cases h
  rw [m_base_Name_l1] at h
  refine c_sub (e := [(0, (str s1)), (3, (vi i1))]) ⟨rfl, rfl, trivial⟩ ?_
  refine c_seq ?_
  refine sr ?_
  refine sm ?_
  refine sm ?_
  refine sq (y_lens rfl Try.underlying9 et) ?_
  refine sq (y_lss rfl et et) ?_
  refine nk ?_
  refine c_cond (b := decide (i1 < (s1.length : Int))) et (fun hb => ?_) (fun hb => ?_)
  ·replace h := ite_t hb h
   refine c_skip ?_
   refine k_same ?_
   refine c_seq ?_
   refine c_block ?_
   refine sr ?_
   refine sm ?_
   refine sm ?_
   obtain ⟨b1, hx5, h⟩ := bnd_some h
   refine sq (y_satl rfl Try.underlying9 et et hx5) ?_
   refine sa ?_
   refine nk ?_
   refine sr ?_
   refine sm ?_
   refine sq (y_geq rfl et ev_const) ?_
   refine sm ?_
   refine s_gval (g_true rfl rfl rfl rfl) rfl (fun hc => (y_move rfl et)) ?_
   refine s_gval (g_true rfl rfl rfl rfl) rfl (fun hc => (y_leq rfl (ev_gv et hc) ev_const)) ?_
   refine sq (y_and rfl et et) ?_
   refine sm ?_
   refine s_gval (g_false rfl rfl rfl rfl) rfl (fun hc => (y_move rfl et)) ?_
   refine s_gval (g_false rfl rfl rfl rfl) rfl (fun hc => (y_gtr rfl (ev_gv et hc) ev_const)) ?_
   refine s_gval (g_false rfl rfl rfl rfl) rfl (fun hc => (y_move rfl (ev_gv et hc))) ?_
   refine s_gval (g_true2 rfl rfl rfl rfl) rfl (fun hc => (y_move rfl et)) ?_
   refine s_gval (g_true2 rfl rfl rfl rfl) rfl (fun hc => (y_geq rfl (ev_gv et hc) ev_const)) ?_
   refine s_gval (g_true2 rfl rfl rfl rfl) rfl (fun hc => (y_move rfl (ev_gv et hc))) ?_
   refine s_gval (g_true2 rfl rfl rfl rfl) rfl (fun hc => (y_move rfl et)) ?_
   refine s_gval (g_true2 rfl rfl rfl rfl) rfl (fun hc => (y_leq rfl (ev_gv et hc) ev_const)) ?_
   refine s_gval (g_true2 rfl rfl rfl rfl) rfl (fun hc => (y_and2 rfl hc et et)) ?_
   refine s_gval (g_true2 rfl rfl rfl rfl) rfl (fun hc => (y_move rfl (ev_gv et hc))) ?_
   refine s_gval (g_false2 rfl rfl rfl rfl) rfl (fun hc => (y_move rfl et)) ?_
   refine s_gval (g_false2 rfl rfl rfl rfl) rfl (fun hc => (y_eql rfl (ev_gv et hc) ev_const)) ?_
   refine s_gval (g_true2 rfl rfl rfl rfl) rfl (fun hc => (y_or2 rfl hc et et)) ?_
   refine s_gval (g_false rfl rfl rfl rfl) rfl (fun hc => (y_and2 rfl hc et et)) ?_
   refine sq (y_or rfl et et) ?_
   refine sq (y_not rfl et) ?_
   refine s_nil ?_
   refine k_next (e := [(0, (str s1)), (3, (vi i1)), (49, (vb (!(((decide (97 ≤ b1)) && (decide (b1 ≤ 122))) || ((decide (0 < i1)) && (((decide (48 ≤ b1)) && (decide (b1 ≤ 57))) || (decide (b1 = 95))))))))]) ⟨rfl, rfl, rfl, trivial⟩ ?_
   refine c_cond (b := !(((decide (97 ≤ b1)) && (decide (b1 ≤ 122))) || ((decide (0 < i1)) && (((decide (48 ≤ b1)) && (decide (b1 ≤ 57))) || (decide (b1 = 95)))))) et (fun hb => ?_) (fun hb => ?_)
   ·replace h := ite_t hb h
    refine sr ?_
    refine sac ?_
    refine nk ?_
    refine c_ret ?_
    obtain rfl := some_inj h
    exact q_ret (vs := [(vb false)]) Try.results30 ⟨ev_tmp rfl rfl, trivial⟩ ⟨rfl, hI.ext0, hI.fin trivial⟩
   ·replace h := ite_f hb h
    refine c_skip ?_
    refine k_same ?_
    refine c_region rfl ?_
    refine sm ?_
    refine sq (y_add rfl et ev_const) ?_
    refine sa ?_
    refine s_nil ?_
    exact k_loop (fuel1, wi64 (i1 + 1)) ⟨rfl, rfl, trivial⟩ ⟨_, hI.arr .n trivial, h⟩ (Nat.lt_succ_self _)
  ·replace h := ite_f hb h
   refine c_exit ?_
   refine k_in ?_
   refine k_same ?_
   refine sr ?_
   refine sac ?_
   refine nk ?_
   refine c_ret ?_
   obtain rfl := some_inj h
   exact q_ret (vs := [(vb true)]) Try.results30 ⟨ev_tmp rfl rfl, trivial⟩ ⟨rfl, hI.ext0, hI.fin trivial⟩
set_option maxRecDepth 100000 in
set_option maxHeartbeats 4000000 in
theorem c_base_LinRight (F : NP) (w0 : World) (hF : ∀ k, F k → k < w0.heap.size) (l1 : GLin) (a1 : Option Addr) (c1 : Nat) (hc : AllCl [Cl.sl cGMono a1 c1 l1.L] F w0) (r : Bool)
  (h : m_base_LinRight l1 = some r) :
  Calls Try.prog 32 #[(Value.agg #[(vi l1.K), (vs a1 l1.L.length c1)])] w0 fun e w => e = .returned (vb r) ∧ Ext w0 w ∧ AllCl [] F w := by
 refine enterK (l := [(Value.agg #[(vi l1.K), (vs a1 l1.L.length c1)])]) Try.func32 rfl Try.ntmps32 rfl ?_
 have hI := Bun.start hF hc
 clear hc
 rw [m_base_LinRight] at h
 refine sr ?_
 refine l_box (v := (Value.agg #[(vi l1.K), (vs a1 l1.L.length c1)])) (cs := #[(vi l1.K), (vs a1 l1.L.length c1)]) hI gn rfl rfl et rfl ?_
 clear hI; intro b1 c2 w1 hI
 obtain ⟨c3, hI⟩ := hI.relBox .z
 refine sac ?_
 refine nk ?_
 refine c_seq ?_
 refine sr ?_
 refine sac ?_
 refine nk ?_
 refine c_block ?_
 refine c_loop (α := Nat × Int) (fun x => fun w => ∃ C, Bun noM F w0 C w [] [Cl.blk b1 51 #[(vi l1.K), (vs a1 l1.L.length c1)], Cl.sl cGMono a1 c1 l1.L] ∧ m_base_LinRight_l1 l1 (x.1) (x.2) = some r) (fun x _ => x.1) (fun x => [(1, (vp b1 0)), (3, (vi (x.2)))]) (fu, 0) ⟨_, hI.arr .n ⟨.z, (.s .z), trivial⟩, h⟩ ⟨rfl, rfl, trivial⟩ ?_
 clear h hI; rintro ⟨fuel1, i1⟩ w2 ⟨c4, hI, h⟩
 dsimp only at hI h
 rcases fuel1 with _ | fuel1
 ·rw [m_base_LinRight_l1] at h; cases h
 rw [m_base_LinRight_l1] at h
 refine c_sub (e := [(1, (vp b1 0)), (3, (vi i1))]) ⟨rfl, rfl, trivial⟩ ?_
 refine c_seq ?_
 refine sr ?_
 refine sm ?_
 refine sq (y_fieldAddr rfl et Try.underlying51 rfl size_49 rfl) ?_
 refine sq (y_load1 (v := (vs a1 l1.L.length c1)) rfl et Try.underlying49 rfl (hI.kblk (l := [(vs a1 l1.L.length c1)]) .z rfl).1) ?_
 refine sq (y_lenl rfl Try.underlying49 et) ?_
 refine sq (y_lss rfl et et) ?_
 refine nk ?_
 refine c_cond (b := decide (i1 < (l1.L.length : Int))) et (fun hb => ?_) (fun hb => ?_)
 ·replace h := ite_t hb h
  refine c_skip ?_
  refine k_same ?_
  refine c_seq ?_
  refine c_block ?_
  refine c_seq ?_
  refine c_drawX [] false (.c (0, .q) (.c (1, .q) (.c (2, .q) (.c (3, .q) (.c (4, .q) (.c (5, .q) (.c (6, .s) (.c (7, .q) (.c (8, .q) (.c (9, .q) (.c (10, .q) (.c (11, .q) (.c (12, .q) (.c (13, .q) (.c (14, .q) (.c (15, .q) (.c (16, .q) (.c (17, .q) (.c (18, .q) (.c (19, .q) (.c (20, .q) (.c (21, .q) (.c (22, .q) (.c (23, .q) (.c (24, .q) (.c (25, .q) (.c (26, .q) (.c (27, .q) (.c (28, .q) (.c (29, .q) (.c (30, .q) (.c (31, .q) (.c (32, .q) (.c (33, .q) (.c (34, .q) (.c (35, .q) (.c (36, .q) .n))))))))))))))))))))))))))))))))))))) hI (by kernel_rfl) (by kernel_rfl) ?_
  clear hI; intro w3 hI
  refine a_q rfl gn rfl (fun w' => (y_fieldAddr rfl et Try.underlying51 rfl size_49 rfl)) ?_
  refine a_read rfl gn rfl (fun w' hw' => (y_load1 (v := (vs a1 l1.L.length c1)) rfl et Try.underlying49 rfl ((hI.kblk (l := [(vs a1 l1.L.length c1)]) .z rfl).at_ (SX.any rfl hw')))) (by kernel_rfl) ?_
  refine a_q rfl gn rfl (fun w' => (y_move rfl et)) ?_
  obtain ⟨e1, hx1, h⟩ := bnd_some h
  obtain ⟨ad1, cs1, hA1, hr1, hq1⟩ := hI.clat (.s .z) hx1
  obtain rfl : cs1 = [(str e1.Name), (vi e1.By)] := hr1
  refine a_q rfl gn rfl (fun w' => (y_indexAddr rfl Try.underlying49 size_53 et et (lat_bd hx1) hA1)) ?_
  refine a_q rfl gn rfl (fun w' => (y_fieldAddr rfl et Try.underlying53 rfl size_9 rfl)) ?_
  refine a_read rfl gn rfl (fun w' hw' => (y_load1 (v := (str e1.Name)) rfl et Try.underlying9 rfl ((CA.part hq1 rfl).at_ (SX.any rfl hw')))) (by kernel_rfl) ?_
  obtain ⟨r1, hx2, h⟩ := bnd_some h
  refine la_call rfl gn rfl (r_callF (vs := [(str e1.Name)]) rfl ok_30 ⟨et, trivial⟩) (Calls.mono (c_base_Name (Dj F c4) w3 hI.lt e1.Name trivial r1 hx2) ?_)
  rintro _ w4 ⟨rfl, hx3, hl1⟩
  refine ⟨_, rfl, hx3, ?_⟩
  replace hI := (hI.ext hx3)
  refine a_q rfl gn rfl (fun w' => (y_not rfl et)) ?_
  refine a_q rfl gn rfl (fun w' => (y_move rfl et)) ?_
  refine a_gval rfl (g_false rfl rfl rfl rfl) rfl (fun hc => fun w' => (y_fieldAddr rfl et Try.underlying51 rfl size_49 rfl)) ?_
  refine a_gread rfl (g_false rfl rfl rfl rfl) rfl (fun hc => fun w' hw' => (y_load1 (v := (vs a1 l1.L.length c1)) rfl (ev_gv et hc) Try.underlying49 rfl ((hI.kblk (l := [(vs a1 l1.L.length c1)]) .z rfl).at_ (SX.any rfl hw')))) (by kernel_rfl) ?_
  refine a_gval rfl (g_false rfl rfl rfl rfl) rfl (fun hc => fun w' => (y_move rfl et)) ?_
  obtain ⟨e2, hx4, h⟩ := bnd_some h
  replace hx4 := gd_some hx4
  obtain ⟨ad2, cs2, hq2⟩ := hI.gclat (.s .z) hx4
  have hq3 : (!(!r1)) = true → CA (Dj F c4) w4 (ad2.add (Int.toNat i1 * 2)) [(str e2.Name), (vi e2.By)] := fun hc => by have k := hq2 hc; have e : cs2 = _ := k.2.1; rw [← e]; exact k.2.2
  refine a_gval rfl (g_false rfl rfl rfl rfl) rfl (fun hc => fun w' => (y_indexAddr rfl Try.underlying49 size_53 (ev_gv et hc) (ev_gv et hc) (lat_bd (hx4 hc)) (hq2 hc).1)) ?_
  refine a_gval rfl (g_false rfl rfl rfl rfl) rfl (fun hc => fun w' => (y_fieldAddr rfl (ev_gv et hc) Try.underlying53 rfl size_2 rfl)) ?_
  refine a_gread rfl (g_false rfl rfl rfl rfl) rfl (fun hc => fun w' hw' => (y_load1 (v := (vi e2.By)) rfl (ev_gv et hc) Try.underlying2 rfl ((CA.part (hq3 hc) rfl).at_ (SX.any rfl hw')))) (by kernel_rfl) ?_
  refine a_gval rfl (g_false rfl rfl rfl rfl) rfl (fun hc => fun w' => (y_eql rfl (ev_gv et hc) ev_const)) ?_
  refine a_q rfl gn rfl (fun w' => (y_or rfl et et)) ?_
  refine a_q rfl gn rfl (fun w' => (y_move rfl et)) ?_
  refine a_gval rfl (g_false rfl rfl rfl rfl) rfl (fun hc => fun w' => (y_move rfl et)) ?_
  refine a_gval rfl (g_false rfl rfl rfl rfl) rfl (fun hc => fun w' => (y_gtr rfl (ev_gv et hc) ev_const)) ?_
  refine a_gval rfl (g_false rfl rfl rfl rfl) rfl (fun hc => fun w' => (y_move rfl (ev_gv et hc))) ?_
  refine a_gval rfl (g_true2 rfl rfl rfl rfl) rfl (fun hc => fun w' => (y_fieldAddr rfl et Try.underlying51 rfl size_49 rfl)) ?_
  refine a_gread rfl (g_true2 rfl rfl rfl rfl) rfl (fun hc => fun w' hw' => (y_load1 (v := (vs a1 l1.L.length c1)) rfl (ev_gv et hc) Try.underlying49 rfl ((hI.kblk (l := [(vs a1 l1.L.length c1)]) .z rfl).at_ (SX.any rfl hw')))) (by kernel_rfl) ?_
  refine a_gval rfl (g_true2 rfl rfl rfl rfl) rfl (fun hc => fun w' => (y_move rfl et)) ?_
  refine a_gval rfl (g_true2 rfl rfl rfl rfl) rfl (fun hc => fun w' => (y_sub rfl (ev_gv et hc) ev_const)) ?_
  obtain ⟨e3, hx5, h⟩ := bnd_some h
  replace hx5 := gd_some hx5
  obtain ⟨ad3, cs3, hq4⟩ := hI.gclat (.s .z) hx5
  have hq5 : ((!((!r1) || (decide (e2.By = 0)))) && (decide (0 < i1))) = true → CA (Dj F c4) w4 (ad3.add (Int.toNat (wi64 (i1 - 1)) * 2)) [(str e3.Name), (vi e3.By)] := fun hc => by have k := hq4 hc; have e : cs3 = _ := k.2.1; rw [← e]; exact k.2.2
  refine a_gval rfl (g_true2 rfl rfl rfl rfl) rfl (fun hc => fun w' => (y_indexAddr rfl Try.underlying49 size_53 (ev_gv et hc) (ev_gv et hc) (lat_bd (hx5 hc)) (hq4 hc).1)) ?_
  refine a_gval rfl (g_true2 rfl rfl rfl rfl) rfl (fun hc => fun w' => (y_fieldAddr rfl (ev_gv et hc) Try.underlying53 rfl size_9 rfl)) ?_
  refine a_gread rfl (g_true2 rfl rfl rfl rfl) rfl (fun hc => fun w' hw' => (y_load1 (v := (str e3.Name)) rfl (ev_gv et hc) Try.underlying9 rfl ((CA.part (hq5 hc) rfl).at_ (SX.any rfl hw')))) (by kernel_rfl) ?_
  refine a_gval rfl (g_true2 rfl rfl rfl rfl) rfl (fun hc => fun w' => (y_fieldAddr rfl et Try.underlying51 rfl size_49 rfl)) ?_
  refine a_gread rfl (g_true2 rfl rfl rfl rfl) rfl (fun hc => fun w' hw' => (y_load1 (v := (vs a1 l1.L.length c1)) rfl (ev_gv et hc) Try.underlying49 rfl ((hI.kblk (l := [(vs a1 l1.L.length c1)]) .z rfl).at_ (SX.any rfl hw')))) (by kernel_rfl) ?_
  refine a_gval rfl (g_true2 rfl rfl rfl rfl) rfl (fun hc => fun w' => (y_move rfl et)) ?_
  obtain ⟨e4, hx6, h⟩ := bnd_some h
  replace hx6 := gd_some hx6
  obtain ⟨ad4, cs4, hq6⟩ := hI.gclat (.s .z) hx6
  have hq7 : ((!((!r1) || (decide (e2.By = 0)))) && (decide (0 < i1))) = true → CA (Dj F c4) w4 (ad4.add (Int.toNat i1 * 2)) [(str e4.Name), (vi e4.By)] := fun hc => by have k := hq6 hc; have e : cs4 = _ := k.2.1; rw [← e]; exact k.2.2
  refine a_gval rfl (g_true2 rfl rfl rfl rfl) rfl (fun hc => fun w' => (y_indexAddr rfl Try.underlying49 size_53 (ev_gv et hc) (ev_gv et hc) (lat_bd (hx6 hc)) (hq6 hc).1)) ?_
  refine a_gval rfl (g_true2 rfl rfl rfl rfl) rfl (fun hc => fun w' => (y_fieldAddr rfl (ev_gv et hc) Try.underlying53 rfl size_9 rfl)) ?_
  refine a_gread rfl (g_true2 rfl rfl rfl rfl) rfl (fun hc => fun w' hw' => (y_load1 (v := (str e4.Name)) rfl (ev_gv et hc) Try.underlying9 rfl ((CA.part (hq7 hc) rfl).at_ (SX.any rfl hw')))) (by kernel_rfl) ?_
  refine a_gval rfl (g_true2 rfl rfl rfl rfl) rfl (fun hc => fun w' => (y_ges rfl (ev_gv et hc) (ev_gv et hc))) ?_
  refine a_gval rfl (g_false rfl rfl rfl rfl) rfl (fun hc => fun w' => (y_and2 rfl hc et et)) ?_
  refine a_q rfl gn rfl (fun w' => (y_or rfl et et)) ?_
  refine a_nil ?_
  refine k_next (e := [(1, (vp b1 0)), (3, (vi i1)), (47, (vb (((!r1) || (decide (e2.By = 0))) || ((decide (0 < i1)) && (!Op.bytesLess e3.Name e4.Name)))))]) ⟨rfl, rfl, rfl, trivial⟩ ?_
  refine c_cond (b := ((!r1) || (decide (e2.By = 0))) || ((decide (0 < i1)) && (!Op.bytesLess e3.Name e4.Name))) et (fun hb => ?_) (fun hb => ?_)
  ·replace h := ite_t hb h
   refine sr ?_
   refine sac ?_
   refine nk ?_
   refine c_ret ?_
   obtain rfl := some_inj h
   exact q_ret (vs := [(vb false)]) Try.results32 ⟨ev_tmp rfl rfl, trivial⟩ ⟨rfl, hI.ext0, hI.fin trivial⟩
  ·replace h := ite_f hb h
   refine c_skip ?_
   refine k_same ?_
   refine c_region rfl ?_
   refine sm ?_
   refine sq (y_add rfl et ev_const) ?_
   refine sa ?_
   refine s_nil ?_
   exact k_loop (fuel1, wi64 (i1 + 1)) ⟨rfl, rfl, trivial⟩ ⟨_, hI.arr .n ⟨.z, (.s .z), trivial⟩, h⟩ (Nat.lt_succ_self _)
 ·replace h := ite_f hb h
  refine c_exit ?_
  refine k_in ?_
  refine k_same ?_
  refine sr ?_
  refine sac ?_
  refine nk ?_
  refine c_ret ?_
  obtain rfl := some_inj h
  exact q_ret (vs := [(vb true)]) Try.results32 ⟨ev_tmp rfl rfl, trivial⟩ ⟨rfl, hI.ext0, hI.fin trivial⟩
set_option maxRecDepth 100000 in
set_option maxHeartbeats 4000000 in
theorem c_ref10_Validate (F : NP) (w0 : World) (hF : ∀ k, F k → k < w0.heap.size) (m1 : List GLin) (names1 : List (List UInt8)) (a1 : Option Addr) (c1 : Nat) (a2 : Option Addr) (c2 : Nat) (hc : AllCl [Cl.sl cGLin a1 c1 m1, Cl.sl cStr a2 c2 names1] F w0) (r : Int)
  (h : m_ref10_Validate m1 names1 = some r) :
  Calls Try.prog 13 #[(vs a1 m1.length c1), (vs a2 names1.length c2)] w0 fun e w => e = .returned (vi r) ∧ Ext w0 w ∧ AllCl [] F w := by
 refine enterK (l := [(vs a1 m1.length c1), (vs a2 names1.length c2)]) Try.func13 rfl Try.ntmps13 rfl ?_
 have hI := Bun.start hF hc
 clear hc
 rw [m_ref10_Validate] at h
 refine sr ?_
 refine sac ?_
 refine nk ?_
 refine c_seq ?_
 refine sr ?_
 refine sm ?_
 refine sq (y_lenl rfl Try.underlying22 et) ?_
 refine sq (y_gtr rfl et ev_const) ?_
 refine sm ?_
 refine s_gval (g_false rfl rfl rfl rfl) rfl (fun hc => (y_move rfl et)) ?_
 refine s_gval (g_false rfl rfl rfl rfl) rfl (fun hc => (y_lenl rfl Try.underlying23 (ev_gv et hc))) ?_
 refine s_gval (g_false rfl rfl rfl rfl) rfl (fun hc => (y_gtr rfl (ev_gv et hc) ev_const)) ?_
 refine sq (y_or rfl et et) ?_
 refine nk ?_
 refine c_cond (b := (decide (16 < (m1.length : Int))) || (decide (16 < (names1.length : Int)))) et (fun hb => ?_) (fun hb => ?_)
 ·replace h := ite_t hb h
  refine sr ?_
  refine sac ?_
  refine nk ?_
  refine c_ret ?_
  obtain rfl := some_inj h
  exact q_ret (vs := [(vi 2)]) Try.results13 ⟨ev_tmp rfl rfl, trivial⟩ ⟨rfl, hI.ext0, hI.fin trivial⟩
 ·replace h := ite_f hb h
  refine c_skip ?_
  refine k_same ?_
  refine c_join (α := Unit) (fun _ => ⟨70, []⟩) (fun _ => [(0, (vs a1 m1.length c1)), (1, (vs a2 names1.length c2))]) (fun _ => fun w => ∃ C, Bun noM F w0 C w [] [Cl.sl cGLin a1 c1 m1, Cl.sl cStr a2 c2 names1] ∧ m_ref10_Validate_j1 m1 names1 = some r) ?_ ?_
  ·clear h hI; rintro _ w1 ⟨c3, hI, h⟩
   try dsimp only at hI h
   rw [m_ref10_Validate_j1] at h
   refine c_sub (e := [(0, (vs a1 m1.length c1)), (1, (vs a2 names1.length c2))]) ⟨rfl, rfl, trivial⟩ ?_
   refine c_seq ?_
   refine sr ?_
   refine sac ?_
   refine nk ?_
   refine c_block ?_
   refine c_loop (α := Nat × Int) (fun x => fun w => ∃ C, Bun noM F w0 C w [] [Cl.sl cGLin a1 c1 m1, Cl.sl cStr a2 c2 names1] ∧ m_ref10_Validate_l1 m1 names1 (x.1) (x.2) = some r) (fun x _ => x.1) (fun x => [(0, (vs a1 m1.length c1)), (1, (vs a2 names1.length c2)), (6, (vi (x.2)))]) (fu, 0) ⟨_, hI.arr .n ⟨.z, (.s .z), trivial⟩, h⟩ ⟨rfl, rfl, rfl, trivial⟩ ?_
   clear h hI; rintro ⟨fuel1, i1⟩ w2 ⟨c4, hI, h⟩
   dsimp only at hI h
   rcases fuel1 with _ | fuel1
   ·rw [m_ref10_Validate_l1] at h; cases h
   rw [m_ref10_Validate_l1] at h
   refine c_sub (e := [(0, (vs a1 m1.length c1)), (1, (vs a2 names1.length c2)), (6, (vi i1))]) ⟨rfl, rfl, rfl, trivial⟩ ?_
   refine c_seq ?_
   refine sr ?_
   refine sm ?_
   refine sm ?_
   refine sq (y_lenl rfl Try.underlying22 et) ?_
   refine sq (y_lss rfl et et) ?_
   refine nk ?_
   refine c_cond (b := decide (i1 < (m1.length : Int))) et (fun hb => ?_) (fun hb => ?_)
   ·replace h := ite_t hb h
    refine c_skip ?_
    refine k_same ?_
    refine c_join (α := Unit) (fun _ => ⟨70, []⟩) (fun _ => [(0, (vs a1 m1.length c1)), (1, (vs a2 names1.length c2)), (6, (vi i1))]) (fun _ => fun w => ∃ C, Bun noM F w0 C w [] [Cl.sl cGLin a1 c1 m1, Cl.sl cStr a2 c2 names1] ∧ m_ref10_Validate_j2 (m_ref10_Validate_l1 m1 names1 fuel1) i1 = some r) ?_ ?_
    ·clear h hI; rintro _ w3 ⟨c5, hI, h⟩
     try dsimp only at hI h
     rw [m_ref10_Validate_j2] at h
     refine c_sub (e := [(0, (vs a1 m1.length c1)), (1, (vs a2 names1.length c2)), (6, (vi i1))]) ⟨rfl, rfl, rfl, trivial⟩ ?_
     refine c_region rfl ?_
     refine sm ?_
     refine sq (y_add rfl et ev_const) ?_
     refine sa ?_
     refine s_nil ?_
     exact k_loop (fuel1, wi64 (i1 + 1)) ⟨rfl, rfl, rfl, trivial⟩ ⟨_, hI.arr .n ⟨.z, (.s .z), trivial⟩, h⟩ (Nat.lt_succ_self _)
    ·skip
     refine c_block ?_
     refine c_seq ?_
     refine sr ?_
     refine sm ?_
     refine sm ?_
     obtain ⟨e1, hx1, h⟩ := bnd_some h
     obtain ⟨ad1, cs1, hA1, hr1, hq1⟩ := hI.clat .z hx1
     obtain ⟨a3, c6, rfl, hf1⟩ := hr1
     have hI := hI.add (c := Cl.sl cGMono a3 c6 e1.L) hf1
     refine sq (y_indexAddr rfl Try.underlying22 size_51 et et (lat_bd hx1) hA1) ?_
     refine sq (y_loadN (l := [(vi e1.K), (vs a3 e1.L.length c6)]) rfl et Try.underlying51 rfl size_51 hq1.1) ?_
     obtain ⟨r1, hx2, h⟩ := bnd_some h
     refine s_call gn rfl (r_callF (vs := [(Value.agg #[(vi e1.K), (vs a3 e1.L.length c6)])]) rfl ok_32 ⟨et, trivial⟩) (Calls.mono (c_base_LinRight (Dj F c4) w2 hI.lt e1 a3 c6 ⟨(hI.get .z), trivial⟩ r1 hx2) ?_)
     rintro _ w4 ⟨rfl, hx3, hl1⟩
     refine ⟨_, rfl, ?_⟩
     replace hI := (hI.ext hx3)
     refine sq (y_not rfl et) ?_
     refine nk ?_
     refine c_cond (b := !r1) et (fun hb => ?_) (fun hb => ?_)
     ·replace h := ite_t hb h
      refine sr ?_
      refine sac ?_
      refine nk ?_
      refine c_ret ?_
      obtain rfl := some_inj h
      exact q_ret (vs := [(vi 1)]) Try.results13 ⟨ev_tmp rfl rfl, trivial⟩ ⟨rfl, hI.ext0, hI.fin trivial⟩
     ·replace h := ite_f hb h
      refine c_skip ?_
      refine k_same ?_
      refine sr ?_
      refine sac ?_
      refine nk ?_
      refine c_block ?_
      refine c_loop (α := Nat × Int) (fun x => fun w => ∃ C, Bun noM F w0 C w [] [Cl.sl cGLin a1 c1 m1, Cl.sl cStr a2 c2 names1] ∧ m_ref10_Validate_l2 m1 i1 names1 (m_ref10_Validate_l1 m1 names1 fuel1) (x.1) (x.2) = some r) (fun x _ => x.1) (fun x => [(0, (vs a1 m1.length c1)), (1, (vs a2 names1.length c2)), (6, (vi i1)), (7, (vi (x.2)))]) (fu, 0) ⟨_, hI.arr .n ⟨(.s .z), (.s (.s .z)), trivial⟩, h⟩ ⟨rfl, rfl, rfl, rfl, trivial⟩ ?_
      clear h hI; rintro ⟨fuel2, k1⟩ w5 ⟨c7, hI, h⟩
      dsimp only at hI h
      rcases fuel2 with _ | fuel2
      ·rw [m_ref10_Validate_l2] at h; cases h
      rw [m_ref10_Validate_l2] at h
      refine c_sub (e := [(0, (vs a1 m1.length c1)), (1, (vs a2 names1.length c2)), (6, (vi i1)), (7, (vi k1))]) ⟨rfl, rfl, rfl, rfl, trivial⟩ ?_
      refine c_seq ?_
      refine sr ?_
      refine sm ?_
      refine sm ?_
      refine sm ?_
      obtain ⟨e2, hx4, h⟩ := bnd_some h
      obtain ⟨ad2, cs2, hA2, hr2, hq2⟩ := hI.clat .z hx4
      obtain ⟨a4, c8, rfl, hf2⟩ := hr2
      have hI := hI.add (c := Cl.sl cGMono a4 c8 e2.L) hf2
      refine sq (y_indexAddr rfl Try.underlying22 size_51 et et (lat_bd hx4) hA2) ?_
      refine sq (y_fieldAddr rfl et Try.underlying51 rfl size_49 rfl) ?_
      refine sq (y_load1 (v := (vs a4 e2.L.length c8)) rfl et Try.underlying49 rfl (CA.part hq2 rfl).1) ?_
      refine sq (y_lenl rfl Try.underlying49 et) ?_
      refine sq (y_lss rfl et et) ?_
      refine nk ?_
      refine c_cond (b := decide (k1 < (e2.L.length : Int))) et (fun hb => ?_) (fun hb => ?_)
      ·replace h := ite_t hb h
       refine c_skip ?_
       refine k_same ?_
       refine c_seq ?_
       refine c_block ?_
       refine sr ?_
       refine sm ?_
       refine sm ?_
       refine sm ?_
       obtain ⟨e3, hx5, h⟩ := bnd_some h
       obtain ⟨ad3, cs3, hA3, hr3, hq3⟩ := hI.clat (.s .z) hx5
       obtain ⟨a5, c9, rfl, hf3⟩ := hr3
       have hI := hI.add (c := Cl.sl cGMono a5 c9 e3.L) hf3
       refine sq (y_indexAddr rfl Try.underlying22 size_51 et et (lat_bd hx5) hA3) ?_
       refine sq (y_fieldAddr rfl et Try.underlying51 rfl size_49 rfl) ?_
       refine sq (y_load1 (v := (vs a5 e3.L.length c9)) rfl et Try.underlying49 rfl (CA.part hq3 rfl).1) ?_
       refine sm ?_
       obtain ⟨e4, hx6, h⟩ := bnd_some h
       obtain ⟨ad4, cs4, hA4, hr4, hq4⟩ := hI.clat .z hx6
       obtain rfl : cs4 = [(str e4.Name), (vi e4.By)] := hr4
       refine sq (y_indexAddr rfl Try.underlying49 size_53 et et (lat_bd hx6) hA4) ?_
       refine sq (y_fieldAddr rfl et Try.underlying53 rfl size_9 rfl) ?_
       refine sq (y_load1 (v := (str e4.Name)) rfl et Try.underlying9 rfl (CA.part hq4 rfl).1) ?_
       obtain ⟨r2, hx7, h⟩ := bnd_some h
       refine s_call gn rfl (r_callF (vs := [(vs a2 names1.length c2), (str e4.Name)]) rfl ok_31 ⟨et, ⟨et, trivial⟩⟩) (Calls.mono (c_base_Has (Dj F c7) w5 hI.lt names1 e4.Name a2 c2 ⟨(hI.get (.s (.s (.s .z)))), trivial⟩ r2 hx7) ?_)
       rintro _ w6 ⟨rfl, hx8, hl2⟩
       refine ⟨_, rfl, ?_⟩
       replace hI := (hI.ext hx8)
       refine sq (y_not rfl et) ?_
       refine nk ?_
       refine c_cond (b := !r2) et (fun hb => ?_) (fun hb => ?_)
       ·replace h := ite_t hb h
        refine sr ?_
        refine sac ?_
        refine s_nil ?_
        refine k_next (e := [(4, (vi 9))]) ⟨rfl, trivial⟩ ?_
        refine c_ret ?_
        obtain rfl := some_inj h
        exact q_ret (vs := [(vi 9)]) Try.results13 ⟨ev_tmp rfl rfl, trivial⟩ ⟨rfl, hI.ext0, hI.fin trivial⟩
       ·replace h := ite_f hb h
        refine c_skip ?_
        refine k_same ?_
        refine c_region rfl ?_
        refine sm ?_
        refine sq (y_add rfl et ev_const) ?_
        refine sa ?_
        refine s_nil ?_
        exact k_loop (fuel2, wi64 (k1 + 1)) ⟨rfl, rfl, rfl, rfl, trivial⟩ ⟨_, hI.arr .n ⟨(.s (.s .z)), (.s (.s (.s .z))), trivial⟩, h⟩ (Nat.lt_succ_self _)
      ·replace h := ite_f hb h
       refine c_exit ?_
       refine k_in ?_
       exact k_join () ⟨rfl, rfl, rfl, trivial⟩ ⟨_, hI.arr .n ⟨(.s .z), (.s (.s .z)), trivial⟩, h⟩ rfl
   ·replace h := ite_f hb h
    refine c_exit ?_
    refine k_in ?_
    refine k_same ?_
    refine sr ?_
    refine sac ?_
    refine nk ?_
    refine c_ret ?_
    obtain rfl := some_inj h
    exact q_ret (vs := [(vi 0)]) Try.results13 ⟨ev_tmp rfl rfl, trivial⟩ ⟨rfl, hI.ext0, hI.fin trivial⟩
  ·skip
   refine sr ?_
   refine sac ?_
   refine nk ?_
   refine c_block ?_
   refine c_loop (α := Nat × Int) (fun x => fun w => ∃ C, Bun noM F w0 C w [] [Cl.sl cGLin a1 c1 m1, Cl.sl cStr a2 c2 names1] ∧ m_ref10_Validate_l3 names1 m1 (x.1) (x.2) = some r) (fun x _ => x.1) (fun x => [(0, (vs a1 m1.length c1)), (1, (vs a2 names1.length c2)), (5, (vi (x.2)))]) (fu, 0) ⟨_, hI.arr .n ⟨.z, (.s .z), trivial⟩, h⟩ ⟨rfl, rfl, rfl, trivial⟩ ?_
   clear h hI; rintro ⟨fuel3, i2⟩ w7 ⟨c10, hI, h⟩
   dsimp only at hI h
   rcases fuel3 with _ | fuel3
   ·rw [m_ref10_Validate_l3] at h; cases h
   rw [m_ref10_Validate_l3] at h
   refine c_sub (e := [(0, (vs a1 m1.length c1)), (1, (vs a2 names1.length c2)), (5, (vi i2))]) ⟨rfl, rfl, rfl, trivial⟩ ?_
   refine c_seq ?_
   refine sr ?_
   refine sm ?_
   refine sm ?_
   refine sq (y_lenl rfl Try.underlying23 et) ?_
   refine sq (y_lss rfl et et) ?_
   refine nk ?_
   refine c_cond (b := decide (i2 < (names1.length : Int))) et (fun hb => ?_) (fun hb => ?_)
   ·replace h := ite_t hb h
    refine c_skip ?_
    refine k_same ?_
    refine c_seq ?_
    refine c_block ?_
    refine c_seq ?_
    refine sr ?_
    refine sm ?_
    refine sm ?_
    obtain ⟨e5, hx9, h⟩ := bnd_some h
    obtain ⟨ad5, cs5, hA5, hr5, hq5⟩ := hI.clat (.s .z) hx9
    obtain rfl : cs5 = [(str e5)] := hr5
    refine sq (y_indexAddr rfl Try.underlying23 size_9 et et (lat_bd hx9) hA5) ?_
    refine sq (y_load1 (v := (str e5)) rfl et Try.underlying9 rfl hq5.1) ?_
    obtain ⟨r3, hx10, h⟩ := bnd_some h
    refine s_call gn rfl (r_callF (vs := [(str e5)]) rfl ok_30 ⟨et, trivial⟩) (Calls.mono (c_base_Name (Dj F c10) w7 hI.lt e5 trivial r3 hx10) ?_)
    rintro _ w8 ⟨rfl, hx11, hl3⟩
    refine ⟨_, rfl, ?_⟩
    replace hI := (hI.ext hx11)
    refine sq (y_not rfl et) ?_
    refine nk ?_
    refine c_cond (b := !r3) et (fun hb => ?_) (fun hb => ?_)
    ·replace h := ite_t hb h
     refine sr ?_
     refine sac ?_
     refine nk ?_
     refine c_ret ?_
     obtain rfl := some_inj h
     exact q_ret (vs := [(vi 7)]) Try.results13 ⟨ev_tmp rfl rfl, trivial⟩ ⟨rfl, hI.ext0, hI.fin trivial⟩
    ·replace h := ite_f hb h
     refine c_skip ?_
     refine k_same ?_
     refine c_seq ?_
     refine c_drawX [] false (.c (0, .q) (.c (1, .q) (.c (2, .q) (.c (3, .q) (.c (4, .q) (.c (5, .q) (.c (6, .q) (.c (7, .s) .n)))))))) hI (by kernel_rfl) (by kernel_rfl) ?_
     clear hI; intro w9 hI
     refine a_q rfl gn rfl (fun w' => (y_move rfl et)) ?_
     refine a_q rfl gn rfl (fun w' => (y_move rfl et)) ?_
     obtain ⟨zs1, hx12, h⟩ := bnd_some h
     refine a_q rfl gn rfl (fun w' => (y_lupto rfl Try.underlying23 size_9 et et hx12 (hI.cap_ (.s .z)))) ?_
     replace hI := hI.upto (.s .z) hx12
     refine a_q rfl gn rfl (fun w' => (y_move rfl et)) ?_
     refine a_q rfl gn rfl (fun w' => (y_move rfl et)) ?_
     obtain ⟨e6, hx13, h⟩ := bnd_some h
     obtain ⟨ad6, cs6, hA6, hr6, hq6⟩ := hI.clat (.s (.s .z)) hx13
     obtain rfl : cs6 = [(str e6)] := hr6
     refine a_q rfl gn rfl (fun w' => (y_indexAddr rfl Try.underlying23 size_9 et et (lat_bd hx13) hA6)) ?_
     refine a_read rfl gn rfl (fun w' hw' => (y_load1 (v := (str e6)) rfl et Try.underlying9 rfl (hq6.at_ (SX.any rfl hw')))) (by kernel_rfl) ?_
     obtain ⟨r4, hx14, h⟩ := bnd_some h
     refine la_call rfl gn rfl (r_callF (vs := [(vs a2 zs1.length c2), (str e6)]) rfl ok_31 ⟨et, ⟨et, trivial⟩⟩) (Calls.mono (c_base_Has (Dj F c10) w9 hI.lt zs1 e6 a2 c2 ⟨(hI.get .z), trivial⟩ r4 hx14) ?_)
     rintro _ w10 ⟨rfl, hx15, hl4⟩
     refine ⟨_, rfl, hx15, ?_⟩
     replace hI := (hI.ext hx15)
     refine a_nil ?_
     refine k_same ?_
     refine c_cond (b := r4) et (fun hb => ?_) (fun hb => ?_)
     ·replace h := ite_t hb h
      refine sr ?_
      refine sac ?_
      refine nk ?_
      refine c_ret ?_
      obtain rfl := some_inj h
      exact q_ret (vs := [(vi 8)]) Try.results13 ⟨ev_tmp rfl rfl, trivial⟩ ⟨rfl, hI.ext0, hI.fin trivial⟩
     ·replace h := ite_f hb h
      refine c_skip ?_
      refine k_same ?_
      refine c_region rfl ?_
      refine sm ?_
      refine sq (y_add rfl et ev_const) ?_
      refine sa ?_
      refine s_nil ?_
      exact k_loop (fuel3, wi64 (i2 + 1)) ⟨rfl, rfl, rfl, trivial⟩ ⟨_, hI.arr .n ⟨(.s .z), (.s (.s .z)), trivial⟩, h⟩ (Nat.lt_succ_self _)
   ·replace h := ite_f hb h
    refine c_exit ?_
    refine k_in ?_
    exact k_join () ⟨rfl, rfl, trivial⟩ ⟨_, hI.arr .n ⟨.z, (.s .z), trivial⟩, h⟩ rfl
set_option maxRecDepth 100000 in
set_option maxHeartbeats 4000000 in
theorem c_ref10_Place (F : NP) (w0 : World) (hF : ∀ k, F k → k < w0.heap.size) (names1 : List (List UInt8)) (s1 : List UInt8) (a1 : Option Addr) (c1 : Nat) (hc : AllCl [Cl.sl cStr a1 c1 names1] F w0) (r : Int)
  (h : m_ref10_Place names1 s1 = some r) :
  Calls Try.prog 46 #[(vs a1 names1.length c1), (str s1)] w0 fun e w => e = .returned (vi r) ∧ Ext w0 w ∧ AllCl [] F w := by
 refine enterK (l := [(vs a1 names1.length c1), (str s1)]) Try.func46 rfl Try.ntmps46 rfl ?_
 have hI := Bun.start hF hc
 clear hc
 rw [m_ref10_Place] at h
 refine sr ?_
 refine sac ?_
 refine nk ?_
 refine c_seq ?_
 refine sr ?_
 refine sac ?_
 refine nk ?_
 refine c_block ?_
 refine c_loop (α := Nat × Int) (fun x => fun w => ∃ C, Bun noM F w0 C w [] [Cl.sl cStr a1 c1 names1] ∧ m_ref10_Place_l1 names1 s1 (x.1) (x.2) = some r) (fun x _ => x.1) (fun x => [(0, (vs a1 names1.length c1)), (1, (str s1)), (5, (vi (x.2)))]) (fu, 0) ⟨_, hI.arr .n ⟨.z, trivial⟩, h⟩ ⟨rfl, rfl, rfl, trivial⟩ ?_
 clear h hI; rintro ⟨fuel1, i1⟩ w1 ⟨c2, hI, h⟩
 dsimp only at hI h
 rcases fuel1 with _ | fuel1
 ·rw [m_ref10_Place_l1] at h; cases h
 rw [m_ref10_Place_l1] at h
 refine c_sub (e := [(0, (vs a1 names1.length c1)), (1, (str s1)), (5, (vi i1))]) ⟨rfl, rfl, rfl, trivial⟩ ?_
 refine c_seq ?_
 refine sr ?_
 refine sm ?_
 refine sm ?_
 refine sq (y_lenl rfl Try.underlying23 et) ?_
 refine sq (y_lss rfl et et) ?_
 refine nk ?_
 refine c_cond (b := decide (i1 < (names1.length : Int))) et (fun hb => ?_) (fun hb => ?_)
 ·replace h := ite_t hb h
  refine c_skip ?_
  refine k_same ?_
  refine c_seq ?_
  refine c_block ?_
  refine sr ?_
  refine sm ?_
  refine sm ?_
  obtain ⟨e1, hx1, h⟩ := bnd_some h
  obtain ⟨ad1, cs1, hA1, hr1, hq1⟩ := hI.clat .z hx1
  obtain rfl : cs1 = [(str e1)] := hr1
  refine sq (y_indexAddr rfl Try.underlying23 size_9 et et (lat_bd hx1) hA1) ?_
  refine sq (y_load1 (v := (str e1)) rfl et Try.underlying9 rfl hq1.1) ?_
  refine sm ?_
  refine sq (y_eqs rfl et et) ?_
  refine nk ?_
  refine c_cond (b := decide (e1 = s1)) et (fun hb => ?_) (fun hb => ?_)
  ·replace h := ite_t hb h
   refine sr ?_
   refine sm ?_
   refine sa ?_
   refine nk ?_
   refine c_ret ?_
   obtain rfl := some_inj h
   exact q_ret (vs := [(vi i1)]) Try.results46 ⟨ev_tmp rfl rfl, trivial⟩ ⟨rfl, hI.ext0, hI.fin trivial⟩
  ·replace h := ite_f hb h
   refine c_skip ?_
   refine k_same ?_
   refine c_region rfl ?_
   refine sm ?_
   refine sq (y_add rfl et ev_const) ?_
   refine sa ?_
   refine s_nil ?_
   exact k_loop (fuel1, wi64 (i1 + 1)) ⟨rfl, rfl, rfl, trivial⟩ ⟨_, hI.arr .n ⟨.z, trivial⟩, h⟩ (Nat.lt_succ_self _)
 ·replace h := ite_f hb h
  refine c_exit ?_
  refine k_in ?_
  refine k_same ?_
  refine sr ?_
  refine sac ?_
  refine nk ?_
  refine c_ret ?_
  obtain rfl := some_inj h
  exact q_ret (vs := [(vi (-1))]) Try.results46 ⟨ev_tmp rfl rfl, trivial⟩ ⟨rfl, hI.ext0, hI.fin trivial⟩
end Go.Proofs.Ytaokohndeepbjaa
