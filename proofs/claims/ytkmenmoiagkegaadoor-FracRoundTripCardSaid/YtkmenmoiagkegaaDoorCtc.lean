/- Each call returns what its plain function gives: printed by a program of my own; Lean checks it. -/
import Derived.Test.YtkmenmoiagkegaaDoorCtb
namespace Go.Proofs.YtkmenmoiagkegaaDoor
open Go Go.RowKit Go.Vc
set_option linter.unusedVariables false
set_option linter.unusedSimpArgs false

set_option maxRecDepth 100000 in
set_option maxHeartbeats 4000000 in
theorem c_ref01_Sum (F : NP) (w0 : World) (hF : ∀ k, F k → k < w0.heap.size) (l1 : List GVal) (a1 : Option Addr) (c1 : Nat) (hc : AllCl [Cl.sl cGVal a1 c1 l1] F w0) (r : GVal × Int)
    (h : m_ref01_Sum l1 = some r) :
    Calls Tryd.prog 18 #[(Value.slice a1 l1.length c1)] w0 fun e w => e = .returned (Value.tuple #[(Value.agg #[(Value.int .i64 r.1.N), (Value.int .i64 r.1.D)]), (Value.int .i64 r.2)]) ∧ Ext w0 w ∧ AllCl [] F w := by
  refine ofEnter (R := fun v w => v = (Value.tuple #[(Value.agg #[(Value.int .i64 r.1.N), (Value.int .i64 r.1.D)]), (Value.int .i64 r.2)]) ∧ Ext w0 w ∧ AllCl [] F w) (enter (l := [(Value.slice a1 l1.length c1)]) Tryd.func18 rfl Tryd.ntmps18 rfl ?_) ?_
  rotate_left
  · rintro _ w ⟨rfl, k1, k2⟩; exact ⟨rfl, k1, k2⟩
  have hI := Bun.start hF hc
  clear hc
  rw [m_ref01_Sum] at h
  refine c_seq ?_
  refine c_region rfl ?_
  refine l_alloc (cs := #[(Value.int .i64 0), (Value.int .i64 0)]) hI rfl rfl rfl zero_23 rfl ?_
  clear hI; intro b1 c2 w1 hI
  refine s_q rfl rfl (y_assign rfl ev_const) ?_
  refine s_nil ?_
  refine k_next (e := [(0, (Value.slice a1 l1.length c1)), (2, (Value.pointer (some ⟨b1, 0, none⟩)))]) ⟨rfl, rfl, trivial⟩ ?_
  refine c_seq ?_
  refine c_region rfl ?_
  refine s_q rfl rfl (y_assign rfl ev_const) ?_
  refine s_q rfl rfl (y_assign rfl ev_const) ?_
  refine s_q rfl rfl (y_assign rfl ev_const) ?_
  refine s_nil ?_
  refine k_next (e := [(0, (Value.slice a1 l1.length c1)), (2, (Value.pointer (some ⟨b1, 0, none⟩))), (4, (Value.slice none 0 0)), (5, (Value.slice none 0 0)), (6, (Value.slice none 0 0))]) ⟨rfl, rfl, rfl, rfl, rfl, trivial⟩ ?_
  refine c_seq ?_
  refine c_region rfl ?_
  refine l_lit (c := (cInt .u64)) (xs := ([1] : List Int)) (vs := [(0, (Value.int .u64 1))]) (cs := #[(Value.int .u64 1)]) (css := [[(Value.int .u64 1)]]) hI rfl rfl rfl Tryd.underlying62 info_44 rfl ⟨rfl, ev_const, trivial⟩ (by kernel_rfl) ⟨rfl, trivial⟩ rfl rfl rfl ?_
  clear hI; intro b2 c3 w2 hI
  refine s_q rfl rfl (y_assign rfl (ev_tmp rfl rfl)) ?_
  refine s_nil ?_
  refine k_next (e := [(0, (Value.slice a1 l1.length c1)), (2, (Value.pointer (some ⟨b1, 0, none⟩))), (4, (Value.slice none 0 0)), (5, (Value.slice none 0 0)), (6, (Value.slice none 0 0)), (7, (Value.slice (some ⟨b2, 0, none⟩) ([1] : List Int).length 1))]) ⟨rfl, rfl, rfl, rfl, rfl, rfl, trivial⟩ ?_
  refine c_join (α := Unit) (fun _ => ⟨93, []⟩) (fun _ => [(0, (Value.slice a1 l1.length c1)), (2, (Value.pointer (some ⟨b1, 0, none⟩))), (4, (Value.slice none 0 0)), (5, (Value.slice none 0 0)), (6, (Value.slice none 0 0)), (7, (Value.slice (some ⟨b2, 0, none⟩) ([1] : List Int).length 1))]) (fun _ => fun w => ∃ C, Bun noM F w0 C w [MO.box b1 23 #[(Value.int .i64 0), (Value.int .i64 0)], MO.row (cInt .u64) 44 (some ⟨b2, 0, none⟩) 1 ([1] : List Int)] [Cl.sl cGVal a1 c1 l1] ∧ m_ref01_Sum_j1 l1 = some r) ?_ ?_
  · clear h hI; rintro _ w3 ⟨c4, hI, h⟩
    try dsimp only at hI h
    rw [m_ref01_Sum_j1] at h
    refine c_sub (e := [(0, (Value.slice a1 l1.length c1)), (2, (Value.pointer (some ⟨b1, 0, none⟩))), (4, (Value.slice none 0 0)), (5, (Value.slice none 0 0)), (6, (Value.slice none 0 0)), (7, (Value.slice (some ⟨b2, 0, none⟩) ([1] : List Int).length 1))]) ⟨rfl, rfl, rfl, rfl, rfl, rfl, trivial⟩ ?_
    refine c_join (α := (List Int) × (List Int) × (List Int) × (Option Addr) × Nat × (Option Addr) × Nat × (Option Addr) × Nat) (fun _ => ⟨93, []⟩) (fun x => [(2, (Value.pointer (some ⟨b1, 0, none⟩))), (4, (Value.slice (x.2.2.2.1) (x.1).length (x.2.2.2.2.1))), (5, (Value.slice (x.2.2.2.2.2.1) (x.2.1).length (x.2.2.2.2.2.2.1))), (6, (Value.slice (x.2.2.2.2.2.2.2.1) (x.2.2.1).length (x.2.2.2.2.2.2.2.2)))]) (fun x => fun w => ∃ C, Bun noM F w0 C w [MO.row (cInt .u64) 44 (x.2.2.2.2.2.2.2.1) (x.2.2.2.2.2.2.2.2) (x.2.2.1), MO.box b1 23 #[(Value.int .i64 0), (Value.int .i64 0)]] [Cl.sl (cInt .u64) (x.2.2.2.1) (x.2.2.2.2.1) (x.1), Cl.sl (cInt .u64) (x.2.2.2.2.2.1) (x.2.2.2.2.2.2.1) (x.2.1)] ∧ m_ref01_Sum_j2 (x.1) (x.2.1) (x.2.2.1) = some r) ?_ ?_
    · clear h hI; rintro ⟨up1, down1, ds1, a2, c5, a3, c6, a4, c7⟩ w4 ⟨c8, hI, h⟩
      try dsimp only at hI h
      rw [m_ref01_Sum_j2] at h
      refine c_sub (e := [(2, (Value.pointer (some ⟨b1, 0, none⟩))), (4, (Value.slice a2 up1.length c5)), (5, (Value.slice a3 down1.length c6)), (6, (Value.slice a4 ds1.length c7))]) ⟨rfl, rfl, rfl, rfl, trivial⟩ ?_
      refine c_seq ?_
      refine c_seq ?_
      refine c_region rfl ?_
      refine s_q rfl rfl (y_move rfl (ev_tmp rfl rfl)) ?_
      refine s_q rfl rfl (y_move rfl (ev_tmp rfl rfl)) ?_
      obtain ⟨r1, hx1, h⟩ := bnd_some h
      refine s_call rfl rfl (r_callF (vs := [(Value.slice a2 up1.length c5), (Value.slice a3 down1.length c6)]) rfl ok_54 ⟨(ev_tmp rfl rfl), ⟨(ev_tmp rfl rfl), trivial⟩⟩) (Calls.mono (c_ref01_below (Dj F c8) w4 hI.lt up1 down1 a2 c5 a3 c6 ⟨(hI.get .z), (hI.get (.s .z)), trivial⟩ r1 hx1) ?_)
      rintro _ w5 ⟨rfl, hx2, hl1⟩
      refine ⟨_, rfl, ?_⟩
      replace hI := (hI.ext hx2)
      refine s_nil ?_
      refine k_next (e := [(2, (Value.pointer (some ⟨b1, 0, none⟩))), (4, (Value.slice a2 up1.length c5)), (5, (Value.slice a3 down1.length c6)), (6, (Value.slice a4 ds1.length c7)), (78, (Value.bool r1))]) ⟨rfl, rfl, rfl, rfl, rfl, trivial⟩ ?_
      refine c_cond (b := r1) (ev_tmp rfl rfl) (fun hb => ?_) (fun hb => ?_)
      · replace h := ite_t hb h
        refine c_seq ?_
        refine c_region rfl ?_
        refine s_q rfl rfl (y_move rfl (ev_tmp rfl rfl)) ?_
        refine s_q rfl rfl (y_move rfl (ev_tmp rfl rfl)) ?_
        obtain ⟨r2, hx3, h⟩ := bnd_some h
        refine s_call rfl rfl (r_callF (vs := [(Value.slice a3 down1.length c6), (Value.slice a2 up1.length c5)]) rfl ok_56 ⟨(ev_tmp rfl rfl), ⟨(ev_tmp rfl rfl), trivial⟩⟩) (Calls.mono (c_ref01_less (Dj F c8) w5 hI.lt down1 up1 a3 c6 a2 c5 ⟨(hI.get (.s .z)), (hI.get .z), trivial⟩ r2 hx3) ?_)
        rintro _ w6 ⟨a5, c9, rfl, hx4, hl2⟩
        refine ⟨_, rfl, ?_⟩
        replace hI := (hI.ext hx4).adds hl2
        refine s_q rfl rfl (y_move rfl (ev_tmp rfl rfl)) ?_
        obtain ⟨r3, hx5, h⟩ := bnd_some h
        refine s_call rfl rfl (r_callF (vs := [(Value.bool true), (Value.slice a5 r2.length c9), (Value.slice a4 ds1.length c7)]) rfl ok_55 ⟨ev_const, ⟨(ev_tmp rfl rfl), ⟨(ev_tmp rfl rfl), trivial⟩⟩⟩) (Calls.mono (c_ref01_lowest noM w6 (fun _ k => k.elim) true r2 ds1 a5 c9 a4 c7 ⟨(hI.get0 .z), hI.lend .z, trivial⟩ r3 hx5) ?_)
        rintro _ w7 ⟨rfl, hx6, hl3⟩
        refine ⟨_, rfl, ?_⟩
        replace hI := (hI.ext hx6)
        refine s_q rfl rfl (y_extract rfl (ev_tmp rfl rfl) rfl) ?_
        refine s_q rfl rfl (y_extract rfl (ev_tmp rfl rfl) rfl) ?_
        refine l_store (new := [(Value.int .i64 r3.1.N), (Value.int .i64 r3.1.D)]) (cs' := #[(Value.int .i64 r3.1.N), (Value.int .i64 r3.1.D)]) hI (.s .z) rfl rfl rfl (ev_tmp rfl rfl) (ev_tmp rfl rfl) rfl size_23 rfl rfl rfl ?_
        clear hI; intro c10 w8 hI
        refine s_q rfl rfl (y_assign rfl (ev_tmp rfl rfl)) ?_
        refine s_nil ?_
        refine k_next (e := [(2, (Value.pointer (some ⟨b1, 0, none⟩))), (3, (Value.int .i64 r3.2))]) ⟨rfl, rfl, trivial⟩ ?_
        refine c_ret ?_
        obtain rfl := some_inj h
        exact q_ret (vs := [(Value.agg #[(Value.int .i64 r3.1.N), (Value.int .i64 r3.1.D)]), (Value.int .i64 r3.2)]) Tryd.results18 ⟨⟨_, ev_tmp rfl rfl, load_agg (l := [(Value.int .i64 r3.1.N), (Value.int .i64 r3.1.D)]) Tryd.underlying23 rfl size_23 (CellsAt.of_blk (hI.blk (.s .z)) rfl)⟩, ⟨ev_tmp rfl rfl, trivial⟩⟩ ⟨rfl, hI.ext0, hI.fin trivial⟩
      · replace h := ite_f hb h
        refine c_skip ?_
        refine k_next (e := [(2, (Value.pointer (some ⟨b1, 0, none⟩))), (4, (Value.slice a2 up1.length c5)), (5, (Value.slice a3 down1.length c6)), (6, (Value.slice a4 ds1.length c7))]) ⟨rfl, rfl, rfl, rfl, trivial⟩ ?_
        refine c_seq ?_
        refine c_region rfl ?_
        refine s_q rfl rfl (y_move rfl (ev_tmp rfl rfl)) ?_
        refine s_q rfl rfl (y_move rfl (ev_tmp rfl rfl)) ?_
        obtain ⟨r4, hx7, h⟩ := bnd_some h
        refine s_call rfl rfl (r_callF (vs := [(Value.slice a2 up1.length c5), (Value.slice a3 down1.length c6)]) rfl ok_56 ⟨(ev_tmp rfl rfl), ⟨(ev_tmp rfl rfl), trivial⟩⟩) (Calls.mono (c_ref01_less (Dj F c8) w5 hI.lt up1 down1 a2 c5 a3 c6 ⟨(hI.get .z), (hI.get (.s .z)), trivial⟩ r4 hx7) ?_)
        rintro _ w9 ⟨a6, c11, rfl, hx8, hl4⟩
        refine ⟨_, rfl, ?_⟩
        replace hI := (hI.ext hx8).adds hl4
        refine s_q rfl rfl (y_move rfl (ev_tmp rfl rfl)) ?_
        obtain ⟨r5, hx9, h⟩ := bnd_some h
        refine s_call rfl rfl (r_callF (vs := [(Value.bool false), (Value.slice a6 r4.length c11), (Value.slice a4 ds1.length c7)]) rfl ok_55 ⟨ev_const, ⟨(ev_tmp rfl rfl), ⟨(ev_tmp rfl rfl), trivial⟩⟩⟩) (Calls.mono (c_ref01_lowest noM w9 (fun _ k => k.elim) false r4 ds1 a6 c11 a4 c7 ⟨(hI.get0 .z), hI.lend .z, trivial⟩ r5 hx9) ?_)
        rintro _ w10 ⟨rfl, hx10, hl5⟩
        refine ⟨_, rfl, ?_⟩
        replace hI := (hI.ext hx10)
        refine s_q rfl rfl (y_extract rfl (ev_tmp rfl rfl) rfl) ?_
        refine s_q rfl rfl (y_extract rfl (ev_tmp rfl rfl) rfl) ?_
        refine l_store (new := [(Value.int .i64 r5.1.N), (Value.int .i64 r5.1.D)]) (cs' := #[(Value.int .i64 r5.1.N), (Value.int .i64 r5.1.D)]) hI (.s .z) rfl rfl rfl (ev_tmp rfl rfl) (ev_tmp rfl rfl) rfl size_23 rfl rfl rfl ?_
        clear hI; intro c12 w11 hI
        refine s_q rfl rfl (y_assign rfl (ev_tmp rfl rfl)) ?_
        refine s_nil ?_
        refine k_next (e := [(2, (Value.pointer (some ⟨b1, 0, none⟩))), (3, (Value.int .i64 r5.2))]) ⟨rfl, rfl, trivial⟩ ?_
        refine c_ret ?_
        obtain rfl := some_inj h
        exact q_ret (vs := [(Value.agg #[(Value.int .i64 r5.1.N), (Value.int .i64 r5.1.D)]), (Value.int .i64 r5.2)]) Tryd.results18 ⟨⟨_, ev_tmp rfl rfl, load_agg (l := [(Value.int .i64 r5.1.N), (Value.int .i64 r5.1.D)]) Tryd.underlying23 rfl size_23 (CellsAt.of_blk (hI.blk (.s .z)) rfl)⟩, ⟨ev_tmp rfl rfl, trivial⟩⟩ ⟨rfl, hI.ext0, hI.fin trivial⟩
    · skip
      refine c_seq ?_
      refine c_region rfl ?_
      refine s_q rfl rfl (y_assign rfl ev_const) ?_
      refine s_nil ?_
      refine k_next (e := [(0, (Value.slice a1 l1.length c1)), (2, (Value.pointer (some ⟨b1, 0, none⟩))), (4, (Value.slice none 0 0)), (5, (Value.slice none 0 0)), (6, (Value.slice none 0 0)), (7, (Value.slice (some ⟨b2, 0, none⟩) ([1] : List Int).length 1)), (9, (Value.int .i64 0))]) ⟨rfl, rfl, rfl, rfl, rfl, rfl, rfl, trivial⟩ ?_
      refine c_block ?_
      have hI := hI.add (c := Cl.sl (cInt .u64) none 0 ([] : List Int)) SlC.nil
      have hI := hI.nil (cInt .u64) 44 none
      obtain ⟨c18, hI⟩ := hI.release (.s (.s .z))
      refine c_loop (α := Nat × (List Int) × (List Int) × (List Int) × (List Int) × Int × (Option Addr) × Nat × (Option Addr) × Nat × (Option Addr) × Nat × (Option Addr) × Nat) (fun x => fun w => ∃ C, Bun noM F w0 C w [MO.row (cInt .u64) 44 (x.2.2.2.2.2.2.2.2.2.2.1) (x.2.2.2.2.2.2.2.2.2.2.2.1) (x.2.2.2.1), MO.box b1 23 #[(Value.int .i64 0), (Value.int .i64 0)]] [Cl.sl (cInt .u64) (x.2.2.2.2.2.2.1) (x.2.2.2.2.2.2.2.1) (x.2.1), Cl.sl (cInt .u64) (x.2.2.2.2.2.2.2.2.1) (x.2.2.2.2.2.2.2.2.2.1) (x.2.2.1), Cl.sl (cInt .u64) (x.2.2.2.2.2.2.2.2.2.2.2.2.1) (x.2.2.2.2.2.2.2.2.2.2.2.2.2) (x.2.2.2.2.1), Cl.sl cGVal a1 c1 l1] ∧ m_ref01_Sum_l1 l1 (x.1) (x.2.1) (x.2.2.1) (x.2.2.2.1) (x.2.2.2.2.1) (x.2.2.2.2.2.1) = some r) (fun x _ => x.1) (fun x => [(0, (Value.slice a1 l1.length c1)), (2, (Value.pointer (some ⟨b1, 0, none⟩))), (4, (Value.slice (x.2.2.2.2.2.2.1) (x.2.1).length (x.2.2.2.2.2.2.2.1))), (5, (Value.slice (x.2.2.2.2.2.2.2.2.1) (x.2.2.1).length (x.2.2.2.2.2.2.2.2.2.1))), (6, (Value.slice (x.2.2.2.2.2.2.2.2.2.2.1) (x.2.2.2.1).length (x.2.2.2.2.2.2.2.2.2.2.2.1))), (7, (Value.slice (x.2.2.2.2.2.2.2.2.2.2.2.2.1) (x.2.2.2.2.1).length (x.2.2.2.2.2.2.2.2.2.2.2.2.2))), (9, (Value.int .i64 (x.2.2.2.2.2.1)))]) (fu, ([] : List Int), ([] : List Int), ([] : List Int), ([1] : List Int), 0, none, 0, none, 0, none, 0, some ⟨b2, 0, none⟩, 1) ⟨_, hI.arr (.c .z (.c .z .n)) ⟨(.s .z), (.s .z), .z, (.s (.s .z)), trivial⟩, h⟩ ⟨rfl, rfl, rfl, rfl, rfl, rfl, rfl, trivial⟩ ?_
      clear h hI; rintro ⟨fuel1, up2, down2, ds2, all1, i1, a7, c13, a8, c14, a9, c15, a10, c16⟩ w12 ⟨c17, hI, h⟩
      dsimp only at hI h
      rcases fuel1 with _ | fuel1
      · rw [m_ref01_Sum_l1] at h; cases h
      rw [m_ref01_Sum_l1] at h
      refine c_sub (e := [(0, (Value.slice a1 l1.length c1)), (2, (Value.pointer (some ⟨b1, 0, none⟩))), (4, (Value.slice a7 up2.length c13)), (5, (Value.slice a8 down2.length c14)), (6, (Value.slice a9 ds2.length c15)), (7, (Value.slice a10 all1.length c16)), (9, (Value.int .i64 i1))]) ⟨rfl, rfl, rfl, rfl, rfl, rfl, rfl, trivial⟩ ?_
      refine c_seq ?_
      refine c_seq ?_
      refine c_region rfl ?_
      refine s_q rfl rfl (y_move rfl (ev_tmp rfl rfl)) ?_
      refine s_q rfl rfl (y_move rfl (ev_tmp rfl rfl)) ?_
      refine s_q rfl rfl (y_lenl rfl Tryd.underlying30 (ev_tmp rfl rfl)) ?_
      refine s_q rfl rfl (y_lss rfl (ev_tmp rfl rfl) (ev_tmp rfl rfl)) ?_
      refine s_nil ?_
      refine k_next (e := [(0, (Value.slice a1 l1.length c1)), (2, (Value.pointer (some ⟨b1, 0, none⟩))), (4, (Value.slice a7 up2.length c13)), (5, (Value.slice a8 down2.length c14)), (6, (Value.slice a9 ds2.length c15)), (7, (Value.slice a10 all1.length c16)), (9, (Value.int .i64 i1)), (28, (Value.bool (decide (i1 < (l1.length : Int)))))]) ⟨rfl, rfl, rfl, rfl, rfl, rfl, rfl, rfl, trivial⟩ ?_
      refine c_cond (b := decide (i1 < (l1.length : Int))) (ev_tmp rfl rfl) (fun hb => ?_) (fun hb => ?_)
      · replace h := ite_t hb h
        refine c_skip ?_
        refine k_next (e := [(0, (Value.slice a1 l1.length c1)), (2, (Value.pointer (some ⟨b1, 0, none⟩))), (4, (Value.slice a7 up2.length c13)), (5, (Value.slice a8 down2.length c14)), (6, (Value.slice a9 ds2.length c15)), (7, (Value.slice a10 all1.length c16)), (9, (Value.int .i64 i1))]) ⟨rfl, rfl, rfl, rfl, rfl, rfl, rfl, trivial⟩ ?_
        refine c_seq ?_
        refine c_block ?_
        refine c_seq ?_
        refine c_region rfl ?_
        refine s_q rfl rfl (y_move rfl (ev_tmp rfl rfl)) ?_
        refine s_q rfl rfl (y_move rfl (ev_tmp rfl rfl)) ?_
        obtain ⟨e1, hx11, h⟩ := bnd_some h
        obtain ⟨ad1, cs1, hA1, hr1, hq1⟩ := hI.clat (.s (.s (.s .z))) hx11
        obtain rfl : cs1 = [(Value.int .i64 e1.N), (Value.int .i64 e1.D)] := hr1
        refine s_q rfl rfl (y_indexAddr rfl Tryd.underlying30 size_23 (ev_tmp rfl rfl) (ev_tmp rfl rfl) (lat_bd hx11) hA1) ?_
        refine s_q rfl rfl (y_fieldAddr rfl (ev_tmp rfl rfl) Tryd.underlying23 rfl size_2 rfl) ?_
        refine s_q rfl rfl (y_load1 (v := (Value.int .i64 e1.D)) rfl (ev_tmp rfl rfl) Tryd.underlying2 rfl (CA.part hq1 rfl).1) ?_
        refine s_q rfl rfl (y_conv rfl (by rw [Tryd.underlying2]; rfl) Tryd.underlying44 (ev_tmp rfl rfl)) ?_
        refine s_q rfl rfl (y_assign rfl (ev_tmp rfl rfl)) ?_
        refine s_nil ?_
        refine k_next (e := [(0, (Value.slice a1 l1.length c1)), (2, (Value.pointer (some ⟨b1, 0, none⟩))), (4, (Value.slice a7 up2.length c13)), (5, (Value.slice a8 down2.length c14)), (6, (Value.slice a9 ds2.length c15)), (7, (Value.slice a10 all1.length c16)), (9, (Value.int .i64 i1)), (10, (Value.int .u64 (wu64 e1.D)))]) ⟨rfl, rfl, rfl, rfl, rfl, rfl, rfl, rfl, trivial⟩ ?_
        refine c_seq ?_
        refine c_region rfl ?_
        refine s_q rfl rfl (y_move rfl (ev_tmp rfl rfl)) ?_
        refine s_q rfl rfl (y_move rfl (ev_tmp rfl rfl)) ?_
        obtain ⟨r6, hx12, h⟩ := bnd_some h
        refine s_call rfl rfl (r_callF (vs := [(Value.slice a7 up2.length c13), (Value.int .u64 (wu64 e1.D))]) rfl ok_52 ⟨(ev_tmp rfl rfl), ⟨(ev_tmp rfl rfl), trivial⟩⟩) (Calls.mono (c_ref01_times (Dj F c17) w12 hI.lt up2 (wu64 e1.D) a7 c13 ⟨(hI.get .z), trivial⟩ r6 hx12) ?_)
        rintro _ w13 ⟨a11, c19, rfl, hx13, hl6⟩
        refine ⟨_, rfl, ?_⟩
        replace hI := (hI.ext hx13).adds hl6
        refine s_q rfl rfl (y_assign rfl (ev_tmp rfl rfl)) ?_
        refine s_nil ?_
        refine k_next (e := [(0, (Value.slice a1 l1.length c1)), (2, (Value.pointer (some ⟨b1, 0, none⟩))), (4, (Value.slice a11 r6.length c19)), (5, (Value.slice a8 down2.length c14)), (6, (Value.slice a9 ds2.length c15)), (7, (Value.slice a10 all1.length c16)), (9, (Value.int .i64 i1)), (10, (Value.int .u64 (wu64 e1.D)))]) ⟨rfl, rfl, rfl, rfl, rfl, rfl, rfl, rfl, trivial⟩ ?_
        refine c_seq ?_
        refine c_region rfl ?_
        refine s_q rfl rfl (y_move rfl (ev_tmp rfl rfl)) ?_
        refine s_q rfl rfl (y_move rfl (ev_tmp rfl rfl)) ?_
        obtain ⟨r7, hx14, h⟩ := bnd_some h
        refine s_call rfl rfl (r_callF (vs := [(Value.slice a8 down2.length c14), (Value.int .u64 (wu64 e1.D))]) rfl ok_52 ⟨(ev_tmp rfl rfl), ⟨(ev_tmp rfl rfl), trivial⟩⟩) (Calls.mono (c_ref01_times (Dj F c17) w13 hI.lt down2 (wu64 e1.D) a8 c14 ⟨(hI.get (.s (.s .z))), trivial⟩ r7 hx14) ?_)
        rintro _ w14 ⟨a12, c20, rfl, hx15, hl7⟩
        refine ⟨_, rfl, ?_⟩
        replace hI := (hI.ext hx15).adds hl7
        refine s_q rfl rfl (y_assign rfl (ev_tmp rfl rfl)) ?_
        refine s_nil ?_
        refine k_next (e := [(0, (Value.slice a1 l1.length c1)), (2, (Value.pointer (some ⟨b1, 0, none⟩))), (4, (Value.slice a11 r6.length c19)), (5, (Value.slice a12 r7.length c20)), (6, (Value.slice a9 ds2.length c15)), (7, (Value.slice a10 all1.length c16)), (9, (Value.int .i64 i1)), (10, (Value.int .u64 (wu64 e1.D)))]) ⟨rfl, rfl, rfl, rfl, rfl, rfl, rfl, rfl, trivial⟩ ?_
        refine c_join (α := (List Int) × (List Int) × (Option Addr) × Nat × (Option Addr) × Nat) (fun _ => ⟨93, []⟩) (fun x => [(0, (Value.slice a1 l1.length c1)), (2, (Value.pointer (some ⟨b1, 0, none⟩))), (4, (Value.slice (x.2.2.1) (x.1).length (x.2.2.2.1))), (5, (Value.slice (x.2.2.2.2.1) (x.2.1).length (x.2.2.2.2.2))), (6, (Value.slice a9 ds2.length c15)), (7, (Value.slice a10 all1.length c16)), (9, (Value.int .i64 i1)), (10, (Value.int .u64 (wu64 e1.D)))]) (fun x => fun w => ∃ C, Bun noM F w0 C w [MO.box b1 23 #[(Value.int .i64 0), (Value.int .i64 0)], MO.row (cInt .u64) 44 a9 c15 ds2] [Cl.sl (cInt .u64) (x.2.2.1) (x.2.2.2.1) (x.1), Cl.sl (cInt .u64) (x.2.2.2.2.1) (x.2.2.2.2.2) (x.2.1), Cl.sl cGVal a1 c1 l1, Cl.sl (cInt .u64) a10 c16 all1] ∧ m_ref01_Sum_j3 all1 e1 ds2 (m_ref01_Sum_l1 l1 fuel1) i1 (x.1) (x.2.1) = some r) ?_ ?_
        · clear h hI; rintro ⟨up3, down3, a13, c21, a14, c22⟩ w15 ⟨c23, hI, h⟩
          try dsimp only at hI h
          rw [m_ref01_Sum_j3] at h
          refine c_sub (e := [(0, (Value.slice a1 l1.length c1)), (2, (Value.pointer (some ⟨b1, 0, none⟩))), (4, (Value.slice a13 up3.length c21)), (5, (Value.slice a14 down3.length c22)), (6, (Value.slice a9 ds2.length c15)), (7, (Value.slice a10 all1.length c16)), (9, (Value.int .i64 i1)), (10, (Value.int .u64 (wu64 e1.D)))]) ⟨rfl, rfl, rfl, rfl, rfl, rfl, rfl, rfl, trivial⟩ ?_
          refine c_seq ?_
          refine c_region rfl ?_
          refine s_q rfl rfl (y_move rfl (ev_tmp rfl rfl)) ?_
          refine s_q rfl rfl (y_move rfl (ev_tmp rfl rfl)) ?_
          obtain ⟨r8, hx16, h⟩ := bnd_some h
          refine s_call rfl rfl (r_callF (vs := [(Value.slice a10 all1.length c16), (Value.int .u64 (wu64 e1.D))]) rfl ok_52 ⟨(ev_tmp rfl rfl), ⟨(ev_tmp rfl rfl), trivial⟩⟩) (Calls.mono (c_ref01_times (Dj F c23) w15 hI.lt all1 (wu64 e1.D) a10 c16 ⟨(hI.get (.s (.s (.s .z)))), trivial⟩ r8 hx16) ?_)
          rintro _ w16 ⟨a15, c24, rfl, hx17, hl8⟩
          refine ⟨_, rfl, ?_⟩
          replace hI := (hI.ext hx17).adds hl8
          refine s_q rfl rfl (y_assign rfl (ev_tmp rfl rfl)) ?_
          refine s_nil ?_
          refine k_next (e := [(0, (Value.slice a1 l1.length c1)), (2, (Value.pointer (some ⟨b1, 0, none⟩))), (4, (Value.slice a13 up3.length c21)), (5, (Value.slice a14 down3.length c22)), (6, (Value.slice a9 ds2.length c15)), (7, (Value.slice a15 r8.length c24)), (9, (Value.int .i64 i1)), (10, (Value.int .u64 (wu64 e1.D)))]) ⟨rfl, rfl, rfl, rfl, rfl, rfl, rfl, rfl, trivial⟩ ?_
          refine c_region rfl ?_
          refine s_q rfl rfl (y_move rfl (ev_tmp rfl rfl)) ?_
          refine s_q rfl rfl (y_move rfl (ev_tmp rfl rfl)) ?_
          refine l_lit (c := (cInt .u64)) (xs := ([wu64 e1.D] : List Int)) (vs := [(0, (Value.int .u64 (wu64 e1.D)))]) (cs := #[(Value.int .u64 (wu64 e1.D))]) (css := [[(Value.int .u64 (wu64 e1.D))]]) hI rfl rfl rfl Tryd.underlying62 info_44 rfl ⟨rfl, (ev_tmp rfl rfl), trivial⟩ (by kernel_rfl) ⟨rfl, trivial⟩ rfl rfl rfl ?_
          clear hI; intro b3 c25 w17 hI
          obtain ⟨zs1, hx18, h⟩ := bnd_some h
          refine l_append (xs := ds2) (ys := ([wu64 e1.D] : List Int)) hI (.s (.s .z)) (hI.rd .z) hx18 rfl rfl rfl Tryd.underlying62 info_44 rfl rfl (ev_tmp rfl rfl) (ev_tmp rfl rfl) ?_
          clear hI; intro a16 c26 c27 w18 hI
          refine s_q rfl rfl (y_assign rfl (ev_tmp rfl rfl)) ?_
          refine s_nil ?_
          refine k_next (e := [(0, (Value.slice a1 l1.length c1)), (2, (Value.pointer (some ⟨b1, 0, none⟩))), (4, (Value.slice a13 up3.length c21)), (5, (Value.slice a14 down3.length c22)), (6, (Value.slice a16 zs1.length c26)), (7, (Value.slice a15 r8.length c24)), (9, (Value.int .i64 i1))]) ⟨rfl, rfl, rfl, rfl, rfl, rfl, rfl, trivial⟩ ?_
          refine c_region rfl ?_
          refine s_q rfl rfl (y_move rfl (ev_tmp rfl rfl)) ?_
          refine s_q rfl rfl (y_add rfl (ev_tmp rfl rfl) ev_const) ?_
          refine s_q rfl rfl (y_assign rfl (ev_tmp rfl rfl)) ?_
          refine s_nil ?_
          exact k_loop (fuel1, up3, down3, zs1, r8, wi64 (i1 + 1), a13, c21, a14, c22, a16, c26, a15, c24) ⟨rfl, rfl, rfl, rfl, rfl, rfl, rfl, trivial⟩ ⟨_, hI.arr (.c (.s (.s .z)) (.c (.s .z) .n)) ⟨(.s .z), (.s (.s .z)), .z, (.s (.s (.s .z))), trivial⟩, h⟩ (Nat.lt_succ_self _)
        · skip
          refine c_seq ?_
          refine c_region rfl ?_
          refine s_q rfl rfl (y_move rfl (ev_tmp rfl rfl)) ?_
          refine s_q rfl rfl (y_move rfl (ev_tmp rfl rfl)) ?_
          obtain ⟨e2, hx19, h⟩ := bnd_some h
          obtain ⟨ad2, cs2, hA2, hr2, hq2⟩ := hI.clat (.s (.s (.s (.s (.s .z))))) hx19
          obtain rfl : cs2 = [(Value.int .i64 e2.N), (Value.int .i64 e2.D)] := hr2
          refine s_q rfl rfl (y_indexAddr rfl Tryd.underlying30 size_23 (ev_tmp rfl rfl) (ev_tmp rfl rfl) (lat_bd hx19) hA2) ?_
          refine s_q rfl rfl (y_fieldAddr rfl (ev_tmp rfl rfl) Tryd.underlying23 rfl size_2 rfl) ?_
          refine s_q rfl rfl (y_load1 (v := (Value.int .i64 e2.N)) rfl (ev_tmp rfl rfl) Tryd.underlying2 rfl (CA.part hq2 rfl).1) ?_
          refine s_q rfl rfl (y_gtr rfl (ev_tmp rfl rfl) ev_const) ?_
          refine s_nil ?_
          refine k_next (e := [(0, (Value.slice a1 l1.length c1)), (2, (Value.pointer (some ⟨b1, 0, none⟩))), (4, (Value.slice a11 r6.length c19)), (5, (Value.slice a12 r7.length c20)), (6, (Value.slice a9 ds2.length c15)), (7, (Value.slice a10 all1.length c16)), (9, (Value.int .i64 i1)), (10, (Value.int .u64 (wu64 e1.D))), (48, (Value.bool (decide (0 < e2.N))))]) ⟨rfl, rfl, rfl, rfl, rfl, rfl, rfl, rfl, rfl, trivial⟩ ?_
          refine c_cond (b := decide (0 < e2.N)) (ev_tmp rfl rfl) (fun hb => ?_) (fun hb => ?_)
          · replace h := ite_t hb h
            refine c_region rfl ?_
            refine s_q rfl rfl (y_move rfl (ev_tmp rfl rfl)) ?_
            refine s_q rfl rfl (y_move rfl (ev_tmp rfl rfl)) ?_
            refine s_q rfl rfl (y_move rfl (ev_tmp rfl rfl)) ?_
            refine s_q rfl rfl (y_move rfl (ev_tmp rfl rfl)) ?_
            obtain ⟨e3, hx20, h⟩ := bnd_some h
            obtain ⟨ad3, cs3, hA3, hr3, hq3⟩ := hI.clat (.s (.s (.s (.s (.s .z))))) hx20
            obtain rfl : cs3 = [(Value.int .i64 e3.N), (Value.int .i64 e3.D)] := hr3
            refine s_q rfl rfl (y_indexAddr rfl Tryd.underlying30 size_23 (ev_tmp rfl rfl) (ev_tmp rfl rfl) (lat_bd hx20) hA3) ?_
            refine s_q rfl rfl (y_fieldAddr rfl (ev_tmp rfl rfl) Tryd.underlying23 rfl size_2 rfl) ?_
            refine s_q rfl rfl (y_load1 (v := (Value.int .i64 e3.N)) rfl (ev_tmp rfl rfl) Tryd.underlying2 rfl (CA.part hq3 rfl).1) ?_
            obtain ⟨r9, hx21, h⟩ := bnd_some h
            refine s_call rfl rfl (r_callF (vs := [(Value.int .i64 e3.N)]) rfl ok_42 ⟨(ev_tmp rfl rfl), trivial⟩) (Calls.mono (c_ref01_size (Dj F c17) w14 hI.lt e3.N trivial r9 hx21) ?_)
            rintro _ w19 ⟨rfl, hx22, hl9⟩
            refine ⟨_, rfl, ?_⟩
            replace hI := (hI.ext hx22)
            obtain ⟨r10, hx23, h⟩ := bnd_some h
            refine s_call rfl rfl (r_callF (vs := [(Value.slice a10 all1.length c16), (Value.int .u64 r9)]) rfl ok_52 ⟨(ev_tmp rfl rfl), ⟨(ev_tmp rfl rfl), trivial⟩⟩) (Calls.mono (c_ref01_times (Dj F c17) w19 hI.lt all1 r9 a10 c16 ⟨(hI.get (.s (.s (.s (.s .z))))), trivial⟩ r10 hx23) ?_)
            rintro _ w20 ⟨a17, c28, rfl, hx24, hl10⟩
            refine ⟨_, rfl, ?_⟩
            replace hI := (hI.ext hx24).adds hl10
            obtain ⟨r11, hx25, h⟩ := bnd_some h
            refine s_call rfl rfl (r_callF (vs := [(Value.slice a11 r6.length c19), (Value.slice a17 r10.length c28)]) rfl ok_53 ⟨(ev_tmp rfl rfl), ⟨(ev_tmp rfl rfl), trivial⟩⟩) (Calls.mono (c_ref01_plus (Dj F c17) w20 hI.lt r6 r10 a11 c19 a17 c28 ⟨(hI.get (.s (.s .z))), (hI.get .z), trivial⟩ r11 hx25) ?_)
            rintro _ w21 ⟨a18, c29, rfl, hx26, hl11⟩
            refine ⟨_, rfl, ?_⟩
            replace hI := (hI.ext hx26).adds hl11
            refine s_q rfl rfl (y_assign rfl (ev_tmp rfl rfl)) ?_
            refine s_nil ?_
            exact k_join (r11, r7, a18, c29, a12, c20) ⟨rfl, rfl, rfl, rfl, rfl, rfl, rfl, rfl, trivial⟩ ⟨_, hI.arr (.c (.s .z) (.c .z .n)) ⟨.z, (.s (.s .z)), (.s (.s (.s (.s (.s (.s (.s .z))))))), (.s (.s (.s (.s (.s (.s .z)))))), trivial⟩, h⟩ rfl
          · replace h := ite_f hb h
            refine c_region rfl ?_
            refine s_q rfl rfl (y_move rfl (ev_tmp rfl rfl)) ?_
            refine s_q rfl rfl (y_move rfl (ev_tmp rfl rfl)) ?_
            refine s_q rfl rfl (y_move rfl (ev_tmp rfl rfl)) ?_
            refine s_q rfl rfl (y_move rfl (ev_tmp rfl rfl)) ?_
            obtain ⟨e4, hx27, h⟩ := bnd_some h
            obtain ⟨ad4, cs4, hA4, hr4, hq4⟩ := hI.clat (.s (.s (.s (.s (.s .z))))) hx27
            obtain rfl : cs4 = [(Value.int .i64 e4.N), (Value.int .i64 e4.D)] := hr4
            refine s_q rfl rfl (y_indexAddr rfl Tryd.underlying30 size_23 (ev_tmp rfl rfl) (ev_tmp rfl rfl) (lat_bd hx27) hA4) ?_
            refine s_q rfl rfl (y_fieldAddr rfl (ev_tmp rfl rfl) Tryd.underlying23 rfl size_2 rfl) ?_
            refine s_q rfl rfl (y_load1 (v := (Value.int .i64 e4.N)) rfl (ev_tmp rfl rfl) Tryd.underlying2 rfl (CA.part hq4 rfl).1) ?_
            obtain ⟨r12, hx28, h⟩ := bnd_some h
            refine s_call rfl rfl (r_callF (vs := [(Value.int .i64 e4.N)]) rfl ok_42 ⟨(ev_tmp rfl rfl), trivial⟩) (Calls.mono (c_ref01_size (Dj F c17) w14 hI.lt e4.N trivial r12 hx28) ?_)
            rintro _ w22 ⟨rfl, hx29, hl12⟩
            refine ⟨_, rfl, ?_⟩
            replace hI := (hI.ext hx29)
            obtain ⟨r13, hx30, h⟩ := bnd_some h
            refine s_call rfl rfl (r_callF (vs := [(Value.slice a10 all1.length c16), (Value.int .u64 r12)]) rfl ok_52 ⟨(ev_tmp rfl rfl), ⟨(ev_tmp rfl rfl), trivial⟩⟩) (Calls.mono (c_ref01_times (Dj F c17) w22 hI.lt all1 r12 a10 c16 ⟨(hI.get (.s (.s (.s (.s .z))))), trivial⟩ r13 hx30) ?_)
            rintro _ w23 ⟨a19, c30, rfl, hx31, hl13⟩
            refine ⟨_, rfl, ?_⟩
            replace hI := (hI.ext hx31).adds hl13
            obtain ⟨r14, hx32, h⟩ := bnd_some h
            refine s_call rfl rfl (r_callF (vs := [(Value.slice a12 r7.length c20), (Value.slice a19 r13.length c30)]) rfl ok_53 ⟨(ev_tmp rfl rfl), ⟨(ev_tmp rfl rfl), trivial⟩⟩) (Calls.mono (c_ref01_plus (Dj F c17) w23 hI.lt r7 r13 a12 c20 a19 c30 ⟨(hI.get (.s .z)), (hI.get .z), trivial⟩ r14 hx32) ?_)
            rintro _ w24 ⟨a20, c31, rfl, hx33, hl14⟩
            refine ⟨_, rfl, ?_⟩
            replace hI := (hI.ext hx33).adds hl14
            refine s_q rfl rfl (y_assign rfl (ev_tmp rfl rfl)) ?_
            refine s_nil ?_
            exact k_join (r6, r14, a11, c19, a20, c31) ⟨rfl, rfl, rfl, rfl, rfl, rfl, rfl, rfl, trivial⟩ ⟨_, hI.arr (.c (.s .z) (.c .z .n)) ⟨(.s (.s (.s .z))), .z, (.s (.s (.s (.s (.s (.s (.s .z))))))), (.s (.s (.s (.s (.s (.s .z)))))), trivial⟩, h⟩ rfl
      · replace h := ite_f hb h
        refine c_exit ?_
        refine k_in ?_
        exact k_join (up2, down2, ds2, a7, c13, a8, c14, a9, c15) ⟨rfl, rfl, rfl, rfl, trivial⟩ ⟨_, hI.arr (.c .z (.c .z .n)) ⟨.z, (.s .z), trivial⟩, h⟩ rfl
  · skip
    refine c_seq ?_
    refine c_region rfl ?_
    refine s_q rfl rfl (y_assign rfl ev_const) ?_
    refine s_nil ?_
    refine k_next (e := [(0, (Value.slice a1 l1.length c1)), (2, (Value.pointer (some ⟨b1, 0, none⟩))), (4, (Value.slice none 0 0)), (5, (Value.slice none 0 0)), (6, (Value.slice none 0 0)), (7, (Value.slice (some ⟨b2, 0, none⟩) ([1] : List Int).length 1)), (8, (Value.int .i64 0))]) ⟨rfl, rfl, rfl, rfl, rfl, rfl, rfl, trivial⟩ ?_
    refine c_block ?_
    refine c_loop (α := Nat × Int) (fun x => fun w => ∃ C, Bun noM F w0 C w [MO.box b1 23 #[(Value.int .i64 0), (Value.int .i64 0)], MO.row (cInt .u64) 44 (some ⟨b2, 0, none⟩) 1 ([1] : List Int)] [Cl.sl cGVal a1 c1 l1] ∧ m_ref01_Sum_l2 l1 (x.1) (x.2) = some r) (fun x _ => x.1) (fun x => [(0, (Value.slice a1 l1.length c1)), (2, (Value.pointer (some ⟨b1, 0, none⟩))), (4, (Value.slice none 0 0)), (5, (Value.slice none 0 0)), (6, (Value.slice none 0 0)), (7, (Value.slice (some ⟨b2, 0, none⟩) ([1] : List Int).length 1)), (8, (Value.int .i64 (x.2)))]) (fu, 0) ⟨_, hI.arr (.c (.s .z) (.c .z .n)) ⟨.z, trivial⟩, h⟩ ⟨rfl, rfl, rfl, rfl, rfl, rfl, rfl, trivial⟩ ?_
    clear h hI; rintro ⟨fuel2, i2⟩ w25 ⟨c32, hI, h⟩
    dsimp only at hI h
    rcases fuel2 with _ | fuel2
    · rw [m_ref01_Sum_l2] at h; cases h
    rw [m_ref01_Sum_l2] at h
    refine c_sub (e := [(0, (Value.slice a1 l1.length c1)), (2, (Value.pointer (some ⟨b1, 0, none⟩))), (4, (Value.slice none 0 0)), (5, (Value.slice none 0 0)), (6, (Value.slice none 0 0)), (7, (Value.slice (some ⟨b2, 0, none⟩) ([1] : List Int).length 1)), (8, (Value.int .i64 i2))]) ⟨rfl, rfl, rfl, rfl, rfl, rfl, rfl, trivial⟩ ?_
    refine c_seq ?_
    refine c_seq ?_
    refine c_region rfl ?_
    refine s_q rfl rfl (y_move rfl (ev_tmp rfl rfl)) ?_
    refine s_q rfl rfl (y_move rfl (ev_tmp rfl rfl)) ?_
    refine s_q rfl rfl (y_lenl rfl Tryd.underlying30 (ev_tmp rfl rfl)) ?_
    refine s_q rfl rfl (y_lss rfl (ev_tmp rfl rfl) (ev_tmp rfl rfl)) ?_
    refine s_nil ?_
    refine k_next (e := [(0, (Value.slice a1 l1.length c1)), (2, (Value.pointer (some ⟨b1, 0, none⟩))), (4, (Value.slice none 0 0)), (5, (Value.slice none 0 0)), (6, (Value.slice none 0 0)), (7, (Value.slice (some ⟨b2, 0, none⟩) ([1] : List Int).length 1)), (8, (Value.int .i64 i2)), (15, (Value.bool (decide (i2 < (l1.length : Int)))))]) ⟨rfl, rfl, rfl, rfl, rfl, rfl, rfl, rfl, trivial⟩ ?_
    refine c_cond (b := decide (i2 < (l1.length : Int))) (ev_tmp rfl rfl) (fun hb => ?_) (fun hb => ?_)
    · replace h := ite_t hb h
      refine c_skip ?_
      refine k_next (e := [(0, (Value.slice a1 l1.length c1)), (2, (Value.pointer (some ⟨b1, 0, none⟩))), (4, (Value.slice none 0 0)), (5, (Value.slice none 0 0)), (6, (Value.slice none 0 0)), (7, (Value.slice (some ⟨b2, 0, none⟩) ([1] : List Int).length 1)), (8, (Value.int .i64 i2))]) ⟨rfl, rfl, rfl, rfl, rfl, rfl, rfl, trivial⟩ ?_
      refine c_seq ?_
      refine c_block ?_
      refine c_seq ?_
      refine c_region rfl ?_
      refine s_q rfl rfl (y_move rfl (ev_tmp rfl rfl)) ?_
      refine s_q rfl rfl (y_move rfl (ev_tmp rfl rfl)) ?_
      obtain ⟨e5, hx34, h⟩ := bnd_some h
      obtain ⟨ad5, cs5, hA5, hr5, hq5⟩ := hI.clat .z hx34
      obtain rfl : cs5 = [(Value.int .i64 e5.N), (Value.int .i64 e5.D)] := hr5
      refine s_q rfl rfl (y_indexAddr rfl Tryd.underlying30 size_23 (ev_tmp rfl rfl) (ev_tmp rfl rfl) (lat_bd hx34) hA5) ?_
      refine s_q rfl rfl (y_loadN (l := [(Value.int .i64 e5.N), (Value.int .i64 e5.D)]) rfl (ev_tmp rfl rfl) Tryd.underlying23 rfl size_23 hq5.1) ?_
      obtain ⟨r15, hx35, h⟩ := bnd_some h
      refine s_call rfl rfl (r_callF (vs := [(Value.agg #[(Value.int .i64 e5.N), (Value.int .i64 e5.D)])]) rfl ok_15 ⟨(ev_tmp rfl rfl), trivial⟩) (Calls.mono (c_ref01_Valid (Dj F c32) w25 hI.lt e5 trivial r15 hx35) ?_)
      rintro _ w26 ⟨rfl, hx36, hl15⟩
      refine ⟨_, rfl, ?_⟩
      replace hI := (hI.ext hx36)
      refine s_q rfl rfl (y_not rfl (ev_tmp rfl rfl)) ?_
      refine s_nil ?_
      refine k_next (e := [(0, (Value.slice a1 l1.length c1)), (2, (Value.pointer (some ⟨b1, 0, none⟩))), (4, (Value.slice none 0 0)), (5, (Value.slice none 0 0)), (6, (Value.slice none 0 0)), (7, (Value.slice (some ⟨b2, 0, none⟩) ([1] : List Int).length 1)), (8, (Value.int .i64 i2)), (23, (Value.bool (!r15)))]) ⟨rfl, rfl, rfl, rfl, rfl, rfl, rfl, rfl, trivial⟩ ?_
      refine c_cond (b := !r15) (ev_tmp rfl rfl) (fun hb => ?_) (fun hb => ?_)
      · replace h := ite_t hb h
        refine c_seq ?_
        refine c_region rfl ?_
        refine s_q rfl rfl (y_build (vs := []) (cs := #[(Value.int .i64 0), (Value.int .i64 0)]) rfl trivial (by kernel_rfl)) ?_
        refine l_store (new := [(Value.int .i64 0), (Value.int .i64 0)]) (cs' := #[(Value.int .i64 0), (Value.int .i64 0)]) hI .z rfl rfl rfl (ev_tmp rfl rfl) (ev_tmp rfl rfl) rfl size_23 rfl rfl rfl ?_
        clear hI; intro c33 w27 hI
        refine s_q rfl rfl (y_assign rfl ev_const) ?_
        refine s_nil ?_
        refine k_next (e := [(2, (Value.pointer (some ⟨b1, 0, none⟩))), (3, (Value.int .i64 1))]) ⟨rfl, rfl, trivial⟩ ?_
        refine c_ret ?_
        obtain rfl := some_inj h
        exact q_ret (vs := [(Value.agg #[(Value.int .i64 0), (Value.int .i64 0)]), (Value.int .i64 1)]) Tryd.results18 ⟨⟨_, ev_tmp rfl rfl, load_agg (l := [(Value.int .i64 0), (Value.int .i64 0)]) Tryd.underlying23 rfl size_23 (CellsAt.of_blk (hI.blk .z) rfl)⟩, ⟨ev_tmp rfl rfl, trivial⟩⟩ ⟨rfl, hI.ext0, hI.fin trivial⟩
      · replace h := ite_f hb h
        refine c_skip ?_
        refine k_next (e := [(0, (Value.slice a1 l1.length c1)), (2, (Value.pointer (some ⟨b1, 0, none⟩))), (4, (Value.slice none 0 0)), (5, (Value.slice none 0 0)), (6, (Value.slice none 0 0)), (7, (Value.slice (some ⟨b2, 0, none⟩) ([1] : List Int).length 1)), (8, (Value.int .i64 i2))]) ⟨rfl, rfl, rfl, rfl, rfl, rfl, rfl, trivial⟩ ?_
        refine c_region rfl ?_
        refine s_q rfl rfl (y_move rfl (ev_tmp rfl rfl)) ?_
        refine s_q rfl rfl (y_add rfl (ev_tmp rfl rfl) ev_const) ?_
        refine s_q rfl rfl (y_assign rfl (ev_tmp rfl rfl)) ?_
        refine s_nil ?_
        exact k_loop (fuel2, wi64 (i2 + 1)) ⟨rfl, rfl, rfl, rfl, rfl, rfl, rfl, trivial⟩ ⟨_, hI.arr (.c .z (.c .z .n)) ⟨.z, trivial⟩, h⟩ (Nat.lt_succ_self _)
    · replace h := ite_f hb h
      refine c_exit ?_
      refine k_in ?_
      exact k_join () ⟨rfl, rfl, rfl, rfl, rfl, rfl, trivial⟩ ⟨_, hI.arr (.c .z (.c .z .n)) ⟨.z, trivial⟩, h⟩ rfl

set_option maxRecDepth 100000 in
set_option maxHeartbeats 4000000 in
theorem c_law01_FracSum (F : NP) (w0 : World) (hF : ∀ k, F k → k < w0.heap.size) (l1 : List GVal) (a1 : Option Addr) (c1 : Nat) (hc : AllCl [Cl.sl cGVal a1 c1 l1] F w0) (r : Bool)
    (h : m_law01_FracSum l1 = some r) :
    Calls Tryd.prog 4 #[(Value.slice a1 l1.length c1)] w0 fun e w => e = .returned (Value.bool r) ∧ Ext w0 w ∧ AllCl [] F w := by
  refine ofEnter (R := fun v w => v = (Value.bool r) ∧ Ext w0 w ∧ AllCl [] F w) (enter (l := [(Value.slice a1 l1.length c1)]) Tryd.func4 rfl Tryd.ntmps4 rfl ?_) ?_
  rotate_left
  · rintro _ w ⟨rfl, k1, k2⟩; exact ⟨rfl, k1, k2⟩
  have hI := Bun.start hF hc
  clear hc
  rw [m_law01_FracSum] at h
  refine c_seq ?_
  refine c_region rfl ?_
  refine s_q rfl rfl (y_assign rfl ev_const) ?_
  refine s_nil ?_
  refine k_next (e := [(0, (Value.slice a1 l1.length c1))]) ⟨rfl, trivial⟩ ?_
  refine c_seq ?_
  refine c_seq ?_
  refine c_region rfl ?_
  refine s_q rfl rfl (y_move rfl (ev_tmp rfl rfl)) ?_
  refine s_q rfl rfl (y_lenl rfl Tryd.underlying30 (ev_tmp rfl rfl)) ?_
  refine s_q rfl rfl (y_gtr rfl (ev_tmp rfl rfl) ev_const) ?_
  refine s_nil ?_
  refine k_next (e := [(0, (Value.slice a1 l1.length c1)), (9, (Value.bool (decide (40 < (l1.length : Int)))))]) ⟨rfl, rfl, trivial⟩ ?_
  refine c_cond (b := decide (40 < (l1.length : Int))) (ev_tmp rfl rfl) (fun hb => ?_) (fun hb => ?_)
  · replace h := ite_t hb h
    refine c_seq ?_
    refine c_region rfl ?_
    obtain ⟨r1, hx1, h⟩ := bnd_some h
    refine s_call rfl rfl (r_callF (vs := []) rfl ok_16 trivial) (Calls.mono (c_law01_examples (Dj F noM) w0 hI.lt trivial r1 hx1) ?_)
    rintro _ w1 ⟨rfl, hx2, hl1⟩
    refine ⟨_, rfl, ?_⟩
    replace hI := (hI.ext hx2)
    refine s_q rfl rfl (y_assign rfl (ev_tmp rfl rfl)) ?_
    refine s_nil ?_
    refine k_next (e := [(2, (Value.bool r1))]) ⟨rfl, trivial⟩ ?_
    refine c_ret ?_
    obtain rfl := some_inj h
    exact q_ret (vs := [(Value.bool r1)]) Tryd.results4 ⟨ev_tmp rfl rfl, trivial⟩ ⟨rfl, hI.ext0, hI.fin trivial⟩
  · replace h := ite_f hb h
    refine c_skip ?_
    refine k_next (e := [(0, (Value.slice a1 l1.length c1))]) ⟨rfl, trivial⟩ ?_
    refine c_seq ?_
    refine c_region rfl ?_
    refine s_q rfl rfl (y_move rfl (ev_tmp rfl rfl)) ?_
    obtain ⟨r2, hx3, h⟩ := bnd_some h
    refine s_call rfl rfl (r_callF (vs := [(Value.slice a1 l1.length c1)]) rfl ok_17 ⟨(ev_tmp rfl rfl), trivial⟩) (Calls.mono (c_frac_Sum (Dj F noM) w0 hI.lt l1 a1 c1 ⟨(hI.get .z), trivial⟩ r2 hx3) ?_)
    rintro _ w2 ⟨rfl, hx4, hl2⟩
    refine ⟨_, rfl, ?_⟩
    replace hI := (hI.ext hx4)
    refine s_q rfl rfl (y_move rfl (ev_tmp rfl rfl)) ?_
    refine s_q rfl rfl (y_extract rfl (ev_tmp rfl rfl) rfl) ?_
    refine s_q rfl rfl (y_extract rfl (ev_tmp rfl rfl) rfl) ?_
    refine l_alloc (cs := #[(Value.int .i64 0), (Value.int .i64 0)]) hI rfl rfl rfl zero_23 rfl ?_
    clear hI; intro b1 c2 w3 hI
    refine l_store (new := [(Value.int .i64 r2.1.N), (Value.int .i64 r2.1.D)]) (cs' := #[(Value.int .i64 r2.1.N), (Value.int .i64 r2.1.D)]) hI .z rfl rfl rfl (ev_tmp rfl rfl) (ev_tmp rfl rfl) rfl size_23 rfl rfl rfl ?_
    clear hI; intro c3 w4 hI
    refine s_q rfl rfl (y_assign rfl (ev_tmp rfl rfl)) ?_
    refine s_nil ?_
    refine k_next (e := [(0, (Value.slice a1 l1.length c1)), (3, (Value.pointer (some ⟨b1, 0, none⟩))), (4, (Value.int .i64 r2.2))]) ⟨rfl, rfl, rfl, trivial⟩ ?_
    refine c_seq ?_
    refine c_region rfl ?_
    refine s_q rfl rfl (y_move rfl (ev_tmp rfl rfl)) ?_
    obtain ⟨r3, hx5, h⟩ := bnd_some h
    refine s_call rfl rfl (r_callF (vs := [(Value.slice a1 l1.length c1)]) rfl ok_18 ⟨(ev_tmp rfl rfl), trivial⟩) (Calls.mono (c_ref01_Sum (Dj F c3) w4 hI.lt l1 a1 c1 ⟨(hI.get .z), trivial⟩ r3 hx5) ?_)
    rintro _ w5 ⟨rfl, hx6, hl3⟩
    refine ⟨_, rfl, ?_⟩
    replace hI := (hI.ext hx6)
    refine s_q rfl rfl (y_move rfl (ev_tmp rfl rfl)) ?_
    refine s_q rfl rfl (y_extract rfl (ev_tmp rfl rfl) rfl) ?_
    refine s_q rfl rfl (y_extract rfl (ev_tmp rfl rfl) rfl) ?_
    refine l_alloc (cs := #[(Value.int .i64 0), (Value.int .i64 0)]) hI rfl rfl rfl zero_23 rfl ?_
    clear hI; intro b2 c4 w6 hI
    refine l_store (new := [(Value.int .i64 r3.1.N), (Value.int .i64 r3.1.D)]) (cs' := #[(Value.int .i64 r3.1.N), (Value.int .i64 r3.1.D)]) hI .z rfl rfl rfl (ev_tmp rfl rfl) (ev_tmp rfl rfl) rfl size_23 rfl rfl rfl ?_
    clear hI; intro c5 w7 hI
    refine s_q rfl rfl (y_assign rfl (ev_tmp rfl rfl)) ?_
    refine s_nil ?_
    refine k_next (e := [(3, (Value.pointer (some ⟨b1, 0, none⟩))), (4, (Value.int .i64 r2.2)), (5, (Value.pointer (some ⟨b2, 0, none⟩))), (6, (Value.int .i64 r3.2))]) ⟨rfl, rfl, rfl, rfl, trivial⟩ ?_
    refine c_seq ?_
    refine c_region rfl ?_
    refine s_q rfl rfl (y_loadN (l := [(Value.int .i64 r2.1.N), (Value.int .i64 r2.1.D)]) rfl (ev_tmp rfl rfl) Tryd.underlying23 rfl size_23 (CellsAt.of_blk (hI.blk (.s .z)) rfl)) ?_
    refine s_q rfl rfl (y_loadN (l := [(Value.int .i64 r3.1.N), (Value.int .i64 r3.1.D)]) rfl (ev_tmp rfl rfl) Tryd.underlying23 rfl size_23 (CellsAt.of_blk (hI.blk .z) rfl)) ?_
    refine s_q rfl rfl (y_bin rfl (ev_tmp rfl rfl) (ev_tmp rfl rfl) (eqstruct_23 ..) (eqguard_23 ..)) ?_
    refine s_q rfl rfl (y_move rfl (ev_tmp rfl rfl)) ?_
    refine s_gval (g_true rfl rfl rfl rfl) rfl (fun hc => (y_move rfl (ev_tmp rfl rfl))) ?_
    refine s_gval (g_true rfl rfl rfl rfl) rfl (fun hc => (y_move rfl (ev_tmp rfl rfl))) ?_
    refine s_gval (g_true rfl rfl rfl rfl) rfl (fun hc => (y_eql rfl (ev_gv (ev_tmp rfl rfl) hc) (ev_gv (ev_tmp rfl rfl) hc))) ?_
    refine s_q rfl rfl (y_and rfl (ev_tmp rfl rfl) (ev_tmp rfl rfl)) ?_
    refine s_q rfl rfl (y_move rfl (ev_tmp rfl rfl)) ?_
    obtain ⟨r4, hx7, h⟩ := bnd_some h
    replace hx7 := gd_some hx7
    refine s_gcallU (v := (Value.bool r4)) (g_true rfl rfl rfl rfl) rfl (fun hc => (r_callF (vs := []) rfl ok_16 trivial)) (fun hc => (c_law01_examples (Dj F c5) w7 hI.lt trivial r4 (hx7 hc)).mono fun _ _ k => ⟨k.1, k.2.1⟩) ?_
    intro w8 hx8; replace hI := hI.ext hx8
    refine s_q rfl rfl (y_and rfl (ev_tmp rfl rfl) (ev_tmp rfl rfl)) ?_
    refine s_q rfl rfl (y_assign rfl (ev_tmp rfl rfl)) ?_
    refine s_nil ?_
    refine k_next (e := [(2, (Value.bool ((((decide (r2.1.N = r3.1.N)) && (decide (r2.1.D = r3.1.D))) && (decide (r2.2 = r3.2))) && r4)))]) ⟨rfl, trivial⟩ ?_
    refine c_ret ?_
    obtain rfl := some_inj h
    exact q_ret (vs := [(Value.bool ((((decide (r2.1.N = r3.1.N)) && (decide (r2.1.D = r3.1.D))) && (decide (r2.2 = r3.2))) && r4))]) Tryd.results4 ⟨ev_tmp rfl rfl, trivial⟩ ⟨rfl, hI.ext0, hI.fin trivial⟩

set_option maxRecDepth 100000 in
set_option maxHeartbeats 4000000 in
theorem c_frac_Neg (F : NP) (w0 : World) (hF : ∀ k, F k → k < w0.heap.size) (a1 : GVal) (hc : AllCl [] F w0) (r : GVal)
    (h : m_frac_Neg a1 = some r) :
    Calls Tryd.prog 19 #[(Value.agg #[(Value.int .i64 a1.N), (Value.int .i64 a1.D)])] w0 fun e w => e = .returned (Value.agg #[(Value.int .i64 r.N), (Value.int .i64 r.D)]) ∧ Ext w0 w ∧ AllCl [] F w := by
  refine ofEnter (R := fun v w => v = (Value.agg #[(Value.int .i64 r.N), (Value.int .i64 r.D)]) ∧ Ext w0 w ∧ AllCl [] F w) (enter (l := [(Value.agg #[(Value.int .i64 a1.N), (Value.int .i64 a1.D)])]) Tryd.func19 rfl Tryd.ntmps19 rfl ?_) ?_
  rotate_left
  · rintro _ w ⟨rfl, k1, k2⟩; exact ⟨rfl, k1, k2⟩
  have hI := Bun.start hF hc
  clear hc
  rw [m_frac_Neg] at h
  refine c_seq ?_
  refine c_region rfl ?_
  refine l_box (v := (Value.agg #[(Value.int .i64 a1.N), (Value.int .i64 a1.D)])) (cs := #[(Value.int .i64 a1.N), (Value.int .i64 a1.D)]) hI rfl rfl rfl (ev_tmp rfl rfl) rfl ?_
  clear hI; intro b1 c1 w1 hI
  obtain ⟨c2, hI⟩ := hI.relBox .z
  refine l_alloc (cs := #[(Value.int .i64 0), (Value.int .i64 0)]) hI rfl rfl rfl zero_23 rfl ?_
  clear hI; intro b2 c3 w2 hI
  refine s_nil ?_
  refine k_next (e := [(1, (Value.pointer (some ⟨b1, 0, none⟩))), (2, (Value.pointer (some ⟨b2, 0, none⟩)))]) ⟨rfl, rfl, trivial⟩ ?_
  refine c_seq ?_
  refine c_seq ?_
  refine c_region rfl ?_
  refine s_q rfl rfl (y_loadN (l := [(Value.int .i64 a1.N), (Value.int .i64 a1.D)]) rfl (ev_tmp rfl rfl) Tryd.underlying23 rfl size_23 (hI.kblk (l := [(Value.int .i64 a1.N), (Value.int .i64 a1.D)]) .z rfl).1) ?_
  obtain ⟨r1, hx1, h⟩ := bnd_some h
  refine s_call rfl rfl (r_callF (vs := [(Value.agg #[(Value.int .i64 a1.N), (Value.int .i64 a1.D)])]) rfl ok_14 ⟨(ev_tmp rfl rfl), trivial⟩) (Calls.mono (c_frac_Valid (Dj F c3) w2 hI.lt a1 trivial r1 hx1) ?_)
  rintro _ w3 ⟨rfl, hx2, hl1⟩
  refine ⟨_, rfl, ?_⟩
  replace hI := (hI.ext hx2)
  refine s_q rfl rfl (y_not rfl (ev_tmp rfl rfl)) ?_
  refine s_nil ?_
  refine k_next (e := [(1, (Value.pointer (some ⟨b1, 0, none⟩))), (2, (Value.pointer (some ⟨b2, 0, none⟩))), (5, (Value.bool (!r1)))]) ⟨rfl, rfl, rfl, trivial⟩ ?_
  refine c_cond (b := !r1) (ev_tmp rfl rfl) (fun hb => ?_) (fun hb => ?_)
  · replace h := ite_t hb h
    refine c_seq ?_
    refine c_region rfl ?_
    refine s_q rfl rfl (y_build (vs := []) (cs := #[(Value.int .i64 0), (Value.int .i64 0)]) rfl trivial (by kernel_rfl)) ?_
    refine l_store (new := [(Value.int .i64 0), (Value.int .i64 0)]) (cs' := #[(Value.int .i64 0), (Value.int .i64 0)]) hI .z rfl rfl rfl (ev_tmp rfl rfl) (ev_tmp rfl rfl) rfl size_23 rfl rfl rfl ?_
    clear hI; intro c4 w4 hI
    refine s_nil ?_
    refine k_next (e := [(2, (Value.pointer (some ⟨b2, 0, none⟩)))]) ⟨rfl, trivial⟩ ?_
    refine c_ret ?_
    obtain rfl := some_inj h
    exact q_ret (vs := [(Value.agg #[(Value.int .i64 0), (Value.int .i64 0)])]) Tryd.results19 ⟨⟨_, ev_tmp rfl rfl, load_agg (l := [(Value.int .i64 0), (Value.int .i64 0)]) Tryd.underlying23 rfl size_23 (CellsAt.of_blk (hI.blk .z) rfl)⟩, trivial⟩ ⟨rfl, hI.ext0, hI.fin trivial⟩
  · replace h := ite_f hb h
    refine c_skip ?_
    refine k_next (e := [(1, (Value.pointer (some ⟨b1, 0, none⟩))), (2, (Value.pointer (some ⟨b2, 0, none⟩)))]) ⟨rfl, rfl, trivial⟩ ?_
    refine c_seq ?_
    refine c_region rfl ?_
    refine s_q rfl rfl (y_fieldAddr rfl (ev_tmp rfl rfl) Tryd.underlying23 rfl size_2 rfl) ?_
    refine s_q rfl rfl (y_load1 (v := (Value.int .i64 a1.N)) rfl (ev_tmp rfl rfl) Tryd.underlying2 rfl (hI.kblk (l := [(Value.int .i64 a1.N)]) .z rfl).1) ?_
    refine s_q rfl rfl (y_neg rfl (ev_tmp rfl rfl)) ?_
    refine s_q rfl rfl (y_fieldAddr rfl (ev_tmp rfl rfl) Tryd.underlying23 rfl size_2 rfl) ?_
    refine s_q rfl rfl (y_load1 (v := (Value.int .i64 a1.D)) rfl (ev_tmp rfl rfl) Tryd.underlying2 rfl (hI.kblk (l := [(Value.int .i64 a1.D)]) .z rfl).1) ?_
    refine s_q rfl rfl (y_build (vs := [(0, (Value.int .i64 (wi64 (-a1.N)))), (1, (Value.int .i64 a1.D))]) (cs := #[(Value.int .i64 (wi64 (-a1.N))), (Value.int .i64 a1.D)]) rfl ⟨rfl, (ev_tmp rfl rfl), ⟨rfl, (ev_tmp rfl rfl), trivial⟩⟩ (by kernel_rfl)) ?_
    refine l_store (new := [(Value.int .i64 (wi64 (-a1.N))), (Value.int .i64 a1.D)]) (cs' := #[(Value.int .i64 (wi64 (-a1.N))), (Value.int .i64 a1.D)]) hI .z rfl rfl rfl (ev_tmp rfl rfl) (ev_tmp rfl rfl) rfl size_23 rfl rfl rfl ?_
    clear hI; intro c5 w5 hI
    refine s_nil ?_
    refine k_next (e := [(2, (Value.pointer (some ⟨b2, 0, none⟩)))]) ⟨rfl, trivial⟩ ?_
    refine c_ret ?_
    obtain rfl := some_inj h
    exact q_ret (vs := [(Value.agg #[(Value.int .i64 (wi64 (-a1.N))), (Value.int .i64 a1.D)])]) Tryd.results19 ⟨⟨_, ev_tmp rfl rfl, load_agg (l := [(Value.int .i64 (wi64 (-a1.N))), (Value.int .i64 a1.D)]) Tryd.underlying23 rfl size_23 (CellsAt.of_blk (hI.blk .z) rfl)⟩, trivial⟩ ⟨rfl, hI.ext0, hI.fin trivial⟩

set_option maxRecDepth 100000 in
set_option maxHeartbeats 4000000 in
theorem c_law01_FracSumOrder (F : NP) (w0 : World) (hF : ∀ k, F k → k < w0.heap.size) (l1 : List GVal) (a1 : Option Addr) (c1 : Nat) (hc : AllCl [Cl.sl cGVal a1 c1 l1] F w0) (r : Bool)
    (h : m_law01_FracSumOrder l1 = some r) :
    Calls Tryd.prog 5 #[(Value.slice a1 l1.length c1)] w0 fun e w => e = .returned (Value.bool r) ∧ Ext w0 w ∧ AllCl [] F w := by
  refine ofEnter (R := fun v w => v = (Value.bool r) ∧ Ext w0 w ∧ AllCl [] F w) (enter (l := [(Value.slice a1 l1.length c1)]) Tryd.func5 rfl Tryd.ntmps5 rfl ?_) ?_
  rotate_left
  · rintro _ w ⟨rfl, k1, k2⟩; exact ⟨rfl, k1, k2⟩
  have hI := Bun.start hF hc
  clear hc
  rw [m_law01_FracSumOrder] at h
  refine c_seq ?_
  refine c_region rfl ?_
  refine s_q rfl rfl (y_assign rfl ev_const) ?_
  refine s_nil ?_
  refine k_next (e := [(0, (Value.slice a1 l1.length c1))]) ⟨rfl, trivial⟩ ?_
  refine c_seq ?_
  refine c_seq ?_
  refine c_region rfl ?_
  refine s_q rfl rfl (y_move rfl (ev_tmp rfl rfl)) ?_
  refine s_q rfl rfl (y_lenl rfl Tryd.underlying30 (ev_tmp rfl rfl)) ?_
  refine s_q rfl rfl (y_gtr rfl (ev_tmp rfl rfl) ev_const) ?_
  refine s_nil ?_
  refine k_next (e := [(0, (Value.slice a1 l1.length c1)), (14, (Value.bool (decide (20 < (l1.length : Int)))))]) ⟨rfl, rfl, trivial⟩ ?_
  refine c_cond (b := decide (20 < (l1.length : Int))) (ev_tmp rfl rfl) (fun hb => ?_) (fun hb => ?_)
  · replace h := ite_t hb h
    refine c_seq ?_
    refine c_region rfl ?_
    obtain ⟨r1, hx1, h⟩ := bnd_some h
    refine s_call rfl rfl (r_callF (vs := []) rfl ok_16 trivial) (Calls.mono (c_law01_examples (Dj F noM) w0 hI.lt trivial r1 hx1) ?_)
    rintro _ w1 ⟨rfl, hx2, hl1⟩
    refine ⟨_, rfl, ?_⟩
    replace hI := (hI.ext hx2)
    refine s_q rfl rfl (y_assign rfl (ev_tmp rfl rfl)) ?_
    refine s_nil ?_
    refine k_next (e := [(2, (Value.bool r1))]) ⟨rfl, trivial⟩ ?_
    refine c_ret ?_
    obtain rfl := some_inj h
    exact q_ret (vs := [(Value.bool r1)]) Tryd.results5 ⟨ev_tmp rfl rfl, trivial⟩ ⟨rfl, hI.ext0, hI.fin trivial⟩
  · replace h := ite_f hb h
    refine c_skip ?_
    refine k_next (e := [(0, (Value.slice a1 l1.length c1))]) ⟨rfl, trivial⟩ ?_
    refine c_seq ?_
    refine c_region rfl ?_
    refine s_q rfl rfl (y_move rfl (ev_tmp rfl rfl)) ?_
    obtain ⟨r2, hx3, h⟩ := bnd_some h
    refine s_call rfl rfl (r_callF (vs := [(Value.slice a1 l1.length c1)]) rfl ok_17 ⟨(ev_tmp rfl rfl), trivial⟩) (Calls.mono (c_frac_Sum (Dj F noM) w0 hI.lt l1 a1 c1 ⟨(hI.get .z), trivial⟩ r2 hx3) ?_)
    rintro _ w2 ⟨rfl, hx4, hl2⟩
    refine ⟨_, rfl, ?_⟩
    replace hI := (hI.ext hx4)
    refine s_q rfl rfl (y_move rfl (ev_tmp rfl rfl)) ?_
    refine s_q rfl rfl (y_extract rfl (ev_tmp rfl rfl) rfl) ?_
    refine s_q rfl rfl (y_extract rfl (ev_tmp rfl rfl) rfl) ?_
    refine l_alloc (cs := #[(Value.int .i64 0), (Value.int .i64 0)]) hI rfl rfl rfl zero_23 rfl ?_
    clear hI; intro b1 c2 w3 hI
    refine l_store (new := [(Value.int .i64 r2.1.N), (Value.int .i64 r2.1.D)]) (cs' := #[(Value.int .i64 r2.1.N), (Value.int .i64 r2.1.D)]) hI .z rfl rfl rfl (ev_tmp rfl rfl) (ev_tmp rfl rfl) rfl size_23 rfl rfl rfl ?_
    clear hI; intro c3 w4 hI
    refine s_q rfl rfl (y_assign rfl (ev_tmp rfl rfl)) ?_
    refine s_nil ?_
    refine k_next (e := [(0, (Value.slice a1 l1.length c1)), (3, (Value.pointer (some ⟨b1, 0, none⟩))), (4, (Value.int .i64 r2.2))]) ⟨rfl, rfl, rfl, trivial⟩ ?_
    refine c_seq ?_
    refine c_region rfl ?_
    refine s_q rfl rfl (y_assign rfl ev_const) ?_
    refine s_q rfl rfl (y_assign rfl ev_const) ?_
    refine s_nil ?_
    refine k_next (e := [(0, (Value.slice a1 l1.length c1)), (3, (Value.pointer (some ⟨b1, 0, none⟩))), (4, (Value.int .i64 r2.2)), (5, (Value.slice none 0 0)), (6, (Value.slice none 0 0))]) ⟨rfl, rfl, rfl, rfl, rfl, trivial⟩ ?_
    refine c_join (α := (List GVal) × (List GVal) × (Option Addr) × Nat × (Option Addr) × Nat) (fun _ => ⟨79, []⟩) (fun x => [(3, (Value.pointer (some ⟨b1, 0, none⟩))), (4, (Value.int .i64 r2.2)), (5, (Value.slice (x.2.2.1) (x.1).length (x.2.2.2.1))), (6, (Value.slice (x.2.2.2.2.1) (x.2.1).length (x.2.2.2.2.2)))]) (fun x => fun w => ∃ C, Bun noM F w0 C w [MO.row cGVal 23 (x.2.2.1) (x.2.2.2.1) (x.1), MO.row cGVal 23 (x.2.2.2.2.1) (x.2.2.2.2.2) (x.2.1), MO.box b1 23 #[(Value.int .i64 r2.1.N), (Value.int .i64 r2.1.D)]] [] ∧ m_law01_FracSumOrder_j1 r2 (x.1) (x.2.1) = some r) ?_ ?_
    · clear h hI; rintro ⟨back1, both1, a2, c4, a3, c5⟩ w5 ⟨c6, hI, h⟩
      try dsimp only at hI h
      rw [m_law01_FracSumOrder_j1] at h
      refine c_sub (e := [(3, (Value.pointer (some ⟨b1, 0, none⟩))), (4, (Value.int .i64 r2.2)), (5, (Value.slice a2 back1.length c4)), (6, (Value.slice a3 both1.length c5))]) ⟨rfl, rfl, rfl, rfl, trivial⟩ ?_
      refine c_seq ?_
      refine c_region rfl ?_
      refine s_q rfl rfl (y_move rfl (ev_tmp rfl rfl)) ?_
      obtain ⟨r3, hx5, h⟩ := bnd_some h
      refine s_call rfl rfl (r_callF (vs := [(Value.slice a2 back1.length c4)]) rfl ok_17 ⟨(ev_tmp rfl rfl), trivial⟩) (Calls.mono (c_frac_Sum noM w5 (fun _ k => k.elim) back1 a2 c4 ⟨hI.lend .z, trivial⟩ r3 hx5) ?_)
      rintro _ w6 ⟨rfl, hx6, hl3⟩
      refine ⟨_, rfl, ?_⟩
      replace hI := (hI.ext hx6)
      refine s_q rfl rfl (y_move rfl (ev_tmp rfl rfl)) ?_
      refine s_q rfl rfl (y_extract rfl (ev_tmp rfl rfl) rfl) ?_
      refine s_q rfl rfl (y_extract rfl (ev_tmp rfl rfl) rfl) ?_
      refine l_alloc (cs := #[(Value.int .i64 0), (Value.int .i64 0)]) hI rfl rfl rfl zero_23 rfl ?_
      clear hI; intro b2 c7 w7 hI
      refine l_store (new := [(Value.int .i64 r3.1.N), (Value.int .i64 r3.1.D)]) (cs' := #[(Value.int .i64 r3.1.N), (Value.int .i64 r3.1.D)]) hI .z rfl rfl rfl (ev_tmp rfl rfl) (ev_tmp rfl rfl) rfl size_23 rfl rfl rfl ?_
      clear hI; intro c8 w8 hI
      refine s_q rfl rfl (y_assign rfl (ev_tmp rfl rfl)) ?_
      refine s_nil ?_
      refine k_next (e := [(3, (Value.pointer (some ⟨b1, 0, none⟩))), (4, (Value.int .i64 r2.2)), (6, (Value.slice a3 both1.length c5)), (8, (Value.pointer (some ⟨b2, 0, none⟩))), (9, (Value.int .i64 r3.2))]) ⟨rfl, rfl, rfl, rfl, rfl, trivial⟩ ?_
      refine c_seq ?_
      refine c_region rfl ?_
      refine s_q rfl rfl (y_move rfl (ev_tmp rfl rfl)) ?_
      obtain ⟨r4, hx7, h⟩ := bnd_some h
      refine s_call rfl rfl (r_callF (vs := [(Value.slice a3 both1.length c5)]) rfl ok_17 ⟨(ev_tmp rfl rfl), trivial⟩) (Calls.mono (c_frac_Sum noM w8 (fun _ k => k.elim) both1 a3 c5 ⟨hI.lend (.s (.s .z)), trivial⟩ r4 hx7) ?_)
      rintro _ w9 ⟨rfl, hx8, hl4⟩
      refine ⟨_, rfl, ?_⟩
      replace hI := (hI.ext hx8)
      refine s_q rfl rfl (y_move rfl (ev_tmp rfl rfl)) ?_
      refine s_q rfl rfl (y_extract rfl (ev_tmp rfl rfl) rfl) ?_
      refine s_q rfl rfl (y_extract rfl (ev_tmp rfl rfl) rfl) ?_
      refine l_alloc (cs := #[(Value.int .i64 0), (Value.int .i64 0)]) hI rfl rfl rfl zero_23 rfl ?_
      clear hI; intro b3 c9 w10 hI
      refine l_store (new := [(Value.int .i64 r4.1.N), (Value.int .i64 r4.1.D)]) (cs' := #[(Value.int .i64 r4.1.N), (Value.int .i64 r4.1.D)]) hI .z rfl rfl rfl (ev_tmp rfl rfl) (ev_tmp rfl rfl) rfl size_23 rfl rfl rfl ?_
      clear hI; intro c10 w11 hI
      refine s_q rfl rfl (y_assign rfl (ev_tmp rfl rfl)) ?_
      refine s_nil ?_
      refine k_next (e := [(3, (Value.pointer (some ⟨b1, 0, none⟩))), (4, (Value.int .i64 r2.2)), (8, (Value.pointer (some ⟨b2, 0, none⟩))), (9, (Value.int .i64 r3.2)), (10, (Value.pointer (some ⟨b3, 0, none⟩))), (11, (Value.int .i64 r4.2))]) ⟨rfl, rfl, rfl, rfl, rfl, rfl, trivial⟩ ?_
      refine c_seq ?_
      refine c_seq ?_
      refine c_region rfl ?_
      refine s_q rfl rfl (y_loadN (l := [(Value.int .i64 r2.1.N), (Value.int .i64 r2.1.D)]) rfl (ev_tmp rfl rfl) Tryd.underlying23 rfl size_23 (CellsAt.of_blk (hI.blk (.s (.s (.s (.s .z))))) rfl)) ?_
      refine s_q rfl rfl (y_loadN (l := [(Value.int .i64 r3.1.N), (Value.int .i64 r3.1.D)]) rfl (ev_tmp rfl rfl) Tryd.underlying23 rfl size_23 (CellsAt.of_blk (hI.blk (.s .z)) rfl)) ?_
      refine s_q rfl rfl (y_bin rfl (ev_tmp rfl rfl) (ev_tmp rfl rfl) (eqstruct_23n ..) (eqguard_23 ..)) ?_
      refine s_q rfl rfl (y_move rfl (ev_tmp rfl rfl)) ?_
      refine s_gval (g_false rfl rfl rfl rfl) rfl (fun hc => (y_move rfl (ev_tmp rfl rfl))) ?_
      refine s_gval (g_false rfl rfl rfl rfl) rfl (fun hc => (y_move rfl (ev_tmp rfl rfl))) ?_
      refine s_gval (g_false rfl rfl rfl rfl) rfl (fun hc => (y_neq rfl (ev_gv (ev_tmp rfl rfl) hc) (ev_gv (ev_tmp rfl rfl) hc))) ?_
      refine s_q rfl rfl (y_or rfl (ev_tmp rfl rfl) (ev_tmp rfl rfl)) ?_
      refine s_nil ?_
      refine k_next (e := [(4, (Value.int .i64 r2.2)), (10, (Value.pointer (some ⟨b3, 0, none⟩))), (11, (Value.int .i64 r4.2)), (64, (Value.bool ((!((decide (r2.1.N = r3.1.N)) && (decide (r2.1.D = r3.1.D)))) || (!decide (r2.2 = r3.2)))))]) ⟨rfl, rfl, rfl, rfl, trivial⟩ ?_
      refine c_cond (b := (!((decide (r2.1.N = r3.1.N)) && (decide (r2.1.D = r3.1.D)))) || (!decide (r2.2 = r3.2))) (ev_tmp rfl rfl) (fun hb => ?_) (fun hb => ?_)
      · replace h := ite_t hb h
        refine c_seq ?_
        refine c_region rfl ?_
        refine s_q rfl rfl (y_assign rfl ev_const) ?_
        refine s_nil ?_
        refine k_next (e := [(2, (Value.bool false))]) ⟨rfl, trivial⟩ ?_
        refine c_ret ?_
        obtain rfl := some_inj h
        exact q_ret (vs := [(Value.bool false)]) Tryd.results5 ⟨ev_tmp rfl rfl, trivial⟩ ⟨rfl, hI.ext0, hI.fin trivial⟩
      · replace h := ite_f hb h
        refine c_skip ?_
        refine k_next (e := [(4, (Value.int .i64 r2.2)), (10, (Value.pointer (some ⟨b3, 0, none⟩))), (11, (Value.int .i64 r4.2))]) ⟨rfl, rfl, rfl, trivial⟩ ?_
        refine c_seq ?_
        refine c_region rfl ?_
        refine s_q rfl rfl (y_move rfl (ev_tmp rfl rfl)) ?_
        refine s_q rfl rfl (y_eql rfl (ev_tmp rfl rfl) ev_const) ?_
        refine s_q rfl rfl (y_move rfl (ev_tmp rfl rfl)) ?_
        refine s_gval (g_false rfl rfl rfl rfl) rfl (fun hc => (y_move rfl (ev_tmp rfl rfl))) ?_
        refine s_gval (g_false rfl rfl rfl rfl) rfl (fun hc => (y_eql rfl (ev_gv (ev_tmp rfl rfl) hc) ev_const)) ?_
        refine s_gval (g_false rfl rfl rfl rfl) rfl (fun hc => (y_move rfl (ev_gv (ev_tmp rfl rfl) hc))) ?_
        refine s_gval (g_true2 rfl rfl rfl rfl) rfl (fun hc => (y_loadN (l := [(Value.int .i64 r4.1.N), (Value.int .i64 r4.1.D)]) rfl (ev_tmp rfl rfl) Tryd.underlying23 rfl size_23 (CellsAt.of_blk (hI.blk .z) rfl))) ?_
        refine s_gval (g_true2 rfl rfl rfl rfl) rfl (fun hc => (y_build (vs := [(0, (Value.int .i64 0)), (1, (Value.int .i64 1))]) (cs := #[(Value.int .i64 0), (Value.int .i64 1)]) rfl ⟨rfl, ev_const, ⟨rfl, ev_const, trivial⟩⟩ (by kernel_rfl))) ?_
        refine s_gval (g_true2 rfl rfl rfl rfl) rfl (fun hc => (y_bin rfl (ev_gv (ev_tmp rfl rfl) hc) (ev_gv (ev_tmp rfl rfl) hc) (eqstruct_23 ..) (eqguard_23 ..))) ?_
        refine s_gval (g_false rfl rfl rfl rfl) rfl (fun hc => (y_and2 rfl hc (ev_tmp rfl rfl) (ev_tmp rfl rfl))) ?_
        refine s_q rfl rfl (y_or rfl (ev_tmp rfl rfl) (ev_tmp rfl rfl)) ?_
        refine s_q rfl rfl (y_move rfl (ev_tmp rfl rfl)) ?_
        obtain ⟨r5, hx9, h⟩ := bnd_some h
        replace hx9 := gd_some hx9
        refine s_gcallU (v := (Value.bool r5)) (g_true rfl rfl rfl rfl) rfl (fun hc => (r_callF (vs := []) rfl ok_16 trivial)) (fun hc => (c_law01_examples (Dj F c10) w11 hI.lt trivial r5 (hx9 hc)).mono fun _ _ k => ⟨k.1, k.2.1⟩) ?_
        intro w12 hx10; replace hI := hI.ext hx10
        refine s_q rfl rfl (y_and rfl (ev_tmp rfl rfl) (ev_tmp rfl rfl)) ?_
        refine s_q rfl rfl (y_assign rfl (ev_tmp rfl rfl)) ?_
        refine s_nil ?_
        refine k_next (e := [(2, (Value.bool (((decide (r2.2 = 1)) || ((decide (r4.2 = 0)) && ((decide (r4.1.N = 0)) && (decide (r4.1.D = 1))))) && r5)))]) ⟨rfl, trivial⟩ ?_
        refine c_ret ?_
        obtain rfl := some_inj h
        exact q_ret (vs := [(Value.bool (((decide (r2.2 = 1)) || ((decide (r4.2 = 0)) && ((decide (r4.1.N = 0)) && (decide (r4.1.D = 1))))) && r5))]) Tryd.results5 ⟨ev_tmp rfl rfl, trivial⟩ ⟨rfl, hI.ext0, hI.fin trivial⟩
    · skip
      refine c_seq ?_
      refine c_region rfl ?_
      refine s_q rfl rfl (y_move rfl (ev_tmp rfl rfl)) ?_
      refine s_q rfl rfl (y_lenl rfl Tryd.underlying30 (ev_tmp rfl rfl)) ?_
      refine s_q rfl rfl (y_sub rfl (ev_tmp rfl rfl) ev_const) ?_
      obtain ⟨i1, hx11, h⟩ := bnd_some h
      refine s_q rfl rfl (binU (y_assign rfl (ev_tmp rfl rfl)) (congrArg (Value.int .i64) (some_inj hx11))) ?_
      refine s_nil ?_
      refine k_next (e := [(0, (Value.slice a1 l1.length c1)), (3, (Value.pointer (some ⟨b1, 0, none⟩))), (4, (Value.int .i64 r2.2)), (5, (Value.slice none 0 0)), (6, (Value.slice none 0 0)), (7, (Value.int .i64 i1))]) ⟨rfl, rfl, rfl, rfl, rfl, rfl, trivial⟩ ?_
      refine c_block ?_
      have hI := hI.nil cGVal 23 none
      have hI := hI.nil cGVal 23 none
      refine c_loop (α := Nat × (List GVal) × (List GVal) × Int × (Option Addr) × Nat × (Option Addr) × Nat) (fun x => fun w => ∃ C, Bun noM F w0 C w [MO.row cGVal 23 (x.2.2.2.2.1) (x.2.2.2.2.2.1) (x.2.1), MO.row cGVal 23 (x.2.2.2.2.2.2.1) (x.2.2.2.2.2.2.2) (x.2.2.1), MO.box b1 23 #[(Value.int .i64 r2.1.N), (Value.int .i64 r2.1.D)]] [Cl.sl cGVal a1 c1 l1] ∧ m_law01_FracSumOrder_l1 l1 r2 (x.1) (x.2.1) (x.2.2.1) (x.2.2.2.1) = some r) (fun x _ => x.1) (fun x => [(0, (Value.slice a1 l1.length c1)), (3, (Value.pointer (some ⟨b1, 0, none⟩))), (4, (Value.int .i64 r2.2)), (5, (Value.slice (x.2.2.2.2.1) (x.2.1).length (x.2.2.2.2.2.1))), (6, (Value.slice (x.2.2.2.2.2.2.1) (x.2.2.1).length (x.2.2.2.2.2.2.2))), (7, (Value.int .i64 (x.2.2.2.1)))]) (fu, ([] : List GVal), ([] : List GVal), i1, none, 0, none, 0) ⟨_, hI.arr (.c (.s .z) (.c .z (.c .z .n))) ⟨.z, trivial⟩, h⟩ ⟨rfl, rfl, rfl, rfl, rfl, rfl, trivial⟩ ?_
      clear h hI; rintro ⟨fuel1, back2, both2, i2, a4, c11, a5, c12⟩ w13 ⟨c13, hI, h⟩
      dsimp only at hI h
      rcases fuel1 with _ | fuel1
      · rw [m_law01_FracSumOrder_l1] at h; cases h
      rw [m_law01_FracSumOrder_l1] at h
      refine c_sub (e := [(0, (Value.slice a1 l1.length c1)), (3, (Value.pointer (some ⟨b1, 0, none⟩))), (4, (Value.int .i64 r2.2)), (5, (Value.slice a4 back2.length c11)), (6, (Value.slice a5 both2.length c12)), (7, (Value.int .i64 i2))]) ⟨rfl, rfl, rfl, rfl, rfl, rfl, trivial⟩ ?_
      refine c_seq ?_
      refine c_seq ?_
      refine c_region rfl ?_
      refine s_q rfl rfl (y_move rfl (ev_tmp rfl rfl)) ?_
      refine s_q rfl rfl (y_geq rfl (ev_tmp rfl rfl) ev_const) ?_
      refine s_nil ?_
      refine k_next (e := [(0, (Value.slice a1 l1.length c1)), (3, (Value.pointer (some ⟨b1, 0, none⟩))), (4, (Value.int .i64 r2.2)), (5, (Value.slice a4 back2.length c11)), (6, (Value.slice a5 both2.length c12)), (7, (Value.int .i64 i2)), (25, (Value.bool (decide (0 ≤ i2))))]) ⟨rfl, rfl, rfl, rfl, rfl, rfl, rfl, trivial⟩ ?_
      refine c_cond (b := decide (0 ≤ i2)) (ev_tmp rfl rfl) (fun hb => ?_) (fun hb => ?_)
      · replace h := ite_t hb h
        refine c_skip ?_
        refine k_next (e := [(0, (Value.slice a1 l1.length c1)), (3, (Value.pointer (some ⟨b1, 0, none⟩))), (4, (Value.int .i64 r2.2)), (5, (Value.slice a4 back2.length c11)), (6, (Value.slice a5 both2.length c12)), (7, (Value.int .i64 i2))]) ⟨rfl, rfl, rfl, rfl, rfl, rfl, trivial⟩ ?_
        refine c_seq ?_
        refine c_block ?_
        refine c_seq ?_
        refine c_region rfl ?_
        refine s_q rfl rfl (y_move rfl (ev_tmp rfl rfl)) ?_
        refine s_q rfl rfl (y_move rfl (ev_tmp rfl rfl)) ?_
        refine s_q rfl rfl (y_move rfl (ev_tmp rfl rfl)) ?_
        obtain ⟨e1, hx12, h⟩ := bnd_some h
        obtain ⟨ad1, cs1, hA1, hr1, hq1⟩ := hI.clat .z hx12
        obtain rfl : cs1 = [(Value.int .i64 e1.N), (Value.int .i64 e1.D)] := hr1
        refine s_q rfl rfl (y_indexAddr rfl Tryd.underlying30 size_23 (ev_tmp rfl rfl) (ev_tmp rfl rfl) (lat_bd hx12) hA1) ?_
        refine s_q rfl rfl (y_loadN (l := [(Value.int .i64 e1.N), (Value.int .i64 e1.D)]) rfl (ev_tmp rfl rfl) Tryd.underlying23 rfl size_23 hq1.1) ?_
        refine l_lit (c := cGVal) (xs := ([e1] : List GVal)) (vs := [(0, (Value.agg #[(Value.int .i64 e1.N), (Value.int .i64 e1.D)]))]) (cs := #[(Value.int .i64 e1.N), (Value.int .i64 e1.D)]) (css := [[(Value.int .i64 e1.N), (Value.int .i64 e1.D)]]) hI rfl rfl rfl Tryd.underlying30 info_23 rfl ⟨rfl, (ev_tmp rfl rfl), trivial⟩ (by kernel_rfl) ⟨rfl, trivial⟩ rfl rfl rfl ?_
        clear hI; intro b4 c14 w14 hI
        obtain ⟨zs1, hx13, h⟩ := bnd_some h
        refine l_append (xs := back2) (ys := ([e1] : List GVal)) hI (.s .z) (hI.rd .z) hx13 rfl rfl rfl Tryd.underlying30 info_23 rfl rfl (ev_tmp rfl rfl) (ev_tmp rfl rfl) ?_
        clear hI; intro a6 c15 c16 w15 hI
        refine s_q rfl rfl (y_assign rfl (ev_tmp rfl rfl)) ?_
        refine s_nil ?_
        refine k_next (e := [(0, (Value.slice a1 l1.length c1)), (3, (Value.pointer (some ⟨b1, 0, none⟩))), (4, (Value.int .i64 r2.2)), (5, (Value.slice a6 zs1.length c15)), (6, (Value.slice a5 both2.length c12)), (7, (Value.int .i64 i2))]) ⟨rfl, rfl, rfl, rfl, rfl, rfl, trivial⟩ ?_
        refine c_drawX [11] false (.c (0, .q) (.c (1, .q) (.c (2, .q) (.c (3, .q) (.c (4, .q) (.c (5, .q) (.c (6, .q) (.c (7, .q) (.c (8, .q) (.c (9, .s) (.c (10, .s) (.c (11, .s) (.c (12, .q) .n))))))))))))) hI (by kernel_rfl) (by kernel_rfl) ?_
        clear hI; intro w16 hI
        refine a_q rfl rfl rfl (fun w' => (y_move rfl (ev_tmp rfl rfl))) ?_
        refine a_q rfl rfl rfl (fun w' => (y_move rfl (ev_tmp rfl rfl))) ?_
        refine a_q rfl rfl rfl (fun w' => (y_move rfl (ev_tmp rfl rfl))) ?_
        obtain ⟨e2, hx14, h⟩ := bnd_some h
        obtain ⟨ad2, cs2, hA2, hr2, hq2⟩ := hI.clat .z hx14
        obtain rfl : cs2 = [(Value.int .i64 e2.N), (Value.int .i64 e2.D)] := hr2
        refine a_q rfl rfl rfl (fun w' => (y_indexAddr rfl Tryd.underlying30 size_23 (ev_tmp rfl rfl) (ev_tmp rfl rfl) (lat_bd hx14) hA2)) ?_
        refine a_read rfl rfl rfl (fun w' hw' => (y_loadN (l := [(Value.int .i64 e2.N), (Value.int .i64 e2.D)]) rfl (ev_tmp rfl rfl) Tryd.underlying23 rfl size_23 (hq2.at_ (SX.any rfl hw')))) (by kernel_rfl) ?_
        refine a_q rfl rfl rfl (fun w' => (y_move rfl (ev_tmp rfl rfl))) ?_
        refine a_q rfl rfl rfl (fun w' => (y_move rfl (ev_tmp rfl rfl))) ?_
        obtain ⟨e3, hx15, h⟩ := bnd_some h
        obtain ⟨ad3, cs3, hA3, hr3, hq3⟩ := hI.clat .z hx15
        obtain rfl : cs3 = [(Value.int .i64 e3.N), (Value.int .i64 e3.D)] := hr3
        refine a_q rfl rfl rfl (fun w' => (y_indexAddr rfl Tryd.underlying30 size_23 (ev_tmp rfl rfl) (ev_tmp rfl rfl) (lat_bd hx15) hA3)) ?_
        refine a_read rfl rfl rfl (fun w' hw' => (y_loadN (l := [(Value.int .i64 e3.N), (Value.int .i64 e3.D)]) rfl (ev_tmp rfl rfl) Tryd.underlying23 rfl size_23 (hq3.at_ (SX.any rfl hw')))) (by kernel_rfl) ?_
        obtain ⟨r6, hx16, h⟩ := bnd_some h
        refine la_call rfl rfl rfl (r_callF (vs := [(Value.agg #[(Value.int .i64 e3.N), (Value.int .i64 e3.D)])]) rfl ok_19 ⟨(ev_tmp rfl rfl), trivial⟩) (Calls.mono (c_frac_Neg (Dj F c16) w16 hI.lt e3 trivial r6 hx16) ?_)
        rintro _ w17 ⟨rfl, hx17, hl6⟩
        refine ⟨_, rfl, hx17, ?_⟩
        replace hI := (hI.ext hx17)
        refine la_lit (c := cGVal) (xs := ([e2, r6] : List GVal)) (vs := [(0, (Value.agg #[(Value.int .i64 e2.N), (Value.int .i64 e2.D)])), (1, (Value.agg #[(Value.int .i64 r6.N), (Value.int .i64 r6.D)]))]) (cs := #[(Value.int .i64 e2.N), (Value.int .i64 e2.D), (Value.int .i64 r6.N), (Value.int .i64 r6.D)]) (css := [[(Value.int .i64 e2.N), (Value.int .i64 e2.D)], [(Value.int .i64 r6.N), (Value.int .i64 r6.D)]]) hI rfl rfl rfl rfl Tryd.underlying30 info_23 rfl ⟨rfl, (ev_tmp rfl rfl), ⟨rfl, (ev_tmp rfl rfl), trivial⟩⟩ (by kernel_rfl) ⟨rfl, ⟨rfl, trivial⟩⟩ rfl rfl rfl ?_
        clear hI; intro b5 c17 w18 hI
        refine a_turn (F := F) (C := c17) rfl rfl ?_
        obtain ⟨zs2, hx18, h⟩ := bnd_some h
        refine la_append (xs := both2) (ys := ([e2, r6] : List GVal)) hI (.s (.s (.s .z))) (hI.rd .z) hx18 rfl rfl rfl rfl Tryd.underlying30 info_23 rfl rfl (ev_tmp rfl rfl) (ev_tmp rfl rfl) ?_
        clear hI; intro a7 c18 c19 w19 hI
        refine a_q rfl rfl rfl (fun w' => (y_assign rfl (ev_tmp rfl rfl))) ?_
        refine a_nil ?_
        refine k_next (e := [(0, (Value.slice a1 l1.length c1)), (3, (Value.pointer (some ⟨b1, 0, none⟩))), (4, (Value.int .i64 r2.2)), (5, (Value.slice a6 zs1.length c15)), (6, (Value.slice a7 zs2.length c18)), (7, (Value.int .i64 i2))]) ⟨rfl, rfl, rfl, rfl, rfl, rfl, trivial⟩ ?_
        refine c_region rfl ?_
        refine s_q rfl rfl (y_move rfl (ev_tmp rfl rfl)) ?_
        refine s_q rfl rfl (y_sub rfl (ev_tmp rfl rfl) ev_const) ?_
        refine s_q rfl rfl (y_assign rfl (ev_tmp rfl rfl)) ?_
        refine s_nil ?_
        exact k_loop (fuel1, zs1, zs2, wi64 (i2 - 1), a6, c15, a7, c18) ⟨rfl, rfl, rfl, rfl, rfl, rfl, trivial⟩ ⟨_, hI.arr (.c (.s (.s .z)) (.c (.s (.s .z)) (.c (.s (.s .z)) .n))) ⟨.z, trivial⟩, h⟩ (Nat.lt_succ_self _)
      · replace h := ite_f hb h
        refine c_exit ?_
        refine k_in ?_
        exact k_join (back2, both2, a4, c11, a5, c12) ⟨rfl, rfl, rfl, rfl, trivial⟩ ⟨_, hI.arr (.c .z (.c .z (.c .z .n))) trivial, h⟩ rfl

set_option maxRecDepth 100000 in
set_option maxHeartbeats 4000000 in
theorem c_frac_Ceil (F : NP) (w0 : World) (hF : ∀ k, F k → k < w0.heap.size) (a1 : GVal) (hc : AllCl [] F w0) (r : Int)
    (h : m_frac_Ceil a1 = some r) :
    Calls Tryd.prog 21 #[(Value.agg #[(Value.int .i64 a1.N), (Value.int .i64 a1.D)])] w0 fun e w => e = .returned (Value.int .i64 r) ∧ Ext w0 w ∧ AllCl [] F w := by
  refine ofEnter (R := fun v w => v = (Value.int .i64 r) ∧ Ext w0 w ∧ AllCl [] F w) (enter (l := [(Value.agg #[(Value.int .i64 a1.N), (Value.int .i64 a1.D)])]) Tryd.func21 rfl Tryd.ntmps21 rfl ?_) ?_
  rotate_left
  · rintro _ w ⟨rfl, k1, k2⟩; exact ⟨rfl, k1, k2⟩
  have hI := Bun.start hF hc
  clear hc
  rw [m_frac_Ceil] at h
  refine c_seq ?_
  refine c_region rfl ?_
  refine l_box (v := (Value.agg #[(Value.int .i64 a1.N), (Value.int .i64 a1.D)])) (cs := #[(Value.int .i64 a1.N), (Value.int .i64 a1.D)]) hI rfl rfl rfl (ev_tmp rfl rfl) rfl ?_
  clear hI; intro b1 c1 w1 hI
  obtain ⟨c2, hI⟩ := hI.relBox .z
  refine s_q rfl rfl (y_assign rfl ev_const) ?_
  refine s_nil ?_
  refine k_next (e := [(1, (Value.pointer (some ⟨b1, 0, none⟩)))]) ⟨rfl, trivial⟩ ?_
  refine c_seq ?_
  refine c_region rfl ?_
  refine s_q rfl rfl (y_loadN (l := [(Value.int .i64 a1.N), (Value.int .i64 a1.D)]) rfl (ev_tmp rfl rfl) Tryd.underlying23 rfl size_23 (hI.kblk (l := [(Value.int .i64 a1.N), (Value.int .i64 a1.D)]) .z rfl).1) ?_
  obtain ⟨r1, hx1, h⟩ := bnd_some h
  refine s_call rfl rfl (r_callF (vs := [(Value.agg #[(Value.int .i64 a1.N), (Value.int .i64 a1.D)])]) rfl ok_19 ⟨(ev_tmp rfl rfl), trivial⟩) (Calls.mono (c_frac_Neg (Dj F c2) w1 hI.lt a1 trivial r1 hx1) ?_)
  rintro _ w2 ⟨rfl, hx2, hl1⟩
  refine ⟨_, rfl, ?_⟩
  replace hI := (hI.ext hx2)
  obtain ⟨r2, hx3, h⟩ := bnd_some h
  refine s_call rfl rfl (r_callF (vs := [(Value.agg #[(Value.int .i64 r1.N), (Value.int .i64 r1.D)])]) rfl ok_20 ⟨(ev_tmp rfl rfl), trivial⟩) (Calls.mono (c_frac_Floor (Dj F c2) w2 hI.lt r1 trivial r2 hx3) ?_)
  rintro _ w3 ⟨rfl, hx4, hl2⟩
  refine ⟨_, rfl, ?_⟩
  replace hI := (hI.ext hx4)
  refine s_q rfl rfl (y_neg rfl (ev_tmp rfl rfl)) ?_
  refine s_q rfl rfl (y_assign rfl (ev_tmp rfl rfl)) ?_
  refine s_nil ?_
  refine k_next (e := [(2, (Value.int .i64 (wi64 (-r2))))]) ⟨rfl, trivial⟩ ?_
  refine c_ret ?_
  obtain rfl := some_inj h
  exact q_ret (vs := [(Value.int .i64 (wi64 (-r2)))]) Tryd.results21 ⟨ev_tmp rfl rfl, trivial⟩ ⟨rfl, hI.ext0, hI.fin trivial⟩

set_option maxRecDepth 100000 in
set_option maxHeartbeats 4000000 in
theorem c_law01_FracFloorBounds (F : NP) (w0 : World) (hF : ∀ k, F k → k < w0.heap.size) (a1 : GVal) (hc : AllCl [] F w0) (r : Bool)
    (h : m_law01_FracFloorBounds a1 = some r) :
    Calls Tryd.prog 6 #[(Value.agg #[(Value.int .i64 a1.N), (Value.int .i64 a1.D)])] w0 fun e w => e = .returned (Value.bool r) ∧ Ext w0 w ∧ AllCl [] F w := by
  refine ofEnter (R := fun v w => v = (Value.bool r) ∧ Ext w0 w ∧ AllCl [] F w) (enter (l := [(Value.agg #[(Value.int .i64 a1.N), (Value.int .i64 a1.D)])]) Tryd.func6 rfl Tryd.ntmps6 rfl ?_) ?_
  rotate_left
  · rintro _ w ⟨rfl, k1, k2⟩; exact ⟨rfl, k1, k2⟩
  have hI := Bun.start hF hc
  clear hc
  rw [m_law01_FracFloorBounds] at h
  refine c_seq ?_
  refine c_region rfl ?_
  refine l_box (v := (Value.agg #[(Value.int .i64 a1.N), (Value.int .i64 a1.D)])) (cs := #[(Value.int .i64 a1.N), (Value.int .i64 a1.D)]) hI rfl rfl rfl (ev_tmp rfl rfl) rfl ?_
  clear hI; intro b1 c1 w1 hI
  obtain ⟨c2, hI⟩ := hI.relBox .z
  refine s_q rfl rfl (y_assign rfl ev_const) ?_
  refine s_nil ?_
  refine k_next (e := [(1, (Value.pointer (some ⟨b1, 0, none⟩)))]) ⟨rfl, trivial⟩ ?_
  refine c_seq ?_
  refine c_seq ?_
  refine c_region rfl ?_
  refine s_q rfl rfl (y_loadN (l := [(Value.int .i64 a1.N), (Value.int .i64 a1.D)]) rfl (ev_tmp rfl rfl) Tryd.underlying23 rfl size_23 (hI.kblk (l := [(Value.int .i64 a1.N), (Value.int .i64 a1.D)]) .z rfl).1) ?_
  obtain ⟨r1, hx1, h⟩ := bnd_some h
  refine s_call rfl rfl (r_callF (vs := [(Value.agg #[(Value.int .i64 a1.N), (Value.int .i64 a1.D)])]) rfl ok_14 ⟨(ev_tmp rfl rfl), trivial⟩) (Calls.mono (c_frac_Valid (Dj F c2) w1 hI.lt a1 trivial r1 hx1) ?_)
  rintro _ w2 ⟨rfl, hx2, hl1⟩
  refine ⟨_, rfl, ?_⟩
  replace hI := (hI.ext hx2)
  refine s_q rfl rfl (y_not rfl (ev_tmp rfl rfl)) ?_
  refine s_nil ?_
  refine k_next (e := [(1, (Value.pointer (some ⟨b1, 0, none⟩))), (6, (Value.bool (!r1)))]) ⟨rfl, rfl, trivial⟩ ?_
  refine c_cond (b := !r1) (ev_tmp rfl rfl) (fun hb => ?_) (fun hb => ?_)
  · replace h := ite_t hb h
    refine c_seq ?_
    refine c_region rfl ?_
    refine s_q rfl rfl (y_loadN (l := [(Value.int .i64 a1.N), (Value.int .i64 a1.D)]) rfl (ev_tmp rfl rfl) Tryd.underlying23 rfl size_23 (hI.kblk (l := [(Value.int .i64 a1.N), (Value.int .i64 a1.D)]) .z rfl).1) ?_
    obtain ⟨r2, hx3, h⟩ := bnd_some h
    refine s_call rfl rfl (r_callF (vs := [(Value.agg #[(Value.int .i64 a1.N), (Value.int .i64 a1.D)])]) rfl ok_20 ⟨(ev_tmp rfl rfl), trivial⟩) (Calls.mono (c_frac_Floor (Dj F c2) w2 hI.lt a1 trivial r2 hx3) ?_)
    rintro _ w3 ⟨rfl, hx4, hl2⟩
    refine ⟨_, rfl, ?_⟩
    replace hI := (hI.ext hx4)
    refine s_q rfl rfl (y_eql rfl (ev_tmp rfl rfl) ev_const) ?_
    refine s_q rfl rfl (y_move rfl (ev_tmp rfl rfl)) ?_
    refine s_gval (g_true rfl rfl rfl rfl) rfl (fun hc => (y_loadN (l := [(Value.int .i64 a1.N), (Value.int .i64 a1.D)]) rfl (ev_tmp rfl rfl) Tryd.underlying23 rfl size_23 (hI.kblk (l := [(Value.int .i64 a1.N), (Value.int .i64 a1.D)]) .z rfl).1)) ?_
    obtain ⟨r3, hx5, h⟩ := bnd_some h
    replace hx5 := gd_some hx5
    refine s_gcallU (v := (Value.int .i64 r3)) (g_true rfl rfl rfl rfl) rfl (fun hc => (r_callF (vs := [(Value.agg #[(Value.int .i64 a1.N), (Value.int .i64 a1.D)])]) rfl ok_21 ⟨(ev_gv (ev_tmp rfl rfl) hc), trivial⟩)) (fun hc => (c_frac_Ceil (Dj F c2) w3 hI.lt a1 trivial r3 (hx5 hc)).mono fun _ _ k => ⟨k.1, k.2.1⟩) ?_
    intro w4 hx6; replace hI := hI.ext hx6
    refine s_gval (g_true rfl rfl rfl rfl) rfl (fun hc => (y_eql rfl (ev_gv (ev_tmp rfl rfl) hc) ev_const)) ?_
    refine s_q rfl rfl (y_and rfl (ev_tmp rfl rfl) (ev_tmp rfl rfl)) ?_
    refine s_q rfl rfl (y_move rfl (ev_tmp rfl rfl)) ?_
    obtain ⟨r4, hx7, h⟩ := bnd_some h
    replace hx7 := gd_some hx7
    refine s_gcallU (v := (Value.bool r4)) (g_true rfl rfl rfl rfl) rfl (fun hc => (r_callF (vs := []) rfl ok_16 trivial)) (fun hc => (c_law01_examples (Dj F c2) w4 hI.lt trivial r4 (hx7 hc)).mono fun _ _ k => ⟨k.1, k.2.1⟩) ?_
    intro w5 hx8; replace hI := hI.ext hx8
    refine s_q rfl rfl (y_and rfl (ev_tmp rfl rfl) (ev_tmp rfl rfl)) ?_
    refine s_q rfl rfl (y_assign rfl (ev_tmp rfl rfl)) ?_
    refine s_nil ?_
    refine k_next (e := [(2, (Value.bool (((decide (r2 = 0)) && (decide (r3 = 0))) && r4)))]) ⟨rfl, trivial⟩ ?_
    refine c_ret ?_
    obtain rfl := some_inj h
    exact q_ret (vs := [(Value.bool (((decide (r2 = 0)) && (decide (r3 = 0))) && r4))]) Tryd.results6 ⟨ev_tmp rfl rfl, trivial⟩ ⟨rfl, hI.ext0, hI.fin trivial⟩
  · replace h := ite_f hb h
    refine c_skip ?_
    refine k_next (e := [(1, (Value.pointer (some ⟨b1, 0, none⟩)))]) ⟨rfl, trivial⟩ ?_
    refine c_seq ?_
    refine c_region rfl ?_
    refine s_q rfl rfl (y_loadN (l := [(Value.int .i64 a1.N), (Value.int .i64 a1.D)]) rfl (ev_tmp rfl rfl) Tryd.underlying23 rfl size_23 (hI.kblk (l := [(Value.int .i64 a1.N), (Value.int .i64 a1.D)]) .z rfl).1) ?_
    obtain ⟨r5, hx9, h⟩ := bnd_some h
    refine s_call rfl rfl (r_callF (vs := [(Value.agg #[(Value.int .i64 a1.N), (Value.int .i64 a1.D)])]) rfl ok_20 ⟨(ev_tmp rfl rfl), trivial⟩) (Calls.mono (c_frac_Floor (Dj F c2) w2 hI.lt a1 trivial r5 hx9) ?_)
    rintro _ w6 ⟨rfl, hx10, hl5⟩
    refine ⟨_, rfl, ?_⟩
    replace hI := (hI.ext hx10)
    refine s_q rfl rfl (y_assign rfl (ev_tmp rfl rfl)) ?_
    refine s_nil ?_
    refine k_next (e := [(1, (Value.pointer (some ⟨b1, 0, none⟩))), (3, (Value.int .i64 r5))]) ⟨rfl, rfl, trivial⟩ ?_
    refine c_seq ?_
    refine c_drawX [] false (.c (0, .q) (.c (1, .q) (.c (2, .q) (.c (3, .q) (.c (4, .q) (.c (5, .q) (.c (6, .q) (.c (7, .q) (.c (8, .q) (.c (9, .q) (.c (10, .q) (.c (11, .q) (.c (12, .q) (.c (13, .q) (.c (14, .q) (.c (15, .q) (.c (16, .q) (.c (17, .q) (.c (18, .q) (.c (19, .q) (.c (20, .q) (.c (21, .q) (.c (22, .q) (.c (23, .q) (.c (24, .q) (.c (25, .q) (.c (26, .q) (.c (28, .q) (.c (27, .s) (.c (29, .s) (.c (30, .s) (.c (31, .q) (.c (32, .q) (.c (33, .q) (.c (34, .q) (.c (35, .s) (.c (36, .q) (.c (37, .q) .n)))))))))))))))))))))))))))))))))))))) hI (by kernel_rfl) (by kernel_rfl) ?_
    clear hI; intro w7 hI
    refine a_q rfl rfl rfl (fun w' => (y_move rfl (ev_tmp rfl rfl))) ?_
    refine a_q rfl rfl rfl (fun w' => (y_geq rfl (ev_tmp rfl rfl) ev_const)) ?_
    refine a_q rfl rfl rfl (fun w' => (y_move rfl (ev_tmp rfl rfl))) ?_
    refine a_gval rfl (g_true rfl rfl rfl rfl) rfl (fun hc => fun w' => (y_move rfl (ev_tmp rfl rfl))) ?_
    refine a_gval rfl (g_true rfl rfl rfl rfl) rfl (fun hc => fun w' => (y_leq rfl (ev_gv (ev_tmp rfl rfl) hc) ev_const)) ?_
    refine a_q rfl rfl rfl (fun w' => (y_and rfl (ev_tmp rfl rfl) (ev_tmp rfl rfl))) ?_
    refine a_q rfl rfl rfl (fun w' => (y_move rfl (ev_tmp rfl rfl))) ?_
    refine a_gval rfl (g_true rfl rfl rfl rfl) rfl (fun hc => fun w' => (y_move rfl (ev_tmp rfl rfl))) ?_
    refine a_gval rfl (g_true rfl rfl rfl rfl) rfl (fun hc => fun w' => (y_fieldAddr rfl (ev_tmp rfl rfl) Tryd.underlying23 rfl size_2 rfl)) ?_
    refine a_gread rfl (g_true rfl rfl rfl rfl) rfl (fun hc => fun w' hw' => (y_load1 (v := (Value.int .i64 a1.D)) rfl (ev_gv (ev_tmp rfl rfl) hc) Tryd.underlying2 rfl ((hI.kblk (l := [(Value.int .i64 a1.D)]) .z rfl).at_ (SX.any rfl hw')))) (by kernel_rfl) ?_
    refine a_gval rfl (g_true rfl rfl rfl rfl) rfl (fun hc => fun w' => (y_mul rfl (ev_gv (ev_tmp rfl rfl) hc) (ev_gv (ev_tmp rfl rfl) hc))) ?_
    refine a_gval rfl (g_true rfl rfl rfl rfl) rfl (fun hc => fun w' => (y_fieldAddr rfl (ev_tmp rfl rfl) Tryd.underlying23 rfl size_2 rfl)) ?_
    refine a_gread rfl (g_true rfl rfl rfl rfl) rfl (fun hc => fun w' hw' => (y_load1 (v := (Value.int .i64 a1.N)) rfl (ev_gv (ev_tmp rfl rfl) hc) Tryd.underlying2 rfl ((hI.kblk (l := [(Value.int .i64 a1.N)]) .z rfl).at_ (SX.any rfl hw')))) (by kernel_rfl) ?_
    refine a_gval rfl (g_true rfl rfl rfl rfl) rfl (fun hc => fun w' => (y_leq rfl (ev_gv (ev_tmp rfl rfl) hc) (ev_gv (ev_tmp rfl rfl) hc))) ?_
    refine a_q rfl rfl rfl (fun w' => (y_and rfl (ev_tmp rfl rfl) (ev_tmp rfl rfl))) ?_
    refine a_q rfl rfl rfl (fun w' => (y_move rfl (ev_tmp rfl rfl))) ?_
    refine a_gval rfl (g_true rfl rfl rfl rfl) rfl (fun hc => fun w' => (y_fieldAddr rfl (ev_tmp rfl rfl) Tryd.underlying23 rfl size_2 rfl)) ?_
    refine a_gread rfl (g_true rfl rfl rfl rfl) rfl (fun hc => fun w' hw' => (y_load1 (v := (Value.int .i64 a1.N)) rfl (ev_gv (ev_tmp rfl rfl) hc) Tryd.underlying2 rfl ((hI.kblk (l := [(Value.int .i64 a1.N)]) .z rfl).at_ (SX.any rfl hw')))) (by kernel_rfl) ?_
    refine a_gval rfl (g_true rfl rfl rfl rfl) rfl (fun hc => fun w' => (y_move rfl (ev_tmp rfl rfl))) ?_
    refine a_gval rfl (g_true rfl rfl rfl rfl) rfl (fun hc => fun w' => (y_add rfl (ev_gv (ev_tmp rfl rfl) hc) ev_const)) ?_
    refine a_gval rfl (g_true rfl rfl rfl rfl) rfl (fun hc => fun w' => (y_fieldAddr rfl (ev_tmp rfl rfl) Tryd.underlying23 rfl size_2 rfl)) ?_
    refine a_gread rfl (g_true rfl rfl rfl rfl) rfl (fun hc => fun w' hw' => (y_load1 (v := (Value.int .i64 a1.D)) rfl (ev_gv (ev_tmp rfl rfl) hc) Tryd.underlying2 rfl ((hI.kblk (l := [(Value.int .i64 a1.D)]) .z rfl).at_ (SX.any rfl hw')))) (by kernel_rfl) ?_
    refine a_gval rfl (g_true rfl rfl rfl rfl) rfl (fun hc => fun w' => (y_mul rfl (ev_gv (ev_tmp rfl rfl) hc) (ev_gv (ev_tmp rfl rfl) hc))) ?_
    refine a_gval rfl (g_true rfl rfl rfl rfl) rfl (fun hc => fun w' => (y_lss rfl (ev_gv (ev_tmp rfl rfl) hc) (ev_gv (ev_tmp rfl rfl) hc))) ?_
    refine a_q rfl rfl rfl (fun w' => (y_and rfl (ev_tmp rfl rfl) (ev_tmp rfl rfl))) ?_
    refine a_q rfl rfl rfl (fun w' => (y_move rfl (ev_tmp rfl rfl))) ?_
    refine a_gread rfl (g_true rfl rfl rfl rfl) rfl (fun hc => fun w' hw' => (y_loadN (l := [(Value.int .i64 a1.N), (Value.int .i64 a1.D)]) rfl (ev_tmp rfl rfl) Tryd.underlying23 rfl size_23 ((hI.kblk (l := [(Value.int .i64 a1.N), (Value.int .i64 a1.D)]) .z rfl).at_ (SX.any rfl hw')))) (by kernel_rfl) ?_
    refine a_gread rfl (g_true rfl rfl rfl rfl) rfl (fun hc => fun w' hw' => (y_loadN (l := [(Value.int .i64 a1.N), (Value.int .i64 a1.D)]) rfl (ev_tmp rfl rfl) Tryd.underlying23 rfl size_23 ((hI.kblk (l := [(Value.int .i64 a1.N), (Value.int .i64 a1.D)]) .z rfl).at_ (SX.any rfl hw')))) (by kernel_rfl) ?_
    obtain ⟨r6, hx11, h⟩ := bnd_some h
    replace hx11 := gd_some hx11
    refine la_gcallU (v := (Value.int .i64 r6)) rfl (g_true rfl rfl rfl rfl) rfl (fun hc => (r_callF (vs := [(Value.agg #[(Value.int .i64 a1.N), (Value.int .i64 a1.D)])]) rfl ok_21 ⟨(ev_gv (ev_tmp rfl rfl) hc), trivial⟩)) (fun hc => (c_frac_Ceil (Dj F c2) w7 hI.lt a1 trivial r6 (hx11 hc)).mono fun _ _ k => ⟨k.1, k.2.1⟩) ?_
    intro w8 hx12; replace hI := hI.ext hx12
    obtain ⟨r7, hx13, h⟩ := bnd_some h
    replace hx13 := gd_some hx13
    refine la_gcallU (v := (Value.agg #[(Value.int .i64 r7.N), (Value.int .i64 r7.D)])) rfl (g_true rfl rfl rfl rfl) rfl (fun hc => (r_callF (vs := [(Value.agg #[(Value.int .i64 a1.N), (Value.int .i64 a1.D)])]) rfl ok_19 ⟨(ev_gv (ev_tmp rfl rfl) hc), trivial⟩)) (fun hc => (c_frac_Neg (Dj F c2) w8 hI.lt a1 trivial r7 (hx13 hc)).mono fun _ _ k => ⟨k.1, k.2.1⟩) ?_
    intro w9 hx14; replace hI := hI.ext hx14
    obtain ⟨r8, hx15, h⟩ := bnd_some h
    replace hx15 := gd_some hx15
    refine la_gcallU (v := (Value.int .i64 r8)) rfl (g_true rfl rfl rfl rfl) rfl (fun hc => (r_callF (vs := [(Value.agg #[(Value.int .i64 r7.N), (Value.int .i64 r7.D)])]) rfl ok_20 ⟨(ev_gv (ev_tmp rfl rfl) hc), trivial⟩)) (fun hc => (c_frac_Floor (Dj F c2) w9 hI.lt r7 trivial r8 (hx15 hc)).mono fun _ _ k => ⟨k.1, k.2.1⟩) ?_
    intro w10 hx16; replace hI := hI.ext hx16
    refine a_gval rfl (g_true rfl rfl rfl rfl) rfl (fun hc => fun w' => (y_neg rfl (ev_gv (ev_tmp rfl rfl) hc))) ?_
    refine a_gval rfl (g_true rfl rfl rfl rfl) rfl (fun hc => fun w' => (y_eql rfl (ev_gv (ev_tmp rfl rfl) hc) (ev_gv (ev_tmp rfl rfl) hc))) ?_
    refine a_q rfl rfl rfl (fun w' => (y_and rfl (ev_tmp rfl rfl) (ev_tmp rfl rfl))) ?_
    refine a_q rfl rfl rfl (fun w' => (y_move rfl (ev_tmp rfl rfl))) ?_
    obtain ⟨r9, hx17, h⟩ := bnd_some h
    replace hx17 := gd_some hx17
    refine la_gcallU (v := (Value.bool r9)) rfl (g_true rfl rfl rfl rfl) rfl (fun hc => (r_callF (vs := []) rfl ok_16 trivial)) (fun hc => (c_law01_examples (Dj F c2) w10 hI.lt trivial r9 (hx17 hc)).mono fun _ _ k => ⟨k.1, k.2.1⟩) ?_
    intro w11 hx18; replace hI := hI.ext hx18
    refine a_q rfl rfl rfl (fun w' => (y_and rfl (ev_tmp rfl rfl) (ev_tmp rfl rfl))) ?_
    refine a_q rfl rfl rfl (fun w' => (y_assign rfl (ev_tmp rfl rfl))) ?_
    refine a_nil ?_
    refine k_next (e := [(2, (Value.bool ((((((decide ((-2147483647) ≤ r5)) && (decide (r5 ≤ 2147483647))) && (decide (wi64 (r5 * a1.D) ≤ a1.N))) && (decide (a1.N < wi64 ((wi64 (r5 + 1)) * a1.D)))) && (decide (r6 = wi64 (-r8)))) && r9)))]) ⟨rfl, trivial⟩ ?_
    refine c_ret ?_
    obtain rfl := some_inj h
    exact q_ret (vs := [(Value.bool ((((((decide ((-2147483647) ≤ r5)) && (decide (r5 ≤ 2147483647))) && (decide (wi64 (r5 * a1.D) ≤ a1.N))) && (decide (a1.N < wi64 ((wi64 (r5 + 1)) * a1.D)))) && (decide (r6 = wi64 (-r8)))) && r9))]) Tryd.results6 ⟨ev_tmp rfl rfl, trivial⟩ ⟨rfl, hI.ext0, hI.fin trivial⟩

set_option maxRecDepth 100000 in
set_option maxHeartbeats 4000000 in
theorem c_ref01_Whole (F : NP) (w0 : World) (hF : ∀ k, F k → k < w0.heap.size) (s1 : List UInt8) (hc : AllCl [] F w0) (r : Bool)
    (h : m_ref01_Whole s1 = some r) :
    Calls Tryd.prog 61 #[(str s1)] w0 fun e w => e = .returned (Value.bool r) ∧ Ext w0 w ∧ AllCl [] F w := by
  refine ofEnter (R := fun v w => v = (Value.bool r) ∧ Ext w0 w ∧ AllCl [] F w) (enter (l := [(str s1)]) Tryd.func61 rfl Tryd.ntmps61 rfl ?_) ?_
  rotate_left
  · rintro _ w ⟨rfl, k1, k2⟩; exact ⟨rfl, k1, k2⟩
  have hI := Bun.start hF hc
  clear hc
  rw [m_ref01_Whole] at h
  refine c_seq ?_
  refine c_region rfl ?_
  refine s_q rfl rfl (y_assign rfl ev_const) ?_
  refine s_nil ?_
  refine k_next (e := [(0, (str s1))]) ⟨rfl, trivial⟩ ?_
  refine c_seq ?_
  refine c_region rfl ?_
  refine s_q rfl rfl (y_assign rfl ev_const) ?_
  refine s_nil ?_
  refine k_next (e := [(0, (str s1)), (3, (Value.int .i64 0))]) ⟨rfl, rfl, trivial⟩ ?_
  refine c_join (α := Int) (fun _ => ⟨45, []⟩) (fun x => [(0, (str s1)), (3, (Value.int .i64 x))]) (fun x => fun w => ∃ C, Bun noM F w0 C w [] [] ∧ m_ref01_Whole_j1 s1 x = some r) ?_ ?_
  · clear h hI; rintro from1 w1 ⟨c1, hI, h⟩
    try dsimp only at hI h
    rw [m_ref01_Whole_j1] at h
    refine c_sub (e := [(0, (str s1)), (3, (Value.int .i64 from1))]) ⟨rfl, rfl, trivial⟩ ?_
    refine c_join (α := Unit) (fun _ => ⟨45, []⟩) (fun _ => [(0, (str s1)), (3, (Value.int .i64 from1))]) (fun _ => fun w => ∃ C, Bun noM F w0 C w [] [] ∧ m_ref01_Whole_j2 from1 s1 = some r) ?_ ?_
    · clear h hI; rintro _ w2 ⟨c2, hI, h⟩
      try dsimp only at hI h
      rw [m_ref01_Whole_j2] at h
      refine c_sub (e := [(0, (str s1)), (3, (Value.int .i64 from1))]) ⟨rfl, rfl, trivial⟩ ?_
      refine c_seq ?_
      refine c_region rfl ?_
      refine s_q rfl rfl (y_move rfl (ev_tmp rfl rfl)) ?_
      refine s_q rfl rfl (y_lens rfl Tryd.underlying9 (ev_tmp rfl rfl)) ?_
      refine s_q rfl rfl (y_move rfl (ev_tmp rfl rfl)) ?_
      refine s_q rfl rfl (y_gtr rfl (ev_tmp rfl rfl) (ev_tmp rfl rfl)) ?_
      refine s_q rfl rfl (y_move rfl (ev_tmp rfl rfl)) ?_
      refine s_gval (g_true rfl rfl rfl rfl) rfl (fun hc => (y_move rfl (ev_tmp rfl rfl))) ?_
      refine s_gval (g_true rfl rfl rfl rfl) rfl (fun hc => (y_move rfl (ev_tmp rfl rfl))) ?_
      obtain ⟨b1, hx1, h⟩ := bnd_some h
      replace hx1 := gd_some hx1
      refine s_gval (g_true rfl rfl rfl rfl) rfl (fun hc => (y_satl rfl Tryd.underlying9 (ev_gv (ev_tmp rfl rfl) hc) (ev_gv (ev_tmp rfl rfl) hc) (hx1 hc))) ?_
      refine s_gval (g_true rfl rfl rfl rfl) rfl (fun hc => (y_neq rfl (ev_gv (ev_tmp rfl rfl) hc) ev_const)) ?_
      refine s_gval (g_true rfl rfl rfl rfl) rfl (fun hc => (y_move rfl (ev_gv (ev_tmp rfl rfl) hc))) ?_
      refine s_gval (g_false2 rfl rfl rfl rfl) rfl (fun hc => (y_move rfl (ev_tmp rfl rfl))) ?_
      refine s_gval (g_false2 rfl rfl rfl rfl) rfl (fun hc => (y_lens rfl Tryd.underlying9 (ev_gv (ev_tmp rfl rfl) hc))) ?_
      refine s_gval (g_false2 rfl rfl rfl rfl) rfl (fun hc => (y_eql rfl (ev_gv (ev_tmp rfl rfl) hc) ev_const)) ?_
      refine s_gval (g_true rfl rfl rfl rfl) rfl (fun hc => (y_or2 rfl hc (ev_tmp rfl rfl) (ev_tmp rfl rfl))) ?_
      refine s_q rfl rfl (y_and rfl (ev_tmp rfl rfl) (ev_tmp rfl rfl)) ?_
      refine s_q rfl rfl (y_assign rfl (ev_tmp rfl rfl)) ?_
      refine s_nil ?_
      refine k_next (e := [(2, (Value.bool ((decide (from1 < (s1.length : Int))) && ((!decide (b1 = 48)) || (decide ((s1.length : Int) = 1))))))]) ⟨rfl, trivial⟩ ?_
      refine c_ret ?_
      obtain rfl := some_inj h
      exact q_ret (vs := [(Value.bool ((decide (from1 < (s1.length : Int))) && ((!decide (b1 = 48)) || (decide ((s1.length : Int) = 1)))))]) Tryd.results61 ⟨ev_tmp rfl rfl, trivial⟩ ⟨rfl, hI.ext0, hI.fin trivial⟩
    · skip
      refine c_seq ?_
      refine c_region rfl ?_
      refine s_q rfl rfl (y_move rfl (ev_tmp rfl rfl)) ?_
      refine s_q rfl rfl (y_assign rfl (ev_tmp rfl rfl)) ?_
      refine s_nil ?_
      refine k_next (e := [(0, (str s1)), (3, (Value.int .i64 from1)), (4, (Value.int .i64 from1))]) ⟨rfl, rfl, rfl, trivial⟩ ?_
      refine c_block ?_
      refine c_loop (α := Nat × Int) (fun x => fun w => ∃ C, Bun noM F w0 C w [] [] ∧ m_ref01_Whole_l1 s1 from1 (x.1) (x.2) = some r) (fun x _ => x.1) (fun x => [(0, (str s1)), (3, (Value.int .i64 from1)), (4, (Value.int .i64 (x.2)))]) (fu, from1) ⟨_, hI.arr .n trivial, h⟩ ⟨rfl, rfl, rfl, trivial⟩ ?_
      clear h hI; rintro ⟨fuel1, i1⟩ w3 ⟨c3, hI, h⟩
      dsimp only at hI h
      rcases fuel1 with _ | fuel1
      · rw [m_ref01_Whole_l1] at h; cases h
      rw [m_ref01_Whole_l1] at h
      refine c_sub (e := [(0, (str s1)), (3, (Value.int .i64 from1)), (4, (Value.int .i64 i1))]) ⟨rfl, rfl, rfl, trivial⟩ ?_
      refine c_seq ?_
      refine c_seq ?_
      refine c_region rfl ?_
      refine s_q rfl rfl (y_move rfl (ev_tmp rfl rfl)) ?_
      refine s_q rfl rfl (y_move rfl (ev_tmp rfl rfl)) ?_
      refine s_q rfl rfl (y_lens rfl Tryd.underlying9 (ev_tmp rfl rfl)) ?_
      refine s_q rfl rfl (y_lss rfl (ev_tmp rfl rfl) (ev_tmp rfl rfl)) ?_
      refine s_nil ?_
      refine k_next (e := [(0, (str s1)), (3, (Value.int .i64 from1)), (4, (Value.int .i64 i1)), (17, (Value.bool (decide (i1 < (s1.length : Int)))))]) ⟨rfl, rfl, rfl, rfl, trivial⟩ ?_
      refine c_cond (b := decide (i1 < (s1.length : Int))) (ev_tmp rfl rfl) (fun hb => ?_) (fun hb => ?_)
      · replace h := ite_t hb h
        refine c_skip ?_
        refine k_next (e := [(0, (str s1)), (3, (Value.int .i64 from1)), (4, (Value.int .i64 i1))]) ⟨rfl, rfl, rfl, trivial⟩ ?_
        refine c_seq ?_
        refine c_block ?_
        refine c_seq ?_
        refine c_region rfl ?_
        refine s_q rfl rfl (y_move rfl (ev_tmp rfl rfl)) ?_
        refine s_q rfl rfl (y_move rfl (ev_tmp rfl rfl)) ?_
        obtain ⟨b2, hx2, h⟩ := bnd_some h
        refine s_q rfl rfl (y_satl rfl Tryd.underlying9 (ev_tmp rfl rfl) (ev_tmp rfl rfl) hx2) ?_
        refine s_q rfl rfl (y_lss rfl (ev_tmp rfl rfl) ev_const) ?_
        refine s_q rfl rfl (y_move rfl (ev_tmp rfl rfl)) ?_
        refine s_gval (g_false rfl rfl rfl rfl) rfl (fun hc => (y_move rfl (ev_tmp rfl rfl))) ?_
        refine s_gval (g_false rfl rfl rfl rfl) rfl (fun hc => (y_move rfl (ev_tmp rfl rfl))) ?_
        obtain ⟨b3, hx3, h⟩ := bnd_some h
        replace hx3 := gd_some hx3
        refine s_gval (g_false rfl rfl rfl rfl) rfl (fun hc => (y_satl rfl Tryd.underlying9 (ev_gv (ev_tmp rfl rfl) hc) (ev_gv (ev_tmp rfl rfl) hc) (hx3 hc))) ?_
        refine s_gval (g_false rfl rfl rfl rfl) rfl (fun hc => (y_gtr rfl (ev_gv (ev_tmp rfl rfl) hc) ev_const)) ?_
        refine s_q rfl rfl (y_or rfl (ev_tmp rfl rfl) (ev_tmp rfl rfl)) ?_
        refine s_nil ?_
        refine k_next (e := [(0, (str s1)), (3, (Value.int .i64 from1)), (4, (Value.int .i64 i1)), (29, (Value.bool ((decide (b2 < 48)) || (decide (57 < b3)))))]) ⟨rfl, rfl, rfl, rfl, trivial⟩ ?_
        refine c_cond (b := (decide (b2 < 48)) || (decide (57 < b3))) (ev_tmp rfl rfl) (fun hb => ?_) (fun hb => ?_)
        · replace h := ite_t hb h
          refine c_seq ?_
          refine c_region rfl ?_
          refine s_q rfl rfl (y_assign rfl ev_const) ?_
          refine s_nil ?_
          refine k_next (e := [(2, (Value.bool false))]) ⟨rfl, trivial⟩ ?_
          refine c_ret ?_
          obtain rfl := some_inj h
          exact q_ret (vs := [(Value.bool false)]) Tryd.results61 ⟨ev_tmp rfl rfl, trivial⟩ ⟨rfl, hI.ext0, hI.fin trivial⟩
        · replace h := ite_f hb h
          refine c_skip ?_
          refine k_next (e := [(0, (str s1)), (3, (Value.int .i64 from1)), (4, (Value.int .i64 i1))]) ⟨rfl, rfl, rfl, trivial⟩ ?_
          refine c_region rfl ?_
          refine s_q rfl rfl (y_move rfl (ev_tmp rfl rfl)) ?_
          refine s_q rfl rfl (y_add rfl (ev_tmp rfl rfl) ev_const) ?_
          refine s_q rfl rfl (y_assign rfl (ev_tmp rfl rfl)) ?_
          refine s_nil ?_
          exact k_loop (fuel1, wi64 (i1 + 1)) ⟨rfl, rfl, rfl, trivial⟩ ⟨_, hI.arr .n trivial, h⟩ (Nat.lt_succ_self _)
      · replace h := ite_f hb h
        refine c_exit ?_
        refine k_in ?_
        exact k_join () ⟨rfl, rfl, trivial⟩ ⟨_, hI.arr .n trivial, h⟩ rfl
  · skip
    refine c_seq ?_
    refine c_region rfl ?_
    refine s_q rfl rfl (y_move rfl (ev_tmp rfl rfl)) ?_
    refine s_q rfl rfl (y_lens rfl Tryd.underlying9 (ev_tmp rfl rfl)) ?_
    refine s_q rfl rfl (y_gtr rfl (ev_tmp rfl rfl) ev_const) ?_
    refine s_q rfl rfl (y_move rfl (ev_tmp rfl rfl)) ?_
    refine s_gval (g_true rfl rfl rfl rfl) rfl (fun hc => (y_move rfl (ev_tmp rfl rfl))) ?_
    obtain ⟨b4, hx4, h⟩ := bnd_some h
    replace hx4 := gd_some hx4
    refine s_gval (g_true rfl rfl rfl rfl) rfl (fun hc => (y_satl rfl Tryd.underlying9 (ev_gv (ev_tmp rfl rfl) hc) ev_const (hx4 hc))) ?_
    refine s_gval (g_true rfl rfl rfl rfl) rfl (fun hc => (y_eql rfl (ev_gv (ev_tmp rfl rfl) hc) ev_const)) ?_
    refine s_q rfl rfl (y_and rfl (ev_tmp rfl rfl) (ev_tmp rfl rfl)) ?_
    refine s_nil ?_
    refine k_next (e := [(0, (str s1)), (3, (Value.int .i64 0)), (12, (Value.bool ((decide (1 < (s1.length : Int))) && (decide (b4 = 45)))))]) ⟨rfl, rfl, rfl, trivial⟩ ?_
    refine c_cond (b := (decide (1 < (s1.length : Int))) && (decide (b4 = 45))) (ev_tmp rfl rfl) (fun hb => ?_) (fun hb => ?_)
    · replace h := ite_t hb h
      refine c_region rfl ?_
      refine s_q rfl rfl (y_assign rfl ev_const) ?_
      refine s_nil ?_
      exact k_join 1 ⟨rfl, rfl, trivial⟩ ⟨_, hI.arr .n trivial, h⟩ rfl
    · replace h := ite_f hb h
      refine c_skip ?_
      exact k_join 0 ⟨rfl, rfl, trivial⟩ ⟨_, hI.arr .n trivial, h⟩ rfl

set_option maxRecDepth 100000 in
set_option maxHeartbeats 4000000 in
theorem c_ref01_value (F : NP) (w0 : World) (hF : ∀ k, F k → k < w0.heap.size) (s1 : List UInt8) (hc : AllCl [] F w0) (r : Int × Bool)
    (h : m_ref01_value s1 = some r) :
    Calls Tryd.prog 62 #[(str s1)] w0 fun e w => e = .returned (Value.tuple #[(Value.int .i64 r.1), (Value.bool r.2)]) ∧ Ext w0 w ∧ AllCl [] F w := by
  refine ofEnter (R := fun v w => v = (Value.tuple #[(Value.int .i64 r.1), (Value.bool r.2)]) ∧ Ext w0 w ∧ AllCl [] F w) (enter (l := [(str s1)]) Tryd.func62 rfl Tryd.ntmps62 rfl ?_) ?_
  rotate_left
  · rintro _ w ⟨rfl, k1, k2⟩; exact ⟨rfl, k1, k2⟩
  have hI := Bun.start hF hc
  clear hc
  rw [m_ref01_value] at h
  refine c_seq ?_
  refine c_region rfl ?_
  refine s_q rfl rfl (y_assign rfl ev_const) ?_
  refine s_q rfl rfl (y_assign rfl ev_const) ?_
  refine s_nil ?_
  refine k_next (e := [(0, (str s1))]) ⟨rfl, trivial⟩ ?_
  refine c_seq ?_
  refine c_region rfl ?_
  refine s_q rfl rfl (y_assign rfl ev_const) ?_
  refine s_nil ?_
  refine k_next (e := [(0, (str s1)), (4, (Value.int .i64 0))]) ⟨rfl, rfl, trivial⟩ ?_
  refine c_join (α := Int) (fun _ => ⟨37, []⟩) (fun x => [(0, (str s1)), (4, (Value.int .i64 x))]) (fun x => fun w => ∃ C, Bun noM F w0 C w [] [] ∧ m_ref01_value_j1 s1 x = some r) ?_ ?_
  · clear h hI; rintro n1 w1 ⟨c1, hI, h⟩
    try dsimp only at hI h
    rw [m_ref01_value_j1] at h
    refine c_sub (e := [(0, (str s1)), (4, (Value.int .i64 n1))]) ⟨rfl, rfl, trivial⟩ ?_
    refine c_seq ?_
    refine c_seq ?_
    refine c_region rfl ?_
    refine s_q rfl rfl (y_move rfl (ev_tmp rfl rfl)) ?_
    refine s_q rfl rfl (y_lens rfl Tryd.underlying9 (ev_tmp rfl rfl)) ?_
    refine s_q rfl rfl (y_gtr rfl (ev_tmp rfl rfl) ev_const) ?_
    refine s_q rfl rfl (y_move rfl (ev_tmp rfl rfl)) ?_
    refine s_gval (g_true rfl rfl rfl rfl) rfl (fun hc => (y_move rfl (ev_tmp rfl rfl))) ?_
    obtain ⟨b1, hx1, h⟩ := bnd_some h
    replace hx1 := gd_some hx1
    refine s_gval (g_true rfl rfl rfl rfl) rfl (fun hc => (y_satl rfl Tryd.underlying9 (ev_gv (ev_tmp rfl rfl) hc) ev_const (hx1 hc))) ?_
    refine s_gval (g_true rfl rfl rfl rfl) rfl (fun hc => (y_eql rfl (ev_gv (ev_tmp rfl rfl) hc) ev_const)) ?_
    refine s_q rfl rfl (y_and rfl (ev_tmp rfl rfl) (ev_tmp rfl rfl)) ?_
    refine s_nil ?_
    refine k_next (e := [(4, (Value.int .i64 n1)), (33, (Value.bool ((decide (0 < (s1.length : Int))) && (decide (b1 = 45)))))]) ⟨rfl, rfl, trivial⟩ ?_
    refine c_cond (b := (decide (0 < (s1.length : Int))) && (decide (b1 = 45))) (ev_tmp rfl rfl) (fun hb => ?_) (fun hb => ?_)
    · replace h := ite_t hb h
      refine c_seq ?_
      refine c_region rfl ?_
      refine s_q rfl rfl (y_move rfl (ev_tmp rfl rfl)) ?_
      refine s_q rfl rfl (y_neg rfl (ev_tmp rfl rfl)) ?_
      refine s_q rfl rfl (y_assign rfl (ev_tmp rfl rfl)) ?_
      refine s_q rfl rfl (y_assign rfl ev_const) ?_
      refine s_nil ?_
      refine k_next (e := [(2, (Value.int .i64 (wi64 (-n1)))), (3, (Value.bool true))]) ⟨rfl, rfl, trivial⟩ ?_
      refine c_ret ?_
      obtain rfl := some_inj h
      exact q_ret (vs := [(Value.int .i64 (wi64 (-n1))), (Value.bool true)]) Tryd.results62 ⟨ev_tmp rfl rfl, ⟨ev_tmp rfl rfl, trivial⟩⟩ ⟨rfl, hI.ext0, hI.fin trivial⟩
    · replace h := ite_f hb h
      refine c_skip ?_
      refine k_next (e := [(4, (Value.int .i64 n1))]) ⟨rfl, trivial⟩ ?_
      refine c_seq ?_
      refine c_region rfl ?_
      refine s_q rfl rfl (y_move rfl (ev_tmp rfl rfl)) ?_
      refine s_q rfl rfl (y_assign rfl (ev_tmp rfl rfl)) ?_
      refine s_q rfl rfl (y_assign rfl ev_const) ?_
      refine s_nil ?_
      refine k_next (e := [(2, (Value.int .i64 n1)), (3, (Value.bool true))]) ⟨rfl, rfl, trivial⟩ ?_
      refine c_ret ?_
      obtain rfl := some_inj h
      exact q_ret (vs := [(Value.int .i64 n1), (Value.bool true)]) Tryd.results62 ⟨ev_tmp rfl rfl, ⟨ev_tmp rfl rfl, trivial⟩⟩ ⟨rfl, hI.ext0, hI.fin trivial⟩
  · skip
    refine c_seq ?_
    refine c_region rfl ?_
    refine s_q rfl rfl (y_assign rfl ev_const) ?_
    refine s_nil ?_
    refine k_next (e := [(0, (str s1)), (4, (Value.int .i64 0)), (5, (Value.int .i64 0))]) ⟨rfl, rfl, rfl, trivial⟩ ?_
    refine c_block ?_
    refine c_loop (α := Nat × Int × Int) (fun x => fun w => ∃ C, Bun noM F w0 C w [] [] ∧ m_ref01_value_l1 s1 (x.1) (x.2.1) (x.2.2) = some r) (fun x _ => x.1) (fun x => [(0, (str s1)), (4, (Value.int .i64 (x.2.1))), (5, (Value.int .i64 (x.2.2)))]) (fu, 0, 0) ⟨_, hI.arr .n trivial, h⟩ ⟨rfl, rfl, rfl, trivial⟩ ?_
    clear h hI; rintro ⟨fuel1, n2, i1⟩ w2 ⟨c2, hI, h⟩
    dsimp only at hI h
    rcases fuel1 with _ | fuel1
    · rw [m_ref01_value_l1] at h; cases h
    rw [m_ref01_value_l1] at h
    refine c_sub (e := [(0, (str s1)), (4, (Value.int .i64 n2)), (5, (Value.int .i64 i1))]) ⟨rfl, rfl, rfl, trivial⟩ ?_
    refine c_seq ?_
    refine c_seq ?_
    refine c_region rfl ?_
    refine s_q rfl rfl (y_move rfl (ev_tmp rfl rfl)) ?_
    refine s_q rfl rfl (y_move rfl (ev_tmp rfl rfl)) ?_
    refine s_q rfl rfl (y_lens rfl Tryd.underlying9 (ev_tmp rfl rfl)) ?_
    refine s_q rfl rfl (y_lss rfl (ev_tmp rfl rfl) (ev_tmp rfl rfl)) ?_
    refine s_nil ?_
    refine k_next (e := [(0, (str s1)), (4, (Value.int .i64 n2)), (5, (Value.int .i64 i1)), (9, (Value.bool (decide (i1 < (s1.length : Int)))))]) ⟨rfl, rfl, rfl, rfl, trivial⟩ ?_
    refine c_cond (b := decide (i1 < (s1.length : Int))) (ev_tmp rfl rfl) (fun hb => ?_) (fun hb => ?_)
    · replace h := ite_t hb h
      refine c_skip ?_
      refine k_next (e := [(0, (str s1)), (4, (Value.int .i64 n2)), (5, (Value.int .i64 i1))]) ⟨rfl, rfl, rfl, trivial⟩ ?_
      refine c_join (α := Int) (fun _ => ⟨37, []⟩) (fun x => [(0, (str s1)), (4, (Value.int .i64 x)), (5, (Value.int .i64 i1))]) (fun x => fun w => ∃ C, Bun noM F w0 C w [] [] ∧ m_ref01_value_j2 (m_ref01_value_l1 s1 fuel1) i1 x = some r) ?_ ?_
      · clear h hI; rintro n3 w3 ⟨c3, hI, h⟩
        try dsimp only at hI h
        rw [m_ref01_value_j2] at h
        refine c_sub (e := [(0, (str s1)), (4, (Value.int .i64 n3)), (5, (Value.int .i64 i1))]) ⟨rfl, rfl, rfl, trivial⟩ ?_
        refine c_region rfl ?_
        refine s_q rfl rfl (y_move rfl (ev_tmp rfl rfl)) ?_
        refine s_q rfl rfl (y_add rfl (ev_tmp rfl rfl) ev_const) ?_
        refine s_q rfl rfl (y_assign rfl (ev_tmp rfl rfl)) ?_
        refine s_nil ?_
        exact k_loop (fuel1, n3, wi64 (i1 + 1)) ⟨rfl, rfl, rfl, trivial⟩ ⟨_, hI.arr .n trivial, h⟩ (Nat.lt_succ_self _)
      · skip
        refine c_block ?_
        refine c_seq ?_
        refine c_seq ?_
        refine c_region rfl ?_
        refine s_q rfl rfl (y_move rfl (ev_tmp rfl rfl)) ?_
        refine s_q rfl rfl (y_move rfl (ev_tmp rfl rfl)) ?_
        obtain ⟨b2, hx2, h⟩ := bnd_some h
        refine s_q rfl rfl (y_satl rfl Tryd.underlying9 (ev_tmp rfl rfl) (ev_tmp rfl rfl) hx2) ?_
        refine s_q rfl rfl (y_eql rfl (ev_tmp rfl rfl) ev_const) ?_
        refine s_nil ?_
        refine k_next (e := [(0, (str s1)), (4, (Value.int .i64 n2)), (5, (Value.int .i64 i1)), (15, (Value.bool (decide (b2 = 45))))]) ⟨rfl, rfl, rfl, rfl, trivial⟩ ?_
        refine c_cond (b := decide (b2 = 45)) (ev_tmp rfl rfl) (fun hb => ?_) (fun hb => ?_)
        · replace h := ite_t hb h
          refine c_exit ?_
          refine k_in ?_
          exact k_join n2 ⟨rfl, rfl, rfl, trivial⟩ ⟨_, hI.arr .n trivial, h⟩ rfl
        · replace h := ite_f hb h
          refine c_skip ?_
          refine k_next (e := [(0, (str s1)), (4, (Value.int .i64 n2)), (5, (Value.int .i64 i1))]) ⟨rfl, rfl, rfl, trivial⟩ ?_
          refine c_seq ?_
          refine c_region rfl ?_
          refine s_q rfl rfl (y_move rfl (ev_tmp rfl rfl)) ?_
          refine s_q rfl rfl (y_mul rfl (ev_tmp rfl rfl) ev_const) ?_
          refine s_q rfl rfl (y_move rfl (ev_tmp rfl rfl)) ?_
          refine s_q rfl rfl (y_move rfl (ev_tmp rfl rfl)) ?_
          obtain ⟨b3, hx3, h⟩ := bnd_some h
          refine s_q rfl rfl (y_satl rfl Tryd.underlying9 (ev_tmp rfl rfl) (ev_tmp rfl rfl) hx3) ?_
          refine s_q rfl rfl (y_sub rfl (ev_tmp rfl rfl) ev_const) ?_
          refine s_q rfl rfl (y_conv rfl (by rw [Tryd.underlying5]; rfl) Tryd.underlying2 (ev_tmp rfl rfl)) ?_
          refine s_q rfl rfl (y_add rfl (ev_tmp rfl rfl) (ev_tmp rfl rfl)) ?_
          obtain ⟨n4, hx4, h⟩ := bnd_some h
          refine s_q rfl rfl (binU (y_assign rfl (ev_tmp rfl rfl)) (congrArg (Value.int .i64) (some_inj hx4))) ?_
          refine s_nil ?_
          refine k_next (e := [(0, (str s1)), (4, (Value.int .i64 n4)), (5, (Value.int .i64 i1))]) ⟨rfl, rfl, rfl, trivial⟩ ?_
          refine c_seq ?_
          refine c_region rfl ?_
          refine s_q rfl rfl (y_move rfl (ev_tmp rfl rfl)) ?_
          refine s_q rfl rfl (y_gtr rfl (ev_tmp rfl rfl) ev_const) ?_
          refine s_nil ?_
          refine k_next (e := [(0, (str s1)), (4, (Value.int .i64 n4)), (5, (Value.int .i64 i1)), (25, (Value.bool (decide (2147483647 < n4))))]) ⟨rfl, rfl, rfl, rfl, trivial⟩ ?_
          refine c_cond (b := decide (2147483647 < n4)) (ev_tmp rfl rfl) (fun hb => ?_) (fun hb => ?_)
          · replace h := ite_t hb h
            refine c_seq ?_
            refine c_region rfl ?_
            refine s_q rfl rfl (y_assign rfl ev_const) ?_
            refine s_q rfl rfl (y_assign rfl ev_const) ?_
            refine s_nil ?_
            refine k_next (e := [(2, (Value.int .i64 0)), (3, (Value.bool false))]) ⟨rfl, rfl, trivial⟩ ?_
            refine c_ret ?_
            obtain rfl := some_inj h
            exact q_ret (vs := [(Value.int .i64 0), (Value.bool false)]) Tryd.results62 ⟨ev_tmp rfl rfl, ⟨ev_tmp rfl rfl, trivial⟩⟩ ⟨rfl, hI.ext0, hI.fin trivial⟩
          · replace h := ite_f hb h
            refine c_skip ?_
            exact k_join n4 ⟨rfl, rfl, rfl, trivial⟩ ⟨_, hI.arr .n trivial, h⟩ rfl
    · replace h := ite_f hb h
      refine c_exit ?_
      refine k_in ?_
      exact k_join n2 ⟨rfl, rfl, trivial⟩ ⟨_, hI.arr .n trivial, h⟩ rfl

set_option maxRecDepth 100000 in
set_option maxHeartbeats 4000000 in
theorem c_ref01_Parse (F : NP) (w0 : World) (hF : ∀ k, F k → k < w0.heap.size) (s1 : List UInt8) (hc : AllCl [] F w0) (r : GVal × Int)
    (h : m_ref01_Parse s1 = some r) :
    Calls Tryd.prog 23 #[(str s1)] w0 fun e w => e = .returned (Value.tuple #[(Value.agg #[(Value.int .i64 r.1.N), (Value.int .i64 r.1.D)]), (Value.int .i64 r.2)]) ∧ Ext w0 w ∧ AllCl [] F w := by
  refine ofEnter (R := fun v w => v = (Value.tuple #[(Value.agg #[(Value.int .i64 r.1.N), (Value.int .i64 r.1.D)]), (Value.int .i64 r.2)]) ∧ Ext w0 w ∧ AllCl [] F w) (enter (l := [(str s1)]) Tryd.func23 rfl Tryd.ntmps23 rfl ?_) ?_
  rotate_left
  · rintro _ w ⟨rfl, k1, k2⟩; exact ⟨rfl, k1, k2⟩
  have hI := Bun.start hF hc
  clear hc
  rw [m_ref01_Parse] at h
  refine c_seq ?_
  refine c_region rfl ?_
  refine l_alloc (cs := #[(Value.int .i64 0), (Value.int .i64 0)]) hI rfl rfl rfl zero_23 rfl ?_
  clear hI; intro b1 c1 w1 hI
  refine s_q rfl rfl (y_assign rfl ev_const) ?_
  refine s_nil ?_
  refine k_next (e := [(0, (str s1)), (2, (Value.pointer (some ⟨b1, 0, none⟩)))]) ⟨rfl, rfl, trivial⟩ ?_
  refine c_seq ?_
  refine c_region rfl ?_
  refine s_q rfl rfl (y_move rfl (ev_tmp rfl rfl)) ?_
  refine s_q rfl rfl (y_assign rfl (ev_tmp rfl rfl)) ?_
  refine s_q rfl rfl (y_assign rfl ev_const) ?_
  refine s_nil ?_
  refine k_next (e := [(0, (str s1)), (2, (Value.pointer (some ⟨b1, 0, none⟩))), (4, (str s1)), (5, (str ([] : List UInt8)))]) ⟨rfl, rfl, rfl, rfl, trivial⟩ ?_
  refine c_join (α := (List UInt8) × (List UInt8)) (fun _ => ⟨83, []⟩) (fun x => [(2, (Value.pointer (some ⟨b1, 0, none⟩))), (4, (str (x.1))), (5, (str (x.2)))]) (fun x => fun w => ∃ C, Bun noM F w0 C w [MO.box b1 23 #[(Value.int .i64 0), (Value.int .i64 0)]] [] ∧ m_ref01_Parse_j1 (x.1) (x.2) = some r) ?_ ?_
  · clear h hI; rintro ⟨up1, down1⟩ w2 ⟨c2, hI, h⟩
    try dsimp only at hI h
    rw [m_ref01_Parse_j1] at h
    refine c_sub (e := [(2, (Value.pointer (some ⟨b1, 0, none⟩))), (4, (str up1)), (5, (str down1))]) ⟨rfl, rfl, rfl, trivial⟩ ?_
    refine c_seq ?_
    refine c_seq ?_
    refine c_region rfl ?_
    refine s_q rfl rfl (y_move rfl (ev_tmp rfl rfl)) ?_
    obtain ⟨r1, hx1, h⟩ := bnd_some h
    refine s_call rfl rfl (r_callF (vs := [(str up1)]) rfl ok_61 ⟨(ev_tmp rfl rfl), trivial⟩) (Calls.mono (c_ref01_Whole (Dj F c2) w2 hI.lt up1 trivial r1 hx1) ?_)
    rintro _ w3 ⟨rfl, hx2, hl1⟩
    refine ⟨_, rfl, ?_⟩
    replace hI := (hI.ext hx2)
    refine s_q rfl rfl (y_not rfl (ev_tmp rfl rfl)) ?_
    refine s_nil ?_
    refine k_next (e := [(2, (Value.pointer (some ⟨b1, 0, none⟩))), (4, (str up1)), (5, (str down1)), (52, (Value.bool (!r1)))]) ⟨rfl, rfl, rfl, rfl, trivial⟩ ?_
    refine c_cond (b := !r1) (ev_tmp rfl rfl) (fun hb => ?_) (fun hb => ?_)
    · replace h := ite_t hb h
      refine c_seq ?_
      refine c_region rfl ?_
      refine s_q rfl rfl (y_build (vs := []) (cs := #[(Value.int .i64 0), (Value.int .i64 0)]) rfl trivial (by kernel_rfl)) ?_
      refine l_store (new := [(Value.int .i64 0), (Value.int .i64 0)]) (cs' := #[(Value.int .i64 0), (Value.int .i64 0)]) hI .z rfl rfl rfl (ev_tmp rfl rfl) (ev_tmp rfl rfl) rfl size_23 rfl rfl rfl ?_
      clear hI; intro c3 w4 hI
      refine s_q rfl rfl (y_assign rfl ev_const) ?_
      refine s_nil ?_
      refine k_next (e := [(2, (Value.pointer (some ⟨b1, 0, none⟩))), (3, (Value.int .i64 5))]) ⟨rfl, rfl, trivial⟩ ?_
      refine c_ret ?_
      obtain rfl := some_inj h
      exact q_ret (vs := [(Value.agg #[(Value.int .i64 0), (Value.int .i64 0)]), (Value.int .i64 5)]) Tryd.results23 ⟨⟨_, ev_tmp rfl rfl, load_agg (l := [(Value.int .i64 0), (Value.int .i64 0)]) Tryd.underlying23 rfl size_23 (CellsAt.of_blk (hI.blk .z) rfl)⟩, ⟨ev_tmp rfl rfl, trivial⟩⟩ ⟨rfl, hI.ext0, hI.fin trivial⟩
    · replace h := ite_f hb h
      refine c_skip ?_
      refine k_next (e := [(2, (Value.pointer (some ⟨b1, 0, none⟩))), (4, (str up1)), (5, (str down1))]) ⟨rfl, rfl, rfl, trivial⟩ ?_
      refine c_join (α := (List UInt8)) (fun _ => ⟨83, []⟩) (fun x => [(2, (Value.pointer (some ⟨b1, 0, none⟩))), (4, (str up1)), (5, (str x))]) (fun x => fun w => ∃ C, Bun noM F w0 C w [MO.box b1 23 #[(Value.int .i64 0), (Value.int .i64 0)]] [] ∧ m_ref01_Parse_j2 up1 x = some r) ?_ ?_
      · clear h hI; rintro down2 w5 ⟨c4, hI, h⟩
        try dsimp only at hI h
        rw [m_ref01_Parse_j2] at h
        refine c_sub (e := [(2, (Value.pointer (some ⟨b1, 0, none⟩))), (4, (str up1)), (5, (str down2))]) ⟨rfl, rfl, rfl, trivial⟩ ?_
        refine c_seq ?_
        refine c_region rfl ?_
        refine s_q rfl rfl (y_move rfl (ev_tmp rfl rfl)) ?_
        obtain ⟨r2, hx3, h⟩ := bnd_some h
        refine s_call rfl rfl (r_callF (vs := [(str up1)]) rfl ok_62 ⟨(ev_tmp rfl rfl), trivial⟩) (Calls.mono (c_ref01_value (Dj F c4) w5 hI.lt up1 trivial r2 hx3) ?_)
        rintro _ w6 ⟨rfl, hx4, hl2⟩
        refine ⟨_, rfl, ?_⟩
        replace hI := (hI.ext hx4)
        refine s_q rfl rfl (y_move rfl (ev_tmp rfl rfl)) ?_
        refine s_q rfl rfl (y_extract rfl (ev_tmp rfl rfl) rfl) ?_
        refine s_q rfl rfl (y_extract rfl (ev_tmp rfl rfl) rfl) ?_
        refine s_q rfl rfl (y_assign rfl (ev_tmp rfl rfl)) ?_
        refine s_q rfl rfl (y_assign rfl (ev_tmp rfl rfl)) ?_
        refine s_nil ?_
        refine k_next (e := [(2, (Value.pointer (some ⟨b1, 0, none⟩))), (5, (str down2)), (7, (Value.int .i64 r2.1)), (8, (Value.bool r2.2))]) ⟨rfl, rfl, rfl, rfl, trivial⟩ ?_
        refine c_seq ?_
        refine c_region rfl ?_
        refine s_q rfl rfl (y_move rfl (ev_tmp rfl rfl)) ?_
        obtain ⟨r3, hx5, h⟩ := bnd_some h
        refine s_call rfl rfl (r_callF (vs := [(str down2)]) rfl ok_62 ⟨(ev_tmp rfl rfl), trivial⟩) (Calls.mono (c_ref01_value (Dj F c4) w6 hI.lt down2 trivial r3 hx5) ?_)
        rintro _ w7 ⟨rfl, hx6, hl3⟩
        refine ⟨_, rfl, ?_⟩
        replace hI := (hI.ext hx6)
        refine s_q rfl rfl (y_move rfl (ev_tmp rfl rfl)) ?_
        refine s_q rfl rfl (y_extract rfl (ev_tmp rfl rfl) rfl) ?_
        refine s_q rfl rfl (y_extract rfl (ev_tmp rfl rfl) rfl) ?_
        refine s_q rfl rfl (y_assign rfl (ev_tmp rfl rfl)) ?_
        refine s_q rfl rfl (y_assign rfl (ev_tmp rfl rfl)) ?_
        refine s_nil ?_
        refine k_next (e := [(2, (Value.pointer (some ⟨b1, 0, none⟩))), (7, (Value.int .i64 r2.1)), (8, (Value.bool r2.2)), (9, (Value.int .i64 r3.1)), (10, (Value.bool r3.2))]) ⟨rfl, rfl, rfl, rfl, rfl, trivial⟩ ?_
        refine c_seq ?_
        refine c_seq ?_
        refine c_region rfl ?_
        refine s_q rfl rfl (y_move rfl (ev_tmp rfl rfl)) ?_
        refine s_q rfl rfl (y_not rfl (ev_tmp rfl rfl)) ?_
        refine s_q rfl rfl (y_move rfl (ev_tmp rfl rfl)) ?_
        refine s_gval (g_false rfl rfl rfl rfl) rfl (fun hc => (y_move rfl (ev_tmp rfl rfl))) ?_
        refine s_gval (g_false rfl rfl rfl rfl) rfl (fun hc => (y_not rfl (ev_gv (ev_tmp rfl rfl) hc))) ?_
        refine s_q rfl rfl (y_or rfl (ev_tmp rfl rfl) (ev_tmp rfl rfl)) ?_
        refine s_nil ?_
        refine k_next (e := [(2, (Value.pointer (some ⟨b1, 0, none⟩))), (7, (Value.int .i64 r2.1)), (9, (Value.int .i64 r3.1)), (71, (Value.bool ((!r2.2) || (!r3.2))))]) ⟨rfl, rfl, rfl, rfl, trivial⟩ ?_
        refine c_cond (b := (!r2.2) || (!r3.2)) (ev_tmp rfl rfl) (fun hb => ?_) (fun hb => ?_)
        · replace h := ite_t hb h
          refine c_seq ?_
          refine c_region rfl ?_
          refine s_q rfl rfl (y_build (vs := []) (cs := #[(Value.int .i64 0), (Value.int .i64 0)]) rfl trivial (by kernel_rfl)) ?_
          refine l_store (new := [(Value.int .i64 0), (Value.int .i64 0)]) (cs' := #[(Value.int .i64 0), (Value.int .i64 0)]) hI .z rfl rfl rfl (ev_tmp rfl rfl) (ev_tmp rfl rfl) rfl size_23 rfl rfl rfl ?_
          clear hI; intro c5 w8 hI
          refine s_q rfl rfl (y_assign rfl ev_const) ?_
          refine s_nil ?_
          refine k_next (e := [(2, (Value.pointer (some ⟨b1, 0, none⟩))), (3, (Value.int .i64 3))]) ⟨rfl, rfl, trivial⟩ ?_
          refine c_ret ?_
          obtain rfl := some_inj h
          exact q_ret (vs := [(Value.agg #[(Value.int .i64 0), (Value.int .i64 0)]), (Value.int .i64 3)]) Tryd.results23 ⟨⟨_, ev_tmp rfl rfl, load_agg (l := [(Value.int .i64 0), (Value.int .i64 0)]) Tryd.underlying23 rfl size_23 (CellsAt.of_blk (hI.blk .z) rfl)⟩, ⟨ev_tmp rfl rfl, trivial⟩⟩ ⟨rfl, hI.ext0, hI.fin trivial⟩
        · replace h := ite_f hb h
          refine c_skip ?_
          refine k_next (e := [(2, (Value.pointer (some ⟨b1, 0, none⟩))), (7, (Value.int .i64 r2.1)), (9, (Value.int .i64 r3.1))]) ⟨rfl, rfl, rfl, trivial⟩ ?_
          refine c_seq ?_
          refine c_seq ?_
          refine c_region rfl ?_
          refine s_q rfl rfl (y_move rfl (ev_tmp rfl rfl)) ?_
          obtain ⟨r4, hx7, h⟩ := bnd_some h
          refine s_call rfl rfl (r_callF (vs := [(Value.int .i64 r2.1)]) rfl ok_42 ⟨(ev_tmp rfl rfl), trivial⟩) (Calls.mono (c_ref01_size (Dj F c4) w7 hI.lt r2.1 trivial r4 hx7) ?_)
          rintro _ w9 ⟨rfl, hx8, hl4⟩
          refine ⟨_, rfl, ?_⟩
          replace hI := (hI.ext hx8)
          refine s_q rfl rfl (y_move rfl (ev_tmp rfl rfl)) ?_
          obtain ⟨r5, hx9, h⟩ := bnd_some h
          refine s_call rfl rfl (r_callF (vs := [(Value.int .i64 r3.1)]) rfl ok_42 ⟨(ev_tmp rfl rfl), trivial⟩) (Calls.mono (c_ref01_size (Dj F c4) w9 hI.lt r3.1 trivial r5 hx9) ?_)
          rintro _ w10 ⟨rfl, hx10, hl5⟩
          refine ⟨_, rfl, ?_⟩
          replace hI := (hI.ext hx10)
          obtain ⟨r6, hx11, h⟩ := bnd_some h
          refine s_call rfl rfl (r_callF (vs := [(Value.int .u64 r4), (Value.int .u64 r5)]) rfl ok_63 ⟨(ev_tmp rfl rfl), ⟨(ev_tmp rfl rfl), trivial⟩⟩) (Calls.mono (c_ref01_gcd (Dj F c4) w10 hI.lt r4 r5 trivial r6 hx11) ?_)
          rintro _ w11 ⟨rfl, hx12, hl6⟩
          refine ⟨_, rfl, ?_⟩
          replace hI := (hI.ext hx12)
          refine s_q rfl rfl (y_neq rfl (ev_tmp rfl rfl) ev_const) ?_
          refine s_nil ?_
          refine k_next (e := [(2, (Value.pointer (some ⟨b1, 0, none⟩))), (7, (Value.int .i64 r2.1)), (9, (Value.int .i64 r3.1)), (78, (Value.bool (!decide (r6 = 1))))]) ⟨rfl, rfl, rfl, rfl, trivial⟩ ?_
          refine c_cond (b := !decide (r6 = 1)) (ev_tmp rfl rfl) (fun hb => ?_) (fun hb => ?_)
          · replace h := ite_t hb h
            refine c_seq ?_
            refine c_region rfl ?_
            refine s_q rfl rfl (y_build (vs := []) (cs := #[(Value.int .i64 0), (Value.int .i64 0)]) rfl trivial (by kernel_rfl)) ?_
            refine l_store (new := [(Value.int .i64 0), (Value.int .i64 0)]) (cs' := #[(Value.int .i64 0), (Value.int .i64 0)]) hI .z rfl rfl rfl (ev_tmp rfl rfl) (ev_tmp rfl rfl) rfl size_23 rfl rfl rfl ?_
            clear hI; intro c6 w12 hI
            refine s_q rfl rfl (y_assign rfl ev_const) ?_
            refine s_nil ?_
            refine k_next (e := [(2, (Value.pointer (some ⟨b1, 0, none⟩))), (3, (Value.int .i64 5))]) ⟨rfl, rfl, trivial⟩ ?_
            refine c_ret ?_
            obtain rfl := some_inj h
            exact q_ret (vs := [(Value.agg #[(Value.int .i64 0), (Value.int .i64 0)]), (Value.int .i64 5)]) Tryd.results23 ⟨⟨_, ev_tmp rfl rfl, load_agg (l := [(Value.int .i64 0), (Value.int .i64 0)]) Tryd.underlying23 rfl size_23 (CellsAt.of_blk (hI.blk .z) rfl)⟩, ⟨ev_tmp rfl rfl, trivial⟩⟩ ⟨rfl, hI.ext0, hI.fin trivial⟩
          · replace h := ite_f hb h
            refine c_skip ?_
            refine k_next (e := [(2, (Value.pointer (some ⟨b1, 0, none⟩))), (7, (Value.int .i64 r2.1)), (9, (Value.int .i64 r3.1))]) ⟨rfl, rfl, rfl, trivial⟩ ?_
            refine c_seq ?_
            refine c_region rfl ?_
            refine s_q rfl rfl (y_move rfl (ev_tmp rfl rfl)) ?_
            refine s_q rfl rfl (y_move rfl (ev_tmp rfl rfl)) ?_
            refine s_q rfl rfl (y_build (vs := [(0, (Value.int .i64 r2.1)), (1, (Value.int .i64 r3.1))]) (cs := #[(Value.int .i64 r2.1), (Value.int .i64 r3.1)]) rfl ⟨rfl, (ev_tmp rfl rfl), ⟨rfl, (ev_tmp rfl rfl), trivial⟩⟩ (by kernel_rfl)) ?_
            refine l_store (new := [(Value.int .i64 r2.1), (Value.int .i64 r3.1)]) (cs' := #[(Value.int .i64 r2.1), (Value.int .i64 r3.1)]) hI .z rfl rfl rfl (ev_tmp rfl rfl) (ev_tmp rfl rfl) rfl size_23 rfl rfl rfl ?_
            clear hI; intro c7 w13 hI
            refine s_q rfl rfl (y_assign rfl ev_const) ?_
            refine s_nil ?_
            refine k_next (e := [(2, (Value.pointer (some ⟨b1, 0, none⟩))), (3, (Value.int .i64 0))]) ⟨rfl, rfl, trivial⟩ ?_
            refine c_ret ?_
            obtain rfl := some_inj h
            exact q_ret (vs := [(Value.agg #[(Value.int .i64 r2.1), (Value.int .i64 r3.1)]), (Value.int .i64 0)]) Tryd.results23 ⟨⟨_, ev_tmp rfl rfl, load_agg (l := [(Value.int .i64 r2.1), (Value.int .i64 r3.1)]) Tryd.underlying23 rfl size_23 (CellsAt.of_blk (hI.blk .z) rfl)⟩, ⟨ev_tmp rfl rfl, trivial⟩⟩ ⟨rfl, hI.ext0, hI.fin trivial⟩
      · skip
        refine c_seq ?_
        refine c_region rfl ?_
        refine s_q rfl rfl (y_move rfl (ev_tmp rfl rfl)) ?_
        refine s_q rfl rfl (y_eqs rfl (ev_tmp rfl rfl) ev_const) ?_
        refine s_nil ?_
        refine k_next (e := [(2, (Value.pointer (some ⟨b1, 0, none⟩))), (4, (str up1)), (5, (str down1)), (55, (Value.bool (decide (down1 = ([] : List UInt8)))))]) ⟨rfl, rfl, rfl, rfl, trivial⟩ ?_
        refine c_cond (b := decide (down1 = ([] : List UInt8))) (ev_tmp rfl rfl) (fun hb => ?_) (fun hb => ?_)
        · replace h := ite_t hb h
          refine c_region rfl ?_
          refine s_q rfl rfl (y_assign rfl ev_const) ?_
          refine s_nil ?_
          exact k_join ([49] : List UInt8) ⟨rfl, rfl, rfl, trivial⟩ ⟨_, hI.arr (.c .z .n) trivial, h⟩ rfl
        · replace h := ite_f hb h
          refine c_skip ?_
          exact k_join down1 ⟨rfl, rfl, rfl, trivial⟩ ⟨_, hI.arr (.c .z .n) trivial, h⟩ rfl
  · skip
    refine c_seq ?_
    refine c_region rfl ?_
    refine s_q rfl rfl (y_assign rfl ev_const) ?_
    refine s_nil ?_
    refine k_next (e := [(0, (str s1)), (2, (Value.pointer (some ⟨b1, 0, none⟩))), (4, (str s1)), (5, (str ([] : List UInt8))), (6, (Value.int .i64 0))]) ⟨rfl, rfl, rfl, rfl, rfl, trivial⟩ ?_
    refine c_block ?_
    refine c_loop (α := Nat × (List UInt8) × (List UInt8) × Int) (fun x => fun w => ∃ C, Bun noM F w0 C w [MO.box b1 23 #[(Value.int .i64 0), (Value.int .i64 0)]] [] ∧ m_ref01_Parse_l1 s1 (x.1) (x.2.1) (x.2.2.1) (x.2.2.2) = some r) (fun x _ => x.1) (fun x => [(0, (str s1)), (2, (Value.pointer (some ⟨b1, 0, none⟩))), (4, (str (x.2.1))), (5, (str (x.2.2.1))), (6, (Value.int .i64 (x.2.2.2)))]) (fu, s1, ([] : List UInt8), 0) ⟨_, hI.arr (.c .z .n) trivial, h⟩ ⟨rfl, rfl, rfl, rfl, rfl, trivial⟩ ?_
    clear h hI; rintro ⟨fuel1, up2, down3, i1⟩ w14 ⟨c8, hI, h⟩
    dsimp only at hI h
    rcases fuel1 with _ | fuel1
    · rw [m_ref01_Parse_l1] at h; cases h
    rw [m_ref01_Parse_l1] at h
    refine c_sub (e := [(0, (str s1)), (2, (Value.pointer (some ⟨b1, 0, none⟩))), (4, (str up2)), (5, (str down3)), (6, (Value.int .i64 i1))]) ⟨rfl, rfl, rfl, rfl, rfl, trivial⟩ ?_
    refine c_seq ?_
    refine c_seq ?_
    refine c_region rfl ?_
    refine s_q rfl rfl (y_move rfl (ev_tmp rfl rfl)) ?_
    refine s_q rfl rfl (y_move rfl (ev_tmp rfl rfl)) ?_
    refine s_q rfl rfl (y_lens rfl Tryd.underlying9 (ev_tmp rfl rfl)) ?_
    refine s_q rfl rfl (y_lss rfl (ev_tmp rfl rfl) (ev_tmp rfl rfl)) ?_
    refine s_q rfl rfl (y_move rfl (ev_tmp rfl rfl)) ?_
    refine s_gval (g_true rfl rfl rfl rfl) rfl (fun hc => (y_move rfl (ev_tmp rfl rfl))) ?_
    refine s_gval (g_true rfl rfl rfl rfl) rfl (fun hc => (y_eqs rfl (ev_gv (ev_tmp rfl rfl) hc) ev_const)) ?_
    refine s_q rfl rfl (y_and rfl (ev_tmp rfl rfl) (ev_tmp rfl rfl)) ?_
    refine s_nil ?_
    refine k_next (e := [(0, (str s1)), (2, (Value.pointer (some ⟨b1, 0, none⟩))), (4, (str up2)), (5, (str down3)), (6, (Value.int .i64 i1)), (19, (Value.bool ((decide (i1 < (s1.length : Int))) && (decide (down3 = ([] : List UInt8))))))]) ⟨rfl, rfl, rfl, rfl, rfl, rfl, trivial⟩ ?_
    refine c_cond (b := (decide (i1 < (s1.length : Int))) && (decide (down3 = ([] : List UInt8)))) (ev_tmp rfl rfl) (fun hb => ?_) (fun hb => ?_)
    · replace h := ite_t hb h
      refine c_skip ?_
      refine k_next (e := [(0, (str s1)), (2, (Value.pointer (some ⟨b1, 0, none⟩))), (4, (str up2)), (5, (str down3)), (6, (Value.int .i64 i1))]) ⟨rfl, rfl, rfl, rfl, rfl, trivial⟩ ?_
      refine c_join (α := (List UInt8) × (List UInt8)) (fun _ => ⟨83, []⟩) (fun x => [(0, (str s1)), (2, (Value.pointer (some ⟨b1, 0, none⟩))), (4, (str (x.1))), (5, (str (x.2))), (6, (Value.int .i64 i1))]) (fun x => fun w => ∃ C, Bun noM F w0 C w [MO.box b1 23 #[(Value.int .i64 0), (Value.int .i64 0)]] [] ∧ m_ref01_Parse_j3 (m_ref01_Parse_l1 s1 fuel1) i1 (x.1) (x.2) = some r) ?_ ?_
      · clear h hI; rintro ⟨up3, down4⟩ w15 ⟨c9, hI, h⟩
        try dsimp only at hI h
        rw [m_ref01_Parse_j3] at h
        refine c_sub (e := [(0, (str s1)), (2, (Value.pointer (some ⟨b1, 0, none⟩))), (4, (str up3)), (5, (str down4)), (6, (Value.int .i64 i1))]) ⟨rfl, rfl, rfl, rfl, rfl, trivial⟩ ?_
        refine c_region rfl ?_
        refine s_q rfl rfl (y_move rfl (ev_tmp rfl rfl)) ?_
        refine s_q rfl rfl (y_add rfl (ev_tmp rfl rfl) ev_const) ?_
        refine s_q rfl rfl (y_assign rfl (ev_tmp rfl rfl)) ?_
        refine s_nil ?_
        exact k_loop (fuel1, up3, down4, wi64 (i1 + 1)) ⟨rfl, rfl, rfl, rfl, rfl, trivial⟩ ⟨_, hI.arr (.c .z .n) trivial, h⟩ (Nat.lt_succ_self _)
      · skip
        refine c_block ?_
        refine c_seq ?_
        refine c_region rfl ?_
        refine s_q rfl rfl (y_move rfl (ev_tmp rfl rfl)) ?_
        refine s_q rfl rfl (y_move rfl (ev_tmp rfl rfl)) ?_
        obtain ⟨b2, hx13, h⟩ := bnd_some h
        refine s_q rfl rfl (y_satl rfl Tryd.underlying9 (ev_tmp rfl rfl) (ev_tmp rfl rfl) hx13) ?_
        refine s_q rfl rfl (y_eql rfl (ev_tmp rfl rfl) ev_const) ?_
        refine s_nil ?_
        refine k_next (e := [(0, (str s1)), (2, (Value.pointer (some ⟨b1, 0, none⟩))), (4, (str up2)), (5, (str down3)), (6, (Value.int .i64 i1)), (25, (Value.bool (decide (b2 = 47))))]) ⟨rfl, rfl, rfl, rfl, rfl, rfl, trivial⟩ ?_
        refine c_cond (b := decide (b2 = 47)) (ev_tmp rfl rfl) (fun hb => ?_) (fun hb => ?_)
        · replace h := ite_t hb h
          refine c_seq ?_
          refine c_region rfl ?_
          refine s_q rfl rfl (y_move rfl (ev_tmp rfl rfl)) ?_
          refine s_q rfl rfl (y_move rfl (ev_tmp rfl rfl)) ?_
          obtain ⟨s2, hx14, h⟩ := bnd_some h
          refine s_q rfl rfl (y_supto rfl Tryd.underlying9 (ev_tmp rfl rfl) (ev_tmp rfl rfl) hx14) ?_
          refine s_q rfl rfl (y_assign rfl (ev_tmp rfl rfl)) ?_
          refine s_nil ?_
          refine k_next (e := [(0, (str s1)), (2, (Value.pointer (some ⟨b1, 0, none⟩))), (4, (str s2)), (6, (Value.int .i64 i1))]) ⟨rfl, rfl, rfl, rfl, trivial⟩ ?_
          refine c_seq ?_
          refine c_region rfl ?_
          refine s_q rfl rfl (y_move rfl (ev_tmp rfl rfl)) ?_
          refine s_q rfl rfl (y_move rfl (ev_tmp rfl rfl)) ?_
          refine s_q rfl rfl (y_add rfl (ev_tmp rfl rfl) ev_const) ?_
          obtain ⟨s3, hx15, h⟩ := bnd_some h
          refine s_q rfl rfl (y_sfrom rfl Tryd.underlying9 (ev_tmp rfl rfl) (ev_tmp rfl rfl) hx15) ?_
          refine s_q rfl rfl (y_assign rfl (ev_tmp rfl rfl)) ?_
          refine s_nil ?_
          refine k_next (e := [(0, (str s1)), (2, (Value.pointer (some ⟨b1, 0, none⟩))), (4, (str s2)), (6, (Value.int .i64 i1)), (5, (str s3))]) ⟨rfl, rfl, rfl, rfl, rfl, trivial⟩ ?_
          refine c_seq ?_
          refine c_region rfl ?_
          refine s_q rfl rfl (y_move rfl (ev_tmp rfl rfl)) ?_
          obtain ⟨r7, hx16, h⟩ := bnd_some h
          refine s_call rfl rfl (r_callF (vs := [(str s3)]) rfl ok_61 ⟨(ev_tmp rfl rfl), trivial⟩) (Calls.mono (c_ref01_Whole (Dj F c8) w14 hI.lt s3 trivial r7 hx16) ?_)
          rintro _ w16 ⟨rfl, hx17, hl7⟩
          refine ⟨_, rfl, ?_⟩
          replace hI := (hI.ext hx17)
          refine s_q rfl rfl (y_not rfl (ev_tmp rfl rfl)) ?_
          refine s_q rfl rfl (y_move rfl (ev_tmp rfl rfl)) ?_
          refine s_gval (g_false rfl rfl rfl rfl) rfl (fun hc => (y_move rfl (ev_tmp rfl rfl))) ?_
          obtain ⟨b3, hx18, h⟩ := bnd_some h
          replace hx18 := gd_some hx18
          refine s_gval (g_false rfl rfl rfl rfl) rfl (fun hc => (y_satl rfl Tryd.underlying9 (ev_gv (ev_tmp rfl rfl) hc) ev_const (hx18 hc))) ?_
          refine s_gval (g_false rfl rfl rfl rfl) rfl (fun hc => (y_eql rfl (ev_gv (ev_tmp rfl rfl) hc) ev_const)) ?_
          refine s_q rfl rfl (y_or rfl (ev_tmp rfl rfl) (ev_tmp rfl rfl)) ?_
          refine s_q rfl rfl (y_move rfl (ev_tmp rfl rfl)) ?_
          refine s_gval (g_false rfl rfl rfl rfl) rfl (fun hc => (y_move rfl (ev_tmp rfl rfl))) ?_
          refine s_gval (g_false rfl rfl rfl rfl) rfl (fun hc => (y_eqs rfl (ev_gv (ev_tmp rfl rfl) hc) ev_const)) ?_
          refine s_q rfl rfl (y_or rfl (ev_tmp rfl rfl) (ev_tmp rfl rfl)) ?_
          refine s_q rfl rfl (y_move rfl (ev_tmp rfl rfl)) ?_
          refine s_gval (g_false rfl rfl rfl rfl) rfl (fun hc => (y_move rfl (ev_tmp rfl rfl))) ?_
          refine s_gval (g_false rfl rfl rfl rfl) rfl (fun hc => (y_eqs rfl (ev_gv (ev_tmp rfl rfl) hc) ev_const)) ?_
          refine s_q rfl rfl (y_or rfl (ev_tmp rfl rfl) (ev_tmp rfl rfl)) ?_
          refine s_nil ?_
          refine k_next (e := [(0, (str s1)), (2, (Value.pointer (some ⟨b1, 0, none⟩))), (4, (str s2)), (6, (Value.int .i64 i1)), (5, (str s3)), (48, (Value.bool ((((!r7) || (decide (b3 = 45))) || (decide (s3 = ([48] : List UInt8)))) || (decide (s3 = ([49] : List UInt8))))))]) ⟨rfl, rfl, rfl, rfl, rfl, rfl, trivial⟩ ?_
          refine c_cond (b := (((!r7) || (decide (b3 = 45))) || (decide (s3 = ([48] : List UInt8)))) || (decide (s3 = ([49] : List UInt8)))) (ev_tmp rfl rfl) (fun hb => ?_) (fun hb => ?_)
          · replace h := ite_t hb h
            refine c_seq ?_
            refine c_region rfl ?_
            refine s_q rfl rfl (y_build (vs := []) (cs := #[(Value.int .i64 0), (Value.int .i64 0)]) rfl trivial (by kernel_rfl)) ?_
            refine l_store (new := [(Value.int .i64 0), (Value.int .i64 0)]) (cs' := #[(Value.int .i64 0), (Value.int .i64 0)]) hI .z rfl rfl rfl (ev_tmp rfl rfl) (ev_tmp rfl rfl) rfl size_23 rfl rfl rfl ?_
            clear hI; intro c10 w17 hI
            refine s_q rfl rfl (y_assign rfl ev_const) ?_
            refine s_nil ?_
            refine k_next (e := [(2, (Value.pointer (some ⟨b1, 0, none⟩))), (3, (Value.int .i64 5))]) ⟨rfl, rfl, trivial⟩ ?_
            refine c_ret ?_
            obtain rfl := some_inj h
            exact q_ret (vs := [(Value.agg #[(Value.int .i64 0), (Value.int .i64 0)]), (Value.int .i64 5)]) Tryd.results23 ⟨⟨_, ev_tmp rfl rfl, load_agg (l := [(Value.int .i64 0), (Value.int .i64 0)]) Tryd.underlying23 rfl size_23 (CellsAt.of_blk (hI.blk .z) rfl)⟩, ⟨ev_tmp rfl rfl, trivial⟩⟩ ⟨rfl, hI.ext0, hI.fin trivial⟩
          · replace h := ite_f hb h
            refine c_skip ?_
            exact k_join (s2, s3) ⟨rfl, rfl, rfl, rfl, rfl, trivial⟩ ⟨_, hI.arr (.c .z .n) trivial, h⟩ rfl
        · replace h := ite_f hb h
          refine c_skip ?_
          exact k_join (up2, down3) ⟨rfl, rfl, rfl, rfl, rfl, trivial⟩ ⟨_, hI.arr (.c .z .n) trivial, h⟩ rfl
    · replace h := ite_f hb h
      refine c_exit ?_
      refine k_in ?_
      exact k_join (up2, down3) ⟨rfl, rfl, rfl, trivial⟩ ⟨_, hI.arr (.c .z .n) trivial, h⟩ rfl

set_option maxRecDepth 100000 in
set_option maxHeartbeats 4000000 in
theorem c_strconv_FormatInt (F : NP) (w0 : World) (hF : ∀ k, F k → k < w0.heap.size) (i1 : Int) (base1 : Int) (hc : AllCl [clPow10] F w0) (r : List UInt8)
    (h : m_strconv_FormatInt i1 base1 = some r) :
    Calls Tryd.prog 64 #[(Value.int .i64 i1), (Value.int .i64 base1)] w0 fun e w => e = .returned (str r) ∧ Ext w0 w ∧ AllCl [] F w := by
  refine ofEnter (R := fun v w => v = (str r) ∧ Ext w0 w ∧ AllCl [] F w) (enter (l := [(Value.int .i64 i1), (Value.int .i64 base1)]) Tryd.func64 rfl Tryd.ntmps64 rfl ?_) ?_
  rotate_left
  · rintro _ w ⟨rfl, k1, k2⟩; exact ⟨rfl, k1, k2⟩
  have hI := Bun.start hF hc
  clear hc
  rw [m_strconv_FormatInt] at h
  refine c_seq ?_
  refine c_region rfl ?_
  refine s_q rfl rfl (y_assign rfl ev_const) ?_
  refine s_nil ?_
  refine k_next (e := [(0, (Value.int .i64 i1)), (1, (Value.int .i64 base1))]) ⟨rfl, rfl, trivial⟩ ?_
  refine c_seq ?_
  refine c_region rfl ?_
  refine s_q rfl rfl (y_move rfl (ev_tmp rfl rfl)) ?_
  refine s_q rfl rfl (y_move rfl (ev_tmp rfl rfl)) ?_
  obtain ⟨r1, hx1, h⟩ := bnd_some h
  refine s_call rfl rfl (r_callF (vs := [(Value.int .i64 i1), (Value.int .i64 base1)]) rfl ok_78 ⟨(ev_tmp rfl rfl), ⟨(ev_tmp rfl rfl), trivial⟩⟩) (Calls.mono (c_internal_strconv_FormatInt (Dj F noM) w0 hI.lt i1 base1 ⟨(hI.get .z), trivial⟩ r1 hx1) ?_)
  rintro _ w1 ⟨rfl, hx2, hl1⟩
  refine ⟨_, rfl, ?_⟩
  replace hI := (hI.ext hx2)
  refine s_q rfl rfl (y_assign rfl (ev_tmp rfl rfl)) ?_
  refine s_nil ?_
  refine k_next (e := [(4, (str r1))]) ⟨rfl, trivial⟩ ?_
  refine c_ret ?_
  obtain rfl := some_inj h
  exact q_ret (vs := [(str r1)]) Tryd.results64 ⟨ev_tmp rfl rfl, trivial⟩ ⟨rfl, hI.ext0, hI.fin trivial⟩

set_option maxRecDepth 100000 in
set_option maxHeartbeats 4000000 in
theorem c_frac_Format (F : NP) (w0 : World) (hF : ∀ k, F k → k < w0.heap.size) (a1 : GVal) (hc : AllCl [clPow10] F w0) (r : List UInt8)
    (h : m_frac_Format a1 = some r) :
    Calls Tryd.prog 24 #[(Value.agg #[(Value.int .i64 a1.N), (Value.int .i64 a1.D)])] w0 fun e w => e = .returned (str r) ∧ Ext w0 w ∧ AllCl [] F w := by
  refine ofEnter (R := fun v w => v = (str r) ∧ Ext w0 w ∧ AllCl [] F w) (enter (l := [(Value.agg #[(Value.int .i64 a1.N), (Value.int .i64 a1.D)])]) Tryd.func24 rfl Tryd.ntmps24 rfl ?_) ?_
  rotate_left
  · rintro _ w ⟨rfl, k1, k2⟩; exact ⟨rfl, k1, k2⟩
  have hI := Bun.start hF hc
  clear hc
  rw [m_frac_Format] at h
  refine c_seq ?_
  refine c_region rfl ?_
  refine l_box (v := (Value.agg #[(Value.int .i64 a1.N), (Value.int .i64 a1.D)])) (cs := #[(Value.int .i64 a1.N), (Value.int .i64 a1.D)]) hI rfl rfl rfl (ev_tmp rfl rfl) rfl ?_
  clear hI; intro b1 c1 w1 hI
  obtain ⟨c2, hI⟩ := hI.relBox .z
  refine s_q rfl rfl (y_assign rfl ev_const) ?_
  refine s_nil ?_
  refine k_next (e := [(1, (Value.pointer (some ⟨b1, 0, none⟩)))]) ⟨rfl, trivial⟩ ?_
  refine c_seq ?_
  refine c_block ?_
  refine c_seq ?_
  refine c_region rfl ?_
  refine s_q rfl rfl (y_loadN (l := [(Value.int .i64 a1.N), (Value.int .i64 a1.D)]) rfl (ev_tmp rfl rfl) Tryd.underlying23 rfl size_23 (hI.kblk (l := [(Value.int .i64 a1.N), (Value.int .i64 a1.D)]) .z rfl).1) ?_
  obtain ⟨r1, hx1, h⟩ := bnd_some h
  refine s_call rfl rfl (r_callF (vs := [(Value.agg #[(Value.int .i64 a1.N), (Value.int .i64 a1.D)])]) rfl ok_14 ⟨(ev_tmp rfl rfl), trivial⟩) (Calls.mono (c_frac_Valid (Dj F c2) w1 hI.lt a1 trivial r1 hx1) ?_)
  rintro _ w2 ⟨rfl, hx2, hl1⟩
  refine ⟨_, rfl, ?_⟩
  replace hI := (hI.ext hx2)
  refine s_q rfl rfl (y_not rfl (ev_tmp rfl rfl)) ?_
  refine s_q rfl rfl (y_assign rfl (ev_tmp rfl rfl)) ?_
  refine s_nil ?_
  refine k_next (e := [(1, (Value.pointer (some ⟨b1, 0, none⟩))), (3, (Value.bool (!r1)))]) ⟨rfl, rfl, trivial⟩ ?_
  refine c_cond (b := !r1) (ev_tmp rfl rfl) (fun hb => ?_) (fun hb => ?_)
  · replace h := ite_t hb h
    refine c_seq ?_
    refine c_region rfl ?_
    refine s_q rfl rfl (y_assign rfl ev_const) ?_
    refine s_nil ?_
    refine k_next (e := [(2, (str ([] : List UInt8)))]) ⟨rfl, trivial⟩ ?_
    refine c_ret ?_
    obtain rfl := some_inj h
    exact q_ret (vs := [(str ([] : List UInt8))]) Tryd.results24 ⟨ev_tmp rfl rfl, trivial⟩ ⟨rfl, hI.ext0, hI.fin trivial⟩
  · replace h := ite_f hb h
    refine c_seq ?_
    refine c_region rfl ?_
    refine s_q rfl rfl (y_fieldAddr rfl (ev_tmp rfl rfl) Tryd.underlying23 rfl size_2 rfl) ?_
    refine s_q rfl rfl (y_load1 (v := (Value.int .i64 a1.D)) rfl (ev_tmp rfl rfl) Tryd.underlying2 rfl (hI.kblk (l := [(Value.int .i64 a1.D)]) .z rfl).1) ?_
    refine s_q rfl rfl (y_eql rfl (ev_tmp rfl rfl) ev_const) ?_
    refine s_q rfl rfl (y_assign rfl (ev_tmp rfl rfl)) ?_
    refine s_nil ?_
    refine k_next (e := [(1, (Value.pointer (some ⟨b1, 0, none⟩))), (7, (Value.bool (decide (a1.D = 1))))]) ⟨rfl, rfl, trivial⟩ ?_
    refine c_cond (b := decide (a1.D = 1)) (ev_tmp rfl rfl) (fun hb => ?_) (fun hb => ?_)
    · replace h := ite_t hb h
      refine c_seq ?_
      refine c_region rfl ?_
      refine s_q rfl rfl (y_fieldAddr rfl (ev_tmp rfl rfl) Tryd.underlying23 rfl size_2 rfl) ?_
      refine s_q rfl rfl (y_load1 (v := (Value.int .i64 a1.N)) rfl (ev_tmp rfl rfl) Tryd.underlying2 rfl (hI.kblk (l := [(Value.int .i64 a1.N)]) .z rfl).1) ?_
      obtain ⟨r2, hx3, h⟩ := bnd_some h
      refine s_call rfl rfl (r_callF (vs := [(Value.int .i64 a1.N), (Value.int .i64 10)]) rfl ok_64 ⟨(ev_tmp rfl rfl), ⟨ev_const, trivial⟩⟩) (Calls.mono (c_strconv_FormatInt (Dj F c2) w2 hI.lt a1.N 10 ⟨(hI.get (.s .z)), trivial⟩ r2 hx3) ?_)
      rintro _ w3 ⟨rfl, hx4, hl2⟩
      refine ⟨_, rfl, ?_⟩
      replace hI := (hI.ext hx4)
      refine s_q rfl rfl (y_assign rfl (ev_tmp rfl rfl)) ?_
      refine s_nil ?_
      refine k_next (e := [(2, (str r2))]) ⟨rfl, trivial⟩ ?_
      refine c_ret ?_
      obtain rfl := some_inj h
      exact q_ret (vs := [(str r2)]) Tryd.results24 ⟨ev_tmp rfl rfl, trivial⟩ ⟨rfl, hI.ext0, hI.fin trivial⟩
    · replace h := ite_f hb h
      refine c_skip ?_
      refine k_next (e := [(1, (Value.pointer (some ⟨b1, 0, none⟩)))]) ⟨rfl, trivial⟩ ?_
      refine c_seq ?_
      refine c_drawX [] false (.c (0, .q) (.c (1, .q) (.c (4, .q) (.c (5, .q) (.c (2, .s) (.c (3, .q) (.c (6, .s) (.c (7, .q) (.c (8, .q) .n))))))))) hI (by kernel_rfl) (by kernel_rfl) ?_
      clear hI; intro w4 hI
      refine a_q rfl rfl rfl (fun w' => (y_fieldAddr rfl (ev_tmp rfl rfl) Tryd.underlying23 rfl size_2 rfl)) ?_
      refine a_read rfl rfl rfl (fun w' hw' => (y_load1 (v := (Value.int .i64 a1.N)) rfl (ev_tmp rfl rfl) Tryd.underlying2 rfl ((hI.kblk (l := [(Value.int .i64 a1.N)]) .z rfl).at_ (SX.any rfl hw')))) (by kernel_rfl) ?_
      refine a_q rfl rfl rfl (fun w' => (y_fieldAddr rfl (ev_tmp rfl rfl) Tryd.underlying23 rfl size_2 rfl)) ?_
      refine a_read rfl rfl rfl (fun w' hw' => (y_load1 (v := (Value.int .i64 a1.D)) rfl (ev_tmp rfl rfl) Tryd.underlying2 rfl ((hI.kblk (l := [(Value.int .i64 a1.D)]) .z rfl).at_ (SX.any rfl hw')))) (by kernel_rfl) ?_
      obtain ⟨r3, hx5, h⟩ := bnd_some h
      refine la_call rfl rfl rfl (r_callF (vs := [(Value.int .i64 a1.N), (Value.int .i64 10)]) rfl ok_64 ⟨(ev_tmp rfl rfl), ⟨ev_const, trivial⟩⟩) (Calls.mono (c_strconv_FormatInt (Dj F c2) w4 hI.lt a1.N 10 ⟨(hI.get (.s .z)), trivial⟩ r3 hx5) ?_)
      rintro _ w5 ⟨rfl, hx6, hl3⟩
      refine ⟨_, rfl, hx6, ?_⟩
      replace hI := (hI.ext hx6)
      obtain ⟨s1, hx7, h⟩ := bnd_some h
      refine a_q rfl rfl rfl (fun w' => (y_catl rfl (ev_tmp rfl rfl) ev_const hx7)) ?_
      obtain ⟨r4, hx8, h⟩ := bnd_some h
      refine la_call rfl rfl rfl (r_callF (vs := [(Value.int .i64 a1.D), (Value.int .i64 10)]) rfl ok_64 ⟨(ev_tmp rfl rfl), ⟨ev_const, trivial⟩⟩) (Calls.mono (c_strconv_FormatInt (Dj F c2) w5 hI.lt a1.D 10 ⟨(hI.get (.s .z)), trivial⟩ r4 hx8) ?_)
      rintro _ w6 ⟨rfl, hx9, hl4⟩
      refine ⟨_, rfl, hx9, ?_⟩
      replace hI := (hI.ext hx9)
      obtain ⟨s2, hx10, h⟩ := bnd_some h
      refine a_q rfl rfl rfl (fun w' => (y_catl rfl (ev_tmp rfl rfl) (ev_tmp rfl rfl) hx10)) ?_
      refine a_q rfl rfl rfl (fun w' => (y_assign rfl (ev_tmp rfl rfl))) ?_
      refine a_nil ?_
      refine k_next (e := [(2, (str s2))]) ⟨rfl, trivial⟩ ?_
      refine c_ret ?_
      obtain rfl := some_inj h
      exact q_ret (vs := [(str s2)]) Tryd.results24 ⟨ev_tmp rfl rfl, trivial⟩ ⟨rfl, hI.ext0, hI.fin trivial⟩

set_option maxRecDepth 100000 in
set_option maxHeartbeats 4000000 in
theorem c_ref01_plain (F : NP) (w0 : World) (hF : ∀ k, F k → k < w0.heap.size) (n1 : Int) (hc : AllCl [] F w0) (r : List UInt8)
    (h : m_ref01_plain n1 = some r) :
    Calls Tryd.prog 79 #[(Value.int .u64 n1)] w0 fun e w => e = .returned (str r) ∧ Ext w0 w ∧ AllCl [] F w := by
  refine ofEnter (R := fun v w => v = (str r) ∧ Ext w0 w ∧ AllCl [] F w) (enter (l := [(Value.int .u64 n1)]) Tryd.func79 rfl Tryd.ntmps79 rfl ?_) ?_
  rotate_left
  · rintro _ w ⟨rfl, k1, k2⟩; exact ⟨rfl, k1, k2⟩
  have hI := Bun.start hF hc
  clear hc
  rw [m_ref01_plain] at h
  refine c_seq ?_
  refine c_region rfl ?_
  refine s_q rfl rfl (y_assign rfl ev_const) ?_
  refine s_nil ?_
  refine k_next (e := [(0, (Value.int .u64 n1))]) ⟨rfl, trivial⟩ ?_
  refine c_seq ?_
  refine c_region rfl ?_
  refine s_q rfl rfl (y_assign rfl ev_const) ?_
  refine s_nil ?_
  refine k_next (e := [(0, (Value.int .u64 n1)), (3, (str ([] : List UInt8)))]) ⟨rfl, rfl, trivial⟩ ?_
  refine c_seq ?_
  refine c_block ?_
  refine c_loop (α := Nat × Int × (List UInt8)) (fun x => fun w => ∃ C, Bun noM F w0 C w [] [] ∧ m_ref01_plain_l1 (x.1) (x.2.1) (x.2.2) = some r) (fun x _ => x.1) (fun x => [(0, (Value.int .u64 (x.2.1))), (3, (str (x.2.2)))]) (fu, n1, ([] : List UInt8)) ⟨_, hI.arr .n trivial, h⟩ ⟨rfl, rfl, trivial⟩ ?_
  clear h hI; rintro ⟨fuel1, n2, s1⟩ w1 ⟨c1, hI, h⟩
  dsimp only at hI h
  rcases fuel1 with _ | fuel1
  · rw [m_ref01_plain_l1] at h; cases h
  rw [m_ref01_plain_l1] at h
  refine c_sub (e := [(0, (Value.int .u64 n2)), (3, (str s1))]) ⟨rfl, rfl, trivial⟩ ?_
  refine c_seq ?_
  refine c_seq ?_
  refine c_region rfl ?_
  refine s_q rfl rfl (y_move rfl (ev_tmp rfl rfl)) ?_
  refine s_q rfl rfl (y_geq rfl (ev_tmp rfl rfl) ev_const) ?_
  refine s_nil ?_
  refine k_next (e := [(0, (Value.int .u64 n2)), (3, (str s1)), (5, (Value.bool (decide (10 ≤ n2))))]) ⟨rfl, rfl, rfl, trivial⟩ ?_
  refine c_cond (b := decide (10 ≤ n2)) (ev_tmp rfl rfl) (fun hb => ?_) (fun hb => ?_)
  · replace h := ite_t hb h
    refine c_skip ?_
    refine k_next (e := [(0, (Value.int .u64 n2)), (3, (str s1))]) ⟨rfl, rfl, trivial⟩ ?_
    refine c_block ?_
    refine c_seq ?_
    refine c_region rfl ?_
    refine s_q rfl rfl (y_move rfl (ev_tmp rfl rfl)) ?_
    refine s_q rfl rfl (y_rem rfl (ev_tmp rfl rfl) ev_const (by decide)) ?_
    refine s_q rfl rfl (y_move rfl (ev_tmp rfl rfl)) ?_
    refine s_q rfl rfl (y_rem rfl (ev_tmp rfl rfl) ev_const (by decide)) ?_
    refine s_q rfl rfl (y_add rfl (ev_tmp rfl rfl) ev_const) ?_
    obtain ⟨s2, hx1, h⟩ := bnd_some h
    refine s_q rfl rfl (y_ssub rfl Tryd.underlying9 ev_const (ev_tmp rfl rfl) (ev_tmp rfl rfl) hx1) ?_
    refine s_q rfl rfl (y_move rfl (ev_tmp rfl rfl)) ?_
    obtain ⟨s3, hx2, h⟩ := bnd_some h
    refine s_q rfl rfl (y_catl rfl (ev_tmp rfl rfl) (ev_tmp rfl rfl) hx2) ?_
    refine s_q rfl rfl (y_assign rfl (ev_tmp rfl rfl)) ?_
    refine s_nil ?_
    refine k_next (e := [(0, (Value.int .u64 n2)), (3, (str s3))]) ⟨rfl, rfl, trivial⟩ ?_
    refine c_region rfl ?_
    refine s_q rfl rfl (y_move rfl (ev_tmp rfl rfl)) ?_
    refine s_q rfl rfl (y_quo rfl (ev_tmp rfl rfl) ev_const (by decide)) ?_
    refine s_q rfl rfl (y_assign rfl (ev_tmp rfl rfl)) ?_
    refine s_nil ?_
    exact k_loop (fuel1, wu64 (Int.tdiv n2 10), s3) ⟨rfl, rfl, trivial⟩ ⟨_, hI.arr .n trivial, h⟩ (Nat.lt_succ_self _)
  · replace h := ite_f hb h
    refine c_exit ?_
    refine k_in ?_
    refine k_next (e := [(0, (Value.int .u64 n2)), (3, (str s1))]) ⟨rfl, rfl, trivial⟩ ?_
    refine c_seq ?_
    refine c_region rfl ?_
    refine s_q rfl rfl (y_move rfl (ev_tmp rfl rfl)) ?_
    refine s_q rfl rfl (y_move rfl (ev_tmp rfl rfl)) ?_
    refine s_q rfl rfl (y_add rfl (ev_tmp rfl rfl) ev_const) ?_
    obtain ⟨s4, hx3, h⟩ := bnd_some h
    refine s_q rfl rfl (y_ssub rfl Tryd.underlying9 ev_const (ev_tmp rfl rfl) (ev_tmp rfl rfl) hx3) ?_
    refine s_q rfl rfl (y_move rfl (ev_tmp rfl rfl)) ?_
    obtain ⟨s5, hx4, h⟩ := bnd_some h
    refine s_q rfl rfl (y_catl rfl (ev_tmp rfl rfl) (ev_tmp rfl rfl) hx4) ?_
    refine s_q rfl rfl (y_assign rfl (ev_tmp rfl rfl)) ?_
    refine s_nil ?_
    refine k_next (e := [(2, (str s5))]) ⟨rfl, trivial⟩ ?_
    refine c_ret ?_
    obtain rfl := some_inj h
    exact q_ret (vs := [(str s5)]) Tryd.results79 ⟨ev_tmp rfl rfl, trivial⟩ ⟨rfl, hI.ext0, hI.fin trivial⟩

set_option maxRecDepth 100000 in
set_option maxHeartbeats 4000000 in
theorem c_ref01_Digits (F : NP) (w0 : World) (hF : ∀ k, F k → k < w0.heap.size) (n1 : Int) (hc : AllCl [] F w0) (r : List UInt8)
    (h : m_ref01_Digits n1 = some r) :
    Calls Tryd.prog 65 #[(Value.int .i64 n1)] w0 fun e w => e = .returned (str r) ∧ Ext w0 w ∧ AllCl [] F w := by
  refine ofEnter (R := fun v w => v = (str r) ∧ Ext w0 w ∧ AllCl [] F w) (enter (l := [(Value.int .i64 n1)]) Tryd.func65 rfl Tryd.ntmps65 rfl ?_) ?_
  rotate_left
  · rintro _ w ⟨rfl, k1, k2⟩; exact ⟨rfl, k1, k2⟩
  have hI := Bun.start hF hc
  clear hc
  rw [m_ref01_Digits] at h
  refine c_seq ?_
  refine c_region rfl ?_
  refine s_q rfl rfl (y_assign rfl ev_const) ?_
  refine s_nil ?_
  refine k_next (e := [(0, (Value.int .i64 n1))]) ⟨rfl, trivial⟩ ?_
  refine c_seq ?_
  refine c_seq ?_
  refine c_region rfl ?_
  refine s_q rfl rfl (y_move rfl (ev_tmp rfl rfl)) ?_
  refine s_q rfl rfl (y_lss rfl (ev_tmp rfl rfl) ev_const) ?_
  refine s_nil ?_
  refine k_next (e := [(0, (Value.int .i64 n1)), (4, (Value.bool (decide (n1 < 0))))]) ⟨rfl, rfl, trivial⟩ ?_
  refine c_cond (b := decide (n1 < 0)) (ev_tmp rfl rfl) (fun hb => ?_) (fun hb => ?_)
  · replace h := ite_t hb h
    refine c_seq ?_
    refine c_region rfl ?_
    refine s_q rfl rfl (y_move rfl (ev_tmp rfl rfl)) ?_
    obtain ⟨r1, hx1, h⟩ := bnd_some h
    refine s_call rfl rfl (r_callF (vs := [(Value.int .i64 n1)]) rfl ok_42 ⟨(ev_tmp rfl rfl), trivial⟩) (Calls.mono (c_ref01_size (Dj F noM) w0 hI.lt n1 trivial r1 hx1) ?_)
    rintro _ w1 ⟨rfl, hx2, hl1⟩
    refine ⟨_, rfl, ?_⟩
    replace hI := (hI.ext hx2)
    obtain ⟨r2, hx3, h⟩ := bnd_some h
    refine s_call rfl rfl (r_callF (vs := [(Value.int .u64 r1)]) rfl ok_79 ⟨(ev_tmp rfl rfl), trivial⟩) (Calls.mono (c_ref01_plain (Dj F noM) w1 hI.lt r1 trivial r2 hx3) ?_)
    rintro _ w2 ⟨rfl, hx4, hl2⟩
    refine ⟨_, rfl, ?_⟩
    replace hI := (hI.ext hx4)
    obtain ⟨s1, hx5, h⟩ := bnd_some h
    refine s_q rfl rfl (y_catl rfl ev_const (ev_tmp rfl rfl) hx5) ?_
    refine s_q rfl rfl (y_assign rfl (ev_tmp rfl rfl)) ?_
    refine s_nil ?_
    refine k_next (e := [(2, (str s1))]) ⟨rfl, trivial⟩ ?_
    refine c_ret ?_
    obtain rfl := some_inj h
    exact q_ret (vs := [(str s1)]) Tryd.results65 ⟨ev_tmp rfl rfl, trivial⟩ ⟨rfl, hI.ext0, hI.fin trivial⟩
  · replace h := ite_f hb h
    refine c_skip ?_
    refine k_next (e := [(0, (Value.int .i64 n1))]) ⟨rfl, trivial⟩ ?_
    refine c_seq ?_
    refine c_region rfl ?_
    refine s_q rfl rfl (y_move rfl (ev_tmp rfl rfl)) ?_
    obtain ⟨r3, hx6, h⟩ := bnd_some h
    refine s_call rfl rfl (r_callF (vs := [(Value.int .i64 n1)]) rfl ok_42 ⟨(ev_tmp rfl rfl), trivial⟩) (Calls.mono (c_ref01_size (Dj F noM) w0 hI.lt n1 trivial r3 hx6) ?_)
    rintro _ w3 ⟨rfl, hx7, hl3⟩
    refine ⟨_, rfl, ?_⟩
    replace hI := (hI.ext hx7)
    obtain ⟨r4, hx8, h⟩ := bnd_some h
    refine s_call rfl rfl (r_callF (vs := [(Value.int .u64 r3)]) rfl ok_79 ⟨(ev_tmp rfl rfl), trivial⟩) (Calls.mono (c_ref01_plain (Dj F noM) w3 hI.lt r3 trivial r4 hx8) ?_)
    rintro _ w4 ⟨rfl, hx9, hl4⟩
    refine ⟨_, rfl, ?_⟩
    replace hI := (hI.ext hx9)
    refine s_q rfl rfl (y_assign rfl (ev_tmp rfl rfl)) ?_
    refine s_nil ?_
    refine k_next (e := [(2, (str r4))]) ⟨rfl, trivial⟩ ?_
    refine c_ret ?_
    obtain rfl := some_inj h
    exact q_ret (vs := [(str r4)]) Tryd.results65 ⟨ev_tmp rfl rfl, trivial⟩ ⟨rfl, hI.ext0, hI.fin trivial⟩

set_option maxRecDepth 100000 in
set_option maxHeartbeats 4000000 in
theorem c_ref01_Format (F : NP) (w0 : World) (hF : ∀ k, F k → k < w0.heap.size) (a1 : GVal) (hc : AllCl [] F w0) (r : List UInt8)
    (h : m_ref01_Format a1 = some r) :
    Calls Tryd.prog 25 #[(Value.agg #[(Value.int .i64 a1.N), (Value.int .i64 a1.D)])] w0 fun e w => e = .returned (str r) ∧ Ext w0 w ∧ AllCl [] F w := by
  refine ofEnter (R := fun v w => v = (str r) ∧ Ext w0 w ∧ AllCl [] F w) (enter (l := [(Value.agg #[(Value.int .i64 a1.N), (Value.int .i64 a1.D)])]) Tryd.func25 rfl Tryd.ntmps25 rfl ?_) ?_
  rotate_left
  · rintro _ w ⟨rfl, k1, k2⟩; exact ⟨rfl, k1, k2⟩
  have hI := Bun.start hF hc
  clear hc
  rw [m_ref01_Format] at h
  refine c_seq ?_
  refine c_region rfl ?_
  refine l_box (v := (Value.agg #[(Value.int .i64 a1.N), (Value.int .i64 a1.D)])) (cs := #[(Value.int .i64 a1.N), (Value.int .i64 a1.D)]) hI rfl rfl rfl (ev_tmp rfl rfl) rfl ?_
  clear hI; intro b1 c1 w1 hI
  obtain ⟨c2, hI⟩ := hI.relBox .z
  refine s_q rfl rfl (y_assign rfl ev_const) ?_
  refine s_nil ?_
  refine k_next (e := [(1, (Value.pointer (some ⟨b1, 0, none⟩)))]) ⟨rfl, trivial⟩ ?_
  refine c_seq ?_
  refine c_seq ?_
  refine c_region rfl ?_
  refine s_q rfl rfl (y_loadN (l := [(Value.int .i64 a1.N), (Value.int .i64 a1.D)]) rfl (ev_tmp rfl rfl) Tryd.underlying23 rfl size_23 (hI.kblk (l := [(Value.int .i64 a1.N), (Value.int .i64 a1.D)]) .z rfl).1) ?_
  obtain ⟨r1, hx1, h⟩ := bnd_some h
  refine s_call rfl rfl (r_callF (vs := [(Value.agg #[(Value.int .i64 a1.N), (Value.int .i64 a1.D)])]) rfl ok_15 ⟨(ev_tmp rfl rfl), trivial⟩) (Calls.mono (c_ref01_Valid (Dj F c2) w1 hI.lt a1 trivial r1 hx1) ?_)
  rintro _ w2 ⟨rfl, hx2, hl1⟩
  refine ⟨_, rfl, ?_⟩
  replace hI := (hI.ext hx2)
  refine s_q rfl rfl (y_not rfl (ev_tmp rfl rfl)) ?_
  refine s_nil ?_
  refine k_next (e := [(1, (Value.pointer (some ⟨b1, 0, none⟩))), (5, (Value.bool (!r1)))]) ⟨rfl, rfl, trivial⟩ ?_
  refine c_cond (b := !r1) (ev_tmp rfl rfl) (fun hb => ?_) (fun hb => ?_)
  · replace h := ite_t hb h
    refine c_seq ?_
    refine c_region rfl ?_
    refine s_q rfl rfl (y_assign rfl ev_const) ?_
    refine s_nil ?_
    refine k_next (e := [(2, (str ([] : List UInt8)))]) ⟨rfl, trivial⟩ ?_
    refine c_ret ?_
    obtain rfl := some_inj h
    exact q_ret (vs := [(str ([] : List UInt8))]) Tryd.results25 ⟨ev_tmp rfl rfl, trivial⟩ ⟨rfl, hI.ext0, hI.fin trivial⟩
  · replace h := ite_f hb h
    refine c_skip ?_
    refine k_next (e := [(1, (Value.pointer (some ⟨b1, 0, none⟩)))]) ⟨rfl, trivial⟩ ?_
    refine c_seq ?_
    refine c_seq ?_
    refine c_region rfl ?_
    refine s_q rfl rfl (y_fieldAddr rfl (ev_tmp rfl rfl) Tryd.underlying23 rfl size_2 rfl) ?_
    refine s_q rfl rfl (y_load1 (v := (Value.int .i64 a1.D)) rfl (ev_tmp rfl rfl) Tryd.underlying2 rfl (hI.kblk (l := [(Value.int .i64 a1.D)]) .z rfl).1) ?_
    refine s_q rfl rfl (y_eql rfl (ev_tmp rfl rfl) ev_const) ?_
    refine s_nil ?_
    refine k_next (e := [(1, (Value.pointer (some ⟨b1, 0, none⟩))), (8, (Value.bool (decide (a1.D = 1))))]) ⟨rfl, rfl, trivial⟩ ?_
    refine c_cond (b := decide (a1.D = 1)) (ev_tmp rfl rfl) (fun hb => ?_) (fun hb => ?_)
    · replace h := ite_t hb h
      refine c_seq ?_
      refine c_region rfl ?_
      refine s_q rfl rfl (y_fieldAddr rfl (ev_tmp rfl rfl) Tryd.underlying23 rfl size_2 rfl) ?_
      refine s_q rfl rfl (y_load1 (v := (Value.int .i64 a1.N)) rfl (ev_tmp rfl rfl) Tryd.underlying2 rfl (hI.kblk (l := [(Value.int .i64 a1.N)]) .z rfl).1) ?_
      obtain ⟨r2, hx3, h⟩ := bnd_some h
      refine s_call rfl rfl (r_callF (vs := [(Value.int .i64 a1.N)]) rfl ok_65 ⟨(ev_tmp rfl rfl), trivial⟩) (Calls.mono (c_ref01_Digits (Dj F c2) w2 hI.lt a1.N trivial r2 hx3) ?_)
      rintro _ w3 ⟨rfl, hx4, hl2⟩
      refine ⟨_, rfl, ?_⟩
      replace hI := (hI.ext hx4)
      refine s_q rfl rfl (y_assign rfl (ev_tmp rfl rfl)) ?_
      refine s_nil ?_
      refine k_next (e := [(2, (str r2))]) ⟨rfl, trivial⟩ ?_
      refine c_ret ?_
      obtain rfl := some_inj h
      exact q_ret (vs := [(str r2)]) Tryd.results25 ⟨ev_tmp rfl rfl, trivial⟩ ⟨rfl, hI.ext0, hI.fin trivial⟩
    · replace h := ite_f hb h
      refine c_skip ?_
      refine k_next (e := [(1, (Value.pointer (some ⟨b1, 0, none⟩)))]) ⟨rfl, trivial⟩ ?_
      refine c_seq ?_
      refine c_drawX [] false (.c (0, .q) (.c (1, .q) (.c (4, .q) (.c (5, .q) (.c (2, .s) (.c (3, .q) (.c (6, .s) (.c (7, .q) (.c (8, .q) .n))))))))) hI (by kernel_rfl) (by kernel_rfl) ?_
      clear hI; intro w4 hI
      refine a_q rfl rfl rfl (fun w' => (y_fieldAddr rfl (ev_tmp rfl rfl) Tryd.underlying23 rfl size_2 rfl)) ?_
      refine a_read rfl rfl rfl (fun w' hw' => (y_load1 (v := (Value.int .i64 a1.N)) rfl (ev_tmp rfl rfl) Tryd.underlying2 rfl ((hI.kblk (l := [(Value.int .i64 a1.N)]) .z rfl).at_ (SX.any rfl hw')))) (by kernel_rfl) ?_
      refine a_q rfl rfl rfl (fun w' => (y_fieldAddr rfl (ev_tmp rfl rfl) Tryd.underlying23 rfl size_2 rfl)) ?_
      refine a_read rfl rfl rfl (fun w' hw' => (y_load1 (v := (Value.int .i64 a1.D)) rfl (ev_tmp rfl rfl) Tryd.underlying2 rfl ((hI.kblk (l := [(Value.int .i64 a1.D)]) .z rfl).at_ (SX.any rfl hw')))) (by kernel_rfl) ?_
      obtain ⟨r3, hx5, h⟩ := bnd_some h
      refine la_call rfl rfl rfl (r_callF (vs := [(Value.int .i64 a1.N)]) rfl ok_65 ⟨(ev_tmp rfl rfl), trivial⟩) (Calls.mono (c_ref01_Digits (Dj F c2) w4 hI.lt a1.N trivial r3 hx5) ?_)
      rintro _ w5 ⟨rfl, hx6, hl3⟩
      refine ⟨_, rfl, hx6, ?_⟩
      replace hI := (hI.ext hx6)
      obtain ⟨s1, hx7, h⟩ := bnd_some h
      refine a_q rfl rfl rfl (fun w' => (y_catl rfl (ev_tmp rfl rfl) ev_const hx7)) ?_
      obtain ⟨r4, hx8, h⟩ := bnd_some h
      refine la_call rfl rfl rfl (r_callF (vs := [(Value.int .i64 a1.D)]) rfl ok_65 ⟨(ev_tmp rfl rfl), trivial⟩) (Calls.mono (c_ref01_Digits (Dj F c2) w5 hI.lt a1.D trivial r4 hx8) ?_)
      rintro _ w6 ⟨rfl, hx9, hl4⟩
      refine ⟨_, rfl, hx9, ?_⟩
      replace hI := (hI.ext hx9)
      obtain ⟨s2, hx10, h⟩ := bnd_some h
      refine a_q rfl rfl rfl (fun w' => (y_catl rfl (ev_tmp rfl rfl) (ev_tmp rfl rfl) hx10)) ?_
      refine a_q rfl rfl rfl (fun w' => (y_assign rfl (ev_tmp rfl rfl))) ?_
      refine a_nil ?_
      refine k_next (e := [(2, (str s2))]) ⟨rfl, trivial⟩ ?_
      refine c_ret ?_
      obtain rfl := some_inj h
      exact q_ret (vs := [(str s2)]) Tryd.results25 ⟨ev_tmp rfl rfl, trivial⟩ ⟨rfl, hI.ext0, hI.fin trivial⟩

set_option maxRecDepth 100000 in
set_option maxHeartbeats 4000000 in
theorem c_law01_FracFormat (F : NP) (w0 : World) (hF : ∀ k, F k → k < w0.heap.size) (a1 : GVal) (s1 : List UInt8) (hc : AllCl [clPow10] F w0) (r : Bool)
    (h : m_law01_FracFormat a1 s1 = some r) :
    Calls Tryd.prog 7 #[(Value.agg #[(Value.int .i64 a1.N), (Value.int .i64 a1.D)]), (str s1)] w0 fun e w => e = .returned (Value.bool r) ∧ Ext w0 w ∧ AllCl [] F w := by
  refine ofEnter (R := fun v w => v = (Value.bool r) ∧ Ext w0 w ∧ AllCl [] F w) (enter (l := [(Value.agg #[(Value.int .i64 a1.N), (Value.int .i64 a1.D)]), (str s1)]) Tryd.func7 rfl Tryd.ntmps7 rfl ?_) ?_
  rotate_left
  · rintro _ w ⟨rfl, k1, k2⟩; exact ⟨rfl, k1, k2⟩
  have hI := Bun.start hF hc
  clear hc
  rw [m_law01_FracFormat] at h
  refine c_seq ?_
  refine c_region rfl ?_
  refine l_box (v := (Value.agg #[(Value.int .i64 a1.N), (Value.int .i64 a1.D)])) (cs := #[(Value.int .i64 a1.N), (Value.int .i64 a1.D)]) hI rfl rfl rfl (ev_tmp rfl rfl) rfl ?_
  clear hI; intro b1 c1 w1 hI
  obtain ⟨c2, hI⟩ := hI.relBox .z
  refine s_q rfl rfl (y_assign rfl ev_const) ?_
  refine s_nil ?_
  refine k_next (e := [(1, (str s1)), (2, (Value.pointer (some ⟨b1, 0, none⟩)))]) ⟨rfl, rfl, trivial⟩ ?_
  refine c_seq ?_
  refine c_seq ?_
  refine c_region rfl ?_
  refine s_q rfl rfl (y_move rfl (ev_tmp rfl rfl)) ?_
  refine s_q rfl rfl (y_lens rfl Tryd.underlying9 (ev_tmp rfl rfl)) ?_
  refine s_q rfl rfl (y_gtr rfl (ev_tmp rfl rfl) ev_const) ?_
  refine s_nil ?_
  refine k_next (e := [(1, (str s1)), (2, (Value.pointer (some ⟨b1, 0, none⟩))), (11, (Value.bool (decide (200 < (s1.length : Int)))))]) ⟨rfl, rfl, rfl, trivial⟩ ?_
  refine c_cond (b := decide (200 < (s1.length : Int))) (ev_tmp rfl rfl) (fun hb => ?_) (fun hb => ?_)
  · replace h := ite_t hb h
    refine c_seq ?_
    refine c_region rfl ?_
    obtain ⟨r1, hx1, h⟩ := bnd_some h
    refine s_call rfl rfl (r_callF (vs := []) rfl ok_16 trivial) (Calls.mono (c_law01_examples (Dj F c2) w1 hI.lt trivial r1 hx1) ?_)
    rintro _ w2 ⟨rfl, hx2, hl1⟩
    refine ⟨_, rfl, ?_⟩
    replace hI := (hI.ext hx2)
    refine s_q rfl rfl (y_assign rfl (ev_tmp rfl rfl)) ?_
    refine s_nil ?_
    refine k_next (e := [(4, (Value.bool r1))]) ⟨rfl, trivial⟩ ?_
    refine c_ret ?_
    obtain rfl := some_inj h
    exact q_ret (vs := [(Value.bool r1)]) Tryd.results7 ⟨ev_tmp rfl rfl, trivial⟩ ⟨rfl, hI.ext0, hI.fin trivial⟩
  · replace h := ite_f hb h
    refine c_skip ?_
    refine k_next (e := [(1, (str s1)), (2, (Value.pointer (some ⟨b1, 0, none⟩)))]) ⟨rfl, rfl, trivial⟩ ?_
    refine c_seq ?_
    refine c_region rfl ?_
    refine s_q rfl rfl (y_move rfl (ev_tmp rfl rfl)) ?_
    obtain ⟨r2, hx3, h⟩ := bnd_some h
    refine s_call rfl rfl (r_callF (vs := [(str s1)]) rfl ok_22 ⟨(ev_tmp rfl rfl), trivial⟩) (Calls.mono (c_frac_Parse (Dj F c2) w1 hI.lt s1 trivial r2 hx3) ?_)
    rintro _ w3 ⟨rfl, hx4, hl2⟩
    refine ⟨_, rfl, ?_⟩
    replace hI := (hI.ext hx4)
    refine s_q rfl rfl (y_move rfl (ev_tmp rfl rfl)) ?_
    refine s_q rfl rfl (y_extract rfl (ev_tmp rfl rfl) rfl) ?_
    refine s_q rfl rfl (y_extract rfl (ev_tmp rfl rfl) rfl) ?_
    refine l_alloc (cs := #[(Value.int .i64 0), (Value.int .i64 0)]) hI rfl rfl rfl zero_23 rfl ?_
    clear hI; intro b2 c3 w4 hI
    refine l_store (new := [(Value.int .i64 r2.1.N), (Value.int .i64 r2.1.D)]) (cs' := #[(Value.int .i64 r2.1.N), (Value.int .i64 r2.1.D)]) hI .z rfl rfl rfl (ev_tmp rfl rfl) (ev_tmp rfl rfl) rfl size_23 rfl rfl rfl ?_
    clear hI; intro c4 w5 hI
    refine s_q rfl rfl (y_assign rfl (ev_tmp rfl rfl)) ?_
    refine s_nil ?_
    refine k_next (e := [(1, (str s1)), (2, (Value.pointer (some ⟨b1, 0, none⟩))), (5, (Value.pointer (some ⟨b2, 0, none⟩))), (6, (Value.int .i64 r2.2))]) ⟨rfl, rfl, rfl, rfl, trivial⟩ ?_
    refine c_seq ?_
    refine c_region rfl ?_
    refine s_q rfl rfl (y_move rfl (ev_tmp rfl rfl)) ?_
    obtain ⟨r3, hx5, h⟩ := bnd_some h
    refine s_call rfl rfl (r_callF (vs := [(str s1)]) rfl ok_23 ⟨(ev_tmp rfl rfl), trivial⟩) (Calls.mono (c_ref01_Parse (Dj F c4) w5 hI.lt s1 trivial r3 hx5) ?_)
    rintro _ w6 ⟨rfl, hx6, hl3⟩
    refine ⟨_, rfl, ?_⟩
    replace hI := (hI.ext hx6)
    refine s_q rfl rfl (y_move rfl (ev_tmp rfl rfl)) ?_
    refine s_q rfl rfl (y_extract rfl (ev_tmp rfl rfl) rfl) ?_
    refine s_q rfl rfl (y_extract rfl (ev_tmp rfl rfl) rfl) ?_
    refine l_alloc (cs := #[(Value.int .i64 0), (Value.int .i64 0)]) hI rfl rfl rfl zero_23 rfl ?_
    clear hI; intro b3 c5 w7 hI
    refine l_store (new := [(Value.int .i64 r3.1.N), (Value.int .i64 r3.1.D)]) (cs' := #[(Value.int .i64 r3.1.N), (Value.int .i64 r3.1.D)]) hI .z rfl rfl rfl (ev_tmp rfl rfl) (ev_tmp rfl rfl) rfl size_23 rfl rfl rfl ?_
    clear hI; intro c6 w8 hI
    refine s_q rfl rfl (y_assign rfl (ev_tmp rfl rfl)) ?_
    refine s_nil ?_
    refine k_next (e := [(2, (Value.pointer (some ⟨b1, 0, none⟩))), (5, (Value.pointer (some ⟨b2, 0, none⟩))), (6, (Value.int .i64 r2.2)), (7, (Value.pointer (some ⟨b3, 0, none⟩))), (8, (Value.int .i64 r3.2))]) ⟨rfl, rfl, rfl, rfl, rfl, trivial⟩ ?_
    refine c_seq ?_
    refine c_drawX [] false (.c (0, .q) (.c (2, .q) (.c (1, .s) (.c (3, .s) (.c (4, .q) (.c (5, .q) (.c (6, .q) (.c (7, .q) (.c (8, .q) (.c (9, .q) (.c (10, .q) (.c (11, .q) (.c (12, .q) (.c (13, .q) (.c (14, .q) (.c (15, .q) (.c (16, .s) (.c (17, .q) (.c (18, .q) .n))))))))))))))))))) hI (by kernel_rfl) (by kernel_rfl) ?_
    clear hI; intro w9 hI
    refine a_read rfl rfl rfl (fun w' hw' => (y_loadN (l := [(Value.int .i64 a1.N), (Value.int .i64 a1.D)]) rfl (ev_tmp rfl rfl) Tryd.underlying23 rfl size_23 ((hI.kblk (l := [(Value.int .i64 a1.N), (Value.int .i64 a1.D)]) .z rfl).at_ (SX.any rfl hw')))) (by kernel_rfl) ?_
    refine a_read rfl rfl rfl (fun w' hw' => (y_loadN (l := [(Value.int .i64 a1.N), (Value.int .i64 a1.D)]) rfl (ev_tmp rfl rfl) Tryd.underlying23 rfl size_23 ((hI.kblk (l := [(Value.int .i64 a1.N), (Value.int .i64 a1.D)]) .z rfl).at_ (SX.any rfl hw')))) (by kernel_rfl) ?_
    obtain ⟨r4, hx7, h⟩ := bnd_some h
    refine la_call rfl rfl rfl (r_callF (vs := [(Value.agg #[(Value.int .i64 a1.N), (Value.int .i64 a1.D)])]) rfl ok_24 ⟨(ev_tmp rfl rfl), trivial⟩) (Calls.mono (c_frac_Format (Dj F c6) w9 hI.lt a1 ⟨(hI.get (.s .z)), trivial⟩ r4 hx7) ?_)
    rintro _ w10 ⟨rfl, hx8, hl4⟩
    refine ⟨_, rfl, hx8, ?_⟩
    replace hI := (hI.ext hx8)
    obtain ⟨r5, hx9, h⟩ := bnd_some h
    refine la_call rfl rfl rfl (r_callF (vs := [(Value.agg #[(Value.int .i64 a1.N), (Value.int .i64 a1.D)])]) rfl ok_25 ⟨(ev_tmp rfl rfl), trivial⟩) (Calls.mono (c_ref01_Format (Dj F c6) w10 hI.lt a1 trivial r5 hx9) ?_)
    rintro _ w11 ⟨rfl, hx10, hl5⟩
    refine ⟨_, rfl, hx10, ?_⟩
    replace hI := (hI.ext hx10)
    refine a_q rfl rfl rfl (fun w' => (y_eqs rfl (ev_tmp rfl rfl) (ev_tmp rfl rfl))) ?_
    refine a_q rfl rfl rfl (fun w' => (y_move rfl (ev_tmp rfl rfl))) ?_
    refine a_gread rfl (g_true rfl rfl rfl rfl) rfl (fun hc => fun w' hw' => (y_loadN (l := [(Value.int .i64 r2.1.N), (Value.int .i64 r2.1.D)]) rfl (ev_tmp rfl rfl) Tryd.underlying23 rfl size_23 ((CA.blk (hI.blk (.s .z)) rfl).at_ (SX.any rfl hw')))) (by kernel_rfl) ?_
    refine a_gread rfl (g_true rfl rfl rfl rfl) rfl (fun hc => fun w' hw' => (y_loadN (l := [(Value.int .i64 r3.1.N), (Value.int .i64 r3.1.D)]) rfl (ev_tmp rfl rfl) Tryd.underlying23 rfl size_23 ((CA.blk (hI.blk .z) rfl).at_ (SX.any rfl hw')))) (by kernel_rfl) ?_
    refine a_gval rfl (g_true rfl rfl rfl rfl) rfl (fun hc => fun w' => (y_bin rfl (ev_gv (ev_tmp rfl rfl) hc) (ev_gv (ev_tmp rfl rfl) hc) (eqstruct_23 ..) (eqguard_23 ..))) ?_
    refine a_q rfl rfl rfl (fun w' => (y_and rfl (ev_tmp rfl rfl) (ev_tmp rfl rfl))) ?_
    refine a_q rfl rfl rfl (fun w' => (y_move rfl (ev_tmp rfl rfl))) ?_
    refine a_gval rfl (g_true rfl rfl rfl rfl) rfl (fun hc => fun w' => (y_move rfl (ev_tmp rfl rfl))) ?_
    refine a_gval rfl (g_true rfl rfl rfl rfl) rfl (fun hc => fun w' => (y_move rfl (ev_tmp rfl rfl))) ?_
    refine a_gval rfl (g_true rfl rfl rfl rfl) rfl (fun hc => fun w' => (y_eql rfl (ev_gv (ev_tmp rfl rfl) hc) (ev_gv (ev_tmp rfl rfl) hc))) ?_
    refine a_q rfl rfl rfl (fun w' => (y_and rfl (ev_tmp rfl rfl) (ev_tmp rfl rfl))) ?_
    refine a_q rfl rfl rfl (fun w' => (y_move rfl (ev_tmp rfl rfl))) ?_
    obtain ⟨r6, hx11, h⟩ := bnd_some h
    replace hx11 := gd_some hx11
    refine la_gcallU (v := (Value.bool r6)) rfl (g_true rfl rfl rfl rfl) rfl (fun hc => (r_callF (vs := []) rfl ok_16 trivial)) (fun hc => (c_law01_examples (Dj F c6) w11 hI.lt trivial r6 (hx11 hc)).mono fun _ _ k => ⟨k.1, k.2.1⟩) ?_
    intro w12 hx12; replace hI := hI.ext hx12
    refine a_q rfl rfl rfl (fun w' => (y_and rfl (ev_tmp rfl rfl) (ev_tmp rfl rfl))) ?_
    refine a_q rfl rfl rfl (fun w' => (y_assign rfl (ev_tmp rfl rfl))) ?_
    refine a_nil ?_
    refine k_next (e := [(4, (Value.bool ((((decide (r4 = r5)) && ((decide (r2.1.N = r3.1.N)) && (decide (r2.1.D = r3.1.D)))) && (decide (r2.2 = r3.2))) && r6)))]) ⟨rfl, trivial⟩ ?_
    refine c_ret ?_
    obtain rfl := some_inj h
    exact q_ret (vs := [(Value.bool ((((decide (r4 = r5)) && ((decide (r2.1.N = r3.1.N)) && (decide (r2.1.D = r3.1.D)))) && (decide (r2.2 = r3.2))) && r6))]) Tryd.results7 ⟨ev_tmp rfl rfl, trivial⟩ ⟨rfl, hI.ext0, hI.fin trivial⟩

set_option maxRecDepth 100000 in
set_option maxHeartbeats 4000000 in
theorem c_law01_FracRoundTrip (F : NP) (w0 : World) (hF : ∀ k, F k → k < w0.heap.size) (n1 : Int) (d1 : Int) (s1 : List UInt8) (hc : AllCl [clPow10] F w0) (r : Bool)
    (h : m_law01_FracRoundTrip n1 d1 s1 = some r) :
    Calls Tryd.prog 8 #[(Value.int .i64 n1), (Value.int .i64 d1), (str s1)] w0 fun e w => e = .returned (Value.bool r) ∧ Ext w0 w ∧ AllCl [] F w := by
  refine ofEnter (R := fun v w => v = (Value.bool r) ∧ Ext w0 w ∧ AllCl [] F w) (enter (l := [(Value.int .i64 n1), (Value.int .i64 d1), (str s1)]) Tryd.func8 rfl Tryd.ntmps8 rfl ?_) ?_
  rotate_left
  · rintro _ w ⟨rfl, k1, k2⟩; exact ⟨rfl, k1, k2⟩
  have hI := Bun.start hF hc
  clear hc
  rw [m_law01_FracRoundTrip] at h
  refine c_seq ?_
  refine c_region rfl ?_
  refine s_q rfl rfl (y_assign rfl ev_const) ?_
  refine s_nil ?_
  refine k_next (e := [(0, (Value.int .i64 n1)), (1, (Value.int .i64 d1)), (2, (str s1))]) ⟨rfl, rfl, rfl, trivial⟩ ?_
  refine c_seq ?_
  refine c_seq ?_
  refine c_region rfl ?_
  refine s_q rfl rfl (y_move rfl (ev_tmp rfl rfl)) ?_
  refine s_q rfl rfl (y_lens rfl Tryd.underlying9 (ev_tmp rfl rfl)) ?_
  refine s_q rfl rfl (y_gtr rfl (ev_tmp rfl rfl) ev_const) ?_
  refine s_nil ?_
  refine k_next (e := [(0, (Value.int .i64 n1)), (1, (Value.int .i64 d1)), (2, (str s1)), (15, (Value.bool (decide (200 < (s1.length : Int)))))]) ⟨rfl, rfl, rfl, rfl, trivial⟩ ?_
  refine c_cond (b := decide (200 < (s1.length : Int))) (ev_tmp rfl rfl) (fun hb => ?_) (fun hb => ?_)
  · replace h := ite_t hb h
    refine c_seq ?_
    refine c_region rfl ?_
    obtain ⟨r1, hx1, h⟩ := bnd_some h
    refine s_call rfl rfl (r_callF (vs := []) rfl ok_16 trivial) (Calls.mono (c_law01_examples (Dj F noM) w0 hI.lt trivial r1 hx1) ?_)
    rintro _ w1 ⟨rfl, hx2, hl1⟩
    refine ⟨_, rfl, ?_⟩
    replace hI := (hI.ext hx2)
    refine s_q rfl rfl (y_assign rfl (ev_tmp rfl rfl)) ?_
    refine s_nil ?_
    refine k_next (e := [(6, (Value.bool r1))]) ⟨rfl, trivial⟩ ?_
    refine c_ret ?_
    obtain rfl := some_inj h
    exact q_ret (vs := [(Value.bool r1)]) Tryd.results8 ⟨ev_tmp rfl rfl, trivial⟩ ⟨rfl, hI.ext0, hI.fin trivial⟩
  · replace h := ite_f hb h
    refine c_skip ?_
    refine k_next (e := [(0, (Value.int .i64 n1)), (1, (Value.int .i64 d1)), (2, (str s1))]) ⟨rfl, rfl, rfl, trivial⟩ ?_
    refine c_join (α := Unit) (fun _ => ⟨54, []⟩) (fun _ => [(2, (str s1))]) (fun _ => fun w => ∃ C, Bun noM F w0 C w [] [clPow10] ∧ m_law01_FracRoundTrip_j1 s1 = some r) ?_ ?_
    · clear h hI; rintro _ w2 ⟨c1, hI, h⟩
      try dsimp only at hI h
      rw [m_law01_FracRoundTrip_j1] at h
      refine c_sub (e := [(2, (str s1))]) ⟨rfl, trivial⟩ ?_
      refine c_seq ?_
      refine c_region rfl ?_
      refine s_q rfl rfl (y_move rfl (ev_tmp rfl rfl)) ?_
      obtain ⟨r2, hx3, h⟩ := bnd_some h
      refine s_call rfl rfl (r_callF (vs := [(str s1)]) rfl ok_22 ⟨(ev_tmp rfl rfl), trivial⟩) (Calls.mono (c_frac_Parse (Dj F c1) w2 hI.lt s1 trivial r2 hx3) ?_)
      rintro _ w3 ⟨rfl, hx4, hl2⟩
      refine ⟨_, rfl, ?_⟩
      replace hI := (hI.ext hx4)
      refine s_q rfl rfl (y_move rfl (ev_tmp rfl rfl)) ?_
      refine s_q rfl rfl (y_extract rfl (ev_tmp rfl rfl) rfl) ?_
      refine s_q rfl rfl (y_extract rfl (ev_tmp rfl rfl) rfl) ?_
      refine l_alloc (cs := #[(Value.int .i64 0), (Value.int .i64 0)]) hI rfl rfl rfl zero_23 rfl ?_
      clear hI; intro b1 c2 w4 hI
      refine l_store (new := [(Value.int .i64 r2.1.N), (Value.int .i64 r2.1.D)]) (cs' := #[(Value.int .i64 r2.1.N), (Value.int .i64 r2.1.D)]) hI .z rfl rfl rfl (ev_tmp rfl rfl) (ev_tmp rfl rfl) rfl size_23 rfl rfl rfl ?_
      clear hI; intro c3 w5 hI
      refine s_q rfl rfl (y_assign rfl (ev_tmp rfl rfl)) ?_
      refine s_nil ?_
      refine k_next (e := [(2, (str s1)), (11, (Value.pointer (some ⟨b1, 0, none⟩))), (12, (Value.int .i64 r2.2))]) ⟨rfl, rfl, rfl, trivial⟩ ?_
      refine c_seq ?_
      refine c_region rfl ?_
      refine s_q rfl rfl (y_move rfl (ev_tmp rfl rfl)) ?_
      refine s_q rfl rfl (y_neq rfl (ev_tmp rfl rfl) ev_const) ?_
      refine s_q rfl rfl (y_move rfl (ev_tmp rfl rfl)) ?_
      refine s_gval (g_false rfl rfl rfl rfl) rfl (fun hc => (y_loadN (l := [(Value.int .i64 r2.1.N), (Value.int .i64 r2.1.D)]) rfl (ev_tmp rfl rfl) Tryd.underlying23 rfl size_23 (CellsAt.of_blk (hI.blk .z) rfl))) ?_
      obtain ⟨r3, hx5, h⟩ := bnd_some h
      replace hx5 := gd_some hx5
      refine s_gcallU (v := (str r3)) (g_false rfl rfl rfl rfl) rfl (fun hc => (r_callF (vs := [(Value.agg #[(Value.int .i64 r2.1.N), (Value.int .i64 r2.1.D)])]) rfl ok_24 ⟨(ev_gv (ev_tmp rfl rfl) hc), trivial⟩)) (fun hc => (c_frac_Format (Dj F c3) w5 hI.lt r2.1 ⟨(hI.get .z), trivial⟩ r3 (hx5 hc)).mono fun _ _ k => ⟨k.1, k.2.1⟩) ?_
      intro w6 hx6; replace hI := hI.ext hx6
      refine s_gval (g_false rfl rfl rfl rfl) rfl (fun hc => (y_move rfl (ev_tmp rfl rfl))) ?_
      refine s_gval (g_false rfl rfl rfl rfl) rfl (fun hc => (y_eqs rfl (ev_gv (ev_tmp rfl rfl) hc) (ev_gv (ev_tmp rfl rfl) hc))) ?_
      refine s_q rfl rfl (y_or rfl (ev_tmp rfl rfl) (ev_tmp rfl rfl)) ?_
      refine s_q rfl rfl (y_move rfl (ev_tmp rfl rfl)) ?_
      obtain ⟨r4, hx7, h⟩ := bnd_some h
      replace hx7 := gd_some hx7
      refine s_gcallU (v := (Value.bool r4)) (g_true rfl rfl rfl rfl) rfl (fun hc => (r_callF (vs := []) rfl ok_16 trivial)) (fun hc => (c_law01_examples (Dj F c3) w6 hI.lt trivial r4 (hx7 hc)).mono fun _ _ k => ⟨k.1, k.2.1⟩) ?_
      intro w7 hx8; replace hI := hI.ext hx8
      refine s_q rfl rfl (y_and rfl (ev_tmp rfl rfl) (ev_tmp rfl rfl)) ?_
      refine s_q rfl rfl (y_assign rfl (ev_tmp rfl rfl)) ?_
      refine s_nil ?_
      refine k_next (e := [(6, (Value.bool (((!decide (r2.2 = 0)) || (decide (r3 = s1))) && r4)))]) ⟨rfl, trivial⟩ ?_
      refine c_ret ?_
      obtain rfl := some_inj h
      exact q_ret (vs := [(Value.bool (((!decide (r2.2 = 0)) || (decide (r3 = s1))) && r4))]) Tryd.results8 ⟨ev_tmp rfl rfl, trivial⟩ ⟨rfl, hI.ext0, hI.fin trivial⟩
    · skip
      refine c_seq ?_
      refine c_region rfl ?_
      refine s_q rfl rfl (y_move rfl (ev_tmp rfl rfl)) ?_
      refine s_q rfl rfl (y_move rfl (ev_tmp rfl rfl)) ?_
      obtain ⟨r5, hx9, h⟩ := bnd_some h
      refine s_call rfl rfl (r_callF (vs := [(Value.int .i64 n1), (Value.int .i64 d1)]) rfl ok_12 ⟨(ev_tmp rfl rfl), ⟨(ev_tmp rfl rfl), trivial⟩⟩) (Calls.mono (c_frac_New (Dj F noM) w0 hI.lt n1 d1 trivial r5 hx9) ?_)
      rintro _ w8 ⟨rfl, hx10, hl5⟩
      refine ⟨_, rfl, ?_⟩
      replace hI := (hI.ext hx10)
      refine s_q rfl rfl (y_move rfl (ev_tmp rfl rfl)) ?_
      refine s_q rfl rfl (y_extract rfl (ev_tmp rfl rfl) rfl) ?_
      refine s_q rfl rfl (y_extract rfl (ev_tmp rfl rfl) rfl) ?_
      refine l_alloc (cs := #[(Value.int .i64 0), (Value.int .i64 0)]) hI rfl rfl rfl zero_23 rfl ?_
      clear hI; intro b2 c4 w9 hI
      refine l_store (new := [(Value.int .i64 r5.1.N), (Value.int .i64 r5.1.D)]) (cs' := #[(Value.int .i64 r5.1.N), (Value.int .i64 r5.1.D)]) hI .z rfl rfl rfl (ev_tmp rfl rfl) (ev_tmp rfl rfl) rfl size_23 rfl rfl rfl ?_
      clear hI; intro c5 w10 hI
      refine s_q rfl rfl (y_assign rfl (ev_tmp rfl rfl)) ?_
      refine s_nil ?_
      refine k_next (e := [(2, (str s1)), (7, (Value.pointer (some ⟨b2, 0, none⟩))), (8, (Value.int .i64 r5.2))]) ⟨rfl, rfl, rfl, trivial⟩ ?_
      refine c_seq ?_
      refine c_region rfl ?_
      refine s_q rfl rfl (y_move rfl (ev_tmp rfl rfl)) ?_
      refine s_q rfl rfl (y_eql rfl (ev_tmp rfl rfl) ev_const) ?_
      refine s_nil ?_
      refine k_next (e := [(2, (str s1)), (7, (Value.pointer (some ⟨b2, 0, none⟩))), (24, (Value.bool (decide (r5.2 = 0))))]) ⟨rfl, rfl, rfl, trivial⟩ ?_
      refine c_cond (b := decide (r5.2 = 0)) (ev_tmp rfl rfl) (fun hb => ?_) (fun hb => ?_)
      · replace h := ite_t hb h
        refine c_seq ?_
        refine c_region rfl ?_
        refine s_q rfl rfl (y_loadN (l := [(Value.int .i64 r5.1.N), (Value.int .i64 r5.1.D)]) rfl (ev_tmp rfl rfl) Tryd.underlying23 rfl size_23 (CellsAt.of_blk (hI.blk .z) rfl)) ?_
        obtain ⟨r6, hx11, h⟩ := bnd_some h
        refine s_call rfl rfl (r_callF (vs := [(Value.agg #[(Value.int .i64 r5.1.N), (Value.int .i64 r5.1.D)])]) rfl ok_24 ⟨(ev_tmp rfl rfl), trivial⟩) (Calls.mono (c_frac_Format (Dj F c5) w10 hI.lt r5.1 ⟨(hI.get .z), trivial⟩ r6 hx11) ?_)
        rintro _ w11 ⟨rfl, hx12, hl6⟩
        refine ⟨_, rfl, ?_⟩
        replace hI := (hI.ext hx12)
        obtain ⟨r7, hx13, h⟩ := bnd_some h
        refine s_call rfl rfl (r_callF (vs := [(str r6)]) rfl ok_22 ⟨(ev_tmp rfl rfl), trivial⟩) (Calls.mono (c_frac_Parse (Dj F c5) w11 hI.lt r6 trivial r7 hx13) ?_)
        rintro _ w12 ⟨rfl, hx14, hl7⟩
        refine ⟨_, rfl, ?_⟩
        replace hI := (hI.ext hx14)
        refine s_q rfl rfl (y_move rfl (ev_tmp rfl rfl)) ?_
        refine s_q rfl rfl (y_extract rfl (ev_tmp rfl rfl) rfl) ?_
        refine s_q rfl rfl (y_extract rfl (ev_tmp rfl rfl) rfl) ?_
        refine l_alloc (cs := #[(Value.int .i64 0), (Value.int .i64 0)]) hI rfl rfl rfl zero_23 rfl ?_
        clear hI; intro b3 c6 w13 hI
        refine l_store (new := [(Value.int .i64 r7.1.N), (Value.int .i64 r7.1.D)]) (cs' := #[(Value.int .i64 r7.1.N), (Value.int .i64 r7.1.D)]) hI .z rfl rfl rfl (ev_tmp rfl rfl) (ev_tmp rfl rfl) rfl size_23 rfl rfl rfl ?_
        clear hI; intro c7 w14 hI
        refine s_q rfl rfl (y_assign rfl (ev_tmp rfl rfl)) ?_
        refine s_nil ?_
        refine k_next (e := [(2, (str s1)), (7, (Value.pointer (some ⟨b2, 0, none⟩))), (9, (Value.pointer (some ⟨b3, 0, none⟩))), (10, (Value.int .i64 r7.2))]) ⟨rfl, rfl, rfl, rfl, trivial⟩ ?_
        refine c_seq ?_
        refine c_region rfl ?_
        refine s_q rfl rfl (y_loadN (l := [(Value.int .i64 r7.1.N), (Value.int .i64 r7.1.D)]) rfl (ev_tmp rfl rfl) Tryd.underlying23 rfl size_23 (CellsAt.of_blk (hI.blk .z) rfl)) ?_
        refine s_q rfl rfl (y_loadN (l := [(Value.int .i64 r5.1.N), (Value.int .i64 r5.1.D)]) rfl (ev_tmp rfl rfl) Tryd.underlying23 rfl size_23 (CellsAt.of_blk (hI.blk (.s .z)) rfl)) ?_
        refine s_q rfl rfl (y_bin rfl (ev_tmp rfl rfl) (ev_tmp rfl rfl) (eqstruct_23n ..) (eqguard_23 ..)) ?_
        refine s_q rfl rfl (y_move rfl (ev_tmp rfl rfl)) ?_
        refine s_gval (g_false rfl rfl rfl rfl) rfl (fun hc => (y_move rfl (ev_tmp rfl rfl))) ?_
        refine s_gval (g_false rfl rfl rfl rfl) rfl (fun hc => (y_neq rfl (ev_gv (ev_tmp rfl rfl) hc) ev_const)) ?_
        refine s_q rfl rfl (y_or rfl (ev_tmp rfl rfl) (ev_tmp rfl rfl)) ?_
        refine s_nil ?_
        refine k_next (e := [(2, (str s1)), (37, (Value.bool ((!((decide (r7.1.N = r5.1.N)) && (decide (r7.1.D = r5.1.D)))) || (!decide (r7.2 = 0)))))]) ⟨rfl, rfl, trivial⟩ ?_
        refine c_cond (b := (!((decide (r7.1.N = r5.1.N)) && (decide (r7.1.D = r5.1.D)))) || (!decide (r7.2 = 0))) (ev_tmp rfl rfl) (fun hb => ?_) (fun hb => ?_)
        · replace h := ite_t hb h
          refine c_seq ?_
          refine c_region rfl ?_
          refine s_q rfl rfl (y_assign rfl ev_const) ?_
          refine s_nil ?_
          refine k_next (e := [(6, (Value.bool false))]) ⟨rfl, trivial⟩ ?_
          refine c_ret ?_
          obtain rfl := some_inj h
          exact q_ret (vs := [(Value.bool false)]) Tryd.results8 ⟨ev_tmp rfl rfl, trivial⟩ ⟨rfl, hI.ext0, hI.fin trivial⟩
        · replace h := ite_f hb h
          refine c_skip ?_
          exact k_join () ⟨rfl, trivial⟩ ⟨_, hI.arr .n ⟨.z, trivial⟩, h⟩ rfl
      · replace h := ite_f hb h
        refine c_skip ?_
        exact k_join () ⟨rfl, trivial⟩ ⟨_, hI.arr .n ⟨.z, trivial⟩, h⟩ rfl

set_option maxRecDepth 100000 in
set_option maxHeartbeats 4000000 in
theorem c_frac_Mul (F : NP) (w0 : World) (hF : ∀ k, F k → k < w0.heap.size) (a1 : GVal) (b1 : GVal) (hc : AllCl [] F w0) (r : GVal × Int)
    (h : m_frac_Mul a1 b1 = some r) :
    Calls Tryd.prog 27 #[(Value.agg #[(Value.int .i64 a1.N), (Value.int .i64 a1.D)]), (Value.agg #[(Value.int .i64 b1.N), (Value.int .i64 b1.D)])] w0 fun e w => e = .returned (Value.tuple #[(Value.agg #[(Value.int .i64 r.1.N), (Value.int .i64 r.1.D)]), (Value.int .i64 r.2)]) ∧ Ext w0 w ∧ AllCl [] F w := by
  refine ofEnter (R := fun v w => v = (Value.tuple #[(Value.agg #[(Value.int .i64 r.1.N), (Value.int .i64 r.1.D)]), (Value.int .i64 r.2)]) ∧ Ext w0 w ∧ AllCl [] F w) (enter (l := [(Value.agg #[(Value.int .i64 a1.N), (Value.int .i64 a1.D)]), (Value.agg #[(Value.int .i64 b1.N), (Value.int .i64 b1.D)])]) Tryd.func27 rfl Tryd.ntmps27 rfl ?_) ?_
  rotate_left
  · rintro _ w ⟨rfl, k1, k2⟩; exact ⟨rfl, k1, k2⟩
  have hI := Bun.start hF hc
  clear hc
  rw [m_frac_Mul] at h
  refine c_seq ?_
  refine c_region rfl ?_
  refine l_box (v := (Value.agg #[(Value.int .i64 a1.N), (Value.int .i64 a1.D)])) (cs := #[(Value.int .i64 a1.N), (Value.int .i64 a1.D)]) hI rfl rfl rfl (ev_tmp rfl rfl) rfl ?_
  clear hI; intro b2 c1 w1 hI
  obtain ⟨c2, hI⟩ := hI.relBox .z
  refine l_box (v := (Value.agg #[(Value.int .i64 b1.N), (Value.int .i64 b1.D)])) (cs := #[(Value.int .i64 b1.N), (Value.int .i64 b1.D)]) hI rfl rfl rfl (ev_tmp rfl rfl) rfl ?_
  clear hI; intro b3 c3 w2 hI
  obtain ⟨c4, hI⟩ := hI.relBox .z
  refine l_alloc (cs := #[(Value.int .i64 0), (Value.int .i64 0)]) hI rfl rfl rfl zero_23 rfl ?_
  clear hI; intro b4 c5 w3 hI
  refine s_q rfl rfl (y_assign rfl ev_const) ?_
  refine s_nil ?_
  refine k_next (e := [(2, (Value.pointer (some ⟨b2, 0, none⟩))), (3, (Value.pointer (some ⟨b3, 0, none⟩))), (4, (Value.pointer (some ⟨b4, 0, none⟩)))]) ⟨rfl, rfl, rfl, trivial⟩ ?_
  refine c_seq ?_
  refine c_seq ?_
  refine c_region rfl ?_
  refine s_q rfl rfl (y_loadN (l := [(Value.int .i64 a1.N), (Value.int .i64 a1.D)]) rfl (ev_tmp rfl rfl) Tryd.underlying23 rfl size_23 (hI.kblk (l := [(Value.int .i64 a1.N), (Value.int .i64 a1.D)]) (.s .z) rfl).1) ?_
  obtain ⟨r1, hx1, h⟩ := bnd_some h
  refine s_call rfl rfl (r_callF (vs := [(Value.agg #[(Value.int .i64 a1.N), (Value.int .i64 a1.D)])]) rfl ok_14 ⟨(ev_tmp rfl rfl), trivial⟩) (Calls.mono (c_frac_Valid (Dj F c5) w3 hI.lt a1 trivial r1 hx1) ?_)
  rintro _ w4 ⟨rfl, hx2, hl1⟩
  refine ⟨_, rfl, ?_⟩
  replace hI := (hI.ext hx2)
  refine s_q rfl rfl (y_not rfl (ev_tmp rfl rfl)) ?_
  refine s_q rfl rfl (y_move rfl (ev_tmp rfl rfl)) ?_
  refine s_gval (g_false rfl rfl rfl rfl) rfl (fun hc => (y_loadN (l := [(Value.int .i64 b1.N), (Value.int .i64 b1.D)]) rfl (ev_tmp rfl rfl) Tryd.underlying23 rfl size_23 (hI.kblk (l := [(Value.int .i64 b1.N), (Value.int .i64 b1.D)]) .z rfl).1)) ?_
  obtain ⟨r2, hx3, h⟩ := bnd_some h
  replace hx3 := gd_some hx3
  refine s_gcallU (v := (Value.bool r2)) (g_false rfl rfl rfl rfl) rfl (fun hc => (r_callF (vs := [(Value.agg #[(Value.int .i64 b1.N), (Value.int .i64 b1.D)])]) rfl ok_14 ⟨(ev_gv (ev_tmp rfl rfl) hc), trivial⟩)) (fun hc => (c_frac_Valid (Dj F c5) w4 hI.lt b1 trivial r2 (hx3 hc)).mono fun _ _ k => ⟨k.1, k.2.1⟩) ?_
  intro w5 hx4; replace hI := hI.ext hx4
  refine s_gval (g_false rfl rfl rfl rfl) rfl (fun hc => (y_not rfl (ev_gv (ev_tmp rfl rfl) hc))) ?_
  refine s_q rfl rfl (y_or rfl (ev_tmp rfl rfl) (ev_tmp rfl rfl)) ?_
  refine s_nil ?_
  refine k_next (e := [(2, (Value.pointer (some ⟨b2, 0, none⟩))), (3, (Value.pointer (some ⟨b3, 0, none⟩))), (4, (Value.pointer (some ⟨b4, 0, none⟩))), (13, (Value.bool ((!r1) || (!r2))))]) ⟨rfl, rfl, rfl, rfl, trivial⟩ ?_
  refine c_cond (b := (!r1) || (!r2)) (ev_tmp rfl rfl) (fun hb => ?_) (fun hb => ?_)
  · replace h := ite_t hb h
    refine c_seq ?_
    refine c_region rfl ?_
    refine s_q rfl rfl (y_build (vs := []) (cs := #[(Value.int .i64 0), (Value.int .i64 0)]) rfl trivial (by kernel_rfl)) ?_
    refine l_store (new := [(Value.int .i64 0), (Value.int .i64 0)]) (cs' := #[(Value.int .i64 0), (Value.int .i64 0)]) hI .z rfl rfl rfl (ev_tmp rfl rfl) (ev_tmp rfl rfl) rfl size_23 rfl rfl rfl ?_
    clear hI; intro c6 w6 hI
    refine s_q rfl rfl (y_assign rfl ev_const) ?_
    refine s_nil ?_
    refine k_next (e := [(4, (Value.pointer (some ⟨b4, 0, none⟩))), (5, (Value.int .i64 1))]) ⟨rfl, rfl, trivial⟩ ?_
    refine c_ret ?_
    obtain rfl := some_inj h
    exact q_ret (vs := [(Value.agg #[(Value.int .i64 0), (Value.int .i64 0)]), (Value.int .i64 1)]) Tryd.results27 ⟨⟨_, ev_tmp rfl rfl, load_agg (l := [(Value.int .i64 0), (Value.int .i64 0)]) Tryd.underlying23 rfl size_23 (CellsAt.of_blk (hI.blk .z) rfl)⟩, ⟨ev_tmp rfl rfl, trivial⟩⟩ ⟨rfl, hI.ext0, hI.fin trivial⟩
  · replace h := ite_f hb h
    refine c_skip ?_
    refine k_next (e := [(2, (Value.pointer (some ⟨b2, 0, none⟩))), (3, (Value.pointer (some ⟨b3, 0, none⟩))), (4, (Value.pointer (some ⟨b4, 0, none⟩)))]) ⟨rfl, rfl, rfl, trivial⟩ ?_
    refine c_seq ?_
    refine c_region rfl ?_
    refine s_q rfl rfl (y_fieldAddr rfl (ev_tmp rfl rfl) Tryd.underlying23 rfl size_2 rfl) ?_
    refine s_q rfl rfl (y_load1 (v := (Value.int .i64 a1.N)) rfl (ev_tmp rfl rfl) Tryd.underlying2 rfl (hI.kblk (l := [(Value.int .i64 a1.N)]) (.s .z) rfl).1) ?_
    refine s_q rfl rfl (y_fieldAddr rfl (ev_tmp rfl rfl) Tryd.underlying23 rfl size_2 rfl) ?_
    refine s_q rfl rfl (y_load1 (v := (Value.int .i64 b1.N)) rfl (ev_tmp rfl rfl) Tryd.underlying2 rfl (hI.kblk (l := [(Value.int .i64 b1.N)]) .z rfl).1) ?_
    refine s_q rfl rfl (y_mul rfl (ev_tmp rfl rfl) (ev_tmp rfl rfl)) ?_
    refine s_q rfl rfl (y_fieldAddr rfl (ev_tmp rfl rfl) Tryd.underlying23 rfl size_2 rfl) ?_
    refine s_q rfl rfl (y_load1 (v := (Value.int .i64 a1.D)) rfl (ev_tmp rfl rfl) Tryd.underlying2 rfl (hI.kblk (l := [(Value.int .i64 a1.D)]) (.s .z) rfl).1) ?_
    refine s_q rfl rfl (y_fieldAddr rfl (ev_tmp rfl rfl) Tryd.underlying23 rfl size_2 rfl) ?_
    refine s_q rfl rfl (y_load1 (v := (Value.int .i64 b1.D)) rfl (ev_tmp rfl rfl) Tryd.underlying2 rfl (hI.kblk (l := [(Value.int .i64 b1.D)]) .z rfl).1) ?_
    refine s_q rfl rfl (y_mul rfl (ev_tmp rfl rfl) (ev_tmp rfl rfl)) ?_
    obtain ⟨r3, hx5, h⟩ := bnd_some h
    refine s_call rfl rfl (r_callF (vs := [(Value.int .i64 (wi64 (a1.N * b1.N))), (Value.int .i64 (wi64 (a1.D * b1.D)))]) rfl ok_12 ⟨(ev_tmp rfl rfl), ⟨(ev_tmp rfl rfl), trivial⟩⟩) (Calls.mono (c_frac_New (Dj F c5) w5 hI.lt (wi64 (a1.N * b1.N)) (wi64 (a1.D * b1.D)) trivial r3 hx5) ?_)
    rintro _ w7 ⟨rfl, hx6, hl3⟩
    refine ⟨_, rfl, ?_⟩
    replace hI := (hI.ext hx6)
    refine s_q rfl rfl (y_extract rfl (ev_tmp rfl rfl) rfl) ?_
    refine s_q rfl rfl (y_extract rfl (ev_tmp rfl rfl) rfl) ?_
    refine l_store (new := [(Value.int .i64 r3.1.N), (Value.int .i64 r3.1.D)]) (cs' := #[(Value.int .i64 r3.1.N), (Value.int .i64 r3.1.D)]) hI .z rfl rfl rfl (ev_tmp rfl rfl) (ev_tmp rfl rfl) rfl size_23 rfl rfl rfl ?_
    clear hI; intro c7 w8 hI
    refine s_q rfl rfl (y_assign rfl (ev_tmp rfl rfl)) ?_
    refine s_nil ?_
    refine k_next (e := [(4, (Value.pointer (some ⟨b4, 0, none⟩))), (5, (Value.int .i64 r3.2))]) ⟨rfl, rfl, trivial⟩ ?_
    refine c_ret ?_
    obtain rfl := some_inj h
    exact q_ret (vs := [(Value.agg #[(Value.int .i64 r3.1.N), (Value.int .i64 r3.1.D)]), (Value.int .i64 r3.2)]) Tryd.results27 ⟨⟨_, ev_tmp rfl rfl, load_agg (l := [(Value.int .i64 r3.1.N), (Value.int .i64 r3.1.D)]) Tryd.underlying23 rfl size_23 (CellsAt.of_blk (hI.blk .z) rfl)⟩, ⟨ev_tmp rfl rfl, trivial⟩⟩ ⟨rfl, hI.ext0, hI.fin trivial⟩

set_option maxRecDepth 100000 in
set_option maxHeartbeats 4000000 in
theorem c_frac_Sub (F : NP) (w0 : World) (hF : ∀ k, F k → k < w0.heap.size) (a1 : GVal) (b1 : GVal) (hc : AllCl [] F w0) (r : GVal × Int)
    (h : m_frac_Sub a1 b1 = some r) :
    Calls Tryd.prog 28 #[(Value.agg #[(Value.int .i64 a1.N), (Value.int .i64 a1.D)]), (Value.agg #[(Value.int .i64 b1.N), (Value.int .i64 b1.D)])] w0 fun e w => e = .returned (Value.tuple #[(Value.agg #[(Value.int .i64 r.1.N), (Value.int .i64 r.1.D)]), (Value.int .i64 r.2)]) ∧ Ext w0 w ∧ AllCl [] F w := by
  refine ofEnter (R := fun v w => v = (Value.tuple #[(Value.agg #[(Value.int .i64 r.1.N), (Value.int .i64 r.1.D)]), (Value.int .i64 r.2)]) ∧ Ext w0 w ∧ AllCl [] F w) (enter (l := [(Value.agg #[(Value.int .i64 a1.N), (Value.int .i64 a1.D)]), (Value.agg #[(Value.int .i64 b1.N), (Value.int .i64 b1.D)])]) Tryd.func28 rfl Tryd.ntmps28 rfl ?_) ?_
  rotate_left
  · rintro _ w ⟨rfl, k1, k2⟩; exact ⟨rfl, k1, k2⟩
  have hI := Bun.start hF hc
  clear hc
  rw [m_frac_Sub] at h
  refine c_seq ?_
  refine c_region rfl ?_
  refine l_box (v := (Value.agg #[(Value.int .i64 a1.N), (Value.int .i64 a1.D)])) (cs := #[(Value.int .i64 a1.N), (Value.int .i64 a1.D)]) hI rfl rfl rfl (ev_tmp rfl rfl) rfl ?_
  clear hI; intro b2 c1 w1 hI
  obtain ⟨c2, hI⟩ := hI.relBox .z
  refine l_box (v := (Value.agg #[(Value.int .i64 b1.N), (Value.int .i64 b1.D)])) (cs := #[(Value.int .i64 b1.N), (Value.int .i64 b1.D)]) hI rfl rfl rfl (ev_tmp rfl rfl) rfl ?_
  clear hI; intro b3 c3 w2 hI
  obtain ⟨c4, hI⟩ := hI.relBox .z
  refine l_alloc (cs := #[(Value.int .i64 0), (Value.int .i64 0)]) hI rfl rfl rfl zero_23 rfl ?_
  clear hI; intro b4 c5 w3 hI
  refine s_q rfl rfl (y_assign rfl ev_const) ?_
  refine s_nil ?_
  refine k_next (e := [(2, (Value.pointer (some ⟨b2, 0, none⟩))), (3, (Value.pointer (some ⟨b3, 0, none⟩))), (4, (Value.pointer (some ⟨b4, 0, none⟩)))]) ⟨rfl, rfl, rfl, trivial⟩ ?_
  refine c_seq ?_
  refine c_seq ?_
  refine c_region rfl ?_
  refine s_q rfl rfl (y_loadN (l := [(Value.int .i64 a1.N), (Value.int .i64 a1.D)]) rfl (ev_tmp rfl rfl) Tryd.underlying23 rfl size_23 (hI.kblk (l := [(Value.int .i64 a1.N), (Value.int .i64 a1.D)]) (.s .z) rfl).1) ?_
  obtain ⟨r1, hx1, h⟩ := bnd_some h
  refine s_call rfl rfl (r_callF (vs := [(Value.agg #[(Value.int .i64 a1.N), (Value.int .i64 a1.D)])]) rfl ok_14 ⟨(ev_tmp rfl rfl), trivial⟩) (Calls.mono (c_frac_Valid (Dj F c5) w3 hI.lt a1 trivial r1 hx1) ?_)
  rintro _ w4 ⟨rfl, hx2, hl1⟩
  refine ⟨_, rfl, ?_⟩
  replace hI := (hI.ext hx2)
  refine s_q rfl rfl (y_not rfl (ev_tmp rfl rfl)) ?_
  refine s_q rfl rfl (y_move rfl (ev_tmp rfl rfl)) ?_
  refine s_gval (g_false rfl rfl rfl rfl) rfl (fun hc => (y_loadN (l := [(Value.int .i64 b1.N), (Value.int .i64 b1.D)]) rfl (ev_tmp rfl rfl) Tryd.underlying23 rfl size_23 (hI.kblk (l := [(Value.int .i64 b1.N), (Value.int .i64 b1.D)]) .z rfl).1)) ?_
  obtain ⟨r2, hx3, h⟩ := bnd_some h
  replace hx3 := gd_some hx3
  refine s_gcallU (v := (Value.bool r2)) (g_false rfl rfl rfl rfl) rfl (fun hc => (r_callF (vs := [(Value.agg #[(Value.int .i64 b1.N), (Value.int .i64 b1.D)])]) rfl ok_14 ⟨(ev_gv (ev_tmp rfl rfl) hc), trivial⟩)) (fun hc => (c_frac_Valid (Dj F c5) w4 hI.lt b1 trivial r2 (hx3 hc)).mono fun _ _ k => ⟨k.1, k.2.1⟩) ?_
  intro w5 hx4; replace hI := hI.ext hx4
  refine s_gval (g_false rfl rfl rfl rfl) rfl (fun hc => (y_not rfl (ev_gv (ev_tmp rfl rfl) hc))) ?_
  refine s_q rfl rfl (y_or rfl (ev_tmp rfl rfl) (ev_tmp rfl rfl)) ?_
  refine s_nil ?_
  refine k_next (e := [(2, (Value.pointer (some ⟨b2, 0, none⟩))), (3, (Value.pointer (some ⟨b3, 0, none⟩))), (4, (Value.pointer (some ⟨b4, 0, none⟩))), (13, (Value.bool ((!r1) || (!r2))))]) ⟨rfl, rfl, rfl, rfl, trivial⟩ ?_
  refine c_cond (b := (!r1) || (!r2)) (ev_tmp rfl rfl) (fun hb => ?_) (fun hb => ?_)
  · replace h := ite_t hb h
    refine c_seq ?_
    refine c_region rfl ?_
    refine s_q rfl rfl (y_build (vs := []) (cs := #[(Value.int .i64 0), (Value.int .i64 0)]) rfl trivial (by kernel_rfl)) ?_
    refine l_store (new := [(Value.int .i64 0), (Value.int .i64 0)]) (cs' := #[(Value.int .i64 0), (Value.int .i64 0)]) hI .z rfl rfl rfl (ev_tmp rfl rfl) (ev_tmp rfl rfl) rfl size_23 rfl rfl rfl ?_
    clear hI; intro c6 w6 hI
    refine s_q rfl rfl (y_assign rfl ev_const) ?_
    refine s_nil ?_
    refine k_next (e := [(4, (Value.pointer (some ⟨b4, 0, none⟩))), (5, (Value.int .i64 1))]) ⟨rfl, rfl, trivial⟩ ?_
    refine c_ret ?_
    obtain rfl := some_inj h
    exact q_ret (vs := [(Value.agg #[(Value.int .i64 0), (Value.int .i64 0)]), (Value.int .i64 1)]) Tryd.results28 ⟨⟨_, ev_tmp rfl rfl, load_agg (l := [(Value.int .i64 0), (Value.int .i64 0)]) Tryd.underlying23 rfl size_23 (CellsAt.of_blk (hI.blk .z) rfl)⟩, ⟨ev_tmp rfl rfl, trivial⟩⟩ ⟨rfl, hI.ext0, hI.fin trivial⟩
  · replace h := ite_f hb h
    refine c_skip ?_
    refine k_next (e := [(2, (Value.pointer (some ⟨b2, 0, none⟩))), (3, (Value.pointer (some ⟨b3, 0, none⟩))), (4, (Value.pointer (some ⟨b4, 0, none⟩)))]) ⟨rfl, rfl, rfl, trivial⟩ ?_
    refine c_seq ?_
    refine c_region rfl ?_
    refine s_q rfl rfl (y_fieldAddr rfl (ev_tmp rfl rfl) Tryd.underlying23 rfl size_2 rfl) ?_
    refine s_q rfl rfl (y_load1 (v := (Value.int .i64 a1.N)) rfl (ev_tmp rfl rfl) Tryd.underlying2 rfl (hI.kblk (l := [(Value.int .i64 a1.N)]) (.s .z) rfl).1) ?_
    refine s_q rfl rfl (y_fieldAddr rfl (ev_tmp rfl rfl) Tryd.underlying23 rfl size_2 rfl) ?_
    refine s_q rfl rfl (y_load1 (v := (Value.int .i64 b1.D)) rfl (ev_tmp rfl rfl) Tryd.underlying2 rfl (hI.kblk (l := [(Value.int .i64 b1.D)]) .z rfl).1) ?_
    refine s_q rfl rfl (y_mul rfl (ev_tmp rfl rfl) (ev_tmp rfl rfl)) ?_
    refine s_q rfl rfl (y_fieldAddr rfl (ev_tmp rfl rfl) Tryd.underlying23 rfl size_2 rfl) ?_
    refine s_q rfl rfl (y_load1 (v := (Value.int .i64 b1.N)) rfl (ev_tmp rfl rfl) Tryd.underlying2 rfl (hI.kblk (l := [(Value.int .i64 b1.N)]) .z rfl).1) ?_
    refine s_q rfl rfl (y_fieldAddr rfl (ev_tmp rfl rfl) Tryd.underlying23 rfl size_2 rfl) ?_
    refine s_q rfl rfl (y_load1 (v := (Value.int .i64 a1.D)) rfl (ev_tmp rfl rfl) Tryd.underlying2 rfl (hI.kblk (l := [(Value.int .i64 a1.D)]) (.s .z) rfl).1) ?_
    refine s_q rfl rfl (y_mul rfl (ev_tmp rfl rfl) (ev_tmp rfl rfl)) ?_
    refine s_q rfl rfl (y_sub rfl (ev_tmp rfl rfl) (ev_tmp rfl rfl)) ?_
    refine s_q rfl rfl (y_fieldAddr rfl (ev_tmp rfl rfl) Tryd.underlying23 rfl size_2 rfl) ?_
    refine s_q rfl rfl (y_load1 (v := (Value.int .i64 a1.D)) rfl (ev_tmp rfl rfl) Tryd.underlying2 rfl (hI.kblk (l := [(Value.int .i64 a1.D)]) (.s .z) rfl).1) ?_
    refine s_q rfl rfl (y_fieldAddr rfl (ev_tmp rfl rfl) Tryd.underlying23 rfl size_2 rfl) ?_
    refine s_q rfl rfl (y_load1 (v := (Value.int .i64 b1.D)) rfl (ev_tmp rfl rfl) Tryd.underlying2 rfl (hI.kblk (l := [(Value.int .i64 b1.D)]) .z rfl).1) ?_
    refine s_q rfl rfl (y_mul rfl (ev_tmp rfl rfl) (ev_tmp rfl rfl)) ?_
    obtain ⟨r3, hx5, h⟩ := bnd_some h
    refine s_call rfl rfl (r_callF (vs := [(Value.int .i64 (wi64 ((wi64 (a1.N * b1.D)) - (wi64 (b1.N * a1.D))))), (Value.int .i64 (wi64 (a1.D * b1.D)))]) rfl ok_12 ⟨(ev_tmp rfl rfl), ⟨(ev_tmp rfl rfl), trivial⟩⟩) (Calls.mono (c_frac_New (Dj F c5) w5 hI.lt (wi64 ((wi64 (a1.N * b1.D)) - (wi64 (b1.N * a1.D)))) (wi64 (a1.D * b1.D)) trivial r3 hx5) ?_)
    rintro _ w7 ⟨rfl, hx6, hl3⟩
    refine ⟨_, rfl, ?_⟩
    replace hI := (hI.ext hx6)
    refine s_q rfl rfl (y_extract rfl (ev_tmp rfl rfl) rfl) ?_
    refine s_q rfl rfl (y_extract rfl (ev_tmp rfl rfl) rfl) ?_
    refine l_store (new := [(Value.int .i64 r3.1.N), (Value.int .i64 r3.1.D)]) (cs' := #[(Value.int .i64 r3.1.N), (Value.int .i64 r3.1.D)]) hI .z rfl rfl rfl (ev_tmp rfl rfl) (ev_tmp rfl rfl) rfl size_23 rfl rfl rfl ?_
    clear hI; intro c7 w8 hI
    refine s_q rfl rfl (y_assign rfl (ev_tmp rfl rfl)) ?_
    refine s_nil ?_
    refine k_next (e := [(4, (Value.pointer (some ⟨b4, 0, none⟩))), (5, (Value.int .i64 r3.2))]) ⟨rfl, rfl, trivial⟩ ?_
    refine c_ret ?_
    obtain rfl := some_inj h
    exact q_ret (vs := [(Value.agg #[(Value.int .i64 r3.1.N), (Value.int .i64 r3.1.D)]), (Value.int .i64 r3.2)]) Tryd.results28 ⟨⟨_, ev_tmp rfl rfl, load_agg (l := [(Value.int .i64 r3.1.N), (Value.int .i64 r3.1.D)]) Tryd.underlying23 rfl size_23 (CellsAt.of_blk (hI.blk .z) rfl)⟩, ⟨ev_tmp rfl rfl, trivial⟩⟩ ⟨rfl, hI.ext0, hI.fin trivial⟩

set_option maxRecDepth 100000 in
set_option maxHeartbeats 4000000 in
theorem c_law01_FracRingLaws (F : NP) (w0 : World) (hF : ∀ k, F k → k < w0.heap.size) (a1 : GVal) (b1 : GVal) (c1 : GVal) (hc : AllCl [] F w0) (r : Bool)
    (h : m_law01_FracRingLaws a1 b1 c1 = some r) :
    Calls Tryd.prog 9 #[(Value.agg #[(Value.int .i64 a1.N), (Value.int .i64 a1.D)]), (Value.agg #[(Value.int .i64 b1.N), (Value.int .i64 b1.D)]), (Value.agg #[(Value.int .i64 c1.N), (Value.int .i64 c1.D)])] w0 fun e w => e = .returned (Value.bool r) ∧ Ext w0 w ∧ AllCl [] F w := by
  refine ofEnter (R := fun v w => v = (Value.bool r) ∧ Ext w0 w ∧ AllCl [] F w) (enter (l := [(Value.agg #[(Value.int .i64 a1.N), (Value.int .i64 a1.D)]), (Value.agg #[(Value.int .i64 b1.N), (Value.int .i64 b1.D)]), (Value.agg #[(Value.int .i64 c1.N), (Value.int .i64 c1.D)])]) Tryd.func9 rfl Tryd.ntmps9 rfl ?_) ?_
  rotate_left
  · rintro _ w ⟨rfl, k1, k2⟩; exact ⟨rfl, k1, k2⟩
  have hI := Bun.start hF hc
  clear hc
  rw [m_law01_FracRingLaws] at h
  refine c_seq ?_
  refine c_region rfl ?_
  refine l_box (v := (Value.agg #[(Value.int .i64 a1.N), (Value.int .i64 a1.D)])) (cs := #[(Value.int .i64 a1.N), (Value.int .i64 a1.D)]) hI rfl rfl rfl (ev_tmp rfl rfl) rfl ?_
  clear hI; intro b2 c2 w1 hI
  obtain ⟨c3, hI⟩ := hI.relBox .z
  refine l_box (v := (Value.agg #[(Value.int .i64 b1.N), (Value.int .i64 b1.D)])) (cs := #[(Value.int .i64 b1.N), (Value.int .i64 b1.D)]) hI rfl rfl rfl (ev_tmp rfl rfl) rfl ?_
  clear hI; intro b3 c4 w2 hI
  obtain ⟨c5, hI⟩ := hI.relBox .z
  refine l_box (v := (Value.agg #[(Value.int .i64 c1.N), (Value.int .i64 c1.D)])) (cs := #[(Value.int .i64 c1.N), (Value.int .i64 c1.D)]) hI rfl rfl rfl (ev_tmp rfl rfl) rfl ?_
  clear hI; intro b4 c6 w3 hI
  obtain ⟨c7, hI⟩ := hI.relBox .z
  refine s_q rfl rfl (y_assign rfl ev_const) ?_
  refine s_nil ?_
  refine k_next (e := [(3, (Value.pointer (some ⟨b2, 0, none⟩))), (4, (Value.pointer (some ⟨b3, 0, none⟩))), (5, (Value.pointer (some ⟨b4, 0, none⟩)))]) ⟨rfl, rfl, rfl, trivial⟩ ?_
  refine c_seq ?_
  refine c_region rfl ?_
  refine s_q rfl rfl (y_loadN (l := [(Value.int .i64 a1.N), (Value.int .i64 a1.D)]) rfl (ev_tmp rfl rfl) Tryd.underlying23 rfl size_23 (hI.kblk (l := [(Value.int .i64 a1.N), (Value.int .i64 a1.D)]) (.s (.s .z)) rfl).1) ?_
  refine s_q rfl rfl (y_loadN (l := [(Value.int .i64 b1.N), (Value.int .i64 b1.D)]) rfl (ev_tmp rfl rfl) Tryd.underlying23 rfl size_23 (hI.kblk (l := [(Value.int .i64 b1.N), (Value.int .i64 b1.D)]) (.s .z) rfl).1) ?_
  obtain ⟨r1, hx1, h⟩ := bnd_some h
  refine s_call rfl rfl (r_callF (vs := [(Value.agg #[(Value.int .i64 a1.N), (Value.int .i64 a1.D)]), (Value.agg #[(Value.int .i64 b1.N), (Value.int .i64 b1.D)])]) rfl ok_26 ⟨(ev_tmp rfl rfl), ⟨(ev_tmp rfl rfl), trivial⟩⟩) (Calls.mono (c_frac_Add (Dj F c7) w3 hI.lt a1 b1 trivial r1 hx1) ?_)
  rintro _ w4 ⟨rfl, hx2, hl1⟩
  refine ⟨_, rfl, ?_⟩
  replace hI := (hI.ext hx2)
  refine s_q rfl rfl (y_move rfl (ev_tmp rfl rfl)) ?_
  refine s_q rfl rfl (y_extract rfl (ev_tmp rfl rfl) rfl) ?_
  refine s_q rfl rfl (y_extract rfl (ev_tmp rfl rfl) rfl) ?_
  refine l_alloc (cs := #[(Value.int .i64 0), (Value.int .i64 0)]) hI rfl rfl rfl zero_23 rfl ?_
  clear hI; intro b5 c8 w5 hI
  refine l_store (new := [(Value.int .i64 r1.1.N), (Value.int .i64 r1.1.D)]) (cs' := #[(Value.int .i64 r1.1.N), (Value.int .i64 r1.1.D)]) hI .z rfl rfl rfl (ev_tmp rfl rfl) (ev_tmp rfl rfl) rfl size_23 rfl rfl rfl ?_
  clear hI; intro c9 w6 hI
  refine s_q rfl rfl (y_assign rfl (ev_tmp rfl rfl)) ?_
  refine s_nil ?_
  refine k_next (e := [(3, (Value.pointer (some ⟨b2, 0, none⟩))), (4, (Value.pointer (some ⟨b3, 0, none⟩))), (5, (Value.pointer (some ⟨b4, 0, none⟩))), (7, (Value.pointer (some ⟨b5, 0, none⟩))), (8, (Value.int .i64 r1.2))]) ⟨rfl, rfl, rfl, rfl, rfl, trivial⟩ ?_
  refine c_seq ?_
  refine c_region rfl ?_
  refine s_q rfl rfl (y_loadN (l := [(Value.int .i64 b1.N), (Value.int .i64 b1.D)]) rfl (ev_tmp rfl rfl) Tryd.underlying23 rfl size_23 (hI.kblk (l := [(Value.int .i64 b1.N), (Value.int .i64 b1.D)]) (.s .z) rfl).1) ?_
  refine s_q rfl rfl (y_loadN (l := [(Value.int .i64 a1.N), (Value.int .i64 a1.D)]) rfl (ev_tmp rfl rfl) Tryd.underlying23 rfl size_23 (hI.kblk (l := [(Value.int .i64 a1.N), (Value.int .i64 a1.D)]) (.s (.s .z)) rfl).1) ?_
  obtain ⟨r2, hx3, h⟩ := bnd_some h
  refine s_call rfl rfl (r_callF (vs := [(Value.agg #[(Value.int .i64 b1.N), (Value.int .i64 b1.D)]), (Value.agg #[(Value.int .i64 a1.N), (Value.int .i64 a1.D)])]) rfl ok_26 ⟨(ev_tmp rfl rfl), ⟨(ev_tmp rfl rfl), trivial⟩⟩) (Calls.mono (c_frac_Add (Dj F c9) w6 hI.lt b1 a1 trivial r2 hx3) ?_)
  rintro _ w7 ⟨rfl, hx4, hl2⟩
  refine ⟨_, rfl, ?_⟩
  replace hI := (hI.ext hx4)
  refine s_q rfl rfl (y_move rfl (ev_tmp rfl rfl)) ?_
  refine s_q rfl rfl (y_extract rfl (ev_tmp rfl rfl) rfl) ?_
  refine s_q rfl rfl (y_extract rfl (ev_tmp rfl rfl) rfl) ?_
  refine l_alloc (cs := #[(Value.int .i64 0), (Value.int .i64 0)]) hI rfl rfl rfl zero_23 rfl ?_
  clear hI; intro b6 c10 w8 hI
  refine l_store (new := [(Value.int .i64 r2.1.N), (Value.int .i64 r2.1.D)]) (cs' := #[(Value.int .i64 r2.1.N), (Value.int .i64 r2.1.D)]) hI .z rfl rfl rfl (ev_tmp rfl rfl) (ev_tmp rfl rfl) rfl size_23 rfl rfl rfl ?_
  clear hI; intro c11 w9 hI
  refine s_q rfl rfl (y_assign rfl (ev_tmp rfl rfl)) ?_
  refine s_nil ?_
  refine k_next (e := [(3, (Value.pointer (some ⟨b2, 0, none⟩))), (4, (Value.pointer (some ⟨b3, 0, none⟩))), (5, (Value.pointer (some ⟨b4, 0, none⟩))), (7, (Value.pointer (some ⟨b5, 0, none⟩))), (8, (Value.int .i64 r1.2)), (9, (Value.pointer (some ⟨b6, 0, none⟩))), (10, (Value.int .i64 r2.2))]) ⟨rfl, rfl, rfl, rfl, rfl, rfl, rfl, trivial⟩ ?_
  refine c_seq ?_
  refine c_region rfl ?_
  refine s_q rfl rfl (y_loadN (l := [(Value.int .i64 a1.N), (Value.int .i64 a1.D)]) rfl (ev_tmp rfl rfl) Tryd.underlying23 rfl size_23 (hI.kblk (l := [(Value.int .i64 a1.N), (Value.int .i64 a1.D)]) (.s (.s .z)) rfl).1) ?_
  refine s_q rfl rfl (y_loadN (l := [(Value.int .i64 b1.N), (Value.int .i64 b1.D)]) rfl (ev_tmp rfl rfl) Tryd.underlying23 rfl size_23 (hI.kblk (l := [(Value.int .i64 b1.N), (Value.int .i64 b1.D)]) (.s .z) rfl).1) ?_
  obtain ⟨r3, hx5, h⟩ := bnd_some h
  refine s_call rfl rfl (r_callF (vs := [(Value.agg #[(Value.int .i64 a1.N), (Value.int .i64 a1.D)]), (Value.agg #[(Value.int .i64 b1.N), (Value.int .i64 b1.D)])]) rfl ok_27 ⟨(ev_tmp rfl rfl), ⟨(ev_tmp rfl rfl), trivial⟩⟩) (Calls.mono (c_frac_Mul (Dj F c11) w9 hI.lt a1 b1 trivial r3 hx5) ?_)
  rintro _ w10 ⟨rfl, hx6, hl3⟩
  refine ⟨_, rfl, ?_⟩
  replace hI := (hI.ext hx6)
  refine s_q rfl rfl (y_move rfl (ev_tmp rfl rfl)) ?_
  refine s_q rfl rfl (y_extract rfl (ev_tmp rfl rfl) rfl) ?_
  refine s_q rfl rfl (y_extract rfl (ev_tmp rfl rfl) rfl) ?_
  refine l_alloc (cs := #[(Value.int .i64 0), (Value.int .i64 0)]) hI rfl rfl rfl zero_23 rfl ?_
  clear hI; intro b7 c12 w11 hI
  refine l_store (new := [(Value.int .i64 r3.1.N), (Value.int .i64 r3.1.D)]) (cs' := #[(Value.int .i64 r3.1.N), (Value.int .i64 r3.1.D)]) hI .z rfl rfl rfl (ev_tmp rfl rfl) (ev_tmp rfl rfl) rfl size_23 rfl rfl rfl ?_
  clear hI; intro c13 w12 hI
  refine s_q rfl rfl (y_assign rfl (ev_tmp rfl rfl)) ?_
  refine s_nil ?_
  refine k_next (e := [(3, (Value.pointer (some ⟨b2, 0, none⟩))), (4, (Value.pointer (some ⟨b3, 0, none⟩))), (5, (Value.pointer (some ⟨b4, 0, none⟩))), (7, (Value.pointer (some ⟨b5, 0, none⟩))), (8, (Value.int .i64 r1.2)), (9, (Value.pointer (some ⟨b6, 0, none⟩))), (10, (Value.int .i64 r2.2)), (11, (Value.pointer (some ⟨b7, 0, none⟩))), (12, (Value.int .i64 r3.2))]) ⟨rfl, rfl, rfl, rfl, rfl, rfl, rfl, rfl, rfl, trivial⟩ ?_
  refine c_seq ?_
  refine c_region rfl ?_
  refine s_q rfl rfl (y_loadN (l := [(Value.int .i64 b1.N), (Value.int .i64 b1.D)]) rfl (ev_tmp rfl rfl) Tryd.underlying23 rfl size_23 (hI.kblk (l := [(Value.int .i64 b1.N), (Value.int .i64 b1.D)]) (.s .z) rfl).1) ?_
  refine s_q rfl rfl (y_loadN (l := [(Value.int .i64 a1.N), (Value.int .i64 a1.D)]) rfl (ev_tmp rfl rfl) Tryd.underlying23 rfl size_23 (hI.kblk (l := [(Value.int .i64 a1.N), (Value.int .i64 a1.D)]) (.s (.s .z)) rfl).1) ?_
  obtain ⟨r4, hx7, h⟩ := bnd_some h
  refine s_call rfl rfl (r_callF (vs := [(Value.agg #[(Value.int .i64 b1.N), (Value.int .i64 b1.D)]), (Value.agg #[(Value.int .i64 a1.N), (Value.int .i64 a1.D)])]) rfl ok_27 ⟨(ev_tmp rfl rfl), ⟨(ev_tmp rfl rfl), trivial⟩⟩) (Calls.mono (c_frac_Mul (Dj F c13) w12 hI.lt b1 a1 trivial r4 hx7) ?_)
  rintro _ w13 ⟨rfl, hx8, hl4⟩
  refine ⟨_, rfl, ?_⟩
  replace hI := (hI.ext hx8)
  refine s_q rfl rfl (y_move rfl (ev_tmp rfl rfl)) ?_
  refine s_q rfl rfl (y_extract rfl (ev_tmp rfl rfl) rfl) ?_
  refine s_q rfl rfl (y_extract rfl (ev_tmp rfl rfl) rfl) ?_
  refine l_alloc (cs := #[(Value.int .i64 0), (Value.int .i64 0)]) hI rfl rfl rfl zero_23 rfl ?_
  clear hI; intro b8 c14 w14 hI
  refine l_store (new := [(Value.int .i64 r4.1.N), (Value.int .i64 r4.1.D)]) (cs' := #[(Value.int .i64 r4.1.N), (Value.int .i64 r4.1.D)]) hI .z rfl rfl rfl (ev_tmp rfl rfl) (ev_tmp rfl rfl) rfl size_23 rfl rfl rfl ?_
  clear hI; intro c15 w15 hI
  refine s_q rfl rfl (y_assign rfl (ev_tmp rfl rfl)) ?_
  refine s_nil ?_
  refine k_next (e := [(3, (Value.pointer (some ⟨b2, 0, none⟩))), (4, (Value.pointer (some ⟨b3, 0, none⟩))), (5, (Value.pointer (some ⟨b4, 0, none⟩))), (7, (Value.pointer (some ⟨b5, 0, none⟩))), (8, (Value.int .i64 r1.2)), (9, (Value.pointer (some ⟨b6, 0, none⟩))), (10, (Value.int .i64 r2.2)), (11, (Value.pointer (some ⟨b7, 0, none⟩))), (12, (Value.int .i64 r3.2)), (13, (Value.pointer (some ⟨b8, 0, none⟩))), (14, (Value.int .i64 r4.2))]) ⟨rfl, rfl, rfl, rfl, rfl, rfl, rfl, rfl, rfl, rfl, rfl, trivial⟩ ?_
  refine c_seq ?_
  refine c_seq ?_
  refine c_region rfl ?_
  refine s_q rfl rfl (y_loadN (l := [(Value.int .i64 r1.1.N), (Value.int .i64 r1.1.D)]) rfl (ev_tmp rfl rfl) Tryd.underlying23 rfl size_23 (CellsAt.of_blk (hI.blk (.s (.s (.s .z)))) rfl)) ?_
  refine s_q rfl rfl (y_loadN (l := [(Value.int .i64 r2.1.N), (Value.int .i64 r2.1.D)]) rfl (ev_tmp rfl rfl) Tryd.underlying23 rfl size_23 (CellsAt.of_blk (hI.blk (.s (.s .z))) rfl)) ?_
  refine s_q rfl rfl (y_bin rfl (ev_tmp rfl rfl) (ev_tmp rfl rfl) (eqstruct_23n ..) (eqguard_23 ..)) ?_
  refine s_q rfl rfl (y_move rfl (ev_tmp rfl rfl)) ?_
  refine s_gval (g_false rfl rfl rfl rfl) rfl (fun hc => (y_move rfl (ev_tmp rfl rfl))) ?_
  refine s_gval (g_false rfl rfl rfl rfl) rfl (fun hc => (y_move rfl (ev_tmp rfl rfl))) ?_
  refine s_gval (g_false rfl rfl rfl rfl) rfl (fun hc => (y_neq rfl (ev_gv (ev_tmp rfl rfl) hc) (ev_gv (ev_tmp rfl rfl) hc))) ?_
  refine s_q rfl rfl (y_or rfl (ev_tmp rfl rfl) (ev_tmp rfl rfl)) ?_
  refine s_q rfl rfl (y_move rfl (ev_tmp rfl rfl)) ?_
  refine s_gval (g_false rfl rfl rfl rfl) rfl (fun hc => (y_loadN (l := [(Value.int .i64 r3.1.N), (Value.int .i64 r3.1.D)]) rfl (ev_tmp rfl rfl) Tryd.underlying23 rfl size_23 (CellsAt.of_blk (hI.blk (.s .z)) rfl))) ?_
  refine s_gval (g_false rfl rfl rfl rfl) rfl (fun hc => (y_loadN (l := [(Value.int .i64 r4.1.N), (Value.int .i64 r4.1.D)]) rfl (ev_tmp rfl rfl) Tryd.underlying23 rfl size_23 (CellsAt.of_blk (hI.blk .z) rfl))) ?_
  refine s_gval (g_false rfl rfl rfl rfl) rfl (fun hc => (y_bin rfl (ev_gv (ev_tmp rfl rfl) hc) (ev_gv (ev_tmp rfl rfl) hc) (eqstruct_23n ..) (eqguard_23 ..))) ?_
  refine s_q rfl rfl (y_or rfl (ev_tmp rfl rfl) (ev_tmp rfl rfl)) ?_
  refine s_q rfl rfl (y_move rfl (ev_tmp rfl rfl)) ?_
  refine s_gval (g_false rfl rfl rfl rfl) rfl (fun hc => (y_move rfl (ev_tmp rfl rfl))) ?_
  refine s_gval (g_false rfl rfl rfl rfl) rfl (fun hc => (y_move rfl (ev_tmp rfl rfl))) ?_
  refine s_gval (g_false rfl rfl rfl rfl) rfl (fun hc => (y_neq rfl (ev_gv (ev_tmp rfl rfl) hc) (ev_gv (ev_tmp rfl rfl) hc))) ?_
  refine s_q rfl rfl (y_or rfl (ev_tmp rfl rfl) (ev_tmp rfl rfl)) ?_
  refine s_nil ?_
  refine k_next (e := [(3, (Value.pointer (some ⟨b2, 0, none⟩))), (4, (Value.pointer (some ⟨b3, 0, none⟩))), (5, (Value.pointer (some ⟨b4, 0, none⟩))), (7, (Value.pointer (some ⟨b5, 0, none⟩))), (8, (Value.int .i64 r1.2)), (11, (Value.pointer (some ⟨b7, 0, none⟩))), (12, (Value.int .i64 r3.2)), (70, (Value.bool ((((!((decide (r1.1.N = r2.1.N)) && (decide (r1.1.D = r2.1.D)))) || (!decide (r1.2 = r2.2))) || (!((decide (r3.1.N = r4.1.N)) && (decide (r3.1.D = r4.1.D))))) || (!decide (r3.2 = r4.2)))))]) ⟨rfl, rfl, rfl, rfl, rfl, rfl, rfl, rfl, trivial⟩ ?_
  refine c_cond (b := (((!((decide (r1.1.N = r2.1.N)) && (decide (r1.1.D = r2.1.D)))) || (!decide (r1.2 = r2.2))) || (!((decide (r3.1.N = r4.1.N)) && (decide (r3.1.D = r4.1.D))))) || (!decide (r3.2 = r4.2))) (ev_tmp rfl rfl) (fun hb => ?_) (fun hb => ?_)
  · replace h := ite_t hb h
    refine c_seq ?_
    refine c_region rfl ?_
    refine s_q rfl rfl (y_assign rfl ev_const) ?_
    refine s_nil ?_
    refine k_next (e := [(6, (Value.bool false))]) ⟨rfl, trivial⟩ ?_
    refine c_ret ?_
    obtain rfl := some_inj h
    exact q_ret (vs := [(Value.bool false)]) Tryd.results9 ⟨ev_tmp rfl rfl, trivial⟩ ⟨rfl, hI.ext0, hI.fin trivial⟩
  · replace h := ite_f hb h
    refine c_skip ?_
    refine k_next (e := [(3, (Value.pointer (some ⟨b2, 0, none⟩))), (4, (Value.pointer (some ⟨b3, 0, none⟩))), (5, (Value.pointer (some ⟨b4, 0, none⟩))), (7, (Value.pointer (some ⟨b5, 0, none⟩))), (8, (Value.int .i64 r1.2)), (11, (Value.pointer (some ⟨b7, 0, none⟩))), (12, (Value.int .i64 r3.2))]) ⟨rfl, rfl, rfl, rfl, rfl, rfl, rfl, trivial⟩ ?_
    refine c_join (α := Unit) (fun _ => ⟨156, []⟩) (fun _ => [(3, (Value.pointer (some ⟨b2, 0, none⟩))), (4, (Value.pointer (some ⟨b3, 0, none⟩))), (5, (Value.pointer (some ⟨b4, 0, none⟩))), (7, (Value.pointer (some ⟨b5, 0, none⟩))), (8, (Value.int .i64 r1.2)), (11, (Value.pointer (some ⟨b7, 0, none⟩))), (12, (Value.int .i64 r3.2))]) (fun _ => fun w => ∃ C, Bun noM F w0 C w [MO.box b5 23 #[(Value.int .i64 r1.1.N), (Value.int .i64 r1.1.D)], MO.box b7 23 #[(Value.int .i64 r3.1.N), (Value.int .i64 r3.1.D)]] [Cl.blk b2 23 #[(Value.int .i64 a1.N), (Value.int .i64 a1.D)], Cl.blk b3 23 #[(Value.int .i64 b1.N), (Value.int .i64 b1.D)], Cl.blk b4 23 #[(Value.int .i64 c1.N), (Value.int .i64 c1.D)]] ∧ m_law01_FracRingLaws_j1 b1 c1 a1 r1 r3 = some r) ?_ ?_
    · clear h hI; rintro _ w16 ⟨c16, hI, h⟩
      try dsimp only at hI h
      rw [m_law01_FracRingLaws_j1] at h
      refine c_sub (e := [(3, (Value.pointer (some ⟨b2, 0, none⟩))), (4, (Value.pointer (some ⟨b3, 0, none⟩))), (5, (Value.pointer (some ⟨b4, 0, none⟩))), (7, (Value.pointer (some ⟨b5, 0, none⟩))), (8, (Value.int .i64 r1.2)), (11, (Value.pointer (some ⟨b7, 0, none⟩))), (12, (Value.int .i64 r3.2))]) ⟨rfl, rfl, rfl, rfl, rfl, rfl, rfl, trivial⟩ ?_
      refine c_seq ?_
      refine c_region rfl ?_
      refine s_q rfl rfl (y_loadN (l := [(Value.int .i64 b1.N), (Value.int .i64 b1.D)]) rfl (ev_tmp rfl rfl) Tryd.underlying23 rfl size_23 (hI.kblk (l := [(Value.int .i64 b1.N), (Value.int .i64 b1.D)]) (.s .z) rfl).1) ?_
      refine s_q rfl rfl (y_loadN (l := [(Value.int .i64 c1.N), (Value.int .i64 c1.D)]) rfl (ev_tmp rfl rfl) Tryd.underlying23 rfl size_23 (hI.kblk (l := [(Value.int .i64 c1.N), (Value.int .i64 c1.D)]) (.s (.s .z)) rfl).1) ?_
      obtain ⟨r5, hx9, h⟩ := bnd_some h
      refine s_call rfl rfl (r_callF (vs := [(Value.agg #[(Value.int .i64 b1.N), (Value.int .i64 b1.D)]), (Value.agg #[(Value.int .i64 c1.N), (Value.int .i64 c1.D)])]) rfl ok_26 ⟨(ev_tmp rfl rfl), ⟨(ev_tmp rfl rfl), trivial⟩⟩) (Calls.mono (c_frac_Add (Dj F c16) w16 hI.lt b1 c1 trivial r5 hx9) ?_)
      rintro _ w17 ⟨rfl, hx10, hl5⟩
      refine ⟨_, rfl, ?_⟩
      replace hI := (hI.ext hx10)
      refine s_q rfl rfl (y_move rfl (ev_tmp rfl rfl)) ?_
      refine s_q rfl rfl (y_extract rfl (ev_tmp rfl rfl) rfl) ?_
      refine s_q rfl rfl (y_extract rfl (ev_tmp rfl rfl) rfl) ?_
      refine l_alloc (cs := #[(Value.int .i64 0), (Value.int .i64 0)]) hI rfl rfl rfl zero_23 rfl ?_
      clear hI; intro b9 c17 w18 hI
      refine l_store (new := [(Value.int .i64 r5.1.N), (Value.int .i64 r5.1.D)]) (cs' := #[(Value.int .i64 r5.1.N), (Value.int .i64 r5.1.D)]) hI .z rfl rfl rfl (ev_tmp rfl rfl) (ev_tmp rfl rfl) rfl size_23 rfl rfl rfl ?_
      clear hI; intro c18 w19 hI
      refine s_q rfl rfl (y_assign rfl (ev_tmp rfl rfl)) ?_
      refine s_nil ?_
      refine k_next (e := [(3, (Value.pointer (some ⟨b2, 0, none⟩))), (5, (Value.pointer (some ⟨b4, 0, none⟩))), (7, (Value.pointer (some ⟨b5, 0, none⟩))), (8, (Value.int .i64 r1.2)), (11, (Value.pointer (some ⟨b7, 0, none⟩))), (12, (Value.int .i64 r3.2)), (17, (Value.pointer (some ⟨b9, 0, none⟩))), (18, (Value.int .i64 r5.2))]) ⟨rfl, rfl, rfl, rfl, rfl, rfl, rfl, rfl, trivial⟩ ?_
      refine c_seq ?_
      refine c_region rfl ?_
      refine s_q rfl rfl (y_loadN (l := [(Value.int .i64 a1.N), (Value.int .i64 a1.D)]) rfl (ev_tmp rfl rfl) Tryd.underlying23 rfl size_23 (hI.kblk (l := [(Value.int .i64 a1.N), (Value.int .i64 a1.D)]) .z rfl).1) ?_
      refine s_q rfl rfl (y_loadN (l := [(Value.int .i64 c1.N), (Value.int .i64 c1.D)]) rfl (ev_tmp rfl rfl) Tryd.underlying23 rfl size_23 (hI.kblk (l := [(Value.int .i64 c1.N), (Value.int .i64 c1.D)]) (.s (.s .z)) rfl).1) ?_
      obtain ⟨r6, hx11, h⟩ := bnd_some h
      refine s_call rfl rfl (r_callF (vs := [(Value.agg #[(Value.int .i64 a1.N), (Value.int .i64 a1.D)]), (Value.agg #[(Value.int .i64 c1.N), (Value.int .i64 c1.D)])]) rfl ok_27 ⟨(ev_tmp rfl rfl), ⟨(ev_tmp rfl rfl), trivial⟩⟩) (Calls.mono (c_frac_Mul (Dj F c18) w19 hI.lt a1 c1 trivial r6 hx11) ?_)
      rintro _ w20 ⟨rfl, hx12, hl6⟩
      refine ⟨_, rfl, ?_⟩
      replace hI := (hI.ext hx12)
      refine s_q rfl rfl (y_move rfl (ev_tmp rfl rfl)) ?_
      refine s_q rfl rfl (y_extract rfl (ev_tmp rfl rfl) rfl) ?_
      refine s_q rfl rfl (y_extract rfl (ev_tmp rfl rfl) rfl) ?_
      refine l_alloc (cs := #[(Value.int .i64 0), (Value.int .i64 0)]) hI rfl rfl rfl zero_23 rfl ?_
      clear hI; intro b10 c19 w21 hI
      refine l_store (new := [(Value.int .i64 r6.1.N), (Value.int .i64 r6.1.D)]) (cs' := #[(Value.int .i64 r6.1.N), (Value.int .i64 r6.1.D)]) hI .z rfl rfl rfl (ev_tmp rfl rfl) (ev_tmp rfl rfl) rfl size_23 rfl rfl rfl ?_
      clear hI; intro c20 w22 hI
      refine s_q rfl rfl (y_assign rfl (ev_tmp rfl rfl)) ?_
      refine s_nil ?_
      refine k_next (e := [(3, (Value.pointer (some ⟨b2, 0, none⟩))), (5, (Value.pointer (some ⟨b4, 0, none⟩))), (7, (Value.pointer (some ⟨b5, 0, none⟩))), (8, (Value.int .i64 r1.2)), (11, (Value.pointer (some ⟨b7, 0, none⟩))), (12, (Value.int .i64 r3.2)), (17, (Value.pointer (some ⟨b9, 0, none⟩))), (18, (Value.int .i64 r5.2)), (19, (Value.pointer (some ⟨b10, 0, none⟩))), (20, (Value.int .i64 r6.2))]) ⟨rfl, rfl, rfl, rfl, rfl, rfl, rfl, rfl, rfl, rfl, trivial⟩ ?_
      refine c_seq ?_
      refine c_seq ?_
      refine c_region rfl ?_
      refine s_q rfl rfl (y_move rfl (ev_tmp rfl rfl)) ?_
      refine s_q rfl rfl (y_neq rfl (ev_tmp rfl rfl) ev_const) ?_
      refine s_q rfl rfl (y_move rfl (ev_tmp rfl rfl)) ?_
      refine s_gval (g_false rfl rfl rfl rfl) rfl (fun hc => (y_move rfl (ev_tmp rfl rfl))) ?_
      refine s_gval (g_false rfl rfl rfl rfl) rfl (fun hc => (y_neq rfl (ev_gv (ev_tmp rfl rfl) hc) ev_const)) ?_
      refine s_q rfl rfl (y_or rfl (ev_tmp rfl rfl) (ev_tmp rfl rfl)) ?_
      refine s_q rfl rfl (y_move rfl (ev_tmp rfl rfl)) ?_
      refine s_gval (g_false rfl rfl rfl rfl) rfl (fun hc => (y_move rfl (ev_tmp rfl rfl))) ?_
      refine s_gval (g_false rfl rfl rfl rfl) rfl (fun hc => (y_neq rfl (ev_gv (ev_tmp rfl rfl) hc) ev_const)) ?_
      refine s_q rfl rfl (y_or rfl (ev_tmp rfl rfl) (ev_tmp rfl rfl)) ?_
      refine s_q rfl rfl (y_move rfl (ev_tmp rfl rfl)) ?_
      refine s_gval (g_false rfl rfl rfl rfl) rfl (fun hc => (y_move rfl (ev_tmp rfl rfl))) ?_
      refine s_gval (g_false rfl rfl rfl rfl) rfl (fun hc => (y_neq rfl (ev_gv (ev_tmp rfl rfl) hc) ev_const)) ?_
      refine s_q rfl rfl (y_or rfl (ev_tmp rfl rfl) (ev_tmp rfl rfl)) ?_
      refine s_nil ?_
      refine k_next (e := [(3, (Value.pointer (some ⟨b2, 0, none⟩))), (5, (Value.pointer (some ⟨b4, 0, none⟩))), (7, (Value.pointer (some ⟨b5, 0, none⟩))), (11, (Value.pointer (some ⟨b7, 0, none⟩))), (17, (Value.pointer (some ⟨b9, 0, none⟩))), (19, (Value.pointer (some ⟨b10, 0, none⟩))), (111, (Value.bool ((((!decide (r1.2 = 0)) || (!decide (r3.2 = 0))) || (!decide (r5.2 = 0))) || (!decide (r6.2 = 0)))))]) ⟨rfl, rfl, rfl, rfl, rfl, rfl, rfl, trivial⟩ ?_
      refine c_cond (b := (((!decide (r1.2 = 0)) || (!decide (r3.2 = 0))) || (!decide (r5.2 = 0))) || (!decide (r6.2 = 0))) (ev_tmp rfl rfl) (fun hb => ?_) (fun hb => ?_)
      · replace h := ite_t hb h
        refine c_seq ?_
        refine c_region rfl ?_
        obtain ⟨r7, hx13, h⟩ := bnd_some h
        refine s_call rfl rfl (r_callF (vs := []) rfl ok_16 trivial) (Calls.mono (c_law01_examples (Dj F c20) w22 hI.lt trivial r7 hx13) ?_)
        rintro _ w23 ⟨rfl, hx14, hl7⟩
        refine ⟨_, rfl, ?_⟩
        replace hI := (hI.ext hx14)
        refine s_q rfl rfl (y_assign rfl (ev_tmp rfl rfl)) ?_
        refine s_nil ?_
        refine k_next (e := [(6, (Value.bool r7))]) ⟨rfl, trivial⟩ ?_
        refine c_ret ?_
        obtain rfl := some_inj h
        exact q_ret (vs := [(Value.bool r7)]) Tryd.results9 ⟨ev_tmp rfl rfl, trivial⟩ ⟨rfl, hI.ext0, hI.fin trivial⟩
      · replace h := ite_f hb h
        refine c_skip ?_
        refine k_next (e := [(3, (Value.pointer (some ⟨b2, 0, none⟩))), (5, (Value.pointer (some ⟨b4, 0, none⟩))), (7, (Value.pointer (some ⟨b5, 0, none⟩))), (11, (Value.pointer (some ⟨b7, 0, none⟩))), (17, (Value.pointer (some ⟨b9, 0, none⟩))), (19, (Value.pointer (some ⟨b10, 0, none⟩)))]) ⟨rfl, rfl, rfl, rfl, rfl, rfl, trivial⟩ ?_
        refine c_seq ?_
        refine c_region rfl ?_
        refine s_q rfl rfl (y_loadN (l := [(Value.int .i64 r1.1.N), (Value.int .i64 r1.1.D)]) rfl (ev_tmp rfl rfl) Tryd.underlying23 rfl size_23 (CellsAt.of_blk (hI.blk (.s (.s .z))) rfl)) ?_
        refine s_q rfl rfl (y_loadN (l := [(Value.int .i64 c1.N), (Value.int .i64 c1.D)]) rfl (ev_tmp rfl rfl) Tryd.underlying23 rfl size_23 (hI.kblk (l := [(Value.int .i64 c1.N), (Value.int .i64 c1.D)]) (.s (.s .z)) rfl).1) ?_
        obtain ⟨r8, hx15, h⟩ := bnd_some h
        refine s_call rfl rfl (r_callF (vs := [(Value.agg #[(Value.int .i64 r1.1.N), (Value.int .i64 r1.1.D)]), (Value.agg #[(Value.int .i64 c1.N), (Value.int .i64 c1.D)])]) rfl ok_26 ⟨(ev_tmp rfl rfl), ⟨(ev_tmp rfl rfl), trivial⟩⟩) (Calls.mono (c_frac_Add (Dj F c20) w22 hI.lt r1.1 c1 trivial r8 hx15) ?_)
        rintro _ w24 ⟨rfl, hx16, hl8⟩
        refine ⟨_, rfl, ?_⟩
        replace hI := (hI.ext hx16)
        refine s_q rfl rfl (y_move rfl (ev_tmp rfl rfl)) ?_
        refine s_q rfl rfl (y_extract rfl (ev_tmp rfl rfl) rfl) ?_
        refine s_q rfl rfl (y_extract rfl (ev_tmp rfl rfl) rfl) ?_
        refine l_alloc (cs := #[(Value.int .i64 0), (Value.int .i64 0)]) hI rfl rfl rfl zero_23 rfl ?_
        clear hI; intro b11 c21 w25 hI
        refine l_store (new := [(Value.int .i64 r8.1.N), (Value.int .i64 r8.1.D)]) (cs' := #[(Value.int .i64 r8.1.N), (Value.int .i64 r8.1.D)]) hI .z rfl rfl rfl (ev_tmp rfl rfl) (ev_tmp rfl rfl) rfl size_23 rfl rfl rfl ?_
        clear hI; intro c22 w26 hI
        refine s_q rfl rfl (y_assign rfl (ev_tmp rfl rfl)) ?_
        refine s_nil ?_
        refine k_next (e := [(3, (Value.pointer (some ⟨b2, 0, none⟩))), (11, (Value.pointer (some ⟨b7, 0, none⟩))), (17, (Value.pointer (some ⟨b9, 0, none⟩))), (19, (Value.pointer (some ⟨b10, 0, none⟩))), (21, (Value.pointer (some ⟨b11, 0, none⟩))), (22, (Value.int .i64 r8.2))]) ⟨rfl, rfl, rfl, rfl, rfl, rfl, trivial⟩ ?_
        refine c_seq ?_
        refine c_region rfl ?_
        refine s_q rfl rfl (y_loadN (l := [(Value.int .i64 a1.N), (Value.int .i64 a1.D)]) rfl (ev_tmp rfl rfl) Tryd.underlying23 rfl size_23 (hI.kblk (l := [(Value.int .i64 a1.N), (Value.int .i64 a1.D)]) .z rfl).1) ?_
        refine s_q rfl rfl (y_loadN (l := [(Value.int .i64 r5.1.N), (Value.int .i64 r5.1.D)]) rfl (ev_tmp rfl rfl) Tryd.underlying23 rfl size_23 (CellsAt.of_blk (hI.blk (.s (.s .z))) rfl)) ?_
        obtain ⟨r9, hx17, h⟩ := bnd_some h
        refine s_call rfl rfl (r_callF (vs := [(Value.agg #[(Value.int .i64 a1.N), (Value.int .i64 a1.D)]), (Value.agg #[(Value.int .i64 r5.1.N), (Value.int .i64 r5.1.D)])]) rfl ok_26 ⟨(ev_tmp rfl rfl), ⟨(ev_tmp rfl rfl), trivial⟩⟩) (Calls.mono (c_frac_Add (Dj F c22) w26 hI.lt a1 r5.1 trivial r9 hx17) ?_)
        rintro _ w27 ⟨rfl, hx18, hl9⟩
        refine ⟨_, rfl, ?_⟩
        replace hI := (hI.ext hx18)
        refine s_q rfl rfl (y_move rfl (ev_tmp rfl rfl)) ?_
        refine s_q rfl rfl (y_extract rfl (ev_tmp rfl rfl) rfl) ?_
        refine s_q rfl rfl (y_extract rfl (ev_tmp rfl rfl) rfl) ?_
        refine l_alloc (cs := #[(Value.int .i64 0), (Value.int .i64 0)]) hI rfl rfl rfl zero_23 rfl ?_
        clear hI; intro b12 c23 w28 hI
        refine l_store (new := [(Value.int .i64 r9.1.N), (Value.int .i64 r9.1.D)]) (cs' := #[(Value.int .i64 r9.1.N), (Value.int .i64 r9.1.D)]) hI .z rfl rfl rfl (ev_tmp rfl rfl) (ev_tmp rfl rfl) rfl size_23 rfl rfl rfl ?_
        clear hI; intro c24 w29 hI
        refine s_q rfl rfl (y_assign rfl (ev_tmp rfl rfl)) ?_
        refine s_nil ?_
        refine k_next (e := [(3, (Value.pointer (some ⟨b2, 0, none⟩))), (11, (Value.pointer (some ⟨b7, 0, none⟩))), (17, (Value.pointer (some ⟨b9, 0, none⟩))), (19, (Value.pointer (some ⟨b10, 0, none⟩))), (21, (Value.pointer (some ⟨b11, 0, none⟩))), (22, (Value.int .i64 r8.2)), (23, (Value.pointer (some ⟨b12, 0, none⟩))), (24, (Value.int .i64 r9.2))]) ⟨rfl, rfl, rfl, rfl, rfl, rfl, rfl, rfl, trivial⟩ ?_
        refine c_seq ?_
        refine c_seq ?_
        refine c_region rfl ?_
        refine s_q rfl rfl (y_loadN (l := [(Value.int .i64 r8.1.N), (Value.int .i64 r8.1.D)]) rfl (ev_tmp rfl rfl) Tryd.underlying23 rfl size_23 (CellsAt.of_blk (hI.blk (.s .z)) rfl)) ?_
        refine s_q rfl rfl (y_loadN (l := [(Value.int .i64 r9.1.N), (Value.int .i64 r9.1.D)]) rfl (ev_tmp rfl rfl) Tryd.underlying23 rfl size_23 (CellsAt.of_blk (hI.blk .z) rfl)) ?_
        refine s_q rfl rfl (y_bin rfl (ev_tmp rfl rfl) (ev_tmp rfl rfl) (eqstruct_23n ..) (eqguard_23 ..)) ?_
        refine s_q rfl rfl (y_move rfl (ev_tmp rfl rfl)) ?_
        refine s_gval (g_false rfl rfl rfl rfl) rfl (fun hc => (y_move rfl (ev_tmp rfl rfl))) ?_
        refine s_gval (g_false rfl rfl rfl rfl) rfl (fun hc => (y_move rfl (ev_tmp rfl rfl))) ?_
        refine s_gval (g_false rfl rfl rfl rfl) rfl (fun hc => (y_neq rfl (ev_gv (ev_tmp rfl rfl) hc) (ev_gv (ev_tmp rfl rfl) hc))) ?_
        refine s_q rfl rfl (y_or rfl (ev_tmp rfl rfl) (ev_tmp rfl rfl)) ?_
        refine s_nil ?_
        refine k_next (e := [(3, (Value.pointer (some ⟨b2, 0, none⟩))), (11, (Value.pointer (some ⟨b7, 0, none⟩))), (17, (Value.pointer (some ⟨b9, 0, none⟩))), (19, (Value.pointer (some ⟨b10, 0, none⟩))), (132, (Value.bool ((!((decide (r8.1.N = r9.1.N)) && (decide (r8.1.D = r9.1.D)))) || (!decide (r8.2 = r9.2)))))]) ⟨rfl, rfl, rfl, rfl, rfl, trivial⟩ ?_
        refine c_cond (b := (!((decide (r8.1.N = r9.1.N)) && (decide (r8.1.D = r9.1.D)))) || (!decide (r8.2 = r9.2))) (ev_tmp rfl rfl) (fun hb => ?_) (fun hb => ?_)
        · replace h := ite_t hb h
          refine c_seq ?_
          refine c_region rfl ?_
          refine s_q rfl rfl (y_assign rfl ev_const) ?_
          refine s_nil ?_
          refine k_next (e := [(6, (Value.bool false))]) ⟨rfl, trivial⟩ ?_
          refine c_ret ?_
          obtain rfl := some_inj h
          exact q_ret (vs := [(Value.bool false)]) Tryd.results9 ⟨ev_tmp rfl rfl, trivial⟩ ⟨rfl, hI.ext0, hI.fin trivial⟩
        · replace h := ite_f hb h
          refine c_skip ?_
          refine k_next (e := [(3, (Value.pointer (some ⟨b2, 0, none⟩))), (11, (Value.pointer (some ⟨b7, 0, none⟩))), (17, (Value.pointer (some ⟨b9, 0, none⟩))), (19, (Value.pointer (some ⟨b10, 0, none⟩)))]) ⟨rfl, rfl, rfl, rfl, trivial⟩ ?_
          refine c_seq ?_
          refine c_region rfl ?_
          refine s_q rfl rfl (y_loadN (l := [(Value.int .i64 a1.N), (Value.int .i64 a1.D)]) rfl (ev_tmp rfl rfl) Tryd.underlying23 rfl size_23 (hI.kblk (l := [(Value.int .i64 a1.N), (Value.int .i64 a1.D)]) .z rfl).1) ?_
          refine s_q rfl rfl (y_loadN (l := [(Value.int .i64 r5.1.N), (Value.int .i64 r5.1.D)]) rfl (ev_tmp rfl rfl) Tryd.underlying23 rfl size_23 (CellsAt.of_blk (hI.blk (.s (.s (.s .z)))) rfl)) ?_
          obtain ⟨r10, hx19, h⟩ := bnd_some h
          refine s_call rfl rfl (r_callF (vs := [(Value.agg #[(Value.int .i64 a1.N), (Value.int .i64 a1.D)]), (Value.agg #[(Value.int .i64 r5.1.N), (Value.int .i64 r5.1.D)])]) rfl ok_27 ⟨(ev_tmp rfl rfl), ⟨(ev_tmp rfl rfl), trivial⟩⟩) (Calls.mono (c_frac_Mul (Dj F c24) w29 hI.lt a1 r5.1 trivial r10 hx19) ?_)
          rintro _ w30 ⟨rfl, hx20, hl10⟩
          refine ⟨_, rfl, ?_⟩
          replace hI := (hI.ext hx20)
          refine s_q rfl rfl (y_move rfl (ev_tmp rfl rfl)) ?_
          refine s_q rfl rfl (y_extract rfl (ev_tmp rfl rfl) rfl) ?_
          refine s_q rfl rfl (y_extract rfl (ev_tmp rfl rfl) rfl) ?_
          refine l_alloc (cs := #[(Value.int .i64 0), (Value.int .i64 0)]) hI rfl rfl rfl zero_23 rfl ?_
          clear hI; intro b13 c25 w31 hI
          refine l_store (new := [(Value.int .i64 r10.1.N), (Value.int .i64 r10.1.D)]) (cs' := #[(Value.int .i64 r10.1.N), (Value.int .i64 r10.1.D)]) hI .z rfl rfl rfl (ev_tmp rfl rfl) (ev_tmp rfl rfl) rfl size_23 rfl rfl rfl ?_
          clear hI; intro c26 w32 hI
          refine s_q rfl rfl (y_assign rfl (ev_tmp rfl rfl)) ?_
          refine s_nil ?_
          refine k_next (e := [(11, (Value.pointer (some ⟨b7, 0, none⟩))), (19, (Value.pointer (some ⟨b10, 0, none⟩))), (25, (Value.pointer (some ⟨b13, 0, none⟩))), (26, (Value.int .i64 r10.2))]) ⟨rfl, rfl, rfl, rfl, trivial⟩ ?_
          refine c_seq ?_
          refine c_region rfl ?_
          refine s_q rfl rfl (y_loadN (l := [(Value.int .i64 r3.1.N), (Value.int .i64 r3.1.D)]) rfl (ev_tmp rfl rfl) Tryd.underlying23 rfl size_23 (CellsAt.of_blk (hI.blk (.s (.s (.s (.s (.s (.s .z))))))) rfl)) ?_
          refine s_q rfl rfl (y_loadN (l := [(Value.int .i64 r6.1.N), (Value.int .i64 r6.1.D)]) rfl (ev_tmp rfl rfl) Tryd.underlying23 rfl size_23 (CellsAt.of_blk (hI.blk (.s (.s (.s .z)))) rfl)) ?_
          obtain ⟨r11, hx21, h⟩ := bnd_some h
          refine s_call rfl rfl (r_callF (vs := [(Value.agg #[(Value.int .i64 r3.1.N), (Value.int .i64 r3.1.D)]), (Value.agg #[(Value.int .i64 r6.1.N), (Value.int .i64 r6.1.D)])]) rfl ok_26 ⟨(ev_tmp rfl rfl), ⟨(ev_tmp rfl rfl), trivial⟩⟩) (Calls.mono (c_frac_Add (Dj F c26) w32 hI.lt r3.1 r6.1 trivial r11 hx21) ?_)
          rintro _ w33 ⟨rfl, hx22, hl11⟩
          refine ⟨_, rfl, ?_⟩
          replace hI := (hI.ext hx22)
          refine s_q rfl rfl (y_move rfl (ev_tmp rfl rfl)) ?_
          refine s_q rfl rfl (y_extract rfl (ev_tmp rfl rfl) rfl) ?_
          refine s_q rfl rfl (y_extract rfl (ev_tmp rfl rfl) rfl) ?_
          refine l_alloc (cs := #[(Value.int .i64 0), (Value.int .i64 0)]) hI rfl rfl rfl zero_23 rfl ?_
          clear hI; intro b14 c27 w34 hI
          refine l_store (new := [(Value.int .i64 r11.1.N), (Value.int .i64 r11.1.D)]) (cs' := #[(Value.int .i64 r11.1.N), (Value.int .i64 r11.1.D)]) hI .z rfl rfl rfl (ev_tmp rfl rfl) (ev_tmp rfl rfl) rfl size_23 rfl rfl rfl ?_
          clear hI; intro c28 w35 hI
          refine s_q rfl rfl (y_assign rfl (ev_tmp rfl rfl)) ?_
          refine s_nil ?_
          refine k_next (e := [(25, (Value.pointer (some ⟨b13, 0, none⟩))), (26, (Value.int .i64 r10.2)), (27, (Value.pointer (some ⟨b14, 0, none⟩))), (28, (Value.int .i64 r11.2))]) ⟨rfl, rfl, rfl, rfl, trivial⟩ ?_
          refine c_seq ?_
          refine c_region rfl ?_
          refine s_q rfl rfl (y_loadN (l := [(Value.int .i64 r10.1.N), (Value.int .i64 r10.1.D)]) rfl (ev_tmp rfl rfl) Tryd.underlying23 rfl size_23 (CellsAt.of_blk (hI.blk (.s .z)) rfl)) ?_
          refine s_q rfl rfl (y_loadN (l := [(Value.int .i64 r11.1.N), (Value.int .i64 r11.1.D)]) rfl (ev_tmp rfl rfl) Tryd.underlying23 rfl size_23 (CellsAt.of_blk (hI.blk .z) rfl)) ?_
          refine s_q rfl rfl (y_bin rfl (ev_tmp rfl rfl) (ev_tmp rfl rfl) (eqstruct_23 ..) (eqguard_23 ..)) ?_
          refine s_q rfl rfl (y_move rfl (ev_tmp rfl rfl)) ?_
          refine s_gval (g_true rfl rfl rfl rfl) rfl (fun hc => (y_move rfl (ev_tmp rfl rfl))) ?_
          refine s_gval (g_true rfl rfl rfl rfl) rfl (fun hc => (y_move rfl (ev_tmp rfl rfl))) ?_
          refine s_gval (g_true rfl rfl rfl rfl) rfl (fun hc => (y_eql rfl (ev_gv (ev_tmp rfl rfl) hc) (ev_gv (ev_tmp rfl rfl) hc))) ?_
          refine s_q rfl rfl (y_and rfl (ev_tmp rfl rfl) (ev_tmp rfl rfl)) ?_
          refine s_q rfl rfl (y_move rfl (ev_tmp rfl rfl)) ?_
          obtain ⟨r12, hx23, h⟩ := bnd_some h
          replace hx23 := gd_some hx23
          refine s_gcallU (v := (Value.bool r12)) (g_true rfl rfl rfl rfl) rfl (fun hc => (r_callF (vs := []) rfl ok_16 trivial)) (fun hc => (c_law01_examples (Dj F c28) w35 hI.lt trivial r12 (hx23 hc)).mono fun _ _ k => ⟨k.1, k.2.1⟩) ?_
          intro w36 hx24; replace hI := hI.ext hx24
          refine s_q rfl rfl (y_and rfl (ev_tmp rfl rfl) (ev_tmp rfl rfl)) ?_
          refine s_q rfl rfl (y_assign rfl (ev_tmp rfl rfl)) ?_
          refine s_nil ?_
          refine k_next (e := [(6, (Value.bool ((((decide (r10.1.N = r11.1.N)) && (decide (r10.1.D = r11.1.D))) && (decide (r10.2 = r11.2))) && r12)))]) ⟨rfl, trivial⟩ ?_
          refine c_ret ?_
          obtain rfl := some_inj h
          exact q_ret (vs := [(Value.bool ((((decide (r10.1.N = r11.1.N)) && (decide (r10.1.D = r11.1.D))) && (decide (r10.2 = r11.2))) && r12))]) Tryd.results9 ⟨ev_tmp rfl rfl, trivial⟩ ⟨rfl, hI.ext0, hI.fin trivial⟩
    · skip
      refine c_seq ?_
      refine c_region rfl ?_
      refine s_q rfl rfl (y_move rfl (ev_tmp rfl rfl)) ?_
      refine s_q rfl rfl (y_eql rfl (ev_tmp rfl rfl) ev_const) ?_
      refine s_nil ?_
      refine k_next (e := [(3, (Value.pointer (some ⟨b2, 0, none⟩))), (4, (Value.pointer (some ⟨b3, 0, none⟩))), (5, (Value.pointer (some ⟨b4, 0, none⟩))), (7, (Value.pointer (some ⟨b5, 0, none⟩))), (8, (Value.int .i64 r1.2)), (11, (Value.pointer (some ⟨b7, 0, none⟩))), (12, (Value.int .i64 r3.2)), (72, (Value.bool (decide (r1.2 = 0))))]) ⟨rfl, rfl, rfl, rfl, rfl, rfl, rfl, rfl, trivial⟩ ?_
      refine c_cond (b := decide (r1.2 = 0)) (ev_tmp rfl rfl) (fun hb => ?_) (fun hb => ?_)
      · replace h := ite_t hb h
        refine c_seq ?_
        refine c_region rfl ?_
        refine s_q rfl rfl (y_loadN (l := [(Value.int .i64 r1.1.N), (Value.int .i64 r1.1.D)]) rfl (ev_tmp rfl rfl) Tryd.underlying23 rfl size_23 (CellsAt.of_blk (hI.blk (.s (.s (.s .z)))) rfl)) ?_
        refine s_q rfl rfl (y_loadN (l := [(Value.int .i64 b1.N), (Value.int .i64 b1.D)]) rfl (ev_tmp rfl rfl) Tryd.underlying23 rfl size_23 (hI.kblk (l := [(Value.int .i64 b1.N), (Value.int .i64 b1.D)]) (.s .z) rfl).1) ?_
        obtain ⟨r13, hx25, h⟩ := bnd_some h
        refine s_call rfl rfl (r_callF (vs := [(Value.agg #[(Value.int .i64 r1.1.N), (Value.int .i64 r1.1.D)]), (Value.agg #[(Value.int .i64 b1.N), (Value.int .i64 b1.D)])]) rfl ok_28 ⟨(ev_tmp rfl rfl), ⟨(ev_tmp rfl rfl), trivial⟩⟩) (Calls.mono (c_frac_Sub (Dj F c15) w15 hI.lt r1.1 b1 trivial r13 hx25) ?_)
        rintro _ w37 ⟨rfl, hx26, hl13⟩
        refine ⟨_, rfl, ?_⟩
        replace hI := (hI.ext hx26)
        refine s_q rfl rfl (y_move rfl (ev_tmp rfl rfl)) ?_
        refine s_q rfl rfl (y_extract rfl (ev_tmp rfl rfl) rfl) ?_
        refine s_q rfl rfl (y_extract rfl (ev_tmp rfl rfl) rfl) ?_
        refine l_alloc (cs := #[(Value.int .i64 0), (Value.int .i64 0)]) hI rfl rfl rfl zero_23 rfl ?_
        clear hI; intro b15 c29 w38 hI
        refine l_store (new := [(Value.int .i64 r13.1.N), (Value.int .i64 r13.1.D)]) (cs' := #[(Value.int .i64 r13.1.N), (Value.int .i64 r13.1.D)]) hI .z rfl rfl rfl (ev_tmp rfl rfl) (ev_tmp rfl rfl) rfl size_23 rfl rfl rfl ?_
        clear hI; intro c30 w39 hI
        refine s_q rfl rfl (y_assign rfl (ev_tmp rfl rfl)) ?_
        refine s_nil ?_
        refine k_next (e := [(3, (Value.pointer (some ⟨b2, 0, none⟩))), (4, (Value.pointer (some ⟨b3, 0, none⟩))), (5, (Value.pointer (some ⟨b4, 0, none⟩))), (7, (Value.pointer (some ⟨b5, 0, none⟩))), (8, (Value.int .i64 r1.2)), (11, (Value.pointer (some ⟨b7, 0, none⟩))), (12, (Value.int .i64 r3.2)), (15, (Value.pointer (some ⟨b15, 0, none⟩))), (16, (Value.int .i64 r13.2))]) ⟨rfl, rfl, rfl, rfl, rfl, rfl, rfl, rfl, rfl, trivial⟩ ?_
        refine c_seq ?_
        refine c_region rfl ?_
        refine s_q rfl rfl (y_move rfl (ev_tmp rfl rfl)) ?_
        refine s_q rfl rfl (y_neq rfl (ev_tmp rfl rfl) ev_const) ?_
        refine s_q rfl rfl (y_move rfl (ev_tmp rfl rfl)) ?_
        refine s_gval (g_false rfl rfl rfl rfl) rfl (fun hc => (y_loadN (l := [(Value.int .i64 r13.1.N), (Value.int .i64 r13.1.D)]) rfl (ev_tmp rfl rfl) Tryd.underlying23 rfl size_23 (CellsAt.of_blk (hI.blk .z) rfl))) ?_
        refine s_gval (g_false rfl rfl rfl rfl) rfl (fun hc => (y_loadN (l := [(Value.int .i64 a1.N), (Value.int .i64 a1.D)]) rfl (ev_tmp rfl rfl) Tryd.underlying23 rfl size_23 (hI.kblk (l := [(Value.int .i64 a1.N), (Value.int .i64 a1.D)]) (.s (.s .z)) rfl).1)) ?_
        refine s_gval (g_false rfl rfl rfl rfl) rfl (fun hc => (y_bin rfl (ev_gv (ev_tmp rfl rfl) hc) (ev_gv (ev_tmp rfl rfl) hc) (eqstruct_23n ..) (eqguard_23 ..))) ?_
        refine s_q rfl rfl (y_or rfl (ev_tmp rfl rfl) (ev_tmp rfl rfl)) ?_
        refine s_nil ?_
        refine k_next (e := [(3, (Value.pointer (some ⟨b2, 0, none⟩))), (4, (Value.pointer (some ⟨b3, 0, none⟩))), (5, (Value.pointer (some ⟨b4, 0, none⟩))), (7, (Value.pointer (some ⟨b5, 0, none⟩))), (8, (Value.int .i64 r1.2)), (11, (Value.pointer (some ⟨b7, 0, none⟩))), (12, (Value.int .i64 r3.2)), (85, (Value.bool ((!decide (r13.2 = 0)) || (!((decide (r13.1.N = a1.N)) && (decide (r13.1.D = a1.D)))))))]) ⟨rfl, rfl, rfl, rfl, rfl, rfl, rfl, rfl, trivial⟩ ?_
        refine c_cond (b := (!decide (r13.2 = 0)) || (!((decide (r13.1.N = a1.N)) && (decide (r13.1.D = a1.D))))) (ev_tmp rfl rfl) (fun hb => ?_) (fun hb => ?_)
        · replace h := ite_t hb h
          refine c_seq ?_
          refine c_region rfl ?_
          refine s_q rfl rfl (y_assign rfl ev_const) ?_
          refine s_nil ?_
          refine k_next (e := [(6, (Value.bool false))]) ⟨rfl, trivial⟩ ?_
          refine c_ret ?_
          obtain rfl := some_inj h
          exact q_ret (vs := [(Value.bool false)]) Tryd.results9 ⟨ev_tmp rfl rfl, trivial⟩ ⟨rfl, hI.ext0, hI.fin trivial⟩
        · replace h := ite_f hb h
          refine c_skip ?_
          exact k_join () ⟨rfl, rfl, rfl, rfl, rfl, rfl, rfl, trivial⟩ ⟨_, hI.arr (.c (.s (.s (.s (.s .z)))) (.c (.s (.s .z)) .n)) ⟨(.s (.s .z)), (.s .z), .z, trivial⟩, h⟩ rfl
      · replace h := ite_f hb h
        refine c_skip ?_
        exact k_join () ⟨rfl, rfl, rfl, rfl, rfl, rfl, rfl, trivial⟩ ⟨_, hI.arr (.c (.s (.s (.s .z))) (.c (.s .z) .n)) ⟨(.s (.s .z)), (.s .z), .z, trivial⟩, h⟩ rfl

set_option maxRecDepth 100000 in
set_option maxHeartbeats 4000000 in
theorem c_ref01_Add (F : NP) (w0 : World) (hF : ∀ k, F k → k < w0.heap.size) (a1 : GVal) (b1 : GVal) (hc : AllCl [] F w0) (r : GVal × Int)
    (h : m_ref01_Add a1 b1 = some r) :
    Calls Tryd.prog 29 #[(Value.agg #[(Value.int .i64 a1.N), (Value.int .i64 a1.D)]), (Value.agg #[(Value.int .i64 b1.N), (Value.int .i64 b1.D)])] w0 fun e w => e = .returned (Value.tuple #[(Value.agg #[(Value.int .i64 r.1.N), (Value.int .i64 r.1.D)]), (Value.int .i64 r.2)]) ∧ Ext w0 w ∧ AllCl [] F w := by
  refine ofEnter (R := fun v w => v = (Value.tuple #[(Value.agg #[(Value.int .i64 r.1.N), (Value.int .i64 r.1.D)]), (Value.int .i64 r.2)]) ∧ Ext w0 w ∧ AllCl [] F w) (enter (l := [(Value.agg #[(Value.int .i64 a1.N), (Value.int .i64 a1.D)]), (Value.agg #[(Value.int .i64 b1.N), (Value.int .i64 b1.D)])]) Tryd.func29 rfl Tryd.ntmps29 rfl ?_) ?_
  rotate_left
  · rintro _ w ⟨rfl, k1, k2⟩; exact ⟨rfl, k1, k2⟩
  have hI := Bun.start hF hc
  clear hc
  rw [m_ref01_Add] at h
  refine c_seq ?_
  refine c_region rfl ?_
  refine l_box (v := (Value.agg #[(Value.int .i64 a1.N), (Value.int .i64 a1.D)])) (cs := #[(Value.int .i64 a1.N), (Value.int .i64 a1.D)]) hI rfl rfl rfl (ev_tmp rfl rfl) rfl ?_
  clear hI; intro b2 c1 w1 hI
  obtain ⟨c2, hI⟩ := hI.relBox .z
  refine l_box (v := (Value.agg #[(Value.int .i64 b1.N), (Value.int .i64 b1.D)])) (cs := #[(Value.int .i64 b1.N), (Value.int .i64 b1.D)]) hI rfl rfl rfl (ev_tmp rfl rfl) rfl ?_
  clear hI; intro b3 c3 w2 hI
  obtain ⟨c4, hI⟩ := hI.relBox .z
  refine l_alloc (cs := #[(Value.int .i64 0), (Value.int .i64 0)]) hI rfl rfl rfl zero_23 rfl ?_
  clear hI; intro b4 c5 w3 hI
  refine s_q rfl rfl (y_assign rfl ev_const) ?_
  refine s_nil ?_
  refine k_next (e := [(2, (Value.pointer (some ⟨b2, 0, none⟩))), (3, (Value.pointer (some ⟨b3, 0, none⟩))), (4, (Value.pointer (some ⟨b4, 0, none⟩)))]) ⟨rfl, rfl, rfl, trivial⟩ ?_
  refine c_seq ?_
  refine c_seq ?_
  refine c_region rfl ?_
  refine s_q rfl rfl (y_loadN (l := [(Value.int .i64 a1.N), (Value.int .i64 a1.D)]) rfl (ev_tmp rfl rfl) Tryd.underlying23 rfl size_23 (hI.kblk (l := [(Value.int .i64 a1.N), (Value.int .i64 a1.D)]) (.s .z) rfl).1) ?_
  obtain ⟨r1, hx1, h⟩ := bnd_some h
  refine s_call rfl rfl (r_callF (vs := [(Value.agg #[(Value.int .i64 a1.N), (Value.int .i64 a1.D)])]) rfl ok_15 ⟨(ev_tmp rfl rfl), trivial⟩) (Calls.mono (c_ref01_Valid (Dj F c5) w3 hI.lt a1 trivial r1 hx1) ?_)
  rintro _ w4 ⟨rfl, hx2, hl1⟩
  refine ⟨_, rfl, ?_⟩
  replace hI := (hI.ext hx2)
  refine s_q rfl rfl (y_not rfl (ev_tmp rfl rfl)) ?_
  refine s_q rfl rfl (y_move rfl (ev_tmp rfl rfl)) ?_
  refine s_gval (g_false rfl rfl rfl rfl) rfl (fun hc => (y_loadN (l := [(Value.int .i64 b1.N), (Value.int .i64 b1.D)]) rfl (ev_tmp rfl rfl) Tryd.underlying23 rfl size_23 (hI.kblk (l := [(Value.int .i64 b1.N), (Value.int .i64 b1.D)]) .z rfl).1)) ?_
  obtain ⟨r2, hx3, h⟩ := bnd_some h
  replace hx3 := gd_some hx3
  refine s_gcallU (v := (Value.bool r2)) (g_false rfl rfl rfl rfl) rfl (fun hc => (r_callF (vs := [(Value.agg #[(Value.int .i64 b1.N), (Value.int .i64 b1.D)])]) rfl ok_15 ⟨(ev_gv (ev_tmp rfl rfl) hc), trivial⟩)) (fun hc => (c_ref01_Valid (Dj F c5) w4 hI.lt b1 trivial r2 (hx3 hc)).mono fun _ _ k => ⟨k.1, k.2.1⟩) ?_
  intro w5 hx4; replace hI := hI.ext hx4
  refine s_gval (g_false rfl rfl rfl rfl) rfl (fun hc => (y_not rfl (ev_gv (ev_tmp rfl rfl) hc))) ?_
  refine s_q rfl rfl (y_or rfl (ev_tmp rfl rfl) (ev_tmp rfl rfl)) ?_
  refine s_nil ?_
  refine k_next (e := [(2, (Value.pointer (some ⟨b2, 0, none⟩))), (3, (Value.pointer (some ⟨b3, 0, none⟩))), (4, (Value.pointer (some ⟨b4, 0, none⟩))), (13, (Value.bool ((!r1) || (!r2))))]) ⟨rfl, rfl, rfl, rfl, trivial⟩ ?_
  refine c_cond (b := (!r1) || (!r2)) (ev_tmp rfl rfl) (fun hb => ?_) (fun hb => ?_)
  · replace h := ite_t hb h
    refine c_seq ?_
    refine c_region rfl ?_
    refine s_q rfl rfl (y_build (vs := []) (cs := #[(Value.int .i64 0), (Value.int .i64 0)]) rfl trivial (by kernel_rfl)) ?_
    refine l_store (new := [(Value.int .i64 0), (Value.int .i64 0)]) (cs' := #[(Value.int .i64 0), (Value.int .i64 0)]) hI .z rfl rfl rfl (ev_tmp rfl rfl) (ev_tmp rfl rfl) rfl size_23 rfl rfl rfl ?_
    clear hI; intro c6 w6 hI
    refine s_q rfl rfl (y_assign rfl ev_const) ?_
    refine s_nil ?_
    refine k_next (e := [(4, (Value.pointer (some ⟨b4, 0, none⟩))), (5, (Value.int .i64 1))]) ⟨rfl, rfl, trivial⟩ ?_
    refine c_ret ?_
    obtain rfl := some_inj h
    exact q_ret (vs := [(Value.agg #[(Value.int .i64 0), (Value.int .i64 0)]), (Value.int .i64 1)]) Tryd.results29 ⟨⟨_, ev_tmp rfl rfl, load_agg (l := [(Value.int .i64 0), (Value.int .i64 0)]) Tryd.underlying23 rfl size_23 (CellsAt.of_blk (hI.blk .z) rfl)⟩, ⟨ev_tmp rfl rfl, trivial⟩⟩ ⟨rfl, hI.ext0, hI.fin trivial⟩
  · replace h := ite_f hb h
    refine c_skip ?_
    refine k_next (e := [(2, (Value.pointer (some ⟨b2, 0, none⟩))), (3, (Value.pointer (some ⟨b3, 0, none⟩))), (4, (Value.pointer (some ⟨b4, 0, none⟩)))]) ⟨rfl, rfl, rfl, trivial⟩ ?_
    refine c_seq ?_
    refine c_region rfl ?_
    refine s_q rfl rfl (y_fieldAddr rfl (ev_tmp rfl rfl) Tryd.underlying23 rfl size_2 rfl) ?_
    refine s_q rfl rfl (y_load1 (v := (Value.int .i64 a1.N)) rfl (ev_tmp rfl rfl) Tryd.underlying2 rfl (hI.kblk (l := [(Value.int .i64 a1.N)]) (.s .z) rfl).1) ?_
    refine s_q rfl rfl (y_fieldAddr rfl (ev_tmp rfl rfl) Tryd.underlying23 rfl size_2 rfl) ?_
    refine s_q rfl rfl (y_load1 (v := (Value.int .i64 b1.D)) rfl (ev_tmp rfl rfl) Tryd.underlying2 rfl (hI.kblk (l := [(Value.int .i64 b1.D)]) .z rfl).1) ?_
    refine s_q rfl rfl (y_mul rfl (ev_tmp rfl rfl) (ev_tmp rfl rfl)) ?_
    refine s_q rfl rfl (y_fieldAddr rfl (ev_tmp rfl rfl) Tryd.underlying23 rfl size_2 rfl) ?_
    refine s_q rfl rfl (y_load1 (v := (Value.int .i64 b1.N)) rfl (ev_tmp rfl rfl) Tryd.underlying2 rfl (hI.kblk (l := [(Value.int .i64 b1.N)]) .z rfl).1) ?_
    refine s_q rfl rfl (y_fieldAddr rfl (ev_tmp rfl rfl) Tryd.underlying23 rfl size_2 rfl) ?_
    refine s_q rfl rfl (y_load1 (v := (Value.int .i64 a1.D)) rfl (ev_tmp rfl rfl) Tryd.underlying2 rfl (hI.kblk (l := [(Value.int .i64 a1.D)]) (.s .z) rfl).1) ?_
    refine s_q rfl rfl (y_mul rfl (ev_tmp rfl rfl) (ev_tmp rfl rfl)) ?_
    refine s_q rfl rfl (y_add rfl (ev_tmp rfl rfl) (ev_tmp rfl rfl)) ?_
    refine s_q rfl rfl (y_fieldAddr rfl (ev_tmp rfl rfl) Tryd.underlying23 rfl size_2 rfl) ?_
    refine s_q rfl rfl (y_load1 (v := (Value.int .i64 a1.D)) rfl (ev_tmp rfl rfl) Tryd.underlying2 rfl (hI.kblk (l := [(Value.int .i64 a1.D)]) (.s .z) rfl).1) ?_
    refine s_q rfl rfl (y_fieldAddr rfl (ev_tmp rfl rfl) Tryd.underlying23 rfl size_2 rfl) ?_
    refine s_q rfl rfl (y_load1 (v := (Value.int .i64 b1.D)) rfl (ev_tmp rfl rfl) Tryd.underlying2 rfl (hI.kblk (l := [(Value.int .i64 b1.D)]) .z rfl).1) ?_
    refine s_q rfl rfl (y_mul rfl (ev_tmp rfl rfl) (ev_tmp rfl rfl)) ?_
    obtain ⟨r3, hx5, h⟩ := bnd_some h
    refine s_call rfl rfl (r_callF (vs := [(Value.int .i64 (wi64 ((wi64 (a1.N * b1.D)) + (wi64 (b1.N * a1.D))))), (Value.int .i64 (wi64 (a1.D * b1.D)))]) rfl ok_13 ⟨(ev_tmp rfl rfl), ⟨(ev_tmp rfl rfl), trivial⟩⟩) (Calls.mono (c_ref01_New (Dj F c5) w5 hI.lt (wi64 ((wi64 (a1.N * b1.D)) + (wi64 (b1.N * a1.D)))) (wi64 (a1.D * b1.D)) trivial r3 hx5) ?_)
    rintro _ w7 ⟨rfl, hx6, hl3⟩
    refine ⟨_, rfl, ?_⟩
    replace hI := (hI.ext hx6)
    refine s_q rfl rfl (y_extract rfl (ev_tmp rfl rfl) rfl) ?_
    refine s_q rfl rfl (y_extract rfl (ev_tmp rfl rfl) rfl) ?_
    refine l_store (new := [(Value.int .i64 r3.1.N), (Value.int .i64 r3.1.D)]) (cs' := #[(Value.int .i64 r3.1.N), (Value.int .i64 r3.1.D)]) hI .z rfl rfl rfl (ev_tmp rfl rfl) (ev_tmp rfl rfl) rfl size_23 rfl rfl rfl ?_
    clear hI; intro c7 w8 hI
    refine s_q rfl rfl (y_assign rfl (ev_tmp rfl rfl)) ?_
    refine s_nil ?_
    refine k_next (e := [(4, (Value.pointer (some ⟨b4, 0, none⟩))), (5, (Value.int .i64 r3.2))]) ⟨rfl, rfl, trivial⟩ ?_
    refine c_ret ?_
    obtain rfl := some_inj h
    exact q_ret (vs := [(Value.agg #[(Value.int .i64 r3.1.N), (Value.int .i64 r3.1.D)]), (Value.int .i64 r3.2)]) Tryd.results29 ⟨⟨_, ev_tmp rfl rfl, load_agg (l := [(Value.int .i64 r3.1.N), (Value.int .i64 r3.1.D)]) Tryd.underlying23 rfl size_23 (CellsAt.of_blk (hI.blk .z) rfl)⟩, ⟨ev_tmp rfl rfl, trivial⟩⟩ ⟨rfl, hI.ext0, hI.fin trivial⟩

end Go.Proofs.YtkmenmoiagkegaaDoor
