/- Each call returns what its plain function gives: printed by a program of my own; Lean checks it. -/
import Derived.Test.YtkmenmoiagkegaaDoorCta
namespace Go.Proofs.YtkmenmoiagkegaaDoor
open Go Go.RowKit Go.Vc
set_option linter.unusedVariables false
set_option linter.unusedSimpArgs false

set_option maxRecDepth 100000 in
set_option maxHeartbeats 4000000 in
theorem c_frac_Sum (F : NP) (w0 : World) (hF : ∀ k, F k → k < w0.heap.size) (l1 : List GVal) (a1 : Option Addr) (c1 : Nat) (hc : AllCl [Cl.sl cGVal a1 c1 l1] F w0) (r : GVal × Int)
    (h : m_frac_Sum l1 = some r) :
    Calls Tryd.prog 17 #[(Value.slice a1 l1.length c1)] w0 fun e w => e = .returned (Value.tuple #[(Value.agg #[(Value.int .i64 r.1.N), (Value.int .i64 r.1.D)]), (Value.int .i64 r.2)]) ∧ Ext w0 w ∧ AllCl [] F w := by
  refine ofEnter (R := fun v w => v = (Value.tuple #[(Value.agg #[(Value.int .i64 r.1.N), (Value.int .i64 r.1.D)]), (Value.int .i64 r.2)]) ∧ Ext w0 w ∧ AllCl [] F w) (enter (l := [(Value.slice a1 l1.length c1)]) Tryd.func17 rfl Tryd.ntmps17 rfl ?_) ?_
  rotate_left
  · rintro _ w ⟨rfl, k1, k2⟩; exact ⟨rfl, k1, k2⟩
  have hI := Bun.start hF hc
  clear hc
  rw [m_frac_Sum] at h
  refine c_seq ?_
  refine c_region rfl ?_
  refine l_alloc (cs := #[(Value.int .i64 0), (Value.int .i64 0)]) hI rfl rfl rfl zero_23 rfl ?_
  clear hI; intro b1 c2 w1 hI
  refine s_q rfl rfl (y_assign rfl ev_const) ?_
  refine s_nil ?_
  refine k_next (e := [(0, (Value.slice a1 l1.length c1)), (2, (Value.pointer (some ⟨b1, 0, none⟩)))]) ⟨rfl, rfl, trivial⟩ ?_
  refine c_join (α := Unit) (fun _ => ⟨110, []⟩) (fun _ => [(0, (Value.slice a1 l1.length c1)), (2, (Value.pointer (some ⟨b1, 0, none⟩)))]) (fun _ => fun w => ∃ C, Bun noM F w0 C w [MO.box b1 23 #[(Value.int .i64 0), (Value.int .i64 0)]] [Cl.sl cGVal a1 c1 l1] ∧ m_frac_Sum_j1 l1 = some r) ?_ ?_
  · clear h hI; rintro _ w2 ⟨c3, hI, h⟩
    try dsimp only at hI h
    rw [m_frac_Sum_j1] at h
    refine c_sub (e := [(0, (Value.slice a1 l1.length c1)), (2, (Value.pointer (some ⟨b1, 0, none⟩)))]) ⟨rfl, rfl, trivial⟩ ?_
    refine c_seq ?_
    refine c_region rfl ?_
    refine s_q rfl rfl (y_assign rfl ev_const) ?_
    refine s_q rfl rfl (y_assign rfl ev_const) ?_
    refine s_nil ?_
    refine k_next (e := [(0, (Value.slice a1 l1.length c1)), (2, (Value.pointer (some ⟨b1, 0, none⟩))), (6, (Value.slice none 0 0)), (7, (Value.slice none 0 0))]) ⟨rfl, rfl, rfl, rfl, trivial⟩ ?_
    refine c_seq ?_
    refine c_region rfl ?_
    refine l_lit (c := (cInt .u32)) (xs := ([1] : List Int)) (vs := [(0, (Value.int .u32 1))]) (cs := #[(Value.int .u32 1)]) (css := [[(Value.int .u32 1)]]) hI rfl rfl rfl Tryd.underlying53 info_54 rfl ⟨rfl, ev_const, trivial⟩ (by kernel_rfl) ⟨rfl, trivial⟩ rfl rfl rfl ?_
    clear hI; intro b2 c4 w3 hI
    refine s_q rfl rfl (y_assign rfl (ev_tmp rfl rfl)) ?_
    refine s_nil ?_
    refine k_next (e := [(0, (Value.slice a1 l1.length c1)), (2, (Value.pointer (some ⟨b1, 0, none⟩))), (6, (Value.slice none 0 0)), (7, (Value.slice none 0 0)), (8, (Value.slice (some ⟨b2, 0, none⟩) ([1] : List Int).length 1))]) ⟨rfl, rfl, rfl, rfl, rfl, trivial⟩ ?_
    refine c_join (α := (List Int) × (List Int) × (List Int) × (Option Addr) × Nat × (Option Addr) × Nat × (Option Addr) × Nat) (fun _ => ⟨110, []⟩) (fun x => [(2, (Value.pointer (some ⟨b1, 0, none⟩))), (6, (Value.slice (x.2.2.2.1) (x.1).length (x.2.2.2.2.1))), (7, (Value.slice (x.2.2.2.2.2.1) (x.2.1).length (x.2.2.2.2.2.2.1))), (8, (Value.slice (x.2.2.2.2.2.2.2.1) (x.2.2.1).length (x.2.2.2.2.2.2.2.2)))]) (fun x => fun w => ∃ C, Bun noM F w0 C w [MO.box b1 23 #[(Value.int .i64 0), (Value.int .i64 0)]] [Cl.sl (cInt .u32) (x.2.2.2.1) (x.2.2.2.2.1) (x.1), Cl.sl (cInt .u32) (x.2.2.2.2.2.1) (x.2.2.2.2.2.2.1) (x.2.1), Cl.sl (cInt .u32) (x.2.2.2.2.2.2.2.1) (x.2.2.2.2.2.2.2.2) (x.2.2.1)] ∧ m_frac_Sum_j2 (x.1) (x.2.1) (x.2.2.1) = some r) ?_ ?_
    · clear h hI; rintro ⟨pos1, neg1, all1, a2, c5, a3, c6, a4, c7⟩ w4 ⟨c8, hI, h⟩
      try dsimp only at hI h
      rw [m_frac_Sum_j2] at h
      refine c_sub (e := [(2, (Value.pointer (some ⟨b1, 0, none⟩))), (6, (Value.slice a2 pos1.length c5)), (7, (Value.slice a3 neg1.length c6)), (8, (Value.slice a4 all1.length c7))]) ⟨rfl, rfl, rfl, rfl, trivial⟩ ?_
      refine c_seq ?_
      refine c_seq ?_
      refine c_region rfl ?_
      refine s_q rfl rfl (y_move rfl (ev_tmp rfl rfl)) ?_
      refine s_q rfl rfl (y_move rfl (ev_tmp rfl rfl)) ?_
      obtain ⟨r1, hx1, h⟩ := bnd_some h
      refine s_call rfl rfl (r_callF (vs := [(Value.slice a2 pos1.length c5), (Value.slice a3 neg1.length c6)]) rfl ok_49 ⟨(ev_tmp rfl rfl), ⟨(ev_tmp rfl rfl), trivial⟩⟩) (Calls.mono (c_frac_nat_compare (Dj F c8) w4 hI.lt pos1 neg1 a2 c5 a3 c6 ⟨(hI.get .z), (hI.get (.s .z)), trivial⟩ r1 hx1) ?_)
      rintro _ w5 ⟨rfl, hx2, hl1⟩
      refine ⟨_, rfl, ?_⟩
      replace hI := (hI.ext hx2)
      refine s_q rfl rfl (y_lss rfl (ev_tmp rfl rfl) ev_const) ?_
      refine s_nil ?_
      refine k_next (e := [(2, (Value.pointer (some ⟨b1, 0, none⟩))), (6, (Value.slice a2 pos1.length c5)), (7, (Value.slice a3 neg1.length c6)), (8, (Value.slice a4 all1.length c7)), (87, (Value.bool (decide (r1 < 0))))]) ⟨rfl, rfl, rfl, rfl, rfl, trivial⟩ ?_
      refine c_cond (b := decide (r1 < 0)) (ev_tmp rfl rfl) (fun hb => ?_) (fun hb => ?_)
      · replace h := ite_t hb h
        refine c_seq ?_
        refine c_region rfl ?_
        refine s_q rfl rfl (y_move rfl (ev_tmp rfl rfl)) ?_
        refine s_q rfl rfl (y_move rfl (ev_tmp rfl rfl)) ?_
        obtain ⟨r2, hx3, h⟩ := bnd_some h
        refine s_call rfl rfl (r_callF (vs := [(Value.slice a3 neg1.length c6), (Value.slice a2 pos1.length c5)]) rfl ok_51 ⟨(ev_tmp rfl rfl), ⟨(ev_tmp rfl rfl), trivial⟩⟩) (Calls.mono (c_frac_nat_minus (Dj F c8) w5 hI.lt neg1 pos1 a3 c6 a2 c5 ⟨(hI.get (.s .z)), (hI.get .z), trivial⟩ r2 hx3) ?_)
        rintro _ w6 ⟨a5, c9, rfl, hx4, hl2⟩
        refine ⟨_, rfl, ?_⟩
        replace hI := (hI.ext hx4).adds hl2
        refine s_q rfl rfl (y_move rfl (ev_tmp rfl rfl)) ?_
        obtain ⟨r3, hx5, h⟩ := bnd_some h
        refine s_call rfl rfl (r_callF (vs := [(Value.slice a5 r2.length c9), (Value.slice a4 all1.length c7)]) rfl ok_50 ⟨(ev_tmp rfl rfl), ⟨(ev_tmp rfl rfl), trivial⟩⟩) (Calls.mono (c_frac_lowest (Dj F c8) w6 hI.lt r2 all1 a5 c9 a4 c7 ⟨(hI.get .z), (hI.get (.s (.s (.s .z)))), trivial⟩ r3 hx5) ?_)
        rintro _ w7 ⟨rfl, hx6, hl3⟩
        refine ⟨_, rfl, ?_⟩
        replace hI := (hI.ext hx6)
        refine s_q rfl rfl (y_move rfl (ev_tmp rfl rfl)) ?_
        refine s_q rfl rfl (y_extract rfl (ev_tmp rfl rfl) rfl) ?_
        refine s_q rfl rfl (y_extract rfl (ev_tmp rfl rfl) rfl) ?_
        refine l_alloc (cs := #[(Value.int .i64 0), (Value.int .i64 0)]) hI rfl rfl rfl zero_23 rfl ?_
        clear hI; intro b3 c10 w8 hI
        refine l_store (new := [(Value.int .i64 r3.1.N), (Value.int .i64 r3.1.D)]) (cs' := #[(Value.int .i64 r3.1.N), (Value.int .i64 r3.1.D)]) hI .z rfl rfl rfl (ev_tmp rfl rfl) (ev_tmp rfl rfl) rfl size_23 rfl rfl rfl ?_
        clear hI; intro c11 w9 hI
        refine s_q rfl rfl (y_assign rfl (ev_tmp rfl rfl)) ?_
        refine s_nil ?_
        refine k_next (e := [(2, (Value.pointer (some ⟨b1, 0, none⟩))), (16, (Value.pointer (some ⟨b3, 0, none⟩))), (17, (Value.int .i64 r3.2))]) ⟨rfl, rfl, rfl, trivial⟩ ?_
        refine c_seq ?_
        refine c_region rfl ?_
        refine s_q rfl rfl (y_fieldAddr rfl (ev_tmp rfl rfl) Tryd.underlying23 rfl size_2 rfl) ?_
        refine s_q rfl rfl (y_load1 (v := (Value.int .i64 r3.1.N)) rfl (ev_tmp rfl rfl) Tryd.underlying2 rfl (CellsAt.of_blk (hI.blk .z) rfl)) ?_
        refine s_q rfl rfl (y_neg rfl (ev_tmp rfl rfl)) ?_
        refine s_q rfl rfl (y_fieldAddr rfl (ev_tmp rfl rfl) Tryd.underlying23 rfl size_2 rfl) ?_
        refine s_q rfl rfl (y_load1 (v := (Value.int .i64 r3.1.D)) rfl (ev_tmp rfl rfl) Tryd.underlying2 rfl (CellsAt.of_blk (hI.blk .z) rfl)) ?_
        refine s_q rfl rfl (y_build (vs := [(0, (Value.int .i64 (wi64 (-r3.1.N)))), (1, (Value.int .i64 r3.1.D))]) (cs := #[(Value.int .i64 (wi64 (-r3.1.N))), (Value.int .i64 r3.1.D)]) rfl ⟨rfl, (ev_tmp rfl rfl), ⟨rfl, (ev_tmp rfl rfl), trivial⟩⟩ (by kernel_rfl)) ?_
        refine s_q rfl rfl (y_move rfl (ev_tmp rfl rfl)) ?_
        refine l_store (new := [(Value.int .i64 (wi64 (-r3.1.N))), (Value.int .i64 r3.1.D)]) (cs' := #[(Value.int .i64 (wi64 (-r3.1.N))), (Value.int .i64 r3.1.D)]) hI (.s .z) rfl rfl rfl (ev_tmp rfl rfl) (ev_tmp rfl rfl) rfl size_23 rfl rfl rfl ?_
        clear hI; intro c12 w10 hI
        refine s_q rfl rfl (y_assign rfl (ev_tmp rfl rfl)) ?_
        refine s_nil ?_
        refine k_next (e := [(2, (Value.pointer (some ⟨b1, 0, none⟩))), (3, (Value.int .i64 r3.2))]) ⟨rfl, rfl, trivial⟩ ?_
        refine c_ret ?_
        obtain rfl := some_inj h
        exact q_ret (vs := [(Value.agg #[(Value.int .i64 (wi64 (-r3.1.N))), (Value.int .i64 r3.1.D)]), (Value.int .i64 r3.2)]) Tryd.results17 ⟨⟨_, ev_tmp rfl rfl, load_agg (l := [(Value.int .i64 (wi64 (-r3.1.N))), (Value.int .i64 r3.1.D)]) Tryd.underlying23 rfl size_23 (CellsAt.of_blk (hI.blk (.s .z)) rfl)⟩, ⟨ev_tmp rfl rfl, trivial⟩⟩ ⟨rfl, hI.ext0, hI.fin trivial⟩
      · replace h := ite_f hb h
        refine c_skip ?_
        refine k_next (e := [(2, (Value.pointer (some ⟨b1, 0, none⟩))), (6, (Value.slice a2 pos1.length c5)), (7, (Value.slice a3 neg1.length c6)), (8, (Value.slice a4 all1.length c7))]) ⟨rfl, rfl, rfl, rfl, trivial⟩ ?_
        refine c_seq ?_
        refine c_region rfl ?_
        refine s_q rfl rfl (y_move rfl (ev_tmp rfl rfl)) ?_
        refine s_q rfl rfl (y_move rfl (ev_tmp rfl rfl)) ?_
        obtain ⟨r4, hx7, h⟩ := bnd_some h
        refine s_call rfl rfl (r_callF (vs := [(Value.slice a2 pos1.length c5), (Value.slice a3 neg1.length c6)]) rfl ok_51 ⟨(ev_tmp rfl rfl), ⟨(ev_tmp rfl rfl), trivial⟩⟩) (Calls.mono (c_frac_nat_minus (Dj F c8) w5 hI.lt pos1 neg1 a2 c5 a3 c6 ⟨(hI.get .z), (hI.get (.s .z)), trivial⟩ r4 hx7) ?_)
        rintro _ w11 ⟨a6, c13, rfl, hx8, hl4⟩
        refine ⟨_, rfl, ?_⟩
        replace hI := (hI.ext hx8).adds hl4
        refine s_q rfl rfl (y_move rfl (ev_tmp rfl rfl)) ?_
        obtain ⟨r5, hx9, h⟩ := bnd_some h
        refine s_call rfl rfl (r_callF (vs := [(Value.slice a6 r4.length c13), (Value.slice a4 all1.length c7)]) rfl ok_50 ⟨(ev_tmp rfl rfl), ⟨(ev_tmp rfl rfl), trivial⟩⟩) (Calls.mono (c_frac_lowest (Dj F c8) w11 hI.lt r4 all1 a6 c13 a4 c7 ⟨(hI.get .z), (hI.get (.s (.s (.s .z)))), trivial⟩ r5 hx9) ?_)
        rintro _ w12 ⟨rfl, hx10, hl5⟩
        refine ⟨_, rfl, ?_⟩
        replace hI := (hI.ext hx10)
        refine s_q rfl rfl (y_extract rfl (ev_tmp rfl rfl) rfl) ?_
        refine s_q rfl rfl (y_extract rfl (ev_tmp rfl rfl) rfl) ?_
        refine l_store (new := [(Value.int .i64 r5.1.N), (Value.int .i64 r5.1.D)]) (cs' := #[(Value.int .i64 r5.1.N), (Value.int .i64 r5.1.D)]) hI .z rfl rfl rfl (ev_tmp rfl rfl) (ev_tmp rfl rfl) rfl size_23 rfl rfl rfl ?_
        clear hI; intro c14 w13 hI
        refine s_q rfl rfl (y_assign rfl (ev_tmp rfl rfl)) ?_
        refine s_nil ?_
        refine k_next (e := [(2, (Value.pointer (some ⟨b1, 0, none⟩))), (3, (Value.int .i64 r5.2))]) ⟨rfl, rfl, trivial⟩ ?_
        refine c_ret ?_
        obtain rfl := some_inj h
        exact q_ret (vs := [(Value.agg #[(Value.int .i64 r5.1.N), (Value.int .i64 r5.1.D)]), (Value.int .i64 r5.2)]) Tryd.results17 ⟨⟨_, ev_tmp rfl rfl, load_agg (l := [(Value.int .i64 r5.1.N), (Value.int .i64 r5.1.D)]) Tryd.underlying23 rfl size_23 (CellsAt.of_blk (hI.blk .z) rfl)⟩, ⟨ev_tmp rfl rfl, trivial⟩⟩ ⟨rfl, hI.ext0, hI.fin trivial⟩
    · skip
      refine c_seq ?_
      refine c_region rfl ?_
      refine s_q rfl rfl (y_move rfl (ev_tmp rfl rfl)) ?_
      refine s_q rfl rfl (y_lenl rfl Tryd.underlying30 (ev_tmp rfl rfl)) ?_
      refine s_q rfl rfl (y_move rfl ev_const) ?_
      refine s_nil ?_
      refine k_next (e := [(2, (Value.pointer (some ⟨b1, 0, none⟩))), (6, (Value.slice none 0 0)), (7, (Value.slice none 0 0)), (8, (Value.slice (some ⟨b2, 0, none⟩) ([1] : List Int).length 1)), (30, (Value.slice a1 l1.length c1)), (31, (Value.int .i64 (l1.length : Int))), (32, (Value.int .i64 0))]) ⟨rfl, rfl, rfl, rfl, rfl, rfl, rfl, trivial⟩ ?_
      refine c_block ?_
      have hI := hI.add (c := Cl.sl (cInt .u32) none 0 ([] : List Int)) SlC.nil
      obtain ⟨c19, hI⟩ := hI.release .z
      refine c_loop (α := Nat × (List Int) × (List Int) × (List Int) × Int × (Option Addr) × Nat × (Option Addr) × Nat × (Option Addr) × Nat) (fun x => fun w => ∃ C, Bun noM F w0 C w [MO.box b1 23 #[(Value.int .i64 0), (Value.int .i64 0)]] [Cl.sl (cInt .u32) (x.2.2.2.2.2.1) (x.2.2.2.2.2.2.1) (x.2.1), Cl.sl (cInt .u32) (x.2.2.2.2.2.2.2.1) (x.2.2.2.2.2.2.2.2.1) (x.2.2.1), Cl.sl (cInt .u32) (x.2.2.2.2.2.2.2.2.2.1) (x.2.2.2.2.2.2.2.2.2.2) (x.2.2.2.1), Cl.sl cGVal a1 c1 l1] ∧ m_frac_Sum_l1 l1 (x.1) (x.2.1) (x.2.2.1) (x.2.2.2.1) (x.2.2.2.2.1) = some r) (fun x _ => x.1) (fun x => [(2, (Value.pointer (some ⟨b1, 0, none⟩))), (6, (Value.slice (x.2.2.2.2.2.1) (x.2.1).length (x.2.2.2.2.2.2.1))), (7, (Value.slice (x.2.2.2.2.2.2.2.1) (x.2.2.1).length (x.2.2.2.2.2.2.2.2.1))), (8, (Value.slice (x.2.2.2.2.2.2.2.2.2.1) (x.2.2.2.1).length (x.2.2.2.2.2.2.2.2.2.2))), (30, (Value.slice a1 l1.length c1)), (31, (Value.int .i64 (l1.length : Int))), (32, (Value.int .i64 (x.2.2.2.2.1)))]) (fu, ([] : List Int), ([] : List Int), ([1] : List Int), 0, none, 0, none, 0, some ⟨b2, 0, none⟩, 1) ⟨_, hI.arr (.c .z .n) ⟨(.s .z), (.s .z), .z, (.s (.s .z)), trivial⟩, h⟩ ⟨rfl, rfl, rfl, rfl, rfl, rfl, rfl, trivial⟩ ?_
      clear h hI; rintro ⟨fuel1, pos2, neg2, all2, i1, a7, c15, a8, c16, a9, c17⟩ w14 ⟨c18, hI, h⟩
      dsimp only at hI h
      rcases fuel1 with _ | fuel1
      · rw [m_frac_Sum_l1] at h; cases h
      rw [m_frac_Sum_l1] at h
      refine c_sub (e := [(2, (Value.pointer (some ⟨b1, 0, none⟩))), (6, (Value.slice a7 pos2.length c15)), (7, (Value.slice a8 neg2.length c16)), (8, (Value.slice a9 all2.length c17)), (30, (Value.slice a1 l1.length c1)), (31, (Value.int .i64 (l1.length : Int))), (32, (Value.int .i64 i1))]) ⟨rfl, rfl, rfl, rfl, rfl, rfl, rfl, trivial⟩ ?_
      refine c_seq ?_
      refine c_region rfl ?_
      refine s_q rfl rfl (y_lss rfl (ev_tmp rfl rfl) (ev_tmp rfl rfl)) ?_
      refine s_nil ?_
      refine k_next (e := [(2, (Value.pointer (some ⟨b1, 0, none⟩))), (6, (Value.slice a7 pos2.length c15)), (7, (Value.slice a8 neg2.length c16)), (8, (Value.slice a9 all2.length c17)), (30, (Value.slice a1 l1.length c1)), (31, (Value.int .i64 (l1.length : Int))), (32, (Value.int .i64 i1)), (33, (Value.bool (decide (i1 < (l1.length : Int)))))]) ⟨rfl, rfl, rfl, rfl, rfl, rfl, rfl, rfl, trivial⟩ ?_
      refine c_seq ?_
      refine c_cond (b := decide (i1 < (l1.length : Int))) (ev_tmp rfl rfl) (fun hb => ?_) (fun hb => ?_)
      · replace h := ite_t hb h
        refine c_skip ?_
        refine k_next (e := [(2, (Value.pointer (some ⟨b1, 0, none⟩))), (6, (Value.slice a7 pos2.length c15)), (7, (Value.slice a8 neg2.length c16)), (8, (Value.slice a9 all2.length c17)), (30, (Value.slice a1 l1.length c1)), (31, (Value.int .i64 (l1.length : Int))), (32, (Value.int .i64 i1))]) ⟨rfl, rfl, rfl, rfl, rfl, rfl, rfl, trivial⟩ ?_
        refine c_join (α := (List Int) × (List Int) × (List Int) × (Option Addr) × Nat × (Option Addr) × Nat × (Option Addr) × Nat) (fun _ => ⟨110, []⟩) (fun x => [(2, (Value.pointer (some ⟨b1, 0, none⟩))), (6, (Value.slice (x.2.2.2.1) (x.1).length (x.2.2.2.2.1))), (7, (Value.slice (x.2.2.2.2.2.1) (x.2.1).length (x.2.2.2.2.2.2.1))), (8, (Value.slice (x.2.2.2.2.2.2.2.1) (x.2.2.1).length (x.2.2.2.2.2.2.2.2))), (30, (Value.slice a1 l1.length c1)), (31, (Value.int .i64 (l1.length : Int))), (32, (Value.int .i64 i1))]) (fun x => fun w => ∃ C, Bun noM F w0 C w [MO.box b1 23 #[(Value.int .i64 0), (Value.int .i64 0)]] [Cl.sl (cInt .u32) (x.2.2.2.1) (x.2.2.2.2.1) (x.1), Cl.sl (cInt .u32) (x.2.2.2.2.2.1) (x.2.2.2.2.2.2.1) (x.2.1), Cl.sl (cInt .u32) (x.2.2.2.2.2.2.2.1) (x.2.2.2.2.2.2.2.2) (x.2.2.1), Cl.sl cGVal a1 c1 l1] ∧ m_frac_Sum_j3 (m_frac_Sum_l1 l1 fuel1) i1 (x.1) (x.2.1) (x.2.2.1) = some r) ?_ ?_
        · clear h hI; rintro ⟨pos3, neg3, all3, a10, c20, a11, c21, a12, c22⟩ w15 ⟨c23, hI, h⟩
          try dsimp only at hI h
          rw [m_frac_Sum_j3] at h
          refine c_sub (e := [(2, (Value.pointer (some ⟨b1, 0, none⟩))), (6, (Value.slice a10 pos3.length c20)), (7, (Value.slice a11 neg3.length c21)), (8, (Value.slice a12 all3.length c22)), (30, (Value.slice a1 l1.length c1)), (31, (Value.int .i64 (l1.length : Int))), (32, (Value.int .i64 i1))]) ⟨rfl, rfl, rfl, rfl, rfl, rfl, rfl, trivial⟩ ?_
          refine c_region rfl ?_
          refine s_q rfl rfl (y_add rfl (ev_tmp rfl rfl) ev_const) ?_
          refine s_q rfl rfl (y_move rfl (ev_tmp rfl rfl)) ?_
          refine s_nil ?_
          exact k_loop (fuel1, pos3, neg3, all3, wi64 (i1 + 1), a10, c20, a11, c21, a12, c22) ⟨rfl, rfl, rfl, rfl, rfl, rfl, rfl, trivial⟩ ⟨_, hI.arr (.c .z .n) ⟨.z, (.s .z), (.s (.s .z)), (.s (.s (.s .z))), trivial⟩, h⟩ (Nat.lt_succ_self _)
        · skip
          refine c_block ?_
          refine c_seq ?_
          refine c_region rfl ?_
          obtain ⟨e1, hx11, h⟩ := bnd_some h
          obtain ⟨ad1, cs1, hA1, hr1, hq1⟩ := hI.clat (.s (.s (.s .z))) hx11
          obtain rfl : cs1 = [(Value.int .i64 e1.N), (Value.int .i64 e1.D)] := hr1
          refine s_q rfl rfl (y_indexAddr rfl Tryd.underlying30 size_23 (ev_tmp rfl rfl) (ev_tmp rfl rfl) (lat_bd hx11) hA1) ?_
          refine s_q rfl rfl (y_loadN (l := [(Value.int .i64 e1.N), (Value.int .i64 e1.D)]) rfl (ev_tmp rfl rfl) Tryd.underlying23 rfl size_23 hq1.1) ?_
          refine l_alloc (cs := #[(Value.int .i64 0), (Value.int .i64 0)]) hI rfl rfl rfl zero_23 rfl ?_
          clear hI; intro b4 c24 w16 hI
          refine l_store (new := [(Value.int .i64 e1.N), (Value.int .i64 e1.D)]) (cs' := #[(Value.int .i64 e1.N), (Value.int .i64 e1.D)]) hI .z rfl rfl rfl (ev_tmp rfl rfl) (ev_tmp rfl rfl) rfl size_23 rfl rfl rfl ?_
          clear hI; intro c25 w17 hI
          refine s_nil ?_
          refine k_next (e := [(2, (Value.pointer (some ⟨b1, 0, none⟩))), (6, (Value.slice a7 pos2.length c15)), (7, (Value.slice a8 neg2.length c16)), (8, (Value.slice a9 all2.length c17)), (30, (Value.slice a1 l1.length c1)), (31, (Value.int .i64 (l1.length : Int))), (32, (Value.int .i64 i1)), (10, (Value.pointer (some ⟨b4, 0, none⟩)))]) ⟨rfl, rfl, rfl, rfl, rfl, rfl, rfl, rfl, trivial⟩ ?_
          refine c_seq ?_
          refine c_drawX [] false (.c (0, .q) (.c (1, .q) (.c (2, .q) (.c (3, .q) (.c (6, .q) (.c (7, .q) (.c (8, .q) (.c (4, .s) (.c (5, .q) (.c (9, .s) (.c (10, .q) .n))))))))))) hI (by kernel_rfl) (by kernel_rfl) ?_
          clear hI; intro w18 hI
          refine a_q rfl rfl rfl (fun w' => (y_move rfl (ev_tmp rfl rfl))) ?_
          refine a_q rfl rfl rfl (fun w' => (y_fieldAddr rfl (ev_tmp rfl rfl) Tryd.underlying23 rfl size_2 rfl)) ?_
          refine a_read rfl rfl rfl (fun w' hw' => (y_load1 (v := (Value.int .i64 e1.D)) rfl (ev_tmp rfl rfl) Tryd.underlying2 rfl ((CA.blk (hI.blk .z) rfl).at_ (SX.any rfl hw')))) (by kernel_rfl) ?_
          refine a_q rfl rfl rfl (fun w' => (y_conv rfl (by rw [Tryd.underlying2]; rfl) Tryd.underlying54 (ev_tmp rfl rfl))) ?_
          refine a_q rfl rfl rfl (fun w' => (y_fieldAddr rfl (ev_tmp rfl rfl) Tryd.underlying23 rfl size_2 rfl)) ?_
          refine a_read rfl rfl rfl (fun w' hw' => (y_load1 (v := (Value.int .i64 e1.D)) rfl (ev_tmp rfl rfl) Tryd.underlying2 rfl ((CA.blk (hI.blk .z) rfl).at_ (SX.any rfl hw')))) (by kernel_rfl) ?_
          refine a_q rfl rfl rfl (fun w' => (y_conv rfl (by rw [Tryd.underlying2]; rfl) Tryd.underlying44 (ev_tmp rfl rfl))) ?_
          obtain ⟨r6, hx12, h⟩ := bnd_some h
          refine la_call rfl rfl rfl (r_callF (vs := [(Value.slice a9 all2.length c17), (Value.int .u32 (wu32 e1.D))]) rfl ok_45 ⟨(ev_tmp rfl rfl), ⟨(ev_tmp rfl rfl), trivial⟩⟩) (Calls.mono (c_frac_nat_mod (Dj F c25) w18 hI.lt all2 (wu32 e1.D) a9 c17 ⟨(hI.get (.s (.s .z))), trivial⟩ r6 hx12) ?_)
          rintro _ w19 ⟨rfl, hx13, hl6⟩
          refine ⟨_, rfl, hx13, ?_⟩
          replace hI := (hI.ext hx13)
          refine a_q rfl rfl rfl (fun w' => (y_conv rfl (by rw [Tryd.underlying54]; rfl) Tryd.underlying44 (ev_tmp rfl rfl))) ?_
          obtain ⟨r7, hx14, h⟩ := bnd_some h
          refine la_call rfl rfl rfl (r_callF (vs := [(Value.int .u64 (wu64 r6)), (Value.int .u64 (wu64 e1.D))]) rfl ok_40 ⟨(ev_tmp rfl rfl), ⟨(ev_tmp rfl rfl), trivial⟩⟩) (Calls.mono (c_frac_gcd (Dj F c25) w19 hI.lt (wu64 r6) (wu64 e1.D) trivial r7 hx14) ?_)
          rintro _ w20 ⟨rfl, hx15, hl7⟩
          refine ⟨_, rfl, hx15, ?_⟩
          replace hI := (hI.ext hx15)
          refine a_q rfl rfl rfl (fun w' => (y_assign rfl (ev_tmp rfl rfl))) ?_
          refine a_nil ?_
          refine k_next (e := [(2, (Value.pointer (some ⟨b1, 0, none⟩))), (6, (Value.slice a7 pos2.length c15)), (7, (Value.slice a8 neg2.length c16)), (8, (Value.slice a9 all2.length c17)), (30, (Value.slice a1 l1.length c1)), (31, (Value.int .i64 (l1.length : Int))), (32, (Value.int .i64 i1)), (10, (Value.pointer (some ⟨b4, 0, none⟩))), (11, (Value.int .u64 r7))]) ⟨rfl, rfl, rfl, rfl, rfl, rfl, rfl, rfl, rfl, trivial⟩ ?_
          refine c_seq ?_
          refine c_region rfl ?_
          refine s_q rfl rfl (y_fieldAddr rfl (ev_tmp rfl rfl) Tryd.underlying23 rfl size_2 rfl) ?_
          refine s_q rfl rfl (y_load1 (v := (Value.int .i64 e1.D)) rfl (ev_tmp rfl rfl) Tryd.underlying2 rfl (CellsAt.of_blk (hI.blk .z) rfl)) ?_
          refine s_q rfl rfl (y_conv rfl (by rw [Tryd.underlying2]; rfl) Tryd.underlying44 (ev_tmp rfl rfl)) ?_
          refine s_q rfl rfl (y_move rfl (ev_tmp rfl rfl)) ?_
          obtain ⟨ho1, h⟩ := chk_some h
          refine s_q rfl rfl (y_quo rfl (ev_tmp rfl rfl) (ev_tmp rfl rfl) ho1) ?_
          refine s_q rfl rfl (y_conv rfl (by rw [Tryd.underlying44]; rfl) Tryd.underlying54 (ev_tmp rfl rfl)) ?_
          obtain ⟨by1, hx16, h⟩ := bnd_some h
          refine s_q rfl rfl (binU (y_assign rfl (ev_tmp rfl rfl)) (congrArg (Value.int .u32) (some_inj hx16))) ?_
          refine s_nil ?_
          refine k_next (e := [(2, (Value.pointer (some ⟨b1, 0, none⟩))), (6, (Value.slice a7 pos2.length c15)), (7, (Value.slice a8 neg2.length c16)), (8, (Value.slice a9 all2.length c17)), (30, (Value.slice a1 l1.length c1)), (31, (Value.int .i64 (l1.length : Int))), (32, (Value.int .i64 i1)), (10, (Value.pointer (some ⟨b4, 0, none⟩))), (11, (Value.int .u64 r7)), (12, (Value.int .u32 by1))]) ⟨rfl, rfl, rfl, rfl, rfl, rfl, rfl, rfl, rfl, rfl, trivial⟩ ?_
          refine c_seq ?_
          refine c_region rfl ?_
          refine s_q rfl rfl (y_move rfl (ev_tmp rfl rfl)) ?_
          refine s_q rfl rfl (y_move rfl (ev_tmp rfl rfl)) ?_
          refine s_q rfl rfl (y_conv rfl (by rw [Tryd.underlying44]; rfl) Tryd.underlying54 (ev_tmp rfl rfl)) ?_
          obtain ⟨r8, hx17, h⟩ := bnd_some h
          refine s_call rfl rfl (r_callF (vs := [(Value.slice a9 all2.length c17), (Value.int .u32 (wu32 r7))]) rfl ok_46 ⟨(ev_tmp rfl rfl), ⟨(ev_tmp rfl rfl), trivial⟩⟩) (Calls.mono (c_frac_nat_div (Dj F c25) w20 hI.lt all2 (wu32 r7) a9 c17 ⟨(hI.get (.s (.s .z))), trivial⟩ r8 hx17) ?_)
          rintro _ w21 ⟨a13, c26, rfl, hx18, hl8⟩
          refine ⟨_, rfl, ?_⟩
          replace hI := (hI.ext hx18).adds hl8
          refine s_q rfl rfl (y_move rfl (ev_tmp rfl rfl)) ?_
          refine s_q rfl rfl (y_extract rfl (ev_tmp rfl rfl) rfl) ?_
          refine s_q rfl rfl (y_extract rfl (ev_tmp rfl rfl) rfl) ?_
          refine s_q rfl rfl (y_assign rfl (ev_tmp rfl rfl)) ?_
          refine s_q rfl rfl (y_assign rfl (ev_tmp rfl rfl)) ?_
          refine s_nil ?_
          refine k_next (e := [(2, (Value.pointer (some ⟨b1, 0, none⟩))), (6, (Value.slice a7 pos2.length c15)), (7, (Value.slice a8 neg2.length c16)), (8, (Value.slice a9 all2.length c17)), (30, (Value.slice a1 l1.length c1)), (31, (Value.int .i64 (l1.length : Int))), (32, (Value.int .i64 i1)), (10, (Value.pointer (some ⟨b4, 0, none⟩))), (12, (Value.int .u32 by1)), (13, (Value.slice a13 r8.1.length c26))]) ⟨rfl, rfl, rfl, rfl, rfl, rfl, rfl, rfl, rfl, rfl, trivial⟩ ?_
          refine c_seq ?_
          refine c_region rfl ?_
          refine s_q rfl rfl (y_move rfl (ev_tmp rfl rfl)) ?_
          refine s_q rfl rfl (y_move rfl (ev_tmp rfl rfl)) ?_
          obtain ⟨r9, hx19, h⟩ := bnd_some h
          refine s_call rfl rfl (r_callF (vs := [(Value.slice a7 pos2.length c15), (Value.int .u32 by1)]) rfl ok_47 ⟨(ev_tmp rfl rfl), ⟨(ev_tmp rfl rfl), trivial⟩⟩) (Calls.mono (c_frac_nat_times (Dj F c25) w21 hI.lt pos2 by1 a7 c15 ⟨(hI.get (.s .z)), trivial⟩ r9 hx19) ?_)
          rintro _ w22 ⟨a14, c27, rfl, hx20, hl9⟩
          refine ⟨_, rfl, ?_⟩
          replace hI := (hI.ext hx20).adds hl9
          refine s_q rfl rfl (y_move rfl (ev_tmp rfl rfl)) ?_
          refine s_q rfl rfl (y_move rfl (ev_tmp rfl rfl)) ?_
          obtain ⟨r10, hx21, h⟩ := bnd_some h
          refine s_call rfl rfl (r_callF (vs := [(Value.slice a8 neg2.length c16), (Value.int .u32 by1)]) rfl ok_47 ⟨(ev_tmp rfl rfl), ⟨(ev_tmp rfl rfl), trivial⟩⟩) (Calls.mono (c_frac_nat_times (Dj F c25) w22 hI.lt neg2 by1 a8 c16 ⟨(hI.get (.s (.s (.s .z)))), trivial⟩ r10 hx21) ?_)
          rintro _ w23 ⟨a15, c28, rfl, hx22, hl10⟩
          refine ⟨_, rfl, ?_⟩
          replace hI := (hI.ext hx22).adds hl10
          refine s_q rfl rfl (y_move rfl (ev_tmp rfl rfl)) ?_
          refine s_q rfl rfl (y_move rfl (ev_tmp rfl rfl)) ?_
          obtain ⟨r11, hx23, h⟩ := bnd_some h
          refine s_call rfl rfl (r_callF (vs := [(Value.slice a9 all2.length c17), (Value.int .u32 by1)]) rfl ok_47 ⟨(ev_tmp rfl rfl), ⟨(ev_tmp rfl rfl), trivial⟩⟩) (Calls.mono (c_frac_nat_times (Dj F c25) w23 hI.lt all2 by1 a9 c17 ⟨(hI.get (.s (.s (.s (.s (.s .z)))))), trivial⟩ r11 hx23) ?_)
          rintro _ w24 ⟨a16, c29, rfl, hx24, hl11⟩
          refine ⟨_, rfl, ?_⟩
          replace hI := (hI.ext hx24).adds hl11
          refine s_q rfl rfl (y_assign rfl (ev_tmp rfl rfl)) ?_
          refine s_q rfl rfl (y_assign rfl (ev_tmp rfl rfl)) ?_
          refine s_q rfl rfl (y_assign rfl (ev_tmp rfl rfl)) ?_
          refine s_nil ?_
          refine k_next (e := [(2, (Value.pointer (some ⟨b1, 0, none⟩))), (6, (Value.slice a14 r9.length c27)), (7, (Value.slice a15 r10.length c28)), (8, (Value.slice a16 r11.length c29)), (30, (Value.slice a1 l1.length c1)), (31, (Value.int .i64 (l1.length : Int))), (32, (Value.int .i64 i1)), (10, (Value.pointer (some ⟨b4, 0, none⟩))), (13, (Value.slice a13 r8.1.length c26))]) ⟨rfl, rfl, rfl, rfl, rfl, rfl, rfl, rfl, rfl, trivial⟩ ?_
          refine c_seq ?_
          refine c_region rfl ?_
          refine s_q rfl rfl (y_move rfl (ev_tmp rfl rfl)) ?_
          refine s_q rfl rfl (y_fieldAddr rfl (ev_tmp rfl rfl) Tryd.underlying23 rfl size_2 rfl) ?_
          refine s_q rfl rfl (y_load1 (v := (Value.int .i64 e1.N)) rfl (ev_tmp rfl rfl) Tryd.underlying2 rfl (CellsAt.of_blk (hI.blk .z) rfl)) ?_
          obtain ⟨r12, hx25, h⟩ := bnd_some h
          refine s_call rfl rfl (r_callF (vs := [(Value.int .i64 e1.N)]) rfl ok_39 ⟨(ev_tmp rfl rfl), trivial⟩) (Calls.mono (c_frac_magnitude (Dj F c25) w24 hI.lt e1.N trivial r12 hx25) ?_)
          rintro _ w25 ⟨rfl, hx26, hl12⟩
          refine ⟨_, rfl, ?_⟩
          replace hI := (hI.ext hx26)
          refine s_q rfl rfl (y_conv rfl (by rw [Tryd.underlying44]; rfl) Tryd.underlying54 (ev_tmp rfl rfl)) ?_
          obtain ⟨r13, hx27, h⟩ := bnd_some h
          refine s_call rfl rfl (r_callF (vs := [(Value.slice a13 r8.1.length c26), (Value.int .u32 (wu32 r12))]) rfl ok_47 ⟨(ev_tmp rfl rfl), ⟨(ev_tmp rfl rfl), trivial⟩⟩) (Calls.mono (c_frac_nat_times (Dj F c25) w25 hI.lt r8.1 (wu32 r12) a13 c26 ⟨(hI.get (.s (.s (.s .z)))), trivial⟩ r13 hx27) ?_)
          rintro _ w26 ⟨a17, c30, rfl, hx28, hl13⟩
          refine ⟨_, rfl, ?_⟩
          replace hI := (hI.ext hx28).adds hl13
          refine s_q rfl rfl (y_assign rfl (ev_tmp rfl rfl)) ?_
          refine s_nil ?_
          refine k_next (e := [(2, (Value.pointer (some ⟨b1, 0, none⟩))), (6, (Value.slice a14 r9.length c27)), (7, (Value.slice a15 r10.length c28)), (8, (Value.slice a16 r11.length c29)), (30, (Value.slice a1 l1.length c1)), (31, (Value.int .i64 (l1.length : Int))), (32, (Value.int .i64 i1)), (10, (Value.pointer (some ⟨b4, 0, none⟩))), (15, (Value.slice a17 r13.length c30))]) ⟨rfl, rfl, rfl, rfl, rfl, rfl, rfl, rfl, rfl, trivial⟩ ?_
          refine c_seq ?_
          refine c_region rfl ?_
          refine s_q rfl rfl (y_fieldAddr rfl (ev_tmp rfl rfl) Tryd.underlying23 rfl size_2 rfl) ?_
          refine s_q rfl rfl (y_load1 (v := (Value.int .i64 e1.N)) rfl (ev_tmp rfl rfl) Tryd.underlying2 rfl (CellsAt.of_blk (hI.blk .z) rfl)) ?_
          refine s_q rfl rfl (y_lss rfl (ev_tmp rfl rfl) ev_const) ?_
          refine s_nil ?_
          refine k_next (e := [(2, (Value.pointer (some ⟨b1, 0, none⟩))), (6, (Value.slice a14 r9.length c27)), (7, (Value.slice a15 r10.length c28)), (8, (Value.slice a16 r11.length c29)), (30, (Value.slice a1 l1.length c1)), (31, (Value.int .i64 (l1.length : Int))), (32, (Value.int .i64 i1)), (15, (Value.slice a17 r13.length c30)), (76, (Value.bool (decide (e1.N < 0))))]) ⟨rfl, rfl, rfl, rfl, rfl, rfl, rfl, rfl, rfl, trivial⟩ ?_
          refine c_cond (b := decide (e1.N < 0)) (ev_tmp rfl rfl) (fun hb => ?_) (fun hb => ?_)
          · replace h := ite_t hb h
            refine c_region rfl ?_
            refine s_q rfl rfl (y_move rfl (ev_tmp rfl rfl)) ?_
            refine s_q rfl rfl (y_move rfl (ev_tmp rfl rfl)) ?_
            obtain ⟨r14, hx29, h⟩ := bnd_some h
            refine s_call rfl rfl (r_callF (vs := [(Value.slice a15 r10.length c28), (Value.slice a17 r13.length c30)]) rfl ok_48 ⟨(ev_tmp rfl rfl), ⟨(ev_tmp rfl rfl), trivial⟩⟩) (Calls.mono (c_frac_nat_plus (Dj F c25) w26 hI.lt r10 r13 a15 c28 a17 c30 ⟨(hI.get (.s (.s .z))), (hI.get .z), trivial⟩ r14 hx29) ?_)
            rintro _ w27 ⟨a18, c31, rfl, hx30, hl14⟩
            refine ⟨_, rfl, ?_⟩
            replace hI := (hI.ext hx30).adds hl14
            refine s_q rfl rfl (y_assign rfl (ev_tmp rfl rfl)) ?_
            refine s_nil ?_
            exact k_join (r9, r14, r11, a14, c27, a18, c31, a16, c29) ⟨rfl, rfl, rfl, rfl, rfl, rfl, rfl, trivial⟩ ⟨_, hI.arr (.c (.s .z) .n) ⟨(.s (.s (.s (.s .z)))), .z, (.s (.s .z)), (.s (.s (.s (.s (.s (.s (.s (.s (.s .z))))))))), trivial⟩, h⟩ rfl
          · replace h := ite_f hb h
            refine c_region rfl ?_
            refine s_q rfl rfl (y_move rfl (ev_tmp rfl rfl)) ?_
            refine s_q rfl rfl (y_move rfl (ev_tmp rfl rfl)) ?_
            obtain ⟨r15, hx31, h⟩ := bnd_some h
            refine s_call rfl rfl (r_callF (vs := [(Value.slice a14 r9.length c27), (Value.slice a17 r13.length c30)]) rfl ok_48 ⟨(ev_tmp rfl rfl), ⟨(ev_tmp rfl rfl), trivial⟩⟩) (Calls.mono (c_frac_nat_plus (Dj F c25) w26 hI.lt r9 r13 a14 c27 a17 c30 ⟨(hI.get (.s (.s (.s .z)))), (hI.get .z), trivial⟩ r15 hx31) ?_)
            rintro _ w28 ⟨a19, c32, rfl, hx32, hl15⟩
            refine ⟨_, rfl, ?_⟩
            replace hI := (hI.ext hx32).adds hl15
            refine s_q rfl rfl (y_assign rfl (ev_tmp rfl rfl)) ?_
            refine s_nil ?_
            exact k_join (r15, r10, r11, a19, c32, a15, c28, a16, c29) ⟨rfl, rfl, rfl, rfl, rfl, rfl, rfl, trivial⟩ ⟨_, hI.arr (.c (.s .z) .n) ⟨.z, (.s (.s (.s .z))), (.s (.s .z)), (.s (.s (.s (.s (.s (.s (.s (.s (.s .z))))))))), trivial⟩, h⟩ rfl
      · replace h := ite_f hb h
        refine c_exit ?_
        refine k_in ?_
        exact k_join (pos2, neg2, all2, a7, c15, a8, c16, a9, c17) ⟨rfl, rfl, rfl, rfl, trivial⟩ ⟨_, hI.arr (.c .z .n) ⟨.z, (.s .z), (.s (.s .z)), trivial⟩, h⟩ rfl
  · skip
    refine c_seq ?_
    refine c_region rfl ?_
    refine s_q rfl rfl (y_move rfl (ev_tmp rfl rfl)) ?_
    refine s_q rfl rfl (y_lenl rfl Tryd.underlying30 (ev_tmp rfl rfl)) ?_
    refine s_q rfl rfl (y_move rfl ev_const) ?_
    refine s_nil ?_
    refine k_next (e := [(0, (Value.slice a1 l1.length c1)), (2, (Value.pointer (some ⟨b1, 0, none⟩))), (18, (Value.slice a1 l1.length c1)), (19, (Value.int .i64 (l1.length : Int))), (20, (Value.int .i64 0))]) ⟨rfl, rfl, rfl, rfl, rfl, trivial⟩ ?_
    refine c_block ?_
    refine c_loop (α := Nat × Int) (fun x => fun w => ∃ C, Bun noM F w0 C w [MO.box b1 23 #[(Value.int .i64 0), (Value.int .i64 0)]] [Cl.sl cGVal a1 c1 l1] ∧ m_frac_Sum_l2 l1 (x.1) (x.2) = some r) (fun x _ => x.1) (fun x => [(0, (Value.slice a1 l1.length c1)), (2, (Value.pointer (some ⟨b1, 0, none⟩))), (18, (Value.slice a1 l1.length c1)), (19, (Value.int .i64 (l1.length : Int))), (20, (Value.int .i64 (x.2)))]) (fu, 0) ⟨_, hI.arr (.c .z .n) ⟨.z, trivial⟩, h⟩ ⟨rfl, rfl, rfl, rfl, rfl, trivial⟩ ?_
    clear h hI; rintro ⟨fuel2, i2⟩ w29 ⟨c33, hI, h⟩
    dsimp only at hI h
    rcases fuel2 with _ | fuel2
    · rw [m_frac_Sum_l2] at h; cases h
    rw [m_frac_Sum_l2] at h
    refine c_sub (e := [(0, (Value.slice a1 l1.length c1)), (2, (Value.pointer (some ⟨b1, 0, none⟩))), (18, (Value.slice a1 l1.length c1)), (19, (Value.int .i64 (l1.length : Int))), (20, (Value.int .i64 i2))]) ⟨rfl, rfl, rfl, rfl, rfl, trivial⟩ ?_
    refine c_seq ?_
    refine c_region rfl ?_
    refine s_q rfl rfl (y_lss rfl (ev_tmp rfl rfl) (ev_tmp rfl rfl)) ?_
    refine s_nil ?_
    refine k_next (e := [(0, (Value.slice a1 l1.length c1)), (2, (Value.pointer (some ⟨b1, 0, none⟩))), (18, (Value.slice a1 l1.length c1)), (19, (Value.int .i64 (l1.length : Int))), (20, (Value.int .i64 i2)), (21, (Value.bool (decide (i2 < (l1.length : Int)))))]) ⟨rfl, rfl, rfl, rfl, rfl, rfl, trivial⟩ ?_
    refine c_seq ?_
    refine c_cond (b := decide (i2 < (l1.length : Int))) (ev_tmp rfl rfl) (fun hb => ?_) (fun hb => ?_)
    · replace h := ite_t hb h
      refine c_skip ?_
      refine k_next (e := [(0, (Value.slice a1 l1.length c1)), (2, (Value.pointer (some ⟨b1, 0, none⟩))), (18, (Value.slice a1 l1.length c1)), (19, (Value.int .i64 (l1.length : Int))), (20, (Value.int .i64 i2))]) ⟨rfl, rfl, rfl, rfl, rfl, trivial⟩ ?_
      refine c_seq ?_
      refine c_block ?_
      refine c_seq ?_
      refine c_region rfl ?_
      obtain ⟨e2, hx33, h⟩ := bnd_some h
      obtain ⟨ad2, cs2, hA2, hr2, hq2⟩ := hI.clat .z hx33
      obtain rfl : cs2 = [(Value.int .i64 e2.N), (Value.int .i64 e2.D)] := hr2
      refine s_q rfl rfl (y_indexAddr rfl Tryd.underlying30 size_23 (ev_tmp rfl rfl) (ev_tmp rfl rfl) (lat_bd hx33) hA2) ?_
      refine s_q rfl rfl (y_loadN (l := [(Value.int .i64 e2.N), (Value.int .i64 e2.D)]) rfl (ev_tmp rfl rfl) Tryd.underlying23 rfl size_23 hq2.1) ?_
      refine l_alloc (cs := #[(Value.int .i64 0), (Value.int .i64 0)]) hI rfl rfl rfl zero_23 rfl ?_
      clear hI; intro b5 c34 w30 hI
      refine l_store (new := [(Value.int .i64 e2.N), (Value.int .i64 e2.D)]) (cs' := #[(Value.int .i64 e2.N), (Value.int .i64 e2.D)]) hI .z rfl rfl rfl (ev_tmp rfl rfl) (ev_tmp rfl rfl) rfl size_23 rfl rfl rfl ?_
      clear hI; intro c35 w31 hI
      refine s_nil ?_
      refine k_next (e := [(0, (Value.slice a1 l1.length c1)), (2, (Value.pointer (some ⟨b1, 0, none⟩))), (18, (Value.slice a1 l1.length c1)), (19, (Value.int .i64 (l1.length : Int))), (20, (Value.int .i64 i2)), (5, (Value.pointer (some ⟨b5, 0, none⟩)))]) ⟨rfl, rfl, rfl, rfl, rfl, rfl, trivial⟩ ?_
      refine c_seq ?_
      refine c_region rfl ?_
      refine s_q rfl rfl (y_loadN (l := [(Value.int .i64 e2.N), (Value.int .i64 e2.D)]) rfl (ev_tmp rfl rfl) Tryd.underlying23 rfl size_23 (CellsAt.of_blk (hI.blk .z) rfl)) ?_
      obtain ⟨r16, hx34, h⟩ := bnd_some h
      refine s_call rfl rfl (r_callF (vs := [(Value.agg #[(Value.int .i64 e2.N), (Value.int .i64 e2.D)])]) rfl ok_14 ⟨(ev_tmp rfl rfl), trivial⟩) (Calls.mono (c_frac_Valid (Dj F c35) w31 hI.lt e2 trivial r16 hx34) ?_)
      rintro _ w32 ⟨rfl, hx35, hl16⟩
      refine ⟨_, rfl, ?_⟩
      replace hI := (hI.ext hx35)
      refine s_q rfl rfl (y_not rfl (ev_tmp rfl rfl)) ?_
      refine s_nil ?_
      refine k_next (e := [(0, (Value.slice a1 l1.length c1)), (2, (Value.pointer (some ⟨b1, 0, none⟩))), (18, (Value.slice a1 l1.length c1)), (19, (Value.int .i64 (l1.length : Int))), (20, (Value.int .i64 i2)), (26, (Value.bool (!r16)))]) ⟨rfl, rfl, rfl, rfl, rfl, rfl, trivial⟩ ?_
      refine c_cond (b := !r16) (ev_tmp rfl rfl) (fun hb => ?_) (fun hb => ?_)
      · replace h := ite_t hb h
        refine c_seq ?_
        refine c_region rfl ?_
        refine s_q rfl rfl (y_build (vs := []) (cs := #[(Value.int .i64 0), (Value.int .i64 0)]) rfl trivial (by kernel_rfl)) ?_
        refine l_store (new := [(Value.int .i64 0), (Value.int .i64 0)]) (cs' := #[(Value.int .i64 0), (Value.int .i64 0)]) hI (.s .z) rfl rfl rfl (ev_tmp rfl rfl) (ev_tmp rfl rfl) rfl size_23 rfl rfl rfl ?_
        clear hI; intro c36 w33 hI
        refine s_q rfl rfl (y_assign rfl ev_const) ?_
        refine s_nil ?_
        refine k_next (e := [(2, (Value.pointer (some ⟨b1, 0, none⟩))), (3, (Value.int .i64 1))]) ⟨rfl, rfl, trivial⟩ ?_
        refine c_ret ?_
        obtain rfl := some_inj h
        exact q_ret (vs := [(Value.agg #[(Value.int .i64 0), (Value.int .i64 0)]), (Value.int .i64 1)]) Tryd.results17 ⟨⟨_, ev_tmp rfl rfl, load_agg (l := [(Value.int .i64 0), (Value.int .i64 0)]) Tryd.underlying23 rfl size_23 (CellsAt.of_blk (hI.blk (.s .z)) rfl)⟩, ⟨ev_tmp rfl rfl, trivial⟩⟩ ⟨rfl, hI.ext0, hI.fin trivial⟩
      · replace h := ite_f hb h
        refine c_skip ?_
        refine k_next (e := [(0, (Value.slice a1 l1.length c1)), (2, (Value.pointer (some ⟨b1, 0, none⟩))), (18, (Value.slice a1 l1.length c1)), (19, (Value.int .i64 (l1.length : Int))), (20, (Value.int .i64 i2))]) ⟨rfl, rfl, rfl, rfl, rfl, trivial⟩ ?_
        refine c_region rfl ?_
        refine s_q rfl rfl (y_add rfl (ev_tmp rfl rfl) ev_const) ?_
        refine s_q rfl rfl (y_move rfl (ev_tmp rfl rfl)) ?_
        refine s_nil ?_
        exact k_loop (fuel2, wi64 (i2 + 1)) ⟨rfl, rfl, rfl, rfl, rfl, trivial⟩ ⟨_, hI.arr (.c (.s .z) .n) ⟨.z, trivial⟩, h⟩ (Nat.lt_succ_self _)
    · replace h := ite_f hb h
      refine c_exit ?_
      refine k_in ?_
      exact k_join () ⟨rfl, rfl, trivial⟩ ⟨_, hI.arr (.c .z .n) ⟨.z, trivial⟩, h⟩ rfl

set_option maxRecDepth 100000 in
set_option maxHeartbeats 4000000 in
theorem c_internal_stringslite_Cut (F : NP) (w0 : World) (hF : ∀ k, F k → k < w0.heap.size) (s1 : List UInt8) (sep1 : List UInt8) (hc : AllCl [] F w0) (r : List UInt8 × List UInt8 × Bool)
    (h : m_internal_stringslite_Cut s1 sep1 = some r) :
    Calls Tryd.prog 75 #[(str s1), (str sep1)] w0 fun e w => e = .returned (Value.tuple #[(str r.1), (str r.2.1), (Value.bool r.2.2)]) ∧ Ext w0 w ∧ AllCl [] F w := by
  refine ofEnter (R := fun v w => v = (Value.tuple #[(str r.1), (str r.2.1), (Value.bool r.2.2)]) ∧ Ext w0 w ∧ AllCl [] F w) (enter (l := [(str s1), (str sep1)]) Tryd.func75 rfl Tryd.ntmps75 rfl ?_) ?_
  rotate_left
  · rintro _ w ⟨rfl, k1, k2⟩; exact ⟨rfl, k1, k2⟩
  have hI := Bun.start hF hc
  clear hc
  rw [m_internal_stringslite_Cut] at h
  refine c_seq ?_
  refine c_region rfl ?_
  refine s_q rfl rfl (y_assign rfl ev_const) ?_
  refine s_q rfl rfl (y_assign rfl ev_const) ?_
  refine s_q rfl rfl (y_assign rfl ev_const) ?_
  refine s_nil ?_
  refine k_next (e := [(0, (str s1)), (1, (str sep1))]) ⟨rfl, rfl, trivial⟩ ?_
  refine c_seq ?_
  refine c_seq ?_
  refine c_region rfl ?_
  refine s_q rfl rfl (y_move rfl (ev_tmp rfl rfl)) ?_
  refine s_q rfl rfl (y_move rfl (ev_tmp rfl rfl)) ?_
  obtain ⟨r1, hx1, h⟩ := bnd_some h
  refine s_call rfl rfl (r_callF (vs := [(str s1), (str sep1)]) rfl ok_83 ⟨(ev_tmp rfl rfl), ⟨(ev_tmp rfl rfl), trivial⟩⟩) (Calls.mono (c_internal_stringslite_Index (Dj F noM) w0 hI.lt s1 sep1 trivial r1 hx1) ?_)
  rintro _ w1 ⟨rfl, hx2, hl1⟩
  refine ⟨_, rfl, ?_⟩
  replace hI := (hI.ext hx2)
  refine s_q rfl rfl (y_assign rfl (ev_tmp rfl rfl)) ?_
  refine s_nil ?_
  refine k_next (e := [(0, (str s1)), (1, (str sep1)), (7, (Value.int .i64 r1))]) ⟨rfl, rfl, rfl, trivial⟩ ?_
  refine c_seq ?_
  refine c_region rfl ?_
  refine s_q rfl rfl (y_move rfl (ev_tmp rfl rfl)) ?_
  refine s_q rfl rfl (y_geq rfl (ev_tmp rfl rfl) ev_const) ?_
  refine s_nil ?_
  refine k_next (e := [(0, (str s1)), (1, (str sep1)), (7, (Value.int .i64 r1)), (12, (Value.bool (decide (0 ≤ r1))))]) ⟨rfl, rfl, rfl, rfl, trivial⟩ ?_
  refine c_cond (b := decide (0 ≤ r1)) (ev_tmp rfl rfl) (fun hb => ?_) (fun hb => ?_)
  · replace h := ite_t hb h
    refine c_seq ?_
    refine c_drawX [] false (.c (0, .q) (.c (1, .q) (.c (2, .q) (.c (3, .q) (.c (4, .q) (.c (5, .q) (.c (6, .q) (.c (7, .q) (.c (8, .q) (.c (9, .q) (.c (10, .q) (.c (11, .q) .n)))))))))))) hI (by kernel_rfl) (by kernel_rfl) ?_
    clear hI; intro w2 hI
    refine a_q rfl rfl rfl (fun w' => (y_move rfl (ev_tmp rfl rfl))) ?_
    refine a_q rfl rfl rfl (fun w' => (y_move rfl (ev_tmp rfl rfl))) ?_
    obtain ⟨s2, hx3, h⟩ := bnd_some h
    refine a_q rfl rfl rfl (fun w' => (y_supto rfl Tryd.underlying9 (ev_tmp rfl rfl) (ev_tmp rfl rfl) hx3)) ?_
    refine a_q rfl rfl rfl (fun w' => (y_move rfl (ev_tmp rfl rfl))) ?_
    refine a_q rfl rfl rfl (fun w' => (y_move rfl (ev_tmp rfl rfl))) ?_
    refine a_q rfl rfl rfl (fun w' => (y_move rfl (ev_tmp rfl rfl))) ?_
    refine a_q rfl rfl rfl (fun w' => (y_lens rfl Tryd.underlying9 (ev_tmp rfl rfl))) ?_
    refine a_q rfl rfl rfl (fun w' => (y_add rfl (ev_tmp rfl rfl) (ev_tmp rfl rfl))) ?_
    obtain ⟨s3, hx4, h⟩ := bnd_some h
    refine a_q rfl rfl rfl (fun w' => (y_sfrom rfl Tryd.underlying9 (ev_tmp rfl rfl) (ev_tmp rfl rfl) hx4)) ?_
    refine a_q rfl rfl rfl (fun w' => (y_assign rfl (ev_tmp rfl rfl))) ?_
    refine a_q rfl rfl rfl (fun w' => (y_assign rfl (ev_tmp rfl rfl))) ?_
    refine a_q rfl rfl rfl (fun w' => (y_assign rfl ev_const)) ?_
    refine a_nil ?_
    refine k_next (e := [(4, (str s2)), (5, (str s3)), (6, (Value.bool true))]) ⟨rfl, rfl, rfl, trivial⟩ ?_
    refine c_ret ?_
    obtain rfl := some_inj h
    exact q_ret (vs := [(str s2), (str s3), (Value.bool true)]) Tryd.results75 ⟨ev_tmp rfl rfl, ⟨ev_tmp rfl rfl, ⟨ev_tmp rfl rfl, trivial⟩⟩⟩ ⟨rfl, hI.ext0, hI.fin trivial⟩
  · replace h := ite_f hb h
    refine c_skip ?_
    refine k_next (e := [(0, (str s1))]) ⟨rfl, trivial⟩ ?_
    refine c_seq ?_
    refine c_region rfl ?_
    refine s_q rfl rfl (y_move rfl (ev_tmp rfl rfl)) ?_
    refine s_q rfl rfl (y_assign rfl (ev_tmp rfl rfl)) ?_
    refine s_q rfl rfl (y_assign rfl ev_const) ?_
    refine s_q rfl rfl (y_assign rfl ev_const) ?_
    refine s_nil ?_
    refine k_next (e := [(4, (str s1)), (5, (str ([] : List UInt8))), (6, (Value.bool false))]) ⟨rfl, rfl, rfl, trivial⟩ ?_
    refine c_ret ?_
    obtain rfl := some_inj h
    exact q_ret (vs := [(str s1), (str ([] : List UInt8)), (Value.bool false)]) Tryd.results75 ⟨ev_tmp rfl rfl, ⟨ev_tmp rfl rfl, ⟨ev_tmp rfl rfl, trivial⟩⟩⟩ ⟨rfl, hI.ext0, hI.fin trivial⟩

set_option maxRecDepth 100000 in
set_option maxHeartbeats 4000000 in
theorem c_strings_Cut (F : NP) (w0 : World) (hF : ∀ k, F k → k < w0.heap.size) (s1 : List UInt8) (sep1 : List UInt8) (hc : AllCl [] F w0) (r : List UInt8 × List UInt8 × Bool)
    (h : m_strings_Cut s1 sep1 = some r) :
    Calls Tryd.prog 57 #[(str s1), (str sep1)] w0 fun e w => e = .returned (Value.tuple #[(str r.1), (str r.2.1), (Value.bool r.2.2)]) ∧ Ext w0 w ∧ AllCl [] F w := by
  refine ofEnter (R := fun v w => v = (Value.tuple #[(str r.1), (str r.2.1), (Value.bool r.2.2)]) ∧ Ext w0 w ∧ AllCl [] F w) (enter (l := [(str s1), (str sep1)]) Tryd.func57 rfl Tryd.ntmps57 rfl ?_) ?_
  rotate_left
  · rintro _ w ⟨rfl, k1, k2⟩; exact ⟨rfl, k1, k2⟩
  have hI := Bun.start hF hc
  clear hc
  rw [m_strings_Cut] at h
  refine c_seq ?_
  refine c_region rfl ?_
  refine s_q rfl rfl (y_assign rfl ev_const) ?_
  refine s_q rfl rfl (y_assign rfl ev_const) ?_
  refine s_q rfl rfl (y_assign rfl ev_const) ?_
  refine s_nil ?_
  refine k_next (e := [(0, (str s1)), (1, (str sep1))]) ⟨rfl, rfl, trivial⟩ ?_
  refine c_seq ?_
  refine c_region rfl ?_
  refine s_q rfl rfl (y_move rfl (ev_tmp rfl rfl)) ?_
  refine s_q rfl rfl (y_move rfl (ev_tmp rfl rfl)) ?_
  obtain ⟨r1, hx1, h⟩ := bnd_some h
  refine s_call rfl rfl (r_callF (vs := [(str s1), (str sep1)]) rfl ok_75 ⟨(ev_tmp rfl rfl), ⟨(ev_tmp rfl rfl), trivial⟩⟩) (Calls.mono (c_internal_stringslite_Cut (Dj F noM) w0 hI.lt s1 sep1 trivial r1 hx1) ?_)
  rintro _ w1 ⟨rfl, hx2, hl1⟩
  refine ⟨_, rfl, ?_⟩
  replace hI := (hI.ext hx2)
  refine s_q rfl rfl (y_extract rfl (ev_tmp rfl rfl) rfl) ?_
  refine s_q rfl rfl (y_extract rfl (ev_tmp rfl rfl) rfl) ?_
  refine s_q rfl rfl (y_extract rfl (ev_tmp rfl rfl) rfl) ?_
  refine s_q rfl rfl (y_assign rfl (ev_tmp rfl rfl)) ?_
  refine s_q rfl rfl (y_assign rfl (ev_tmp rfl rfl)) ?_
  refine s_q rfl rfl (y_assign rfl (ev_tmp rfl rfl)) ?_
  refine s_nil ?_
  refine k_next (e := [(4, (str r1.1)), (5, (str r1.2.1)), (6, (Value.bool r1.2.2))]) ⟨rfl, rfl, rfl, trivial⟩ ?_
  refine c_ret ?_
  obtain rfl := some_inj h
  exact q_ret (vs := [(str r1.1), (str r1.2.1), (Value.bool r1.2.2)]) Tryd.results57 ⟨ev_tmp rfl rfl, ⟨ev_tmp rfl rfl, ⟨ev_tmp rfl rfl, trivial⟩⟩⟩ ⟨rfl, hI.ext0, hI.fin trivial⟩

set_option maxRecDepth 100000 in
set_option maxHeartbeats 4000000 in
theorem c_internal_stringslite_HasPrefix (F : NP) (w0 : World) (hF : ∀ k, F k → k < w0.heap.size) (s1 : List UInt8) (prefix1 : List UInt8) (hc : AllCl [] F w0) (r : Bool)
    (h : m_internal_stringslite_HasPrefix s1 prefix1 = some r) :
    Calls Tryd.prog 84 #[(str s1), (str prefix1)] w0 fun e w => e = .returned (Value.bool r) ∧ Ext w0 w ∧ AllCl [] F w := by
  refine ofEnter (R := fun v w => v = (Value.bool r) ∧ Ext w0 w ∧ AllCl [] F w) (enter (l := [(str s1), (str prefix1)]) Tryd.func84 rfl Tryd.ntmps84 rfl ?_) ?_
  rotate_left
  · rintro _ w ⟨rfl, k1, k2⟩; exact ⟨rfl, k1, k2⟩
  have hI := Bun.start hF hc
  clear hc
  rw [m_internal_stringslite_HasPrefix] at h
  refine c_seq ?_
  refine c_region rfl ?_
  refine s_q rfl rfl (y_assign rfl ev_const) ?_
  refine s_nil ?_
  refine k_next (e := [(0, (str s1)), (1, (str prefix1))]) ⟨rfl, rfl, trivial⟩ ?_
  refine c_seq ?_
  refine c_region rfl ?_
  refine s_q rfl rfl (y_move rfl (ev_tmp rfl rfl)) ?_
  refine s_q rfl rfl (y_lens rfl Tryd.underlying9 (ev_tmp rfl rfl)) ?_
  refine s_q rfl rfl (y_move rfl (ev_tmp rfl rfl)) ?_
  refine s_q rfl rfl (y_lens rfl Tryd.underlying9 (ev_tmp rfl rfl)) ?_
  refine s_q rfl rfl (y_geq rfl (ev_tmp rfl rfl) (ev_tmp rfl rfl)) ?_
  refine s_q rfl rfl (y_move rfl (ev_tmp rfl rfl)) ?_
  refine s_gval (g_true rfl rfl rfl rfl) rfl (fun hc => (y_move rfl (ev_tmp rfl rfl))) ?_
  refine s_gval (g_true rfl rfl rfl rfl) rfl (fun hc => (y_move rfl (ev_tmp rfl rfl))) ?_
  refine s_gval (g_true rfl rfl rfl rfl) rfl (fun hc => (y_lens rfl Tryd.underlying9 (ev_gv (ev_tmp rfl rfl) hc))) ?_
  obtain ⟨s2, hx1, h⟩ := bnd_some h
  replace hx1 := gd_some hx1
  refine s_gval (g_true rfl rfl rfl rfl) rfl (fun hc => (y_supto rfl Tryd.underlying9 (ev_gv (ev_tmp rfl rfl) hc) (ev_gv (ev_tmp rfl rfl) hc) (hx1 hc))) ?_
  refine s_gval (g_true rfl rfl rfl rfl) rfl (fun hc => (y_move rfl (ev_tmp rfl rfl))) ?_
  refine s_gval (g_true rfl rfl rfl rfl) rfl (fun hc => (y_eqs rfl (ev_gv (ev_tmp rfl rfl) hc) (ev_gv (ev_tmp rfl rfl) hc))) ?_
  refine s_q rfl rfl (y_and rfl (ev_tmp rfl rfl) (ev_tmp rfl rfl)) ?_
  refine s_q rfl rfl (y_assign rfl (ev_tmp rfl rfl)) ?_
  refine s_nil ?_
  refine k_next (e := [(4, (Value.bool ((decide ((prefix1.length : Int) ≤ (s1.length : Int))) && (decide (s2 = prefix1)))))]) ⟨rfl, trivial⟩ ?_
  refine c_ret ?_
  obtain rfl := some_inj h
  exact q_ret (vs := [(Value.bool ((decide ((prefix1.length : Int) ≤ (s1.length : Int))) && (decide (s2 = prefix1))))]) Tryd.results84 ⟨ev_tmp rfl rfl, trivial⟩ ⟨rfl, hI.ext0, hI.fin trivial⟩

set_option maxRecDepth 100000 in
set_option maxHeartbeats 4000000 in
theorem c_internal_stringslite_CutPrefix (F : NP) (w0 : World) (hF : ∀ k, F k → k < w0.heap.size) (s1 : List UInt8) (prefix1 : List UInt8) (hc : AllCl [] F w0) (r : List UInt8 × Bool)
    (h : m_internal_stringslite_CutPrefix s1 prefix1 = some r) :
    Calls Tryd.prog 76 #[(str s1), (str prefix1)] w0 fun e w => e = .returned (Value.tuple #[(str r.1), (Value.bool r.2)]) ∧ Ext w0 w ∧ AllCl [] F w := by
  refine ofEnter (R := fun v w => v = (Value.tuple #[(str r.1), (Value.bool r.2)]) ∧ Ext w0 w ∧ AllCl [] F w) (enter (l := [(str s1), (str prefix1)]) Tryd.func76 rfl Tryd.ntmps76 rfl ?_) ?_
  rotate_left
  · rintro _ w ⟨rfl, k1, k2⟩; exact ⟨rfl, k1, k2⟩
  have hI := Bun.start hF hc
  clear hc
  rw [m_internal_stringslite_CutPrefix] at h
  refine c_seq ?_
  refine c_region rfl ?_
  refine s_q rfl rfl (y_assign rfl ev_const) ?_
  refine s_q rfl rfl (y_assign rfl ev_const) ?_
  refine s_nil ?_
  refine k_next (e := [(0, (str s1)), (1, (str prefix1))]) ⟨rfl, rfl, trivial⟩ ?_
  refine c_seq ?_
  refine c_seq ?_
  refine c_region rfl ?_
  refine s_q rfl rfl (y_move rfl (ev_tmp rfl rfl)) ?_
  refine s_q rfl rfl (y_move rfl (ev_tmp rfl rfl)) ?_
  obtain ⟨r1, hx1, h⟩ := bnd_some h
  refine s_call rfl rfl (r_callF (vs := [(str s1), (str prefix1)]) rfl ok_84 ⟨(ev_tmp rfl rfl), ⟨(ev_tmp rfl rfl), trivial⟩⟩) (Calls.mono (c_internal_stringslite_HasPrefix (Dj F noM) w0 hI.lt s1 prefix1 trivial r1 hx1) ?_)
  rintro _ w1 ⟨rfl, hx2, hl1⟩
  refine ⟨_, rfl, ?_⟩
  replace hI := (hI.ext hx2)
  refine s_q rfl rfl (y_not rfl (ev_tmp rfl rfl)) ?_
  refine s_nil ?_
  refine k_next (e := [(0, (str s1)), (1, (str prefix1)), (9, (Value.bool (!r1)))]) ⟨rfl, rfl, rfl, trivial⟩ ?_
  refine c_cond (b := !r1) (ev_tmp rfl rfl) (fun hb => ?_) (fun hb => ?_)
  · replace h := ite_t hb h
    refine c_seq ?_
    refine c_region rfl ?_
    refine s_q rfl rfl (y_move rfl (ev_tmp rfl rfl)) ?_
    refine s_q rfl rfl (y_assign rfl (ev_tmp rfl rfl)) ?_
    refine s_q rfl rfl (y_assign rfl ev_const) ?_
    refine s_nil ?_
    refine k_next (e := [(4, (str s1)), (5, (Value.bool false))]) ⟨rfl, rfl, trivial⟩ ?_
    refine c_ret ?_
    obtain rfl := some_inj h
    exact q_ret (vs := [(str s1), (Value.bool false)]) Tryd.results76 ⟨ev_tmp rfl rfl, ⟨ev_tmp rfl rfl, trivial⟩⟩ ⟨rfl, hI.ext0, hI.fin trivial⟩
  · replace h := ite_f hb h
    refine c_skip ?_
    refine k_next (e := [(0, (str s1)), (1, (str prefix1))]) ⟨rfl, rfl, trivial⟩ ?_
    refine c_seq ?_
    refine c_region rfl ?_
    refine s_q rfl rfl (y_move rfl (ev_tmp rfl rfl)) ?_
    refine s_q rfl rfl (y_move rfl (ev_tmp rfl rfl)) ?_
    refine s_q rfl rfl (y_lens rfl Tryd.underlying9 (ev_tmp rfl rfl)) ?_
    obtain ⟨s2, hx3, h⟩ := bnd_some h
    refine s_q rfl rfl (y_sfrom rfl Tryd.underlying9 (ev_tmp rfl rfl) (ev_tmp rfl rfl) hx3) ?_
    refine s_q rfl rfl (y_assign rfl (ev_tmp rfl rfl)) ?_
    refine s_q rfl rfl (y_assign rfl ev_const) ?_
    refine s_nil ?_
    refine k_next (e := [(4, (str s2)), (5, (Value.bool true))]) ⟨rfl, rfl, trivial⟩ ?_
    refine c_ret ?_
    obtain rfl := some_inj h
    exact q_ret (vs := [(str s2), (Value.bool true)]) Tryd.results76 ⟨ev_tmp rfl rfl, ⟨ev_tmp rfl rfl, trivial⟩⟩ ⟨rfl, hI.ext0, hI.fin trivial⟩

set_option maxRecDepth 100000 in
set_option maxHeartbeats 4000000 in
theorem c_strings_CutPrefix (F : NP) (w0 : World) (hF : ∀ k, F k → k < w0.heap.size) (s1 : List UInt8) (prefix1 : List UInt8) (hc : AllCl [] F w0) (r : List UInt8 × Bool)
    (h : m_strings_CutPrefix s1 prefix1 = some r) :
    Calls Tryd.prog 58 #[(str s1), (str prefix1)] w0 fun e w => e = .returned (Value.tuple #[(str r.1), (Value.bool r.2)]) ∧ Ext w0 w ∧ AllCl [] F w := by
  refine ofEnter (R := fun v w => v = (Value.tuple #[(str r.1), (Value.bool r.2)]) ∧ Ext w0 w ∧ AllCl [] F w) (enter (l := [(str s1), (str prefix1)]) Tryd.func58 rfl Tryd.ntmps58 rfl ?_) ?_
  rotate_left
  · rintro _ w ⟨rfl, k1, k2⟩; exact ⟨rfl, k1, k2⟩
  have hI := Bun.start hF hc
  clear hc
  rw [m_strings_CutPrefix] at h
  refine c_seq ?_
  refine c_region rfl ?_
  refine s_q rfl rfl (y_assign rfl ev_const) ?_
  refine s_q rfl rfl (y_assign rfl ev_const) ?_
  refine s_nil ?_
  refine k_next (e := [(0, (str s1)), (1, (str prefix1))]) ⟨rfl, rfl, trivial⟩ ?_
  refine c_seq ?_
  refine c_region rfl ?_
  refine s_q rfl rfl (y_move rfl (ev_tmp rfl rfl)) ?_
  refine s_q rfl rfl (y_move rfl (ev_tmp rfl rfl)) ?_
  obtain ⟨r1, hx1, h⟩ := bnd_some h
  refine s_call rfl rfl (r_callF (vs := [(str s1), (str prefix1)]) rfl ok_76 ⟨(ev_tmp rfl rfl), ⟨(ev_tmp rfl rfl), trivial⟩⟩) (Calls.mono (c_internal_stringslite_CutPrefix (Dj F noM) w0 hI.lt s1 prefix1 trivial r1 hx1) ?_)
  rintro _ w1 ⟨rfl, hx2, hl1⟩
  refine ⟨_, rfl, ?_⟩
  replace hI := (hI.ext hx2)
  refine s_q rfl rfl (y_extract rfl (ev_tmp rfl rfl) rfl) ?_
  refine s_q rfl rfl (y_extract rfl (ev_tmp rfl rfl) rfl) ?_
  refine s_q rfl rfl (y_assign rfl (ev_tmp rfl rfl)) ?_
  refine s_q rfl rfl (y_assign rfl (ev_tmp rfl rfl)) ?_
  refine s_nil ?_
  refine k_next (e := [(4, (str r1.1)), (5, (Value.bool r1.2))]) ⟨rfl, rfl, trivial⟩ ?_
  refine c_ret ?_
  obtain rfl := some_inj h
  exact q_ret (vs := [(str r1.1), (Value.bool r1.2)]) Tryd.results58 ⟨ev_tmp rfl rfl, ⟨ev_tmp rfl rfl, trivial⟩⟩ ⟨rfl, hI.ext0, hI.fin trivial⟩

set_option maxRecDepth 100000 in
set_option maxHeartbeats 4000000 in
theorem c_frac_decimal (F : NP) (w0 : World) (hF : ∀ k, F k → k < w0.heap.size) (s1 : List UInt8) (hc : AllCl [] F w0) (r : Bool)
    (h : m_frac_decimal s1 = some r) :
    Calls Tryd.prog 59 #[(str s1)] w0 fun e w => e = .returned (Value.bool r) ∧ Ext w0 w ∧ AllCl [] F w := by
  refine ofEnter (R := fun v w => v = (Value.bool r) ∧ Ext w0 w ∧ AllCl [] F w) (enter (l := [(str s1)]) Tryd.func59 rfl Tryd.ntmps59 rfl ?_) ?_
  rotate_left
  · rintro _ w ⟨rfl, k1, k2⟩; exact ⟨rfl, k1, k2⟩
  have hI := Bun.start hF hc
  clear hc
  rw [m_frac_decimal] at h
  refine c_seq ?_
  refine c_region rfl ?_
  refine s_q rfl rfl (y_assign rfl ev_const) ?_
  refine s_nil ?_
  refine k_next (e := [(0, (str s1))]) ⟨rfl, trivial⟩ ?_
  refine c_join (α := Unit) (fun _ => ⟨31, []⟩) (fun _ => [(0, (str s1))]) (fun _ => fun w => ∃ C, Bun noM F w0 C w [] [] ∧ m_frac_decimal_j1 s1 = some r) ?_ ?_
  · clear h hI; rintro _ w1 ⟨c1, hI, h⟩
    try dsimp only at hI h
    rw [m_frac_decimal_j1] at h
    refine c_sub (e := [(0, (str s1))]) ⟨rfl, trivial⟩ ?_
    refine c_seq ?_
    refine c_region rfl ?_
    refine s_q rfl rfl (y_move rfl (ev_tmp rfl rfl)) ?_
    refine s_q rfl rfl (y_eqs rfl (ev_tmp rfl rfl) ev_const) ?_
    refine s_q rfl rfl (y_move rfl (ev_tmp rfl rfl)) ?_
    refine s_gval (g_false rfl rfl rfl rfl) rfl (fun hc => (y_move rfl (ev_tmp rfl rfl))) ?_
    refine s_gval (g_false rfl rfl rfl rfl) rfl (fun hc => (y_nes rfl (ev_gv (ev_tmp rfl rfl) hc) ev_const)) ?_
    refine s_gval (g_false rfl rfl rfl rfl) rfl (fun hc => (y_move rfl (ev_gv (ev_tmp rfl rfl) hc))) ?_
    refine s_gval (g_true2 rfl rfl rfl rfl) rfl (fun hc => (y_move rfl (ev_tmp rfl rfl))) ?_
    obtain ⟨b1, hx1, h⟩ := bnd_some h
    replace hx1 := gd_some hx1
    refine s_gval (g_true2 rfl rfl rfl rfl) rfl (fun hc => (y_satl rfl Tryd.underlying9 (ev_gv (ev_tmp rfl rfl) hc) ev_const (hx1 hc))) ?_
    refine s_gval (g_true2 rfl rfl rfl rfl) rfl (fun hc => (y_neq rfl (ev_gv (ev_tmp rfl rfl) hc) ev_const)) ?_
    refine s_gval (g_false rfl rfl rfl rfl) rfl (fun hc => (y_and2 rfl hc (ev_tmp rfl rfl) (ev_tmp rfl rfl))) ?_
    refine s_q rfl rfl (y_or rfl (ev_tmp rfl rfl) (ev_tmp rfl rfl)) ?_
    refine s_q rfl rfl (y_assign rfl (ev_tmp rfl rfl)) ?_
    refine s_nil ?_
    refine k_next (e := [(2, (Value.bool ((decide (s1 = ([48] : List UInt8))) || ((!decide (s1 = ([] : List UInt8))) && (!decide (b1 = 48))))))]) ⟨rfl, trivial⟩ ?_
    refine c_ret ?_
    obtain rfl := some_inj h
    exact q_ret (vs := [(Value.bool ((decide (s1 = ([48] : List UInt8))) || ((!decide (s1 = ([] : List UInt8))) && (!decide (b1 = 48)))))]) Tryd.results59 ⟨ev_tmp rfl rfl, trivial⟩ ⟨rfl, hI.ext0, hI.fin trivial⟩
  · skip
    refine c_seq ?_
    refine c_region rfl ?_
    refine s_q rfl rfl (y_assign rfl ev_const) ?_
    refine s_nil ?_
    refine k_next (e := [(0, (str s1)), (3, (Value.int .i64 0))]) ⟨rfl, rfl, trivial⟩ ?_
    refine c_block ?_
    refine c_loop (α := Nat × Int) (fun x => fun w => ∃ C, Bun noM F w0 C w [] [] ∧ m_frac_decimal_l1 s1 (x.1) (x.2) = some r) (fun x _ => x.1) (fun x => [(0, (str s1)), (3, (Value.int .i64 (x.2)))]) (fu, 0) ⟨_, hI.arr .n trivial, h⟩ ⟨rfl, rfl, trivial⟩ ?_
    clear h hI; rintro ⟨fuel1, i1⟩ w2 ⟨c2, hI, h⟩
    dsimp only at hI h
    rcases fuel1 with _ | fuel1
    · rw [m_frac_decimal_l1] at h; cases h
    rw [m_frac_decimal_l1] at h
    refine c_sub (e := [(0, (str s1)), (3, (Value.int .i64 i1))]) ⟨rfl, rfl, trivial⟩ ?_
    refine c_seq ?_
    refine c_seq ?_
    refine c_region rfl ?_
    refine s_q rfl rfl (y_move rfl (ev_tmp rfl rfl)) ?_
    refine s_q rfl rfl (y_move rfl (ev_tmp rfl rfl)) ?_
    refine s_q rfl rfl (y_lens rfl Tryd.underlying9 (ev_tmp rfl rfl)) ?_
    refine s_q rfl rfl (y_lss rfl (ev_tmp rfl rfl) (ev_tmp rfl rfl)) ?_
    refine s_nil ?_
    refine k_next (e := [(0, (str s1)), (3, (Value.int .i64 i1)), (7, (Value.bool (decide (i1 < (s1.length : Int)))))]) ⟨rfl, rfl, rfl, trivial⟩ ?_
    refine c_cond (b := decide (i1 < (s1.length : Int))) (ev_tmp rfl rfl) (fun hb => ?_) (fun hb => ?_)
    · replace h := ite_t hb h
      refine c_skip ?_
      refine k_next (e := [(0, (str s1)), (3, (Value.int .i64 i1))]) ⟨rfl, rfl, trivial⟩ ?_
      refine c_seq ?_
      refine c_block ?_
      refine c_seq ?_
      refine c_region rfl ?_
      refine s_q rfl rfl (y_move rfl (ev_tmp rfl rfl)) ?_
      refine s_q rfl rfl (y_move rfl (ev_tmp rfl rfl)) ?_
      obtain ⟨b2, hx2, h⟩ := bnd_some h
      refine s_q rfl rfl (y_satl rfl Tryd.underlying9 (ev_tmp rfl rfl) (ev_tmp rfl rfl) hx2) ?_
      refine s_q rfl rfl (y_lss rfl (ev_tmp rfl rfl) ev_const) ?_
      refine s_q rfl rfl (y_move rfl (ev_tmp rfl rfl)) ?_
      refine s_gval (g_false rfl rfl rfl rfl) rfl (fun hc => (y_move rfl (ev_tmp rfl rfl))) ?_
      refine s_gval (g_false rfl rfl rfl rfl) rfl (fun hc => (y_move rfl (ev_tmp rfl rfl))) ?_
      obtain ⟨b3, hx3, h⟩ := bnd_some h
      replace hx3 := gd_some hx3
      refine s_gval (g_false rfl rfl rfl rfl) rfl (fun hc => (y_satl rfl Tryd.underlying9 (ev_gv (ev_tmp rfl rfl) hc) (ev_gv (ev_tmp rfl rfl) hc) (hx3 hc))) ?_
      refine s_gval (g_false rfl rfl rfl rfl) rfl (fun hc => (y_gtr rfl (ev_gv (ev_tmp rfl rfl) hc) ev_const)) ?_
      refine s_q rfl rfl (y_or rfl (ev_tmp rfl rfl) (ev_tmp rfl rfl)) ?_
      refine s_nil ?_
      refine k_next (e := [(0, (str s1)), (3, (Value.int .i64 i1)), (19, (Value.bool ((decide (b2 < 48)) || (decide (57 < b3)))))]) ⟨rfl, rfl, rfl, trivial⟩ ?_
      refine c_cond (b := (decide (b2 < 48)) || (decide (57 < b3))) (ev_tmp rfl rfl) (fun hb => ?_) (fun hb => ?_)
      · replace h := ite_t hb h
        refine c_seq ?_
        refine c_region rfl ?_
        refine s_q rfl rfl (y_assign rfl ev_const) ?_
        refine s_nil ?_
        refine k_next (e := [(2, (Value.bool false))]) ⟨rfl, trivial⟩ ?_
        refine c_ret ?_
        obtain rfl := some_inj h
        exact q_ret (vs := [(Value.bool false)]) Tryd.results59 ⟨ev_tmp rfl rfl, trivial⟩ ⟨rfl, hI.ext0, hI.fin trivial⟩
      · replace h := ite_f hb h
        refine c_skip ?_
        refine k_next (e := [(0, (str s1)), (3, (Value.int .i64 i1))]) ⟨rfl, rfl, trivial⟩ ?_
        refine c_region rfl ?_
        refine s_q rfl rfl (y_move rfl (ev_tmp rfl rfl)) ?_
        refine s_q rfl rfl (y_add rfl (ev_tmp rfl rfl) ev_const) ?_
        refine s_q rfl rfl (y_assign rfl (ev_tmp rfl rfl)) ?_
        refine s_nil ?_
        exact k_loop (fuel1, wi64 (i1 + 1)) ⟨rfl, rfl, trivial⟩ ⟨_, hI.arr .n trivial, h⟩ (Nat.lt_succ_self _)
    · replace h := ite_f hb h
      refine c_exit ?_
      refine k_in ?_
      exact k_join () ⟨rfl, trivial⟩ ⟨_, hI.arr .n trivial, h⟩ rfl

set_option maxRecDepth 100000 in
set_option maxHeartbeats 4000000 in
theorem c_frac_bounded (F : NP) (w0 : World) (hF : ∀ k, F k → k < w0.heap.size) (s1 : List UInt8) (hc : AllCl [] F w0) (r : Int × Bool)
    (h : m_frac_bounded s1 = some r) :
    Calls Tryd.prog 60 #[(str s1)] w0 fun e w => e = .returned (Value.tuple #[(Value.int .i64 r.1), (Value.bool r.2)]) ∧ Ext w0 w ∧ AllCl [] F w := by
  refine ofEnter (R := fun v w => v = (Value.tuple #[(Value.int .i64 r.1), (Value.bool r.2)]) ∧ Ext w0 w ∧ AllCl [] F w) (enter (l := [(str s1)]) Tryd.func60 rfl Tryd.ntmps60 rfl ?_) ?_
  rotate_left
  · rintro _ w ⟨rfl, k1, k2⟩; exact ⟨rfl, k1, k2⟩
  have hI := Bun.start hF hc
  clear hc
  rw [m_frac_bounded] at h
  refine c_seq ?_
  refine c_region rfl ?_
  refine s_q rfl rfl (y_assign rfl ev_const) ?_
  refine s_q rfl rfl (y_assign rfl ev_const) ?_
  refine s_nil ?_
  refine k_next (e := [(0, (str s1))]) ⟨rfl, trivial⟩ ?_
  refine c_seq ?_
  refine c_seq ?_
  refine c_region rfl ?_
  refine s_q rfl rfl (y_move rfl (ev_tmp rfl rfl)) ?_
  refine s_q rfl rfl (y_lens rfl Tryd.underlying9 (ev_tmp rfl rfl)) ?_
  refine s_q rfl rfl (y_gtr rfl (ev_tmp rfl rfl) ev_const) ?_
  refine s_nil ?_
  refine k_next (e := [(0, (str s1)), (8, (Value.bool (decide (10 < (s1.length : Int)))))]) ⟨rfl, rfl, trivial⟩ ?_
  refine c_cond (b := decide (10 < (s1.length : Int))) (ev_tmp rfl rfl) (fun hb => ?_) (fun hb => ?_)
  · replace h := ite_t hb h
    refine c_seq ?_
    refine c_region rfl ?_
    refine s_q rfl rfl (y_assign rfl ev_const) ?_
    refine s_q rfl rfl (y_assign rfl ev_const) ?_
    refine s_nil ?_
    refine k_next (e := [(2, (Value.int .i64 0)), (3, (Value.bool false))]) ⟨rfl, rfl, trivial⟩ ?_
    refine c_ret ?_
    obtain rfl := some_inj h
    exact q_ret (vs := [(Value.int .i64 0), (Value.bool false)]) Tryd.results60 ⟨ev_tmp rfl rfl, ⟨ev_tmp rfl rfl, trivial⟩⟩ ⟨rfl, hI.ext0, hI.fin trivial⟩
  · replace h := ite_f hb h
    refine c_skip ?_
    refine k_next (e := [(0, (str s1))]) ⟨rfl, trivial⟩ ?_
    refine c_seq ?_
    refine c_region rfl ?_
    refine s_q rfl rfl (y_move rfl (ev_tmp rfl rfl)) ?_
    obtain ⟨r1, hx1, h⟩ := bnd_some h
    refine s_call rfl rfl (r_callF (vs := [(str s1), (Value.int .i64 10), (Value.int .i64 64)]) rfl ok_77 ⟨(ev_tmp rfl rfl), ⟨ev_const, ⟨ev_const, trivial⟩⟩⟩) (Calls.mono (c_strconv_ParseInt (Dj F noM) w0 hI.lt s1 10 64 trivial r1 hx1) ?_)
    rintro _ w1 ⟨v1, rfl, hx2, hl1⟩
    refine ⟨_, rfl, ?_⟩
    replace hI := (hI.ext hx2)
    refine s_q rfl rfl (y_move rfl (ev_tmp rfl rfl)) ?_
    refine s_q rfl rfl (y_extract rfl (ev_tmp rfl rfl) rfl) ?_
    refine s_q rfl rfl (y_extract rfl (ev_tmp rfl rfl) rfl) ?_
    refine s_q rfl rfl (y_assign rfl (ev_tmp rfl rfl)) ?_
    refine s_q rfl rfl (y_assign rfl (ev_tmp rfl rfl)) ?_
    refine s_nil ?_
    refine k_next (e := [(4, (Value.int .i64 r1.1))]) ⟨rfl, trivial⟩ ?_
    refine c_seq ?_
    refine c_region rfl ?_
    refine s_q rfl rfl (y_move rfl (ev_tmp rfl rfl)) ?_
    refine s_q rfl rfl (y_move rfl (ev_tmp rfl rfl)) ?_
    refine s_q rfl rfl (y_leq rfl (ev_tmp rfl rfl) ev_const) ?_
    refine s_q rfl rfl (y_assign rfl (ev_tmp rfl rfl)) ?_
    refine s_q rfl rfl (y_assign rfl (ev_tmp rfl rfl)) ?_
    refine s_nil ?_
    refine k_next (e := [(2, (Value.int .i64 r1.1)), (3, (Value.bool (decide (r1.1 ≤ 2147483647))))]) ⟨rfl, rfl, trivial⟩ ?_
    refine c_ret ?_
    obtain rfl := some_inj h
    exact q_ret (vs := [(Value.int .i64 r1.1), (Value.bool (decide (r1.1 ≤ 2147483647)))]) Tryd.results60 ⟨ev_tmp rfl rfl, ⟨ev_tmp rfl rfl, trivial⟩⟩ ⟨rfl, hI.ext0, hI.fin trivial⟩

set_option maxRecDepth 100000 in
set_option maxHeartbeats 4000000 in
theorem c_frac_Parse (F : NP) (w0 : World) (hF : ∀ k, F k → k < w0.heap.size) (s1 : List UInt8) (hc : AllCl [] F w0) (r : GVal × Int)
    (h : m_frac_Parse s1 = some r) :
    Calls Tryd.prog 22 #[(str s1)] w0 fun e w => e = .returned (Value.tuple #[(Value.agg #[(Value.int .i64 r.1.N), (Value.int .i64 r.1.D)]), (Value.int .i64 r.2)]) ∧ Ext w0 w ∧ AllCl [] F w := by
  refine ofEnter (R := fun v w => v = (Value.tuple #[(Value.agg #[(Value.int .i64 r.1.N), (Value.int .i64 r.1.D)]), (Value.int .i64 r.2)]) ∧ Ext w0 w ∧ AllCl [] F w) (enter (l := [(str s1)]) Tryd.func22 rfl Tryd.ntmps22 rfl ?_) ?_
  rotate_left
  · rintro _ w ⟨rfl, k1, k2⟩; exact ⟨rfl, k1, k2⟩
  have hI := Bun.start hF hc
  clear hc
  rw [m_frac_Parse] at h
  refine c_seq ?_
  refine c_region rfl ?_
  refine l_alloc (cs := #[(Value.int .i64 0), (Value.int .i64 0)]) hI rfl rfl rfl zero_23 rfl ?_
  clear hI; intro b1 c1 w1 hI
  refine s_q rfl rfl (y_assign rfl ev_const) ?_
  refine s_nil ?_
  refine k_next (e := [(0, (str s1)), (2, (Value.pointer (some ⟨b1, 0, none⟩)))]) ⟨rfl, rfl, trivial⟩ ?_
  refine c_seq ?_
  refine c_region rfl ?_
  refine s_q rfl rfl (y_move rfl (ev_tmp rfl rfl)) ?_
  obtain ⟨r1, hx1, h⟩ := bnd_some h
  refine s_call rfl rfl (r_callF (vs := [(str s1), (str ([47] : List UInt8))]) rfl ok_57 ⟨(ev_tmp rfl rfl), ⟨ev_const, trivial⟩⟩) (Calls.mono (c_strings_Cut (Dj F c1) w1 hI.lt s1 ([47] : List UInt8) trivial r1 hx1) ?_)
  rintro _ w2 ⟨rfl, hx2, hl1⟩
  refine ⟨_, rfl, ?_⟩
  replace hI := (hI.ext hx2)
  refine s_q rfl rfl (y_move rfl (ev_tmp rfl rfl)) ?_
  refine s_q rfl rfl (y_extract rfl (ev_tmp rfl rfl) rfl) ?_
  refine s_q rfl rfl (y_extract rfl (ev_tmp rfl rfl) rfl) ?_
  refine s_q rfl rfl (y_extract rfl (ev_tmp rfl rfl) rfl) ?_
  refine s_q rfl rfl (y_assign rfl (ev_tmp rfl rfl)) ?_
  refine s_q rfl rfl (y_assign rfl (ev_tmp rfl rfl)) ?_
  refine s_q rfl rfl (y_assign rfl (ev_tmp rfl rfl)) ?_
  refine s_nil ?_
  refine k_next (e := [(2, (Value.pointer (some ⟨b1, 0, none⟩))), (4, (str r1.1)), (5, (str r1.2.1)), (6, (Value.bool r1.2.2))]) ⟨rfl, rfl, rfl, rfl, trivial⟩ ?_
  refine c_seq ?_
  refine c_region rfl ?_
  refine s_q rfl rfl (y_move rfl (ev_tmp rfl rfl)) ?_
  obtain ⟨r2, hx3, h⟩ := bnd_some h
  refine s_call rfl rfl (r_callF (vs := [(str r1.1), (str ([45] : List UInt8))]) rfl ok_58 ⟨(ev_tmp rfl rfl), ⟨ev_const, trivial⟩⟩) (Calls.mono (c_strings_CutPrefix (Dj F c1) w2 hI.lt r1.1 ([45] : List UInt8) trivial r2 hx3) ?_)
  rintro _ w3 ⟨rfl, hx4, hl2⟩
  refine ⟨_, rfl, ?_⟩
  replace hI := (hI.ext hx4)
  refine s_q rfl rfl (y_move rfl (ev_tmp rfl rfl)) ?_
  refine s_q rfl rfl (y_extract rfl (ev_tmp rfl rfl) rfl) ?_
  refine s_q rfl rfl (y_extract rfl (ev_tmp rfl rfl) rfl) ?_
  refine s_q rfl rfl (y_assign rfl (ev_tmp rfl rfl)) ?_
  refine s_q rfl rfl (y_assign rfl (ev_tmp rfl rfl)) ?_
  refine s_nil ?_
  refine k_next (e := [(2, (Value.pointer (some ⟨b1, 0, none⟩))), (5, (str r1.2.1)), (6, (Value.bool r1.2.2)), (7, (str r2.1)), (8, (Value.bool r2.2))]) ⟨rfl, rfl, rfl, rfl, rfl, trivial⟩ ?_
  refine c_seq ?_
  refine c_seq ?_
  refine c_region rfl ?_
  refine s_q rfl rfl (y_move rfl (ev_tmp rfl rfl)) ?_
  obtain ⟨r3, hx5, h⟩ := bnd_some h
  refine s_call rfl rfl (r_callF (vs := [(str r2.1)]) rfl ok_59 ⟨(ev_tmp rfl rfl), trivial⟩) (Calls.mono (c_frac_decimal (Dj F c1) w3 hI.lt r2.1 trivial r3 hx5) ?_)
  rintro _ w4 ⟨rfl, hx6, hl3⟩
  refine ⟨_, rfl, ?_⟩
  replace hI := (hI.ext hx6)
  refine s_q rfl rfl (y_not rfl (ev_tmp rfl rfl)) ?_
  refine s_q rfl rfl (y_move rfl (ev_tmp rfl rfl)) ?_
  refine s_gval (g_false rfl rfl rfl rfl) rfl (fun hc => (y_move rfl (ev_tmp rfl rfl))) ?_
  refine s_gval (g_false rfl rfl rfl rfl) rfl (fun hc => (y_move rfl (ev_gv (ev_tmp rfl rfl) hc))) ?_
  refine s_gval (g_true2 rfl rfl rfl rfl) rfl (fun hc => (y_move rfl (ev_tmp rfl rfl))) ?_
  refine s_gval (g_true2 rfl rfl rfl rfl) rfl (fun hc => (y_eqs rfl (ev_gv (ev_tmp rfl rfl) hc) ev_const)) ?_
  refine s_gval (g_false rfl rfl rfl rfl) rfl (fun hc => (y_and2 rfl hc (ev_tmp rfl rfl) (ev_tmp rfl rfl))) ?_
  refine s_q rfl rfl (y_or rfl (ev_tmp rfl rfl) (ev_tmp rfl rfl)) ?_
  refine s_nil ?_
  refine k_next (e := [(2, (Value.pointer (some ⟨b1, 0, none⟩))), (5, (str r1.2.1)), (6, (Value.bool r1.2.2)), (7, (str r2.1)), (8, (Value.bool r2.2)), (34, (Value.bool ((!r3) || (r2.2 && (decide (r2.1 = ([48] : List UInt8)))))))]) ⟨rfl, rfl, rfl, rfl, rfl, rfl, trivial⟩ ?_
  refine c_cond (b := (!r3) || (r2.2 && (decide (r2.1 = ([48] : List UInt8))))) (ev_tmp rfl rfl) (fun hb => ?_) (fun hb => ?_)
  · replace h := ite_t hb h
    refine c_seq ?_
    refine c_region rfl ?_
    refine s_q rfl rfl (y_build (vs := []) (cs := #[(Value.int .i64 0), (Value.int .i64 0)]) rfl trivial (by kernel_rfl)) ?_
    refine l_store (new := [(Value.int .i64 0), (Value.int .i64 0)]) (cs' := #[(Value.int .i64 0), (Value.int .i64 0)]) hI .z rfl rfl rfl (ev_tmp rfl rfl) (ev_tmp rfl rfl) rfl size_23 rfl rfl rfl ?_
    clear hI; intro c2 w5 hI
    refine s_q rfl rfl (y_assign rfl ev_const) ?_
    refine s_nil ?_
    refine k_next (e := [(2, (Value.pointer (some ⟨b1, 0, none⟩))), (3, (Value.int .i64 5))]) ⟨rfl, rfl, trivial⟩ ?_
    refine c_ret ?_
    obtain rfl := some_inj h
    exact q_ret (vs := [(Value.agg #[(Value.int .i64 0), (Value.int .i64 0)]), (Value.int .i64 5)]) Tryd.results22 ⟨⟨_, ev_tmp rfl rfl, load_agg (l := [(Value.int .i64 0), (Value.int .i64 0)]) Tryd.underlying23 rfl size_23 (CellsAt.of_blk (hI.blk .z) rfl)⟩, ⟨ev_tmp rfl rfl, trivial⟩⟩ ⟨rfl, hI.ext0, hI.fin trivial⟩
  · replace h := ite_f hb h
    refine c_skip ?_
    refine k_next (e := [(2, (Value.pointer (some ⟨b1, 0, none⟩))), (5, (str r1.2.1)), (6, (Value.bool r1.2.2)), (7, (str r2.1)), (8, (Value.bool r2.2))]) ⟨rfl, rfl, rfl, rfl, rfl, trivial⟩ ?_
    refine c_join (α := (List UInt8)) (fun _ => ⟨78, []⟩) (fun x => [(2, (Value.pointer (some ⟨b1, 0, none⟩))), (5, (str x)), (7, (str r2.1)), (8, (Value.bool r2.2))]) (fun x => fun w => ∃ C, Bun noM F w0 C w [MO.box b1 23 #[(Value.int .i64 0), (Value.int .i64 0)]] [] ∧ m_frac_Parse_j1 r2 x = some r) ?_ ?_
    · clear h hI; rintro bottom1 w6 ⟨c3, hI, h⟩
      try dsimp only at hI h
      rw [m_frac_Parse_j1] at h
      refine c_sub (e := [(2, (Value.pointer (some ⟨b1, 0, none⟩))), (5, (str bottom1)), (7, (str r2.1)), (8, (Value.bool r2.2))]) ⟨rfl, rfl, rfl, rfl, trivial⟩ ?_
      refine c_seq ?_
      refine c_region rfl ?_
      refine s_q rfl rfl (y_move rfl (ev_tmp rfl rfl)) ?_
      obtain ⟨r4, hx7, h⟩ := bnd_some h
      refine s_call rfl rfl (r_callF (vs := [(str r2.1)]) rfl ok_60 ⟨(ev_tmp rfl rfl), trivial⟩) (Calls.mono (c_frac_bounded (Dj F c3) w6 hI.lt r2.1 trivial r4 hx7) ?_)
      rintro _ w7 ⟨rfl, hx8, hl4⟩
      refine ⟨_, rfl, ?_⟩
      replace hI := (hI.ext hx8)
      refine s_q rfl rfl (y_move rfl (ev_tmp rfl rfl)) ?_
      refine s_q rfl rfl (y_extract rfl (ev_tmp rfl rfl) rfl) ?_
      refine s_q rfl rfl (y_extract rfl (ev_tmp rfl rfl) rfl) ?_
      refine s_q rfl rfl (y_assign rfl (ev_tmp rfl rfl)) ?_
      refine s_q rfl rfl (y_assign rfl (ev_tmp rfl rfl)) ?_
      refine s_nil ?_
      refine k_next (e := [(2, (Value.pointer (some ⟨b1, 0, none⟩))), (5, (str bottom1)), (8, (Value.bool r2.2)), (9, (Value.int .i64 r4.1)), (10, (Value.bool r4.2))]) ⟨rfl, rfl, rfl, rfl, rfl, trivial⟩ ?_
      refine c_seq ?_
      refine c_region rfl ?_
      refine s_q rfl rfl (y_move rfl (ev_tmp rfl rfl)) ?_
      obtain ⟨r5, hx9, h⟩ := bnd_some h
      refine s_call rfl rfl (r_callF (vs := [(str bottom1)]) rfl ok_60 ⟨(ev_tmp rfl rfl), trivial⟩) (Calls.mono (c_frac_bounded (Dj F c3) w7 hI.lt bottom1 trivial r5 hx9) ?_)
      rintro _ w8 ⟨rfl, hx10, hl5⟩
      refine ⟨_, rfl, ?_⟩
      replace hI := (hI.ext hx10)
      refine s_q rfl rfl (y_move rfl (ev_tmp rfl rfl)) ?_
      refine s_q rfl rfl (y_extract rfl (ev_tmp rfl rfl) rfl) ?_
      refine s_q rfl rfl (y_extract rfl (ev_tmp rfl rfl) rfl) ?_
      refine s_q rfl rfl (y_assign rfl (ev_tmp rfl rfl)) ?_
      refine s_q rfl rfl (y_assign rfl (ev_tmp rfl rfl)) ?_
      refine s_nil ?_
      refine k_next (e := [(2, (Value.pointer (some ⟨b1, 0, none⟩))), (8, (Value.bool r2.2)), (9, (Value.int .i64 r4.1)), (10, (Value.bool r4.2)), (11, (Value.int .i64 r5.1)), (12, (Value.bool r5.2))]) ⟨rfl, rfl, rfl, rfl, rfl, rfl, trivial⟩ ?_
      refine c_seq ?_
      refine c_seq ?_
      refine c_region rfl ?_
      refine s_q rfl rfl (y_move rfl (ev_tmp rfl rfl)) ?_
      refine s_q rfl rfl (y_not rfl (ev_tmp rfl rfl)) ?_
      refine s_q rfl rfl (y_move rfl (ev_tmp rfl rfl)) ?_
      refine s_gval (g_false rfl rfl rfl rfl) rfl (fun hc => (y_move rfl (ev_tmp rfl rfl))) ?_
      refine s_gval (g_false rfl rfl rfl rfl) rfl (fun hc => (y_not rfl (ev_gv (ev_tmp rfl rfl) hc))) ?_
      refine s_q rfl rfl (y_or rfl (ev_tmp rfl rfl) (ev_tmp rfl rfl)) ?_
      refine s_nil ?_
      refine k_next (e := [(2, (Value.pointer (some ⟨b1, 0, none⟩))), (8, (Value.bool r2.2)), (9, (Value.int .i64 r4.1)), (11, (Value.int .i64 r5.1)), (65, (Value.bool ((!r4.2) || (!r5.2))))]) ⟨rfl, rfl, rfl, rfl, rfl, trivial⟩ ?_
      refine c_cond (b := (!r4.2) || (!r5.2)) (ev_tmp rfl rfl) (fun hb => ?_) (fun hb => ?_)
      · replace h := ite_t hb h
        refine c_seq ?_
        refine c_region rfl ?_
        refine s_q rfl rfl (y_build (vs := []) (cs := #[(Value.int .i64 0), (Value.int .i64 0)]) rfl trivial (by kernel_rfl)) ?_
        refine l_store (new := [(Value.int .i64 0), (Value.int .i64 0)]) (cs' := #[(Value.int .i64 0), (Value.int .i64 0)]) hI .z rfl rfl rfl (ev_tmp rfl rfl) (ev_tmp rfl rfl) rfl size_23 rfl rfl rfl ?_
        clear hI; intro c4 w9 hI
        refine s_q rfl rfl (y_assign rfl ev_const) ?_
        refine s_nil ?_
        refine k_next (e := [(2, (Value.pointer (some ⟨b1, 0, none⟩))), (3, (Value.int .i64 3))]) ⟨rfl, rfl, trivial⟩ ?_
        refine c_ret ?_
        obtain rfl := some_inj h
        exact q_ret (vs := [(Value.agg #[(Value.int .i64 0), (Value.int .i64 0)]), (Value.int .i64 3)]) Tryd.results22 ⟨⟨_, ev_tmp rfl rfl, load_agg (l := [(Value.int .i64 0), (Value.int .i64 0)]) Tryd.underlying23 rfl size_23 (CellsAt.of_blk (hI.blk .z) rfl)⟩, ⟨ev_tmp rfl rfl, trivial⟩⟩ ⟨rfl, hI.ext0, hI.fin trivial⟩
      · replace h := ite_f hb h
        refine c_skip ?_
        refine k_next (e := [(2, (Value.pointer (some ⟨b1, 0, none⟩))), (8, (Value.bool r2.2)), (9, (Value.int .i64 r4.1)), (11, (Value.int .i64 r5.1))]) ⟨rfl, rfl, rfl, rfl, trivial⟩ ?_
        refine c_join (α := Int) (fun _ => ⟨78, []⟩) (fun x => [(2, (Value.pointer (some ⟨b1, 0, none⟩))), (9, (Value.int .i64 x)), (11, (Value.int .i64 r5.1))]) (fun x => fun w => ∃ C, Bun noM F w0 C w [MO.box b1 23 #[(Value.int .i64 0), (Value.int .i64 0)]] [] ∧ m_frac_Parse_j2 r5 x = some r) ?_ ?_
        · clear h hI; rintro n1 w10 ⟨c5, hI, h⟩
          try dsimp only at hI h
          rw [m_frac_Parse_j2] at h
          refine c_sub (e := [(2, (Value.pointer (some ⟨b1, 0, none⟩))), (9, (Value.int .i64 n1)), (11, (Value.int .i64 r5.1))]) ⟨rfl, rfl, rfl, trivial⟩ ?_
          refine c_seq ?_
          refine c_region rfl ?_
          refine s_q rfl rfl (y_move rfl (ev_tmp rfl rfl)) ?_
          refine s_q rfl rfl (y_move rfl (ev_tmp rfl rfl)) ?_
          refine s_q rfl rfl (y_build (vs := [(0, (Value.int .i64 n1)), (1, (Value.int .i64 r5.1))]) (cs := #[(Value.int .i64 n1), (Value.int .i64 r5.1)]) rfl ⟨rfl, (ev_tmp rfl rfl), ⟨rfl, (ev_tmp rfl rfl), trivial⟩⟩ (by kernel_rfl)) ?_
          refine l_alloc (cs := #[(Value.int .i64 0), (Value.int .i64 0)]) hI rfl rfl rfl zero_23 rfl ?_
          clear hI; intro b2 c6 w11 hI
          refine l_store (new := [(Value.int .i64 n1), (Value.int .i64 r5.1)]) (cs' := #[(Value.int .i64 n1), (Value.int .i64 r5.1)]) hI .z rfl rfl rfl (ev_tmp rfl rfl) (ev_tmp rfl rfl) rfl size_23 rfl rfl rfl ?_
          clear hI; intro c7 w12 hI
          refine s_nil ?_
          refine k_next (e := [(2, (Value.pointer (some ⟨b1, 0, none⟩))), (13, (Value.pointer (some ⟨b2, 0, none⟩)))]) ⟨rfl, rfl, trivial⟩ ?_
          refine c_seq ?_
          refine c_seq ?_
          refine c_region rfl ?_
          refine s_q rfl rfl (y_loadN (l := [(Value.int .i64 n1), (Value.int .i64 r5.1)]) rfl (ev_tmp rfl rfl) Tryd.underlying23 rfl size_23 (CellsAt.of_blk (hI.blk .z) rfl)) ?_
          obtain ⟨r6, hx11, h⟩ := bnd_some h
          refine s_call rfl rfl (r_callF (vs := [(Value.agg #[(Value.int .i64 n1), (Value.int .i64 r5.1)])]) rfl ok_14 ⟨(ev_tmp rfl rfl), trivial⟩) (Calls.mono (c_frac_Valid (Dj F c7) w12 hI.lt (⟨n1, r5.1⟩ : GVal) trivial r6 hx11) ?_)
          rintro _ w13 ⟨rfl, hx12, hl6⟩
          refine ⟨_, rfl, ?_⟩
          replace hI := (hI.ext hx12)
          refine s_q rfl rfl (y_not rfl (ev_tmp rfl rfl)) ?_
          refine s_nil ?_
          refine k_next (e := [(2, (Value.pointer (some ⟨b1, 0, none⟩))), (13, (Value.pointer (some ⟨b2, 0, none⟩))), (75, (Value.bool (!r6)))]) ⟨rfl, rfl, rfl, trivial⟩ ?_
          refine c_cond (b := !r6) (ev_tmp rfl rfl) (fun hb => ?_) (fun hb => ?_)
          · replace h := ite_t hb h
            refine c_seq ?_
            refine c_region rfl ?_
            refine s_q rfl rfl (y_build (vs := []) (cs := #[(Value.int .i64 0), (Value.int .i64 0)]) rfl trivial (by kernel_rfl)) ?_
            refine l_store (new := [(Value.int .i64 0), (Value.int .i64 0)]) (cs' := #[(Value.int .i64 0), (Value.int .i64 0)]) hI (.s .z) rfl rfl rfl (ev_tmp rfl rfl) (ev_tmp rfl rfl) rfl size_23 rfl rfl rfl ?_
            clear hI; intro c8 w14 hI
            refine s_q rfl rfl (y_assign rfl ev_const) ?_
            refine s_nil ?_
            refine k_next (e := [(2, (Value.pointer (some ⟨b1, 0, none⟩))), (3, (Value.int .i64 5))]) ⟨rfl, rfl, trivial⟩ ?_
            refine c_ret ?_
            obtain rfl := some_inj h
            exact q_ret (vs := [(Value.agg #[(Value.int .i64 0), (Value.int .i64 0)]), (Value.int .i64 5)]) Tryd.results22 ⟨⟨_, ev_tmp rfl rfl, load_agg (l := [(Value.int .i64 0), (Value.int .i64 0)]) Tryd.underlying23 rfl size_23 (CellsAt.of_blk (hI.blk (.s .z)) rfl)⟩, ⟨ev_tmp rfl rfl, trivial⟩⟩ ⟨rfl, hI.ext0, hI.fin trivial⟩
          · replace h := ite_f hb h
            refine c_skip ?_
            refine k_next (e := [(2, (Value.pointer (some ⟨b1, 0, none⟩))), (13, (Value.pointer (some ⟨b2, 0, none⟩)))]) ⟨rfl, rfl, trivial⟩ ?_
            refine c_seq ?_
            refine c_region rfl ?_
            refine s_q rfl rfl (y_loadN (l := [(Value.int .i64 n1), (Value.int .i64 r5.1)]) rfl (ev_tmp rfl rfl) Tryd.underlying23 rfl size_23 (CellsAt.of_blk (hI.blk .z) rfl)) ?_
            refine l_store (new := [(Value.int .i64 n1), (Value.int .i64 r5.1)]) (cs' := #[(Value.int .i64 n1), (Value.int .i64 r5.1)]) hI (.s .z) rfl rfl rfl (ev_tmp rfl rfl) (ev_tmp rfl rfl) rfl size_23 rfl rfl rfl ?_
            clear hI; intro c9 w15 hI
            refine s_q rfl rfl (y_assign rfl ev_const) ?_
            refine s_nil ?_
            refine k_next (e := [(2, (Value.pointer (some ⟨b1, 0, none⟩))), (3, (Value.int .i64 0))]) ⟨rfl, rfl, trivial⟩ ?_
            refine c_ret ?_
            obtain rfl := some_inj h
            exact q_ret (vs := [(Value.agg #[(Value.int .i64 n1), (Value.int .i64 r5.1)]), (Value.int .i64 0)]) Tryd.results22 ⟨⟨_, ev_tmp rfl rfl, load_agg (l := [(Value.int .i64 n1), (Value.int .i64 r5.1)]) Tryd.underlying23 rfl size_23 (CellsAt.of_blk (hI.blk (.s .z)) rfl)⟩, ⟨ev_tmp rfl rfl, trivial⟩⟩ ⟨rfl, hI.ext0, hI.fin trivial⟩
        · skip
          refine c_seq ?_
          refine c_region rfl ?_
          refine s_q rfl rfl (y_move rfl (ev_tmp rfl rfl)) ?_
          refine s_nil ?_
          refine k_next (e := [(2, (Value.pointer (some ⟨b1, 0, none⟩))), (9, (Value.int .i64 r4.1)), (11, (Value.int .i64 r5.1)), (67, (Value.bool r2.2))]) ⟨rfl, rfl, rfl, rfl, trivial⟩ ?_
          refine c_cond (b := r2.2) (ev_tmp rfl rfl) (fun hb => ?_) (fun hb => ?_)
          · replace h := ite_t hb h
            refine c_region rfl ?_
            refine s_q rfl rfl (y_move rfl (ev_tmp rfl rfl)) ?_
            refine s_q rfl rfl (y_neg rfl (ev_tmp rfl rfl)) ?_
            refine s_q rfl rfl (y_assign rfl (ev_tmp rfl rfl)) ?_
            refine s_nil ?_
            exact k_join (wi64 (-r4.1)) ⟨rfl, rfl, rfl, trivial⟩ ⟨_, hI.arr (.c .z .n) trivial, h⟩ rfl
          · replace h := ite_f hb h
            refine c_skip ?_
            exact k_join r4.1 ⟨rfl, rfl, rfl, trivial⟩ ⟨_, hI.arr (.c .z .n) trivial, h⟩ rfl
    · skip
      refine c_seq ?_
      refine c_region rfl ?_
      refine s_q rfl rfl (y_move rfl (ev_tmp rfl rfl)) ?_
      refine s_q rfl rfl (y_not rfl (ev_tmp rfl rfl)) ?_
      refine s_nil ?_
      refine k_next (e := [(2, (Value.pointer (some ⟨b1, 0, none⟩))), (5, (str r1.2.1)), (7, (str r2.1)), (8, (Value.bool r2.2)), (37, (Value.bool (!r1.2.2)))]) ⟨rfl, rfl, rfl, rfl, rfl, trivial⟩ ?_
      refine c_cond (b := !r1.2.2) (ev_tmp rfl rfl) (fun hb => ?_) (fun hb => ?_)
      · replace h := ite_t hb h
        refine c_region rfl ?_
        refine s_q rfl rfl (y_assign rfl ev_const) ?_
        refine s_nil ?_
        exact k_join ([49] : List UInt8) ⟨rfl, rfl, rfl, rfl, trivial⟩ ⟨_, hI.arr (.c .z .n) trivial, h⟩ rfl
      · replace h := ite_f hb h
        refine c_seq ?_
        refine c_region rfl ?_
        refine s_q rfl rfl (y_move rfl (ev_tmp rfl rfl)) ?_
        obtain ⟨r7, hx13, h⟩ := bnd_some h
        refine s_call rfl rfl (r_callF (vs := [(str r1.2.1)]) rfl ok_59 ⟨(ev_tmp rfl rfl), trivial⟩) (Calls.mono (c_frac_decimal (Dj F c1) w4 hI.lt r1.2.1 trivial r7 hx13) ?_)
        rintro _ w16 ⟨rfl, hx14, hl7⟩
        refine ⟨_, rfl, ?_⟩
        replace hI := (hI.ext hx14)
        refine s_q rfl rfl (y_not rfl (ev_tmp rfl rfl)) ?_
        refine s_q rfl rfl (y_move rfl (ev_tmp rfl rfl)) ?_
        refine s_gval (g_false rfl rfl rfl rfl) rfl (fun hc => (y_move rfl (ev_tmp rfl rfl))) ?_
        refine s_gval (g_false rfl rfl rfl rfl) rfl (fun hc => (y_eqs rfl (ev_gv (ev_tmp rfl rfl) hc) ev_const)) ?_
        refine s_q rfl rfl (y_or rfl (ev_tmp rfl rfl) (ev_tmp rfl rfl)) ?_
        refine s_q rfl rfl (y_move rfl (ev_tmp rfl rfl)) ?_
        refine s_gval (g_false rfl rfl rfl rfl) rfl (fun hc => (y_move rfl (ev_tmp rfl rfl))) ?_
        refine s_gval (g_false rfl rfl rfl rfl) rfl (fun hc => (y_eqs rfl (ev_gv (ev_tmp rfl rfl) hc) ev_const)) ?_
        refine s_q rfl rfl (y_or rfl (ev_tmp rfl rfl) (ev_tmp rfl rfl)) ?_
        refine s_nil ?_
        refine k_next (e := [(2, (Value.pointer (some ⟨b1, 0, none⟩))), (5, (str r1.2.1)), (7, (str r2.1)), (8, (Value.bool r2.2)), (48, (Value.bool (((!r7) || (decide (r1.2.1 = ([48] : List UInt8)))) || (decide (r1.2.1 = ([49] : List UInt8))))))]) ⟨rfl, rfl, rfl, rfl, rfl, trivial⟩ ?_
        refine c_cond (b := ((!r7) || (decide (r1.2.1 = ([48] : List UInt8)))) || (decide (r1.2.1 = ([49] : List UInt8)))) (ev_tmp rfl rfl) (fun hb => ?_) (fun hb => ?_)
        · replace h := ite_t hb h
          refine c_seq ?_
          refine c_region rfl ?_
          refine s_q rfl rfl (y_build (vs := []) (cs := #[(Value.int .i64 0), (Value.int .i64 0)]) rfl trivial (by kernel_rfl)) ?_
          refine l_store (new := [(Value.int .i64 0), (Value.int .i64 0)]) (cs' := #[(Value.int .i64 0), (Value.int .i64 0)]) hI .z rfl rfl rfl (ev_tmp rfl rfl) (ev_tmp rfl rfl) rfl size_23 rfl rfl rfl ?_
          clear hI; intro c10 w17 hI
          refine s_q rfl rfl (y_assign rfl ev_const) ?_
          refine s_nil ?_
          refine k_next (e := [(2, (Value.pointer (some ⟨b1, 0, none⟩))), (3, (Value.int .i64 5))]) ⟨rfl, rfl, trivial⟩ ?_
          refine c_ret ?_
          obtain rfl := some_inj h
          exact q_ret (vs := [(Value.agg #[(Value.int .i64 0), (Value.int .i64 0)]), (Value.int .i64 5)]) Tryd.results22 ⟨⟨_, ev_tmp rfl rfl, load_agg (l := [(Value.int .i64 0), (Value.int .i64 0)]) Tryd.underlying23 rfl size_23 (CellsAt.of_blk (hI.blk .z) rfl)⟩, ⟨ev_tmp rfl rfl, trivial⟩⟩ ⟨rfl, hI.ext0, hI.fin trivial⟩
        · replace h := ite_f hb h
          refine c_skip ?_
          exact k_join r1.2.1 ⟨rfl, rfl, rfl, rfl, trivial⟩ ⟨_, hI.arr (.c .z .n) trivial, h⟩ rfl

set_option maxRecDepth 100000 in
set_option maxHeartbeats 4000000 in
theorem c_frac_Floor (F : NP) (w0 : World) (hF : ∀ k, F k → k < w0.heap.size) (a1 : GVal) (hc : AllCl [] F w0) (r : Int)
    (h : m_frac_Floor a1 = some r) :
    Calls Tryd.prog 20 #[(Value.agg #[(Value.int .i64 a1.N), (Value.int .i64 a1.D)])] w0 fun e w => e = .returned (Value.int .i64 r) ∧ Ext w0 w ∧ AllCl [] F w := by
  refine ofEnter (R := fun v w => v = (Value.int .i64 r) ∧ Ext w0 w ∧ AllCl [] F w) (enter (l := [(Value.agg #[(Value.int .i64 a1.N), (Value.int .i64 a1.D)])]) Tryd.func20 rfl Tryd.ntmps20 rfl ?_) ?_
  rotate_left
  · rintro _ w ⟨rfl, k1, k2⟩; exact ⟨rfl, k1, k2⟩
  have hI := Bun.start hF hc
  clear hc
  rw [m_frac_Floor] at h
  refine c_seq ?_
  refine c_region rfl ?_
  refine l_box (v := (Value.agg #[(Value.int .i64 a1.N), (Value.int .i64 a1.D)])) (cs := #[(Value.int .i64 a1.N), (Value.int .i64 a1.D)]) hI rfl rfl rfl (ev_tmp rfl rfl) rfl ?_
  clear hI; intro b1 c1 w1 hI
  obtain ⟨c2, hI⟩ := hI.relBox .z
  refine s_q rfl rfl (y_assign rfl ev_const) ?_
  refine s_nil ?_
  refine k_next (e := [(1, (Value.pointer (some ⟨b1, 0, none⟩)))]) ⟨rfl, trivial⟩ ?_
  refine c_seq ?_
  refine c_seq ?_
  refine c_region rfl ?_
  refine s_q rfl rfl (y_loadN (l := [(Value.int .i64 a1.N), (Value.int .i64 a1.D)]) rfl (ev_tmp rfl rfl) Tryd.underlying23 rfl size_23 (hI.kblk (l := [(Value.int .i64 a1.N), (Value.int .i64 a1.D)]) .z rfl).1) ?_
  obtain ⟨r1, hx1, h⟩ := bnd_some h
  refine s_call rfl rfl (r_callF (vs := [(Value.agg #[(Value.int .i64 a1.N), (Value.int .i64 a1.D)])]) rfl ok_14 ⟨(ev_tmp rfl rfl), trivial⟩) (Calls.mono (c_frac_Valid (Dj F c2) w1 hI.lt a1 trivial r1 hx1) ?_)
  rintro _ w2 ⟨rfl, hx2, hl1⟩
  refine ⟨_, rfl, ?_⟩
  replace hI := (hI.ext hx2)
  refine s_q rfl rfl (y_not rfl (ev_tmp rfl rfl)) ?_
  refine s_nil ?_
  refine k_next (e := [(1, (Value.pointer (some ⟨b1, 0, none⟩))), (6, (Value.bool (!r1)))]) ⟨rfl, rfl, trivial⟩ ?_
  refine c_cond (b := !r1) (ev_tmp rfl rfl) (fun hb => ?_) (fun hb => ?_)
  · replace h := ite_t hb h
    refine c_seq ?_
    refine c_region rfl ?_
    refine s_q rfl rfl (y_assign rfl ev_const) ?_
    refine s_nil ?_
    refine k_next (e := [(2, (Value.int .i64 0))]) ⟨rfl, trivial⟩ ?_
    refine c_ret ?_
    obtain rfl := some_inj h
    exact q_ret (vs := [(Value.int .i64 0)]) Tryd.results20 ⟨ev_tmp rfl rfl, trivial⟩ ⟨rfl, hI.ext0, hI.fin trivial⟩
  · replace h := ite_f hb h
    refine c_skip ?_
    refine k_next (e := [(1, (Value.pointer (some ⟨b1, 0, none⟩)))]) ⟨rfl, trivial⟩ ?_
    refine c_seq ?_
    refine c_region rfl ?_
    refine s_q rfl rfl (y_fieldAddr rfl (ev_tmp rfl rfl) Tryd.underlying23 rfl size_2 rfl) ?_
    refine s_q rfl rfl (y_load1 (v := (Value.int .i64 a1.N)) rfl (ev_tmp rfl rfl) Tryd.underlying2 rfl (hI.kblk (l := [(Value.int .i64 a1.N)]) .z rfl).1) ?_
    refine s_q rfl rfl (y_fieldAddr rfl (ev_tmp rfl rfl) Tryd.underlying23 rfl size_2 rfl) ?_
    refine s_q rfl rfl (y_load1 (v := (Value.int .i64 a1.D)) rfl (ev_tmp rfl rfl) Tryd.underlying2 rfl (hI.kblk (l := [(Value.int .i64 a1.D)]) .z rfl).1) ?_
    obtain ⟨ho1, h⟩ := chk_some h
    refine s_q rfl rfl (y_quo rfl (ev_tmp rfl rfl) (ev_tmp rfl rfl) ho1) ?_
    obtain ⟨q1, hx3, h⟩ := bnd_some h
    refine s_q rfl rfl (binU (y_assign rfl (ev_tmp rfl rfl)) (congrArg (Value.int .i64) (some_inj hx3))) ?_
    refine s_nil ?_
    refine k_next (e := [(1, (Value.pointer (some ⟨b1, 0, none⟩))), (3, (Value.int .i64 q1))]) ⟨rfl, rfl, trivial⟩ ?_
    refine c_seq ?_
    refine c_seq ?_
    refine c_region rfl ?_
    refine s_q rfl rfl (y_fieldAddr rfl (ev_tmp rfl rfl) Tryd.underlying23 rfl size_2 rfl) ?_
    refine s_q rfl rfl (y_load1 (v := (Value.int .i64 a1.N)) rfl (ev_tmp rfl rfl) Tryd.underlying2 rfl (hI.kblk (l := [(Value.int .i64 a1.N)]) .z rfl).1) ?_
    refine s_q rfl rfl (y_fieldAddr rfl (ev_tmp rfl rfl) Tryd.underlying23 rfl size_2 rfl) ?_
    refine s_q rfl rfl (y_load1 (v := (Value.int .i64 a1.D)) rfl (ev_tmp rfl rfl) Tryd.underlying2 rfl (hI.kblk (l := [(Value.int .i64 a1.D)]) .z rfl).1) ?_
    refine s_q rfl rfl (y_rem rfl (ev_tmp rfl rfl) (ev_tmp rfl rfl) ho1) ?_
    refine s_q rfl rfl (y_lss rfl (ev_tmp rfl rfl) ev_const) ?_
    refine s_nil ?_
    refine k_next (e := [(3, (Value.int .i64 q1)), (17, (Value.bool (decide (Int.tmod a1.N a1.D < 0))))]) ⟨rfl, rfl, trivial⟩ ?_
    refine c_cond (b := decide (Int.tmod a1.N a1.D < 0)) (ev_tmp rfl rfl) (fun hb => ?_) (fun hb => ?_)
    · replace h := ite_t hb h
      refine c_region rfl ?_
      refine s_q rfl rfl (y_move rfl (ev_tmp rfl rfl)) ?_
      refine s_q rfl rfl (y_sub rfl (ev_tmp rfl rfl) ev_const) ?_
      refine s_q rfl rfl (y_assign rfl (ev_tmp rfl rfl)) ?_
      refine s_nil ?_
      refine k_next (e := [(3, (Value.int .i64 (wi64 (q1 - 1))))]) ⟨rfl, trivial⟩ ?_
      refine c_seq ?_
      refine c_region rfl ?_
      refine s_q rfl rfl (y_move rfl (ev_tmp rfl rfl)) ?_
      refine s_q rfl rfl (y_assign rfl (ev_tmp rfl rfl)) ?_
      refine s_nil ?_
      refine k_next (e := [(2, (Value.int .i64 (wi64 (q1 - 1))))]) ⟨rfl, trivial⟩ ?_
      refine c_ret ?_
      obtain rfl := some_inj h
      exact q_ret (vs := [(Value.int .i64 (wi64 (q1 - 1)))]) Tryd.results20 ⟨ev_tmp rfl rfl, trivial⟩ ⟨rfl, hI.ext0, hI.fin trivial⟩
    · replace h := ite_f hb h
      refine c_skip ?_
      refine k_next (e := [(3, (Value.int .i64 q1))]) ⟨rfl, trivial⟩ ?_
      refine c_seq ?_
      refine c_region rfl ?_
      refine s_q rfl rfl (y_move rfl (ev_tmp rfl rfl)) ?_
      refine s_q rfl rfl (y_assign rfl (ev_tmp rfl rfl)) ?_
      refine s_nil ?_
      refine k_next (e := [(2, (Value.int .i64 q1))]) ⟨rfl, trivial⟩ ?_
      refine c_ret ?_
      obtain rfl := some_inj h
      exact q_ret (vs := [(Value.int .i64 q1)]) Tryd.results20 ⟨ev_tmp rfl rfl, trivial⟩ ⟨rfl, hI.ext0, hI.fin trivial⟩

set_option maxRecDepth 100000 in
set_option maxHeartbeats 4000000 in
theorem c_law01_examples (F : NP) (w0 : World) (hF : ∀ k, F k → k < w0.heap.size) (hc : AllCl [] F w0) (r : Bool)
    (h : m_law01_examples = some r) :
    Calls Tryd.prog 16 #[] w0 fun e w => e = .returned (Value.bool r) ∧ Ext w0 w ∧ AllCl [] F w := by
  refine ofEnter (R := fun v w => v = (Value.bool r) ∧ Ext w0 w ∧ AllCl [] F w) (enter (l := []) Tryd.func16 rfl Tryd.ntmps16 rfl ?_) ?_
  rotate_left
  · rintro _ w ⟨rfl, k1, k2⟩; exact ⟨rfl, k1, k2⟩
  have hI := Bun.start hF hc
  clear hc
  rw [m_law01_examples] at h
  refine c_seq ?_
  refine c_region rfl ?_
  refine s_q rfl rfl (y_assign rfl ev_const) ?_
  refine s_nil ?_
  refine k_next (e := []) trivial ?_
  refine c_seq ?_
  refine c_region rfl ?_
  refine s_q rfl rfl (y_build (vs := [(0, (Value.int .i64 1)), (1, (Value.int .i64 2))]) (cs := #[(Value.int .i64 1), (Value.int .i64 2)]) rfl ⟨rfl, ev_const, ⟨rfl, ev_const, trivial⟩⟩ (by kernel_rfl)) ?_
  refine s_q rfl rfl (y_build (vs := [(0, (Value.int .i64 1)), (1, (Value.int .i64 3))]) (cs := #[(Value.int .i64 1), (Value.int .i64 3)]) rfl ⟨rfl, ev_const, ⟨rfl, ev_const, trivial⟩⟩ (by kernel_rfl)) ?_
  refine s_q rfl rfl (y_build (vs := [(0, (Value.int .i64 1)), (1, (Value.int .i64 6))]) (cs := #[(Value.int .i64 1), (Value.int .i64 6)]) rfl ⟨rfl, ev_const, ⟨rfl, ev_const, trivial⟩⟩ (by kernel_rfl)) ?_
  refine l_alloc (cs := #[(Value.int .i64 0), (Value.int .i64 0)]) hI rfl rfl rfl zero_23 rfl ?_
  clear hI; intro b1 c1 w1 hI
  refine l_alloc (cs := #[(Value.int .i64 0), (Value.int .i64 0)]) hI rfl rfl rfl zero_23 rfl ?_
  clear hI; intro b2 c2 w2 hI
  refine l_alloc (cs := #[(Value.int .i64 0), (Value.int .i64 0)]) hI rfl rfl rfl zero_23 rfl ?_
  clear hI; intro b3 c3 w3 hI
  refine l_store (new := [(Value.int .i64 1), (Value.int .i64 2)]) (cs' := #[(Value.int .i64 1), (Value.int .i64 2)]) hI (.s (.s .z)) rfl rfl rfl (ev_tmp rfl rfl) (ev_tmp rfl rfl) rfl size_23 rfl rfl rfl ?_
  clear hI; intro c4 w4 hI
  refine l_store (new := [(Value.int .i64 1), (Value.int .i64 3)]) (cs' := #[(Value.int .i64 1), (Value.int .i64 3)]) hI (.s .z) rfl rfl rfl (ev_tmp rfl rfl) (ev_tmp rfl rfl) rfl size_23 rfl rfl rfl ?_
  clear hI; intro c5 w5 hI
  refine l_store (new := [(Value.int .i64 1), (Value.int .i64 6)]) (cs' := #[(Value.int .i64 1), (Value.int .i64 6)]) hI .z rfl rfl rfl (ev_tmp rfl rfl) (ev_tmp rfl rfl) rfl size_23 rfl rfl rfl ?_
  clear hI; intro c6 w6 hI
  refine s_nil ?_
  refine k_next (e := [(1, (Value.pointer (some ⟨b1, 0, none⟩))), (2, (Value.pointer (some ⟨b2, 0, none⟩))), (3, (Value.pointer (some ⟨b3, 0, none⟩)))]) ⟨rfl, rfl, rfl, trivial⟩ ?_
  refine c_seq ?_
  refine c_region rfl ?_
  obtain ⟨r1, hx1, h⟩ := bnd_some h
  refine s_call rfl rfl (r_callF (vs := [(Value.int .i64 6), (Value.int .i64 (-4))]) rfl ok_12 ⟨ev_const, ⟨ev_const, trivial⟩⟩) (Calls.mono (c_frac_New (Dj F c6) w6 hI.lt 6 (-4) trivial r1 hx1) ?_)
  rintro _ w7 ⟨rfl, hx2, hl1⟩
  refine ⟨_, rfl, ?_⟩
  replace hI := (hI.ext hx2)
  refine s_q rfl rfl (y_move rfl (ev_tmp rfl rfl)) ?_
  refine s_q rfl rfl (y_extract rfl (ev_tmp rfl rfl) rfl) ?_
  refine s_q rfl rfl (y_extract rfl (ev_tmp rfl rfl) rfl) ?_
  refine l_alloc (cs := #[(Value.int .i64 0), (Value.int .i64 0)]) hI rfl rfl rfl zero_23 rfl ?_
  clear hI; intro b4 c7 w8 hI
  refine l_store (new := [(Value.int .i64 r1.1.N), (Value.int .i64 r1.1.D)]) (cs' := #[(Value.int .i64 r1.1.N), (Value.int .i64 r1.1.D)]) hI .z rfl rfl rfl (ev_tmp rfl rfl) (ev_tmp rfl rfl) rfl size_23 rfl rfl rfl ?_
  clear hI; intro c8 w9 hI
  refine s_q rfl rfl (y_assign rfl (ev_tmp rfl rfl)) ?_
  refine s_nil ?_
  refine k_next (e := [(1, (Value.pointer (some ⟨b1, 0, none⟩))), (2, (Value.pointer (some ⟨b2, 0, none⟩))), (3, (Value.pointer (some ⟨b3, 0, none⟩))), (4, (Value.pointer (some ⟨b4, 0, none⟩))), (5, (Value.int .i64 r1.2))]) ⟨rfl, rfl, rfl, rfl, rfl, trivial⟩ ?_
  refine c_seq ?_
  refine c_region rfl ?_
  refine s_q rfl rfl (y_loadN (l := [(Value.int .i64 1), (Value.int .i64 2)]) rfl (ev_tmp rfl rfl) Tryd.underlying23 rfl size_23 (CellsAt.of_blk (hI.blk (.s (.s (.s .z)))) rfl)) ?_
  refine s_q rfl rfl (y_loadN (l := [(Value.int .i64 1), (Value.int .i64 3)]) rfl (ev_tmp rfl rfl) Tryd.underlying23 rfl size_23 (CellsAt.of_blk (hI.blk (.s (.s .z))) rfl)) ?_
  obtain ⟨r2, hx3, h⟩ := bnd_some h
  refine s_call rfl rfl (r_callF (vs := [(Value.agg #[(Value.int .i64 1), (Value.int .i64 2)]), (Value.agg #[(Value.int .i64 1), (Value.int .i64 3)])]) rfl ok_26 ⟨(ev_tmp rfl rfl), ⟨(ev_tmp rfl rfl), trivial⟩⟩) (Calls.mono (c_frac_Add (Dj F c8) w9 hI.lt (⟨1, 2⟩ : GVal) (⟨1, 3⟩ : GVal) trivial r2 hx3) ?_)
  rintro _ w10 ⟨rfl, hx4, hl2⟩
  refine ⟨_, rfl, ?_⟩
  replace hI := (hI.ext hx4)
  refine s_q rfl rfl (y_move rfl (ev_tmp rfl rfl)) ?_
  refine s_q rfl rfl (y_extract rfl (ev_tmp rfl rfl) rfl) ?_
  refine s_q rfl rfl (y_extract rfl (ev_tmp rfl rfl) rfl) ?_
  refine l_alloc (cs := #[(Value.int .i64 0), (Value.int .i64 0)]) hI rfl rfl rfl zero_23 rfl ?_
  clear hI; intro b5 c9 w11 hI
  refine l_store (new := [(Value.int .i64 r2.1.N), (Value.int .i64 r2.1.D)]) (cs' := #[(Value.int .i64 r2.1.N), (Value.int .i64 r2.1.D)]) hI .z rfl rfl rfl (ev_tmp rfl rfl) (ev_tmp rfl rfl) rfl size_23 rfl rfl rfl ?_
  clear hI; intro c10 w12 hI
  refine s_q rfl rfl (y_assign rfl (ev_tmp rfl rfl)) ?_
  refine s_nil ?_
  refine k_next (e := [(1, (Value.pointer (some ⟨b1, 0, none⟩))), (2, (Value.pointer (some ⟨b2, 0, none⟩))), (3, (Value.pointer (some ⟨b3, 0, none⟩))), (4, (Value.pointer (some ⟨b4, 0, none⟩))), (5, (Value.int .i64 r1.2)), (6, (Value.pointer (some ⟨b5, 0, none⟩))), (7, (Value.int .i64 r2.2))]) ⟨rfl, rfl, rfl, rfl, rfl, rfl, rfl, trivial⟩ ?_
  refine c_seq ?_
  refine c_region rfl ?_
  refine s_q rfl rfl (y_loadN (l := [(Value.int .i64 1), (Value.int .i64 2)]) rfl (ev_tmp rfl rfl) Tryd.underlying23 rfl size_23 (CellsAt.of_blk (hI.blk (.s (.s (.s (.s .z))))) rfl)) ?_
  refine s_q rfl rfl (y_loadN (l := [(Value.int .i64 1), (Value.int .i64 3)]) rfl (ev_tmp rfl rfl) Tryd.underlying23 rfl size_23 (CellsAt.of_blk (hI.blk (.s (.s (.s .z)))) rfl)) ?_
  refine s_q rfl rfl (y_loadN (l := [(Value.int .i64 1), (Value.int .i64 6)]) rfl (ev_tmp rfl rfl) Tryd.underlying23 rfl size_23 (CellsAt.of_blk (hI.blk (.s (.s .z))) rfl)) ?_
  refine l_lit (c := cGVal) (xs := ([(⟨1, 2⟩ : GVal), (⟨1, 3⟩ : GVal), (⟨1, 6⟩ : GVal)] : List GVal)) (vs := [(0, (Value.agg #[(Value.int .i64 1), (Value.int .i64 2)])), (1, (Value.agg #[(Value.int .i64 1), (Value.int .i64 3)])), (2, (Value.agg #[(Value.int .i64 1), (Value.int .i64 6)]))]) (cs := #[(Value.int .i64 1), (Value.int .i64 2), (Value.int .i64 1), (Value.int .i64 3), (Value.int .i64 1), (Value.int .i64 6)]) (css := [[(Value.int .i64 1), (Value.int .i64 2)], [(Value.int .i64 1), (Value.int .i64 3)], [(Value.int .i64 1), (Value.int .i64 6)]]) hI rfl rfl rfl Tryd.underlying30 info_23 rfl ⟨rfl, (ev_tmp rfl rfl), ⟨rfl, (ev_tmp rfl rfl), ⟨rfl, (ev_tmp rfl rfl), trivial⟩⟩⟩ (by kernel_rfl) ⟨rfl, ⟨rfl, ⟨rfl, trivial⟩⟩⟩ rfl rfl rfl ?_
  clear hI; intro b6 c11 w13 hI
  obtain ⟨r3, hx5, h⟩ := bnd_some h
  refine s_call rfl rfl (r_callF (vs := [(Value.slice (some ⟨b6, 0, none⟩) ([(⟨1, 2⟩ : GVal), (⟨1, 3⟩ : GVal), (⟨1, 6⟩ : GVal)] : List GVal).length 3)]) rfl ok_17 ⟨(ev_tmp rfl rfl), trivial⟩) (Calls.mono (c_frac_Sum noM w13 (fun _ k => k.elim) ([(⟨1, 2⟩ : GVal), (⟨1, 3⟩ : GVal), (⟨1, 6⟩ : GVal)] : List GVal) (some ⟨b6, 0, none⟩) 3 ⟨hI.lend .z, trivial⟩ r3 hx5) ?_)
  rintro _ w14 ⟨rfl, hx6, hl3⟩
  refine ⟨_, rfl, ?_⟩
  replace hI := (hI.ext hx6)
  refine s_q rfl rfl (y_move rfl (ev_tmp rfl rfl)) ?_
  refine s_q rfl rfl (y_extract rfl (ev_tmp rfl rfl) rfl) ?_
  refine s_q rfl rfl (y_extract rfl (ev_tmp rfl rfl) rfl) ?_
  refine l_alloc (cs := #[(Value.int .i64 0), (Value.int .i64 0)]) hI rfl rfl rfl zero_23 rfl ?_
  clear hI; intro b7 c12 w15 hI
  refine l_store (new := [(Value.int .i64 r3.1.N), (Value.int .i64 r3.1.D)]) (cs' := #[(Value.int .i64 r3.1.N), (Value.int .i64 r3.1.D)]) hI .z rfl rfl rfl (ev_tmp rfl rfl) (ev_tmp rfl rfl) rfl size_23 rfl rfl rfl ?_
  clear hI; intro c13 w16 hI
  refine s_q rfl rfl (y_assign rfl (ev_tmp rfl rfl)) ?_
  refine s_nil ?_
  refine k_next (e := [(4, (Value.pointer (some ⟨b4, 0, none⟩))), (5, (Value.int .i64 r1.2)), (6, (Value.pointer (some ⟨b5, 0, none⟩))), (7, (Value.int .i64 r2.2)), (8, (Value.pointer (some ⟨b7, 0, none⟩))), (9, (Value.int .i64 r3.2))]) ⟨rfl, rfl, rfl, rfl, rfl, rfl, trivial⟩ ?_
  refine c_seq ?_
  refine c_region rfl ?_
  obtain ⟨r4, hx7, h⟩ := bnd_some h
  refine s_call rfl rfl (r_callF (vs := [(str ([50, 47, 52] : List UInt8))]) rfl ok_22 ⟨ev_const, trivial⟩) (Calls.mono (c_frac_Parse (Dj F c13) w16 hI.lt ([50, 47, 52] : List UInt8) trivial r4 hx7) ?_)
  rintro _ w17 ⟨rfl, hx8, hl4⟩
  refine ⟨_, rfl, ?_⟩
  replace hI := (hI.ext hx8)
  refine s_q rfl rfl (y_move rfl (ev_tmp rfl rfl)) ?_
  refine s_q rfl rfl (y_extract rfl (ev_tmp rfl rfl) rfl) ?_
  refine s_q rfl rfl (y_extract rfl (ev_tmp rfl rfl) rfl) ?_
  refine l_alloc (cs := #[(Value.int .i64 0), (Value.int .i64 0)]) hI rfl rfl rfl zero_23 rfl ?_
  clear hI; intro b8 c14 w18 hI
  refine l_store (new := [(Value.int .i64 r4.1.N), (Value.int .i64 r4.1.D)]) (cs' := #[(Value.int .i64 r4.1.N), (Value.int .i64 r4.1.D)]) hI .z rfl rfl rfl (ev_tmp rfl rfl) (ev_tmp rfl rfl) rfl size_23 rfl rfl rfl ?_
  clear hI; intro c15 w19 hI
  refine s_q rfl rfl (y_assign rfl (ev_tmp rfl rfl)) ?_
  refine s_nil ?_
  refine k_next (e := [(4, (Value.pointer (some ⟨b4, 0, none⟩))), (5, (Value.int .i64 r1.2)), (6, (Value.pointer (some ⟨b5, 0, none⟩))), (7, (Value.int .i64 r2.2)), (8, (Value.pointer (some ⟨b7, 0, none⟩))), (9, (Value.int .i64 r3.2)), (11, (Value.int .i64 r4.2))]) ⟨rfl, rfl, rfl, rfl, rfl, rfl, rfl, trivial⟩ ?_
  refine c_seq ?_
  refine c_region rfl ?_
  refine s_q rfl rfl (y_move rfl (ev_tmp rfl rfl)) ?_
  refine s_q rfl rfl (y_eql rfl (ev_tmp rfl rfl) ev_const) ?_
  refine s_q rfl rfl (y_move rfl (ev_tmp rfl rfl)) ?_
  refine s_gval (g_true rfl rfl rfl rfl) rfl (fun hc => (y_loadN (l := [(Value.int .i64 r1.1.N), (Value.int .i64 r1.1.D)]) rfl (ev_tmp rfl rfl) Tryd.underlying23 rfl size_23 (CellsAt.of_blk (hI.blk (.s (.s (.s (.s .z))))) rfl))) ?_
  refine s_gval (g_true rfl rfl rfl rfl) rfl (fun hc => (y_build (vs := [(0, (Value.int .i64 (-3))), (1, (Value.int .i64 2))]) (cs := #[(Value.int .i64 (-3)), (Value.int .i64 2)]) rfl ⟨rfl, ev_const, ⟨rfl, ev_const, trivial⟩⟩ (by kernel_rfl))) ?_
  refine s_gval (g_true rfl rfl rfl rfl) rfl (fun hc => (y_bin rfl (ev_gv (ev_tmp rfl rfl) hc) (ev_gv (ev_tmp rfl rfl) hc) (eqstruct_23 ..) (eqguard_23 ..))) ?_
  refine s_q rfl rfl (y_and rfl (ev_tmp rfl rfl) (ev_tmp rfl rfl)) ?_
  refine s_q rfl rfl (y_move rfl (ev_tmp rfl rfl)) ?_
  refine s_gval (g_true rfl rfl rfl rfl) rfl (fun hc => (y_move rfl (ev_tmp rfl rfl))) ?_
  refine s_gval (g_true rfl rfl rfl rfl) rfl (fun hc => (y_eql rfl (ev_gv (ev_tmp rfl rfl) hc) ev_const)) ?_
  refine s_q rfl rfl (y_and rfl (ev_tmp rfl rfl) (ev_tmp rfl rfl)) ?_
  refine s_q rfl rfl (y_move rfl (ev_tmp rfl rfl)) ?_
  refine s_gval (g_true rfl rfl rfl rfl) rfl (fun hc => (y_loadN (l := [(Value.int .i64 r2.1.N), (Value.int .i64 r2.1.D)]) rfl (ev_tmp rfl rfl) Tryd.underlying23 rfl size_23 (CellsAt.of_blk (hI.blk (.s (.s (.s .z)))) rfl))) ?_
  refine s_gval (g_true rfl rfl rfl rfl) rfl (fun hc => (y_build (vs := [(0, (Value.int .i64 5)), (1, (Value.int .i64 6))]) (cs := #[(Value.int .i64 5), (Value.int .i64 6)]) rfl ⟨rfl, ev_const, ⟨rfl, ev_const, trivial⟩⟩ (by kernel_rfl))) ?_
  refine s_gval (g_true rfl rfl rfl rfl) rfl (fun hc => (y_bin rfl (ev_gv (ev_tmp rfl rfl) hc) (ev_gv (ev_tmp rfl rfl) hc) (eqstruct_23 ..) (eqguard_23 ..))) ?_
  refine s_q rfl rfl (y_and rfl (ev_tmp rfl rfl) (ev_tmp rfl rfl)) ?_
  refine s_q rfl rfl (y_move rfl (ev_tmp rfl rfl)) ?_
  refine s_gval (g_true rfl rfl rfl rfl) rfl (fun hc => (y_move rfl (ev_tmp rfl rfl))) ?_
  refine s_gval (g_true rfl rfl rfl rfl) rfl (fun hc => (y_eql rfl (ev_gv (ev_tmp rfl rfl) hc) ev_const)) ?_
  refine s_q rfl rfl (y_and rfl (ev_tmp rfl rfl) (ev_tmp rfl rfl)) ?_
  refine s_q rfl rfl (y_move rfl (ev_tmp rfl rfl)) ?_
  refine s_gval (g_true rfl rfl rfl rfl) rfl (fun hc => (y_loadN (l := [(Value.int .i64 r3.1.N), (Value.int .i64 r3.1.D)]) rfl (ev_tmp rfl rfl) Tryd.underlying23 rfl size_23 (CellsAt.of_blk (hI.blk (.s .z)) rfl))) ?_
  refine s_gval (g_true rfl rfl rfl rfl) rfl (fun hc => (y_build (vs := [(0, (Value.int .i64 1)), (1, (Value.int .i64 1))]) (cs := #[(Value.int .i64 1), (Value.int .i64 1)]) rfl ⟨rfl, ev_const, ⟨rfl, ev_const, trivial⟩⟩ (by kernel_rfl))) ?_
  refine s_gval (g_true rfl rfl rfl rfl) rfl (fun hc => (y_bin rfl (ev_gv (ev_tmp rfl rfl) hc) (ev_gv (ev_tmp rfl rfl) hc) (eqstruct_23 ..) (eqguard_23 ..))) ?_
  refine s_q rfl rfl (y_and rfl (ev_tmp rfl rfl) (ev_tmp rfl rfl)) ?_
  refine s_q rfl rfl (y_move rfl (ev_tmp rfl rfl)) ?_
  refine s_gval (g_true rfl rfl rfl rfl) rfl (fun hc => (y_loadN (l := [(Value.int .i64 r1.1.N), (Value.int .i64 r1.1.D)]) rfl (ev_tmp rfl rfl) Tryd.underlying23 rfl size_23 (CellsAt.of_blk (hI.blk (.s (.s (.s (.s .z))))) rfl))) ?_
  obtain ⟨r5, hx9, h⟩ := bnd_some h
  replace hx9 := gd_some hx9
  refine s_gcallU (v := (Value.int .i64 r5)) (g_true rfl rfl rfl rfl) rfl (fun hc => (r_callF (vs := [(Value.agg #[(Value.int .i64 r1.1.N), (Value.int .i64 r1.1.D)])]) rfl ok_20 ⟨(ev_gv (ev_tmp rfl rfl) hc), trivial⟩)) (fun hc => (c_frac_Floor (Dj F c15) w19 hI.lt r1.1 trivial r5 (hx9 hc)).mono fun _ _ k => ⟨k.1, k.2.1⟩) ?_
  intro w20 hx10; replace hI := hI.ext hx10
  refine s_gval (g_true rfl rfl rfl rfl) rfl (fun hc => (y_eql rfl (ev_gv (ev_tmp rfl rfl) hc) ev_const)) ?_
  refine s_q rfl rfl (y_and rfl (ev_tmp rfl rfl) (ev_tmp rfl rfl)) ?_
  refine s_q rfl rfl (y_move rfl (ev_tmp rfl rfl)) ?_
  refine s_gval (g_true rfl rfl rfl rfl) rfl (fun hc => (y_move rfl (ev_tmp rfl rfl))) ?_
  refine s_gval (g_true rfl rfl rfl rfl) rfl (fun hc => (y_eql rfl (ev_gv (ev_tmp rfl rfl) hc) ev_const)) ?_
  refine s_q rfl rfl (y_and rfl (ev_tmp rfl rfl) (ev_tmp rfl rfl)) ?_
  refine s_q rfl rfl (y_assign rfl (ev_tmp rfl rfl)) ?_
  refine s_nil ?_
  refine k_next (e := [(0, (Value.bool ((((((((decide (r1.2 = 0)) && ((decide (r1.1.N = (-3))) && (decide (r1.1.D = 2)))) && (decide (r2.2 = 0))) && ((decide (r2.1.N = 5)) && (decide (r2.1.D = 6)))) && (decide (r3.2 = 0))) && ((decide (r3.1.N = 1)) && (decide (r3.1.D = 1)))) && (decide (r5 = (-2)))) && (decide (r4.2 = 5)))))]) ⟨rfl, trivial⟩ ?_
  refine c_ret ?_
  obtain rfl := some_inj h
  exact q_ret (vs := [(Value.bool ((((((((decide (r1.2 = 0)) && ((decide (r1.1.N = (-3))) && (decide (r1.1.D = 2)))) && (decide (r2.2 = 0))) && ((decide (r2.1.N = 5)) && (decide (r2.1.D = 6)))) && (decide (r3.2 = 0))) && ((decide (r3.1.N = 1)) && (decide (r3.1.D = 1)))) && (decide (r5 = (-2)))) && (decide (r4.2 = 5))))]) Tryd.results16 ⟨ev_tmp rfl rfl, trivial⟩ ⟨rfl, hI.ext0, hI.fin trivial⟩

set_option maxRecDepth 100000 in
set_option maxHeartbeats 4000000 in
theorem c_law01_FracNew (F : NP) (w0 : World) (hF : ∀ k, F k → k < w0.heap.size) (n1 : Int) (d1 : Int) (v1 : GVal) (hc : AllCl [] F w0) (r : Bool)
    (h : m_law01_FracNew n1 d1 v1 = some r) :
    Calls Tryd.prog 3 #[(Value.int .i64 n1), (Value.int .i64 d1), (Value.agg #[(Value.int .i64 v1.N), (Value.int .i64 v1.D)])] w0 fun e w => e = .returned (Value.bool r) ∧ Ext w0 w ∧ AllCl [] F w := by
  refine ofEnter (R := fun v w => v = (Value.bool r) ∧ Ext w0 w ∧ AllCl [] F w) (enter (l := [(Value.int .i64 n1), (Value.int .i64 d1), (Value.agg #[(Value.int .i64 v1.N), (Value.int .i64 v1.D)])]) Tryd.func3 rfl Tryd.ntmps3 rfl ?_) ?_
  rotate_left
  · rintro _ w ⟨rfl, k1, k2⟩; exact ⟨rfl, k1, k2⟩
  have hI := Bun.start hF hc
  clear hc
  rw [m_law01_FracNew] at h
  refine c_seq ?_
  refine c_region rfl ?_
  refine l_box (v := (Value.agg #[(Value.int .i64 v1.N), (Value.int .i64 v1.D)])) (cs := #[(Value.int .i64 v1.N), (Value.int .i64 v1.D)]) hI rfl rfl rfl (ev_tmp rfl rfl) rfl ?_
  clear hI; intro b1 c1 w1 hI
  obtain ⟨c2, hI⟩ := hI.relBox .z
  refine s_q rfl rfl (y_assign rfl ev_const) ?_
  refine s_nil ?_
  refine k_next (e := [(0, (Value.int .i64 n1)), (1, (Value.int .i64 d1)), (5, (Value.pointer (some ⟨b1, 0, none⟩)))]) ⟨rfl, rfl, rfl, trivial⟩ ?_
  refine c_seq ?_
  refine c_region rfl ?_
  refine s_q rfl rfl (y_move rfl (ev_tmp rfl rfl)) ?_
  refine s_q rfl rfl (y_move rfl (ev_tmp rfl rfl)) ?_
  obtain ⟨r1, hx1, h⟩ := bnd_some h
  refine s_call rfl rfl (r_callF (vs := [(Value.int .i64 n1), (Value.int .i64 d1)]) rfl ok_12 ⟨(ev_tmp rfl rfl), ⟨(ev_tmp rfl rfl), trivial⟩⟩) (Calls.mono (c_frac_New (Dj F c2) w1 hI.lt n1 d1 trivial r1 hx1) ?_)
  rintro _ w2 ⟨rfl, hx2, hl1⟩
  refine ⟨_, rfl, ?_⟩
  replace hI := (hI.ext hx2)
  refine s_q rfl rfl (y_move rfl (ev_tmp rfl rfl)) ?_
  refine s_q rfl rfl (y_extract rfl (ev_tmp rfl rfl) rfl) ?_
  refine s_q rfl rfl (y_extract rfl (ev_tmp rfl rfl) rfl) ?_
  refine l_alloc (cs := #[(Value.int .i64 0), (Value.int .i64 0)]) hI rfl rfl rfl zero_23 rfl ?_
  clear hI; intro b2 c3 w3 hI
  refine l_store (new := [(Value.int .i64 r1.1.N), (Value.int .i64 r1.1.D)]) (cs' := #[(Value.int .i64 r1.1.N), (Value.int .i64 r1.1.D)]) hI .z rfl rfl rfl (ev_tmp rfl rfl) (ev_tmp rfl rfl) rfl size_23 rfl rfl rfl ?_
  clear hI; intro c4 w4 hI
  refine s_q rfl rfl (y_assign rfl (ev_tmp rfl rfl)) ?_
  refine s_nil ?_
  refine k_next (e := [(0, (Value.int .i64 n1)), (1, (Value.int .i64 d1)), (5, (Value.pointer (some ⟨b1, 0, none⟩))), (7, (Value.pointer (some ⟨b2, 0, none⟩))), (8, (Value.int .i64 r1.2))]) ⟨rfl, rfl, rfl, rfl, rfl, trivial⟩ ?_
  refine c_seq ?_
  refine c_region rfl ?_
  refine s_q rfl rfl (y_move rfl (ev_tmp rfl rfl)) ?_
  refine s_q rfl rfl (y_move rfl (ev_tmp rfl rfl)) ?_
  obtain ⟨r2, hx3, h⟩ := bnd_some h
  refine s_call rfl rfl (r_callF (vs := [(Value.int .i64 n1), (Value.int .i64 d1)]) rfl ok_13 ⟨(ev_tmp rfl rfl), ⟨(ev_tmp rfl rfl), trivial⟩⟩) (Calls.mono (c_ref01_New (Dj F c4) w4 hI.lt n1 d1 trivial r2 hx3) ?_)
  rintro _ w5 ⟨rfl, hx4, hl2⟩
  refine ⟨_, rfl, ?_⟩
  replace hI := (hI.ext hx4)
  refine s_q rfl rfl (y_move rfl (ev_tmp rfl rfl)) ?_
  refine s_q rfl rfl (y_extract rfl (ev_tmp rfl rfl) rfl) ?_
  refine s_q rfl rfl (y_extract rfl (ev_tmp rfl rfl) rfl) ?_
  refine l_alloc (cs := #[(Value.int .i64 0), (Value.int .i64 0)]) hI rfl rfl rfl zero_23 rfl ?_
  clear hI; intro b3 c5 w6 hI
  refine l_store (new := [(Value.int .i64 r2.1.N), (Value.int .i64 r2.1.D)]) (cs' := #[(Value.int .i64 r2.1.N), (Value.int .i64 r2.1.D)]) hI .z rfl rfl rfl (ev_tmp rfl rfl) (ev_tmp rfl rfl) rfl size_23 rfl rfl rfl ?_
  clear hI; intro c6 w7 hI
  refine s_q rfl rfl (y_assign rfl (ev_tmp rfl rfl)) ?_
  refine s_nil ?_
  refine k_next (e := [(5, (Value.pointer (some ⟨b1, 0, none⟩))), (7, (Value.pointer (some ⟨b2, 0, none⟩))), (8, (Value.int .i64 r1.2)), (9, (Value.pointer (some ⟨b3, 0, none⟩))), (10, (Value.int .i64 r2.2))]) ⟨rfl, rfl, rfl, rfl, rfl, trivial⟩ ?_
  refine c_seq ?_
  refine c_drawX [] false (.c (0, .q) (.c (1, .q) (.c (2, .q) (.c (3, .q) (.c (4, .q) (.c (5, .q) (.c (6, .q) (.c (7, .q) (.c (8, .q) (.c (9, .q) (.c (11, .q) (.c (10, .s) (.c (12, .s) (.c (13, .q) (.c (14, .q) (.c (15, .q) (.c (16, .q) (.c (17, .q) (.c (18, .q) (.c (19, .q) (.c (20, .s) (.c (21, .q) (.c (22, .q) (.c (23, .q) (.c (24, .s) (.c (25, .q) (.c (26, .q) .n))))))))))))))))))))))))))) hI (by kernel_rfl) (by kernel_rfl) ?_
  clear hI; intro w8 hI
  refine a_read rfl rfl rfl (fun w' hw' => (y_loadN (l := [(Value.int .i64 r1.1.N), (Value.int .i64 r1.1.D)]) rfl (ev_tmp rfl rfl) Tryd.underlying23 rfl size_23 ((CA.blk (hI.blk (.s .z)) rfl).at_ (SX.any rfl hw')))) (by kernel_rfl) ?_
  refine a_read rfl rfl rfl (fun w' hw' => (y_loadN (l := [(Value.int .i64 r2.1.N), (Value.int .i64 r2.1.D)]) rfl (ev_tmp rfl rfl) Tryd.underlying23 rfl size_23 ((CA.blk (hI.blk .z) rfl).at_ (SX.any rfl hw')))) (by kernel_rfl) ?_
  refine a_q rfl rfl rfl (fun w' => (y_bin rfl (ev_tmp rfl rfl) (ev_tmp rfl rfl) (eqstruct_23 ..) (eqguard_23 ..))) ?_
  refine a_q rfl rfl rfl (fun w' => (y_move rfl (ev_tmp rfl rfl))) ?_
  refine a_gval rfl (g_true rfl rfl rfl rfl) rfl (fun hc => fun w' => (y_move rfl (ev_tmp rfl rfl))) ?_
  refine a_gval rfl (g_true rfl rfl rfl rfl) rfl (fun hc => fun w' => (y_move rfl (ev_tmp rfl rfl))) ?_
  refine a_gval rfl (g_true rfl rfl rfl rfl) rfl (fun hc => fun w' => (y_eql rfl (ev_gv (ev_tmp rfl rfl) hc) (ev_gv (ev_tmp rfl rfl) hc))) ?_
  refine a_q rfl rfl rfl (fun w' => (y_and rfl (ev_tmp rfl rfl) (ev_tmp rfl rfl))) ?_
  refine a_q rfl rfl rfl (fun w' => (y_move rfl (ev_tmp rfl rfl))) ?_
  refine a_gread rfl (g_true rfl rfl rfl rfl) rfl (fun hc => fun w' hw' => (y_loadN (l := [(Value.int .i64 v1.N), (Value.int .i64 v1.D)]) rfl (ev_tmp rfl rfl) Tryd.underlying23 rfl size_23 ((hI.kblk (l := [(Value.int .i64 v1.N), (Value.int .i64 v1.D)]) .z rfl).at_ (SX.any rfl hw')))) (by kernel_rfl) ?_
  refine a_gread rfl (g_true rfl rfl rfl rfl) rfl (fun hc => fun w' hw' => (y_loadN (l := [(Value.int .i64 v1.N), (Value.int .i64 v1.D)]) rfl (ev_tmp rfl rfl) Tryd.underlying23 rfl size_23 ((hI.kblk (l := [(Value.int .i64 v1.N), (Value.int .i64 v1.D)]) .z rfl).at_ (SX.any rfl hw')))) (by kernel_rfl) ?_
  obtain ⟨r3, hx5, h⟩ := bnd_some h
  replace hx5 := gd_some hx5
  refine la_gcallU (v := (Value.bool r3)) rfl (g_true rfl rfl rfl rfl) rfl (fun hc => (r_callF (vs := [(Value.agg #[(Value.int .i64 v1.N), (Value.int .i64 v1.D)])]) rfl ok_14 ⟨(ev_gv (ev_tmp rfl rfl) hc), trivial⟩)) (fun hc => (c_frac_Valid (Dj F c6) w8 hI.lt v1 trivial r3 (hx5 hc)).mono fun _ _ k => ⟨k.1, k.2.1⟩) ?_
  intro w9 hx6; replace hI := hI.ext hx6
  obtain ⟨r4, hx7, h⟩ := bnd_some h
  replace hx7 := gd_some hx7
  refine la_gcallU (v := (Value.bool r4)) rfl (g_true rfl rfl rfl rfl) rfl (fun hc => (r_callF (vs := [(Value.agg #[(Value.int .i64 v1.N), (Value.int .i64 v1.D)])]) rfl ok_15 ⟨(ev_gv (ev_tmp rfl rfl) hc), trivial⟩)) (fun hc => (c_ref01_Valid (Dj F c6) w9 hI.lt v1 trivial r4 (hx7 hc)).mono fun _ _ k => ⟨k.1, k.2.1⟩) ?_
  intro w10 hx8; replace hI := hI.ext hx8
  refine a_gval rfl (g_true rfl rfl rfl rfl) rfl (fun hc => fun w' => (y_eqb rfl Tryd.underlying4 (ev_gv (ev_tmp rfl rfl) hc) (ev_gv (ev_tmp rfl rfl) hc))) ?_
  refine a_q rfl rfl rfl (fun w' => (y_and rfl (ev_tmp rfl rfl) (ev_tmp rfl rfl))) ?_
  refine a_q rfl rfl rfl (fun w' => (y_move rfl (ev_tmp rfl rfl))) ?_
  refine a_gval rfl (g_true rfl rfl rfl rfl) rfl (fun hc => fun w' => (y_move rfl (ev_tmp rfl rfl))) ?_
  refine a_gval rfl (g_true rfl rfl rfl rfl) rfl (fun hc => fun w' => (y_neq rfl (ev_gv (ev_tmp rfl rfl) hc) ev_const)) ?_
  refine a_gval rfl (g_true rfl rfl rfl rfl) rfl (fun hc => fun w' => (y_move rfl (ev_gv (ev_tmp rfl rfl) hc))) ?_
  refine a_gread rfl (g_false2 rfl rfl rfl rfl) rfl (fun hc => fun w' hw' => (y_loadN (l := [(Value.int .i64 r1.1.N), (Value.int .i64 r1.1.D)]) rfl (ev_tmp rfl rfl) Tryd.underlying23 rfl size_23 ((CA.blk (hI.blk (.s .z)) rfl).at_ (SX.any rfl hw')))) (by kernel_rfl) ?_
  obtain ⟨r5, hx9, h⟩ := bnd_some h
  replace hx9 := gd_some hx9
  refine la_gcallU (v := (Value.bool r5)) rfl (g_false2 rfl rfl rfl rfl) rfl (fun hc => (r_callF (vs := [(Value.agg #[(Value.int .i64 r1.1.N), (Value.int .i64 r1.1.D)])]) rfl ok_14 ⟨(ev_gv (ev_tmp rfl rfl) hc), trivial⟩)) (fun hc => (c_frac_Valid (Dj F c6) w10 hI.lt r1.1 trivial r5 (hx9 hc)).mono fun _ _ k => ⟨k.1, k.2.1⟩) ?_
  intro w11 hx10; replace hI := hI.ext hx10
  refine a_gval rfl (g_true rfl rfl rfl rfl) rfl (fun hc => fun w' => (y_or2 rfl hc (ev_tmp rfl rfl) (ev_tmp rfl rfl))) ?_
  refine a_q rfl rfl rfl (fun w' => (y_and rfl (ev_tmp rfl rfl) (ev_tmp rfl rfl))) ?_
  refine a_q rfl rfl rfl (fun w' => (y_move rfl (ev_tmp rfl rfl))) ?_
  obtain ⟨r6, hx11, h⟩ := bnd_some h
  replace hx11 := gd_some hx11
  refine la_gcallU (v := (Value.bool r6)) rfl (g_true rfl rfl rfl rfl) rfl (fun hc => (r_callF (vs := []) rfl ok_16 trivial)) (fun hc => (c_law01_examples (Dj F c6) w11 hI.lt trivial r6 (hx11 hc)).mono fun _ _ k => ⟨k.1, k.2.1⟩) ?_
  intro w12 hx12; replace hI := hI.ext hx12
  refine a_q rfl rfl rfl (fun w' => (y_and rfl (ev_tmp rfl rfl) (ev_tmp rfl rfl))) ?_
  refine a_q rfl rfl rfl (fun w' => (y_assign rfl (ev_tmp rfl rfl))) ?_
  refine a_nil ?_
  refine k_next (e := [(6, (Value.bool ((((((decide (r1.1.N = r2.1.N)) && (decide (r1.1.D = r2.1.D))) && (decide (r1.2 = r2.2))) && (r3 == r4)) && ((!decide (r1.2 = 0)) || r5)) && r6)))]) ⟨rfl, trivial⟩ ?_
  refine c_ret ?_
  obtain rfl := some_inj h
  exact q_ret (vs := [(Value.bool ((((((decide (r1.1.N = r2.1.N)) && (decide (r1.1.D = r2.1.D))) && (decide (r1.2 = r2.2))) && (r3 == r4)) && ((!decide (r1.2 = 0)) || r5)) && r6))]) Tryd.results3 ⟨ev_tmp rfl rfl, trivial⟩ ⟨rfl, hI.ext0, hI.fin trivial⟩

set_option maxRecDepth 100000 in
set_option maxHeartbeats 4000000 in
theorem c_ref01_trim (F : NP) (w0 : World) (hF : ∀ k, F k → k < w0.heap.size) (a1 : List Int) (a2 : Option Addr) (c1 : Nat) (hc : AllCl [Cl.sl (cInt .u64) a2 c1 a1] F w0) (r : List Int)
    (h : m_ref01_trim a1 = some r) :
    Calls Tryd.prog 72 #[(Value.slice a2 a1.length c1)] w0 fun e w => ∃ (a3 : Option Addr) (c2 : Nat), e = .returned (Value.slice a3 r.length c2) ∧ Ext w0 w ∧ AllCl [Cl.sl (cInt .u64) a3 c2 r] F w := by
  refine ofEnter (R := fun v w => ∃ (a3 : Option Addr) (c2 : Nat), v = (Value.slice a3 r.length c2) ∧ Ext w0 w ∧ AllCl [Cl.sl (cInt .u64) a3 c2 r] F w) (enter (l := [(Value.slice a2 a1.length c1)]) Tryd.func72 rfl Tryd.ntmps72 rfl ?_) ?_
  rotate_left
  · rintro _ w ⟨a3, c2, rfl, k1, k2⟩; exact ⟨a3, c2, rfl, k1, k2⟩
  have hI := Bun.start hF hc
  clear hc
  rw [m_ref01_trim] at h
  refine c_seq ?_
  refine c_region rfl ?_
  refine s_q rfl rfl (y_assign rfl ev_const) ?_
  refine s_nil ?_
  refine k_next (e := [(0, (Value.slice a2 a1.length c1))]) ⟨rfl, trivial⟩ ?_
  refine c_seq ?_
  refine c_block ?_
  refine c_loop (α := Nat × (List Int) × (Option Addr) × Nat) (fun x => fun w => ∃ C, Bun noM F w0 C w [] [Cl.sl (cInt .u64) (x.2.2.1) (x.2.2.2) (x.2.1)] ∧ m_ref01_trim_l1 (x.1) (x.2.1) = some r) (fun x _ => x.1) (fun x => [(0, (Value.slice (x.2.2.1) (x.2.1).length (x.2.2.2)))]) (fu, a1, a2, c1) ⟨_, hI.arr .n ⟨.z, trivial⟩, h⟩ ⟨rfl, trivial⟩ ?_
  clear h hI; rintro ⟨fuel1, a4, a5, c3⟩ w1 ⟨c4, hI, h⟩
  dsimp only at hI h
  rcases fuel1 with _ | fuel1
  · rw [m_ref01_trim_l1] at h; cases h
  rw [m_ref01_trim_l1] at h
  refine c_sub (e := [(0, (Value.slice a5 a4.length c3))]) ⟨rfl, trivial⟩ ?_
  refine c_seq ?_
  refine c_seq ?_
  refine c_region rfl ?_
  refine s_q rfl rfl (y_move rfl (ev_tmp rfl rfl)) ?_
  refine s_q rfl rfl (y_lenl rfl Tryd.underlying62 (ev_tmp rfl rfl)) ?_
  refine s_q rfl rfl (y_gtr rfl (ev_tmp rfl rfl) ev_const) ?_
  refine s_q rfl rfl (y_move rfl (ev_tmp rfl rfl)) ?_
  refine s_gval (g_true rfl rfl rfl rfl) rfl (fun hc => (y_move rfl (ev_tmp rfl rfl))) ?_
  refine s_gval (g_true rfl rfl rfl rfl) rfl (fun hc => (y_move rfl (ev_tmp rfl rfl))) ?_
  refine s_gval (g_true rfl rfl rfl rfl) rfl (fun hc => (y_lenl rfl Tryd.underlying62 (ev_gv (ev_tmp rfl rfl) hc))) ?_
  refine s_gval (g_true rfl rfl rfl rfl) rfl (fun hc => (y_sub rfl (ev_gv (ev_tmp rfl rfl) hc) ev_const)) ?_
  obtain ⟨e1, hx1, h⟩ := bnd_some h
  replace hx1 := gd_some hx1
  obtain ⟨ad1, cs1, hq1⟩ := hI.gclat .z hx1
  have hq2 : (decide (0 < (a4.length : Int))) = true → CA (Dj F c4) w1 (ad1.add (Int.toNat (wi64 ((a4.length : Int) - 1)) * 1)) [(Value.int .u64 e1)] := fun hc => by have k := hq1 hc; have e : cs1 = _ := k.2.1; rw [← e]; exact k.2.2
  refine s_gval (g_true rfl rfl rfl rfl) rfl (fun hc => (y_indexAddr rfl Tryd.underlying62 size_44 (ev_gv (ev_tmp rfl rfl) hc) (ev_gv (ev_tmp rfl rfl) hc) (lat_bd (hx1 hc)) (hq1 hc).1)) ?_
  refine s_gval (g_true rfl rfl rfl rfl) rfl (fun hc => (y_load1 (v := (Value.int .u64 e1)) rfl (ev_gv (ev_tmp rfl rfl) hc) Tryd.underlying44 rfl (hq2 hc).1)) ?_
  refine s_gval (g_true rfl rfl rfl rfl) rfl (fun hc => (y_eql rfl (ev_gv (ev_tmp rfl rfl) hc) ev_const)) ?_
  refine s_q rfl rfl (y_and rfl (ev_tmp rfl rfl) (ev_tmp rfl rfl)) ?_
  refine s_nil ?_
  refine k_next (e := [(0, (Value.slice a5 a4.length c3)), (14, (Value.bool ((decide (0 < (a4.length : Int))) && (decide (e1 = 0)))))]) ⟨rfl, rfl, trivial⟩ ?_
  refine c_cond (b := (decide (0 < (a4.length : Int))) && (decide (e1 = 0))) (ev_tmp rfl rfl) (fun hb => ?_) (fun hb => ?_)
  · replace h := ite_t hb h
    refine c_skip ?_
    refine k_next (e := [(0, (Value.slice a5 a4.length c3))]) ⟨rfl, trivial⟩ ?_
    refine c_block ?_
    refine c_region rfl ?_
    refine s_q rfl rfl (y_move rfl (ev_tmp rfl rfl)) ?_
    refine s_q rfl rfl (y_move rfl (ev_tmp rfl rfl)) ?_
    refine s_q rfl rfl (y_lenl rfl Tryd.underlying62 (ev_tmp rfl rfl)) ?_
    refine s_q rfl rfl (y_sub rfl (ev_tmp rfl rfl) ev_const) ?_
    obtain ⟨zs1, hx2, h⟩ := bnd_some h
    refine s_q rfl rfl (y_lupto rfl Tryd.underlying62 size_44 (ev_tmp rfl rfl) (ev_tmp rfl rfl) hx2 (hI.cap_ .z)) ?_
    replace hI := hI.upto .z hx2
    refine s_q rfl rfl (y_assign rfl (ev_tmp rfl rfl)) ?_
    refine s_nil ?_
    exact k_loop (fuel1, zs1, a5, c3) ⟨rfl, trivial⟩ ⟨_, hI.arr .n ⟨.z, trivial⟩, h⟩ (Nat.lt_succ_self _)
  · replace h := ite_f hb h
    refine c_exit ?_
    refine k_in ?_
    refine k_next (e := [(0, (Value.slice a5 a4.length c3))]) ⟨rfl, trivial⟩ ?_
    refine c_seq ?_
    refine c_region rfl ?_
    refine s_q rfl rfl (y_move rfl (ev_tmp rfl rfl)) ?_
    refine s_q rfl rfl (y_assign rfl (ev_tmp rfl rfl)) ?_
    refine s_nil ?_
    refine k_next (e := [(2, (Value.slice a5 a4.length c3))]) ⟨rfl, trivial⟩ ?_
    refine c_ret ?_
    obtain rfl := some_inj h
    exact q_ret (vs := [(Value.slice a5 a4.length c3)]) Tryd.results72 ⟨ev_tmp rfl rfl, trivial⟩ ⟨a5, c3, rfl, hI.ext0, hI.fin ⟨.z, trivial⟩⟩

set_option maxRecDepth 100000 in
set_option maxHeartbeats 4000000 in
theorem c_ref01_times (F : NP) (w0 : World) (hF : ∀ k, F k → k < w0.heap.size) (a1 : List Int) (by1 : Int) (a2 : Option Addr) (c1 : Nat) (hc : AllCl [Cl.sl (cInt .u64) a2 c1 a1] F w0) (r : List Int)
    (h : m_ref01_times a1 by1 = some r) :
    Calls Tryd.prog 52 #[(Value.slice a2 a1.length c1), (Value.int .u64 by1)] w0 fun e w => ∃ (a3 : Option Addr) (c2 : Nat), e = .returned (Value.slice a3 r.length c2) ∧ Ext w0 w ∧ AllCl [Cl.sl (cInt .u64) a3 c2 r] F w := by
  refine ofEnter (R := fun v w => ∃ (a3 : Option Addr) (c2 : Nat), v = (Value.slice a3 r.length c2) ∧ Ext w0 w ∧ AllCl [Cl.sl (cInt .u64) a3 c2 r] F w) (enter (l := [(Value.slice a2 a1.length c1), (Value.int .u64 by1)]) Tryd.func52 rfl Tryd.ntmps52 rfl ?_) ?_
  rotate_left
  · rintro _ w ⟨a3, c2, rfl, k1, k2⟩; exact ⟨a3, c2, rfl, k1, k2⟩
  have hI := Bun.start hF hc
  clear hc
  rw [m_ref01_times] at h
  refine c_seq ?_
  refine c_region rfl ?_
  refine s_q rfl rfl (y_assign rfl ev_const) ?_
  refine s_nil ?_
  refine k_next (e := [(0, (Value.slice a2 a1.length c1)), (1, (Value.int .u64 by1))]) ⟨rfl, rfl, trivial⟩ ?_
  refine c_seq ?_
  refine c_region rfl ?_
  refine s_q rfl rfl (y_assign rfl ev_const) ?_
  refine s_nil ?_
  refine k_next (e := [(0, (Value.slice a2 a1.length c1)), (1, (Value.int .u64 by1)), (5, (Value.slice none 0 0))]) ⟨rfl, rfl, rfl, trivial⟩ ?_
  refine c_seq ?_
  refine c_region rfl ?_
  refine s_q rfl rfl (y_assign rfl ev_const) ?_
  refine s_nil ?_
  refine k_next (e := [(0, (Value.slice a2 a1.length c1)), (1, (Value.int .u64 by1)), (5, (Value.slice none 0 0)), (6, (Value.int .u64 0))]) ⟨rfl, rfl, rfl, rfl, trivial⟩ ?_
  refine c_seq ?_
  refine c_seq ?_
  refine c_region rfl ?_
  refine s_q rfl rfl (y_assign rfl ev_const) ?_
  refine s_nil ?_
  refine k_next (e := [(0, (Value.slice a2 a1.length c1)), (1, (Value.int .u64 by1)), (5, (Value.slice none 0 0)), (6, (Value.int .u64 0)), (7, (Value.int .i64 0))]) ⟨rfl, rfl, rfl, rfl, rfl, trivial⟩ ?_
  refine c_block ?_
  have hI := hI.nil (cInt .u64) 44 none
  refine c_loop (α := Nat × (List Int) × Int × Int × (Option Addr) × Nat) (fun x => fun w => ∃ C, Bun noM F w0 C w [MO.row (cInt .u64) 44 (x.2.2.2.2.1) (x.2.2.2.2.2) (x.2.1)] [Cl.sl (cInt .u64) a2 c1 a1] ∧ m_ref01_times_l1 a1 by1 (x.1) (x.2.1) (x.2.2.1) (x.2.2.2.1) = some r) (fun x _ => x.1) (fun x => [(0, (Value.slice a2 a1.length c1)), (1, (Value.int .u64 by1)), (5, (Value.slice (x.2.2.2.2.1) (x.2.1).length (x.2.2.2.2.2))), (6, (Value.int .u64 (x.2.2.1))), (7, (Value.int .i64 (x.2.2.2.1)))]) (fu, ([] : List Int), 0, 0, none, 0) ⟨_, hI.arr (.c .z .n) ⟨.z, trivial⟩, h⟩ ⟨rfl, rfl, rfl, rfl, rfl, trivial⟩ ?_
  clear h hI; rintro ⟨fuel1, out1, carry1, i1, a4, c3⟩ w1 ⟨c4, hI, h⟩
  dsimp only at hI h
  rcases fuel1 with _ | fuel1
  · rw [m_ref01_times_l1] at h; cases h
  rw [m_ref01_times_l1] at h
  refine c_sub (e := [(0, (Value.slice a2 a1.length c1)), (1, (Value.int .u64 by1)), (5, (Value.slice a4 out1.length c3)), (6, (Value.int .u64 carry1)), (7, (Value.int .i64 i1))]) ⟨rfl, rfl, rfl, rfl, rfl, trivial⟩ ?_
  refine c_seq ?_
  refine c_seq ?_
  refine c_region rfl ?_
  refine s_q rfl rfl (y_move rfl (ev_tmp rfl rfl)) ?_
  refine s_q rfl rfl (y_move rfl (ev_tmp rfl rfl)) ?_
  refine s_q rfl rfl (y_lenl rfl Tryd.underlying62 (ev_tmp rfl rfl)) ?_
  refine s_q rfl rfl (y_lss rfl (ev_tmp rfl rfl) (ev_tmp rfl rfl)) ?_
  refine s_nil ?_
  refine k_next (e := [(0, (Value.slice a2 a1.length c1)), (1, (Value.int .u64 by1)), (5, (Value.slice a4 out1.length c3)), (6, (Value.int .u64 carry1)), (7, (Value.int .i64 i1)), (12, (Value.bool (decide (i1 < (a1.length : Int)))))]) ⟨rfl, rfl, rfl, rfl, rfl, rfl, trivial⟩ ?_
  refine c_cond (b := decide (i1 < (a1.length : Int))) (ev_tmp rfl rfl) (fun hb => ?_) (fun hb => ?_)
  · replace h := ite_t hb h
    refine c_skip ?_
    refine k_next (e := [(0, (Value.slice a2 a1.length c1)), (1, (Value.int .u64 by1)), (5, (Value.slice a4 out1.length c3)), (6, (Value.int .u64 carry1)), (7, (Value.int .i64 i1))]) ⟨rfl, rfl, rfl, rfl, rfl, trivial⟩ ?_
    refine c_seq ?_
    refine c_block ?_
    refine c_seq ?_
    refine c_region rfl ?_
    refine s_q rfl rfl (y_move rfl (ev_tmp rfl rfl)) ?_
    refine s_q rfl rfl (y_move rfl (ev_tmp rfl rfl)) ?_
    obtain ⟨e1, hx1, h⟩ := bnd_some h
    obtain ⟨ad1, cs1, hA1, hr1, hq1⟩ := hI.clat .z hx1
    obtain rfl : cs1 = [(Value.int .u64 e1)] := hr1
    refine s_q rfl rfl (y_indexAddr rfl Tryd.underlying62 size_44 (ev_tmp rfl rfl) (ev_tmp rfl rfl) (lat_bd hx1) hA1) ?_
    refine s_q rfl rfl (y_load1 (v := (Value.int .u64 e1)) rfl (ev_tmp rfl rfl) Tryd.underlying44 rfl hq1.1) ?_
    refine s_q rfl rfl (y_move rfl (ev_tmp rfl rfl)) ?_
    refine s_q rfl rfl (y_mul rfl (ev_tmp rfl rfl) (ev_tmp rfl rfl)) ?_
    refine s_q rfl rfl (y_move rfl (ev_tmp rfl rfl)) ?_
    refine s_q rfl rfl (y_add rfl (ev_tmp rfl rfl) (ev_tmp rfl rfl)) ?_
    obtain ⟨n1, hx2, h⟩ := bnd_some h
    refine s_q rfl rfl (binU (y_assign rfl (ev_tmp rfl rfl)) (congrArg (Value.int .u64) (some_inj hx2))) ?_
    refine s_nil ?_
    refine k_next (e := [(0, (Value.slice a2 a1.length c1)), (1, (Value.int .u64 by1)), (5, (Value.slice a4 out1.length c3)), (7, (Value.int .i64 i1)), (8, (Value.int .u64 n1))]) ⟨rfl, rfl, rfl, rfl, rfl, trivial⟩ ?_
    refine c_seq ?_
    refine c_region rfl ?_
    refine s_q rfl rfl (y_move rfl (ev_tmp rfl rfl)) ?_
    refine s_q rfl rfl (y_move rfl (ev_tmp rfl rfl)) ?_
    refine s_q rfl rfl (y_rem rfl (ev_tmp rfl rfl) ev_const (by decide)) ?_
    refine l_lit (c := (cInt .u64)) (xs := ([Int.tmod n1 4294967296] : List Int)) (vs := [(0, (Value.int .u64 (Int.tmod n1 4294967296)))]) (cs := #[(Value.int .u64 (Int.tmod n1 4294967296))]) (css := [[(Value.int .u64 (Int.tmod n1 4294967296))]]) hI rfl rfl rfl Tryd.underlying62 info_44 rfl ⟨rfl, (ev_tmp rfl rfl), trivial⟩ (by kernel_rfl) ⟨rfl, trivial⟩ rfl rfl rfl ?_
    clear hI; intro b1 c5 w2 hI
    obtain ⟨zs1, hx3, h⟩ := bnd_some h
    refine l_append (xs := out1) (ys := ([Int.tmod n1 4294967296] : List Int)) hI (.s .z) (hI.rd .z) hx3 rfl rfl rfl Tryd.underlying62 info_44 rfl rfl (ev_tmp rfl rfl) (ev_tmp rfl rfl) ?_
    clear hI; intro a5 c6 c7 w3 hI
    refine s_q rfl rfl (y_assign rfl (ev_tmp rfl rfl)) ?_
    refine s_nil ?_
    refine k_next (e := [(0, (Value.slice a2 a1.length c1)), (1, (Value.int .u64 by1)), (5, (Value.slice a5 zs1.length c6)), (7, (Value.int .i64 i1)), (8, (Value.int .u64 n1))]) ⟨rfl, rfl, rfl, rfl, rfl, trivial⟩ ?_
    refine c_region rfl ?_
    refine s_q rfl rfl (y_move rfl (ev_tmp rfl rfl)) ?_
    refine s_q rfl rfl (y_quo rfl (ev_tmp rfl rfl) ev_const (by decide)) ?_
    obtain ⟨carry2, hx4, h⟩ := bnd_some h
    refine s_q rfl rfl (binU (y_assign rfl (ev_tmp rfl rfl)) (congrArg (Value.int .u64) (some_inj hx4))) ?_
    refine s_nil ?_
    refine k_next (e := [(0, (Value.slice a2 a1.length c1)), (1, (Value.int .u64 by1)), (5, (Value.slice a5 zs1.length c6)), (7, (Value.int .i64 i1)), (6, (Value.int .u64 carry2))]) ⟨rfl, rfl, rfl, rfl, rfl, trivial⟩ ?_
    refine c_region rfl ?_
    refine s_q rfl rfl (y_move rfl (ev_tmp rfl rfl)) ?_
    refine s_q rfl rfl (y_add rfl (ev_tmp rfl rfl) ev_const) ?_
    refine s_q rfl rfl (y_assign rfl (ev_tmp rfl rfl)) ?_
    refine s_nil ?_
    exact k_loop (fuel1, zs1, carry2, wi64 (i1 + 1), a5, c6) ⟨rfl, rfl, rfl, rfl, rfl, trivial⟩ ⟨_, hI.arr (.c (.s .z) .n) ⟨.z, trivial⟩, h⟩ (Nat.lt_succ_self _)
  · replace h := ite_f hb h
    refine c_exit ?_
    refine k_in ?_
    refine k_next (e := [(5, (Value.slice a4 out1.length c3)), (6, (Value.int .u64 carry1))]) ⟨rfl, rfl, trivial⟩ ?_
    refine c_seq ?_
    refine c_region rfl ?_
    refine s_q rfl rfl (y_move rfl (ev_tmp rfl rfl)) ?_
    refine s_q rfl rfl (y_move rfl (ev_tmp rfl rfl)) ?_
    refine l_lit (c := (cInt .u64)) (xs := ([carry1] : List Int)) (vs := [(0, (Value.int .u64 carry1))]) (cs := #[(Value.int .u64 carry1)]) (css := [[(Value.int .u64 carry1)]]) hI rfl rfl rfl Tryd.underlying62 info_44 rfl ⟨rfl, (ev_tmp rfl rfl), trivial⟩ (by kernel_rfl) ⟨rfl, trivial⟩ rfl rfl rfl ?_
    clear hI; intro b2 c8 w4 hI
    obtain ⟨zs2, hx5, h⟩ := bnd_some h
    refine l_append (xs := out1) (ys := ([carry1] : List Int)) hI (.s .z) (hI.rd .z) hx5 rfl rfl rfl Tryd.underlying62 info_44 rfl rfl (ev_tmp rfl rfl) (ev_tmp rfl rfl) ?_
    clear hI; intro a6 c9 c10 w5 hI
    obtain ⟨c11, hI⟩ := hI.release (.s .z)
    obtain ⟨r1, hx6, h⟩ := bnd_some h
    refine s_call rfl rfl (r_callF (vs := [(Value.slice a6 zs2.length c9)]) rfl ok_72 ⟨(ev_tmp rfl rfl), trivial⟩) (Calls.mono (c_ref01_trim (Dj F c11) w5 hI.lt zs2 a6 c9 ⟨(hI.get .z), trivial⟩ r1 hx6) ?_)
    rintro _ w6 ⟨a7, c12, rfl, hx7, hl1⟩
    refine ⟨_, rfl, ?_⟩
    replace hI := (hI.ext hx7).adds hl1
    refine s_q rfl rfl (y_assign rfl (ev_tmp rfl rfl)) ?_
    refine s_nil ?_
    refine k_next (e := [(4, (Value.slice a7 r1.length c12))]) ⟨rfl, trivial⟩ ?_
    refine c_ret ?_
    obtain rfl := some_inj h
    exact q_ret (vs := [(Value.slice a7 r1.length c12)]) Tryd.results52 ⟨ev_tmp rfl rfl, trivial⟩ ⟨a7, c12, rfl, hI.ext0, hI.fin ⟨.z, trivial⟩⟩

set_option maxRecDepth 100000 in
set_option maxHeartbeats 4000000 in
theorem c_ref01_plus (F : NP) (w0 : World) (hF : ∀ k, F k → k < w0.heap.size) (a1 : List Int) (b1 : List Int) (a2 : Option Addr) (c1 : Nat) (a3 : Option Addr) (c2 : Nat) (hc : AllCl [Cl.sl (cInt .u64) a2 c1 a1, Cl.sl (cInt .u64) a3 c2 b1] F w0) (r : List Int)
    (h : m_ref01_plus a1 b1 = some r) :
    Calls Tryd.prog 53 #[(Value.slice a2 a1.length c1), (Value.slice a3 b1.length c2)] w0 fun e w => ∃ (a4 : Option Addr) (c3 : Nat), e = .returned (Value.slice a4 r.length c3) ∧ Ext w0 w ∧ AllCl [Cl.sl (cInt .u64) a4 c3 r] F w := by
  refine ofEnter (R := fun v w => ∃ (a4 : Option Addr) (c3 : Nat), v = (Value.slice a4 r.length c3) ∧ Ext w0 w ∧ AllCl [Cl.sl (cInt .u64) a4 c3 r] F w) (enter (l := [(Value.slice a2 a1.length c1), (Value.slice a3 b1.length c2)]) Tryd.func53 rfl Tryd.ntmps53 rfl ?_) ?_
  rotate_left
  · rintro _ w ⟨a4, c3, rfl, k1, k2⟩; exact ⟨a4, c3, rfl, k1, k2⟩
  have hI := Bun.start hF hc
  clear hc
  rw [m_ref01_plus] at h
  refine c_seq ?_
  refine c_region rfl ?_
  refine s_q rfl rfl (y_assign rfl ev_const) ?_
  refine s_nil ?_
  refine k_next (e := [(0, (Value.slice a2 a1.length c1)), (1, (Value.slice a3 b1.length c2))]) ⟨rfl, rfl, trivial⟩ ?_
  refine c_seq ?_
  refine c_region rfl ?_
  refine s_q rfl rfl (y_assign rfl ev_const) ?_
  refine s_nil ?_
  refine k_next (e := [(0, (Value.slice a2 a1.length c1)), (1, (Value.slice a3 b1.length c2)), (5, (Value.slice none 0 0))]) ⟨rfl, rfl, rfl, trivial⟩ ?_
  refine c_seq ?_
  refine c_region rfl ?_
  refine s_q rfl rfl (y_assign rfl ev_const) ?_
  refine s_nil ?_
  refine k_next (e := [(0, (Value.slice a2 a1.length c1)), (1, (Value.slice a3 b1.length c2)), (5, (Value.slice none 0 0)), (6, (Value.int .u64 0))]) ⟨rfl, rfl, rfl, rfl, trivial⟩ ?_
  refine c_seq ?_
  refine c_seq ?_
  refine c_region rfl ?_
  refine s_q rfl rfl (y_assign rfl ev_const) ?_
  refine s_nil ?_
  refine k_next (e := [(0, (Value.slice a2 a1.length c1)), (1, (Value.slice a3 b1.length c2)), (5, (Value.slice none 0 0)), (6, (Value.int .u64 0)), (7, (Value.int .i64 0))]) ⟨rfl, rfl, rfl, rfl, rfl, trivial⟩ ?_
  refine c_block ?_
  have hI := hI.nil (cInt .u64) 44 none
  refine c_loop (α := Nat × (List Int) × Int × Int × (Option Addr) × Nat) (fun x => fun w => ∃ C, Bun noM F w0 C w [MO.row (cInt .u64) 44 (x.2.2.2.2.1) (x.2.2.2.2.2) (x.2.1)] [Cl.sl (cInt .u64) a2 c1 a1, Cl.sl (cInt .u64) a3 c2 b1] ∧ m_ref01_plus_l1 a1 b1 (x.1) (x.2.1) (x.2.2.1) (x.2.2.2.1) = some r) (fun x _ => x.1) (fun x => [(0, (Value.slice a2 a1.length c1)), (1, (Value.slice a3 b1.length c2)), (5, (Value.slice (x.2.2.2.2.1) (x.2.1).length (x.2.2.2.2.2))), (6, (Value.int .u64 (x.2.2.1))), (7, (Value.int .i64 (x.2.2.2.1)))]) (fu, ([] : List Int), 0, 0, none, 0) ⟨_, hI.arr (.c .z .n) ⟨.z, (.s .z), trivial⟩, h⟩ ⟨rfl, rfl, rfl, rfl, rfl, trivial⟩ ?_
  clear h hI; rintro ⟨fuel1, out1, carry1, i1, a5, c4⟩ w1 ⟨c5, hI, h⟩
  dsimp only at hI h
  rcases fuel1 with _ | fuel1
  · rw [m_ref01_plus_l1] at h; cases h
  rw [m_ref01_plus_l1] at h
  refine c_sub (e := [(0, (Value.slice a2 a1.length c1)), (1, (Value.slice a3 b1.length c2)), (5, (Value.slice a5 out1.length c4)), (6, (Value.int .u64 carry1)), (7, (Value.int .i64 i1))]) ⟨rfl, rfl, rfl, rfl, rfl, trivial⟩ ?_
  refine c_seq ?_
  refine c_seq ?_
  refine c_region rfl ?_
  refine s_q rfl rfl (y_move rfl (ev_tmp rfl rfl)) ?_
  refine s_q rfl rfl (y_move rfl (ev_tmp rfl rfl)) ?_
  refine s_q rfl rfl (y_lenl rfl Tryd.underlying62 (ev_tmp rfl rfl)) ?_
  refine s_q rfl rfl (y_lss rfl (ev_tmp rfl rfl) (ev_tmp rfl rfl)) ?_
  refine s_q rfl rfl (y_move rfl (ev_tmp rfl rfl)) ?_
  refine s_gval (g_false rfl rfl rfl rfl) rfl (fun hc => (y_move rfl (ev_tmp rfl rfl))) ?_
  refine s_gval (g_false rfl rfl rfl rfl) rfl (fun hc => (y_move rfl (ev_tmp rfl rfl))) ?_
  refine s_gval (g_false rfl rfl rfl rfl) rfl (fun hc => (y_lenl rfl Tryd.underlying62 (ev_gv (ev_tmp rfl rfl) hc))) ?_
  refine s_gval (g_false rfl rfl rfl rfl) rfl (fun hc => (y_lss rfl (ev_gv (ev_tmp rfl rfl) hc) (ev_gv (ev_tmp rfl rfl) hc))) ?_
  refine s_q rfl rfl (y_or rfl (ev_tmp rfl rfl) (ev_tmp rfl rfl)) ?_
  refine s_nil ?_
  refine k_next (e := [(0, (Value.slice a2 a1.length c1)), (1, (Value.slice a3 b1.length c2)), (5, (Value.slice a5 out1.length c4)), (6, (Value.int .u64 carry1)), (7, (Value.int .i64 i1)), (17, (Value.bool ((decide (i1 < (a1.length : Int))) || (decide (i1 < (b1.length : Int))))))]) ⟨rfl, rfl, rfl, rfl, rfl, rfl, trivial⟩ ?_
  refine c_cond (b := (decide (i1 < (a1.length : Int))) || (decide (i1 < (b1.length : Int)))) (ev_tmp rfl rfl) (fun hb => ?_) (fun hb => ?_)
  · replace h := ite_t hb h
    refine c_skip ?_
    refine k_next (e := [(0, (Value.slice a2 a1.length c1)), (1, (Value.slice a3 b1.length c2)), (5, (Value.slice a5 out1.length c4)), (6, (Value.int .u64 carry1)), (7, (Value.int .i64 i1))]) ⟨rfl, rfl, rfl, rfl, rfl, trivial⟩ ?_
    refine c_seq ?_
    refine c_block ?_
    refine c_join (α := Int) (fun _ => ⟨52, []⟩) (fun x => [(0, (Value.slice a2 a1.length c1)), (1, (Value.slice a3 b1.length c2)), (5, (Value.slice a5 out1.length c4)), (6, (Value.int .u64 x)), (7, (Value.int .i64 i1))]) (fun x => fun w => ∃ C, Bun noM F w0 C w [MO.row (cInt .u64) 44 a5 c4 out1] [Cl.sl (cInt .u64) a2 c1 a1, Cl.sl (cInt .u64) a3 c2 b1] ∧ m_ref01_plus_j1 i1 b1 out1 (m_ref01_plus_l1 a1 b1 fuel1) x = some r) ?_ ?_
    · clear h hI; rintro carry2 w2 ⟨c6, hI, h⟩
      try dsimp only at hI h
      rw [m_ref01_plus_j1] at h
      refine c_sub (e := [(0, (Value.slice a2 a1.length c1)), (1, (Value.slice a3 b1.length c2)), (5, (Value.slice a5 out1.length c4)), (6, (Value.int .u64 carry2)), (7, (Value.int .i64 i1))]) ⟨rfl, rfl, rfl, rfl, rfl, trivial⟩ ?_
      refine c_join (α := Int) (fun _ => ⟨52, []⟩) (fun x => [(0, (Value.slice a2 a1.length c1)), (1, (Value.slice a3 b1.length c2)), (5, (Value.slice a5 out1.length c4)), (6, (Value.int .u64 x)), (7, (Value.int .i64 i1))]) (fun x => fun w => ∃ C, Bun noM F w0 C w [MO.row (cInt .u64) 44 a5 c4 out1] [Cl.sl (cInt .u64) a2 c1 a1, Cl.sl (cInt .u64) a3 c2 b1] ∧ m_ref01_plus_j2 out1 (m_ref01_plus_l1 a1 b1 fuel1) i1 x = some r) ?_ ?_
      · clear h hI; rintro carry3 w3 ⟨c7, hI, h⟩
        try dsimp only at hI h
        rw [m_ref01_plus_j2] at h
        refine c_sub (e := [(0, (Value.slice a2 a1.length c1)), (1, (Value.slice a3 b1.length c2)), (5, (Value.slice a5 out1.length c4)), (6, (Value.int .u64 carry3)), (7, (Value.int .i64 i1))]) ⟨rfl, rfl, rfl, rfl, rfl, trivial⟩ ?_
        refine c_seq ?_
        refine c_region rfl ?_
        refine s_q rfl rfl (y_move rfl (ev_tmp rfl rfl)) ?_
        refine s_q rfl rfl (y_move rfl (ev_tmp rfl rfl)) ?_
        refine s_q rfl rfl (y_rem rfl (ev_tmp rfl rfl) ev_const (by decide)) ?_
        refine l_lit (c := (cInt .u64)) (xs := ([Int.tmod carry3 4294967296] : List Int)) (vs := [(0, (Value.int .u64 (Int.tmod carry3 4294967296)))]) (cs := #[(Value.int .u64 (Int.tmod carry3 4294967296))]) (css := [[(Value.int .u64 (Int.tmod carry3 4294967296))]]) hI rfl rfl rfl Tryd.underlying62 info_44 rfl ⟨rfl, (ev_tmp rfl rfl), trivial⟩ (by kernel_rfl) ⟨rfl, trivial⟩ rfl rfl rfl ?_
        clear hI; intro b2 c8 w4 hI
        obtain ⟨zs1, hx1, h⟩ := bnd_some h
        refine l_append (xs := out1) (ys := ([Int.tmod carry3 4294967296] : List Int)) hI (.s .z) (hI.rd .z) hx1 rfl rfl rfl Tryd.underlying62 info_44 rfl rfl (ev_tmp rfl rfl) (ev_tmp rfl rfl) ?_
        clear hI; intro a6 c9 c10 w5 hI
        refine s_q rfl rfl (y_assign rfl (ev_tmp rfl rfl)) ?_
        refine s_nil ?_
        refine k_next (e := [(0, (Value.slice a2 a1.length c1)), (1, (Value.slice a3 b1.length c2)), (5, (Value.slice a6 zs1.length c9)), (6, (Value.int .u64 carry3)), (7, (Value.int .i64 i1))]) ⟨rfl, rfl, rfl, rfl, rfl, trivial⟩ ?_
        refine c_region rfl ?_
        refine s_q rfl rfl (y_move rfl (ev_tmp rfl rfl)) ?_
        refine s_q rfl rfl (y_quo rfl (ev_tmp rfl rfl) ev_const (by decide)) ?_
        obtain ⟨carry4, hx2, h⟩ := bnd_some h
        refine s_q rfl rfl (binU (y_assign rfl (ev_tmp rfl rfl)) (congrArg (Value.int .u64) (some_inj hx2))) ?_
        refine s_nil ?_
        refine k_next (e := [(0, (Value.slice a2 a1.length c1)), (1, (Value.slice a3 b1.length c2)), (5, (Value.slice a6 zs1.length c9)), (6, (Value.int .u64 carry4)), (7, (Value.int .i64 i1))]) ⟨rfl, rfl, rfl, rfl, rfl, trivial⟩ ?_
        refine c_region rfl ?_
        refine s_q rfl rfl (y_move rfl (ev_tmp rfl rfl)) ?_
        refine s_q rfl rfl (y_add rfl (ev_tmp rfl rfl) ev_const) ?_
        refine s_q rfl rfl (y_assign rfl (ev_tmp rfl rfl)) ?_
        refine s_nil ?_
        exact k_loop (fuel1, zs1, carry4, wi64 (i1 + 1), a6, c9) ⟨rfl, rfl, rfl, rfl, rfl, trivial⟩ ⟨_, hI.arr (.c (.s .z) .n) ⟨.z, (.s .z), trivial⟩, h⟩ (Nat.lt_succ_self _)
      · skip
        refine c_seq ?_
        refine c_region rfl ?_
        refine s_q rfl rfl (y_move rfl (ev_tmp rfl rfl)) ?_
        refine s_q rfl rfl (y_move rfl (ev_tmp rfl rfl)) ?_
        refine s_q rfl rfl (y_lenl rfl Tryd.underlying62 (ev_tmp rfl rfl)) ?_
        refine s_q rfl rfl (y_lss rfl (ev_tmp rfl rfl) (ev_tmp rfl rfl)) ?_
        refine s_nil ?_
        refine k_next (e := [(0, (Value.slice a2 a1.length c1)), (1, (Value.slice a3 b1.length c2)), (5, (Value.slice a5 out1.length c4)), (6, (Value.int .u64 carry2)), (7, (Value.int .i64 i1)), (33, (Value.bool (decide (i1 < (b1.length : Int)))))]) ⟨rfl, rfl, rfl, rfl, rfl, rfl, trivial⟩ ?_
        refine c_cond (b := decide (i1 < (b1.length : Int))) (ev_tmp rfl rfl) (fun hb => ?_) (fun hb => ?_)
        · replace h := ite_t hb h
          refine c_region rfl ?_
          refine s_q rfl rfl (y_move rfl (ev_tmp rfl rfl)) ?_
          refine s_q rfl rfl (y_move rfl (ev_tmp rfl rfl)) ?_
          refine s_q rfl rfl (y_move rfl (ev_tmp rfl rfl)) ?_
          obtain ⟨e1, hx3, h⟩ := bnd_some h
          obtain ⟨ad1, cs1, hA1, hr1, hq1⟩ := hI.clat (.s .z) hx3
          obtain rfl : cs1 = [(Value.int .u64 e1)] := hr1
          refine s_q rfl rfl (y_indexAddr rfl Tryd.underlying62 size_44 (ev_tmp rfl rfl) (ev_tmp rfl rfl) (lat_bd hx3) hA1) ?_
          refine s_q rfl rfl (y_load1 (v := (Value.int .u64 e1)) rfl (ev_tmp rfl rfl) Tryd.underlying44 rfl hq1.1) ?_
          refine s_q rfl rfl (y_add rfl (ev_tmp rfl rfl) (ev_tmp rfl rfl)) ?_
          refine s_q rfl rfl (y_assign rfl (ev_tmp rfl rfl)) ?_
          refine s_nil ?_
          exact k_join (wu64 (carry2 + e1)) ⟨rfl, rfl, rfl, rfl, rfl, trivial⟩ ⟨_, hI.arr (.c .z .n) ⟨.z, (.s .z), trivial⟩, h⟩ rfl
        · replace h := ite_f hb h
          refine c_skip ?_
          exact k_join carry2 ⟨rfl, rfl, rfl, rfl, rfl, trivial⟩ ⟨_, hI.arr (.c .z .n) ⟨.z, (.s .z), trivial⟩, h⟩ rfl
    · skip
      refine c_seq ?_
      refine c_region rfl ?_
      refine s_q rfl rfl (y_move rfl (ev_tmp rfl rfl)) ?_
      refine s_q rfl rfl (y_move rfl (ev_tmp rfl rfl)) ?_
      refine s_q rfl rfl (y_lenl rfl Tryd.underlying62 (ev_tmp rfl rfl)) ?_
      refine s_q rfl rfl (y_lss rfl (ev_tmp rfl rfl) (ev_tmp rfl rfl)) ?_
      refine s_nil ?_
      refine k_next (e := [(0, (Value.slice a2 a1.length c1)), (1, (Value.slice a3 b1.length c2)), (5, (Value.slice a5 out1.length c4)), (6, (Value.int .u64 carry1)), (7, (Value.int .i64 i1)), (23, (Value.bool (decide (i1 < (a1.length : Int)))))]) ⟨rfl, rfl, rfl, rfl, rfl, rfl, trivial⟩ ?_
      refine c_cond (b := decide (i1 < (a1.length : Int))) (ev_tmp rfl rfl) (fun hb => ?_) (fun hb => ?_)
      · replace h := ite_t hb h
        refine c_region rfl ?_
        refine s_q rfl rfl (y_move rfl (ev_tmp rfl rfl)) ?_
        refine s_q rfl rfl (y_move rfl (ev_tmp rfl rfl)) ?_
        refine s_q rfl rfl (y_move rfl (ev_tmp rfl rfl)) ?_
        obtain ⟨e2, hx4, h⟩ := bnd_some h
        obtain ⟨ad2, cs2, hA2, hr2, hq2⟩ := hI.clat .z hx4
        obtain rfl : cs2 = [(Value.int .u64 e2)] := hr2
        refine s_q rfl rfl (y_indexAddr rfl Tryd.underlying62 size_44 (ev_tmp rfl rfl) (ev_tmp rfl rfl) (lat_bd hx4) hA2) ?_
        refine s_q rfl rfl (y_load1 (v := (Value.int .u64 e2)) rfl (ev_tmp rfl rfl) Tryd.underlying44 rfl hq2.1) ?_
        refine s_q rfl rfl (y_add rfl (ev_tmp rfl rfl) (ev_tmp rfl rfl)) ?_
        refine s_q rfl rfl (y_assign rfl (ev_tmp rfl rfl)) ?_
        refine s_nil ?_
        exact k_join (wu64 (carry1 + e2)) ⟨rfl, rfl, rfl, rfl, rfl, trivial⟩ ⟨_, hI.arr (.c .z .n) ⟨.z, (.s .z), trivial⟩, h⟩ rfl
      · replace h := ite_f hb h
        refine c_skip ?_
        exact k_join carry1 ⟨rfl, rfl, rfl, rfl, rfl, trivial⟩ ⟨_, hI.arr (.c .z .n) ⟨.z, (.s .z), trivial⟩, h⟩ rfl
  · replace h := ite_f hb h
    refine c_exit ?_
    refine k_in ?_
    refine k_next (e := [(5, (Value.slice a5 out1.length c4)), (6, (Value.int .u64 carry1))]) ⟨rfl, rfl, trivial⟩ ?_
    refine c_seq ?_
    refine c_region rfl ?_
    refine s_q rfl rfl (y_move rfl (ev_tmp rfl rfl)) ?_
    refine s_q rfl rfl (y_move rfl (ev_tmp rfl rfl)) ?_
    refine l_lit (c := (cInt .u64)) (xs := ([carry1] : List Int)) (vs := [(0, (Value.int .u64 carry1))]) (cs := #[(Value.int .u64 carry1)]) (css := [[(Value.int .u64 carry1)]]) hI rfl rfl rfl Tryd.underlying62 info_44 rfl ⟨rfl, (ev_tmp rfl rfl), trivial⟩ (by kernel_rfl) ⟨rfl, trivial⟩ rfl rfl rfl ?_
    clear hI; intro b3 c11 w6 hI
    obtain ⟨zs2, hx5, h⟩ := bnd_some h
    refine l_append (xs := out1) (ys := ([carry1] : List Int)) hI (.s .z) (hI.rd .z) hx5 rfl rfl rfl Tryd.underlying62 info_44 rfl rfl (ev_tmp rfl rfl) (ev_tmp rfl rfl) ?_
    clear hI; intro a7 c12 c13 w7 hI
    obtain ⟨c14, hI⟩ := hI.release (.s .z)
    obtain ⟨r1, hx6, h⟩ := bnd_some h
    refine s_call rfl rfl (r_callF (vs := [(Value.slice a7 zs2.length c12)]) rfl ok_72 ⟨(ev_tmp rfl rfl), trivial⟩) (Calls.mono (c_ref01_trim (Dj F c14) w7 hI.lt zs2 a7 c12 ⟨(hI.get .z), trivial⟩ r1 hx6) ?_)
    rintro _ w8 ⟨a8, c15, rfl, hx7, hl1⟩
    refine ⟨_, rfl, ?_⟩
    replace hI := (hI.ext hx7).adds hl1
    refine s_q rfl rfl (y_assign rfl (ev_tmp rfl rfl)) ?_
    refine s_nil ?_
    refine k_next (e := [(4, (Value.slice a8 r1.length c15))]) ⟨rfl, trivial⟩ ?_
    refine c_ret ?_
    obtain rfl := some_inj h
    exact q_ret (vs := [(Value.slice a8 r1.length c15)]) Tryd.results53 ⟨ev_tmp rfl rfl, trivial⟩ ⟨a8, c15, rfl, hI.ext0, hI.fin ⟨.z, trivial⟩⟩

set_option maxRecDepth 100000 in
set_option maxHeartbeats 4000000 in
theorem c_ref01_below (F : NP) (w0 : World) (hF : ∀ k, F k → k < w0.heap.size) (a1 : List Int) (b1 : List Int) (a2 : Option Addr) (c1 : Nat) (a3 : Option Addr) (c2 : Nat) (hc : AllCl [Cl.sl (cInt .u64) a2 c1 a1, Cl.sl (cInt .u64) a3 c2 b1] F w0) (r : Bool)
    (h : m_ref01_below a1 b1 = some r) :
    Calls Tryd.prog 54 #[(Value.slice a2 a1.length c1), (Value.slice a3 b1.length c2)] w0 fun e w => e = .returned (Value.bool r) ∧ Ext w0 w ∧ AllCl [] F w := by
  refine ofEnter (R := fun v w => v = (Value.bool r) ∧ Ext w0 w ∧ AllCl [] F w) (enter (l := [(Value.slice a2 a1.length c1), (Value.slice a3 b1.length c2)]) Tryd.func54 rfl Tryd.ntmps54 rfl ?_) ?_
  rotate_left
  · rintro _ w ⟨rfl, k1, k2⟩; exact ⟨rfl, k1, k2⟩
  have hI := Bun.start hF hc
  clear hc
  rw [m_ref01_below] at h
  refine c_seq ?_
  refine c_region rfl ?_
  refine s_q rfl rfl (y_assign rfl ev_const) ?_
  refine s_nil ?_
  refine k_next (e := [(0, (Value.slice a2 a1.length c1)), (1, (Value.slice a3 b1.length c2))]) ⟨rfl, rfl, trivial⟩ ?_
  refine c_seq ?_
  refine c_seq ?_
  refine c_region rfl ?_
  refine s_q rfl rfl (y_move rfl (ev_tmp rfl rfl)) ?_
  refine s_q rfl rfl (y_lenl rfl Tryd.underlying62 (ev_tmp rfl rfl)) ?_
  refine s_q rfl rfl (y_move rfl (ev_tmp rfl rfl)) ?_
  refine s_q rfl rfl (y_lenl rfl Tryd.underlying62 (ev_tmp rfl rfl)) ?_
  refine s_q rfl rfl (y_neq rfl (ev_tmp rfl rfl) (ev_tmp rfl rfl)) ?_
  refine s_nil ?_
  refine k_next (e := [(0, (Value.slice a2 a1.length c1)), (1, (Value.slice a3 b1.length c2)), (10, (Value.bool (!decide ((a1.length : Int) = (b1.length : Int)))))]) ⟨rfl, rfl, rfl, trivial⟩ ?_
  refine c_cond (b := !decide ((a1.length : Int) = (b1.length : Int))) (ev_tmp rfl rfl) (fun hb => ?_) (fun hb => ?_)
  · replace h := ite_t hb h
    refine c_seq ?_
    refine c_region rfl ?_
    refine s_q rfl rfl (y_move rfl (ev_tmp rfl rfl)) ?_
    refine s_q rfl rfl (y_lenl rfl Tryd.underlying62 (ev_tmp rfl rfl)) ?_
    refine s_q rfl rfl (y_move rfl (ev_tmp rfl rfl)) ?_
    refine s_q rfl rfl (y_lenl rfl Tryd.underlying62 (ev_tmp rfl rfl)) ?_
    refine s_q rfl rfl (y_lss rfl (ev_tmp rfl rfl) (ev_tmp rfl rfl)) ?_
    refine s_q rfl rfl (y_assign rfl (ev_tmp rfl rfl)) ?_
    refine s_nil ?_
    refine k_next (e := [(4, (Value.bool (decide ((a1.length : Int) < (b1.length : Int)))))]) ⟨rfl, trivial⟩ ?_
    refine c_ret ?_
    obtain rfl := some_inj h
    exact q_ret (vs := [(Value.bool (decide ((a1.length : Int) < (b1.length : Int))))]) Tryd.results54 ⟨ev_tmp rfl rfl, trivial⟩ ⟨rfl, hI.ext0, hI.fin trivial⟩
  · replace h := ite_f hb h
    refine c_skip ?_
    refine k_next (e := [(0, (Value.slice a2 a1.length c1)), (1, (Value.slice a3 b1.length c2))]) ⟨rfl, rfl, trivial⟩ ?_
    refine c_seq ?_
    refine c_seq ?_
    refine c_region rfl ?_
    refine s_q rfl rfl (y_move rfl (ev_tmp rfl rfl)) ?_
    refine s_q rfl rfl (y_lenl rfl Tryd.underlying62 (ev_tmp rfl rfl)) ?_
    refine s_q rfl rfl (y_sub rfl (ev_tmp rfl rfl) ev_const) ?_
    obtain ⟨i1, hx1, h⟩ := bnd_some h
    refine s_q rfl rfl (binU (y_assign rfl (ev_tmp rfl rfl)) (congrArg (Value.int .i64) (some_inj hx1))) ?_
    refine s_nil ?_
    refine k_next (e := [(0, (Value.slice a2 a1.length c1)), (1, (Value.slice a3 b1.length c2)), (5, (Value.int .i64 i1))]) ⟨rfl, rfl, rfl, trivial⟩ ?_
    refine c_block ?_
    refine c_loop (α := Nat × Int) (fun x => fun w => ∃ C, Bun noM F w0 C w [] [Cl.sl (cInt .u64) a2 c1 a1, Cl.sl (cInt .u64) a3 c2 b1] ∧ m_ref01_below_l1 a1 b1 (x.1) (x.2) = some r) (fun x _ => x.1) (fun x => [(0, (Value.slice a2 a1.length c1)), (1, (Value.slice a3 b1.length c2)), (5, (Value.int .i64 (x.2)))]) (fu, i1) ⟨_, hI.arr .n ⟨.z, (.s .z), trivial⟩, h⟩ ⟨rfl, rfl, rfl, trivial⟩ ?_
    clear h hI; rintro ⟨fuel1, i2⟩ w1 ⟨c3, hI, h⟩
    dsimp only at hI h
    rcases fuel1 with _ | fuel1
    · rw [m_ref01_below_l1] at h; cases h
    rw [m_ref01_below_l1] at h
    refine c_sub (e := [(0, (Value.slice a2 a1.length c1)), (1, (Value.slice a3 b1.length c2)), (5, (Value.int .i64 i2))]) ⟨rfl, rfl, rfl, trivial⟩ ?_
    refine c_seq ?_
    refine c_seq ?_
    refine c_region rfl ?_
    refine s_q rfl rfl (y_move rfl (ev_tmp rfl rfl)) ?_
    refine s_q rfl rfl (y_geq rfl (ev_tmp rfl rfl) ev_const) ?_
    refine s_nil ?_
    refine k_next (e := [(0, (Value.slice a2 a1.length c1)), (1, (Value.slice a3 b1.length c2)), (5, (Value.int .i64 i2)), (20, (Value.bool (decide (0 ≤ i2))))]) ⟨rfl, rfl, rfl, rfl, trivial⟩ ?_
    refine c_cond (b := decide (0 ≤ i2)) (ev_tmp rfl rfl) (fun hb => ?_) (fun hb => ?_)
    · replace h := ite_t hb h
      refine c_skip ?_
      refine k_next (e := [(0, (Value.slice a2 a1.length c1)), (1, (Value.slice a3 b1.length c2)), (5, (Value.int .i64 i2))]) ⟨rfl, rfl, rfl, trivial⟩ ?_
      refine c_seq ?_
      refine c_block ?_
      refine c_seq ?_
      refine c_drawX [] false (.c (0, .q) (.c (1, .q) (.c (2, .q) (.c (3, .q) (.c (4, .q) (.c (5, .q) (.c (6, .q) (.c (7, .q) (.c (8, .q) .n))))))))) hI (by kernel_rfl) (by kernel_rfl) ?_
      clear hI; intro w2 hI
      refine a_q rfl rfl rfl (fun w' => (y_move rfl (ev_tmp rfl rfl))) ?_
      refine a_q rfl rfl rfl (fun w' => (y_move rfl (ev_tmp rfl rfl))) ?_
      obtain ⟨e1, hx2, h⟩ := bnd_some h
      obtain ⟨ad1, cs1, hA1, hr1, hq1⟩ := hI.clat .z hx2
      obtain rfl : cs1 = [(Value.int .u64 e1)] := hr1
      refine a_q rfl rfl rfl (fun w' => (y_indexAddr rfl Tryd.underlying62 size_44 (ev_tmp rfl rfl) (ev_tmp rfl rfl) (lat_bd hx2) hA1)) ?_
      refine a_read rfl rfl rfl (fun w' hw' => (y_load1 (v := (Value.int .u64 e1)) rfl (ev_tmp rfl rfl) Tryd.underlying44 rfl (hq1.at_ (SX.any rfl hw')))) (by kernel_rfl) ?_
      refine a_q rfl rfl rfl (fun w' => (y_move rfl (ev_tmp rfl rfl))) ?_
      refine a_q rfl rfl rfl (fun w' => (y_move rfl (ev_tmp rfl rfl))) ?_
      obtain ⟨e2, hx3, h⟩ := bnd_some h
      obtain ⟨ad2, cs2, hA2, hr2, hq2⟩ := hI.clat (.s .z) hx3
      obtain rfl : cs2 = [(Value.int .u64 e2)] := hr2
      refine a_q rfl rfl rfl (fun w' => (y_indexAddr rfl Tryd.underlying62 size_44 (ev_tmp rfl rfl) (ev_tmp rfl rfl) (lat_bd hx3) hA2)) ?_
      refine a_read rfl rfl rfl (fun w' hw' => (y_load1 (v := (Value.int .u64 e2)) rfl (ev_tmp rfl rfl) Tryd.underlying44 rfl (hq2.at_ (SX.any rfl hw')))) (by kernel_rfl) ?_
      refine a_q rfl rfl rfl (fun w' => (y_neq rfl (ev_tmp rfl rfl) (ev_tmp rfl rfl))) ?_
      refine a_nil ?_
      refine k_next (e := [(0, (Value.slice a2 a1.length c1)), (1, (Value.slice a3 b1.length c2)), (5, (Value.int .i64 i2)), (31, (Value.bool (!decide (e1 = e2))))]) ⟨rfl, rfl, rfl, rfl, trivial⟩ ?_
      refine c_cond (b := !decide (e1 = e2)) (ev_tmp rfl rfl) (fun hb => ?_) (fun hb => ?_)
      · replace h := ite_t hb h
        refine c_seq ?_
        refine c_drawX [] false (.c (0, .q) (.c (1, .q) (.c (2, .q) (.c (3, .q) (.c (4, .q) (.c (5, .q) (.c (6, .q) (.c (7, .q) (.c (8, .q) (.c (9, .q) .n)))))))))) hI (by kernel_rfl) (by kernel_rfl) ?_
        clear hI; intro w3 hI
        refine a_q rfl rfl rfl (fun w' => (y_move rfl (ev_tmp rfl rfl))) ?_
        refine a_q rfl rfl rfl (fun w' => (y_move rfl (ev_tmp rfl rfl))) ?_
        obtain ⟨e3, hx4, h⟩ := bnd_some h
        obtain ⟨ad3, cs3, hA3, hr3, hq3⟩ := hI.clat .z hx4
        obtain rfl : cs3 = [(Value.int .u64 e3)] := hr3
        refine a_q rfl rfl rfl (fun w' => (y_indexAddr rfl Tryd.underlying62 size_44 (ev_tmp rfl rfl) (ev_tmp rfl rfl) (lat_bd hx4) hA3)) ?_
        refine a_read rfl rfl rfl (fun w' hw' => (y_load1 (v := (Value.int .u64 e3)) rfl (ev_tmp rfl rfl) Tryd.underlying44 rfl (hq3.at_ (SX.any rfl hw')))) (by kernel_rfl) ?_
        refine a_q rfl rfl rfl (fun w' => (y_move rfl (ev_tmp rfl rfl))) ?_
        refine a_q rfl rfl rfl (fun w' => (y_move rfl (ev_tmp rfl rfl))) ?_
        obtain ⟨e4, hx5, h⟩ := bnd_some h
        obtain ⟨ad4, cs4, hA4, hr4, hq4⟩ := hI.clat (.s .z) hx5
        obtain rfl : cs4 = [(Value.int .u64 e4)] := hr4
        refine a_q rfl rfl rfl (fun w' => (y_indexAddr rfl Tryd.underlying62 size_44 (ev_tmp rfl rfl) (ev_tmp rfl rfl) (lat_bd hx5) hA4)) ?_
        refine a_read rfl rfl rfl (fun w' hw' => (y_load1 (v := (Value.int .u64 e4)) rfl (ev_tmp rfl rfl) Tryd.underlying44 rfl (hq4.at_ (SX.any rfl hw')))) (by kernel_rfl) ?_
        refine a_q rfl rfl rfl (fun w' => (y_lss rfl (ev_tmp rfl rfl) (ev_tmp rfl rfl))) ?_
        refine a_q rfl rfl rfl (fun w' => (y_assign rfl (ev_tmp rfl rfl))) ?_
        refine a_nil ?_
        refine k_next (e := [(4, (Value.bool (decide (e3 < e4))))]) ⟨rfl, trivial⟩ ?_
        refine c_ret ?_
        obtain rfl := some_inj h
        exact q_ret (vs := [(Value.bool (decide (e3 < e4)))]) Tryd.results54 ⟨ev_tmp rfl rfl, trivial⟩ ⟨rfl, hI.ext0, hI.fin trivial⟩
      · replace h := ite_f hb h
        refine c_skip ?_
        refine k_next (e := [(0, (Value.slice a2 a1.length c1)), (1, (Value.slice a3 b1.length c2)), (5, (Value.int .i64 i2))]) ⟨rfl, rfl, rfl, trivial⟩ ?_
        refine c_region rfl ?_
        refine s_q rfl rfl (y_move rfl (ev_tmp rfl rfl)) ?_
        refine s_q rfl rfl (y_sub rfl (ev_tmp rfl rfl) ev_const) ?_
        refine s_q rfl rfl (y_assign rfl (ev_tmp rfl rfl)) ?_
        refine s_nil ?_
        exact k_loop (fuel1, wi64 (i2 - 1)) ⟨rfl, rfl, rfl, trivial⟩ ⟨_, hI.arr .n ⟨.z, (.s .z), trivial⟩, h⟩ (Nat.lt_succ_self _)
    · replace h := ite_f hb h
      refine c_exit ?_
      refine k_in ?_
      refine k_next (e := []) trivial ?_
      refine c_seq ?_
      refine c_region rfl ?_
      refine s_q rfl rfl (y_assign rfl ev_const) ?_
      refine s_nil ?_
      refine k_next (e := [(4, (Value.bool false))]) ⟨rfl, trivial⟩ ?_
      refine c_ret ?_
      obtain rfl := some_inj h
      exact q_ret (vs := [(Value.bool false)]) Tryd.results54 ⟨ev_tmp rfl rfl, trivial⟩ ⟨rfl, hI.ext0, hI.fin trivial⟩

set_option maxRecDepth 100000 in
set_option maxHeartbeats 4000000 in
theorem c_ref01_less (F : NP) (w0 : World) (hF : ∀ k, F k → k < w0.heap.size) (a1 : List Int) (b1 : List Int) (a2 : Option Addr) (c1 : Nat) (a3 : Option Addr) (c2 : Nat) (hc : AllCl [Cl.sl (cInt .u64) a2 c1 a1, Cl.sl (cInt .u64) a3 c2 b1] F w0) (r : List Int)
    (h : m_ref01_less a1 b1 = some r) :
    Calls Tryd.prog 56 #[(Value.slice a2 a1.length c1), (Value.slice a3 b1.length c2)] w0 fun e w => ∃ (a4 : Option Addr) (c3 : Nat), e = .returned (Value.slice a4 r.length c3) ∧ Ext w0 w ∧ AllCl [Cl.sl (cInt .u64) a4 c3 r] F w := by
  refine ofEnter (R := fun v w => ∃ (a4 : Option Addr) (c3 : Nat), v = (Value.slice a4 r.length c3) ∧ Ext w0 w ∧ AllCl [Cl.sl (cInt .u64) a4 c3 r] F w) (enter (l := [(Value.slice a2 a1.length c1), (Value.slice a3 b1.length c2)]) Tryd.func56 rfl Tryd.ntmps56 rfl ?_) ?_
  rotate_left
  · rintro _ w ⟨a4, c3, rfl, k1, k2⟩; exact ⟨a4, c3, rfl, k1, k2⟩
  have hI := Bun.start hF hc
  clear hc
  rw [m_ref01_less] at h
  refine c_seq ?_
  refine c_region rfl ?_
  refine s_q rfl rfl (y_assign rfl ev_const) ?_
  refine s_nil ?_
  refine k_next (e := [(0, (Value.slice a2 a1.length c1)), (1, (Value.slice a3 b1.length c2))]) ⟨rfl, rfl, trivial⟩ ?_
  refine c_seq ?_
  refine c_region rfl ?_
  refine s_q rfl rfl (y_assign rfl ev_const) ?_
  refine s_nil ?_
  refine k_next (e := [(0, (Value.slice a2 a1.length c1)), (1, (Value.slice a3 b1.length c2)), (5, (Value.slice none 0 0))]) ⟨rfl, rfl, rfl, trivial⟩ ?_
  refine c_seq ?_
  refine c_region rfl ?_
  refine s_q rfl rfl (y_assign rfl ev_const) ?_
  refine s_nil ?_
  refine k_next (e := [(0, (Value.slice a2 a1.length c1)), (1, (Value.slice a3 b1.length c2)), (5, (Value.slice none 0 0)), (6, (Value.int .u64 0))]) ⟨rfl, rfl, rfl, rfl, trivial⟩ ?_
  refine c_seq ?_
  refine c_seq ?_
  refine c_region rfl ?_
  refine s_q rfl rfl (y_assign rfl ev_const) ?_
  refine s_nil ?_
  refine k_next (e := [(0, (Value.slice a2 a1.length c1)), (1, (Value.slice a3 b1.length c2)), (5, (Value.slice none 0 0)), (6, (Value.int .u64 0)), (7, (Value.int .i64 0))]) ⟨rfl, rfl, rfl, rfl, rfl, trivial⟩ ?_
  refine c_block ?_
  have hI := hI.nil (cInt .u64) 44 none
  refine c_loop (α := Nat × (List Int) × Int × Int × (Option Addr) × Nat) (fun x => fun w => ∃ C, Bun noM F w0 C w [MO.row (cInt .u64) 44 (x.2.2.2.2.1) (x.2.2.2.2.2) (x.2.1)] [Cl.sl (cInt .u64) a2 c1 a1, Cl.sl (cInt .u64) a3 c2 b1] ∧ m_ref01_less_l1 a1 b1 (x.1) (x.2.1) (x.2.2.1) (x.2.2.2.1) = some r) (fun x _ => x.1) (fun x => [(0, (Value.slice a2 a1.length c1)), (1, (Value.slice a3 b1.length c2)), (5, (Value.slice (x.2.2.2.2.1) (x.2.1).length (x.2.2.2.2.2))), (6, (Value.int .u64 (x.2.2.1))), (7, (Value.int .i64 (x.2.2.2.1)))]) (fu, ([] : List Int), 0, 0, none, 0) ⟨_, hI.arr (.c .z .n) ⟨.z, (.s .z), trivial⟩, h⟩ ⟨rfl, rfl, rfl, rfl, rfl, trivial⟩ ?_
  clear h hI; rintro ⟨fuel1, out1, borrow1, i1, a5, c4⟩ w1 ⟨c5, hI, h⟩
  dsimp only at hI h
  rcases fuel1 with _ | fuel1
  · rw [m_ref01_less_l1] at h; cases h
  rw [m_ref01_less_l1] at h
  refine c_sub (e := [(0, (Value.slice a2 a1.length c1)), (1, (Value.slice a3 b1.length c2)), (5, (Value.slice a5 out1.length c4)), (6, (Value.int .u64 borrow1)), (7, (Value.int .i64 i1))]) ⟨rfl, rfl, rfl, rfl, rfl, trivial⟩ ?_
  refine c_seq ?_
  refine c_seq ?_
  refine c_region rfl ?_
  refine s_q rfl rfl (y_move rfl (ev_tmp rfl rfl)) ?_
  refine s_q rfl rfl (y_move rfl (ev_tmp rfl rfl)) ?_
  refine s_q rfl rfl (y_lenl rfl Tryd.underlying62 (ev_tmp rfl rfl)) ?_
  refine s_q rfl rfl (y_lss rfl (ev_tmp rfl rfl) (ev_tmp rfl rfl)) ?_
  refine s_nil ?_
  refine k_next (e := [(0, (Value.slice a2 a1.length c1)), (1, (Value.slice a3 b1.length c2)), (5, (Value.slice a5 out1.length c4)), (6, (Value.int .u64 borrow1)), (7, (Value.int .i64 i1)), (12, (Value.bool (decide (i1 < (a1.length : Int)))))]) ⟨rfl, rfl, rfl, rfl, rfl, rfl, trivial⟩ ?_
  refine c_cond (b := decide (i1 < (a1.length : Int))) (ev_tmp rfl rfl) (fun hb => ?_) (fun hb => ?_)
  · replace h := ite_t hb h
    refine c_skip ?_
    refine k_next (e := [(0, (Value.slice a2 a1.length c1)), (1, (Value.slice a3 b1.length c2)), (5, (Value.slice a5 out1.length c4)), (6, (Value.int .u64 borrow1)), (7, (Value.int .i64 i1))]) ⟨rfl, rfl, rfl, rfl, rfl, trivial⟩ ?_
    refine c_seq ?_
    refine c_block ?_
    refine c_seq ?_
    refine c_region rfl ?_
    refine s_q rfl rfl (y_move rfl (ev_tmp rfl rfl)) ?_
    refine s_q rfl rfl (y_move rfl (ev_tmp rfl rfl)) ?_
    obtain ⟨e1, hx1, h⟩ := bnd_some h
    obtain ⟨ad1, cs1, hA1, hr1, hq1⟩ := hI.clat .z hx1
    obtain rfl : cs1 = [(Value.int .u64 e1)] := hr1
    refine s_q rfl rfl (y_indexAddr rfl Tryd.underlying62 size_44 (ev_tmp rfl rfl) (ev_tmp rfl rfl) (lat_bd hx1) hA1) ?_
    refine s_q rfl rfl (y_load1 (v := (Value.int .u64 e1)) rfl (ev_tmp rfl rfl) Tryd.underlying44 rfl hq1.1) ?_
    refine s_q rfl rfl (y_add rfl ev_const (ev_tmp rfl rfl)) ?_
    refine s_q rfl rfl (y_move rfl (ev_tmp rfl rfl)) ?_
    refine s_q rfl rfl (y_sub rfl (ev_tmp rfl rfl) (ev_tmp rfl rfl)) ?_
    obtain ⟨n1, hx2, h⟩ := bnd_some h
    refine s_q rfl rfl (binU (y_assign rfl (ev_tmp rfl rfl)) (congrArg (Value.int .u64) (some_inj hx2))) ?_
    refine s_nil ?_
    refine k_next (e := [(0, (Value.slice a2 a1.length c1)), (1, (Value.slice a3 b1.length c2)), (5, (Value.slice a5 out1.length c4)), (7, (Value.int .i64 i1)), (8, (Value.int .u64 n1))]) ⟨rfl, rfl, rfl, rfl, rfl, trivial⟩ ?_
    refine c_join (α := Int) (fun _ => ⟨42, []⟩) (fun x => [(0, (Value.slice a2 a1.length c1)), (1, (Value.slice a3 b1.length c2)), (5, (Value.slice a5 out1.length c4)), (7, (Value.int .i64 i1)), (8, (Value.int .u64 x))]) (fun x => fun w => ∃ C, Bun noM F w0 C w [MO.row (cInt .u64) 44 a5 c4 out1] [Cl.sl (cInt .u64) a2 c1 a1, Cl.sl (cInt .u64) a3 c2 b1] ∧ m_ref01_less_j1 out1 (m_ref01_less_l1 a1 b1 fuel1) i1 x = some r) ?_ ?_
    · clear h hI; rintro n2 w2 ⟨c6, hI, h⟩
      try dsimp only at hI h
      rw [m_ref01_less_j1] at h
      refine c_sub (e := [(0, (Value.slice a2 a1.length c1)), (1, (Value.slice a3 b1.length c2)), (5, (Value.slice a5 out1.length c4)), (7, (Value.int .i64 i1)), (8, (Value.int .u64 n2))]) ⟨rfl, rfl, rfl, rfl, rfl, trivial⟩ ?_
      refine c_seq ?_
      refine c_region rfl ?_
      refine s_q rfl rfl (y_move rfl (ev_tmp rfl rfl)) ?_
      refine s_q rfl rfl (y_move rfl (ev_tmp rfl rfl)) ?_
      refine s_q rfl rfl (y_rem rfl (ev_tmp rfl rfl) ev_const (by decide)) ?_
      refine l_lit (c := (cInt .u64)) (xs := ([Int.tmod n2 4294967296] : List Int)) (vs := [(0, (Value.int .u64 (Int.tmod n2 4294967296)))]) (cs := #[(Value.int .u64 (Int.tmod n2 4294967296))]) (css := [[(Value.int .u64 (Int.tmod n2 4294967296))]]) hI rfl rfl rfl Tryd.underlying62 info_44 rfl ⟨rfl, (ev_tmp rfl rfl), trivial⟩ (by kernel_rfl) ⟨rfl, trivial⟩ rfl rfl rfl ?_
      clear hI; intro b2 c7 w3 hI
      obtain ⟨zs1, hx3, h⟩ := bnd_some h
      refine l_append (xs := out1) (ys := ([Int.tmod n2 4294967296] : List Int)) hI (.s .z) (hI.rd .z) hx3 rfl rfl rfl Tryd.underlying62 info_44 rfl rfl (ev_tmp rfl rfl) (ev_tmp rfl rfl) ?_
      clear hI; intro a6 c8 c9 w4 hI
      refine s_q rfl rfl (y_assign rfl (ev_tmp rfl rfl)) ?_
      refine s_nil ?_
      refine k_next (e := [(0, (Value.slice a2 a1.length c1)), (1, (Value.slice a3 b1.length c2)), (5, (Value.slice a6 zs1.length c8)), (7, (Value.int .i64 i1)), (8, (Value.int .u64 n2))]) ⟨rfl, rfl, rfl, rfl, rfl, trivial⟩ ?_
      refine c_region rfl ?_
      refine s_q rfl rfl (y_move rfl (ev_tmp rfl rfl)) ?_
      refine s_q rfl rfl (y_quo rfl (ev_tmp rfl rfl) ev_const (by decide)) ?_
      refine s_q rfl rfl (y_sub rfl ev_const (ev_tmp rfl rfl)) ?_
      obtain ⟨borrow2, hx4, h⟩ := bnd_some h
      refine s_q rfl rfl (binU (y_assign rfl (ev_tmp rfl rfl)) (congrArg (Value.int .u64) (some_inj hx4))) ?_
      refine s_nil ?_
      refine k_next (e := [(0, (Value.slice a2 a1.length c1)), (1, (Value.slice a3 b1.length c2)), (5, (Value.slice a6 zs1.length c8)), (7, (Value.int .i64 i1)), (6, (Value.int .u64 borrow2))]) ⟨rfl, rfl, rfl, rfl, rfl, trivial⟩ ?_
      refine c_region rfl ?_
      refine s_q rfl rfl (y_move rfl (ev_tmp rfl rfl)) ?_
      refine s_q rfl rfl (y_add rfl (ev_tmp rfl rfl) ev_const) ?_
      refine s_q rfl rfl (y_assign rfl (ev_tmp rfl rfl)) ?_
      refine s_nil ?_
      exact k_loop (fuel1, zs1, borrow2, wi64 (i1 + 1), a6, c8) ⟨rfl, rfl, rfl, rfl, rfl, trivial⟩ ⟨_, hI.arr (.c (.s .z) .n) ⟨.z, (.s .z), trivial⟩, h⟩ (Nat.lt_succ_self _)
    · skip
      refine c_seq ?_
      refine c_region rfl ?_
      refine s_q rfl rfl (y_move rfl (ev_tmp rfl rfl)) ?_
      refine s_q rfl rfl (y_move rfl (ev_tmp rfl rfl)) ?_
      refine s_q rfl rfl (y_lenl rfl Tryd.underlying62 (ev_tmp rfl rfl)) ?_
      refine s_q rfl rfl (y_lss rfl (ev_tmp rfl rfl) (ev_tmp rfl rfl)) ?_
      refine s_nil ?_
      refine k_next (e := [(0, (Value.slice a2 a1.length c1)), (1, (Value.slice a3 b1.length c2)), (5, (Value.slice a5 out1.length c4)), (7, (Value.int .i64 i1)), (8, (Value.int .u64 n1)), (25, (Value.bool (decide (i1 < (b1.length : Int)))))]) ⟨rfl, rfl, rfl, rfl, rfl, rfl, trivial⟩ ?_
      refine c_cond (b := decide (i1 < (b1.length : Int))) (ev_tmp rfl rfl) (fun hb => ?_) (fun hb => ?_)
      · replace h := ite_t hb h
        refine c_region rfl ?_
        refine s_q rfl rfl (y_move rfl (ev_tmp rfl rfl)) ?_
        refine s_q rfl rfl (y_move rfl (ev_tmp rfl rfl)) ?_
        refine s_q rfl rfl (y_move rfl (ev_tmp rfl rfl)) ?_
        obtain ⟨e2, hx5, h⟩ := bnd_some h
        obtain ⟨ad2, cs2, hA2, hr2, hq2⟩ := hI.clat (.s .z) hx5
        obtain rfl : cs2 = [(Value.int .u64 e2)] := hr2
        refine s_q rfl rfl (y_indexAddr rfl Tryd.underlying62 size_44 (ev_tmp rfl rfl) (ev_tmp rfl rfl) (lat_bd hx5) hA2) ?_
        refine s_q rfl rfl (y_load1 (v := (Value.int .u64 e2)) rfl (ev_tmp rfl rfl) Tryd.underlying44 rfl hq2.1) ?_
        refine s_q rfl rfl (y_sub rfl (ev_tmp rfl rfl) (ev_tmp rfl rfl)) ?_
        refine s_q rfl rfl (y_assign rfl (ev_tmp rfl rfl)) ?_
        refine s_nil ?_
        exact k_join (wu64 (n1 - e2)) ⟨rfl, rfl, rfl, rfl, rfl, trivial⟩ ⟨_, hI.arr (.c .z .n) ⟨.z, (.s .z), trivial⟩, h⟩ rfl
      · replace h := ite_f hb h
        refine c_skip ?_
        exact k_join n1 ⟨rfl, rfl, rfl, rfl, rfl, trivial⟩ ⟨_, hI.arr (.c .z .n) ⟨.z, (.s .z), trivial⟩, h⟩ rfl
  · replace h := ite_f hb h
    refine c_exit ?_
    refine k_in ?_
    refine k_next (e := [(5, (Value.slice a5 out1.length c4))]) ⟨rfl, trivial⟩ ?_
    refine c_seq ?_
    refine c_region rfl ?_
    refine s_q rfl rfl (y_move rfl (ev_tmp rfl rfl)) ?_
    obtain ⟨c10, hI⟩ := hI.release .z
    obtain ⟨r1, hx6, h⟩ := bnd_some h
    refine s_call rfl rfl (r_callF (vs := [(Value.slice a5 out1.length c4)]) rfl ok_72 ⟨(ev_tmp rfl rfl), trivial⟩) (Calls.mono (c_ref01_trim (Dj F c10) w1 hI.lt out1 a5 c4 ⟨(hI.get .z), trivial⟩ r1 hx6) ?_)
    rintro _ w5 ⟨a7, c11, rfl, hx7, hl1⟩
    refine ⟨_, rfl, ?_⟩
    replace hI := (hI.ext hx7).adds hl1
    refine s_q rfl rfl (y_assign rfl (ev_tmp rfl rfl)) ?_
    refine s_nil ?_
    refine k_next (e := [(4, (Value.slice a7 r1.length c11))]) ⟨rfl, trivial⟩ ?_
    refine c_ret ?_
    obtain rfl := some_inj h
    exact q_ret (vs := [(Value.slice a7 r1.length c11)]) Tryd.results56 ⟨ev_tmp rfl rfl, trivial⟩ ⟨a7, c11, rfl, hI.ext0, hI.fin ⟨.z, trivial⟩⟩

set_option maxRecDepth 100000 in
set_option maxHeartbeats 4000000 in
theorem c_ref01_rest (F : NP) (w0 : World) (hF : ∀ k, F k → k < w0.heap.size) (a1 : List Int) (by1 : Int) (a2 : Option Addr) (c1 : Nat) (hc : AllCl [Cl.sl (cInt .u64) a2 c1 a1] F w0) (r : Int)
    (h : m_ref01_rest a1 by1 = some r) :
    Calls Tryd.prog 73 #[(Value.slice a2 a1.length c1), (Value.int .u64 by1)] w0 fun e w => e = .returned (Value.int .u64 r) ∧ Ext w0 w ∧ AllCl [] F w := by
  refine ofEnter (R := fun v w => v = (Value.int .u64 r) ∧ Ext w0 w ∧ AllCl [] F w) (enter (l := [(Value.slice a2 a1.length c1), (Value.int .u64 by1)]) Tryd.func73 rfl Tryd.ntmps73 rfl ?_) ?_
  rotate_left
  · rintro _ w ⟨rfl, k1, k2⟩; exact ⟨rfl, k1, k2⟩
  have hI := Bun.start hF hc
  clear hc
  rw [m_ref01_rest] at h
  refine c_seq ?_
  refine c_region rfl ?_
  refine s_q rfl rfl (y_assign rfl ev_const) ?_
  refine s_nil ?_
  refine k_next (e := [(0, (Value.slice a2 a1.length c1)), (1, (Value.int .u64 by1))]) ⟨rfl, rfl, trivial⟩ ?_
  refine c_seq ?_
  refine c_region rfl ?_
  refine s_q rfl rfl (y_assign rfl ev_const) ?_
  refine s_nil ?_
  refine k_next (e := [(0, (Value.slice a2 a1.length c1)), (1, (Value.int .u64 by1)), (5, (Value.int .u64 0))]) ⟨rfl, rfl, rfl, trivial⟩ ?_
  refine c_seq ?_
  refine c_seq ?_
  refine c_region rfl ?_
  refine s_q rfl rfl (y_move rfl (ev_tmp rfl rfl)) ?_
  refine s_q rfl rfl (y_lenl rfl Tryd.underlying62 (ev_tmp rfl rfl)) ?_
  refine s_q rfl rfl (y_sub rfl (ev_tmp rfl rfl) ev_const) ?_
  obtain ⟨i1, hx1, h⟩ := bnd_some h
  refine s_q rfl rfl (binU (y_assign rfl (ev_tmp rfl rfl)) (congrArg (Value.int .i64) (some_inj hx1))) ?_
  refine s_nil ?_
  refine k_next (e := [(0, (Value.slice a2 a1.length c1)), (1, (Value.int .u64 by1)), (5, (Value.int .u64 0)), (6, (Value.int .i64 i1))]) ⟨rfl, rfl, rfl, rfl, trivial⟩ ?_
  refine c_block ?_
  refine c_loop (α := Nat × Int × Int) (fun x => fun w => ∃ C, Bun noM F w0 C w [] [Cl.sl (cInt .u64) a2 c1 a1] ∧ m_ref01_rest_l1 a1 by1 (x.1) (x.2.1) (x.2.2) = some r) (fun x _ => x.1) (fun x => [(0, (Value.slice a2 a1.length c1)), (1, (Value.int .u64 by1)), (5, (Value.int .u64 (x.2.1))), (6, (Value.int .i64 (x.2.2)))]) (fu, 0, i1) ⟨_, hI.arr .n ⟨.z, trivial⟩, h⟩ ⟨rfl, rfl, rfl, rfl, trivial⟩ ?_
  clear h hI; rintro ⟨fuel1, r1, i2⟩ w1 ⟨c2, hI, h⟩
  dsimp only at hI h
  rcases fuel1 with _ | fuel1
  · rw [m_ref01_rest_l1] at h; cases h
  rw [m_ref01_rest_l1] at h
  refine c_sub (e := [(0, (Value.slice a2 a1.length c1)), (1, (Value.int .u64 by1)), (5, (Value.int .u64 r1)), (6, (Value.int .i64 i2))]) ⟨rfl, rfl, rfl, rfl, trivial⟩ ?_
  refine c_seq ?_
  refine c_seq ?_
  refine c_region rfl ?_
  refine s_q rfl rfl (y_move rfl (ev_tmp rfl rfl)) ?_
  refine s_q rfl rfl (y_geq rfl (ev_tmp rfl rfl) ev_const) ?_
  refine s_nil ?_
  refine k_next (e := [(0, (Value.slice a2 a1.length c1)), (1, (Value.int .u64 by1)), (5, (Value.int .u64 r1)), (6, (Value.int .i64 i2)), (11, (Value.bool (decide (0 ≤ i2))))]) ⟨rfl, rfl, rfl, rfl, rfl, trivial⟩ ?_
  refine c_cond (b := decide (0 ≤ i2)) (ev_tmp rfl rfl) (fun hb => ?_) (fun hb => ?_)
  · replace h := ite_t hb h
    refine c_skip ?_
    refine k_next (e := [(0, (Value.slice a2 a1.length c1)), (1, (Value.int .u64 by1)), (5, (Value.int .u64 r1)), (6, (Value.int .i64 i2))]) ⟨rfl, rfl, rfl, rfl, trivial⟩ ?_
    refine c_seq ?_
    refine c_block ?_
    refine c_region rfl ?_
    refine s_q rfl rfl (y_move rfl (ev_tmp rfl rfl)) ?_
    refine s_q rfl rfl (y_mul rfl (ev_tmp rfl rfl) ev_const) ?_
    refine s_q rfl rfl (y_move rfl (ev_tmp rfl rfl)) ?_
    refine s_q rfl rfl (y_move rfl (ev_tmp rfl rfl)) ?_
    obtain ⟨e1, hx2, h⟩ := bnd_some h
    obtain ⟨ad1, cs1, hA1, hr1, hq1⟩ := hI.clat .z hx2
    obtain rfl : cs1 = [(Value.int .u64 e1)] := hr1
    refine s_q rfl rfl (y_indexAddr rfl Tryd.underlying62 size_44 (ev_tmp rfl rfl) (ev_tmp rfl rfl) (lat_bd hx2) hA1) ?_
    refine s_q rfl rfl (y_load1 (v := (Value.int .u64 e1)) rfl (ev_tmp rfl rfl) Tryd.underlying44 rfl hq1.1) ?_
    refine s_q rfl rfl (y_add rfl (ev_tmp rfl rfl) (ev_tmp rfl rfl)) ?_
    refine s_q rfl rfl (y_move rfl (ev_tmp rfl rfl)) ?_
    obtain ⟨ho1, h⟩ := chk_some h
    refine s_q rfl rfl (y_rem rfl (ev_tmp rfl rfl) (ev_tmp rfl rfl) ho1) ?_
    obtain ⟨r2, hx3, h⟩ := bnd_some h
    refine s_q rfl rfl (binU (y_assign rfl (ev_tmp rfl rfl)) (congrArg (Value.int .u64) (some_inj hx3))) ?_
    refine s_nil ?_
    refine k_next (e := [(0, (Value.slice a2 a1.length c1)), (1, (Value.int .u64 by1)), (5, (Value.int .u64 r2)), (6, (Value.int .i64 i2))]) ⟨rfl, rfl, rfl, rfl, trivial⟩ ?_
    refine c_region rfl ?_
    refine s_q rfl rfl (y_move rfl (ev_tmp rfl rfl)) ?_
    refine s_q rfl rfl (y_sub rfl (ev_tmp rfl rfl) ev_const) ?_
    refine s_q rfl rfl (y_assign rfl (ev_tmp rfl rfl)) ?_
    refine s_nil ?_
    exact k_loop (fuel1, r2, wi64 (i2 - 1)) ⟨rfl, rfl, rfl, rfl, trivial⟩ ⟨_, hI.arr .n ⟨.z, trivial⟩, h⟩ (Nat.lt_succ_self _)
  · replace h := ite_f hb h
    refine c_exit ?_
    refine k_in ?_
    refine k_next (e := [(5, (Value.int .u64 r1))]) ⟨rfl, trivial⟩ ?_
    refine c_seq ?_
    refine c_region rfl ?_
    refine s_q rfl rfl (y_move rfl (ev_tmp rfl rfl)) ?_
    refine s_q rfl rfl (y_assign rfl (ev_tmp rfl rfl)) ?_
    refine s_nil ?_
    refine k_next (e := [(4, (Value.int .u64 r1))]) ⟨rfl, trivial⟩ ?_
    refine c_ret ?_
    obtain rfl := some_inj h
    exact q_ret (vs := [(Value.int .u64 r1)]) Tryd.results73 ⟨ev_tmp rfl rfl, trivial⟩ ⟨rfl, hI.ext0, hI.fin trivial⟩

set_option maxRecDepth 100000 in
set_option maxHeartbeats 4000000 in
theorem c_ref01_part (F : NP) (w0 : World) (hF : ∀ k, F k → k < w0.heap.size) (a1 : List Int) (by1 : Int) (a2 : Option Addr) (c1 : Nat) (hc : AllCl [Cl.sl (cInt .u64) a2 c1 a1] F w0) (r : List Int)
    (h : m_ref01_part a1 by1 = some r) :
    Calls Tryd.prog 74 #[(Value.slice a2 a1.length c1), (Value.int .u64 by1)] w0 fun e w => ∃ (a3 : Option Addr) (c2 : Nat), e = .returned (Value.slice a3 r.length c2) ∧ Ext w0 w ∧ AllCl [Cl.sl (cInt .u64) a3 c2 r] F w := by
  refine ofEnter (R := fun v w => ∃ (a3 : Option Addr) (c2 : Nat), v = (Value.slice a3 r.length c2) ∧ Ext w0 w ∧ AllCl [Cl.sl (cInt .u64) a3 c2 r] F w) (enter (l := [(Value.slice a2 a1.length c1), (Value.int .u64 by1)]) Tryd.func74 rfl Tryd.ntmps74 rfl ?_) ?_
  rotate_left
  · rintro _ w ⟨a3, c2, rfl, k1, k2⟩; exact ⟨a3, c2, rfl, k1, k2⟩
  have hI := Bun.start hF hc
  clear hc
  rw [m_ref01_part] at h
  refine c_seq ?_
  refine c_region rfl ?_
  refine s_q rfl rfl (y_assign rfl ev_const) ?_
  refine s_nil ?_
  refine k_next (e := [(0, (Value.slice a2 a1.length c1)), (1, (Value.int .u64 by1))]) ⟨rfl, rfl, trivial⟩ ?_
  refine c_seq ?_
  refine c_region rfl ?_
  refine s_q rfl rfl (y_move rfl (ev_tmp rfl rfl)) ?_
  refine s_q rfl rfl (y_lenl rfl Tryd.underlying62 (ev_tmp rfl rfl)) ?_
  obtain ⟨zs1, hx1, h⟩ := bnd_some h
  refine l_make (c := (cInt .u64)) hI hx1 rfl rfl rfl Tryd.underlying62 info_44 rfl rfl (ev_tmp rfl rfl) (ev_tmp rfl rfl) rfl ?_
  clear hI; intro b1 c3 w1 hI
  refine s_q rfl rfl (y_assign rfl (ev_tmp rfl rfl)) ?_
  refine s_nil ?_
  refine k_next (e := [(0, (Value.slice a2 a1.length c1)), (1, (Value.int .u64 by1)), (5, (Value.slice (some ⟨b1, 0, none⟩) zs1.length (((a1.length : Int)).toNat)))]) ⟨rfl, rfl, rfl, trivial⟩ ?_
  refine c_seq ?_
  refine c_region rfl ?_
  refine s_q rfl rfl (y_assign rfl ev_const) ?_
  refine s_nil ?_
  refine k_next (e := [(0, (Value.slice a2 a1.length c1)), (1, (Value.int .u64 by1)), (5, (Value.slice (some ⟨b1, 0, none⟩) zs1.length (((a1.length : Int)).toNat))), (6, (Value.int .u64 0))]) ⟨rfl, rfl, rfl, rfl, trivial⟩ ?_
  refine c_seq ?_
  refine c_seq ?_
  refine c_region rfl ?_
  refine s_q rfl rfl (y_move rfl (ev_tmp rfl rfl)) ?_
  refine s_q rfl rfl (y_lenl rfl Tryd.underlying62 (ev_tmp rfl rfl)) ?_
  refine s_q rfl rfl (y_sub rfl (ev_tmp rfl rfl) ev_const) ?_
  obtain ⟨i1, hx2, h⟩ := bnd_some h
  refine s_q rfl rfl (binU (y_assign rfl (ev_tmp rfl rfl)) (congrArg (Value.int .i64) (some_inj hx2))) ?_
  refine s_nil ?_
  refine k_next (e := [(0, (Value.slice a2 a1.length c1)), (1, (Value.int .u64 by1)), (5, (Value.slice (some ⟨b1, 0, none⟩) zs1.length (((a1.length : Int)).toNat))), (6, (Value.int .u64 0)), (7, (Value.int .i64 i1))]) ⟨rfl, rfl, rfl, rfl, rfl, trivial⟩ ?_
  refine c_block ?_
  refine c_loop (α := Nat × (List Int) × Int × Int × (Option Addr) × Nat) (fun x => fun w => ∃ C, Bun noM F w0 C w [MO.row (cInt .u64) 44 (x.2.2.2.2.1) (x.2.2.2.2.2) (x.2.1)] [Cl.sl (cInt .u64) a2 c1 a1] ∧ m_ref01_part_l1 a1 by1 (x.1) (x.2.1) (x.2.2.1) (x.2.2.2.1) = some r) (fun x _ => x.1) (fun x => [(0, (Value.slice a2 a1.length c1)), (1, (Value.int .u64 by1)), (5, (Value.slice (x.2.2.2.2.1) (x.2.1).length (x.2.2.2.2.2))), (6, (Value.int .u64 (x.2.2.1))), (7, (Value.int .i64 (x.2.2.2.1)))]) (fu, zs1, 0, i1, some ⟨b1, 0, none⟩, ((a1.length : Int)).toNat) ⟨_, hI.arr (.c .z .n) ⟨.z, trivial⟩, h⟩ ⟨rfl, rfl, rfl, rfl, rfl, trivial⟩ ?_
  clear h hI; rintro ⟨fuel1, out1, r1, i2, a4, c4⟩ w2 ⟨c5, hI, h⟩
  dsimp only at hI h
  rcases fuel1 with _ | fuel1
  · rw [m_ref01_part_l1] at h; cases h
  rw [m_ref01_part_l1] at h
  refine c_sub (e := [(0, (Value.slice a2 a1.length c1)), (1, (Value.int .u64 by1)), (5, (Value.slice a4 out1.length c4)), (6, (Value.int .u64 r1)), (7, (Value.int .i64 i2))]) ⟨rfl, rfl, rfl, rfl, rfl, trivial⟩ ?_
  refine c_seq ?_
  refine c_seq ?_
  refine c_region rfl ?_
  refine s_q rfl rfl (y_move rfl (ev_tmp rfl rfl)) ?_
  refine s_q rfl rfl (y_geq rfl (ev_tmp rfl rfl) ev_const) ?_
  refine s_nil ?_
  refine k_next (e := [(0, (Value.slice a2 a1.length c1)), (1, (Value.int .u64 by1)), (5, (Value.slice a4 out1.length c4)), (6, (Value.int .u64 r1)), (7, (Value.int .i64 i2)), (16, (Value.bool (decide (0 ≤ i2))))]) ⟨rfl, rfl, rfl, rfl, rfl, rfl, trivial⟩ ?_
  refine c_cond (b := decide (0 ≤ i2)) (ev_tmp rfl rfl) (fun hb => ?_) (fun hb => ?_)
  · replace h := ite_t hb h
    refine c_skip ?_
    refine k_next (e := [(0, (Value.slice a2 a1.length c1)), (1, (Value.int .u64 by1)), (5, (Value.slice a4 out1.length c4)), (6, (Value.int .u64 r1)), (7, (Value.int .i64 i2))]) ⟨rfl, rfl, rfl, rfl, rfl, trivial⟩ ?_
    refine c_seq ?_
    refine c_block ?_
    refine c_seq ?_
    refine c_region rfl ?_
    refine s_q rfl rfl (y_move rfl (ev_tmp rfl rfl)) ?_
    refine s_q rfl rfl (y_mul rfl (ev_tmp rfl rfl) ev_const) ?_
    refine s_q rfl rfl (y_move rfl (ev_tmp rfl rfl)) ?_
    refine s_q rfl rfl (y_move rfl (ev_tmp rfl rfl)) ?_
    obtain ⟨e1, hx3, h⟩ := bnd_some h
    obtain ⟨ad1, cs1, hA1, hr1, hq1⟩ := hI.clat .z hx3
    obtain rfl : cs1 = [(Value.int .u64 e1)] := hr1
    refine s_q rfl rfl (y_indexAddr rfl Tryd.underlying62 size_44 (ev_tmp rfl rfl) (ev_tmp rfl rfl) (lat_bd hx3) hA1) ?_
    refine s_q rfl rfl (y_load1 (v := (Value.int .u64 e1)) rfl (ev_tmp rfl rfl) Tryd.underlying44 rfl hq1.1) ?_
    refine s_q rfl rfl (y_add rfl (ev_tmp rfl rfl) (ev_tmp rfl rfl)) ?_
    obtain ⟨n1, hx4, h⟩ := bnd_some h
    refine s_q rfl rfl (binU (y_assign rfl (ev_tmp rfl rfl)) (congrArg (Value.int .u64) (some_inj hx4))) ?_
    refine s_nil ?_
    refine k_next (e := [(0, (Value.slice a2 a1.length c1)), (1, (Value.int .u64 by1)), (5, (Value.slice a4 out1.length c4)), (7, (Value.int .i64 i2)), (8, (Value.int .u64 n1))]) ⟨rfl, rfl, rfl, rfl, rfl, trivial⟩ ?_
    refine c_seq ?_
    refine c_region rfl ?_
    refine s_q rfl rfl (y_move rfl (ev_tmp rfl rfl)) ?_
    refine s_q rfl rfl (y_move rfl (ev_tmp rfl rfl)) ?_
    refine s_q rfl rfl (y_move rfl (ev_tmp rfl rfl)) ?_
    refine s_q rfl rfl (y_move rfl (ev_tmp rfl rfl)) ?_
    obtain ⟨ho1, h⟩ := chk_some h
    refine s_q rfl rfl (y_quo rfl (ev_tmp rfl rfl) (ev_tmp rfl rfl) ho1) ?_
    obtain ⟨ho2, h⟩ := chk_some h
    obtain ⟨ad2, hA2⟩ := hI.addr .z ho2
    refine s_q rfl rfl (y_indexAddr rfl Tryd.underlying62 size_44 (ev_tmp rfl rfl) (ev_tmp rfl rfl) ho2 hA2) ?_
    refine l_storeRow (new := [(Value.int .u64 (wu64 (Int.tdiv n1 by1)))]) (off := 0) (x' := wu64 (Int.tdiv n1 by1)) hI .z rfl rfl rfl (by have := ho2; omega) hA2 rfl (ev_tmp rfl rfl) (ev_tmp rfl rfl) rfl size_44 rfl (by show 0 + 1 ≤ 1; omega) (fun _ cs0 _ hr0 => by rw [spl_full (by have e := Cod.len _ hr0; exact e)]; exact rfl) ?_
    clear hI; intro c6 w3 hI
    refine s_nil ?_
    refine k_next (e := [(0, (Value.slice a2 a1.length c1)), (1, (Value.int .u64 by1)), (5, (Value.slice a4 (out1.set (Int.toNat i2) (wu64 (Int.tdiv n1 by1))).length c4)), (7, (Value.int .i64 i2)), (8, (Value.int .u64 n1))]) ⟨rfl, rfl, (lookset rfl), rfl, rfl, trivial⟩ ?_
    refine c_region rfl ?_
    refine s_q rfl rfl (y_move rfl (ev_tmp rfl rfl)) ?_
    refine s_q rfl rfl (y_move rfl (ev_tmp rfl rfl)) ?_
    refine s_q rfl rfl (y_rem rfl (ev_tmp rfl rfl) (ev_tmp rfl rfl) ho1) ?_
    refine s_q rfl rfl (y_assign rfl (ev_tmp rfl rfl)) ?_
    refine s_nil ?_
    refine k_next (e := [(0, (Value.slice a2 a1.length c1)), (1, (Value.int .u64 by1)), (5, (Value.slice a4 (out1.set (Int.toNat i2) (wu64 (Int.tdiv n1 by1))).length c4)), (7, (Value.int .i64 i2)), (6, (Value.int .u64 (Int.tmod n1 by1)))]) ⟨rfl, rfl, rfl, rfl, rfl, trivial⟩ ?_
    refine c_region rfl ?_
    refine s_q rfl rfl (y_move rfl (ev_tmp rfl rfl)) ?_
    refine s_q rfl rfl (y_sub rfl (ev_tmp rfl rfl) ev_const) ?_
    refine s_q rfl rfl (y_assign rfl (ev_tmp rfl rfl)) ?_
    refine s_nil ?_
    exact k_loop (fuel1, out1.set (Int.toNat i2) (wu64 (Int.tdiv n1 by1)), Int.tmod n1 by1, wi64 (i2 - 1), a4, c4) ⟨rfl, rfl, rfl, rfl, rfl, trivial⟩ ⟨_, hI.arr (.c .z .n) ⟨.z, trivial⟩, h⟩ (Nat.lt_succ_self _)
  · replace h := ite_f hb h
    refine c_exit ?_
    refine k_in ?_
    refine k_next (e := [(5, (Value.slice a4 out1.length c4))]) ⟨rfl, trivial⟩ ?_
    refine c_seq ?_
    refine c_region rfl ?_
    refine s_q rfl rfl (y_move rfl (ev_tmp rfl rfl)) ?_
    obtain ⟨c7, hI⟩ := hI.release .z
    obtain ⟨r2, hx5, h⟩ := bnd_some h
    refine s_call rfl rfl (r_callF (vs := [(Value.slice a4 out1.length c4)]) rfl ok_72 ⟨(ev_tmp rfl rfl), trivial⟩) (Calls.mono (c_ref01_trim (Dj F c7) w2 hI.lt out1 a4 c4 ⟨(hI.get .z), trivial⟩ r2 hx5) ?_)
    rintro _ w4 ⟨a5, c8, rfl, hx6, hl1⟩
    refine ⟨_, rfl, ?_⟩
    replace hI := (hI.ext hx6).adds hl1
    refine s_q rfl rfl (y_assign rfl (ev_tmp rfl rfl)) ?_
    refine s_nil ?_
    refine k_next (e := [(4, (Value.slice a5 r2.length c8))]) ⟨rfl, trivial⟩ ?_
    refine c_ret ?_
    obtain rfl := some_inj h
    exact q_ret (vs := [(Value.slice a5 r2.length c8)]) Tryd.results74 ⟨ev_tmp rfl rfl, trivial⟩ ⟨a5, c8, rfl, hI.ext0, hI.fin ⟨.z, trivial⟩⟩

set_option maxRecDepth 100000 in
set_option maxHeartbeats 4000000 in
theorem c_ref01_lowest (F : NP) (w0 : World) (hF : ∀ k, F k → k < w0.heap.size) (minus1 : Bool) (n1 : List Int) (ds1 : List Int) (a1 : Option Addr) (c1 : Nat) (a2 : Option Addr) (c2 : Nat) (hc : AllCl [Cl.sl (cInt .u64) a1 c1 n1, Cl.sl (cInt .u64) a2 c2 ds1] F w0) (r : GVal × Int)
    (h : m_ref01_lowest minus1 n1 ds1 = some r) :
    Calls Tryd.prog 55 #[(Value.bool minus1), (Value.slice a1 n1.length c1), (Value.slice a2 ds1.length c2)] w0 fun e w => e = .returned (Value.tuple #[(Value.agg #[(Value.int .i64 r.1.N), (Value.int .i64 r.1.D)]), (Value.int .i64 r.2)]) ∧ Ext w0 w ∧ AllCl [] F w := by
  refine ofEnter (R := fun v w => v = (Value.tuple #[(Value.agg #[(Value.int .i64 r.1.N), (Value.int .i64 r.1.D)]), (Value.int .i64 r.2)]) ∧ Ext w0 w ∧ AllCl [] F w) (enter (l := [(Value.bool minus1), (Value.slice a1 n1.length c1), (Value.slice a2 ds1.length c2)]) Tryd.func55 rfl Tryd.ntmps55 rfl ?_) ?_
  rotate_left
  · rintro _ w ⟨rfl, k1, k2⟩; exact ⟨rfl, k1, k2⟩
  have hI := Bun.start hF hc
  clear hc
  rw [m_ref01_lowest] at h
  refine c_seq ?_
  refine c_region rfl ?_
  refine l_alloc (cs := #[(Value.int .i64 0), (Value.int .i64 0)]) hI rfl rfl rfl zero_23 rfl ?_
  clear hI; intro b1 c3 w1 hI
  refine s_q rfl rfl (y_assign rfl ev_const) ?_
  refine s_nil ?_
  refine k_next (e := [(0, (Value.bool minus1)), (1, (Value.slice a1 n1.length c1)), (2, (Value.slice a2 ds1.length c2)), (6, (Value.pointer (some ⟨b1, 0, none⟩)))]) ⟨rfl, rfl, rfl, rfl, trivial⟩ ?_
  refine c_seq ?_
  refine c_region rfl ?_
  refine s_q rfl rfl (y_assign rfl ev_const) ?_
  refine s_nil ?_
  refine k_next (e := [(0, (Value.bool minus1)), (1, (Value.slice a1 n1.length c1)), (2, (Value.slice a2 ds1.length c2)), (6, (Value.pointer (some ⟨b1, 0, none⟩))), (8, (Value.int .u64 1))]) ⟨rfl, rfl, rfl, rfl, rfl, trivial⟩ ?_
  refine c_join (α := (List Int) × Int × (Option Addr) × Nat) (fun _ => ⟨65, []⟩) (fun x => [(0, (Value.bool minus1)), (1, (Value.slice (x.2.2.1) (x.1).length (x.2.2.2))), (6, (Value.pointer (some ⟨b1, 0, none⟩))), (8, (Value.int .u64 (x.2.1)))]) (fun x => fun w => ∃ C, Bun noM F w0 C w [MO.box b1 23 #[(Value.int .i64 0), (Value.int .i64 0)]] [Cl.sl (cInt .u64) (x.2.2.1) (x.2.2.2) (x.1)] ∧ m_ref01_lowest_j1 minus1 (x.1) (x.2.1) = some r) ?_ ?_
  · clear h hI; rintro ⟨n2, d1, a3, c4⟩ w2 ⟨c5, hI, h⟩
    try dsimp only at hI h
    rw [m_ref01_lowest_j1] at h
    refine c_sub (e := [(0, (Value.bool minus1)), (1, (Value.slice a3 n2.length c4)), (6, (Value.pointer (some ⟨b1, 0, none⟩))), (8, (Value.int .u64 d1))]) ⟨rfl, rfl, rfl, rfl, trivial⟩ ?_
    refine c_seq ?_
    refine c_seq ?_
    refine c_region rfl ?_
    refine s_q rfl rfl (y_move rfl (ev_tmp rfl rfl)) ?_
    refine s_q rfl rfl (y_lenl rfl Tryd.underlying62 (ev_tmp rfl rfl)) ?_
    refine s_q rfl rfl (y_gtr rfl (ev_tmp rfl rfl) ev_const) ?_
    refine s_q rfl rfl (y_move rfl (ev_tmp rfl rfl)) ?_
    refine s_gval (g_false rfl rfl rfl rfl) rfl (fun hc => (y_move rfl (ev_tmp rfl rfl))) ?_
    refine s_gval (g_false rfl rfl rfl rfl) rfl (fun hc => (y_gtr rfl (ev_gv (ev_tmp rfl rfl) hc) ev_const)) ?_
    refine s_q rfl rfl (y_or rfl (ev_tmp rfl rfl) (ev_tmp rfl rfl)) ?_
    refine s_nil ?_
    refine k_next (e := [(0, (Value.bool minus1)), (1, (Value.slice a3 n2.length c4)), (6, (Value.pointer (some ⟨b1, 0, none⟩))), (8, (Value.int .u64 d1)), (51, (Value.bool ((decide (1 < (n2.length : Int))) || (decide (2147483647 < d1)))))]) ⟨rfl, rfl, rfl, rfl, rfl, trivial⟩ ?_
    refine c_cond (b := (decide (1 < (n2.length : Int))) || (decide (2147483647 < d1))) (ev_tmp rfl rfl) (fun hb => ?_) (fun hb => ?_)
    · replace h := ite_t hb h
      refine c_seq ?_
      refine c_region rfl ?_
      refine s_q rfl rfl (y_build (vs := []) (cs := #[(Value.int .i64 0), (Value.int .i64 0)]) rfl trivial (by kernel_rfl)) ?_
      refine l_store (new := [(Value.int .i64 0), (Value.int .i64 0)]) (cs' := #[(Value.int .i64 0), (Value.int .i64 0)]) hI .z rfl rfl rfl (ev_tmp rfl rfl) (ev_tmp rfl rfl) rfl size_23 rfl rfl rfl ?_
      clear hI; intro c6 w3 hI
      refine s_q rfl rfl (y_assign rfl ev_const) ?_
      refine s_nil ?_
      refine k_next (e := [(6, (Value.pointer (some ⟨b1, 0, none⟩))), (7, (Value.int .i64 3))]) ⟨rfl, rfl, trivial⟩ ?_
      refine c_ret ?_
      obtain rfl := some_inj h
      exact q_ret (vs := [(Value.agg #[(Value.int .i64 0), (Value.int .i64 0)]), (Value.int .i64 3)]) Tryd.results55 ⟨⟨_, ev_tmp rfl rfl, load_agg (l := [(Value.int .i64 0), (Value.int .i64 0)]) Tryd.underlying23 rfl size_23 (CellsAt.of_blk (hI.blk .z) rfl)⟩, ⟨ev_tmp rfl rfl, trivial⟩⟩ ⟨rfl, hI.ext0, hI.fin trivial⟩
    · replace h := ite_f hb h
      refine c_skip ?_
      refine k_next (e := [(0, (Value.bool minus1)), (1, (Value.slice a3 n2.length c4)), (6, (Value.pointer (some ⟨b1, 0, none⟩))), (8, (Value.int .u64 d1))]) ⟨rfl, rfl, rfl, rfl, trivial⟩ ?_
      refine c_seq ?_
      refine c_seq ?_
      refine c_region rfl ?_
      refine s_q rfl rfl (y_move rfl (ev_tmp rfl rfl)) ?_
      refine s_q rfl rfl (y_lenl rfl Tryd.underlying62 (ev_tmp rfl rfl)) ?_
      refine s_q rfl rfl (y_eql rfl (ev_tmp rfl rfl) ev_const) ?_
      refine s_nil ?_
      refine k_next (e := [(0, (Value.bool minus1)), (1, (Value.slice a3 n2.length c4)), (6, (Value.pointer (some ⟨b1, 0, none⟩))), (8, (Value.int .u64 d1)), (55, (Value.bool (decide ((n2.length : Int) = 0))))]) ⟨rfl, rfl, rfl, rfl, rfl, trivial⟩ ?_
      refine c_cond (b := decide ((n2.length : Int) = 0)) (ev_tmp rfl rfl) (fun hb => ?_) (fun hb => ?_)
      · replace h := ite_t hb h
        refine c_seq ?_
        refine c_region rfl ?_
        refine s_q rfl rfl (y_build (vs := [(0, (Value.int .i64 0)), (1, (Value.int .i64 1))]) (cs := #[(Value.int .i64 0), (Value.int .i64 1)]) rfl ⟨rfl, ev_const, ⟨rfl, ev_const, trivial⟩⟩ (by kernel_rfl)) ?_
        refine l_store (new := [(Value.int .i64 0), (Value.int .i64 1)]) (cs' := #[(Value.int .i64 0), (Value.int .i64 1)]) hI .z rfl rfl rfl (ev_tmp rfl rfl) (ev_tmp rfl rfl) rfl size_23 rfl rfl rfl ?_
        clear hI; intro c7 w4 hI
        refine s_q rfl rfl (y_assign rfl ev_const) ?_
        refine s_nil ?_
        refine k_next (e := [(6, (Value.pointer (some ⟨b1, 0, none⟩))), (7, (Value.int .i64 0))]) ⟨rfl, rfl, trivial⟩ ?_
        refine c_ret ?_
        obtain rfl := some_inj h
        exact q_ret (vs := [(Value.agg #[(Value.int .i64 0), (Value.int .i64 1)]), (Value.int .i64 0)]) Tryd.results55 ⟨⟨_, ev_tmp rfl rfl, load_agg (l := [(Value.int .i64 0), (Value.int .i64 1)]) Tryd.underlying23 rfl size_23 (CellsAt.of_blk (hI.blk .z) rfl)⟩, ⟨ev_tmp rfl rfl, trivial⟩⟩ ⟨rfl, hI.ext0, hI.fin trivial⟩
      · replace h := ite_f hb h
        refine c_skip ?_
        refine k_next (e := [(0, (Value.bool minus1)), (1, (Value.slice a3 n2.length c4)), (6, (Value.pointer (some ⟨b1, 0, none⟩))), (8, (Value.int .u64 d1))]) ⟨rfl, rfl, rfl, rfl, trivial⟩ ?_
        refine c_seq ?_
        refine c_region rfl ?_
        refine s_q rfl rfl (y_move rfl (ev_tmp rfl rfl)) ?_
        refine s_q rfl rfl (y_move rfl (ev_tmp rfl rfl)) ?_
        obtain ⟨e1, hx1, h⟩ := bnd_some h
        obtain ⟨ad1, cs1, hA1, hr1, hq1⟩ := hI.clat .z hx1
        obtain rfl : cs1 = [(Value.int .u64 e1)] := hr1
        refine s_q rfl rfl (y_indexAddr rfl Tryd.underlying62 size_44 (ev_tmp rfl rfl) ev_const (lat_bd hx1) hA1) ?_
        refine s_q rfl rfl (y_load1 (v := (Value.int .u64 e1)) rfl (ev_tmp rfl rfl) Tryd.underlying44 rfl hq1.1) ?_
        refine s_q rfl rfl (y_move rfl (ev_tmp rfl rfl)) ?_
        obtain ⟨r1, hx2, h⟩ := bnd_some h
        refine s_call rfl rfl (r_callF (vs := [(Value.bool minus1), (Value.int .u64 e1), (Value.int .u64 d1)]) rfl ok_41 ⟨(ev_tmp rfl rfl), ⟨(ev_tmp rfl rfl), ⟨(ev_tmp rfl rfl), trivial⟩⟩⟩) (Calls.mono (c_ref01_made (Dj F c5) w2 hI.lt minus1 e1 d1 trivial r1 hx2) ?_)
        rintro _ w5 ⟨rfl, hx3, hl1⟩
        refine ⟨_, rfl, ?_⟩
        replace hI := (hI.ext hx3)
        refine s_q rfl rfl (y_extract rfl (ev_tmp rfl rfl) rfl) ?_
        refine s_q rfl rfl (y_extract rfl (ev_tmp rfl rfl) rfl) ?_
        refine l_store (new := [(Value.int .i64 r1.1.N), (Value.int .i64 r1.1.D)]) (cs' := #[(Value.int .i64 r1.1.N), (Value.int .i64 r1.1.D)]) hI .z rfl rfl rfl (ev_tmp rfl rfl) (ev_tmp rfl rfl) rfl size_23 rfl rfl rfl ?_
        clear hI; intro c8 w6 hI
        refine s_q rfl rfl (y_assign rfl (ev_tmp rfl rfl)) ?_
        refine s_nil ?_
        refine k_next (e := [(6, (Value.pointer (some ⟨b1, 0, none⟩))), (7, (Value.int .i64 r1.2))]) ⟨rfl, rfl, trivial⟩ ?_
        refine c_ret ?_
        obtain rfl := some_inj h
        exact q_ret (vs := [(Value.agg #[(Value.int .i64 r1.1.N), (Value.int .i64 r1.1.D)]), (Value.int .i64 r1.2)]) Tryd.results55 ⟨⟨_, ev_tmp rfl rfl, load_agg (l := [(Value.int .i64 r1.1.N), (Value.int .i64 r1.1.D)]) Tryd.underlying23 rfl size_23 (CellsAt.of_blk (hI.blk .z) rfl)⟩, ⟨ev_tmp rfl rfl, trivial⟩⟩ ⟨rfl, hI.ext0, hI.fin trivial⟩
  · skip
    refine c_seq ?_
    refine c_region rfl ?_
    refine s_q rfl rfl (y_assign rfl ev_const) ?_
    refine s_nil ?_
    refine k_next (e := [(0, (Value.bool minus1)), (1, (Value.slice a1 n1.length c1)), (2, (Value.slice a2 ds1.length c2)), (6, (Value.pointer (some ⟨b1, 0, none⟩))), (8, (Value.int .u64 1)), (9, (Value.int .i64 0))]) ⟨rfl, rfl, rfl, rfl, rfl, rfl, trivial⟩ ?_
    refine c_block ?_
    refine c_loop (α := Nat × (List Int) × Int × Int × (Option Addr) × Nat) (fun x => fun w => ∃ C, Bun noM F w0 C w [MO.box b1 23 #[(Value.int .i64 0), (Value.int .i64 0)]] [Cl.sl (cInt .u64) (x.2.2.2.2.1) (x.2.2.2.2.2) (x.2.1), Cl.sl (cInt .u64) a2 c2 ds1] ∧ m_ref01_lowest_l1 ds1 minus1 (x.1) (x.2.1) (x.2.2.1) (x.2.2.2.1) = some r) (fun x _ => x.1) (fun x => [(0, (Value.bool minus1)), (1, (Value.slice (x.2.2.2.2.1) (x.2.1).length (x.2.2.2.2.2))), (2, (Value.slice a2 ds1.length c2)), (6, (Value.pointer (some ⟨b1, 0, none⟩))), (8, (Value.int .u64 (x.2.2.1))), (9, (Value.int .i64 (x.2.2.2.1)))]) (fu, n1, 1, 0, a1, c1) ⟨_, hI.arr (.c .z .n) ⟨.z, (.s .z), trivial⟩, h⟩ ⟨rfl, rfl, rfl, rfl, rfl, rfl, trivial⟩ ?_
    clear h hI; rintro ⟨fuel1, n3, d2, i1, a4, c9⟩ w7 ⟨c10, hI, h⟩
    dsimp only at hI h
    rcases fuel1 with _ | fuel1
    · rw [m_ref01_lowest_l1] at h; cases h
    rw [m_ref01_lowest_l1] at h
    refine c_sub (e := [(0, (Value.bool minus1)), (1, (Value.slice a4 n3.length c9)), (2, (Value.slice a2 ds1.length c2)), (6, (Value.pointer (some ⟨b1, 0, none⟩))), (8, (Value.int .u64 d2)), (9, (Value.int .i64 i1))]) ⟨rfl, rfl, rfl, rfl, rfl, rfl, trivial⟩ ?_
    refine c_seq ?_
    refine c_seq ?_
    refine c_region rfl ?_
    refine s_q rfl rfl (y_move rfl (ev_tmp rfl rfl)) ?_
    refine s_q rfl rfl (y_move rfl (ev_tmp rfl rfl)) ?_
    refine s_q rfl rfl (y_lenl rfl Tryd.underlying62 (ev_tmp rfl rfl)) ?_
    refine s_q rfl rfl (y_lss rfl (ev_tmp rfl rfl) (ev_tmp rfl rfl)) ?_
    refine s_nil ?_
    refine k_next (e := [(0, (Value.bool minus1)), (1, (Value.slice a4 n3.length c9)), (2, (Value.slice a2 ds1.length c2)), (6, (Value.pointer (some ⟨b1, 0, none⟩))), (8, (Value.int .u64 d2)), (9, (Value.int .i64 i1)), (15, (Value.bool (decide (i1 < (ds1.length : Int)))))]) ⟨rfl, rfl, rfl, rfl, rfl, rfl, rfl, trivial⟩ ?_
    refine c_cond (b := decide (i1 < (ds1.length : Int))) (ev_tmp rfl rfl) (fun hb => ?_) (fun hb => ?_)
    · replace h := ite_t hb h
      refine c_skip ?_
      refine k_next (e := [(0, (Value.bool minus1)), (1, (Value.slice a4 n3.length c9)), (2, (Value.slice a2 ds1.length c2)), (6, (Value.pointer (some ⟨b1, 0, none⟩))), (8, (Value.int .u64 d2)), (9, (Value.int .i64 i1))]) ⟨rfl, rfl, rfl, rfl, rfl, rfl, trivial⟩ ?_
      refine c_join (α := (List Int) × Int × (Option Addr) × Nat) (fun _ => ⟨65, []⟩) (fun x => [(0, (Value.bool minus1)), (1, (Value.slice (x.2.2.1) (x.1).length (x.2.2.2))), (2, (Value.slice a2 ds1.length c2)), (6, (Value.pointer (some ⟨b1, 0, none⟩))), (8, (Value.int .u64 (x.2.1))), (9, (Value.int .i64 i1))]) (fun x => fun w => ∃ C, Bun noM F w0 C w [MO.box b1 23 #[(Value.int .i64 0), (Value.int .i64 0)]] [Cl.sl (cInt .u64) (x.2.2.1) (x.2.2.2) (x.1), Cl.sl (cInt .u64) a2 c2 ds1] ∧ m_ref01_lowest_j2 (m_ref01_lowest_l1 ds1 minus1 fuel1) i1 (x.1) (x.2.1) = some r) ?_ ?_
      · clear h hI; rintro ⟨n4, d3, a5, c11⟩ w8 ⟨c12, hI, h⟩
        try dsimp only at hI h
        rw [m_ref01_lowest_j2] at h
        refine c_sub (e := [(0, (Value.bool minus1)), (1, (Value.slice a5 n4.length c11)), (2, (Value.slice a2 ds1.length c2)), (6, (Value.pointer (some ⟨b1, 0, none⟩))), (8, (Value.int .u64 d3)), (9, (Value.int .i64 i1))]) ⟨rfl, rfl, rfl, rfl, rfl, rfl, trivial⟩ ?_
        refine c_region rfl ?_
        refine s_q rfl rfl (y_move rfl (ev_tmp rfl rfl)) ?_
        refine s_q rfl rfl (y_add rfl (ev_tmp rfl rfl) ev_const) ?_
        refine s_q rfl rfl (y_assign rfl (ev_tmp rfl rfl)) ?_
        refine s_nil ?_
        exact k_loop (fuel1, n4, d3, wi64 (i1 + 1), a5, c11) ⟨rfl, rfl, rfl, rfl, rfl, rfl, trivial⟩ ⟨_, hI.arr (.c .z .n) ⟨.z, (.s .z), trivial⟩, h⟩ (Nat.lt_succ_self _)
      · skip
        refine c_block ?_
        refine c_seq ?_
        refine c_region rfl ?_
        refine s_q rfl rfl (y_move rfl (ev_tmp rfl rfl)) ?_
        refine s_q rfl rfl (y_move rfl (ev_tmp rfl rfl)) ?_
        obtain ⟨e2, hx4, h⟩ := bnd_some h
        obtain ⟨ad2, cs2, hA2, hr2, hq2⟩ := hI.clat (.s .z) hx4
        obtain rfl : cs2 = [(Value.int .u64 e2)] := hr2
        refine s_q rfl rfl (y_indexAddr rfl Tryd.underlying62 size_44 (ev_tmp rfl rfl) (ev_tmp rfl rfl) (lat_bd hx4) hA2) ?_
        refine s_q rfl rfl (y_load1 (v := (Value.int .u64 e2)) rfl (ev_tmp rfl rfl) Tryd.underlying44 rfl hq2.1) ?_
        refine s_q rfl rfl (y_assign rfl (ev_tmp rfl rfl)) ?_
        refine s_nil ?_
        refine k_next (e := [(0, (Value.bool minus1)), (1, (Value.slice a4 n3.length c9)), (2, (Value.slice a2 ds1.length c2)), (6, (Value.pointer (some ⟨b1, 0, none⟩))), (8, (Value.int .u64 d2)), (9, (Value.int .i64 i1)), (10, (Value.int .u64 e2))]) ⟨rfl, rfl, rfl, rfl, rfl, rfl, rfl, trivial⟩ ?_
        refine c_join (α := (List Int) × Int × (Option Addr) × Nat) (fun _ => ⟨65, []⟩) (fun x => [(0, (Value.bool minus1)), (1, (Value.slice (x.2.2.1) (x.1).length (x.2.2.2))), (2, (Value.slice a2 ds1.length c2)), (6, (Value.pointer (some ⟨b1, 0, none⟩))), (8, (Value.int .u64 d2)), (9, (Value.int .i64 i1)), (10, (Value.int .u64 (x.2.1)))]) (fun x => fun w => ∃ C, Bun noM F w0 C w [MO.box b1 23 #[(Value.int .i64 0), (Value.int .i64 0)]] [Cl.sl (cInt .u64) (x.2.2.1) (x.2.2.2) (x.1), Cl.sl (cInt .u64) a2 c2 ds1] ∧ m_ref01_lowest_j3 d2 (m_ref01_lowest_l1 ds1 minus1 fuel1) i1 (x.1) (x.2.1) = some r) ?_ ?_
        · clear h hI; rintro ⟨n5, left1, a6, c13⟩ w9 ⟨c14, hI, h⟩
          try dsimp only at hI h
          rw [m_ref01_lowest_j3] at h
          refine c_sub (e := [(0, (Value.bool minus1)), (1, (Value.slice a6 n5.length c13)), (2, (Value.slice a2 ds1.length c2)), (6, (Value.pointer (some ⟨b1, 0, none⟩))), (8, (Value.int .u64 d2)), (9, (Value.int .i64 i1)), (10, (Value.int .u64 left1))]) ⟨rfl, rfl, rfl, rfl, rfl, rfl, rfl, trivial⟩ ?_
          refine c_seq ?_
          refine c_region rfl ?_
          refine s_q rfl rfl (y_move rfl (ev_tmp rfl rfl)) ?_
          refine s_q rfl rfl (y_leq rfl (ev_tmp rfl rfl) ev_const) ?_
          refine s_nil ?_
          refine k_next (e := [(0, (Value.bool minus1)), (1, (Value.slice a6 n5.length c13)), (2, (Value.slice a2 ds1.length c2)), (6, (Value.pointer (some ⟨b1, 0, none⟩))), (8, (Value.int .u64 d2)), (9, (Value.int .i64 i1)), (10, (Value.int .u64 left1)), (41, (Value.bool (decide (d2 ≤ 2147483647))))]) ⟨rfl, rfl, rfl, rfl, rfl, rfl, rfl, rfl, trivial⟩ ?_
          refine c_cond (b := decide (d2 ≤ 2147483647)) (ev_tmp rfl rfl) (fun hb => ?_) (fun hb => ?_)
          · replace h := ite_t hb h
            refine c_region rfl ?_
            refine s_q rfl rfl (y_move rfl (ev_tmp rfl rfl)) ?_
            refine s_q rfl rfl (y_move rfl (ev_tmp rfl rfl)) ?_
            refine s_q rfl rfl (y_mul rfl (ev_tmp rfl rfl) (ev_tmp rfl rfl)) ?_
            refine s_q rfl rfl (y_assign rfl (ev_tmp rfl rfl)) ?_
            refine s_nil ?_
            exact k_join (n5, wu64 (d2 * left1), a6, c13) ⟨rfl, rfl, rfl, rfl, rfl, rfl, trivial⟩ ⟨_, hI.arr (.c .z .n) ⟨.z, (.s .z), trivial⟩, h⟩ rfl
          · replace h := ite_f hb h
            refine c_skip ?_
            exact k_join (n5, d2, a6, c13) ⟨rfl, rfl, rfl, rfl, rfl, rfl, trivial⟩ ⟨_, hI.arr (.c .z .n) ⟨.z, (.s .z), trivial⟩, h⟩ rfl
        · skip
          refine c_seq ?_
          refine c_region rfl ?_
          refine s_q rfl rfl (y_move rfl (ev_tmp rfl rfl)) ?_
          refine s_q rfl rfl (y_move rfl (ev_tmp rfl rfl)) ?_
          obtain ⟨r2, hx5, h⟩ := bnd_some h
          refine s_call rfl rfl (r_callF (vs := [(Value.slice a4 n3.length c9), (Value.int .u64 e2)]) rfl ok_73 ⟨(ev_tmp rfl rfl), ⟨(ev_tmp rfl rfl), trivial⟩⟩) (Calls.mono (c_ref01_rest (Dj F c10) w7 hI.lt n3 e2 a4 c9 ⟨(hI.get .z), trivial⟩ r2 hx5) ?_)
          rintro _ w10 ⟨rfl, hx6, hl2⟩
          refine ⟨_, rfl, ?_⟩
          replace hI := (hI.ext hx6)
          refine s_q rfl rfl (y_move rfl (ev_tmp rfl rfl)) ?_
          obtain ⟨r3, hx7, h⟩ := bnd_some h
          refine s_call rfl rfl (r_callF (vs := [(Value.int .u64 r2), (Value.int .u64 e2)]) rfl ok_63 ⟨(ev_tmp rfl rfl), ⟨(ev_tmp rfl rfl), trivial⟩⟩) (Calls.mono (c_ref01_gcd (Dj F c10) w10 hI.lt r2 e2 trivial r3 hx7) ?_)
          rintro _ w11 ⟨rfl, hx8, hl3⟩
          refine ⟨_, rfl, ?_⟩
          replace hI := (hI.ext hx8)
          refine s_q rfl rfl (y_assign rfl (ev_tmp rfl rfl)) ?_
          refine s_nil ?_
          refine k_next (e := [(0, (Value.bool minus1)), (1, (Value.slice a4 n3.length c9)), (2, (Value.slice a2 ds1.length c2)), (6, (Value.pointer (some ⟨b1, 0, none⟩))), (8, (Value.int .u64 d2)), (9, (Value.int .i64 i1)), (10, (Value.int .u64 e2)), (11, (Value.int .u64 r3))]) ⟨rfl, rfl, rfl, rfl, rfl, rfl, rfl, rfl, trivial⟩ ?_
          refine c_block ?_
          refine c_loop (α := Nat × (List Int) × Int × Int × (Option Addr) × Nat) (fun x => fun w => ∃ C, Bun noM F w0 C w [MO.box b1 23 #[(Value.int .i64 0), (Value.int .i64 0)]] [Cl.sl (cInt .u64) (x.2.2.2.2.1) (x.2.2.2.2.2) (x.2.1), Cl.sl (cInt .u64) a2 c2 ds1] ∧ m_ref01_lowest_l2 d2 (m_ref01_lowest_l1 ds1 minus1 fuel1) i1 (x.1) (x.2.1) (x.2.2.1) (x.2.2.2.1) = some r) (fun x _ => x.1) (fun x => [(0, (Value.bool minus1)), (1, (Value.slice (x.2.2.2.2.1) (x.2.1).length (x.2.2.2.2.2))), (2, (Value.slice a2 ds1.length c2)), (6, (Value.pointer (some ⟨b1, 0, none⟩))), (8, (Value.int .u64 d2)), (9, (Value.int .i64 i1)), (10, (Value.int .u64 (x.2.2.1))), (11, (Value.int .u64 (x.2.2.2.1)))]) (fu, n3, e2, r3, a4, c9) ⟨_, hI.arr (.c .z .n) ⟨.z, (.s .z), trivial⟩, h⟩ ⟨rfl, rfl, rfl, rfl, rfl, rfl, rfl, rfl, trivial⟩ ?_
          clear h hI; rintro ⟨fuel2, n6, left2, g1, a7, c15⟩ w12 ⟨c16, hI, h⟩
          dsimp only at hI h
          rcases fuel2 with _ | fuel2
          · rw [m_ref01_lowest_l2] at h; cases h
          rw [m_ref01_lowest_l2] at h
          refine c_sub (e := [(0, (Value.bool minus1)), (1, (Value.slice a7 n6.length c15)), (2, (Value.slice a2 ds1.length c2)), (6, (Value.pointer (some ⟨b1, 0, none⟩))), (8, (Value.int .u64 d2)), (9, (Value.int .i64 i1)), (10, (Value.int .u64 left2)), (11, (Value.int .u64 g1))]) ⟨rfl, rfl, rfl, rfl, rfl, rfl, rfl, rfl, trivial⟩ ?_
          refine c_seq ?_
          refine c_seq ?_
          refine c_region rfl ?_
          refine s_q rfl rfl (y_move rfl (ev_tmp rfl rfl)) ?_
          refine s_q rfl rfl (y_gtr rfl (ev_tmp rfl rfl) ev_const) ?_
          refine s_nil ?_
          refine k_next (e := [(0, (Value.bool minus1)), (1, (Value.slice a7 n6.length c15)), (2, (Value.slice a2 ds1.length c2)), (6, (Value.pointer (some ⟨b1, 0, none⟩))), (8, (Value.int .u64 d2)), (9, (Value.int .i64 i1)), (10, (Value.int .u64 left2)), (11, (Value.int .u64 g1)), (28, (Value.bool (decide (1 < g1))))]) ⟨rfl, rfl, rfl, rfl, rfl, rfl, rfl, rfl, rfl, trivial⟩ ?_
          refine c_cond (b := decide (1 < g1)) (ev_tmp rfl rfl) (fun hb => ?_) (fun hb => ?_)
          · replace h := ite_t hb h
            refine c_skip ?_
            refine k_next (e := [(0, (Value.bool minus1)), (1, (Value.slice a7 n6.length c15)), (2, (Value.slice a2 ds1.length c2)), (6, (Value.pointer (some ⟨b1, 0, none⟩))), (8, (Value.int .u64 d2)), (9, (Value.int .i64 i1)), (10, (Value.int .u64 left2)), (11, (Value.int .u64 g1))]) ⟨rfl, rfl, rfl, rfl, rfl, rfl, rfl, rfl, trivial⟩ ?_
            refine c_seq ?_
            refine c_block ?_
            refine c_seq ?_
            refine c_region rfl ?_
            refine s_q rfl rfl (y_move rfl (ev_tmp rfl rfl)) ?_
            refine s_q rfl rfl (y_move rfl (ev_tmp rfl rfl)) ?_
            obtain ⟨r4, hx9, h⟩ := bnd_some h
            refine s_call rfl rfl (r_callF (vs := [(Value.slice a7 n6.length c15), (Value.int .u64 g1)]) rfl ok_74 ⟨(ev_tmp rfl rfl), ⟨(ev_tmp rfl rfl), trivial⟩⟩) (Calls.mono (c_ref01_part (Dj F c16) w12 hI.lt n6 g1 a7 c15 ⟨(hI.get .z), trivial⟩ r4 hx9) ?_)
            rintro _ w13 ⟨a8, c17, rfl, hx10, hl4⟩
            refine ⟨_, rfl, ?_⟩
            replace hI := (hI.ext hx10).adds hl4
            refine s_q rfl rfl (y_assign rfl (ev_tmp rfl rfl)) ?_
            refine s_nil ?_
            refine k_next (e := [(0, (Value.bool minus1)), (1, (Value.slice a8 r4.length c17)), (2, (Value.slice a2 ds1.length c2)), (6, (Value.pointer (some ⟨b1, 0, none⟩))), (8, (Value.int .u64 d2)), (9, (Value.int .i64 i1)), (10, (Value.int .u64 left2)), (11, (Value.int .u64 g1))]) ⟨rfl, rfl, rfl, rfl, rfl, rfl, rfl, rfl, trivial⟩ ?_
            refine c_region rfl ?_
            refine s_q rfl rfl (y_move rfl (ev_tmp rfl rfl)) ?_
            refine s_q rfl rfl (y_move rfl (ev_tmp rfl rfl)) ?_
            obtain ⟨ho1, h⟩ := chk_some h
            refine s_q rfl rfl (y_quo rfl (ev_tmp rfl rfl) (ev_tmp rfl rfl) ho1) ?_
            refine s_q rfl rfl (y_assign rfl (ev_tmp rfl rfl)) ?_
            refine s_nil ?_
            refine k_next (e := [(0, (Value.bool minus1)), (1, (Value.slice a8 r4.length c17)), (2, (Value.slice a2 ds1.length c2)), (6, (Value.pointer (some ⟨b1, 0, none⟩))), (8, (Value.int .u64 d2)), (9, (Value.int .i64 i1)), (10, (Value.int .u64 (wu64 (Int.tdiv left2 g1))))]) ⟨rfl, rfl, rfl, rfl, rfl, rfl, rfl, trivial⟩ ?_
            refine c_region rfl ?_
            refine s_q rfl rfl (y_move rfl (ev_tmp rfl rfl)) ?_
            refine s_q rfl rfl (y_move rfl (ev_tmp rfl rfl)) ?_
            obtain ⟨r5, hx11, h⟩ := bnd_some h
            refine s_call rfl rfl (r_callF (vs := [(Value.slice a8 r4.length c17), (Value.int .u64 (wu64 (Int.tdiv left2 g1)))]) rfl ok_73 ⟨(ev_tmp rfl rfl), ⟨(ev_tmp rfl rfl), trivial⟩⟩) (Calls.mono (c_ref01_rest (Dj F c16) w13 hI.lt r4 (wu64 (Int.tdiv left2 g1)) a8 c17 ⟨(hI.get .z), trivial⟩ r5 hx11) ?_)
            rintro _ w14 ⟨rfl, hx12, hl5⟩
            refine ⟨_, rfl, ?_⟩
            replace hI := (hI.ext hx12)
            refine s_q rfl rfl (y_move rfl (ev_tmp rfl rfl)) ?_
            obtain ⟨r6, hx13, h⟩ := bnd_some h
            refine s_call rfl rfl (r_callF (vs := [(Value.int .u64 r5), (Value.int .u64 (wu64 (Int.tdiv left2 g1)))]) rfl ok_63 ⟨(ev_tmp rfl rfl), ⟨(ev_tmp rfl rfl), trivial⟩⟩) (Calls.mono (c_ref01_gcd (Dj F c16) w14 hI.lt r5 (wu64 (Int.tdiv left2 g1)) trivial r6 hx13) ?_)
            rintro _ w15 ⟨rfl, hx14, hl6⟩
            refine ⟨_, rfl, ?_⟩
            replace hI := (hI.ext hx14)
            refine s_q rfl rfl (y_assign rfl (ev_tmp rfl rfl)) ?_
            refine s_nil ?_
            exact k_loop (fuel2, r4, wu64 (Int.tdiv left2 g1), r6, a8, c17) ⟨rfl, rfl, rfl, rfl, rfl, rfl, rfl, rfl, trivial⟩ ⟨_, hI.arr (.c .z .n) ⟨.z, (.s (.s .z)), trivial⟩, h⟩ (Nat.lt_succ_self _)
          · replace h := ite_f hb h
            refine c_exit ?_
            refine k_in ?_
            exact k_join (n6, left2, a7, c15) ⟨rfl, rfl, rfl, rfl, rfl, rfl, rfl, trivial⟩ ⟨_, hI.arr (.c .z .n) ⟨.z, (.s .z), trivial⟩, h⟩ rfl
    · replace h := ite_f hb h
      refine c_exit ?_
      refine k_in ?_
      exact k_join (n3, d2, a4, c9) ⟨rfl, rfl, rfl, rfl, trivial⟩ ⟨_, hI.arr (.c .z .n) ⟨.z, trivial⟩, h⟩ rfl

end Go.Proofs.YtkmenmoiagkegaaDoor
