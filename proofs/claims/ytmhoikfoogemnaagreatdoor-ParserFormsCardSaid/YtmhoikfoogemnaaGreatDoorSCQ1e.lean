import Derived.Test.YtmhoikfoogemnaaGreatDoorSCQ1d
import Derived.Test.YtmhoikfoogemnaaGreatDoorSLfW
namespace Go.Proofs.YtmhoikfoogemnaaGreatDoor
open Go Go.RowKit Go.Vc
set_option maxRecDepth 100000
set_option maxHeartbeats 4000000
set_option linter.unusedVariables false
set_option linter.unusedSimpArgs false
def tr_parser_reader_chain_w2_3_0 : Tr := (.c (4, .s) (.c (5, .q) (.c (6, .s) .n)))
theorem c_parser_reader_chain_w2 (rec_ : (Gparser_reader → Option (Pan (GExpr × Gparser_reader)))) (hrec : ∀ (C0 F : NP) (w0 : World) (r1 : Gparser_reader) (b1 : Nat) (a1 : Option Addr) (c1 : Nat) (hI : Bun C0 F w0 C0 w0 [MO.box b1 67 (Aparser_reader r1 a1 c1)] [Cl.sl cGToken a1 c1 r1.l, clSpace]) (r : Pan (GExpr × Gparser_reader)) (h : rec_ r1 = some r), Calls Tryz.prog 34 #[vp b1 0] w0 fun e w => (∃ rx : GExpr × Gparser_reader, r = .ret rx ∧ ∃ (a2 : Option Addr) (c2 : Nat) (a3 : Option Addr) (c3 : Nat) (a4 : Option Addr) (c4 : Nat) (a5 : Option Addr) (c5 : Nat) (C : NP), e = .returned (Value.agg (AExpr rx.1 a2 c2 a3 c3 a4 c4)) ∧ Bun C0 F w0 C w [MO.box b1 67 (Aparser_reader rx.2 a5 c5)] [Cl.sl cGMono a2 c2 rx.1.Lin.L, Cl.sl cGIndex a3 c3 rx.1.Idx, Cl.sl cGExpr a4 c4 rx.1.Args, Cl.sl cGToken a5 c5 rx.2.l]) ∨ ∃ (pa pn : Int), r = .pan pa pn ∧ e = .panicked [pe 114 pa pn] ∧ ∃ C : NP, Bun C0 F w0 C w [] []) (C0 F : NP) (w0 : World) (r1 : Gparser_reader) (signs1 : List (List UInt8)) (ops1 : List Int) (b1 : Nat) (a1 : Option Addr) (c1 : Nat) (a2 : Option Addr) (c2 : Nat) (a3 : Option Addr) (c3 : Nat) (hI : Bun C0 F w0 C0 w0 [MO.box b1 67 (Aparser_reader r1 a1 c1)] [Cl.sl cGToken a1 c1 r1.l, Cl.sl cStr a2 c2 signs1, Cl.sl (cInt .i64) a3 c3 ops1, clSpace]) (r : Pan (GExpr × Gparser_reader))
  (h : m_parser_reader_chain_w2 rec_ r1 signs1 ops1 = some r) :
  Calls Tryz.prog 74 #[vp b1 0, (Value.func (.func 140) #[vp b1 0] #[]), vs a2 signs1.length c2, vs a3 ops1.length c3] w0 fun e w => (∃ rx : GExpr × Gparser_reader, r = .ret rx ∧ ∃ (a4 : Option Addr) (c4 : Nat) (a5 : Option Addr) (c5 : Nat) (a6 : Option Addr) (c6 : Nat) (a7 : Option Addr) (c7 : Nat) (C : NP), e = .returned (Value.agg (AExpr rx.1 a4 c4 a5 c5 a6 c6)) ∧ Bun C0 F w0 C w [MO.box b1 67 (Aparser_reader rx.2 a7 c7)] [Cl.sl cGMono a4 c4 rx.1.Lin.L, Cl.sl cGIndex a5 c5 rx.1.Idx, Cl.sl cGExpr a6 c6 rx.1.Args, Cl.sl cGToken a7 c7 rx.2.l]) ∨ ∃ (pa pn : Int), r = .pan pa pn ∧ e = .panicked [pe 114 pa pn] ∧ ∃ C : NP, Bun C0 F w0 C w [] [] := by
 refine enterP (l := [vp b1 0, (Value.func (.func 140) #[vp b1 0] #[]), vs a2 signs1.length c2, vs a3 ops1.length c3]) Tryz.func74 rfl Tryz.ntmps74 rfl ?_
 rw [m_parser_reader_chain_w2] at h
 refine sr (l_alloc (cs := #[vi 0, (str ([] : List UInt8)), vi 0, vi 0, vi 0, vi 0, vi 0, vi 0, vi 0, vi 0, vs none 0 0, vs none 0 0, vs none 0 0]) hI gn rfl rfl zero_39 rfl ?_)
 clear hI; intro b2 c8 w1 hI
 refine T ?_
 obtain ⟨c9, f1, hB, hl1, hk1⟩ := hI.hands (.r (.l .n))
 refine s_pb h (fun _ hx1 => c_parser_reader_not_w rec_ hrec c9 f1 w1 r1 b1 a1 c1 (hB.subs ⟨.z, (.s (.s (.s .z))), trivial⟩) _ hx1) (pnb hk1) (r_call (fs := [vp b1 0]) (vs := []) (cap := []) rfl et ok_140 trivial) ?_
 rintro ⟨r2, s1⟩ hx1 h _ w2 ⟨a8, c10, a9, c11, a10, c12, a11, c13, c14, rfl, hB2⟩
 try dsimp only at h
 obtain ⟨c15, hs1, hI⟩ := hk1 _ _ _ _ hB2
 dsimp only [ca, na] at hI
 refine ⟨_, rfl, ?_⟩
 refine l_alloc (cs := #[vi 0, (str ([] : List UInt8)), vi 0, vi 0, vi 0, vi 0, vi 0, vi 0, vi 0, vi 0, vs none 0 0, vs none 0 0, vs none 0 0]) hI gn rfl rfl zero_39 rfl ?_
 clear hI; intro b3 c16 w3 hI
 refine l_store (new := (lExpr r2 a8 c10 a9 c11 a10 c12)) (cs' := (AExpr r2 a8 c10 a9 c11 a10 c12)) hI .z gn rfl rfl et et rfl size_39 rfl rfl rfl ?_
 clear hI; intro c17 w4 hI
 refine T ?_
 refine c_loop (α := Nat × Gparser_reader × GExpr × (Option Addr) × Nat × (Option Addr) × Nat × (Option Addr) × Nat × (Option Addr) × Nat) (fun x => fun w => ∃ C, Bun C0 F w0 C w [MO.box b1 67 (Aparser_reader (x.2.1) (x.2.2.2.1) (x.2.2.2.2.1)), MO.box b2 39 #[vi 0, (str ([] : List UInt8)), vi 0, vi 0, vi 0, vi 0, vi 0, vi 0, vi 0, vi 0, vs none 0 0, vs none 0 0, vs none 0 0], MO.box b3 39 (AExpr (x.2.2.1) (x.2.2.2.2.2.1) (x.2.2.2.2.2.2.1) (x.2.2.2.2.2.2.2.1) (x.2.2.2.2.2.2.2.2.1) (x.2.2.2.2.2.2.2.2.2.1) (x.2.2.2.2.2.2.2.2.2.2))] [Cl.sl cGToken (x.2.2.2.1) (x.2.2.2.2.1) (x.2.1).l, Cl.sl cGMono (x.2.2.2.2.2.1) (x.2.2.2.2.2.2.1) (x.2.2.1).Lin.L, Cl.sl cGIndex (x.2.2.2.2.2.2.2.1) (x.2.2.2.2.2.2.2.2.1) (x.2.2.1).Idx, Cl.sl cGExpr (x.2.2.2.2.2.2.2.2.2.1) (x.2.2.2.2.2.2.2.2.2.2) (x.2.2.1).Args, Cl.sl cStr a2 c2 signs1, Cl.sl (cInt .i64) a3 c3 ops1, clSpace] ∧ m_parser_reader_chain_w2_l1 signs1 ops1 rec_ (x.1) (x.2.1) (x.2.2.1) = some r) (fun x _ => x.1) (fun x => [(0, vp b1 0), (1, (Value.func (.func 140) #[vp b1 0] #[])), (2, vs a2 signs1.length c2), (3, vs a3 ops1.length c3), (8, vp b2 0), (9, vp b3 0)]) (fu, s1, r2, a11, c13, a8, c10, a9, c11, a10, c12) ⟨_, hI.arr (.c (.s .z) (.c (.s .z) (.c .z .n))) ⟨(.s (.s (.s .z))), .z, (.s .z), (.s (.s .z)), (.s (.s (.s (.s (.s .z))))), (.s (.s (.s (.s (.s (.s .z)))))), (.s (.s (.s (.s (.s (.s (.s .z))))))), trivial⟩, h⟩ ⟨rfl, rfl, rfl, rfl, rfl, rfl, trivial⟩ ?_
 clear h hI; rintro ⟨fuel1, r3, e1, a12, c18, a13, c19, a14, c20, a15, c21⟩ w5 ⟨c22, hI, h⟩
 dsimp only at hI h
 rcases fuel1 with _ | fuel1
 ·rw [m_parser_reader_chain_w2_l1] at h; cases h
 rw [m_parser_reader_chain_w2_l1] at h
 refine c_sub (e := [(0, vp b1 0), (1, (Value.func (.func 140) #[vp b1 0] #[])), (2, vs a2 signs1.length c2), (3, vs a3 ops1.length c3), (8, vp b2 0), (9, vp b3 0)]) ⟨rfl, rfl, rfl, rfl, rfl, rfl, trivial⟩ ?_
 refine T ?_
 refine c_join (α := Int × Gparser_reader × (Option Addr) × Nat) (fun _ => ⟨43, []⟩) (fun x => [(0, vp b1 0), (1, (Value.func (.func 140) #[vp b1 0] #[])), (2, vs a2 signs1.length c2), (3, vs a3 ops1.length c3), (8, vp b2 0), (9, vp b3 0), (10, vi (x.1))]) (fun x => fun w => ∃ C, Bun C0 F w0 C w [MO.box b1 67 (Aparser_reader (x.2.1) (x.2.2.1) (x.2.2.2)), MO.box b2 39 #[vi 0, (str ([] : List UInt8)), vi 0, vi 0, vi 0, vi 0, vi 0, vi 0, vi 0, vi 0, vs none 0 0, vs none 0 0, vs none 0 0], MO.box b3 39 (AExpr e1 a13 c19 a14 c20 a15 c21)] [Cl.sl cGToken (x.2.2.1) (x.2.2.2) (x.2.1).l, Cl.sl cStr a2 c2 signs1, Cl.sl (cInt .i64) a3 c3 ops1, Cl.sl cGMono a13 c19 e1.Lin.L, Cl.sl cGIndex a14 c20 e1.Idx, Cl.sl cGExpr a15 c21 e1.Args, clSpace] ∧ m_parser_reader_chain_w2_j1 e1 rec_ (m_parser_reader_chain_w2_l1 signs1 ops1 rec_ fuel1) (x.1) (x.2.1) = some r) ?_ ?_
 ·clear h hI; rintro ⟨op1, r4, a16, c23⟩ w6 ⟨c24, hI, h⟩
  try dsimp only at hI h
  rw [m_parser_reader_chain_w2_j1] at h
  refine c_sub (e := [(0, vp b1 0), (1, (Value.func (.func 140) #[vp b1 0] #[])), (2, vs a2 signs1.length c2), (3, vs a3 ops1.length c3), (8, vp b2 0), (9, vp b3 0), (10, vi op1)]) ⟨rfl, rfl, rfl, rfl, rfl, rfl, rfl, trivial⟩ ?_
  refine c_seq (T ?_)
  refine cif h et (fun hb h => ?_) (fun hb h => ?_)
  ·refine T ?_
   refine l_store (new := (lExpr e1 a13 c19 a14 c20 a15 c21)) (cs' := (AExpr e1 a13 c19 a14 c20 a15 c21)) hI (.s .z) gn rfl rfl et et rfl size_39 rfl rfl rfl ?_
   clear hI; intro c25 w7 hI
   refine nk (c_ret ?_)
   obtain rfl := some_inj h
   exact q_ret (vs := [(Value.agg (AExpr e1 a13 c19 a14 c20 a15 c21))]) Tryz.results74 ⟨⟨_, ev_tmp rfl rfl, load_agg (l := (lExpr e1 a13 c19 a14 c20 a15 c21)) u39 rfl size_39 (CellsAt.of_blk (hI.blk (.s .z)) rfl)⟩, trivial⟩ (.inl ⟨_, rfl, a13, c19, a14, c20, a15, c21, a16, c23, _, rfl, hI.arr (.c .z .n) ⟨(.s (.s (.s .z))), (.s (.s (.s (.s .z)))), (.s (.s (.s (.s (.s .z))))), .z, trivial⟩⟩)
  refine T ?_
  rcases pb_some h with ⟨⟨r5, s2⟩, hx2, h⟩ | ⟨pa_, pn_, hx2, hp_⟩
  rotate_left
  ·subst hp_
   refine c_drawX [3, 6] false (.c (0, .q) (.c (2, .q) (.two 1 (.c (3, .s) tr_parser_reader_chain_w2_3_0) 3 (.c (1, .s) tr_parser_reader_chain_w2_3_0)))) hI (by kernel_rfl) (by kernel_rfl) ?_
   clear hI; intro w12 hI
   refine V ?_
   refine a_two ?_ ?_
   ·skip
    refine a_val rfl gn rfl (y_loadN (l := (lExpr e1 a13 c19 a14 c20 a15 c21)) rfl et u39 rfl size_39 (CellsAt.of_blk (hI.blk (.s (.s .z))) rfl)) SX.self ?_
    refine a_turn (F := F) (C := c24) rfl rfl ?_
    obtain ⟨c26, f2, hB, hl2, hk2⟩ := hI.hands (.l (.r (.r .n)))
    refine la_callP rfl gn rfl (r_call (fs := [vp b1 0]) (vs := []) (cap := []) rfl et ok_140 trivial) (Calls.mono (c_parser_reader_not_w rec_ hrec c26 f2 w12 r4 b1 a16 c23 (hB.subs ⟨.z, (.s (.s (.s (.s (.s (.s .z)))))), trivial⟩) _ hx2) ?_)
    intro e_ w_ hq_; obtain ⟨rfl, C_, hB_⟩ := pan_of hq_; obtain ⟨C9_, -, hI_⟩ := hk2 _ _ _ _ hB_; exact .inr ⟨_, rfl, kp_of (.inr ⟨_, _, rfl, rfl, ⟨_, hI_.arr .n trivial⟩⟩)⟩
   refine a_turnT (F := F) (C := c24) rfl rfl ?_
   obtain ⟨c26, f2, hB, hl2, hk2⟩ := hI.hands (.l (.r (.r .n)))
   refine la_callP rfl gn rfl (r_call (fs := [vp b1 0]) (vs := []) (cap := []) rfl et ok_140 trivial) (Calls.mono (c_parser_reader_not_w rec_ hrec c26 f2 w12 r4 b1 a16 c23 (hB.subs ⟨.z, (.s (.s (.s (.s (.s (.s .z)))))), trivial⟩) _ hx2) ?_)
   intro e_ w_ hq_; obtain ⟨rfl, C_, hB_⟩ := pan_of hq_; obtain ⟨C9_, -, hI_⟩ := hk2 _ _ _ _ hB_; exact .inr ⟨_, rfl, kp_of (.inr ⟨_, _, rfl, rfl, ⟨_, hI_.arr .n trivial⟩⟩)⟩
  try dsimp only at h
  refine c_drawX [3, 6] false (.c (0, .q) (.c (2, .q) (.two 1 (.c (3, .s) tr_parser_reader_chain_w2_3_0) 3 (.c (1, .s) tr_parser_reader_chain_w2_3_0)))) hI (by kernel_rfl) (by kernel_rfl) ?_
  clear hI; intro w13 hI
  refine a_join (α := (Option Addr) × Nat × (Option Addr) × Nat × (Option Addr) × Nat × (Option Addr) × Nat × NP) (T := tr_parser_reader_chain_w2_3_0) (fun x => [(0, vp b1 0), (1, (Value.func (.func 140) #[vp b1 0] #[])), (2, vs a2 signs1.length c2), (3, vs a3 ops1.length c3), (8, vp b2 0), (9, vp b3 0), (10, vi op1), (34, vi op1), (35, (vb (decide (op1 = 0)))), (37, vi op1), (38, (Value.agg (AExpr e1 a13 c19 a14 c20 a15 c21))), (39, (Value.func (.func 140) #[vp b1 0] #[])), (40, (Value.agg (AExpr r5 (x.1) (x.2.1) (x.2.2.1) (x.2.2.2.1) (x.2.2.2.2.1) (x.2.2.2.2.2.1))))]) (fun x w => Bun C0 F w0 (x.2.2.2.2.2.2.2.2) w [MO.box b1 67 (Aparser_reader s2 (x.2.2.2.2.2.2.1) (x.2.2.2.2.2.2.2.1)), MO.box b2 39 #[vi 0, (str ([] : List UInt8)), vi 0, vi 0, vi 0, vi 0, vi 0, vi 0, vi 0, vi 0, vs none 0 0, vs none 0 0, vs none 0 0], MO.box b3 39 (AExpr e1 a13 c19 a14 c20 a15 c21)] [Cl.sl cGMono (x.1) (x.2.1) r5.Lin.L, Cl.sl cGIndex (x.2.2.1) (x.2.2.2.1) r5.Idx, Cl.sl cGExpr (x.2.2.2.2.1) (x.2.2.2.2.2.1) r5.Args, Cl.sl cGToken (x.2.2.2.2.2.2.1) (x.2.2.2.2.2.2.2.1) s2.l, Cl.sl cGToken a16 c23 r4.l, Cl.sl cStr a2 c2 signs1, Cl.sl (cInt .i64) a3 c3 ops1, Cl.sl cGMono a13 c19 e1.Lin.L, Cl.sl cGIndex a14 c20 e1.Idx, Cl.sl cGExpr a15 c21 e1.Args, clSpace]) (fun x w => SN [] (DM true F (x.2.2.2.2.2.2.2.2)) w) ?_ ?_
  ·clear hI; rintro ⟨a17, c27, a18, c28, a19, c29, a20, c30, c35⟩ w11 hI
   try dsimp only at hI ⊢
   unfold tr_parser_reader_chain_w2_3_0
   refine la_lit (c := cGExpr) (xs := ([e1, r5] : List GExpr)) (vs := [(0, (Value.agg (AExpr e1 a13 c19 a14 c20 a15 c21))), (1, (Value.agg (AExpr r5 a17 c27 a18 c28 a19 c29)))]) (cs := #[vi e1.Op, (str e1.Name), vi e1.Val.N, vi e1.Val.D, vi e1.Type_.Kind, vi e1.Type_.Bits, vi e1.Type_.Frac, vi e1.Type_.Round, vi e1.Type_.Over, vi e1.Lin.K, vs a13 e1.Lin.L.length c19, vs a14 e1.Idx.length c20, vs a15 e1.Args.length c21, vi r5.Op, (str r5.Name), vi r5.Val.N, vi r5.Val.D, vi r5.Type_.Kind, vi r5.Type_.Bits, vi r5.Type_.Frac, vi r5.Type_.Round, vi r5.Type_.Over, vi r5.Lin.K, vs a17 r5.Lin.L.length c27, vs a18 r5.Idx.length c28, vs a19 r5.Args.length c29]) (css := [(lExpr e1 a13 c19 a14 c20 a15 c21), (lExpr r5 a17 c27 a18 c28 a19 c29)]) hI rfl gn rfl rfl u37 info_39 rfl ⟨rfl, et, ⟨rfl, et, trivial⟩⟩ (by kernel_rfl) ⟨(cGExpr_in ⟨a13, c19, a14, c20, a15, c21, rfl, hI.get (.s (.s (.s (.s (.s (.s (.s .z))))))), hI.get (.s (.s (.s (.s (.s (.s (.s (.s .z)))))))), hI.get (.s (.s (.s (.s (.s (.s (.s (.s (.s .z)))))))))⟩), ⟨(cGExpr_in ⟨a17, c27, a18, c28, a19, c29, rfl, hI.get .z, hI.get (.s .z), hI.get (.s (.s .z))⟩), trivial⟩⟩ rfl rfl rfl ?_
   clear hI; intro b4 c33 w9 hI
   refine a_q rfl gn rfl (fun w' => (y_build (vs := [(0, vi op1), (6, vs (some ⟨b4, 0, none⟩) ([e1, r5] : List GExpr).length 2)]) (cs := #[vi op1, (str ([] : List UInt8)), vi 0, vi 0, vi 0, vi 0, vi 0, vi 0, vi 0, vi 0, vs none 0 0, vs none 0 0, vs (some ⟨b4, 0, none⟩) ([e1, r5] : List GExpr).length 2]) rfl ⟨rfl, et, ⟨rfl, et, trivial⟩⟩ (by kernel_rfl))) ?_
   refine la_store (new := [vi op1, (str ([] : List UInt8)), vi 0, vi 0, vi 0, vi 0, vi 0, vi 0, vi 0, vi 0, vs none 0 0, vs none 0 0, vs (some ⟨b4, 0, none⟩) ([e1, r5] : List GExpr).length 2]) (cs' := #[vi op1, (str ([] : List UInt8)), vi 0, vi 0, vi 0, vi 0, vi 0, vi 0, vi 0, vi 0, vs none 0 0, vs none 0 0, vs (some ⟨b4, 0, none⟩) ([e1, r5] : List GExpr).length 2]) hI (.s (.s (.s .z))) rfl gn rfl rfl et et rfl size_39 rfl rfl rfl ?_
   clear hI; intro c34 w10 hI
   refine a_nil ?_
   have hI := hI.add (c := Cl.sl cGMono none 0 ([] : List GMono)) SlC.nil
   have hI := hI.add (c := Cl.sl cGIndex none 0 ([] : List GIndex)) SlC.nil
   obtain ⟨c36, hI⟩ := hI.release .z
   exact k_loop (fuel1, s2, (⟨op1, ([] : List UInt8), (⟨0, 0⟩ : GVal), (⟨0, 0, 0, 0, 0⟩ : GType), (⟨0, ([] : List GMono)⟩ : GLin), ([] : List GIndex), ([e1, r5] : List GExpr)⟩ : GExpr), a20, c30, none, 0, none, 0, some ⟨b4, 0, none⟩, 2) ⟨rfl, rfl, rfl, rfl, rfl, rfl, trivial⟩ ⟨_, hI.arr (.c .z (.c .z (.c .z .n))) ⟨(.s (.s (.s (.s (.s (.s .z)))))), (.s (.s .z)), (.s .z), .z, (.s (.s (.s (.s (.s (.s (.s (.s .z)))))))), (.s (.s (.s (.s (.s (.s (.s (.s (.s .z))))))))), (.s (.s (.s (.s (.s (.s (.s (.s (.s (.s (.s (.s (.s .z))))))))))))), trivial⟩, h⟩ (Nat.lt_succ_self _)
  intro hk_tr_parser_reader_chain_w2_3_0
  refine V ?_
  refine a_two ?_ ?_
  ·skip
   refine a_val rfl gn rfl (y_loadN (l := (lExpr e1 a13 c19 a14 c20 a15 c21)) rfl et u39 rfl size_39 (CellsAt.of_blk (hI.blk (.s (.s .z))) rfl)) SX.self ?_
   refine a_turn (F := F) (C := c24) rfl rfl ?_
   obtain ⟨c26, f2, hB, hl2, hk2⟩ := hI.hands (.l (.r (.r .n)))
   refine la_callX rfl gn rfl (r_call (fs := [vp b1 0]) (vs := []) (cap := []) rfl et ok_140 trivial) (Calls.mono (c_parser_reader_not_w rec_ hrec c26 f2 w13 r4 b1 a16 c23 (hB.subs ⟨.z, (.s (.s (.s (.s (.s (.s .z)))))), trivial⟩) _ hx2) ?_)
   intro e_ w8 hq_; obtain ⟨a17, c27, a18, c28, a19, c29, a20, c30, c31, rfl, hB2⟩ := ret_of hq_
   obtain ⟨c32, hs2, hI⟩ := hk2 _ _ _ _ hB2
   dsimp only [ca, na] at hI
   refine ⟨_, rfl, DM true F c32, hs2, ?_⟩
   exact a_sub (hk_tr_parser_reader_chain_w2_3_0 (a17, c27, a18, c28, a19, c29, a20, c30, c32) _ (hI.arr (.c .z (.c .z (.c .z .n))) ⟨.z, (.s .z), (.s (.s .z)), (.s (.s (.s .z))), (.s (.s (.s (.s .z)))), (.s (.s (.s (.s (.s .z))))), (.s (.s (.s (.s (.s (.s .z)))))), (.s (.s (.s (.s (.s (.s (.s .z))))))), (.s (.s (.s (.s (.s (.s (.s (.s .z)))))))), (.s (.s (.s (.s (.s (.s (.s (.s (.s .z))))))))), (.s (.s (.s (.s (.s (.s (.s (.s (.s (.s .z)))))))))), trivial⟩)) ⟨rfl, rfl, rfl, rfl, rfl, rfl, rfl, rfl, rfl, rfl, rfl, rfl, rfl, trivial⟩
  refine a_turnT (F := F) (C := c24) rfl rfl ?_
  obtain ⟨c26, f2, hB, hl2, hk2⟩ := hI.hands (.l (.r (.r .n)))
  refine la_callX rfl gn rfl (r_call (fs := [vp b1 0]) (vs := []) (cap := []) rfl et ok_140 trivial) (Calls.mono (c_parser_reader_not_w rec_ hrec c26 f2 w13 r4 b1 a16 c23 (hB.subs ⟨.z, (.s (.s (.s (.s (.s (.s .z)))))), trivial⟩) _ hx2) ?_)
  intro e_ w8 hq_; obtain ⟨a17, c27, a18, c28, a19, c29, a20, c30, c31, rfl, hB2⟩ := ret_of hq_
  obtain ⟨c32, hs2, hI⟩ := hk2 _ _ _ _ hB2
  dsimp only [ca, na] at hI
  refine ⟨_, rfl, DM true F c32, hs2, ?_⟩
  refine a_val rfl gn rfl (y_loadN (l := (lExpr e1 a13 c19 a14 c20 a15 c21)) rfl et u39 rfl size_39 (CellsAt.of_blk (hI.blk (.s (.s .z))) rfl)) SX.self ?_
  exact a_sub (hk_tr_parser_reader_chain_w2_3_0 (a17, c27, a18, c28, a19, c29, a20, c30, c32) _ (hI.arr (.c .z (.c .z (.c .z .n))) ⟨.z, (.s .z), (.s (.s .z)), (.s (.s (.s .z))), (.s (.s (.s (.s .z)))), (.s (.s (.s (.s (.s .z))))), (.s (.s (.s (.s (.s (.s .z)))))), (.s (.s (.s (.s (.s (.s (.s .z))))))), (.s (.s (.s (.s (.s (.s (.s (.s .z)))))))), (.s (.s (.s (.s (.s (.s (.s (.s (.s .z))))))))), (.s (.s (.s (.s (.s (.s (.s (.s (.s (.s .z)))))))))), trivial⟩)) ⟨rfl, rfl, rfl, rfl, rfl, rfl, rfl, rfl, rfl, rfl, rfl, rfl, rfl, trivial⟩
 refine T ?_
 refine c_loop (α := Nat × Int × Int × Gparser_reader × (Option Addr) × Nat) (fun x => fun w => ∃ C, Bun C0 F w0 C w [MO.box b1 67 (Aparser_reader (x.2.2.2.1) (x.2.2.2.2.1) (x.2.2.2.2.2)), MO.box b2 39 #[vi 0, (str ([] : List UInt8)), vi 0, vi 0, vi 0, vi 0, vi 0, vi 0, vi 0, vi 0, vs none 0 0, vs none 0 0, vs none 0 0], MO.box b3 39 (AExpr e1 a13 c19 a14 c20 a15 c21)] [Cl.sl cGToken (x.2.2.2.2.1) (x.2.2.2.2.2) (x.2.2.2.1).l, Cl.sl cStr a2 c2 signs1, Cl.sl (cInt .i64) a3 c3 ops1, Cl.sl cGMono a13 c19 e1.Lin.L, Cl.sl cGIndex a14 c20 e1.Idx, Cl.sl cGExpr a15 c21 e1.Args, clSpace] ∧ m_parser_reader_chain_w2_l2 signs1 ops1 e1 rec_ (m_parser_reader_chain_w2_l1 signs1 ops1 rec_ fuel1) (x.1) (x.2.1) (x.2.2.1) (x.2.2.2.1) = some r) (fun x _ => x.1) (fun x => [(0, vp b1 0), (1, (Value.func (.func 140) #[vp b1 0] #[])), (2, vs a2 signs1.length c2), (3, vs a3 ops1.length c3), (8, vp b2 0), (9, vp b3 0), (10, vi (x.2.1)), (15, vs a2 signs1.length c2), (16, vi (signs1.length : Int)), (17, vi (x.2.2.1))]) (fu, 0, 0, r3, a12, c18) ⟨_, hI.arr (.c .z (.c .z (.c .z .n))) ⟨.z, (.s (.s (.s (.s .z)))), (.s (.s (.s (.s (.s .z))))), (.s .z), (.s (.s .z)), (.s (.s (.s .z))), (.s (.s (.s (.s (.s (.s .z)))))), trivial⟩, h⟩ ⟨rfl, rfl, rfl, rfl, rfl, rfl, rfl, rfl, rfl, rfl, trivial⟩ ?_
 clear h hI; rintro ⟨fuel2, op2, i1, r6, a21, c37⟩ w14 ⟨c38, hI, h⟩
 dsimp only at hI h
 rcases fuel2 with _ | fuel2
 ·rw [m_parser_reader_chain_w2_l2] at h; cases h
 rw [m_parser_reader_chain_w2_l2] at h
 refine c_sub (e := [(0, vp b1 0), (1, (Value.func (.func 140) #[vp b1 0] #[])), (2, vs a2 signs1.length c2), (3, vs a3 ops1.length c3), (8, vp b2 0), (9, vp b3 0), (10, vi op2), (15, vs a2 signs1.length c2), (16, vi (signs1.length : Int)), (17, vi i1)]) ⟨rfl, rfl, rfl, rfl, rfl, rfl, rfl, rfl, rfl, rfl, trivial⟩ ?_
 refine T ?_
 refine c_seq (cif h et (fun hb h => ?_) (fun hb h => ?_))
 ·refine T ?_
  refine c_join (α := Int × Gparser_reader × (Option Addr) × Nat) (fun _ => ⟨43, []⟩) (fun x => [(0, vp b1 0), (1, (Value.func (.func 140) #[vp b1 0] #[])), (2, vs a2 signs1.length c2), (3, vs a3 ops1.length c3), (8, vp b2 0), (9, vp b3 0), (10, vi (x.1)), (15, vs a2 signs1.length c2), (16, vi (signs1.length : Int)), (17, vi i1)]) (fun x => fun w => ∃ C, Bun C0 F w0 C w [MO.box b1 67 (Aparser_reader (x.2.1) (x.2.2.1) (x.2.2.2)), MO.box b2 39 #[vi 0, (str ([] : List UInt8)), vi 0, vi 0, vi 0, vi 0, vi 0, vi 0, vi 0, vi 0, vs none 0 0, vs none 0 0, vs none 0 0], MO.box b3 39 (AExpr e1 a13 c19 a14 c20 a15 c21)] [Cl.sl cGToken (x.2.2.1) (x.2.2.2) (x.2.1).l, Cl.sl cStr a2 c2 signs1, Cl.sl (cInt .i64) a3 c3 ops1, Cl.sl cGMono a13 c19 e1.Lin.L, Cl.sl cGIndex a14 c20 e1.Idx, Cl.sl cGExpr a15 c21 e1.Args, clSpace] ∧ m_parser_reader_chain_w2_j2 (m_parser_reader_chain_w2_l2 signs1 ops1 e1 rec_ (m_parser_reader_chain_w2_l1 signs1 ops1 rec_ fuel1) fuel2) i1 (x.1) (x.2.1) = some r) ?_ ?_
  ·clear h hI; rintro ⟨op3, r7, a22, c39⟩ w15 ⟨c40, hI, h⟩
   try dsimp only at hI h
   rw [m_parser_reader_chain_w2_j2] at h
   refine c_sub (e := [(0, vp b1 0), (1, (Value.func (.func 140) #[vp b1 0] #[])), (2, vs a2 signs1.length c2), (3, vs a3 ops1.length c3), (8, vp b2 0), (9, vp b3 0), (10, vi op3), (15, vs a2 signs1.length c2), (16, vi (signs1.length : Int)), (17, vi i1)]) ⟨rfl, rfl, rfl, rfl, rfl, rfl, rfl, rfl, rfl, rfl, trivial⟩ ?_
   refine T ?_
   refine s_nil ?_
   exact k_loop (fuel2, op3, wi64 (i1 + 1), r7, a22, c39) ⟨rfl, rfl, rfl, rfl, rfl, rfl, rfl, rfl, rfl, rfl, trivial⟩ ⟨_, hI.arr (.c .z (.c .z (.c .z .n))) ⟨.z, (.s .z), (.s (.s .z)), (.s (.s (.s .z))), (.s (.s (.s (.s .z)))), (.s (.s (.s (.s (.s .z))))), (.s (.s (.s (.s (.s (.s .z)))))), trivial⟩, h⟩ (Nat.lt_succ_self _)
  refine T ?_
  obtain ⟨e2, hx3, h⟩ := bnd_some h
  obtain ⟨ad1, cs1, hA1, hr1, hq1⟩ := hI.clat (.s .z) hx3
  obtain rfl : cs1 = [(str e2)] := hr1
  refine sI ?_
  refine T ?_
  obtain ⟨c41, f3, hB, hl3, hk3⟩ := hI.hands (.l (.r (.r .n)))
  obtain ⟨⟨r8, s3⟩, hx4, h⟩ := bnd_some h
  try dsimp only at h
  refine s_gcall (fun v_ w_ => v_ = (vb r8) ∧ ∃ (a23 : Option Addr), ∃ (c42 : Nat), ∃ C_ : NP, Bun c41 f3 w14 C_ w_ [MO.box b1 67 (Aparser_reader s3 a23 c42)] [Cl.sl cGToken a23 c42 s3.l]) (g_true rfl rfl rfl rfl) rfl (fun hc => (r_callF (vs := [vp b1 0, (str e2)]) rfl ok_68 ⟨(ev_gv et hc), ⟨(ev_gv et hc), trivial⟩⟩)) (fun hc => (c_parser_reader_accept_w c41 f3 w14 r6 e2 b1 a21 c37 (hB.subs ⟨.z, trivial⟩) _ (gdE_t hc hx4)).mono fun e_ w_ hq_ => (let ⟨a23, c42, C_, he_, hB_⟩ := hq_; ⟨_, he_, rfl, a23, c42, C_, hB_⟩)) ?_
  intro v_ w16 h1_ h2_
  obtain ⟨hv_, a23, c42, c43, hB2⟩ : gv (decide (op2 = 0)) v_ = gv (decide (op2 = 0)) (vb r8) ∧ ∃ (a23 : Option Addr), ∃ (c42 : Nat), ∃ C_ : NP, Bun c41 f3 w14 C_ w16 [MO.box b1 67 (Aparser_reader s3 a23 c42)] [Cl.sl cGToken a23 c42 s3.l] := by
   rcases Bool.eq_false_or_eq_true (decide (op2 = 0)) with hc | hc
   ·obtain ⟨rfl, hq_⟩ := h1_ hc; exact ⟨rfl, hq_⟩
   have e1_ := h2_ hc; subst e1_; obtain ⟨rfl, rfl⟩ := gdE_f hc hx4; exact ⟨by rw [gv_neg hc, gv_neg hc], a21, c37, _, hB.subs ⟨.z, trivial⟩⟩
  rw [hv_]; clear h1_ h2_
  obtain ⟨c44, hs3, hI⟩ := hk3 _ _ _ _ hB2
  dsimp only [ca, na] at hI
  refine T ?_
  refine cif h et (fun hb h => ?_) (fun hb h => ?_)
  ·refine T ?_
   obtain ⟨e3, hx5, h⟩ := bnd_some h
   obtain ⟨ad2, cs2, hA2, hr2, hq2⟩ := hI.clat (.s (.s (.s .z))) hx5
   obtain rfl : cs2 = [vi e3] := hr2
   refine sI ?_
   refine T ?_
   refine s_nil ?_
   exact k_join (e3, s3, a23, c42) ⟨rfl, rfl, rfl, rfl, rfl, rfl, rfl, rfl, rfl, rfl, trivial⟩ ⟨_, hI.arr (.c .z (.c .z (.c .z .n))) ⟨.z, (.s (.s .z)), (.s (.s (.s .z))), (.s (.s (.s (.s .z)))), (.s (.s (.s (.s (.s .z))))), (.s (.s (.s (.s (.s (.s .z)))))), (.s (.s (.s (.s (.s (.s (.s .z))))))), trivial⟩, h⟩ rfl
  exact c_skip (k_join (op2, s3, a23, c42) ⟨rfl, rfl, rfl, rfl, rfl, rfl, rfl, rfl, rfl, rfl, trivial⟩ ⟨_, hI.arr (.c .z (.c .z (.c .z .n))) ⟨.z, (.s (.s .z)), (.s (.s (.s .z))), (.s (.s (.s (.s .z)))), (.s (.s (.s (.s (.s .z))))), (.s (.s (.s (.s (.s (.s .z)))))), (.s (.s (.s (.s (.s (.s (.s .z))))))), trivial⟩, h⟩ rfl)
 refine c_exit ?_
 refine k_in ?_
 exact k_join (op2, r6, a21, c37) ⟨rfl, rfl, rfl, rfl, rfl, rfl, rfl, trivial⟩ ⟨_, hI.arr (.c .z (.c .z (.c .z .n))) ⟨.z, (.s .z), (.s (.s .z)), (.s (.s (.s .z))), (.s (.s (.s (.s .z)))), (.s (.s (.s (.s (.s .z))))), (.s (.s (.s (.s (.s (.s .z)))))), trivial⟩, h⟩ rfl
theorem c_parser_reader_and_w (rec_ : (Gparser_reader → Option (Pan (GExpr × Gparser_reader)))) (hrec : ∀ (C0 F : NP) (w0 : World) (r1 : Gparser_reader) (b1 : Nat) (a1 : Option Addr) (c1 : Nat) (hI : Bun C0 F w0 C0 w0 [MO.box b1 67 (Aparser_reader r1 a1 c1)] [Cl.sl cGToken a1 c1 r1.l, clSpace]) (r : Pan (GExpr × Gparser_reader)) (h : rec_ r1 = some r), Calls Tryz.prog 34 #[vp b1 0] w0 fun e w => (∃ rx : GExpr × Gparser_reader, r = .ret rx ∧ ∃ (a2 : Option Addr) (c2 : Nat) (a3 : Option Addr) (c3 : Nat) (a4 : Option Addr) (c4 : Nat) (a5 : Option Addr) (c5 : Nat) (C : NP), e = .returned (Value.agg (AExpr rx.1 a2 c2 a3 c3 a4 c4)) ∧ Bun C0 F w0 C w [MO.box b1 67 (Aparser_reader rx.2 a5 c5)] [Cl.sl cGMono a2 c2 rx.1.Lin.L, Cl.sl cGIndex a3 c3 rx.1.Idx, Cl.sl cGExpr a4 c4 rx.1.Args, Cl.sl cGToken a5 c5 rx.2.l]) ∨ ∃ (pa pn : Int), r = .pan pa pn ∧ e = .panicked [pe 114 pa pn] ∧ ∃ C : NP, Bun C0 F w0 C w [] []) (C0 F : NP) (w0 : World) (r1 : Gparser_reader) (b1 : Nat) (a1 : Option Addr) (c1 : Nat) (hI : Bun C0 F w0 C0 w0 [MO.box b1 67 (Aparser_reader r1 a1 c1)] [Cl.sl cGToken a1 c1 r1.l, clSpace]) (r : Pan (GExpr × Gparser_reader))
  (h : m_parser_reader_and_w rec_ r1 = some r) :
  Calls Tryz.prog 75 #[vp b1 0] w0 fun e w => (∃ rx : GExpr × Gparser_reader, r = .ret rx ∧ ∃ (a2 : Option Addr) (c2 : Nat) (a3 : Option Addr) (c3 : Nat) (a4 : Option Addr) (c4 : Nat) (a5 : Option Addr) (c5 : Nat) (C : NP), e = .returned (Value.agg (AExpr rx.1 a2 c2 a3 c3 a4 c4)) ∧ Bun C0 F w0 C w [MO.box b1 67 (Aparser_reader rx.2 a5 c5)] [Cl.sl cGMono a2 c2 rx.1.Lin.L, Cl.sl cGIndex a3 c3 rx.1.Idx, Cl.sl cGExpr a4 c4 rx.1.Args, Cl.sl cGToken a5 c5 rx.2.l]) ∨ ∃ (pa pn : Int), r = .pan pa pn ∧ e = .panicked [pe 114 pa pn] ∧ ∃ C : NP, Bun C0 F w0 C w [] [] := by
 refine enterP (l := [vp b1 0]) Tryz.func75 rfl Tryz.ntmps75 rfl ?_
 rw [m_parser_reader_and_w] at h
 refine sr (l_alloc (cs := #[vi 0, (str ([] : List UInt8)), vi 0, vi 0, vi 0, vi 0, vi 0, vi 0, vi 0, vi 0, vs none 0 0, vs none 0 0, vs none 0 0]) hI gn rfl rfl zero_39 rfl ?_)
 clear hI; intro b2 c6 w1 hI
 refine T ?_
 refine sq (y_makeBound (vs := [vp b1 0]) rfl rfl ⟨et, trivial⟩) ?_
 refine l_lit (c := cStr) (xs := ([([38] : List UInt8)] : List (List UInt8))) (vs := [(0, (str ([38] : List UInt8)))]) (cs := #[(str ([38] : List UInt8))]) (css := [[(str ([38] : List UInt8))]]) hI gn rfl rfl u50 info_9 rfl ⟨rfl, ev_const, trivial⟩ (by kernel_rfl) ⟨rfl, trivial⟩ rfl rfl rfl ?_
 clear hI; intro b3 c7 w2 hI
 refine l_lit (c := (cInt .i64)) (xs := ([16] : List Int)) (vs := [(0, vi 16)]) (cs := #[vi 16]) (css := [[vi 16]]) hI gn rfl rfl u123 info_3 rfl ⟨rfl, ev_const, trivial⟩ (by kernel_rfl) ⟨rfl, trivial⟩ rfl rfl rfl ?_
 clear hI; intro b4 c8 w3 hI
 obtain ⟨c9, hI⟩ := hI.release (.s .z)
 obtain ⟨c10, hI⟩ := hI.release .z
 obtain ⟨c11, f1, hB, hl1, hk1⟩ := hI.hands (.r (.l .n))
 refine s_pb h (fun _ hx1 => c_parser_reader_chain_w2 rec_ hrec c11 f1 w3 r1 ([([38] : List UInt8)] : List (List UInt8)) ([16] : List Int) b1 a1 c1 (some ⟨b3, 0, none⟩) 1 (some ⟨b4, 0, none⟩) 1 (hB.subs ⟨(.s (.s .z)), (.s .z), .z, (.s (.s (.s .z))), trivial⟩) _ hx1) (pnb hk1) (r_callF rfl ok_74 ⟨et, ⟨et, ⟨et, ⟨et, trivial⟩⟩⟩⟩) ?_
 rintro ⟨r2, s1⟩ hx1 h _ w4 ⟨a6, c12, a7, c13, a8, c14, a9, c15, c16, rfl, hB2⟩
 try dsimp only at h
 obtain ⟨c17, hs1, hI⟩ := hk1 _ _ _ _ hB2
 dsimp only [ca, na] at hI
 refine ⟨_, rfl, ?_⟩
 refine l_store (new := (lExpr r2 a6 c12 a7 c13 a8 c14)) (cs' := (AExpr r2 a6 c12 a7 c13 a8 c14)) hI (.s .z) gn rfl rfl et et rfl size_39 rfl rfl rfl ?_
 clear hI; intro c18 w5 hI
 refine nk (c_ret ?_)
 obtain rfl := some_inj h
 refine QG ?_
 exact .inl ⟨_, rfl, a6, c12, a7, c13, a8, c14, a9, c15, _, rfl, hI.arr GO SU⟩
def tr_parser_reader_chain_w_3_0 : Tr := (.c (4, .s) (.c (5, .q) (.c (6, .s) .n)))
theorem c_parser_reader_chain_w (rec_ : (Gparser_reader → Option (Pan (GExpr × Gparser_reader)))) (hrec : ∀ (C0 F : NP) (w0 : World) (r1 : Gparser_reader) (b1 : Nat) (a1 : Option Addr) (c1 : Nat) (hI : Bun C0 F w0 C0 w0 [MO.box b1 67 (Aparser_reader r1 a1 c1)] [Cl.sl cGToken a1 c1 r1.l, clSpace]) (r : Pan (GExpr × Gparser_reader)) (h : rec_ r1 = some r), Calls Tryz.prog 34 #[vp b1 0] w0 fun e w => (∃ rx : GExpr × Gparser_reader, r = .ret rx ∧ ∃ (a2 : Option Addr) (c2 : Nat) (a3 : Option Addr) (c3 : Nat) (a4 : Option Addr) (c4 : Nat) (a5 : Option Addr) (c5 : Nat) (C : NP), e = .returned (Value.agg (AExpr rx.1 a2 c2 a3 c3 a4 c4)) ∧ Bun C0 F w0 C w [MO.box b1 67 (Aparser_reader rx.2 a5 c5)] [Cl.sl cGMono a2 c2 rx.1.Lin.L, Cl.sl cGIndex a3 c3 rx.1.Idx, Cl.sl cGExpr a4 c4 rx.1.Args, Cl.sl cGToken a5 c5 rx.2.l]) ∨ ∃ (pa pn : Int), r = .pan pa pn ∧ e = .panicked [pe 114 pa pn] ∧ ∃ C : NP, Bun C0 F w0 C w [] []) (C0 F : NP) (w0 : World) (r1 : Gparser_reader) (signs1 : List (List UInt8)) (ops1 : List Int) (b1 : Nat) (a1 : Option Addr) (c1 : Nat) (a2 : Option Addr) (c2 : Nat) (a3 : Option Addr) (c3 : Nat) (hI : Bun C0 F w0 C0 w0 [MO.box b1 67 (Aparser_reader r1 a1 c1)] [Cl.sl cGToken a1 c1 r1.l, Cl.sl cStr a2 c2 signs1, Cl.sl (cInt .i64) a3 c3 ops1, clSpace]) (r : Pan (GExpr × Gparser_reader))
  (h : m_parser_reader_chain_w rec_ r1 signs1 ops1 = some r) :
  Calls Tryz.prog 74 #[vp b1 0, (Value.func (.func 75) #[vp b1 0] #[]), vs a2 signs1.length c2, vs a3 ops1.length c3] w0 fun e w => (∃ rx : GExpr × Gparser_reader, r = .ret rx ∧ ∃ (a4 : Option Addr) (c4 : Nat) (a5 : Option Addr) (c5 : Nat) (a6 : Option Addr) (c6 : Nat) (a7 : Option Addr) (c7 : Nat) (C : NP), e = .returned (Value.agg (AExpr rx.1 a4 c4 a5 c5 a6 c6)) ∧ Bun C0 F w0 C w [MO.box b1 67 (Aparser_reader rx.2 a7 c7)] [Cl.sl cGMono a4 c4 rx.1.Lin.L, Cl.sl cGIndex a5 c5 rx.1.Idx, Cl.sl cGExpr a6 c6 rx.1.Args, Cl.sl cGToken a7 c7 rx.2.l]) ∨ ∃ (pa pn : Int), r = .pan pa pn ∧ e = .panicked [pe 114 pa pn] ∧ ∃ C : NP, Bun C0 F w0 C w [] [] := by
 refine enterP (l := [vp b1 0, (Value.func (.func 75) #[vp b1 0] #[]), vs a2 signs1.length c2, vs a3 ops1.length c3]) Tryz.func74 rfl Tryz.ntmps74 rfl ?_
 rw [m_parser_reader_chain_w] at h
 refine sr (l_alloc (cs := #[vi 0, (str ([] : List UInt8)), vi 0, vi 0, vi 0, vi 0, vi 0, vi 0, vi 0, vi 0, vs none 0 0, vs none 0 0, vs none 0 0]) hI gn rfl rfl zero_39 rfl ?_)
 clear hI; intro b2 c8 w1 hI
 refine T ?_
 obtain ⟨c9, f1, hB, hl1, hk1⟩ := hI.hands (.r (.l .n))
 refine s_pb h (fun _ hx1 => c_parser_reader_and_w rec_ hrec c9 f1 w1 r1 b1 a1 c1 (hB.subs ⟨.z, (.s (.s (.s .z))), trivial⟩) _ hx1) (pnb hk1) (r_call (fs := [vp b1 0]) (vs := []) (cap := []) rfl et ok_75 trivial) ?_
 rintro ⟨r2, s1⟩ hx1 h _ w2 ⟨a8, c10, a9, c11, a10, c12, a11, c13, c14, rfl, hB2⟩
 try dsimp only at h
 obtain ⟨c15, hs1, hI⟩ := hk1 _ _ _ _ hB2
 dsimp only [ca, na] at hI
 refine ⟨_, rfl, ?_⟩
 refine l_alloc (cs := #[vi 0, (str ([] : List UInt8)), vi 0, vi 0, vi 0, vi 0, vi 0, vi 0, vi 0, vi 0, vs none 0 0, vs none 0 0, vs none 0 0]) hI gn rfl rfl zero_39 rfl ?_
 clear hI; intro b3 c16 w3 hI
 refine l_store (new := (lExpr r2 a8 c10 a9 c11 a10 c12)) (cs' := (AExpr r2 a8 c10 a9 c11 a10 c12)) hI .z gn rfl rfl et et rfl size_39 rfl rfl rfl ?_
 clear hI; intro c17 w4 hI
 refine T ?_
 refine c_loop (α := Nat × Gparser_reader × GExpr × (Option Addr) × Nat × (Option Addr) × Nat × (Option Addr) × Nat × (Option Addr) × Nat) (fun x => fun w => ∃ C, Bun C0 F w0 C w [MO.box b1 67 (Aparser_reader (x.2.1) (x.2.2.2.1) (x.2.2.2.2.1)), MO.box b2 39 #[vi 0, (str ([] : List UInt8)), vi 0, vi 0, vi 0, vi 0, vi 0, vi 0, vi 0, vi 0, vs none 0 0, vs none 0 0, vs none 0 0], MO.box b3 39 (AExpr (x.2.2.1) (x.2.2.2.2.2.1) (x.2.2.2.2.2.2.1) (x.2.2.2.2.2.2.2.1) (x.2.2.2.2.2.2.2.2.1) (x.2.2.2.2.2.2.2.2.2.1) (x.2.2.2.2.2.2.2.2.2.2))] [Cl.sl cGToken (x.2.2.2.1) (x.2.2.2.2.1) (x.2.1).l, Cl.sl cGMono (x.2.2.2.2.2.1) (x.2.2.2.2.2.2.1) (x.2.2.1).Lin.L, Cl.sl cGIndex (x.2.2.2.2.2.2.2.1) (x.2.2.2.2.2.2.2.2.1) (x.2.2.1).Idx, Cl.sl cGExpr (x.2.2.2.2.2.2.2.2.2.1) (x.2.2.2.2.2.2.2.2.2.2) (x.2.2.1).Args, Cl.sl cStr a2 c2 signs1, Cl.sl (cInt .i64) a3 c3 ops1, clSpace] ∧ m_parser_reader_chain_w_l1 signs1 ops1 rec_ (x.1) (x.2.1) (x.2.2.1) = some r) (fun x _ => x.1) (fun x => [(0, vp b1 0), (1, (Value.func (.func 75) #[vp b1 0] #[])), (2, vs a2 signs1.length c2), (3, vs a3 ops1.length c3), (8, vp b2 0), (9, vp b3 0)]) (fu, s1, r2, a11, c13, a8, c10, a9, c11, a10, c12) ⟨_, hI.arr (.c (.s .z) (.c (.s .z) (.c .z .n))) ⟨(.s (.s (.s .z))), .z, (.s .z), (.s (.s .z)), (.s (.s (.s (.s (.s .z))))), (.s (.s (.s (.s (.s (.s .z)))))), (.s (.s (.s (.s (.s (.s (.s .z))))))), trivial⟩, h⟩ ⟨rfl, rfl, rfl, rfl, rfl, rfl, trivial⟩ ?_
 clear h hI; rintro ⟨fuel1, r3, e1, a12, c18, a13, c19, a14, c20, a15, c21⟩ w5 ⟨c22, hI, h⟩
 dsimp only at hI h
 rcases fuel1 with _ | fuel1
 ·rw [m_parser_reader_chain_w_l1] at h; cases h
 rw [m_parser_reader_chain_w_l1] at h
 refine c_sub (e := [(0, vp b1 0), (1, (Value.func (.func 75) #[vp b1 0] #[])), (2, vs a2 signs1.length c2), (3, vs a3 ops1.length c3), (8, vp b2 0), (9, vp b3 0)]) ⟨rfl, rfl, rfl, rfl, rfl, rfl, trivial⟩ ?_
 refine T ?_
 refine c_join (α := Int × Gparser_reader × (Option Addr) × Nat) (fun _ => ⟨43, []⟩) (fun x => [(0, vp b1 0), (1, (Value.func (.func 75) #[vp b1 0] #[])), (2, vs a2 signs1.length c2), (3, vs a3 ops1.length c3), (8, vp b2 0), (9, vp b3 0), (10, vi (x.1))]) (fun x => fun w => ∃ C, Bun C0 F w0 C w [MO.box b1 67 (Aparser_reader (x.2.1) (x.2.2.1) (x.2.2.2)), MO.box b2 39 #[vi 0, (str ([] : List UInt8)), vi 0, vi 0, vi 0, vi 0, vi 0, vi 0, vi 0, vi 0, vs none 0 0, vs none 0 0, vs none 0 0], MO.box b3 39 (AExpr e1 a13 c19 a14 c20 a15 c21)] [Cl.sl cGToken (x.2.2.1) (x.2.2.2) (x.2.1).l, Cl.sl cStr a2 c2 signs1, Cl.sl (cInt .i64) a3 c3 ops1, Cl.sl cGMono a13 c19 e1.Lin.L, Cl.sl cGIndex a14 c20 e1.Idx, Cl.sl cGExpr a15 c21 e1.Args, clSpace] ∧ m_parser_reader_chain_w_j1 e1 rec_ (m_parser_reader_chain_w_l1 signs1 ops1 rec_ fuel1) (x.1) (x.2.1) = some r) ?_ ?_
 ·clear h hI; rintro ⟨op1, r4, a16, c23⟩ w6 ⟨c24, hI, h⟩
  try dsimp only at hI h
  rw [m_parser_reader_chain_w_j1] at h
  refine c_sub (e := [(0, vp b1 0), (1, (Value.func (.func 75) #[vp b1 0] #[])), (2, vs a2 signs1.length c2), (3, vs a3 ops1.length c3), (8, vp b2 0), (9, vp b3 0), (10, vi op1)]) ⟨rfl, rfl, rfl, rfl, rfl, rfl, rfl, trivial⟩ ?_
  refine c_seq (T ?_)
  refine cif h et (fun hb h => ?_) (fun hb h => ?_)
  ·refine T ?_
   refine l_store (new := (lExpr e1 a13 c19 a14 c20 a15 c21)) (cs' := (AExpr e1 a13 c19 a14 c20 a15 c21)) hI (.s .z) gn rfl rfl et et rfl size_39 rfl rfl rfl ?_
   clear hI; intro c25 w7 hI
   refine nk (c_ret ?_)
   obtain rfl := some_inj h
   exact q_ret (vs := [(Value.agg (AExpr e1 a13 c19 a14 c20 a15 c21))]) Tryz.results74 ⟨⟨_, ev_tmp rfl rfl, load_agg (l := (lExpr e1 a13 c19 a14 c20 a15 c21)) u39 rfl size_39 (CellsAt.of_blk (hI.blk (.s .z)) rfl)⟩, trivial⟩ (.inl ⟨_, rfl, a13, c19, a14, c20, a15, c21, a16, c23, _, rfl, hI.arr (.c .z .n) ⟨(.s (.s (.s .z))), (.s (.s (.s (.s .z)))), (.s (.s (.s (.s (.s .z))))), .z, trivial⟩⟩)
  refine T ?_
  rcases pb_some h with ⟨⟨r5, s2⟩, hx2, h⟩ | ⟨pa_, pn_, hx2, hp_⟩
  rotate_left
  ·subst hp_
   refine c_drawX [3, 6] false (.c (0, .q) (.c (2, .q) (.two 1 (.c (3, .s) tr_parser_reader_chain_w_3_0) 3 (.c (1, .s) tr_parser_reader_chain_w_3_0)))) hI (by kernel_rfl) (by kernel_rfl) ?_
   clear hI; intro w12 hI
   refine V ?_
   refine a_two ?_ ?_
   ·skip
    refine a_val rfl gn rfl (y_loadN (l := (lExpr e1 a13 c19 a14 c20 a15 c21)) rfl et u39 rfl size_39 (CellsAt.of_blk (hI.blk (.s (.s .z))) rfl)) SX.self ?_
    refine a_turn (F := F) (C := c24) rfl rfl ?_
    obtain ⟨c26, f2, hB, hl2, hk2⟩ := hI.hands (.l (.r (.r .n)))
    refine la_callP rfl gn rfl (r_call (fs := [vp b1 0]) (vs := []) (cap := []) rfl et ok_75 trivial) (Calls.mono (c_parser_reader_and_w rec_ hrec c26 f2 w12 r4 b1 a16 c23 (hB.subs ⟨.z, (.s (.s (.s (.s (.s (.s .z)))))), trivial⟩) _ hx2) ?_)
    intro e_ w_ hq_; obtain ⟨rfl, C_, hB_⟩ := pan_of hq_; obtain ⟨C9_, -, hI_⟩ := hk2 _ _ _ _ hB_; exact .inr ⟨_, rfl, kp_of (.inr ⟨_, _, rfl, rfl, ⟨_, hI_.arr .n trivial⟩⟩)⟩
   refine a_turnT (F := F) (C := c24) rfl rfl ?_
   obtain ⟨c26, f2, hB, hl2, hk2⟩ := hI.hands (.l (.r (.r .n)))
   refine la_callP rfl gn rfl (r_call (fs := [vp b1 0]) (vs := []) (cap := []) rfl et ok_75 trivial) (Calls.mono (c_parser_reader_and_w rec_ hrec c26 f2 w12 r4 b1 a16 c23 (hB.subs ⟨.z, (.s (.s (.s (.s (.s (.s .z)))))), trivial⟩) _ hx2) ?_)
   intro e_ w_ hq_; obtain ⟨rfl, C_, hB_⟩ := pan_of hq_; obtain ⟨C9_, -, hI_⟩ := hk2 _ _ _ _ hB_; exact .inr ⟨_, rfl, kp_of (.inr ⟨_, _, rfl, rfl, ⟨_, hI_.arr .n trivial⟩⟩)⟩
  try dsimp only at h
  refine c_drawX [3, 6] false (.c (0, .q) (.c (2, .q) (.two 1 (.c (3, .s) tr_parser_reader_chain_w_3_0) 3 (.c (1, .s) tr_parser_reader_chain_w_3_0)))) hI (by kernel_rfl) (by kernel_rfl) ?_
  clear hI; intro w13 hI
  refine a_join (α := (Option Addr) × Nat × (Option Addr) × Nat × (Option Addr) × Nat × (Option Addr) × Nat × NP) (T := tr_parser_reader_chain_w_3_0) (fun x => [(0, vp b1 0), (1, (Value.func (.func 75) #[vp b1 0] #[])), (2, vs a2 signs1.length c2), (3, vs a3 ops1.length c3), (8, vp b2 0), (9, vp b3 0), (10, vi op1), (34, vi op1), (35, (vb (decide (op1 = 0)))), (37, vi op1), (38, (Value.agg (AExpr e1 a13 c19 a14 c20 a15 c21))), (39, (Value.func (.func 75) #[vp b1 0] #[])), (40, (Value.agg (AExpr r5 (x.1) (x.2.1) (x.2.2.1) (x.2.2.2.1) (x.2.2.2.2.1) (x.2.2.2.2.2.1))))]) (fun x w => Bun C0 F w0 (x.2.2.2.2.2.2.2.2) w [MO.box b1 67 (Aparser_reader s2 (x.2.2.2.2.2.2.1) (x.2.2.2.2.2.2.2.1)), MO.box b2 39 #[vi 0, (str ([] : List UInt8)), vi 0, vi 0, vi 0, vi 0, vi 0, vi 0, vi 0, vi 0, vs none 0 0, vs none 0 0, vs none 0 0], MO.box b3 39 (AExpr e1 a13 c19 a14 c20 a15 c21)] [Cl.sl cGMono (x.1) (x.2.1) r5.Lin.L, Cl.sl cGIndex (x.2.2.1) (x.2.2.2.1) r5.Idx, Cl.sl cGExpr (x.2.2.2.2.1) (x.2.2.2.2.2.1) r5.Args, Cl.sl cGToken (x.2.2.2.2.2.2.1) (x.2.2.2.2.2.2.2.1) s2.l, Cl.sl cGToken a16 c23 r4.l, Cl.sl cStr a2 c2 signs1, Cl.sl (cInt .i64) a3 c3 ops1, Cl.sl cGMono a13 c19 e1.Lin.L, Cl.sl cGIndex a14 c20 e1.Idx, Cl.sl cGExpr a15 c21 e1.Args, clSpace]) (fun x w => SN [] (DM true F (x.2.2.2.2.2.2.2.2)) w) ?_ ?_
  ·clear hI; rintro ⟨a17, c27, a18, c28, a19, c29, a20, c30, c35⟩ w11 hI
   try dsimp only at hI ⊢
   unfold tr_parser_reader_chain_w_3_0
   refine la_lit (c := cGExpr) (xs := ([e1, r5] : List GExpr)) (vs := [(0, (Value.agg (AExpr e1 a13 c19 a14 c20 a15 c21))), (1, (Value.agg (AExpr r5 a17 c27 a18 c28 a19 c29)))]) (cs := #[vi e1.Op, (str e1.Name), vi e1.Val.N, vi e1.Val.D, vi e1.Type_.Kind, vi e1.Type_.Bits, vi e1.Type_.Frac, vi e1.Type_.Round, vi e1.Type_.Over, vi e1.Lin.K, vs a13 e1.Lin.L.length c19, vs a14 e1.Idx.length c20, vs a15 e1.Args.length c21, vi r5.Op, (str r5.Name), vi r5.Val.N, vi r5.Val.D, vi r5.Type_.Kind, vi r5.Type_.Bits, vi r5.Type_.Frac, vi r5.Type_.Round, vi r5.Type_.Over, vi r5.Lin.K, vs a17 r5.Lin.L.length c27, vs a18 r5.Idx.length c28, vs a19 r5.Args.length c29]) (css := [(lExpr e1 a13 c19 a14 c20 a15 c21), (lExpr r5 a17 c27 a18 c28 a19 c29)]) hI rfl gn rfl rfl u37 info_39 rfl ⟨rfl, et, ⟨rfl, et, trivial⟩⟩ (by kernel_rfl) ⟨(cGExpr_in ⟨a13, c19, a14, c20, a15, c21, rfl, hI.get (.s (.s (.s (.s (.s (.s (.s .z))))))), hI.get (.s (.s (.s (.s (.s (.s (.s (.s .z)))))))), hI.get (.s (.s (.s (.s (.s (.s (.s (.s (.s .z)))))))))⟩), ⟨(cGExpr_in ⟨a17, c27, a18, c28, a19, c29, rfl, hI.get .z, hI.get (.s .z), hI.get (.s (.s .z))⟩), trivial⟩⟩ rfl rfl rfl ?_
   clear hI; intro b4 c33 w9 hI
   refine a_q rfl gn rfl (fun w' => (y_build (vs := [(0, vi op1), (6, vs (some ⟨b4, 0, none⟩) ([e1, r5] : List GExpr).length 2)]) (cs := #[vi op1, (str ([] : List UInt8)), vi 0, vi 0, vi 0, vi 0, vi 0, vi 0, vi 0, vi 0, vs none 0 0, vs none 0 0, vs (some ⟨b4, 0, none⟩) ([e1, r5] : List GExpr).length 2]) rfl ⟨rfl, et, ⟨rfl, et, trivial⟩⟩ (by kernel_rfl))) ?_
   refine la_store (new := [vi op1, (str ([] : List UInt8)), vi 0, vi 0, vi 0, vi 0, vi 0, vi 0, vi 0, vi 0, vs none 0 0, vs none 0 0, vs (some ⟨b4, 0, none⟩) ([e1, r5] : List GExpr).length 2]) (cs' := #[vi op1, (str ([] : List UInt8)), vi 0, vi 0, vi 0, vi 0, vi 0, vi 0, vi 0, vi 0, vs none 0 0, vs none 0 0, vs (some ⟨b4, 0, none⟩) ([e1, r5] : List GExpr).length 2]) hI (.s (.s (.s .z))) rfl gn rfl rfl et et rfl size_39 rfl rfl rfl ?_
   clear hI; intro c34 w10 hI
   refine a_nil ?_
   have hI := hI.add (c := Cl.sl cGMono none 0 ([] : List GMono)) SlC.nil
   have hI := hI.add (c := Cl.sl cGIndex none 0 ([] : List GIndex)) SlC.nil
   obtain ⟨c36, hI⟩ := hI.release .z
   exact k_loop (fuel1, s2, (⟨op1, ([] : List UInt8), (⟨0, 0⟩ : GVal), (⟨0, 0, 0, 0, 0⟩ : GType), (⟨0, ([] : List GMono)⟩ : GLin), ([] : List GIndex), ([e1, r5] : List GExpr)⟩ : GExpr), a20, c30, none, 0, none, 0, some ⟨b4, 0, none⟩, 2) ⟨rfl, rfl, rfl, rfl, rfl, rfl, trivial⟩ ⟨_, hI.arr (.c .z (.c .z (.c .z .n))) ⟨(.s (.s (.s (.s (.s (.s .z)))))), (.s (.s .z)), (.s .z), .z, (.s (.s (.s (.s (.s (.s (.s (.s .z)))))))), (.s (.s (.s (.s (.s (.s (.s (.s (.s .z))))))))), (.s (.s (.s (.s (.s (.s (.s (.s (.s (.s (.s (.s (.s .z))))))))))))), trivial⟩, h⟩ (Nat.lt_succ_self _)
  intro hk_tr_parser_reader_chain_w_3_0
  refine V ?_
  refine a_two ?_ ?_
  ·skip
   refine a_val rfl gn rfl (y_loadN (l := (lExpr e1 a13 c19 a14 c20 a15 c21)) rfl et u39 rfl size_39 (CellsAt.of_blk (hI.blk (.s (.s .z))) rfl)) SX.self ?_
   refine a_turn (F := F) (C := c24) rfl rfl ?_
   obtain ⟨c26, f2, hB, hl2, hk2⟩ := hI.hands (.l (.r (.r .n)))
   refine la_callX rfl gn rfl (r_call (fs := [vp b1 0]) (vs := []) (cap := []) rfl et ok_75 trivial) (Calls.mono (c_parser_reader_and_w rec_ hrec c26 f2 w13 r4 b1 a16 c23 (hB.subs ⟨.z, (.s (.s (.s (.s (.s (.s .z)))))), trivial⟩) _ hx2) ?_)
   intro e_ w8 hq_; obtain ⟨a17, c27, a18, c28, a19, c29, a20, c30, c31, rfl, hB2⟩ := ret_of hq_
   obtain ⟨c32, hs2, hI⟩ := hk2 _ _ _ _ hB2
   dsimp only [ca, na] at hI
   refine ⟨_, rfl, DM true F c32, hs2, ?_⟩
   exact a_sub (hk_tr_parser_reader_chain_w_3_0 (a17, c27, a18, c28, a19, c29, a20, c30, c32) _ (hI.arr (.c .z (.c .z (.c .z .n))) ⟨.z, (.s .z), (.s (.s .z)), (.s (.s (.s .z))), (.s (.s (.s (.s .z)))), (.s (.s (.s (.s (.s .z))))), (.s (.s (.s (.s (.s (.s .z)))))), (.s (.s (.s (.s (.s (.s (.s .z))))))), (.s (.s (.s (.s (.s (.s (.s (.s .z)))))))), (.s (.s (.s (.s (.s (.s (.s (.s (.s .z))))))))), (.s (.s (.s (.s (.s (.s (.s (.s (.s (.s .z)))))))))), trivial⟩)) ⟨rfl, rfl, rfl, rfl, rfl, rfl, rfl, rfl, rfl, rfl, rfl, rfl, rfl, trivial⟩
  refine a_turnT (F := F) (C := c24) rfl rfl ?_
  obtain ⟨c26, f2, hB, hl2, hk2⟩ := hI.hands (.l (.r (.r .n)))
  refine la_callX rfl gn rfl (r_call (fs := [vp b1 0]) (vs := []) (cap := []) rfl et ok_75 trivial) (Calls.mono (c_parser_reader_and_w rec_ hrec c26 f2 w13 r4 b1 a16 c23 (hB.subs ⟨.z, (.s (.s (.s (.s (.s (.s .z)))))), trivial⟩) _ hx2) ?_)
  intro e_ w8 hq_; obtain ⟨a17, c27, a18, c28, a19, c29, a20, c30, c31, rfl, hB2⟩ := ret_of hq_
  obtain ⟨c32, hs2, hI⟩ := hk2 _ _ _ _ hB2
  dsimp only [ca, na] at hI
  refine ⟨_, rfl, DM true F c32, hs2, ?_⟩
  refine a_val rfl gn rfl (y_loadN (l := (lExpr e1 a13 c19 a14 c20 a15 c21)) rfl et u39 rfl size_39 (CellsAt.of_blk (hI.blk (.s (.s .z))) rfl)) SX.self ?_
  exact a_sub (hk_tr_parser_reader_chain_w_3_0 (a17, c27, a18, c28, a19, c29, a20, c30, c32) _ (hI.arr (.c .z (.c .z (.c .z .n))) ⟨.z, (.s .z), (.s (.s .z)), (.s (.s (.s .z))), (.s (.s (.s (.s .z)))), (.s (.s (.s (.s (.s .z))))), (.s (.s (.s (.s (.s (.s .z)))))), (.s (.s (.s (.s (.s (.s (.s .z))))))), (.s (.s (.s (.s (.s (.s (.s (.s .z)))))))), (.s (.s (.s (.s (.s (.s (.s (.s (.s .z))))))))), (.s (.s (.s (.s (.s (.s (.s (.s (.s (.s .z)))))))))), trivial⟩)) ⟨rfl, rfl, rfl, rfl, rfl, rfl, rfl, rfl, rfl, rfl, rfl, rfl, rfl, trivial⟩
 refine T ?_
 refine c_loop (α := Nat × Int × Int × Gparser_reader × (Option Addr) × Nat) (fun x => fun w => ∃ C, Bun C0 F w0 C w [MO.box b1 67 (Aparser_reader (x.2.2.2.1) (x.2.2.2.2.1) (x.2.2.2.2.2)), MO.box b2 39 #[vi 0, (str ([] : List UInt8)), vi 0, vi 0, vi 0, vi 0, vi 0, vi 0, vi 0, vi 0, vs none 0 0, vs none 0 0, vs none 0 0], MO.box b3 39 (AExpr e1 a13 c19 a14 c20 a15 c21)] [Cl.sl cGToken (x.2.2.2.2.1) (x.2.2.2.2.2) (x.2.2.2.1).l, Cl.sl cStr a2 c2 signs1, Cl.sl (cInt .i64) a3 c3 ops1, Cl.sl cGMono a13 c19 e1.Lin.L, Cl.sl cGIndex a14 c20 e1.Idx, Cl.sl cGExpr a15 c21 e1.Args, clSpace] ∧ m_parser_reader_chain_w_l2 signs1 ops1 e1 rec_ (m_parser_reader_chain_w_l1 signs1 ops1 rec_ fuel1) (x.1) (x.2.1) (x.2.2.1) (x.2.2.2.1) = some r) (fun x _ => x.1) (fun x => [(0, vp b1 0), (1, (Value.func (.func 75) #[vp b1 0] #[])), (2, vs a2 signs1.length c2), (3, vs a3 ops1.length c3), (8, vp b2 0), (9, vp b3 0), (10, vi (x.2.1)), (15, vs a2 signs1.length c2), (16, vi (signs1.length : Int)), (17, vi (x.2.2.1))]) (fu, 0, 0, r3, a12, c18) ⟨_, hI.arr (.c .z (.c .z (.c .z .n))) ⟨.z, (.s (.s (.s (.s .z)))), (.s (.s (.s (.s (.s .z))))), (.s .z), (.s (.s .z)), (.s (.s (.s .z))), (.s (.s (.s (.s (.s (.s .z)))))), trivial⟩, h⟩ ⟨rfl, rfl, rfl, rfl, rfl, rfl, rfl, rfl, rfl, rfl, trivial⟩ ?_
 clear h hI; rintro ⟨fuel2, op2, i1, r6, a21, c37⟩ w14 ⟨c38, hI, h⟩
 dsimp only at hI h
 rcases fuel2 with _ | fuel2
 ·rw [m_parser_reader_chain_w_l2] at h; cases h
 rw [m_parser_reader_chain_w_l2] at h
 refine c_sub (e := [(0, vp b1 0), (1, (Value.func (.func 75) #[vp b1 0] #[])), (2, vs a2 signs1.length c2), (3, vs a3 ops1.length c3), (8, vp b2 0), (9, vp b3 0), (10, vi op2), (15, vs a2 signs1.length c2), (16, vi (signs1.length : Int)), (17, vi i1)]) ⟨rfl, rfl, rfl, rfl, rfl, rfl, rfl, rfl, rfl, rfl, trivial⟩ ?_
 refine T ?_
 refine c_seq (cif h et (fun hb h => ?_) (fun hb h => ?_))
 ·refine T ?_
  refine c_join (α := Int × Gparser_reader × (Option Addr) × Nat) (fun _ => ⟨43, []⟩) (fun x => [(0, vp b1 0), (1, (Value.func (.func 75) #[vp b1 0] #[])), (2, vs a2 signs1.length c2), (3, vs a3 ops1.length c3), (8, vp b2 0), (9, vp b3 0), (10, vi (x.1)), (15, vs a2 signs1.length c2), (16, vi (signs1.length : Int)), (17, vi i1)]) (fun x => fun w => ∃ C, Bun C0 F w0 C w [MO.box b1 67 (Aparser_reader (x.2.1) (x.2.2.1) (x.2.2.2)), MO.box b2 39 #[vi 0, (str ([] : List UInt8)), vi 0, vi 0, vi 0, vi 0, vi 0, vi 0, vi 0, vi 0, vs none 0 0, vs none 0 0, vs none 0 0], MO.box b3 39 (AExpr e1 a13 c19 a14 c20 a15 c21)] [Cl.sl cGToken (x.2.2.1) (x.2.2.2) (x.2.1).l, Cl.sl cStr a2 c2 signs1, Cl.sl (cInt .i64) a3 c3 ops1, Cl.sl cGMono a13 c19 e1.Lin.L, Cl.sl cGIndex a14 c20 e1.Idx, Cl.sl cGExpr a15 c21 e1.Args, clSpace] ∧ m_parser_reader_chain_w_j2 (m_parser_reader_chain_w_l2 signs1 ops1 e1 rec_ (m_parser_reader_chain_w_l1 signs1 ops1 rec_ fuel1) fuel2) i1 (x.1) (x.2.1) = some r) ?_ ?_
  ·clear h hI; rintro ⟨op3, r7, a22, c39⟩ w15 ⟨c40, hI, h⟩
   try dsimp only at hI h
   rw [m_parser_reader_chain_w_j2] at h
   refine c_sub (e := [(0, vp b1 0), (1, (Value.func (.func 75) #[vp b1 0] #[])), (2, vs a2 signs1.length c2), (3, vs a3 ops1.length c3), (8, vp b2 0), (9, vp b3 0), (10, vi op3), (15, vs a2 signs1.length c2), (16, vi (signs1.length : Int)), (17, vi i1)]) ⟨rfl, rfl, rfl, rfl, rfl, rfl, rfl, rfl, rfl, rfl, trivial⟩ ?_
   refine T ?_
   refine s_nil ?_
   exact k_loop (fuel2, op3, wi64 (i1 + 1), r7, a22, c39) ⟨rfl, rfl, rfl, rfl, rfl, rfl, rfl, rfl, rfl, rfl, trivial⟩ ⟨_, hI.arr (.c .z (.c .z (.c .z .n))) ⟨.z, (.s .z), (.s (.s .z)), (.s (.s (.s .z))), (.s (.s (.s (.s .z)))), (.s (.s (.s (.s (.s .z))))), (.s (.s (.s (.s (.s (.s .z)))))), trivial⟩, h⟩ (Nat.lt_succ_self _)
  refine T ?_
  obtain ⟨e2, hx3, h⟩ := bnd_some h
  obtain ⟨ad1, cs1, hA1, hr1, hq1⟩ := hI.clat (.s .z) hx3
  obtain rfl : cs1 = [(str e2)] := hr1
  refine sI ?_
  refine T ?_
  obtain ⟨c41, f3, hB, hl3, hk3⟩ := hI.hands (.l (.r (.r .n)))
  obtain ⟨⟨r8, s3⟩, hx4, h⟩ := bnd_some h
  try dsimp only at h
  refine s_gcall (fun v_ w_ => v_ = (vb r8) ∧ ∃ (a23 : Option Addr), ∃ (c42 : Nat), ∃ C_ : NP, Bun c41 f3 w14 C_ w_ [MO.box b1 67 (Aparser_reader s3 a23 c42)] [Cl.sl cGToken a23 c42 s3.l]) (g_true rfl rfl rfl rfl) rfl (fun hc => (r_callF (vs := [vp b1 0, (str e2)]) rfl ok_68 ⟨(ev_gv et hc), ⟨(ev_gv et hc), trivial⟩⟩)) (fun hc => (c_parser_reader_accept_w c41 f3 w14 r6 e2 b1 a21 c37 (hB.subs ⟨.z, trivial⟩) _ (gdE_t hc hx4)).mono fun e_ w_ hq_ => (let ⟨a23, c42, C_, he_, hB_⟩ := hq_; ⟨_, he_, rfl, a23, c42, C_, hB_⟩)) ?_
  intro v_ w16 h1_ h2_
  obtain ⟨hv_, a23, c42, c43, hB2⟩ : gv (decide (op2 = 0)) v_ = gv (decide (op2 = 0)) (vb r8) ∧ ∃ (a23 : Option Addr), ∃ (c42 : Nat), ∃ C_ : NP, Bun c41 f3 w14 C_ w16 [MO.box b1 67 (Aparser_reader s3 a23 c42)] [Cl.sl cGToken a23 c42 s3.l] := by
   rcases Bool.eq_false_or_eq_true (decide (op2 = 0)) with hc | hc
   ·obtain ⟨rfl, hq_⟩ := h1_ hc; exact ⟨rfl, hq_⟩
   have e1_ := h2_ hc; subst e1_; obtain ⟨rfl, rfl⟩ := gdE_f hc hx4; exact ⟨by rw [gv_neg hc, gv_neg hc], a21, c37, _, hB.subs ⟨.z, trivial⟩⟩
  rw [hv_]; clear h1_ h2_
  obtain ⟨c44, hs3, hI⟩ := hk3 _ _ _ _ hB2
  dsimp only [ca, na] at hI
  refine T ?_
  refine cif h et (fun hb h => ?_) (fun hb h => ?_)
  ·refine T ?_
   obtain ⟨e3, hx5, h⟩ := bnd_some h
   obtain ⟨ad2, cs2, hA2, hr2, hq2⟩ := hI.clat (.s (.s (.s .z))) hx5
   obtain rfl : cs2 = [vi e3] := hr2
   refine sI ?_
   refine T ?_
   refine s_nil ?_
   exact k_join (e3, s3, a23, c42) ⟨rfl, rfl, rfl, rfl, rfl, rfl, rfl, rfl, rfl, rfl, trivial⟩ ⟨_, hI.arr (.c .z (.c .z (.c .z .n))) ⟨.z, (.s (.s .z)), (.s (.s (.s .z))), (.s (.s (.s (.s .z)))), (.s (.s (.s (.s (.s .z))))), (.s (.s (.s (.s (.s (.s .z)))))), (.s (.s (.s (.s (.s (.s (.s .z))))))), trivial⟩, h⟩ rfl
  exact c_skip (k_join (op2, s3, a23, c42) ⟨rfl, rfl, rfl, rfl, rfl, rfl, rfl, rfl, rfl, rfl, trivial⟩ ⟨_, hI.arr (.c .z (.c .z (.c .z .n))) ⟨.z, (.s (.s .z)), (.s (.s (.s .z))), (.s (.s (.s (.s .z)))), (.s (.s (.s (.s (.s .z))))), (.s (.s (.s (.s (.s (.s .z)))))), (.s (.s (.s (.s (.s (.s (.s .z))))))), trivial⟩, h⟩ rfl)
 refine c_exit ?_
 refine k_in ?_
 exact k_join (op2, r6, a21, c37) ⟨rfl, rfl, rfl, rfl, rfl, rfl, rfl, trivial⟩ ⟨_, hI.arr (.c .z (.c .z (.c .z .n))) ⟨.z, (.s .z), (.s (.s .z)), (.s (.s (.s .z))), (.s (.s (.s (.s .z)))), (.s (.s (.s (.s (.s .z))))), (.s (.s (.s (.s (.s (.s .z)))))), trivial⟩, h⟩ rfl
theorem c_parser_reader_or_w_b (rec_ : (Gparser_reader → Option (Pan (GExpr × Gparser_reader)))) (hrec : ∀ (C0 F : NP) (w0 : World) (r1 : Gparser_reader) (b1 : Nat) (a1 : Option Addr) (c1 : Nat) (hI : Bun C0 F w0 C0 w0 [MO.box b1 67 (Aparser_reader r1 a1 c1)] [Cl.sl cGToken a1 c1 r1.l, clSpace]) (r : Pan (GExpr × Gparser_reader)) (h : rec_ r1 = some r), Calls Tryz.prog 34 #[vp b1 0] w0 fun e w => (∃ rx : GExpr × Gparser_reader, r = .ret rx ∧ ∃ (a2 : Option Addr) (c2 : Nat) (a3 : Option Addr) (c3 : Nat) (a4 : Option Addr) (c4 : Nat) (a5 : Option Addr) (c5 : Nat) (C : NP), e = .returned (Value.agg (AExpr rx.1 a2 c2 a3 c3 a4 c4)) ∧ Bun C0 F w0 C w [MO.box b1 67 (Aparser_reader rx.2 a5 c5)] [Cl.sl cGMono a2 c2 rx.1.Lin.L, Cl.sl cGIndex a3 c3 rx.1.Idx, Cl.sl cGExpr a4 c4 rx.1.Args, Cl.sl cGToken a5 c5 rx.2.l]) ∨ ∃ (pa pn : Int), r = .pan pa pn ∧ e = .panicked [pe 114 pa pn] ∧ ∃ C : NP, Bun C0 F w0 C w [] [])
  (C0 F : NP) (w0 : World) (r1 : Gparser_reader) (b1 : Nat) (a1 : Option Addr) (c1 : Nat) (hI : Bun C0 F w0 C0 w0 [MO.box b1 67 (Aparser_reader r1 a1 c1)] [Cl.sl cGToken a1 c1 r1.l, clSpace]) (r : Pan (GExpr × Gparser_reader)) (h : m_parser_reader_or_w_b rec_ r1 = some r) : Calls Tryz.prog 34 #[vp b1 0] w0 fun e w => (∃ rx : GExpr × Gparser_reader, r = .ret rx ∧ ∃ (a2 : Option Addr) (c2 : Nat) (a3 : Option Addr) (c3 : Nat) (a4 : Option Addr) (c4 : Nat) (a5 : Option Addr) (c5 : Nat) (C : NP), e = .returned (Value.agg (AExpr rx.1 a2 c2 a3 c3 a4 c4)) ∧ Bun C0 F w0 C w [MO.box b1 67 (Aparser_reader rx.2 a5 c5)] [Cl.sl cGMono a2 c2 rx.1.Lin.L, Cl.sl cGIndex a3 c3 rx.1.Idx, Cl.sl cGExpr a4 c4 rx.1.Args, Cl.sl cGToken a5 c5 rx.2.l]) ∨ ∃ (pa pn : Int), r = .pan pa pn ∧ e = .panicked [pe 114 pa pn] ∧ ∃ C : NP, Bun C0 F w0 C w [] [] := by
 refine enterP (l := [vp b1 0]) Tryz.func34 rfl Tryz.ntmps34 rfl ?_
 rw [m_parser_reader_or_w_b] at h
 refine sr (l_alloc (cs := #[vi 0, (str ([] : List UInt8)), vi 0, vi 0, vi 0, vi 0, vi 0, vi 0, vi 0, vi 0, vs none 0 0, vs none 0 0, vs none 0 0]) hI gn rfl rfl zero_39 rfl ?_)
 clear hI; intro b2 c6 w1 hI
 refine T ?_
 refine sq (y_makeBound (vs := [vp b1 0]) rfl rfl ⟨et, trivial⟩) ?_
 refine l_lit (c := cStr) (xs := ([([124] : List UInt8)] : List (List UInt8))) (vs := [(0, (str ([124] : List UInt8)))]) (cs := #[(str ([124] : List UInt8))]) (css := [[(str ([124] : List UInt8))]]) hI gn rfl rfl u50 info_9 rfl ⟨rfl, ev_const, trivial⟩ (by kernel_rfl) ⟨rfl, trivial⟩ rfl rfl rfl ?_
 clear hI; intro b3 c7 w2 hI
 refine l_lit (c := (cInt .i64)) (xs := ([17] : List Int)) (vs := [(0, vi 17)]) (cs := #[vi 17]) (css := [[vi 17]]) hI gn rfl rfl u123 info_3 rfl ⟨rfl, ev_const, trivial⟩ (by kernel_rfl) ⟨rfl, trivial⟩ rfl rfl rfl ?_
 clear hI; intro b4 c8 w3 hI
 obtain ⟨c9, hI⟩ := hI.release (.s .z)
 obtain ⟨c10, hI⟩ := hI.release .z
 obtain ⟨c11, f1, hB, hl1, hk1⟩ := hI.hands (.r (.l .n))
 refine s_pb h (fun _ hx1 => c_parser_reader_chain_w rec_ hrec c11 f1 w3 r1 ([([124] : List UInt8)] : List (List UInt8)) ([17] : List Int) b1 a1 c1 (some ⟨b3, 0, none⟩) 1 (some ⟨b4, 0, none⟩) 1 (hB.subs ⟨(.s (.s .z)), (.s .z), .z, (.s (.s (.s .z))), trivial⟩) _ hx1) (pnb hk1) (r_callF rfl ok_74 ⟨et, ⟨et, ⟨et, ⟨et, trivial⟩⟩⟩⟩) ?_
 rintro ⟨r2, s1⟩ hx1 h _ w4 ⟨a6, c12, a7, c13, a8, c14, a9, c15, c16, rfl, hB2⟩
 try dsimp only at h
 obtain ⟨c17, hs1, hI⟩ := hk1 _ _ _ _ hB2
 dsimp only [ca, na] at hI
 refine ⟨_, rfl, ?_⟩
 refine l_store (new := (lExpr r2 a6 c12 a7 c13 a8 c14)) (cs' := (AExpr r2 a6 c12 a7 c13 a8 c14)) hI (.s .z) gn rfl rfl et et rfl size_39 rfl rfl rfl ?_
 clear hI; intro c18 w5 hI
 refine nk (c_ret ?_)
 obtain rfl := some_inj h
 refine QG ?_
 exact .inl ⟨_, rfl, a6, c12, a7, c13, a8, c14, a9, c15, _, rfl, hI.arr GO SU⟩
theorem c_parser_reader_or_w_r (n : Nat) : ∀ (C0 F : NP) (w0 : World) (r1 : Gparser_reader) (b1 : Nat) (a1 : Option Addr) (c1 : Nat) (hI : Bun C0 F w0 C0 w0 [MO.box b1 67 (Aparser_reader r1 a1 c1)] [Cl.sl cGToken a1 c1 r1.l, clSpace]) (r : Pan (GExpr × Gparser_reader)) (h : m_parser_reader_or_w_r n r1 = some r), Calls Tryz.prog 34 #[vp b1 0] w0 fun e w => (∃ rx : GExpr × Gparser_reader, r = .ret rx ∧ ∃ (a2 : Option Addr) (c2 : Nat) (a3 : Option Addr) (c3 : Nat) (a4 : Option Addr) (c4 : Nat) (a5 : Option Addr) (c5 : Nat) (C : NP), e = .returned (Value.agg (AExpr rx.1 a2 c2 a3 c3 a4 c4)) ∧ Bun C0 F w0 C w [MO.box b1 67 (Aparser_reader rx.2 a5 c5)] [Cl.sl cGMono a2 c2 rx.1.Lin.L, Cl.sl cGIndex a3 c3 rx.1.Idx, Cl.sl cGExpr a4 c4 rx.1.Args, Cl.sl cGToken a5 c5 rx.2.l]) ∨ ∃ (pa pn : Int), r = .pan pa pn ∧ e = .panicked [pe 114 pa pn] ∧ ∃ C : NP, Bun C0 F w0 C w [] [] := by
 induction n with
 | zero => intro C0 F w0 r1 b1 a1 c1 hI r h; cases h
 | succ n ih => intro C0 F w0 r1 b1 a1 c1 hI r h; exact c_parser_reader_or_w_b (m_parser_reader_or_w_r n) ih C0 F w0 r1 b1 a1 c1 hI r h
theorem c_parser_reader_or_w (C0 F : NP) (w0 : World) (r1 : Gparser_reader) (b1 : Nat) (a1 : Option Addr) (c1 : Nat) (hI : Bun C0 F w0 C0 w0 [MO.box b1 67 (Aparser_reader r1 a1 c1)] [Cl.sl cGToken a1 c1 r1.l, clSpace]) (r : Pan (GExpr × Gparser_reader)) (h : m_parser_reader_or_w r1 = some r) : Calls Tryz.prog 34 #[vp b1 0] w0 fun e w => (∃ rx : GExpr × Gparser_reader, r = .ret rx ∧ ∃ (a2 : Option Addr) (c2 : Nat) (a3 : Option Addr) (c3 : Nat) (a4 : Option Addr) (c4 : Nat) (a5 : Option Addr) (c5 : Nat) (C : NP), e = .returned (Value.agg (AExpr rx.1 a2 c2 a3 c3 a4 c4)) ∧ Bun C0 F w0 C w [MO.box b1 67 (Aparser_reader rx.2 a5 c5)] [Cl.sl cGMono a2 c2 rx.1.Lin.L, Cl.sl cGIndex a3 c3 rx.1.Idx, Cl.sl cGExpr a4 c4 rx.1.Args, Cl.sl cGToken a5 c5 rx.2.l]) ∨ ∃ (pa pn : Int), r = .pan pa pn ∧ e = .panicked [pe 114 pa pn] ∧ ∃ C : NP, Bun C0 F w0 C w [] [] := c_parser_reader_or_w_r fu C0 F w0 r1 b1 a1 c1 hI r h
theorem c_parser_ExprAt_1_w2 (C0 F : NP) (w0 : World) (a1 : Gparser_reader) (a3 : GExpr) (b1 : Nat) (b2 : Nat) (a2 : Option Addr) (c1 : Nat) (b3 : Nat) (a4 : Option Addr) (c2 : Nat) (a5 : Option Addr) (c3 : Nat) (a6 : Option Addr) (c4 : Nat) (hI : Bun C0 F w0 C0 w0 [MO.box b2 67 (Aparser_reader a1 a2 c1), MO.box b3 39 (AExpr a3 a4 c2 a5 c3 a6 c4)] [Cl.sl cGToken a2 c1 a1.l, Cl.blk b1 65 #[vp b2 0], Cl.sl cGMono a4 c2 a3.Lin.L, Cl.sl cGIndex a5 c3 a3.Idx, Cl.sl cGExpr a6 c4 a3.Args, clSpace]) (r : Pan (Unit × Gparser_reader × GExpr))
  (h : m_parser_ExprAt_1_w2 a1 a3 = some r) :
  Calls Tryz.prog 33 #[vp b1 0, vp b3 0] w0 fun e w => (∃ rx : Unit × Gparser_reader × GExpr, r = .ret rx ∧ ∃ (a7 : Option Addr) (c5 : Nat) (a8 : Option Addr) (c6 : Nat) (a9 : Option Addr) (c7 : Nat) (a10 : Option Addr) (c8 : Nat) (C : NP), e = .returned (Value.tuple #[]) ∧ Bun C0 F w0 C w [MO.box b2 67 (Aparser_reader rx.2.1 a7 c5), MO.box b3 39 (AExpr rx.2.2 a8 c6 a9 c7 a10 c8)] [Cl.sl cGToken a7 c5 rx.2.1.l, Cl.sl cGMono a8 c6 rx.2.2.Lin.L, Cl.sl cGIndex a9 c7 rx.2.2.Idx, Cl.sl cGExpr a10 c8 rx.2.2.Args]) ∨ ∃ (pa pn : Int), r = .pan pa pn ∧ e = .panicked [pe 114 pa pn] ∧ ∃ C : NP, Bun C0 F w0 C w [] [] := by
 refine enterP (l := [vp b1 0, vp b3 0]) Tryz.func33 rfl Tryz.ntmps33 rfl ?_
 rw [m_parser_ExprAt_1_w2] at h
 refine T ?_
 obtain ⟨c9, f1, hB, hl1, hk1⟩ := hI.hands (.l (.r .n))
 refine s_pb h (fun _ hx1 => c_parser_reader_or_w c9 f1 w0 a1 b2 a2 c1 (hB.subs ⟨.z, (.s (.s (.s (.s (.s .z))))), trivial⟩) _ hx1) (pnb hk1) (r_callF rfl ok_34 ⟨et, trivial⟩) ?_
 rintro ⟨r1, s1⟩ hx1 h _ w1 ⟨a11, c10, a12, c11, a13, c12, a14, c13, c14, rfl, hB2⟩
 try dsimp only at h
 obtain ⟨c15, hs1, hI⟩ := hk1 _ _ _ _ hB2
 dsimp only [ca, na] at hI
 refine ⟨_, rfl, ?_⟩
 refine l_store (new := (lExpr r1 a11 c10 a12 c11 a13 c12)) (cs' := (AExpr r1 a11 c10 a12 c11 a13 c12)) hI (.s .z) gn rfl rfl et et rfl size_39 rfl rfl rfl ?_
 clear hI; intro c16 w2 hI
 refine s_nil ?_
 obtain rfl := some_inj h
 refine QG ?_
 exact .inl ⟨_, rfl, a14, c13, a11, c10, a12, c11, a13, c12, _, rfl, hI.arr GO SU⟩
def tr_parser_ExprAt_1_1 : Tr := .n
def tr_parser_ExprAt_1_0 : Tr := (.c (4, .s) (.c (6, .q) (.c (7, .q) tr_parser_ExprAt_1_1)))
theorem c_parser_ExprAt (F : NP) (w0 : World) (hF : ∀ k, F k → k < w0.heap.size) (l1 : List GToken) (at1 : Int) (a1 : Option Addr) (c1 : Nat) (hc : AllCl [Cl.sl cGToken a1 c1 l1, clSpace] F w0) (r : GExpr × Int × Int)
  (h : m_parser_ExprAt l1 at1 = some r) :
  Calls Tryz.prog 15 #[vs a1 l1.length c1, vi at1] w0 fun e w => ∃ (a2 : Option Addr) (c2 : Nat) (a3 : Option Addr) (c3 : Nat) (a4 : Option Addr) (c4 : Nat), e = .returned (Value.tuple #[(Value.agg (AExpr r.1 a2 c2 a3 c3 a4 c4)), vi r.2.1, vi r.2.2]) ∧ Ext w0 w ∧ AllCl [Cl.sl cGMono a2 c2 r.1.Lin.L, Cl.sl cGIndex a3 c3 r.1.Idx, Cl.sl cGExpr a4 c4 r.1.Args] F w := by
 refine enterK Tryz.func15 rfl Tryz.ntmps15 rfl ?_
 have hI := Bun.start hF hc
 clear hc
 rw [m_parser_ExprAt] at h
 refine sr (l_alloc (cs := #[vi 0, (str ([] : List UInt8)), vi 0, vi 0, vi 0, vi 0, vi 0, vi 0, vi 0, vi 0, vs none 0 0, vs none 0 0, vs none 0 0]) hI gn rfl rfl zero_39 rfl ?_)
 clear hI; intro b1 c5 w1 hI
 refine sac ?_
 refine sac ?_
 refine nk (c_seq (sr (sm ?_)))
 refine sq (y_lss rfl et ev_const) ?_
 refine sm ?_
 refine s_gval (g_false rfl rfl rfl rfl) rfl (fun hc => y_move rfl et) ?_
 refine s_gval (g_false rfl rfl rfl rfl) rfl (fun hc => y_move rfl et) ?_
 refine s_gval (g_false rfl rfl rfl rfl) rfl (fun hc => y_lenl rfl u22 (ev_gv et hc)) ?_
 refine s_gval (g_false rfl rfl rfl rfl) rfl (fun hc => y_gtr rfl (ev_gv et hc) (ev_gv et hc)) ?_
 refine sq (y_or rfl et et) ?_
 refine nk (cif h et (fun hb h => ?_) (fun hb h => ?_))
 ·refine sr (sq (y_build (vs := []) (cs := #[vi 0, (str ([] : List UInt8)), vi 0, vi 0, vi 0, vi 0, vi 0, vi 0, vi 0, vi 0, vs none 0 0, vs none 0 0, vs none 0 0]) rfl trivial (by kernel_rfl)) ?_)
  refine l_store (new := [vi 0, (str ([] : List UInt8)), vi 0, vi 0, vi 0, vi 0, vi 0, vi 0, vi 0, vi 0, vs none 0 0, vs none 0 0, vs none 0 0]) (cs' := #[vi 0, (str ([] : List UInt8)), vi 0, vi 0, vi 0, vi 0, vi 0, vi 0, vi 0, vi 0, vs none 0 0, vs none 0 0, vs none 0 0]) hI .z gn rfl rfl et et rfl size_39 rfl rfl rfl ?_
  clear hI; intro c6 w2 hI
  refine sac ?_
  refine sac ?_
  refine nk (c_ret ?_)
  have hI := hI.add (c := Cl.sl cGMono none 0 ([] : List GMono)) SlC.nil
  have hI := hI.add (c := Cl.sl cGIndex none 0 ([] : List GIndex)) SlC.nil
  have hI := hI.add (c := Cl.sl cGExpr none 0 ([] : List GExpr)) SlC.nil
  obtain rfl := some_inj h
  exact q_ret (vs := [(Value.agg #[vi 0, (str ([] : List UInt8)), vi 0, vi 0, vi 0, vi 0, vi 0, vi 0, vi 0, vi 0, vs none 0 0, vs none 0 0, vs none 0 0]), vi 0, vi 1]) Tryz.results15 ⟨⟨_, ev_tmp rfl rfl, load_agg (l := [vi 0, (str ([] : List UInt8)), vi 0, vi 0, vi 0, vi 0, vi 0, vi 0, vi 0, vi 0, vs none 0 0, vs none 0 0, vs none 0 0]) u39 rfl size_39 (CellsAt.of_blk (hI.blk .z) rfl)⟩, ⟨ev_tmp rfl rfl, ⟨ev_tmp rfl rfl, trivial⟩⟩⟩ ⟨none, 0, none, 0, none, 0, rfl, hI.ext0, hI.fin ⟨(.s (.s .z)), (.s .z), .z, trivial⟩⟩
 refine c_skip (k_same (sr (sm ?_)))
 refine sm ?_
 refine sq (y_build (vs := [(0, vs a1 l1.length c1), (1, vi at1)]) (cs := #[vs a1 l1.length c1, vi at1, vi 0]) rfl ⟨rfl, et, ⟨rfl, et, trivial⟩⟩ (by kernel_rfl)) ?_
 refine l_box (v := (Value.agg #[vs a1 l1.length c1, vi at1, vi 0])) (cs := #[vs a1 l1.length c1, vi at1, vi 0]) hI gn rfl rfl et rfl ?_
 clear hI; intro b2 c7 w3 hI
 refine l_alloc (cs := #[(Value.pointer none)]) hI gn rfl rfl zero_65 rfl ?_
 clear hI; intro b3 c8 w4 hI
 refine l_store (new := [vp b2 0]) (cs' := #[vp b2 0]) hI .z gn rfl rfl et et rfl size_65 rfl rfl rfl ?_
 clear hI; intro c9 w5 hI
 refine nk (sr (sq (y_build (vs := []) (cs := #[vi 0, (str ([] : List UInt8)), vi 0, vi 0, vi 0, vi 0, vi 0, vi 0, vi 0, vi 0, vs none 0 0, vs none 0 0, vs none 0 0]) rfl trivial (by kernel_rfl)) ?_))
 refine l_alloc (cs := #[vi 0, (str ([] : List UInt8)), vi 0, vi 0, vi 0, vi 0, vi 0, vi 0, vi 0, vi 0, vs none 0 0, vs none 0 0, vs none 0 0]) hI gn rfl rfl zero_39 rfl ?_
 clear hI; intro b4 c10 w6 hI
 refine l_store (new := [vi 0, (str ([] : List UInt8)), vi 0, vi 0, vi 0, vi 0, vi 0, vi 0, vi 0, vi 0, vs none 0 0, vs none 0 0, vs none 0 0]) (cs' := #[vi 0, (str ([] : List UInt8)), vi 0, vi 0, vi 0, vi 0, vi 0, vi 0, vi 0, vi 0, vs none 0 0, vs none 0 0, vs none 0 0]) hI .z gn rfl rfl et et rfl size_39 rfl rfl rfl ?_
 clear hI; intro c11 w7 hI
 refine nk (c_seq (sr (sq (y_makeFunc (vs := []) (cap := [vp b3 0, vp b4 0]) rfl rfl ⟨et, ⟨et, trivial⟩⟩) ?_)))
 obtain ⟨c12, hI⟩ := hI.relBox (.s .z)
 have hI := hI.add (c := Cl.sl cGMono none 0 ([] : List GMono)) SlC.nil
 have hI := hI.add (c := Cl.sl cGIndex none 0 ([] : List GIndex)) SlC.nil
 have hI := hI.add (c := Cl.sl cGExpr none 0 ([] : List GExpr)) SlC.nil
 obtain ⟨c13, f1, hB, hl1, hk1⟩ := hI.hands (.l (.l (.r .n)))
 replace hB := hB.ord (.c (.s .z) (.c .z .n))
 rcases pcatch_some h with ⟨⟨r1, s1, s2⟩, hx1, h⟩ | ⟨pa1, pn1, hx1, hn1, h⟩
 ·skip
  try dsimp only at h
  refine s_call gn rfl (r_callF (vs := [(Value.func (.func 33) #[] #[vp b3 0, vp b4 0])]) rfl ok_29 ⟨et, trivial⟩) (Calls.mono (c_caught_ret (β := (Option Addr) × Nat × (Option Addr) × Nat × (Option Addr) × Nat × (Option Addr) × Nat) (fun x => [MO.box b2 67 (Aparser_reader s1 (x.1) (x.2.1)), MO.box b4 39 (AExpr s2 (x.2.2.1) (x.2.2.2.1) (x.2.2.2.2.1) (x.2.2.2.2.2.1) (x.2.2.2.2.2.2.1) (x.2.2.2.2.2.2.2))]) (fun x => [Cl.sl cGToken (x.1) (x.2.1) s1.l, Cl.sl cGMono (x.2.2.1) (x.2.2.2.1) s2.Lin.L, Cl.sl cGIndex (x.2.2.2.2.1) (x.2.2.2.2.2.1) s2.Idx, Cl.sl cGExpr (x.2.2.2.2.2.2.1) (x.2.2.2.2.2.2.2) s2.Args]) (cl := [Cl.sl cGToken a1 c1 l1, Cl.blk b3 65 #[vp b2 0], Cl.sl cGMono none 0 ([] : List GMono), Cl.sl cGIndex none 0 ([] : List GIndex), Cl.sl cGExpr none 0 ([] : List GExpr), clSpace]) ok_33 (hB.subs ⟨(.s (.s (.s (.s .z)))), (.s (.s (.s .z))), (.s (.s .z)), (.s .z), .z, (.s (.s (.s (.s (.s .z))))), trivial⟩) (fun C1_ F1_ w1_ hB_ => (c_parser_ExprAt_1_w2 C1_ F1_ w1_ (⟨l1, at1, 0⟩ : Gparser_reader) (⟨0, ([] : List UInt8), (⟨0, 0⟩ : GVal), (⟨0, 0, 0, 0, 0⟩ : GType), (⟨0, ([] : List GMono)⟩ : GLin), ([] : List GIndex), ([] : List GExpr)⟩ : GExpr) b3 b2 a1 c1 b4 none 0 none 0 none 0 hB_ _ hx1).mono fun e_ w_ hq_ => (let ⟨a5, c14, a6, c15, a7, c16, a8, c17, C_, he_, hB2_⟩ := ret_of hq_; ⟨he_, (a5, c14, a6, c15, a7, c16, a8, c17), C_, hB2_⟩))) ?_)
  rintro _ w8 ⟨rfl, ⟨a5, c14, a6, c15, a7, c16, a8, c17⟩, c18, hB2⟩
  obtain ⟨c19, hs1, hI⟩ := hk1 _ _ _ _ hB2
  replace hI : Bun noM F w0 c19 w8 [MO.box b2 67 (Aparser_reader s1 a5 c14), MO.box b4 39 (AExpr s2 a6 c15 a7 c16 a8 c17), MO.box b1 39 #[vi 0, (str ([] : List UInt8)), vi 0, vi 0, vi 0, vi 0, vi 0, vi 0, vi 0, vi 0, vs none 0 0, vs none 0 0, vs none 0 0]] [Cl.sl cGToken a5 c14 s1.l, Cl.sl cGMono a6 c15 s2.Lin.L, Cl.sl cGIndex a7 c16 s2.Idx, Cl.sl cGExpr a8 c17 s2.Args, Cl.sl cGExpr none 0 ([] : List GExpr), Cl.sl cGIndex none 0 ([] : List GIndex), Cl.sl cGMono none 0 ([] : List GMono), Cl.blk b3 65 #[vp b2 0], Cl.sl cGToken a1 c1 l1, clSpace] := hI
  refine ⟨_, rfl, ?_⟩
  refine sm ?_
  refine sq (y_extract rfl et rfl) ?_
  refine sq (y_extract rfl et rfl) ?_
  refine sa ?_
  refine sa ?_
  refine nk (sr (sm ?_))
  refine sq (y_neq rfl et ev_const) ?_
  refine nk (cif h et (fun hb h => ?_) (fun hb h => ?_))
  ·refine sr (sq (y_build (vs := []) (cs := #[vi 0, (str ([] : List UInt8)), vi 0, vi 0, vi 0, vi 0, vi 0, vi 0, vi 0, vi 0, vs none 0 0, vs none 0 0, vs none 0 0]) rfl trivial (by kernel_rfl)) ?_)
   refine sm ?_
   refine sm ?_
   refine l_store (new := [vi 0, (str ([] : List UInt8)), vi 0, vi 0, vi 0, vi 0, vi 0, vi 0, vi 0, vi 0, vs none 0 0, vs none 0 0, vs none 0 0]) (cs' := #[vi 0, (str ([] : List UInt8)), vi 0, vi 0, vi 0, vi 0, vi 0, vi 0, vi 0, vi 0, vs none 0 0, vs none 0 0, vs none 0 0]) hI (.s (.s .z)) gn rfl rfl et et rfl size_39 rfl rfl rfl ?_
   clear hI; intro c20 w9 hI
   refine sa ?_
   refine sa ?_
   refine s_nil ?_
   refine k_next (e := [(4, vp b1 0), (5, vi 0), (6, vi 0)]) ⟨rfl, rfl, rfl, trivial⟩ ?_
   refine c_ret ?_
   obtain rfl := some_inj h
   exact q_ret (vs := [(Value.agg #[vi 0, (str ([] : List UInt8)), vi 0, vi 0, vi 0, vi 0, vi 0, vi 0, vi 0, vi 0, vs none 0 0, vs none 0 0, vs none 0 0]), vi 0, vi 0]) Tryz.results15 ⟨⟨_, ev_tmp rfl rfl, load_agg (l := [vi 0, (str ([] : List UInt8)), vi 0, vi 0, vi 0, vi 0, vi 0, vi 0, vi 0, vi 0, vs none 0 0, vs none 0 0, vs none 0 0]) u39 rfl size_39 (CellsAt.of_blk (hI.blk (.s (.s .z))) rfl)⟩, ⟨ev_tmp rfl rfl, ⟨ev_tmp rfl rfl, trivial⟩⟩⟩ ⟨none, 0, none, 0, none, 0, rfl, hI.ext0, hI.fin ⟨(.s (.s (.s (.s (.s (.s .z)))))), (.s (.s (.s (.s (.s .z))))), (.s (.s (.s (.s .z)))), trivial⟩⟩
  refine c_skip (k_next (e := [(1, vi at1), (4, vp b1 0), (7, vp b3 0), (8, vp b4 0)]) ⟨rfl, rfl, rfl, rfl, trivial⟩ ?_)
  refine c_seq (sr (sq (y_loadN (l := (lExpr s2 a6 c15 a7 c16 a8 c17)) rfl et u39 rfl size_39 (CellsAt.of_blk (hI.blk (.s .z)) rfl)) ?_))
  obtain ⟨r2, hx2, h⟩ := bnd_some h
  refine s_call gn rfl (r_callF (vs := [(Value.agg (AExpr s2 a6 c15 a7 c16 a8 c17))]) rfl ok_35 ⟨et, trivial⟩) (Calls.mono (c_expr_Validate (Dj F c19) w8 hI.lt s2 a6 c15 a7 c16 a8 c17 ⟨(hI.get (.s .z)), (hI.get (.s (.s .z))), (hI.get (.s (.s (.s .z)))), (hI.get (.s (.s (.s (.s (.s (.s (.s (.s (.s .z)))))))))), trivial⟩ r2 hx2) ?_)
  rintro _ w10 ⟨rfl, hx3, hl2⟩
  refine ⟨_, rfl, ?_⟩
  replace hI := (hI.ext hx3)
  refine sa ?_
  refine nk (sr (sm ?_))
  refine sq (y_neq rfl et ev_const) ?_
  refine nk (cif h et (fun hb h => ?_) (fun hb h => ?_))
  ·refine sr (sq (y_build (vs := []) (cs := #[vi 0, (str ([] : List UInt8)), vi 0, vi 0, vi 0, vi 0, vi 0, vi 0, vi 0, vi 0, vs none 0 0, vs none 0 0, vs none 0 0]) rfl trivial (by kernel_rfl)) ?_)
   refine sm ?_
   refine sm ?_
   refine l_store (new := [vi 0, (str ([] : List UInt8)), vi 0, vi 0, vi 0, vi 0, vi 0, vi 0, vi 0, vi 0, vs none 0 0, vs none 0 0, vs none 0 0]) (cs' := #[vi 0, (str ([] : List UInt8)), vi 0, vi 0, vi 0, vi 0, vi 0, vi 0, vi 0, vi 0, vs none 0 0, vs none 0 0, vs none 0 0]) hI (.s (.s .z)) gn rfl rfl et et rfl size_39 rfl rfl rfl ?_
   clear hI; intro c21 w11 hI
   refine sa ?_
   refine sa ?_
   refine nk (c_ret ?_)
   obtain rfl := some_inj h
   exact q_ret (vs := [(Value.agg #[vi 0, (str ([] : List UInt8)), vi 0, vi 0, vi 0, vi 0, vi 0, vi 0, vi 0, vi 0, vs none 0 0, vs none 0 0, vs none 0 0]), vi at1, vi r2]) Tryz.results15 ⟨⟨_, ev_tmp rfl rfl, load_agg (l := [vi 0, (str ([] : List UInt8)), vi 0, vi 0, vi 0, vi 0, vi 0, vi 0, vi 0, vi 0, vs none 0 0, vs none 0 0, vs none 0 0]) u39 rfl size_39 (CellsAt.of_blk (hI.blk (.s (.s .z))) rfl)⟩, ⟨ev_tmp rfl rfl, ⟨ev_tmp rfl rfl, trivial⟩⟩⟩ ⟨none, 0, none, 0, none, 0, rfl, hI.ext0, hI.fin ⟨(.s (.s (.s (.s (.s (.s .z)))))), (.s (.s (.s (.s (.s .z))))), (.s (.s (.s (.s .z)))), trivial⟩⟩
  refine c_skip (k_same (c_seq (c_drawX [5] false (.c (0, .q) (.two 1 (.c (2, .q) (.c (3, .q) (.two 4 (.c (5, .s) (.c (6, .q) (.c (7, .q) tr_parser_ExprAt_1_1))) 5 tr_parser_ExprAt_1_0))) 5 (.c (1, .s) (.c (2, .q) (.c (3, .q) tr_parser_ExprAt_1_0))))) hI (by kernel_rfl) (by kernel_rfl) ?_)))
  clear hI; intro w15 hI
  refine a_join (α := NP) (T := tr_parser_ExprAt_1_1) (fun x => [(1, vi at1), (4, vp b1 0), (5, vi s1.at_), (6, vi 0), (7, vp b3 0), (8, vp b4 0), (11, vi r2), (36, (Value.agg (AExpr s2 a6 c15 a7 c16 a8 c17))), (37, vi r2), (38, vi r2), (39, (vb (!decide (r2 = 0)))), (43, (Value.agg (AExpr s2 a6 c15 a7 c16 a8 c17))), (44, vp b2 0), (45, vp b2 0), (46, vp b2 1), (47, vi s1.at_)]) (fun x w => Bun noM F w0 x w [MO.box b2 67 (Aparser_reader s1 a5 c14), MO.box b4 39 (AExpr s2 a6 c15 a7 c16 a8 c17), MO.box b1 39 (AExpr s2 a6 c15 a7 c16 a8 c17)] [Cl.sl cGToken a5 c14 s1.l, Cl.sl cGMono a6 c15 s2.Lin.L, Cl.sl cGIndex a7 c16 s2.Idx, Cl.sl cGExpr a8 c17 s2.Args, Cl.sl cGExpr none 0 ([] : List GExpr), Cl.sl cGIndex none 0 ([] : List GIndex), Cl.sl cGMono none 0 ([] : List GMono), Cl.blk b3 65 #[vp b2 0], Cl.sl cGToken a1 c1 l1, clSpace]) (fun x w => SN [] (DM true F x) w) ?_ ?_
  ·clear hI; rintro c24 w14 hI
   try dsimp only at hI ⊢
   unfold tr_parser_ExprAt_1_1
   refine a_nil ?_
   refine k_same (c_ret ?_)
   obtain rfl := some_inj h
   exact q_ret (vs := [(Value.agg (AExpr s2 a6 c15 a7 c16 a8 c17)), vi s1.at_, vi 0]) Tryz.results15 ⟨⟨_, ev_tmp rfl rfl, load_agg (l := (lExpr s2 a6 c15 a7 c16 a8 c17)) u39 rfl size_39 (CellsAt.of_blk (hI.blk (.s (.s .z))) rfl)⟩, ⟨ev_tmp rfl rfl, ⟨ev_tmp rfl rfl, trivial⟩⟩⟩ ⟨a6, c15, a7, c16, a8, c17, rfl, hI.ext0, hI.fin ⟨(.s .z), (.s (.s .z)), (.s (.s (.s .z))), trivial⟩⟩
  intro hk_tr_parser_ExprAt_1_1
  refine a_join (α := NP) (T := tr_parser_ExprAt_1_0) (fun x => [(1, vi at1), (4, vp b1 0), (7, vp b3 0), (8, vp b4 0), (11, vi r2), (36, (Value.agg (AExpr s2 a6 c15 a7 c16 a8 c17))), (37, vi r2), (38, vi r2), (39, (vb (!decide (r2 = 0)))), (43, (Value.agg (AExpr s2 a6 c15 a7 c16 a8 c17))), (44, vp b2 0), (45, vp b2 0), (46, vp b2 1)]) (fun x w => Bun noM F w0 x w [MO.box b2 67 (Aparser_reader s1 a5 c14), MO.box b4 39 (AExpr s2 a6 c15 a7 c16 a8 c17), MO.box b1 39 (AExpr s2 a6 c15 a7 c16 a8 c17)] [Cl.sl cGToken a5 c14 s1.l, Cl.sl cGMono a6 c15 s2.Lin.L, Cl.sl cGIndex a7 c16 s2.Idx, Cl.sl cGExpr a8 c17 s2.Args, Cl.sl cGExpr none 0 ([] : List GExpr), Cl.sl cGIndex none 0 ([] : List GIndex), Cl.sl cGMono none 0 ([] : List GMono), Cl.blk b3 65 #[vp b2 0], Cl.sl cGToken a1 c1 l1, clSpace]) (fun x w => SN [] (DM true F x) w) ?_ ?_
  ·clear hI; rintro c23 w13 hI
   try dsimp only at hI ⊢
   unfold tr_parser_ExprAt_1_0
   refine a_val rfl gn rfl (y_load1 (v := (vi s1.at_)) rfl et u3 rfl (CellsAt.of_blk (hI.blk .z) rfl)) SX.self ?_
   refine a_q rfl gn rfl (fun w' => y_assign rfl et) ?_
   refine a_q rfl gn rfl (fun w' => y_assign rfl ev_const) ?_
   exact a_sub (hk_tr_parser_ExprAt_1_1 c23 _ (hI.arr (.c .z (.c .z (.c .z .n))) ⟨.z, (.s .z), (.s (.s .z)), (.s (.s (.s .z))), (.s (.s (.s (.s .z)))), (.s (.s (.s (.s (.s .z))))), (.s (.s (.s (.s (.s (.s .z)))))), (.s (.s (.s (.s (.s (.s (.s .z))))))), (.s (.s (.s (.s (.s (.s (.s (.s .z)))))))), (.s (.s (.s (.s (.s (.s (.s (.s (.s .z))))))))), trivial⟩)) ⟨rfl, rfl, rfl, rfl, rfl, rfl, rfl, rfl, rfl, rfl, rfl, rfl, rfl, rfl, rfl, rfl, trivial⟩
  intro hk_tr_parser_ExprAt_1_0
  refine a_read rfl gn rfl (fun w' hw' => (y_loadN (l := (lExpr s2 a6 c15 a7 c16 a8 c17)) rfl et u39 rfl size_39 ((CA.blk (hI.blk (.s .z)) rfl).at_ (SX.any rfl hw')))) (by kernel_rfl) ?_
  refine a_two ?_ ?_
  ·skip
   refine a_val rfl gn rfl (y_load1 (v := (vp b2 0)) rfl et u65 rfl (hI.kblk (l := [vp b2 0]) (.s (.s (.s (.s (.s (.s (.s .z))))))) rfl).1) SX.self ?_
   refine a_q rfl gn rfl (fun w' => y_nilCheck rfl et) ?_
   refine a_q rfl gn rfl (fun w' => y_fieldAddr rfl et u67 rfl size_3 rfl) ?_
   refine a_two ?_ ?_
   ·skip
    refine a_val rfl gn rfl (y_load1 (v := (vi s1.at_)) rfl et u3 rfl (CellsAt.of_blk (hI.blk .z) rfl)) SX.self ?_
    refine a_turn (F := F) (C := c19) rfl rfl ?_
    refine la_store (new := (lExpr s2 a6 c15 a7 c16 a8 c17)) (cs' := (AExpr s2 a6 c15 a7 c16 a8 c17)) hI (.s (.s .z)) rfl gn rfl rfl et et rfl size_39 rfl rfl rfl ?_
    clear hI; intro c22 w12 hI
    refine a_q rfl gn rfl (fun w' => y_assign rfl et) ?_
    refine a_q rfl gn rfl (fun w' => y_assign rfl ev_const) ?_
    exact a_sub (hk_tr_parser_ExprAt_1_1 c22 _ (hI.arr (.c .z (.c .z (.c .z .n))) ⟨.z, (.s .z), (.s (.s .z)), (.s (.s (.s .z))), (.s (.s (.s (.s .z)))), (.s (.s (.s (.s (.s .z))))), (.s (.s (.s (.s (.s (.s .z)))))), (.s (.s (.s (.s (.s (.s (.s .z))))))), (.s (.s (.s (.s (.s (.s (.s (.s .z)))))))), (.s (.s (.s (.s (.s (.s (.s (.s (.s .z))))))))), trivial⟩)) ⟨rfl, rfl, rfl, rfl, rfl, rfl, rfl, rfl, rfl, rfl, rfl, rfl, rfl, rfl, rfl, rfl, trivial⟩
   refine a_turnT (F := F) (C := c19) rfl rfl ?_
   refine la_store (new := (lExpr s2 a6 c15 a7 c16 a8 c17)) (cs' := (AExpr s2 a6 c15 a7 c16 a8 c17)) hI (.s (.s .z)) rfl gn rfl rfl et et rfl size_39 rfl rfl rfl ?_
   clear hI; intro c22 w12 hI
   exact a_sub (hk_tr_parser_ExprAt_1_0 c22 _ (hI.arr (.c .z (.c .z (.c .z .n))) ⟨.z, (.s .z), (.s (.s .z)), (.s (.s (.s .z))), (.s (.s (.s (.s .z)))), (.s (.s (.s (.s (.s .z))))), (.s (.s (.s (.s (.s (.s .z)))))), (.s (.s (.s (.s (.s (.s (.s .z))))))), (.s (.s (.s (.s (.s (.s (.s (.s .z)))))))), (.s (.s (.s (.s (.s (.s (.s (.s (.s .z))))))))), trivial⟩)) ⟨rfl, rfl, rfl, rfl, rfl, rfl, rfl, rfl, rfl, rfl, rfl, rfl, rfl, trivial⟩
  refine a_turnT (F := F) (C := c19) rfl rfl ?_
  refine la_store (new := (lExpr s2 a6 c15 a7 c16 a8 c17)) (cs' := (AExpr s2 a6 c15 a7 c16 a8 c17)) hI (.s (.s .z)) rfl gn rfl rfl et et rfl size_39 rfl rfl rfl ?_
  clear hI; intro c22 w12 hI
  refine a_val rfl gn rfl (y_load1 (v := (vp b2 0)) rfl et u65 rfl (hI.kblk (l := [vp b2 0]) (.s (.s (.s (.s (.s (.s (.s .z))))))) rfl).1) SX.self ?_
  refine a_q rfl gn rfl (fun w' => y_nilCheck rfl et) ?_
  refine a_q rfl gn rfl (fun w' => y_fieldAddr rfl et u67 rfl size_3 rfl) ?_
  exact a_sub (hk_tr_parser_ExprAt_1_0 c22 _ (hI.arr (.c .z (.c .z (.c .z .n))) ⟨.z, (.s .z), (.s (.s .z)), (.s (.s (.s .z))), (.s (.s (.s (.s .z)))), (.s (.s (.s (.s (.s .z))))), (.s (.s (.s (.s (.s (.s .z)))))), (.s (.s (.s (.s (.s (.s (.s .z))))))), (.s (.s (.s (.s (.s (.s (.s (.s .z)))))))), (.s (.s (.s (.s (.s (.s (.s (.s (.s .z))))))))), trivial⟩)) ⟨rfl, rfl, rfl, rfl, rfl, rfl, rfl, rfl, rfl, rfl, rfl, rfl, rfl, trivial⟩
 try dsimp only at h
 refine s_call gn rfl (r_callF (vs := [(Value.func (.func 33) #[] #[vp b3 0, vp b4 0])]) rfl ok_29 ⟨et, trivial⟩) (Calls.mono (c_caught_pan (cl := [Cl.sl cGToken a1 c1 l1, Cl.blk b3 65 #[vp b2 0], Cl.sl cGMono none 0 ([] : List GMono), Cl.sl cGIndex none 0 ([] : List GIndex), Cl.sl cGExpr none 0 ([] : List GExpr), clSpace]) ok_33 (hB.subs ⟨(.s (.s (.s (.s .z)))), (.s (.s (.s .z))), (.s (.s .z)), (.s .z), .z, (.s (.s (.s (.s (.s .z))))), trivial⟩) (fun C1_ F1_ w1_ hB_ => (c_parser_ExprAt_1_w2 C1_ F1_ w1_ (⟨l1, at1, 0⟩ : Gparser_reader) (⟨0, ([] : List UInt8), (⟨0, 0⟩ : GVal), (⟨0, 0, 0, 0, 0⟩ : GType), (⟨0, ([] : List GMono)⟩ : GLin), ([] : List GIndex), ([] : List GExpr)⟩ : GExpr) b3 b2 a1 c1 b4 none 0 none 0 none 0 hB_ _ hx1).mono fun e_ w_ hq_ => pan_of hq_)) ?_)
 rintro _ w16 ⟨rfl, c25, hB2⟩
 obtain ⟨c26, hs2, hI⟩ := hk1 _ _ _ _ hB2
 replace hI : Bun noM F w0 c26 w16 [MO.box b1 39 #[vi 0, (str ([] : List UInt8)), vi 0, vi 0, vi 0, vi 0, vi 0, vi 0, vi 0, vi 0, vs none 0 0, vs none 0 0, vs none 0 0]] [Cl.sl cGExpr none 0 ([] : List GExpr), Cl.sl cGIndex none 0 ([] : List GIndex), Cl.sl cGMono none 0 ([] : List GMono), Cl.blk b3 65 #[vp b2 0], Cl.sl cGToken a1 c1 l1, clSpace] := hI
 refine ⟨_, rfl, ?_⟩
 have hk2 : (!decide (pn1 = 0)) = true := by simp [hn1]
 refine sm ?_
 refine sq (y_extract rfl et rfl) ?_
 refine sq (y_extract rfl et rfl) ?_
 refine sa ?_
 refine sa ?_
 refine nk (sr (sm ?_))
 refine sq (y_neq rfl et ev_const) ?_
 refine nk (c_cond (b := !decide (pn1 = 0)) et (fun _ => ?_) (fun hb => absurd (hb.symm.trans hk2) (by simp)))
 refine sr (sq (y_build (vs := []) (cs := #[vi 0, (str ([] : List UInt8)), vi 0, vi 0, vi 0, vi 0, vi 0, vi 0, vi 0, vi 0, vs none 0 0, vs none 0 0, vs none 0 0]) rfl trivial (by kernel_rfl)) ?_)
 refine sm ?_
 refine sm ?_
 refine l_store (new := [vi 0, (str ([] : List UInt8)), vi 0, vi 0, vi 0, vi 0, vi 0, vi 0, vi 0, vi 0, vs none 0 0, vs none 0 0, vs none 0 0]) (cs' := #[vi 0, (str ([] : List UInt8)), vi 0, vi 0, vi 0, vi 0, vi 0, vi 0, vi 0, vi 0, vs none 0 0, vs none 0 0, vs none 0 0]) hI .z gn rfl rfl et et rfl size_39 rfl rfl rfl ?_
 clear hI; intro c27 w17 hI
 refine sa ?_
 refine sa ?_
 refine s_nil ?_
 refine k_next (e := [(4, vp b1 0), (5, vi pa1), (6, vi pn1)]) ⟨rfl, rfl, rfl, trivial⟩ ?_
 refine c_ret ?_
 obtain rfl := some_inj h
 exact q_ret (vs := [(Value.agg #[vi 0, (str ([] : List UInt8)), vi 0, vi 0, vi 0, vi 0, vi 0, vi 0, vi 0, vi 0, vs none 0 0, vs none 0 0, vs none 0 0]), vi pa1, vi pn1]) Tryz.results15 ⟨⟨_, ev_tmp rfl rfl, load_agg (l := [vi 0, (str ([] : List UInt8)), vi 0, vi 0, vi 0, vi 0, vi 0, vi 0, vi 0, vi 0, vs none 0 0, vs none 0 0, vs none 0 0]) u39 rfl size_39 (CellsAt.of_blk (hI.blk .z) rfl)⟩, ⟨ev_tmp rfl rfl, ⟨ev_tmp rfl rfl, trivial⟩⟩⟩ ⟨none, 0, none, 0, none, 0, rfl, hI.ext0, hI.fin ⟨(.s (.s .z)), (.s .z), .z, trivial⟩⟩
theorem c_parser_offset (F : NP) (w0 : World) (hF : ∀ k, F k → k < w0.heap.size) (s1 : List UInt8) (l1 : List GToken) (at1 : Int) (a1 : Option Addr) (c1 : Nat) (hc : AllCl [Cl.sl cGToken a1 c1 l1] F w0) (r : Int)
  (h : m_parser_offset s1 l1 at1 = some r) :
  Calls Tryz.prog 40 #[(str s1), vs a1 l1.length c1, vi at1] w0 fun e w => e = .returned (vi r) ∧ Ext w0 w ∧ AllCl [] F w := by
 refine enterK Tryz.func40 rfl Tryz.ntmps40 rfl ?_
 have hI := Bun.start hF hc
 clear hc
 rw [m_parser_offset] at h
 refine T ?_
 refine c_seq (T ?_)
 refine cif h et (fun hb h => ?_) (fun hb h => ?_)
 ·refine T ?_
  refine c_ret ?_
  obtain rfl := some_inj h
  exact QF hI
 refine T ?_
 obtain ⟨e1, hx1, h⟩ := bnd_some h
 obtain ⟨ad1, cs1, hA1, hr1, hq1⟩ := hI.clat .z hx1
 obtain rfl : cs1 = (lToken e1) := hr1
 refine sI ?_
 refine T ?_
 refine c_ret ?_
 obtain rfl := some_inj h
 exact QF hI
theorem c_parser_Expr (F : NP) (w0 : World) (hF : ∀ k, F k → k < w0.heap.size) (s1 : List UInt8) (hc : AllCl [clSpace] F w0) (r : GExpr × Int × Int)
  (h : m_parser_Expr s1 = some r) :
  Calls Tryz.prog 18 #[(str s1)] w0 fun e w => ∃ (a1 : Option Addr) (c1 : Nat) (a2 : Option Addr) (c2 : Nat) (a3 : Option Addr) (c3 : Nat), e = .returned (Value.tuple #[(Value.agg (AExpr r.1 a1 c1 a2 c2 a3 c3)), vi r.2.1, vi r.2.2]) ∧ Ext w0 w ∧ AllCl [Cl.sl cGMono a1 c1 r.1.Lin.L, Cl.sl cGIndex a2 c2 r.1.Idx, Cl.sl cGExpr a3 c3 r.1.Args] F w := by
 refine enterK Tryz.func18 rfl Tryz.ntmps18 rfl ?_
 have hI := Bun.start hF hc
 clear hc
 rw [m_parser_Expr] at h
 refine sr (l_alloc (cs := #[vi 0, (str ([] : List UInt8)), vi 0, vi 0, vi 0, vi 0, vi 0, vi 0, vi 0, vi 0, vs none 0 0, vs none 0 0, vs none 0 0]) hI gn rfl rfl zero_39 rfl ?_)
 clear hI; intro b1 c4 w1 hI
 refine T ?_
 obtain ⟨r1, hx1, h⟩ := bnd_some h
 refine s_call gn rfl (r_callF (vs := [(str s1)]) rfl ok_39 ⟨et, trivial⟩) (Calls.mono (c_lexer_Tokenize (Dj F c4) w1 hI.lt s1 trivial r1 hx1) ?_)
 rintro _ w2 ⟨a4, c5, rfl, hx2, hl1⟩
 refine ⟨_, rfl, ?_⟩
 replace hI := (hI.ext hx2).adds hl1; dsimp only [ca, na] at hI
 refine T ?_
 refine c_seq (T ?_)
 refine cif h et (fun hb h => ?_) (fun hb h => ?_)
 ·refine sr (sq (y_build (vs := []) (cs := #[vi 0, (str ([] : List UInt8)), vi 0, vi 0, vi 0, vi 0, vi 0, vi 0, vi 0, vi 0, vs none 0 0, vs none 0 0, vs none 0 0]) rfl trivial (by kernel_rfl)) ?_)
  refine T ?_
  refine l_store (new := [vi 0, (str ([] : List UInt8)), vi 0, vi 0, vi 0, vi 0, vi 0, vi 0, vi 0, vi 0, vs none 0 0, vs none 0 0, vs none 0 0]) (cs' := #[vi 0, (str ([] : List UInt8)), vi 0, vi 0, vi 0, vi 0, vi 0, vi 0, vi 0, vi 0, vs none 0 0, vs none 0 0, vs none 0 0]) hI .z gn rfl rfl et et rfl size_39 rfl rfl rfl ?_
  clear hI; intro c6 w3 hI
  refine T ?_
  refine c_ret ?_
  have hI := hI.add (c := Cl.sl cGMono none 0 ([] : List GMono)) SlC.nil
  have hI := hI.add (c := Cl.sl cGIndex none 0 ([] : List GIndex)) SlC.nil
  have hI := hI.add (c := Cl.sl cGExpr none 0 ([] : List GExpr)) SlC.nil
  obtain rfl := some_inj h
  refine QG ?_
  exact ⟨none, 0, none, 0, none, 0, rfl, hI.ext0, hI.fin ⟨(.s (.s .z)), (.s .z), .z, trivial⟩⟩
 refine T ?_
 obtain ⟨r2, hx3, h⟩ := bnd_some h
 refine s_call gn rfl (r_callF (vs := [vs a4 r1.1.length c5, vi 0]) rfl ok_15 ⟨et, ⟨ev_const, trivial⟩⟩) (Calls.mono (c_parser_ExprAt (Dj F c4) w2 hI.lt r1.1 0 a4 c5 ⟨(hI.get .z), (hI.get (.s .z)), trivial⟩ r2 hx3) ?_)
 rintro _ w4 ⟨a5, c7, a6, c8, a7, c9, rfl, hx4, hl2⟩
 refine ⟨_, rfl, ?_⟩
 replace hI := (hI.ext hx4).adds hl2; dsimp only [ca, na] at hI
 refine T ?_
 refine l_alloc (cs := #[vi 0, (str ([] : List UInt8)), vi 0, vi 0, vi 0, vi 0, vi 0, vi 0, vi 0, vi 0, vs none 0 0, vs none 0 0, vs none 0 0]) hI gn rfl rfl zero_39 rfl ?_
 clear hI; intro b2 c10 w5 hI
 refine l_store (new := (lExpr r2.1 a5 c7 a6 c8 a7 c9)) (cs' := (AExpr r2.1 a5 c7 a6 c8 a7 c9)) hI .z gn rfl rfl et et rfl size_39 rfl rfl rfl ?_
 clear hI; intro c11 w6 hI
 refine T ?_
 refine c_join (α := Int) (fun _ => ⟨44, []⟩) (fun x => [(0, (str s1)), (2, vp b1 0), (5, vs a4 r1.1.length c5), (7, vi x), (8, vp b2 0), (9, vi r2.2.1)]) (fun x => fun w => ∃ C, Bun noM F w0 C w [MO.box b1 39 #[vi 0, (str ([] : List UInt8)), vi 0, vi 0, vi 0, vi 0, vi 0, vi 0, vi 0, vi 0, vs none 0 0, vs none 0 0, vs none 0 0], MO.box b2 39 (AExpr r2.1 a5 c7 a6 c8 a7 c9)] [Cl.sl cGToken a4 c5 r1.1, Cl.sl cGMono a5 c7 r2.1.Lin.L, Cl.sl cGIndex a6 c8 r2.1.Idx, Cl.sl cGExpr a7 c9 r2.1.Args, clSpace] ∧ m_parser_Expr_j1 s1 r1 r2 x = some r) ?_ ?_
 ·clear h hI; rintro e1 w7 ⟨c12, hI, h⟩
  try dsimp only at hI h
  rw [m_parser_Expr_j1] at h
  refine c_sub (e := [(0, (str s1)), (2, vp b1 0), (5, vs a4 r1.1.length c5), (7, vi e1), (8, vp b2 0), (9, vi r2.2.1)]) SB ?_
  refine c_seq (T ?_)
  refine cif h et (fun hb h => ?_) (fun hb h => ?_)
  ·refine sr (sq (y_build (vs := []) (cs := #[vi 0, (str ([] : List UInt8)), vi 0, vi 0, vi 0, vi 0, vi 0, vi 0, vi 0, vi 0, vs none 0 0, vs none 0 0, vs none 0 0]) rfl trivial (by kernel_rfl)) ?_)
   refine T ?_
   obtain ⟨r3, hx5, h⟩ := bnd_some h
   refine s_call gn rfl (r_callF (vs := [(str s1), vs a4 r1.1.length c5, vi r2.2.1]) rfl ok_40 ⟨et, ⟨et, ⟨et, trivial⟩⟩⟩) (Calls.mono (c_parser_offset (Dj F c12) w7 hI.lt s1 r1.1 r2.2.1 a4 c5 ⟨(hI.get .z), trivial⟩ r3 hx5) ?_)
   rintro _ w8 ⟨rfl, hx6, hl3⟩
   refine ⟨_, rfl, ?_⟩
   replace hI := (hI.ext hx6)
   refine sm ?_
   refine l_store (new := [vi 0, (str ([] : List UInt8)), vi 0, vi 0, vi 0, vi 0, vi 0, vi 0, vi 0, vi 0, vs none 0 0, vs none 0 0, vs none 0 0]) (cs' := #[vi 0, (str ([] : List UInt8)), vi 0, vi 0, vi 0, vi 0, vi 0, vi 0, vi 0, vi 0, vs none 0 0, vs none 0 0, vs none 0 0]) hI .z gn rfl rfl et et rfl size_39 rfl rfl rfl ?_
   clear hI; intro c13 w9 hI
   refine T ?_
   refine c_ret ?_
   have hI := hI.add (c := Cl.sl cGMono none 0 ([] : List GMono)) SlC.nil
   have hI := hI.add (c := Cl.sl cGIndex none 0 ([] : List GIndex)) SlC.nil
   have hI := hI.add (c := Cl.sl cGExpr none 0 ([] : List GExpr)) SlC.nil
   obtain rfl := some_inj h
   refine QG ?_
   exact ⟨none, 0, none, 0, none, 0, rfl, hI.ext0, hI.fin ⟨(.s (.s .z)), (.s .z), .z, trivial⟩⟩
  refine T ?_
  refine l_store (new := (lExpr r2.1 a5 c7 a6 c8 a7 c9)) (cs' := (AExpr r2.1 a5 c7 a6 c8 a7 c9)) hI .z gn rfl rfl et et rfl size_39 rfl rfl rfl ?_
  clear hI; intro c14 w10 hI
  refine T ?_
  refine c_ret ?_
  obtain rfl := some_inj h
  refine QG ?_
  exact ⟨a5, c7, a6, c8, a7, c9, rfl, hI.ext0, hI.fin ⟨(.s .z), (.s (.s .z)), (.s (.s (.s .z))), trivial⟩⟩
 refine T ?_
 refine cif h et (fun hb h => ?_) (fun hb h => ?_)
 ·refine T ?_
  refine s_nil ?_
  exact k_join 5 SB ⟨_, hI.arr GO SU, h⟩ rfl
 exact c_skip (k_join r2.2.2 SB ⟨_, hI.arr GO SU, h⟩ rfl)
theorem c_base_Lin (F : NP) (w0 : World) (hF : ∀ k, F k → k < w0.heap.size) (a1 : GLin) (b1 : GLin) (a2 : Option Addr) (c1 : Nat) (a3 : Option Addr) (c2 : Nat) (hc : AllCl [Cl.sl cGMono a2 c1 a1.L, Cl.sl cGMono a3 c2 b1.L] F w0) (r : Bool)
  (h : m_base_Lin a1 b1 = some r) :
  Calls Tryz.prog 14 #[(Value.agg (ALin a1 a2 c1)), (Value.agg (ALin b1 a3 c2))] w0 fun e w => e = .returned (vb r) ∧ Ext w0 w ∧ AllCl [] F w := by
 refine enterK Tryz.func14 rfl Tryz.ntmps14 rfl ?_
 have hI := Bun.start hF hc
 clear hc
 rw [m_base_Lin] at h
 refine sr (l_box (v := (Value.agg (ALin a1 a2 c1))) (cs := (ALin a1 a2 c1)) hI gn rfl rfl et rfl ?_)
 clear hI; intro b2 c3 w1 hI
 obtain ⟨c4, hI⟩ := hI.relBox .z
 refine l_box (v := (Value.agg (ALin b1 a3 c2))) (cs := (ALin b1 a3 c2)) hI gn rfl rfl et rfl ?_
 clear hI; intro b3 c5 w2 hI
 obtain ⟨c6, hI⟩ := hI.relBox .z
 refine T ?_
 refine c_seq (T ?_)
 refine cif h et (fun hb h => ?_) (fun hb h => ?_)
 ·refine T ?_
  refine c_ret ?_
  obtain rfl := some_inj h
  exact QF hI
 refine T ?_
 refine c_seq (T ?_)
 refine c_loop (α := Nat × Int) (fun x => fun w => ∃ C, Bun noM F w0 C w [] [Cl.blk b2 27 (ALin a1 a2 c1), Cl.sl cGMono a2 c1 a1.L, Cl.blk b3 27 (ALin b1 a3 c2), Cl.sl cGMono a3 c2 b1.L] ∧ m_base_Lin_l1 a1 b1 (x.1) (x.2) = some r) (fun x _ => x.1) (fun x => [(2, vp b2 0), (3, vp b3 0), (5, vi (x.2))]) (fu, 0) ⟨_, hI.arr .n ⟨(.s .z), (.s (.s .z)), .z, (.s (.s (.s .z))), trivial⟩, h⟩ SB ?_
 clear h hI; rintro ⟨fuel1, i1⟩ w3 ⟨c7, hI, h⟩
 dsimp only at hI h
 rcases fuel1 with _ | fuel1
 ·rw [m_base_Lin_l1] at h; cases h
 rw [m_base_Lin_l1] at h
 refine c_sub (e := [(2, vp b2 0), (3, vp b3 0), (5, vi i1)]) SB ?_
 refine c_seq (T ?_)
 refine cif h et (fun hb h => ?_) (fun hb h => ?_)
 ·refine T ?_
  refine c_seq (T ?_)
  refine c_seq (c_drawX [] false (.c (0, .q) (.c (1, .q) (.c (2, .q) (.c (3, .q) (.c (4, .q) (.c (5, .q) (.c (6, .q) (.c (7, .q) (.c (8, .q) (.c (9, .q) (.c (10, .q) .n))))))))))) hI (by kernel_rfl) (by kernel_rfl) ?_)
  clear hI; intro w4 hI
  refine V ?_
  obtain ⟨e1, hx1, h⟩ := bnd_some h
  obtain ⟨ad1, cs1, hA1, hr1, hq1⟩ := hI.clat (.s .z) hx1
  obtain rfl : cs1 = (lMono e1) := hr1
  refine vI ?_
  refine a_read rfl gn rfl (fun w' hw' => (y_loadN (l := (lMono e1)) rfl et u64 rfl size_64 (hq1.at_ (SX.any rfl hw')))) (by kernel_rfl) ?_
  refine V ?_
  obtain ⟨e2, hx2, h⟩ := bnd_some h
  obtain ⟨ad2, cs2, hA2, hr2, hq2⟩ := hI.clat (.s (.s (.s .z))) hx2
  obtain rfl : cs2 = (lMono e2) := hr2
  refine vI ?_
  refine a_read rfl gn rfl (fun w' hw' => (y_loadN (l := (lMono e2)) rfl et u64 rfl size_64 (hq2.at_ (SX.any rfl hw')))) (by kernel_rfl) ?_
  refine a_q rfl gn rfl (fun w' => y_bin rfl et et (eqstruct_64n ..) (eqguard_64 ..)) ?_
  refine V ?_
  refine cif h et (fun hb h => ?_) (fun hb h => ?_)
  ·refine T ?_
   refine c_ret ?_
   obtain rfl := some_inj h
   exact QF hI
  refine T ?_
  refine s_nil ?_
  exact k_loop (fuel1, wi64 (i1 + 1)) SB ⟨_, hI.arr GO SU, h⟩ (Nat.lt_succ_self _)
 refine c_exit ?_
 refine k_in ?_
 refine k_same ?_
 refine T ?_
 refine c_ret ?_
 obtain rfl := some_inj h
 exact QF hI
theorem c_law16_examples (F : NP) (w0 : World) (hF : ∀ k, F k → k < w0.heap.size) (hc : AllCl [clSpace] F w0) (r : Bool)
  (h : m_law16_examples = some r) :
  Calls Tryz.prog 11 #[] w0 fun e w => e = .returned (vb r) ∧ Ext w0 w ∧ AllCl [] F w := by
 refine enterK Tryz.func11 rfl Tryz.ntmps11 rfl ?_
 have hI := Bun.start hF hc
 clear hc
 rw [m_law16_examples] at h
 refine T ?_
 obtain ⟨r1, hx1, h⟩ := bnd_some h
 refine s_call gn rfl (r_callF (vs := [(str ([50, 42, 105, 32, 45, 32, 51, 32, 43, 32, 105] : List UInt8))]) rfl ok_22 ⟨ev_const, trivial⟩) (Calls.mono (c_ref13_Tokenize (Dj F noM) w0 hI.lt ([50, 42, 105, 32, 45, 32, 51, 32, 43, 32, 105] : List UInt8) trivial r1 hx1) ?_)
 rintro _ w1 ⟨a1, c1, rfl, hx2, hl1⟩
 refine ⟨_, rfl, ?_⟩
 replace hI := (hI.ext hx2).adds hl1; dsimp only [ca, na] at hI
 refine T ?_
 obtain ⟨r2, hx3, h⟩ := bnd_some h
 refine s_call gn rfl (r_callF (vs := [vs a1 r1.1.length c1, vi 0]) rfl ok_12 ⟨et, ⟨ev_const, trivial⟩⟩) (Calls.mono (c_parser_Lin (Dj F noM) w1 hI.lt r1.1 0 a1 c1 ⟨(hI.get .z), (hI.get (.s .z)), trivial⟩ r2 hx3) ?_)
 rintro _ w2 ⟨a2, c2, rfl, hx4, hl2⟩
 refine ⟨_, rfl, ?_⟩
 replace hI := (hI.ext hx4).adds hl2; dsimp only [ca, na] at hI
 refine T ?_
 refine l_alloc (cs := #[vi 0, vs none 0 0]) hI gn rfl rfl zero_27 rfl ?_
 clear hI; intro b1 c3 w3 hI
 refine l_store (new := (lLin r2.1 a2 c2)) (cs' := (ALin r2.1 a2 c2)) hI .z gn rfl rfl et et rfl size_27 rfl rfl rfl ?_
 clear hI; intro c4 w4 hI
 refine T ?_
 obtain ⟨r3, hx5, h⟩ := bnd_some h
 refine s_call gn rfl (r_callF (vs := [(str ([97, 91, 105, 93, 32, 43, 32, 98, 91, 93, 32, 42, 32, 91, 50, 93] : List UInt8))]) rfl ok_18 ⟨ev_const, trivial⟩) (Calls.mono (c_parser_Expr (Dj F c4) w4 hI.lt ([97, 91, 105, 93, 32, 43, 32, 98, 91, 93, 32, 42, 32, 91, 50, 93] : List UInt8) ⟨(hI.get (.s (.s .z))), trivial⟩ r3 hx5) ?_)
 rintro _ w5 ⟨a3, c5, a4, c6, a5, c7, rfl, hx6, hl3⟩
 refine ⟨_, rfl, ?_⟩
 replace hI := (hI.ext hx6).adds hl3; dsimp only [ca, na] at hI
 refine T ?_
 refine l_alloc (cs := #[vi 0, (str ([] : List UInt8)), vi 0, vi 0, vi 0, vi 0, vi 0, vi 0, vi 0, vi 0, vs none 0 0, vs none 0 0, vs none 0 0]) hI gn rfl rfl zero_39 rfl ?_
 clear hI; intro b2 c8 w6 hI
 refine l_store (new := (lExpr r3.1 a3 c5 a4 c6 a5 c7)) (cs' := (AExpr r3.1 a3 c5 a4 c6 a5 c7)) hI .z gn rfl rfl et et rfl size_39 rfl rfl rfl ?_
 clear hI; intro c9 w7 hI
 refine T ?_
 obtain ⟨r4, hx7, h⟩ := bnd_some h
 refine s_call gn rfl (r_callF (vs := [(str ([97, 91] : List UInt8))]) rfl ok_18 ⟨ev_const, trivial⟩) (Calls.mono (c_parser_Expr (Dj F c9) w7 hI.lt ([97, 91] : List UInt8) ⟨(hI.get (.s (.s (.s (.s (.s .z)))))), trivial⟩ r4 hx7) ?_)
 rintro _ w8 ⟨a6, c10, a7, c11, a8, c12, rfl, hx8, hl4⟩
 refine ⟨_, rfl, ?_⟩
 replace hI := (hI.ext hx8).adds hl4; dsimp only [ca, na] at hI
 refine T ?_
 refine l_alloc (cs := #[vi 0, (str ([] : List UInt8)), vi 0, vi 0, vi 0, vi 0, vi 0, vi 0, vi 0, vi 0, vs none 0 0, vs none 0 0, vs none 0 0]) hI gn rfl rfl zero_39 rfl ?_
 clear hI; intro b3 c13 w9 hI
 refine l_store (new := (lExpr r4.1 a6 c10 a7 c11 a8 c12)) (cs' := (AExpr r4.1 a6 c10 a7 c11 a8 c12)) hI .z gn rfl rfl et et rfl size_39 rfl rfl rfl ?_
 clear hI; intro c14 w10 hI
 refine T ?_
 obtain ⟨r5, hx9, h⟩ := bnd_some h
 refine s_call gn rfl (r_callF (vs := [(str ([97, 91, 105, 93, 32, 43, 42, 32, 50] : List UInt8))]) rfl ok_18 ⟨ev_const, trivial⟩) (Calls.mono (c_parser_Expr (Dj F c14) w10 hI.lt ([97, 91, 105, 93, 32, 43, 42, 32, 50] : List UInt8) ⟨(hI.get (.s (.s (.s (.s (.s (.s (.s (.s .z))))))))), trivial⟩ r5 hx9) ?_)
 rintro _ w11 ⟨a9, c15, a10, c16, a11, c17, rfl, hx10, hl5⟩
 refine ⟨_, rfl, ?_⟩
 replace hI := (hI.ext hx10).adds hl5; dsimp only [ca, na] at hI
 refine T ?_
 refine l_alloc (cs := #[vi 0, (str ([] : List UInt8)), vi 0, vi 0, vi 0, vi 0, vi 0, vi 0, vi 0, vi 0, vs none 0 0, vs none 0 0, vs none 0 0]) hI gn rfl rfl zero_39 rfl ?_
 clear hI; intro b4 c18 w12 hI
 refine l_store (new := (lExpr r5.1 a9 c15 a10 c16 a11 c17)) (cs' := (AExpr r5.1 a9 c15 a10 c16 a11 c17)) hI .z gn rfl rfl et et rfl size_39 rfl rfl rfl ?_
 clear hI; intro c19 w13 hI
 refine T ?_
 obtain ⟨r6, hx11, h⟩ := bnd_some h
 refine s_call gn rfl (r_callF (vs := [(str ([102, 114, 97, 99, 40, 50, 47, 52, 41] : List UInt8))]) rfl ok_18 ⟨ev_const, trivial⟩) (Calls.mono (c_parser_Expr (Dj F c19) w13 hI.lt ([102, 114, 97, 99, 40, 50, 47, 52, 41] : List UInt8) ⟨(hI.get (.s (.s (.s (.s (.s (.s (.s (.s (.s (.s (.s .z)))))))))))), trivial⟩ r6 hx11) ?_)
 rintro _ w14 ⟨a12, c20, a13, c21, a14, c22, rfl, hx12, hl6⟩
 refine ⟨_, rfl, ?_⟩
 replace hI := (hI.ext hx12).adds hl6; dsimp only [ca, na] at hI
 refine T ?_
 refine l_alloc (cs := #[vi 0, (str ([] : List UInt8)), vi 0, vi 0, vi 0, vi 0, vi 0, vi 0, vi 0, vi 0, vs none 0 0, vs none 0 0, vs none 0 0]) hI gn rfl rfl zero_39 rfl ?_
 clear hI; intro b5 c23 w15 hI
 refine l_store (new := (lExpr r6.1 a12 c20 a13 c21 a14 c22)) (cs' := (AExpr r6.1 a12 c20 a13 c21 a14 c22)) hI .z gn rfl rfl et et rfl size_39 rfl rfl rfl ?_
 clear hI; intro c24 w16 hI
 refine T ?_
 refine c_seq (T ?_)
 refine s_gval (g_false rfl rfl rfl rfl) rfl (fun hc => (y_loadN (l := (lLin r2.1 a2 c2)) rfl et u27 rfl size_27 (CellsAt.of_blk (hI.blk (.s (.s (.s (.s .z))))) rfl))) ?_
 refine s_gval (g_false rfl rfl rfl rfl) rfl (fun hc => (y_build (vs := [(0, (str ([105] : List UInt8))), (1, vi 3)]) (cs := #[(str ([105] : List UInt8)), vi 3]) rfl ⟨rfl, ev_const, ⟨rfl, ev_const, trivial⟩⟩ (by kernel_rfl))) ?_
 obtain ⟨ho1, h⟩ := chk_some h
 refine l_lit (c := cGMono) (xs := ([(⟨([105] : List UInt8), 3⟩ : GMono)] : List GMono)) (vs := [(0, (Value.agg #[(str ([105] : List UInt8)), vi 3]))]) (cs := #[(str ([105] : List UInt8)), vi 3]) (css := [[(str ([105] : List UInt8)), vi 3]]) hI (grd_as (g_false rfl rfl rfl rfl) ho1) rfl rfl u25 info_64 rfl ⟨rfl, (ev_gv et ho1), trivial⟩ (by kernel_rfl) ⟨rfl, trivial⟩ rfl rfl rfl ?_
 clear hI; intro b6 c25 w17 hI
 refine s_gval (g_false rfl rfl rfl rfl) rfl (fun hc => (y_build (vs := [(0, vi (-3)), (1, (vs (some ⟨b6, 0, none⟩) ([(⟨([105] : List UInt8), 3⟩ : GMono)] : List GMono).length 1))]) (cs := #[vi (-3), (vs (some ⟨b6, 0, none⟩) ([(⟨([105] : List UInt8), 3⟩ : GMono)] : List GMono).length 1)]) rfl ⟨rfl, ev_const, ⟨rfl, et, trivial⟩⟩ (by kernel_rfl))) ?_
 obtain ⟨r7, hx13, h⟩ := bnd_some h
 refine s_call (grd_as (g_false rfl rfl rfl rfl) ho1) rfl (r_callF (vs := [(Value.agg (ALin r2.1 a2 c2)), (Value.agg #[vi (-3), (vs (some ⟨b6, 0, none⟩) ([(⟨([105] : List UInt8), 3⟩ : GMono)] : List GMono).length 1)])]) rfl ok_14 ⟨(ev_gv et ho1), ⟨(ev_gv et ho1), trivial⟩⟩) (Calls.mono (c_base_Lin noM w17 (fun _ k => k.elim) r2.1 (⟨(-3), ([(⟨([105] : List UInt8), 3⟩ : GMono)] : List GMono)⟩ : GLin) a2 c2 (some ⟨b6, 0, none⟩) 1 ⟨(hI.get0 (.s (.s (.s (.s (.s (.s (.s (.s (.s (.s (.s (.s .z))))))))))))), hI.lend .z, trivial⟩ r7 hx13) ?_)
 rintro _ w18 ⟨rfl, hx14, hl7⟩
 refine ⟨_, rfl, ?_⟩
 replace hI := (hI.ext hx14)
 refine T ?_
 refine cif h et (fun hb h => ?_) (fun hb h => ?_)
 ·refine T ?_
  refine c_ret ?_
  obtain rfl := some_inj h
  exact QF hI
 refine T ?_
 obtain ⟨e1, hx15, h⟩ := bnd_some h
 replace hx15 := gd_some hx15
 obtain ⟨ad1, cs1, hq1⟩ := hI.gclat (.s (.s (.s (.s (.s (.s (.s (.s (.s (.s (.s .z))))))))))) hx15
 obtain ⟨a15, c26, a16, c27, a17, c28, hq2⟩ : ∃ (a15 : Option Addr) (c26 : Nat) (a16 : Option Addr) (c27 : Nat) (a17 : Option Addr) (c28 : Nat), (decide (r3.1.Op = 4)) = true → (a5 = some ad1 ∧ cs1 = (lExpr e1 a15 c26 a16 c27 a17 c28) ∧ CA (Dj F c25) w18 (ad1.add (Int.toNat 0 * 13)) cs1 ∧ SlC cGMono (Dj F c25) w18 a15 c26 e1.Lin.L ∧ SlC cGIndex (Dj F c25) w18 a16 c27 e1.Idx ∧ SlC cGExpr (Dj F c25) w18 a17 c28 e1.Args) := by
  by_cases hc : (decide (r3.1.Op = 4)) = true
  ·obtain ⟨k1, k2, k3⟩ := hq1 hc; obtain ⟨a15, c26, a16, c27, a17, c28, rfl, hf1, hf2, hf3⟩ := cGExpr_out k2; exact ⟨a15, c26, a16, c27, a17, c28, fun _ => ⟨k1, rfl, k3, hf1, hf2, hf3⟩⟩
  exact ⟨default, default, default, default, default, default, fun k => absurd k hc⟩
 clear hq1
 have hI := hI.add (c := Cl.gsl (decide (r3.1.Op = 4)) cGMono a15 c26 e1.Lin.L) (fun hc => (hq2 hc).2.2.2.1)
 have hI := hI.add (c := Cl.gsl (decide (r3.1.Op = 4)) cGIndex a16 c27 e1.Idx) (fun hc => (hq2 hc).2.2.2.2.1)
 have hI := hI.add (c := Cl.gsl (decide (r3.1.Op = 4)) cGExpr a17 c28 e1.Args) (fun hc => (hq2 hc).2.2.2.2.2)
 have hq3 : (decide (r3.1.Op = 4)) = true → CA (Dj F c25) w18 (ad1.add (Int.toNat 0 * 13)) (lExpr e1 a15 c26 a16 c27 a17 c28) := fun hc => caq (hq2 hc).2.1 (hq2 hc).2.2.1
 refine sJ ?_
 refine T ?_
 obtain ⟨e2, hx16, h⟩ := bnd_some h
 replace hx16 := gd_some hx16
 obtain ⟨ad2, cs2, hq4⟩ := hI.gclat (.s (.s (.s (.s (.s (.s (.s (.s (.s (.s (.s (.s (.s (.s .z)))))))))))))) hx16
 obtain ⟨a18, c29, a19, c30, a20, c31, hq5⟩ : ∃ (a18 : Option Addr) (c29 : Nat) (a19 : Option Addr) (c30 : Nat) (a20 : Option Addr) (c31 : Nat), ((decide (r3.1.Op = 4)) && (decide (e1.Op = 3))) = true → (a5 = some ad2 ∧ cs2 = (lExpr e2 a18 c29 a19 c30 a20 c31) ∧ CA (Dj F c25) w18 (ad2.add (Int.toNat 1 * 13)) cs2 ∧ SlC cGMono (Dj F c25) w18 a18 c29 e2.Lin.L ∧ SlC cGIndex (Dj F c25) w18 a19 c30 e2.Idx ∧ SlC cGExpr (Dj F c25) w18 a20 c31 e2.Args) := by
  by_cases hc : ((decide (r3.1.Op = 4)) && (decide (e1.Op = 3))) = true
  ·obtain ⟨k1, k2, k3⟩ := hq4 hc; obtain ⟨a18, c29, a19, c30, a20, c31, rfl, hf4, hf5, hf6⟩ := cGExpr_out k2; exact ⟨a18, c29, a19, c30, a20, c31, fun _ => ⟨k1, rfl, k3, hf4, hf5, hf6⟩⟩
  exact ⟨default, default, default, default, default, default, fun k => absurd k hc⟩
 clear hq4
 have hI := hI.add (c := Cl.gsl ((decide (r3.1.Op = 4)) && (decide (e1.Op = 3))) cGMono a18 c29 e2.Lin.L) (fun hc => (hq5 hc).2.2.2.1)
 have hI := hI.add (c := Cl.gsl ((decide (r3.1.Op = 4)) && (decide (e1.Op = 3))) cGIndex a19 c30 e2.Idx) (fun hc => (hq5 hc).2.2.2.2.1)
 have hI := hI.add (c := Cl.gsl ((decide (r3.1.Op = 4)) && (decide (e1.Op = 3))) cGExpr a20 c31 e2.Args) (fun hc => (hq5 hc).2.2.2.2.2)
 have hq6 : ((decide (r3.1.Op = 4)) && (decide (e1.Op = 3))) = true → CA (Dj F c25) w18 (ad2.add (Int.toNat 1 * 13)) (lExpr e2 a18 c29 a19 c30 a20 c31) := fun hc => caq (hq5 hc).2.1 (hq5 hc).2.2.1
 refine sJ ?_
 refine T ?_
 refine c_ret ?_
 obtain rfl := some_inj h
 exact QF hI
theorem c_ref16_is (F : NP) (w0 : World) (hF : ∀ k, F k → k < w0.heap.size) (p1 : Gbrocaderef16_State) (k1 : Int) (s1 : List UInt8) (a1 : Option Addr) (c1 : Nat) (hc : AllCl [Cl.sl cGToken a1 c1 p1.L] F w0) (r : Bool)
  (h : m_ref16_is p1 k1 s1 = some r) :
  Calls Tryz.prog 72 #[(Value.agg (Abrocaderef16_State p1 a1 c1)), vi k1, (str s1)] w0 fun e w => e = .returned (vb r) ∧ Ext w0 w ∧ AllCl [] F w := by
 refine enterK Tryz.func72 rfl Tryz.ntmps72 rfl ?_
 have hI := Bun.start hF hc
 clear hc
 rw [m_ref16_is] at h
 refine sr (l_box (v := (Value.agg (Abrocaderef16_State p1 a1 c1))) (cs := (Abrocaderef16_State p1 a1 c1)) hI gn rfl rfl et rfl ?_)
 clear hI; intro b1 c2 w1 hI
 obtain ⟨c3, hI⟩ := hI.relBox .z
 refine T ?_
 refine c_seq (T ?_)
 refine cif h et (fun hb h => ?_) (fun hb h => ?_)
 ·refine T ?_
  refine c_ret ?_
  obtain rfl := some_inj h
  exact QF hI
 refine T ?_
 refine c_join (α := Int) (fun _ => ⟨53, []⟩) (fun x => [(1, vi k1), (2, (str s1)), (3, vp b1 0), (7, vi x)]) (fun x => fun w => ∃ C, Bun noM F w0 C w [] [Cl.blk b1 72 (Abrocaderef16_State p1 a1 c1), Cl.sl cGToken a1 c1 p1.L] ∧ m_ref16_is_j1 p1 k1 s1 x = some r) ?_ ?_
 ·clear h hI; rintro kind1 w2 ⟨c4, hI, h⟩
  try dsimp only at hI h
  rw [m_ref16_is_j1] at h
  refine c_sub (e := [(1, vi k1), (2, (str s1)), (3, vp b1 0), (7, vi kind1)]) SB ?_
  refine T ?_
  obtain ⟨e1, hx1, h⟩ := bnd_some h
  obtain ⟨ad1, cs1, hA1, hr1, hq1⟩ := hI.clat (.s .z) hx1
  obtain rfl : cs1 = (lToken e1) := hr1
  refine sI ?_
  refine T ?_
  obtain ⟨e2, hx2, h⟩ := bnd_some h
  replace hx2 := gd_some hx2
  obtain ⟨ad2, cs2, hq2⟩ := hI.gclat (.s .z) hx2
  have hq3 : (decide (e1.Kind = kind1)) = true → CA (Dj F c4) w2 (ad2.add (Int.toNat (wi64 (p1.At + k1)) * 3)) (lToken e2) := fun hc => caq (hq2 hc).2.1 (hq2 hc).2.2
  refine sJ ?_
  refine T ?_
  refine c_ret ?_
  obtain rfl := some_inj h
  exact QF hI
 refine T ?_
 obtain ⟨b2, hx3, h⟩ := bnd_some h
 refine sI ?_
 refine T ?_
 obtain ⟨b3, hx4, h⟩ := bnd_some h
 replace hx4 := gd_some hx4
 refine sJ ?_
 refine T ?_
 refine cif h et (fun hb h => ?_) (fun hb h => ?_)
 ·refine T ?_
  refine s_nil ?_
  exact k_join 1 SB ⟨_, hI.arr GO SU, h⟩ rfl
 exact c_skip (k_join 3 SB ⟨_, hI.arr GO SU, h⟩ rfl)
theorem c_base_Words (F : NP) (w0 : World) (hF : ∀ k, F k → k < w0.heap.size) (hc : AllCl [] F w0) (r : List (List UInt8))
  (h : m_base_Words = some r) :
  Calls Tryz.prog 116 #[] w0 fun e w => ∃ (a1 : Option Addr) (c1 : Nat), e = .returned (vs a1 r.length c1) ∧ Ext w0 w ∧ AllCl [Cl.sl cStr a1 c1 r] F w := by
 refine enterK Tryz.func116 rfl Tryz.ntmps116 rfl ?_
 have hI := Bun.start hF hc
 clear hc
 rw [m_base_Words] at h
 refine T ?_
 refine l_lit (c := cStr) (xs := ([([115, 105, 122, 101] : List UInt8), ([119, 104, 101, 114, 101] : List UInt8), ([105, 110] : List UInt8), ([100, 101, 102] : List UInt8), ([111, 117, 116] : List UInt8), ([115, 117, 109] : List UInt8), ([112, 114, 111, 100] : List UInt8), ([109, 105, 110] : List UInt8), ([109, 97, 120] : List UInt8), ([115, 99, 97, 110] : List UInt8), ([111, 118, 101, 114] : List UInt8), ([105, 102] : List UInt8), ([99, 97, 115, 116] : List UInt8), ([102, 114, 97, 99] : List UInt8), ([105, 110, 116] : List UInt8), ([102, 105, 120] : List UInt8), ([99, 101, 105, 108] : List UInt8), ([102, 108, 111, 111, 114] : List UInt8), ([122, 101, 114, 111] : List UInt8), ([101, 118, 101, 110] : List UInt8), ([115, 97, 116] : List UInt8), ([119, 114, 97, 112] : List UInt8)] : List (List UInt8))) (vs := [(0, (str ([115, 105, 122, 101] : List UInt8))), (1, (str ([119, 104, 101, 114, 101] : List UInt8))), (2, (str ([105, 110] : List UInt8))), (3, (str ([100, 101, 102] : List UInt8))), (4, (str ([111, 117, 116] : List UInt8))), (5, (str ([115, 117, 109] : List UInt8))), (6, (str ([112, 114, 111, 100] : List UInt8))), (7, (str ([109, 105, 110] : List UInt8))), (8, (str ([109, 97, 120] : List UInt8))), (9, (str ([115, 99, 97, 110] : List UInt8))), (10, (str ([111, 118, 101, 114] : List UInt8))), (11, (str ([105, 102] : List UInt8))), (12, (str ([99, 97, 115, 116] : List UInt8))), (13, (str ([102, 114, 97, 99] : List UInt8))), (14, (str ([105, 110, 116] : List UInt8))), (15, (str ([102, 105, 120] : List UInt8))), (16, (str ([99, 101, 105, 108] : List UInt8))), (17, (str ([102, 108, 111, 111, 114] : List UInt8))), (18, (str ([122, 101, 114, 111] : List UInt8))), (19, (str ([101, 118, 101, 110] : List UInt8))), (20, (str ([115, 97, 116] : List UInt8))), (21, (str ([119, 114, 97, 112] : List UInt8)))]) (cs := #[(str ([115, 105, 122, 101] : List UInt8)), (str ([119, 104, 101, 114, 101] : List UInt8)), (str ([105, 110] : List UInt8)), (str ([100, 101, 102] : List UInt8)), (str ([111, 117, 116] : List UInt8)), (str ([115, 117, 109] : List UInt8)), (str ([112, 114, 111, 100] : List UInt8)), (str ([109, 105, 110] : List UInt8)), (str ([109, 97, 120] : List UInt8)), (str ([115, 99, 97, 110] : List UInt8)), (str ([111, 118, 101, 114] : List UInt8)), (str ([105, 102] : List UInt8)), (str ([99, 97, 115, 116] : List UInt8)), (str ([102, 114, 97, 99] : List UInt8)), (str ([105, 110, 116] : List UInt8)), (str ([102, 105, 120] : List UInt8)), (str ([99, 101, 105, 108] : List UInt8)), (str ([102, 108, 111, 111, 114] : List UInt8)), (str ([122, 101, 114, 111] : List UInt8)), (str ([101, 118, 101, 110] : List UInt8)), (str ([115, 97, 116] : List UInt8)), (str ([119, 114, 97, 112] : List UInt8))]) (css := [[(str ([115, 105, 122, 101] : List UInt8))], [(str ([119, 104, 101, 114, 101] : List UInt8))], [(str ([105, 110] : List UInt8))], [(str ([100, 101, 102] : List UInt8))], [(str ([111, 117, 116] : List UInt8))], [(str ([115, 117, 109] : List UInt8))], [(str ([112, 114, 111, 100] : List UInt8))], [(str ([109, 105, 110] : List UInt8))], [(str ([109, 97, 120] : List UInt8))], [(str ([115, 99, 97, 110] : List UInt8))], [(str ([111, 118, 101, 114] : List UInt8))], [(str ([105, 102] : List UInt8))], [(str ([99, 97, 115, 116] : List UInt8))], [(str ([102, 114, 97, 99] : List UInt8))], [(str ([105, 110, 116] : List UInt8))], [(str ([102, 105, 120] : List UInt8))], [(str ([99, 101, 105, 108] : List UInt8))], [(str ([102, 108, 111, 111, 114] : List UInt8))], [(str ([122, 101, 114, 111] : List UInt8))], [(str ([101, 118, 101, 110] : List UInt8))], [(str ([115, 97, 116] : List UInt8))], [(str ([119, 114, 97, 112] : List UInt8))]]) hI gn rfl rfl u50 info_9 rfl ⟨rfl, ev_const, ⟨rfl, ev_const, ⟨rfl, ev_const, ⟨rfl, ev_const, ⟨rfl, ev_const, ⟨rfl, ev_const, ⟨rfl, ev_const, ⟨rfl, ev_const, ⟨rfl, ev_const, ⟨rfl, ev_const, ⟨rfl, ev_const, ⟨rfl, ev_const, ⟨rfl, ev_const, ⟨rfl, ev_const, ⟨rfl, ev_const, ⟨rfl, ev_const, ⟨rfl, ev_const, ⟨rfl, ev_const, ⟨rfl, ev_const, ⟨rfl, ev_const, ⟨rfl, ev_const, ⟨rfl, ev_const, trivial⟩⟩⟩⟩⟩⟩⟩⟩⟩⟩⟩⟩⟩⟩⟩⟩⟩⟩⟩⟩⟩⟩ (by kernel_rfl) ⟨rfl, ⟨rfl, ⟨rfl, ⟨rfl, ⟨rfl, ⟨rfl, ⟨rfl, ⟨rfl, ⟨rfl, ⟨rfl, ⟨rfl, ⟨rfl, ⟨rfl, ⟨rfl, ⟨rfl, ⟨rfl, ⟨rfl, ⟨rfl, ⟨rfl, ⟨rfl, ⟨rfl, ⟨rfl, trivial⟩⟩⟩⟩⟩⟩⟩⟩⟩⟩⟩⟩⟩⟩⟩⟩⟩⟩⟩⟩⟩⟩ rfl rfl rfl ?_
 clear hI; intro b1 c2 w1 hI
 refine T ?_
 refine c_ret ?_
 obtain ⟨c3, hI⟩ := hI.release .z
 obtain rfl := some_inj h
 refine QG ?_
 exact ⟨some ⟨b1, 0, none⟩, 22, rfl, hI.ext0, hI.fin ⟨.z, trivial⟩⟩
theorem c_base_Has (F : NP) (w0 : World) (hF : ∀ k, F k → k < w0.heap.size) (l1 : List (List UInt8)) (s1 : List UInt8) (a1 : Option Addr) (c1 : Nat) (hc : AllCl [Cl.sl cStr a1 c1 l1] F w0) (r : Bool)
  (h : m_base_Has l1 s1 = some r) :
  Calls Tryz.prog 115 #[vs a1 l1.length c1, (str s1)] w0 fun e w => e = .returned (vb r) ∧ Ext w0 w ∧ AllCl [] F w := by
 refine enterK Tryz.func115 rfl Tryz.ntmps115 rfl ?_
 have hI := Bun.start hF hc
 clear hc
 rw [m_base_Has] at h
 refine T ?_
 refine c_seq (T ?_)
 refine c_loop (α := Nat × Int) (fun x => fun w => ∃ C, Bun noM F w0 C w [] [Cl.sl cStr a1 c1 l1] ∧ m_base_Has_l1 l1 s1 (x.1) (x.2) = some r) (fun x _ => x.1) (fun x => [(0, vs a1 l1.length c1), (1, (str s1)), (5, vi (x.2))]) (fu, 0) ⟨_, hI.arr .n ⟨.z, trivial⟩, h⟩ SB ?_
 clear h hI; rintro ⟨fuel1, i1⟩ w1 ⟨c2, hI, h⟩
 dsimp only at hI h
 rcases fuel1 with _ | fuel1
 ·rw [m_base_Has_l1] at h; cases h
 rw [m_base_Has_l1] at h
 refine c_sub (e := [(0, vs a1 l1.length c1), (1, (str s1)), (5, vi i1)]) SB ?_
 refine c_seq (T ?_)
 refine cif h et (fun hb h => ?_) (fun hb h => ?_)
 ·refine T ?_
  refine c_seq (T ?_)
  obtain ⟨e1, hx1, h⟩ := bnd_some h
  obtain ⟨ad1, cs1, hA1, hr1, hq1⟩ := hI.clat .z hx1
  obtain rfl : cs1 = [(str e1)] := hr1
  refine sI ?_
  refine T ?_
  refine cif h et (fun hb h => ?_) (fun hb h => ?_)
  ·refine T ?_
   refine c_ret ?_
   obtain rfl := some_inj h
   exact QF hI
  refine T ?_
  refine s_nil ?_
  exact k_loop (fuel1, wi64 (i1 + 1)) SB ⟨_, hI.arr GO SU, h⟩ (Nat.lt_succ_self _)
 refine c_exit ?_
 refine k_in ?_
 refine k_same ?_
 refine T ?_
 refine c_ret ?_
 obtain rfl := some_inj h
 exact QF hI
theorem c_base_Name (F : NP) (w0 : World) (hF : ∀ k, F k → k < w0.heap.size) (s1 : List UInt8) (hc : AllCl [] F w0) (r : Bool)
  (h : m_base_Name s1 = some r) :
  Calls Tryz.prog 61 #[(str s1)] w0 fun e w => e = .returned (vb r) ∧ Ext w0 w ∧ AllCl [] F w := by
 refine enterK Tryz.func61 rfl Tryz.ntmps61 rfl ?_
 have hI := Bun.start hF hc
 clear hc
 rw [m_base_Name] at h
 refine T ?_
 refine c_seq (T ?_)
 obtain ⟨r1, hx1, h⟩ := bnd_some h
 replace hx1 := gd_some hx1
 refine s_gcallS (β := (Option Addr) × Nat) (fun x => (vs (x.1) r1.length (x.2))) (fun x w' => AllCl [Cl.sl cStr (x.1) (x.2) r1] (Dj F noM) w') (g_false rfl rfl rfl rfl) rfl (fun hc => (r_callF (vs := []) rfl ok_116 trivial)) (fun hc => (c_base_Words (Dj F noM) w0 hI.lt trivial r1 (hx1 hc)).mono fun _ _ ⟨a1, c1, k1_, k2_, k3_⟩ => ⟨(a1, c1), k1_, k2_, k3_⟩) ?_
 rintro ⟨a1, c1⟩ w1 hx2 hl1; replace hI := hI.ext hx2
 have hI := hI.add (c := Cl.gsl (!((decide ((s1.length : Int) < 1)) || (decide (16 < (s1.length : Int))))) cStr a1 c1 r1) (fun hc => (hl1 hc).1)
 refine T ?_
 obtain ⟨r2, hx3, h⟩ := bnd_some h
 replace hx3 := gd_some hx3
 refine s_gcallU (v := (vb r2)) (g_false rfl rfl rfl rfl) rfl (fun hc => (r_callF (vs := [vs a1 r1.length c1, (str s1)]) rfl ok_115 ⟨(ev_gv et hc), ⟨(ev_gv et hc), trivial⟩⟩)) (fun hc => (c_base_Has (Dj F noM) w1 hI.lt r1 s1 a1 c1 ⟨(hI.get .z hc), trivial⟩ r2 (hx3 hc)).mono fun _ _ k => ⟨k.1, k.2.1⟩) ?_
 intro w2 hx4; replace hI := hI.ext hx4
 refine T ?_
 refine cif h et (fun hb h => ?_) (fun hb h => ?_)
 ·refine T ?_
  refine c_ret ?_
  obtain rfl := some_inj h
  exact QF hI
 refine T ?_
 refine c_seq (T ?_)
 refine c_loop (α := Nat × Int) (fun x => fun w => ∃ C, Bun noM F w0 C w [] [] ∧ m_base_Name_l1 s1 (x.1) (x.2) = some r) (fun x _ => x.1) (fun x => [(0, (str s1)), (3, vi (x.2))]) (fu, 0) ⟨_, hI.arr .n trivial, h⟩ SB ?_
 clear h hI; rintro ⟨fuel1, i1⟩ w3 ⟨c2, hI, h⟩
 dsimp only at hI h
 rcases fuel1 with _ | fuel1
 ·rw [m_base_Name_l1] at h; cases h
 rw [m_base_Name_l1] at h
 refine c_sub (e := [(0, (str s1)), (3, vi i1)]) SB ?_
 refine c_seq (T ?_)
 refine cif h et (fun hb h => ?_) (fun hb h => ?_)
 ·refine T ?_
  refine c_seq (T ?_)
  obtain ⟨b1, hx5, h⟩ := bnd_some h
  refine sI ?_
  refine T ?_
  refine cif h et (fun hb h => ?_) (fun hb h => ?_)
  ·refine T ?_
   refine c_ret ?_
   obtain rfl := some_inj h
   exact QF hI
  refine T ?_
  refine s_nil ?_
  exact k_loop (fuel1, wi64 (i1 + 1)) SB ⟨_, hI.arr GO SU, h⟩ (Nat.lt_succ_self _)
 refine c_exit ?_
 refine k_in ?_
 refine k_same ?_
 refine T ?_
 refine c_ret ?_
 obtain rfl := some_inj h
 exact QF hI
theorem c_ref16_ahead (F : NP) (w0 : World) (hF : ∀ k, F k → k < w0.heap.size) (p1 : Gbrocaderef16_State) (a1 : Option Addr) (c1 : Nat) (hc : AllCl [Cl.sl cGToken a1 c1 p1.L] F w0) (r : Bool)
  (h : m_ref16_ahead p1 = some r) :
  Calls Tryz.prog 133 #[(Value.agg (Abrocaderef16_State p1 a1 c1))] w0 fun e w => e = .returned (vb r) ∧ Ext w0 w ∧ AllCl [] F w := by
 refine enterK Tryz.func133 rfl Tryz.ntmps133 rfl ?_
 have hI := Bun.start hF hc
 clear hc
 rw [m_ref16_ahead] at h
 refine sr (l_box (v := (Value.agg (Abrocaderef16_State p1 a1 c1))) (cs := (Abrocaderef16_State p1 a1 c1)) hI gn rfl rfl et rfl ?_)
 clear hI; intro b1 c2 w1 hI
 obtain ⟨c3, hI⟩ := hI.relBox .z
 refine T ?_
 obtain ⟨e1, hx1, h⟩ := bnd_some h
 replace hx1 := gd_some hx1
 obtain ⟨ad1, cs1, hq1⟩ := hI.gclat (.s .z) hx1
 have hq2 : ((decide (p1.E = 0)) && (decide (p1.At < (p1.L.length : Int)))) = true → CA (Dj F c3) w1 (ad1.add (Int.toNat p1.At * 3)) (lToken e1) := fun hc => caq (hq1 hc).2.1 (hq1 hc).2.2
 refine sJ ?_
 refine T ?_
 obtain ⟨e2, hx2, h⟩ := bnd_some h
 replace hx2 := gd_some hx2
 obtain ⟨ad2, cs2, hq3⟩ := hI.gclat (.s .z) hx2
 have hq4 : (((decide (p1.E = 0)) && (decide (p1.At < (p1.L.length : Int)))) && (decide (e1.Kind = 1))) = true → CA (Dj F c3) w1 (ad2.add (Int.toNat p1.At * 3)) (lToken e2) := fun hc => caq (hq3 hc).2.1 (hq3 hc).2.2
 refine sJ ?_
 refine T ?_
 obtain ⟨r1, hx3, h⟩ := bnd_some h
 replace hx3 := gd_some hx3
 refine s_gcallU (v := (vb r1)) (g_true rfl rfl rfl rfl) rfl (fun hc => (r_callF (vs := [(str e2.Text)]) rfl ok_61 ⟨(ev_gv et hc), trivial⟩)) (fun hc => (c_base_Name (Dj F c3) w1 hI.lt e2.Text trivial r1 (hx3 hc)).mono fun _ _ k => ⟨k.1, k.2.1⟩) ?_
 intro w2 hx4; replace hI := hI.ext hx4
 refine T ?_
 refine c_ret ?_
 obtain rfl := some_inj h
 exact QF hI
theorem c_ref16_fail (F : NP) (w0 : World) (hF : ∀ k, F k → k < w0.heap.size) (p1 : Gbrocaderef16_State) (at1 : Int) (e1 : Int) (a1 : Option Addr) (c1 : Nat) (hc : AllCl [Cl.sl cGToken a1 c1 p1.L] F w0) (r : Gbrocaderef16_State)
  (h : m_ref16_fail p1 at1 e1 = some r) :
  Calls Tryz.prog 81 #[(Value.agg (Abrocaderef16_State p1 a1 c1)), vi at1, vi e1] w0 fun e w => ∃ (a2 : Option Addr) (c2 : Nat), e = .returned (Value.agg (Abrocaderef16_State r a2 c2)) ∧ Ext w0 w ∧ AllCl [Cl.sl cGToken a2 c2 r.L] F w := by
 refine enterK Tryz.func81 rfl Tryz.ntmps81 rfl ?_
 have hI := Bun.start hF hc
 clear hc
 rw [m_ref16_fail] at h
 refine sr (l_box (v := (Value.agg (Abrocaderef16_State p1 a1 c1))) (cs := (Abrocaderef16_State p1 a1 c1)) hI gn rfl rfl et rfl ?_)
 clear hI; intro b1 c3 w1 hI
 refine l_alloc (cs := Zbrocaderef16_State) hI gn rfl rfl zero_72 rfl ?_
 clear hI; intro b2 c4 w2 hI
 refine nk (c_seq (T ?_))
 refine cif h et (fun hb h => ?_) (fun hb h => ?_)
 ·refine T ?_
  refine l_store (new := [vi e1]) (cs' := #[vs a1 p1.L.length c1, vi p1.At, vi p1.Deep, vi e1, vi p1.Pos]) hI (.s .z) gn rfl rfl et et rfl size_28 rfl rfl rfl ?_
  clear hI; intro c5 w3 hI
  refine T ?_
  refine l_store (new := [vi at1]) (cs' := #[vs a1 p1.L.length c1, vi p1.At, vi p1.Deep, vi e1, vi at1]) hI (.s .z) gn rfl rfl et et rfl size_3 rfl rfl rfl ?_
  clear hI; intro c6 w4 hI
  refine T ?_
  refine l_store (new := [vs a1 p1.L.length c1, vi p1.At, vi p1.Deep, vi e1, vi at1]) (cs' := #[vs a1 p1.L.length c1, vi p1.At, vi p1.Deep, vi e1, vi at1]) hI .z gn rfl rfl et et rfl size_72 rfl rfl rfl ?_
  clear hI; intro c7 w5 hI
  refine nk (c_ret ?_)
  obtain rfl := some_inj h
  refine QG ?_
  exact ⟨a1, c1, rfl, hI.ext0, hI.fin ⟨.z, trivial⟩⟩
 refine T ?_
 refine l_store (new := (lbrocaderef16_State p1 a1 c1)) (cs' := (Abrocaderef16_State p1 a1 c1)) hI .z gn rfl rfl et et rfl size_72 rfl rfl rfl ?_
 clear hI; intro c8 w6 hI
 refine nk (c_ret ?_)
 obtain rfl := some_inj h
 refine QG ?_
 exact ⟨a1, c1, rfl, hI.ext0, hI.fin ⟨.z, trivial⟩⟩
theorem c_ref16_wrong (F : NP) (w0 : World) (hF : ∀ k, F k → k < w0.heap.size) (p1 : Gbrocaderef16_State) (a1 : Option Addr) (c1 : Nat) (hc : AllCl [Cl.sl cGToken a1 c1 p1.L] F w0) (r : Gbrocaderef16_State)
  (h : m_ref16_wrong p1 = some r) :
  Calls Tryz.prog 41 #[(Value.agg (Abrocaderef16_State p1 a1 c1))] w0 fun e w => ∃ (a2 : Option Addr) (c2 : Nat), e = .returned (Value.agg (Abrocaderef16_State r a2 c2)) ∧ Ext w0 w ∧ AllCl [Cl.sl cGToken a2 c2 r.L] F w := by
 refine enterK Tryz.func41 rfl Tryz.ntmps41 rfl ?_
 have hI := Bun.start hF hc
 clear hc
 rw [m_ref16_wrong] at h
 refine sr (l_box (v := (Value.agg (Abrocaderef16_State p1 a1 c1))) (cs := (Abrocaderef16_State p1 a1 c1)) hI gn rfl rfl et rfl ?_)
 clear hI; intro b1 c3 w1 hI
 obtain ⟨c4, hI⟩ := hI.relBox .z
 refine l_alloc (cs := Zbrocaderef16_State) hI gn rfl rfl zero_72 rfl ?_
 clear hI; intro b2 c5 w2 hI
 refine nk (c_seq (T ?_))
 refine cif h et (fun hb h => ?_) (fun hb h => ?_)
 ·refine sr (sq (y_loadN (l := (lbrocaderef16_State p1 a1 c1)) rfl et u72 rfl size_72 (hI.kblk (l := (lbrocaderef16_State p1 a1 c1)) .z rfl).1) ?_)
  refine T ?_
  obtain ⟨r1, hx1, h⟩ := bnd_some h
  refine s_call gn rfl (r_callF (vs := [(Value.agg (Abrocaderef16_State p1 a1 c1)), vi (p1.L.length : Int), vi 6]) rfl ok_81 ⟨et, ⟨et, ⟨ev_const, trivial⟩⟩⟩) (Calls.mono (c_ref16_fail (Dj F c5) w2 hI.lt p1 (p1.L.length : Int) 6 a1 c1 ⟨(hI.get (.s .z)), trivial⟩ r1 hx1) ?_)
  rintro _ w3 ⟨a3, c6, rfl, hx2, hl1⟩
  refine ⟨_, rfl, ?_⟩
  replace hI := (hI.ext hx2).adds hl1; dsimp only [ca, na] at hI
  refine l_store (new := (lbrocaderef16_State r1 a3 c6)) (cs' := (Abrocaderef16_State r1 a3 c6)) hI .z gn rfl rfl et et rfl size_72 rfl rfl rfl ?_
  clear hI; intro c7 w4 hI
  refine nk (c_ret ?_)
  obtain rfl := some_inj h
  refine QG ?_
  exact ⟨a3, c6, rfl, hI.ext0, hI.fin ⟨.z, trivial⟩⟩
 refine T ?_
 refine sq (y_loadN (l := (lbrocaderef16_State p1 a1 c1)) rfl et u72 rfl size_72 (hI.kblk (l := (lbrocaderef16_State p1 a1 c1)) .z rfl).1) ?_
 refine T ?_
 obtain ⟨r2, hx3, h⟩ := bnd_some h
 refine s_call gn rfl (r_callF (vs := [(Value.agg (Abrocaderef16_State p1 a1 c1)), vi p1.At, vi 5]) rfl ok_81 ⟨et, ⟨et, ⟨ev_const, trivial⟩⟩⟩) (Calls.mono (c_ref16_fail (Dj F c5) w2 hI.lt p1 p1.At 5 a1 c1 ⟨(hI.get (.s .z)), trivial⟩ r2 hx3) ?_)
 rintro _ w5 ⟨a4, c8, rfl, hx4, hl2⟩
 refine ⟨_, rfl, ?_⟩
 replace hI := (hI.ext hx4).adds hl2; dsimp only [ca, na] at hI
 refine l_store (new := (lbrocaderef16_State r2 a4 c8)) (cs' := (Abrocaderef16_State r2 a4 c8)) hI .z gn rfl rfl et et rfl size_72 rfl rfl rfl ?_
 clear hI; intro c9 w6 hI
 refine nk (c_ret ?_)
 obtain rfl := some_inj h
 refine QG ?_
 exact ⟨a4, c8, rfl, hI.ext0, hI.fin ⟨.z, trivial⟩⟩
theorem c_ref16_name (F : NP) (w0 : World) (hF : ∀ k, F k → k < w0.heap.size) (p1 : Gbrocaderef16_State) (a1 : Option Addr) (c1 : Nat) (hc : AllCl [Cl.sl cGToken a1 c1 p1.L] F w0) (r : List UInt8 × Gbrocaderef16_State)
  (h : m_ref16_name p1 = some r) :
  Calls Tryz.prog 134 #[(Value.agg (Abrocaderef16_State p1 a1 c1))] w0 fun e w => ∃ (a2 : Option Addr) (c2 : Nat), e = .returned (Value.tuple #[(str r.1), (Value.agg (Abrocaderef16_State r.2 a2 c2))]) ∧ Ext w0 w ∧ AllCl [Cl.sl cGToken a2 c2 r.2.L] F w := by
 refine enterK Tryz.func134 rfl Tryz.ntmps134 rfl ?_
 have hI := Bun.start hF hc
 clear hc
 rw [m_ref16_name] at h
 refine sr (l_box (v := (Value.agg (Abrocaderef16_State p1 a1 c1))) (cs := (Abrocaderef16_State p1 a1 c1)) hI gn rfl rfl et rfl ?_)
 clear hI; intro b1 c3 w1 hI
 refine sac ?_
 refine l_alloc (cs := Zbrocaderef16_State) hI gn rfl rfl zero_72 rfl ?_
 clear hI; intro b2 c4 w2 hI
 refine nk (c_seq (T ?_))
 obtain ⟨r1, hx1, h⟩ := bnd_some h
 refine s_call gn rfl (r_callF (vs := [(Value.agg (Abrocaderef16_State p1 a1 c1))]) rfl ok_133 ⟨et, trivial⟩) (Calls.mono (c_ref16_ahead (Dj F c4) w2 hI.lt p1 a1 c1 ⟨(hI.get .z), trivial⟩ r1 hx1) ?_)
 rintro _ w3 ⟨rfl, hx2, hl1⟩
 refine ⟨_, rfl, ?_⟩
 replace hI := (hI.ext hx2)
 refine T ?_
 refine cif h et (fun hb h => ?_) (fun hb h => ?_)
 ·refine T ?_
  obtain ⟨r2, hx3, h⟩ := bnd_some h
  refine s_call gn rfl (r_callF (vs := [(Value.agg (Abrocaderef16_State p1 a1 c1))]) rfl ok_41 ⟨et, trivial⟩) (Calls.mono (c_ref16_wrong (Dj F c4) w3 hI.lt p1 a1 c1 ⟨(hI.get .z), trivial⟩ r2 hx3) ?_)
  rintro _ w4 ⟨a3, c5, rfl, hx4, hl2⟩
  refine ⟨_, rfl, ?_⟩
  replace hI := (hI.ext hx4).adds hl2; dsimp only [ca, na] at hI
  refine sac ?_
  refine l_store (new := (lbrocaderef16_State r2 a3 c5)) (cs' := (Abrocaderef16_State r2 a3 c5)) hI .z gn rfl rfl et et rfl size_72 rfl rfl rfl ?_
  clear hI; intro c6 w5 hI
  refine nk (c_ret ?_)
  obtain rfl := some_inj h
  refine QG ?_
  exact ⟨a3, c5, rfl, hI.ext0, hI.fin ⟨.z, trivial⟩⟩
 refine T ?_
 refine l_store (new := [(vi (wi64 (p1.At + 1)))]) (cs' := #[vs a1 p1.L.length c1, (vi (wi64 (p1.At + 1))), vi p1.Deep, vi p1.E, vi p1.Pos]) hI (.s .z) gn rfl rfl et et rfl size_3 rfl rfl rfl ?_
 clear hI; intro c7 w6 hI
 refine nk (c_seq (c_drawX [10] false (.c (0, .q) (.c (1, .q) (.c (2, .q) (.c (3, .q) (.c (4, .q) (.c (5, .q) (.c (6, .q) (.c (7, .q) (.c (8, .q) (.c (9, .q) (.c (10, .s) .n))))))))))) hI (by kernel_rfl) (by kernel_rfl) ?_))
 clear hI; intro w7 hI
 refine V ?_
 obtain ⟨e1, hx5, h⟩ := bnd_some h
 obtain ⟨ad1, cs1, hA1, hr1, hq1⟩ := hI.clat .z hx5
 obtain rfl : cs1 = (lToken e1) := hr1
 refine vI ?_
 refine V ?_
 refine a_read rfl gn rfl (fun w' hw' => (y_loadN (l := [vs a1 p1.L.length c1, (vi (wi64 (p1.At + 1))), vi p1.Deep, vi p1.E, vi p1.Pos]) rfl et u72 rfl size_72 ((CA.blk (hI.blk (.s .z)) rfl).at_ (SX.any rfl hw')))) (by kernel_rfl) ?_
 refine V ?_
 refine a_turn (F := F) (C := c7) rfl rfl ?_
 refine la_store (new := [vs a1 p1.L.length c1, (vi (wi64 (p1.At + 1))), vi p1.Deep, vi p1.E, vi p1.Pos]) (cs' := #[vs a1 p1.L.length c1, (vi (wi64 (p1.At + 1))), vi p1.Deep, vi p1.E, vi p1.Pos]) hI .z rfl gn rfl rfl et et rfl size_72 rfl rfl rfl ?_
 clear hI; intro c8 w8 hI
 refine V ?_
 refine c_ret ?_
 obtain rfl := some_inj h
 refine QG ?_
 exact ⟨a1, c1, rfl, hI.ext0, hI.fin ⟨.z, trivial⟩⟩
theorem c_ref05_Var (F : NP) (w0 : World) (hF : ∀ k, F k → k < w0.heap.size) (name1 : List UInt8) (hc : AllCl [] F w0) (r : GLin)
  (h : m_ref05_Var name1 = some r) :
  Calls Tryz.prog 135 #[(str name1)] w0 fun e w => ∃ (a1 : Option Addr) (c1 : Nat), e = .returned (Value.agg (ALin r a1 c1)) ∧ Ext w0 w ∧ AllCl [Cl.sl cGMono a1 c1 r.L] F w := by
 refine enterK Tryz.func135 rfl Tryz.ntmps135 rfl ?_
 have hI := Bun.start hF hc
 clear hc
 rw [m_ref05_Var] at h
 refine sr (l_alloc (cs := #[vi 0, vs none 0 0]) hI gn rfl rfl zero_27 rfl ?_)
 clear hI; intro b1 c2 w1 hI
 refine nk (c_seq (T ?_))
 obtain ⟨r1, hx1, h⟩ := bnd_some h
 refine s_call gn rfl (r_callF (vs := [(str name1)]) rfl ok_61 ⟨et, trivial⟩) (Calls.mono (c_base_Name (Dj F c2) w1 hI.lt name1 trivial r1 hx1) ?_)
 rintro _ w2 ⟨rfl, hx2, hl1⟩
 refine ⟨_, rfl, ?_⟩
 replace hI := (hI.ext hx2)
 refine T ?_
 refine cif h et (fun hb h => ?_) (fun hb h => ?_)
 ·refine sr (sq (y_build (vs := []) (cs := #[vi 0, vs none 0 0]) rfl trivial (by kernel_rfl)) ?_)
  refine l_store (new := [vi 0, vs none 0 0]) (cs' := #[vi 0, vs none 0 0]) hI .z gn rfl rfl et et rfl size_27 rfl rfl rfl ?_
  clear hI; intro c3 w3 hI
  refine nk (c_ret ?_)
  have hI := hI.add (c := Cl.sl cGMono none 0 ([] : List GMono)) SlC.nil
  obtain rfl := some_inj h
  refine QG ?_
  exact ⟨none, 0, rfl, hI.ext0, hI.fin ⟨.z, trivial⟩⟩
 refine T ?_
 refine sq (y_build (vs := [(0, (str name1)), (1, vi 1)]) (cs := #[(str name1), vi 1]) rfl ⟨rfl, et, ⟨rfl, ev_const, trivial⟩⟩ (by kernel_rfl)) ?_
 refine l_lit (c := cGMono) (xs := ([(⟨name1, 1⟩ : GMono)] : List GMono)) (vs := [(0, (Value.agg #[(str name1), vi 1]))]) (cs := #[(str name1), vi 1]) (css := [[(str name1), vi 1]]) hI gn rfl rfl u25 info_64 rfl ⟨rfl, et, trivial⟩ (by kernel_rfl) ⟨rfl, trivial⟩ rfl rfl rfl ?_
 clear hI; intro b2 c4 w4 hI
 refine sq (y_build (vs := [(1, (vs (some ⟨b2, 0, none⟩) ([(⟨name1, 1⟩ : GMono)] : List GMono).length 1))]) (cs := #[vi 0, (vs (some ⟨b2, 0, none⟩) ([(⟨name1, 1⟩ : GMono)] : List GMono).length 1)]) rfl ⟨rfl, et, trivial⟩ (by kernel_rfl)) ?_
 refine l_store (new := [vi 0, (vs (some ⟨b2, 0, none⟩) ([(⟨name1, 1⟩ : GMono)] : List GMono).length 1)]) (cs' := #[vi 0, (vs (some ⟨b2, 0, none⟩) ([(⟨name1, 1⟩ : GMono)] : List GMono).length 1)]) hI (.s .z) gn rfl rfl et et rfl size_27 rfl rfl rfl ?_
 clear hI; intro c5 w5 hI
 refine nk (c_ret ?_)
 obtain ⟨c6, hI⟩ := hI.release .z
 obtain rfl := some_inj h
 refine QG ?_
 exact ⟨some ⟨b2, 0, none⟩, 1, rfl, hI.ext0, hI.fin ⟨.z, trivial⟩⟩
theorem c_ref16_digits (F : NP) (w0 : World) (hF : ∀ k, F k → k < w0.heap.size) (s1 : List UInt8) (hc : AllCl [] F w0) (r : Bool)
  (h : m_ref16_digits s1 = some r) :
  Calls Tryz.prog 188 #[(str s1)] w0 fun e w => e = .returned (vb r) ∧ Ext w0 w ∧ AllCl [] F w := by
 refine enterK Tryz.func188 rfl Tryz.ntmps188 rfl ?_
 have hI := Bun.start hF hc
 clear hc
 rw [m_ref16_digits] at h
 refine T ?_
 refine c_join (α := Unit) (fun _ => ⟨32, []⟩) (fun _ => [(0, (str s1))]) (fun _ => fun w => ∃ C, Bun noM F w0 C w [] [] ∧ m_ref16_digits_j1 s1 = some r) ?_ ?_
 ·clear h hI; rintro _ w1 ⟨c1, hI, h⟩
  try dsimp only at hI h
  rw [m_ref16_digits_j1] at h
  refine c_sub (e := [(0, (str s1))]) ⟨rfl, trivial⟩ ?_
  refine T ?_
  obtain ⟨b1, hx1, h⟩ := bnd_some h
  replace hx1 := gd_some hx1
  refine sJ ?_
  refine T ?_
  refine c_ret ?_
  obtain rfl := some_inj h
  exact QF hI
 refine T ?_
 refine c_loop (α := Nat × Int) (fun x => fun w => ∃ C, Bun noM F w0 C w [] [] ∧ m_ref16_digits_l1 s1 (x.1) (x.2) = some r) (fun x _ => x.1) (fun x => [(0, (str s1)), (3, vi (x.2))]) (fu, 0) ⟨_, hI.arr .n trivial, h⟩ SB ?_
 clear h hI; rintro ⟨fuel1, i1⟩ w2 ⟨c2, hI, h⟩
 dsimp only at hI h
 rcases fuel1 with _ | fuel1
 ·rw [m_ref16_digits_l1] at h; cases h
 rw [m_ref16_digits_l1] at h
 refine c_sub (e := [(0, (str s1)), (3, vi i1)]) SB ?_
 refine c_seq (T ?_)
 refine cif h et (fun hb h => ?_) (fun hb h => ?_)
 ·refine T ?_
  refine c_seq (T ?_)
  obtain ⟨b2, hx2, h⟩ := bnd_some h
  refine sI ?_
  refine T ?_
  obtain ⟨b3, hx3, h⟩ := bnd_some h
  replace hx3 := gd_some hx3
  refine sJ ?_
  refine T ?_
  refine cif h et (fun hb h => ?_) (fun hb h => ?_)
  ·refine T ?_
   refine c_ret ?_
   obtain rfl := some_inj h
   exact QF hI
  refine T ?_
  refine s_nil ?_
  exact k_loop (fuel1, wi64 (i1 + 1)) SB ⟨_, hI.arr GO SU, h⟩ (Nat.lt_succ_self _)
 refine c_exit ?_
 refine k_in ?_
 exact k_join () ⟨rfl, trivial⟩ ⟨_, hI.arr GO SU, h⟩ rfl
theorem c_ref16_number (F : NP) (w0 : World) (hF : ∀ k, F k → k < w0.heap.size) (p1 : Gbrocaderef16_State) (a1 : Option Addr) (c1 : Nat) (hc : AllCl [Cl.sl cGToken a1 c1 p1.L] F w0) (r : List UInt8 × Gbrocaderef16_State)
  (h : m_ref16_number p1 = some r) :
  Calls Tryz.prog 136 #[(Value.agg (Abrocaderef16_State p1 a1 c1))] w0 fun e w => ∃ (a2 : Option Addr) (c2 : Nat), e = .returned (Value.tuple #[(str r.1), (Value.agg (Abrocaderef16_State r.2 a2 c2))]) ∧ Ext w0 w ∧ AllCl [Cl.sl cGToken a2 c2 r.2.L] F w := by
 refine enterK Tryz.func136 rfl Tryz.ntmps136 rfl ?_
 have hI := Bun.start hF hc
 clear hc
 rw [m_ref16_number] at h
 refine sr (l_box (v := (Value.agg (Abrocaderef16_State p1 a1 c1))) (cs := (Abrocaderef16_State p1 a1 c1)) hI gn rfl rfl et rfl ?_)
 clear hI; intro b1 c3 w1 hI
 refine sac ?_
 refine l_alloc (cs := Zbrocaderef16_State) hI gn rfl rfl zero_72 rfl ?_
 clear hI; intro b2 c4 w2 hI
 refine nk (c_seq (T ?_))
 obtain ⟨e1, hx1, h⟩ := bnd_some h
 replace hx1 := gd_some hx1
 obtain ⟨ad1, cs1, hq1⟩ := hI.gclat .z hx1
 have hq2 : (!((!decide (p1.E = 0)) || (decide ((p1.L.length : Int) ≤ p1.At)))) = true → CA (Dj F c4) w2 (ad1.add (Int.toNat p1.At * 3)) (lToken e1) := fun hc => caq (hq1 hc).2.1 (hq1 hc).2.2
 refine sJ ?_
 refine T ?_
 obtain ⟨e2, hx2, h⟩ := bnd_some h
 replace hx2 := gd_some hx2
 obtain ⟨ad2, cs2, hq3⟩ := hI.gclat .z hx2
 have hq4 : (!(((!decide (p1.E = 0)) || (decide ((p1.L.length : Int) ≤ p1.At))) || (!decide (e1.Kind = 2)))) = true → CA (Dj F c4) w2 (ad2.add (Int.toNat p1.At * 3)) (lToken e2) := fun hc => caq (hq3 hc).2.1 (hq3 hc).2.2
 refine sJ ?_
 refine T ?_
 obtain ⟨r1, hx3, h⟩ := bnd_some h
 replace hx3 := gd_some hx3
 refine s_gcallU (v := (vb r1)) (g_false rfl rfl rfl rfl) rfl (fun hc => (r_callF (vs := [(str e2.Text)]) rfl ok_188 ⟨(ev_gv et hc), trivial⟩)) (fun hc => (c_ref16_digits (Dj F c4) w2 hI.lt e2.Text trivial r1 (hx3 hc)).mono fun _ _ k => ⟨k.1, k.2.1⟩) ?_
 intro w3 hx4; replace hI := hI.ext hx4
 refine T ?_
 refine cif h et (fun hb h => ?_) (fun hb h => ?_)
 ·refine T ?_
  obtain ⟨r2, hx5, h⟩ := bnd_some h
  refine s_call gn rfl (r_callF (vs := [(Value.agg (Abrocaderef16_State p1 a1 c1))]) rfl ok_41 ⟨et, trivial⟩) (Calls.mono (c_ref16_wrong (Dj F c4) w3 hI.lt p1 a1 c1 ⟨(hI.get .z), trivial⟩ r2 hx5) ?_)
  rintro _ w4 ⟨a3, c5, rfl, hx6, hl2⟩
  refine ⟨_, rfl, ?_⟩
  replace hI := (hI.ext hx6).adds hl2; dsimp only [ca, na] at hI
  refine sac ?_
  refine l_store (new := (lbrocaderef16_State r2 a3 c5)) (cs' := (Abrocaderef16_State r2 a3 c5)) hI .z gn rfl rfl et et rfl size_72 rfl rfl rfl ?_
  clear hI; intro c6 w5 hI
  refine nk (c_ret ?_)
  obtain rfl := some_inj h
  refine QG ?_
  exact ⟨a3, c5, rfl, hI.ext0, hI.fin ⟨.z, trivial⟩⟩
 refine T ?_
 refine l_store (new := [(vi (wi64 (p1.At + 1)))]) (cs' := #[vs a1 p1.L.length c1, (vi (wi64 (p1.At + 1))), vi p1.Deep, vi p1.E, vi p1.Pos]) hI (.s .z) gn rfl rfl et et rfl size_3 rfl rfl rfl ?_
 clear hI; intro c7 w6 hI
 refine nk (c_seq (c_drawX [10] false (.c (0, .q) (.c (1, .q) (.c (2, .q) (.c (3, .q) (.c (4, .q) (.c (5, .q) (.c (6, .q) (.c (7, .q) (.c (8, .q) (.c (9, .q) (.c (10, .s) .n))))))))))) hI (by kernel_rfl) (by kernel_rfl) ?_))
 clear hI; intro w7 hI
 refine V ?_
 obtain ⟨e3, hx7, h⟩ := bnd_some h
 obtain ⟨ad3, cs3, hA3, hr3, hq5⟩ := hI.clat .z hx7
 obtain rfl : cs3 = (lToken e3) := hr3
 refine vI ?_
 refine V ?_
 refine a_read rfl gn rfl (fun w' hw' => (y_loadN (l := [vs a1 p1.L.length c1, (vi (wi64 (p1.At + 1))), vi p1.Deep, vi p1.E, vi p1.Pos]) rfl et u72 rfl size_72 ((CA.blk (hI.blk (.s .z)) rfl).at_ (SX.any rfl hw')))) (by kernel_rfl) ?_
 refine V ?_
 refine a_turn (F := F) (C := c7) rfl rfl ?_
 refine la_store (new := [vs a1 p1.L.length c1, (vi (wi64 (p1.At + 1))), vi p1.Deep, vi p1.E, vi p1.Pos]) (cs' := #[vs a1 p1.L.length c1, (vi (wi64 (p1.At + 1))), vi p1.Deep, vi p1.E, vi p1.Pos]) hI .z rfl gn rfl rfl et et rfl size_72 rfl rfl rfl ?_
 clear hI; intro c8 w8 hI
 refine V ?_
 refine c_ret ?_
 obtain rfl := some_inj h
 refine QG ?_
 exact ⟨a1, c1, rfl, hI.ext0, hI.fin ⟨.z, trivial⟩⟩
theorem c_base_Times (F : NP) (w0 : World) (hF : ∀ k, F k → k < w0.heap.size) (a1 : Int) (b1 : Int) (hc : AllCl [] F w0) (r : Int × Bool)
  (h : m_base_Times a1 b1 = some r) :
  Calls Tryz.prog 189 #[vi a1, vi b1] w0 fun e w => e = .returned (Value.tuple #[vi r.1, vb r.2]) ∧ Ext w0 w ∧ AllCl [] F w := by
 refine enterK Tryz.func189 rfl Tryz.ntmps189 rfl ?_
 have hI := Bun.start hF hc
 clear hc
 rw [m_base_Times] at h
 refine T ?_
 refine c_seq (T ?_)
 refine cif h et (fun hb h => ?_) (fun hb h => ?_)
 ·refine T ?_
  refine c_ret ?_
  obtain rfl := some_inj h
  exact QF hI
 refine T ?_
 refine c_seq (T ?_)
 obtain ⟨ho1, h⟩ := chk_some h
 refine s_gval (g_false rfl rfl rfl rfl) rfl (fun hc => y_quo rfl (ev_gv et hc) (ev_gv et hc) (ho1 hc)) ?_
 refine T ?_
 refine cif h et (fun hb h => ?_) (fun hb h => ?_)
 ·refine T ?_
  refine c_ret ?_
  obtain rfl := some_inj h
  exact QF hI
 refine T ?_
 refine c_ret ?_
 obtain rfl := some_inj h
 exact QF hI
theorem c_base_Plus (F : NP) (w0 : World) (hF : ∀ k, F k → k < w0.heap.size) (a1 : Int) (b1 : Int) (hc : AllCl [] F w0) (r : Int × Bool)
  (h : m_base_Plus a1 b1 = some r) :
  Calls Tryz.prog 190 #[vi a1, vi b1] w0 fun e w => e = .returned (Value.tuple #[vi r.1, vb r.2]) ∧ Ext w0 w ∧ AllCl [] F w := by
 refine enterK Tryz.func190 rfl Tryz.ntmps190 rfl ?_
 have hI := Bun.start hF hc
 clear hc
 rw [m_base_Plus] at h
 refine T ?_
 refine c_seq (T ?_)
 refine cif h et (fun hb h => ?_) (fun hb h => ?_)
 ·refine T ?_
  refine c_ret ?_
  obtain rfl := some_inj h
  exact QF hI
 refine T ?_
 refine c_ret ?_
 obtain rfl := some_inj h
 exact QF hI
theorem c_ref16_signed (F : NP) (w0 : World) (hF : ∀ k, F k → k < w0.heap.size) (s1 : List UInt8) (negative1 : Bool) (hc : AllCl [] F w0) (r : Int × Bool)
  (h : m_ref16_signed s1 negative1 = some r) :
  Calls Tryz.prog 137 #[(str s1), vb negative1] w0 fun e w => e = .returned (Value.tuple #[vi r.1, vb r.2]) ∧ Ext w0 w ∧ AllCl [] F w := by
 refine enterK Tryz.func137 rfl Tryz.ntmps137 rfl ?_
 have hI := Bun.start hF hc
 clear hc
 rw [m_ref16_signed] at h
 refine T ?_
 refine c_seq (T ?_)
 refine c_loop (α := Nat × Int × Int) (fun x => fun w => ∃ C, Bun noM F w0 C w [] [] ∧ m_ref16_signed_l1 s1 negative1 (x.1) (x.2.1) (x.2.2) = some r) (fun x _ => x.1) (fun x => [(0, (str s1)), (1, vb negative1), (6, vi (x.2.1)), (7, vi (x.2.2))]) (fu, 0, 0) ⟨_, hI.arr .n trivial, h⟩ SB ?_
 clear h hI; rintro ⟨fuel1, n1, i1⟩ w1 ⟨c1, hI, h⟩
 dsimp only at hI h
 rcases fuel1 with _ | fuel1
 ·rw [m_ref16_signed_l1] at h; cases h
 rw [m_ref16_signed_l1] at h
 refine c_sub (e := [(0, (str s1)), (1, vb negative1), (6, vi n1), (7, vi i1)]) SB ?_
 refine c_seq (T ?_)
 refine cif h et (fun hb h => ?_) (fun hb h => ?_)
 ·refine T ?_
  refine c_seq (T ?_)
  obtain ⟨b1, hx1, h⟩ := bnd_some h
  refine sI ?_
  refine T ?_
  refine c_join (α := Int) (fun _ => ⟨46, []⟩) (fun x => [(0, (str s1)), (1, vb negative1), (6, vi n1), (7, vi i1), (8, vi x)]) (fun x => fun w => ∃ C, Bun noM F w0 C w [] [] ∧ m_ref16_signed_j1 n1 (m_ref16_signed_l1 s1 negative1 fuel1) i1 x = some r) ?_ ?_
  ·clear h hI; rintro d1 w2 ⟨c2, hI, h⟩
   try dsimp only at hI h
   rw [m_ref16_signed_j1] at h
   refine c_sub (e := [(0, (str s1)), (1, vb negative1), (6, vi n1), (7, vi i1), (8, vi d1)]) SB ?_
   refine T ?_
   obtain ⟨r1, hx2, h⟩ := bnd_some h
   refine s_call gn rfl (r_callF (vs := [vi n1, vi 10]) rfl ok_189 ⟨et, ⟨ev_const, trivial⟩⟩) (Calls.mono (c_base_Times (Dj F c2) w2 hI.lt n1 10 trivial r1 hx2) ?_)
   rintro _ w3 ⟨rfl, hx3, hl1⟩
   refine ⟨_, rfl, ?_⟩
   replace hI := (hI.ext hx3)
   refine T ?_
   obtain ⟨r2, hx4, h⟩ := bnd_some h
   refine s_call gn rfl (r_callF (vs := [vi r1.1, vi d1]) rfl ok_190 ⟨et, ⟨et, trivial⟩⟩) (Calls.mono (c_base_Plus (Dj F c2) w3 hI.lt r1.1 d1 trivial r2 hx4) ?_)
   rintro _ w4 ⟨rfl, hx5, hl2⟩
   refine ⟨_, rfl, ?_⟩
   replace hI := (hI.ext hx5)
   refine T ?_
   refine c_seq (T ?_)
   refine cif h et (fun hb h => ?_) (fun hb h => ?_)
   ·refine T ?_
    refine c_ret ?_
    obtain rfl := some_inj h
    exact QF hI
   refine T ?_
   refine s_nil ?_
   exact k_loop (fuel1, r2.1, wi64 (i1 + 1)) SB ⟨_, hI.arr GO SU, h⟩ (Nat.lt_succ_self _)
  refine T ?_
  refine cif h et (fun hb h => ?_) (fun hb h => ?_)
  ·refine c_region rfl ?_
   refine sm ?_
   refine sq (y_neg rfl et) ?_
   obtain ⟨d2, hx6, h⟩ := bnd_some h
   refine sq (binU (y_assign rfl et) (congrArg (Value.int .i64) (some_inj hx6))) ?_
   refine s_nil ?_
   exact k_join d2 SB ⟨_, hI.arr GO SU, h⟩ rfl
  exact c_skip (k_join (wi64 (wu8 (b1 - 48))) SB ⟨_, hI.arr GO SU, h⟩ rfl)
 refine c_exit ?_
 refine k_in ?_
 refine k_same ?_
 refine T ?_
 refine c_ret ?_
 obtain rfl := some_inj h
 exact QF hI
theorem c_base_LinRight (F : NP) (w0 : World) (hF : ∀ k, F k → k < w0.heap.size) (l1 : GLin) (a1 : Option Addr) (c1 : Nat) (hc : AllCl [Cl.sl cGMono a1 c1 l1.L] F w0) (r : Bool)
  (h : m_base_LinRight l1 = some r) :
  Calls Tryz.prog 114 #[(Value.agg (ALin l1 a1 c1))] w0 fun e w => e = .returned (vb r) ∧ Ext w0 w ∧ AllCl [] F w := by
 refine enterK Tryz.func114 rfl Tryz.ntmps114 rfl ?_
 have hI := Bun.start hF hc
 clear hc
 rw [m_base_LinRight] at h
 refine sr (l_box (v := (Value.agg (ALin l1 a1 c1))) (cs := (ALin l1 a1 c1)) hI gn rfl rfl et rfl ?_)
 clear hI; intro b1 c2 w1 hI
 obtain ⟨c3, hI⟩ := hI.relBox .z
 refine T ?_
 refine c_seq (T ?_)
 refine c_loop (α := Nat × Int) (fun x => fun w => ∃ C, Bun noM F w0 C w [] [Cl.blk b1 27 (ALin l1 a1 c1), Cl.sl cGMono a1 c1 l1.L] ∧ m_base_LinRight_l1 l1 (x.1) (x.2) = some r) (fun x _ => x.1) (fun x => [(1, vp b1 0), (3, vi (x.2))]) (fu, 0) ⟨_, hI.arr .n ⟨.z, (.s .z), trivial⟩, h⟩ SB ?_
 clear h hI; rintro ⟨fuel1, i1⟩ w2 ⟨c4, hI, h⟩
 dsimp only at hI h
 rcases fuel1 with _ | fuel1
 ·rw [m_base_LinRight_l1] at h; cases h
 rw [m_base_LinRight_l1] at h
 refine c_sub (e := [(1, vp b1 0), (3, vi i1)]) SB ?_
 refine c_seq (T ?_)
 refine cif h et (fun hb h => ?_) (fun hb h => ?_)
 ·refine T ?_
  refine c_seq (T ?_)
  refine c_seq (c_drawX [] false (.c (0, .q) (.c (1, .q) (.c (2, .q) (.c (3, .q) (.c (4, .q) (.c (5, .q) (.c (6, .s) (.c (7, .q) (.c (8, .q) (.c (9, .q) (.c (10, .q) (.c (11, .q) (.c (12, .q) (.c (13, .q) (.c (14, .q) (.c (15, .q) (.c (16, .q) (.c (17, .q) (.c (18, .q) (.c (19, .q) (.c (20, .q) (.c (21, .q) (.c (22, .q) (.c (23, .q) (.c (24, .q) (.c (25, .q) (.c (26, .q) (.c (27, .q) (.c (28, .q) (.c (29, .q) (.c (30, .q) (.c (31, .q) (.c (32, .q) (.c (33, .q) (.c (34, .q) (.c (35, .q) (.c (36, .q) .n))))))))))))))))))))))))))))))))))))) hI (by kernel_rfl) (by kernel_rfl) ?_)
  clear hI; intro w3 hI
  refine V ?_
  obtain ⟨e1, hx1, h⟩ := bnd_some h
  obtain ⟨ad1, cs1, hA1, hr1, hq1⟩ := hI.clat (.s .z) hx1
  obtain rfl : cs1 = (lMono e1) := hr1
  refine vI ?_
  refine V ?_
  obtain ⟨r1, hx2, h⟩ := bnd_some h
  refine la_call rfl gn rfl (r_callF (vs := [(str e1.Name)]) rfl ok_61 ⟨et, trivial⟩) (Calls.mono (c_base_Name (Dj F c4) w3 hI.lt e1.Name trivial r1 hx2) ?_)
  rintro _ w4 ⟨rfl, hx3, hl1⟩
  refine ⟨_, rfl, hx3, ?_⟩
  replace hI := (hI.ext hx3)
  refine V ?_
  obtain ⟨e2, hx4, h⟩ := bnd_some h
  replace hx4 := gd_some hx4
  obtain ⟨ad2, cs2, hq2⟩ := hI.gclat (.s .z) hx4
  have hq3 : (!(!r1)) = true → CA (Dj F c4) w4 (ad2.add (Int.toNat i1 * 2)) (lMono e2) := fun hc => caq (hq2 hc).2.1 (hq2 hc).2.2
  refine vJ ?_
  refine V ?_
  obtain ⟨e3, hx5, h⟩ := bnd_some h
  replace hx5 := gd_some hx5
  obtain ⟨ad3, cs3, hq4⟩ := hI.gclat (.s .z) hx5
  have hq5 : ((!((!r1) || (decide (e2.By = 0)))) && (decide (0 < i1))) = true → CA (Dj F c4) w4 (ad3.add (Int.toNat (wi64 (i1 - 1)) * 2)) (lMono e3) := fun hc => caq (hq4 hc).2.1 (hq4 hc).2.2
  refine vJ ?_
  refine V ?_
  obtain ⟨e4, hx6, h⟩ := bnd_some h
  replace hx6 := gd_some hx6
  obtain ⟨ad4, cs4, hq6⟩ := hI.gclat (.s .z) hx6
  have hq7 : ((!((!r1) || (decide (e2.By = 0)))) && (decide (0 < i1))) = true → CA (Dj F c4) w4 (ad4.add (Int.toNat i1 * 2)) (lMono e4) := fun hc => caq (hq6 hc).2.1 (hq6 hc).2.2
  refine vJ ?_
  refine V ?_
  refine cif h et (fun hb h => ?_) (fun hb h => ?_)
  ·refine T ?_
   refine c_ret ?_
   obtain rfl := some_inj h
   exact QF hI
  refine T ?_
  refine s_nil ?_
  exact k_loop (fuel1, wi64 (i1 + 1)) SB ⟨_, hI.arr GO SU, h⟩ (Nat.lt_succ_self _)
 refine c_exit ?_
 refine k_in ?_
 refine k_same ?_
 refine T ?_
 refine c_ret ?_
 obtain rfl := some_inj h
 exact QF hI
theorem c_ref05_Validate (F : NP) (w0 : World) (hF : ∀ k, F k → k < w0.heap.size) (l1 : GLin) (a1 : Option Addr) (c1 : Nat) (hc : AllCl [Cl.sl cGMono a1 c1 l1.L] F w0) (r : Int)
  (h : m_ref05_Validate l1 = some r) :
  Calls Tryz.prog 170 #[(Value.agg (ALin l1 a1 c1))] w0 fun e w => e = .returned (vi r) ∧ Ext w0 w ∧ AllCl [] F w := by
 refine enterK Tryz.func170 rfl Tryz.ntmps170 rfl ?_
 have hI := Bun.start hF hc
 clear hc
 rw [m_ref05_Validate] at h
 refine sr (l_box (v := (Value.agg (ALin l1 a1 c1))) (cs := (ALin l1 a1 c1)) hI gn rfl rfl et rfl ?_)
 clear hI; intro b1 c2 w1 hI
 obtain ⟨c3, hI⟩ := hI.relBox .z
 refine T ?_
 refine c_seq (sr (sq (y_loadN (l := (lLin l1 a1 c1)) rfl et u27 rfl size_27 (hI.kblk (l := (lLin l1 a1 c1)) .z rfl).1) ?_))
 obtain ⟨r1, hx1, h⟩ := bnd_some h
 refine s_call gn rfl (r_callF (vs := [(Value.agg (ALin l1 a1 c1))]) rfl ok_114 ⟨et, trivial⟩) (Calls.mono (c_base_LinRight (Dj F c3) w1 hI.lt l1 a1 c1 ⟨(hI.get (.s .z)), trivial⟩ r1 hx1) ?_)
 rintro _ w2 ⟨rfl, hx2, hl1⟩
 refine ⟨_, rfl, ?_⟩
 replace hI := (hI.ext hx2)
 refine T ?_
 refine cif h et (fun hb h => ?_) (fun hb h => ?_)
 ·refine T ?_
  refine c_ret ?_
  obtain rfl := some_inj h
  exact QF hI
 refine T ?_
 refine c_ret ?_
 obtain rfl := some_inj h
 exact QF hI
theorem c_ref05_Scale (F : NP) (w0 : World) (hF : ∀ k, F k → k < w0.heap.size) (a1 : GLin) (by1 : Int) (a2 : Option Addr) (c1 : Nat) (hc : AllCl [Cl.sl cGMono a2 c1 a1.L] F w0) (r : GLin × Int)
  (h : m_ref05_Scale a1 by1 = some r) :
  Calls Tryz.prog 138 #[(Value.agg (ALin a1 a2 c1)), vi by1] w0 fun e w => ∃ (a3 : Option Addr) (c2 : Nat), e = .returned (Value.tuple #[(Value.agg (ALin r.1 a3 c2)), vi r.2]) ∧ Ext w0 w ∧ AllCl [Cl.sl cGMono a3 c2 r.1.L] F w := by
 refine enterK Tryz.func138 rfl Tryz.ntmps138 rfl ?_
 have hI := Bun.start hF hc
 clear hc
 rw [m_ref05_Scale] at h
 refine sr (l_box (v := (Value.agg (ALin a1 a2 c1))) (cs := (ALin a1 a2 c1)) hI gn rfl rfl et rfl ?_)
 clear hI; intro b1 c3 w1 hI
 obtain ⟨c4, hI⟩ := hI.relBox .z
 refine l_alloc (cs := #[vi 0, vs none 0 0]) hI gn rfl rfl zero_27 rfl ?_
 clear hI; intro b2 c5 w2 hI
 refine T ?_
 refine c_seq (sr (sq (y_loadN (l := (lLin a1 a2 c1)) rfl et u27 rfl size_27 (hI.kblk (l := (lLin a1 a2 c1)) .z rfl).1) ?_))
 obtain ⟨r1, hx1, h⟩ := bnd_some h
 refine s_call gn rfl (r_callF (vs := [(Value.agg (ALin a1 a2 c1))]) rfl ok_170 ⟨et, trivial⟩) (Calls.mono (c_ref05_Validate (Dj F c5) w2 hI.lt a1 a2 c1 ⟨(hI.get (.s .z)), trivial⟩ r1 hx1) ?_)
 rintro _ w3 ⟨rfl, hx2, hl1⟩
 refine ⟨_, rfl, ?_⟩
 replace hI := (hI.ext hx2)
 refine T ?_
 refine cif h et (fun hb h => ?_) (fun hb h => ?_)
 ·refine sr (sq (y_build (vs := []) (cs := #[vi 0, vs none 0 0]) rfl trivial (by kernel_rfl)) ?_)
  refine l_store (new := [vi 0, vs none 0 0]) (cs' := #[vi 0, vs none 0 0]) hI .z gn rfl rfl et et rfl size_27 rfl rfl rfl ?_
  clear hI; intro c6 w4 hI
  refine T ?_
  refine c_ret ?_
  have hI := hI.add (c := Cl.sl cGMono none 0 ([] : List GMono)) SlC.nil
  obtain rfl := some_inj h
  refine QG ?_
  exact ⟨none, 0, rfl, hI.ext0, hI.fin ⟨.z, trivial⟩⟩
 refine T ?_
 refine c_seq (T ?_)
 refine cif h et (fun hb h => ?_) (fun hb h => ?_)
 ·refine sr (sq (y_build (vs := []) (cs := #[vi 0, vs none 0 0]) rfl trivial (by kernel_rfl)) ?_)
  refine l_store (new := [vi 0, vs none 0 0]) (cs' := #[vi 0, vs none 0 0]) hI .z gn rfl rfl et et rfl size_27 rfl rfl rfl ?_
  clear hI; intro c7 w5 hI
  refine T ?_
  refine c_ret ?_
  have hI := hI.add (c := Cl.sl cGMono none 0 ([] : List GMono)) SlC.nil
  obtain rfl := some_inj h
  refine QG ?_
  exact ⟨none, 0, rfl, hI.ext0, hI.fin ⟨.z, trivial⟩⟩
 refine T ?_
 obtain ⟨r2, hx3, h⟩ := bnd_some h
 refine s_call gn rfl (r_callF (vs := [vi a1.K, vi by1]) rfl ok_189 ⟨et, ⟨et, trivial⟩⟩) (Calls.mono (c_base_Times (Dj F c5) w3 hI.lt a1.K by1 trivial r2 hx3) ?_)
 rintro _ w6 ⟨rfl, hx4, hl2⟩
 refine ⟨_, rfl, ?_⟩
 replace hI := (hI.ext hx4)
 refine T ?_
 refine c_seq (T ?_)
 refine cif h et (fun hb h => ?_) (fun hb h => ?_)
 ·refine sr (sq (y_build (vs := []) (cs := #[vi 0, vs none 0 0]) rfl trivial (by kernel_rfl)) ?_)
  refine l_store (new := [vi 0, vs none 0 0]) (cs' := #[vi 0, vs none 0 0]) hI .z gn rfl rfl et et rfl size_27 rfl rfl rfl ?_
  clear hI; intro c8 w7 hI
  refine T ?_
  refine c_ret ?_
  have hI := hI.add (c := Cl.sl cGMono none 0 ([] : List GMono)) SlC.nil
  obtain rfl := some_inj h
  refine QG ?_
  exact ⟨none, 0, rfl, hI.ext0, hI.fin ⟨.z, trivial⟩⟩
 refine T ?_
 refine sq (y_build (vs := [(0, vi r2.1)]) (cs := #[vi r2.1, vs none 0 0]) rfl ⟨rfl, et, trivial⟩ (by kernel_rfl)) ?_
 refine l_alloc (cs := #[vi 0, vs none 0 0]) hI gn rfl rfl zero_27 rfl ?_
 clear hI; intro b3 c9 w8 hI
 refine l_store (new := [vi r2.1, vs none 0 0]) (cs' := #[vi r2.1, vs none 0 0]) hI .z gn rfl rfl et et rfl size_27 rfl rfl rfl ?_
 clear hI; intro c10 w9 hI
 refine nk (c_seq (T ?_))
 have hI := hI.nil cGMono 64 none
 refine c_loop (α := Nat × Int × GLin × (Option Addr) × Nat) (fun x => fun w => ∃ C, Bun noM F w0 C w [MO.row cGMono 64 (x.2.2.2.1) (x.2.2.2.2) (x.2.2.1).L, MO.box b2 27 #[vi 0, vs none 0 0], MO.box b3 27 (ALin (x.2.2.1) (x.2.2.2.1) (x.2.2.2.2))] [Cl.blk b1 27 (ALin a1 a2 c1), Cl.sl cGMono a2 c1 a1.L] ∧ m_ref05_Scale_l1 a1 by1 (x.1) (x.2.1) (x.2.2.1) = some r) (fun x _ => x.1) (fun x => [(1, vi by1), (2, vp b1 0), (4, vp b2 0), (8, vp b3 0), (9, vi (x.2.1))]) (fu, 0, (⟨r2.1, ([] : List GMono)⟩ : GLin), none, 0) ⟨_, hI.arr (.c .z (.c (.s .z) (.c .z .n))) ⟨.z, (.s .z), trivial⟩, h⟩ SB ?_
 clear h hI; rintro ⟨fuel1, i1, out1, a4, c11⟩ w10 ⟨c12, hI, h⟩
 dsimp only at hI h
 rcases fuel1 with _ | fuel1
 ·rw [m_ref05_Scale_l1] at h; cases h
 rw [m_ref05_Scale_l1] at h
 refine c_sub (e := [(1, vi by1), (2, vp b1 0), (4, vp b2 0), (8, vp b3 0), (9, vi i1)]) SB ?_
 refine c_seq (T ?_)
 refine cif h et (fun hb h => ?_) (fun hb h => ?_)
 ·refine T ?_
  refine c_seq (T ?_)
  obtain ⟨e1, hx5, h⟩ := bnd_some h
  obtain ⟨ad1, cs1, hA1, hr1, hq1⟩ := hI.clat (.s .z) hx5
  obtain rfl : cs1 = (lMono e1) := hr1
  refine sI ?_
  refine T ?_
  obtain ⟨r3, hx6, h⟩ := bnd_some h
  refine s_call gn rfl (r_callF (vs := [vi e1.By, vi by1]) rfl ok_189 ⟨et, ⟨et, trivial⟩⟩) (Calls.mono (c_base_Times (Dj F c12) w10 hI.lt e1.By by1 trivial r3 hx6) ?_)
  rintro _ w11 ⟨rfl, hx7, hl3⟩
  refine ⟨_, rfl, ?_⟩
  replace hI := (hI.ext hx7)
  refine T ?_
  refine c_seq (T ?_)
  refine cif h et (fun hb h => ?_) (fun hb h => ?_)
  ·refine sr (sq (y_build (vs := []) (cs := #[vi 0, vs none 0 0]) rfl trivial (by kernel_rfl)) ?_)
   refine l_store (new := [vi 0, vs none 0 0]) (cs' := #[vi 0, vs none 0 0]) hI (.s .z) gn rfl rfl et et rfl size_27 rfl rfl rfl ?_
   clear hI; intro c13 w12 hI
   refine T ?_
   refine c_ret ?_
   have hI := hI.add (c := Cl.sl cGMono none 0 ([] : List GMono)) SlC.nil
   obtain rfl := some_inj h
   refine QG ?_
   exact ⟨none, 0, rfl, hI.ext0, hI.fin ⟨.z, trivial⟩⟩
  refine T ?_
  refine c_drawX [11, 13] false (.c (0, .q) (.c (1, .q) (.c (2, .q) (.c (3, .q) (.c (4, .q) (.c (5, .q) (.c (6, .q) (.c (7, .q) (.c (8, .q) (.c (9, .q) (.c (10, .s) (.c (11, .s) (.c (12, .q) (.c (13, .s) .n)))))))))))))) hI (by kernel_rfl) (by kernel_rfl) ?_
  clear hI; intro w13 hI
  refine V ?_
  obtain ⟨e2, hx8, h⟩ := bnd_some h
  obtain ⟨ad2, cs2, hA2, hr2, hq2⟩ := hI.clat (.s .z) hx8
  obtain rfl : cs2 = (lMono e2) := hr2
  refine vI ?_
  refine V ?_
  refine a_q rfl gn rfl (fun w' => (y_build (vs := [(0, (str e2.Name)), (1, vi r3.1)]) (cs := #[(str e2.Name), vi r3.1]) rfl ⟨rfl, et, ⟨rfl, et, trivial⟩⟩ (by kernel_rfl))) ?_
  refine la_lit (c := cGMono) (xs := ([(⟨e2.Name, r3.1⟩ : GMono)] : List GMono)) (vs := [(0, (Value.agg #[(str e2.Name), vi r3.1]))]) (cs := #[(str e2.Name), vi r3.1]) (css := [[(str e2.Name), vi r3.1]]) hI rfl gn rfl rfl u25 info_64 rfl ⟨rfl, et, trivial⟩ (by kernel_rfl) ⟨rfl, trivial⟩ rfl rfl rfl ?_
  clear hI; intro b4 c14 w14 hI
  refine a_turn (F := F) (C := c14) rfl rfl ?_
  obtain ⟨zs1, hx9, h⟩ := bnd_some h
  refine la_append (xs := out1.L) (ys := ([(⟨e2.Name, r3.1⟩ : GMono)] : List GMono)) hI (.s .z) (hI.rd .z) hx9 rfl gn rfl rfl u25 info_64 rfl rfl et et ?_
  clear hI; intro a5 c15 c16 w15 hI
  refine V ?_
  refine la_store (new := [vs a5 zs1.length c15]) (cs' := #[vi out1.K, vs a5 zs1.length c15]) hI (.s (.s (.s .z))) rfl gn rfl rfl et et rfl size_25 rfl rfl rfl ?_
  clear hI; intro c17 w16 hI
  refine V ?_
  refine T ?_
  refine s_nil ?_
  exact k_loop (fuel1, wi64 (i1 + 1), (⟨out1.K, zs1⟩ : GLin), a5, c15) SB ⟨_, hI.arr GO SU, h⟩ (Nat.lt_succ_self _)
 refine c_exit ?_
 refine k_in ?_
 refine k_same ?_
 refine T ?_
 refine l_store (new := (lLin out1 a4 c11)) (cs' := (ALin out1 a4 c11)) hI (.s .z) gn rfl rfl et et rfl size_27 rfl rfl rfl ?_
 clear hI; intro c18 w17 hI
 refine T ?_
 refine c_ret ?_
 obtain ⟨c19, hI⟩ := hI.release .z
 obtain rfl := some_inj h
 refine QG ?_
 exact ⟨a4, c11, rfl, hI.ext0, hI.fin ⟨.z, trivial⟩⟩
theorem c_ref05_insert_w (C0 F : NP) (w0 : World) (l1 : List (List UInt8)) (s1 : List UInt8) (a1 : Option Addr) (c1 : Nat) (hI : Bun C0 F w0 C0 w0 [MO.row cStr 9 a1 c1 l1] []) (r : List (List UInt8))
  (h : m_ref05_insert_w l1 s1 = some r) :
  Calls Tryz.prog 226 #[vs a1 l1.length c1, (str s1)] w0 fun e w => ∃ (a2 : Option Addr) (c2 : Nat) (C : NP), e = .returned (vs a2 r.length c2) ∧ Bun C0 F w0 C w [MO.row cStr 9 a2 c2 r] [] := by
 refine enterK Tryz.func226 rfl Tryz.ntmps226 rfl ?_
 rw [m_ref05_insert_w] at h
 refine sr (sac ?_)
 refine nk (c_seq (sr (sm ?_)))
 refine sm ?_
 obtain ⟨r1, hx1, h⟩ := bnd_some h
 refine s_call gn rfl (r_callF (vs := [vs a1 l1.length c1, (str s1)]) rfl ok_115 ⟨et, ⟨et, trivial⟩⟩) (Calls.mono (c_base_Has noM w0 (fun _ k => k.elim) l1 s1 a1 c1 ⟨hI.lend .z, trivial⟩ r1 hx1) ?_)
 rintro _ w1 ⟨rfl, hx2, hl1⟩
 refine ⟨_, rfl, ?_⟩
 replace hI := (hI.ext hx2)
 refine nk (cif h et (fun hb h => ?_) (fun hb h => ?_))
 ·refine sr (sm ?_)
  refine sa ?_
  refine nk (c_ret ?_)
  obtain rfl := some_inj h
  exact q_ret (vs := [vs a1 l1.length c1]) Tryz.results226 ⟨ev_tmp rfl rfl, trivial⟩ ⟨a1, c1, _, rfl, hI.arr (.c .z .n) trivial⟩
 refine c_skip (k_same (sr (sm ?_)))
 refine sm ?_
 refine l_lit (c := cStr) (xs := ([s1] : List (List UInt8))) (vs := [(0, (str s1))]) (cs := #[(str s1)]) (css := [[(str s1)]]) hI gn rfl rfl u50 info_9 rfl ⟨rfl, et, trivial⟩ (by kernel_rfl) ⟨rfl, trivial⟩ rfl rfl rfl ?_
 clear hI; intro b1 c3 w2 hI
 obtain ⟨zs1, hx3, h⟩ := bnd_some h
 refine l_append (xs := l1) (ys := ([s1] : List (List UInt8))) hI (.s .z) (hI.rd .z) hx3 gn rfl rfl u50 info_9 rfl rfl et et ?_
 clear hI; intro a3 c4 c5 w3 hI
 refine sa ?_
 refine nk (c_seq (sr (sm ?_)))
 refine sq (y_lenl rfl u50 et) ?_
 refine sq (y_sub rfl et ev_const) ?_
 obtain ⟨i1, hx4, h⟩ := bnd_some h
 refine sq (binU (y_assign rfl et) (congrArg (Value.int .i64) (some_inj hx4))) ?_
 refine nk (c_block (c_loop (α := Nat × (List (List UInt8)) × Int × (Option Addr) × Nat) (fun x => fun w => ∃ C, Bun C0 F w0 C w [MO.row cStr 9 (x.2.2.2.1) (x.2.2.2.2) (x.2.1)] [] ∧ m_ref05_insert_w_l1 (x.1) (x.2.1) (x.2.2.1) = some r) (fun x _ => x.1) (fun x => [(0, vs (x.2.2.2.1) (x.2.1).length (x.2.2.2.2)), (5, vi (x.2.2.1))]) (fu, zs1, i1, a3, c4) ⟨_, hI.arr (.c (.s .z) .n) trivial, h⟩ ⟨rfl, rfl, trivial⟩ ?_))
 clear h hI; rintro ⟨fuel1, l2, i2, a4, c6⟩ w4 ⟨c7, hI, h⟩
 dsimp only at hI h
 rcases fuel1 with _ | fuel1
 ·rw [m_ref05_insert_w_l1] at h; cases h
 rw [m_ref05_insert_w_l1] at h
 refine c_sub (e := [(0, vs a4 l2.length c6), (5, vi i2)]) ⟨rfl, rfl, trivial⟩ ?_
 refine c_seq (c_seq (c_drawX [] false (.c (0, .q) (.c (1, .q) (.c (2, .q) (.c (3, .q) (.c (4, .q) (.c (5, .q) (.c (6, .q) (.c (7, .q) (.c (8, .q) (.c (9, .q) (.c (10, .q) (.c (11, .q) (.c (12, .q) (.c (13, .q) .n)))))))))))))) hI (by kernel_rfl) (by kernel_rfl) ?_))
 clear hI; intro w5 hI
 refine a_q rfl gn rfl (fun w' => y_move rfl et) ?_
 refine a_q rfl gn rfl (fun w' => y_gtr rfl et ev_const) ?_
 refine a_q rfl gn rfl (fun w' => y_move rfl et) ?_
 refine a_gval rfl (g_true rfl rfl rfl rfl) rfl (fun hc => fun w' => (y_move rfl et)) ?_
 refine a_gval rfl (g_true rfl rfl rfl rfl) rfl (fun hc => fun w' => (y_move rfl et)) ?_
 refine a_gval rfl (g_true rfl rfl rfl rfl) rfl (fun hc => fun w' => (y_sub rfl (ev_gv et hc) ev_const)) ?_
 obtain ⟨e1, hx5, h⟩ := bnd_some h
 replace hx5 := gd_some hx5
 obtain ⟨ad1, cs1, hq1⟩ := hI.golat .z hx5
 have hq2 : (decide (0 < i2)) = true → CA noM w5 (ad1.add (Int.toNat (wi64 (i2 - 1)) * 1)) [(str e1)] := fun hc => by have k := hq1 hc; have e : cs1 = _ := k.2.1; rw [← e]; exact k.2.2
 refine a_gval rfl (g_true rfl rfl rfl rfl) rfl (fun hc => fun w' => (y_indexAddr rfl u50 size_9 (ev_gv et hc) (ev_gv et hc) (lat_bd (hx5 hc)) (hq1 hc).1)) ?_
 refine a_gread rfl (g_true rfl rfl rfl rfl) rfl (fun hc => fun w' hw' => (y_load1 (v := (str e1)) rfl (ev_gv et hc) u9 rfl ((hq2 hc).at_ (SX.any rfl hw')))) (by kernel_rfl) ?_
 refine a_gval rfl (g_true rfl rfl rfl rfl) rfl (fun hc => fun w' => (y_move rfl et)) ?_
 refine a_gval rfl (g_true rfl rfl rfl rfl) rfl (fun hc => fun w' => (y_move rfl et)) ?_
 obtain ⟨e2, hx6, h⟩ := bnd_some h
 replace hx6 := gd_some hx6
 obtain ⟨ad2, cs2, hq3⟩ := hI.golat .z hx6
 have hq4 : (decide (0 < i2)) = true → CA noM w5 (ad2.add (Int.toNat i2 * 1)) [(str e2)] := fun hc => by have k := hq3 hc; have e : cs2 = _ := k.2.1; rw [← e]; exact k.2.2
 refine a_gval rfl (g_true rfl rfl rfl rfl) rfl (fun hc => fun w' => (y_indexAddr rfl u50 size_9 (ev_gv et hc) (ev_gv et hc) (lat_bd (hx6 hc)) (hq3 hc).1)) ?_
 refine a_gread rfl (g_true rfl rfl rfl rfl) rfl (fun hc => fun w' hw' => (y_load1 (v := (str e2)) rfl (ev_gv et hc) u9 rfl ((hq4 hc).at_ (SX.any rfl hw')))) (by kernel_rfl) ?_
 refine a_gval rfl (g_true rfl rfl rfl rfl) rfl (fun hc => fun w' => (y_gts rfl (ev_gv et hc) (ev_gv et hc))) ?_
 refine a_q rfl gn rfl (fun w' => y_and rfl et et) ?_
 refine a_nil ?_
 refine k_same (cif h et (fun hb h => ?_) (fun hb h => ?_))
 ·refine c_skip (k_same (c_seq (c_block (sr (sm ?_)))))
  refine sm ?_
  obtain ⟨e3, hx7, h⟩ := bnd_some h
  obtain ⟨ad3, cs3, hA3, hr3, hq5⟩ := hI.olat .z hx7
  obtain rfl : cs3 = [(str e3)] := hr3
  refine sq (y_indexAddr rfl u50 size_9 et et (lat_bd hx7) hA3) ?_
  refine sq (y_load1 (v := (str e3)) rfl et u9 rfl hq5.1) ?_
  refine sa ?_
  refine nk (sr (sm ?_))
  refine sm ?_
  refine sm ?_
  refine sm ?_
  refine sq (y_sub rfl et ev_const) ?_
  obtain ⟨e4, hx8, h⟩ := bnd_some h
  obtain ⟨ad4, cs4, hA4, hr4, hq6⟩ := hI.olat .z hx8
  obtain rfl : cs4 = [(str e4)] := hr4
  refine sq (y_indexAddr rfl u50 size_9 et et (lat_bd hx8) hA4) ?_
  refine sq (y_load1 (v := (str e4)) rfl et u9 rfl hq6.1) ?_
  obtain ⟨ho1, h⟩ := chk_some h
  obtain ⟨ad5, hA5⟩ := hI.addr .z ho1
  refine sq (y_indexAddr rfl u50 size_9 et et ho1 hA5) ?_
  refine l_storeRow (p := Int.toNat i2) (new := [(str e4)]) (off := 0) (x' := e4) hI .z gn rfl rfl (by have := ho1; first | omega | (simp only [List.length_set]; omega)) hA5 rfl et et rfl size_9 rfl (by show 0 + 1 ≤ 1; omega) (fun _ cs0 _ hr0 => by rw [spl_full (by have e := Cod.len _ hr0; exact e)]; exact rfl) ?_
  clear hI; intro c8 w6 hI
  refine s_nil ?_
  refine k_next (e := [(0, (vs a4 (l2.set (Int.toNat i2) e4).length c6)), (5, vi i2), (6, (str e3))]) ⟨(lookset rfl), rfl, rfl, trivial⟩ ?_
  refine c_region rfl ?_
  refine sm ?_
  refine sm ?_
  refine sq (y_sub rfl et ev_const) ?_
  refine sm ?_
  obtain ⟨ho2, h⟩ := chk_some h
  obtain ⟨ad6, hA6⟩ := hI.addr .z ho2
  refine sq (y_indexAddr rfl u50 size_9 et et ho2 hA6) ?_
  refine l_storeRow (p := Int.toNat (wi64 (i2 - 1))) (new := [(str e3)]) (off := 0) (x' := e3) hI .z gn rfl rfl (by have := ho2; first | omega | (simp only [List.length_set]; omega)) hA6 rfl et et rfl size_9 rfl (by show 0 + 1 ≤ 1; omega) (fun _ cs0 _ hr0 => by rw [spl_full (by have e := Cod.len _ hr0; exact e)]; exact rfl) ?_
  clear hI; intro c9 w7 hI
  refine s_nil ?_
  refine k_next (e := [(0, (vs a4 ((l2.set (Int.toNat i2) e4).set (Int.toNat (wi64 (i2 - 1))) e3).length c6)), (5, vi i2)]) ⟨(lookset rfl), rfl, trivial⟩ ?_
  refine c_region rfl ?_
  refine sm ?_
  refine sq (y_sub rfl et ev_const) ?_
  refine sa ?_
  refine s_nil ?_
  exact k_loop (fuel1, (l2.set (Int.toNat i2) e4).set (Int.toNat (wi64 (i2 - 1))) e3, wi64 (i2 - 1), a4, c6) ⟨rfl, rfl, trivial⟩ ⟨_, hI.arr (.c .z .n) trivial, h⟩ (Nat.lt_succ_self _)
 refine c_exit ?_
 refine k_in ?_
 refine k_same (sr (sm ?_))
 refine sa ?_
 refine nk (c_ret ?_)
 obtain rfl := some_inj h
 exact q_ret (vs := [vs a4 l2.length c6]) Tryz.results226 ⟨ev_tmp rfl rfl, trivial⟩ ⟨a4, c6, _, rfl, hI.arr (.c .z .n) trivial⟩
theorem c_ref05_Names (F : NP) (w0 : World) (hF : ∀ k, F k → k < w0.heap.size) (l1 : List GLin) (a1 : Option Addr) (c1 : Nat) (hc : AllCl [Cl.sl cGLin a1 c1 l1] F w0) (r : List (List UInt8))
  (h : m_ref05_Names l1 = some r) :
  Calls Tryz.prog 191 #[vs a1 l1.length c1] w0 fun e w => ∃ (a2 : Option Addr) (c2 : Nat), e = .returned (vs a2 r.length c2) ∧ Ext w0 w ∧ AllCl [Cl.sl cStr a2 c2 r] F w := by
 refine enterK Tryz.func191 rfl Tryz.ntmps191 rfl ?_
 have hI := Bun.start hF hc
 clear hc
 rw [m_ref05_Names] at h
 refine T ?_
 refine c_seq (T ?_)
 have hI := hI.nil cStr 9 none
 refine c_loop (α := Nat × (List (List UInt8)) × Int × (Option Addr) × Nat) (fun x => fun w => ∃ C, Bun noM F w0 C w [MO.row cStr 9 (x.2.2.2.1) (x.2.2.2.2) (x.2.1)] [Cl.sl cGLin a1 c1 l1] ∧ m_ref05_Names_l1 l1 (x.1) (x.2.1) (x.2.2.1) = some r) (fun x _ => x.1) (fun x => [(0, vs a1 l1.length c1), (3, vs (x.2.2.2.1) (x.2.1).length (x.2.2.2.2)), (4, vi (x.2.2.1))]) (fu, ([] : List (List UInt8)), 0, none, 0) ⟨_, hI.arr (.c .z .n) ⟨.z, trivial⟩, h⟩ SB ?_
 clear h hI; rintro ⟨fuel1, out1, i1, a3, c3⟩ w1 ⟨c4, hI, h⟩
 dsimp only at hI h
 rcases fuel1 with _ | fuel1
 ·rw [m_ref05_Names_l1] at h; cases h
 rw [m_ref05_Names_l1] at h
 refine c_sub (e := [(0, vs a1 l1.length c1), (3, vs a3 out1.length c3), (4, vi i1)]) SB ?_
 refine c_seq (T ?_)
 refine cif h et (fun hb h => ?_) (fun hb h => ?_)
 ·refine T ?_
  refine c_join (α := (List (List UInt8)) × (Option Addr) × Nat) (fun _ => ⟨34, []⟩) (fun x => [(0, vs a1 l1.length c1), (3, vs (x.2.1) (x.1).length (x.2.2)), (4, vi i1)]) (fun x => fun w => ∃ C, Bun noM F w0 C w [MO.row cStr 9 (x.2.1) (x.2.2) (x.1)] [Cl.sl cGLin a1 c1 l1] ∧ m_ref05_Names_j1 (m_ref05_Names_l1 l1 fuel1) i1 (x.1) = some r) ?_ ?_
  ·clear h hI; rintro ⟨out2, a4, c5⟩ w2 ⟨c6, hI, h⟩
   try dsimp only at hI h
   rw [m_ref05_Names_j1] at h
   refine c_sub (e := [(0, vs a1 l1.length c1), (3, vs a4 out2.length c5), (4, vi i1)]) SB ?_
   refine T ?_
   refine s_nil ?_
   exact k_loop (fuel1, out2, wi64 (i1 + 1), a4, c5) SB ⟨_, hI.arr GO SU, h⟩ (Nat.lt_succ_self _)
  refine T ?_
  refine c_loop (α := Nat × (List (List UInt8)) × Int × (Option Addr) × Nat) (fun x => fun w => ∃ C, Bun noM F w0 C w [MO.row cStr 9 (x.2.2.2.1) (x.2.2.2.2) (x.2.1)] [Cl.sl cGLin a1 c1 l1] ∧ m_ref05_Names_l2 l1 i1 (m_ref05_Names_l1 l1 fuel1) (x.1) (x.2.1) (x.2.2.1) = some r) (fun x _ => x.1) (fun x => [(0, vs a1 l1.length c1), (3, vs (x.2.2.2.1) (x.2.1).length (x.2.2.2.2)), (4, vi i1), (5, vi (x.2.2.1))]) (fu, out1, 0, a3, c3) ⟨_, hI.arr (.c .z .n) ⟨.z, trivial⟩, h⟩ SB ?_
  clear h hI; rintro ⟨fuel2, out3, k1, a5, c7⟩ w3 ⟨c8, hI, h⟩
  dsimp only at hI h
  rcases fuel2 with _ | fuel2
  ·rw [m_ref05_Names_l2] at h; cases h
  rw [m_ref05_Names_l2] at h
  refine c_sub (e := [(0, vs a1 l1.length c1), (3, vs a5 out3.length c7), (4, vi i1), (5, vi k1)]) SB ?_
  refine c_seq (T ?_)
  obtain ⟨e1, hx1, h⟩ := bnd_some h
  obtain ⟨ad1, cs1, hA1, hr1, hq1⟩ := hI.clat .z hx1
  obtain ⟨a6, c9, rfl, hf1⟩ := hr1
  have hI := hI.add (c := Cl.sl cGMono a6 c9 e1.L) hf1
  refine sI ?_
  refine T ?_
  refine cif h et (fun hb h => ?_) (fun hb h => ?_)
  ·refine T ?_
   refine c_seq (T ?_)
   obtain ⟨e2, hx2, h⟩ := bnd_some h
   obtain ⟨ad2, cs2, hA2, hr2, hq2⟩ := hI.clat (.s .z) hx2
   obtain ⟨a7, c10, rfl, hf2⟩ := hr2
   have hI := hI.add (c := Cl.sl cGMono a7 c10 e2.L) hf2
   refine sI ?_
   refine T ?_
   obtain ⟨e3, hx3, h⟩ := bnd_some h
   obtain ⟨ad3, cs3, hA3, hr3, hq3⟩ := hI.clat .z hx3
   obtain rfl : cs3 = (lMono e3) := hr3
   refine sI ?_
   refine T ?_
   obtain ⟨c11, f1, hB, hl1, hk1⟩ := hI.hands (.l .n)
   obtain ⟨r1, hx4, h⟩ := bnd_some h
   try dsimp only at h
   refine s_call gn rfl (r_callF (vs := [vs a5 out3.length c7, (str e3.Name)]) rfl ok_226 ⟨et, ⟨et, trivial⟩⟩) (Calls.mono (c_ref05_insert_w c11 f1 w3 out3 e3.Name a5 c7 (hB.subs trivial) _ hx4) ?_)
   rintro _ w4 ⟨a8, c12, c13, rfl, hB2⟩
   obtain ⟨c14, hs1, hI⟩ := hk1 _ _ _ _ hB2
   dsimp only [ca, na] at hI
   refine ⟨_, rfl, ?_⟩
   refine T ?_
   refine s_nil ?_
   exact k_loop (fuel2, r1, wi64 (k1 + 1), a8, c12) SB ⟨_, hI.arr GO SU, h⟩ (Nat.lt_succ_self _)
  refine c_exit ?_
  refine k_in ?_
  exact k_join (out3, a5, c7) SB ⟨_, hI.arr GO SU, h⟩ rfl
 refine c_exit ?_
 refine k_in ?_
 refine k_same ?_
 refine T ?_
 refine c_ret ?_
 obtain ⟨c15, hI⟩ := hI.release .z
 obtain rfl := some_inj h
 refine QG ?_
 exact ⟨a3, c3, rfl, hI.ext0, hI.fin ⟨.z, trivial⟩⟩
end Go.Proofs.YtmhoikfoogemnaaGreatDoor
