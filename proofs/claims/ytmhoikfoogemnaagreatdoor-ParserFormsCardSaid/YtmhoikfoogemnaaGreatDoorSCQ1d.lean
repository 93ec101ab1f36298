import Derived.Test.YtmhoikfoogemnaaGreatDoorSCQ1c
import Derived.Test.YtmhoikfoogemnaaGreatDoorSLfW
namespace Go.Proofs.YtmhoikfoogemnaaGreatDoor
open Go Go.RowKit Go.Vc
set_option maxRecDepth 100000
set_option maxHeartbeats 4000000
set_option linter.unusedVariables false
set_option linter.unusedSimpArgs false
theorem c_parser_reader_index_w (C0 F : NP) (w0 : World) (r1 : Gparser_reader) (b1 : Nat) (a1 : Option Addr) (c1 : Nat) (hI : Bun C0 F w0 C0 w0 [MO.box b1 67 (Aparser_reader r1 a1 c1)] [Cl.sl cGToken a1 c1 r1.l, clSpace]) (r : Pan (GIndex × Gparser_reader))
  (h : m_parser_reader_index_w r1 = some r) :
  Calls Tryz.prog 258 #[vp b1 0] w0 fun e w => (∃ rx : GIndex × Gparser_reader, r = .ret rx ∧ ∃ (a2 : Option Addr) (c2 : Nat) (a3 : Option Addr) (c3 : Nat) (a4 : Option Addr) (c4 : Nat) (C : NP), e = .returned (Value.agg (AIndex rx.1 a2 c2 a3 c3)) ∧ Bun C0 F w0 C w [MO.box b1 67 (Aparser_reader rx.2 a4 c4)] [Cl.sl cGMono a2 c2 rx.1.Lin.L, Cl.sl cGLin a3 c3 rx.1.At, Cl.sl cGToken a4 c4 rx.2.l]) ∨ ∃ (pa pn : Int), r = .pan pa pn ∧ e = .panicked [pe 114 pa pn] ∧ ∃ C : NP, Bun C0 F w0 C w [] [] := by
 refine enterP (l := [vp b1 0]) Tryz.func258 rfl Tryz.ntmps258 rfl ?_
 rw [m_parser_reader_index_w] at h
 refine sr (l_alloc (cs := #[vi 0, vs none 0 0, (str ([] : List UInt8)), vs none 0 0]) hI gn rfl rfl zero_132 rfl ?_)
 clear hI; intro b2 c5 w1 hI
 refine nk (c_seq (c_drawX [] false (.c (0, .q) (.c (1, .s) (.c (2, .q) (.c (3, .q) (.c (4, .q) (.c (5, .q) (.c (6, .q) (.c (7, .q) (.c (8, .q) (.c (9, .q) (.c (10, .q) (.c (11, .q) (.c (12, .q) (.c (13, .q) (.c (14, .q) (.c (15, .q) (.c (16, .q) (.c (17, .q) (.c (18, .q) (.c (19, .q) (.c (20, .q) (.c (21, .q) (.c (22, .q) (.c (23, .q) (.c (24, .q) (.c (25, .q) (.c (26, .q) (.c (27, .q) (.c (28, .q) (.c (29, .q) (.c (30, .q) (.c (31, .q) (.c (32, .q) (.c (33, .q) (.c (34, .q) (.c (35, .q) (.c (36, .q) (.c (37, .q) (.c (38, .q) (.c (39, .q) (.c (40, .q) (.c (41, .q) (.c (42, .q) (.c (43, .q) (.c (44, .q) (.c (45, .q) .n)))))))))))))))))))))))))))))))))))))))))))))) hI (by kernel_rfl) (by kernel_rfl) ?_))
 clear hI; intro w2 hI
 refine V ?_
 obtain ⟨r2, hx1, h⟩ := bnd_some h
 refine la_call rfl gn rfl (r_callF (vs := [vp b1 0]) rfl ok_126 ⟨et, trivial⟩) (Calls.mono (c_parser_reader_isName noM w2 (fun _ k => k.elim) r1 b1 a1 c1 ⟨(hI.get0 .z), hI.lendBox (.s .z), hI.get0 (.s .z), trivial⟩ r2 hx1) ?_)
 rintro _ w3 ⟨rfl, hx2, hl1⟩
 refine ⟨_, rfl, hx2, ?_⟩
 replace hI := (hI.ext hx2)
 refine V ?_
 obtain ⟨e1, hx3, h⟩ := bnd_some h
 replace hx3 := gd_some hx3
 obtain ⟨ad1, cs1, hq1⟩ := hI.gclat .z hx3
 have hq2 : (r2 && (decide (wi64 (r1.at_ + 1) < (r1.l.length : Int)))) = true → CA (Dj F c5) w3 (ad1.add (Int.toNat (wi64 (r1.at_ + 1)) * 3)) (lToken e1) := fun hc => caq (hq1 hc).2.1 (hq1 hc).2.2
 refine vJ ?_
 refine V ?_
 obtain ⟨e2, hx4, h⟩ := bnd_some h
 replace hx4 := gd_some hx4
 obtain ⟨ad2, cs2, hq3⟩ := hI.gclat .z hx4
 have hq4 : ((r2 && (decide (wi64 (r1.at_ + 1) < (r1.l.length : Int)))) && (decide (e1.Kind = 3))) = true → CA (Dj F c5) w3 (ad2.add (Int.toNat (wi64 (r1.at_ + 1)) * 3)) (lToken e2) := fun hc => caq (hq3 hc).2.1 (hq3 hc).2.2
 refine vJ ?_
 refine V ?_
 refine c_seq (T ?_)
 refine cif h et (fun hb h => ?_) (fun hb h => ?_)
 ·refine T ?_
  obtain ⟨c6, f1, hB, hl2, hk1⟩ := hI.hands (.r (.l .n))
  refine s_pb h (fun _ hx5 => c_parser_reader_form_w c6 f1 w3 r1 b1 a1 c1 (hB.subs ⟨.z, (.s .z), trivial⟩) _ hx5) (pnb hk1) (r_callF rfl ok_31 ⟨et, trivial⟩) ?_
  rintro ⟨r3, s1⟩ hx5 h _ w4 ⟨a5, c7, a6, c8, c9, rfl, hB2⟩
  try dsimp only at h
  obtain ⟨c10, hs1, hI⟩ := hk1 _ _ _ _ hB2
  dsimp only [ca, na] at hI
  refine ⟨_, rfl, ?_⟩
  refine sq (y_build (vs := [(0, (Value.agg (ALin r3 a5 c7)))]) (cs := #[vi r3.K, vs a5 r3.L.length c7, (str ([] : List UInt8)), vs none 0 0]) rfl ⟨rfl, et, trivial⟩ (by kernel_rfl)) ?_
  refine l_store (new := [vi r3.K, vs a5 r3.L.length c7, (str ([] : List UInt8)), vs none 0 0]) (cs' := #[vi r3.K, vs a5 r3.L.length c7, (str ([] : List UInt8)), vs none 0 0]) hI (.s .z) gn rfl rfl et et rfl size_132 rfl rfl rfl ?_
  clear hI; intro c11 w5 hI
  refine nk (c_ret ?_)
  have hI := hI.add (c := Cl.sl cGLin none 0 ([] : List GLin)) SlC.nil
  obtain rfl := some_inj h
  refine QG ?_
  exact .inl ⟨_, rfl, a5, c7, none, 0, a6, c8, _, rfl, hI.arr GO SU⟩
 refine T ?_
 obtain ⟨c12, f2, hB, hl3, hk2⟩ := hI.hands (.r (.l .n))
 refine s_pb h (fun _ hx6 => c_parser_reader_name_w c12 f2 w3 r1 b1 a1 c1 (hB.subs ⟨.z, (.s .z), trivial⟩) _ hx6) (pnb hk2) (r_callF rfl ok_128 ⟨et, trivial⟩) ?_
 rintro ⟨r4, s2⟩ hx6 h _ w6 ⟨a7, c13, c14, rfl, hB2⟩
 try dsimp only at h
 obtain ⟨c15, hs2, hI⟩ := hk2 _ _ _ _ hB2
 dsimp only [ca, na] at hI
 refine ⟨_, rfl, ?_⟩
 refine sq (y_build (vs := [(1, (str r4))]) (cs := #[vi 0, vs none 0 0, (str r4), vs none 0 0]) rfl ⟨rfl, et, trivial⟩ (by kernel_rfl)) ?_
 refine l_alloc (cs := #[vi 0, vs none 0 0, (str ([] : List UInt8)), vs none 0 0]) hI gn rfl rfl zero_132 rfl ?_
 clear hI; intro b3 c16 w7 hI
 refine l_store (new := [vi 0, vs none 0 0, (str r4), vs none 0 0]) (cs' := #[vi 0, vs none 0 0, (str r4), vs none 0 0]) hI .z gn rfl rfl et et rfl size_132 rfl rfl rfl ?_
 clear hI; intro c17 w8 hI
 refine T ?_
 obtain ⟨c18, f3, hB, hl4, hk3⟩ := hI.hands (.r (.l (.r .n)))
 refine s_pb h (fun _ hx7 => c_parser_reader_expect_w c18 f3 w8 s2 ([91] : List UInt8) b1 a7 c13 (hB.subs ⟨.z, trivial⟩) _ hx7) (pnb hk3) (r_callF rfl ok_104 ⟨et, ⟨ev_const, trivial⟩⟩) ?_
 rintro ⟨r5, s3⟩ hx7 h _ w9 ⟨a8, c19, c20, rfl, hB2⟩
 try dsimp only at h
 obtain ⟨c21, hs3, hI⟩ := hk3 _ _ _ _ hB2
 dsimp only [ca, na] at hI
 refine ⟨_, rfl, ?_⟩
 refine T ?_
 obtain ⟨c22, f4, hB, hl5, hk4⟩ := hI.hands (.l (.r (.r .n)))
 refine s_pb h (fun _ hx8 => c_parser_reader_forms_w c22 f4 w9 s3 b1 a8 c19 (hB.subs ⟨.z, (.s (.s (.s .z))), trivial⟩) _ hx8) (pnb hk4) (r_callF rfl ok_175 ⟨et, trivial⟩) ?_
 rintro ⟨r6, s4⟩ hx8 h _ w10 ⟨a9, c23, a10, c24, c25, rfl, hB2⟩
 try dsimp only at h
 obtain ⟨c26, hs4, hI⟩ := hk4 _ _ _ _ hB2
 dsimp only [ca, na] at hI
 refine ⟨_, rfl, ?_⟩
 refine T ?_
 refine l_store (new := [vs a9 r6.length c23]) (cs' := #[vi 0, vs none 0 0, (str r4), vs a9 r6.length c23]) hI (.s .z) gn rfl rfl et et rfl size_93 rfl rfl rfl ?_
 clear hI; intro c27 w11 hI
 refine T ?_
 refine l_store (new := [vi 0, vs none 0 0, (str r4), vs a9 r6.length c23]) (cs' := #[vi 0, vs none 0 0, (str r4), vs a9 r6.length c23]) hI (.s (.s .z)) gn rfl rfl et et rfl size_132 rfl rfl rfl ?_
 clear hI; intro c28 w12 hI
 refine nk (c_ret ?_)
 have hI := hI.add (c := Cl.sl cGMono none 0 ([] : List GMono)) SlC.nil
 obtain rfl := some_inj h
 refine QG ?_
 exact .inl ⟨_, rfl, none, 0, a9, c23, a10, c24, _, rfl, hI.arr GO SU⟩
def tr_parser_reader_primary_w_3_1 : Tr := (.c (5, .s) (.c (6, .q) (.c (7, .s) .n)))
def tr_parser_reader_primary_w_3_0 : Tr := (.c (4, .s) tr_parser_reader_primary_w_3_1)
theorem c_parser_reader_primary_w (rec_ : (Gparser_reader → Option (Pan (GExpr × Gparser_reader)))) (hrec : ∀ (C0 F : NP) (w0 : World) (r1 : Gparser_reader) (b1 : Nat) (a1 : Option Addr) (c1 : Nat) (hI : Bun C0 F w0 C0 w0 [MO.box b1 67 (Aparser_reader r1 a1 c1)] [Cl.sl cGToken a1 c1 r1.l, clSpace]) (r : Pan (GExpr × Gparser_reader)) (h : rec_ r1 = some r), Calls Tryz.prog 34 #[vp b1 0] w0 fun e w => (∃ rx : GExpr × Gparser_reader, r = .ret rx ∧ ∃ (a2 : Option Addr) (c2 : Nat) (a3 : Option Addr) (c3 : Nat) (a4 : Option Addr) (c4 : Nat) (a5 : Option Addr) (c5 : Nat) (C : NP), e = .returned (Value.agg (AExpr rx.1 a2 c2 a3 c3 a4 c4)) ∧ Bun C0 F w0 C w [MO.box b1 67 (Aparser_reader rx.2 a5 c5)] [Cl.sl cGMono a2 c2 rx.1.Lin.L, Cl.sl cGIndex a3 c3 rx.1.Idx, Cl.sl cGExpr a4 c4 rx.1.Args, Cl.sl cGToken a5 c5 rx.2.l]) ∨ ∃ (pa pn : Int), r = .pan pa pn ∧ e = .panicked [pe 114 pa pn] ∧ ∃ C : NP, Bun C0 F w0 C w [] []) (C0 F : NP) (w0 : World) (r1 : Gparser_reader) (b1 : Nat) (a1 : Option Addr) (c1 : Nat) (hI : Bun C0 F w0 C0 w0 [MO.box b1 67 (Aparser_reader r1 a1 c1)] [Cl.sl cGToken a1 c1 r1.l, clSpace]) (r : Pan (GExpr × Gparser_reader))
  (h : m_parser_reader_primary_w rec_ r1 = some r) :
  Calls Tryz.prog 248 #[vp b1 0] w0 fun e w => (∃ rx : GExpr × Gparser_reader, r = .ret rx ∧ ∃ (a2 : Option Addr) (c2 : Nat) (a3 : Option Addr) (c3 : Nat) (a4 : Option Addr) (c4 : Nat) (a5 : Option Addr) (c5 : Nat) (C : NP), e = .returned (Value.agg (AExpr rx.1 a2 c2 a3 c3 a4 c4)) ∧ Bun C0 F w0 C w [MO.box b1 67 (Aparser_reader rx.2 a5 c5)] [Cl.sl cGMono a2 c2 rx.1.Lin.L, Cl.sl cGIndex a3 c3 rx.1.Idx, Cl.sl cGExpr a4 c4 rx.1.Args, Cl.sl cGToken a5 c5 rx.2.l]) ∨ ∃ (pa pn : Int), r = .pan pa pn ∧ e = .panicked [pe 114 pa pn] ∧ ∃ C : NP, Bun C0 F w0 C w [] [] := by
 refine enterP (l := [vp b1 0]) Tryz.func248 rfl Tryz.ntmps248 rfl ?_
 rw [m_parser_reader_primary_w] at h
 refine sr (l_alloc (cs := #[vi 0, (str ([] : List UInt8)), vi 0, vi 0, vi 0, vi 0, vi 0, vi 0, vi 0, vi 0, vs none 0 0, vs none 0 0, vs none 0 0]) hI gn rfl rfl zero_39 rfl ?_)
 clear hI; intro b2 c6 w1 hI
 refine nk (c_seq (T ?_))
 obtain ⟨r2, hx1, h⟩ := bnd_some h
 refine s_call gn rfl (r_callF (vs := [vp b1 0, vi 3, (str ([40] : List UInt8))]) rfl ok_121 ⟨et, ⟨ev_const, ⟨ev_const, trivial⟩⟩⟩) (Calls.mono (c_parser_reader_is noM w1 (fun _ k => k.elim) r1 3 ([40] : List UInt8) b1 a1 c1 ⟨(hI.get0 .z), hI.lendBox (.s .z), trivial⟩ r2 hx1) ?_)
 rintro _ w2 ⟨rfl, hx2, hl1⟩
 refine ⟨_, rfl, ?_⟩
 replace hI := (hI.ext hx2)
 refine T ?_
 refine cif h et (fun hb h => ?_) (fun hb h => ?_)
 ·refine T ?_
  obtain ⟨c7, f1, hB, hl2, hk1⟩ := hI.hands (.r (.l .n))
  refine s_pb h (fun _ hx3 => c_parser_reader_open_w c7 f1 w2 r1 b1 a1 c1 (hB.subs ⟨.z, trivial⟩) _ hx3) (pnb hk1) (r_callF rfl ok_253 ⟨et, trivial⟩) ?_
  rintro ⟨r3, s1⟩ hx3 h _ w3 ⟨a6, c8, c9, rfl, hB2⟩
  try dsimp only at h
  obtain ⟨c10, hs1, hI⟩ := hk1 _ _ _ _ hB2
  dsimp only [ca, na] at hI
  refine ⟨_, rfl, ?_⟩
  refine T ?_
  obtain ⟨c11, f2, hB, hl3, hk2⟩ := hI.hands (.l (.r .n))
  refine s_pb h (fun _ hx4 => hrec c11 f2 w3 s1 b1 a6 c8 (hB.subs ⟨.z, (.s (.s .z)), trivial⟩) _ hx4) (pnb hk2) (r_callF rfl ok_34 ⟨et, trivial⟩) ?_
  rintro ⟨r4, s2⟩ hx4 h _ w4 ⟨a7, c12, a8, c13, a9, c14, a10, c15, c16, rfl, hB2⟩
  try dsimp only at h
  obtain ⟨c17, hs2, hI⟩ := hk2 _ _ _ _ hB2
  dsimp only [ca, na] at hI
  refine ⟨_, rfl, ?_⟩
  refine l_alloc (cs := #[vi 0, (str ([] : List UInt8)), vi 0, vi 0, vi 0, vi 0, vi 0, vi 0, vi 0, vi 0, vs none 0 0, vs none 0 0, vs none 0 0]) hI gn rfl rfl zero_39 rfl ?_
  clear hI; intro b3 c18 w5 hI
  refine l_store (new := (lExpr r4 a7 c12 a8 c13 a9 c14)) (cs' := (AExpr r4 a7 c12 a8 c13 a9 c14)) hI .z gn rfl rfl et et rfl size_39 rfl rfl rfl ?_
  clear hI; intro c19 w6 hI
  refine T ?_
  obtain ⟨c20, f3, hB, hl4, hk3⟩ := hI.hands (.r (.l (.r .n)))
  refine s_pb h (fun _ hx5 => c_parser_reader_close_w c20 f3 w6 s2 b1 a10 c15 (hB.subs ⟨(.s (.s (.s .z))), trivial⟩) _ hx5) (pnb hk3) (r_callF rfl ok_254 ⟨et, trivial⟩) ?_
  rintro ⟨r5, s3⟩ hx5 h _ w7 ⟨a11, c21, c22, rfl, hB2⟩
  try dsimp only at h
  obtain ⟨c23, hs3, hI⟩ := hk3 _ _ _ _ hB2
  dsimp only [ca, na] at hI
  refine ⟨_, rfl, ?_⟩
  refine T ?_
  refine l_store (new := (lExpr r4 a7 c12 a8 c13 a9 c14)) (cs' := (AExpr r4 a7 c12 a8 c13 a9 c14)) hI (.s (.s .z)) gn rfl rfl et et rfl size_39 rfl rfl rfl ?_
  clear hI; intro c24 w8 hI
  refine nk (c_ret ?_)
  obtain rfl := some_inj h
  refine QG ?_
  exact .inl ⟨_, rfl, a7, c12, a8, c13, a9, c14, a11, c21, _, rfl, hI.arr GO SU⟩
 refine T ?_
 obtain ⟨c25, f4, hB, hl5, hk4⟩ := hI.hands (.r (.l .n))
 obtain ⟨⟨r6, s4⟩, hx6, h⟩ := bnd_some h
 try dsimp only at h
 refine s_call gn rfl (r_callF (vs := [vp b1 0, (str ([91] : List UInt8))]) rfl ok_68 ⟨et, ⟨ev_const, trivial⟩⟩) (Calls.mono (c_parser_reader_accept_w c25 f4 w2 r1 ([91] : List UInt8) b1 a1 c1 (hB.subs ⟨.z, trivial⟩) _ hx6) ?_)
 rintro _ w9 ⟨a12, c26, c27, rfl, hB2⟩
 obtain ⟨c28, hs4, hI⟩ := hk4 _ _ _ _ hB2
 dsimp only [ca, na] at hI
 refine ⟨_, rfl, ?_⟩
 refine T ?_
 refine cif h et (fun hb h => ?_) (fun hb h => ?_)
 ·refine T ?_
  obtain ⟨c29, f5, hB, hl6, hk5⟩ := hI.hands (.l (.r .n))
  refine s_pb h (fun _ hx7 => c_parser_reader_form_w c29 f5 w9 s4 b1 a12 c26 (hB.subs ⟨.z, (.s (.s .z)), trivial⟩) _ hx7) (pnb hk5) (r_callF rfl ok_31 ⟨et, trivial⟩) ?_
  rintro ⟨r7, s5⟩ hx7 h _ w10 ⟨a13, c30, a14, c31, c32, rfl, hB2⟩
  try dsimp only at h
  obtain ⟨c33, hs5, hI⟩ := hk5 _ _ _ _ hB2
  dsimp only [ca, na] at hI
  refine ⟨_, rfl, ?_⟩
  refine l_alloc (cs := #[vi 0, vs none 0 0]) hI gn rfl rfl zero_27 rfl ?_
  clear hI; intro b4 c34 w11 hI
  refine l_store (new := (lLin r7 a13 c30)) (cs' := (ALin r7 a13 c30)) hI .z gn rfl rfl et et rfl size_27 rfl rfl rfl ?_
  clear hI; intro c35 w12 hI
  refine T ?_
  obtain ⟨c36, f6, hB, hl7, hk6⟩ := hI.hands (.r (.l (.r .n)))
  refine s_pb h (fun _ hx8 => c_parser_reader_expect_w c36 f6 w12 s5 ([93] : List UInt8) b1 a14 c31 (hB.subs ⟨(.s .z), trivial⟩) _ hx8) (pnb hk6) (r_callF rfl ok_104 ⟨et, ⟨ev_const, trivial⟩⟩) ?_
  rintro ⟨r8, s6⟩ hx8 h _ w13 ⟨a15, c37, c38, rfl, hB2⟩
  try dsimp only at h
  obtain ⟨c39, hs6, hI⟩ := hk6 _ _ _ _ hB2
  dsimp only [ca, na] at hI
  refine ⟨_, rfl, ?_⟩
  refine T ?_
  refine sq (y_build (vs := [(0, vi 2), (4, (Value.agg (ALin r7 a13 c30)))]) (cs := #[vi 2, (str ([] : List UInt8)), vi 0, vi 0, vi 0, vi 0, vi 0, vi 0, vi 0, vi r7.K, vs a13 r7.L.length c30, vs none 0 0, vs none 0 0]) rfl ⟨rfl, ev_const, ⟨rfl, et, trivial⟩⟩ (by kernel_rfl)) ?_
  refine l_store (new := [vi 2, (str ([] : List UInt8)), vi 0, vi 0, vi 0, vi 0, vi 0, vi 0, vi 0, vi r7.K, vs a13 r7.L.length c30, vs none 0 0, vs none 0 0]) (cs' := #[vi 2, (str ([] : List UInt8)), vi 0, vi 0, vi 0, vi 0, vi 0, vi 0, vi 0, vi r7.K, vs a13 r7.L.length c30, vs none 0 0, vs none 0 0]) hI (.s (.s .z)) gn rfl rfl et et rfl size_39 rfl rfl rfl ?_
  clear hI; intro c40 w14 hI
  refine nk (c_ret ?_)
  have hI := hI.add (c := Cl.sl cGIndex none 0 ([] : List GIndex)) SlC.nil
  have hI := hI.add (c := Cl.sl cGExpr none 0 ([] : List GExpr)) SlC.nil
  obtain rfl := some_inj h
  refine QG ?_
  exact .inl ⟨_, rfl, a13, c30, none, 0, none, 0, a15, c37, _, rfl, hI.arr GO SU⟩
 refine c_seq (T ?_)
 obtain ⟨r9, hx9, h⟩ := bnd_some h
 refine s_call gn rfl (r_callF (vs := [vp b1 0, vi 1, (str ([102, 114, 97, 99] : List UInt8))]) rfl ok_121 ⟨et, ⟨ev_const, ⟨ev_const, trivial⟩⟩⟩) (Calls.mono (c_parser_reader_is noM w9 (fun _ k => k.elim) s4 1 ([102, 114, 97, 99] : List UInt8) b1 a12 c26 ⟨(hI.get0 .z), hI.lendBox .z, trivial⟩ r9 hx9) ?_)
 rintro _ w15 ⟨rfl, hx10, hl8⟩
 refine ⟨_, rfl, ?_⟩
 replace hI := (hI.ext hx10)
 refine T ?_
 refine cif h et (fun hb h => ?_) (fun hb h => ?_)
 ·have hk7 := hb
  refine T ?_
  refine c_cond (b := r9) et (fun _ => ?_) (fun hb => absurd (hb.symm.trans hk7) (by simp))
  refine T ?_
  obtain ⟨c41, f7, hB, hl9, hk8⟩ := hI.hands (.l (.r .n))
  refine s_pb h (fun _ hx11 => c_parser_reader_constant_w c41 f7 w15 s4 b1 a12 c26 (hB.subs ⟨.z, trivial⟩) _ hx11) (pnb hk8) (r_callF rfl ok_255 ⟨et, trivial⟩) ?_
  rintro ⟨r10, s7⟩ hx11 h _ w16 ⟨a16, c42, a17, c43, a18, c44, a19, c45, c46, rfl, hB2⟩
  try dsimp only at h
  obtain ⟨c47, hs7, hI⟩ := hk8 _ _ _ _ hB2
  dsimp only [ca, na] at hI
  refine ⟨_, rfl, ?_⟩
  refine l_store (new := (lExpr r10 a16 c42 a17 c43 a18 c44)) (cs' := (AExpr r10 a16 c42 a17 c43 a18 c44)) hI (.s .z) gn rfl rfl et et rfl size_39 rfl rfl rfl ?_
  clear hI; intro c48 w17 hI
  refine nk (c_ret ?_)
  obtain rfl := some_inj h
  refine QG ?_
  exact .inl ⟨_, rfl, a16, c42, a17, c43, a18, c44, a19, c45, _, rfl, hI.arr GO SU⟩
 refine T ?_
 obtain ⟨r11, hx12, h⟩ := bnd_some h
 refine s_call gn rfl (r_callF (vs := [vp b1 0, vi 1, (str ([105, 110, 116] : List UInt8))]) rfl ok_121 ⟨et, ⟨ev_const, ⟨ev_const, trivial⟩⟩⟩) (Calls.mono (c_parser_reader_is noM w15 (fun _ k => k.elim) s4 1 ([105, 110, 116] : List UInt8) b1 a12 c26 ⟨(hI.get0 .z), hI.lendBox .z, trivial⟩ r11 hx12) ?_)
 rintro _ w18 ⟨rfl, hx13, hl10⟩
 refine ⟨_, rfl, ?_⟩
 replace hI := (hI.ext hx13)
 refine T ?_
 refine cif h et (fun hb h => ?_) (fun hb h => ?_)
 ·have hk9 := hb
  refine T ?_
  refine c_cond (b := r11) et (fun _ => ?_) (fun hb => absurd (hb.symm.trans hk9) (by simp))
  refine T ?_
  obtain ⟨c49, f8, hB, hl11, hk10⟩ := hI.hands (.l (.r .n))
  refine s_pb h (fun _ hx14 => c_parser_reader_constant_w c49 f8 w18 s4 b1 a12 c26 (hB.subs ⟨.z, trivial⟩) _ hx14) (pnb hk10) (r_callF rfl ok_255 ⟨et, trivial⟩) ?_
  rintro ⟨r12, s8⟩ hx14 h _ w19 ⟨a20, c50, a21, c51, a22, c52, a23, c53, c54, rfl, hB2⟩
  try dsimp only at h
  obtain ⟨c55, hs8, hI⟩ := hk10 _ _ _ _ hB2
  dsimp only [ca, na] at hI
  refine ⟨_, rfl, ?_⟩
  refine l_store (new := (lExpr r12 a20 c50 a21 c51 a22 c52)) (cs' := (AExpr r12 a20 c50 a21 c51 a22 c52)) hI (.s .z) gn rfl rfl et et rfl size_39 rfl rfl rfl ?_
  clear hI; intro c56 w20 hI
  refine nk (c_ret ?_)
  obtain rfl := some_inj h
  refine QG ?_
  exact .inl ⟨_, rfl, a20, c50, a21, c51, a22, c52, a23, c53, _, rfl, hI.arr GO SU⟩
 refine T ?_
 obtain ⟨r13, hx15, h⟩ := bnd_some h
 refine s_call gn rfl (r_callF (vs := [vp b1 0, vi 1, (str ([102, 105, 120] : List UInt8))]) rfl ok_121 ⟨et, ⟨ev_const, ⟨ev_const, trivial⟩⟩⟩) (Calls.mono (c_parser_reader_is noM w18 (fun _ k => k.elim) s4 1 ([102, 105, 120] : List UInt8) b1 a12 c26 ⟨(hI.get0 .z), hI.lendBox .z, trivial⟩ r13 hx15) ?_)
 rintro _ w21 ⟨rfl, hx16, hl12⟩
 refine ⟨_, rfl, ?_⟩
 replace hI := (hI.ext hx16)
 refine T ?_
 refine cif h et (fun hb h => ?_) (fun hb h => ?_)
 ·refine T ?_
  obtain ⟨c57, f9, hB, hl13, hk11⟩ := hI.hands (.l (.r .n))
  refine s_pb h (fun _ hx17 => c_parser_reader_constant_w c57 f9 w21 s4 b1 a12 c26 (hB.subs ⟨.z, trivial⟩) _ hx17) (pnb hk11) (r_callF rfl ok_255 ⟨et, trivial⟩) ?_
  rintro ⟨r14, s9⟩ hx17 h _ w22 ⟨a24, c58, a25, c59, a26, c60, a27, c61, c62, rfl, hB2⟩
  try dsimp only at h
  obtain ⟨c63, hs9, hI⟩ := hk11 _ _ _ _ hB2
  dsimp only [ca, na] at hI
  refine ⟨_, rfl, ?_⟩
  refine l_store (new := (lExpr r14 a24 c58 a25 c59 a26 c60)) (cs' := (AExpr r14 a24 c58 a25 c59 a26 c60)) hI (.s .z) gn rfl rfl et et rfl size_39 rfl rfl rfl ?_
  clear hI; intro c64 w23 hI
  refine nk (c_ret ?_)
  obtain rfl := some_inj h
  refine QG ?_
  exact .inl ⟨_, rfl, a24, c58, a25, c59, a26, c60, a27, c61, _, rfl, hI.arr GO SU⟩
 refine T ?_
 refine c_seq (T ?_)
 refine l_lit (c := cStr) (xs := ([([109, 105, 110] : List UInt8), ([109, 97, 120] : List UInt8), ([105, 102] : List UInt8), ([99, 97, 115, 116] : List UInt8)] : List (List UInt8))) (vs := [(0, (str ([109, 105, 110] : List UInt8))), (1, (str ([109, 97, 120] : List UInt8))), (2, (str ([105, 102] : List UInt8))), (3, (str ([99, 97, 115, 116] : List UInt8)))]) (cs := #[(str ([109, 105, 110] : List UInt8)), (str ([109, 97, 120] : List UInt8)), (str ([105, 102] : List UInt8)), (str ([99, 97, 115, 116] : List UInt8))]) (css := [[(str ([109, 105, 110] : List UInt8))], [(str ([109, 97, 120] : List UInt8))], [(str ([105, 102] : List UInt8))], [(str ([99, 97, 115, 116] : List UInt8))]]) hI gn rfl rfl u50 info_9 rfl ⟨rfl, ev_const, ⟨rfl, ev_const, ⟨rfl, ev_const, ⟨rfl, ev_const, trivial⟩⟩⟩⟩ (by kernel_rfl) ⟨rfl, ⟨rfl, ⟨rfl, ⟨rfl, trivial⟩⟩⟩⟩ rfl rfl rfl ?_
 clear hI; intro b5 c65 w24 hI
 obtain ⟨c66, hI⟩ := hI.release .z
 obtain ⟨c67, f10, hB, hl14, hk12⟩ := hI.hands (.l (.r .n))
 obtain ⟨⟨r15, s10⟩, hx18, h⟩ := bnd_some h
 try dsimp only at h
 refine s_call gn rfl (r_callF (vs := [vp b1 0, (vs (some ⟨b5, 0, none⟩) ([([109, 105, 110] : List UInt8), ([109, 97, 120] : List UInt8), ([105, 102] : List UInt8), ([99, 97, 115, 116] : List UInt8)] : List (List UInt8)).length 4)]) rfl ok_98 ⟨et, ⟨et, trivial⟩⟩) (Calls.mono (c_parser_reader_word_w c67 f10 w24 s4 ([([109, 105, 110] : List UInt8), ([109, 97, 120] : List UInt8), ([105, 102] : List UInt8), ([99, 97, 115, 116] : List UInt8)] : List (List UInt8)) b1 a12 c26 (some ⟨b5, 0, none⟩) 4 (hB.subs ⟨(.s .z), .z, trivial⟩) _ hx18) ?_)
 rintro _ w25 ⟨a28, c68, c69, rfl, hB2⟩
 obtain ⟨c70, hs10, hI⟩ := hk12 _ _ _ _ hB2
 dsimp only [ca, na] at hI
 refine ⟨_, rfl, ?_⟩
 refine T ?_
 refine cif h et (fun hb h => ?_) (fun hb h => ?_)
 ·refine T ?_
  obtain ⟨c71, f11, hB, hl15, hk13⟩ := hI.hands (.l (.r .n))
  refine s_pb h (fun _ hx19 => c_parser_reader_call_w rec_ hrec c71 f11 w25 s10 9 2 b1 a28 c68 (hB.subs ⟨.z, (.s (.s (.s (.s .z)))), trivial⟩) _ hx19) (pnb hk13) (r_callF rfl ok_256 ⟨et, ⟨ev_const, ⟨ev_const, trivial⟩⟩⟩) ?_
  rintro ⟨r16, s11⟩ hx19 h _ w26 ⟨a29, c72, a30, c73, a31, c74, a32, c75, c76, rfl, hB2⟩
  try dsimp only at h
  obtain ⟨c77, hs11, hI⟩ := hk13 _ _ _ _ hB2
  dsimp only [ca, na] at hI
  refine ⟨_, rfl, ?_⟩
  refine l_store (new := (lExpr r16 a29 c72 a30 c73 a31 c74)) (cs' := (AExpr r16 a29 c72 a30 c73 a31 c74)) hI (.s .z) gn rfl rfl et et rfl size_39 rfl rfl rfl ?_
  clear hI; intro c78 w27 hI
  refine nk (c_ret ?_)
  obtain rfl := some_inj h
  refine QG ?_
  exact .inl ⟨_, rfl, a29, c72, a30, c73, a31, c74, a32, c75, _, rfl, hI.arr GO SU⟩
 refine T ?_
 refine cif h et (fun hb h => ?_) (fun hb h => ?_)
 ·refine T ?_
  obtain ⟨c79, f12, hB, hl16, hk14⟩ := hI.hands (.l (.r .n))
  refine s_pb h (fun _ hx20 => c_parser_reader_call_w rec_ hrec c79 f12 w25 s10 10 2 b1 a28 c68 (hB.subs ⟨.z, (.s (.s (.s (.s .z)))), trivial⟩) _ hx20) (pnb hk14) (r_callF rfl ok_256 ⟨et, ⟨ev_const, ⟨ev_const, trivial⟩⟩⟩) ?_
  rintro ⟨r17, s12⟩ hx20 h _ w28 ⟨a33, c80, a34, c81, a35, c82, a36, c83, c84, rfl, hB2⟩
  try dsimp only at h
  obtain ⟨c85, hs12, hI⟩ := hk14 _ _ _ _ hB2
  dsimp only [ca, na] at hI
  refine ⟨_, rfl, ?_⟩
  refine l_store (new := (lExpr r17 a33 c80 a34 c81 a35 c82)) (cs' := (AExpr r17 a33 c80 a34 c81 a35 c82)) hI (.s .z) gn rfl rfl et et rfl size_39 rfl rfl rfl ?_
  clear hI; intro c86 w29 hI
  refine nk (c_ret ?_)
  obtain rfl := some_inj h
  refine QG ?_
  exact .inl ⟨_, rfl, a33, c80, a34, c81, a35, c82, a36, c83, _, rfl, hI.arr GO SU⟩
 refine T ?_
 refine cif h et (fun hb h => ?_) (fun hb h => ?_)
 ·refine T ?_
  obtain ⟨c87, f13, hB, hl17, hk15⟩ := hI.hands (.l (.r .n))
  refine s_pb h (fun _ hx21 => c_parser_reader_call_w rec_ hrec c87 f13 w25 s10 11 3 b1 a28 c68 (hB.subs ⟨.z, (.s (.s (.s (.s .z)))), trivial⟩) _ hx21) (pnb hk15) (r_callF rfl ok_256 ⟨et, ⟨ev_const, ⟨ev_const, trivial⟩⟩⟩) ?_
  rintro ⟨r18, s13⟩ hx21 h _ w30 ⟨a37, c88, a38, c89, a39, c90, a40, c91, c92, rfl, hB2⟩
  try dsimp only at h
  obtain ⟨c93, hs13, hI⟩ := hk15 _ _ _ _ hB2
  dsimp only [ca, na] at hI
  refine ⟨_, rfl, ?_⟩
  refine l_store (new := (lExpr r18 a37 c88 a38 c89 a39 c90)) (cs' := (AExpr r18 a37 c88 a38 c89 a39 c90)) hI (.s .z) gn rfl rfl et et rfl size_39 rfl rfl rfl ?_
  clear hI; intro c94 w31 hI
  refine T ?_
  refine c_ret ?_
  obtain rfl := some_inj h
  refine QG ?_
  exact .inl ⟨_, rfl, a37, c88, a38, c89, a39, c90, a40, c91, _, rfl, hI.arr GO SU⟩
 refine T ?_
 refine cif h et (fun hb h => ?_) (fun hb h => ?_)
 ·refine T ?_
  obtain ⟨c95, f14, hB, hl18, hk16⟩ := hI.hands (.l (.r .n))
  refine s_pb h (fun _ hx22 => c_parser_reader_cast_w rec_ hrec c95 f14 w25 s10 b1 a28 c68 (hB.subs ⟨.z, (.s (.s (.s (.s .z)))), trivial⟩) _ hx22) (pnb hk16) (r_callF rfl ok_257 ⟨et, trivial⟩) ?_
  rintro ⟨r19, s14⟩ hx22 h _ w32 ⟨a41, c96, a42, c97, a43, c98, a44, c99, c100, rfl, hB2⟩
  try dsimp only at h
  obtain ⟨c101, hs14, hI⟩ := hk16 _ _ _ _ hB2
  dsimp only [ca, na] at hI
  refine ⟨_, rfl, ?_⟩
  refine l_store (new := (lExpr r19 a41 c96 a42 c97 a43 c98)) (cs' := (AExpr r19 a41 c96 a42 c97 a43 c98)) hI (.s .z) gn rfl rfl et et rfl size_39 rfl rfl rfl ?_
  clear hI; intro c102 w33 hI
  refine T ?_
  refine c_ret ?_
  obtain rfl := some_inj h
  refine QG ?_
  exact .inl ⟨_, rfl, a41, c96, a42, c97, a43, c98, a44, c99, _, rfl, hI.arr GO SU⟩
 refine T ?_
 obtain ⟨c103, f15, hB, hl19, hk17⟩ := hI.hands (.l (.r .n))
 refine s_pb h (fun _ hx23 => c_parser_reader_name_w c103 f15 w25 s10 b1 a28 c68 (hB.subs ⟨.z, (.s (.s (.s (.s .z)))), trivial⟩) _ hx23) (pnb hk17) (r_callF rfl ok_128 ⟨et, trivial⟩) ?_
 rintro ⟨r20, s15⟩ hx23 h _ w34 ⟨a45, c104, c105, rfl, hB2⟩
 try dsimp only at h
 obtain ⟨c106, hs15, hI⟩ := hk17 _ _ _ _ hB2
 dsimp only [ca, na] at hI
 refine ⟨_, rfl, ?_⟩
 refine sq (y_build (vs := [(0, vi 3), (1, (str r20))]) (cs := #[vi 3, (str r20), vi 0, vi 0, vi 0, vi 0, vi 0, vi 0, vi 0, vi 0, vs none 0 0, vs none 0 0, vs none 0 0]) rfl ⟨rfl, ev_const, ⟨rfl, et, trivial⟩⟩ (by kernel_rfl)) ?_
 refine l_alloc (cs := #[vi 0, (str ([] : List UInt8)), vi 0, vi 0, vi 0, vi 0, vi 0, vi 0, vi 0, vi 0, vs none 0 0, vs none 0 0, vs none 0 0]) hI gn rfl rfl zero_39 rfl ?_
 clear hI; intro b6 c107 w35 hI
 refine l_store (new := [vi 3, (str r20), vi 0, vi 0, vi 0, vi 0, vi 0, vi 0, vi 0, vi 0, vs none 0 0, vs none 0 0, vs none 0 0]) (cs' := #[vi 3, (str r20), vi 0, vi 0, vi 0, vi 0, vi 0, vi 0, vi 0, vi 0, vs none 0 0, vs none 0 0, vs none 0 0]) hI .z gn rfl rfl et et rfl size_39 rfl rfl rfl ?_
 clear hI; intro c108 w36 hI
 refine T ?_
 obtain ⟨c109, f16, hB, hl20, hk18⟩ := hI.hands (.r (.l (.r .n)))
 refine s_pb h (fun _ hx24 => c_parser_reader_expect_w c109 f16 w36 s15 ([91] : List UInt8) b1 a45 c104 (hB.subs ⟨.z, trivial⟩) _ hx24) (pnb hk18) (r_callF rfl ok_104 ⟨et, ⟨ev_const, trivial⟩⟩) ?_
 rintro ⟨r21, s16⟩ hx24 h _ w37 ⟨a46, c110, c111, rfl, hB2⟩
 try dsimp only at h
 obtain ⟨c112, hs16, hI⟩ := hk18 _ _ _ _ hB2
 dsimp only [ca, na] at hI
 refine ⟨_, rfl, ?_⟩
 refine nk (c_seq (T ?_))
 obtain ⟨c113, f17, hB, hl21, hk19⟩ := hI.hands (.l (.r (.r .n)))
 obtain ⟨⟨r22, s17⟩, hx25, h⟩ := bnd_some h
 try dsimp only at h
 refine s_call gn rfl (r_callF (vs := [vp b1 0, (str ([93] : List UInt8))]) rfl ok_68 ⟨et, ⟨ev_const, trivial⟩⟩) (Calls.mono (c_parser_reader_accept_w c113 f17 w37 s16 ([93] : List UInt8) b1 a46 c110 (hB.subs ⟨.z, trivial⟩) _ hx25) ?_)
 rintro _ w38 ⟨a47, c114, c115, rfl, hB2⟩
 obtain ⟨c116, hs17, hI⟩ := hk19 _ _ _ _ hB2
 dsimp only [ca, na] at hI
 refine ⟨_, rfl, ?_⟩
 refine nk (cif h et (fun hb h => ?_) (fun hb h => ?_))
 ·refine T ?_
  refine l_store (new := [vi 3, (str r20), vi 0, vi 0, vi 0, vi 0, vi 0, vi 0, vi 0, vi 0, vs none 0 0, vs none 0 0, vs none 0 0]) (cs' := #[vi 3, (str r20), vi 0, vi 0, vi 0, vi 0, vi 0, vi 0, vi 0, vi 0, vs none 0 0, vs none 0 0, vs none 0 0]) hI (.s (.s .z)) gn rfl rfl et et rfl size_39 rfl rfl rfl ?_
  clear hI; intro c117 w39 hI
  refine nk (c_ret ?_)
  have hI := hI.add (c := Cl.sl cGMono none 0 ([] : List GMono)) SlC.nil
  have hI := hI.add (c := Cl.sl cGIndex none 0 ([] : List GIndex)) SlC.nil
  have hI := hI.add (c := Cl.sl cGExpr none 0 ([] : List GExpr)) SlC.nil
  obtain rfl := some_inj h
  refine QG ?_
  exact .inl ⟨_, rfl, none, 0, none, 0, none, 0, a47, c114, _, rfl, hI.arr GO SU⟩
 refine T ?_
 obtain ⟨c118, f18, hB, hl22, hk20⟩ := hI.hands (.l (.r (.r .n)))
 refine s_pb h (fun _ hx26 => c_parser_reader_index_w c118 f18 w38 s17 b1 a47 c114 (hB.subs ⟨.z, (.s (.s (.s (.s (.s (.s (.s .z))))))), trivial⟩) _ hx26) (pnb hk20) (r_callF rfl ok_258 ⟨et, trivial⟩) ?_
 rintro ⟨r23, s18⟩ hx26 h _ w40 ⟨a48, c119, a49, c120, a50, c121, c122, rfl, hB2⟩
 try dsimp only at h
 obtain ⟨c123, hs18, hI⟩ := hk20 _ _ _ _ hB2
 dsimp only [ca, na] at hI
 refine ⟨_, rfl, ?_⟩
 refine l_lit (c := cGIndex) (xs := ([r23] : List GIndex)) (vs := [(0, (Value.agg (AIndex r23 a48 c119 a49 c120)))]) (cs := (AIndex r23 a48 c119 a49 c120)) (css := [(lIndex r23 a48 c119 a49 c120)]) hI gn rfl rfl u36 info_132 rfl ⟨rfl, et, trivial⟩ (by kernel_rfl) ⟨⟨a48, c119, a49, c120, rfl, hI.get .z, hI.get (.s .z)⟩, trivial⟩ rfl rfl rfl ?_
 clear hI; intro b7 c124 w41 hI
 refine T ?_
 refine l_store (new := [vs (some ⟨b7, 0, none⟩) ([r23] : List GIndex).length 1]) (cs' := #[vi 3, (str r20), vi 0, vi 0, vi 0, vi 0, vi 0, vi 0, vi 0, vi 0, vs none 0 0, vs (some ⟨b7, 0, none⟩) ([r23] : List GIndex).length 1, vs none 0 0]) hI (.s (.s .z)) gn rfl rfl et et rfl size_36 rfl rfl rfl ?_
 clear hI; intro c125 w42 hI
 refine nk (c_seq (T ?_))
 have hI := hI.nil cGMono 64 none
 have hI := hI.nil cGExpr 39 none
 refine c_loop (α := Nat × Gparser_reader × GExpr × (Option Addr) × Nat × (Option Addr) × Nat × (Option Addr) × Nat × (Option Addr) × Nat) (fun x => fun w => ∃ C, Bun C0 F w0 C w [MO.row cGMono 64 (x.2.2.2.2.2.1) (x.2.2.2.2.2.2.1) (x.2.2.1).Lin.L, MO.row cGIndex 132 (x.2.2.2.2.2.2.2.1) (x.2.2.2.2.2.2.2.2.1) (x.2.2.1).Idx, MO.row cGExpr 39 (x.2.2.2.2.2.2.2.2.2.1) (x.2.2.2.2.2.2.2.2.2.2) (x.2.2.1).Args, MO.box b1 67 (Aparser_reader (x.2.1) (x.2.2.2.1) (x.2.2.2.2.1)), MO.box b2 39 #[vi 0, (str ([] : List UInt8)), vi 0, vi 0, vi 0, vi 0, vi 0, vi 0, vi 0, vi 0, vs none 0 0, vs none 0 0, vs none 0 0], MO.box b6 39 (AExpr (x.2.2.1) (x.2.2.2.2.2.1) (x.2.2.2.2.2.2.1) (x.2.2.2.2.2.2.2.1) (x.2.2.2.2.2.2.2.2.1) (x.2.2.2.2.2.2.2.2.2.1) (x.2.2.2.2.2.2.2.2.2.2))] [Cl.sl cGToken (x.2.2.2.1) (x.2.2.2.2.1) (x.2.1).l, clSpace] ∧ m_parser_reader_primary_w_l1 (x.1) (x.2.1) (x.2.2.1) = some r) (fun x _ => x.1) (fun x => [(0, vp b1 0), (2, vp b2 0), (5, vp b6 0)]) (fu, s18, (⟨3, r20, (⟨0, 0⟩ : GVal), (⟨0, 0, 0, 0, 0⟩ : GType), (⟨0, ([] : List GMono)⟩ : GLin), ([r23] : List GIndex), ([] : List GExpr)⟩ : GExpr), a50, c121, none, 0, some ⟨b7, 0, none⟩, 1, none, 0) ⟨_, hI.arr (.c (.s .z) (.c (.s .z) (.c .z (.c .z (.c (.s .z) (.c .z .n)))))) ⟨(.s (.s .z)), (.s (.s (.s (.s (.s (.s (.s (.s (.s (.s .z)))))))))), trivial⟩, h⟩ SB ?_
 clear h hI; rintro ⟨fuel1, r24, e1, a51, c126, a52, c127, a53, c128, a54, c129⟩ w43 ⟨c130, hI, h⟩
 dsimp only at hI h
 rcases fuel1 with _ | fuel1
 ·rw [m_parser_reader_primary_w_l1] at h; cases h
 rw [m_parser_reader_primary_w_l1] at h
 refine c_sub (e := [(0, vp b1 0), (2, vp b2 0), (5, vp b6 0)]) SB ?_
 refine c_seq (T ?_)
 obtain ⟨c131, f19, hB, hl23, hk21⟩ := hI.hands (.r (.r (.r (.l (.r (.r .n))))))
 obtain ⟨⟨r25, s19⟩, hx27, h⟩ := bnd_some h
 try dsimp only at h
 refine s_call gn rfl (r_callF (vs := [vp b1 0, (str ([44] : List UInt8))]) rfl ok_68 ⟨et, ⟨ev_const, trivial⟩⟩) (Calls.mono (c_parser_reader_accept_w c131 f19 w43 r24 ([44] : List UInt8) b1 a51 c126 (hB.subs ⟨.z, trivial⟩) _ hx27) ?_)
 rintro _ w44 ⟨a55, c132, c133, rfl, hB2⟩
 obtain ⟨c134, hs19, hI⟩ := hk21 _ _ _ _ hB2
 dsimp only [ca, na] at hI
 refine ⟨_, rfl, ?_⟩
 refine nk (cif h et (fun hb h => ?_) (fun hb h => ?_))
 ·have hk22 := hb
  refine T ?_
  rcases pb_some h with ⟨⟨r26, s20⟩, hx28, h⟩ | ⟨pa_, pn_, hx28, hp_⟩
  rotate_left
  ·subst hp_
   refine c_drawX [3, 5, 7] false (.c (0, .q) (.c (2, .q) (.two 1 (.c (3, .s) tr_parser_reader_primary_w_3_0) 3 (.two 1 tr_parser_reader_primary_w_3_0 4 (.c (1, .s) tr_parser_reader_primary_w_3_1))))) hI (by kernel_rfl) (by kernel_rfl) ?_
   clear hI; intro w51 hI
   refine V ?_
   refine a_two ?_ ?_
   ·skip
    refine a_val rfl gn rfl (y_load1 (v := (vs a53 e1.Idx.length c128)) rfl et u36 rfl (CellsAt.of_blk (hI.blk (.s (.s (.s (.s (.s .z)))))) rfl)) SX.self ?_
    refine a_turn (F := F) (C := c134) rfl rfl ?_
    obtain ⟨c135, f20, hB, hl24, hk23⟩ := hI.hands (.l (.r (.r (.r (.r (.r .n))))))
    refine la_callP rfl gn rfl (r_callF (vs := [vp b1 0]) rfl ok_258 ⟨et, trivial⟩) (Calls.mono (c_parser_reader_index_w c135 f20 w51 s19 b1 a55 c132 (hB.subs ⟨.z, (.s (.s .z)), trivial⟩) _ hx28) ?_)
    intro e_ w_ hq_; obtain ⟨rfl, C_, hB_⟩ := pan_of hq_; obtain ⟨C9_, -, hI_⟩ := hk23 _ _ _ _ hB_; exact .inr ⟨_, rfl, kp_of (.inr ⟨_, _, rfl, rfl, ⟨_, hI_.arr .n trivial⟩⟩)⟩
   refine a_turnT (F := F) (C := c134) rfl rfl ?_
   obtain ⟨c135, f20, hB, hl24, hk23⟩ := hI.hands (.l (.r (.r (.r (.r (.r .n))))))
   refine la_callP rfl gn rfl (r_callF (vs := [vp b1 0]) rfl ok_258 ⟨et, trivial⟩) (Calls.mono (c_parser_reader_index_w c135 f20 w51 s19 b1 a55 c132 (hB.subs ⟨.z, (.s (.s .z)), trivial⟩) _ hx28) ?_)
   intro e_ w_ hq_; obtain ⟨rfl, C_, hB_⟩ := pan_of hq_; obtain ⟨C9_, -, hI_⟩ := hk23 _ _ _ _ hB_; exact .inr ⟨_, rfl, kp_of (.inr ⟨_, _, rfl, rfl, ⟨_, hI_.arr .n trivial⟩⟩)⟩
  try dsimp only at h
  obtain ⟨zs1, hx29, h⟩ := bnd_some h
  refine c_drawX [3, 5, 7] false (.c (0, .q) (.c (2, .q) (.two 1 (.c (3, .s) tr_parser_reader_primary_w_3_0) 3 (.two 1 tr_parser_reader_primary_w_3_0 4 (.c (1, .s) tr_parser_reader_primary_w_3_1))))) hI (by kernel_rfl) (by kernel_rfl) ?_
  clear hI; intro w52 hI
  refine a_join (α := (Option Addr) × Nat × (Option Addr) × Nat × (Option Addr) × Nat × Nat × NP) (T := tr_parser_reader_primary_w_3_1) (fun x => [(0, vp b1 0), (2, vp b2 0), (5, vp b6 0), (65, vp b1 0), (66, vb r25), (67, vp b6 11), (68, vs a53 e1.Idx.length c128), (69, vp b1 0), (70, (Value.agg (AIndex r26 (x.1) (x.2.1) (x.2.2.1) (x.2.2.2.1)))), (71, (vs (some ⟨(x.2.2.2.2.2.2.1), 0, none⟩) ([r26] : List GIndex).length 1))]) (fun x w => Bun C0 F w0 (x.2.2.2.2.2.2.2) w [MO.row cGIndex 132 (some ⟨(x.2.2.2.2.2.2.1), 0, none⟩) 1 ([r26] : List GIndex), MO.box b1 67 (Aparser_reader s20 (x.2.2.2.2.1) (x.2.2.2.2.2.1)), MO.row cGMono 64 a52 c127 e1.Lin.L, MO.row cGIndex 132 a53 c128 e1.Idx, MO.row cGExpr 39 a54 c129 e1.Args, MO.box b2 39 #[vi 0, (str ([] : List UInt8)), vi 0, vi 0, vi 0, vi 0, vi 0, vi 0, vi 0, vi 0, vs none 0 0, vs none 0 0, vs none 0 0], MO.box b6 39 (AExpr e1 a52 c127 a53 c128 a54 c129)] [Cl.sl cGMono (x.1) (x.2.1) r26.Lin.L, Cl.sl cGLin (x.2.2.1) (x.2.2.2.1) r26.At, Cl.sl cGToken (x.2.2.2.2.1) (x.2.2.2.2.2.1) s20.l, Cl.sl cGToken a55 c132 s19.l, Cl.sl cGToken a51 c126 r24.l, clSpace]) (fun x w => SN [] (DM true F (x.2.2.2.2.2.2.2)) w) ?_ ?_
  ·clear hI; rintro ⟨a56, c136, a57, c137, a58, c138, b8, c146⟩ w50 hI
   try dsimp only at hI ⊢
   unfold tr_parser_reader_primary_w_3_1
   refine la_append (xs := e1.Idx) (ys := ([r26] : List GIndex)) hI (.s (.s (.s .z))) (hI.rd .z) hx29 rfl gn rfl rfl u36 info_132 rfl rfl et et ?_
   clear hI; intro a59 c142 c143 w47 hI
   refine V ?_
   refine la_store (new := [vs a59 zs1.length c142]) (cs' := #[vi e1.Op, (str e1.Name), vi e1.Val.N, vi e1.Val.D, vi e1.Type_.Kind, vi e1.Type_.Bits, vi e1.Type_.Frac, vi e1.Type_.Round, vi e1.Type_.Over, vi e1.Lin.K, vs a52 e1.Lin.L.length c127, vs a59 zs1.length c142, vs a54 e1.Args.length c129]) hI (.s (.s (.s (.s (.s (.s .z)))))) rfl gn rfl rfl et et rfl size_36 rfl rfl rfl ?_
   clear hI; intro c144 w48 hI
   refine a_nil ?_
   exact k_loop (fuel1, s20, (⟨e1.Op, e1.Name, e1.Val, e1.Type_, e1.Lin, zs1, e1.Args⟩ : GExpr), a58, c138, a52, c127, a59, c142, a54, c129) SB ⟨_, hI.arr GO SU, h⟩ (Nat.lt_succ_self _)
  intro hk_tr_parser_reader_primary_w_3_1
  refine a_join (α := (Option Addr) × Nat × (Option Addr) × Nat × (Option Addr) × Nat × NP) (T := tr_parser_reader_primary_w_3_0) (fun x => [(0, vp b1 0), (2, vp b2 0), (5, vp b6 0), (65, vp b1 0), (66, vb r25), (67, vp b6 11), (68, vs a53 e1.Idx.length c128), (69, vp b1 0), (70, (Value.agg (AIndex r26 (x.1) (x.2.1) (x.2.2.1) (x.2.2.2.1))))]) (fun x w => Bun C0 F w0 (x.2.2.2.2.2.2) w [MO.box b1 67 (Aparser_reader s20 (x.2.2.2.2.1) (x.2.2.2.2.2.1)), MO.row cGMono 64 a52 c127 e1.Lin.L, MO.row cGIndex 132 a53 c128 e1.Idx, MO.row cGExpr 39 a54 c129 e1.Args, MO.box b2 39 #[vi 0, (str ([] : List UInt8)), vi 0, vi 0, vi 0, vi 0, vi 0, vi 0, vi 0, vi 0, vs none 0 0, vs none 0 0, vs none 0 0], MO.box b6 39 (AExpr e1 a52 c127 a53 c128 a54 c129)] [Cl.sl cGMono (x.1) (x.2.1) r26.Lin.L, Cl.sl cGLin (x.2.2.1) (x.2.2.2.1) r26.At, Cl.sl cGToken (x.2.2.2.2.1) (x.2.2.2.2.2.1) s20.l, Cl.sl cGToken a55 c132 s19.l, Cl.sl cGToken a51 c126 r24.l, clSpace]) (fun x w => SN [] (DM true F (x.2.2.2.2.2.2)) w) ?_ ?_
  ·clear hI; rintro ⟨a56, c136, a57, c137, a58, c138, c145⟩ w49 hI
   try dsimp only at hI ⊢
   unfold tr_parser_reader_primary_w_3_0
   refine la_lit (c := cGIndex) (xs := ([r26] : List GIndex)) (vs := [(0, (Value.agg (AIndex r26 a56 c136 a57 c137)))]) (cs := (AIndex r26 a56 c136 a57 c137)) (css := [(lIndex r26 a56 c136 a57 c137)]) hI rfl gn rfl rfl u36 info_132 rfl ⟨rfl, et, trivial⟩ (by kernel_rfl) ⟨⟨a56, c136, a57, c137, rfl, hI.get .z, hI.get (.s .z)⟩, trivial⟩ rfl rfl rfl ?_
   clear hI; intro b8 c141 w46 hI
   exact a_sub (hk_tr_parser_reader_primary_w_3_1 (a56, c136, a57, c137, a58, c138, b8, c141) _ (hI.arr GO SU)) SB
  intro hk_tr_parser_reader_primary_w_3_0
  refine V ?_
  refine a_two ?_ ?_
  ·skip
   refine a_val rfl gn rfl (y_load1 (v := (vs a53 e1.Idx.length c128)) rfl et u36 rfl (CellsAt.of_blk (hI.blk (.s (.s (.s (.s (.s .z)))))) rfl)) SX.self ?_
   refine a_turn (F := F) (C := c134) rfl rfl ?_
   obtain ⟨c135, f20, hB, hl24, hk23⟩ := hI.hands (.l (.r (.r (.r (.r (.r .n))))))
   refine la_callX rfl gn rfl (r_callF (vs := [vp b1 0]) rfl ok_258 ⟨et, trivial⟩) (Calls.mono (c_parser_reader_index_w c135 f20 w52 s19 b1 a55 c132 (hB.subs ⟨.z, (.s (.s .z)), trivial⟩) _ hx28) ?_)
   intro e_ w45 hq_; obtain ⟨a56, c136, a57, c137, a58, c138, c139, rfl, hB2⟩ := ret_of hq_
   obtain ⟨c140, hs20, hI⟩ := hk23 _ _ _ _ hB2
   dsimp only [ca, na] at hI
   refine ⟨_, rfl, DM true F c140, hs20, ?_⟩
   exact a_sub (hk_tr_parser_reader_primary_w_3_0 (a56, c136, a57, c137, a58, c138, c140) _ (hI.arr GO SU)) SB
  refine a_turnT (F := F) (C := c134) rfl rfl ?_
  obtain ⟨c135, f20, hB, hl24, hk23⟩ := hI.hands (.l (.r (.r (.r (.r (.r .n))))))
  refine la_callX rfl gn rfl (r_callF (vs := [vp b1 0]) rfl ok_258 ⟨et, trivial⟩) (Calls.mono (c_parser_reader_index_w c135 f20 w52 s19 b1 a55 c132 (hB.subs ⟨.z, (.s (.s .z)), trivial⟩) _ hx28) ?_)
  intro e_ w45 hq_; obtain ⟨a56, c136, a57, c137, a58, c138, c139, rfl, hB2⟩ := ret_of hq_
  obtain ⟨c140, hs20, hI⟩ := hk23 _ _ _ _ hB2
  dsimp only [ca, na] at hI
  refine ⟨_, rfl, DM true F c140, hs20, ?_⟩
  refine a_two ?_ ?_
  ·skip
   refine a_val rfl gn rfl (y_load1 (v := (vs a53 e1.Idx.length c128)) rfl et u36 rfl (CellsAt.of_blk (hI.blk (.s (.s (.s (.s (.s .z)))))) rfl)) SX.self ?_
   exact a_sub (hk_tr_parser_reader_primary_w_3_0 (a56, c136, a57, c137, a58, c138, c140) _ (hI.arr GO SU)) SB
  refine la_lit (c := cGIndex) (xs := ([r26] : List GIndex)) (vs := [(0, (Value.agg (AIndex r26 a56 c136 a57 c137)))]) (cs := (AIndex r26 a56 c136 a57 c137)) (css := [(lIndex r26 a56 c136 a57 c137)]) hI rfl gn rfl rfl u36 info_132 rfl ⟨rfl, et, trivial⟩ (by kernel_rfl) ⟨⟨a56, c136, a57, c137, rfl, hI.get .z, hI.get (.s .z)⟩, trivial⟩ rfl rfl rfl ?_
  clear hI; intro b8 c141 w46 hI
  refine a_val rfl gn rfl (y_load1 (v := (vs a53 e1.Idx.length c128)) rfl et u36 rfl (CellsAt.of_blk (hI.blk (.s (.s (.s (.s (.s (.s .z))))))) rfl)) SX.self ?_
  exact a_sub (hk_tr_parser_reader_primary_w_3_1 (a56, c136, a57, c137, a58, c138, b8, c141) _ (hI.arr GO SU)) SB
 refine c_exit ?_
 refine k_in ?_
 refine k_same ?_
 refine T ?_
 obtain ⟨c147, f21, hB, hl25, hk24⟩ := hI.hands (.l (.r (.r (.r (.r (.r .n))))))
 refine s_pb h (fun _ hx30 => c_parser_reader_expect_w c147 f21 w44 s19 ([93] : List UInt8) b1 a55 c132 (hB.subs ⟨.z, trivial⟩) _ hx30) (pnb hk24) (r_callF rfl ok_104 ⟨et, ⟨ev_const, trivial⟩⟩) ?_
 rintro ⟨r27, s21⟩ hx30 h _ w53 ⟨a60, c148, c149, rfl, hB2⟩
 try dsimp only at h
 obtain ⟨c150, hs21, hI⟩ := hk24 _ _ _ _ hB2
 dsimp only [ca, na] at hI
 refine ⟨_, rfl, ?_⟩
 refine T ?_
 refine l_store (new := (lExpr e1 a52 c127 a53 c128 a54 c129)) (cs' := (AExpr e1 a52 c127 a53 c128 a54 c129)) hI (.s (.s (.s (.s .z)))) gn rfl rfl et et rfl size_39 rfl rfl rfl ?_
 clear hI; intro c151 w54 hI
 refine nk (c_ret ?_)
 obtain ⟨c152, hI⟩ := hI.release (.s .z)
 obtain ⟨c153, hI⟩ := hI.release (.s .z)
 obtain ⟨c154, hI⟩ := hI.release (.s .z)
 obtain rfl := some_inj h
 refine QG ?_
 exact .inl ⟨_, rfl, a52, c127, a53, c128, a54, c129, a60, c148, _, rfl, hI.arr GO SU⟩
theorem c_parser_reader_unary_w_b (rec_ : (Gparser_reader → Option (Pan (GExpr × Gparser_reader)))) (hrec : ∀ (C0 F : NP) (w0 : World) (r1 : Gparser_reader) (b1 : Nat) (a1 : Option Addr) (c1 : Nat) (hI : Bun C0 F w0 C0 w0 [MO.box b1 67 (Aparser_reader r1 a1 c1)] [Cl.sl cGToken a1 c1 r1.l, clSpace]) (r : Pan (GExpr × Gparser_reader)) (h : rec_ r1 = some r), Calls Tryz.prog 34 #[vp b1 0] w0 fun e w => (∃ rx : GExpr × Gparser_reader, r = .ret rx ∧ ∃ (a2 : Option Addr) (c2 : Nat) (a3 : Option Addr) (c3 : Nat) (a4 : Option Addr) (c4 : Nat) (a5 : Option Addr) (c5 : Nat) (C : NP), e = .returned (Value.agg (AExpr rx.1 a2 c2 a3 c3 a4 c4)) ∧ Bun C0 F w0 C w [MO.box b1 67 (Aparser_reader rx.2 a5 c5)] [Cl.sl cGMono a2 c2 rx.1.Lin.L, Cl.sl cGIndex a3 c3 rx.1.Idx, Cl.sl cGExpr a4 c4 rx.1.Args, Cl.sl cGToken a5 c5 rx.2.l]) ∨ ∃ (pa pn : Int), r = .pan pa pn ∧ e = .panicked [pe 114 pa pn] ∧ ∃ C : NP, Bun C0 F w0 C w [] []) (recs_ : (Gparser_reader → Option (Pan (GExpr × Gparser_reader)))) (hrecs_ : ∀ (C0 F : NP) (w0 : World) (r1 : Gparser_reader) (b1 : Nat) (a1 : Option Addr) (c1 : Nat) (hI : Bun C0 F w0 C0 w0 [MO.box b1 67 (Aparser_reader r1 a1 c1)] [Cl.sl cGToken a1 c1 r1.l, clSpace]) (r : Pan (GExpr × Gparser_reader)) (h : recs_ r1 = some r), Calls Tryz.prog 242 #[vp b1 0] w0 fun e w => (∃ rx : GExpr × Gparser_reader, r = .ret rx ∧ ∃ (a2 : Option Addr) (c2 : Nat) (a3 : Option Addr) (c3 : Nat) (a4 : Option Addr) (c4 : Nat) (a5 : Option Addr) (c5 : Nat) (C : NP), e = .returned (Value.agg (AExpr rx.1 a2 c2 a3 c3 a4 c4)) ∧ Bun C0 F w0 C w [MO.box b1 67 (Aparser_reader rx.2 a5 c5)] [Cl.sl cGMono a2 c2 rx.1.Lin.L, Cl.sl cGIndex a3 c3 rx.1.Idx, Cl.sl cGExpr a4 c4 rx.1.Args, Cl.sl cGToken a5 c5 rx.2.l]) ∨ ∃ (pa pn : Int), r = .pan pa pn ∧ e = .panicked [pe 114 pa pn] ∧ ∃ C : NP, Bun C0 F w0 C w [] [])
  (C0 F : NP) (w0 : World) (r1 : Gparser_reader) (b1 : Nat) (a1 : Option Addr) (c1 : Nat) (hI : Bun C0 F w0 C0 w0 [MO.box b1 67 (Aparser_reader r1 a1 c1)] [Cl.sl cGToken a1 c1 r1.l, clSpace]) (r : Pan (GExpr × Gparser_reader)) (h : m_parser_reader_unary_w_b rec_ recs_ r1 = some r) : Calls Tryz.prog 242 #[vp b1 0] w0 fun e w => (∃ rx : GExpr × Gparser_reader, r = .ret rx ∧ ∃ (a2 : Option Addr) (c2 : Nat) (a3 : Option Addr) (c3 : Nat) (a4 : Option Addr) (c4 : Nat) (a5 : Option Addr) (c5 : Nat) (C : NP), e = .returned (Value.agg (AExpr rx.1 a2 c2 a3 c3 a4 c4)) ∧ Bun C0 F w0 C w [MO.box b1 67 (Aparser_reader rx.2 a5 c5)] [Cl.sl cGMono a2 c2 rx.1.Lin.L, Cl.sl cGIndex a3 c3 rx.1.Idx, Cl.sl cGExpr a4 c4 rx.1.Args, Cl.sl cGToken a5 c5 rx.2.l]) ∨ ∃ (pa pn : Int), r = .pan pa pn ∧ e = .panicked [pe 114 pa pn] ∧ ∃ C : NP, Bun C0 F w0 C w [] [] := by
 refine enterP (l := [vp b1 0]) Tryz.func242 rfl Tryz.ntmps242 rfl ?_
 rw [m_parser_reader_unary_w_b] at h
 refine sr (l_alloc (cs := #[vi 0, (str ([] : List UInt8)), vi 0, vi 0, vi 0, vi 0, vi 0, vi 0, vi 0, vi 0, vs none 0 0, vs none 0 0, vs none 0 0]) hI gn rfl rfl zero_39 rfl ?_)
 clear hI; intro b2 c6 w1 hI
 refine nk (c_seq (T ?_))
 obtain ⟨r2, hx1, h⟩ := bnd_some h
 refine s_call gn rfl (r_callF (vs := [vp b1 0, vi 3, (str ([45] : List UInt8))]) rfl ok_121 ⟨et, ⟨ev_const, ⟨ev_const, trivial⟩⟩⟩) (Calls.mono (c_parser_reader_is noM w1 (fun _ k => k.elim) r1 3 ([45] : List UInt8) b1 a1 c1 ⟨(hI.get0 .z), hI.lendBox (.s .z), trivial⟩ r2 hx1) ?_)
 rintro _ w2 ⟨rfl, hx2, hl1⟩
 refine ⟨_, rfl, ?_⟩
 replace hI := (hI.ext hx2)
 refine T ?_
 refine cif h et (fun hb h => ?_) (fun hb h => ?_)
 ·refine T ?_
  obtain ⟨c7, f1, hB, hl2, hk1⟩ := hI.hands (.r (.l .n))
  refine s_pb h (fun _ hx3 => c_parser_reader_primary_w rec_ hrec c7 f1 w2 r1 b1 a1 c1 (hB.subs ⟨.z, (.s .z), trivial⟩) _ hx3) (pnb hk1) (r_callF rfl ok_248 ⟨et, trivial⟩) ?_
  rintro ⟨r3, s1⟩ hx3 h _ w3 ⟨a6, c8, a7, c9, a8, c10, a9, c11, c12, rfl, hB2⟩
  try dsimp only at h
  obtain ⟨c13, hs1, hI⟩ := hk1 _ _ _ _ hB2
  dsimp only [ca, na] at hI
  refine ⟨_, rfl, ?_⟩
  refine l_store (new := (lExpr r3 a6 c8 a7 c9 a8 c10)) (cs' := (AExpr r3 a6 c8 a7 c9 a8 c10)) hI (.s .z) gn rfl rfl et et rfl size_39 rfl rfl rfl ?_
  clear hI; intro c14 w4 hI
  refine nk (c_ret ?_)
  obtain rfl := some_inj h
  refine QG ?_
  exact .inl ⟨_, rfl, a6, c8, a7, c9, a8, c10, a9, c11, _, rfl, hI.arr GO SU⟩
 refine T ?_
 obtain ⟨c15, f2, hB, hl3, hk2⟩ := hI.hands (.r (.l .n))
 refine s_pb h (fun _ hx4 => c_parser_reader_enter_w c15 f2 w2 r1 b1 a1 c1 (hB.subs ⟨.z, trivial⟩) _ hx4) (pnb hk2) (r_callF rfl ok_194 ⟨et, trivial⟩) ?_
 rintro ⟨r4, s2⟩ hx4 h _ w5 ⟨a10, c16, c17, rfl, hB2⟩
 try dsimp only at h
 obtain ⟨c18, hs2, hI⟩ := hk2 _ _ _ _ hB2
 dsimp only [ca, na] at hI
 refine ⟨_, rfl, ?_⟩
 refine T ?_
 obtain ⟨c19, f3, hB, hl4, hk3⟩ := hI.hands (.l (.r .n))
 refine s_pb h (fun _ hx5 => hrecs_ c19 f3 w5 s2 b1 a10 c16 (hB.subs ⟨.z, (.s (.s .z)), trivial⟩) _ hx5) (pnb hk3) (r_callF rfl ok_242 ⟨et, trivial⟩) ?_
 rintro ⟨r5, s3⟩ hx5 h _ w6 ⟨a11, c20, a12, c21, a13, c22, a14, c23, c24, rfl, hB2⟩
 try dsimp only at h
 obtain ⟨c25, hs3, hI⟩ := hk3 _ _ _ _ hB2
 dsimp only [ca, na] at hI
 refine ⟨_, rfl, ?_⟩
 refine l_lit (c := cGExpr) (xs := ([r5] : List GExpr)) (vs := [(0, (Value.agg (AExpr r5 a11 c20 a12 c21 a13 c22)))]) (cs := (AExpr r5 a11 c20 a12 c21 a13 c22)) (css := [(lExpr r5 a11 c20 a12 c21 a13 c22)]) hI gn rfl rfl u37 info_39 rfl ⟨rfl, et, trivial⟩ (by kernel_rfl) ⟨(cGExpr_in ⟨a11, c20, a12, c21, a13, c22, rfl, hI.get .z, hI.get (.s .z), hI.get (.s (.s .z))⟩), trivial⟩ rfl rfl rfl ?_
 clear hI; intro b3 c26 w7 hI
 refine sq (y_build (vs := [(0, vi 8), (6, vs (some ⟨b3, 0, none⟩) ([r5] : List GExpr).length 1)]) (cs := #[vi 8, (str ([] : List UInt8)), vi 0, vi 0, vi 0, vi 0, vi 0, vi 0, vi 0, vi 0, vs none 0 0, vs none 0 0, vs (some ⟨b3, 0, none⟩) ([r5] : List GExpr).length 1]) rfl ⟨rfl, ev_const, ⟨rfl, et, trivial⟩⟩ (by kernel_rfl)) ?_
 refine l_alloc (cs := #[vi 0, (str ([] : List UInt8)), vi 0, vi 0, vi 0, vi 0, vi 0, vi 0, vi 0, vi 0, vs none 0 0, vs none 0 0, vs none 0 0]) hI gn rfl rfl zero_39 rfl ?_
 clear hI; intro b4 c27 w8 hI
 refine l_store (new := [vi 8, (str ([] : List UInt8)), vi 0, vi 0, vi 0, vi 0, vi 0, vi 0, vi 0, vi 0, vs none 0 0, vs none 0 0, vs (some ⟨b3, 0, none⟩) ([r5] : List GExpr).length 1]) (cs' := #[vi 8, (str ([] : List UInt8)), vi 0, vi 0, vi 0, vi 0, vi 0, vi 0, vi 0, vi 0, vs none 0 0, vs none 0 0, vs (some ⟨b3, 0, none⟩) ([r5] : List GExpr).length 1]) hI .z gn rfl rfl et et rfl size_39 rfl rfl rfl ?_
 clear hI; intro c28 w9 hI
 refine T ?_
 refine l_store (new := [(vi (wi64 (s3.deep - 1)))]) (cs' := #[vs a14 s3.l.length c23, vi s3.at_, (vi (wi64 (s3.deep - 1)))]) hI (.s (.s .z)) gn rfl rfl et et rfl size_3 rfl rfl rfl ?_
 clear hI; intro c29 w10 hI
 refine T ?_
 refine l_store (new := [vi 8, (str ([] : List UInt8)), vi 0, vi 0, vi 0, vi 0, vi 0, vi 0, vi 0, vi 0, vs none 0 0, vs none 0 0, vs (some ⟨b3, 0, none⟩) ([r5] : List GExpr).length 1]) (cs' := #[vi 8, (str ([] : List UInt8)), vi 0, vi 0, vi 0, vi 0, vi 0, vi 0, vi 0, vi 0, vs none 0 0, vs none 0 0, vs (some ⟨b3, 0, none⟩) ([r5] : List GExpr).length 1]) hI (.s (.s (.s .z))) gn rfl rfl et et rfl size_39 rfl rfl rfl ?_
 clear hI; intro c30 w11 hI
 refine nk (c_ret ?_)
 obtain ⟨c31, hI⟩ := hI.release (.s .z)
 have hI := hI.add (c := Cl.sl cGMono none 0 ([] : List GMono)) SlC.nil
 have hI := hI.add (c := Cl.sl cGIndex none 0 ([] : List GIndex)) SlC.nil
 obtain rfl := some_inj h
 refine QG ?_
 exact .inl ⟨_, rfl, none, 0, none, 0, some ⟨b3, 0, none⟩, 1, a14, c23, _, rfl, hI.arr GO SU⟩
theorem c_parser_reader_unary_w_r (rec_ : (Gparser_reader → Option (Pan (GExpr × Gparser_reader)))) (hrec : ∀ (C0 F : NP) (w0 : World) (r1 : Gparser_reader) (b1 : Nat) (a1 : Option Addr) (c1 : Nat) (hI : Bun C0 F w0 C0 w0 [MO.box b1 67 (Aparser_reader r1 a1 c1)] [Cl.sl cGToken a1 c1 r1.l, clSpace]) (r : Pan (GExpr × Gparser_reader)) (h : rec_ r1 = some r), Calls Tryz.prog 34 #[vp b1 0] w0 fun e w => (∃ rx : GExpr × Gparser_reader, r = .ret rx ∧ ∃ (a2 : Option Addr) (c2 : Nat) (a3 : Option Addr) (c3 : Nat) (a4 : Option Addr) (c4 : Nat) (a5 : Option Addr) (c5 : Nat) (C : NP), e = .returned (Value.agg (AExpr rx.1 a2 c2 a3 c3 a4 c4)) ∧ Bun C0 F w0 C w [MO.box b1 67 (Aparser_reader rx.2 a5 c5)] [Cl.sl cGMono a2 c2 rx.1.Lin.L, Cl.sl cGIndex a3 c3 rx.1.Idx, Cl.sl cGExpr a4 c4 rx.1.Args, Cl.sl cGToken a5 c5 rx.2.l]) ∨ ∃ (pa pn : Int), r = .pan pa pn ∧ e = .panicked [pe 114 pa pn] ∧ ∃ C : NP, Bun C0 F w0 C w [] []) (n : Nat) : ∀ (C0 F : NP) (w0 : World) (r1 : Gparser_reader) (b1 : Nat) (a1 : Option Addr) (c1 : Nat) (hI : Bun C0 F w0 C0 w0 [MO.box b1 67 (Aparser_reader r1 a1 c1)] [Cl.sl cGToken a1 c1 r1.l, clSpace]) (r : Pan (GExpr × Gparser_reader)) (h : m_parser_reader_unary_w_r rec_ n r1 = some r), Calls Tryz.prog 242 #[vp b1 0] w0 fun e w => (∃ rx : GExpr × Gparser_reader, r = .ret rx ∧ ∃ (a2 : Option Addr) (c2 : Nat) (a3 : Option Addr) (c3 : Nat) (a4 : Option Addr) (c4 : Nat) (a5 : Option Addr) (c5 : Nat) (C : NP), e = .returned (Value.agg (AExpr rx.1 a2 c2 a3 c3 a4 c4)) ∧ Bun C0 F w0 C w [MO.box b1 67 (Aparser_reader rx.2 a5 c5)] [Cl.sl cGMono a2 c2 rx.1.Lin.L, Cl.sl cGIndex a3 c3 rx.1.Idx, Cl.sl cGExpr a4 c4 rx.1.Args, Cl.sl cGToken a5 c5 rx.2.l]) ∨ ∃ (pa pn : Int), r = .pan pa pn ∧ e = .panicked [pe 114 pa pn] ∧ ∃ C : NP, Bun C0 F w0 C w [] [] := by
 induction n with
 | zero => intro C0 F w0 r1 b1 a1 c1 hI r h; cases h
 | succ n ih => intro C0 F w0 r1 b1 a1 c1 hI r h; exact c_parser_reader_unary_w_b rec_ hrec (m_parser_reader_unary_w_r rec_ n) ih C0 F w0 r1 b1 a1 c1 hI r h
theorem c_parser_reader_unary_w (rec_ : (Gparser_reader → Option (Pan (GExpr × Gparser_reader)))) (hrec : ∀ (C0 F : NP) (w0 : World) (r1 : Gparser_reader) (b1 : Nat) (a1 : Option Addr) (c1 : Nat) (hI : Bun C0 F w0 C0 w0 [MO.box b1 67 (Aparser_reader r1 a1 c1)] [Cl.sl cGToken a1 c1 r1.l, clSpace]) (r : Pan (GExpr × Gparser_reader)) (h : rec_ r1 = some r), Calls Tryz.prog 34 #[vp b1 0] w0 fun e w => (∃ rx : GExpr × Gparser_reader, r = .ret rx ∧ ∃ (a2 : Option Addr) (c2 : Nat) (a3 : Option Addr) (c3 : Nat) (a4 : Option Addr) (c4 : Nat) (a5 : Option Addr) (c5 : Nat) (C : NP), e = .returned (Value.agg (AExpr rx.1 a2 c2 a3 c3 a4 c4)) ∧ Bun C0 F w0 C w [MO.box b1 67 (Aparser_reader rx.2 a5 c5)] [Cl.sl cGMono a2 c2 rx.1.Lin.L, Cl.sl cGIndex a3 c3 rx.1.Idx, Cl.sl cGExpr a4 c4 rx.1.Args, Cl.sl cGToken a5 c5 rx.2.l]) ∨ ∃ (pa pn : Int), r = .pan pa pn ∧ e = .panicked [pe 114 pa pn] ∧ ∃ C : NP, Bun C0 F w0 C w [] []) (C0 F : NP) (w0 : World) (r1 : Gparser_reader) (b1 : Nat) (a1 : Option Addr) (c1 : Nat) (hI : Bun C0 F w0 C0 w0 [MO.box b1 67 (Aparser_reader r1 a1 c1)] [Cl.sl cGToken a1 c1 r1.l, clSpace]) (r : Pan (GExpr × Gparser_reader)) (h : m_parser_reader_unary_w rec_ r1 = some r) : Calls Tryz.prog 242 #[vp b1 0] w0 fun e w => (∃ rx : GExpr × Gparser_reader, r = .ret rx ∧ ∃ (a2 : Option Addr) (c2 : Nat) (a3 : Option Addr) (c3 : Nat) (a4 : Option Addr) (c4 : Nat) (a5 : Option Addr) (c5 : Nat) (C : NP), e = .returned (Value.agg (AExpr rx.1 a2 c2 a3 c3 a4 c4)) ∧ Bun C0 F w0 C w [MO.box b1 67 (Aparser_reader rx.2 a5 c5)] [Cl.sl cGMono a2 c2 rx.1.Lin.L, Cl.sl cGIndex a3 c3 rx.1.Idx, Cl.sl cGExpr a4 c4 rx.1.Args, Cl.sl cGToken a5 c5 rx.2.l]) ∨ ∃ (pa pn : Int), r = .pan pa pn ∧ e = .panicked [pe 114 pa pn] ∧ ∃ C : NP, Bun C0 F w0 C w [] [] := c_parser_reader_unary_w_r rec_ hrec fu C0 F w0 r1 b1 a1 c1 hI r h
def tr_parser_reader_chain_w5_3_0 : Tr := (.c (4, .s) (.c (5, .q) (.c (6, .s) .n)))
theorem c_parser_reader_chain_w5 (rec_ : (Gparser_reader → Option (Pan (GExpr × Gparser_reader)))) (hrec : ∀ (C0 F : NP) (w0 : World) (r1 : Gparser_reader) (b1 : Nat) (a1 : Option Addr) (c1 : Nat) (hI : Bun C0 F w0 C0 w0 [MO.box b1 67 (Aparser_reader r1 a1 c1)] [Cl.sl cGToken a1 c1 r1.l, clSpace]) (r : Pan (GExpr × Gparser_reader)) (h : rec_ r1 = some r), Calls Tryz.prog 34 #[vp b1 0] w0 fun e w => (∃ rx : GExpr × Gparser_reader, r = .ret rx ∧ ∃ (a2 : Option Addr) (c2 : Nat) (a3 : Option Addr) (c3 : Nat) (a4 : Option Addr) (c4 : Nat) (a5 : Option Addr) (c5 : Nat) (C : NP), e = .returned (Value.agg (AExpr rx.1 a2 c2 a3 c3 a4 c4)) ∧ Bun C0 F w0 C w [MO.box b1 67 (Aparser_reader rx.2 a5 c5)] [Cl.sl cGMono a2 c2 rx.1.Lin.L, Cl.sl cGIndex a3 c3 rx.1.Idx, Cl.sl cGExpr a4 c4 rx.1.Args, Cl.sl cGToken a5 c5 rx.2.l]) ∨ ∃ (pa pn : Int), r = .pan pa pn ∧ e = .panicked [pe 114 pa pn] ∧ ∃ C : NP, Bun C0 F w0 C w [] []) (C0 F : NP) (w0 : World) (r1 : Gparser_reader) (signs1 : List (List UInt8)) (ops1 : List Int) (b1 : Nat) (a1 : Option Addr) (c1 : Nat) (a2 : Option Addr) (c2 : Nat) (a3 : Option Addr) (c3 : Nat) (hI : Bun C0 F w0 C0 w0 [MO.box b1 67 (Aparser_reader r1 a1 c1)] [Cl.sl cGToken a1 c1 r1.l, Cl.sl cStr a2 c2 signs1, Cl.sl (cInt .i64) a3 c3 ops1, clSpace]) (r : Pan (GExpr × Gparser_reader))
  (h : m_parser_reader_chain_w5 rec_ r1 signs1 ops1 = some r) :
  Calls Tryz.prog 74 #[vp b1 0, (Value.func (.func 242) #[vp b1 0] #[]), vs a2 signs1.length c2, vs a3 ops1.length c3] w0 fun e w => (∃ rx : GExpr × Gparser_reader, r = .ret rx ∧ ∃ (a4 : Option Addr) (c4 : Nat) (a5 : Option Addr) (c5 : Nat) (a6 : Option Addr) (c6 : Nat) (a7 : Option Addr) (c7 : Nat) (C : NP), e = .returned (Value.agg (AExpr rx.1 a4 c4 a5 c5 a6 c6)) ∧ Bun C0 F w0 C w [MO.box b1 67 (Aparser_reader rx.2 a7 c7)] [Cl.sl cGMono a4 c4 rx.1.Lin.L, Cl.sl cGIndex a5 c5 rx.1.Idx, Cl.sl cGExpr a6 c6 rx.1.Args, Cl.sl cGToken a7 c7 rx.2.l]) ∨ ∃ (pa pn : Int), r = .pan pa pn ∧ e = .panicked [pe 114 pa pn] ∧ ∃ C : NP, Bun C0 F w0 C w [] [] := by
 refine enterP (l := [vp b1 0, (Value.func (.func 242) #[vp b1 0] #[]), vs a2 signs1.length c2, vs a3 ops1.length c3]) Tryz.func74 rfl Tryz.ntmps74 rfl ?_
 rw [m_parser_reader_chain_w5] at h
 refine sr (l_alloc (cs := #[vi 0, (str ([] : List UInt8)), vi 0, vi 0, vi 0, vi 0, vi 0, vi 0, vi 0, vi 0, vs none 0 0, vs none 0 0, vs none 0 0]) hI gn rfl rfl zero_39 rfl ?_)
 clear hI; intro b2 c8 w1 hI
 refine T ?_
 obtain ⟨c9, f1, hB, hl1, hk1⟩ := hI.hands (.r (.l .n))
 refine s_pb h (fun _ hx1 => c_parser_reader_unary_w rec_ hrec c9 f1 w1 r1 b1 a1 c1 (hB.subs ⟨.z, (.s (.s (.s .z))), trivial⟩) _ hx1) (pnb hk1) (r_call (fs := [vp b1 0]) (vs := []) (cap := []) rfl et ok_242 trivial) ?_
 rintro ⟨r2, s1⟩ hx1 h _ w2 ⟨a8, c10, a9, c11, a10, c12, a11, c13, c14, rfl, hB2⟩
 try dsimp only at h
 obtain ⟨c15, hs1, hI⟩ := hk1 _ _ _ _ hB2
 dsimp only [ca, na] at hI
 refine ⟨_, rfl, ?_⟩
 refine l_alloc (cs := #[vi 0, (str ([] : List UInt8)), vi 0, vi 0, vi 0, vi 0, vi 0, vi 0, vi 0, vi 0, vs none 0 0, vs none 0 0, vs none 0 0]) hI gn rfl rfl zero_39 rfl ?_
 clear hI; intro b3 c16 w3 hI
 refine l_store (new := (lExpr r2 a8 c10 a9 c11 a10 c12)) (cs' := (AExpr r2 a8 c10 a9 c11 a10 c12)) hI .z gn rfl rfl et et rfl size_39 rfl rfl rfl ?_
 clear hI; intro c17 w4 hI
 refine T ?_
 refine c_loop (α := Nat × Gparser_reader × GExpr × (Option Addr) × Nat × (Option Addr) × Nat × (Option Addr) × Nat × (Option Addr) × Nat) (fun x => fun w => ∃ C, Bun C0 F w0 C w [MO.box b1 67 (Aparser_reader (x.2.1) (x.2.2.2.1) (x.2.2.2.2.1)), MO.box b2 39 #[vi 0, (str ([] : List UInt8)), vi 0, vi 0, vi 0, vi 0, vi 0, vi 0, vi 0, vi 0, vs none 0 0, vs none 0 0, vs none 0 0], MO.box b3 39 (AExpr (x.2.2.1) (x.2.2.2.2.2.1) (x.2.2.2.2.2.2.1) (x.2.2.2.2.2.2.2.1) (x.2.2.2.2.2.2.2.2.1) (x.2.2.2.2.2.2.2.2.2.1) (x.2.2.2.2.2.2.2.2.2.2))] [Cl.sl cGToken (x.2.2.2.1) (x.2.2.2.2.1) (x.2.1).l, Cl.sl cGMono (x.2.2.2.2.2.1) (x.2.2.2.2.2.2.1) (x.2.2.1).Lin.L, Cl.sl cGIndex (x.2.2.2.2.2.2.2.1) (x.2.2.2.2.2.2.2.2.1) (x.2.2.1).Idx, Cl.sl cGExpr (x.2.2.2.2.2.2.2.2.2.1) (x.2.2.2.2.2.2.2.2.2.2) (x.2.2.1).Args, Cl.sl cStr a2 c2 signs1, Cl.sl (cInt .i64) a3 c3 ops1, clSpace] ∧ m_parser_reader_chain_w5_l1 signs1 ops1 rec_ (x.1) (x.2.1) (x.2.2.1) = some r) (fun x _ => x.1) (fun x => [(0, vp b1 0), (1, (Value.func (.func 242) #[vp b1 0] #[])), (2, vs a2 signs1.length c2), (3, vs a3 ops1.length c3), (8, vp b2 0), (9, vp b3 0)]) (fu, s1, r2, a11, c13, a8, c10, a9, c11, a10, c12) ⟨_, hI.arr (.c (.s .z) (.c (.s .z) (.c .z .n))) ⟨(.s (.s (.s .z))), .z, (.s .z), (.s (.s .z)), (.s (.s (.s (.s (.s .z))))), (.s (.s (.s (.s (.s (.s .z)))))), (.s (.s (.s (.s (.s (.s (.s .z))))))), trivial⟩, h⟩ ⟨rfl, rfl, rfl, rfl, rfl, rfl, trivial⟩ ?_
 clear h hI; rintro ⟨fuel1, r3, e1, a12, c18, a13, c19, a14, c20, a15, c21⟩ w5 ⟨c22, hI, h⟩
 dsimp only at hI h
 rcases fuel1 with _ | fuel1
 ·rw [m_parser_reader_chain_w5_l1] at h; cases h
 rw [m_parser_reader_chain_w5_l1] at h
 refine c_sub (e := [(0, vp b1 0), (1, (Value.func (.func 242) #[vp b1 0] #[])), (2, vs a2 signs1.length c2), (3, vs a3 ops1.length c3), (8, vp b2 0), (9, vp b3 0)]) ⟨rfl, rfl, rfl, rfl, rfl, rfl, trivial⟩ ?_
 refine T ?_
 refine c_join (α := Int × Gparser_reader × (Option Addr) × Nat) (fun _ => ⟨43, []⟩) (fun x => [(0, vp b1 0), (1, (Value.func (.func 242) #[vp b1 0] #[])), (2, vs a2 signs1.length c2), (3, vs a3 ops1.length c3), (8, vp b2 0), (9, vp b3 0), (10, vi (x.1))]) (fun x => fun w => ∃ C, Bun C0 F w0 C w [MO.box b1 67 (Aparser_reader (x.2.1) (x.2.2.1) (x.2.2.2)), MO.box b2 39 #[vi 0, (str ([] : List UInt8)), vi 0, vi 0, vi 0, vi 0, vi 0, vi 0, vi 0, vi 0, vs none 0 0, vs none 0 0, vs none 0 0], MO.box b3 39 (AExpr e1 a13 c19 a14 c20 a15 c21)] [Cl.sl cGToken (x.2.2.1) (x.2.2.2) (x.2.1).l, Cl.sl cStr a2 c2 signs1, Cl.sl (cInt .i64) a3 c3 ops1, Cl.sl cGMono a13 c19 e1.Lin.L, Cl.sl cGIndex a14 c20 e1.Idx, Cl.sl cGExpr a15 c21 e1.Args, clSpace] ∧ m_parser_reader_chain_w5_j1 e1 rec_ (m_parser_reader_chain_w5_l1 signs1 ops1 rec_ fuel1) (x.1) (x.2.1) = some r) ?_ ?_
 ·clear h hI; rintro ⟨op1, r4, a16, c23⟩ w6 ⟨c24, hI, h⟩
  try dsimp only at hI h
  rw [m_parser_reader_chain_w5_j1] at h
  refine c_sub (e := [(0, vp b1 0), (1, (Value.func (.func 242) #[vp b1 0] #[])), (2, vs a2 signs1.length c2), (3, vs a3 ops1.length c3), (8, vp b2 0), (9, vp b3 0), (10, vi op1)]) ⟨rfl, rfl, rfl, rfl, rfl, rfl, rfl, trivial⟩ ?_
  refine c_seq (T ?_)
  refine cif h et (fun hb h => ?_) (fun hb h => ?_)
  ·refine T ?_
   refine l_store (new := (lExpr e1 a13 c19 a14 c20 a15 c21)) (cs' := (AExpr e1 a13 c19 a14 c20 a15 c21)) hI (.s .z) gn rfl rfl et et rfl size_39 rfl rfl rfl ?_
   clear hI; intro c25 w7 hI
   refine nk (c_ret ?_)
   obtain rfl := some_inj h
   exact q_ret (vs := [(Value.agg (AExpr e1 a13 c19 a14 c20 a15 c21))]) Tryz.results74 ⟨⟨_, ev_tmp rfl rfl, load_agg (l := (lExpr e1 a13 c19 a14 c20 a15 c21)) u39 rfl size_39 (CellsAt.of_blk (hI.blk (.s .z)) rfl)⟩, trivial⟩ (.inl ⟨_, rfl, a13, c19, a14, c20, a15, c21, a16, c23, _, rfl, hI.arr (.c .z .n) ⟨(.s (.s (.s .z))), (.s (.s (.s (.s .z)))), (.s (.s (.s (.s (.s .z))))), .z, trivial⟩⟩)
  refine T ?_
  rcases pb_some h with ⟨⟨r5, s2⟩, hx2, h⟩ | ⟨pa_, pn_, hx2, hp_⟩
  rotate_left
  ·subst hp_
   refine c_drawX [3, 6] false (.c (0, .q) (.c (2, .q) (.two 1 (.c (3, .s) tr_parser_reader_chain_w5_3_0) 3 (.c (1, .s) tr_parser_reader_chain_w5_3_0)))) hI (by kernel_rfl) (by kernel_rfl) ?_
   clear hI; intro w12 hI
   refine V ?_
   refine a_two ?_ ?_
   ·skip
    refine a_val rfl gn rfl (y_loadN (l := (lExpr e1 a13 c19 a14 c20 a15 c21)) rfl et u39 rfl size_39 (CellsAt.of_blk (hI.blk (.s (.s .z))) rfl)) SX.self ?_
    refine a_turn (F := F) (C := c24) rfl rfl ?_
    obtain ⟨c26, f2, hB, hl2, hk2⟩ := hI.hands (.l (.r (.r .n)))
    refine la_callP rfl gn rfl (r_call (fs := [vp b1 0]) (vs := []) (cap := []) rfl et ok_242 trivial) (Calls.mono (c_parser_reader_unary_w rec_ hrec c26 f2 w12 r4 b1 a16 c23 (hB.subs ⟨.z, (.s (.s (.s (.s (.s (.s .z)))))), trivial⟩) _ hx2) ?_)
    intro e_ w_ hq_; obtain ⟨rfl, C_, hB_⟩ := pan_of hq_; obtain ⟨C9_, -, hI_⟩ := hk2 _ _ _ _ hB_; exact .inr ⟨_, rfl, kp_of (.inr ⟨_, _, rfl, rfl, ⟨_, hI_.arr .n trivial⟩⟩)⟩
   refine a_turnT (F := F) (C := c24) rfl rfl ?_
   obtain ⟨c26, f2, hB, hl2, hk2⟩ := hI.hands (.l (.r (.r .n)))
   refine la_callP rfl gn rfl (r_call (fs := [vp b1 0]) (vs := []) (cap := []) rfl et ok_242 trivial) (Calls.mono (c_parser_reader_unary_w rec_ hrec c26 f2 w12 r4 b1 a16 c23 (hB.subs ⟨.z, (.s (.s (.s (.s (.s (.s .z)))))), trivial⟩) _ hx2) ?_)
   intro e_ w_ hq_; obtain ⟨rfl, C_, hB_⟩ := pan_of hq_; obtain ⟨C9_, -, hI_⟩ := hk2 _ _ _ _ hB_; exact .inr ⟨_, rfl, kp_of (.inr ⟨_, _, rfl, rfl, ⟨_, hI_.arr .n trivial⟩⟩)⟩
  try dsimp only at h
  refine c_drawX [3, 6] false (.c (0, .q) (.c (2, .q) (.two 1 (.c (3, .s) tr_parser_reader_chain_w5_3_0) 3 (.c (1, .s) tr_parser_reader_chain_w5_3_0)))) hI (by kernel_rfl) (by kernel_rfl) ?_
  clear hI; intro w13 hI
  refine a_join (α := (Option Addr) × Nat × (Option Addr) × Nat × (Option Addr) × Nat × (Option Addr) × Nat × NP) (T := tr_parser_reader_chain_w5_3_0) (fun x => [(0, vp b1 0), (1, (Value.func (.func 242) #[vp b1 0] #[])), (2, vs a2 signs1.length c2), (3, vs a3 ops1.length c3), (8, vp b2 0), (9, vp b3 0), (10, vi op1), (34, vi op1), (35, (vb (decide (op1 = 0)))), (37, vi op1), (38, (Value.agg (AExpr e1 a13 c19 a14 c20 a15 c21))), (39, (Value.func (.func 242) #[vp b1 0] #[])), (40, (Value.agg (AExpr r5 (x.1) (x.2.1) (x.2.2.1) (x.2.2.2.1) (x.2.2.2.2.1) (x.2.2.2.2.2.1))))]) (fun x w => Bun C0 F w0 (x.2.2.2.2.2.2.2.2) w [MO.box b1 67 (Aparser_reader s2 (x.2.2.2.2.2.2.1) (x.2.2.2.2.2.2.2.1)), MO.box b2 39 #[vi 0, (str ([] : List UInt8)), vi 0, vi 0, vi 0, vi 0, vi 0, vi 0, vi 0, vi 0, vs none 0 0, vs none 0 0, vs none 0 0], MO.box b3 39 (AExpr e1 a13 c19 a14 c20 a15 c21)] [Cl.sl cGMono (x.1) (x.2.1) r5.Lin.L, Cl.sl cGIndex (x.2.2.1) (x.2.2.2.1) r5.Idx, Cl.sl cGExpr (x.2.2.2.2.1) (x.2.2.2.2.2.1) r5.Args, Cl.sl cGToken (x.2.2.2.2.2.2.1) (x.2.2.2.2.2.2.2.1) s2.l, Cl.sl cGToken a16 c23 r4.l, Cl.sl cStr a2 c2 signs1, Cl.sl (cInt .i64) a3 c3 ops1, Cl.sl cGMono a13 c19 e1.Lin.L, Cl.sl cGIndex a14 c20 e1.Idx, Cl.sl cGExpr a15 c21 e1.Args, clSpace]) (fun x w => SN [] (DM true F (x.2.2.2.2.2.2.2.2)) w) ?_ ?_
  ·clear hI; rintro ⟨a17, c27, a18, c28, a19, c29, a20, c30, c35⟩ w11 hI
   try dsimp only at hI ⊢
   unfold tr_parser_reader_chain_w5_3_0
   refine la_lit (c := cGExpr) (xs := ([e1, r5] : List GExpr)) (vs := [(0, (Value.agg (AExpr e1 a13 c19 a14 c20 a15 c21))), (1, (Value.agg (AExpr r5 a17 c27 a18 c28 a19 c29)))]) (cs := #[vi e1.Op, (str e1.Name), vi e1.Val.N, vi e1.Val.D, vi e1.Type_.Kind, vi e1.Type_.Bits, vi e1.Type_.Frac, vi e1.Type_.Round, vi e1.Type_.Over, vi e1.Lin.K, vs a13 e1.Lin.L.length c19, vs a14 e1.Idx.length c20, vs a15 e1.Args.length c21, vi r5.Op, (str r5.Name), vi r5.Val.N, vi r5.Val.D, vi r5.Type_.Kind, vi r5.Type_.Bits, vi r5.Type_.Frac, vi r5.Type_.Round, vi r5.Type_.Over, vi r5.Lin.K, vs a17 r5.Lin.L.length c27, vs a18 r5.Idx.length c28, vs a19 r5.Args.length c29]) (css := [(lExpr e1 a13 c19 a14 c20 a15 c21), (lExpr r5 a17 c27 a18 c28 a19 c29)]) hI rfl gn rfl rfl u37 info_39 rfl ⟨rfl, et, ⟨rfl, et, trivial⟩⟩ (by kernel_rfl) ⟨(cGExpr_in ⟨a13, c19, a14, c20, a15, c21, rfl, hI.get (.s (.s (.s (.s (.s (.s (.s .z))))))), hI.get (.s (.s (.s (.s (.s (.s (.s (.s .z)))))))), hI.get (.s (.s (.s (.s (.s (.s (.s (.s (.s .z)))))))))⟩), ⟨(cGExpr_in ⟨a17, c27, a18, c28, a19, c29, rfl, hI.get .z, hI.get (.s .z), hI.get (.s (.s .z))⟩), trivial⟩⟩ rfl rfl rfl ?_
   clear hI; intro b4 c33 w9 hI
   refine a_q rfl gn rfl (fun w' => (y_build (vs := [(0, vi op1), (6, vs (some ⟨b4, 0, none⟩) ([e1, r5] : List GExpr).length 2)]) (cs := #[vi op1, (str ([] : List UInt8)), vi 0, vi 0, vi 0, vi 0, vi 0, vi 0, vi 0, vi 0, vs none 0 0, vs none 0 0, vs (some ⟨b4, 0, none⟩) ([e1, r5] : List GExpr).length 2]) rfl ⟨rfl, et, ⟨rfl, et, trivial⟩⟩ (by kernel_rfl))) ?_
   refine la_store (new := [vi op1, (str ([] : List UInt8)), vi 0, vi 0, vi 0, vi 0, vi 0, vi 0, vi 0, vi 0, vs none 0 0, vs none 0 0, vs (some ⟨b4, 0, none⟩) ([e1, r5] : List GExpr).length 2]) (cs' := #[vi op1, (str ([] : List UInt8)), vi 0, vi 0, vi 0, vi 0, vi 0, vi 0, vi 0, vi 0, vs none 0 0, vs none 0 0, vs (some ⟨b4, 0, none⟩) ([e1, r5] : List GExpr).length 2]) hI (.s (.s (.s .z))) rfl gn rfl rfl et et rfl size_39 rfl rfl rfl ?_
   clear hI; intro c34 w10 hI
   refine a_nil ?_
   have hI := hI.add (c := Cl.sl cGMono none 0 ([] : List GMono)) SlC.nil
   have hI := hI.add (c := Cl.sl cGIndex none 0 ([] : List GIndex)) SlC.nil
   obtain ⟨c36, hI⟩ := hI.release .z
   exact k_loop (fuel1, s2, (⟨op1, ([] : List UInt8), (⟨0, 0⟩ : GVal), (⟨0, 0, 0, 0, 0⟩ : GType), (⟨0, ([] : List GMono)⟩ : GLin), ([] : List GIndex), ([e1, r5] : List GExpr)⟩ : GExpr), a20, c30, none, 0, none, 0, some ⟨b4, 0, none⟩, 2) ⟨rfl, rfl, rfl, rfl, rfl, rfl, trivial⟩ ⟨_, hI.arr (.c .z (.c .z (.c .z .n))) ⟨(.s (.s (.s (.s (.s (.s .z)))))), (.s (.s .z)), (.s .z), .z, (.s (.s (.s (.s (.s (.s (.s (.s .z)))))))), (.s (.s (.s (.s (.s (.s (.s (.s (.s .z))))))))), (.s (.s (.s (.s (.s (.s (.s (.s (.s (.s (.s (.s (.s .z))))))))))))), trivial⟩, h⟩ (Nat.lt_succ_self _)
  intro hk_tr_parser_reader_chain_w5_3_0
  refine V ?_
  refine a_two ?_ ?_
  ·skip
   refine a_val rfl gn rfl (y_loadN (l := (lExpr e1 a13 c19 a14 c20 a15 c21)) rfl et u39 rfl size_39 (CellsAt.of_blk (hI.blk (.s (.s .z))) rfl)) SX.self ?_
   refine a_turn (F := F) (C := c24) rfl rfl ?_
   obtain ⟨c26, f2, hB, hl2, hk2⟩ := hI.hands (.l (.r (.r .n)))
   refine la_callX rfl gn rfl (r_call (fs := [vp b1 0]) (vs := []) (cap := []) rfl et ok_242 trivial) (Calls.mono (c_parser_reader_unary_w rec_ hrec c26 f2 w13 r4 b1 a16 c23 (hB.subs ⟨.z, (.s (.s (.s (.s (.s (.s .z)))))), trivial⟩) _ hx2) ?_)
   intro e_ w8 hq_; obtain ⟨a17, c27, a18, c28, a19, c29, a20, c30, c31, rfl, hB2⟩ := ret_of hq_
   obtain ⟨c32, hs2, hI⟩ := hk2 _ _ _ _ hB2
   dsimp only [ca, na] at hI
   refine ⟨_, rfl, DM true F c32, hs2, ?_⟩
   exact a_sub (hk_tr_parser_reader_chain_w5_3_0 (a17, c27, a18, c28, a19, c29, a20, c30, c32) _ (hI.arr (.c .z (.c .z (.c .z .n))) ⟨.z, (.s .z), (.s (.s .z)), (.s (.s (.s .z))), (.s (.s (.s (.s .z)))), (.s (.s (.s (.s (.s .z))))), (.s (.s (.s (.s (.s (.s .z)))))), (.s (.s (.s (.s (.s (.s (.s .z))))))), (.s (.s (.s (.s (.s (.s (.s (.s .z)))))))), (.s (.s (.s (.s (.s (.s (.s (.s (.s .z))))))))), (.s (.s (.s (.s (.s (.s (.s (.s (.s (.s .z)))))))))), trivial⟩)) ⟨rfl, rfl, rfl, rfl, rfl, rfl, rfl, rfl, rfl, rfl, rfl, rfl, rfl, trivial⟩
  refine a_turnT (F := F) (C := c24) rfl rfl ?_
  obtain ⟨c26, f2, hB, hl2, hk2⟩ := hI.hands (.l (.r (.r .n)))
  refine la_callX rfl gn rfl (r_call (fs := [vp b1 0]) (vs := []) (cap := []) rfl et ok_242 trivial) (Calls.mono (c_parser_reader_unary_w rec_ hrec c26 f2 w13 r4 b1 a16 c23 (hB.subs ⟨.z, (.s (.s (.s (.s (.s (.s .z)))))), trivial⟩) _ hx2) ?_)
  intro e_ w8 hq_; obtain ⟨a17, c27, a18, c28, a19, c29, a20, c30, c31, rfl, hB2⟩ := ret_of hq_
  obtain ⟨c32, hs2, hI⟩ := hk2 _ _ _ _ hB2
  dsimp only [ca, na] at hI
  refine ⟨_, rfl, DM true F c32, hs2, ?_⟩
  refine a_val rfl gn rfl (y_loadN (l := (lExpr e1 a13 c19 a14 c20 a15 c21)) rfl et u39 rfl size_39 (CellsAt.of_blk (hI.blk (.s (.s .z))) rfl)) SX.self ?_
  exact a_sub (hk_tr_parser_reader_chain_w5_3_0 (a17, c27, a18, c28, a19, c29, a20, c30, c32) _ (hI.arr (.c .z (.c .z (.c .z .n))) ⟨.z, (.s .z), (.s (.s .z)), (.s (.s (.s .z))), (.s (.s (.s (.s .z)))), (.s (.s (.s (.s (.s .z))))), (.s (.s (.s (.s (.s (.s .z)))))), (.s (.s (.s (.s (.s (.s (.s .z))))))), (.s (.s (.s (.s (.s (.s (.s (.s .z)))))))), (.s (.s (.s (.s (.s (.s (.s (.s (.s .z))))))))), (.s (.s (.s (.s (.s (.s (.s (.s (.s (.s .z)))))))))), trivial⟩)) ⟨rfl, rfl, rfl, rfl, rfl, rfl, rfl, rfl, rfl, rfl, rfl, rfl, rfl, trivial⟩
 refine T ?_
 refine c_loop (α := Nat × Int × Int × Gparser_reader × (Option Addr) × Nat) (fun x => fun w => ∃ C, Bun C0 F w0 C w [MO.box b1 67 (Aparser_reader (x.2.2.2.1) (x.2.2.2.2.1) (x.2.2.2.2.2)), MO.box b2 39 #[vi 0, (str ([] : List UInt8)), vi 0, vi 0, vi 0, vi 0, vi 0, vi 0, vi 0, vi 0, vs none 0 0, vs none 0 0, vs none 0 0], MO.box b3 39 (AExpr e1 a13 c19 a14 c20 a15 c21)] [Cl.sl cGToken (x.2.2.2.2.1) (x.2.2.2.2.2) (x.2.2.2.1).l, Cl.sl cStr a2 c2 signs1, Cl.sl (cInt .i64) a3 c3 ops1, Cl.sl cGMono a13 c19 e1.Lin.L, Cl.sl cGIndex a14 c20 e1.Idx, Cl.sl cGExpr a15 c21 e1.Args, clSpace] ∧ m_parser_reader_chain_w5_l2 signs1 ops1 e1 rec_ (m_parser_reader_chain_w5_l1 signs1 ops1 rec_ fuel1) (x.1) (x.2.1) (x.2.2.1) (x.2.2.2.1) = some r) (fun x _ => x.1) (fun x => [(0, vp b1 0), (1, (Value.func (.func 242) #[vp b1 0] #[])), (2, vs a2 signs1.length c2), (3, vs a3 ops1.length c3), (8, vp b2 0), (9, vp b3 0), (10, vi (x.2.1)), (15, vs a2 signs1.length c2), (16, vi (signs1.length : Int)), (17, vi (x.2.2.1))]) (fu, 0, 0, r3, a12, c18) ⟨_, hI.arr (.c .z (.c .z (.c .z .n))) ⟨.z, (.s (.s (.s (.s .z)))), (.s (.s (.s (.s (.s .z))))), (.s .z), (.s (.s .z)), (.s (.s (.s .z))), (.s (.s (.s (.s (.s (.s .z)))))), trivial⟩, h⟩ ⟨rfl, rfl, rfl, rfl, rfl, rfl, rfl, rfl, rfl, rfl, trivial⟩ ?_
 clear h hI; rintro ⟨fuel2, op2, i1, r6, a21, c37⟩ w14 ⟨c38, hI, h⟩
 dsimp only at hI h
 rcases fuel2 with _ | fuel2
 ·rw [m_parser_reader_chain_w5_l2] at h; cases h
 rw [m_parser_reader_chain_w5_l2] at h
 refine c_sub (e := [(0, vp b1 0), (1, (Value.func (.func 242) #[vp b1 0] #[])), (2, vs a2 signs1.length c2), (3, vs a3 ops1.length c3), (8, vp b2 0), (9, vp b3 0), (10, vi op2), (15, vs a2 signs1.length c2), (16, vi (signs1.length : Int)), (17, vi i1)]) ⟨rfl, rfl, rfl, rfl, rfl, rfl, rfl, rfl, rfl, rfl, trivial⟩ ?_
 refine T ?_
 refine c_seq (cif h et (fun hb h => ?_) (fun hb h => ?_))
 ·refine T ?_
  refine c_join (α := Int × Gparser_reader × (Option Addr) × Nat) (fun _ => ⟨43, []⟩) (fun x => [(0, vp b1 0), (1, (Value.func (.func 242) #[vp b1 0] #[])), (2, vs a2 signs1.length c2), (3, vs a3 ops1.length c3), (8, vp b2 0), (9, vp b3 0), (10, vi (x.1)), (15, vs a2 signs1.length c2), (16, vi (signs1.length : Int)), (17, vi i1)]) (fun x => fun w => ∃ C, Bun C0 F w0 C w [MO.box b1 67 (Aparser_reader (x.2.1) (x.2.2.1) (x.2.2.2)), MO.box b2 39 #[vi 0, (str ([] : List UInt8)), vi 0, vi 0, vi 0, vi 0, vi 0, vi 0, vi 0, vi 0, vs none 0 0, vs none 0 0, vs none 0 0], MO.box b3 39 (AExpr e1 a13 c19 a14 c20 a15 c21)] [Cl.sl cGToken (x.2.2.1) (x.2.2.2) (x.2.1).l, Cl.sl cStr a2 c2 signs1, Cl.sl (cInt .i64) a3 c3 ops1, Cl.sl cGMono a13 c19 e1.Lin.L, Cl.sl cGIndex a14 c20 e1.Idx, Cl.sl cGExpr a15 c21 e1.Args, clSpace] ∧ m_parser_reader_chain_w5_j2 (m_parser_reader_chain_w5_l2 signs1 ops1 e1 rec_ (m_parser_reader_chain_w5_l1 signs1 ops1 rec_ fuel1) fuel2) i1 (x.1) (x.2.1) = some r) ?_ ?_
  ·clear h hI; rintro ⟨op3, r7, a22, c39⟩ w15 ⟨c40, hI, h⟩
   try dsimp only at hI h
   rw [m_parser_reader_chain_w5_j2] at h
   refine c_sub (e := [(0, vp b1 0), (1, (Value.func (.func 242) #[vp b1 0] #[])), (2, vs a2 signs1.length c2), (3, vs a3 ops1.length c3), (8, vp b2 0), (9, vp b3 0), (10, vi op3), (15, vs a2 signs1.length c2), (16, vi (signs1.length : Int)), (17, vi i1)]) ⟨rfl, rfl, rfl, rfl, rfl, rfl, rfl, rfl, rfl, rfl, trivial⟩ ?_
   refine T ?_
   refine s_nil ?_
   exact k_loop (fuel2, op3, wi64 (i1 + 1), r7, a22, c39) ⟨rfl, rfl, rfl, rfl, rfl, rfl, rfl, rfl, rfl, rfl, trivial⟩ ⟨_, hI.arr (.c .z (.c .z (.c .z .n))) ⟨.z, (.s .z), (.s (.s .z)), (.s (.s (.s .z))), (.s (.s (.s (.s .z)))), (.s (.s (.s (.s (.s .z))))), (.s (.s (.s (.s (.s (.s .z)))))), trivial⟩, h⟩ (Nat.lt_succ_self _)
  refine T ?_
  obtain ⟨e2, hx3, h⟩ := bnd_some h
  obtain ⟨ad1, cs1, hA1, hr1, hq1⟩ := hI.clat (.s .z) hx3
  obtain rfl : cs1 = [(str e2)] := hr1
  refine sI ?_
  refine T ?_
  obtain ⟨c41, f3, hB, hl3, hk3⟩ := hI.hands (.l (.r (.r .n)))
  obtain ⟨⟨r8, s3⟩, hx4, h⟩ := bnd_some h
  try dsimp only at h
  refine s_gcall (fun v_ w_ => v_ = (vb r8) ∧ ∃ (a23 : Option Addr), ∃ (c42 : Nat), ∃ C_ : NP, Bun c41 f3 w14 C_ w_ [MO.box b1 67 (Aparser_reader s3 a23 c42)] [Cl.sl cGToken a23 c42 s3.l]) (g_true rfl rfl rfl rfl) rfl (fun hc => (r_callF (vs := [vp b1 0, (str e2)]) rfl ok_68 ⟨(ev_gv et hc), ⟨(ev_gv et hc), trivial⟩⟩)) (fun hc => (c_parser_reader_accept_w c41 f3 w14 r6 e2 b1 a21 c37 (hB.subs ⟨.z, trivial⟩) _ (gdE_t hc hx4)).mono fun e_ w_ hq_ => (let ⟨a23, c42, C_, he_, hB_⟩ := hq_; ⟨_, he_, rfl, a23, c42, C_, hB_⟩)) ?_
  intro v_ w16 h1_ h2_
  obtain ⟨hv_, a23, c42, c43, hB2⟩ : gv (decide (op2 = 0)) v_ = gv (decide (op2 = 0)) (vb r8) ∧ ∃ (a23 : Option Addr), ∃ (c42 : Nat), ∃ C_ : NP, Bun c41 f3 w14 C_ w16 [MO.box b1 67 (Aparser_reader s3 a23 c42)] [Cl.sl cGToken a23 c42 s3.l] := by
   rcases Bool.eq_false_or_eq_true (decide (op2 = 0)) with hc | hc
   ·obtain ⟨rfl, hq_⟩ := h1_ hc; exact ⟨rfl, hq_⟩
   have e1_ := h2_ hc; subst e1_; obtain ⟨rfl, rfl⟩ := gdE_f hc hx4; exact ⟨by rw [gv_neg hc, gv_neg hc], a21, c37, _, hB.subs ⟨.z, trivial⟩⟩
  rw [hv_]; clear h1_ h2_
  obtain ⟨c44, hs3, hI⟩ := hk3 _ _ _ _ hB2
  dsimp only [ca, na] at hI
  refine T ?_
  refine cif h et (fun hb h => ?_) (fun hb h => ?_)
  ·refine T ?_
   obtain ⟨e3, hx5, h⟩ := bnd_some h
   obtain ⟨ad2, cs2, hA2, hr2, hq2⟩ := hI.clat (.s (.s (.s .z))) hx5
   obtain rfl : cs2 = [vi e3] := hr2
   refine sI ?_
   refine T ?_
   refine s_nil ?_
   exact k_join (e3, s3, a23, c42) ⟨rfl, rfl, rfl, rfl, rfl, rfl, rfl, rfl, rfl, rfl, trivial⟩ ⟨_, hI.arr (.c .z (.c .z (.c .z .n))) ⟨.z, (.s (.s .z)), (.s (.s (.s .z))), (.s (.s (.s (.s .z)))), (.s (.s (.s (.s (.s .z))))), (.s (.s (.s (.s (.s (.s .z)))))), (.s (.s (.s (.s (.s (.s (.s .z))))))), trivial⟩, h⟩ rfl
  exact c_skip (k_join (op2, s3, a23, c42) ⟨rfl, rfl, rfl, rfl, rfl, rfl, rfl, rfl, rfl, rfl, trivial⟩ ⟨_, hI.arr (.c .z (.c .z (.c .z .n))) ⟨.z, (.s (.s .z)), (.s (.s (.s .z))), (.s (.s (.s (.s .z)))), (.s (.s (.s (.s (.s .z))))), (.s (.s (.s (.s (.s (.s .z)))))), (.s (.s (.s (.s (.s (.s (.s .z))))))), trivial⟩, h⟩ rfl)
 refine c_exit ?_
 refine k_in ?_
 exact k_join (op2, r6, a21, c37) ⟨rfl, rfl, rfl, rfl, rfl, rfl, rfl, trivial⟩ ⟨_, hI.arr (.c .z (.c .z (.c .z .n))) ⟨.z, (.s .z), (.s (.s .z)), (.s (.s (.s .z))), (.s (.s (.s (.s .z)))), (.s (.s (.s (.s (.s .z))))), (.s (.s (.s (.s (.s (.s .z)))))), trivial⟩, h⟩ rfl
theorem c_parser_reader_product_w (rec_ : (Gparser_reader → Option (Pan (GExpr × Gparser_reader)))) (hrec : ∀ (C0 F : NP) (w0 : World) (r1 : Gparser_reader) (b1 : Nat) (a1 : Option Addr) (c1 : Nat) (hI : Bun C0 F w0 C0 w0 [MO.box b1 67 (Aparser_reader r1 a1 c1)] [Cl.sl cGToken a1 c1 r1.l, clSpace]) (r : Pan (GExpr × Gparser_reader)) (h : rec_ r1 = some r), Calls Tryz.prog 34 #[vp b1 0] w0 fun e w => (∃ rx : GExpr × Gparser_reader, r = .ret rx ∧ ∃ (a2 : Option Addr) (c2 : Nat) (a3 : Option Addr) (c3 : Nat) (a4 : Option Addr) (c4 : Nat) (a5 : Option Addr) (c5 : Nat) (C : NP), e = .returned (Value.agg (AExpr rx.1 a2 c2 a3 c3 a4 c4)) ∧ Bun C0 F w0 C w [MO.box b1 67 (Aparser_reader rx.2 a5 c5)] [Cl.sl cGMono a2 c2 rx.1.Lin.L, Cl.sl cGIndex a3 c3 rx.1.Idx, Cl.sl cGExpr a4 c4 rx.1.Args, Cl.sl cGToken a5 c5 rx.2.l]) ∨ ∃ (pa pn : Int), r = .pan pa pn ∧ e = .panicked [pe 114 pa pn] ∧ ∃ C : NP, Bun C0 F w0 C w [] []) (C0 F : NP) (w0 : World) (r1 : Gparser_reader) (b1 : Nat) (a1 : Option Addr) (c1 : Nat) (hI : Bun C0 F w0 C0 w0 [MO.box b1 67 (Aparser_reader r1 a1 c1)] [Cl.sl cGToken a1 c1 r1.l, clSpace]) (r : Pan (GExpr × Gparser_reader))
  (h : m_parser_reader_product_w rec_ r1 = some r) :
  Calls Tryz.prog 227 #[vp b1 0] w0 fun e w => (∃ rx : GExpr × Gparser_reader, r = .ret rx ∧ ∃ (a2 : Option Addr) (c2 : Nat) (a3 : Option Addr) (c3 : Nat) (a4 : Option Addr) (c4 : Nat) (a5 : Option Addr) (c5 : Nat) (C : NP), e = .returned (Value.agg (AExpr rx.1 a2 c2 a3 c3 a4 c4)) ∧ Bun C0 F w0 C w [MO.box b1 67 (Aparser_reader rx.2 a5 c5)] [Cl.sl cGMono a2 c2 rx.1.Lin.L, Cl.sl cGIndex a3 c3 rx.1.Idx, Cl.sl cGExpr a4 c4 rx.1.Args, Cl.sl cGToken a5 c5 rx.2.l]) ∨ ∃ (pa pn : Int), r = .pan pa pn ∧ e = .panicked [pe 114 pa pn] ∧ ∃ C : NP, Bun C0 F w0 C w [] [] := by
 refine enterP (l := [vp b1 0]) Tryz.func227 rfl Tryz.ntmps227 rfl ?_
 rw [m_parser_reader_product_w] at h
 refine sr (l_alloc (cs := #[vi 0, (str ([] : List UInt8)), vi 0, vi 0, vi 0, vi 0, vi 0, vi 0, vi 0, vi 0, vs none 0 0, vs none 0 0, vs none 0 0]) hI gn rfl rfl zero_39 rfl ?_)
 clear hI; intro b2 c6 w1 hI
 refine T ?_
 refine sq (y_makeBound (vs := [vp b1 0]) rfl rfl ⟨et, trivial⟩) ?_
 refine l_lit (c := cStr) (xs := ([([42] : List UInt8), ([47] : List UInt8)] : List (List UInt8))) (vs := [(0, (str ([42] : List UInt8))), (1, (str ([47] : List UInt8)))]) (cs := #[(str ([42] : List UInt8)), (str ([47] : List UInt8))]) (css := [[(str ([42] : List UInt8))], [(str ([47] : List UInt8))]]) hI gn rfl rfl u50 info_9 rfl ⟨rfl, ev_const, ⟨rfl, ev_const, trivial⟩⟩ (by kernel_rfl) ⟨rfl, ⟨rfl, trivial⟩⟩ rfl rfl rfl ?_
 clear hI; intro b3 c7 w2 hI
 refine l_lit (c := (cInt .i64)) (xs := ([6, 7] : List Int)) (vs := [(0, vi 6), (1, vi 7)]) (cs := #[vi 6, vi 7]) (css := [[vi 6], [vi 7]]) hI gn rfl rfl u123 info_3 rfl ⟨rfl, ev_const, ⟨rfl, ev_const, trivial⟩⟩ (by kernel_rfl) ⟨rfl, ⟨rfl, trivial⟩⟩ rfl rfl rfl ?_
 clear hI; intro b4 c8 w3 hI
 obtain ⟨c9, hI⟩ := hI.release (.s .z)
 obtain ⟨c10, hI⟩ := hI.release .z
 obtain ⟨c11, f1, hB, hl1, hk1⟩ := hI.hands (.r (.l .n))
 refine s_pb h (fun _ hx1 => c_parser_reader_chain_w5 rec_ hrec c11 f1 w3 r1 ([([42] : List UInt8), ([47] : List UInt8)] : List (List UInt8)) ([6, 7] : List Int) b1 a1 c1 (some ⟨b3, 0, none⟩) 2 (some ⟨b4, 0, none⟩) 2 (hB.subs ⟨(.s (.s .z)), (.s .z), .z, (.s (.s (.s .z))), trivial⟩) _ hx1) (pnb hk1) (r_callF rfl ok_74 ⟨et, ⟨et, ⟨et, ⟨et, trivial⟩⟩⟩⟩) ?_
 rintro ⟨r2, s1⟩ hx1 h _ w4 ⟨a6, c12, a7, c13, a8, c14, a9, c15, c16, rfl, hB2⟩
 try dsimp only at h
 obtain ⟨c17, hs1, hI⟩ := hk1 _ _ _ _ hB2
 dsimp only [ca, na] at hI
 refine ⟨_, rfl, ?_⟩
 refine l_store (new := (lExpr r2 a6 c12 a7 c13 a8 c14)) (cs' := (AExpr r2 a6 c12 a7 c13 a8 c14)) hI (.s .z) gn rfl rfl et et rfl size_39 rfl rfl rfl ?_
 clear hI; intro c18 w5 hI
 refine nk (c_ret ?_)
 obtain rfl := some_inj h
 refine QG ?_
 exact .inl ⟨_, rfl, a6, c12, a7, c13, a8, c14, a9, c15, _, rfl, hI.arr GO SU⟩
def tr_parser_reader_chain_w4_3_0 : Tr := (.c (4, .s) (.c (5, .q) (.c (6, .s) .n)))
theorem c_parser_reader_chain_w4 (rec_ : (Gparser_reader → Option (Pan (GExpr × Gparser_reader)))) (hrec : ∀ (C0 F : NP) (w0 : World) (r1 : Gparser_reader) (b1 : Nat) (a1 : Option Addr) (c1 : Nat) (hI : Bun C0 F w0 C0 w0 [MO.box b1 67 (Aparser_reader r1 a1 c1)] [Cl.sl cGToken a1 c1 r1.l, clSpace]) (r : Pan (GExpr × Gparser_reader)) (h : rec_ r1 = some r), Calls Tryz.prog 34 #[vp b1 0] w0 fun e w => (∃ rx : GExpr × Gparser_reader, r = .ret rx ∧ ∃ (a2 : Option Addr) (c2 : Nat) (a3 : Option Addr) (c3 : Nat) (a4 : Option Addr) (c4 : Nat) (a5 : Option Addr) (c5 : Nat) (C : NP), e = .returned (Value.agg (AExpr rx.1 a2 c2 a3 c3 a4 c4)) ∧ Bun C0 F w0 C w [MO.box b1 67 (Aparser_reader rx.2 a5 c5)] [Cl.sl cGMono a2 c2 rx.1.Lin.L, Cl.sl cGIndex a3 c3 rx.1.Idx, Cl.sl cGExpr a4 c4 rx.1.Args, Cl.sl cGToken a5 c5 rx.2.l]) ∨ ∃ (pa pn : Int), r = .pan pa pn ∧ e = .panicked [pe 114 pa pn] ∧ ∃ C : NP, Bun C0 F w0 C w [] []) (C0 F : NP) (w0 : World) (r1 : Gparser_reader) (signs1 : List (List UInt8)) (ops1 : List Int) (b1 : Nat) (a1 : Option Addr) (c1 : Nat) (a2 : Option Addr) (c2 : Nat) (a3 : Option Addr) (c3 : Nat) (hI : Bun C0 F w0 C0 w0 [MO.box b1 67 (Aparser_reader r1 a1 c1)] [Cl.sl cGToken a1 c1 r1.l, Cl.sl cStr a2 c2 signs1, Cl.sl (cInt .i64) a3 c3 ops1, clSpace]) (r : Pan (GExpr × Gparser_reader))
  (h : m_parser_reader_chain_w4 rec_ r1 signs1 ops1 = some r) :
  Calls Tryz.prog 74 #[vp b1 0, (Value.func (.func 227) #[vp b1 0] #[]), vs a2 signs1.length c2, vs a3 ops1.length c3] w0 fun e w => (∃ rx : GExpr × Gparser_reader, r = .ret rx ∧ ∃ (a4 : Option Addr) (c4 : Nat) (a5 : Option Addr) (c5 : Nat) (a6 : Option Addr) (c6 : Nat) (a7 : Option Addr) (c7 : Nat) (C : NP), e = .returned (Value.agg (AExpr rx.1 a4 c4 a5 c5 a6 c6)) ∧ Bun C0 F w0 C w [MO.box b1 67 (Aparser_reader rx.2 a7 c7)] [Cl.sl cGMono a4 c4 rx.1.Lin.L, Cl.sl cGIndex a5 c5 rx.1.Idx, Cl.sl cGExpr a6 c6 rx.1.Args, Cl.sl cGToken a7 c7 rx.2.l]) ∨ ∃ (pa pn : Int), r = .pan pa pn ∧ e = .panicked [pe 114 pa pn] ∧ ∃ C : NP, Bun C0 F w0 C w [] [] := by
 refine enterP (l := [vp b1 0, (Value.func (.func 227) #[vp b1 0] #[]), vs a2 signs1.length c2, vs a3 ops1.length c3]) Tryz.func74 rfl Tryz.ntmps74 rfl ?_
 rw [m_parser_reader_chain_w4] at h
 refine sr (l_alloc (cs := #[vi 0, (str ([] : List UInt8)), vi 0, vi 0, vi 0, vi 0, vi 0, vi 0, vi 0, vi 0, vs none 0 0, vs none 0 0, vs none 0 0]) hI gn rfl rfl zero_39 rfl ?_)
 clear hI; intro b2 c8 w1 hI
 refine T ?_
 obtain ⟨c9, f1, hB, hl1, hk1⟩ := hI.hands (.r (.l .n))
 refine s_pb h (fun _ hx1 => c_parser_reader_product_w rec_ hrec c9 f1 w1 r1 b1 a1 c1 (hB.subs ⟨.z, (.s (.s (.s .z))), trivial⟩) _ hx1) (pnb hk1) (r_call (fs := [vp b1 0]) (vs := []) (cap := []) rfl et ok_227 trivial) ?_
 rintro ⟨r2, s1⟩ hx1 h _ w2 ⟨a8, c10, a9, c11, a10, c12, a11, c13, c14, rfl, hB2⟩
 try dsimp only at h
 obtain ⟨c15, hs1, hI⟩ := hk1 _ _ _ _ hB2
 dsimp only [ca, na] at hI
 refine ⟨_, rfl, ?_⟩
 refine l_alloc (cs := #[vi 0, (str ([] : List UInt8)), vi 0, vi 0, vi 0, vi 0, vi 0, vi 0, vi 0, vi 0, vs none 0 0, vs none 0 0, vs none 0 0]) hI gn rfl rfl zero_39 rfl ?_
 clear hI; intro b3 c16 w3 hI
 refine l_store (new := (lExpr r2 a8 c10 a9 c11 a10 c12)) (cs' := (AExpr r2 a8 c10 a9 c11 a10 c12)) hI .z gn rfl rfl et et rfl size_39 rfl rfl rfl ?_
 clear hI; intro c17 w4 hI
 refine T ?_
 refine c_loop (α := Nat × Gparser_reader × GExpr × (Option Addr) × Nat × (Option Addr) × Nat × (Option Addr) × Nat × (Option Addr) × Nat) (fun x => fun w => ∃ C, Bun C0 F w0 C w [MO.box b1 67 (Aparser_reader (x.2.1) (x.2.2.2.1) (x.2.2.2.2.1)), MO.box b2 39 #[vi 0, (str ([] : List UInt8)), vi 0, vi 0, vi 0, vi 0, vi 0, vi 0, vi 0, vi 0, vs none 0 0, vs none 0 0, vs none 0 0], MO.box b3 39 (AExpr (x.2.2.1) (x.2.2.2.2.2.1) (x.2.2.2.2.2.2.1) (x.2.2.2.2.2.2.2.1) (x.2.2.2.2.2.2.2.2.1) (x.2.2.2.2.2.2.2.2.2.1) (x.2.2.2.2.2.2.2.2.2.2))] [Cl.sl cGToken (x.2.2.2.1) (x.2.2.2.2.1) (x.2.1).l, Cl.sl cGMono (x.2.2.2.2.2.1) (x.2.2.2.2.2.2.1) (x.2.2.1).Lin.L, Cl.sl cGIndex (x.2.2.2.2.2.2.2.1) (x.2.2.2.2.2.2.2.2.1) (x.2.2.1).Idx, Cl.sl cGExpr (x.2.2.2.2.2.2.2.2.2.1) (x.2.2.2.2.2.2.2.2.2.2) (x.2.2.1).Args, Cl.sl cStr a2 c2 signs1, Cl.sl (cInt .i64) a3 c3 ops1, clSpace] ∧ m_parser_reader_chain_w4_l1 signs1 ops1 rec_ (x.1) (x.2.1) (x.2.2.1) = some r) (fun x _ => x.1) (fun x => [(0, vp b1 0), (1, (Value.func (.func 227) #[vp b1 0] #[])), (2, vs a2 signs1.length c2), (3, vs a3 ops1.length c3), (8, vp b2 0), (9, vp b3 0)]) (fu, s1, r2, a11, c13, a8, c10, a9, c11, a10, c12) ⟨_, hI.arr (.c (.s .z) (.c (.s .z) (.c .z .n))) ⟨(.s (.s (.s .z))), .z, (.s .z), (.s (.s .z)), (.s (.s (.s (.s (.s .z))))), (.s (.s (.s (.s (.s (.s .z)))))), (.s (.s (.s (.s (.s (.s (.s .z))))))), trivial⟩, h⟩ ⟨rfl, rfl, rfl, rfl, rfl, rfl, trivial⟩ ?_
 clear h hI; rintro ⟨fuel1, r3, e1, a12, c18, a13, c19, a14, c20, a15, c21⟩ w5 ⟨c22, hI, h⟩
 dsimp only at hI h
 rcases fuel1 with _ | fuel1
 ·rw [m_parser_reader_chain_w4_l1] at h; cases h
 rw [m_parser_reader_chain_w4_l1] at h
 refine c_sub (e := [(0, vp b1 0), (1, (Value.func (.func 227) #[vp b1 0] #[])), (2, vs a2 signs1.length c2), (3, vs a3 ops1.length c3), (8, vp b2 0), (9, vp b3 0)]) ⟨rfl, rfl, rfl, rfl, rfl, rfl, trivial⟩ ?_
 refine T ?_
 refine c_join (α := Int × Gparser_reader × (Option Addr) × Nat) (fun _ => ⟨43, []⟩) (fun x => [(0, vp b1 0), (1, (Value.func (.func 227) #[vp b1 0] #[])), (2, vs a2 signs1.length c2), (3, vs a3 ops1.length c3), (8, vp b2 0), (9, vp b3 0), (10, vi (x.1))]) (fun x => fun w => ∃ C, Bun C0 F w0 C w [MO.box b1 67 (Aparser_reader (x.2.1) (x.2.2.1) (x.2.2.2)), MO.box b2 39 #[vi 0, (str ([] : List UInt8)), vi 0, vi 0, vi 0, vi 0, vi 0, vi 0, vi 0, vi 0, vs none 0 0, vs none 0 0, vs none 0 0], MO.box b3 39 (AExpr e1 a13 c19 a14 c20 a15 c21)] [Cl.sl cGToken (x.2.2.1) (x.2.2.2) (x.2.1).l, Cl.sl cStr a2 c2 signs1, Cl.sl (cInt .i64) a3 c3 ops1, Cl.sl cGMono a13 c19 e1.Lin.L, Cl.sl cGIndex a14 c20 e1.Idx, Cl.sl cGExpr a15 c21 e1.Args, clSpace] ∧ m_parser_reader_chain_w4_j1 e1 rec_ (m_parser_reader_chain_w4_l1 signs1 ops1 rec_ fuel1) (x.1) (x.2.1) = some r) ?_ ?_
 ·clear h hI; rintro ⟨op1, r4, a16, c23⟩ w6 ⟨c24, hI, h⟩
  try dsimp only at hI h
  rw [m_parser_reader_chain_w4_j1] at h
  refine c_sub (e := [(0, vp b1 0), (1, (Value.func (.func 227) #[vp b1 0] #[])), (2, vs a2 signs1.length c2), (3, vs a3 ops1.length c3), (8, vp b2 0), (9, vp b3 0), (10, vi op1)]) ⟨rfl, rfl, rfl, rfl, rfl, rfl, rfl, trivial⟩ ?_
  refine c_seq (T ?_)
  refine cif h et (fun hb h => ?_) (fun hb h => ?_)
  ·refine T ?_
   refine l_store (new := (lExpr e1 a13 c19 a14 c20 a15 c21)) (cs' := (AExpr e1 a13 c19 a14 c20 a15 c21)) hI (.s .z) gn rfl rfl et et rfl size_39 rfl rfl rfl ?_
   clear hI; intro c25 w7 hI
   refine nk (c_ret ?_)
   obtain rfl := some_inj h
   exact q_ret (vs := [(Value.agg (AExpr e1 a13 c19 a14 c20 a15 c21))]) Tryz.results74 ⟨⟨_, ev_tmp rfl rfl, load_agg (l := (lExpr e1 a13 c19 a14 c20 a15 c21)) u39 rfl size_39 (CellsAt.of_blk (hI.blk (.s .z)) rfl)⟩, trivial⟩ (.inl ⟨_, rfl, a13, c19, a14, c20, a15, c21, a16, c23, _, rfl, hI.arr (.c .z .n) ⟨(.s (.s (.s .z))), (.s (.s (.s (.s .z)))), (.s (.s (.s (.s (.s .z))))), .z, trivial⟩⟩)
  refine T ?_
  rcases pb_some h with ⟨⟨r5, s2⟩, hx2, h⟩ | ⟨pa_, pn_, hx2, hp_⟩
  rotate_left
  ·subst hp_
   refine c_drawX [3, 6] false (.c (0, .q) (.c (2, .q) (.two 1 (.c (3, .s) tr_parser_reader_chain_w4_3_0) 3 (.c (1, .s) tr_parser_reader_chain_w4_3_0)))) hI (by kernel_rfl) (by kernel_rfl) ?_
   clear hI; intro w12 hI
   refine V ?_
   refine a_two ?_ ?_
   ·skip
    refine a_val rfl gn rfl (y_loadN (l := (lExpr e1 a13 c19 a14 c20 a15 c21)) rfl et u39 rfl size_39 (CellsAt.of_blk (hI.blk (.s (.s .z))) rfl)) SX.self ?_
    refine a_turn (F := F) (C := c24) rfl rfl ?_
    obtain ⟨c26, f2, hB, hl2, hk2⟩ := hI.hands (.l (.r (.r .n)))
    refine la_callP rfl gn rfl (r_call (fs := [vp b1 0]) (vs := []) (cap := []) rfl et ok_227 trivial) (Calls.mono (c_parser_reader_product_w rec_ hrec c26 f2 w12 r4 b1 a16 c23 (hB.subs ⟨.z, (.s (.s (.s (.s (.s (.s .z)))))), trivial⟩) _ hx2) ?_)
    intro e_ w_ hq_; obtain ⟨rfl, C_, hB_⟩ := pan_of hq_; obtain ⟨C9_, -, hI_⟩ := hk2 _ _ _ _ hB_; exact .inr ⟨_, rfl, kp_of (.inr ⟨_, _, rfl, rfl, ⟨_, hI_.arr .n trivial⟩⟩)⟩
   refine a_turnT (F := F) (C := c24) rfl rfl ?_
   obtain ⟨c26, f2, hB, hl2, hk2⟩ := hI.hands (.l (.r (.r .n)))
   refine la_callP rfl gn rfl (r_call (fs := [vp b1 0]) (vs := []) (cap := []) rfl et ok_227 trivial) (Calls.mono (c_parser_reader_product_w rec_ hrec c26 f2 w12 r4 b1 a16 c23 (hB.subs ⟨.z, (.s (.s (.s (.s (.s (.s .z)))))), trivial⟩) _ hx2) ?_)
   intro e_ w_ hq_; obtain ⟨rfl, C_, hB_⟩ := pan_of hq_; obtain ⟨C9_, -, hI_⟩ := hk2 _ _ _ _ hB_; exact .inr ⟨_, rfl, kp_of (.inr ⟨_, _, rfl, rfl, ⟨_, hI_.arr .n trivial⟩⟩)⟩
  try dsimp only at h
  refine c_drawX [3, 6] false (.c (0, .q) (.c (2, .q) (.two 1 (.c (3, .s) tr_parser_reader_chain_w4_3_0) 3 (.c (1, .s) tr_parser_reader_chain_w4_3_0)))) hI (by kernel_rfl) (by kernel_rfl) ?_
  clear hI; intro w13 hI
  refine a_join (α := (Option Addr) × Nat × (Option Addr) × Nat × (Option Addr) × Nat × (Option Addr) × Nat × NP) (T := tr_parser_reader_chain_w4_3_0) (fun x => [(0, vp b1 0), (1, (Value.func (.func 227) #[vp b1 0] #[])), (2, vs a2 signs1.length c2), (3, vs a3 ops1.length c3), (8, vp b2 0), (9, vp b3 0), (10, vi op1), (34, vi op1), (35, (vb (decide (op1 = 0)))), (37, vi op1), (38, (Value.agg (AExpr e1 a13 c19 a14 c20 a15 c21))), (39, (Value.func (.func 227) #[vp b1 0] #[])), (40, (Value.agg (AExpr r5 (x.1) (x.2.1) (x.2.2.1) (x.2.2.2.1) (x.2.2.2.2.1) (x.2.2.2.2.2.1))))]) (fun x w => Bun C0 F w0 (x.2.2.2.2.2.2.2.2) w [MO.box b1 67 (Aparser_reader s2 (x.2.2.2.2.2.2.1) (x.2.2.2.2.2.2.2.1)), MO.box b2 39 #[vi 0, (str ([] : List UInt8)), vi 0, vi 0, vi 0, vi 0, vi 0, vi 0, vi 0, vi 0, vs none 0 0, vs none 0 0, vs none 0 0], MO.box b3 39 (AExpr e1 a13 c19 a14 c20 a15 c21)] [Cl.sl cGMono (x.1) (x.2.1) r5.Lin.L, Cl.sl cGIndex (x.2.2.1) (x.2.2.2.1) r5.Idx, Cl.sl cGExpr (x.2.2.2.2.1) (x.2.2.2.2.2.1) r5.Args, Cl.sl cGToken (x.2.2.2.2.2.2.1) (x.2.2.2.2.2.2.2.1) s2.l, Cl.sl cGToken a16 c23 r4.l, Cl.sl cStr a2 c2 signs1, Cl.sl (cInt .i64) a3 c3 ops1, Cl.sl cGMono a13 c19 e1.Lin.L, Cl.sl cGIndex a14 c20 e1.Idx, Cl.sl cGExpr a15 c21 e1.Args, clSpace]) (fun x w => SN [] (DM true F (x.2.2.2.2.2.2.2.2)) w) ?_ ?_
  ·clear hI; rintro ⟨a17, c27, a18, c28, a19, c29, a20, c30, c35⟩ w11 hI
   try dsimp only at hI ⊢
   unfold tr_parser_reader_chain_w4_3_0
   refine la_lit (c := cGExpr) (xs := ([e1, r5] : List GExpr)) (vs := [(0, (Value.agg (AExpr e1 a13 c19 a14 c20 a15 c21))), (1, (Value.agg (AExpr r5 a17 c27 a18 c28 a19 c29)))]) (cs := #[vi e1.Op, (str e1.Name), vi e1.Val.N, vi e1.Val.D, vi e1.Type_.Kind, vi e1.Type_.Bits, vi e1.Type_.Frac, vi e1.Type_.Round, vi e1.Type_.Over, vi e1.Lin.K, vs a13 e1.Lin.L.length c19, vs a14 e1.Idx.length c20, vs a15 e1.Args.length c21, vi r5.Op, (str r5.Name), vi r5.Val.N, vi r5.Val.D, vi r5.Type_.Kind, vi r5.Type_.Bits, vi r5.Type_.Frac, vi r5.Type_.Round, vi r5.Type_.Over, vi r5.Lin.K, vs a17 r5.Lin.L.length c27, vs a18 r5.Idx.length c28, vs a19 r5.Args.length c29]) (css := [(lExpr e1 a13 c19 a14 c20 a15 c21), (lExpr r5 a17 c27 a18 c28 a19 c29)]) hI rfl gn rfl rfl u37 info_39 rfl ⟨rfl, et, ⟨rfl, et, trivial⟩⟩ (by kernel_rfl) ⟨(cGExpr_in ⟨a13, c19, a14, c20, a15, c21, rfl, hI.get (.s (.s (.s (.s (.s (.s (.s .z))))))), hI.get (.s (.s (.s (.s (.s (.s (.s (.s .z)))))))), hI.get (.s (.s (.s (.s (.s (.s (.s (.s (.s .z)))))))))⟩), ⟨(cGExpr_in ⟨a17, c27, a18, c28, a19, c29, rfl, hI.get .z, hI.get (.s .z), hI.get (.s (.s .z))⟩), trivial⟩⟩ rfl rfl rfl ?_
   clear hI; intro b4 c33 w9 hI
   refine a_q rfl gn rfl (fun w' => (y_build (vs := [(0, vi op1), (6, vs (some ⟨b4, 0, none⟩) ([e1, r5] : List GExpr).length 2)]) (cs := #[vi op1, (str ([] : List UInt8)), vi 0, vi 0, vi 0, vi 0, vi 0, vi 0, vi 0, vi 0, vs none 0 0, vs none 0 0, vs (some ⟨b4, 0, none⟩) ([e1, r5] : List GExpr).length 2]) rfl ⟨rfl, et, ⟨rfl, et, trivial⟩⟩ (by kernel_rfl))) ?_
   refine la_store (new := [vi op1, (str ([] : List UInt8)), vi 0, vi 0, vi 0, vi 0, vi 0, vi 0, vi 0, vi 0, vs none 0 0, vs none 0 0, vs (some ⟨b4, 0, none⟩) ([e1, r5] : List GExpr).length 2]) (cs' := #[vi op1, (str ([] : List UInt8)), vi 0, vi 0, vi 0, vi 0, vi 0, vi 0, vi 0, vi 0, vs none 0 0, vs none 0 0, vs (some ⟨b4, 0, none⟩) ([e1, r5] : List GExpr).length 2]) hI (.s (.s (.s .z))) rfl gn rfl rfl et et rfl size_39 rfl rfl rfl ?_
   clear hI; intro c34 w10 hI
   refine a_nil ?_
   have hI := hI.add (c := Cl.sl cGMono none 0 ([] : List GMono)) SlC.nil
   have hI := hI.add (c := Cl.sl cGIndex none 0 ([] : List GIndex)) SlC.nil
   obtain ⟨c36, hI⟩ := hI.release .z
   exact k_loop (fuel1, s2, (⟨op1, ([] : List UInt8), (⟨0, 0⟩ : GVal), (⟨0, 0, 0, 0, 0⟩ : GType), (⟨0, ([] : List GMono)⟩ : GLin), ([] : List GIndex), ([e1, r5] : List GExpr)⟩ : GExpr), a20, c30, none, 0, none, 0, some ⟨b4, 0, none⟩, 2) ⟨rfl, rfl, rfl, rfl, rfl, rfl, trivial⟩ ⟨_, hI.arr (.c .z (.c .z (.c .z .n))) ⟨(.s (.s (.s (.s (.s (.s .z)))))), (.s (.s .z)), (.s .z), .z, (.s (.s (.s (.s (.s (.s (.s (.s .z)))))))), (.s (.s (.s (.s (.s (.s (.s (.s (.s .z))))))))), (.s (.s (.s (.s (.s (.s (.s (.s (.s (.s (.s (.s (.s .z))))))))))))), trivial⟩, h⟩ (Nat.lt_succ_self _)
  intro hk_tr_parser_reader_chain_w4_3_0
  refine V ?_
  refine a_two ?_ ?_
  ·skip
   refine a_val rfl gn rfl (y_loadN (l := (lExpr e1 a13 c19 a14 c20 a15 c21)) rfl et u39 rfl size_39 (CellsAt.of_blk (hI.blk (.s (.s .z))) rfl)) SX.self ?_
   refine a_turn (F := F) (C := c24) rfl rfl ?_
   obtain ⟨c26, f2, hB, hl2, hk2⟩ := hI.hands (.l (.r (.r .n)))
   refine la_callX rfl gn rfl (r_call (fs := [vp b1 0]) (vs := []) (cap := []) rfl et ok_227 trivial) (Calls.mono (c_parser_reader_product_w rec_ hrec c26 f2 w13 r4 b1 a16 c23 (hB.subs ⟨.z, (.s (.s (.s (.s (.s (.s .z)))))), trivial⟩) _ hx2) ?_)
   intro e_ w8 hq_; obtain ⟨a17, c27, a18, c28, a19, c29, a20, c30, c31, rfl, hB2⟩ := ret_of hq_
   obtain ⟨c32, hs2, hI⟩ := hk2 _ _ _ _ hB2
   dsimp only [ca, na] at hI
   refine ⟨_, rfl, DM true F c32, hs2, ?_⟩
   exact a_sub (hk_tr_parser_reader_chain_w4_3_0 (a17, c27, a18, c28, a19, c29, a20, c30, c32) _ (hI.arr (.c .z (.c .z (.c .z .n))) ⟨.z, (.s .z), (.s (.s .z)), (.s (.s (.s .z))), (.s (.s (.s (.s .z)))), (.s (.s (.s (.s (.s .z))))), (.s (.s (.s (.s (.s (.s .z)))))), (.s (.s (.s (.s (.s (.s (.s .z))))))), (.s (.s (.s (.s (.s (.s (.s (.s .z)))))))), (.s (.s (.s (.s (.s (.s (.s (.s (.s .z))))))))), (.s (.s (.s (.s (.s (.s (.s (.s (.s (.s .z)))))))))), trivial⟩)) ⟨rfl, rfl, rfl, rfl, rfl, rfl, rfl, rfl, rfl, rfl, rfl, rfl, rfl, trivial⟩
  refine a_turnT (F := F) (C := c24) rfl rfl ?_
  obtain ⟨c26, f2, hB, hl2, hk2⟩ := hI.hands (.l (.r (.r .n)))
  refine la_callX rfl gn rfl (r_call (fs := [vp b1 0]) (vs := []) (cap := []) rfl et ok_227 trivial) (Calls.mono (c_parser_reader_product_w rec_ hrec c26 f2 w13 r4 b1 a16 c23 (hB.subs ⟨.z, (.s (.s (.s (.s (.s (.s .z)))))), trivial⟩) _ hx2) ?_)
  intro e_ w8 hq_; obtain ⟨a17, c27, a18, c28, a19, c29, a20, c30, c31, rfl, hB2⟩ := ret_of hq_
  obtain ⟨c32, hs2, hI⟩ := hk2 _ _ _ _ hB2
  dsimp only [ca, na] at hI
  refine ⟨_, rfl, DM true F c32, hs2, ?_⟩
  refine a_val rfl gn rfl (y_loadN (l := (lExpr e1 a13 c19 a14 c20 a15 c21)) rfl et u39 rfl size_39 (CellsAt.of_blk (hI.blk (.s (.s .z))) rfl)) SX.self ?_
  exact a_sub (hk_tr_parser_reader_chain_w4_3_0 (a17, c27, a18, c28, a19, c29, a20, c30, c32) _ (hI.arr (.c .z (.c .z (.c .z .n))) ⟨.z, (.s .z), (.s (.s .z)), (.s (.s (.s .z))), (.s (.s (.s (.s .z)))), (.s (.s (.s (.s (.s .z))))), (.s (.s (.s (.s (.s (.s .z)))))), (.s (.s (.s (.s (.s (.s (.s .z))))))), (.s (.s (.s (.s (.s (.s (.s (.s .z)))))))), (.s (.s (.s (.s (.s (.s (.s (.s (.s .z))))))))), (.s (.s (.s (.s (.s (.s (.s (.s (.s (.s .z)))))))))), trivial⟩)) ⟨rfl, rfl, rfl, rfl, rfl, rfl, rfl, rfl, rfl, rfl, rfl, rfl, rfl, trivial⟩
 refine T ?_
 refine c_loop (α := Nat × Int × Int × Gparser_reader × (Option Addr) × Nat) (fun x => fun w => ∃ C, Bun C0 F w0 C w [MO.box b1 67 (Aparser_reader (x.2.2.2.1) (x.2.2.2.2.1) (x.2.2.2.2.2)), MO.box b2 39 #[vi 0, (str ([] : List UInt8)), vi 0, vi 0, vi 0, vi 0, vi 0, vi 0, vi 0, vi 0, vs none 0 0, vs none 0 0, vs none 0 0], MO.box b3 39 (AExpr e1 a13 c19 a14 c20 a15 c21)] [Cl.sl cGToken (x.2.2.2.2.1) (x.2.2.2.2.2) (x.2.2.2.1).l, Cl.sl cStr a2 c2 signs1, Cl.sl (cInt .i64) a3 c3 ops1, Cl.sl cGMono a13 c19 e1.Lin.L, Cl.sl cGIndex a14 c20 e1.Idx, Cl.sl cGExpr a15 c21 e1.Args, clSpace] ∧ m_parser_reader_chain_w4_l2 signs1 ops1 e1 rec_ (m_parser_reader_chain_w4_l1 signs1 ops1 rec_ fuel1) (x.1) (x.2.1) (x.2.2.1) (x.2.2.2.1) = some r) (fun x _ => x.1) (fun x => [(0, vp b1 0), (1, (Value.func (.func 227) #[vp b1 0] #[])), (2, vs a2 signs1.length c2), (3, vs a3 ops1.length c3), (8, vp b2 0), (9, vp b3 0), (10, vi (x.2.1)), (15, vs a2 signs1.length c2), (16, vi (signs1.length : Int)), (17, vi (x.2.2.1))]) (fu, 0, 0, r3, a12, c18) ⟨_, hI.arr (.c .z (.c .z (.c .z .n))) ⟨.z, (.s (.s (.s (.s .z)))), (.s (.s (.s (.s (.s .z))))), (.s .z), (.s (.s .z)), (.s (.s (.s .z))), (.s (.s (.s (.s (.s (.s .z)))))), trivial⟩, h⟩ ⟨rfl, rfl, rfl, rfl, rfl, rfl, rfl, rfl, rfl, rfl, trivial⟩ ?_
 clear h hI; rintro ⟨fuel2, op2, i1, r6, a21, c37⟩ w14 ⟨c38, hI, h⟩
 dsimp only at hI h
 rcases fuel2 with _ | fuel2
 ·rw [m_parser_reader_chain_w4_l2] at h; cases h
 rw [m_parser_reader_chain_w4_l2] at h
 refine c_sub (e := [(0, vp b1 0), (1, (Value.func (.func 227) #[vp b1 0] #[])), (2, vs a2 signs1.length c2), (3, vs a3 ops1.length c3), (8, vp b2 0), (9, vp b3 0), (10, vi op2), (15, vs a2 signs1.length c2), (16, vi (signs1.length : Int)), (17, vi i1)]) ⟨rfl, rfl, rfl, rfl, rfl, rfl, rfl, rfl, rfl, rfl, trivial⟩ ?_
 refine T ?_
 refine c_seq (cif h et (fun hb h => ?_) (fun hb h => ?_))
 ·refine T ?_
  refine c_join (α := Int × Gparser_reader × (Option Addr) × Nat) (fun _ => ⟨43, []⟩) (fun x => [(0, vp b1 0), (1, (Value.func (.func 227) #[vp b1 0] #[])), (2, vs a2 signs1.length c2), (3, vs a3 ops1.length c3), (8, vp b2 0), (9, vp b3 0), (10, vi (x.1)), (15, vs a2 signs1.length c2), (16, vi (signs1.length : Int)), (17, vi i1)]) (fun x => fun w => ∃ C, Bun C0 F w0 C w [MO.box b1 67 (Aparser_reader (x.2.1) (x.2.2.1) (x.2.2.2)), MO.box b2 39 #[vi 0, (str ([] : List UInt8)), vi 0, vi 0, vi 0, vi 0, vi 0, vi 0, vi 0, vi 0, vs none 0 0, vs none 0 0, vs none 0 0], MO.box b3 39 (AExpr e1 a13 c19 a14 c20 a15 c21)] [Cl.sl cGToken (x.2.2.1) (x.2.2.2) (x.2.1).l, Cl.sl cStr a2 c2 signs1, Cl.sl (cInt .i64) a3 c3 ops1, Cl.sl cGMono a13 c19 e1.Lin.L, Cl.sl cGIndex a14 c20 e1.Idx, Cl.sl cGExpr a15 c21 e1.Args, clSpace] ∧ m_parser_reader_chain_w4_j2 (m_parser_reader_chain_w4_l2 signs1 ops1 e1 rec_ (m_parser_reader_chain_w4_l1 signs1 ops1 rec_ fuel1) fuel2) i1 (x.1) (x.2.1) = some r) ?_ ?_
  ·clear h hI; rintro ⟨op3, r7, a22, c39⟩ w15 ⟨c40, hI, h⟩
   try dsimp only at hI h
   rw [m_parser_reader_chain_w4_j2] at h
   refine c_sub (e := [(0, vp b1 0), (1, (Value.func (.func 227) #[vp b1 0] #[])), (2, vs a2 signs1.length c2), (3, vs a3 ops1.length c3), (8, vp b2 0), (9, vp b3 0), (10, vi op3), (15, vs a2 signs1.length c2), (16, vi (signs1.length : Int)), (17, vi i1)]) ⟨rfl, rfl, rfl, rfl, rfl, rfl, rfl, rfl, rfl, rfl, trivial⟩ ?_
   refine T ?_
   refine s_nil ?_
   exact k_loop (fuel2, op3, wi64 (i1 + 1), r7, a22, c39) ⟨rfl, rfl, rfl, rfl, rfl, rfl, rfl, rfl, rfl, rfl, trivial⟩ ⟨_, hI.arr (.c .z (.c .z (.c .z .n))) ⟨.z, (.s .z), (.s (.s .z)), (.s (.s (.s .z))), (.s (.s (.s (.s .z)))), (.s (.s (.s (.s (.s .z))))), (.s (.s (.s (.s (.s (.s .z)))))), trivial⟩, h⟩ (Nat.lt_succ_self _)
  refine T ?_
  obtain ⟨e2, hx3, h⟩ := bnd_some h
  obtain ⟨ad1, cs1, hA1, hr1, hq1⟩ := hI.clat (.s .z) hx3
  obtain rfl : cs1 = [(str e2)] := hr1
  refine sI ?_
  refine T ?_
  obtain ⟨c41, f3, hB, hl3, hk3⟩ := hI.hands (.l (.r (.r .n)))
  obtain ⟨⟨r8, s3⟩, hx4, h⟩ := bnd_some h
  try dsimp only at h
  refine s_gcall (fun v_ w_ => v_ = (vb r8) ∧ ∃ (a23 : Option Addr), ∃ (c42 : Nat), ∃ C_ : NP, Bun c41 f3 w14 C_ w_ [MO.box b1 67 (Aparser_reader s3 a23 c42)] [Cl.sl cGToken a23 c42 s3.l]) (g_true rfl rfl rfl rfl) rfl (fun hc => (r_callF (vs := [vp b1 0, (str e2)]) rfl ok_68 ⟨(ev_gv et hc), ⟨(ev_gv et hc), trivial⟩⟩)) (fun hc => (c_parser_reader_accept_w c41 f3 w14 r6 e2 b1 a21 c37 (hB.subs ⟨.z, trivial⟩) _ (gdE_t hc hx4)).mono fun e_ w_ hq_ => (let ⟨a23, c42, C_, he_, hB_⟩ := hq_; ⟨_, he_, rfl, a23, c42, C_, hB_⟩)) ?_
  intro v_ w16 h1_ h2_
  obtain ⟨hv_, a23, c42, c43, hB2⟩ : gv (decide (op2 = 0)) v_ = gv (decide (op2 = 0)) (vb r8) ∧ ∃ (a23 : Option Addr), ∃ (c42 : Nat), ∃ C_ : NP, Bun c41 f3 w14 C_ w16 [MO.box b1 67 (Aparser_reader s3 a23 c42)] [Cl.sl cGToken a23 c42 s3.l] := by
   rcases Bool.eq_false_or_eq_true (decide (op2 = 0)) with hc | hc
   ·obtain ⟨rfl, hq_⟩ := h1_ hc; exact ⟨rfl, hq_⟩
   have e1_ := h2_ hc; subst e1_; obtain ⟨rfl, rfl⟩ := gdE_f hc hx4; exact ⟨by rw [gv_neg hc, gv_neg hc], a21, c37, _, hB.subs ⟨.z, trivial⟩⟩
  rw [hv_]; clear h1_ h2_
  obtain ⟨c44, hs3, hI⟩ := hk3 _ _ _ _ hB2
  dsimp only [ca, na] at hI
  refine T ?_
  refine cif h et (fun hb h => ?_) (fun hb h => ?_)
  ·refine T ?_
   obtain ⟨e3, hx5, h⟩ := bnd_some h
   obtain ⟨ad2, cs2, hA2, hr2, hq2⟩ := hI.clat (.s (.s (.s .z))) hx5
   obtain rfl : cs2 = [vi e3] := hr2
   refine sI ?_
   refine T ?_
   refine s_nil ?_
   exact k_join (e3, s3, a23, c42) ⟨rfl, rfl, rfl, rfl, rfl, rfl, rfl, rfl, rfl, rfl, trivial⟩ ⟨_, hI.arr (.c .z (.c .z (.c .z .n))) ⟨.z, (.s (.s .z)), (.s (.s (.s .z))), (.s (.s (.s (.s .z)))), (.s (.s (.s (.s (.s .z))))), (.s (.s (.s (.s (.s (.s .z)))))), (.s (.s (.s (.s (.s (.s (.s .z))))))), trivial⟩, h⟩ rfl
  exact c_skip (k_join (op2, s3, a23, c42) ⟨rfl, rfl, rfl, rfl, rfl, rfl, rfl, rfl, rfl, rfl, trivial⟩ ⟨_, hI.arr (.c .z (.c .z (.c .z .n))) ⟨.z, (.s (.s .z)), (.s (.s (.s .z))), (.s (.s (.s (.s .z)))), (.s (.s (.s (.s (.s .z))))), (.s (.s (.s (.s (.s (.s .z)))))), (.s (.s (.s (.s (.s (.s (.s .z))))))), trivial⟩, h⟩ rfl)
 refine c_exit ?_
 refine k_in ?_
 exact k_join (op2, r6, a21, c37) ⟨rfl, rfl, rfl, rfl, rfl, rfl, rfl, trivial⟩ ⟨_, hI.arr (.c .z (.c .z (.c .z .n))) ⟨.z, (.s .z), (.s (.s .z)), (.s (.s (.s .z))), (.s (.s (.s (.s .z)))), (.s (.s (.s (.s (.s .z))))), (.s (.s (.s (.s (.s (.s .z)))))), trivial⟩, h⟩ rfl
theorem c_parser_reader_sum_w (rec_ : (Gparser_reader → Option (Pan (GExpr × Gparser_reader)))) (hrec : ∀ (C0 F : NP) (w0 : World) (r1 : Gparser_reader) (b1 : Nat) (a1 : Option Addr) (c1 : Nat) (hI : Bun C0 F w0 C0 w0 [MO.box b1 67 (Aparser_reader r1 a1 c1)] [Cl.sl cGToken a1 c1 r1.l, clSpace]) (r : Pan (GExpr × Gparser_reader)) (h : rec_ r1 = some r), Calls Tryz.prog 34 #[vp b1 0] w0 fun e w => (∃ rx : GExpr × Gparser_reader, r = .ret rx ∧ ∃ (a2 : Option Addr) (c2 : Nat) (a3 : Option Addr) (c3 : Nat) (a4 : Option Addr) (c4 : Nat) (a5 : Option Addr) (c5 : Nat) (C : NP), e = .returned (Value.agg (AExpr rx.1 a2 c2 a3 c3 a4 c4)) ∧ Bun C0 F w0 C w [MO.box b1 67 (Aparser_reader rx.2 a5 c5)] [Cl.sl cGMono a2 c2 rx.1.Lin.L, Cl.sl cGIndex a3 c3 rx.1.Idx, Cl.sl cGExpr a4 c4 rx.1.Args, Cl.sl cGToken a5 c5 rx.2.l]) ∨ ∃ (pa pn : Int), r = .pan pa pn ∧ e = .panicked [pe 114 pa pn] ∧ ∃ C : NP, Bun C0 F w0 C w [] []) (C0 F : NP) (w0 : World) (r1 : Gparser_reader) (b1 : Nat) (a1 : Option Addr) (c1 : Nat) (hI : Bun C0 F w0 C0 w0 [MO.box b1 67 (Aparser_reader r1 a1 c1)] [Cl.sl cGToken a1 c1 r1.l, clSpace]) (r : Pan (GExpr × Gparser_reader))
  (h : m_parser_reader_sum_w rec_ r1 = some r) :
  Calls Tryz.prog 193 #[vp b1 0] w0 fun e w => (∃ rx : GExpr × Gparser_reader, r = .ret rx ∧ ∃ (a2 : Option Addr) (c2 : Nat) (a3 : Option Addr) (c3 : Nat) (a4 : Option Addr) (c4 : Nat) (a5 : Option Addr) (c5 : Nat) (C : NP), e = .returned (Value.agg (AExpr rx.1 a2 c2 a3 c3 a4 c4)) ∧ Bun C0 F w0 C w [MO.box b1 67 (Aparser_reader rx.2 a5 c5)] [Cl.sl cGMono a2 c2 rx.1.Lin.L, Cl.sl cGIndex a3 c3 rx.1.Idx, Cl.sl cGExpr a4 c4 rx.1.Args, Cl.sl cGToken a5 c5 rx.2.l]) ∨ ∃ (pa pn : Int), r = .pan pa pn ∧ e = .panicked [pe 114 pa pn] ∧ ∃ C : NP, Bun C0 F w0 C w [] [] := by
 refine enterP (l := [vp b1 0]) Tryz.func193 rfl Tryz.ntmps193 rfl ?_
 rw [m_parser_reader_sum_w] at h
 refine sr (l_alloc (cs := #[vi 0, (str ([] : List UInt8)), vi 0, vi 0, vi 0, vi 0, vi 0, vi 0, vi 0, vi 0, vs none 0 0, vs none 0 0, vs none 0 0]) hI gn rfl rfl zero_39 rfl ?_)
 clear hI; intro b2 c6 w1 hI
 refine T ?_
 refine sq (y_makeBound (vs := [vp b1 0]) rfl rfl ⟨et, trivial⟩) ?_
 refine l_lit (c := cStr) (xs := ([([43] : List UInt8), ([45] : List UInt8)] : List (List UInt8))) (vs := [(0, (str ([43] : List UInt8))), (1, (str ([45] : List UInt8)))]) (cs := #[(str ([43] : List UInt8)), (str ([45] : List UInt8))]) (css := [[(str ([43] : List UInt8))], [(str ([45] : List UInt8))]]) hI gn rfl rfl u50 info_9 rfl ⟨rfl, ev_const, ⟨rfl, ev_const, trivial⟩⟩ (by kernel_rfl) ⟨rfl, ⟨rfl, trivial⟩⟩ rfl rfl rfl ?_
 clear hI; intro b3 c7 w2 hI
 refine l_lit (c := (cInt .i64)) (xs := ([4, 5] : List Int)) (vs := [(0, vi 4), (1, vi 5)]) (cs := #[vi 4, vi 5]) (css := [[vi 4], [vi 5]]) hI gn rfl rfl u123 info_3 rfl ⟨rfl, ev_const, ⟨rfl, ev_const, trivial⟩⟩ (by kernel_rfl) ⟨rfl, ⟨rfl, trivial⟩⟩ rfl rfl rfl ?_
 clear hI; intro b4 c8 w3 hI
 obtain ⟨c9, hI⟩ := hI.release (.s .z)
 obtain ⟨c10, hI⟩ := hI.release .z
 obtain ⟨c11, f1, hB, hl1, hk1⟩ := hI.hands (.r (.l .n))
 refine s_pb h (fun _ hx1 => c_parser_reader_chain_w4 rec_ hrec c11 f1 w3 r1 ([([43] : List UInt8), ([45] : List UInt8)] : List (List UInt8)) ([4, 5] : List Int) b1 a1 c1 (some ⟨b3, 0, none⟩) 2 (some ⟨b4, 0, none⟩) 2 (hB.subs ⟨(.s (.s .z)), (.s .z), .z, (.s (.s (.s .z))), trivial⟩) _ hx1) (pnb hk1) (r_callF rfl ok_74 ⟨et, ⟨et, ⟨et, ⟨et, trivial⟩⟩⟩⟩) ?_
 rintro ⟨r2, s1⟩ hx1 h _ w4 ⟨a6, c12, a7, c13, a8, c14, a9, c15, c16, rfl, hB2⟩
 try dsimp only at h
 obtain ⟨c17, hs1, hI⟩ := hk1 _ _ _ _ hB2
 dsimp only [ca, na] at hI
 refine ⟨_, rfl, ?_⟩
 refine l_store (new := (lExpr r2 a6 c12 a7 c13 a8 c14)) (cs' := (AExpr r2 a6 c12 a7 c13 a8 c14)) hI (.s .z) gn rfl rfl et et rfl size_39 rfl rfl rfl ?_
 clear hI; intro c18 w5 hI
 refine nk (c_ret ?_)
 obtain rfl := some_inj h
 refine QG ?_
 exact .inl ⟨_, rfl, a6, c12, a7, c13, a8, c14, a9, c15, _, rfl, hI.arr GO SU⟩
def tr_parser_reader_chain_w3_3_0 : Tr := (.c (4, .s) (.c (5, .q) (.c (6, .s) .n)))
theorem c_parser_reader_chain_w3 (rec_ : (Gparser_reader → Option (Pan (GExpr × Gparser_reader)))) (hrec : ∀ (C0 F : NP) (w0 : World) (r1 : Gparser_reader) (b1 : Nat) (a1 : Option Addr) (c1 : Nat) (hI : Bun C0 F w0 C0 w0 [MO.box b1 67 (Aparser_reader r1 a1 c1)] [Cl.sl cGToken a1 c1 r1.l, clSpace]) (r : Pan (GExpr × Gparser_reader)) (h : rec_ r1 = some r), Calls Tryz.prog 34 #[vp b1 0] w0 fun e w => (∃ rx : GExpr × Gparser_reader, r = .ret rx ∧ ∃ (a2 : Option Addr) (c2 : Nat) (a3 : Option Addr) (c3 : Nat) (a4 : Option Addr) (c4 : Nat) (a5 : Option Addr) (c5 : Nat) (C : NP), e = .returned (Value.agg (AExpr rx.1 a2 c2 a3 c3 a4 c4)) ∧ Bun C0 F w0 C w [MO.box b1 67 (Aparser_reader rx.2 a5 c5)] [Cl.sl cGMono a2 c2 rx.1.Lin.L, Cl.sl cGIndex a3 c3 rx.1.Idx, Cl.sl cGExpr a4 c4 rx.1.Args, Cl.sl cGToken a5 c5 rx.2.l]) ∨ ∃ (pa pn : Int), r = .pan pa pn ∧ e = .panicked [pe 114 pa pn] ∧ ∃ C : NP, Bun C0 F w0 C w [] []) (C0 F : NP) (w0 : World) (r1 : Gparser_reader) (signs1 : List (List UInt8)) (ops1 : List Int) (b1 : Nat) (a1 : Option Addr) (c1 : Nat) (a2 : Option Addr) (c2 : Nat) (a3 : Option Addr) (c3 : Nat) (hI : Bun C0 F w0 C0 w0 [MO.box b1 67 (Aparser_reader r1 a1 c1)] [Cl.sl cGToken a1 c1 r1.l, Cl.sl cStr a2 c2 signs1, Cl.sl (cInt .i64) a3 c3 ops1, clSpace]) (r : Pan (GExpr × Gparser_reader))
  (h : m_parser_reader_chain_w3 rec_ r1 signs1 ops1 = some r) :
  Calls Tryz.prog 74 #[vp b1 0, (Value.func (.func 193) #[vp b1 0] #[]), vs a2 signs1.length c2, vs a3 ops1.length c3] w0 fun e w => (∃ rx : GExpr × Gparser_reader, r = .ret rx ∧ ∃ (a4 : Option Addr) (c4 : Nat) (a5 : Option Addr) (c5 : Nat) (a6 : Option Addr) (c6 : Nat) (a7 : Option Addr) (c7 : Nat) (C : NP), e = .returned (Value.agg (AExpr rx.1 a4 c4 a5 c5 a6 c6)) ∧ Bun C0 F w0 C w [MO.box b1 67 (Aparser_reader rx.2 a7 c7)] [Cl.sl cGMono a4 c4 rx.1.Lin.L, Cl.sl cGIndex a5 c5 rx.1.Idx, Cl.sl cGExpr a6 c6 rx.1.Args, Cl.sl cGToken a7 c7 rx.2.l]) ∨ ∃ (pa pn : Int), r = .pan pa pn ∧ e = .panicked [pe 114 pa pn] ∧ ∃ C : NP, Bun C0 F w0 C w [] [] := by
 refine enterP (l := [vp b1 0, (Value.func (.func 193) #[vp b1 0] #[]), vs a2 signs1.length c2, vs a3 ops1.length c3]) Tryz.func74 rfl Tryz.ntmps74 rfl ?_
 rw [m_parser_reader_chain_w3] at h
 refine sr (l_alloc (cs := #[vi 0, (str ([] : List UInt8)), vi 0, vi 0, vi 0, vi 0, vi 0, vi 0, vi 0, vi 0, vs none 0 0, vs none 0 0, vs none 0 0]) hI gn rfl rfl zero_39 rfl ?_)
 clear hI; intro b2 c8 w1 hI
 refine T ?_
 obtain ⟨c9, f1, hB, hl1, hk1⟩ := hI.hands (.r (.l .n))
 refine s_pb h (fun _ hx1 => c_parser_reader_sum_w rec_ hrec c9 f1 w1 r1 b1 a1 c1 (hB.subs ⟨.z, (.s (.s (.s .z))), trivial⟩) _ hx1) (pnb hk1) (r_call (fs := [vp b1 0]) (vs := []) (cap := []) rfl et ok_193 trivial) ?_
 rintro ⟨r2, s1⟩ hx1 h _ w2 ⟨a8, c10, a9, c11, a10, c12, a11, c13, c14, rfl, hB2⟩
 try dsimp only at h
 obtain ⟨c15, hs1, hI⟩ := hk1 _ _ _ _ hB2
 dsimp only [ca, na] at hI
 refine ⟨_, rfl, ?_⟩
 refine l_alloc (cs := #[vi 0, (str ([] : List UInt8)), vi 0, vi 0, vi 0, vi 0, vi 0, vi 0, vi 0, vi 0, vs none 0 0, vs none 0 0, vs none 0 0]) hI gn rfl rfl zero_39 rfl ?_
 clear hI; intro b3 c16 w3 hI
 refine l_store (new := (lExpr r2 a8 c10 a9 c11 a10 c12)) (cs' := (AExpr r2 a8 c10 a9 c11 a10 c12)) hI .z gn rfl rfl et et rfl size_39 rfl rfl rfl ?_
 clear hI; intro c17 w4 hI
 refine T ?_
 refine c_loop (α := Nat × Gparser_reader × GExpr × (Option Addr) × Nat × (Option Addr) × Nat × (Option Addr) × Nat × (Option Addr) × Nat) (fun x => fun w => ∃ C, Bun C0 F w0 C w [MO.box b1 67 (Aparser_reader (x.2.1) (x.2.2.2.1) (x.2.2.2.2.1)), MO.box b2 39 #[vi 0, (str ([] : List UInt8)), vi 0, vi 0, vi 0, vi 0, vi 0, vi 0, vi 0, vi 0, vs none 0 0, vs none 0 0, vs none 0 0], MO.box b3 39 (AExpr (x.2.2.1) (x.2.2.2.2.2.1) (x.2.2.2.2.2.2.1) (x.2.2.2.2.2.2.2.1) (x.2.2.2.2.2.2.2.2.1) (x.2.2.2.2.2.2.2.2.2.1) (x.2.2.2.2.2.2.2.2.2.2))] [Cl.sl cGToken (x.2.2.2.1) (x.2.2.2.2.1) (x.2.1).l, Cl.sl cGMono (x.2.2.2.2.2.1) (x.2.2.2.2.2.2.1) (x.2.2.1).Lin.L, Cl.sl cGIndex (x.2.2.2.2.2.2.2.1) (x.2.2.2.2.2.2.2.2.1) (x.2.2.1).Idx, Cl.sl cGExpr (x.2.2.2.2.2.2.2.2.2.1) (x.2.2.2.2.2.2.2.2.2.2) (x.2.2.1).Args, Cl.sl cStr a2 c2 signs1, Cl.sl (cInt .i64) a3 c3 ops1, clSpace] ∧ m_parser_reader_chain_w3_l1 signs1 ops1 rec_ (x.1) (x.2.1) (x.2.2.1) = some r) (fun x _ => x.1) (fun x => [(0, vp b1 0), (1, (Value.func (.func 193) #[vp b1 0] #[])), (2, vs a2 signs1.length c2), (3, vs a3 ops1.length c3), (8, vp b2 0), (9, vp b3 0)]) (fu, s1, r2, a11, c13, a8, c10, a9, c11, a10, c12) ⟨_, hI.arr (.c (.s .z) (.c (.s .z) (.c .z .n))) ⟨(.s (.s (.s .z))), .z, (.s .z), (.s (.s .z)), (.s (.s (.s (.s (.s .z))))), (.s (.s (.s (.s (.s (.s .z)))))), (.s (.s (.s (.s (.s (.s (.s .z))))))), trivial⟩, h⟩ ⟨rfl, rfl, rfl, rfl, rfl, rfl, trivial⟩ ?_
 clear h hI; rintro ⟨fuel1, r3, e1, a12, c18, a13, c19, a14, c20, a15, c21⟩ w5 ⟨c22, hI, h⟩
 dsimp only at hI h
 rcases fuel1 with _ | fuel1
 ·rw [m_parser_reader_chain_w3_l1] at h; cases h
 rw [m_parser_reader_chain_w3_l1] at h
 refine c_sub (e := [(0, vp b1 0), (1, (Value.func (.func 193) #[vp b1 0] #[])), (2, vs a2 signs1.length c2), (3, vs a3 ops1.length c3), (8, vp b2 0), (9, vp b3 0)]) ⟨rfl, rfl, rfl, rfl, rfl, rfl, trivial⟩ ?_
 refine T ?_
 refine c_join (α := Int × Gparser_reader × (Option Addr) × Nat) (fun _ => ⟨43, []⟩) (fun x => [(0, vp b1 0), (1, (Value.func (.func 193) #[vp b1 0] #[])), (2, vs a2 signs1.length c2), (3, vs a3 ops1.length c3), (8, vp b2 0), (9, vp b3 0), (10, vi (x.1))]) (fun x => fun w => ∃ C, Bun C0 F w0 C w [MO.box b1 67 (Aparser_reader (x.2.1) (x.2.2.1) (x.2.2.2)), MO.box b2 39 #[vi 0, (str ([] : List UInt8)), vi 0, vi 0, vi 0, vi 0, vi 0, vi 0, vi 0, vi 0, vs none 0 0, vs none 0 0, vs none 0 0], MO.box b3 39 (AExpr e1 a13 c19 a14 c20 a15 c21)] [Cl.sl cGToken (x.2.2.1) (x.2.2.2) (x.2.1).l, Cl.sl cStr a2 c2 signs1, Cl.sl (cInt .i64) a3 c3 ops1, Cl.sl cGMono a13 c19 e1.Lin.L, Cl.sl cGIndex a14 c20 e1.Idx, Cl.sl cGExpr a15 c21 e1.Args, clSpace] ∧ m_parser_reader_chain_w3_j1 e1 rec_ (m_parser_reader_chain_w3_l1 signs1 ops1 rec_ fuel1) (x.1) (x.2.1) = some r) ?_ ?_
 ·clear h hI; rintro ⟨op1, r4, a16, c23⟩ w6 ⟨c24, hI, h⟩
  try dsimp only at hI h
  rw [m_parser_reader_chain_w3_j1] at h
  refine c_sub (e := [(0, vp b1 0), (1, (Value.func (.func 193) #[vp b1 0] #[])), (2, vs a2 signs1.length c2), (3, vs a3 ops1.length c3), (8, vp b2 0), (9, vp b3 0), (10, vi op1)]) ⟨rfl, rfl, rfl, rfl, rfl, rfl, rfl, trivial⟩ ?_
  refine c_seq (T ?_)
  refine cif h et (fun hb h => ?_) (fun hb h => ?_)
  ·refine T ?_
   refine l_store (new := (lExpr e1 a13 c19 a14 c20 a15 c21)) (cs' := (AExpr e1 a13 c19 a14 c20 a15 c21)) hI (.s .z) gn rfl rfl et et rfl size_39 rfl rfl rfl ?_
   clear hI; intro c25 w7 hI
   refine nk (c_ret ?_)
   obtain rfl := some_inj h
   exact q_ret (vs := [(Value.agg (AExpr e1 a13 c19 a14 c20 a15 c21))]) Tryz.results74 ⟨⟨_, ev_tmp rfl rfl, load_agg (l := (lExpr e1 a13 c19 a14 c20 a15 c21)) u39 rfl size_39 (CellsAt.of_blk (hI.blk (.s .z)) rfl)⟩, trivial⟩ (.inl ⟨_, rfl, a13, c19, a14, c20, a15, c21, a16, c23, _, rfl, hI.arr (.c .z .n) ⟨(.s (.s (.s .z))), (.s (.s (.s (.s .z)))), (.s (.s (.s (.s (.s .z))))), .z, trivial⟩⟩)
  refine T ?_
  rcases pb_some h with ⟨⟨r5, s2⟩, hx2, h⟩ | ⟨pa_, pn_, hx2, hp_⟩
  rotate_left
  ·subst hp_
   refine c_drawX [3, 6] false (.c (0, .q) (.c (2, .q) (.two 1 (.c (3, .s) tr_parser_reader_chain_w3_3_0) 3 (.c (1, .s) tr_parser_reader_chain_w3_3_0)))) hI (by kernel_rfl) (by kernel_rfl) ?_
   clear hI; intro w12 hI
   refine V ?_
   refine a_two ?_ ?_
   ·skip
    refine a_val rfl gn rfl (y_loadN (l := (lExpr e1 a13 c19 a14 c20 a15 c21)) rfl et u39 rfl size_39 (CellsAt.of_blk (hI.blk (.s (.s .z))) rfl)) SX.self ?_
    refine a_turn (F := F) (C := c24) rfl rfl ?_
    obtain ⟨c26, f2, hB, hl2, hk2⟩ := hI.hands (.l (.r (.r .n)))
    refine la_callP rfl gn rfl (r_call (fs := [vp b1 0]) (vs := []) (cap := []) rfl et ok_193 trivial) (Calls.mono (c_parser_reader_sum_w rec_ hrec c26 f2 w12 r4 b1 a16 c23 (hB.subs ⟨.z, (.s (.s (.s (.s (.s (.s .z)))))), trivial⟩) _ hx2) ?_)
    intro e_ w_ hq_; obtain ⟨rfl, C_, hB_⟩ := pan_of hq_; obtain ⟨C9_, -, hI_⟩ := hk2 _ _ _ _ hB_; exact .inr ⟨_, rfl, kp_of (.inr ⟨_, _, rfl, rfl, ⟨_, hI_.arr .n trivial⟩⟩)⟩
   refine a_turnT (F := F) (C := c24) rfl rfl ?_
   obtain ⟨c26, f2, hB, hl2, hk2⟩ := hI.hands (.l (.r (.r .n)))
   refine la_callP rfl gn rfl (r_call (fs := [vp b1 0]) (vs := []) (cap := []) rfl et ok_193 trivial) (Calls.mono (c_parser_reader_sum_w rec_ hrec c26 f2 w12 r4 b1 a16 c23 (hB.subs ⟨.z, (.s (.s (.s (.s (.s (.s .z)))))), trivial⟩) _ hx2) ?_)
   intro e_ w_ hq_; obtain ⟨rfl, C_, hB_⟩ := pan_of hq_; obtain ⟨C9_, -, hI_⟩ := hk2 _ _ _ _ hB_; exact .inr ⟨_, rfl, kp_of (.inr ⟨_, _, rfl, rfl, ⟨_, hI_.arr .n trivial⟩⟩)⟩
  try dsimp only at h
  refine c_drawX [3, 6] false (.c (0, .q) (.c (2, .q) (.two 1 (.c (3, .s) tr_parser_reader_chain_w3_3_0) 3 (.c (1, .s) tr_parser_reader_chain_w3_3_0)))) hI (by kernel_rfl) (by kernel_rfl) ?_
  clear hI; intro w13 hI
  refine a_join (α := (Option Addr) × Nat × (Option Addr) × Nat × (Option Addr) × Nat × (Option Addr) × Nat × NP) (T := tr_parser_reader_chain_w3_3_0) (fun x => [(0, vp b1 0), (1, (Value.func (.func 193) #[vp b1 0] #[])), (2, vs a2 signs1.length c2), (3, vs a3 ops1.length c3), (8, vp b2 0), (9, vp b3 0), (10, vi op1), (34, vi op1), (35, (vb (decide (op1 = 0)))), (37, vi op1), (38, (Value.agg (AExpr e1 a13 c19 a14 c20 a15 c21))), (39, (Value.func (.func 193) #[vp b1 0] #[])), (40, (Value.agg (AExpr r5 (x.1) (x.2.1) (x.2.2.1) (x.2.2.2.1) (x.2.2.2.2.1) (x.2.2.2.2.2.1))))]) (fun x w => Bun C0 F w0 (x.2.2.2.2.2.2.2.2) w [MO.box b1 67 (Aparser_reader s2 (x.2.2.2.2.2.2.1) (x.2.2.2.2.2.2.2.1)), MO.box b2 39 #[vi 0, (str ([] : List UInt8)), vi 0, vi 0, vi 0, vi 0, vi 0, vi 0, vi 0, vi 0, vs none 0 0, vs none 0 0, vs none 0 0], MO.box b3 39 (AExpr e1 a13 c19 a14 c20 a15 c21)] [Cl.sl cGMono (x.1) (x.2.1) r5.Lin.L, Cl.sl cGIndex (x.2.2.1) (x.2.2.2.1) r5.Idx, Cl.sl cGExpr (x.2.2.2.2.1) (x.2.2.2.2.2.1) r5.Args, Cl.sl cGToken (x.2.2.2.2.2.2.1) (x.2.2.2.2.2.2.2.1) s2.l, Cl.sl cGToken a16 c23 r4.l, Cl.sl cStr a2 c2 signs1, Cl.sl (cInt .i64) a3 c3 ops1, Cl.sl cGMono a13 c19 e1.Lin.L, Cl.sl cGIndex a14 c20 e1.Idx, Cl.sl cGExpr a15 c21 e1.Args, clSpace]) (fun x w => SN [] (DM true F (x.2.2.2.2.2.2.2.2)) w) ?_ ?_
  ·clear hI; rintro ⟨a17, c27, a18, c28, a19, c29, a20, c30, c35⟩ w11 hI
   try dsimp only at hI ⊢
   unfold tr_parser_reader_chain_w3_3_0
   refine la_lit (c := cGExpr) (xs := ([e1, r5] : List GExpr)) (vs := [(0, (Value.agg (AExpr e1 a13 c19 a14 c20 a15 c21))), (1, (Value.agg (AExpr r5 a17 c27 a18 c28 a19 c29)))]) (cs := #[vi e1.Op, (str e1.Name), vi e1.Val.N, vi e1.Val.D, vi e1.Type_.Kind, vi e1.Type_.Bits, vi e1.Type_.Frac, vi e1.Type_.Round, vi e1.Type_.Over, vi e1.Lin.K, vs a13 e1.Lin.L.length c19, vs a14 e1.Idx.length c20, vs a15 e1.Args.length c21, vi r5.Op, (str r5.Name), vi r5.Val.N, vi r5.Val.D, vi r5.Type_.Kind, vi r5.Type_.Bits, vi r5.Type_.Frac, vi r5.Type_.Round, vi r5.Type_.Over, vi r5.Lin.K, vs a17 r5.Lin.L.length c27, vs a18 r5.Idx.length c28, vs a19 r5.Args.length c29]) (css := [(lExpr e1 a13 c19 a14 c20 a15 c21), (lExpr r5 a17 c27 a18 c28 a19 c29)]) hI rfl gn rfl rfl u37 info_39 rfl ⟨rfl, et, ⟨rfl, et, trivial⟩⟩ (by kernel_rfl) ⟨(cGExpr_in ⟨a13, c19, a14, c20, a15, c21, rfl, hI.get (.s (.s (.s (.s (.s (.s (.s .z))))))), hI.get (.s (.s (.s (.s (.s (.s (.s (.s .z)))))))), hI.get (.s (.s (.s (.s (.s (.s (.s (.s (.s .z)))))))))⟩), ⟨(cGExpr_in ⟨a17, c27, a18, c28, a19, c29, rfl, hI.get .z, hI.get (.s .z), hI.get (.s (.s .z))⟩), trivial⟩⟩ rfl rfl rfl ?_
   clear hI; intro b4 c33 w9 hI
   refine a_q rfl gn rfl (fun w' => (y_build (vs := [(0, vi op1), (6, vs (some ⟨b4, 0, none⟩) ([e1, r5] : List GExpr).length 2)]) (cs := #[vi op1, (str ([] : List UInt8)), vi 0, vi 0, vi 0, vi 0, vi 0, vi 0, vi 0, vi 0, vs none 0 0, vs none 0 0, vs (some ⟨b4, 0, none⟩) ([e1, r5] : List GExpr).length 2]) rfl ⟨rfl, et, ⟨rfl, et, trivial⟩⟩ (by kernel_rfl))) ?_
   refine la_store (new := [vi op1, (str ([] : List UInt8)), vi 0, vi 0, vi 0, vi 0, vi 0, vi 0, vi 0, vi 0, vs none 0 0, vs none 0 0, vs (some ⟨b4, 0, none⟩) ([e1, r5] : List GExpr).length 2]) (cs' := #[vi op1, (str ([] : List UInt8)), vi 0, vi 0, vi 0, vi 0, vi 0, vi 0, vi 0, vi 0, vs none 0 0, vs none 0 0, vs (some ⟨b4, 0, none⟩) ([e1, r5] : List GExpr).length 2]) hI (.s (.s (.s .z))) rfl gn rfl rfl et et rfl size_39 rfl rfl rfl ?_
   clear hI; intro c34 w10 hI
   refine a_nil ?_
   have hI := hI.add (c := Cl.sl cGMono none 0 ([] : List GMono)) SlC.nil
   have hI := hI.add (c := Cl.sl cGIndex none 0 ([] : List GIndex)) SlC.nil
   obtain ⟨c36, hI⟩ := hI.release .z
   exact k_loop (fuel1, s2, (⟨op1, ([] : List UInt8), (⟨0, 0⟩ : GVal), (⟨0, 0, 0, 0, 0⟩ : GType), (⟨0, ([] : List GMono)⟩ : GLin), ([] : List GIndex), ([e1, r5] : List GExpr)⟩ : GExpr), a20, c30, none, 0, none, 0, some ⟨b4, 0, none⟩, 2) ⟨rfl, rfl, rfl, rfl, rfl, rfl, trivial⟩ ⟨_, hI.arr (.c .z (.c .z (.c .z .n))) ⟨(.s (.s (.s (.s (.s (.s .z)))))), (.s (.s .z)), (.s .z), .z, (.s (.s (.s (.s (.s (.s (.s (.s .z)))))))), (.s (.s (.s (.s (.s (.s (.s (.s (.s .z))))))))), (.s (.s (.s (.s (.s (.s (.s (.s (.s (.s (.s (.s (.s .z))))))))))))), trivial⟩, h⟩ (Nat.lt_succ_self _)
  intro hk_tr_parser_reader_chain_w3_3_0
  refine V ?_
  refine a_two ?_ ?_
  ·skip
   refine a_val rfl gn rfl (y_loadN (l := (lExpr e1 a13 c19 a14 c20 a15 c21)) rfl et u39 rfl size_39 (CellsAt.of_blk (hI.blk (.s (.s .z))) rfl)) SX.self ?_
   refine a_turn (F := F) (C := c24) rfl rfl ?_
   obtain ⟨c26, f2, hB, hl2, hk2⟩ := hI.hands (.l (.r (.r .n)))
   refine la_callX rfl gn rfl (r_call (fs := [vp b1 0]) (vs := []) (cap := []) rfl et ok_193 trivial) (Calls.mono (c_parser_reader_sum_w rec_ hrec c26 f2 w13 r4 b1 a16 c23 (hB.subs ⟨.z, (.s (.s (.s (.s (.s (.s .z)))))), trivial⟩) _ hx2) ?_)
   intro e_ w8 hq_; obtain ⟨a17, c27, a18, c28, a19, c29, a20, c30, c31, rfl, hB2⟩ := ret_of hq_
   obtain ⟨c32, hs2, hI⟩ := hk2 _ _ _ _ hB2
   dsimp only [ca, na] at hI
   refine ⟨_, rfl, DM true F c32, hs2, ?_⟩
   exact a_sub (hk_tr_parser_reader_chain_w3_3_0 (a17, c27, a18, c28, a19, c29, a20, c30, c32) _ (hI.arr (.c .z (.c .z (.c .z .n))) ⟨.z, (.s .z), (.s (.s .z)), (.s (.s (.s .z))), (.s (.s (.s (.s .z)))), (.s (.s (.s (.s (.s .z))))), (.s (.s (.s (.s (.s (.s .z)))))), (.s (.s (.s (.s (.s (.s (.s .z))))))), (.s (.s (.s (.s (.s (.s (.s (.s .z)))))))), (.s (.s (.s (.s (.s (.s (.s (.s (.s .z))))))))), (.s (.s (.s (.s (.s (.s (.s (.s (.s (.s .z)))))))))), trivial⟩)) ⟨rfl, rfl, rfl, rfl, rfl, rfl, rfl, rfl, rfl, rfl, rfl, rfl, rfl, trivial⟩
  refine a_turnT (F := F) (C := c24) rfl rfl ?_
  obtain ⟨c26, f2, hB, hl2, hk2⟩ := hI.hands (.l (.r (.r .n)))
  refine la_callX rfl gn rfl (r_call (fs := [vp b1 0]) (vs := []) (cap := []) rfl et ok_193 trivial) (Calls.mono (c_parser_reader_sum_w rec_ hrec c26 f2 w13 r4 b1 a16 c23 (hB.subs ⟨.z, (.s (.s (.s (.s (.s (.s .z)))))), trivial⟩) _ hx2) ?_)
  intro e_ w8 hq_; obtain ⟨a17, c27, a18, c28, a19, c29, a20, c30, c31, rfl, hB2⟩ := ret_of hq_
  obtain ⟨c32, hs2, hI⟩ := hk2 _ _ _ _ hB2
  dsimp only [ca, na] at hI
  refine ⟨_, rfl, DM true F c32, hs2, ?_⟩
  refine a_val rfl gn rfl (y_loadN (l := (lExpr e1 a13 c19 a14 c20 a15 c21)) rfl et u39 rfl size_39 (CellsAt.of_blk (hI.blk (.s (.s .z))) rfl)) SX.self ?_
  exact a_sub (hk_tr_parser_reader_chain_w3_3_0 (a17, c27, a18, c28, a19, c29, a20, c30, c32) _ (hI.arr (.c .z (.c .z (.c .z .n))) ⟨.z, (.s .z), (.s (.s .z)), (.s (.s (.s .z))), (.s (.s (.s (.s .z)))), (.s (.s (.s (.s (.s .z))))), (.s (.s (.s (.s (.s (.s .z)))))), (.s (.s (.s (.s (.s (.s (.s .z))))))), (.s (.s (.s (.s (.s (.s (.s (.s .z)))))))), (.s (.s (.s (.s (.s (.s (.s (.s (.s .z))))))))), (.s (.s (.s (.s (.s (.s (.s (.s (.s (.s .z)))))))))), trivial⟩)) ⟨rfl, rfl, rfl, rfl, rfl, rfl, rfl, rfl, rfl, rfl, rfl, rfl, rfl, trivial⟩
 refine T ?_
 refine c_loop (α := Nat × Int × Int × Gparser_reader × (Option Addr) × Nat) (fun x => fun w => ∃ C, Bun C0 F w0 C w [MO.box b1 67 (Aparser_reader (x.2.2.2.1) (x.2.2.2.2.1) (x.2.2.2.2.2)), MO.box b2 39 #[vi 0, (str ([] : List UInt8)), vi 0, vi 0, vi 0, vi 0, vi 0, vi 0, vi 0, vi 0, vs none 0 0, vs none 0 0, vs none 0 0], MO.box b3 39 (AExpr e1 a13 c19 a14 c20 a15 c21)] [Cl.sl cGToken (x.2.2.2.2.1) (x.2.2.2.2.2) (x.2.2.2.1).l, Cl.sl cStr a2 c2 signs1, Cl.sl (cInt .i64) a3 c3 ops1, Cl.sl cGMono a13 c19 e1.Lin.L, Cl.sl cGIndex a14 c20 e1.Idx, Cl.sl cGExpr a15 c21 e1.Args, clSpace] ∧ m_parser_reader_chain_w3_l2 signs1 ops1 e1 rec_ (m_parser_reader_chain_w3_l1 signs1 ops1 rec_ fuel1) (x.1) (x.2.1) (x.2.2.1) (x.2.2.2.1) = some r) (fun x _ => x.1) (fun x => [(0, vp b1 0), (1, (Value.func (.func 193) #[vp b1 0] #[])), (2, vs a2 signs1.length c2), (3, vs a3 ops1.length c3), (8, vp b2 0), (9, vp b3 0), (10, vi (x.2.1)), (15, vs a2 signs1.length c2), (16, vi (signs1.length : Int)), (17, vi (x.2.2.1))]) (fu, 0, 0, r3, a12, c18) ⟨_, hI.arr (.c .z (.c .z (.c .z .n))) ⟨.z, (.s (.s (.s (.s .z)))), (.s (.s (.s (.s (.s .z))))), (.s .z), (.s (.s .z)), (.s (.s (.s .z))), (.s (.s (.s (.s (.s (.s .z)))))), trivial⟩, h⟩ ⟨rfl, rfl, rfl, rfl, rfl, rfl, rfl, rfl, rfl, rfl, trivial⟩ ?_
 clear h hI; rintro ⟨fuel2, op2, i1, r6, a21, c37⟩ w14 ⟨c38, hI, h⟩
 dsimp only at hI h
 rcases fuel2 with _ | fuel2
 ·rw [m_parser_reader_chain_w3_l2] at h; cases h
 rw [m_parser_reader_chain_w3_l2] at h
 refine c_sub (e := [(0, vp b1 0), (1, (Value.func (.func 193) #[vp b1 0] #[])), (2, vs a2 signs1.length c2), (3, vs a3 ops1.length c3), (8, vp b2 0), (9, vp b3 0), (10, vi op2), (15, vs a2 signs1.length c2), (16, vi (signs1.length : Int)), (17, vi i1)]) ⟨rfl, rfl, rfl, rfl, rfl, rfl, rfl, rfl, rfl, rfl, trivial⟩ ?_
 refine T ?_
 refine c_seq (cif h et (fun hb h => ?_) (fun hb h => ?_))
 ·refine T ?_
  refine c_join (α := Int × Gparser_reader × (Option Addr) × Nat) (fun _ => ⟨43, []⟩) (fun x => [(0, vp b1 0), (1, (Value.func (.func 193) #[vp b1 0] #[])), (2, vs a2 signs1.length c2), (3, vs a3 ops1.length c3), (8, vp b2 0), (9, vp b3 0), (10, vi (x.1)), (15, vs a2 signs1.length c2), (16, vi (signs1.length : Int)), (17, vi i1)]) (fun x => fun w => ∃ C, Bun C0 F w0 C w [MO.box b1 67 (Aparser_reader (x.2.1) (x.2.2.1) (x.2.2.2)), MO.box b2 39 #[vi 0, (str ([] : List UInt8)), vi 0, vi 0, vi 0, vi 0, vi 0, vi 0, vi 0, vi 0, vs none 0 0, vs none 0 0, vs none 0 0], MO.box b3 39 (AExpr e1 a13 c19 a14 c20 a15 c21)] [Cl.sl cGToken (x.2.2.1) (x.2.2.2) (x.2.1).l, Cl.sl cStr a2 c2 signs1, Cl.sl (cInt .i64) a3 c3 ops1, Cl.sl cGMono a13 c19 e1.Lin.L, Cl.sl cGIndex a14 c20 e1.Idx, Cl.sl cGExpr a15 c21 e1.Args, clSpace] ∧ m_parser_reader_chain_w3_j2 (m_parser_reader_chain_w3_l2 signs1 ops1 e1 rec_ (m_parser_reader_chain_w3_l1 signs1 ops1 rec_ fuel1) fuel2) i1 (x.1) (x.2.1) = some r) ?_ ?_
  ·clear h hI; rintro ⟨op3, r7, a22, c39⟩ w15 ⟨c40, hI, h⟩
   try dsimp only at hI h
   rw [m_parser_reader_chain_w3_j2] at h
   refine c_sub (e := [(0, vp b1 0), (1, (Value.func (.func 193) #[vp b1 0] #[])), (2, vs a2 signs1.length c2), (3, vs a3 ops1.length c3), (8, vp b2 0), (9, vp b3 0), (10, vi op3), (15, vs a2 signs1.length c2), (16, vi (signs1.length : Int)), (17, vi i1)]) ⟨rfl, rfl, rfl, rfl, rfl, rfl, rfl, rfl, rfl, rfl, trivial⟩ ?_
   refine T ?_
   refine s_nil ?_
   exact k_loop (fuel2, op3, wi64 (i1 + 1), r7, a22, c39) ⟨rfl, rfl, rfl, rfl, rfl, rfl, rfl, rfl, rfl, rfl, trivial⟩ ⟨_, hI.arr (.c .z (.c .z (.c .z .n))) ⟨.z, (.s .z), (.s (.s .z)), (.s (.s (.s .z))), (.s (.s (.s (.s .z)))), (.s (.s (.s (.s (.s .z))))), (.s (.s (.s (.s (.s (.s .z)))))), trivial⟩, h⟩ (Nat.lt_succ_self _)
  refine T ?_
  obtain ⟨e2, hx3, h⟩ := bnd_some h
  obtain ⟨ad1, cs1, hA1, hr1, hq1⟩ := hI.clat (.s .z) hx3
  obtain rfl : cs1 = [(str e2)] := hr1
  refine sI ?_
  refine T ?_
  obtain ⟨c41, f3, hB, hl3, hk3⟩ := hI.hands (.l (.r (.r .n)))
  obtain ⟨⟨r8, s3⟩, hx4, h⟩ := bnd_some h
  try dsimp only at h
  refine s_gcall (fun v_ w_ => v_ = (vb r8) ∧ ∃ (a23 : Option Addr), ∃ (c42 : Nat), ∃ C_ : NP, Bun c41 f3 w14 C_ w_ [MO.box b1 67 (Aparser_reader s3 a23 c42)] [Cl.sl cGToken a23 c42 s3.l]) (g_true rfl rfl rfl rfl) rfl (fun hc => (r_callF (vs := [vp b1 0, (str e2)]) rfl ok_68 ⟨(ev_gv et hc), ⟨(ev_gv et hc), trivial⟩⟩)) (fun hc => (c_parser_reader_accept_w c41 f3 w14 r6 e2 b1 a21 c37 (hB.subs ⟨.z, trivial⟩) _ (gdE_t hc hx4)).mono fun e_ w_ hq_ => (let ⟨a23, c42, C_, he_, hB_⟩ := hq_; ⟨_, he_, rfl, a23, c42, C_, hB_⟩)) ?_
  intro v_ w16 h1_ h2_
  obtain ⟨hv_, a23, c42, c43, hB2⟩ : gv (decide (op2 = 0)) v_ = gv (decide (op2 = 0)) (vb r8) ∧ ∃ (a23 : Option Addr), ∃ (c42 : Nat), ∃ C_ : NP, Bun c41 f3 w14 C_ w16 [MO.box b1 67 (Aparser_reader s3 a23 c42)] [Cl.sl cGToken a23 c42 s3.l] := by
   rcases Bool.eq_false_or_eq_true (decide (op2 = 0)) with hc | hc
   ·obtain ⟨rfl, hq_⟩ := h1_ hc; exact ⟨rfl, hq_⟩
   have e1_ := h2_ hc; subst e1_; obtain ⟨rfl, rfl⟩ := gdE_f hc hx4; exact ⟨by rw [gv_neg hc, gv_neg hc], a21, c37, _, hB.subs ⟨.z, trivial⟩⟩
  rw [hv_]; clear h1_ h2_
  obtain ⟨c44, hs3, hI⟩ := hk3 _ _ _ _ hB2
  dsimp only [ca, na] at hI
  refine T ?_
  refine cif h et (fun hb h => ?_) (fun hb h => ?_)
  ·refine T ?_
   obtain ⟨e3, hx5, h⟩ := bnd_some h
   obtain ⟨ad2, cs2, hA2, hr2, hq2⟩ := hI.clat (.s (.s (.s .z))) hx5
   obtain rfl : cs2 = [vi e3] := hr2
   refine sI ?_
   refine T ?_
   refine s_nil ?_
   exact k_join (e3, s3, a23, c42) ⟨rfl, rfl, rfl, rfl, rfl, rfl, rfl, rfl, rfl, rfl, trivial⟩ ⟨_, hI.arr (.c .z (.c .z (.c .z .n))) ⟨.z, (.s (.s .z)), (.s (.s (.s .z))), (.s (.s (.s (.s .z)))), (.s (.s (.s (.s (.s .z))))), (.s (.s (.s (.s (.s (.s .z)))))), (.s (.s (.s (.s (.s (.s (.s .z))))))), trivial⟩, h⟩ rfl
  exact c_skip (k_join (op2, s3, a23, c42) ⟨rfl, rfl, rfl, rfl, rfl, rfl, rfl, rfl, rfl, rfl, trivial⟩ ⟨_, hI.arr (.c .z (.c .z (.c .z .n))) ⟨.z, (.s (.s .z)), (.s (.s (.s .z))), (.s (.s (.s (.s .z)))), (.s (.s (.s (.s (.s .z))))), (.s (.s (.s (.s (.s (.s .z)))))), (.s (.s (.s (.s (.s (.s (.s .z))))))), trivial⟩, h⟩ rfl)
 refine c_exit ?_
 refine k_in ?_
 exact k_join (op2, r6, a21, c37) ⟨rfl, rfl, rfl, rfl, rfl, rfl, rfl, trivial⟩ ⟨_, hI.arr (.c .z (.c .z (.c .z .n))) ⟨.z, (.s .z), (.s (.s .z)), (.s (.s (.s .z))), (.s (.s (.s (.s .z)))), (.s (.s (.s (.s (.s .z))))), (.s (.s (.s (.s (.s (.s .z)))))), trivial⟩, h⟩ rfl
theorem c_parser_reader_not_w_b (rec_ : (Gparser_reader → Option (Pan (GExpr × Gparser_reader)))) (hrec : ∀ (C0 F : NP) (w0 : World) (r1 : Gparser_reader) (b1 : Nat) (a1 : Option Addr) (c1 : Nat) (hI : Bun C0 F w0 C0 w0 [MO.box b1 67 (Aparser_reader r1 a1 c1)] [Cl.sl cGToken a1 c1 r1.l, clSpace]) (r : Pan (GExpr × Gparser_reader)) (h : rec_ r1 = some r), Calls Tryz.prog 34 #[vp b1 0] w0 fun e w => (∃ rx : GExpr × Gparser_reader, r = .ret rx ∧ ∃ (a2 : Option Addr) (c2 : Nat) (a3 : Option Addr) (c3 : Nat) (a4 : Option Addr) (c4 : Nat) (a5 : Option Addr) (c5 : Nat) (C : NP), e = .returned (Value.agg (AExpr rx.1 a2 c2 a3 c3 a4 c4)) ∧ Bun C0 F w0 C w [MO.box b1 67 (Aparser_reader rx.2 a5 c5)] [Cl.sl cGMono a2 c2 rx.1.Lin.L, Cl.sl cGIndex a3 c3 rx.1.Idx, Cl.sl cGExpr a4 c4 rx.1.Args, Cl.sl cGToken a5 c5 rx.2.l]) ∨ ∃ (pa pn : Int), r = .pan pa pn ∧ e = .panicked [pe 114 pa pn] ∧ ∃ C : NP, Bun C0 F w0 C w [] []) (recs_ : (Gparser_reader → Option (Pan (GExpr × Gparser_reader)))) (hrecs_ : ∀ (C0 F : NP) (w0 : World) (r1 : Gparser_reader) (b1 : Nat) (a1 : Option Addr) (c1 : Nat) (hI : Bun C0 F w0 C0 w0 [MO.box b1 67 (Aparser_reader r1 a1 c1)] [Cl.sl cGToken a1 c1 r1.l, clSpace]) (r : Pan (GExpr × Gparser_reader)) (h : recs_ r1 = some r), Calls Tryz.prog 140 #[vp b1 0] w0 fun e w => (∃ rx : GExpr × Gparser_reader, r = .ret rx ∧ ∃ (a2 : Option Addr) (c2 : Nat) (a3 : Option Addr) (c3 : Nat) (a4 : Option Addr) (c4 : Nat) (a5 : Option Addr) (c5 : Nat) (C : NP), e = .returned (Value.agg (AExpr rx.1 a2 c2 a3 c3 a4 c4)) ∧ Bun C0 F w0 C w [MO.box b1 67 (Aparser_reader rx.2 a5 c5)] [Cl.sl cGMono a2 c2 rx.1.Lin.L, Cl.sl cGIndex a3 c3 rx.1.Idx, Cl.sl cGExpr a4 c4 rx.1.Args, Cl.sl cGToken a5 c5 rx.2.l]) ∨ ∃ (pa pn : Int), r = .pan pa pn ∧ e = .panicked [pe 114 pa pn] ∧ ∃ C : NP, Bun C0 F w0 C w [] [])
  (C0 F : NP) (w0 : World) (r1 : Gparser_reader) (b1 : Nat) (a1 : Option Addr) (c1 : Nat) (hI : Bun C0 F w0 C0 w0 [MO.box b1 67 (Aparser_reader r1 a1 c1)] [Cl.sl cGToken a1 c1 r1.l, clSpace]) (r : Pan (GExpr × Gparser_reader)) (h : m_parser_reader_not_w_b rec_ recs_ r1 = some r) : Calls Tryz.prog 140 #[vp b1 0] w0 fun e w => (∃ rx : GExpr × Gparser_reader, r = .ret rx ∧ ∃ (a2 : Option Addr) (c2 : Nat) (a3 : Option Addr) (c3 : Nat) (a4 : Option Addr) (c4 : Nat) (a5 : Option Addr) (c5 : Nat) (C : NP), e = .returned (Value.agg (AExpr rx.1 a2 c2 a3 c3 a4 c4)) ∧ Bun C0 F w0 C w [MO.box b1 67 (Aparser_reader rx.2 a5 c5)] [Cl.sl cGMono a2 c2 rx.1.Lin.L, Cl.sl cGIndex a3 c3 rx.1.Idx, Cl.sl cGExpr a4 c4 rx.1.Args, Cl.sl cGToken a5 c5 rx.2.l]) ∨ ∃ (pa pn : Int), r = .pan pa pn ∧ e = .panicked [pe 114 pa pn] ∧ ∃ C : NP, Bun C0 F w0 C w [] [] := by
 refine enterP (l := [vp b1 0]) Tryz.func140 rfl Tryz.ntmps140 rfl ?_
 rw [m_parser_reader_not_w_b] at h
 refine sr (l_alloc (cs := #[vi 0, (str ([] : List UInt8)), vi 0, vi 0, vi 0, vi 0, vi 0, vi 0, vi 0, vi 0, vs none 0 0, vs none 0 0, vs none 0 0]) hI gn rfl rfl zero_39 rfl ?_)
 clear hI; intro b2 c6 w1 hI
 refine nk (c_seq (T ?_))
 obtain ⟨r2, hx1, h⟩ := bnd_some h
 refine s_call gn rfl (r_callF (vs := [vp b1 0, vi 3, (str ([33] : List UInt8))]) rfl ok_121 ⟨et, ⟨ev_const, ⟨ev_const, trivial⟩⟩⟩) (Calls.mono (c_parser_reader_is noM w1 (fun _ k => k.elim) r1 3 ([33] : List UInt8) b1 a1 c1 ⟨(hI.get0 .z), hI.lendBox (.s .z), trivial⟩ r2 hx1) ?_)
 rintro _ w2 ⟨rfl, hx2, hl1⟩
 refine ⟨_, rfl, ?_⟩
 replace hI := (hI.ext hx2)
 refine T ?_
 refine cif h et (fun hb h => ?_) (fun hb h => ?_)
 ·refine T ?_
  refine sq (y_makeBound (vs := [vp b1 0]) rfl rfl ⟨et, trivial⟩) ?_
  refine l_lit (c := cStr) (xs := ([([60] : List UInt8), ([60, 61] : List UInt8), ([61, 61] : List UInt8)] : List (List UInt8))) (vs := [(0, (str ([60] : List UInt8))), (1, (str ([60, 61] : List UInt8))), (2, (str ([61, 61] : List UInt8)))]) (cs := #[(str ([60] : List UInt8)), (str ([60, 61] : List UInt8)), (str ([61, 61] : List UInt8))]) (css := [[(str ([60] : List UInt8))], [(str ([60, 61] : List UInt8))], [(str ([61, 61] : List UInt8))]]) hI gn rfl rfl u50 info_9 rfl ⟨rfl, ev_const, ⟨rfl, ev_const, ⟨rfl, ev_const, trivial⟩⟩⟩ (by kernel_rfl) ⟨rfl, ⟨rfl, ⟨rfl, trivial⟩⟩⟩ rfl rfl rfl ?_
  clear hI; intro b3 c7 w3 hI
  refine l_lit (c := (cInt .i64)) (xs := ([13, 14, 15] : List Int)) (vs := [(0, vi 13), (1, vi 14), (2, vi 15)]) (cs := #[vi 13, vi 14, vi 15]) (css := [[vi 13], [vi 14], [vi 15]]) hI gn rfl rfl u123 info_3 rfl ⟨rfl, ev_const, ⟨rfl, ev_const, ⟨rfl, ev_const, trivial⟩⟩⟩ (by kernel_rfl) ⟨rfl, ⟨rfl, ⟨rfl, trivial⟩⟩⟩ rfl rfl rfl ?_
  clear hI; intro b4 c8 w4 hI
  obtain ⟨c9, hI⟩ := hI.release (.s .z)
  obtain ⟨c10, hI⟩ := hI.release .z
  obtain ⟨c11, f1, hB, hl2, hk1⟩ := hI.hands (.r (.l .n))
  refine s_pb h (fun _ hx3 => c_parser_reader_chain_w3 rec_ hrec c11 f1 w4 r1 ([([60] : List UInt8), ([60, 61] : List UInt8), ([61, 61] : List UInt8)] : List (List UInt8)) ([13, 14, 15] : List Int) b1 a1 c1 (some ⟨b3, 0, none⟩) 3 (some ⟨b4, 0, none⟩) 3 (hB.subs ⟨(.s (.s .z)), (.s .z), .z, (.s (.s (.s .z))), trivial⟩) _ hx3) (pnb hk1) (r_callF rfl ok_74 ⟨et, ⟨et, ⟨et, ⟨et, trivial⟩⟩⟩⟩) ?_
  rintro ⟨r3, s1⟩ hx3 h _ w5 ⟨a6, c12, a7, c13, a8, c14, a9, c15, c16, rfl, hB2⟩
  try dsimp only at h
  obtain ⟨c17, hs1, hI⟩ := hk1 _ _ _ _ hB2
  dsimp only [ca, na] at hI
  refine ⟨_, rfl, ?_⟩
  refine l_store (new := (lExpr r3 a6 c12 a7 c13 a8 c14)) (cs' := (AExpr r3 a6 c12 a7 c13 a8 c14)) hI (.s .z) gn rfl rfl et et rfl size_39 rfl rfl rfl ?_
  clear hI; intro c18 w6 hI
  refine nk (c_ret ?_)
  obtain rfl := some_inj h
  refine QG ?_
  exact .inl ⟨_, rfl, a6, c12, a7, c13, a8, c14, a9, c15, _, rfl, hI.arr GO SU⟩
 refine T ?_
 obtain ⟨c19, f2, hB, hl3, hk2⟩ := hI.hands (.r (.l .n))
 refine s_pb h (fun _ hx4 => c_parser_reader_enter_w c19 f2 w2 r1 b1 a1 c1 (hB.subs ⟨.z, trivial⟩) _ hx4) (pnb hk2) (r_callF rfl ok_194 ⟨et, trivial⟩) ?_
 rintro ⟨r4, s2⟩ hx4 h _ w7 ⟨a10, c20, c21, rfl, hB2⟩
 try dsimp only at h
 obtain ⟨c22, hs2, hI⟩ := hk2 _ _ _ _ hB2
 dsimp only [ca, na] at hI
 refine ⟨_, rfl, ?_⟩
 refine T ?_
 obtain ⟨c23, f3, hB, hl4, hk3⟩ := hI.hands (.l (.r .n))
 refine s_pb h (fun _ hx5 => hrecs_ c23 f3 w7 s2 b1 a10 c20 (hB.subs ⟨.z, (.s (.s .z)), trivial⟩) _ hx5) (pnb hk3) (r_callF rfl ok_140 ⟨et, trivial⟩) ?_
 rintro ⟨r5, s3⟩ hx5 h _ w8 ⟨a11, c24, a12, c25, a13, c26, a14, c27, c28, rfl, hB2⟩
 try dsimp only at h
 obtain ⟨c29, hs3, hI⟩ := hk3 _ _ _ _ hB2
 dsimp only [ca, na] at hI
 refine ⟨_, rfl, ?_⟩
 refine l_lit (c := cGExpr) (xs := ([r5] : List GExpr)) (vs := [(0, (Value.agg (AExpr r5 a11 c24 a12 c25 a13 c26)))]) (cs := (AExpr r5 a11 c24 a12 c25 a13 c26)) (css := [(lExpr r5 a11 c24 a12 c25 a13 c26)]) hI gn rfl rfl u37 info_39 rfl ⟨rfl, et, trivial⟩ (by kernel_rfl) ⟨(cGExpr_in ⟨a11, c24, a12, c25, a13, c26, rfl, hI.get .z, hI.get (.s .z), hI.get (.s (.s .z))⟩), trivial⟩ rfl rfl rfl ?_
 clear hI; intro b5 c30 w9 hI
 refine sq (y_build (vs := [(0, vi 18), (6, vs (some ⟨b5, 0, none⟩) ([r5] : List GExpr).length 1)]) (cs := #[vi 18, (str ([] : List UInt8)), vi 0, vi 0, vi 0, vi 0, vi 0, vi 0, vi 0, vi 0, vs none 0 0, vs none 0 0, vs (some ⟨b5, 0, none⟩) ([r5] : List GExpr).length 1]) rfl ⟨rfl, ev_const, ⟨rfl, et, trivial⟩⟩ (by kernel_rfl)) ?_
 refine l_alloc (cs := #[vi 0, (str ([] : List UInt8)), vi 0, vi 0, vi 0, vi 0, vi 0, vi 0, vi 0, vi 0, vs none 0 0, vs none 0 0, vs none 0 0]) hI gn rfl rfl zero_39 rfl ?_
 clear hI; intro b6 c31 w10 hI
 refine l_store (new := [vi 18, (str ([] : List UInt8)), vi 0, vi 0, vi 0, vi 0, vi 0, vi 0, vi 0, vi 0, vs none 0 0, vs none 0 0, vs (some ⟨b5, 0, none⟩) ([r5] : List GExpr).length 1]) (cs' := #[vi 18, (str ([] : List UInt8)), vi 0, vi 0, vi 0, vi 0, vi 0, vi 0, vi 0, vi 0, vs none 0 0, vs none 0 0, vs (some ⟨b5, 0, none⟩) ([r5] : List GExpr).length 1]) hI .z gn rfl rfl et et rfl size_39 rfl rfl rfl ?_
 clear hI; intro c32 w11 hI
 refine T ?_
 refine l_store (new := [(vi (wi64 (s3.deep - 1)))]) (cs' := #[vs a14 s3.l.length c27, vi s3.at_, (vi (wi64 (s3.deep - 1)))]) hI (.s (.s .z)) gn rfl rfl et et rfl size_3 rfl rfl rfl ?_
 clear hI; intro c33 w12 hI
 refine T ?_
 refine l_store (new := [vi 18, (str ([] : List UInt8)), vi 0, vi 0, vi 0, vi 0, vi 0, vi 0, vi 0, vi 0, vs none 0 0, vs none 0 0, vs (some ⟨b5, 0, none⟩) ([r5] : List GExpr).length 1]) (cs' := #[vi 18, (str ([] : List UInt8)), vi 0, vi 0, vi 0, vi 0, vi 0, vi 0, vi 0, vi 0, vs none 0 0, vs none 0 0, vs (some ⟨b5, 0, none⟩) ([r5] : List GExpr).length 1]) hI (.s (.s (.s .z))) gn rfl rfl et et rfl size_39 rfl rfl rfl ?_
 clear hI; intro c34 w13 hI
 refine nk (c_ret ?_)
 obtain ⟨c35, hI⟩ := hI.release (.s .z)
 have hI := hI.add (c := Cl.sl cGMono none 0 ([] : List GMono)) SlC.nil
 have hI := hI.add (c := Cl.sl cGIndex none 0 ([] : List GIndex)) SlC.nil
 obtain rfl := some_inj h
 refine QG ?_
 exact .inl ⟨_, rfl, none, 0, none, 0, some ⟨b5, 0, none⟩, 1, a14, c27, _, rfl, hI.arr GO SU⟩
theorem c_parser_reader_not_w_r (rec_ : (Gparser_reader → Option (Pan (GExpr × Gparser_reader)))) (hrec : ∀ (C0 F : NP) (w0 : World) (r1 : Gparser_reader) (b1 : Nat) (a1 : Option Addr) (c1 : Nat) (hI : Bun C0 F w0 C0 w0 [MO.box b1 67 (Aparser_reader r1 a1 c1)] [Cl.sl cGToken a1 c1 r1.l, clSpace]) (r : Pan (GExpr × Gparser_reader)) (h : rec_ r1 = some r), Calls Tryz.prog 34 #[vp b1 0] w0 fun e w => (∃ rx : GExpr × Gparser_reader, r = .ret rx ∧ ∃ (a2 : Option Addr) (c2 : Nat) (a3 : Option Addr) (c3 : Nat) (a4 : Option Addr) (c4 : Nat) (a5 : Option Addr) (c5 : Nat) (C : NP), e = .returned (Value.agg (AExpr rx.1 a2 c2 a3 c3 a4 c4)) ∧ Bun C0 F w0 C w [MO.box b1 67 (Aparser_reader rx.2 a5 c5)] [Cl.sl cGMono a2 c2 rx.1.Lin.L, Cl.sl cGIndex a3 c3 rx.1.Idx, Cl.sl cGExpr a4 c4 rx.1.Args, Cl.sl cGToken a5 c5 rx.2.l]) ∨ ∃ (pa pn : Int), r = .pan pa pn ∧ e = .panicked [pe 114 pa pn] ∧ ∃ C : NP, Bun C0 F w0 C w [] []) (n : Nat) : ∀ (C0 F : NP) (w0 : World) (r1 : Gparser_reader) (b1 : Nat) (a1 : Option Addr) (c1 : Nat) (hI : Bun C0 F w0 C0 w0 [MO.box b1 67 (Aparser_reader r1 a1 c1)] [Cl.sl cGToken a1 c1 r1.l, clSpace]) (r : Pan (GExpr × Gparser_reader)) (h : m_parser_reader_not_w_r rec_ n r1 = some r), Calls Tryz.prog 140 #[vp b1 0] w0 fun e w => (∃ rx : GExpr × Gparser_reader, r = .ret rx ∧ ∃ (a2 : Option Addr) (c2 : Nat) (a3 : Option Addr) (c3 : Nat) (a4 : Option Addr) (c4 : Nat) (a5 : Option Addr) (c5 : Nat) (C : NP), e = .returned (Value.agg (AExpr rx.1 a2 c2 a3 c3 a4 c4)) ∧ Bun C0 F w0 C w [MO.box b1 67 (Aparser_reader rx.2 a5 c5)] [Cl.sl cGMono a2 c2 rx.1.Lin.L, Cl.sl cGIndex a3 c3 rx.1.Idx, Cl.sl cGExpr a4 c4 rx.1.Args, Cl.sl cGToken a5 c5 rx.2.l]) ∨ ∃ (pa pn : Int), r = .pan pa pn ∧ e = .panicked [pe 114 pa pn] ∧ ∃ C : NP, Bun C0 F w0 C w [] [] := by
 induction n with
 | zero => intro C0 F w0 r1 b1 a1 c1 hI r h; cases h
 | succ n ih => intro C0 F w0 r1 b1 a1 c1 hI r h; exact c_parser_reader_not_w_b rec_ hrec (m_parser_reader_not_w_r rec_ n) ih C0 F w0 r1 b1 a1 c1 hI r h
theorem c_parser_reader_not_w (rec_ : (Gparser_reader → Option (Pan (GExpr × Gparser_reader)))) (hrec : ∀ (C0 F : NP) (w0 : World) (r1 : Gparser_reader) (b1 : Nat) (a1 : Option Addr) (c1 : Nat) (hI : Bun C0 F w0 C0 w0 [MO.box b1 67 (Aparser_reader r1 a1 c1)] [Cl.sl cGToken a1 c1 r1.l, clSpace]) (r : Pan (GExpr × Gparser_reader)) (h : rec_ r1 = some r), Calls Tryz.prog 34 #[vp b1 0] w0 fun e w => (∃ rx : GExpr × Gparser_reader, r = .ret rx ∧ ∃ (a2 : Option Addr) (c2 : Nat) (a3 : Option Addr) (c3 : Nat) (a4 : Option Addr) (c4 : Nat) (a5 : Option Addr) (c5 : Nat) (C : NP), e = .returned (Value.agg (AExpr rx.1 a2 c2 a3 c3 a4 c4)) ∧ Bun C0 F w0 C w [MO.box b1 67 (Aparser_reader rx.2 a5 c5)] [Cl.sl cGMono a2 c2 rx.1.Lin.L, Cl.sl cGIndex a3 c3 rx.1.Idx, Cl.sl cGExpr a4 c4 rx.1.Args, Cl.sl cGToken a5 c5 rx.2.l]) ∨ ∃ (pa pn : Int), r = .pan pa pn ∧ e = .panicked [pe 114 pa pn] ∧ ∃ C : NP, Bun C0 F w0 C w [] []) (C0 F : NP) (w0 : World) (r1 : Gparser_reader) (b1 : Nat) (a1 : Option Addr) (c1 : Nat) (hI : Bun C0 F w0 C0 w0 [MO.box b1 67 (Aparser_reader r1 a1 c1)] [Cl.sl cGToken a1 c1 r1.l, clSpace]) (r : Pan (GExpr × Gparser_reader)) (h : m_parser_reader_not_w rec_ r1 = some r) : Calls Tryz.prog 140 #[vp b1 0] w0 fun e w => (∃ rx : GExpr × Gparser_reader, r = .ret rx ∧ ∃ (a2 : Option Addr) (c2 : Nat) (a3 : Option Addr) (c3 : Nat) (a4 : Option Addr) (c4 : Nat) (a5 : Option Addr) (c5 : Nat) (C : NP), e = .returned (Value.agg (AExpr rx.1 a2 c2 a3 c3 a4 c4)) ∧ Bun C0 F w0 C w [MO.box b1 67 (Aparser_reader rx.2 a5 c5)] [Cl.sl cGMono a2 c2 rx.1.Lin.L, Cl.sl cGIndex a3 c3 rx.1.Idx, Cl.sl cGExpr a4 c4 rx.1.Args, Cl.sl cGToken a5 c5 rx.2.l]) ∨ ∃ (pa pn : Int), r = .pan pa pn ∧ e = .panicked [pe 114 pa pn] ∧ ∃ C : NP, Bun C0 F w0 C w [] [] := c_parser_reader_not_w_r rec_ hrec fu C0 F w0 r1 b1 a1 c1 hI r h
end Go.Proofs.YtmhoikfoogemnaaGreatDoor
