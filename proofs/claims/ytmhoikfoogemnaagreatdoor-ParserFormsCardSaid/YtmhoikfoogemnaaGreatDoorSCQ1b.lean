import Derived.Test.YtmhoikfoogemnaaGreatDoorSCQ1a
import Derived.Test.YtmhoikfoogemnaaGreatDoorSLfW
namespace Go.Proofs.YtmhoikfoogemnaaGreatDoor
open Go Go.RowKit Go.Vc
set_option maxRecDepth 100000
set_option maxHeartbeats 4000000
set_option linter.unusedVariables false
set_option linter.unusedSimpArgs false
theorem c_parser_reader_term_w (C0 F : NP) (w0 : World) (r1 : Gparser_reader) (negative1 : Bool) (b1 : Nat) (a1 : Option Addr) (c1 : Nat) (hI : Bun C0 F w0 C0 w0 [MO.box b1 67 (Aparser_reader r1 a1 c1)] [Cl.sl cGToken a1 c1 r1.l, clSpace]) (r : Pan (GLin × Gparser_reader))
  (h : m_parser_reader_term_w r1 negative1 = some r) :
  Calls Tryz.prog 70 #[vp b1 0, vb negative1] w0 fun e w => (∃ rx : GLin × Gparser_reader, r = .ret rx ∧ ∃ (a2 : Option Addr) (c2 : Nat) (a3 : Option Addr) (c3 : Nat) (C : NP), e = .returned (Value.agg (ALin rx.1 a2 c2)) ∧ Bun C0 F w0 C w [MO.box b1 67 (Aparser_reader rx.2 a3 c3)] [Cl.sl cGMono a2 c2 rx.1.L, Cl.sl cGToken a3 c3 rx.2.l]) ∨ ∃ (pa pn : Int), r = .pan pa pn ∧ e = .panicked [pe 114 pa pn] ∧ ∃ C : NP, Bun C0 F w0 C w [] [] := by
 refine enterP (l := [vp b1 0, vb negative1]) Tryz.func70 rfl Tryz.ntmps70 rfl ?_
 rw [m_parser_reader_term_w] at h
 refine sr (l_alloc (cs := #[vi 0, vs none 0 0]) hI gn rfl rfl zero_27 rfl ?_)
 clear hI; intro b2 c4 w1 hI
 refine T ?_
 refine c_seq (T ?_)
 obtain ⟨r2, hx1, h⟩ := bnd_some h
 refine s_call gn rfl (r_callF (vs := [vp b1 0]) rfl ok_126 ⟨et, trivial⟩) (Calls.mono (c_parser_reader_isName noM w1 (fun _ k => k.elim) r1 b1 a1 c1 ⟨(hI.get0 .z), hI.lendBox (.s .z), hI.get0 (.s .z), trivial⟩ r2 hx1) ?_)
 rintro _ w2 ⟨rfl, hx2, hl1⟩
 refine ⟨_, rfl, ?_⟩
 replace hI := (hI.ext hx2)
 refine nk (cif h et (fun hb h => ?_) (fun hb h => ?_))
 ·refine T ?_
  obtain ⟨c5, f1, hB, hl2, hk1⟩ := hI.hands (.r (.l .n))
  refine s_pb h (fun _ hx3 => c_parser_reader_name_w c5 f1 w2 r1 b1 a1 c1 (hB.subs ⟨.z, (.s .z), trivial⟩) _ hx3) (pnb hk1) (r_callF rfl ok_128 ⟨et, trivial⟩) ?_
  rintro ⟨r3, s1⟩ hx3 h _ w3 ⟨a4, c6, c7, rfl, hB2⟩
  try dsimp only at h
  obtain ⟨c8, hs1, hI⟩ := hk1 _ _ _ _ hB2
  dsimp only [ca, na] at hI
  refine ⟨_, rfl, ?_⟩
  obtain ⟨r4, hx4, h⟩ := bnd_some h
  refine s_call gn rfl (r_callF (vs := [(str r3)]) rfl ok_127 ⟨et, trivial⟩) (Calls.mono (c_lin_Var (Dj F c8) w3 hI.lt r3 trivial r4 hx4) ?_)
  rintro _ w4 ⟨a5, c9, rfl, hx5, hl3⟩
  refine ⟨_, rfl, ?_⟩
  replace hI := (hI.ext hx5).adds hl3; dsimp only [ca, na] at hI
  refine l_alloc (cs := #[vi 0, vs none 0 0]) hI gn rfl rfl zero_27 rfl ?_
  clear hI; intro b3 c10 w5 hI
  refine l_store (new := (lLin r4 a5 c9)) (cs' := (ALin r4 a5 c9)) hI .z gn rfl rfl et et rfl size_27 rfl rfl rfl ?_
  clear hI; intro c11 w6 hI
  refine nk (c_seq (T ?_))
  refine cif h et (fun hb h => ?_) (fun hb h => ?_)
  ·refine T ?_
   obtain ⟨r5, hx6, h⟩ := bnd_some h
   refine s_call gn rfl (r_callF (vs := [(Value.agg (ALin r4 a5 c9)), vi (-1)]) rfl ok_129 ⟨et, ⟨ev_const, trivial⟩⟩) (Calls.mono (c_lin_Scale (Dj F c11) w6 hI.lt r4 (-1) a5 c9 ⟨(hI.get .z), trivial⟩ r5 hx6) ?_)
   rintro _ w7 ⟨a6, c12, rfl, hx7, hl4⟩
   refine ⟨_, rfl, ?_⟩
   replace hI := (hI.ext hx7).adds hl4; dsimp only [ca, na] at hI
   refine T ?_
   refine l_store (new := (lLin r5.1 a6 c12)) (cs' := (ALin r5.1 a6 c12)) hI .z gn rfl rfl et et rfl size_27 rfl rfl rfl ?_
   clear hI; intro c13 w8 hI
   refine T ?_
   refine l_store (new := (lLin r5.1 a6 c12)) (cs' := (ALin r5.1 a6 c12)) hI (.s (.s .z)) gn rfl rfl et et rfl size_27 rfl rfl rfl ?_
   clear hI; intro c14 w9 hI
   refine nk (c_ret ?_)
   obtain rfl := some_inj h
   refine QG ?_
   exact .inl ⟨_, rfl, a6, c12, a4, c6, _, rfl, hI.arr GO SU⟩
  refine T ?_
  refine l_store (new := (lLin r4 a5 c9)) (cs' := (ALin r4 a5 c9)) hI (.s (.s .z)) gn rfl rfl et et rfl size_27 rfl rfl rfl ?_
  clear hI; intro c15 w10 hI
  refine nk (c_ret ?_)
  obtain rfl := some_inj h
  refine QG ?_
  exact .inl ⟨_, rfl, a5, c9, a4, c6, _, rfl, hI.arr GO SU⟩
 refine T ?_
 obtain ⟨c16, f2, hB, hl5, hk2⟩ := hI.hands (.r (.l .n))
 refine s_pb h (fun _ hx8 => c_parser_reader_number_w c16 f2 w2 r1 b1 a1 c1 (hB.subs ⟨.z, trivial⟩) _ hx8) (pnb hk2) (r_callF rfl ok_130 ⟨et, trivial⟩) ?_
 rintro ⟨r6, s2⟩ hx8 h _ w11 ⟨a7, c17, c18, rfl, hB2⟩
 try dsimp only at h
 obtain ⟨c19, hs2, hI⟩ := hk2 _ _ _ _ hB2
 dsimp only [ca, na] at hI
 refine ⟨_, rfl, ?_⟩
 refine T ?_
 refine c_join (α := (List UInt8) × Gparser_reader × (Option Addr) × Nat) (fun _ => ⟨58, []⟩) (fun x => [(0, vp b1 0), (1, vb negative1), (4, vp b2 0), (5, vi r1.at_), (7, (str r6)), (8, (str (x.1)))]) (fun x => fun w => ∃ C, Bun C0 F w0 C w [MO.box b1 67 (Aparser_reader (x.2.1) (x.2.2.1) (x.2.2.2)), MO.box b2 27 #[vi 0, vs none 0 0]] [Cl.sl cGToken (x.2.2.1) (x.2.2.2) (x.2.1).l, clSpace] ∧ m_parser_reader_term_w_j1 r6 negative1 r1 (x.1) (x.2.1) = some r) ?_ ?_
 ·clear h hI; rintro ⟨name1, r7, a8, c20⟩ w12 ⟨c21, hI, h⟩
  try dsimp only at hI h
  rw [m_parser_reader_term_w_j1] at h
  refine c_sub (e := [(0, vp b1 0), (1, vb negative1), (4, vp b2 0), (5, vi r1.at_), (7, (str r6)), (8, (str name1))]) SB ?_
  refine T ?_
  obtain ⟨r8, hx9, h⟩ := bnd_some h
  refine s_call gn rfl (r_callF (vs := [(str r6), vb negative1]) rfl ok_131 ⟨et, ⟨et, trivial⟩⟩) (Calls.mono (c_parser_signed (Dj F c21) w12 hI.lt r6 negative1 trivial r8 hx9) ?_)
  rintro _ w13 ⟨rfl, hx10, hl6⟩
  refine ⟨_, rfl, ?_⟩
  replace hI := (hI.ext hx10)
  refine T ?_
  refine c_join (α := Unit) (fun _ => ⟨58, []⟩) (fun _ => [(4, vp b2 0), (8, (str name1)), (9, vi r8.1)]) (fun _ => fun w => ∃ C, Bun C0 F w0 C w [MO.box b2 27 #[vi 0, vs none 0 0], MO.box b1 67 (Aparser_reader r7 a8 c20)] [Cl.sl cGToken a8 c20 r7.l, clSpace] ∧ m_parser_reader_term_w_j2 name1 r8 r7 = some r) ?_ ?_
  ·clear h hI; rintro _ w14 ⟨c22, hI, h⟩
   try dsimp only at hI h
   rw [m_parser_reader_term_w_j2] at h
   refine c_sub (e := [(4, vp b2 0), (8, (str name1)), (9, vi r8.1)]) SB ?_
   refine c_seq (T ?_)
   refine cif h et (fun hb h => ?_) (fun hb h => ?_)
   ·refine T ?_
    obtain ⟨r9, hx11, h⟩ := bnd_some h
    refine s_call gn rfl (r_callF (vs := [vi r8.1]) rfl ok_132 ⟨et, trivial⟩) (Calls.mono (c_lin_Const (Dj F c22) w14 hI.lt r8.1 trivial r9 hx11) ?_)
    rintro _ w15 ⟨a9, c23, rfl, hx12, hl7⟩
    refine ⟨_, rfl, ?_⟩
    replace hI := (hI.ext hx12).adds hl7; dsimp only [ca, na] at hI
    refine l_store (new := (lLin r9 a9 c23)) (cs' := (ALin r9 a9 c23)) hI .z gn rfl rfl et et rfl size_27 rfl rfl rfl ?_
    clear hI; intro c24 w16 hI
    refine nk (c_ret ?_)
    obtain rfl := some_inj h
    refine QG ?_
    exact .inl ⟨_, rfl, a9, c23, a8, c20, _, rfl, hI.arr GO SU⟩
   refine T ?_
   obtain ⟨r10, hx13, h⟩ := bnd_some h
   refine s_call gn rfl (r_callF (vs := [(str name1)]) rfl ok_127 ⟨et, trivial⟩) (Calls.mono (c_lin_Var (Dj F c22) w14 hI.lt name1 trivial r10 hx13) ?_)
   rintro _ w17 ⟨a10, c25, rfl, hx14, hl8⟩
   refine ⟨_, rfl, ?_⟩
   replace hI := (hI.ext hx14).adds hl8; dsimp only [ca, na] at hI
   refine sm ?_
   obtain ⟨r11, hx15, h⟩ := bnd_some h
   refine s_call gn rfl (r_callF (vs := [(Value.agg (ALin r10 a10 c25)), vi r8.1]) rfl ok_129 ⟨et, ⟨et, trivial⟩⟩) (Calls.mono (c_lin_Scale (Dj F c22) w17 hI.lt r10 r8.1 a10 c25 ⟨(hI.get .z), trivial⟩ r11 hx15) ?_)
   rintro _ w18 ⟨a11, c26, rfl, hx16, hl9⟩
   refine ⟨_, rfl, ?_⟩
   replace hI := (hI.ext hx16).adds hl9; dsimp only [ca, na] at hI
   refine T ?_
   refine l_alloc (cs := #[vi 0, vs none 0 0]) hI gn rfl rfl zero_27 rfl ?_
   clear hI; intro b4 c27 w19 hI
   refine l_store (new := (lLin r11.1 a11 c26)) (cs' := (ALin r11.1 a11 c26)) hI .z gn rfl rfl et et rfl size_27 rfl rfl rfl ?_
   clear hI; intro c28 w20 hI
   refine T ?_
   refine l_store (new := (lLin r11.1 a11 c26)) (cs' := (ALin r11.1 a11 c26)) hI (.s .z) gn rfl rfl et et rfl size_27 rfl rfl rfl ?_
   clear hI; intro c29 w21 hI
   refine nk (c_ret ?_)
   obtain rfl := some_inj h
   refine QG ?_
   exact .inl ⟨_, rfl, a11, c26, a8, c20, _, rfl, hI.arr GO SU⟩
  refine T ?_
  refine cif h et (fun hb h => ?_) (fun hb h => ?_)
  ·refine T ?_
   rcases pb_some h with ⟨r12, hx17, h⟩ | ⟨pa_, pn_, hx17, hp_⟩
   rotate_left
   ·subst hp_
    refine s_callP gn rfl (r_callF (vs := [vp b1 0, vi r1.at_, vi 3]) rfl ok_71 ⟨et, ⟨et, ⟨ev_const, trivial⟩⟩⟩) (Calls.mono (c_parser_reader_fail noM w13 (fun _ k => k.elim) r7 r1.at_ 3 b1 a8 c20 ⟨(hI.get0 .z), hI.lendBox .z, trivial⟩ (.pan pa_ pn_) hx17) ?_)
    intro e_ w_ hq_; obtain ⟨rfl, hx_⟩ := pan_of hq_; have hI_ := hI.ext hx_; exact .inr ⟨_, rfl, kp_of (.inr ⟨_, _, rfl, rfl, ⟨_, hI_.arr .n trivial⟩⟩)⟩
   try dsimp only at h
   refine s_call gn rfl (r_callF (vs := [vp b1 0, vi r1.at_, vi 3]) rfl ok_71 ⟨et, ⟨et, ⟨ev_const, trivial⟩⟩⟩) (Calls.mono (c_parser_reader_fail noM w13 (fun _ k => k.elim) r7 r1.at_ 3 b1 a8 c20 ⟨(hI.get0 .z), hI.lendBox .z, trivial⟩ (.ret r12) hx17) ?_)
   intro e_ w22 hq_; obtain ⟨rfl, hx18, hl10⟩ := ret_of hq_
   refine ⟨_, rfl, ?_⟩
   replace hI := (hI.ext hx18)
   refine s_nil ?_
   exact k_join () SB ⟨_, hI.arr GO SU, h⟩ rfl
  exact c_skip (k_join () SB ⟨_, hI.arr GO SU, h⟩ rfl)
 refine T ?_
 obtain ⟨c30, f3, hB, hl11, hk3⟩ := hI.hands (.l (.r .n))
 obtain ⟨⟨r13, s3⟩, hx19, h⟩ := bnd_some h
 try dsimp only at h
 refine s_call gn rfl (r_callF (vs := [vp b1 0, (str ([42] : List UInt8))]) rfl ok_68 ⟨et, ⟨ev_const, trivial⟩⟩) (Calls.mono (c_parser_reader_accept_w c30 f3 w11 s2 ([42] : List UInt8) b1 a7 c17 (hB.subs ⟨.z, trivial⟩) _ hx19) ?_)
 rintro _ w23 ⟨a12, c31, c32, rfl, hB2⟩
 obtain ⟨c33, hs3, hI⟩ := hk3 _ _ _ _ hB2
 dsimp only [ca, na] at hI
 refine ⟨_, rfl, ?_⟩
 refine nk (cif h et (fun hb h => ?_) (fun hb h => ?_))
 ·refine T ?_
  obtain ⟨c34, f4, hB, hl12, hk4⟩ := hI.hands (.l (.r .n))
  refine s_pb h (fun _ hx20 => c_parser_reader_name_w c34 f4 w23 s3 b1 a12 c31 (hB.subs ⟨.z, (.s (.s (.s .z))), trivial⟩) _ hx20) (pnb hk4) (r_callF rfl ok_128 ⟨et, trivial⟩) ?_
  rintro ⟨r14, s4⟩ hx20 h _ w24 ⟨a13, c35, c36, rfl, hB2⟩
  try dsimp only at h
  obtain ⟨c37, hs4, hI⟩ := hk4 _ _ _ _ hB2
  dsimp only [ca, na] at hI
  refine ⟨_, rfl, ?_⟩
  refine sa ?_
  refine s_nil ?_
  exact k_join (r14, s4, a13, c35) SB ⟨_, hI.arr GO SU, h⟩ rfl
 exact c_skip (k_join (([] : List UInt8), s3, a12, c31) SB ⟨_, hI.arr GO SU, h⟩ rfl)
def tr_parser_reader_form_w_3_4 : Tr := (.c (9, .s) (.c (10, .q) .n))
def tr_parser_reader_form_w_3_3 : Tr := (.c (4, .s) (.c (5, .q) (.c (6, .q) (.c (7, .q) tr_parser_reader_form_w_3_4))))
def tr_parser_reader_form_w_3_2 : Tr := (.c (0, .s) tr_parser_reader_form_w_3_3)
def tr_parser_reader_form_w_3_1 : Tr := (.c (3, .s) tr_parser_reader_form_w_3_3)
def tr_parser_reader_form_w_3_0 : Tr := (.two 4 (.c (5, .q) (.c (6, .q) (.c (7, .q) (.c (8, .s) tr_parser_reader_form_w_3_4)))) 8 tr_parser_reader_form_w_3_3)
theorem c_parser_reader_form_w (C0 F : NP) (w0 : World) (r1 : Gparser_reader) (b1 : Nat) (a1 : Option Addr) (c1 : Nat) (hI : Bun C0 F w0 C0 w0 [MO.box b1 67 (Aparser_reader r1 a1 c1)] [Cl.sl cGToken a1 c1 r1.l, clSpace]) (r : Pan (GLin × Gparser_reader))
  (h : m_parser_reader_form_w r1 = some r) :
  Calls Tryz.prog 31 #[vp b1 0] w0 fun e w => (∃ rx : GLin × Gparser_reader, r = .ret rx ∧ ∃ (a2 : Option Addr) (c2 : Nat) (a3 : Option Addr) (c3 : Nat) (C : NP), e = .returned (Value.agg (ALin rx.1 a2 c2)) ∧ Bun C0 F w0 C w [MO.box b1 67 (Aparser_reader rx.2 a3 c3)] [Cl.sl cGMono a2 c2 rx.1.L, Cl.sl cGToken a3 c3 rx.2.l]) ∨ ∃ (pa pn : Int), r = .pan pa pn ∧ e = .panicked [pe 114 pa pn] ∧ ∃ C : NP, Bun C0 F w0 C w [] [] := by
 refine enterP (l := [vp b1 0]) Tryz.func31 rfl Tryz.ntmps31 rfl ?_
 rw [m_parser_reader_form_w] at h
 refine sr (l_alloc (cs := #[vi 0, vs none 0 0]) hI gn rfl rfl zero_27 rfl ?_)
 clear hI; intro b2 c4 w1 hI
 refine T ?_
 obtain ⟨c5, f1, hB, hl1, hk1⟩ := hI.hands (.r (.l .n))
 obtain ⟨⟨r2, s1⟩, hx1, h⟩ := bnd_some h
 try dsimp only at h
 refine s_call gn rfl (r_callF (vs := [vp b1 0, (str ([45] : List UInt8))]) rfl ok_68 ⟨et, ⟨ev_const, trivial⟩⟩) (Calls.mono (c_parser_reader_accept_w c5 f1 w1 r1 ([45] : List UInt8) b1 a1 c1 (hB.subs ⟨.z, trivial⟩) _ hx1) ?_)
 rintro _ w2 ⟨a4, c6, c7, rfl, hB2⟩
 obtain ⟨c8, hs1, hI⟩ := hk1 _ _ _ _ hB2
 dsimp only [ca, na] at hI
 refine ⟨_, rfl, ?_⟩
 refine T ?_
 refine sq (y_build (vs := []) (cs := #[vi 0, vs none 0 0]) rfl trivial (by kernel_rfl)) ?_
 refine l_alloc (cs := #[vi 0, vs none 0 0]) hI gn rfl rfl zero_27 rfl ?_
 clear hI; intro b3 c9 w3 hI
 refine l_store (new := [vi 0, vs none 0 0]) (cs' := #[vi 0, vs none 0 0]) hI .z gn rfl rfl et et rfl size_27 rfl rfl rfl ?_
 clear hI; intro c10 w4 hI
 refine T ?_
 have hI := hI.add (c := Cl.sl cGMono none 0 ([] : List GMono)) SlC.nil
 refine c_loop (α := Nat × Bool × Gparser_reader × GLin × (Option Addr) × Nat × (Option Addr) × Nat) (fun x => fun w => ∃ C, Bun C0 F w0 C w [MO.box b1 67 (Aparser_reader (x.2.2.1) (x.2.2.2.2.1) (x.2.2.2.2.2.1)), MO.box b2 27 #[vi 0, vs none 0 0], MO.box b3 27 (ALin (x.2.2.2.1) (x.2.2.2.2.2.2.1) (x.2.2.2.2.2.2.2))] [Cl.sl cGToken (x.2.2.2.2.1) (x.2.2.2.2.2.1) (x.2.2.1).l, Cl.sl cGMono (x.2.2.2.2.2.2.1) (x.2.2.2.2.2.2.2) (x.2.2.2.1).L, clSpace] ∧ m_parser_reader_form_w_l1 (x.1) (x.2.1) (x.2.2.1) (x.2.2.2.1) = some r) (fun x _ => x.1) (fun x => [(0, vp b1 0), (2, vp b2 0), (3, vb (x.2.1)), (4, vp b3 0)]) (fu, r2, s1, (⟨0, ([] : List GMono)⟩ : GLin), a4, c6, none, 0) ⟨_, hI.arr (.c (.s .z) (.c (.s .z) (.c .z .n))) ⟨(.s .z), .z, (.s (.s (.s .z))), trivial⟩, h⟩ SB ?_
 clear h hI; rintro ⟨fuel1, negative1, r3, sum1, a5, c11, a6, c12⟩ w5 ⟨c13, hI, h⟩
 dsimp only at hI h
 rcases fuel1 with _ | fuel1
 ·rw [m_parser_reader_form_w_l1] at h; cases h
 rw [m_parser_reader_form_w_l1] at h
 refine c_sub (e := [(0, vp b1 0), (2, vp b2 0), (3, vb negative1), (4, vp b3 0)]) SB ?_
 refine T ?_
 refine c_seq ?_
 rcases pb_some h with ⟨⟨r4, s2⟩, hx2, h⟩ | ⟨pa_, pn_, hx2, hp_⟩
 rotate_left
 ·subst hp_
  refine c_drawX [3, 9] false (.c (1, .q) (.c (2, .q) (.three 0 (.two 3 tr_parser_reader_form_w_3_0 8 tr_parser_reader_form_w_3_1) 3 (.two 0 tr_parser_reader_form_w_3_0 8 tr_parser_reader_form_w_3_2) 8 (.two 0 tr_parser_reader_form_w_3_1 3 tr_parser_reader_form_w_3_2)))) hI (by kernel_rfl) (by kernel_rfl) ?_
  clear hI; intro w15 hI
  refine a_join (α := Nat × NP) (T := tr_parser_reader_form_w_3_1) (fun x => [(0, vp b1 0), (2, vp b2 0), (3, vb negative1), (4, vp b3 0), (5, vi r3.at_), (6, (Value.pointer (some ⟨(x.1), 0, none⟩))), (11, vp b1 0), (12, vp b1 0), (13, vp b1 1), (14, vi r3.at_), (16, (Value.agg (ALin sum1 a6 c12))), (17, vp b1 0), (18, vb negative1)]) (fun x w => Bun C0 F w0 (x.2) w [MO.box (x.1) 27 #[vi 0, vs none 0 0], MO.box b1 67 (Aparser_reader r3 a5 c11), MO.box b2 27 #[vi 0, vs none 0 0], MO.box b3 27 (ALin sum1 a6 c12)] [Cl.sl cGToken a5 c11 r3.l, Cl.sl cGMono a6 c12 sum1.L, clSpace]) (fun x w => SN [3, 9] (DM false F (x.2)) w) ?_ ?_
  ·clear hI; rintro ⟨b4, c23⟩ w11 hI
   try dsimp only at hI ⊢
   unfold tr_parser_reader_form_w_3_1
   refine a_turn (F := F) (C := c23) rfl rfl ?_
   obtain ⟨c14, f2, hB, hl2, hk2⟩ := hI.hands (.r (.l (.r (.r .n))))
   refine la_callP rfl gn rfl (r_callF (vs := [vp b1 0, vb negative1]) rfl ok_70 ⟨et, ⟨et, trivial⟩⟩) (Calls.mono (c_parser_reader_term_w c14 f2 w11 r3 negative1 b1 a5 c11 (hB.subs ⟨.z, (.s (.s .z)), trivial⟩) _ hx2) ?_)
   intro e_ w_ hq_; obtain ⟨rfl, C_, hB_⟩ := pan_of hq_; obtain ⟨C9_, -, hI_⟩ := hk2 _ _ _ _ hB_; exact .inr ⟨_, rfl, kp_of (.inr ⟨_, _, rfl, rfl, ⟨_, hI_.arr .n trivial⟩⟩)⟩
  intro hk_tr_parser_reader_form_w_3_1
  refine V ?_
  refine a_three ?_ ?_ ?_
  ·skip
   refine a_val rfl gn rfl (y_loadN (l := (lLin sum1 a6 c12)) rfl et u27 rfl size_27 (CellsAt.of_blk (hI.blk (.s (.s .z))) rfl)) SX.self ?_
   refine a_two ?_ ?_
   ·skip
    refine a_turnT (F := F) (C := c13) rfl rfl ?_
    obtain ⟨c14, f2, hB, hl2, hk2⟩ := hI.hands (.l (.r (.r .n)))
    refine la_callP rfl gn rfl (r_callF (vs := [vp b1 0, vb negative1]) rfl ok_70 ⟨et, ⟨et, trivial⟩⟩) (Calls.mono (c_parser_reader_term_w c14 f2 w15 r3 negative1 b1 a5 c11 (hB.subs ⟨.z, (.s (.s .z)), trivial⟩) _ hx2) ?_)
    intro e_ w_ hq_; obtain ⟨rfl, C_, hB_⟩ := pan_of hq_; obtain ⟨C9_, -, hI_⟩ := hk2 _ _ _ _ hB_; exact .inr ⟨_, rfl, kp_of (.inr ⟨_, _, rfl, rfl, ⟨_, hI_.arr .n trivial⟩⟩)⟩
   refine la_alloc (cs := #[vi 0, vs none 0 0]) hI rfl gn rfl rfl zero_27 rfl ?_
   clear hI; intro b4 c20 w8 hI
   exact a_sub (hk_tr_parser_reader_form_w_3_1 (b4, c20) _ (hI.arr GO SU)) SB
  ·skip
   refine a_turnT (F := F) (C := c13) rfl rfl ?_
   obtain ⟨c14, f2, hB, hl2, hk2⟩ := hI.hands (.l (.r (.r .n)))
   refine la_callP rfl gn rfl (r_callF (vs := [vp b1 0, vb negative1]) rfl ok_70 ⟨et, ⟨et, trivial⟩⟩) (Calls.mono (c_parser_reader_term_w c14 f2 w15 r3 negative1 b1 a5 c11 (hB.subs ⟨.z, (.s (.s .z)), trivial⟩) _ hx2) ?_)
   intro e_ w_ hq_; obtain ⟨rfl, C_, hB_⟩ := pan_of hq_; obtain ⟨C9_, -, hI_⟩ := hk2 _ _ _ _ hB_; exact .inr ⟨_, rfl, kp_of (.inr ⟨_, _, rfl, rfl, ⟨_, hI_.arr .n trivial⟩⟩)⟩
  refine la_alloc (cs := #[vi 0, vs none 0 0]) hI rfl gn rfl rfl zero_27 rfl ?_
  clear hI; intro b4 c20 w8 hI
  refine a_two ?_ ?_
  ·skip
   refine a_val rfl gn rfl (y_loadN (l := (lLin sum1 a6 c12)) rfl et u27 rfl size_27 (CellsAt.of_blk (hI.blk (.s (.s (.s .z)))) rfl)) SX.self ?_
   exact a_sub (hk_tr_parser_reader_form_w_3_1 (b4, c20) _ (hI.arr GO SU)) SB
  refine a_turnT (F := F) (C := c20) rfl rfl ?_
  obtain ⟨c14, f2, hB, hl2, hk2⟩ := hI.hands (.r (.l (.r (.r .n))))
  refine la_callP rfl gn rfl (r_callF (vs := [vp b1 0, vb negative1]) rfl ok_70 ⟨et, ⟨et, trivial⟩⟩) (Calls.mono (c_parser_reader_term_w c14 f2 w8 r3 negative1 b1 a5 c11 (hB.subs ⟨.z, (.s (.s .z)), trivial⟩) _ hx2) ?_)
  intro e_ w_ hq_; obtain ⟨rfl, C_, hB_⟩ := pan_of hq_; obtain ⟨C9_, -, hI_⟩ := hk2 _ _ _ _ hB_; exact .inr ⟨_, rfl, kp_of (.inr ⟨_, _, rfl, rfl, ⟨_, hI_.arr .n trivial⟩⟩)⟩
 try dsimp only at h
 obtain ⟨r5, hx3, h⟩ := bnd_some h
 refine c_drawX [3, 9] false (.c (1, .q) (.c (2, .q) (.three 0 (.two 3 tr_parser_reader_form_w_3_0 8 tr_parser_reader_form_w_3_1) 3 (.two 0 tr_parser_reader_form_w_3_0 8 tr_parser_reader_form_w_3_2) 8 (.two 0 tr_parser_reader_form_w_3_1 3 tr_parser_reader_form_w_3_2)))) hI (by kernel_rfl) (by kernel_rfl) ?_
 clear hI; intro w16 hI
 refine a_join (α := (Option Addr) × Nat × (Option Addr) × Nat × (Option Addr) × Nat × Nat × NP) (T := tr_parser_reader_form_w_3_4) (fun x => [(0, vp b1 0), (2, vp b2 0), (3, vb negative1), (4, vp b3 0), (5, vi r3.at_), (6, (Value.pointer (some ⟨(x.2.2.2.2.2.2.1), 0, none⟩))), (11, vp b1 0), (12, vp b1 0), (13, vp b1 1), (14, vi r3.at_), (15, (Value.tuple #[(Value.agg (ALin r5.1 (x.2.2.2.2.1) (x.2.2.2.2.2.1))), vi r5.2])), (16, (Value.agg (ALin sum1 a6 c12))), (17, vp b1 0), (18, vb negative1), (19, (Value.agg (ALin r4 (x.1) (x.2.1)))), (20, (Value.tuple #[(Value.agg (ALin r5.1 (x.2.2.2.2.1) (x.2.2.2.2.2.1))), vi r5.2])), (21, (Value.agg (ALin r5.1 (x.2.2.2.2.1) (x.2.2.2.2.2.1)))), (22, vi r5.2)]) (fun x w => Bun C0 F w0 (x.2.2.2.2.2.2.2) w [MO.box (x.2.2.2.2.2.2.1) 27 #[vi 0, vs none 0 0], MO.box b1 67 (Aparser_reader s2 (x.2.2.1) (x.2.2.2.1)), MO.box b2 27 #[vi 0, vs none 0 0], MO.box b3 27 (ALin sum1 a6 c12)] [Cl.sl cGMono (x.2.2.2.2.1) (x.2.2.2.2.2.1) r5.1.L, Cl.sl cGMono (x.1) (x.2.1) r4.L, Cl.sl cGToken (x.2.2.1) (x.2.2.2.1) s2.l, Cl.sl cGToken a5 c11 r3.l, Cl.sl cGMono a6 c12 sum1.L, clSpace]) (fun x w => SN [] (DM true F (x.2.2.2.2.2.2.2)) w) ?_ ?_
 ·clear hI; rintro ⟨a7, c15, a8, c16, a9, c19, b4, c26⟩ w14 hI
  try dsimp only at hI ⊢
  unfold tr_parser_reader_form_w_3_4
  refine la_store (new := (lLin r5.1 a9 c19)) (cs' := (ALin r5.1 a9 c19)) hI .z rfl gn rfl rfl et et rfl size_27 rfl rfl rfl ?_
  clear hI; intro c21 w9 hI
  refine V ?_
  refine c_join (α := Unit) (fun _ => ⟨36, []⟩) (fun _ => [(0, vp b1 0), (2, vp b2 0), (4, vp b3 0), (6, vp b4 0)]) (fun _ => fun w => ∃ C, Bun C0 F w0 C w [MO.box b1 67 (Aparser_reader s2 a8 c16), MO.box b2 27 #[vi 0, vs none 0 0], MO.box b3 27 (ALin sum1 a6 c12), MO.box b4 27 (ALin r5.1 a9 c19)] [Cl.sl cGToken a8 c16 s2.l, Cl.sl cGMono a6 c12 sum1.L, Cl.sl cGMono a9 c19 r5.1.L, clSpace] ∧ m_parser_reader_form_w_j1 s2 (m_parser_reader_form_w_l1 fuel1) r5 = some r) ?_ ?_
  ·clear h hI; rintro _ w17 ⟨c27, hI, h⟩
   try dsimp only at hI h
   rw [m_parser_reader_form_w_j1] at h
   refine c_sub (e := [(0, vp b1 0), (2, vp b2 0), (4, vp b3 0), (6, vp b4 0)]) SB ?_
   refine T ?_
   refine l_store (new := (lLin r5.1 a9 c19)) (cs' := (ALin r5.1 a9 c19)) hI (.s (.s .z)) gn rfl rfl et et rfl size_27 rfl rfl rfl ?_
   clear hI; intro c28 w18 hI
   refine T ?_
   obtain ⟨c29, f3, hB, hl4, hk3⟩ := hI.hands (.l (.r (.r (.r .n))))
   obtain ⟨⟨r6, s3⟩, hx5, h⟩ := bnd_some h
   try dsimp only at h
   refine s_call gn rfl (r_callF (vs := [vp b1 0, (str ([43] : List UInt8))]) rfl ok_68 ⟨et, ⟨ev_const, trivial⟩⟩) (Calls.mono (c_parser_reader_accept_w c29 f3 w18 s2 ([43] : List UInt8) b1 a8 c16 (hB.subs ⟨.z, trivial⟩) _ hx5) ?_)
   rintro _ w19 ⟨a10, c30, c31, rfl, hB2⟩
   obtain ⟨c32, hs3, hI⟩ := hk3 _ _ _ _ hB2
   dsimp only [ca, na] at hI
   refine ⟨_, rfl, ?_⟩
   refine T ?_
   refine cif h et (fun hb h => ?_) (fun hb h => ?_)
   ·refine T ?_
    refine s_nil ?_
    exact k_loop (fuel1, false, s3, r5.1, a10, c30, a9, c19) SB ⟨_, hI.arr GO SU, h⟩ (Nat.lt_succ_self _)
   refine T ?_
   obtain ⟨c33, f4, hB, hl5, hk4⟩ := hI.hands (.l (.r (.r (.r .n))))
   obtain ⟨⟨r7, s4⟩, hx6, h⟩ := bnd_some h
   try dsimp only at h
   refine s_call gn rfl (r_callF (vs := [vp b1 0, (str ([45] : List UInt8))]) rfl ok_68 ⟨et, ⟨ev_const, trivial⟩⟩) (Calls.mono (c_parser_reader_accept_w c33 f4 w19 s3 ([45] : List UInt8) b1 a10 c30 (hB.subs ⟨.z, trivial⟩) _ hx6) ?_)
   rintro _ w20 ⟨a11, c34, c35, rfl, hB2⟩
   obtain ⟨c36, hs4, hI⟩ := hk4 _ _ _ _ hB2
   dsimp only [ca, na] at hI
   refine ⟨_, rfl, ?_⟩
   refine T ?_
   refine cif h et (fun hb h => ?_) (fun hb h => ?_)
   ·refine T ?_
    refine s_nil ?_
    exact k_loop (fuel1, true, s4, r5.1, a11, c34, a9, c19) SB ⟨_, hI.arr GO SU, h⟩ (Nat.lt_succ_self _)
   refine T ?_
   refine l_store (new := (lLin r5.1 a9 c19)) (cs' := (ALin r5.1 a9 c19)) hI (.s .z) gn rfl rfl et et rfl size_27 rfl rfl rfl ?_
   clear hI; intro c37 w21 hI
   refine nk (c_ret ?_)
   obtain rfl := some_inj h
   refine QG ?_
   exact .inl ⟨_, rfl, a9, c19, a11, c34, _, rfl, hI.arr GO SU⟩
  refine T ?_
  refine cif h et (fun hb h => ?_) (fun hb h => ?_)
  ·refine T ?_
   rcases pb_some h with ⟨r8, hx7, h⟩ | ⟨pa_, pn_, hx7, hp_⟩
   rotate_left
   ·subst hp_
    refine s_callP gn rfl (r_callF (vs := [vp b1 0, vi r3.at_, vi 3]) rfl ok_71 ⟨et, ⟨et, ⟨ev_const, trivial⟩⟩⟩) (Calls.mono (c_parser_reader_fail noM w9 (fun _ k => k.elim) s2 r3.at_ 3 b1 a8 c16 ⟨(hI.get0 (.s (.s .z))), hI.lendBox (.s .z), trivial⟩ (.pan pa_ pn_) hx7) ?_)
    intro e_ w_ hq_; obtain ⟨rfl, hx_⟩ := pan_of hq_; have hI_ := hI.ext hx_; exact .inr ⟨_, rfl, kp_of (.inr ⟨_, _, rfl, rfl, ⟨_, hI_.arr .n trivial⟩⟩)⟩
   try dsimp only at h
   refine s_call gn rfl (r_callF (vs := [vp b1 0, vi r3.at_, vi 3]) rfl ok_71 ⟨et, ⟨et, ⟨ev_const, trivial⟩⟩⟩) (Calls.mono (c_parser_reader_fail noM w9 (fun _ k => k.elim) s2 r3.at_ 3 b1 a8 c16 ⟨(hI.get0 (.s (.s .z))), hI.lendBox (.s .z), trivial⟩ (.ret r8) hx7) ?_)
   intro e_ w22 hq_; obtain ⟨rfl, hx8, hl6⟩ := ret_of hq_
   refine ⟨_, rfl, ?_⟩
   replace hI := (hI.ext hx8)
   refine s_nil ?_
   exact k_join () SB ⟨_, hI.arr GO SU, h⟩ rfl
  exact c_skip (k_join () SB ⟨_, hI.arr GO SU, h⟩ rfl)
 intro hk_tr_parser_reader_form_w_3_4
 refine a_join (α := (Option Addr) × Nat × (Option Addr) × Nat × Nat × NP) (T := tr_parser_reader_form_w_3_3) (fun x => [(0, vp b1 0), (2, vp b2 0), (3, vb negative1), (4, vp b3 0), (5, vi r3.at_), (6, (Value.pointer (some ⟨(x.2.2.2.2.1), 0, none⟩))), (11, vp b1 0), (12, vp b1 0), (13, vp b1 1), (14, vi r3.at_), (16, (Value.agg (ALin sum1 a6 c12))), (17, vp b1 0), (18, vb negative1), (19, (Value.agg (ALin r4 (x.1) (x.2.1))))]) (fun x w => Bun C0 F w0 (x.2.2.2.2.2) w [MO.box (x.2.2.2.2.1) 27 #[vi 0, vs none 0 0], MO.box b1 67 (Aparser_reader s2 (x.2.2.1) (x.2.2.2.1)), MO.box b2 27 #[vi 0, vs none 0 0], MO.box b3 27 (ALin sum1 a6 c12)] [Cl.sl cGMono (x.1) (x.2.1) r4.L, Cl.sl cGToken (x.2.2.1) (x.2.2.2.1) s2.l, Cl.sl cGToken a5 c11 r3.l, Cl.sl cGMono a6 c12 sum1.L, clSpace]) (fun x w => SN [] (DM true F (x.2.2.2.2.2)) w) ?_ ?_
 ·clear hI; rintro ⟨a7, c15, a8, c16, b4, c25⟩ w13 hI
  try dsimp only at hI ⊢
  unfold tr_parser_reader_form_w_3_3
  refine la_call rfl gn rfl (r_callF (vs := [(Value.agg (ALin sum1 a6 c12)), (Value.agg (ALin r4 a7 c15))]) rfl ok_69 ⟨et, ⟨et, trivial⟩⟩) (Calls.mono (c_lin_Add (Dj F c25) w13 hI.lt sum1 r4 a6 c12 a7 c15 ⟨(hI.get (.s (.s (.s .z)))), (hI.get .z), trivial⟩ r5 hx3) ?_)
  rintro _ w7 ⟨a9, c19, rfl, hx4, hl3⟩
  refine ⟨_, rfl, hx4, ?_⟩
  replace hI := (hI.ext hx4).adds hl3; dsimp only [ca, na] at hI
  refine V ?_
  exact a_sub (hk_tr_parser_reader_form_w_3_4 (a7, c15, a8, c16, a9, c19, b4, c25) _ (hI.arr GO SU)) SB
 intro hk_tr_parser_reader_form_w_3_3
 refine a_join (α := (Option Addr) × Nat × (Option Addr) × Nat × Nat × NP) (T := tr_parser_reader_form_w_3_2) (fun x => [(0, vp b1 0), (2, vp b2 0), (3, vb negative1), (4, vp b3 0), (5, vi r3.at_), (6, (Value.pointer (some ⟨(x.2.2.2.2.1), 0, none⟩))), (11, vp b1 0), (12, vp b1 0), (13, vp b1 1), (14, vi r3.at_), (17, vp b1 0), (18, vb negative1), (19, (Value.agg (ALin r4 (x.1) (x.2.1))))]) (fun x w => Bun C0 F w0 (x.2.2.2.2.2) w [MO.box (x.2.2.2.2.1) 27 #[vi 0, vs none 0 0], MO.box b1 67 (Aparser_reader s2 (x.2.2.1) (x.2.2.2.1)), MO.box b2 27 #[vi 0, vs none 0 0], MO.box b3 27 (ALin sum1 a6 c12)] [Cl.sl cGMono (x.1) (x.2.1) r4.L, Cl.sl cGToken (x.2.2.1) (x.2.2.2.1) s2.l, Cl.sl cGToken a5 c11 r3.l, Cl.sl cGMono a6 c12 sum1.L, clSpace]) (fun x w => SN [] (DM true F (x.2.2.2.2.2)) w) ?_ ?_
 ·clear hI; rintro ⟨a7, c15, a8, c16, b4, c24⟩ w12 hI
  try dsimp only at hI ⊢
  unfold tr_parser_reader_form_w_3_2
  refine a_val rfl gn rfl (y_loadN (l := (lLin sum1 a6 c12)) rfl et u27 rfl size_27 (CellsAt.of_blk (hI.blk (.s (.s (.s .z)))) rfl)) SX.self ?_
  exact a_sub (hk_tr_parser_reader_form_w_3_3 (a7, c15, a8, c16, b4, c24) _ (hI.arr GO SU)) SB
 intro hk_tr_parser_reader_form_w_3_2
 refine a_join (α := Nat × NP) (T := tr_parser_reader_form_w_3_1) (fun x => [(0, vp b1 0), (2, vp b2 0), (3, vb negative1), (4, vp b3 0), (5, vi r3.at_), (6, (Value.pointer (some ⟨(x.1), 0, none⟩))), (11, vp b1 0), (12, vp b1 0), (13, vp b1 1), (14, vi r3.at_), (16, (Value.agg (ALin sum1 a6 c12))), (17, vp b1 0), (18, vb negative1)]) (fun x w => Bun C0 F w0 (x.2) w [MO.box (x.1) 27 #[vi 0, vs none 0 0], MO.box b1 67 (Aparser_reader r3 a5 c11), MO.box b2 27 #[vi 0, vs none 0 0], MO.box b3 27 (ALin sum1 a6 c12)] [Cl.sl cGToken a5 c11 r3.l, Cl.sl cGMono a6 c12 sum1.L, clSpace]) (fun x w => SN [3, 9] (DM false F (x.2)) w) ?_ ?_
 ·clear hI; rintro ⟨b4, c23⟩ w11 hI
  try dsimp only at hI ⊢
  unfold tr_parser_reader_form_w_3_1
  refine a_turn (F := F) (C := c23) rfl rfl ?_
  obtain ⟨c14, f2, hB, hl2, hk2⟩ := hI.hands (.r (.l (.r (.r .n))))
  refine la_callX rfl gn rfl (r_callF (vs := [vp b1 0, vb negative1]) rfl ok_70 ⟨et, ⟨et, trivial⟩⟩) (Calls.mono (c_parser_reader_term_w c14 f2 w11 r3 negative1 b1 a5 c11 (hB.subs ⟨.z, (.s (.s .z)), trivial⟩) _ hx2) ?_)
  intro e_ w6 hq_; obtain ⟨a7, c15, a8, c16, c17, rfl, hB2⟩ := ret_of hq_
  obtain ⟨c18, hs2, hI⟩ := hk2 _ _ _ _ hB2
  dsimp only [ca, na] at hI
  refine ⟨_, rfl, DM true F c18, hs2, ?_⟩
  exact a_sub (hk_tr_parser_reader_form_w_3_3 (a7, c15, a8, c16, b4, c18) _ (hI.arr GO SU)) SB
 intro hk_tr_parser_reader_form_w_3_1
 refine a_join (α := (Option Addr) × Nat × (Option Addr) × Nat × NP) (T := tr_parser_reader_form_w_3_0) (fun x => [(0, vp b1 0), (2, vp b2 0), (3, vb negative1), (4, vp b3 0), (5, vi r3.at_), (11, vp b1 0), (12, vp b1 0), (13, vp b1 1), (14, vi r3.at_), (16, (Value.agg (ALin sum1 a6 c12))), (17, vp b1 0), (18, vb negative1), (19, (Value.agg (ALin r4 (x.1) (x.2.1))))]) (fun x w => Bun C0 F w0 (x.2.2.2.2) w [MO.box b1 67 (Aparser_reader s2 (x.2.2.1) (x.2.2.2.1)), MO.box b2 27 #[vi 0, vs none 0 0], MO.box b3 27 (ALin sum1 a6 c12)] [Cl.sl cGMono (x.1) (x.2.1) r4.L, Cl.sl cGToken (x.2.2.1) (x.2.2.2.1) s2.l, Cl.sl cGToken a5 c11 r3.l, Cl.sl cGMono a6 c12 sum1.L, clSpace]) (fun x w => SN [] (DM true F (x.2.2.2.2)) w) ?_ ?_
 ·clear hI; rintro ⟨a7, c15, a8, c16, c22⟩ w10 hI
  try dsimp only at hI ⊢
  unfold tr_parser_reader_form_w_3_0
  refine a_two ?_ ?_
  ·skip
   refine la_call rfl gn rfl (r_callF (vs := [(Value.agg (ALin sum1 a6 c12)), (Value.agg (ALin r4 a7 c15))]) rfl ok_69 ⟨et, ⟨et, trivial⟩⟩) (Calls.mono (c_lin_Add (Dj F c22) w10 hI.lt sum1 r4 a6 c12 a7 c15 ⟨(hI.get (.s (.s (.s .z)))), (hI.get .z), trivial⟩ r5 hx3) ?_)
   rintro _ w7 ⟨a9, c19, rfl, hx4, hl3⟩
   refine ⟨_, rfl, hx4, ?_⟩
   replace hI := (hI.ext hx4).adds hl3; dsimp only [ca, na] at hI
   refine V ?_
   refine la_alloc (cs := #[vi 0, vs none 0 0]) hI rfl gn rfl rfl zero_27 rfl ?_
   clear hI; intro b4 c20 w8 hI
   exact a_sub (hk_tr_parser_reader_form_w_3_4 (a7, c15, a8, c16, a9, c19, b4, c20) _ (hI.arr GO SU)) SB
  refine la_alloc (cs := #[vi 0, vs none 0 0]) hI rfl gn rfl rfl zero_27 rfl ?_
  clear hI; intro b4 c20 w8 hI
  exact a_sub (hk_tr_parser_reader_form_w_3_3 (a7, c15, a8, c16, b4, c20) _ (hI.arr GO SU)) SB
 intro hk_tr_parser_reader_form_w_3_0
 refine V ?_
 refine a_three ?_ ?_ ?_
 ·skip
  refine a_val rfl gn rfl (y_loadN (l := (lLin sum1 a6 c12)) rfl et u27 rfl size_27 (CellsAt.of_blk (hI.blk (.s (.s .z))) rfl)) SX.self ?_
  refine a_two ?_ ?_
  ·skip
   refine a_turnT (F := F) (C := c13) rfl rfl ?_
   obtain ⟨c14, f2, hB, hl2, hk2⟩ := hI.hands (.l (.r (.r .n)))
   refine la_callX rfl gn rfl (r_callF (vs := [vp b1 0, vb negative1]) rfl ok_70 ⟨et, ⟨et, trivial⟩⟩) (Calls.mono (c_parser_reader_term_w c14 f2 w16 r3 negative1 b1 a5 c11 (hB.subs ⟨.z, (.s (.s .z)), trivial⟩) _ hx2) ?_)
   intro e_ w6 hq_; obtain ⟨a7, c15, a8, c16, c17, rfl, hB2⟩ := ret_of hq_
   obtain ⟨c18, hs2, hI⟩ := hk2 _ _ _ _ hB2
   dsimp only [ca, na] at hI
   refine ⟨_, rfl, DM true F c18, hs2, ?_⟩
   exact a_sub (hk_tr_parser_reader_form_w_3_0 (a7, c15, a8, c16, c18) _ (hI.arr GO SU)) SB
  refine la_alloc (cs := #[vi 0, vs none 0 0]) hI rfl gn rfl rfl zero_27 rfl ?_
  clear hI; intro b4 c20 w8 hI
  exact a_sub (hk_tr_parser_reader_form_w_3_1 (b4, c20) _ (hI.arr GO SU)) SB
 ·skip
  refine a_turnT (F := F) (C := c13) rfl rfl ?_
  obtain ⟨c14, f2, hB, hl2, hk2⟩ := hI.hands (.l (.r (.r .n)))
  refine la_callX rfl gn rfl (r_callF (vs := [vp b1 0, vb negative1]) rfl ok_70 ⟨et, ⟨et, trivial⟩⟩) (Calls.mono (c_parser_reader_term_w c14 f2 w16 r3 negative1 b1 a5 c11 (hB.subs ⟨.z, (.s (.s .z)), trivial⟩) _ hx2) ?_)
  intro e_ w6 hq_; obtain ⟨a7, c15, a8, c16, c17, rfl, hB2⟩ := ret_of hq_
  obtain ⟨c18, hs2, hI⟩ := hk2 _ _ _ _ hB2
  dsimp only [ca, na] at hI
  refine ⟨_, rfl, DM true F c18, hs2, ?_⟩
  refine a_two ?_ ?_
  ·skip
   refine a_val rfl gn rfl (y_loadN (l := (lLin sum1 a6 c12)) rfl et u27 rfl size_27 (CellsAt.of_blk (hI.blk (.s (.s .z))) rfl)) SX.self ?_
   exact a_sub (hk_tr_parser_reader_form_w_3_0 (a7, c15, a8, c16, c18) _ (hI.arr GO SU)) SB
  refine la_alloc (cs := #[vi 0, vs none 0 0]) hI rfl gn rfl rfl zero_27 rfl ?_
  clear hI; intro b4 c20 w8 hI
  exact a_sub (hk_tr_parser_reader_form_w_3_2 (a7, c15, a8, c16, b4, c20) _ (hI.arr GO SU)) SB
 refine la_alloc (cs := #[vi 0, vs none 0 0]) hI rfl gn rfl rfl zero_27 rfl ?_
 clear hI; intro b4 c20 w8 hI
 refine a_two ?_ ?_
 ·skip
  refine a_val rfl gn rfl (y_loadN (l := (lLin sum1 a6 c12)) rfl et u27 rfl size_27 (CellsAt.of_blk (hI.blk (.s (.s (.s .z)))) rfl)) SX.self ?_
  exact a_sub (hk_tr_parser_reader_form_w_3_1 (b4, c20) _ (hI.arr GO SU)) SB
 refine a_turnT (F := F) (C := c20) rfl rfl ?_
 obtain ⟨c14, f2, hB, hl2, hk2⟩ := hI.hands (.r (.l (.r (.r .n))))
 refine la_callX rfl gn rfl (r_callF (vs := [vp b1 0, vb negative1]) rfl ok_70 ⟨et, ⟨et, trivial⟩⟩) (Calls.mono (c_parser_reader_term_w c14 f2 w8 r3 negative1 b1 a5 c11 (hB.subs ⟨.z, (.s (.s .z)), trivial⟩) _ hx2) ?_)
 intro e_ w6 hq_; obtain ⟨a7, c15, a8, c16, c17, rfl, hB2⟩ := ret_of hq_
 obtain ⟨c18, hs2, hI⟩ := hk2 _ _ _ _ hB2
 dsimp only [ca, na] at hI
 refine ⟨_, rfl, DM true F c18, hs2, ?_⟩
 exact a_sub (hk_tr_parser_reader_form_w_3_2 (a7, c15, a8, c16, b4, c18) _ (hI.arr GO SU)) SB
theorem c_parser_Lin_1_w2 (C0 F : NP) (w0 : World) (a1 : Gparser_reader) (a3 : GLin) (b1 : Nat) (b2 : Nat) (a2 : Option Addr) (c1 : Nat) (b3 : Nat) (a4 : Option Addr) (c2 : Nat) (hI : Bun C0 F w0 C0 w0 [MO.box b2 67 (Aparser_reader a1 a2 c1), MO.box b3 27 (ALin a3 a4 c2)] [Cl.sl cGToken a2 c1 a1.l, Cl.blk b1 65 #[vp b2 0], Cl.sl cGMono a4 c2 a3.L, clSpace]) (r : Pan (Unit × Gparser_reader × GLin))
  (h : m_parser_Lin_1_w2 a1 a3 = some r) :
  Calls Tryz.prog 30 #[vp b1 0, vp b3 0] w0 fun e w => (∃ rx : Unit × Gparser_reader × GLin, r = .ret rx ∧ ∃ (a5 : Option Addr) (c3 : Nat) (a6 : Option Addr) (c4 : Nat) (C : NP), e = .returned (Value.tuple #[]) ∧ Bun C0 F w0 C w [MO.box b2 67 (Aparser_reader rx.2.1 a5 c3), MO.box b3 27 (ALin rx.2.2 a6 c4)] [Cl.sl cGToken a5 c3 rx.2.1.l, Cl.sl cGMono a6 c4 rx.2.2.L]) ∨ ∃ (pa pn : Int), r = .pan pa pn ∧ e = .panicked [pe 114 pa pn] ∧ ∃ C : NP, Bun C0 F w0 C w [] [] := by
 refine enterP (l := [vp b1 0, vp b3 0]) Tryz.func30 rfl Tryz.ntmps30 rfl ?_
 rw [m_parser_Lin_1_w2] at h
 refine T ?_
 obtain ⟨c5, f1, hB, hl1, hk1⟩ := hI.hands (.l (.r .n))
 refine s_pb h (fun _ hx1 => c_parser_reader_form_w c5 f1 w0 a1 b2 a2 c1 (hB.subs ⟨.z, (.s (.s (.s .z))), trivial⟩) _ hx1) (pnb hk1) (r_callF rfl ok_31 ⟨et, trivial⟩) ?_
 rintro ⟨r1, s1⟩ hx1 h _ w1 ⟨a7, c6, a8, c7, c8, rfl, hB2⟩
 try dsimp only at h
 obtain ⟨c9, hs1, hI⟩ := hk1 _ _ _ _ hB2
 dsimp only [ca, na] at hI
 refine ⟨_, rfl, ?_⟩
 refine l_store (new := (lLin r1 a7 c6)) (cs' := (ALin r1 a7 c6)) hI (.s .z) gn rfl rfl et et rfl size_27 rfl rfl rfl ?_
 clear hI; intro c10 w2 hI
 refine s_nil ?_
 obtain rfl := some_inj h
 refine QG ?_
 exact .inl ⟨_, rfl, a8, c7, a7, c6, _, rfl, hI.arr GO SU⟩
def tr_parser_Lin_1_1 : Tr := .n
def tr_parser_Lin_1_0 : Tr := (.c (4, .s) (.c (6, .q) (.c (7, .q) tr_parser_Lin_1_1)))
theorem c_parser_Lin (F : NP) (w0 : World) (hF : ∀ k, F k → k < w0.heap.size) (l1 : List GToken) (at1 : Int) (a1 : Option Addr) (c1 : Nat) (hc : AllCl [Cl.sl cGToken a1 c1 l1, clSpace] F w0) (r : GLin × Int × Int)
  (h : m_parser_Lin l1 at1 = some r) :
  Calls Tryz.prog 12 #[vs a1 l1.length c1, vi at1] w0 fun e w => ∃ (a2 : Option Addr) (c2 : Nat), e = .returned (Value.tuple #[(Value.agg (ALin r.1 a2 c2)), vi r.2.1, vi r.2.2]) ∧ Ext w0 w ∧ AllCl [Cl.sl cGMono a2 c2 r.1.L] F w := by
 refine enterK Tryz.func12 rfl Tryz.ntmps12 rfl ?_
 have hI := Bun.start hF hc
 clear hc
 rw [m_parser_Lin] at h
 refine sr (l_alloc (cs := #[vi 0, vs none 0 0]) hI gn rfl rfl zero_27 rfl ?_)
 clear hI; intro b1 c3 w1 hI
 refine sac ?_
 refine sac ?_
 refine nk (c_seq (sr (sm ?_)))
 refine sq (y_lss rfl et ev_const) ?_
 refine sm ?_
 refine s_gval (g_false rfl rfl rfl rfl) rfl (fun hc => y_move rfl et) ?_
 refine s_gval (g_false rfl rfl rfl rfl) rfl (fun hc => y_move rfl et) ?_
 refine s_gval (g_false rfl rfl rfl rfl) rfl (fun hc => y_lenl rfl u22 (ev_gv et hc)) ?_
 refine s_gval (g_false rfl rfl rfl rfl) rfl (fun hc => y_gtr rfl (ev_gv et hc) (ev_gv et hc)) ?_
 refine sq (y_or rfl et et) ?_
 refine nk (cif h et (fun hb h => ?_) (fun hb h => ?_))
 ·refine sr (sq (y_build (vs := []) (cs := #[vi 0, vs none 0 0]) rfl trivial (by kernel_rfl)) ?_)
  refine l_store (new := [vi 0, vs none 0 0]) (cs' := #[vi 0, vs none 0 0]) hI .z gn rfl rfl et et rfl size_27 rfl rfl rfl ?_
  clear hI; intro c4 w2 hI
  refine sac ?_
  refine sac ?_
  refine nk (c_ret ?_)
  have hI := hI.add (c := Cl.sl cGMono none 0 ([] : List GMono)) SlC.nil
  obtain rfl := some_inj h
  exact q_ret (vs := [(Value.agg #[vi 0, vs none 0 0]), vi 0, vi 1]) Tryz.results12 ⟨⟨_, ev_tmp rfl rfl, load_agg (l := [vi 0, vs none 0 0]) u27 rfl size_27 (CellsAt.of_blk (hI.blk .z) rfl)⟩, ⟨ev_tmp rfl rfl, ⟨ev_tmp rfl rfl, trivial⟩⟩⟩ ⟨none, 0, rfl, hI.ext0, hI.fin ⟨.z, trivial⟩⟩
 refine c_skip (k_same (sr (sm ?_)))
 refine sm ?_
 refine sq (y_build (vs := [(0, vs a1 l1.length c1), (1, vi at1)]) (cs := #[vs a1 l1.length c1, vi at1, vi 0]) rfl ⟨rfl, et, ⟨rfl, et, trivial⟩⟩ (by kernel_rfl)) ?_
 refine l_box (v := (Value.agg #[vs a1 l1.length c1, vi at1, vi 0])) (cs := #[vs a1 l1.length c1, vi at1, vi 0]) hI gn rfl rfl et rfl ?_
 clear hI; intro b2 c5 w3 hI
 refine l_alloc (cs := #[(Value.pointer none)]) hI gn rfl rfl zero_65 rfl ?_
 clear hI; intro b3 c6 w4 hI
 refine l_store (new := [vp b2 0]) (cs' := #[vp b2 0]) hI .z gn rfl rfl et et rfl size_65 rfl rfl rfl ?_
 clear hI; intro c7 w5 hI
 refine nk (sr (sq (y_build (vs := []) (cs := #[vi 0, vs none 0 0]) rfl trivial (by kernel_rfl)) ?_))
 refine l_alloc (cs := #[vi 0, vs none 0 0]) hI gn rfl rfl zero_27 rfl ?_
 clear hI; intro b4 c8 w6 hI
 refine l_store (new := [vi 0, vs none 0 0]) (cs' := #[vi 0, vs none 0 0]) hI .z gn rfl rfl et et rfl size_27 rfl rfl rfl ?_
 clear hI; intro c9 w7 hI
 refine nk (c_seq (sr (sq (y_makeFunc (vs := []) (cap := [vp b3 0, vp b4 0]) rfl rfl ⟨et, ⟨et, trivial⟩⟩) ?_)))
 obtain ⟨c10, hI⟩ := hI.relBox (.s .z)
 have hI := hI.add (c := Cl.sl cGMono none 0 ([] : List GMono)) SlC.nil
 obtain ⟨c11, f1, hB, hl1, hk1⟩ := hI.hands (.l (.l (.r .n)))
 replace hB := hB.ord (.c (.s .z) (.c .z .n))
 rcases pcatch_some h with ⟨⟨r1, s1, s2⟩, hx1, h⟩ | ⟨pa1, pn1, hx1, hn1, h⟩
 ·skip
  try dsimp only at h
  refine s_call gn rfl (r_callF (vs := [(Value.func (.func 30) #[] #[vp b3 0, vp b4 0])]) rfl ok_29 ⟨et, trivial⟩) (Calls.mono (c_caught_ret (β := (Option Addr) × Nat × (Option Addr) × Nat) (fun x => [MO.box b2 67 (Aparser_reader s1 (x.1) (x.2.1)), MO.box b4 27 (ALin s2 (x.2.2.1) (x.2.2.2))]) (fun x => [Cl.sl cGToken (x.1) (x.2.1) s1.l, Cl.sl cGMono (x.2.2.1) (x.2.2.2) s2.L]) (cl := [Cl.sl cGToken a1 c1 l1, Cl.blk b3 65 #[vp b2 0], Cl.sl cGMono none 0 ([] : List GMono), clSpace]) ok_30 (hB.subs ⟨(.s (.s .z)), (.s .z), .z, (.s (.s (.s .z))), trivial⟩) (fun C1_ F1_ w1_ hB_ => (c_parser_Lin_1_w2 C1_ F1_ w1_ (⟨l1, at1, 0⟩ : Gparser_reader) (⟨0, ([] : List GMono)⟩ : GLin) b3 b2 a1 c1 b4 none 0 hB_ _ hx1).mono fun e_ w_ hq_ => (let ⟨a3, c12, a4, c13, C_, he_, hB2_⟩ := ret_of hq_; ⟨he_, (a3, c12, a4, c13), C_, hB2_⟩))) ?_)
  rintro _ w8 ⟨rfl, ⟨a3, c12, a4, c13⟩, c14, hB2⟩
  obtain ⟨c15, hs1, hI⟩ := hk1 _ _ _ _ hB2
  replace hI : Bun noM F w0 c15 w8 [MO.box b2 67 (Aparser_reader s1 a3 c12), MO.box b4 27 (ALin s2 a4 c13), MO.box b1 27 #[vi 0, vs none 0 0]] [Cl.sl cGToken a3 c12 s1.l, Cl.sl cGMono a4 c13 s2.L, Cl.sl cGMono none 0 ([] : List GMono), Cl.blk b3 65 #[vp b2 0], Cl.sl cGToken a1 c1 l1, clSpace] := hI
  refine ⟨_, rfl, ?_⟩
  refine sm ?_
  refine sq (y_extract rfl et rfl) ?_
  refine sq (y_extract rfl et rfl) ?_
  refine sa ?_
  refine sa ?_
  refine nk (sr (sm ?_))
  refine sq (y_neq rfl et ev_const) ?_
  refine nk (cif h et (fun hb h => ?_) (fun hb h => ?_))
  ·refine sr (sq (y_build (vs := []) (cs := #[vi 0, vs none 0 0]) rfl trivial (by kernel_rfl)) ?_)
   refine sm ?_
   refine sm ?_
   refine l_store (new := [vi 0, vs none 0 0]) (cs' := #[vi 0, vs none 0 0]) hI (.s (.s .z)) gn rfl rfl et et rfl size_27 rfl rfl rfl ?_
   clear hI; intro c16 w9 hI
   refine sa ?_
   refine sa ?_
   refine s_nil ?_
   refine k_next (e := [(4, vp b1 0), (5, vi 0), (6, vi 0)]) ⟨rfl, rfl, rfl, trivial⟩ ?_
   refine c_ret ?_
   obtain rfl := some_inj h
   exact q_ret (vs := [(Value.agg #[vi 0, vs none 0 0]), vi 0, vi 0]) Tryz.results12 ⟨⟨_, ev_tmp rfl rfl, load_agg (l := [vi 0, vs none 0 0]) u27 rfl size_27 (CellsAt.of_blk (hI.blk (.s (.s .z))) rfl)⟩, ⟨ev_tmp rfl rfl, ⟨ev_tmp rfl rfl, trivial⟩⟩⟩ ⟨none, 0, rfl, hI.ext0, hI.fin ⟨(.s (.s .z)), trivial⟩⟩
  refine c_skip (k_next (e := [(4, vp b1 0), (7, vp b3 0), (8, vp b4 0)]) ⟨rfl, rfl, rfl, trivial⟩ ?_)
  refine c_seq (c_drawX [5] false (.c (0, .q) (.two 1 (.c (2, .q) (.c (3, .q) (.two 4 (.c (5, .s) (.c (6, .q) (.c (7, .q) tr_parser_Lin_1_1))) 5 tr_parser_Lin_1_0))) 5 (.c (1, .s) (.c (2, .q) (.c (3, .q) tr_parser_Lin_1_0))))) hI (by kernel_rfl) (by kernel_rfl) ?_)
  clear hI; intro w13 hI
  refine a_join (α := NP) (T := tr_parser_Lin_1_1) (fun x => [(4, vp b1 0), (5, vi s1.at_), (6, vi 0), (7, vp b3 0), (8, vp b4 0), (35, (Value.agg (ALin s2 a4 c13))), (36, vp b2 0), (37, vp b2 0), (38, vp b2 1), (39, vi s1.at_)]) (fun x w => Bun noM F w0 x w [MO.box b2 67 (Aparser_reader s1 a3 c12), MO.box b4 27 (ALin s2 a4 c13), MO.box b1 27 (ALin s2 a4 c13)] [Cl.sl cGToken a3 c12 s1.l, Cl.sl cGMono a4 c13 s2.L, Cl.sl cGMono none 0 ([] : List GMono), Cl.blk b3 65 #[vp b2 0], Cl.sl cGToken a1 c1 l1, clSpace]) (fun x w => SN [] (DM true F x) w) ?_ ?_
  ·clear hI; rintro c19 w12 hI
   try dsimp only at hI ⊢
   unfold tr_parser_Lin_1_1
   refine a_nil ?_
   refine k_same (c_ret ?_)
   obtain rfl := some_inj h
   exact q_ret (vs := [(Value.agg (ALin s2 a4 c13)), vi s1.at_, vi 0]) Tryz.results12 ⟨⟨_, ev_tmp rfl rfl, load_agg (l := (lLin s2 a4 c13)) u27 rfl size_27 (CellsAt.of_blk (hI.blk (.s (.s .z))) rfl)⟩, ⟨ev_tmp rfl rfl, ⟨ev_tmp rfl rfl, trivial⟩⟩⟩ ⟨a4, c13, rfl, hI.ext0, hI.fin ⟨(.s .z), trivial⟩⟩
  intro hk_tr_parser_Lin_1_1
  refine a_join (α := NP) (T := tr_parser_Lin_1_0) (fun x => [(4, vp b1 0), (7, vp b3 0), (8, vp b4 0), (35, (Value.agg (ALin s2 a4 c13))), (36, vp b2 0), (37, vp b2 0), (38, vp b2 1)]) (fun x w => Bun noM F w0 x w [MO.box b2 67 (Aparser_reader s1 a3 c12), MO.box b4 27 (ALin s2 a4 c13), MO.box b1 27 (ALin s2 a4 c13)] [Cl.sl cGToken a3 c12 s1.l, Cl.sl cGMono a4 c13 s2.L, Cl.sl cGMono none 0 ([] : List GMono), Cl.blk b3 65 #[vp b2 0], Cl.sl cGToken a1 c1 l1, clSpace]) (fun x w => SN [] (DM true F x) w) ?_ ?_
  ·clear hI; rintro c18 w11 hI
   try dsimp only at hI ⊢
   unfold tr_parser_Lin_1_0
   refine a_val rfl gn rfl (y_load1 (v := (vi s1.at_)) rfl et u3 rfl (CellsAt.of_blk (hI.blk .z) rfl)) SX.self ?_
   refine a_q rfl gn rfl (fun w' => y_assign rfl et) ?_
   refine a_q rfl gn rfl (fun w' => y_assign rfl ev_const) ?_
   exact a_sub (hk_tr_parser_Lin_1_1 c18 _ (hI.arr (.c .z (.c .z (.c .z .n))) ⟨.z, (.s .z), (.s (.s .z)), (.s (.s (.s .z))), (.s (.s (.s (.s .z)))), (.s (.s (.s (.s (.s .z))))), trivial⟩)) ⟨rfl, rfl, rfl, rfl, rfl, rfl, rfl, rfl, rfl, rfl, trivial⟩
  intro hk_tr_parser_Lin_1_0
  refine a_read rfl gn rfl (fun w' hw' => (y_loadN (l := (lLin s2 a4 c13)) rfl et u27 rfl size_27 ((CA.blk (hI.blk (.s .z)) rfl).at_ (SX.any rfl hw')))) (by kernel_rfl) ?_
  refine a_two ?_ ?_
  ·skip
   refine a_val rfl gn rfl (y_load1 (v := (vp b2 0)) rfl et u65 rfl (hI.kblk (l := [vp b2 0]) (.s (.s (.s .z))) rfl).1) SX.self ?_
   refine a_q rfl gn rfl (fun w' => y_nilCheck rfl et) ?_
   refine a_q rfl gn rfl (fun w' => y_fieldAddr rfl et u67 rfl size_3 rfl) ?_
   refine a_two ?_ ?_
   ·skip
    refine a_val rfl gn rfl (y_load1 (v := (vi s1.at_)) rfl et u3 rfl (CellsAt.of_blk (hI.blk .z) rfl)) SX.self ?_
    refine a_turn (F := F) (C := c15) rfl rfl ?_
    refine la_store (new := (lLin s2 a4 c13)) (cs' := (ALin s2 a4 c13)) hI (.s (.s .z)) rfl gn rfl rfl et et rfl size_27 rfl rfl rfl ?_
    clear hI; intro c17 w10 hI
    refine a_q rfl gn rfl (fun w' => y_assign rfl et) ?_
    refine a_q rfl gn rfl (fun w' => y_assign rfl ev_const) ?_
    exact a_sub (hk_tr_parser_Lin_1_1 c17 _ (hI.arr (.c .z (.c .z (.c .z .n))) ⟨.z, (.s .z), (.s (.s .z)), (.s (.s (.s .z))), (.s (.s (.s (.s .z)))), (.s (.s (.s (.s (.s .z))))), trivial⟩)) ⟨rfl, rfl, rfl, rfl, rfl, rfl, rfl, rfl, rfl, rfl, trivial⟩
   refine a_turnT (F := F) (C := c15) rfl rfl ?_
   refine la_store (new := (lLin s2 a4 c13)) (cs' := (ALin s2 a4 c13)) hI (.s (.s .z)) rfl gn rfl rfl et et rfl size_27 rfl rfl rfl ?_
   clear hI; intro c17 w10 hI
   exact a_sub (hk_tr_parser_Lin_1_0 c17 _ (hI.arr (.c .z (.c .z (.c .z .n))) ⟨.z, (.s .z), (.s (.s .z)), (.s (.s (.s .z))), (.s (.s (.s (.s .z)))), (.s (.s (.s (.s (.s .z))))), trivial⟩)) ⟨rfl, rfl, rfl, rfl, rfl, rfl, rfl, trivial⟩
  refine a_turnT (F := F) (C := c15) rfl rfl ?_
  refine la_store (new := (lLin s2 a4 c13)) (cs' := (ALin s2 a4 c13)) hI (.s (.s .z)) rfl gn rfl rfl et et rfl size_27 rfl rfl rfl ?_
  clear hI; intro c17 w10 hI
  refine a_val rfl gn rfl (y_load1 (v := (vp b2 0)) rfl et u65 rfl (hI.kblk (l := [vp b2 0]) (.s (.s (.s .z))) rfl).1) SX.self ?_
  refine a_q rfl gn rfl (fun w' => y_nilCheck rfl et) ?_
  refine a_q rfl gn rfl (fun w' => y_fieldAddr rfl et u67 rfl size_3 rfl) ?_
  exact a_sub (hk_tr_parser_Lin_1_0 c17 _ (hI.arr (.c .z (.c .z (.c .z .n))) ⟨.z, (.s .z), (.s (.s .z)), (.s (.s (.s .z))), (.s (.s (.s (.s .z)))), (.s (.s (.s (.s (.s .z))))), trivial⟩)) ⟨rfl, rfl, rfl, rfl, rfl, rfl, rfl, trivial⟩
 try dsimp only at h
 refine s_call gn rfl (r_callF (vs := [(Value.func (.func 30) #[] #[vp b3 0, vp b4 0])]) rfl ok_29 ⟨et, trivial⟩) (Calls.mono (c_caught_pan (cl := [Cl.sl cGToken a1 c1 l1, Cl.blk b3 65 #[vp b2 0], Cl.sl cGMono none 0 ([] : List GMono), clSpace]) ok_30 (hB.subs ⟨(.s (.s .z)), (.s .z), .z, (.s (.s (.s .z))), trivial⟩) (fun C1_ F1_ w1_ hB_ => (c_parser_Lin_1_w2 C1_ F1_ w1_ (⟨l1, at1, 0⟩ : Gparser_reader) (⟨0, ([] : List GMono)⟩ : GLin) b3 b2 a1 c1 b4 none 0 hB_ _ hx1).mono fun e_ w_ hq_ => pan_of hq_)) ?_)
 rintro _ w14 ⟨rfl, c20, hB2⟩
 obtain ⟨c21, hs2, hI⟩ := hk1 _ _ _ _ hB2
 replace hI : Bun noM F w0 c21 w14 [MO.box b1 27 #[vi 0, vs none 0 0]] [Cl.sl cGMono none 0 ([] : List GMono), Cl.blk b3 65 #[vp b2 0], Cl.sl cGToken a1 c1 l1, clSpace] := hI
 refine ⟨_, rfl, ?_⟩
 have hk2 : (!decide (pn1 = 0)) = true := by simp [hn1]
 refine sm ?_
 refine sq (y_extract rfl et rfl) ?_
 refine sq (y_extract rfl et rfl) ?_
 refine sa ?_
 refine sa ?_
 refine nk (sr (sm ?_))
 refine sq (y_neq rfl et ev_const) ?_
 refine nk (c_cond (b := !decide (pn1 = 0)) et (fun _ => ?_) (fun hb => absurd (hb.symm.trans hk2) (by simp)))
 refine sr (sq (y_build (vs := []) (cs := #[vi 0, vs none 0 0]) rfl trivial (by kernel_rfl)) ?_)
 refine sm ?_
 refine sm ?_
 refine l_store (new := [vi 0, vs none 0 0]) (cs' := #[vi 0, vs none 0 0]) hI .z gn rfl rfl et et rfl size_27 rfl rfl rfl ?_
 clear hI; intro c22 w15 hI
 refine sa ?_
 refine sa ?_
 refine s_nil ?_
 refine k_next (e := [(4, vp b1 0), (5, vi pa1), (6, vi pn1)]) ⟨rfl, rfl, rfl, trivial⟩ ?_
 refine c_ret ?_
 obtain rfl := some_inj h
 exact q_ret (vs := [(Value.agg #[vi 0, vs none 0 0]), vi pa1, vi pn1]) Tryz.results12 ⟨⟨_, ev_tmp rfl rfl, load_agg (l := [vi 0, vs none 0 0]) u27 rfl size_27 (CellsAt.of_blk (hI.blk .z) rfl)⟩, ⟨ev_tmp rfl rfl, ⟨ev_tmp rfl rfl, trivial⟩⟩⟩ ⟨none, 0, rfl, hI.ext0, hI.fin ⟨.z, trivial⟩⟩
theorem c_lexer_space (F : NP) (w0 : World) (hF : ∀ k, F k → k < w0.heap.size) (r1 : Int) (hc : AllCl [] F w0) (r : Bool)
  (h : m_lexer_space r1 = some r) :
  Calls Tryz.prog 153 #[(Value.int .i32 r1)] w0 fun e w => e = .returned (vb r) ∧ Ext w0 w ∧ AllCl [] F w := by
 refine enterK Tryz.func153 rfl Tryz.ntmps153 rfl ?_
 have hI := Bun.start hF hc
 clear hc
 rw [m_lexer_space] at h
 refine T ?_
 refine c_seq (T ?_)
 refine c_seq (T ?_)
 refine cif h et (fun hb h => ?_) (fun hb h => ?_)
 ·refine T ?_
  refine cif h et (fun hb h => ?_) (fun hb h => ?_)
  ·refine T ?_
   refine c_ret ?_
   obtain rfl := some_inj h
   exact QF hI
  refine T ?_
  refine c_ret ?_
  obtain rfl := some_inj h
  exact QF hI
 refine T ?_
 refine cif h et (fun hb h => ?_) (fun hb h => ?_)
 ·refine T ?_
  refine cif h et (fun hb h => ?_) (fun hb h => ?_)
  ·refine T ?_
   refine c_ret ?_
   obtain rfl := some_inj h
   exact QF hI
  refine T ?_
  refine c_ret ?_
  obtain rfl := some_inj h
  exact QF hI
 refine T ?_
 refine cif h et (fun hb h => ?_) (fun hb h => ?_)
 ·refine T ?_
  refine cif h et (fun hb h => ?_) (fun hb h => ?_)
  ·refine T ?_
   refine c_ret ?_
   obtain rfl := some_inj h
   exact QF hI
  refine T ?_
  refine c_ret ?_
  obtain rfl := some_inj h
  exact QF hI
 refine T ?_
 refine cif h et (fun hb h => ?_) (fun hb h => ?_)
 ·refine T ?_
  refine c_ret ?_
  obtain rfl := some_inj h
  exact QF hI
 refine T ?_
 refine c_ret ?_
 obtain rfl := some_inj h
 exact QF hI
theorem c_lexer_skip_1 (F : NP) (w0 : World) (hF : ∀ k, F k → k < w0.heap.size) (r1 : Int) (hc : AllCl [] F w0) (r : Bool)
  (h : m_lexer_skip_1 r1 = some r) :
  Calls Tryz.prog 155 #[(Value.int .i32 r1)] w0 fun e w => e = .returned (vb r) ∧ Ext w0 w ∧ AllCl [] F w := by
 refine enterK Tryz.func155 rfl Tryz.ntmps155 rfl ?_
 have hI := Bun.start hF hc
 clear hc
 rw [m_lexer_skip_1] at h
 refine T ?_
 refine c_ret ?_
 obtain rfl := some_inj h
 exact QF hI
theorem c_lexer_skip (F : NP) (w0 : World) (hF : ∀ k, F k → k < w0.heap.size) (s1 : List UInt8) (hc : AllCl [] F w0) (r : Int)
  (h : m_lexer_skip s1 = some r) :
  Calls Tryz.prog 83 #[(str s1)] w0 fun e w => e = .returned (vi r) ∧ Ext w0 w ∧ AllCl [] F w := by
 refine enterK Tryz.func83 rfl Tryz.ntmps83 rfl ?_
 have hI := Bun.start hF hc
 clear hc
 rw [m_lexer_skip] at h
 refine T ?_
 refine c_seq (T ?_)
 refine c_loop (α := Nat × Int) (fun x => fun w => ∃ C, Bun noM F w0 C w [] [] ∧ m_lexer_skip_l1 s1 (x.1) (x.2) = some r) (fun x _ => x.1) (fun x => [(0, (str s1)), (3, vi (x.2))]) (fu, 0) ⟨_, hI.arr .n trivial, h⟩ SB ?_
 clear h hI; rintro ⟨fuel1, at1⟩ w1 ⟨c1, hI, h⟩
 dsimp only at hI h
 rcases fuel1 with _ | fuel1
 ·rw [m_lexer_skip_l1] at h; cases h
 rw [m_lexer_skip_l1] at h
 refine c_sub (e := [(0, (str s1)), (3, vi at1)]) SB ?_
 refine c_seq (T ?_)
 refine cif h et (fun hb h => ?_) (fun hb h => ?_)
 ·refine T ?_
  obtain ⟨b1, hx1, h⟩ := bnd_some h
  refine sI ?_
  refine T ?_
  obtain ⟨r1, hx2, h⟩ := bnd_some h
  refine s_call gn rfl (r_callF (vs := [(Value.int .i32 (wi32 b1))]) rfl ok_153 ⟨et, trivial⟩) (Calls.mono (c_lexer_space (Dj F c1) w1 hI.lt (wi32 b1) trivial r1 hx2) ?_)
  rintro _ w2 ⟨rfl, hx3, hl1⟩
  refine ⟨_, rfl, ?_⟩
  replace hI := (hI.ext hx3)
  refine T ?_
  refine cif h et (fun hb h => ?_) (fun hb h => ?_)
  ·refine T ?_
   refine s_nil ?_
   exact k_loop (fuel1, wi64 (at1 + 1)) SB ⟨_, hI.arr GO SU, h⟩ (Nat.lt_succ_self _)
  refine T ?_
  refine cif h et (fun hb h => ?_) (fun hb h => ?_)
  ·refine T ?_
   obtain ⟨s2, hx4, h⟩ := bnd_some h
   refine sI ?_
   have hI := hI.add (c := clFn_k1 (Value.func (.func 155) #[] #[]) m_lexer_skip_1) ⟨rfl, fun D' w' hs hl x_1 r k h => CallV.fn (cap := []) ok_155 (c_lexer_skip_1 D' w' hl x_1 trivial r h)⟩
   obtain ⟨r2, hx5, h⟩ := bnd_some h
   refine s_call gn rfl (r_callF (vs := [(str s2), (Value.func (.func 155) #[] #[])]) rfl ok_154 ⟨et, ⟨ev_func, trivial⟩⟩) (Calls.mono (c_lexer_span (Dj F c1) w2 hI.lt s2 m_lexer_skip_1 (Value.func (.func 155) #[] #[]) ⟨(hI.get .z), trivial⟩ r2 hx5) ?_)
   rintro _ w3 ⟨rfl, hx6, hl2⟩
   refine ⟨_, rfl, ?_⟩
   replace hI := (hI.ext hx6)
   refine T ?_
   refine s_nil ?_
   exact k_loop (fuel1, wi64 (at1 + r2)) SB ⟨_, hI.arr GO SU, h⟩ (Nat.lt_succ_self _)
  refine T ?_
  refine c_ret ?_
  obtain rfl := some_inj h
  exact QF hI
 refine c_exit ?_
 refine k_in ?_
 refine k_same ?_
 refine T ?_
 refine c_ret ?_
 obtain rfl := some_inj h
 exact QF hI
theorem c_lexer_symbol (F : NP) (w0 : World) (hF : ∀ k, F k → k < w0.heap.size) (r1 : Int) (hc : AllCl [] F w0) (r : Bool)
  (h : m_lexer_symbol r1 = some r) :
  Calls Tryz.prog 159 #[(Value.int .i32 r1)] w0 fun e w => e = .returned (vb r) ∧ Ext w0 w ∧ AllCl [] F w := by
 refine enterK Tryz.func159 rfl Tryz.ntmps159 rfl ?_
 have hI := Bun.start hF hc
 clear hc
 rw [m_lexer_symbol] at h
 refine T ?_
 refine c_seq (T ?_)
 refine c_seq (T ?_)
 refine cif h et (fun hb h => ?_) (fun hb h => ?_)
 ·refine T ?_
  refine cif h et (fun hb h => ?_) (fun hb h => ?_)
  ·refine T ?_
   refine c_ret ?_
   obtain rfl := some_inj h
   exact QF hI
  refine T ?_
  refine c_ret ?_
  obtain rfl := some_inj h
  exact QF hI
 refine T ?_
 refine cif h et (fun hb h => ?_) (fun hb h => ?_)
 ·refine T ?_
  refine cif h et (fun hb h => ?_) (fun hb h => ?_)
  ·refine T ?_
   refine c_ret ?_
   obtain rfl := some_inj h
   exact QF hI
  refine T ?_
  refine c_ret ?_
  obtain rfl := some_inj h
  exact QF hI
 refine T ?_
 refine cif h et (fun hb h => ?_) (fun hb h => ?_)
 ·refine T ?_
  refine cif h et (fun hb h => ?_) (fun hb h => ?_)
  ·refine T ?_
   refine c_ret ?_
   obtain rfl := some_inj h
   exact QF hI
  refine T ?_
  refine c_ret ?_
  obtain rfl := some_inj h
  exact QF hI
 refine T ?_
 refine cif h et (fun hb h => ?_) (fun hb h => ?_)
 ·refine T ?_
  refine cif h et (fun hb h => ?_) (fun hb h => ?_)
  ·refine T ?_
   refine c_ret ?_
   obtain rfl := some_inj h
   exact QF hI
  refine T ?_
  refine c_ret ?_
  obtain rfl := some_inj h
  exact QF hI
 refine T ?_
 refine cif h et (fun hb h => ?_) (fun hb h => ?_)
 ·refine T ?_
  refine cif h et (fun hb h => ?_) (fun hb h => ?_)
  ·refine T ?_
   refine c_ret ?_
   obtain rfl := some_inj h
   exact QF hI
  refine T ?_
  refine c_ret ?_
  obtain rfl := some_inj h
  exact QF hI
 refine T ?_
 refine cif h et (fun hb h => ?_) (fun hb h => ?_)
 ·refine T ?_
  refine cif h et (fun hb h => ?_) (fun hb h => ?_)
  ·refine T ?_
   refine c_ret ?_
   obtain rfl := some_inj h
   exact QF hI
  refine T ?_
  refine c_ret ?_
  obtain rfl := some_inj h
  exact QF hI
 refine T ?_
 refine cif h et (fun hb h => ?_) (fun hb h => ?_)
 ·refine T ?_
  refine cif h et (fun hb h => ?_) (fun hb h => ?_)
  ·refine T ?_
   refine c_ret ?_
   obtain rfl := some_inj h
   exact QF hI
  refine T ?_
  refine c_ret ?_
  obtain rfl := some_inj h
  exact QF hI
 refine T ?_
 refine cif h et (fun hb h => ?_) (fun hb h => ?_)
 ·refine T ?_
  refine cif h et (fun hb h => ?_) (fun hb h => ?_)
  ·refine T ?_
   refine c_ret ?_
   obtain rfl := some_inj h
   exact QF hI
  refine T ?_
  refine c_ret ?_
  obtain rfl := some_inj h
  exact QF hI
 refine T ?_
 refine cif h et (fun hb h => ?_) (fun hb h => ?_)
 ·refine T ?_
  refine cif h et (fun hb h => ?_) (fun hb h => ?_)
  ·refine T ?_
   refine c_ret ?_
   obtain rfl := some_inj h
   exact QF hI
  refine T ?_
  refine c_ret ?_
  obtain rfl := some_inj h
  exact QF hI
 refine T ?_
 refine cif h et (fun hb h => ?_) (fun hb h => ?_)
 ·refine T ?_
  refine cif h et (fun hb h => ?_) (fun hb h => ?_)
  ·refine T ?_
   refine c_ret ?_
   obtain rfl := some_inj h
   exact QF hI
  refine T ?_
  refine c_ret ?_
  obtain rfl := some_inj h
  exact QF hI
 refine T ?_
 refine cif h et (fun hb h => ?_) (fun hb h => ?_)
 ·refine T ?_
  refine cif h et (fun hb h => ?_) (fun hb h => ?_)
  ·refine T ?_
   refine c_ret ?_
   obtain rfl := some_inj h
   exact QF hI
  refine T ?_
  refine c_ret ?_
  obtain rfl := some_inj h
  exact QF hI
 refine T ?_
 refine cif h et (fun hb h => ?_) (fun hb h => ?_)
 ·refine T ?_
  refine cif h et (fun hb h => ?_) (fun hb h => ?_)
  ·refine T ?_
   refine c_ret ?_
   obtain rfl := some_inj h
   exact QF hI
  refine T ?_
  refine c_ret ?_
  obtain rfl := some_inj h
  exact QF hI
 refine T ?_
 refine cif h et (fun hb h => ?_) (fun hb h => ?_)
 ·refine T ?_
  refine cif h et (fun hb h => ?_) (fun hb h => ?_)
  ·refine T ?_
   refine c_ret ?_
   obtain rfl := some_inj h
   exact QF hI
  refine T ?_
  refine c_ret ?_
  obtain rfl := some_inj h
  exact QF hI
 refine T ?_
 refine cif h et (fun hb h => ?_) (fun hb h => ?_)
 ·refine T ?_
  refine cif h et (fun hb h => ?_) (fun hb h => ?_)
  ·refine T ?_
   refine c_ret ?_
   obtain rfl := some_inj h
   exact QF hI
  refine T ?_
  refine c_ret ?_
  obtain rfl := some_inj h
  exact QF hI
 refine T ?_
 refine cif h et (fun hb h => ?_) (fun hb h => ?_)
 ·refine T ?_
  refine cif h et (fun hb h => ?_) (fun hb h => ?_)
  ·refine T ?_
   refine c_ret ?_
   obtain rfl := some_inj h
   exact QF hI
  refine T ?_
  refine c_ret ?_
  obtain rfl := some_inj h
  exact QF hI
 refine T ?_
 refine cif h et (fun hb h => ?_) (fun hb h => ?_)
 ·refine T ?_
  refine cif h et (fun hb h => ?_) (fun hb h => ?_)
  ·refine T ?_
   refine c_ret ?_
   obtain rfl := some_inj h
   exact QF hI
  refine T ?_
  refine c_ret ?_
  obtain rfl := some_inj h
  exact QF hI
 refine T ?_
 refine cif h et (fun hb h => ?_) (fun hb h => ?_)
 ·refine T ?_
  refine cif h et (fun hb h => ?_) (fun hb h => ?_)
  ·refine T ?_
   refine c_ret ?_
   obtain rfl := some_inj h
   exact QF hI
  refine T ?_
  refine c_ret ?_
  obtain rfl := some_inj h
  exact QF hI
 refine T ?_
 refine cif h et (fun hb h => ?_) (fun hb h => ?_)
 ·refine T ?_
  refine cif h et (fun hb h => ?_) (fun hb h => ?_)
  ·refine T ?_
   refine c_ret ?_
   obtain rfl := some_inj h
   exact QF hI
  refine T ?_
  refine c_ret ?_
  obtain rfl := some_inj h
  exact QF hI
 refine T ?_
 refine cif h et (fun hb h => ?_) (fun hb h => ?_)
 ·refine T ?_
  refine cif h et (fun hb h => ?_) (fun hb h => ?_)
  ·refine T ?_
   refine c_ret ?_
   obtain rfl := some_inj h
   exact QF hI
  refine T ?_
  refine c_ret ?_
  obtain rfl := some_inj h
  exact QF hI
 refine T ?_
 refine cif h et (fun hb h => ?_) (fun hb h => ?_)
 ·refine T ?_
  refine c_ret ?_
  obtain rfl := some_inj h
  exact QF hI
 refine T ?_
 refine c_ret ?_
 obtain rfl := some_inj h
 exact QF hI
theorem c_lexer_next (F : NP) (w0 : World) (hF : ∀ k, F k → k < w0.heap.size) (s1 : List UInt8) (hc : AllCl [] F w0) (r : Int × Int)
  (h : m_lexer_next s1 = some r) :
  Calls Tryz.prog 84 #[(str s1)] w0 fun e w => e = .returned (Value.tuple #[vi r.1, vi r.2]) ∧ Ext w0 w ∧ AllCl [] F w := by
 refine enterK Tryz.func84 rfl Tryz.ntmps84 rfl ?_
 have hI := Bun.start hF hc
 clear hc
 rw [m_lexer_next] at h
 refine T ?_
 obtain ⟨b1, hx1, h⟩ := bnd_some h
 refine sI ?_
 refine T ?_
 refine c_seq (T ?_)
 obtain ⟨r1, hx2, h⟩ := bnd_some h
 refine s_call gn rfl (r_callF (vs := [(Value.int .i32 (wi32 b1))]) rfl ok_156 ⟨et, trivial⟩) (Calls.mono (c_lexer_letter (Dj F noM) w0 hI.lt (wi32 b1) trivial r1 hx2) ?_)
 rintro _ w1 ⟨rfl, hx3, hl1⟩
 refine ⟨_, rfl, ?_⟩
 replace hI := (hI.ext hx3)
 refine T ?_
 refine cif h et (fun hb h => ?_) (fun hb h => ?_)
 ·refine T ?_
  have hI := hI.add (c := clFn_k1 (Value.func (.func 157) #[] #[]) m_lexer_inWord) ⟨rfl, fun D' w' hs hl x_1 r k h => CallV.fn (cap := []) ok_157 (c_lexer_inWord D' w' hl x_1 trivial r h)⟩
  obtain ⟨r2, hx4, h⟩ := bnd_some h
  refine s_call gn rfl (r_callF (vs := [(str s1), (Value.func (.func 157) #[] #[])]) rfl ok_154 ⟨et, ⟨ev_func, trivial⟩⟩) (Calls.mono (c_lexer_span (Dj F noM) w1 hI.lt s1 m_lexer_inWord (Value.func (.func 157) #[] #[]) ⟨(hI.get .z), trivial⟩ r2 hx4) ?_)
  rintro _ w2 ⟨rfl, hx5, hl2⟩
  refine ⟨_, rfl, ?_⟩
  replace hI := (hI.ext hx5)
  refine T ?_
  refine c_ret ?_
  obtain rfl := some_inj h
  exact QF hI
 refine T ?_
 obtain ⟨r3, hx6, h⟩ := bnd_some h
 refine s_call gn rfl (r_callF (vs := [(Value.int .i32 (wi32 b1))]) rfl ok_158 ⟨et, trivial⟩) (Calls.mono (c_lexer_digit (Dj F noM) w1 hI.lt (wi32 b1) trivial r3 hx6) ?_)
 rintro _ w3 ⟨rfl, hx7, hl3⟩
 refine ⟨_, rfl, ?_⟩
 replace hI := (hI.ext hx7)
 refine T ?_
 refine cif h et (fun hb h => ?_) (fun hb h => ?_)
 ·refine T ?_
  have hI := hI.add (c := clFn_k1 (Value.func (.func 158) #[] #[]) m_lexer_digit) ⟨rfl, fun D' w' hs hl x_1 r k h => CallV.fn (cap := []) ok_158 (c_lexer_digit D' w' hl x_1 trivial r h)⟩
  obtain ⟨r4, hx8, h⟩ := bnd_some h
  refine s_call gn rfl (r_callF (vs := [(str s1), (Value.func (.func 158) #[] #[])]) rfl ok_154 ⟨et, ⟨ev_func, trivial⟩⟩) (Calls.mono (c_lexer_span (Dj F noM) w3 hI.lt s1 m_lexer_digit (Value.func (.func 158) #[] #[]) ⟨(hI.get .z), trivial⟩ r4 hx8) ?_)
  rintro _ w4 ⟨rfl, hx9, hl4⟩
  refine ⟨_, rfl, ?_⟩
  replace hI := (hI.ext hx9)
  refine T ?_
  refine c_ret ?_
  obtain rfl := some_inj h
  exact QF hI
 refine T ?_
 obtain ⟨b2, hx10, h⟩ := bnd_some h
 replace hx10 := gd_some hx10
 refine sJ ?_
 refine T ?_
 refine cif h et (fun hb h => ?_) (fun hb h => ?_)
 ·refine T ?_
  refine c_ret ?_
  obtain rfl := some_inj h
  exact QF hI
 refine T ?_
 obtain ⟨r5, hx11, h⟩ := bnd_some h
 refine s_call gn rfl (r_callF (vs := [(Value.int .i32 (wi32 b1))]) rfl ok_159 ⟨et, trivial⟩) (Calls.mono (c_lexer_symbol (Dj F noM) w3 hI.lt (wi32 b1) trivial r5 hx11) ?_)
 rintro _ w5 ⟨rfl, hx12, hl5⟩
 refine ⟨_, rfl, ?_⟩
 replace hI := (hI.ext hx12)
 refine T ?_
 refine cif h et (fun hb h => ?_) (fun hb h => ?_)
 ·refine T ?_
  refine c_ret ?_
  obtain rfl := some_inj h
  exact QF hI
 refine T ?_
 refine c_ret ?_
 obtain rfl := some_inj h
 exact QF hI
theorem c_lexer_Tokenize (F : NP) (w0 : World) (hF : ∀ k, F k → k < w0.heap.size) (s1 : List UInt8) (hc : AllCl [] F w0) (r : List GToken × Int × Int)
  (h : m_lexer_Tokenize s1 = some r) :
  Calls Tryz.prog 39 #[(str s1)] w0 fun e w => ∃ (a1 : Option Addr) (c1 : Nat), e = .returned (Value.tuple #[vs a1 r.1.length c1, vi r.2.1, vi r.2.2]) ∧ Ext w0 w ∧ AllCl [Cl.sl cGToken a1 c1 r.1] F w := by
 refine enterK Tryz.func39 rfl Tryz.ntmps39 rfl ?_
 have hI := Bun.start hF hc
 clear hc
 rw [m_lexer_Tokenize] at h
 refine T ?_
 refine c_seq (T ?_)
 refine cif h et (fun hb h => ?_) (fun hb h => ?_)
 ·refine T ?_
  refine c_ret ?_
  have hI := hI.add (c := Cl.sl cGToken none 0 ([] : List GToken)) SlC.nil
  obtain rfl := some_inj h
  refine QG ?_
  exact ⟨none, 0, rfl, hI.ext0, hI.fin ⟨.z, trivial⟩⟩
 refine T ?_
 refine c_seq (T ?_)
 obtain ⟨r1, hx1, h⟩ := bnd_some h
 refine s_call gn rfl (r_callF (vs := [(str s1)]) rfl ok_83 ⟨et, trivial⟩) (Calls.mono (c_lexer_skip (Dj F noM) w0 hI.lt s1 trivial r1 hx1) ?_)
 rintro _ w1 ⟨rfl, hx2, hl1⟩
 refine ⟨_, rfl, ?_⟩
 replace hI := (hI.ext hx2)
 refine T ?_
 have hI := hI.nil cGToken 62 none
 refine c_loop (α := Nat × (List GToken) × Int × (Option Addr) × Nat) (fun x => fun w => ∃ C, Bun noM F w0 C w [MO.row cGToken 62 (x.2.2.2.1) (x.2.2.2.2) (x.2.1)] [] ∧ m_lexer_Tokenize_l1 s1 (x.1) (x.2.1) (x.2.2.1) = some r) (fun x _ => x.1) (fun x => [(0, (str s1)), (5, vs (x.2.2.2.1) (x.2.1).length (x.2.2.2.2)), (6, vi (x.2.2.1))]) (fu, ([] : List GToken), r1, none, 0) ⟨_, hI.arr (.c .z .n) trivial, h⟩ SB ?_
 clear h hI; rintro ⟨fuel1, out1, at1, a2, c2⟩ w2 ⟨c3, hI, h⟩
 dsimp only at hI h
 rcases fuel1 with _ | fuel1
 ·rw [m_lexer_Tokenize_l1] at h; cases h
 rw [m_lexer_Tokenize_l1] at h
 refine c_sub (e := [(0, (str s1)), (5, vs a2 out1.length c2), (6, vi at1)]) SB ?_
 refine c_seq (T ?_)
 refine cif h et (fun hb h => ?_) (fun hb h => ?_)
 ·refine T ?_
  refine c_seq (T ?_)
  obtain ⟨s2, hx3, h⟩ := bnd_some h
  refine sI ?_
  obtain ⟨r2, hx4, h⟩ := bnd_some h
  refine s_call gn rfl (r_callF (vs := [(str s2)]) rfl ok_84 ⟨et, trivial⟩) (Calls.mono (c_lexer_next (Dj F c3) w2 hI.lt s2 trivial r2 hx4) ?_)
  rintro _ w3 ⟨rfl, hx5, hl2⟩
  refine ⟨_, rfl, ?_⟩
  replace hI := (hI.ext hx5)
  refine T ?_
  refine c_seq (T ?_)
  refine cif h et (fun hb h => ?_) (fun hb h => ?_)
  ·refine T ?_
   refine c_ret ?_
   have hI := hI.add (c := Cl.sl cGToken none 0 ([] : List GToken)) SlC.nil
   obtain rfl := some_inj h
   refine QG ?_
   exact ⟨none, 0, rfl, hI.ext0, hI.fin ⟨.z, trivial⟩⟩
  refine T ?_
  refine cif h et (fun hb h => ?_) (fun hb h => ?_)
  ·refine T ?_
   refine c_ret ?_
   have hI := hI.add (c := Cl.sl cGToken none 0 ([] : List GToken)) SlC.nil
   obtain rfl := some_inj h
   refine QG ?_
   exact ⟨none, 0, rfl, hI.ext0, hI.fin ⟨.z, trivial⟩⟩
  refine T ?_
  obtain ⟨s3, hx6, h⟩ := bnd_some h
  refine sq (y_ssub rfl u9 et et et hx6) ?_
  refine sq (y_build (vs := [(0, vi r2.1), (1, vi at1), (2, (str s3))]) (cs := #[vi r2.1, vi at1, (str s3)]) rfl ⟨rfl, et, ⟨rfl, et, ⟨rfl, et, trivial⟩⟩⟩ (by kernel_rfl)) ?_
  refine l_lit (c := cGToken) (xs := ([(⟨r2.1, at1, s3⟩ : GToken)] : List GToken)) (vs := [(0, (Value.agg #[vi r2.1, vi at1, (str s3)]))]) (cs := #[vi r2.1, vi at1, (str s3)]) (css := [[vi r2.1, vi at1, (str s3)]]) hI gn rfl rfl u22 info_62 rfl ⟨rfl, et, trivial⟩ (by kernel_rfl) ⟨rfl, trivial⟩ rfl rfl rfl ?_
  clear hI; intro b1 c4 w4 hI
  obtain ⟨zs1, hx7, h⟩ := bnd_some h
  refine l_append (xs := out1) (ys := ([(⟨r2.1, at1, s3⟩ : GToken)] : List GToken)) hI (.s .z) (hI.rd .z) hx7 gn rfl rfl u22 info_62 rfl rfl et et ?_
  clear hI; intro a3 c5 c6 w5 hI
  refine T ?_
  obtain ⟨s4, hx8, h⟩ := bnd_some h
  refine sI ?_
  obtain ⟨r3, hx9, h⟩ := bnd_some h
  refine s_call gn rfl (r_callF (vs := [(str s4)]) rfl ok_83 ⟨et, trivial⟩) (Calls.mono (c_lexer_skip (Dj F c6) w5 hI.lt s4 trivial r3 hx9) ?_)
  rintro _ w6 ⟨rfl, hx10, hl3⟩
  refine ⟨_, rfl, ?_⟩
  replace hI := (hI.ext hx10)
  refine sq (y_add rfl et et) ?_
  obtain ⟨at2, hx11, h⟩ := bnd_some h
  refine sq (binU (y_assign rfl et) (congrArg (Value.int .i64) (some_inj hx11))) ?_
  refine s_nil ?_
  exact k_loop (fuel1, zs1, at2, a3, c5) SB ⟨_, hI.arr GO SU, h⟩ (Nat.lt_succ_self _)
 refine c_exit ?_
 refine k_in ?_
 refine k_same ?_
 refine T ?_
 refine c_ret ?_
 obtain ⟨c7, hI⟩ := hI.release .z
 obtain rfl := some_inj h
 refine QG ?_
 exact ⟨a2, c2, rfl, hI.ext0, hI.fin ⟨.z, trivial⟩⟩
theorem c_value_plain (F : NP) (w0 : World) (hF : ∀ k, F k → k < w0.heap.size) (t1 : GType) (hc : AllCl [] F w0) (r : Bool)
  (h : m_value_plain t1 = some r) :
  Calls Tryz.prog 229 #[(Value.agg (AType t1))] w0 fun e w => e = .returned (vb r) ∧ Ext w0 w ∧ AllCl [] F w := by
 refine enterK Tryz.func229 rfl Tryz.ntmps229 rfl ?_
 have hI := Bun.start hF hc
 clear hc
 rw [m_value_plain] at h
 refine sr (l_box (v := (Value.agg (AType t1))) (cs := (AType t1)) hI gn rfl rfl et rfl ?_)
 clear hI; intro b1 c1 w1 hI
 obtain ⟨c2, hI⟩ := hI.relBox .z
 refine T ?_
 refine sq (y_loadN (l := (lType t1)) rfl et u35 rfl size_35 (hI.kblk (l := (lType t1)) .z rfl).1) ?_
 refine T ?_
 refine sq (y_build (vs := [(0, vi t1.Kind)]) (cs := #[vi t1.Kind, vi 0, vi 0, vi 0, vi 0]) rfl ⟨rfl, et, trivial⟩ (by kernel_rfl)) ?_
 refine sq (y_bin rfl et et (eqstruct_35 ..) (eqguard_35 ..)) ?_
 refine T ?_
 refine c_ret ?_
 obtain rfl := some_inj h
 exact QF hI
theorem c_fixed_ValidateType (F : NP) (w0 : World) (hF : ∀ k, F k → k < w0.heap.size) (t1 : GType) (hc : AllCl [] F w0) (r : Int)
  (h : m_fixed_ValidateType t1 = some r) :
  Calls Tryz.prog 230 #[(Value.agg (AType t1))] w0 fun e w => e = .returned (vi r) ∧ Ext w0 w ∧ AllCl [] F w := by
 refine enterK Tryz.func230 rfl Tryz.ntmps230 rfl ?_
 have hI := Bun.start hF hc
 clear hc
 rw [m_fixed_ValidateType] at h
 refine sr (l_box (v := (Value.agg (AType t1))) (cs := (AType t1)) hI gn rfl rfl et rfl ?_)
 clear hI; intro b1 c1 w1 hI
 obtain ⟨c2, hI⟩ := hI.relBox .z
 refine sac ?_
 refine nk (sr (sq (y_fieldAddr rfl et u35 rfl size_3 rfl) ?_))
 refine sq (y_load1 (v := (vi t1.Round)) rfl et u3 rfl (hI.kblk (l := [vi t1.Round]) .z rfl).1) ?_
 refine sq (y_geq rfl et ev_const) ?_
 refine sm ?_
 refine s_gval (g_true rfl rfl rfl rfl) rfl (fun hc => y_fieldAddr rfl et u35 rfl size_3 rfl) ?_
 refine s_gval (g_true rfl rfl rfl rfl) rfl (fun hc => (y_load1 (v := (vi t1.Round)) rfl (ev_gv et hc) u3 rfl (hI.kblk (l := [vi t1.Round]) .z rfl).1)) ?_
 refine s_gval (g_true rfl rfl rfl rfl) rfl (fun hc => y_leq rfl (ev_gv et hc) ev_const) ?_
 refine sq (y_and rfl et et) ?_
 refine sm ?_
 refine s_gval (g_true rfl rfl rfl rfl) rfl (fun hc => y_fieldAddr rfl et u35 rfl size_3 rfl) ?_
 refine s_gval (g_true rfl rfl rfl rfl) rfl (fun hc => (y_load1 (v := (vi t1.Over)) rfl (ev_gv et hc) u3 rfl (hI.kblk (l := [vi t1.Over]) .z rfl).1)) ?_
 refine s_gval (g_true rfl rfl rfl rfl) rfl (fun hc => y_eql rfl (ev_gv et hc) ev_const) ?_
 refine s_gval (g_true rfl rfl rfl rfl) rfl (fun hc => y_move rfl (ev_gv et hc)) ?_
 refine s_gval (g_false2 rfl rfl rfl rfl) rfl (fun hc => y_fieldAddr rfl et u35 rfl size_3 rfl) ?_
 refine s_gval (g_false2 rfl rfl rfl rfl) rfl (fun hc => (y_load1 (v := (vi t1.Over)) rfl (ev_gv et hc) u3 rfl (hI.kblk (l := [vi t1.Over]) .z rfl).1)) ?_
 refine s_gval (g_false2 rfl rfl rfl rfl) rfl (fun hc => y_eql rfl (ev_gv et hc) ev_const) ?_
 refine s_gval (g_true rfl rfl rfl rfl) rfl (fun hc => y_or2 rfl hc et et) ?_
 refine sq (y_and rfl et et) ?_
 obtain ⟨modes1, hx1, h⟩ := bnd_some h
 refine sq (binU (y_assign rfl et) (congrArg Value.bool (some_inj hx1))) ?_
 refine nk (c_seq (T ?_))
 refine cif h et (fun hb h => ?_) (fun hb h => ?_)
 ·refine T ?_
  refine c_ret ?_
  obtain rfl := some_inj h
  exact QF hI
 refine T ?_
 refine c_ret ?_
 obtain rfl := some_inj h
 exact QF hI
theorem c_value_ValidateType (F : NP) (w0 : World) (hF : ∀ k, F k → k < w0.heap.size) (t1 : GType) (hc : AllCl [] F w0) (r : Int)
  (h : m_value_ValidateType t1 = some r) :
  Calls Tryz.prog 202 #[(Value.agg (AType t1))] w0 fun e w => e = .returned (vi r) ∧ Ext w0 w ∧ AllCl [] F w := by
 refine enterK Tryz.func202 rfl Tryz.ntmps202 rfl ?_
 have hI := Bun.start hF hc
 clear hc
 rw [m_value_ValidateType] at h
 refine sr (l_box (v := (Value.agg (AType t1))) (cs := (AType t1)) hI gn rfl rfl et rfl ?_)
 clear hI; intro b1 c1 w1 hI
 obtain ⟨c2, hI⟩ := hI.relBox .z
 refine T ?_
 refine c_seq (T ?_)
 refine c_join (α := Bool) (fun _ => ⟨15, []⟩) (fun x => [(1, vp b1 0), (4, vi t1.Kind), (5, vb x)]) (fun x => fun w => ∃ C, Bun noM F w0 C w [] [Cl.blk b1 35 (AType t1)] ∧ m_value_ValidateType_j1 t1 x = some r) ?_ ?_
 ·clear h hI; rintro i1 w2 ⟨c3, hI, h⟩
  try dsimp only at hI h
  rw [m_value_ValidateType_j1] at h
  refine c_sub (e := [(1, vp b1 0), (4, vi t1.Kind), (5, vb i1)]) SB ?_
  refine cif h et (fun hb h => ?_) (fun hb h => ?_)
  ·refine sr (sq (y_loadN (l := (lType t1)) rfl et u35 rfl size_35 (hI.kblk (l := (lType t1)) .z rfl).1) ?_)
   obtain ⟨r1, hx1, h⟩ := bnd_some h
   refine s_call gn rfl (r_callF (vs := [(Value.agg (AType t1))]) rfl ok_229 ⟨et, trivial⟩) (Calls.mono (c_value_plain (Dj F c3) w2 hI.lt t1 trivial r1 hx1) ?_)
   rintro _ w3 ⟨rfl, hx2, hl1⟩
   refine ⟨_, rfl, ?_⟩
   replace hI := (hI.ext hx2)
   refine nk (cif h et (fun hb h => ?_) (fun hb h => ?_))
   ·refine T ?_
    refine c_ret ?_
    obtain rfl := some_inj h
    exact QF hI
   refine T ?_
   refine c_ret ?_
   obtain rfl := some_inj h
   exact QF hI
  refine T ?_
  refine cif h et (fun hb h => ?_) (fun hb h => ?_)
  ·refine sr (sq (y_loadN (l := (lType t1)) rfl et u35 rfl size_35 (hI.kblk (l := (lType t1)) .z rfl).1) ?_)
   obtain ⟨r2, hx3, h⟩ := bnd_some h
   refine s_call gn rfl (r_callF (vs := [(Value.agg (AType t1))]) rfl ok_230 ⟨et, trivial⟩) (Calls.mono (c_fixed_ValidateType (Dj F c3) w2 hI.lt t1 trivial r2 hx3) ?_)
   rintro _ w4 ⟨rfl, hx4, hl2⟩
   refine ⟨_, rfl, ?_⟩
   replace hI := (hI.ext hx4)
   refine T ?_
   refine cif h et (fun hb h => ?_) (fun hb h => ?_)
   ·refine T ?_
    refine c_ret ?_
    obtain rfl := some_inj h
    exact QF hI
   refine T ?_
   refine c_ret ?_
   obtain rfl := some_inj h
   exact QF hI
  refine T ?_
  refine c_ret ?_
  obtain rfl := some_inj h
  exact QF hI
 refine T ?_
 refine cif h et (fun hb h => ?_) (fun hb h => ?_)
 ·exact c_skip (k_join (decide (t1.Kind = 1)) SB ⟨_, hI.arr GO SU, h⟩ rfl)
 refine T ?_
 refine s_nil ?_
 exact k_join (decide (t1.Kind = 3)) SB ⟨_, hI.arr GO SU, h⟩ rfl
theorem c_internal_stringslite_Cut (F : NP) (w0 : World) (hF : ∀ k, F k → k < w0.heap.size) (s1 : List UInt8) (sep1 : List UInt8) (hc : AllCl [] F w0) (r : List UInt8 × List UInt8 × Bool)
  (h : m_internal_stringslite_Cut s1 sep1 = some r) :
  Calls Tryz.prog 268 #[(str s1), (str sep1)] w0 fun e w => e = .returned (Value.tuple #[(str r.1), (str r.2.1), vb r.2.2]) ∧ Ext w0 w ∧ AllCl [] F w := by
 refine enterK Tryz.func268 rfl Tryz.ntmps268 rfl ?_
 have hI := Bun.start hF hc
 clear hc
 rw [m_internal_stringslite_Cut] at h
 refine T ?_
 refine c_seq (T ?_)
 obtain ⟨r1, hx1, h⟩ := bnd_some h
 refine s_call gn rfl (r_callF (vs := [(str s1), (str sep1)]) rfl ok_271 ⟨et, ⟨et, trivial⟩⟩) (Calls.mono (c_internal_stringslite_Index (Dj F noM) w0 hI.lt s1 sep1 trivial r1 hx1) ?_)
 rintro _ w1 ⟨rfl, hx2, hl1⟩
 refine ⟨_, rfl, ?_⟩
 replace hI := (hI.ext hx2)
 refine T ?_
 refine cif h et (fun hb h => ?_) (fun hb h => ?_)
 ·refine c_seq (c_drawX [] false (.c (0, .q) (.c (1, .q) (.c (2, .q) (.c (3, .q) (.c (4, .q) (.c (5, .q) (.c (6, .q) (.c (7, .q) (.c (8, .q) (.c (9, .q) (.c (10, .q) (.c (11, .q) .n)))))))))))) hI (by kernel_rfl) (by kernel_rfl) ?_)
  clear hI; intro w2 hI
  refine V ?_
  obtain ⟨s2, hx3, h⟩ := bnd_some h
  refine vI ?_
  refine V ?_
  obtain ⟨s3, hx4, h⟩ := bnd_some h
  refine vI ?_
  refine V ?_
  refine c_ret ?_
  obtain rfl := some_inj h
  exact QF hI
 refine T ?_
 refine c_ret ?_
 obtain rfl := some_inj h
 exact QF hI
theorem c_strings_Cut (F : NP) (w0 : World) (hF : ∀ k, F k → k < w0.heap.size) (s1 : List UInt8) (sep1 : List UInt8) (hc : AllCl [] F w0) (r : List UInt8 × List UInt8 × Bool)
  (h : m_strings_Cut s1 sep1 = some r) :
  Calls Tryz.prog 264 #[(str s1), (str sep1)] w0 fun e w => e = .returned (Value.tuple #[(str r.1), (str r.2.1), vb r.2.2]) ∧ Ext w0 w ∧ AllCl [] F w := by
 refine enterK Tryz.func264 rfl Tryz.ntmps264 rfl ?_
 have hI := Bun.start hF hc
 clear hc
 rw [m_strings_Cut] at h
 refine T ?_
 obtain ⟨r1, hx1, h⟩ := bnd_some h
 refine s_call gn rfl (r_callF (vs := [(str s1), (str sep1)]) rfl ok_268 ⟨et, ⟨et, trivial⟩⟩) (Calls.mono (c_internal_stringslite_Cut (Dj F noM) w0 hI.lt s1 sep1 trivial r1 hx1) ?_)
 rintro _ w1 ⟨rfl, hx2, hl1⟩
 refine ⟨_, rfl, ?_⟩
 replace hI := (hI.ext hx2)
 refine T ?_
 refine c_ret ?_
 obtain rfl := some_inj h
 exact QF hI
theorem c_internal_stringslite_HasPrefix (F : NP) (w0 : World) (hF : ∀ k, F k → k < w0.heap.size) (s1 : List UInt8) (prefix1 : List UInt8) (hc : AllCl [] F w0) (r : Bool)
  (h : m_internal_stringslite_HasPrefix s1 prefix1 = some r) :
  Calls Tryz.prog 272 #[(str s1), (str prefix1)] w0 fun e w => e = .returned (vb r) ∧ Ext w0 w ∧ AllCl [] F w := by
 refine enterK Tryz.func272 rfl Tryz.ntmps272 rfl ?_
 have hI := Bun.start hF hc
 clear hc
 rw [m_internal_stringslite_HasPrefix] at h
 refine T ?_
 obtain ⟨s2, hx1, h⟩ := bnd_some h
 replace hx1 := gd_some hx1
 refine sJ ?_
 refine T ?_
 refine c_ret ?_
 obtain rfl := some_inj h
 exact QF hI
theorem c_internal_stringslite_CutPrefix (F : NP) (w0 : World) (hF : ∀ k, F k → k < w0.heap.size) (s1 : List UInt8) (prefix1 : List UInt8) (hc : AllCl [] F w0) (r : List UInt8 × Bool)
  (h : m_internal_stringslite_CutPrefix s1 prefix1 = some r) :
  Calls Tryz.prog 269 #[(str s1), (str prefix1)] w0 fun e w => e = .returned (Value.tuple #[(str r.1), vb r.2]) ∧ Ext w0 w ∧ AllCl [] F w := by
 refine enterK Tryz.func269 rfl Tryz.ntmps269 rfl ?_
 have hI := Bun.start hF hc
 clear hc
 rw [m_internal_stringslite_CutPrefix] at h
 refine T ?_
 refine c_seq (T ?_)
 obtain ⟨r1, hx1, h⟩ := bnd_some h
 refine s_call gn rfl (r_callF (vs := [(str s1), (str prefix1)]) rfl ok_272 ⟨et, ⟨et, trivial⟩⟩) (Calls.mono (c_internal_stringslite_HasPrefix (Dj F noM) w0 hI.lt s1 prefix1 trivial r1 hx1) ?_)
 rintro _ w1 ⟨rfl, hx2, hl1⟩
 refine ⟨_, rfl, ?_⟩
 replace hI := (hI.ext hx2)
 refine T ?_
 refine cif h et (fun hb h => ?_) (fun hb h => ?_)
 ·refine T ?_
  refine c_ret ?_
  obtain rfl := some_inj h
  exact QF hI
 refine T ?_
 obtain ⟨s2, hx3, h⟩ := bnd_some h
 refine sI ?_
 refine T ?_
 refine c_ret ?_
 obtain rfl := some_inj h
 exact QF hI
theorem c_strings_CutPrefix (F : NP) (w0 : World) (hF : ∀ k, F k → k < w0.heap.size) (s1 : List UInt8) (prefix1 : List UInt8) (hc : AllCl [] F w0) (r : List UInt8 × Bool)
  (h : m_strings_CutPrefix s1 prefix1 = some r) :
  Calls Tryz.prog 265 #[(str s1), (str prefix1)] w0 fun e w => e = .returned (Value.tuple #[(str r.1), vb r.2]) ∧ Ext w0 w ∧ AllCl [] F w := by
 refine enterK Tryz.func265 rfl Tryz.ntmps265 rfl ?_
 have hI := Bun.start hF hc
 clear hc
 rw [m_strings_CutPrefix] at h
 refine T ?_
 obtain ⟨r1, hx1, h⟩ := bnd_some h
 refine s_call gn rfl (r_callF (vs := [(str s1), (str prefix1)]) rfl ok_269 ⟨et, ⟨et, trivial⟩⟩) (Calls.mono (c_internal_stringslite_CutPrefix (Dj F noM) w0 hI.lt s1 prefix1 trivial r1 hx1) ?_)
 rintro _ w1 ⟨rfl, hx2, hl1⟩
 refine ⟨_, rfl, ?_⟩
 replace hI := (hI.ext hx2)
 refine T ?_
 refine c_ret ?_
 obtain rfl := some_inj h
 exact QF hI
theorem c_frac_decimal (F : NP) (w0 : World) (hF : ∀ k, F k → k < w0.heap.size) (s1 : List UInt8) (hc : AllCl [] F w0) (r : Bool)
  (h : m_frac_decimal s1 = some r) :
  Calls Tryz.prog 266 #[(str s1)] w0 fun e w => e = .returned (vb r) ∧ Ext w0 w ∧ AllCl [] F w := by
 refine enterK Tryz.func266 rfl Tryz.ntmps266 rfl ?_
 have hI := Bun.start hF hc
 clear hc
 rw [m_frac_decimal] at h
 refine T ?_
 refine c_join (α := Unit) (fun _ => ⟨31, []⟩) (fun _ => [(0, (str s1))]) (fun _ => fun w => ∃ C, Bun noM F w0 C w [] [] ∧ m_frac_decimal_j1 s1 = some r) ?_ ?_
 ·clear h hI; rintro _ w1 ⟨c1, hI, h⟩
  try dsimp only at hI h
  rw [m_frac_decimal_j1] at h
  refine c_sub (e := [(0, (str s1))]) ⟨rfl, trivial⟩ ?_
  refine T ?_
  obtain ⟨b1, hx1, h⟩ := bnd_some h
  replace hx1 := gd_some hx1
  refine sJ ?_
  refine T ?_
  refine c_ret ?_
  obtain rfl := some_inj h
  exact QF hI
 refine T ?_
 refine c_loop (α := Nat × Int) (fun x => fun w => ∃ C, Bun noM F w0 C w [] [] ∧ m_frac_decimal_l1 s1 (x.1) (x.2) = some r) (fun x _ => x.1) (fun x => [(0, (str s1)), (3, vi (x.2))]) (fu, 0) ⟨_, hI.arr .n trivial, h⟩ SB ?_
 clear h hI; rintro ⟨fuel1, i1⟩ w2 ⟨c2, hI, h⟩
 dsimp only at hI h
 rcases fuel1 with _ | fuel1
 ·rw [m_frac_decimal_l1] at h; cases h
 rw [m_frac_decimal_l1] at h
 refine c_sub (e := [(0, (str s1)), (3, vi i1)]) SB ?_
 refine c_seq (T ?_)
 refine cif h et (fun hb h => ?_) (fun hb h => ?_)
 ·refine T ?_
  refine c_seq (T ?_)
  obtain ⟨b2, hx2, h⟩ := bnd_some h
  refine sI ?_
  refine T ?_
  obtain ⟨b3, hx3, h⟩ := bnd_some h
  replace hx3 := gd_some hx3
  refine sJ ?_
  refine T ?_
  refine cif h et (fun hb h => ?_) (fun hb h => ?_)
  ·refine T ?_
   refine c_ret ?_
   obtain rfl := some_inj h
   exact QF hI
  refine T ?_
  refine s_nil ?_
  exact k_loop (fuel1, wi64 (i1 + 1)) SB ⟨_, hI.arr GO SU, h⟩ (Nat.lt_succ_self _)
 refine c_exit ?_
 refine k_in ?_
 exact k_join () ⟨rfl, trivial⟩ ⟨_, hI.arr GO SU, h⟩ rfl
theorem c_frac_bounded (F : NP) (w0 : World) (hF : ∀ k, F k → k < w0.heap.size) (s1 : List UInt8) (hc : AllCl [] F w0) (r : Int × Bool)
  (h : m_frac_bounded s1 = some r) :
  Calls Tryz.prog 267 #[(str s1)] w0 fun e w => e = .returned (Value.tuple #[vi r.1, vb r.2]) ∧ Ext w0 w ∧ AllCl [] F w := by
 refine enterK Tryz.func267 rfl Tryz.ntmps267 rfl ?_
 have hI := Bun.start hF hc
 clear hc
 rw [m_frac_bounded] at h
 refine T ?_
 refine c_seq (T ?_)
 refine cif h et (fun hb h => ?_) (fun hb h => ?_)
 ·refine T ?_
  refine c_ret ?_
  obtain rfl := some_inj h
  exact QF hI
 refine T ?_
 obtain ⟨r1, hx1, h⟩ := bnd_some h
 refine s_call gn rfl (r_callF (vs := [(str s1), vi 10, vi 64]) rfl ok_270 ⟨et, ⟨ev_const, ⟨ev_const, trivial⟩⟩⟩) (Calls.mono (c_strconv_ParseInt (Dj F noM) w0 hI.lt s1 10 64 trivial r1 hx1) ?_)
 rintro _ w1 ⟨v1, rfl, hx2, hl1⟩
 refine ⟨_, rfl, ?_⟩
 replace hI := (hI.ext hx2)
 refine T ?_
 refine c_ret ?_
 obtain rfl := some_inj h
 exact QF hI
theorem c_frac_inRange (F : NP) (w0 : World) (hF : ∀ k, F k → k < w0.heap.size) (n1 : Int) (hc : AllCl [] F w0) (r : Bool)
  (h : m_frac_inRange n1 = some r) :
  Calls Tryz.prog 233 #[vi n1] w0 fun e w => e = .returned (vb r) ∧ Ext w0 w ∧ AllCl [] F w := by
 refine enterK Tryz.func233 rfl Tryz.ntmps233 rfl ?_
 have hI := Bun.start hF hc
 clear hc
 rw [m_frac_inRange] at h
 refine T ?_
 refine c_ret ?_
 obtain rfl := some_inj h
 exact QF hI
theorem c_frac_magnitude (F : NP) (w0 : World) (hF : ∀ k, F k → k < w0.heap.size) (n1 : Int) (hc : AllCl [] F w0) (r : Int)
  (h : m_frac_magnitude n1 = some r) :
  Calls Tryz.prog 235 #[vi n1] w0 fun e w => e = .returned (Value.int .u64 r) ∧ Ext w0 w ∧ AllCl [] F w := by
 refine enterK Tryz.func235 rfl Tryz.ntmps235 rfl ?_
 have hI := Bun.start hF hc
 clear hc
 rw [m_frac_magnitude] at h
 refine T ?_
 refine c_seq (T ?_)
 refine cif h et (fun hb h => ?_) (fun hb h => ?_)
 ·refine T ?_
  refine c_ret ?_
  obtain rfl := some_inj h
  exact QF hI
 refine T ?_
 refine c_ret ?_
 obtain rfl := some_inj h
 exact QF hI
theorem c_frac_gcd (F : NP) (w0 : World) (hF : ∀ k, F k → k < w0.heap.size) (a1 : Int) (b1 : Int) (hc : AllCl [] F w0) (r : Int)
  (h : m_frac_gcd a1 b1 = some r) :
  Calls Tryz.prog 234 #[(Value.int .u64 a1), (Value.int .u64 b1)] w0 fun e w => e = .returned (Value.int .u64 r) ∧ Ext w0 w ∧ AllCl [] F w := by
 refine enterK Tryz.func234 rfl Tryz.ntmps234 rfl ?_
 have hI := Bun.start hF hc
 clear hc
 rw [m_frac_gcd] at h
 refine T ?_
 refine c_seq (T ?_)
 refine c_loop (α := Nat × Int × Int) (fun x => fun w => ∃ C, Bun noM F w0 C w [] [] ∧ m_frac_gcd_l1 (x.1) (x.2.1) (x.2.2) = some r) (fun x _ => x.1) (fun x => [(0, (Value.int .u64 (x.2.1))), (1, (Value.int .u64 (x.2.2)))]) (fu, a1, b1) ⟨_, hI.arr .n trivial, h⟩ SB ?_
 clear h hI; rintro ⟨fuel1, a2, b2⟩ w1 ⟨c1, hI, h⟩
 dsimp only at hI h
 rcases fuel1 with _ | fuel1
 ·rw [m_frac_gcd_l1] at h; cases h
 rw [m_frac_gcd_l1] at h
 refine c_sub (e := [(0, (Value.int .u64 a2)), (1, (Value.int .u64 b2))]) SB ?_
 refine c_seq (T ?_)
 refine cif h et (fun hb h => ?_) (fun hb h => ?_)
 ·refine T ?_
  refine c_drawX [] false (.c (0, .q) (.c (1, .q) (.c (2, .q) (.c (3, .q) (.c (4, .q) (.c (5, .q) .n)))))) hI (by kernel_rfl) (by kernel_rfl) ?_
  clear hI; intro w2 hI
  refine V ?_
  obtain ⟨ho1, h⟩ := chk_some h
  refine a_q rfl gn rfl (fun w' => y_rem rfl et et ho1) ?_
  refine V ?_
  refine a_nil ?_
  exact k_loop (fuel1, b2, Int.tmod a2 b2) SB ⟨_, hI.arr GO SU, h⟩ (Nat.lt_succ_self _)
 refine c_exit ?_
 refine k_in ?_
 refine k_same ?_
 refine T ?_
 refine c_ret ?_
 obtain rfl := some_inj h
 exact QF hI
theorem c_frac_Valid (F : NP) (w0 : World) (hF : ∀ k, F k → k < w0.heap.size) (v1 : GVal) (hc : AllCl [] F w0) (r : Bool)
  (h : m_frac_Valid v1 = some r) :
  Calls Tryz.prog 207 #[(Value.agg (AVal v1))] w0 fun e w => e = .returned (vb r) ∧ Ext w0 w ∧ AllCl [] F w := by
 refine enterK Tryz.func207 rfl Tryz.ntmps207 rfl ?_
 have hI := Bun.start hF hc
 clear hc
 rw [m_frac_Valid] at h
 refine sr (l_box (v := (Value.agg (AVal v1))) (cs := (AVal v1)) hI gn rfl rfl et rfl ?_)
 clear hI; intro b1 c1 w1 hI
 obtain ⟨c2, hI⟩ := hI.relBox .z
 refine T ?_
 refine c_seq (c_drawX [] false (.c (0, .q) (.c (1, .q) (.c (2, .q) (.c (3, .q) (.c (4, .q) (.c (5, .q) (.c (6, .q) (.c (7, .q) (.c (8, .q) (.c (9, .q) (.c (10, .q) (.c (11, .s) (.c (12, .q) (.c (13, .q) (.c (14, .q) (.c (15, .q) (.c (17, .q) (.c (18, .q) (.c (19, .q) (.c (16, .s) (.c (20, .s) (.c (21, .q) (.c (22, .q) (.c (23, .q) .n)))))))))))))))))))))))) hI (by kernel_rfl) (by kernel_rfl) ?_)
 clear hI; intro w2 hI
 refine V ?_
 obtain ⟨r1, hx1, h⟩ := bnd_some h
 replace hx1 := gd_some hx1
 refine la_gcallU (v := (vb r1)) rfl (g_true rfl rfl rfl rfl) rfl (fun hc => (r_callF (vs := [vi v1.N]) rfl ok_233 ⟨(ev_gv et hc), trivial⟩)) (fun hc => (c_frac_inRange (Dj F c2) w2 hI.lt v1.N trivial r1 (hx1 hc)).mono fun _ _ k => ⟨k.1, k.2.1⟩) ?_
 intro w3 hx2; replace hI := hI.ext hx2
 refine V ?_
 obtain ⟨r2, hx3, h⟩ := bnd_some h
 replace hx3 := gd_some hx3
 refine la_gcallU (v := (Value.int .u64 r2)) rfl (g_true rfl rfl rfl rfl) rfl (fun hc => (r_callF (vs := [vi v1.N]) rfl ok_235 ⟨(ev_gv et hc), trivial⟩)) (fun hc => (c_frac_magnitude (Dj F c2) w3 hI.lt v1.N trivial r2 (hx3 hc)).mono fun _ _ k => ⟨k.1, k.2.1⟩) ?_
 intro w4 hx4; replace hI := hI.ext hx4
 obtain ⟨r3, hx5, h⟩ := bnd_some h
 replace hx5 := gd_some hx5
 refine la_gcallU (v := (Value.int .u64 r3)) rfl (g_true rfl rfl rfl rfl) rfl (fun hc => (r_callF (vs := [(Value.int .u64 r2), (Value.int .u64 (wu64 v1.D))]) rfl ok_234 ⟨(ev_gv et hc), ⟨(ev_gv et hc), trivial⟩⟩)) (fun hc => (c_frac_gcd (Dj F c2) w4 hI.lt r2 (wu64 v1.D) trivial r3 (hx5 hc)).mono fun _ _ k => ⟨k.1, k.2.1⟩) ?_
 intro w5 hx6; replace hI := hI.ext hx6
 refine V ?_
 refine c_ret ?_
 obtain rfl := some_inj h
 exact QF hI
theorem c_frac_Parse (F : NP) (w0 : World) (hF : ∀ k, F k → k < w0.heap.size) (s1 : List UInt8) (hc : AllCl [] F w0) (r : GVal × Int)
  (h : m_frac_Parse s1 = some r) :
  Calls Tryz.prog 263 #[(str s1)] w0 fun e w => e = .returned (Value.tuple #[(Value.agg (AVal r.1)), vi r.2]) ∧ Ext w0 w ∧ AllCl [] F w := by
 refine enterK Tryz.func263 rfl Tryz.ntmps263 rfl ?_
 have hI := Bun.start hF hc
 clear hc
 rw [m_frac_Parse] at h
 refine sr (l_alloc (cs := #[vi 0, vi 0]) hI gn rfl rfl zero_33 rfl ?_)
 clear hI; intro b1 c1 w1 hI
 refine T ?_
 obtain ⟨r1, hx1, h⟩ := bnd_some h
 refine s_call gn rfl (r_callF (vs := [(str s1), (str ([47] : List UInt8))]) rfl ok_264 ⟨et, ⟨ev_const, trivial⟩⟩) (Calls.mono (c_strings_Cut (Dj F c1) w1 hI.lt s1 ([47] : List UInt8) trivial r1 hx1) ?_)
 rintro _ w2 ⟨rfl, hx2, hl1⟩
 refine ⟨_, rfl, ?_⟩
 replace hI := (hI.ext hx2)
 refine T ?_
 obtain ⟨r2, hx3, h⟩ := bnd_some h
 refine s_call gn rfl (r_callF (vs := [(str r1.1), (str ([45] : List UInt8))]) rfl ok_265 ⟨et, ⟨ev_const, trivial⟩⟩) (Calls.mono (c_strings_CutPrefix (Dj F c1) w2 hI.lt r1.1 ([45] : List UInt8) trivial r2 hx3) ?_)
 rintro _ w3 ⟨rfl, hx4, hl2⟩
 refine ⟨_, rfl, ?_⟩
 replace hI := (hI.ext hx4)
 refine T ?_
 refine c_seq (T ?_)
 obtain ⟨r3, hx5, h⟩ := bnd_some h
 refine s_call gn rfl (r_callF (vs := [(str r2.1)]) rfl ok_266 ⟨et, trivial⟩) (Calls.mono (c_frac_decimal (Dj F c1) w3 hI.lt r2.1 trivial r3 hx5) ?_)
 rintro _ w4 ⟨rfl, hx6, hl3⟩
 refine ⟨_, rfl, ?_⟩
 replace hI := (hI.ext hx6)
 refine T ?_
 refine cif h et (fun hb h => ?_) (fun hb h => ?_)
 ·refine sr (sq (y_build (vs := []) (cs := #[vi 0, vi 0]) rfl trivial (by kernel_rfl)) ?_)
  refine l_store (new := [vi 0, vi 0]) (cs' := #[vi 0, vi 0]) hI .z gn rfl rfl et et rfl size_33 rfl rfl rfl ?_
  clear hI; intro c2 w5 hI
  refine T ?_
  refine c_ret ?_
  obtain rfl := some_inj h
  refine QG ?_
  exact fq hI trivial
 refine T ?_
 refine c_join (α := (List UInt8)) (fun _ => ⟨78, []⟩) (fun x => [(2, vp b1 0), (5, (str x)), (7, (str r2.1)), (8, vb r2.2)]) (fun x => fun w => ∃ C, Bun noM F w0 C w [MO.box b1 33 #[vi 0, vi 0]] [] ∧ m_frac_Parse_j1 r2 x = some r) ?_ ?_
 ·clear h hI; rintro bottom1 w6 ⟨c3, hI, h⟩
  try dsimp only at hI h
  rw [m_frac_Parse_j1] at h
  refine c_sub (e := [(2, vp b1 0), (5, (str bottom1)), (7, (str r2.1)), (8, vb r2.2)]) SB ?_
  refine T ?_
  obtain ⟨r4, hx7, h⟩ := bnd_some h
  refine s_call gn rfl (r_callF (vs := [(str r2.1)]) rfl ok_267 ⟨et, trivial⟩) (Calls.mono (c_frac_bounded (Dj F c3) w6 hI.lt r2.1 trivial r4 hx7) ?_)
  rintro _ w7 ⟨rfl, hx8, hl4⟩
  refine ⟨_, rfl, ?_⟩
  replace hI := (hI.ext hx8)
  refine T ?_
  obtain ⟨r5, hx9, h⟩ := bnd_some h
  refine s_call gn rfl (r_callF (vs := [(str bottom1)]) rfl ok_267 ⟨et, trivial⟩) (Calls.mono (c_frac_bounded (Dj F c3) w7 hI.lt bottom1 trivial r5 hx9) ?_)
  rintro _ w8 ⟨rfl, hx10, hl5⟩
  refine ⟨_, rfl, ?_⟩
  replace hI := (hI.ext hx10)
  refine T ?_
  refine c_seq (T ?_)
  refine cif h et (fun hb h => ?_) (fun hb h => ?_)
  ·refine sr (sq (y_build (vs := []) (cs := #[vi 0, vi 0]) rfl trivial (by kernel_rfl)) ?_)
   refine l_store (new := [vi 0, vi 0]) (cs' := #[vi 0, vi 0]) hI .z gn rfl rfl et et rfl size_33 rfl rfl rfl ?_
   clear hI; intro c4 w9 hI
   refine T ?_
   refine c_ret ?_
   obtain rfl := some_inj h
   refine QG ?_
   exact fq hI trivial
  refine T ?_
  refine c_join (α := Int) (fun _ => ⟨78, []⟩) (fun x => [(2, vp b1 0), (9, vi x), (11, vi r5.1)]) (fun x => fun w => ∃ C, Bun noM F w0 C w [MO.box b1 33 #[vi 0, vi 0]] [] ∧ m_frac_Parse_j2 r5 x = some r) ?_ ?_
  ·clear h hI; rintro n1 w10 ⟨c5, hI, h⟩
   try dsimp only at hI h
   rw [m_frac_Parse_j2] at h
   refine c_sub (e := [(2, vp b1 0), (9, vi n1), (11, vi r5.1)]) SB ?_
   refine T ?_
   refine sq (y_build (vs := [(0, vi n1), (1, vi r5.1)]) (cs := #[vi n1, vi r5.1]) rfl ⟨rfl, et, ⟨rfl, et, trivial⟩⟩ (by kernel_rfl)) ?_
   refine l_alloc (cs := #[vi 0, vi 0]) hI gn rfl rfl zero_33 rfl ?_
   clear hI; intro b2 c6 w11 hI
   refine l_store (new := [vi n1, vi r5.1]) (cs' := #[vi n1, vi r5.1]) hI .z gn rfl rfl et et rfl size_33 rfl rfl rfl ?_
   clear hI; intro c7 w12 hI
   refine nk (c_seq (T ?_))
   obtain ⟨r6, hx11, h⟩ := bnd_some h
   refine s_call gn rfl (r_callF (vs := [(Value.agg #[vi n1, vi r5.1])]) rfl ok_207 ⟨et, trivial⟩) (Calls.mono (c_frac_Valid (Dj F c7) w12 hI.lt (⟨n1, r5.1⟩ : GVal) trivial r6 hx11) ?_)
   rintro _ w13 ⟨rfl, hx12, hl6⟩
   refine ⟨_, rfl, ?_⟩
   replace hI := (hI.ext hx12)
   refine T ?_
   refine cif h et (fun hb h => ?_) (fun hb h => ?_)
   ·refine sr (sq (y_build (vs := []) (cs := #[vi 0, vi 0]) rfl trivial (by kernel_rfl)) ?_)
    refine l_store (new := [vi 0, vi 0]) (cs' := #[vi 0, vi 0]) hI (.s .z) gn rfl rfl et et rfl size_33 rfl rfl rfl ?_
    clear hI; intro c8 w14 hI
    refine T ?_
    refine c_ret ?_
    obtain rfl := some_inj h
    refine QG ?_
    exact fq hI trivial
   refine T ?_
   refine l_store (new := [vi n1, vi r5.1]) (cs' := #[vi n1, vi r5.1]) hI (.s .z) gn rfl rfl et et rfl size_33 rfl rfl rfl ?_
   clear hI; intro c9 w15 hI
   refine T ?_
   refine c_ret ?_
   obtain rfl := some_inj h
   refine QG ?_
   exact fq hI trivial
  refine T ?_
  refine cif h et (fun hb h => ?_) (fun hb h => ?_)
  ·refine T ?_
   refine s_nil ?_
   exact k_join (wi64 (-r4.1)) SB ⟨_, hI.arr GO SU, h⟩ rfl
  exact c_skip (k_join r4.1 SB ⟨_, hI.arr GO SU, h⟩ rfl)
 refine T ?_
 refine cif h et (fun hb h => ?_) (fun hb h => ?_)
 ·refine T ?_
  refine s_nil ?_
  exact k_join ([49] : List UInt8) SB ⟨_, hI.arr GO SU, h⟩ rfl
 refine T ?_
 obtain ⟨r7, hx13, h⟩ := bnd_some h
 refine s_call gn rfl (r_callF (vs := [(str r1.2.1)]) rfl ok_266 ⟨et, trivial⟩) (Calls.mono (c_frac_decimal (Dj F c1) w4 hI.lt r1.2.1 trivial r7 hx13) ?_)
 rintro _ w16 ⟨rfl, hx14, hl7⟩
 refine ⟨_, rfl, ?_⟩
 replace hI := (hI.ext hx14)
 refine T ?_
 refine cif h et (fun hb h => ?_) (fun hb h => ?_)
 ·refine sr (sq (y_build (vs := []) (cs := #[vi 0, vi 0]) rfl trivial (by kernel_rfl)) ?_)
  refine l_store (new := [vi 0, vi 0]) (cs' := #[vi 0, vi 0]) hI .z gn rfl rfl et et rfl size_33 rfl rfl rfl ?_
  clear hI; intro c10 w17 hI
  refine T ?_
  refine c_ret ?_
  obtain rfl := some_inj h
  refine QG ?_
  exact fq hI trivial
 exact c_skip (k_join r1.2.1 SB ⟨_, hI.arr GO SU, h⟩ rfl)
theorem c_round_valid (F : NP) (w0 : World) (hF : ∀ k, F k → k < w0.heap.size) (bits1 : Int) (hc : AllCl [] F w0) (r : Bool)
  (h : m_round_valid bits1 = some r) :
  Calls Tryz.prog 243 #[vi bits1] w0 fun e w => e = .returned (vb r) ∧ Ext w0 w ∧ AllCl [] F w := by
 refine enterK Tryz.func243 rfl Tryz.ntmps243 rfl ?_
 have hI := Bun.start hF hc
 clear hc
 rw [m_round_valid] at h
 refine T ?_
 refine c_ret ?_
 obtain rfl := some_inj h
 exact QF hI
theorem c_round_MinInt (F : NP) (w0 : World) (hF : ∀ k, F k → k < w0.heap.size) (bits1 : Int) (hc : AllCl [] F w0) (r : Int)
  (h : m_round_MinInt bits1 = some r) :
  Calls Tryz.prog 231 #[vi bits1] w0 fun e w => e = .returned (vi r) ∧ Ext w0 w ∧ AllCl [] F w := by
 refine enterK Tryz.func231 rfl Tryz.ntmps231 rfl ?_
 have hI := Bun.start hF hc
 clear hc
 rw [m_round_MinInt] at h
 refine T ?_
 refine c_seq (T ?_)
 obtain ⟨r1, hx1, h⟩ := bnd_some h
 refine s_call gn rfl (r_callF (vs := [vi bits1]) rfl ok_243 ⟨et, trivial⟩) (Calls.mono (c_round_valid (Dj F noM) w0 hI.lt bits1 trivial r1 hx1) ?_)
 rintro _ w1 ⟨rfl, hx2, hl1⟩
 refine ⟨_, rfl, ?_⟩
 replace hI := (hI.ext hx2)
 refine T ?_
 refine cif h et (fun hb h => ?_) (fun hb h => ?_)
 ·refine T ?_
  refine c_ret ?_
  obtain rfl := some_inj h
  exact QF hI
 refine T ?_
 obtain ⟨ho1, h⟩ := chk_some h
 refine sq (y_shl rfl ev_const et ho1) ?_
 refine T ?_
 refine c_ret ?_
 obtain rfl := some_inj h
 exact QF hI
theorem c_round_MaxInt (F : NP) (w0 : World) (hF : ∀ k, F k → k < w0.heap.size) (bits1 : Int) (hc : AllCl [] F w0) (r : Int)
  (h : m_round_MaxInt bits1 = some r) :
  Calls Tryz.prog 232 #[vi bits1] w0 fun e w => e = .returned (vi r) ∧ Ext w0 w ∧ AllCl [] F w := by
 refine enterK Tryz.func232 rfl Tryz.ntmps232 rfl ?_
 have hI := Bun.start hF hc
 clear hc
 rw [m_round_MaxInt] at h
 refine T ?_
 refine c_seq (T ?_)
 obtain ⟨r1, hx1, h⟩ := bnd_some h
 refine s_call gn rfl (r_callF (vs := [vi bits1]) rfl ok_243 ⟨et, trivial⟩) (Calls.mono (c_round_valid (Dj F noM) w0 hI.lt bits1 trivial r1 hx1) ?_)
 rintro _ w1 ⟨rfl, hx2, hl1⟩
 refine ⟨_, rfl, ?_⟩
 replace hI := (hI.ext hx2)
 refine T ?_
 refine cif h et (fun hb h => ?_) (fun hb h => ?_)
 ·refine T ?_
  refine c_ret ?_
  obtain rfl := some_inj h
  exact QF hI
 refine T ?_
 obtain ⟨ho1, h⟩ := chk_some h
 refine sq (y_shl rfl ev_const et ho1) ?_
 refine T ?_
 refine c_ret ?_
 obtain rfl := some_inj h
 exact QF hI
theorem c_fixed_Valid (F : NP) (w0 : World) (hF : ∀ k, F k → k < w0.heap.size) (t1 : GType) (v1 : GVal) (hc : AllCl [] F w0) (r : Bool)
  (h : m_fixed_Valid t1 v1 = some r) :
  Calls Tryz.prog 205 #[(Value.agg (AType t1)), (Value.agg (AVal v1))] w0 fun e w => e = .returned (vb r) ∧ Ext w0 w ∧ AllCl [] F w := by
 refine enterK Tryz.func205 rfl Tryz.ntmps205 rfl ?_
 have hI := Bun.start hF hc
 clear hc
 rw [m_fixed_Valid] at h
 refine sr (l_box (v := (Value.agg (AType t1))) (cs := (AType t1)) hI gn rfl rfl et rfl ?_)
 clear hI; intro b1 c1 w1 hI
 obtain ⟨c2, hI⟩ := hI.relBox .z
 refine l_box (v := (Value.agg (AVal v1))) (cs := (AVal v1)) hI gn rfl rfl et rfl ?_
 clear hI; intro b2 c3 w2 hI
 obtain ⟨c4, hI⟩ := hI.relBox .z
 refine T ?_
 refine c_seq (c_drawX [] false (.c (0, .q) (.c (1, .s) (.c (2, .q) (.c (3, .q) (.c (4, .q) (.c (5, .q) (.c (6, .q) (.c (7, .q) (.c (8, .q) (.c (9, .q) (.c (10, .q) (.c (11, .q) (.c (12, .q) (.c (13, .s) (.c (14, .q) (.c (15, .q) (.c (16, .q) (.c (17, .q) (.c (18, .q) (.c (19, .q) (.c (20, .q) (.c (21, .s) (.c (22, .q) (.c (23, .q) (.c (24, .q) .n))))))))))))))))))))))))) hI (by kernel_rfl) (by kernel_rfl) ?_)
 clear hI; intro w3 hI
 refine a_read rfl gn rfl (fun w' hw' => (y_loadN (l := (lType t1)) rfl et u35 rfl size_35 ((hI.kblk (l := (lType t1)) (.s .z) rfl).at_ (SX.any rfl hw')))) (by kernel_rfl) ?_
 obtain ⟨r1, hx1, h⟩ := bnd_some h
 refine la_call rfl gn rfl (r_callF (vs := [(Value.agg (AType t1))]) rfl ok_230 ⟨et, trivial⟩) (Calls.mono (c_fixed_ValidateType (Dj F c4) w3 hI.lt t1 trivial r1 hx1) ?_)
 rintro _ w4 ⟨rfl, hx2, hl1⟩
 refine ⟨_, rfl, hx2, ?_⟩
 replace hI := (hI.ext hx2)
 refine V ?_
 obtain ⟨r2, hx3, h⟩ := bnd_some h
 replace hx3 := gd_some hx3
 refine la_gcallU (v := (vi r2)) rfl (g_true rfl rfl rfl rfl) rfl (fun hc => (r_callF (vs := [vi t1.Bits]) rfl ok_231 ⟨(ev_gv et hc), trivial⟩)) (fun hc => (c_round_MinInt (Dj F c4) w4 hI.lt t1.Bits trivial r2 (hx3 hc)).mono fun _ _ k => ⟨k.1, k.2.1⟩) ?_
 intro w5 hx4; replace hI := hI.ext hx4
 refine V ?_
 obtain ⟨r3, hx5, h⟩ := bnd_some h
 replace hx5 := gd_some hx5
 refine la_gcallU (v := (vi r3)) rfl (g_true rfl rfl rfl rfl) rfl (fun hc => (r_callF (vs := [vi t1.Bits]) rfl ok_232 ⟨(ev_gv et hc), trivial⟩)) (fun hc => (c_round_MaxInt (Dj F c4) w5 hI.lt t1.Bits trivial r3 (hx5 hc)).mono fun _ _ k => ⟨k.1, k.2.1⟩) ?_
 intro w6 hx6; replace hI := hI.ext hx6
 refine V ?_
 refine c_ret ?_
 obtain rfl := some_inj h
 exact QF hI
theorem c_value_Parse (F : NP) (w0 : World) (hF : ∀ k, F k → k < w0.heap.size) (t1 : GType) (s1 : List UInt8) (hc : AllCl [] F w0) (r : GVal × Int)
  (h : m_value_Parse t1 s1 = some r) :
  Calls Tryz.prog 260 #[(Value.agg (AType t1)), (str s1)] w0 fun e w => e = .returned (Value.tuple #[(Value.agg (AVal r.1)), vi r.2]) ∧ Ext w0 w ∧ AllCl [] F w := by
 refine enterK Tryz.func260 rfl Tryz.ntmps260 rfl ?_
 have hI := Bun.start hF hc
 clear hc
 rw [m_value_Parse] at h
 refine sr (l_box (v := (Value.agg (AType t1))) (cs := (AType t1)) hI gn rfl rfl et rfl ?_)
 clear hI; intro b1 c1 w1 hI
 obtain ⟨c2, hI⟩ := hI.relBox .z
 refine l_alloc (cs := #[vi 0, vi 0]) hI gn rfl rfl zero_33 rfl ?_
 clear hI; intro b2 c3 w2 hI
 refine T ?_
 refine c_seq (sr (sq (y_loadN (l := (lType t1)) rfl et u35 rfl size_35 (hI.kblk (l := (lType t1)) .z rfl).1) ?_))
 obtain ⟨r1, hx1, h⟩ := bnd_some h
 refine s_call gn rfl (r_callF (vs := [(Value.agg (AType t1))]) rfl ok_202 ⟨et, trivial⟩) (Calls.mono (c_value_ValidateType (Dj F c3) w2 hI.lt t1 trivial r1 hx1) ?_)
 rintro _ w3 ⟨rfl, hx2, hl1⟩
 refine ⟨_, rfl, ?_⟩
 replace hI := (hI.ext hx2)
 refine T ?_
 refine cif h et (fun hb h => ?_) (fun hb h => ?_)
 ·refine sr (sq (y_build (vs := []) (cs := #[vi 0, vi 0]) rfl trivial (by kernel_rfl)) ?_)
  refine l_store (new := [vi 0, vi 0]) (cs' := #[vi 0, vi 0]) hI .z gn rfl rfl et et rfl size_33 rfl rfl rfl ?_
  clear hI; intro c4 w4 hI
  refine T ?_
  refine c_ret ?_
  obtain rfl := some_inj h
  refine QG ?_
  exact fq hI trivial
 refine T ?_
 obtain ⟨r2, hx3, h⟩ := bnd_some h
 refine s_call gn rfl (r_callF (vs := [(str s1)]) rfl ok_263 ⟨et, trivial⟩) (Calls.mono (c_frac_Parse (Dj F c3) w3 hI.lt s1 trivial r2 hx3) ?_)
 rintro _ w5 ⟨rfl, hx4, hl2⟩
 refine ⟨_, rfl, ?_⟩
 replace hI := (hI.ext hx4)
 refine T ?_
 refine l_alloc (cs := #[vi 0, vi 0]) hI gn rfl rfl zero_33 rfl ?_
 clear hI; intro b3 c5 w6 hI
 refine l_store (new := (lVal r2.1)) (cs' := (AVal r2.1)) hI .z gn rfl rfl et et rfl size_33 rfl rfl rfl ?_
 clear hI; intro c6 w7 hI
 refine T ?_
 refine c_seq (T ?_)
 refine cif h et (fun hb h => ?_) (fun hb h => ?_)
 ·refine sr (sq (y_build (vs := []) (cs := #[vi 0, vi 0]) rfl trivial (by kernel_rfl)) ?_)
  refine sm ?_
  refine l_store (new := [vi 0, vi 0]) (cs' := #[vi 0, vi 0]) hI (.s .z) gn rfl rfl et et rfl size_33 rfl rfl rfl ?_
  clear hI; intro c7 w8 hI
  refine T ?_
  refine c_ret ?_
  obtain rfl := some_inj h
  refine QG ?_
  exact fq hI trivial
 refine T ?_
 refine c_seq (T ?_)
 refine cif h et (fun hb h => ?_) (fun hb h => ?_)
 ·refine T ?_
  refine cif h et (fun hb h => ?_) (fun hb h => ?_)
  ·refine sr (sq (y_build (vs := []) (cs := #[vi 0, vi 0]) rfl trivial (by kernel_rfl)) ?_)
   refine l_store (new := [vi 0, vi 0]) (cs' := #[vi 0, vi 0]) hI (.s .z) gn rfl rfl et et rfl size_33 rfl rfl rfl ?_
   clear hI; intro c8 w9 hI
   refine T ?_
   refine c_ret ?_
   obtain rfl := some_inj h
   refine QG ?_
   exact fq hI trivial
  refine T ?_
  refine l_store (new := (lVal r2.1)) (cs' := (AVal r2.1)) hI (.s .z) gn rfl rfl et et rfl size_33 rfl rfl rfl ?_
  clear hI; intro c9 w10 hI
  refine T ?_
  refine c_ret ?_
  obtain rfl := some_inj h
  refine QG ?_
  exact fq hI trivial
 refine T ?_
 refine cif h et (fun hb h => ?_) (fun hb h => ?_)
 ·refine T ?_
  obtain ⟨ho1, h⟩ := chk_some h
  refine sq (y_shl rfl ev_const et ho1) ?_
  obtain ⟨one1, hx5, h⟩ := bnd_some h
  refine sq (binU (y_assign rfl et) (congrArg (Value.int .i64) (some_inj hx5))) ?_
  refine nk (c_seq (T ?_))
  obtain ⟨ho2, h⟩ := chk_some h
  refine sq (y_rem rfl et et ho2) ?_
  refine T ?_
  refine cif h et (fun hb h => ?_) (fun hb h => ?_)
  ·refine sr (sq (y_build (vs := []) (cs := #[vi 0, vi 0]) rfl trivial (by kernel_rfl)) ?_)
   refine l_store (new := [vi 0, vi 0]) (cs' := #[vi 0, vi 0]) hI (.s .z) gn rfl rfl et et rfl size_33 rfl rfl rfl ?_
   clear hI; intro c10 w11 hI
   refine T ?_
   refine c_ret ?_
   obtain rfl := some_inj h
   refine QG ?_
   exact fq hI trivial
  refine T ?_
  refine c_seq (c_drawX [8] false (.c (0, .q) (.c (1, .q) (.c (2, .q) (.c (3, .q) (.c (4, .q) (.c (5, .q) (.c (6, .q) (.c (7, .q) (.c (8, .s) .n))))))))) hI (by kernel_rfl) (by kernel_rfl) ?_)
  clear hI; intro w12 hI
  refine V ?_
  refine a_q rfl gn rfl (fun w' => y_quo rfl et et ho2) ?_
  refine V ?_
  refine a_q rfl gn rfl (fun w' => (y_build (vs := [(0, (vi (wi64 (r2.1.N * (wi64 (Int.tdiv one1 r2.1.D)))))), (1, vi 1)]) (cs := #[(vi (wi64 (r2.1.N * (wi64 (Int.tdiv one1 r2.1.D))))), vi 1]) rfl ⟨rfl, et, ⟨rfl, ev_const, trivial⟩⟩ (by kernel_rfl))) ?_
  refine a_turn (F := F) (C := c6) rfl rfl ?_
  refine la_store (new := [(vi (wi64 (r2.1.N * (wi64 (Int.tdiv one1 r2.1.D))))), vi 1]) (cs' := #[(vi (wi64 (r2.1.N * (wi64 (Int.tdiv one1 r2.1.D))))), vi 1]) hI .z rfl gn rfl rfl et et rfl size_33 rfl rfl rfl ?_
  clear hI; intro c11 w13 hI
  refine V ?_
  refine sr (sq (y_loadN (l := (lType t1)) rfl et u35 rfl size_35 (hI.kblk (l := (lType t1)) .z rfl).1) ?_)
  refine T ?_
  obtain ⟨r3, hx6, h⟩ := bnd_some h
  refine s_call gn rfl (r_callF (vs := [(Value.agg (AType t1)), (Value.agg #[(vi (wi64 (r2.1.N * (wi64 (Int.tdiv one1 r2.1.D))))), vi 1])]) rfl ok_205 ⟨et, ⟨et, trivial⟩⟩) (Calls.mono (c_fixed_Valid (Dj F c11) w13 hI.lt t1 (⟨wi64 (r2.1.N * (wi64 (Int.tdiv one1 r2.1.D))), 1⟩ : GVal) trivial r3 hx6) ?_)
  rintro _ w14 ⟨rfl, hx7, hl3⟩
  refine ⟨_, rfl, ?_⟩
  replace hI := (hI.ext hx7)
  refine T ?_
  refine cif h et (fun hb h => ?_) (fun hb h => ?_)
  ·refine sr (sq (y_build (vs := []) (cs := #[vi 0, vi 0]) rfl trivial (by kernel_rfl)) ?_)
   refine l_store (new := [vi 0, vi 0]) (cs' := #[vi 0, vi 0]) hI (.s .z) gn rfl rfl et et rfl size_33 rfl rfl rfl ?_
   clear hI; intro c12 w15 hI
   refine T ?_
   refine c_ret ?_
   obtain rfl := some_inj h
   refine QG ?_
   exact fq hI trivial
  refine T ?_
  refine l_store (new := [(vi (wi64 (r2.1.N * (wi64 (Int.tdiv one1 r2.1.D))))), vi 1]) (cs' := #[(vi (wi64 (r2.1.N * (wi64 (Int.tdiv one1 r2.1.D))))), vi 1]) hI (.s .z) gn rfl rfl et et rfl size_33 rfl rfl rfl ?_
  clear hI; intro c13 w16 hI
  refine T ?_
  refine c_ret ?_
  obtain rfl := some_inj h
  refine QG ?_
  exact fq hI trivial
 refine T ?_
 refine l_store (new := (lVal r2.1)) (cs' := (AVal r2.1)) hI (.s .z) gn rfl rfl et et rfl size_33 rfl rfl rfl ?_
 clear hI; intro c14 w17 hI
 refine T ?_
 refine c_ret ?_
 obtain rfl := some_inj h
 refine QG ?_
 exact fq hI trivial
theorem c_expr_depth_b (rec_ : (GExpr → Int → Option Int)) (hrec : ∀ (F : NP) (w0 : World) (hF : ∀ k, F k → k < w0.heap.size) (e1 : GExpr) (limit1 : Int) (a1 : Option Addr) (c1 : Nat) (a2 : Option Addr) (c2 : Nat) (a3 : Option Addr) (c3 : Nat) (hc : AllCl [Cl.sl cGMono a1 c1 e1.Lin.L, Cl.sl cGIndex a2 c2 e1.Idx, Cl.sl cGExpr a3 c3 e1.Args] F w0) (r : Int) (h : rec_ e1 limit1 = some r), Calls Tryz.prog 141 #[(Value.agg (AExpr e1 a1 c1 a2 c2 a3 c3)), vi limit1] w0 fun e w => e = .returned (vi r) ∧ Ext w0 w ∧ AllCl [] F w)
  (F : NP) (w0 : World) (hF : ∀ k, F k → k < w0.heap.size) (e1 : GExpr) (limit1 : Int) (a1 : Option Addr) (c1 : Nat) (a2 : Option Addr) (c2 : Nat) (a3 : Option Addr) (c3 : Nat) (hc : AllCl [Cl.sl cGMono a1 c1 e1.Lin.L, Cl.sl cGIndex a2 c2 e1.Idx, Cl.sl cGExpr a3 c3 e1.Args] F w0) (r : Int) (h : m_expr_depth_b rec_ e1 limit1 = some r) : Calls Tryz.prog 141 #[(Value.agg (AExpr e1 a1 c1 a2 c2 a3 c3)), vi limit1] w0 fun e w => e = .returned (vi r) ∧ Ext w0 w ∧ AllCl [] F w := by
 refine enterK Tryz.func141 rfl Tryz.ntmps141 rfl ?_
 have hI := Bun.start hF hc
 clear hc
 rw [m_expr_depth_b] at h
 refine sr (l_box (v := (Value.agg (AExpr e1 a1 c1 a2 c2 a3 c3))) (cs := (AExpr e1 a1 c1 a2 c2 a3 c3)) hI gn rfl rfl et rfl ?_)
 clear hI; intro b1 c4 w1 hI
 obtain ⟨c5, hI⟩ := hI.relBox .z
 refine T ?_
 refine c_seq (T ?_)
 refine cif h et (fun hb h => ?_) (fun hb h => ?_)
 ·refine T ?_
  refine c_ret ?_
  obtain rfl := some_inj h
  exact QF hI
 refine T ?_
 refine c_seq (T ?_)
 refine c_loop (α := Nat × Int × Int) (fun x => fun w => ∃ C, Bun noM F w0 C w [] [Cl.sl cGExpr a3 c3 e1.Args] ∧ m_expr_depth_l1 e1 rec_ limit1 (x.1) (x.2.1) (x.2.2) = some r) (fun x _ => x.1) (fun x => [(1, vi limit1), (5, vi (x.2.1)), (12, vs a3 e1.Args.length c3), (13, vi (e1.Args.length : Int)), (14, vi (x.2.2))]) (fu, 1, 0) ⟨_, hI.arr .n ⟨(.s (.s (.s .z))), trivial⟩, h⟩ SB ?_
 clear h hI; rintro ⟨fuel1, d1, i1⟩ w2 ⟨c6, hI, h⟩
 dsimp only at hI h
 rcases fuel1 with _ | fuel1
 ·rw [m_expr_depth_l1] at h; cases h
 rw [m_expr_depth_l1] at h
 refine c_sub (e := [(1, vi limit1), (5, vi d1), (12, vs a3 e1.Args.length c3), (13, vi (e1.Args.length : Int)), (14, vi i1)]) SB ?_
 refine T ?_
 refine c_seq (cif h et (fun hb h => ?_) (fun hb h => ?_))
 ·refine T ?_
  refine c_seq (T ?_)
  obtain ⟨e2, hx1, h⟩ := bnd_some h
  obtain ⟨ad1, cs1, hA1, hr1, hq1⟩ := hI.clat .z hx1
  obtain ⟨a4, c7, a5, c8, a6, c9, rfl, hf1, hf2, hf3⟩ := cGExpr_out hr1
  have hI := hI.add (c := Cl.sl cGMono a4 c7 e2.Lin.L) hf1
  have hI := hI.add (c := Cl.sl cGIndex a5 c8 e2.Idx) hf2
  have hI := hI.add (c := Cl.sl cGExpr a6 c9 e2.Args) hf3
  refine sI ?_
  refine T ?_
  refine l_alloc (cs := #[vi 0, (str ([] : List UInt8)), vi 0, vi 0, vi 0, vi 0, vi 0, vi 0, vi 0, vi 0, vs none 0 0, vs none 0 0, vs none 0 0]) hI gn rfl rfl zero_39 rfl ?_
  clear hI; intro b2 c10 w3 hI
  refine l_store (new := (lExpr e2 a4 c7 a5 c8 a6 c9)) (cs' := (AExpr e2 a4 c7 a5 c8 a6 c9)) hI .z gn rfl rfl et et rfl size_39 rfl rfl rfl ?_
  clear hI; intro c11 w4 hI
  refine T ?_
  obtain ⟨r1, hx2, h⟩ := bnd_some h
  refine s_call gn rfl (r_callF (vs := [(Value.agg (AExpr e2 a4 c7 a5 c8 a6 c9)), (vi (wi64 (limit1 - 1)))]) rfl ok_141 ⟨et, ⟨et, trivial⟩⟩) (Calls.mono (hrec (Dj F c11) w4 hI.lt e2 (wi64 (limit1 - 1)) a4 c7 a5 c8 a6 c9 ⟨(hI.get (.s (.s .z))), (hI.get (.s .z)), (hI.get .z), trivial⟩ r1 hx2) ?_)
  rintro _ w5 ⟨rfl, hx3, hl1⟩
  refine ⟨_, rfl, ?_⟩
  replace hI := (hI.ext hx3)
  refine T ?_
  refine sq (y_max rfl et et) ?_
  refine T ?_
  refine s_nil ?_
  exact k_loop (fuel1, max d1 (wi64 (1 + r1)), wi64 (i1 + 1)) SB ⟨_, hI.arr GO SU, h⟩ (Nat.lt_succ_self _)
 refine c_exit ?_
 refine k_in ?_
 refine k_same ?_
 refine T ?_
 refine c_ret ?_
 obtain rfl := some_inj h
 exact QF hI
theorem c_expr_depth_r (n : Nat) : ∀ (F : NP) (w0 : World) (hF : ∀ k, F k → k < w0.heap.size) (e1 : GExpr) (limit1 : Int) (a1 : Option Addr) (c1 : Nat) (a2 : Option Addr) (c2 : Nat) (a3 : Option Addr) (c3 : Nat) (hc : AllCl [Cl.sl cGMono a1 c1 e1.Lin.L, Cl.sl cGIndex a2 c2 e1.Idx, Cl.sl cGExpr a3 c3 e1.Args] F w0) (r : Int) (h : m_expr_depth_r n e1 limit1 = some r), Calls Tryz.prog 141 #[(Value.agg (AExpr e1 a1 c1 a2 c2 a3 c3)), vi limit1] w0 fun e w => e = .returned (vi r) ∧ Ext w0 w ∧ AllCl [] F w := by
 induction n with
 | zero => intro F w0 hF e1 limit1 a1 c1 a2 c2 a3 c3 hc r h; cases h
 | succ n ih => intro F w0 hF e1 limit1 a1 c1 a2 c2 a3 c3 hc r h; exact c_expr_depth_b (m_expr_depth_r n) ih F w0 hF e1 limit1 a1 c1 a2 c2 a3 c3 hc r h
theorem c_expr_depth (F : NP) (w0 : World) (hF : ∀ k, F k → k < w0.heap.size) (e1 : GExpr) (limit1 : Int) (a1 : Option Addr) (c1 : Nat) (a2 : Option Addr) (c2 : Nat) (a3 : Option Addr) (c3 : Nat) (hc : AllCl [Cl.sl cGMono a1 c1 e1.Lin.L, Cl.sl cGIndex a2 c2 e1.Idx, Cl.sl cGExpr a3 c3 e1.Args] F w0) (r : Int) (h : m_expr_depth e1 limit1 = some r) : Calls Tryz.prog 141 #[(Value.agg (AExpr e1 a1 c1 a2 c2 a3 c3)), vi limit1] w0 fun e w => e = .returned (vi r) ∧ Ext w0 w ∧ AllCl [] F w := c_expr_depth_r fu F w0 hF e1 limit1 a1 c1 a2 c2 a3 c3 hc r h
theorem c_expr_Depth (F : NP) (w0 : World) (hF : ∀ k, F k → k < w0.heap.size) (e1 : GExpr) (a1 : Option Addr) (c1 : Nat) (a2 : Option Addr) (c2 : Nat) (a3 : Option Addr) (c3 : Nat) (hc : AllCl [Cl.sl cGMono a1 c1 e1.Lin.L, Cl.sl cGIndex a2 c2 e1.Idx, Cl.sl cGExpr a3 c3 e1.Args] F w0) (r : Int)
  (h : m_expr_Depth e1 = some r) :
  Calls Tryz.prog 76 #[(Value.agg (AExpr e1 a1 c1 a2 c2 a3 c3))] w0 fun e w => e = .returned (vi r) ∧ Ext w0 w ∧ AllCl [] F w := by
 refine enterK Tryz.func76 rfl Tryz.ntmps76 rfl ?_
 have hI := Bun.start hF hc
 clear hc
 rw [m_expr_Depth] at h
 refine sr (l_box (v := (Value.agg (AExpr e1 a1 c1 a2 c2 a3 c3))) (cs := (AExpr e1 a1 c1 a2 c2 a3 c3)) hI gn rfl rfl et rfl ?_)
 clear hI; intro b1 c4 w1 hI
 obtain ⟨c5, hI⟩ := hI.relBox .z
 refine T ?_
 refine sq (y_loadN (l := (lExpr e1 a1 c1 a2 c2 a3 c3)) rfl et u39 rfl size_39 (hI.kblk (l := (lExpr e1 a1 c1 a2 c2 a3 c3)) .z rfl).1) ?_
 obtain ⟨r1, hx1, h⟩ := bnd_some h
 refine s_call gn rfl (r_callF (vs := [(Value.agg (AExpr e1 a1 c1 a2 c2 a3 c3)), vi 41]) rfl ok_141 ⟨et, ⟨ev_const, trivial⟩⟩) (Calls.mono (c_expr_depth (Dj F c5) w1 hI.lt e1 41 a1 c1 a2 c2 a3 c3 ⟨(hI.get (.s .z)), (hI.get (.s (.s .z))), (hI.get (.s (.s (.s .z)))), trivial⟩ r1 hx1) ?_)
 rintro _ w2 ⟨rfl, hx2, hl1⟩
 refine ⟨_, rfl, ?_⟩
 replace hI := (hI.ext hx2)
 refine T ?_
 refine c_ret ?_
 obtain rfl := some_inj h
 exact QF hI
theorem c_expr_Walk (F : NP) (w0 : World) (hF : ∀ k, F k → k < w0.heap.size) (e1 : GExpr) (a1 : Option Addr) (c1 : Nat) (a2 : Option Addr) (c2 : Nat) (a3 : Option Addr) (c3 : Nat) (hc : AllCl [Cl.sl cGMono a1 c1 e1.Lin.L, Cl.sl cGIndex a2 c2 e1.Idx, Cl.sl cGExpr a3 c3 e1.Args] F w0) (r : GExpr)
  (h : m_expr_Walk e1 = some r) :
  Calls Tryz.prog 78 #[(Value.agg (AExpr e1 a1 c1 a2 c2 a3 c3))] w0 fun e w => ∃ (b1 : Nat) (a4 : Option Addr) (c4 : Nat) (a5 : Option Addr) (c5 : Nat) (a6 : Option Addr) (c6 : Nat), e = .returned (Value.func (.func 142) #[] #[vp b1 0]) ∧ Ext w0 w ∧ AllCl [Cl.sl cGMono a4 c4 r.Lin.L, Cl.sl cGIndex a5 c5 r.Idx, Cl.sl cGExpr a6 c6 r.Args, Cl.blk b1 39 (AExpr r a4 c4 a5 c5 a6 c6)] F w := by
 refine enterK Tryz.func78 rfl Tryz.ntmps78 rfl ?_
 have hI := Bun.start hF hc
 clear hc
 rw [m_expr_Walk] at h
 refine sr (l_box (v := (Value.agg (AExpr e1 a1 c1 a2 c2 a3 c3))) (cs := (AExpr e1 a1 c1 a2 c2 a3 c3)) hI gn rfl rfl et rfl ?_)
 clear hI; intro b2 c7 w1 hI
 obtain ⟨c8, hI⟩ := hI.relBox .z
 refine T ?_
 refine sq (y_makeFunc (vs := []) (cap := [vp b2 0]) rfl rfl ⟨et, trivial⟩) ?_
 refine T ?_
 refine c_ret ?_
 obtain rfl := some_inj h
 refine QG ?_
 exact ⟨b2, a1, c1, a2, c2, a3, c3, rfl, hI.ext0, hI.fin ⟨(.s .z), (.s (.s .z)), (.s (.s (.s .z))), .z, trivial⟩⟩
theorem c_expr_walk_s_b {σ : Type} (I : StI σ) (rec_ : (GExpr → (GExpr → σ → Option (Bool × σ)) → σ → Option (Bool × σ))) (hrec : ∀ (C0 F : NP) (w0 : World) (e1 : GExpr) (yield1 : (GExpr → σ → Option (Bool × σ))) (s1 : σ) (a1 : Option Addr) (c1 : Nat) (a2 : Option Addr) (c2 : Nat) (a3 : Option Addr) (c3 : Nat) (fv1 : Value) (hI : Bun C0 F w0 C0 w0 [MO.st I s1] [Cl.sl cGMono a1 c1 e1.Lin.L, Cl.sl cGIndex a2 c2 e1.Idx, Cl.sl cGExpr a3 c3 e1.Args, clFnS_k5 I fv1 yield1]) (r : Bool × σ) (h : rec_ e1 yield1 s1 = some r), Calls Tryz.prog 143 #[(Value.agg (AExpr e1 a1 c1 a2 c2 a3 c3)), fv1] w0 fun e w => ∃ (C : NP), e = .returned (vb r.1) ∧ Bun C0 F w0 C w [MO.st I r.2] [])
  (C0 F : NP) (w0 : World) (e1 : GExpr) (yield1 : (GExpr → σ → Option (Bool × σ))) (s1 : σ) (a1 : Option Addr) (c1 : Nat) (a2 : Option Addr) (c2 : Nat) (a3 : Option Addr) (c3 : Nat) (fv1 : Value) (hI : Bun C0 F w0 C0 w0 [MO.st I s1] [Cl.sl cGMono a1 c1 e1.Lin.L, Cl.sl cGIndex a2 c2 e1.Idx, Cl.sl cGExpr a3 c3 e1.Args, clFnS_k5 I fv1 yield1]) (r : Bool × σ) (h : m_expr_walk_s_b rec_ e1 yield1 s1 = some r) : Calls Tryz.prog 143 #[(Value.agg (AExpr e1 a1 c1 a2 c2 a3 c3)), fv1] w0 fun e w => ∃ (C : NP), e = .returned (vb r.1) ∧ Bun C0 F w0 C w [MO.st I r.2] [] := by
 refine enterK Tryz.func143 rfl Tryz.ntmps143 rfl ?_
 rw [m_expr_walk_s_b] at h
 refine sr (l_box (v := (Value.agg (AExpr e1 a1 c1 a2 c2 a3 c3))) (cs := (AExpr e1 a1 c1 a2 c2 a3 c3)) hI gn rfl rfl et rfl ?_)
 clear hI; intro b1 c4 w1 hI
 obtain ⟨c5, hI⟩ := hI.relBox .z
 refine T ?_
 refine c_seq (T ?_)
 refine sq (y_loadN (l := (lExpr e1 a1 c1 a2 c2 a3 c3)) rfl et u39 rfl size_39 (hI.kblk (l := (lExpr e1 a1 c1 a2 c2 a3 c3)) .z rfl).1) ?_
 obtain ⟨⟨r1, s2⟩, hx1, h⟩ := bnd_some h
 try dsimp only at h
 obtain ⟨c6, f1, hB, hl1, hk1⟩ := hI.hands (.l .n)
 refine s_callV (args := [(Value.agg (AExpr e1 a1 c1 a2 c2 a3 c3))]) gn rfl rfl et ⟨et, trivial⟩ (CallV.mono ((hI.get (.s (.s (.s (.s .z))))).2 c6 f1 w1 (Sp.less hl1) e1 a1 c1 a2 c2 a3 c3 s1 _ (hB.subs ⟨(.s .z), (.s (.s .z)), (.s (.s (.s .z))), trivial⟩) hx1) ?_)
 rintro _ w2 ⟨c7, rfl, hB2⟩
 obtain ⟨c8, hs1, hI⟩ := hk1 _ _ _ _ hB2
 dsimp only [ca, na] at hI
 refine ⟨_, rfl, ?_⟩
 refine T ?_
 refine cif h et (fun hb h => ?_) (fun hb h => ?_)
 ·refine T ?_
  refine c_ret ?_
  obtain rfl := some_inj h
  refine QG ?_
  exact ⟨_, rfl, hI.arr GO SU⟩
 refine T ?_
 refine c_seq (T ?_)
 refine c_loop (α := Nat × Int × σ) (fun x => fun w => ∃ C, Bun C0 F w0 C w [MO.st I (x.2.2)] [clFnS_k5 I fv1 yield1, Cl.sl cGExpr a3 c3 e1.Args] ∧ m_expr_walk_s_l1 e1 rec_ yield1 (x.1) (x.2.1) (x.2.2) = some r) (fun x _ => x.1) (fun x => [(1, fv1), (12, vs a3 e1.Args.length c3), (13, vi (e1.Args.length : Int)), (14, vi (x.2.1))]) (fu, 0, s2) ⟨_, hI.arr (.c .z .n) ⟨(.s (.s (.s (.s .z)))), (.s (.s (.s .z))), trivial⟩, h⟩ SB ?_
 clear h hI; rintro ⟨fuel1, i1, s3⟩ w3 ⟨c9, hI, h⟩
 dsimp only at hI h
 rcases fuel1 with _ | fuel1
 ·rw [m_expr_walk_s_l1] at h; cases h
 rw [m_expr_walk_s_l1] at h
 refine c_sub (e := [(1, fv1), (12, vs a3 e1.Args.length c3), (13, vi (e1.Args.length : Int)), (14, vi i1)]) SB ?_
 refine T ?_
 refine c_seq (cif h et (fun hb h => ?_) (fun hb h => ?_))
 ·refine T ?_
  refine c_seq (T ?_)
  obtain ⟨e2, hx2, h⟩ := bnd_some h
  obtain ⟨ad1, cs1, hA1, hr1, hq1⟩ := hI.clat (.s .z) hx2
  obtain ⟨a4, c10, a5, c11, a6, c12, rfl, hf1, hf2, hf3⟩ := cGExpr_out hr1
  have hI := hI.add (c := Cl.sl cGMono a4 c10 e2.Lin.L) hf1
  have hI := hI.add (c := Cl.sl cGIndex a5 c11 e2.Idx) hf2
  have hI := hI.add (c := Cl.sl cGExpr a6 c12 e2.Args) hf3
  refine sI ?_
  refine T ?_
  refine l_alloc (cs := #[vi 0, (str ([] : List UInt8)), vi 0, vi 0, vi 0, vi 0, vi 0, vi 0, vi 0, vi 0, vs none 0 0, vs none 0 0, vs none 0 0]) hI gn rfl rfl zero_39 rfl ?_
  clear hI; intro b2 c13 w4 hI
  refine l_store (new := (lExpr e2 a4 c10 a5 c11 a6 c12)) (cs' := (AExpr e2 a4 c10 a5 c11 a6 c12)) hI .z gn rfl rfl et et rfl size_39 rfl rfl rfl ?_
  clear hI; intro c14 w5 hI
  refine T ?_
  obtain ⟨c15, f2, hB, hl2, hk2⟩ := hI.hands (.r (.l .n))
  obtain ⟨⟨r2, s4⟩, hx3, h⟩ := bnd_some h
  try dsimp only at h
  refine s_call gn rfl (r_callF (vs := [(Value.agg (AExpr e2 a4 c10 a5 c11 a6 c12)), fv1]) rfl ok_143 ⟨et, ⟨et, trivial⟩⟩) (Calls.mono (hrec c15 f2 w5 e2 yield1 s3 a4 c10 a5 c11 a6 c12 fv1 (hB.subs ⟨(.s (.s .z)), (.s .z), .z, (.s (.s (.s .z))), trivial⟩) _ hx3) ?_)
  rintro _ w6 ⟨c16, rfl, hB2⟩
  obtain ⟨c17, hs2, hI⟩ := hk2 _ _ _ _ hB2
  dsimp only [ca, na] at hI
  refine ⟨_, rfl, ?_⟩
  refine T ?_
  refine cif h et (fun hb h => ?_) (fun hb h => ?_)
  ·refine T ?_
   refine c_ret ?_
   obtain rfl := some_inj h
   refine QG ?_
   exact ⟨_, rfl, hI.arr GO SU⟩
  refine T ?_
  refine s_nil ?_
  exact k_loop (fuel1, wi64 (i1 + 1), s4) SB ⟨_, hI.arr GO SU, h⟩ (Nat.lt_succ_self _)
 refine c_exit ?_
 refine k_in ?_
 refine k_same ?_
 refine T ?_
 refine c_ret ?_
 obtain rfl := some_inj h
 refine QG ?_
 exact ⟨_, rfl, hI.arr GO SU⟩
theorem c_expr_walk_s_r {σ : Type} (I : StI σ) (n : Nat) : ∀ (C0 F : NP) (w0 : World) (e1 : GExpr) (yield1 : (GExpr → σ → Option (Bool × σ))) (s1 : σ) (a1 : Option Addr) (c1 : Nat) (a2 : Option Addr) (c2 : Nat) (a3 : Option Addr) (c3 : Nat) (fv1 : Value) (hI : Bun C0 F w0 C0 w0 [MO.st I s1] [Cl.sl cGMono a1 c1 e1.Lin.L, Cl.sl cGIndex a2 c2 e1.Idx, Cl.sl cGExpr a3 c3 e1.Args, clFnS_k5 I fv1 yield1]) (r : Bool × σ) (h : m_expr_walk_s_r n e1 yield1 s1 = some r), Calls Tryz.prog 143 #[(Value.agg (AExpr e1 a1 c1 a2 c2 a3 c3)), fv1] w0 fun e w => ∃ (C : NP), e = .returned (vb r.1) ∧ Bun C0 F w0 C w [MO.st I r.2] [] := by
 induction n with
 | zero => intro C0 F w0 e1 yield1 s1 a1 c1 a2 c2 a3 c3 fv1 hI r h; cases h
 | succ n ih => intro C0 F w0 e1 yield1 s1 a1 c1 a2 c2 a3 c3 fv1 hI r h; exact c_expr_walk_s_b I (m_expr_walk_s_r n) ih C0 F w0 e1 yield1 s1 a1 c1 a2 c2 a3 c3 fv1 hI r h
theorem c_expr_walk_s {σ : Type} (I : StI σ) (C0 F : NP) (w0 : World) (e1 : GExpr) (yield1 : (GExpr → σ → Option (Bool × σ))) (s1 : σ) (a1 : Option Addr) (c1 : Nat) (a2 : Option Addr) (c2 : Nat) (a3 : Option Addr) (c3 : Nat) (fv1 : Value) (hI : Bun C0 F w0 C0 w0 [MO.st I s1] [Cl.sl cGMono a1 c1 e1.Lin.L, Cl.sl cGIndex a2 c2 e1.Idx, Cl.sl cGExpr a3 c3 e1.Args, clFnS_k5 I fv1 yield1]) (r : Bool × σ) (h : m_expr_walk_s e1 yield1 s1 = some r) : Calls Tryz.prog 143 #[(Value.agg (AExpr e1 a1 c1 a2 c2 a3 c3)), fv1] w0 fun e w => ∃ (C : NP), e = .returned (vb r.1) ∧ Bun C0 F w0 C w [MO.st I r.2] [] := c_expr_walk_s_r I fu C0 F w0 e1 yield1 s1 a1 c1 a2 c2 a3 c3 fv1 hI r h
theorem c_expr_Walk_1_s {σ : Type} (I : StI σ) (C0 F : NP) (w0 : World) (yield1 : (GExpr → σ → Option (Bool × σ))) (a1 : GExpr) (s1 : σ) (fv1 : Value) (b1 : Nat) (a2 : Option Addr) (c1 : Nat) (a3 : Option Addr) (c2 : Nat) (a4 : Option Addr) (c3 : Nat) (hI : Bun C0 F w0 C0 w0 [MO.st I s1] [clFnS_k5 I fv1 yield1, Cl.sl cGMono a2 c1 a1.Lin.L, Cl.sl cGIndex a3 c2 a1.Idx, Cl.sl cGExpr a4 c3 a1.Args, Cl.blk b1 39 (AExpr a1 a2 c1 a3 c2 a4 c3)]) (r : Unit × σ)
  (h : m_expr_Walk_1_s yield1 a1 s1 = some r) :
  Calls Tryz.prog 142 #[fv1, vp b1 0] w0 fun e w => ∃ (C : NP), e = .returned (Value.tuple #[]) ∧ Bun C0 F w0 C w [MO.st I r.2] [] := by
 refine enterK Tryz.func142 rfl Tryz.ntmps142 rfl ?_
 rw [m_expr_Walk_1_s] at h
 refine T ?_
 refine sq (y_loadN (l := (lExpr a1 a2 c1 a3 c2 a4 c3)) rfl et u39 rfl size_39 (hI.kblk (l := (lExpr a1 a2 c1 a3 c2 a4 c3)) (.s (.s (.s (.s .z)))) rfl).1) ?_
 refine sm ?_
 obtain ⟨c4, f1, hB, hl1, hk1⟩ := hI.hands (.l .n)
 obtain ⟨⟨r1, s2⟩, hx1, h⟩ := bnd_some h
 try dsimp only at h
 refine s_call gn rfl (r_callF (vs := [(Value.agg (AExpr a1 a2 c1 a3 c2 a4 c3)), fv1]) rfl ok_143 ⟨et, ⟨et, trivial⟩⟩) (Calls.mono (c_expr_walk_s I c4 f1 w0 a1 yield1 s1 a2 c1 a3 c2 a4 c3 fv1 (hB.subs ⟨(.s .z), (.s (.s .z)), (.s (.s (.s .z))), .z, trivial⟩) _ hx1) ?_)
 rintro _ w1 ⟨c5, rfl, hB2⟩
 obtain ⟨c6, hs1, hI⟩ := hk1 _ _ _ _ hB2
 dsimp only [ca, na] at hI
 refine ⟨_, rfl, ?_⟩
 refine s_nil ?_
 obtain rfl := some_inj h
 refine QG ?_
 exact ⟨_, rfl, hI.arr GO SU⟩
theorem c_expr_Size (F : NP) (w0 : World) (hF : ∀ k, F k → k < w0.heap.size) (e1 : GExpr) (a1 : Option Addr) (c1 : Nat) (a2 : Option Addr) (c2 : Nat) (a3 : Option Addr) (c3 : Nat) (hc : AllCl [Cl.sl cGMono a1 c1 e1.Lin.L, Cl.sl cGIndex a2 c2 e1.Idx, Cl.sl cGExpr a3 c3 e1.Args] F w0) (r : Int)
  (h : m_expr_Size e1 = some r) :
  Calls Tryz.prog 77 #[(Value.agg (AExpr e1 a1 c1 a2 c2 a3 c3))] w0 fun e w => e = .returned (vi r) ∧ Ext w0 w ∧ AllCl [] F w := by
 refine enterK Tryz.func77 rfl Tryz.ntmps77 rfl ?_
 have hI := Bun.start hF hc
 clear hc
 rw [m_expr_Size] at h
 refine sr (l_box (v := (Value.agg (AExpr e1 a1 c1 a2 c2 a3 c3))) (cs := (AExpr e1 a1 c1 a2 c2 a3 c3)) hI gn rfl rfl et rfl ?_)
 clear hI; intro b1 c4 w1 hI
 obtain ⟨c5, hI⟩ := hI.relBox .z
 refine T ?_
 refine l_alloc (cs := #[vi 0]) hI gn rfl rfl zero_3 rfl ?_
 clear hI; intro b2 c6 w2 hI
 refine l_store (new := [vi 0]) (cs' := #[vi 0]) hI .z gn rfl rfl et ev_const rfl size_3 rfl rfl rfl ?_
 clear hI; intro c7 w3 hI
 refine nk (c_seq (sr (sq (y_loadN (l := (lExpr e1 a1 c1 a2 c2 a3 c3)) rfl et u39 rfl size_39 (hI.kblk (l := (lExpr e1 a1 c1 a2 c2 a3 c3)) .z rfl).1) ?_)))
 obtain ⟨r1, hx1, h⟩ := bnd_some h
 refine s_call gn rfl (r_callF (vs := [(Value.agg (AExpr e1 a1 c1 a2 c2 a3 c3))]) rfl ok_78 ⟨et, trivial⟩) (Calls.mono (c_expr_Walk (Dj F c7) w3 hI.lt e1 a1 c1 a2 c2 a3 c3 ⟨(hI.get (.s .z)), (hI.get (.s (.s .z))), (hI.get (.s (.s (.s .z)))), trivial⟩ r1 hx1) ?_)
 rintro _ w4 ⟨b3, a4, c8, a5, c9, a6, c10, rfl, hx2, hl1⟩
 refine ⟨_, rfl, ?_⟩
 replace hI := (hI.ext hx2).adds hl1; dsimp only [ca, na] at hI
 refine T ?_
 refine c_rangeFunc [Code.exit 0] hI et ok_142 (fun l1 q1 fn1 tm1 rc1 hrc1 c12 w6 hE1 hI => ?_)
 obtain ⟨c13, f1, hB, hl2, hk1⟩ := hI.hands (.l (.r (.l .n)))
 have hB : Bun c13 f1 w6 c13 w6 [MO.st (StI.loop l1 rc1 (fun (s : Int) (b : Unit) => [MO.box b2 3 #[vi s]]) (fun (s : Int) (b : Unit) => [Cl.blk b3 39 (AExpr r1 a4 c8 a5 c9 a6 c10), Cl.sl cGMono a4 c8 r1.Lin.L, Cl.sl cGIndex a5 c9 r1.Idx, Cl.sl cGExpr a6 c10 r1.Args])) (0, 0)] _ := Bun.mkst (b := ()) hB ⟨(.s (.s (.s .z))), .z, (.s .z), (.s (.s .z)), trivial⟩
 have hY1 : fnS_k5 (StI.loop l1 rc1 (fun (s : Int) (b : Unit) => [MO.box b2 3 #[vi s]]) (fun (s : Int) (b : Unit) => [Cl.blk b3 39 (AExpr r1 a4 c8 a5 c9 a6 c10), Cl.sl cGMono a4 c8 r1.Lin.L, Cl.sl cGIndex a5 c9 r1.Idx, Cl.sl cGExpr a6 c10 r1.Args])) (Value.func (.yield l1) #[] #[]) (fun k_0 q => if q.1 = 0 then m_expr_Size_b1 k_0 q.2 else none) (Dj f1 c13) w6 := by
  refine ⟨rfl, fun C0 F w0 _ => ?_⟩
  rintro y1 a7 c14 a8 c15 a9 c16 ⟨o_, n1⟩ r hB h
  replace h : o_ = 0 ∧ m_expr_Size_b1 y1 n1 = some r := chk_some h
  have ho_ := h.1; subst ho_; replace h := h.2
  rw [m_expr_Size_b1] at h
  obtain ⟨_, hI⟩ := Bun.unst hB
  subst hrc1
  dsimp only [ca, na] at hI
  clear hB
  refine callV_yield hI rfl (has_round1 (hE1 ⟨12, []⟩ rfl rfl)) ?_
  refine c_skip (k_begin hI .z (fun c17 w7 hI => ?_))
  refine T ?_
  refine l_store (new := [(vi (wi64 (n1 + 1)))]) (cs' := #[(vi (wi64 (n1 + 1)))]) hI (.s .z) gn rfl rfl et et rfl size_3 rfl rfl rfl ?_
  clear hI; intro c18 w8 hI
  refine T ?_
  refine cif h et (fun hb h => ?_) (fun hb h => ?_)
  ·refine c_exit ?_
   refine k_out rfl ?_
   obtain rfl := some_inj h
   exact fun _ _ => k_round (js := [Code.exit 0]) (oS := (fun (s : Int) (b : Unit) => [MO.box b2 3 #[vi s]])) (cS := (fun (s : Int) (b : Unit) => [Cl.blk b3 39 (AExpr r1 a4 c8 a5 c9 a6 c10), Cl.sl cGMono a4 c8 r1.Lin.L, Cl.sl cGIndex a5 c9 r1.Idx, Cl.sl cGExpr a6 c10 r1.Args])) (out := 1) (s := (wi64 (n1 + 1))) (b := ()) (hI.arr (.c .z (.c .z .n)) ⟨.z, (.s .z), (.s (.s .z)), (.s (.s (.s .z))), trivial⟩) rfl (fun C w hB => ⟨C, rfl, hB⟩)
  refine c_skip ?_
  obtain rfl := some_inj h
  exact fun _ _ => k_round (js := [Code.exit 0]) (oS := (fun (s : Int) (b : Unit) => [MO.box b2 3 #[vi s]])) (cS := (fun (s : Int) (b : Unit) => [Cl.blk b3 39 (AExpr r1 a4 c8 a5 c9 a6 c10), Cl.sl cGMono a4 c8 r1.Lin.L, Cl.sl cGIndex a5 c9 r1.Idx, Cl.sl cGExpr a6 c10 r1.Args])) (out := 0) (s := (wi64 (n1 + 1))) (b := ()) (hI.arr (.c .z (.c .z .n)) ⟨.z, (.s .z), (.s (.s .z)), (.s (.s (.s .z))), trivial⟩) rfl (fun C w hB => ⟨C, rfl, hB⟩)
 obtain ⟨⟨u1, o1, n2⟩, hx3, h⟩ := bnd_some h
 try dsimp only at h
 refine Calls.mono (c_expr_Walk_1_s (StI.loop l1 rc1 (fun (s : Int) (b : Unit) => [MO.box b2 3 #[vi s]]) (fun (s : Int) (b : Unit) => [Cl.blk b3 39 (AExpr r1 a4 c8 a5 c9 a6 c10), Cl.sl cGMono a4 c8 r1.Lin.L, Cl.sl cGIndex a5 c9 r1.Idx, Cl.sl cGExpr a6 c10 r1.Args])) c13 f1 w6 (fun k_0 q => if q.1 = 0 then m_expr_Size_b1 k_0 q.2 else none) r1 (0, 0) (Value.func (.yield l1) #[] #[]) b3 a4 c8 a5 c9 a6 c10 ((hB.add (c := clFnS_k5 (StI.loop l1 rc1 (fun (s : Int) (b : Unit) => [MO.box b2 3 #[vi s]]) (fun (s : Int) (b : Unit) => [Cl.blk b3 39 (AExpr r1 a4 c8 a5 c9 a6 c10), Cl.sl cGMono a4 c8 r1.Lin.L, Cl.sl cGIndex a5 c9 r1.Idx, Cl.sl cGExpr a6 c10 r1.Args])) (Value.func (.yield l1) #[] #[]) (fun k_0 q => if q.1 = 0 then m_expr_Size_b1 k_0 q.2 else none)) hY1).subs ⟨.z, (.s .z), (.s (.s .z)), (.s (.s (.s .z))), (.s (.s (.s (.s .z)))), trivial⟩) _ hx3) ?_
 rintro _ w10 ⟨c20, rfl, hB2⟩
 obtain ⟨_, hB2⟩ := Bun.unst hB2
 subst hrc1
 obtain ⟨c21, hs1, hI⟩ := hk1 _ _ _ _ hB2
 dsimp only [ca, na] at hI
 refine ⟨_, rfl, k_endLoop hI .z (fun c22 w11 hI => ?_)⟩
 by_cases hz1 : o1 = 0
 ·subst hz1; rw [if_pos rfl] at h
  refine k_same ?_
  refine T ?_
  refine c_ret ?_
  obtain ⟨w12, hs2, c23, hI⟩ : ∃ w2, Shuts Tryz.prog [q1] w11 w2 ∧ ∃ C, Bun noM F w0 C w2 [MO.obj l1 _, MO.box b2 3 #[vi n2], MO.obj q1 (.deferred none)] [Cl.blk b3 39 (AExpr r1 a4 c8 a5 c9 a6 c10), Cl.sl cGMono a4 c8 r1.Lin.L, Cl.sl cGIndex a5 c9 r1.Idx, Cl.sl cGExpr a6 c10 r1.Args, Cl.sl cGMono a4 c8 r1.Lin.L, Cl.sl cGIndex a5 c9 r1.Idx, Cl.sl cGExpr a6 c10 r1.Args, Cl.blk b3 39 (AExpr r1 a4 c8 a5 c9 a6 c10), Cl.blk b1 39 (AExpr e1 a1 c1 a2 c2 a3 c3), Cl.sl cGMono a1 c1 e1.Lin.L, Cl.sl cGIndex a2 c2 e1.Idx, Cl.sl cGExpr a3 c3 e1.Args] := hI.shut (.s (.s .z)) fun C w hI => shut_nil ⟨_, hI⟩
  obtain rfl := some_inj h
  exact q_retS (vs := [vi n2]) hs2 Tryz.results77 ⟨ev_tmp rfl rfl, trivial⟩ (fq hI trivial)
 rw [if_neg hz1] at h
 by_cases hz2 : o1 = 1
 ·subst hz2; rw [if_pos rfl] at h
  refine c_exit ?_
  refine k_in ?_
  refine k_same ?_
  refine T ?_
  refine c_ret ?_
  obtain ⟨w13, hs3, c24, hI⟩ : ∃ w2, Shuts Tryz.prog [q1] w11 w2 ∧ ∃ C, Bun noM F w0 C w2 [MO.obj l1 _, MO.box b2 3 #[vi n2], MO.obj q1 (.deferred none)] [Cl.blk b3 39 (AExpr r1 a4 c8 a5 c9 a6 c10), Cl.sl cGMono a4 c8 r1.Lin.L, Cl.sl cGIndex a5 c9 r1.Idx, Cl.sl cGExpr a6 c10 r1.Args, Cl.sl cGMono a4 c8 r1.Lin.L, Cl.sl cGIndex a5 c9 r1.Idx, Cl.sl cGExpr a6 c10 r1.Args, Cl.blk b3 39 (AExpr r1 a4 c8 a5 c9 a6 c10), Cl.blk b1 39 (AExpr e1 a1 c1 a2 c2 a3 c3), Cl.sl cGMono a1 c1 e1.Lin.L, Cl.sl cGIndex a2 c2 e1.Idx, Cl.sl cGExpr a3 c3 e1.Args] := hI.shut (.s (.s .z)) fun C w hI => shut_nil ⟨_, hI⟩
  obtain rfl := some_inj h
  exact q_retS (vs := [vi n2]) hs3 Tryz.results77 ⟨ev_tmp rfl rfl, trivial⟩ (fq hI trivial)
 rw [if_neg hz2] at h
 cases h
theorem c_expr_isZero (F : NP) (w0 : World) (hF : ∀ k, F k → k < w0.heap.size) (l1 : GLin) (a1 : Option Addr) (c1 : Nat) (hc : AllCl [Cl.sl cGMono a1 c1 l1.L] F w0) (r : Bool)
  (h : m_expr_isZero l1 = some r) :
  Calls Tryz.prog 195 #[(Value.agg (ALin l1 a1 c1))] w0 fun e w => e = .returned (vb r) ∧ Ext w0 w ∧ AllCl [] F w := by
 refine enterK Tryz.func195 rfl Tryz.ntmps195 rfl ?_
 have hI := Bun.start hF hc
 clear hc
 rw [m_expr_isZero] at h
 refine sr (l_box (v := (Value.agg (ALin l1 a1 c1))) (cs := (ALin l1 a1 c1)) hI gn rfl rfl et rfl ?_)
 clear hI; intro b1 c2 w1 hI
 obtain ⟨c3, hI⟩ := hI.relBox .z
 refine T ?_
 refine c_ret ?_
 obtain rfl := some_inj h
 exact QF hI
theorem c_slices_IndexFunc_api_Index_api_Index (F : NP) (w0 : World) (hF : ∀ k, F k → k < w0.heap.size) (s1 : List GIndex) (f1 : (GIndex → Option Bool)) (a1 : Option Addr) (c1 : Nat) (fv1 : Value) (hc : AllCl [Cl.sl cGIndex a1 c1 s1, clFn_k6 fv1 f1] F w0) (r : Int)
  (h : m_slices_IndexFunc_api_Index_api_Index s1 f1 = some r) :
  Calls Tryz.prog 228 #[vs a1 s1.length c1, fv1] w0 fun e w => e = .returned (vi r) ∧ Ext w0 w ∧ AllCl [] F w := by
 refine enterK Tryz.func228 rfl Tryz.ntmps228 rfl ?_
 have hI := Bun.start hF hc
 clear hc
 rw [m_slices_IndexFunc_api_Index_api_Index] at h
 refine T ?_
 refine c_seq (T ?_)
 refine c_loop (α := Nat × Int) (fun x => fun w => ∃ C, Bun noM F w0 C w [] [Cl.sl cGIndex a1 c1 s1, clFn_k6 fv1 f1] ∧ m_slices_IndexFunc_api_Index_api_Index_l1 s1 f1 (x.1) (x.2) = some r) (fun x _ => x.1) (fun x => [(0, vs a1 s1.length c1), (1, fv1), (7, vi (s1.length : Int)), (8, vi (x.2))]) (fu, 0) ⟨_, hI.arr .n ⟨.z, (.s .z), trivial⟩, h⟩ SB ?_
 clear h hI; rintro ⟨fuel1, i1⟩ w1 ⟨c2, hI, h⟩
 dsimp only at hI h
 rcases fuel1 with _ | fuel1
 ·rw [m_slices_IndexFunc_api_Index_api_Index_l1] at h; cases h
 rw [m_slices_IndexFunc_api_Index_api_Index_l1] at h
 refine c_sub (e := [(0, vs a1 s1.length c1), (1, fv1), (7, vi (s1.length : Int)), (8, vi i1)]) SB ?_
 refine T ?_
 refine c_seq (cif h et (fun hb h => ?_) (fun hb h => ?_))
 ·refine T ?_
  refine c_seq (T ?_)
  obtain ⟨e1, hx1, h⟩ := bnd_some h
  obtain ⟨ad1, cs1, hA1, hr1, hq1⟩ := hI.clat .z hx1
  obtain ⟨a2, c3, a3, c4, rfl, hf1, hf2⟩ := hr1
  have hI := hI.add (c := Cl.sl cGMono a2 c3 e1.Lin.L) hf1
  have hI := hI.add (c := Cl.sl cGLin a3 c4 e1.At) hf2
  refine sI ?_
  refine T ?_
  obtain ⟨r1, hx2, h⟩ := bnd_some h
  refine s_callV (args := [(Value.agg (AIndex e1 a2 c3 a3 c4))]) gn rfl rfl et ⟨et, trivial⟩ (CallV.mono ((hI.get (.s (.s (.s .z)))).2 (Dj F c2) w1 (Sp.of_ext .rfl') hI.lt e1 a2 c3 a3 c4 r1 ⟨(hI.get (.s .z)), (hI.get .z), trivial⟩ hx2) ?_)
  rintro _ w2 ⟨rfl, hx3, hl1⟩
  refine ⟨_, rfl, ?_⟩
  replace hI := (hI.ext hx3)
  refine nk (cif h et (fun hb h => ?_) (fun hb h => ?_))
  ·refine T ?_
   refine c_ret ?_
   obtain rfl := some_inj h
   exact QF hI
  refine T ?_
  refine s_nil ?_
  exact k_loop (fuel1, wi64 (i1 + 1)) SB ⟨_, hI.arr GO SU, h⟩ (Nat.lt_succ_self _)
 refine c_exit ?_
 refine k_in ?_
 refine k_same ?_
 refine T ?_
 refine c_ret ?_
 obtain rfl := some_inj h
 exact QF hI
theorem c_slices_ContainsFunc_api_Index_api_Index (F : NP) (w0 : World) (hF : ∀ k, F k → k < w0.heap.size) (s1 : List GIndex) (f1 : (GIndex → Option Bool)) (a1 : Option Addr) (c1 : Nat) (fv1 : Value) (hc : AllCl [Cl.sl cGIndex a1 c1 s1, clFn_k6 fv1 f1] F w0) (r : Bool)
  (h : m_slices_ContainsFunc_api_Index_api_Index s1 f1 = some r) :
  Calls Tryz.prog 196 #[vs a1 s1.length c1, fv1] w0 fun e w => e = .returned (vb r) ∧ Ext w0 w ∧ AllCl [] F w := by
 refine enterK Tryz.func196 rfl Tryz.ntmps196 rfl ?_
 have hI := Bun.start hF hc
 clear hc
 rw [m_slices_ContainsFunc_api_Index_api_Index] at h
 refine T ?_
 obtain ⟨r1, hx1, h⟩ := bnd_some h
 refine s_call gn rfl (r_callF (vs := [vs a1 s1.length c1, fv1]) rfl ok_228 ⟨et, ⟨et, trivial⟩⟩) (Calls.mono (c_slices_IndexFunc_api_Index_api_Index (Dj F noM) w0 hI.lt s1 f1 a1 c1 fv1 ⟨(hI.get .z), (hI.get (.s .z)), trivial⟩ r1 hx1) ?_)
 rintro _ w1 ⟨rfl, hx2, hl1⟩
 refine ⟨_, rfl, ?_⟩
 replace hI := (hI.ext hx2)
 refine T ?_
 refine c_ret ?_
 obtain rfl := some_inj h
 exact QF hI
theorem c_expr_wellFormed (F : NP) (w0 : World) (hF : ∀ k, F k → k < w0.heap.size) (x1 : GIndex) (a1 : Option Addr) (c1 : Nat) (a2 : Option Addr) (c2 : Nat) (hc : AllCl [Cl.sl cGMono a1 c1 x1.Lin.L, Cl.sl cGLin a2 c2 x1.At] F w0) (r : Bool)
  (h : m_expr_wellFormed x1 = some r) :
  Calls Tryz.prog 198 #[(Value.agg (AIndex x1 a1 c1 a2 c2))] w0 fun e w => e = .returned (vb r) ∧ Ext w0 w ∧ AllCl [] F w := by
 refine enterK Tryz.func198 rfl Tryz.ntmps198 rfl ?_
 have hI := Bun.start hF hc
 clear hc
 rw [m_expr_wellFormed] at h
 refine sr (l_box (v := (Value.agg (AIndex x1 a1 c1 a2 c2))) (cs := (AIndex x1 a1 c1 a2 c2)) hI gn rfl rfl et rfl ?_)
 clear hI; intro b1 c3 w1 hI
 obtain ⟨c4, hI⟩ := hI.relBox .z
 refine T ?_
 refine c_seq (T ?_)
 refine cif h et (fun hb h => ?_) (fun hb h => ?_)
 ·refine T ?_
  refine c_ret ?_
  obtain rfl := some_inj h
  exact QF hI
 refine T ?_
 refine sq (y_loadN (l := (lLin x1.Lin a1 c1)) rfl et u27 rfl size_27 (hI.kblk (l := (lLin x1.Lin a1 c1)) .z rfl).1) ?_
 obtain ⟨r1, hx1, h⟩ := bnd_some h
 refine s_call gn rfl (r_callF (vs := [(Value.agg (ALin x1.Lin a1 c1))]) rfl ok_195 ⟨et, trivial⟩) (Calls.mono (c_expr_isZero (Dj F c4) w1 hI.lt x1.Lin a1 c1 ⟨(hI.get (.s .z)), trivial⟩ r1 hx1) ?_)
 rintro _ w2 ⟨rfl, hx2, hl1⟩
 refine ⟨_, rfl, ?_⟩
 replace hI := (hI.ext hx2)
 refine T ?_
 refine c_ret ?_
 obtain rfl := some_inj h
 exact QF hI
theorem c_expr_syntax_1 (F : NP) (w0 : World) (hF : ∀ k, F k → k < w0.heap.size) (x1 : GIndex) (a1 : Option Addr) (c1 : Nat) (a2 : Option Addr) (c2 : Nat) (hc : AllCl [Cl.sl cGMono a1 c1 x1.Lin.L, Cl.sl cGLin a2 c2 x1.At] F w0) (r : Bool)
  (h : m_expr_syntax_1 x1 = some r) :
  Calls Tryz.prog 197 #[(Value.agg (AIndex x1 a1 c1 a2 c2))] w0 fun e w => e = .returned (vb r) ∧ Ext w0 w ∧ AllCl [] F w := by
 refine enterK Tryz.func197 rfl Tryz.ntmps197 rfl ?_
 have hI := Bun.start hF hc
 clear hc
 rw [m_expr_syntax_1] at h
 refine sr (l_box (v := (Value.agg (AIndex x1 a1 c1 a2 c2))) (cs := (AIndex x1 a1 c1 a2 c2)) hI gn rfl rfl et rfl ?_)
 clear hI; intro b1 c3 w1 hI
 obtain ⟨c4, hI⟩ := hI.relBox .z
 refine T ?_
 refine sq (y_loadN (l := (lIndex x1 a1 c1 a2 c2)) rfl et u132 rfl size_132 (hI.kblk (l := (lIndex x1 a1 c1 a2 c2)) .z rfl).1) ?_
 obtain ⟨r1, hx1, h⟩ := bnd_some h
 refine s_call gn rfl (r_callF (vs := [(Value.agg (AIndex x1 a1 c1 a2 c2))]) rfl ok_198 ⟨et, trivial⟩) (Calls.mono (c_expr_wellFormed (Dj F c4) w1 hI.lt x1 a1 c1 a2 c2 ⟨(hI.get (.s .z)), (hI.get (.s (.s .z))), trivial⟩ r1 hx1) ?_)
 rintro _ w2 ⟨rfl, hx2, hl1⟩
 refine ⟨_, rfl, ?_⟩
 replace hI := (hI.ext hx2)
 refine T ?_
 refine c_ret ?_
 obtain rfl := some_inj h
 exact QF hI
theorem c_expr_syntax (F : NP) (w0 : World) (hF : ∀ k, F k → k < w0.heap.size) (e1 : GExpr) (a1 : Option Addr) (c1 : Nat) (a2 : Option Addr) (c2 : Nat) (a3 : Option Addr) (c3 : Nat) (hc : AllCl [Cl.sl cGMono a1 c1 e1.Lin.L, Cl.sl cGIndex a2 c2 e1.Idx, Cl.sl cGExpr a3 c3 e1.Args] F w0) (r : Bool)
  (h : m_expr_syntax e1 = some r) :
  Calls Tryz.prog 144 #[(Value.agg (AExpr e1 a1 c1 a2 c2 a3 c3))] w0 fun e w => e = .returned (vb r) ∧ Ext w0 w ∧ AllCl [] F w := by
 refine enterK Tryz.func144 rfl Tryz.ntmps144 rfl ?_
 have hI := Bun.start hF hc
 clear hc
 rw [m_expr_syntax] at h
 refine sr (l_box (v := (Value.agg (AExpr e1 a1 c1 a2 c2 a3 c3))) (cs := (AExpr e1 a1 c1 a2 c2 a3 c3)) hI gn rfl rfl et rfl ?_)
 clear hI; intro b1 c4 w1 hI
 obtain ⟨c5, hI⟩ := hI.relBox .z
 refine T ?_
 refine c_seq (c_drawX [] false (.c (0, .q) (.c (1, .q) (.c (2, .q) (.c (3, .q) (.c (4, .q) (.c (5, .q) (.c (6, .q) (.c (7, .q) (.c (8, .q) (.c (9, .q) (.c (10, .q) (.c (11, .q) (.c (12, .q) .n))))))))))))) hI (by kernel_rfl) (by kernel_rfl) ?_)
 clear hI; intro w2 hI
 refine V ?_
 refine c_seq (c_drawX [] false (.c (0, .q) (.c (1, .q) (.c (2, .q) (.c (3, .q) (.c (4, .q) (.c (5, .q) (.c (6, .q) (.c (7, .q) .n)))))))) hI (by kernel_rfl) (by kernel_rfl) ?_)
 clear hI; intro w3 hI
 refine V ?_
 refine c_seq (T ?_)
 refine cif h et (fun hb h => ?_) (fun hb h => ?_)
 ·refine T ?_
  refine c_ret ?_
  obtain rfl := some_inj h
  exact QF hI
 refine T ?_
 refine s_gval (g_true rfl rfl rfl rfl) rfl (fun hc => (y_loadN (l := (lVal e1.Val)) rfl (ev_gv et hc) u33 rfl size_33 (hI.kblk (l := (lVal e1.Val)) .z rfl).1)) ?_
 refine s_gval (g_true rfl rfl rfl rfl) rfl (fun hc => y_build (vs := []) (cs := #[vi 0, vi 0]) rfl trivial (by kernel_rfl)) ?_
 refine s_gval (g_true rfl rfl rfl rfl) rfl (fun hc => y_bin rfl (ev_gv et hc) (ev_gv et hc) (eqstruct_33n ..) (eqguard_33 ..)) ?_
 refine T ?_
 refine cif h et (fun hb h => ?_) (fun hb h => ?_)
 ·refine T ?_
  refine c_ret ?_
  obtain rfl := some_inj h
  exact QF hI
 refine T ?_
 refine s_gval (g_true rfl rfl rfl rfl) rfl (fun hc => (y_loadN (l := (lType e1.Type_)) rfl (ev_gv et hc) u35 rfl size_35 (hI.kblk (l := (lType e1.Type_)) .z rfl).1)) ?_
 refine s_gval (g_true rfl rfl rfl rfl) rfl (fun hc => y_build (vs := []) (cs := ZType) rfl trivial (by kernel_rfl)) ?_
 refine s_gval (g_true rfl rfl rfl rfl) rfl (fun hc => y_bin rfl (ev_gv et hc) (ev_gv et hc) (eqstruct_35n ..) (eqguard_35 ..)) ?_
 refine T ?_
 refine cif h et (fun hb h => ?_) (fun hb h => ?_)
 ·refine T ?_
  refine c_ret ?_
  obtain rfl := some_inj h
  exact QF hI
 refine T ?_
 refine s_gval (g_true rfl rfl rfl rfl) rfl (fun hc => (y_loadN (l := (lLin e1.Lin a1 c1)) rfl (ev_gv et hc) u27 rfl size_27 (hI.kblk (l := (lLin e1.Lin a1 c1)) .z rfl).1)) ?_
 obtain ⟨r1, hx1, h⟩ := bnd_some h
 replace hx1 := gd_some hx1
 refine s_gcallU (v := (vb r1)) (g_true rfl rfl rfl rfl) rfl (fun hc => (r_callF (vs := [(Value.agg (ALin e1.Lin a1 c1))]) rfl ok_195 ⟨(ev_gv et hc), trivial⟩)) (fun hc => (c_expr_isZero (Dj F c5) w3 hI.lt e1.Lin a1 c1 ⟨(hI.get (.s .z)), trivial⟩ r1 (hx1 hc)).mono fun _ _ k => ⟨k.1, k.2.1⟩) ?_
 intro w4 hx2; replace hI := hI.ext hx2
 refine T ?_
 refine cif h et (fun hb h => ?_) (fun hb h => ?_)
 ·refine T ?_
  refine c_ret ?_
  obtain rfl := some_inj h
  exact QF hI
 refine T ?_
 refine cif h et (fun hb h => ?_) (fun hb h => ?_)
 ·refine T ?_
  refine c_ret ?_
  obtain rfl := some_inj h
  exact QF hI
 refine T ?_
 have hI := hI.add (c := clFn_k6 (Value.func (.func 197) #[] #[]) m_expr_syntax_1) ⟨rfl, fun D' w' hs hl x_1 A_2 c_3 A_4 c_5 r k h => CallV.fn (cap := []) ok_197 (c_expr_syntax_1 D' w' hl x_1 A_2 c_3 A_4 c_5 ⟨k.1, k.2.1, trivial⟩ r h)⟩
 obtain ⟨r2, hx3, h⟩ := bnd_some h
 refine s_call gn rfl (r_callF (vs := [vs a2 e1.Idx.length c2, (Value.func (.func 197) #[] #[])]) rfl ok_196 ⟨et, ⟨ev_func, trivial⟩⟩) (Calls.mono (c_slices_ContainsFunc_api_Index_api_Index (Dj F c5) w4 hI.lt e1.Idx m_expr_syntax_1 a2 c2 (Value.func (.func 197) #[] #[]) ⟨(hI.get (.s (.s (.s .z)))), (hI.get .z), trivial⟩ r2 hx3) ?_)
 rintro _ w5 ⟨rfl, hx4, hl2⟩
 refine ⟨_, rfl, ?_⟩
 replace hI := (hI.ext hx4)
 refine T ?_
 refine c_ret ?_
 obtain rfl := some_inj h
 exact QF hI
theorem c_expr_names_1 (F : NP) (w0 : World) (hF : ∀ k, F k → k < w0.heap.size) (x1 : GIndex) (a1 : Option Addr) (c1 : Nat) (a2 : Option Addr) (c2 : Nat) (hc : AllCl [Cl.sl cGMono a1 c1 x1.Lin.L, Cl.sl cGLin a2 c2 x1.At, clSpace] F w0) (r : Bool)
  (h : m_expr_names_1 x1 = some r) :
  Calls Tryz.prog 199 #[(Value.agg (AIndex x1 a1 c1 a2 c2))] w0 fun e w => e = .returned (vb r) ∧ Ext w0 w ∧ AllCl [] F w := by
 refine enterK Tryz.func199 rfl Tryz.ntmps199 rfl ?_
 have hI := Bun.start hF hc
 clear hc
 rw [m_expr_names_1] at h
 refine sr (l_box (v := (Value.agg (AIndex x1 a1 c1 a2 c2))) (cs := (AIndex x1 a1 c1 a2 c2)) hI gn rfl rfl et rfl ?_)
 clear hI; intro b1 c3 w1 hI
 obtain ⟨c4, hI⟩ := hI.relBox .z
 refine T ?_
 obtain ⟨r1, hx1, h⟩ := bnd_some h
 replace hx1 := gd_some hx1
 refine s_gcallU (v := (vb r1)) (g_true rfl rfl rfl rfl) rfl (fun hc => (r_callF (vs := [(str x1.From)]) rfl ok_185 ⟨(ev_gv et hc), trivial⟩)) (fun hc => (c_lexer_IsName (Dj F c4) w1 hI.lt x1.From ⟨(hI.get (.s (.s (.s .z)))), trivial⟩ r1 (hx1 hc)).mono fun _ _ k => ⟨k.1, k.2.1⟩) ?_
 intro w2 hx2; replace hI := hI.ext hx2
 refine T ?_
 refine c_ret ?_
 obtain rfl := some_inj h
 exact QF hI
theorem c_expr_names (F : NP) (w0 : World) (hF : ∀ k, F k → k < w0.heap.size) (e1 : GExpr) (a1 : Option Addr) (c1 : Nat) (a2 : Option Addr) (c2 : Nat) (a3 : Option Addr) (c3 : Nat) (hc : AllCl [Cl.sl cGMono a1 c1 e1.Lin.L, Cl.sl cGIndex a2 c2 e1.Idx, Cl.sl cGExpr a3 c3 e1.Args, clSpace] F w0) (r : Bool)
  (h : m_expr_names e1 = some r) :
  Calls Tryz.prog 145 #[(Value.agg (AExpr e1 a1 c1 a2 c2 a3 c3))] w0 fun e w => e = .returned (vb r) ∧ Ext w0 w ∧ AllCl [] F w := by
 refine enterK Tryz.func145 rfl Tryz.ntmps145 rfl ?_
 have hI := Bun.start hF hc
 clear hc
 rw [m_expr_names] at h
 refine sr (l_box (v := (Value.agg (AExpr e1 a1 c1 a2 c2 a3 c3))) (cs := (AExpr e1 a1 c1 a2 c2 a3 c3)) hI gn rfl rfl et rfl ?_)
 clear hI; intro b1 c4 w1 hI
 obtain ⟨c5, hI⟩ := hI.relBox .z
 refine T ?_
 refine c_seq (T ?_)
 obtain ⟨r1, hx1, h⟩ := bnd_some h
 replace hx1 := gd_some hx1
 refine s_gcallU (v := (vb r1)) (g_true rfl rfl rfl rfl) rfl (fun hc => (r_callF (vs := [(str e1.Name)]) rfl ok_185 ⟨(ev_gv et hc), trivial⟩)) (fun hc => (c_lexer_IsName (Dj F c5) w1 hI.lt e1.Name ⟨(hI.get (.s (.s (.s (.s .z))))), trivial⟩ r1 (hx1 hc)).mono fun _ _ k => ⟨k.1, k.2.1⟩) ?_
 intro w2 hx2; replace hI := hI.ext hx2
 refine T ?_
 refine cif h et (fun hb h => ?_) (fun hb h => ?_)
 ·refine T ?_
  refine c_ret ?_
  obtain rfl := some_inj h
  exact QF hI
 refine T ?_
 have hI := hI.add (c := clFn_k6 (Value.func (.func 199) #[] #[]) m_expr_names_1) ⟨rfl, fun D' w' hs hl x_1 A_2 c_3 A_4 c_5 r k h => CallV.fn (cap := []) ok_199 (c_expr_names_1 D' w' hl x_1 A_2 c_3 A_4 c_5 ⟨k.1, k.2.1, (Cl.sp _ hs (hI.get (.s (.s (.s (.s .z)))))), trivial⟩ r h)⟩
 obtain ⟨r2, hx3, h⟩ := bnd_some h
 refine s_call gn rfl (r_callF (vs := [vs a2 e1.Idx.length c2, (Value.func (.func 199) #[] #[])]) rfl ok_196 ⟨et, ⟨ev_func, trivial⟩⟩) (Calls.mono (c_slices_ContainsFunc_api_Index_api_Index (Dj F c5) w2 hI.lt e1.Idx m_expr_names_1 a2 c2 (Value.func (.func 199) #[] #[]) ⟨(hI.get (.s (.s (.s .z)))), (hI.get .z), trivial⟩ r2 hx3) ?_)
 rintro _ w3 ⟨rfl, hx4, hl2⟩
 refine ⟨_, rfl, ?_⟩
 replace hI := (hI.ext hx4)
 refine T ?_
 refine c_ret ?_
 obtain rfl := some_inj h
 exact QF hI
end Go.Proofs.YtmhoikfoogemnaaGreatDoor
