import Derived.Test.YtmhoikfoogemnaaGreatDoorSCQ1e
import Derived.Test.YtmhoikfoogemnaaGreatDoorSLfW
namespace Go.Proofs.YtmhoikfoogemnaaGreatDoor
open Go Go.RowKit Go.Vc
set_option maxRecDepth 100000
set_option maxHeartbeats 4000000
set_option linter.unusedVariables false
set_option linter.unusedSimpArgs false
theorem c_ref05_Coeff (F : NP) (w0 : World) (hF : ∀ k, F k → k < w0.heap.size) (l1 : GLin) (name1 : List UInt8) (a1 : Option Addr) (c1 : Nat) (hc : AllCl [Cl.sl cGMono a1 c1 l1.L] F w0) (r : Int)
  (h : m_ref05_Coeff l1 name1 = some r) :
  Calls Tryz.prog 192 #[(Value.agg (ALin l1 a1 c1)), (str name1)] w0 fun e w => e = .returned (vi r) ∧ Ext w0 w ∧ AllCl [] F w := by
 refine enterK Tryz.func192 rfl Tryz.ntmps192 rfl ?_
 have hI := Bun.start hF hc
 clear hc
 rw [m_ref05_Coeff] at h
 refine sr (l_box (v := (Value.agg (ALin l1 a1 c1))) (cs := (ALin l1 a1 c1)) hI gn rfl rfl et rfl ?_)
 clear hI; intro b1 c2 w1 hI
 obtain ⟨c3, hI⟩ := hI.relBox .z
 refine T ?_
 refine c_seq (T ?_)
 refine c_loop (α := Nat × Int) (fun x => fun w => ∃ C, Bun noM F w0 C w [] [Cl.blk b1 27 (ALin l1 a1 c1), Cl.sl cGMono a1 c1 l1.L] ∧ m_ref05_Coeff_l1 l1 name1 (x.1) (x.2) = some r) (fun x _ => x.1) (fun x => [(1, (str name1)), (2, vp b1 0), (5, vi (x.2))]) (fu, 0) ⟨_, hI.arr .n ⟨.z, (.s .z), trivial⟩, h⟩ SB ?_
 clear h hI; rintro ⟨fuel1, i1⟩ w2 ⟨c4, hI, h⟩
 dsimp only at hI h
 rcases fuel1 with _ | fuel1
 ·rw [m_ref05_Coeff_l1] at h; cases h
 rw [m_ref05_Coeff_l1] at h
 refine c_sub (e := [(1, (str name1)), (2, vp b1 0), (5, vi i1)]) SB ?_
 refine c_seq (T ?_)
 refine cif h et (fun hb h => ?_) (fun hb h => ?_)
 ·refine T ?_
  refine c_seq (T ?_)
  obtain ⟨e1, hx1, h⟩ := bnd_some h
  obtain ⟨ad1, cs1, hA1, hr1, hq1⟩ := hI.clat (.s .z) hx1
  obtain rfl : cs1 = (lMono e1) := hr1
  refine sI ?_
  refine T ?_
  refine cif h et (fun hb h => ?_) (fun hb h => ?_)
  ·refine T ?_
   obtain ⟨e2, hx2, h⟩ := bnd_some h
   obtain ⟨ad2, cs2, hA2, hr2, hq2⟩ := hI.clat (.s .z) hx2
   obtain rfl : cs2 = (lMono e2) := hr2
   refine sI ?_
   refine T ?_
   refine c_ret ?_
   obtain rfl := some_inj h
   exact QF hI
  refine T ?_
  refine s_nil ?_
  exact k_loop (fuel1, wi64 (i1 + 1)) SB ⟨_, hI.arr GO SU, h⟩ (Nat.lt_succ_self _)
 refine c_exit ?_
 refine k_in ?_
 refine k_same ?_
 refine T ?_
 refine c_ret ?_
 obtain rfl := some_inj h
 exact QF hI
theorem c_ref05_Add (F : NP) (w0 : World) (hF : ∀ k, F k → k < w0.heap.size) (a1 : GLin) (b1 : GLin) (a2 : Option Addr) (c1 : Nat) (a3 : Option Addr) (c2 : Nat) (hc : AllCl [Cl.sl cGMono a2 c1 a1.L, Cl.sl cGMono a3 c2 b1.L] F w0) (r : GLin × Int)
  (h : m_ref05_Add a1 b1 = some r) :
  Calls Tryz.prog 139 #[(Value.agg (ALin a1 a2 c1)), (Value.agg (ALin b1 a3 c2))] w0 fun e w => ∃ (a4 : Option Addr) (c3 : Nat), e = .returned (Value.tuple #[(Value.agg (ALin r.1 a4 c3)), vi r.2]) ∧ Ext w0 w ∧ AllCl [Cl.sl cGMono a4 c3 r.1.L] F w := by
 refine enterK Tryz.func139 rfl Tryz.ntmps139 rfl ?_
 have hI := Bun.start hF hc
 clear hc
 rw [m_ref05_Add] at h
 refine sr (l_box (v := (Value.agg (ALin a1 a2 c1))) (cs := (ALin a1 a2 c1)) hI gn rfl rfl et rfl ?_)
 clear hI; intro b2 c4 w1 hI
 obtain ⟨c5, hI⟩ := hI.relBox .z
 refine l_box (v := (Value.agg (ALin b1 a3 c2))) (cs := (ALin b1 a3 c2)) hI gn rfl rfl et rfl ?_
 clear hI; intro b3 c6 w2 hI
 obtain ⟨c7, hI⟩ := hI.relBox .z
 refine l_alloc (cs := #[vi 0, vs none 0 0]) hI gn rfl rfl zero_27 rfl ?_
 clear hI; intro b4 c8 w3 hI
 refine T ?_
 refine c_seq (sr (sq (y_loadN (l := (lLin a1 a2 c1)) rfl et u27 rfl size_27 (hI.kblk (l := (lLin a1 a2 c1)) (.s .z) rfl).1) ?_))
 obtain ⟨r1, hx1, h⟩ := bnd_some h
 refine s_call gn rfl (r_callF (vs := [(Value.agg (ALin a1 a2 c1))]) rfl ok_170 ⟨et, trivial⟩) (Calls.mono (c_ref05_Validate (Dj F c8) w3 hI.lt a1 a2 c1 ⟨(hI.get (.s (.s .z))), trivial⟩ r1 hx1) ?_)
 rintro _ w4 ⟨rfl, hx2, hl1⟩
 refine ⟨_, rfl, ?_⟩
 replace hI := (hI.ext hx2)
 refine T ?_
 refine s_gval (g_false rfl rfl rfl rfl) rfl (fun hc => (y_loadN (l := (lLin b1 a3 c2)) rfl et u27 rfl size_27 (hI.kblk (l := (lLin b1 a3 c2)) .z rfl).1)) ?_
 obtain ⟨r2, hx3, h⟩ := bnd_some h
 replace hx3 := gd_some hx3
 refine s_gcallU (v := (vi r2)) (g_false rfl rfl rfl rfl) rfl (fun hc => (r_callF (vs := [(Value.agg (ALin b1 a3 c2))]) rfl ok_170 ⟨(ev_gv et hc), trivial⟩)) (fun hc => (c_ref05_Validate (Dj F c8) w4 hI.lt b1 a3 c2 ⟨(hI.get (.s (.s (.s .z)))), trivial⟩ r2 (hx3 hc)).mono fun _ _ k => ⟨k.1, k.2.1⟩) ?_
 intro w5 hx4; replace hI := hI.ext hx4
 refine T ?_
 refine cif h et (fun hb h => ?_) (fun hb h => ?_)
 ·refine sr (sq (y_build (vs := []) (cs := #[vi 0, vs none 0 0]) rfl trivial (by kernel_rfl)) ?_)
  refine l_store (new := [vi 0, vs none 0 0]) (cs' := #[vi 0, vs none 0 0]) hI .z gn rfl rfl et et rfl size_27 rfl rfl rfl ?_
  clear hI; intro c9 w6 hI
  refine T ?_
  refine c_ret ?_
  have hI := hI.add (c := Cl.sl cGMono none 0 ([] : List GMono)) SlC.nil
  obtain rfl := some_inj h
  refine QG ?_
  exact ⟨none, 0, rfl, hI.ext0, hI.fin ⟨.z, trivial⟩⟩
 refine T ?_
 obtain ⟨r3, hx5, h⟩ := bnd_some h
 refine s_call gn rfl (r_callF (vs := [vi a1.K, vi b1.K]) rfl ok_190 ⟨et, ⟨et, trivial⟩⟩) (Calls.mono (c_base_Plus (Dj F c8) w5 hI.lt a1.K b1.K trivial r3 hx5) ?_)
 rintro _ w7 ⟨rfl, hx6, hl3⟩
 refine ⟨_, rfl, ?_⟩
 replace hI := (hI.ext hx6)
 refine T ?_
 refine c_seq (T ?_)
 refine cif h et (fun hb h => ?_) (fun hb h => ?_)
 ·refine sr (sq (y_build (vs := []) (cs := #[vi 0, vs none 0 0]) rfl trivial (by kernel_rfl)) ?_)
  refine l_store (new := [vi 0, vs none 0 0]) (cs' := #[vi 0, vs none 0 0]) hI .z gn rfl rfl et et rfl size_27 rfl rfl rfl ?_
  clear hI; intro c10 w8 hI
  refine T ?_
  refine c_ret ?_
  have hI := hI.add (c := Cl.sl cGMono none 0 ([] : List GMono)) SlC.nil
  obtain rfl := some_inj h
  refine QG ?_
  exact ⟨none, 0, rfl, hI.ext0, hI.fin ⟨.z, trivial⟩⟩
 refine T ?_
 refine sq (y_build (vs := [(0, vi r3.1)]) (cs := #[vi r3.1, vs none 0 0]) rfl ⟨rfl, et, trivial⟩ (by kernel_rfl)) ?_
 refine l_alloc (cs := #[vi 0, vs none 0 0]) hI gn rfl rfl zero_27 rfl ?_
 clear hI; intro b5 c11 w9 hI
 refine l_store (new := [vi r3.1, vs none 0 0]) (cs' := #[vi r3.1, vs none 0 0]) hI .z gn rfl rfl et et rfl size_27 rfl rfl rfl ?_
 clear hI; intro c12 w10 hI
 refine T ?_
 refine sq (y_loadN (l := (lLin a1 a2 c1)) rfl et u27 rfl size_27 (hI.kblk (l := (lLin a1 a2 c1)) (.s .z) rfl).1) ?_
 refine sq (y_loadN (l := (lLin b1 a3 c2)) rfl et u27 rfl size_27 (hI.kblk (l := (lLin b1 a3 c2)) .z rfl).1) ?_
 refine l_lit (c := cGLin) (xs := ([a1, b1] : List GLin)) (vs := [(0, (Value.agg (ALin a1 a2 c1))), (1, (Value.agg (ALin b1 a3 c2)))]) (cs := #[vi a1.K, vs a2 a1.L.length c1, vi b1.K, vs a3 b1.L.length c2]) (css := [(lLin a1 a2 c1), (lLin b1 a3 c2)]) hI gn rfl rfl u93 info_27 rfl ⟨rfl, et, ⟨rfl, et, trivial⟩⟩ (by kernel_rfl) ⟨⟨a2, c1, rfl, hI.get (.s (.s .z))⟩, ⟨⟨a3, c2, rfl, hI.get (.s (.s (.s .z)))⟩, trivial⟩⟩ rfl rfl rfl ?_
 clear hI; intro b6 c13 w11 hI
 obtain ⟨c14, hI⟩ := hI.release .z
 obtain ⟨r4, hx7, h⟩ := bnd_some h
 refine s_call gn rfl (r_callF (vs := [vs (some ⟨b6, 0, none⟩) ([a1, b1] : List GLin).length 2]) rfl ok_191 ⟨et, trivial⟩) (Calls.mono (c_ref05_Names (Dj F c14) w11 hI.lt ([a1, b1] : List GLin) (some ⟨b6, 0, none⟩) 2 ⟨(hI.get .z), trivial⟩ r4 hx7) ?_)
 rintro _ w12 ⟨a5, c15, rfl, hx8, hl4⟩
 refine ⟨_, rfl, ?_⟩
 replace hI := (hI.ext hx8).adds hl4; dsimp only [ca, na] at hI
 refine T ?_
 refine c_seq (T ?_)
 have hI := hI.nil cGMono 64 none
 refine c_loop (α := Nat × Int × GLin × (Option Addr) × Nat) (fun x => fun w => ∃ C, Bun noM F w0 C w [MO.row cGMono 64 (x.2.2.2.1) (x.2.2.2.2) (x.2.2.1).L, MO.box b4 27 #[vi 0, vs none 0 0], MO.box b5 27 (ALin (x.2.2.1) (x.2.2.2.1) (x.2.2.2.2))] [Cl.blk b2 27 (ALin a1 a2 c1), Cl.sl cGMono a2 c1 a1.L, Cl.blk b3 27 (ALin b1 a3 c2), Cl.sl cGMono a3 c2 b1.L, Cl.sl cStr a5 c15 r4] ∧ m_ref05_Add_l1 r4 a1 b1 (x.1) (x.2.1) (x.2.2.1) = some r) (fun x _ => x.1) (fun x => [(2, vp b2 0), (3, vp b3 0), (4, vp b4 0), (8, vp b5 0), (9, vs a5 r4.length c15), (10, vi (x.2.1))]) (fu, 0, (⟨r3.1, ([] : List GMono)⟩ : GLin), none, 0) ⟨_, hI.arr (.c .z (.c (.s .z) (.c .z .n))) ⟨(.s (.s (.s .z))), (.s (.s (.s (.s .z)))), (.s (.s .z)), (.s (.s (.s (.s (.s .z))))), .z, trivial⟩, h⟩ SB ?_
 clear h hI; rintro ⟨fuel1, i1, out1, a6, c16⟩ w13 ⟨c17, hI, h⟩
 dsimp only at hI h
 rcases fuel1 with _ | fuel1
 ·rw [m_ref05_Add_l1] at h; cases h
 rw [m_ref05_Add_l1] at h
 refine c_sub (e := [(2, vp b2 0), (3, vp b3 0), (4, vp b4 0), (8, vp b5 0), (9, vs a5 r4.length c15), (10, vi i1)]) SB ?_
 refine c_seq (T ?_)
 refine cif h et (fun hb h => ?_) (fun hb h => ?_)
 ·refine T ?_
  refine c_join (α := GLin × (Option Addr) × Nat) (fun _ => ⟨78, []⟩) (fun x => [(2, vp b2 0), (3, vp b3 0), (4, vp b4 0), (8, vp b5 0), (9, vs a5 r4.length c15), (10, vi i1)]) (fun x => fun w => ∃ C, Bun noM F w0 C w [MO.row cGMono 64 (x.2.1) (x.2.2) (x.1).L, MO.box b4 27 #[vi 0, vs none 0 0], MO.box b5 27 (ALin (x.1) (x.2.1) (x.2.2))] [Cl.blk b2 27 (ALin a1 a2 c1), Cl.sl cGMono a2 c1 a1.L, Cl.blk b3 27 (ALin b1 a3 c2), Cl.sl cGMono a3 c2 b1.L, Cl.sl cStr a5 c15 r4] ∧ m_ref05_Add_j1 (m_ref05_Add_l1 r4 a1 b1 fuel1) i1 (x.1) = some r) ?_ ?_
  ·clear h hI; rintro ⟨out2, a7, c18⟩ w14 ⟨c19, hI, h⟩
   try dsimp only at hI h
   rw [m_ref05_Add_j1] at h
   refine c_sub (e := [(2, vp b2 0), (3, vp b3 0), (4, vp b4 0), (8, vp b5 0), (9, vs a5 r4.length c15), (10, vi i1)]) SB ?_
   refine T ?_
   refine s_nil ?_
   exact k_loop (fuel1, wi64 (i1 + 1), out2, a7, c18) SB ⟨_, hI.arr GO SU, h⟩ (Nat.lt_succ_self _)
  refine T ?_
  refine c_seq (c_drawX [] false (.c (0, .q) (.c (1, .q) (.c (2, .q) (.c (3, .q) (.c (4, .q) (.c (6, .q) (.c (7, .q) (.c (8, .q) (.c (9, .q) (.c (10, .q) (.c (5, .s) (.c (11, .s) (.c (12, .s) (.c (13, .q) (.c (14, .q) (.c (15, .q) (.c (16, .q) (.c (17, .q) .n)))))))))))))))))) hI (by kernel_rfl) (by kernel_rfl) ?_)
  clear hI; intro w15 hI
  refine a_read rfl gn rfl (fun w' hw' => (y_loadN (l := (lLin a1 a2 c1)) rfl et u27 rfl size_27 ((hI.kblk (l := (lLin a1 a2 c1)) .z rfl).at_ (SX.any rfl hw')))) (by kernel_rfl) ?_
  refine V ?_
  obtain ⟨e1, hx9, h⟩ := bnd_some h
  obtain ⟨ad1, cs1, hA1, hr1, hq1⟩ := hI.clat (.s (.s (.s (.s .z)))) hx9
  obtain rfl : cs1 = [(str e1)] := hr1
  refine vI ?_
  refine V ?_
  refine a_read rfl gn rfl (fun w' hw' => (y_loadN (l := (lLin b1 a3 c2)) rfl et u27 rfl size_27 ((hI.kblk (l := (lLin b1 a3 c2)) (.s (.s .z)) rfl).at_ (SX.any rfl hw')))) (by kernel_rfl) ?_
  refine V ?_
  obtain ⟨e2, hx10, h⟩ := bnd_some h
  obtain ⟨ad2, cs2, hA2, hr2, hq2⟩ := hI.clat (.s (.s (.s (.s .z)))) hx10
  obtain rfl : cs2 = [(str e2)] := hr2
  refine vI ?_
  refine V ?_
  obtain ⟨r5, hx11, h⟩ := bnd_some h
  refine la_call rfl gn rfl (r_callF (vs := [(Value.agg (ALin a1 a2 c1)), (str e1)]) rfl ok_192 ⟨et, ⟨et, trivial⟩⟩) (Calls.mono (c_ref05_Coeff (Dj F c17) w15 hI.lt a1 e1 a2 c1 ⟨(hI.get (.s .z)), trivial⟩ r5 hx11) ?_)
  rintro _ w16 ⟨rfl, hx12, hl5⟩
  refine ⟨_, rfl, hx12, ?_⟩
  replace hI := (hI.ext hx12)
  obtain ⟨r6, hx13, h⟩ := bnd_some h
  refine la_call rfl gn rfl (r_callF (vs := [(Value.agg (ALin b1 a3 c2)), (str e2)]) rfl ok_192 ⟨et, ⟨et, trivial⟩⟩) (Calls.mono (c_ref05_Coeff (Dj F c17) w16 hI.lt b1 e2 a3 c2 ⟨(hI.get (.s (.s (.s .z)))), trivial⟩ r6 hx13) ?_)
  rintro _ w17 ⟨rfl, hx14, hl6⟩
  refine ⟨_, rfl, hx14, ?_⟩
  replace hI := (hI.ext hx14)
  obtain ⟨r7, hx15, h⟩ := bnd_some h
  refine la_call rfl gn rfl (r_callF (vs := [vi r5, vi r6]) rfl ok_190 ⟨et, ⟨et, trivial⟩⟩) (Calls.mono (c_base_Plus (Dj F c17) w17 hI.lt r5 r6 trivial r7 hx15) ?_)
  rintro _ w18 ⟨rfl, hx16, hl7⟩
  refine ⟨_, rfl, hx16, ?_⟩
  replace hI := (hI.ext hx16)
  refine V ?_
  refine c_seq (T ?_)
  refine cif h et (fun hb h => ?_) (fun hb h => ?_)
  ·refine sr (sq (y_build (vs := []) (cs := #[vi 0, vs none 0 0]) rfl trivial (by kernel_rfl)) ?_)
   refine l_store (new := [vi 0, vs none 0 0]) (cs' := #[vi 0, vs none 0 0]) hI (.s .z) gn rfl rfl et et rfl size_27 rfl rfl rfl ?_
   clear hI; intro c20 w19 hI
   refine T ?_
   refine c_ret ?_
   have hI := hI.add (c := Cl.sl cGMono none 0 ([] : List GMono)) SlC.nil
   obtain rfl := some_inj h
   refine QG ?_
   exact ⟨none, 0, rfl, hI.ext0, hI.fin ⟨.z, trivial⟩⟩
  refine T ?_
  refine cif h et (fun hb h => ?_) (fun hb h => ?_)
  ·refine c_drawX [9, 11] false (.c (0, .q) (.c (1, .q) (.c (2, .q) (.c (3, .q) (.c (4, .q) (.c (5, .q) (.c (6, .q) (.c (7, .q) (.c (8, .s) (.c (9, .s) (.c (10, .q) (.c (11, .s) .n)))))))))))) hI (by kernel_rfl) (by kernel_rfl) ?_
   clear hI; intro w20 hI
   refine V ?_
   obtain ⟨e3, hx17, h⟩ := bnd_some h
   obtain ⟨ad3, cs3, hA3, hr3, hq3⟩ := hI.clat (.s (.s (.s (.s .z)))) hx17
   obtain rfl : cs3 = [(str e3)] := hr3
   refine vI ?_
   refine V ?_
   refine a_q rfl gn rfl (fun w' => (y_build (vs := [(0, (str e3)), (1, vi r7.1)]) (cs := #[(str e3), vi r7.1]) rfl ⟨rfl, et, ⟨rfl, et, trivial⟩⟩ (by kernel_rfl))) ?_
   refine la_lit (c := cGMono) (xs := ([(⟨e3, r7.1⟩ : GMono)] : List GMono)) (vs := [(0, (Value.agg #[(str e3), vi r7.1]))]) (cs := #[(str e3), vi r7.1]) (css := [[(str e3), vi r7.1]]) hI rfl gn rfl rfl u25 info_64 rfl ⟨rfl, et, trivial⟩ (by kernel_rfl) ⟨rfl, trivial⟩ rfl rfl rfl ?_
   clear hI; intro b7 c21 w21 hI
   refine a_turn (F := F) (C := c21) rfl rfl ?_
   obtain ⟨zs1, hx18, h⟩ := bnd_some h
   refine la_append (xs := out1.L) (ys := ([(⟨e3, r7.1⟩ : GMono)] : List GMono)) hI (.s .z) (hI.rd .z) hx18 rfl gn rfl rfl u25 info_64 rfl rfl et et ?_
   clear hI; intro a8 c22 c23 w22 hI
   refine V ?_
   refine la_store (new := [vs a8 zs1.length c22]) (cs' := #[vi out1.K, vs a8 zs1.length c22]) hI (.s (.s (.s .z))) rfl gn rfl rfl et et rfl size_25 rfl rfl rfl ?_
   clear hI; intro c24 w23 hI
   refine a_nil ?_
   exact k_join ((⟨out1.K, zs1⟩ : GLin), a8, c22) SB ⟨_, hI.arr GO SU, h⟩ rfl
  exact c_skip (k_join (out1, a6, c16) SB ⟨_, hI.arr GO SU, h⟩ rfl)
 refine c_exit ?_
 refine k_in ?_
 refine k_same ?_
 refine T ?_
 refine l_store (new := (lLin out1 a6 c16)) (cs' := (ALin out1 a6 c16)) hI (.s .z) gn rfl rfl et et rfl size_27 rfl rfl rfl ?_
 clear hI; intro c25 w24 hI
 refine T ?_
 refine c_ret ?_
 obtain ⟨c26, hI⟩ := hI.release .z
 obtain rfl := some_inj h
 refine QG ?_
 exact ⟨a6, c16, rfl, hI.ext0, hI.fin ⟨.z, trivial⟩⟩
def tr_ref16_term_1_0 : Tr := (.c (3, .s) .n)
def tr_ref16_term_2_0 : Tr := (.c (3, .s) .n)
theorem c_ref16_term (F : NP) (w0 : World) (hF : ∀ k, F k → k < w0.heap.size) (p1 : Gbrocaderef16_State) (f1 : GLin) (negative1 : Bool) (a1 : Option Addr) (c1 : Nat) (a2 : Option Addr) (c2 : Nat) (hc : AllCl [Cl.sl cGToken a1 c1 p1.L, Cl.sl cGMono a2 c2 f1.L] F w0) (r : GLin × Gbrocaderef16_State)
  (h : m_ref16_term p1 f1 negative1 = some r) :
  Calls Tryz.prog 73 #[(Value.agg (Abrocaderef16_State p1 a1 c1)), (Value.agg (ALin f1 a2 c2)), vb negative1] w0 fun e w => ∃ (a3 : Option Addr) (c3 : Nat) (a4 : Option Addr) (c4 : Nat), e = .returned (Value.tuple #[(Value.agg (ALin r.1 a3 c3)), (Value.agg (Abrocaderef16_State r.2 a4 c4))]) ∧ Ext w0 w ∧ AllCl [Cl.sl cGMono a3 c3 r.1.L, Cl.sl cGToken a4 c4 r.2.L] F w := by
 refine enterK Tryz.func73 rfl Tryz.ntmps73 rfl ?_
 have hI := Bun.start hF hc
 clear hc
 rw [m_ref16_term] at h
 refine sr (l_box (v := (Value.agg (Abrocaderef16_State p1 a1 c1))) (cs := (Abrocaderef16_State p1 a1 c1)) hI gn rfl rfl et rfl ?_)
 clear hI; intro b1 c5 w1 hI
 refine l_box (v := (Value.agg (ALin f1 a2 c2))) (cs := (ALin f1 a2 c2)) hI gn rfl rfl et rfl ?_
 clear hI; intro b2 c6 w2 hI
 obtain ⟨c7, hI⟩ := hI.relBox .z
 refine l_alloc (cs := #[vi 0, vs none 0 0]) hI gn rfl rfl zero_27 rfl ?_
 clear hI; intro b3 c8 w3 hI
 refine l_alloc (cs := Zbrocaderef16_State) hI gn rfl rfl zero_72 rfl ?_
 clear hI; intro b4 c9 w4 hI
 refine T ?_
 refine sq (y_build (vs := [(0, vi 1)]) (cs := #[vi 1, vs none 0 0]) rfl ⟨rfl, ev_const, trivial⟩ (by kernel_rfl)) ?_
 refine l_alloc (cs := #[vi 0, vs none 0 0]) hI gn rfl rfl zero_27 rfl ?_
 clear hI; intro b5 c10 w5 hI
 refine l_store (new := [vi 1, vs none 0 0]) (cs' := #[vi 1, vs none 0 0]) hI .z gn rfl rfl et et rfl size_27 rfl rfl rfl ?_
 clear hI; intro c11 w6 hI
 refine nk (c_join (α := (List UInt8) × GLin × Gbrocaderef16_State × (Option Addr) × Nat × (Option Addr) × Nat) (fun _ => ⟨90, []⟩) (fun x => [(2, vb negative1), (3, vp b1 0), (4, vp b2 0), (6, vp b3 0), (7, vp b4 0), (8, vi p1.At), (9, (str (x.1))), (10, vp b5 0)]) (fun x => fun w => ∃ C, Bun noM F w0 C w [MO.box b1 72 (Abrocaderef16_State (x.2.2.1) (x.2.2.2.2.2.1) (x.2.2.2.2.2.2)), MO.box b3 27 #[vi 0, vs none 0 0], MO.box b4 72 Zbrocaderef16_State, MO.box b5 27 (ALin (x.2.1) (x.2.2.2.1) (x.2.2.2.2.1))] [Cl.sl cGMono (x.2.2.2.1) (x.2.2.2.2.1) (x.2.1).L, Cl.sl cGToken (x.2.2.2.2.2.1) (x.2.2.2.2.2.2) (x.2.2.1).L, Cl.blk b2 27 (ALin f1 a2 c2), Cl.sl cGMono a2 c2 f1.L] ∧ m_ref16_term_j1 negative1 f1 p1 (x.1) (x.2.1) (x.2.2.1) = some r) ?_ ?_)
 ·clear h hI; rintro ⟨s1, x1, p2, a5, c12, a6, c13⟩ w7 ⟨c14, hI, h⟩
  try dsimp only at hI h
  rw [m_ref16_term_j1] at h
  refine c_sub (e := [(2, vb negative1), (3, vp b1 0), (4, vp b2 0), (6, vp b3 0), (7, vp b4 0), (8, vi p1.At), (9, (str s1)), (10, vp b5 0)]) ⟨rfl, rfl, rfl, rfl, rfl, rfl, rfl, rfl, trivial⟩ ?_
  refine c_seq (T ?_)
  refine cif h et (fun hb h => ?_) (fun hb h => ?_)
  ·refine c_seq (c_drawX [2, 3] false (.c (0, .q) (.two 1 (.c (2, .s) tr_ref16_term_1_0) 2 (.c (1, .s) tr_ref16_term_1_0))) hI (by kernel_rfl) (by kernel_rfl) ?_)
   clear hI; intro w11 hI
   refine a_join (α := NP) (T := tr_ref16_term_1_0) (fun x => [(2, vb negative1), (3, vp b1 0), (4, vp b2 0), (6, vp b3 0), (7, vp b4 0), (8, vi p1.At), (9, (str s1)), (10, vp b5 0), (55, vp b1 3), (56, vi p2.E), (57, (vb (!decide (p2.E = 0)))), (58, (Value.agg #[vi 0, vs none 0 0])), (59, (Value.agg (Abrocaderef16_State p2 a6 c13)))]) (fun x w => Bun noM F w0 x w [MO.box b1 72 (Abrocaderef16_State p2 a6 c13), MO.box b3 27 #[vi 0, vs none 0 0], MO.box b4 72 Zbrocaderef16_State, MO.box b5 27 (ALin x1 a5 c12)] [Cl.sl cGMono a5 c12 x1.L, Cl.sl cGToken a6 c13 p2.L, Cl.blk b2 27 (ALin f1 a2 c2), Cl.sl cGMono a2 c2 f1.L]) (fun x w => SN [] (DM true F x) w) ?_ ?_
   ·clear hI; rintro c17 w10 hI
    try dsimp only at hI ⊢
    unfold tr_ref16_term_1_0
    refine la_store (new := (lbrocaderef16_State p2 a6 c13)) (cs' := (Abrocaderef16_State p2 a6 c13)) hI (.s (.s .z)) rfl gn rfl rfl et et rfl size_72 rfl rfl rfl ?_
    clear hI; intro c16 w9 hI
    refine V ?_
    refine c_ret ?_
    have hI := hI.add (c := Cl.sl cGMono none 0 ([] : List GMono)) SlC.nil
    obtain rfl := some_inj h
    exact q_ret (vs := [(Value.agg #[vi 0, vs none 0 0]), (Value.agg (Abrocaderef16_State p2 a6 c13))]) Tryz.results73 ⟨⟨_, ev_tmp rfl rfl, load_agg (l := [vi 0, vs none 0 0]) u27 rfl size_27 (CellsAt.of_blk (hI.blk (.s .z)) rfl)⟩, ⟨⟨_, ev_tmp rfl rfl, load_agg (l := (lbrocaderef16_State p2 a6 c13)) u72 rfl size_72 (CellsAt.of_blk (hI.blk (.s (.s .z))) rfl)⟩, trivial⟩⟩ ⟨none, 0, a6, c13, rfl, hI.ext0, hI.fin ⟨.z, (.s (.s .z)), trivial⟩⟩
   intro hk_tr_ref16_term_1_0
   refine a_q rfl gn rfl (fun w' => y_build (vs := []) (cs := #[vi 0, vs none 0 0]) rfl trivial (by kernel_rfl)) ?_
   refine a_two ?_ ?_
   ·skip
    refine a_val rfl gn rfl (y_loadN (l := (lbrocaderef16_State p2 a6 c13)) rfl et u72 rfl size_72 (CellsAt.of_blk (hI.blk .z) rfl)) SX.self ?_
    refine a_turn (F := F) (C := c14) rfl rfl ?_
    refine la_store (new := [vi 0, vs none 0 0]) (cs' := #[vi 0, vs none 0 0]) hI (.s .z) rfl gn rfl rfl et et rfl size_27 rfl rfl rfl ?_
    clear hI; intro c15 w8 hI
    exact a_sub (hk_tr_ref16_term_1_0 c15 _ (hI.arr (.c .z (.c .z (.c .z (.c .z .n)))) ⟨.z, (.s .z), (.s (.s .z)), (.s (.s (.s .z))), trivial⟩)) ⟨rfl, rfl, rfl, rfl, rfl, rfl, rfl, rfl, rfl, rfl, rfl, rfl, rfl, trivial⟩
   refine a_turnT (F := F) (C := c14) rfl rfl ?_
   refine la_store (new := [vi 0, vs none 0 0]) (cs' := #[vi 0, vs none 0 0]) hI (.s .z) rfl gn rfl rfl et et rfl size_27 rfl rfl rfl ?_
   clear hI; intro c15 w8 hI
   refine a_val rfl gn rfl (y_loadN (l := (lbrocaderef16_State p2 a6 c13)) rfl et u72 rfl size_72 (CellsAt.of_blk (hI.blk .z) rfl)) SX.self ?_
   exact a_sub (hk_tr_ref16_term_1_0 c15 _ (hI.arr (.c .z (.c .z (.c .z (.c .z .n)))) ⟨.z, (.s .z), (.s (.s .z)), (.s (.s (.s .z))), trivial⟩)) ⟨rfl, rfl, rfl, rfl, rfl, rfl, rfl, rfl, rfl, rfl, rfl, rfl, rfl, trivial⟩
  refine T ?_
  obtain ⟨r1, hx1, h⟩ := bnd_some h
  refine s_call gn rfl (r_callF (vs := [(str s1), vb negative1]) rfl ok_137 ⟨et, ⟨et, trivial⟩⟩) (Calls.mono (c_ref16_signed (Dj F c14) w7 hI.lt s1 negative1 trivial r1 hx1) ?_)
  rintro _ w12 ⟨rfl, hx2, hl1⟩
  refine ⟨_, rfl, ?_⟩
  replace hI := (hI.ext hx2)
  refine T ?_
  obtain ⟨r2, hx3, h⟩ := bnd_some h
  refine s_call gn rfl (r_callF (vs := [(Value.agg (ALin x1 a5 c12)), vi r1.1]) rfl ok_138 ⟨et, ⟨et, trivial⟩⟩) (Calls.mono (c_ref05_Scale (Dj F c14) w12 hI.lt x1 r1.1 a5 c12 ⟨(hI.get .z), trivial⟩ r2 hx3) ?_)
  rintro _ w13 ⟨a7, c18, rfl, hx4, hl2⟩
  refine ⟨_, rfl, ?_⟩
  replace hI := (hI.ext hx4).adds hl2; dsimp only [ca, na] at hI
  refine T ?_
  refine l_store (new := (lLin r2.1 a7 c18)) (cs' := (ALin r2.1 a7 c18)) hI (.s (.s (.s .z))) gn rfl rfl et et rfl size_27 rfl rfl rfl ?_
  clear hI; intro c19 w14 hI
  refine T ?_
  refine sq (y_loadN (l := (lLin f1 a2 c2)) rfl et u27 rfl size_27 (hI.kblk (l := (lLin f1 a2 c2)) (.s (.s (.s .z))) rfl).1) ?_
  refine T ?_
  obtain ⟨r3, hx5, h⟩ := bnd_some h
  refine s_call gn rfl (r_callF (vs := [(Value.agg (ALin f1 a2 c2)), (Value.agg (ALin r2.1 a7 c18))]) rfl ok_139 ⟨et, ⟨et, trivial⟩⟩) (Calls.mono (c_ref05_Add (Dj F c19) w14 hI.lt f1 r2.1 a2 c2 a7 c18 ⟨(hI.get (.s (.s (.s (.s .z))))), (hI.get .z), trivial⟩ r3 hx5) ?_)
  rintro _ w15 ⟨a8, c20, rfl, hx6, hl3⟩
  refine ⟨_, rfl, ?_⟩
  replace hI := (hI.ext hx6).adds hl3; dsimp only [ca, na] at hI
  refine T ?_
  refine l_alloc (cs := #[vi 0, vs none 0 0]) hI gn rfl rfl zero_27 rfl ?_
  clear hI; intro b6 c21 w16 hI
  refine l_store (new := (lLin r3.1 a8 c20)) (cs' := (ALin r3.1 a8 c20)) hI .z gn rfl rfl et et rfl size_27 rfl rfl rfl ?_
  clear hI; intro c22 w17 hI
  refine T ?_
  refine c_seq (T ?_)
  refine cif h et (fun hb h => ?_) (fun hb h => ?_)
  ·refine sr (sq (y_build (vs := []) (cs := #[vi 0, vs none 0 0]) rfl trivial (by kernel_rfl)) ?_)
   refine T ?_
   obtain ⟨r4, hx7, h⟩ := bnd_some h
   refine s_call gn rfl (r_callF (vs := [(Value.agg (Abrocaderef16_State p2 a6 c13)), vi p1.At, vi 3]) rfl ok_81 ⟨et, ⟨et, ⟨ev_const, trivial⟩⟩⟩) (Calls.mono (c_ref16_fail (Dj F c22) w17 hI.lt p2 p1.At 3 a6 c13 ⟨(hI.get (.s (.s (.s .z)))), trivial⟩ r4 hx7) ?_)
   rintro _ w18 ⟨a9, c23, rfl, hx8, hl4⟩
   refine ⟨_, rfl, ?_⟩
   replace hI := (hI.ext hx8).adds hl4; dsimp only [ca, na] at hI
   refine l_store (new := [vi 0, vs none 0 0]) (cs' := #[vi 0, vs none 0 0]) hI (.s (.s .z)) gn rfl rfl et et rfl size_27 rfl rfl rfl ?_
   clear hI; intro c24 w19 hI
   refine l_store (new := (lbrocaderef16_State r4 a9 c23)) (cs' := (Abrocaderef16_State r4 a9 c23)) hI (.s (.s (.s .z))) gn rfl rfl et et rfl size_72 rfl rfl rfl ?_
   clear hI; intro c25 w20 hI
   refine nk (c_ret ?_)
   have hI := hI.add (c := Cl.sl cGMono none 0 ([] : List GMono)) SlC.nil
   obtain rfl := some_inj h
   exact q_ret (vs := [(Value.agg #[vi 0, vs none 0 0]), (Value.agg (Abrocaderef16_State r4 a9 c23))]) Tryz.results73 ⟨⟨_, ev_tmp rfl rfl, load_agg (l := [vi 0, vs none 0 0]) u27 rfl size_27 (CellsAt.of_blk (hI.blk (.s (.s .z))) rfl)⟩, ⟨⟨_, ev_tmp rfl rfl, load_agg (l := (lbrocaderef16_State r4 a9 c23)) u72 rfl size_72 (CellsAt.of_blk (hI.blk (.s (.s (.s .z)))) rfl)⟩, trivial⟩⟩ ⟨none, 0, a9, c23, rfl, hI.ext0, hI.fin ⟨.z, (.s .z), trivial⟩⟩
  refine T ?_
  refine c_seq (c_drawX [2, 3] false (.c (0, .q) (.two 1 (.c (2, .s) tr_ref16_term_2_0) 2 (.c (1, .s) tr_ref16_term_2_0))) hI (by kernel_rfl) (by kernel_rfl) ?_)
  clear hI; intro w24 hI
  refine a_join (α := NP) (T := tr_ref16_term_2_0) (fun x => [(3, vp b1 0), (6, vp b3 0), (7, vp b4 0), (8, vi p1.At), (18, vb r1.2), (19, vp b6 0), (20, vi r3.2), (78, vb r1.2), (79, vb (!r1.2)), (80, vb (!r1.2)), (81, (gv (!(!r1.2)) (vi r3.2))), (82, (gv (!(!r1.2)) (vb (!decide (r3.2 = 0))))), (83, (vb ((!r1.2) || (!decide (r3.2 = 0))))), (88, (Value.agg (ALin r3.1 a8 c20))), (89, (Value.agg (Abrocaderef16_State p2 a6 c13)))]) (fun x w => Bun noM F w0 x w [MO.box b6 27 (ALin r3.1 a8 c20), MO.box b1 72 (Abrocaderef16_State p2 a6 c13), MO.box b3 27 (ALin r3.1 a8 c20), MO.box b4 72 Zbrocaderef16_State, MO.box b5 27 (ALin r2.1 a7 c18)] [Cl.sl cGMono a8 c20 r3.1.L, Cl.sl cGMono a7 c18 r2.1.L, Cl.sl cGMono a5 c12 x1.L, Cl.sl cGToken a6 c13 p2.L, Cl.blk b2 27 (ALin f1 a2 c2), Cl.sl cGMono a2 c2 f1.L]) (fun x w => SN [] (DM true F x) w) ?_ ?_
  ·clear hI; rintro c28 w23 hI
   try dsimp only at hI ⊢
   unfold tr_ref16_term_2_0
   refine la_store (new := (lbrocaderef16_State p2 a6 c13)) (cs' := (Abrocaderef16_State p2 a6 c13)) hI (.s (.s (.s .z))) rfl gn rfl rfl et et rfl size_72 rfl rfl rfl ?_
   clear hI; intro c27 w22 hI
   refine V ?_
   refine c_ret ?_
   obtain rfl := some_inj h
   exact q_ret (vs := [(Value.agg (ALin r3.1 a8 c20)), (Value.agg (Abrocaderef16_State p2 a6 c13))]) Tryz.results73 ⟨⟨_, ev_tmp rfl rfl, load_agg (l := (lLin r3.1 a8 c20)) u27 rfl size_27 (CellsAt.of_blk (hI.blk (.s (.s .z))) rfl)⟩, ⟨⟨_, ev_tmp rfl rfl, load_agg (l := (lbrocaderef16_State p2 a6 c13)) u72 rfl size_72 (CellsAt.of_blk (hI.blk (.s (.s (.s .z)))) rfl)⟩, trivial⟩⟩ ⟨a8, c20, a6, c13, rfl, hI.ext0, hI.fin ⟨.z, (.s (.s (.s .z))), trivial⟩⟩
  intro hk_tr_ref16_term_2_0
  refine a_read rfl gn rfl (fun w' hw' => (y_loadN (l := (lLin r3.1 a8 c20)) rfl et u27 rfl size_27 ((CA.blk (hI.blk .z) rfl).at_ (SX.any rfl hw')))) (by kernel_rfl) ?_
  refine a_two ?_ ?_
  ·skip
   refine a_val rfl gn rfl (y_loadN (l := (lbrocaderef16_State p2 a6 c13)) rfl et u72 rfl size_72 (CellsAt.of_blk (hI.blk (.s .z)) rfl)) SX.self ?_
   refine a_turn (F := F) (C := c22) rfl rfl ?_
   refine la_store (new := (lLin r3.1 a8 c20)) (cs' := (ALin r3.1 a8 c20)) hI (.s (.s .z)) rfl gn rfl rfl et et rfl size_27 rfl rfl rfl ?_
   clear hI; intro c26 w21 hI
   exact a_sub (hk_tr_ref16_term_2_0 c26 _ (hI.arr (.c .z (.c .z (.c .z (.c .z (.c .z .n))))) ⟨.z, (.s .z), (.s (.s .z)), (.s (.s (.s .z))), (.s (.s (.s (.s .z)))), (.s (.s (.s (.s (.s .z))))), trivial⟩)) ⟨rfl, rfl, rfl, rfl, rfl, rfl, rfl, rfl, rfl, rfl, rfl, rfl, rfl, rfl, rfl, trivial⟩
  refine a_turnT (F := F) (C := c22) rfl rfl ?_
  refine la_store (new := (lLin r3.1 a8 c20)) (cs' := (ALin r3.1 a8 c20)) hI (.s (.s .z)) rfl gn rfl rfl et et rfl size_27 rfl rfl rfl ?_
  clear hI; intro c26 w21 hI
  refine a_val rfl gn rfl (y_loadN (l := (lbrocaderef16_State p2 a6 c13)) rfl et u72 rfl size_72 (CellsAt.of_blk (hI.blk (.s .z)) rfl)) SX.self ?_
  exact a_sub (hk_tr_ref16_term_2_0 c26 _ (hI.arr (.c .z (.c .z (.c .z (.c .z (.c .z .n))))) ⟨.z, (.s .z), (.s (.s .z)), (.s (.s (.s .z))), (.s (.s (.s (.s .z)))), (.s (.s (.s (.s (.s .z))))), trivial⟩)) ⟨rfl, rfl, rfl, rfl, rfl, rfl, rfl, rfl, rfl, rfl, rfl, rfl, rfl, rfl, rfl, trivial⟩
 refine T ?_
 obtain ⟨r5, hx9, h⟩ := bnd_some h
 refine s_call gn rfl (r_callF (vs := [(Value.agg (Abrocaderef16_State p1 a1 c1))]) rfl ok_133 ⟨et, trivial⟩) (Calls.mono (c_ref16_ahead (Dj F c11) w6 hI.lt p1 a1 c1 ⟨(hI.get (.s .z)), trivial⟩ r5 hx9) ?_)
 rintro _ w25 ⟨rfl, hx10, hl5⟩
 refine ⟨_, rfl, ?_⟩
 replace hI := (hI.ext hx10)
 refine nk (cif h et (fun hb h => ?_) (fun hb h => ?_))
 ·refine T ?_
  obtain ⟨r6, hx11, h⟩ := bnd_some h
  refine s_call gn rfl (r_callF (vs := [(Value.agg (Abrocaderef16_State p1 a1 c1))]) rfl ok_134 ⟨et, trivial⟩) (Calls.mono (c_ref16_name (Dj F c11) w25 hI.lt p1 a1 c1 ⟨(hI.get (.s .z)), trivial⟩ r6 hx11) ?_)
  rintro _ w26 ⟨a10, c29, rfl, hx12, hl6⟩
  refine ⟨_, rfl, ?_⟩
  replace hI := (hI.ext hx12).adds hl6; dsimp only [ca, na] at hI
  refine T ?_
  refine l_alloc (cs := Zbrocaderef16_State) hI gn rfl rfl zero_72 rfl ?_
  clear hI; intro b7 c30 w27 hI
  refine sa ?_
  refine l_store (new := (lbrocaderef16_State r6.2 a10 c29)) (cs' := (Abrocaderef16_State r6.2 a10 c29)) hI .z gn rfl rfl et et rfl size_72 rfl rfl rfl ?_
  clear hI; intro c31 w28 hI
  refine T ?_
  obtain ⟨r7, hx13, h⟩ := bnd_some h
  refine s_call gn rfl (r_callF (vs := [(str r6.1)]) rfl ok_135 ⟨et, trivial⟩) (Calls.mono (c_ref05_Var (Dj F c31) w28 hI.lt r6.1 trivial r7 hx13) ?_)
  rintro _ w29 ⟨a11, c32, rfl, hx14, hl7⟩
  refine ⟨_, rfl, ?_⟩
  replace hI := (hI.ext hx14).adds hl7; dsimp only [ca, na] at hI
  refine l_store (new := (lLin r7 a11 c32)) (cs' := (ALin r7 a11 c32)) hI (.s .z) gn rfl rfl et et rfl size_27 rfl rfl rfl ?_
  clear hI; intro c33 w30 hI
  refine T ?_
  refine l_store (new := (lbrocaderef16_State r6.2 a10 c29)) (cs' := (Abrocaderef16_State r6.2 a10 c29)) hI (.s (.s (.s (.s .z)))) gn rfl rfl et et rfl size_72 rfl rfl rfl ?_
  clear hI; intro c34 w31 hI
  refine s_nil ?_
  exact k_join (([49] : List UInt8), r7, r6.2, a11, c32, a10, c29) ⟨rfl, rfl, rfl, rfl, rfl, rfl, rfl, rfl, trivial⟩ ⟨_, hI.arr (.c (.s (.s (.s (.s .z)))) (.c (.s (.s (.s .z))) (.c (.s (.s .z)) (.c (.s .z) .n)))) ⟨.z, (.s .z), (.s (.s .z)), (.s (.s (.s (.s .z)))), trivial⟩, h⟩ rfl
 refine T ?_
 obtain ⟨r8, hx15, h⟩ := bnd_some h
 refine s_call gn rfl (r_callF (vs := [(Value.agg (Abrocaderef16_State p1 a1 c1))]) rfl ok_136 ⟨et, trivial⟩) (Calls.mono (c_ref16_number (Dj F c11) w25 hI.lt p1 a1 c1 ⟨(hI.get (.s .z)), trivial⟩ r8 hx15) ?_)
 rintro _ w32 ⟨a12, c35, rfl, hx16, hl8⟩
 refine ⟨_, rfl, ?_⟩
 replace hI := (hI.ext hx16).adds hl8; dsimp only [ca, na] at hI
 refine T ?_
 refine l_alloc (cs := Zbrocaderef16_State) hI gn rfl rfl zero_72 rfl ?_
 clear hI; intro b8 c36 w33 hI
 refine sa ?_
 refine l_store (new := (lbrocaderef16_State r8.2 a12 c35)) (cs' := (Abrocaderef16_State r8.2 a12 c35)) hI .z gn rfl rfl et et rfl size_72 rfl rfl rfl ?_
 clear hI; intro c37 w34 hI
 refine T ?_
 refine l_store (new := (lbrocaderef16_State r8.2 a12 c35)) (cs' := (Abrocaderef16_State r8.2 a12 c35)) hI (.s (.s (.s (.s .z)))) gn rfl rfl et et rfl size_72 rfl rfl rfl ?_
 clear hI; intro c38 w35 hI
 refine T ?_
 obtain ⟨r9, hx17, h⟩ := bnd_some h
 refine s_call gn rfl (r_callF (vs := [(Value.agg (Abrocaderef16_State r8.2 a12 c35)), vi 0, (str ([42] : List UInt8))]) rfl ok_72 ⟨et, ⟨ev_const, ⟨ev_const, trivial⟩⟩⟩) (Calls.mono (c_ref16_is (Dj F c38) w35 hI.lt r8.2 0 ([42] : List UInt8) a12 c35 ⟨(hI.get .z), trivial⟩ r9 hx17) ?_)
 rintro _ w36 ⟨rfl, hx18, hl9⟩
 refine ⟨_, rfl, ?_⟩
 replace hI := (hI.ext hx18)
 refine nk (cif h et (fun hb h => ?_) (fun hb h => ?_))
 ·refine T ?_
  refine l_store (new := [(vi (wi64 (r8.2.At + 1)))]) (cs' := #[vs a12 r8.2.L.length c35, (vi (wi64 (r8.2.At + 1))), vi r8.2.Deep, vi r8.2.E, vi r8.2.Pos]) hI (.s (.s (.s (.s .z)))) gn rfl rfl et et rfl size_3 rfl rfl rfl ?_
  clear hI; intro c39 w37 hI
  refine T ?_
  obtain ⟨r10, hx19, h⟩ := bnd_some h
  refine s_call gn rfl (r_callF (vs := [(Value.agg #[vs a12 r8.2.L.length c35, (vi (wi64 (r8.2.At + 1))), vi r8.2.Deep, vi r8.2.E, vi r8.2.Pos])]) rfl ok_134 ⟨et, trivial⟩) (Calls.mono (c_ref16_name (Dj F c39) w37 hI.lt (⟨r8.2.L, wi64 (r8.2.At + 1), r8.2.Deep, r8.2.E, r8.2.Pos⟩ : Gbrocaderef16_State) a12 c35 ⟨(hI.get .z), trivial⟩ r10 hx19) ?_)
  rintro _ w38 ⟨a13, c40, rfl, hx20, hl10⟩
  refine ⟨_, rfl, ?_⟩
  replace hI := (hI.ext hx20).adds hl10; dsimp only [ca, na] at hI
  refine T ?_
  refine l_alloc (cs := Zbrocaderef16_State) hI gn rfl rfl zero_72 rfl ?_
  clear hI; intro b9 c41 w39 hI
  refine sa ?_
  refine l_store (new := (lbrocaderef16_State r10.2 a13 c40)) (cs' := (Abrocaderef16_State r10.2 a13 c40)) hI .z gn rfl rfl et et rfl size_72 rfl rfl rfl ?_
  clear hI; intro c42 w40 hI
  refine T ?_
  obtain ⟨r11, hx21, h⟩ := bnd_some h
  refine s_call gn rfl (r_callF (vs := [(str r10.1)]) rfl ok_135 ⟨et, trivial⟩) (Calls.mono (c_ref05_Var (Dj F c42) w40 hI.lt r10.1 trivial r11 hx21) ?_)
  rintro _ w41 ⟨a14, c43, rfl, hx22, hl11⟩
  refine ⟨_, rfl, ?_⟩
  replace hI := (hI.ext hx22).adds hl11; dsimp only [ca, na] at hI
  refine l_store (new := (lLin r11 a14 c43)) (cs' := (ALin r11 a14 c43)) hI (.s (.s .z)) gn rfl rfl et et rfl size_27 rfl rfl rfl ?_
  clear hI; intro c44 w42 hI
  refine T ?_
  refine l_store (new := (lbrocaderef16_State r10.2 a13 c40)) (cs' := (Abrocaderef16_State r10.2 a13 c40)) hI (.s (.s (.s (.s (.s .z))))) gn rfl rfl et et rfl size_72 rfl rfl rfl ?_
  clear hI; intro c45 w43 hI
  refine s_nil ?_
  exact k_join (r8.1, r11, r10.2, a14, c43, a13, c40) ⟨rfl, rfl, rfl, rfl, rfl, rfl, rfl, rfl, trivial⟩ ⟨_, hI.arr (.c (.s (.s (.s (.s (.s .z))))) (.c (.s (.s (.s (.s .z)))) (.c (.s (.s (.s .z))) (.c (.s (.s .z)) .n)))) ⟨.z, (.s .z), (.s (.s (.s .z))), (.s (.s (.s (.s (.s .z))))), trivial⟩, h⟩ rfl
 refine c_skip ?_
 have hI := hI.add (c := Cl.sl cGMono none 0 ([] : List GMono)) SlC.nil
 exact k_join (r8.1, (⟨1, ([] : List GMono)⟩ : GLin), r8.2, none, 0, a12, c35) ⟨rfl, rfl, rfl, rfl, rfl, rfl, rfl, rfl, trivial⟩ ⟨_, hI.arr (.c (.s (.s (.s (.s .z)))) (.c (.s (.s (.s .z))) (.c (.s (.s .z)) (.c (.s .z) .n)))) ⟨.z, (.s .z), (.s (.s .z)), (.s (.s (.s (.s .z)))), trivial⟩, h⟩ rfl
def tr_ref16_form_3_0 : Tr := (.c (3, .s) .n)
theorem c_ref16_form (F : NP) (w0 : World) (hF : ∀ k, F k → k < w0.heap.size) (p1 : Gbrocaderef16_State) (a1 : Option Addr) (c1 : Nat) (hc : AllCl [Cl.sl cGToken a1 c1 p1.L] F w0) (r : GLin × Gbrocaderef16_State)
  (h : m_ref16_form p1 = some r) :
  Calls Tryz.prog 32 #[(Value.agg (Abrocaderef16_State p1 a1 c1))] w0 fun e w => ∃ (a2 : Option Addr) (c2 : Nat) (a3 : Option Addr) (c3 : Nat), e = .returned (Value.tuple #[(Value.agg (ALin r.1 a2 c2)), (Value.agg (Abrocaderef16_State r.2 a3 c3))]) ∧ Ext w0 w ∧ AllCl [Cl.sl cGMono a2 c2 r.1.L, Cl.sl cGToken a3 c3 r.2.L] F w := by
 refine enterK Tryz.func32 rfl Tryz.ntmps32 rfl ?_
 have hI := Bun.start hF hc
 clear hc
 rw [m_ref16_form] at h
 refine sr (l_box (v := (Value.agg (Abrocaderef16_State p1 a1 c1))) (cs := (Abrocaderef16_State p1 a1 c1)) hI gn rfl rfl et rfl ?_)
 clear hI; intro b1 c4 w1 hI
 refine l_alloc (cs := #[vi 0, vs none 0 0]) hI gn rfl rfl zero_27 rfl ?_
 clear hI; intro b2 c5 w2 hI
 refine l_alloc (cs := Zbrocaderef16_State) hI gn rfl rfl zero_72 rfl ?_
 clear hI; intro b3 c6 w3 hI
 refine T ?_
 obtain ⟨r1, hx1, h⟩ := bnd_some h
 refine s_call gn rfl (r_callF (vs := [(Value.agg (Abrocaderef16_State p1 a1 c1)), vi 0, (str ([45] : List UInt8))]) rfl ok_72 ⟨et, ⟨ev_const, ⟨ev_const, trivial⟩⟩⟩) (Calls.mono (c_ref16_is (Dj F c6) w3 hI.lt p1 0 ([45] : List UInt8) a1 c1 ⟨(hI.get .z), trivial⟩ r1 hx1) ?_)
 rintro _ w4 ⟨rfl, hx2, hl1⟩
 refine ⟨_, rfl, ?_⟩
 replace hI := (hI.ext hx2)
 refine T ?_
 refine c_join (α := Gbrocaderef16_State × (Option Addr) × Nat) (fun _ => ⟨41, []⟩) (fun x => [(1, vp b1 0), (2, vp b2 0), (3, vp b3 0), (4, vb r1)]) (fun x => fun w => ∃ C, Bun noM F w0 C w [MO.box b1 72 (Abrocaderef16_State (x.1) (x.2.1) (x.2.2)), MO.box b2 27 #[vi 0, vs none 0 0], MO.box b3 72 Zbrocaderef16_State] [Cl.sl cGToken (x.2.1) (x.2.2) (x.1).L] ∧ m_ref16_form_j1 r1 (x.1) = some r) ?_ ?_
 ·clear h hI; rintro ⟨p2, a4, c7⟩ w5 ⟨c8, hI, h⟩
  try dsimp only at hI h
  rw [m_ref16_form_j1] at h
  refine c_sub (e := [(1, vp b1 0), (2, vp b2 0), (3, vp b3 0), (4, vb r1)]) SB ?_
  refine T ?_
  refine sq (y_build (vs := []) (cs := #[vi 0, vs none 0 0]) rfl trivial (by kernel_rfl)) ?_
  refine sm ?_
  have hI := hI.add (c := Cl.sl cGMono none 0 ([] : List GMono)) SlC.nil
  obtain ⟨r2, hx3, h⟩ := bnd_some h
  refine s_call gn rfl (r_callF (vs := [(Value.agg (Abrocaderef16_State p2 a4 c7)), (Value.agg #[vi 0, vs none 0 0]), vb r1]) rfl ok_73 ⟨et, ⟨et, ⟨et, trivial⟩⟩⟩) (Calls.mono (c_ref16_term (Dj F c8) w5 hI.lt p2 (⟨0, ([] : List GMono)⟩ : GLin) r1 a4 c7 none 0 ⟨(hI.get (.s .z)), (hI.get .z), trivial⟩ r2 hx3) ?_)
  rintro _ w6 ⟨a5, c9, a6, c10, rfl, hx4, hl2⟩
  refine ⟨_, rfl, ?_⟩
  replace hI := (hI.ext hx4).adds hl2; dsimp only [ca, na] at hI
  refine T ?_
  refine l_alloc (cs := #[vi 0, vs none 0 0]) hI gn rfl rfl zero_27 rfl ?_
  clear hI; intro b4 c11 w7 hI
  refine l_store (new := (lLin r2.1 a5 c9)) (cs' := (ALin r2.1 a5 c9)) hI .z gn rfl rfl et et rfl size_27 rfl rfl rfl ?_
  clear hI; intro c12 w8 hI
  refine l_store (new := (lbrocaderef16_State r2.2 a6 c10)) (cs' := (Abrocaderef16_State r2.2 a6 c10)) hI (.s .z) gn rfl rfl et et rfl size_72 rfl rfl rfl ?_
  clear hI; intro c13 w9 hI
  refine nk (c_seq (T ?_))
  refine c_loop (α := Nat × Gbrocaderef16_State × GLin × (Option Addr) × Nat × (Option Addr) × Nat) (fun x => fun w => ∃ C, Bun noM F w0 C w [MO.box b1 72 (Abrocaderef16_State (x.2.1) (x.2.2.2.1) (x.2.2.2.2.1)), MO.box b2 27 #[vi 0, vs none 0 0], MO.box b3 72 Zbrocaderef16_State, MO.box b4 27 (ALin (x.2.2.1) (x.2.2.2.2.2.1) (x.2.2.2.2.2.2))] [Cl.sl cGToken (x.2.2.2.1) (x.2.2.2.2.1) (x.2.1).L, Cl.sl cGMono (x.2.2.2.2.2.1) (x.2.2.2.2.2.2) (x.2.2.1).L] ∧ m_ref16_form_l1 (x.1) (x.2.1) (x.2.2.1) = some r) (fun x _ => x.1) (fun x => [(1, vp b1 0), (2, vp b2 0), (3, vp b3 0), (5, vp b4 0)]) (fu, r2.2, r2.1, a6, c10, a5, c9) ⟨_, hI.arr (.c (.s .z) (.c (.s .z) (.c (.s .z) (.c .z .n)))) ⟨(.s .z), .z, trivial⟩, h⟩ SB ?_
  clear h hI; rintro ⟨fuel1, p3, f1, a7, c14, a8, c15⟩ w10 ⟨c16, hI, h⟩
  dsimp only at hI h
  rcases fuel1 with _ | fuel1
  ·rw [m_ref16_form_l1] at h; cases h
  rw [m_ref16_form_l1] at h
  refine c_sub (e := [(1, vp b1 0), (2, vp b2 0), (3, vp b3 0), (5, vp b4 0)]) SB ?_
  refine c_seq (T ?_)
  obtain ⟨r3, hx5, h⟩ := bnd_some h
  refine s_call gn rfl (r_callF (vs := [(Value.agg (Abrocaderef16_State p3 a7 c14)), vi 0, (str ([43] : List UInt8))]) rfl ok_72 ⟨et, ⟨ev_const, ⟨ev_const, trivial⟩⟩⟩) (Calls.mono (c_ref16_is (Dj F c16) w10 hI.lt p3 0 ([43] : List UInt8) a7 c14 ⟨(hI.get .z), trivial⟩ r3 hx5) ?_)
  rintro _ w11 ⟨rfl, hx6, hl3⟩
  refine ⟨_, rfl, ?_⟩
  replace hI := (hI.ext hx6)
  refine sm ?_
  refine s_gval (g_false rfl rfl rfl rfl) rfl (fun hc => (y_loadN (l := (lbrocaderef16_State p3 a7 c14)) rfl et u72 rfl size_72 (CellsAt.of_blk (hI.blk .z) rfl))) ?_
  obtain ⟨r4, hx7, h⟩ := bnd_some h
  replace hx7 := gd_some hx7
  refine s_gcallU (v := (vb r4)) (g_false rfl rfl rfl rfl) rfl (fun hc => (r_callF (vs := [(Value.agg (Abrocaderef16_State p3 a7 c14)), vi 0, (str ([45] : List UInt8))]) rfl ok_72 ⟨(ev_gv et hc), ⟨ev_const, ⟨ev_const, trivial⟩⟩⟩)) (fun hc => (c_ref16_is (Dj F c16) w11 hI.lt p3 0 ([45] : List UInt8) a7 c14 ⟨(hI.get .z), trivial⟩ r4 (hx7 hc)).mono fun _ _ k => ⟨k.1, k.2.1⟩) ?_
  intro w12 hx8; replace hI := hI.ext hx8
  refine T ?_
  refine cif h et (fun hb h => ?_) (fun hb h => ?_)
  ·refine T ?_
   obtain ⟨r5, hx9, h⟩ := bnd_some h
   refine s_call gn rfl (r_callF (vs := [(Value.agg (Abrocaderef16_State p3 a7 c14)), vi 0, (str ([45] : List UInt8))]) rfl ok_72 ⟨et, ⟨ev_const, ⟨ev_const, trivial⟩⟩⟩) (Calls.mono (c_ref16_is (Dj F c16) w12 hI.lt p3 0 ([45] : List UInt8) a7 c14 ⟨(hI.get .z), trivial⟩ r5 hx9) ?_)
   rintro _ w13 ⟨rfl, hx10, hl5⟩
   refine ⟨_, rfl, ?_⟩
   replace hI := (hI.ext hx10)
   refine T ?_
   refine l_store (new := [(vi (wi64 (p3.At + 1)))]) (cs' := #[vs a7 p3.L.length c14, (vi (wi64 (p3.At + 1))), vi p3.Deep, vi p3.E, vi p3.Pos]) hI .z gn rfl rfl et et rfl size_3 rfl rfl rfl ?_
   clear hI; intro c17 w14 hI
   refine T ?_
   obtain ⟨r6, hx11, h⟩ := bnd_some h
   refine s_call gn rfl (r_callF (vs := [(Value.agg #[vs a7 p3.L.length c14, (vi (wi64 (p3.At + 1))), vi p3.Deep, vi p3.E, vi p3.Pos]), (Value.agg (ALin f1 a8 c15)), vb r5]) rfl ok_73 ⟨et, ⟨et, ⟨et, trivial⟩⟩⟩) (Calls.mono (c_ref16_term (Dj F c17) w14 hI.lt (⟨p3.L, wi64 (p3.At + 1), p3.Deep, p3.E, p3.Pos⟩ : Gbrocaderef16_State) f1 r5 a7 c14 a8 c15 ⟨(hI.get .z), (hI.get (.s .z)), trivial⟩ r6 hx11) ?_)
   rintro _ w15 ⟨a9, c18, a10, c19, rfl, hx12, hl6⟩
   refine ⟨_, rfl, ?_⟩
   replace hI := (hI.ext hx12).adds hl6; dsimp only [ca, na] at hI
   refine T ?_
   refine l_store (new := (lLin r6.1 a9 c18)) (cs' := (ALin r6.1 a9 c18)) hI (.s (.s (.s .z))) gn rfl rfl et et rfl size_27 rfl rfl rfl ?_
   clear hI; intro c20 w16 hI
   refine l_store (new := (lbrocaderef16_State r6.2 a10 c19)) (cs' := (Abrocaderef16_State r6.2 a10 c19)) hI .z gn rfl rfl et et rfl size_72 rfl rfl rfl ?_
   clear hI; intro c21 w17 hI
   refine s_nil ?_
   exact k_loop (fuel1, r6.2, r6.1, a10, c19, a9, c18) SB ⟨_, hI.arr GO SU, h⟩ (Nat.lt_succ_self _)
  refine c_exit ?_
  refine k_in ?_
  refine k_same (c_seq (c_drawX [2, 3] false (.c (0, .q) (.two 1 (.c (2, .s) tr_ref16_form_3_0) 2 (.c (1, .s) tr_ref16_form_3_0))) hI (by kernel_rfl) (by kernel_rfl) ?_))
  clear hI; intro w21 hI
  refine a_join (α := NP) (T := tr_ref16_form_3_0) (fun x => [(1, vp b1 0), (2, vp b2 0), (3, vp b3 0), (5, vp b4 0), (20, (Value.agg (Abrocaderef16_State p3 a7 c14))), (21, vb r3), (22, vb r3), (23, (gv (!r3) (Value.agg (Abrocaderef16_State p3 a7 c14)))), (24, (gv (!r3) (vb r4))), (25, vb (r3 || r4)), (39, (Value.agg (ALin f1 a8 c15))), (40, (Value.agg (Abrocaderef16_State p3 a7 c14)))]) (fun x w => Bun noM F w0 x w [MO.box b1 72 (Abrocaderef16_State p3 a7 c14), MO.box b2 27 (ALin f1 a8 c15), MO.box b3 72 Zbrocaderef16_State, MO.box b4 27 (ALin f1 a8 c15)] [Cl.sl cGToken a7 c14 p3.L, Cl.sl cGMono a8 c15 f1.L]) (fun x w => SN [] (DM true F x) w) ?_ ?_
  ·clear hI; rintro c24 w20 hI
   try dsimp only at hI ⊢
   unfold tr_ref16_form_3_0
   refine la_store (new := (lbrocaderef16_State p3 a7 c14)) (cs' := (Abrocaderef16_State p3 a7 c14)) hI (.s (.s .z)) rfl gn rfl rfl et et rfl size_72 rfl rfl rfl ?_
   clear hI; intro c23 w19 hI
   refine V ?_
   refine c_ret ?_
   obtain rfl := some_inj h
   refine QG ?_
   exact ⟨a8, c15, a7, c14, rfl, hI.ext0, hI.fin ⟨(.s .z), .z, trivial⟩⟩
  intro hk_tr_ref16_form_3_0
  refine a_read rfl gn rfl (fun w' hw' => (y_loadN (l := (lLin f1 a8 c15)) rfl et u27 rfl size_27 ((CA.blk (hI.blk (.s (.s (.s .z)))) rfl).at_ (SX.any rfl hw')))) (by kernel_rfl) ?_
  refine a_two ?_ ?_
  ·skip
   refine a_val rfl gn rfl (y_loadN (l := (lbrocaderef16_State p3 a7 c14)) rfl et u72 rfl size_72 (CellsAt.of_blk (hI.blk .z) rfl)) SX.self ?_
   refine a_turn (F := F) (C := c16) rfl rfl ?_
   refine la_store (new := (lLin f1 a8 c15)) (cs' := (ALin f1 a8 c15)) hI (.s .z) rfl gn rfl rfl et et rfl size_27 rfl rfl rfl ?_
   clear hI; intro c22 w18 hI
   exact a_sub (hk_tr_ref16_form_3_0 c22 _ (hI.arr GO SU)) SB
  refine a_turnT (F := F) (C := c16) rfl rfl ?_
  refine la_store (new := (lLin f1 a8 c15)) (cs' := (ALin f1 a8 c15)) hI (.s .z) rfl gn rfl rfl et et rfl size_27 rfl rfl rfl ?_
  clear hI; intro c22 w18 hI
  refine a_val rfl gn rfl (y_loadN (l := (lbrocaderef16_State p3 a7 c14)) rfl et u72 rfl size_72 (CellsAt.of_blk (hI.blk .z) rfl)) SX.self ?_
  exact a_sub (hk_tr_ref16_form_3_0 c22 _ (hI.arr GO SU)) SB
 refine T ?_
 refine cif h et (fun hb h => ?_) (fun hb h => ?_)
 ·refine T ?_
  refine l_store (new := [(vi (wi64 (p1.At + 1)))]) (cs' := #[vs a1 p1.L.length c1, (vi (wi64 (p1.At + 1))), vi p1.Deep, vi p1.E, vi p1.Pos]) hI (.s (.s .z)) gn rfl rfl et et rfl size_3 rfl rfl rfl ?_
  clear hI; intro c25 w22 hI
  refine s_nil ?_
  exact k_join ((⟨p1.L, wi64 (p1.At + 1), p1.Deep, p1.E, p1.Pos⟩ : Gbrocaderef16_State), a1, c1) SB ⟨_, hI.arr GO SU, h⟩ rfl
 exact c_skip (k_join (p1, a1, c1) SB ⟨_, hI.arr GO SU, h⟩ rfl)
def tr_ref16_Lin_1_3 : Tr := .n
def tr_ref16_Lin_1_2 : Tr := (.c (4, .s) (.c (7, .q) tr_ref16_Lin_1_3))
def tr_ref16_Lin_1_1 : Tr := (.c (2, .s) (.c (6, .q) (.c (7, .q) tr_ref16_Lin_1_3)))
def tr_ref16_Lin_1_0 : Tr := (.c (5, .s) (.c (6, .q) (.c (7, .q) tr_ref16_Lin_1_3)))
def tr_ref16_Lin_2_0 : Tr := .n
theorem c_ref16_Lin (F : NP) (w0 : World) (hF : ∀ k, F k → k < w0.heap.size) (l1 : List GToken) (at1 : Int) (a1 : Option Addr) (c1 : Nat) (hc : AllCl [Cl.sl cGToken a1 c1 l1] F w0) (r : GLin × Int × Int)
  (h : m_ref16_Lin l1 at1 = some r) :
  Calls Tryz.prog 13 #[vs a1 l1.length c1, vi at1] w0 fun e w => ∃ (a2 : Option Addr) (c2 : Nat), e = .returned (Value.tuple #[(Value.agg (ALin r.1 a2 c2)), vi r.2.1, vi r.2.2]) ∧ Ext w0 w ∧ AllCl [Cl.sl cGMono a2 c2 r.1.L] F w := by
 refine enterK Tryz.func13 rfl Tryz.ntmps13 rfl ?_
 have hI := Bun.start hF hc
 clear hc
 rw [m_ref16_Lin] at h
 refine sr (l_alloc (cs := #[vi 0, vs none 0 0]) hI gn rfl rfl zero_27 rfl ?_)
 clear hI; intro b1 c3 w1 hI
 refine sac ?_
 refine sac ?_
 refine nk (c_seq (sr (sm ?_)))
 refine sq (y_lss rfl et ev_const) ?_
 refine sm ?_
 refine s_gval (g_false rfl rfl rfl rfl) rfl (fun hc => y_move rfl et) ?_
 refine s_gval (g_false rfl rfl rfl rfl) rfl (fun hc => y_move rfl et) ?_
 refine s_gval (g_false rfl rfl rfl rfl) rfl (fun hc => y_lenl rfl u22 (ev_gv et hc)) ?_
 refine s_gval (g_false rfl rfl rfl rfl) rfl (fun hc => y_gtr rfl (ev_gv et hc) (ev_gv et hc)) ?_
 refine sq (y_or rfl et et) ?_
 refine nk (cif h et (fun hb h => ?_) (fun hb h => ?_))
 ·refine sr (sq (y_build (vs := []) (cs := #[vi 0, vs none 0 0]) rfl trivial (by kernel_rfl)) ?_)
  refine l_store (new := [vi 0, vs none 0 0]) (cs' := #[vi 0, vs none 0 0]) hI .z gn rfl rfl et et rfl size_27 rfl rfl rfl ?_
  clear hI; intro c4 w2 hI
  refine sac ?_
  refine sac ?_
  refine nk (c_ret ?_)
  have hI := hI.add (c := Cl.sl cGMono none 0 ([] : List GMono)) SlC.nil
  obtain rfl := some_inj h
  exact q_ret (vs := [(Value.agg #[vi 0, vs none 0 0]), vi 0, vi 1]) Tryz.results13 ⟨⟨_, ev_tmp rfl rfl, load_agg (l := [vi 0, vs none 0 0]) u27 rfl size_27 (CellsAt.of_blk (hI.blk .z) rfl)⟩, ⟨ev_tmp rfl rfl, ⟨ev_tmp rfl rfl, trivial⟩⟩⟩ ⟨none, 0, rfl, hI.ext0, hI.fin ⟨.z, trivial⟩⟩
 refine c_skip (k_same (sr (sm ?_)))
 refine sm ?_
 refine sq (y_build (vs := [(0, vs a1 l1.length c1), (1, vi at1)]) (cs := #[vs a1 l1.length c1, vi at1, vi 0, vi 0, vi 0]) rfl ⟨rfl, et, ⟨rfl, et, trivial⟩⟩ (by kernel_rfl)) ?_
 obtain ⟨r1, hx1, h⟩ := bnd_some h
 refine s_call gn rfl (r_callF (vs := [(Value.agg #[vs a1 l1.length c1, vi at1, vi 0, vi 0, vi 0])]) rfl ok_32 ⟨et, trivial⟩) (Calls.mono (c_ref16_form (Dj F c3) w1 hI.lt (⟨l1, at1, 0, 0, 0⟩ : Gbrocaderef16_State) a1 c1 ⟨(hI.get .z), trivial⟩ r1 hx1) ?_)
 rintro _ w3 ⟨a3, c5, a4, c6, rfl, hx2, hl1⟩
 refine ⟨_, rfl, ?_⟩
 replace hI := (hI.ext hx2).adds hl1
 refine sm ?_
 refine sq (y_extract rfl et rfl) ?_
 refine sq (y_extract rfl et rfl) ?_
 refine l_alloc (cs := #[vi 0, vs none 0 0]) hI gn rfl rfl zero_27 rfl ?_
 clear hI; intro b2 c7 w4 hI
 refine l_alloc (cs := Zbrocaderef16_State) hI gn rfl rfl zero_72 rfl ?_
 clear hI; intro b3 c8 w5 hI
 refine l_store (new := (lLin r1.1 a3 c5)) (cs' := (ALin r1.1 a3 c5)) hI (.s .z) gn rfl rfl et et rfl size_27 rfl rfl rfl ?_
 clear hI; intro c9 w6 hI
 refine l_store (new := (lbrocaderef16_State r1.2 a4 c6)) (cs' := (Abrocaderef16_State r1.2 a4 c6)) hI .z gn rfl rfl et et rfl size_72 rfl rfl rfl ?_
 clear hI; intro c10 w7 hI
 refine nk (c_seq (sr (sq (y_fieldAddr rfl et u72 rfl size_28 rfl) ?_)))
 refine sq (y_load1 (v := (vi r1.2.E)) rfl et u28 rfl (CellsAt.of_blk (hI.blk .z) rfl)) ?_
 refine sq (y_neq rfl et ev_const) ?_
 refine nk (cif h et (fun hb h => ?_) (fun hb h => ?_))
 ·refine c_seq (c_drawX [5] false (.c (0, .q) (.c (1, .q) (.c (3, .q) (.three 2 (.two 4 tr_ref16_Lin_1_0 5 (.c (6, .q) tr_ref16_Lin_1_2)) 4 (.two 2 tr_ref16_Lin_1_0 5 tr_ref16_Lin_1_1) 5 (.two 2 (.c (6, .q) tr_ref16_Lin_1_2) 4 tr_ref16_Lin_1_1))))) hI (by kernel_rfl) (by kernel_rfl) ?_)
  clear hI; intro w13 hI
  refine a_join (α := NP) (T := tr_ref16_Lin_1_3) (fun x => [(0, vs a1 l1.length c1), (1, vi at1), (4, vp b1 0), (5, vi r1.2.Pos), (6, vi r1.2.E), (7, vp b2 0), (8, vp b3 0), (9, vi at1), (10, (vb (decide (at1 < 0)))), (11, (vb (decide (at1 < 0)))), (12, (gv (!(decide (at1 < 0))) (vi at1))), (13, (gv (!(decide (at1 < 0))) (vs a1 l1.length c1))), (14, (gv (!(decide (at1 < 0))) (vi (l1.length : Int)))), (15, (gv (!(decide (at1 < 0))) (vb (decide ((l1.length : Int) < at1))))), (16, (vb ((decide (at1 < 0)) || (decide ((l1.length : Int) < at1))))), (18, (Value.tuple #[(Value.agg (ALin r1.1 a3 c5)), (Value.agg (Abrocaderef16_State r1.2 a4 c6))])), (19, vs a1 l1.length c1), (20, vi at1), (21, (Value.agg #[vs a1 l1.length c1, vi at1, vi 0, vi 0, vi 0])), (22, (Value.tuple #[(Value.agg (ALin r1.1 a3 c5)), (Value.agg (Abrocaderef16_State r1.2 a4 c6))])), (23, (Value.agg (ALin r1.1 a3 c5))), (24, (Value.agg (Abrocaderef16_State r1.2 a4 c6))), (25, vp b3 3), (26, vi r1.2.E), (27, (vb (!decide (r1.2.E = 0)))), (28, (Value.agg #[vi 0, vs none 0 0])), (29, vp b3 4), (30, vi r1.2.Pos), (31, vp b3 3), (32, vi r1.2.E)]) (fun x w => Bun noM F w0 x w [MO.box b3 72 (Abrocaderef16_State r1.2 a4 c6), MO.box b2 27 (ALin r1.1 a3 c5), MO.box b1 27 #[vi 0, vs none 0 0]] [Cl.sl cGMono a3 c5 r1.1.L, Cl.sl cGToken a4 c6 r1.2.L, Cl.sl cGToken a1 c1 l1]) (fun x w => SN [] (DM true F x) w) ?_ ?_
  ·clear hI; rintro c15 w12 hI
   try dsimp only at hI ⊢
   unfold tr_ref16_Lin_1_3
   refine a_nil ?_
   refine k_next (e := [(4, vp b1 0), (5, vi r1.2.Pos), (6, vi r1.2.E)]) ⟨rfl, rfl, rfl, trivial⟩ ?_
   refine c_ret ?_
   have hI := hI.add (c := Cl.sl cGMono none 0 ([] : List GMono)) SlC.nil
   obtain rfl := some_inj h
   exact q_ret (vs := [(Value.agg #[vi 0, vs none 0 0]), vi r1.2.Pos, vi r1.2.E]) Tryz.results13 ⟨⟨_, ev_tmp rfl rfl, load_agg (l := [vi 0, vs none 0 0]) u27 rfl size_27 (CellsAt.of_blk (hI.blk (.s (.s .z))) rfl)⟩, ⟨ev_tmp rfl rfl, ⟨ev_tmp rfl rfl, trivial⟩⟩⟩ ⟨none, 0, rfl, hI.ext0, hI.fin ⟨.z, trivial⟩⟩
  intro hk_tr_ref16_Lin_1_3
  refine a_join (α := NP) (T := tr_ref16_Lin_1_2) (fun x => [(0, vs a1 l1.length c1), (1, vi at1), (4, vp b1 0), (5, vi r1.2.Pos), (6, vi 0), (7, vp b2 0), (8, vp b3 0), (9, vi at1), (10, (vb (decide (at1 < 0)))), (11, (vb (decide (at1 < 0)))), (12, (gv (!(decide (at1 < 0))) (vi at1))), (13, (gv (!(decide (at1 < 0))) (vs a1 l1.length c1))), (14, (gv (!(decide (at1 < 0))) (vi (l1.length : Int)))), (15, (gv (!(decide (at1 < 0))) (vb (decide ((l1.length : Int) < at1))))), (16, (vb ((decide (at1 < 0)) || (decide ((l1.length : Int) < at1))))), (18, (Value.tuple #[(Value.agg (ALin r1.1 a3 c5)), (Value.agg (Abrocaderef16_State r1.2 a4 c6))])), (19, vs a1 l1.length c1), (20, vi at1), (21, (Value.agg #[vs a1 l1.length c1, vi at1, vi 0, vi 0, vi 0])), (22, (Value.tuple #[(Value.agg (ALin r1.1 a3 c5)), (Value.agg (Abrocaderef16_State r1.2 a4 c6))])), (23, (Value.agg (ALin r1.1 a3 c5))), (24, (Value.agg (Abrocaderef16_State r1.2 a4 c6))), (25, vp b3 3), (26, vi r1.2.E), (27, (vb (!decide (r1.2.E = 0)))), (28, (Value.agg #[vi 0, vs none 0 0])), (29, vp b3 4), (30, vi r1.2.Pos), (31, vp b3 3)]) (fun x w => Bun noM F w0 x w [MO.box b3 72 (Abrocaderef16_State r1.2 a4 c6), MO.box b2 27 (ALin r1.1 a3 c5), MO.box b1 27 #[vi 0, vs none 0 0]] [Cl.sl cGMono a3 c5 r1.1.L, Cl.sl cGToken a4 c6 r1.2.L, Cl.sl cGToken a1 c1 l1]) (fun x w => SN [] (DM true F x) w) ?_ ?_
  ·clear hI; rintro c14 w11 hI
   try dsimp only at hI ⊢
   unfold tr_ref16_Lin_1_2
   refine a_val rfl gn rfl (y_load1 (v := (vi r1.2.E)) rfl et u28 rfl (CellsAt.of_blk (hI.blk .z) rfl)) SX.self ?_
   refine a_q rfl gn rfl (fun w' => y_assign rfl et) ?_
   exact a_sub (hk_tr_ref16_Lin_1_3 c14 _ (hI.arr (.c .z (.c .z (.c .z .n))) ⟨.z, (.s .z), (.s (.s .z)), trivial⟩)) ⟨rfl, rfl, rfl, rfl, rfl, rfl, rfl, rfl, rfl, rfl, rfl, rfl, rfl, rfl, rfl, rfl, rfl, rfl, rfl, rfl, rfl, rfl, rfl, rfl, rfl, rfl, rfl, rfl, rfl, rfl, trivial⟩
  intro hk_tr_ref16_Lin_1_2
  refine a_join (α := NP) (T := tr_ref16_Lin_1_1) (fun x => [(0, vs a1 l1.length c1), (1, vi at1), (4, vp b1 0), (5, vi 0), (6, vi 0), (7, vp b2 0), (8, vp b3 0), (9, vi at1), (10, (vb (decide (at1 < 0)))), (11, (vb (decide (at1 < 0)))), (12, (gv (!(decide (at1 < 0))) (vi at1))), (13, (gv (!(decide (at1 < 0))) (vs a1 l1.length c1))), (14, (gv (!(decide (at1 < 0))) (vi (l1.length : Int)))), (15, (gv (!(decide (at1 < 0))) (vb (decide ((l1.length : Int) < at1))))), (16, (vb ((decide (at1 < 0)) || (decide ((l1.length : Int) < at1))))), (18, (Value.tuple #[(Value.agg (ALin r1.1 a3 c5)), (Value.agg (Abrocaderef16_State r1.2 a4 c6))])), (19, vs a1 l1.length c1), (20, vi at1), (21, (Value.agg #[vs a1 l1.length c1, vi at1, vi 0, vi 0, vi 0])), (22, (Value.tuple #[(Value.agg (ALin r1.1 a3 c5)), (Value.agg (Abrocaderef16_State r1.2 a4 c6))])), (23, (Value.agg (ALin r1.1 a3 c5))), (24, (Value.agg (Abrocaderef16_State r1.2 a4 c6))), (25, vp b3 3), (26, vi r1.2.E), (27, (vb (!decide (r1.2.E = 0)))), (28, (Value.agg #[vi 0, vs none 0 0])), (29, vp b3 4), (31, vp b3 3), (32, vi r1.2.E)]) (fun x w => Bun noM F w0 x w [MO.box b3 72 (Abrocaderef16_State r1.2 a4 c6), MO.box b2 27 (ALin r1.1 a3 c5), MO.box b1 27 #[vi 0, vs none 0 0]] [Cl.sl cGMono a3 c5 r1.1.L, Cl.sl cGToken a4 c6 r1.2.L, Cl.sl cGToken a1 c1 l1]) (fun x w => SN [] (DM true F x) w) ?_ ?_
  ·clear hI; rintro c13 w10 hI
   try dsimp only at hI ⊢
   unfold tr_ref16_Lin_1_1
   refine a_val rfl gn rfl (y_load1 (v := (vi r1.2.Pos)) rfl et u3 rfl (CellsAt.of_blk (hI.blk .z) rfl)) SX.self ?_
   refine a_q rfl gn rfl (fun w' => y_assign rfl et) ?_
   refine a_q rfl gn rfl (fun w' => y_assign rfl et) ?_
   exact a_sub (hk_tr_ref16_Lin_1_3 c13 _ (hI.arr (.c .z (.c .z (.c .z .n))) ⟨.z, (.s .z), (.s (.s .z)), trivial⟩)) ⟨rfl, rfl, rfl, rfl, rfl, rfl, rfl, rfl, rfl, rfl, rfl, rfl, rfl, rfl, rfl, rfl, rfl, rfl, rfl, rfl, rfl, rfl, rfl, rfl, rfl, rfl, rfl, rfl, rfl, rfl, trivial⟩
  intro hk_tr_ref16_Lin_1_1
  refine a_join (α := NP) (T := tr_ref16_Lin_1_0) (fun x => [(0, vs a1 l1.length c1), (1, vi at1), (4, vp b1 0), (5, vi 0), (6, vi 0), (7, vp b2 0), (8, vp b3 0), (9, vi at1), (10, (vb (decide (at1 < 0)))), (11, (vb (decide (at1 < 0)))), (12, (gv (!(decide (at1 < 0))) (vi at1))), (13, (gv (!(decide (at1 < 0))) (vs a1 l1.length c1))), (14, (gv (!(decide (at1 < 0))) (vi (l1.length : Int)))), (15, (gv (!(decide (at1 < 0))) (vb (decide ((l1.length : Int) < at1))))), (16, (vb ((decide (at1 < 0)) || (decide ((l1.length : Int) < at1))))), (18, (Value.tuple #[(Value.agg (ALin r1.1 a3 c5)), (Value.agg (Abrocaderef16_State r1.2 a4 c6))])), (19, vs a1 l1.length c1), (20, vi at1), (21, (Value.agg #[vs a1 l1.length c1, vi at1, vi 0, vi 0, vi 0])), (22, (Value.tuple #[(Value.agg (ALin r1.1 a3 c5)), (Value.agg (Abrocaderef16_State r1.2 a4 c6))])), (23, (Value.agg (ALin r1.1 a3 c5))), (24, (Value.agg (Abrocaderef16_State r1.2 a4 c6))), (25, vp b3 3), (26, vi r1.2.E), (27, (vb (!decide (r1.2.E = 0)))), (28, (Value.agg #[vi 0, vs none 0 0])), (29, vp b3 4), (30, vi r1.2.Pos), (31, vp b3 3), (32, vi r1.2.E)]) (fun x w => Bun noM F w0 x w [MO.box b3 72 (Abrocaderef16_State r1.2 a4 c6), MO.box b2 27 (ALin r1.1 a3 c5), MO.box b1 27 #[vi 0, vs none 0 0]] [Cl.sl cGMono a3 c5 r1.1.L, Cl.sl cGToken a4 c6 r1.2.L, Cl.sl cGToken a1 c1 l1]) (fun x w => SN [5] (DM false F x) w) ?_ ?_
  ·clear hI; rintro c12 w9 hI
   try dsimp only at hI ⊢
   unfold tr_ref16_Lin_1_0
   refine a_turn (F := F) (C := c12) rfl rfl ?_
   refine la_store (new := [vi 0, vs none 0 0]) (cs' := #[vi 0, vs none 0 0]) hI (.s (.s .z)) rfl gn rfl rfl et et rfl size_27 rfl rfl rfl ?_
   clear hI; intro c11 w8 hI
   refine a_q rfl gn rfl (fun w' => y_assign rfl et) ?_
   refine a_q rfl gn rfl (fun w' => y_assign rfl et) ?_
   exact a_sub (hk_tr_ref16_Lin_1_3 c11 _ (hI.arr (.c .z (.c .z (.c .z .n))) ⟨.z, (.s .z), (.s (.s .z)), trivial⟩)) ⟨rfl, rfl, rfl, rfl, rfl, rfl, rfl, rfl, rfl, rfl, rfl, rfl, rfl, rfl, rfl, rfl, rfl, rfl, rfl, rfl, rfl, rfl, rfl, rfl, rfl, rfl, rfl, rfl, rfl, rfl, trivial⟩
  intro hk_tr_ref16_Lin_1_0
  refine a_q rfl gn rfl (fun w' => y_build (vs := []) (cs := #[vi 0, vs none 0 0]) rfl trivial (by kernel_rfl)) ?_
  refine a_q rfl gn rfl (fun w' => y_fieldAddr rfl et u72 rfl size_3 rfl) ?_
  refine a_q rfl gn rfl (fun w' => y_fieldAddr rfl et u72 rfl size_28 rfl) ?_
  refine a_three ?_ ?_ ?_
  ·skip
   refine a_val rfl gn rfl (y_load1 (v := (vi r1.2.Pos)) rfl et u3 rfl (CellsAt.of_blk (hI.blk .z) rfl)) SX.self ?_
   refine a_two ?_ ?_
   ·skip
    refine a_val rfl gn rfl (y_load1 (v := (vi r1.2.E)) rfl et u28 rfl (CellsAt.of_blk (hI.blk .z) rfl)) SX.self ?_
    exact a_sub (hk_tr_ref16_Lin_1_0 c10 _ (hI.arr (.c .z (.c .z (.c .z .n))) ⟨.z, (.s .z), (.s (.s .z)), trivial⟩)) ⟨rfl, rfl, rfl, rfl, rfl, rfl, rfl, rfl, rfl, rfl, rfl, rfl, rfl, rfl, rfl, rfl, rfl, rfl, rfl, rfl, rfl, rfl, rfl, rfl, rfl, rfl, rfl, rfl, rfl, rfl, trivial⟩
   refine a_turnT (F := F) (C := c10) rfl rfl ?_
   refine la_store (new := [vi 0, vs none 0 0]) (cs' := #[vi 0, vs none 0 0]) hI (.s (.s .z)) rfl gn rfl rfl et et rfl size_27 rfl rfl rfl ?_
   clear hI; intro c11 w8 hI
   refine a_q rfl gn rfl (fun w' => y_assign rfl et) ?_
   exact a_sub (hk_tr_ref16_Lin_1_2 c11 _ (hI.arr (.c .z (.c .z (.c .z .n))) ⟨.z, (.s .z), (.s (.s .z)), trivial⟩)) ⟨rfl, rfl, rfl, rfl, rfl, rfl, rfl, rfl, rfl, rfl, rfl, rfl, rfl, rfl, rfl, rfl, rfl, rfl, rfl, rfl, rfl, rfl, rfl, rfl, rfl, rfl, rfl, rfl, rfl, trivial⟩
  ·skip
   refine a_val rfl gn rfl (y_load1 (v := (vi r1.2.E)) rfl et u28 rfl (CellsAt.of_blk (hI.blk .z) rfl)) SX.self ?_
   refine a_two ?_ ?_
   ·skip
    refine a_val rfl gn rfl (y_load1 (v := (vi r1.2.Pos)) rfl et u3 rfl (CellsAt.of_blk (hI.blk .z) rfl)) SX.self ?_
    exact a_sub (hk_tr_ref16_Lin_1_0 c10 _ (hI.arr (.c .z (.c .z (.c .z .n))) ⟨.z, (.s .z), (.s (.s .z)), trivial⟩)) ⟨rfl, rfl, rfl, rfl, rfl, rfl, rfl, rfl, rfl, rfl, rfl, rfl, rfl, rfl, rfl, rfl, rfl, rfl, rfl, rfl, rfl, rfl, rfl, rfl, rfl, rfl, rfl, rfl, rfl, rfl, trivial⟩
   refine a_turnT (F := F) (C := c10) rfl rfl ?_
   refine la_store (new := [vi 0, vs none 0 0]) (cs' := #[vi 0, vs none 0 0]) hI (.s (.s .z)) rfl gn rfl rfl et et rfl size_27 rfl rfl rfl ?_
   clear hI; intro c11 w8 hI
   exact a_sub (hk_tr_ref16_Lin_1_1 c11 _ (hI.arr (.c .z (.c .z (.c .z .n))) ⟨.z, (.s .z), (.s (.s .z)), trivial⟩)) ⟨rfl, rfl, rfl, rfl, rfl, rfl, rfl, rfl, rfl, rfl, rfl, rfl, rfl, rfl, rfl, rfl, rfl, rfl, rfl, rfl, rfl, rfl, rfl, rfl, rfl, rfl, rfl, rfl, rfl, trivial⟩
  refine a_turnT (F := F) (C := c10) rfl rfl ?_
  refine la_store (new := [vi 0, vs none 0 0]) (cs' := #[vi 0, vs none 0 0]) hI (.s (.s .z)) rfl gn rfl rfl et et rfl size_27 rfl rfl rfl ?_
  clear hI; intro c11 w8 hI
  refine a_two ?_ ?_
  ·skip
   refine a_val rfl gn rfl (y_load1 (v := (vi r1.2.Pos)) rfl et u3 rfl (CellsAt.of_blk (hI.blk .z) rfl)) SX.self ?_
   refine a_q rfl gn rfl (fun w' => y_assign rfl et) ?_
   exact a_sub (hk_tr_ref16_Lin_1_2 c11 _ (hI.arr (.c .z (.c .z (.c .z .n))) ⟨.z, (.s .z), (.s (.s .z)), trivial⟩)) ⟨rfl, rfl, rfl, rfl, rfl, rfl, rfl, rfl, rfl, rfl, rfl, rfl, rfl, rfl, rfl, rfl, rfl, rfl, rfl, rfl, rfl, rfl, rfl, rfl, rfl, rfl, rfl, rfl, rfl, trivial⟩
  refine a_val rfl gn rfl (y_load1 (v := (vi r1.2.E)) rfl et u28 rfl (CellsAt.of_blk (hI.blk .z) rfl)) SX.self ?_
  exact a_sub (hk_tr_ref16_Lin_1_1 c11 _ (hI.arr (.c .z (.c .z (.c .z .n))) ⟨.z, (.s .z), (.s (.s .z)), trivial⟩)) ⟨rfl, rfl, rfl, rfl, rfl, rfl, rfl, rfl, rfl, rfl, rfl, rfl, rfl, rfl, rfl, rfl, rfl, rfl, rfl, rfl, rfl, rfl, rfl, rfl, rfl, rfl, rfl, rfl, rfl, trivial⟩
 refine c_skip (k_same (c_seq (c_drawX [3] false (.c (0, .q) (.c (1, .q) (.two 2 (.c (3, .s) (.c (4, .q) (.c (5, .q) tr_ref16_Lin_2_0))) 3 (.c (2, .s) (.c (4, .q) (.c (5, .q) tr_ref16_Lin_2_0)))))) hI (by kernel_rfl) (by kernel_rfl) ?_)))
 clear hI; intro w16 hI
 refine a_join (α := NP) (T := tr_ref16_Lin_2_0) (fun x => [(0, vs a1 l1.length c1), (1, vi at1), (4, vp b1 0), (5, vi r1.2.At), (6, vi 0), (7, vp b2 0), (8, vp b3 0), (9, vi at1), (10, (vb (decide (at1 < 0)))), (11, (vb (decide (at1 < 0)))), (12, (gv (!(decide (at1 < 0))) (vi at1))), (13, (gv (!(decide (at1 < 0))) (vs a1 l1.length c1))), (14, (gv (!(decide (at1 < 0))) (vi (l1.length : Int)))), (15, (gv (!(decide (at1 < 0))) (vb (decide ((l1.length : Int) < at1))))), (16, (vb ((decide (at1 < 0)) || (decide ((l1.length : Int) < at1))))), (18, (Value.tuple #[(Value.agg (ALin r1.1 a3 c5)), (Value.agg (Abrocaderef16_State r1.2 a4 c6))])), (19, vs a1 l1.length c1), (20, vi at1), (21, (Value.agg #[vs a1 l1.length c1, vi at1, vi 0, vi 0, vi 0])), (22, (Value.tuple #[(Value.agg (ALin r1.1 a3 c5)), (Value.agg (Abrocaderef16_State r1.2 a4 c6))])), (23, (Value.agg (ALin r1.1 a3 c5))), (24, (Value.agg (Abrocaderef16_State r1.2 a4 c6))), (25, vp b3 3), (26, vi r1.2.E), (27, (vb (!decide (r1.2.E = 0)))), (33, (Value.agg (ALin r1.1 a3 c5))), (34, vp b3 1), (35, vi r1.2.At)]) (fun x w => Bun noM F w0 x w [MO.box b3 72 (Abrocaderef16_State r1.2 a4 c6), MO.box b2 27 (ALin r1.1 a3 c5), MO.box b1 27 (ALin r1.1 a3 c5)] [Cl.sl cGMono a3 c5 r1.1.L, Cl.sl cGToken a4 c6 r1.2.L, Cl.sl cGToken a1 c1 l1]) (fun x w => SN [] (DM true F x) w) ?_ ?_
 ·clear hI; rintro c17 w15 hI
  try dsimp only at hI ⊢
  unfold tr_ref16_Lin_2_0
  refine a_nil ?_
  refine k_next (e := [(4, vp b1 0), (5, vi r1.2.At), (6, vi 0)]) ⟨rfl, rfl, rfl, trivial⟩ ?_
  refine c_ret ?_
  obtain rfl := some_inj h
  exact q_ret (vs := [(Value.agg (ALin r1.1 a3 c5)), vi r1.2.At, vi 0]) Tryz.results13 ⟨⟨_, ev_tmp rfl rfl, load_agg (l := (lLin r1.1 a3 c5)) u27 rfl size_27 (CellsAt.of_blk (hI.blk (.s (.s .z))) rfl)⟩, ⟨ev_tmp rfl rfl, ⟨ev_tmp rfl rfl, trivial⟩⟩⟩ ⟨a3, c5, rfl, hI.ext0, hI.fin ⟨.z, trivial⟩⟩
 intro hk_tr_ref16_Lin_2_0
 refine a_read rfl gn rfl (fun w' hw' => (y_loadN (l := (lLin r1.1 a3 c5)) rfl et u27 rfl size_27 ((CA.blk (hI.blk (.s .z)) rfl).at_ (SX.any rfl hw')))) (by kernel_rfl) ?_
 refine a_q rfl gn rfl (fun w' => y_fieldAddr rfl et u72 rfl size_3 rfl) ?_
 refine a_two ?_ ?_
 ·skip
  refine a_val rfl gn rfl (y_load1 (v := (vi r1.2.At)) rfl et u3 rfl (CellsAt.of_blk (hI.blk .z) rfl)) SX.self ?_
  refine a_turn (F := F) (C := c10) rfl rfl ?_
  refine la_store (new := (lLin r1.1 a3 c5)) (cs' := (ALin r1.1 a3 c5)) hI (.s (.s .z)) rfl gn rfl rfl et et rfl size_27 rfl rfl rfl ?_
  clear hI; intro c16 w14 hI
  refine a_q rfl gn rfl (fun w' => y_assign rfl et) ?_
  refine a_q rfl gn rfl (fun w' => y_assign rfl ev_const) ?_
  exact a_sub (hk_tr_ref16_Lin_2_0 c16 _ (hI.arr (.c .z (.c .z (.c .z .n))) ⟨.z, (.s .z), (.s (.s .z)), trivial⟩)) ⟨rfl, rfl, rfl, rfl, rfl, rfl, rfl, rfl, rfl, rfl, rfl, rfl, rfl, rfl, rfl, rfl, rfl, rfl, rfl, rfl, rfl, rfl, rfl, rfl, rfl, rfl, rfl, rfl, trivial⟩
 refine a_turnT (F := F) (C := c10) rfl rfl ?_
 refine la_store (new := (lLin r1.1 a3 c5)) (cs' := (ALin r1.1 a3 c5)) hI (.s (.s .z)) rfl gn rfl rfl et et rfl size_27 rfl rfl rfl ?_
 clear hI; intro c16 w14 hI
 refine a_val rfl gn rfl (y_load1 (v := (vi r1.2.At)) rfl et u3 rfl (CellsAt.of_blk (hI.blk .z) rfl)) SX.self ?_
 refine a_q rfl gn rfl (fun w' => y_assign rfl et) ?_
 refine a_q rfl gn rfl (fun w' => y_assign rfl ev_const) ?_
 exact a_sub (hk_tr_ref16_Lin_2_0 c16 _ (hI.arr (.c .z (.c .z (.c .z .n))) ⟨.z, (.s .z), (.s (.s .z)), trivial⟩)) ⟨rfl, rfl, rfl, rfl, rfl, rfl, rfl, rfl, rfl, rfl, rfl, rfl, rfl, rfl, rfl, rfl, rfl, rfl, rfl, rfl, rfl, rfl, rfl, rfl, rfl, rfl, rfl, rfl, trivial⟩
theorem c_law16_ParserForms (F : NP) (w0 : World) (hF : ∀ k, F k → k < w0.heap.size) (l1 : List GToken) (at1 : Int) (a1 : Option Addr) (c1 : Nat) (hc : AllCl [Cl.sl cGToken a1 c1 l1, clSpace] F w0) (r : Bool)
  (h : m_law16_ParserForms l1 at1 = some r) :
  Calls Tryz.prog 3 #[vs a1 l1.length c1, vi at1] w0 fun e w => e = .returned (vb r) ∧ Ext w0 w ∧ AllCl [] F w := by
 refine enterK Tryz.func3 rfl Tryz.ntmps3 rfl ?_
 have hI := Bun.start hF hc
 clear hc
 rw [m_law16_ParserForms] at h
 refine T ?_
 refine c_seq (T ?_)
 obtain ⟨r1, hx1, h⟩ := bnd_some h
 refine s_call gn rfl (r_callF (vs := [vs a1 l1.length c1, vi 300]) rfl ok_10 ⟨et, ⟨ev_const, trivial⟩⟩) (Calls.mono (c_law16_few (Dj F noM) w0 hI.lt l1 300 a1 c1 ⟨(hI.get .z), trivial⟩ r1 hx1) ?_)
 rintro _ w1 ⟨rfl, hx2, hl1⟩
 refine ⟨_, rfl, ?_⟩
 replace hI := (hI.ext hx2)
 refine T ?_
 refine cif h et (fun hb h => ?_) (fun hb h => ?_)
 ·refine sr ?_
  obtain ⟨r2, hx3, h⟩ := bnd_some h
  refine s_call gn rfl (r_callF (vs := []) rfl ok_11 trivial) (Calls.mono (c_law16_examples (Dj F noM) w1 hI.lt ⟨(hI.get (.s .z)), trivial⟩ r2 hx3) ?_)
  rintro _ w2 ⟨rfl, hx4, hl2⟩
  refine ⟨_, rfl, ?_⟩
  replace hI := (hI.ext hx4)
  refine T ?_
  refine c_ret ?_
  obtain rfl := some_inj h
  exact QF hI
 refine T ?_
 obtain ⟨r3, hx5, h⟩ := bnd_some h
 refine s_call gn rfl (r_callF (vs := [vs a1 l1.length c1, vi at1]) rfl ok_12 ⟨et, ⟨et, trivial⟩⟩) (Calls.mono (c_parser_Lin (Dj F noM) w1 hI.lt l1 at1 a1 c1 ⟨(hI.get .z), (hI.get (.s .z)), trivial⟩ r3 hx5) ?_)
 rintro _ w3 ⟨a2, c2, rfl, hx6, hl3⟩
 refine ⟨_, rfl, ?_⟩
 replace hI := (hI.ext hx6).adds hl3; dsimp only [ca, na] at hI
 refine T ?_
 refine l_alloc (cs := #[vi 0, vs none 0 0]) hI gn rfl rfl zero_27 rfl ?_
 clear hI; intro b1 c3 w4 hI
 refine l_store (new := (lLin r3.1 a2 c2)) (cs' := (ALin r3.1 a2 c2)) hI .z gn rfl rfl et et rfl size_27 rfl rfl rfl ?_
 clear hI; intro c4 w5 hI
 refine T ?_
 obtain ⟨r4, hx7, h⟩ := bnd_some h
 refine s_call gn rfl (r_callF (vs := [vs a1 l1.length c1, vi at1]) rfl ok_13 ⟨et, ⟨et, trivial⟩⟩) (Calls.mono (c_ref16_Lin (Dj F c4) w5 hI.lt l1 at1 a1 c1 ⟨(hI.get (.s .z)), trivial⟩ r4 hx7) ?_)
 rintro _ w6 ⟨a3, c5, rfl, hx8, hl4⟩
 refine ⟨_, rfl, ?_⟩
 replace hI := (hI.ext hx8).adds hl4; dsimp only [ca, na] at hI
 refine T ?_
 refine l_alloc (cs := #[vi 0, vs none 0 0]) hI gn rfl rfl zero_27 rfl ?_
 clear hI; intro b2 c6 w7 hI
 refine l_store (new := (lLin r4.1 a3 c5)) (cs' := (ALin r4.1 a3 c5)) hI .z gn rfl rfl et et rfl size_27 rfl rfl rfl ?_
 clear hI; intro c7 w8 hI
 refine T ?_
 obtain ⟨r5, hx9, h⟩ := bnd_some h
 refine s_call gn rfl (r_callF (vs := [(Value.agg (ALin r3.1 a2 c2)), (Value.agg (ALin r4.1 a3 c5))]) rfl ok_14 ⟨et, ⟨et, trivial⟩⟩) (Calls.mono (c_base_Lin (Dj F c7) w8 hI.lt r3.1 r4.1 a2 c2 a3 c5 ⟨(hI.get (.s .z)), (hI.get .z), trivial⟩ r5 hx9) ?_)
 rintro _ w9 ⟨rfl, hx10, hl5⟩
 refine ⟨_, rfl, ?_⟩
 replace hI := (hI.ext hx10)
 refine T ?_
 obtain ⟨r6, hx11, h⟩ := bnd_some h
 replace hx11 := gd_some hx11
 refine s_gcallU (v := (vb r6)) (g_true rfl rfl rfl rfl) rfl (fun hc => (r_callF (vs := []) rfl ok_11 trivial)) (fun hc => (c_law16_examples (Dj F c7) w9 hI.lt ⟨(hI.get (.s (.s (.s .z)))), trivial⟩ r6 (hx11 hc)).mono fun _ _ k => ⟨k.1, k.2.1⟩) ?_
 intro w10 hx12; replace hI := hI.ext hx12
 refine T ?_
 refine c_ret ?_
 obtain rfl := some_inj h
 exact QF hI
end Go.Proofs.YtmhoikfoogemnaaGreatDoor
