/- Each call returns what its plain function gives: printed by a program of my own; Lean checks it. -/
import Derived.Test.YtlakfanockhngaaGreatDoorSCQ9c
namespace Go.Proofs.YtlakfanockhngaaGreatDoor
open Go Go.RowKit Go.Vc
set_option linter.unusedVariables false
set_option linter.unusedSimpArgs false

set_option maxRecDepth 100000 in
set_option maxHeartbeats 4000000 in
theorem c_law12_TensorZips (F : NP) (w0 : World) (hF : ∀ k, F k → k < w0.heap.size) (a1 : GTensor) (b1 : GTensor) (op1 : Int) (stop1 : Int) (a2 : Option Addr) (c1 : Nat) (a3 : Option Addr) (c2 : Nat) (a4 : Option Addr) (c3 : Nat) (a5 : Option Addr) (c4 : Nat) (hc : AllCl [Cl.sl (cInt .i64) a2 c1 a1.Dims, Cl.sl cGVal a3 c2 a1.Vals, Cl.sl (cInt .i64) a4 c3 b1.Dims, Cl.sl cGVal a5 c4 b1.Vals, clPow10] F w0) (r : Bool)
  (h : m_law12_TensorZips a1 b1 op1 stop1 = some r) :
  Calls Tryz.prog 9 #[(Value.agg #[(vi a1.Type_.Kind), (vi a1.Type_.Bits), (vi a1.Type_.Frac), (vi a1.Type_.Round), (vi a1.Type_.Over), (vs a2 a1.Dims.length c1), (vs a3 a1.Vals.length c2)]), (Value.agg #[(vi b1.Type_.Kind), (vi b1.Type_.Bits), (vi b1.Type_.Frac), (vi b1.Type_.Round), (vi b1.Type_.Over), (vs a4 b1.Dims.length c3), (vs a5 b1.Vals.length c4)]), (vi op1), (vi stop1)] w0 fun e w => e = .returned (vb r) ∧ Ext w0 w ∧ AllCl [] F w := by
 refine enterK (l := [(Value.agg #[(vi a1.Type_.Kind), (vi a1.Type_.Bits), (vi a1.Type_.Frac), (vi a1.Type_.Round), (vi a1.Type_.Over), (vs a2 a1.Dims.length c1), (vs a3 a1.Vals.length c2)]), (Value.agg #[(vi b1.Type_.Kind), (vi b1.Type_.Bits), (vi b1.Type_.Frac), (vi b1.Type_.Round), (vi b1.Type_.Over), (vs a4 b1.Dims.length c3), (vs a5 b1.Vals.length c4)]), (vi op1), (vi stop1)]) Tryz.func9 rfl Tryz.ntmps9 rfl ?_
 have hI := Bun.start hF hc
 clear hc
 rw [m_law12_TensorZips] at h
 refine sr ?_
 refine l_box (v := (Value.agg #[(vi a1.Type_.Kind), (vi a1.Type_.Bits), (vi a1.Type_.Frac), (vi a1.Type_.Round), (vi a1.Type_.Over), (vs a2 a1.Dims.length c1), (vs a3 a1.Vals.length c2)])) (cs := #[(vi a1.Type_.Kind), (vi a1.Type_.Bits), (vi a1.Type_.Frac), (vi a1.Type_.Round), (vi a1.Type_.Over), (vs a2 a1.Dims.length c1), (vs a3 a1.Vals.length c2)]) hI gn rfl rfl et rfl ?_
 clear hI; intro b2 c5 w1 hI
 obtain ⟨c6, hI⟩ := hI.relBox .z
 refine l_box (v := (Value.agg #[(vi b1.Type_.Kind), (vi b1.Type_.Bits), (vi b1.Type_.Frac), (vi b1.Type_.Round), (vi b1.Type_.Over), (vs a4 b1.Dims.length c3), (vs a5 b1.Vals.length c4)])) (cs := #[(vi b1.Type_.Kind), (vi b1.Type_.Bits), (vi b1.Type_.Frac), (vi b1.Type_.Round), (vi b1.Type_.Over), (vs a4 b1.Dims.length c3), (vs a5 b1.Vals.length c4)]) hI gn rfl rfl et rfl ?_
 clear hI; intro b3 c7 w2 hI
 obtain ⟨c8, hI⟩ := hI.relBox .z
 refine l_box (v := (vi op1)) (cs := #[(vi op1)]) hI gn rfl rfl et rfl ?_
 clear hI; intro b4 c9 w3 hI
 obtain ⟨c10, hI⟩ := hI.relBox .z
 refine l_box (v := (vi stop1)) (cs := #[(vi stop1)]) hI gn rfl rfl et rfl ?_
 clear hI; intro b5 c11 w4 hI
 obtain ⟨c12, hI⟩ := hI.relBox .z
 refine sac ?_
 refine nk ?_
 refine c_seq ?_
 refine sr ?_
 refine sq (y_loadN (l := [(vi a1.Type_.Kind), (vi a1.Type_.Bits), (vi a1.Type_.Frac), (vi a1.Type_.Round), (vi a1.Type_.Over), (vs a2 a1.Dims.length c1), (vs a3 a1.Vals.length c2)]) rfl et Tryz.underlying27 rfl size_27 (hI.kblk (l := [(vi a1.Type_.Kind), (vi a1.Type_.Bits), (vi a1.Type_.Frac), (vi a1.Type_.Round), (vi a1.Type_.Over), (vs a2 a1.Dims.length c1), (vs a3 a1.Vals.length c2)]) (.s (.s (.s .z))) rfl).1) ?_
 obtain ⟨r1, hx1, h⟩ := bnd_some h
 refine s_call gn rfl (r_callF (vs := [(Value.agg #[(vi a1.Type_.Kind), (vi a1.Type_.Bits), (vi a1.Type_.Frac), (vi a1.Type_.Round), (vi a1.Type_.Over), (vs a2 a1.Dims.length c1), (vs a3 a1.Vals.length c2)]), (vi 1000)]) rfl ok_12 ⟨et, ⟨ev_const, trivial⟩⟩) (Calls.mono (c_law12_Small (Dj F c12) w4 hI.lt a1 1000 a2 c1 a3 c2 ⟨(hI.get (.s (.s (.s (.s .z))))), (hI.get (.s (.s (.s (.s (.s .z)))))), trivial⟩ r1 hx1) ?_)
 rintro _ w5 ⟨rfl, hx2, hl1⟩
 refine ⟨_, rfl, ?_⟩
 replace hI := (hI.ext hx2)
 refine sq (y_not rfl et) ?_
 refine sm ?_
 refine s_gval (g_false rfl rfl rfl rfl) rfl (fun hc => (y_loadN (l := [(vi b1.Type_.Kind), (vi b1.Type_.Bits), (vi b1.Type_.Frac), (vi b1.Type_.Round), (vi b1.Type_.Over), (vs a4 b1.Dims.length c3), (vs a5 b1.Vals.length c4)]) rfl et Tryz.underlying27 rfl size_27 (hI.kblk (l := [(vi b1.Type_.Kind), (vi b1.Type_.Bits), (vi b1.Type_.Frac), (vi b1.Type_.Round), (vi b1.Type_.Over), (vs a4 b1.Dims.length c3), (vs a5 b1.Vals.length c4)]) (.s (.s .z)) rfl).1)) ?_
 obtain ⟨r2, hx3, h⟩ := bnd_some h
 replace hx3 := gd_some hx3
 refine s_gcallU (v := (vb r2)) (g_false rfl rfl rfl rfl) rfl (fun hc => (r_callF (vs := [(Value.agg #[(vi b1.Type_.Kind), (vi b1.Type_.Bits), (vi b1.Type_.Frac), (vi b1.Type_.Round), (vi b1.Type_.Over), (vs a4 b1.Dims.length c3), (vs a5 b1.Vals.length c4)]), (vi 1000)]) rfl ok_12 ⟨(ev_gv et hc), ⟨ev_const, trivial⟩⟩)) (fun hc => (c_law12_Small (Dj F c12) w5 hI.lt b1 1000 a4 c3 a5 c4 ⟨(hI.get (.s (.s (.s (.s (.s (.s .z))))))), (hI.get (.s (.s (.s (.s (.s (.s (.s .z)))))))), trivial⟩ r2 (hx3 hc)).mono fun _ _ k => ⟨k.1, k.2.1⟩) ?_
 intro w6 hx4; replace hI := hI.ext hx4
 refine s_gval (g_false rfl rfl rfl rfl) rfl (fun hc => (y_not rfl (ev_gv et hc))) ?_
 refine sq (y_or rfl et et) ?_
 refine nk ?_
 refine c_cond (b := (!r1) || (!r2)) et (fun hb => ?_) (fun hb => ?_)
 ·replace h := ite_t hb h
  refine sr ?_
  obtain ⟨r3, hx5, h⟩ := bnd_some h
  refine s_call gn rfl (r_callF (vs := []) rfl ok_13 trivial) (Calls.mono (c_law12_examples (Dj F c12) w6 hI.lt ⟨(hI.get (.s (.s (.s (.s (.s (.s (.s (.s .z))))))))), trivial⟩ r3 hx5) ?_)
  rintro _ w7 ⟨rfl, hx6, hl3⟩
  refine ⟨_, rfl, ?_⟩
  replace hI := (hI.ext hx6)
  refine sa ?_
  refine nk ?_
  refine c_ret ?_
  obtain rfl := some_inj h
  exact q_ret (vs := [(vb r3)]) Tryz.results9 ⟨ev_tmp rfl rfl, trivial⟩ ⟨rfl, hI.ext0, hI.fin trivial⟩
 ·replace h := ite_f hb h
  refine c_skip ?_
  refine k_same ?_
  refine sr ?_
  refine l_alloc (cs := #[(vi 0)]) hI gn rfl rfl zero_3 rfl ?_
  clear hI; intro b6 c13 w8 hI
  refine l_store (new := [(vi 0)]) (cs' := #[(vi 0)]) hI .z gn rfl rfl et ev_const rfl size_3 rfl rfl rfl ?_
  clear hI; intro c14 w9 hI
  refine nk ?_
  refine sr ?_
  refine sq (y_loadN (l := [(vi a1.Type_.Kind), (vi a1.Type_.Bits), (vi a1.Type_.Frac), (vi a1.Type_.Round), (vi a1.Type_.Over), (vs a2 a1.Dims.length c1), (vs a3 a1.Vals.length c2)]) rfl et Tryz.underlying27 rfl size_27 (hI.kblk (l := [(vi a1.Type_.Kind), (vi a1.Type_.Bits), (vi a1.Type_.Frac), (vi a1.Type_.Round), (vi a1.Type_.Over), (vs a2 a1.Dims.length c1), (vs a3 a1.Vals.length c2)]) (.s (.s (.s .z))) rfl).1) ?_
  refine sq (y_loadN (l := [(vi b1.Type_.Kind), (vi b1.Type_.Bits), (vi b1.Type_.Frac), (vi b1.Type_.Round), (vi b1.Type_.Over), (vs a4 b1.Dims.length c3), (vs a5 b1.Vals.length c4)]) rfl et Tryz.underlying27 rfl size_27 (hI.kblk (l := [(vi b1.Type_.Kind), (vi b1.Type_.Bits), (vi b1.Type_.Frac), (vi b1.Type_.Round), (vi b1.Type_.Over), (vs a4 b1.Dims.length c3), (vs a5 b1.Vals.length c4)]) (.s (.s .z)) rfl).1) ?_
  refine sq (y_makeFunc (vs := []) (cap := [(vp b6 0), (vp b2 0), (vp b4 0), (vp b5 0)]) rfl rfl ⟨et, ⟨et, ⟨et, ⟨et, trivial⟩⟩⟩⟩) ?_
  obtain ⟨c15, f1, hB, hl4, hk1⟩ := hI.hands (.l .n)
  have hB : Bun c15 f1 w9 c15 w9 [MO.st (StI.of (fun (s : Int) (b : Unit) => [MO.box b6 3 #[(vi s)]]) (fun (s : Int) (b : Unit) => [])) 0] _ := Bun.mkst (b := ()) hB trivial
  have hC := hB
  have hY1 : fnS_k4 (StI.of (fun (s : Int) (b : Unit) => [MO.box b6 3 #[(vi s)]]) (fun (s : Int) (b : Unit) => [])) (Value.func (.func 35) #[] #[(vp b6 0), (vp b2 0), (vp b4 0), (vp b5 0)]) (fun x_1 x_2 s => m_law12_TensorZips_1_w x_1 x_2 s a1 op1 stop1) (Dj f1 c15) w9 := by
   refine ⟨rfl, fun C0 F w' hs x_1 x_2 s r hB h => ?_⟩
   obtain ⟨_, hB⟩ := Bun.unst hB
   replace hB := hB.add (c := Cl.sl (cInt .i64) a2 c1 a1.Dims) (Cl.sp _ hs (hC.get (.s (.s (.s (.s .z))))))
   replace hB := hB.add (c := Cl.sl cGVal a3 c2 a1.Vals) (Cl.sp _ hs (hC.get (.s (.s (.s (.s (.s .z)))))))
   replace hB := hB.add (c := Cl.blk b2 27 #[(vi a1.Type_.Kind), (vi a1.Type_.Bits), (vi a1.Type_.Frac), (vi a1.Type_.Round), (vi a1.Type_.Over), (vs a2 a1.Dims.length c1), (vs a3 a1.Vals.length c2)]) (Cl.sp _ hs (hC.get (.s (.s (.s .z)))))
   replace hB := hB.add (c := Cl.blk b4 3 #[(vi op1)]) (Cl.sp _ hs (hC.get (.s .z)))
   replace hB := hB.add (c := Cl.blk b5 3 #[(vi stop1)]) (Cl.sp _ hs (hC.get .z))
   refine CallV.fn (cap := [(vp b6 0), (vp b2 0), (vp b4 0), (vp b5 0)]) ok_35 (Calls.mono (c_law12_TensorZips_1_w C0 F w' x_1 x_2 s a1 op1 stop1 b6 b2 a2 c1 a3 c2 b4 b5 (hB.subs ⟨(.s (.s (.s (.s .z)))), (.s (.s (.s .z))), (.s (.s .z)), (.s .z), .z, trivial⟩) r h) ?_)
   rintro _ w'' ⟨C', rfl, hB2⟩
   exact ⟨C', rfl, (Bun.mkst (os := (fun (s : Int) (b : Unit) => [MO.box b6 3 #[(vi s)]])) (cl := (fun (s : Int) (b : Unit) => [])) (s := r.2) (b := ()) hB2 trivial).subs trivial⟩
  obtain ⟨⟨r4, s1⟩, hx7, h⟩ := bnd_some h
  try dsimp only at h
  refine s_call gn rfl (r_callF (vs := [(Value.agg #[(vi a1.Type_.Kind), (vi a1.Type_.Bits), (vi a1.Type_.Frac), (vi a1.Type_.Round), (vi a1.Type_.Over), (vs a2 a1.Dims.length c1), (vs a3 a1.Vals.length c2)]), (Value.agg #[(vi b1.Type_.Kind), (vi b1.Type_.Bits), (vi b1.Type_.Frac), (vi b1.Type_.Round), (vi b1.Type_.Over), (vs a4 b1.Dims.length c3), (vs a5 b1.Vals.length c4)]), (Value.func (.func 35) #[] #[(vp b6 0), (vp b2 0), (vp b4 0), (vp b5 0)])]) rfl ok_34 ⟨et, ⟨et, ⟨et, trivial⟩⟩⟩) (Calls.mono (c_tensor_Zip_s (StI.of (fun (s : Int) (b : Unit) => [MO.box b6 3 #[(vi s)]]) (fun (s : Int) (b : Unit) => [])) c15 f1 w9 a1 b1 (fun x_1 x_2 s => m_law12_TensorZips_1_w x_1 x_2 s a1 op1 stop1) 0 a2 c1 a3 c2 a4 c3 a5 c4 (Value.func (.func 35) #[] #[(vp b6 0), (vp b2 0), (vp b4 0), (vp b5 0)]) ((hB.add (c := (clFnS_k4 (StI.of (fun (s : Int) (b : Unit) => [MO.box b6 3 #[(vi s)]]) (fun (s : Int) (b : Unit) => [])) (Value.func (.func 35) #[] #[(vp b6 0), (vp b2 0), (vp b4 0), (vp b5 0)]) (fun x_1 x_2 s => m_law12_TensorZips_1_w x_1 x_2 s a1 op1 stop1))) hY1).subs ⟨(.s (.s (.s (.s (.s .z))))), (.s (.s (.s (.s (.s (.s .z)))))), (.s (.s (.s (.s (.s (.s (.s .z))))))), (.s (.s (.s (.s (.s (.s (.s (.s .z)))))))), .z, trivial⟩) _ hx7) ?_)
  rintro _ w10 ⟨a6, c16, a7, c17, c18, rfl, hB2⟩
  obtain ⟨_, hB2⟩ := Bun.unst hB2
  obtain ⟨c19, hs1, hI⟩ := hk1 _ _ _ _ hB2
  replace hI : Bun noM F w0 c19 w10 [MO.box b6 3 #[(vi s1)]] [Cl.sl (cInt .i64) a6 c16 r4.1.Dims, Cl.sl cGVal a7 c17 r4.1.Vals, Cl.blk b5 3 #[(vi stop1)], Cl.blk b4 3 #[(vi op1)], Cl.blk b3 27 #[(vi b1.Type_.Kind), (vi b1.Type_.Bits), (vi b1.Type_.Frac), (vi b1.Type_.Round), (vi b1.Type_.Over), (vs a4 b1.Dims.length c3), (vs a5 b1.Vals.length c4)], Cl.blk b2 27 #[(vi a1.Type_.Kind), (vi a1.Type_.Bits), (vi a1.Type_.Frac), (vi a1.Type_.Round), (vi a1.Type_.Over), (vs a2 a1.Dims.length c1), (vs a3 a1.Vals.length c2)], Cl.sl (cInt .i64) a2 c1 a1.Dims, Cl.sl cGVal a3 c2 a1.Vals, Cl.sl (cInt .i64) a4 c3 b1.Dims, Cl.sl cGVal a5 c4 b1.Vals, clPow10] := hI
  refine ⟨_, rfl, ?_⟩
  refine sm ?_
  refine sq (y_extract rfl et rfl) ?_
  refine sq (y_extract rfl et rfl) ?_
  refine l_alloc (cs := #[(vi 0), (vi 0), (vi 0), (vi 0), (vi 0), (vs none 0 0), (vs none 0 0)]) hI gn rfl rfl zero_27 rfl ?_
  clear hI; intro b7 c20 w11 hI
  refine l_store (new := [(vi r4.1.Type_.Kind), (vi r4.1.Type_.Bits), (vi r4.1.Type_.Frac), (vi r4.1.Type_.Round), (vi r4.1.Type_.Over), (vs a6 r4.1.Dims.length c16), (vs a7 r4.1.Vals.length c17)]) (cs' := #[(vi r4.1.Type_.Kind), (vi r4.1.Type_.Bits), (vi r4.1.Type_.Frac), (vi r4.1.Type_.Round), (vi r4.1.Type_.Over), (vs a6 r4.1.Dims.length c16), (vs a7 r4.1.Vals.length c17)]) hI .z gn rfl rfl et et rfl size_27 rfl rfl rfl ?_
  clear hI; intro c21 w12 hI
  refine sa ?_
  refine nk ?_
  refine sr ?_
  refine sq (y_loadN (l := [(vi a1.Type_.Kind), (vi a1.Type_.Bits), (vi a1.Type_.Frac), (vi a1.Type_.Round), (vi a1.Type_.Over), (vs a2 a1.Dims.length c1), (vs a3 a1.Vals.length c2)]) rfl et Tryz.underlying27 rfl size_27 (hI.kblk (l := [(vi a1.Type_.Kind), (vi a1.Type_.Bits), (vi a1.Type_.Frac), (vi a1.Type_.Round), (vi a1.Type_.Over), (vs a2 a1.Dims.length c1), (vs a3 a1.Vals.length c2)]) (.s (.s (.s (.s (.s .z))))) rfl).1) ?_
  refine sq (y_loadN (l := [(vi b1.Type_.Kind), (vi b1.Type_.Bits), (vi b1.Type_.Frac), (vi b1.Type_.Round), (vi b1.Type_.Over), (vs a4 b1.Dims.length c3), (vs a5 b1.Vals.length c4)]) rfl et Tryz.underlying27 rfl size_27 (hI.kblk (l := [(vi b1.Type_.Kind), (vi b1.Type_.Bits), (vi b1.Type_.Frac), (vi b1.Type_.Round), (vi b1.Type_.Over), (vs a4 b1.Dims.length c3), (vs a5 b1.Vals.length c4)]) (.s (.s (.s (.s .z)))) rfl).1) ?_
  refine sq (y_load1 (v := (vi op1)) rfl et Tryz.underlying3 rfl (hI.kblk (l := [(vi op1)]) (.s (.s (.s .z))) rfl).1) ?_
  refine sq (y_load1 (v := (vi stop1)) rfl et Tryz.underlying3 rfl (hI.kblk (l := [(vi stop1)]) (.s (.s .z)) rfl).1) ?_
  obtain ⟨r5, hx8, h⟩ := bnd_some h
  refine s_call gn rfl (r_callF (vs := [(Value.agg #[(vi a1.Type_.Kind), (vi a1.Type_.Bits), (vi a1.Type_.Frac), (vi a1.Type_.Round), (vi a1.Type_.Over), (vs a2 a1.Dims.length c1), (vs a3 a1.Vals.length c2)]), (Value.agg #[(vi b1.Type_.Kind), (vi b1.Type_.Bits), (vi b1.Type_.Frac), (vi b1.Type_.Round), (vi b1.Type_.Over), (vs a4 b1.Dims.length c3), (vs a5 b1.Vals.length c4)]), (vi op1), (vi stop1)]) rfl ok_37 ⟨et, ⟨et, ⟨et, ⟨et, trivial⟩⟩⟩⟩) (Calls.mono (c_law12_zip (Dj F c21) w12 hI.lt a1 b1 op1 stop1 a2 c1 a3 c2 a4 c3 a5 c4 ⟨(hI.get (.s (.s (.s (.s (.s (.s .z))))))), (hI.get (.s (.s (.s (.s (.s (.s (.s .z)))))))), (hI.get (.s (.s (.s (.s (.s (.s (.s (.s .z))))))))), (hI.get (.s (.s (.s (.s (.s (.s (.s (.s (.s .z)))))))))), trivial⟩ r5 hx8) ?_)
  rintro _ w13 ⟨a8, c22, a9, c23, rfl, hx9, hl5⟩
  refine ⟨_, rfl, ?_⟩
  replace hI := (hI.ext hx9).adds hl5
  refine sm ?_
  refine sq (y_extract rfl et rfl) ?_
  refine sq (y_extract rfl et rfl) ?_
  refine sq (y_extract rfl et rfl) ?_
  refine l_alloc (cs := #[(vi 0), (vi 0), (vi 0), (vi 0), (vi 0), (vs none 0 0), (vs none 0 0)]) hI gn rfl rfl zero_27 rfl ?_
  clear hI; intro b8 c24 w14 hI
  refine l_store (new := [(vi r5.1.Type_.Kind), (vi r5.1.Type_.Bits), (vi r5.1.Type_.Frac), (vi r5.1.Type_.Round), (vi r5.1.Type_.Over), (vs a8 r5.1.Dims.length c22), (vs a9 r5.1.Vals.length c23)]) (cs' := #[(vi r5.1.Type_.Kind), (vi r5.1.Type_.Bits), (vi r5.1.Type_.Frac), (vi r5.1.Type_.Round), (vi r5.1.Type_.Over), (vs a8 r5.1.Dims.length c22), (vs a9 r5.1.Vals.length c23)]) hI .z gn rfl rfl et et rfl size_27 rfl rfl rfl ?_
  clear hI; intro c25 w15 hI
  refine sa ?_
  refine sa ?_
  refine s_nil ?_
  refine k_next (e := [(4, (vp b2 0)), (5, (vp b3 0)), (9, (vp b6 0)), (10, (vp b7 0)), (11, (vi r4.2)), (12, (vp b8 0)), (13, (vi r5.2.1)), (14, (vi r5.2.2))]) ⟨rfl, rfl, rfl, rfl, rfl, rfl, rfl, rfl, trivial⟩ ?_
  refine sr ?_
  refine sq (y_loadN (l := [(vi a1.Type_.Kind), (vi a1.Type_.Bits), (vi a1.Type_.Frac), (vi a1.Type_.Round), (vi a1.Type_.Over), (vs a2 a1.Dims.length c1), (vs a3 a1.Vals.length c2)]) rfl et Tryz.underlying27 rfl size_27 (hI.kblk (l := [(vi a1.Type_.Kind), (vi a1.Type_.Bits), (vi a1.Type_.Frac), (vi a1.Type_.Round), (vi a1.Type_.Over), (vs a2 a1.Dims.length c1), (vs a3 a1.Vals.length c2)]) (.s (.s (.s (.s (.s (.s (.s .z))))))) rfl).1) ?_
  refine sq (y_loadN (l := [(vi b1.Type_.Kind), (vi b1.Type_.Bits), (vi b1.Type_.Frac), (vi b1.Type_.Round), (vi b1.Type_.Over), (vs a4 b1.Dims.length c3), (vs a5 b1.Vals.length c4)]) rfl et Tryz.underlying27 rfl size_27 (hI.kblk (l := [(vi b1.Type_.Kind), (vi b1.Type_.Bits), (vi b1.Type_.Frac), (vi b1.Type_.Round), (vi b1.Type_.Over), (vs a4 b1.Dims.length c3), (vs a5 b1.Vals.length c4)]) (.s (.s (.s (.s (.s (.s .z)))))) rfl).1) ?_
  obtain ⟨c26, f2, hB, hl6, hk2⟩ := hI.hands (.r (.r (.r .n)))
  obtain ⟨r6, hx10, h⟩ := bnd_some h
  try dsimp only at h
  refine s_call gn rfl (r_callF (vs := [(Value.agg #[(vi a1.Type_.Kind), (vi a1.Type_.Bits), (vi a1.Type_.Frac), (vi a1.Type_.Round), (vi a1.Type_.Over), (vs a2 a1.Dims.length c1), (vs a3 a1.Vals.length c2)]), (Value.agg #[(vi b1.Type_.Kind), (vi b1.Type_.Bits), (vi b1.Type_.Frac), (vi b1.Type_.Round), (vi b1.Type_.Over), (vs a4 b1.Dims.length c3), (vs a5 b1.Vals.length c4)]), Value.nilFunc]) rfl ok_34 ⟨et, ⟨et, ⟨ev_const, trivial⟩⟩⟩) (Calls.mono (c_tensor_Zip_o c26 f2 w15 a1 b1 a2 c1 a3 c2 a4 c3 a5 c4 (hB.subs ⟨(.s (.s (.s (.s (.s (.s (.s (.s .z)))))))), (.s (.s (.s (.s (.s (.s (.s (.s (.s .z))))))))), (.s (.s (.s (.s (.s (.s (.s (.s (.s (.s .z)))))))))), (.s (.s (.s (.s (.s (.s (.s (.s (.s (.s (.s .z))))))))))), trivial⟩) _ hx10) ?_)
  rintro _ w16 ⟨a10, c27, a11, c28, c29, rfl, hB2⟩
  obtain ⟨c30, hs2, hI⟩ := hk2 _ _ _ _ hB2
  replace hI : Bun noM F w0 c30 w16 [MO.box b8 27 #[(vi r5.1.Type_.Kind), (vi r5.1.Type_.Bits), (vi r5.1.Type_.Frac), (vi r5.1.Type_.Round), (vi r5.1.Type_.Over), (vs a8 r5.1.Dims.length c22), (vs a9 r5.1.Vals.length c23)], MO.box b7 27 #[(vi r4.1.Type_.Kind), (vi r4.1.Type_.Bits), (vi r4.1.Type_.Frac), (vi r4.1.Type_.Round), (vi r4.1.Type_.Over), (vs a6 r4.1.Dims.length c16), (vs a7 r4.1.Vals.length c17)], MO.box b6 3 #[(vi s1)]] [Cl.sl (cInt .i64) a10 c27 r6.1.Dims, Cl.sl cGVal a11 c28 r6.1.Vals, Cl.sl (cInt .i64) a8 c22 r5.1.Dims, Cl.sl cGVal a9 c23 r5.1.Vals, Cl.sl (cInt .i64) a6 c16 r4.1.Dims, Cl.sl cGVal a7 c17 r4.1.Vals, Cl.blk b5 3 #[(vi stop1)], Cl.blk b4 3 #[(vi op1)], Cl.blk b3 27 #[(vi b1.Type_.Kind), (vi b1.Type_.Bits), (vi b1.Type_.Frac), (vi b1.Type_.Round), (vi b1.Type_.Over), (vs a4 b1.Dims.length c3), (vs a5 b1.Vals.length c4)], Cl.blk b2 27 #[(vi a1.Type_.Kind), (vi a1.Type_.Bits), (vi a1.Type_.Frac), (vi a1.Type_.Round), (vi a1.Type_.Over), (vs a2 a1.Dims.length c1), (vs a3 a1.Vals.length c2)], Cl.sl (cInt .i64) a2 c1 a1.Dims, Cl.sl cGVal a3 c2 a1.Vals, Cl.sl (cInt .i64) a4 c3 b1.Dims, Cl.sl cGVal a5 c4 b1.Vals, clPow10] := hI
  refine ⟨_, rfl, ?_⟩
  refine sm ?_
  refine sq (y_extract rfl et rfl) ?_
  refine sq (y_extract rfl et rfl) ?_
  refine l_alloc (cs := #[(vi 0), (vi 0), (vi 0), (vi 0), (vi 0), (vs none 0 0), (vs none 0 0)]) hI gn rfl rfl zero_27 rfl ?_
  clear hI; intro b9 c31 w17 hI
  refine l_store (new := [(vi r6.1.Type_.Kind), (vi r6.1.Type_.Bits), (vi r6.1.Type_.Frac), (vi r6.1.Type_.Round), (vi r6.1.Type_.Over), (vs a10 r6.1.Dims.length c27), (vs a11 r6.1.Vals.length c28)]) (cs' := #[(vi r6.1.Type_.Kind), (vi r6.1.Type_.Bits), (vi r6.1.Type_.Frac), (vi r6.1.Type_.Round), (vi r6.1.Type_.Over), (vs a10 r6.1.Dims.length c27), (vs a11 r6.1.Vals.length c28)]) hI .z gn rfl rfl et et rfl size_27 rfl rfl rfl ?_
  clear hI; intro c32 w18 hI
  refine sa ?_
  refine nk ?_
  refine sr ?_
  refine sq (y_loadN (l := [(vi r4.1.Type_.Kind), (vi r4.1.Type_.Bits), (vi r4.1.Type_.Frac), (vi r4.1.Type_.Round), (vi r4.1.Type_.Over), (vs a6 r4.1.Dims.length c16), (vs a7 r4.1.Vals.length c17)]) rfl et Tryz.underlying27 rfl size_27 (CellsAt.of_blk (hI.blk (.s (.s .z))) rfl)) ?_
  refine sq (y_loadN (l := [(vi r5.1.Type_.Kind), (vi r5.1.Type_.Bits), (vi r5.1.Type_.Frac), (vi r5.1.Type_.Round), (vi r5.1.Type_.Over), (vs a8 r5.1.Dims.length c22), (vs a9 r5.1.Vals.length c23)]) rfl et Tryz.underlying27 rfl size_27 (CellsAt.of_blk (hI.blk (.s .z)) rfl)) ?_
  obtain ⟨r7, hx11, h⟩ := bnd_some h
  refine s_call gn rfl (r_callF (vs := [(Value.agg #[(vi r4.1.Type_.Kind), (vi r4.1.Type_.Bits), (vi r4.1.Type_.Frac), (vi r4.1.Type_.Round), (vi r4.1.Type_.Over), (vs a6 r4.1.Dims.length c16), (vs a7 r4.1.Vals.length c17)]), (Value.agg #[(vi r5.1.Type_.Kind), (vi r5.1.Type_.Bits), (vi r5.1.Type_.Frac), (vi r5.1.Type_.Round), (vi r5.1.Type_.Over), (vs a8 r5.1.Dims.length c22), (vs a9 r5.1.Vals.length c23)])]) rfl ok_16 ⟨et, ⟨et, trivial⟩⟩) (Calls.mono (c_base_Tensor (Dj F c32) w18 hI.lt r4.1 r5.1 a6 c16 a7 c17 a8 c22 a9 c23 ⟨(hI.get (.s (.s (.s (.s .z))))), (hI.get (.s (.s (.s (.s (.s .z)))))), (hI.get (.s (.s .z))), (hI.get (.s (.s (.s .z)))), trivial⟩ r7 hx11) ?_)
  rintro _ w19 ⟨rfl, hx12, hl7⟩
  refine ⟨_, rfl, ?_⟩
  replace hI := (hI.ext hx12)
  refine sm ?_
  refine s_gval (g_true rfl rfl rfl rfl) rfl (fun hc => (y_move rfl et)) ?_
  refine s_gval (g_true rfl rfl rfl rfl) rfl (fun hc => (y_move rfl et)) ?_
  refine s_gval (g_true rfl rfl rfl rfl) rfl (fun hc => (y_eql rfl (ev_gv et hc) (ev_gv et hc))) ?_
  refine sq (y_and rfl et et) ?_
  refine sm ?_
  refine s_gval (g_true rfl rfl rfl rfl) rfl (fun hc => (y_load1 (v := (vi s1)) rfl et Tryz.underlying3 rfl (CellsAt.of_blk (hI.blk (.s (.s (.s .z)))) rfl))) ?_
  refine s_gval (g_true rfl rfl rfl rfl) rfl (fun hc => (y_move rfl et)) ?_
  refine s_gval (g_true rfl rfl rfl rfl) rfl (fun hc => (y_eql rfl (ev_gv et hc) (ev_gv et hc))) ?_
  refine sq (y_and rfl et et) ?_
  refine sm ?_
  refine s_gval (g_true rfl rfl rfl rfl) rfl (fun hc => (y_move rfl et)) ?_
  refine s_gval (g_true rfl rfl rfl rfl) rfl (fun hc => (y_eql rfl (ev_gv et hc) ev_const)) ?_
  refine sq (y_and rfl et et) ?_
  refine sm ?_
  obtain ⟨r8, hx13, h⟩ := bnd_some h
  replace hx13 := gd_some hx13
  refine s_gcallU (v := (vb r8)) (g_true rfl rfl rfl rfl) rfl (fun hc => (r_callF (vs := []) rfl ok_13 trivial)) (fun hc => (c_law12_examples (Dj F c32) w19 hI.lt ⟨(hI.get (.s (.s (.s (.s (.s (.s (.s (.s (.s (.s (.s (.s (.s (.s .z))))))))))))))), trivial⟩ r8 (hx13 hc)).mono fun _ _ k => ⟨k.1, k.2.1⟩) ?_
  intro w20 hx14; replace hI := hI.ext hx14
  refine sq (y_and rfl et et) ?_
  refine sa ?_
  refine s_nil ?_
  refine k_next (e := [(8, (vb ((((r7 && (decide (r4.2 = r5.2.2))) && (decide (s1 = r5.2.1))) && (decide (r6.2 = 1))) && r8)))]) ⟨rfl, trivial⟩ ?_
  refine c_ret ?_
  obtain rfl := some_inj h
  exact q_ret (vs := [(vb ((((r7 && (decide (r4.2 = r5.2.2))) && (decide (s1 = r5.2.1))) && (decide (r6.2 = 1))) && r8))]) Tryz.results9 ⟨ev_tmp rfl rfl, trivial⟩ ⟨rfl, hI.ext0, hI.fin trivial⟩

end Go.Proofs.YtlakfanockhngaaGreatDoor
