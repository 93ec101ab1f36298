import Derived.Test.YtaokohndeepbjaaSXc
namespace Go.Proofs.Ytaokohndeepbjaa
open Go Go.RowKit Go.Vc
set_option linter.unusedVariables false
set_option linter.unusedSimpArgs false
theorem stood_53 : Try.prog.stoodInHeld 53 = false := by kernel_rfl
theorem eqstruct_53n (a0 b0 : List UInt8) (a1 b1 : Int) (w : World) : (binOp .neq 53 (.agg #[(str a0), (Value.int .i64 a1)]) (.agg #[(str b0), (Value.int .i64 b1)])).run Try.prog w = .ok (.bool (!((decide (a0 = b0)) && (decide (a1 = b1))))) w := by
  simp [go_sem, stood_53, Try.underlying53, eq_dec_int, eq_dec_str]
  all_goals (by_cases h0 : a0 = b0 <;> by_cases h1 : a1 = b1 <;> simp [h0, h1])
theorem eqguard_53 (op : BinOp) (x y : Operand) (xs ys : Array Value) (w : World) : (eqGuard op 53 x y (.agg xs) (.agg ys)).run Try.prog w = .ok () w := run_eqGuard_agg w op 53 x y xs ys (by kernel_rfl)
theorem info_101 : Info Try.prog 101 2 24 (Value.agg #[(str ([] : List UInt8)), (Value.int .i64 0)]) := info_mk (by kernel_rfl) rfl
theorem info_2 : Info Try.prog 2 1 8 (Value.int .i64 0) := info_mk (by kernel_rfl) rfl
theorem info_28 : Info Try.prog 28 1 24 (Value.slice none 0 0) := info_mk (by kernel_rfl) rfl
theorem info_3 : Info Try.prog 3 1 8 (Value.int .i64 0) := info_mk (by kernel_rfl) rfl
theorem info_51 : Info Try.prog 51 2 32 (Value.agg #[(Value.int .i64 0), (Value.slice none 0 0)]) := info_mk (by kernel_rfl) rfl
theorem info_53 : Info Try.prog 53 2 24 (Value.agg #[(str ([] : List UInt8)), (Value.int .i64 0)]) := info_mk (by kernel_rfl) rfl
theorem info_69 : Info Try.prog 69 2 48 (Value.agg #[(Value.slice none 0 0), (Value.slice none 0 0)]) := info_mk (by kernel_rfl) rfl
theorem info_9 : Info Try.prog 9 1 16 (str ([] : List UInt8)) := info_mk (by kernel_rfl) rfl
theorem ok_10 : FnOK Try.prog 10 := ⟨_, Try.func10, by kernel_rfl, by kernel_rfl⟩
theorem ok_12 : FnOK Try.prog 12 := ⟨_, Try.func12, by kernel_rfl, by kernel_rfl⟩
theorem ok_13 : FnOK Try.prog 13 := ⟨_, Try.func13, by kernel_rfl, by kernel_rfl⟩
theorem ok_14 : FnOK Try.prog 14 := ⟨_, Try.func14, by kernel_rfl, by kernel_rfl⟩
theorem ok_15 : FnOK Try.prog 15 := ⟨_, Try.func15, by kernel_rfl, by kernel_rfl⟩
theorem ok_16 : FnOK Try.prog 16 := ⟨_, Try.func16, by kernel_rfl, by kernel_rfl⟩
theorem ok_17 : FnOK Try.prog 17 := ⟨_, Try.func17, by kernel_rfl, by kernel_rfl⟩
theorem ok_18 : FnOK Try.prog 18 := ⟨_, Try.func18, by kernel_rfl, by kernel_rfl⟩
theorem ok_20 : FnOK Try.prog 20 := ⟨_, Try.func20, by kernel_rfl, by kernel_rfl⟩
theorem ok_21 : FnOK Try.prog 21 := ⟨_, Try.func21, by kernel_rfl, by kernel_rfl⟩
theorem ok_22 : FnOK Try.prog 22 := ⟨_, Try.func22, by kernel_rfl, by kernel_rfl⟩
theorem ok_23 : FnOK Try.prog 23 := ⟨_, Try.func23, by kernel_rfl, by kernel_rfl⟩
theorem ok_24 : FnOK Try.prog 24 := ⟨_, Try.func24, by kernel_rfl, by kernel_rfl⟩
theorem ok_25 : FnOK Try.prog 25 := ⟨_, Try.func25, by kernel_rfl, by kernel_rfl⟩
theorem ok_27 : FnOK Try.prog 27 := ⟨_, Try.func27, by kernel_rfl, by kernel_rfl⟩
theorem ok_28 : FnOK Try.prog 28 := ⟨_, Try.func28, by kernel_rfl, by kernel_rfl⟩
theorem ok_29 : FnOK Try.prog 29 := ⟨_, Try.func29, by kernel_rfl, by kernel_rfl⟩
theorem ok_30 : FnOK Try.prog 30 := ⟨_, Try.func30, by kernel_rfl, by kernel_rfl⟩
theorem ok_31 : FnOK Try.prog 31 := ⟨_, Try.func31, by kernel_rfl, by kernel_rfl⟩
theorem ok_32 : FnOK Try.prog 32 := ⟨_, Try.func32, by kernel_rfl, by kernel_rfl⟩
theorem ok_33 : FnOK Try.prog 33 := ⟨_, Try.func33, by kernel_rfl, by kernel_rfl⟩
theorem ok_34 : FnOK Try.prog 34 := ⟨_, Try.func34, by kernel_rfl, by kernel_rfl⟩
theorem ok_35 : FnOK Try.prog 35 := ⟨_, Try.func35, by kernel_rfl, by kernel_rfl⟩
theorem ok_36 : FnOK Try.prog 36 := ⟨_, Try.func36, by kernel_rfl, by kernel_rfl⟩
theorem ok_37 : FnOK Try.prog 37 := ⟨_, Try.func37, by kernel_rfl, by kernel_rfl⟩
theorem ok_38 : FnOK Try.prog 38 := ⟨_, Try.func38, by kernel_rfl, by kernel_rfl⟩
theorem ok_39 : FnOK Try.prog 39 := ⟨_, Try.func39, by kernel_rfl, by kernel_rfl⟩
theorem ok_40 : FnOK Try.prog 40 := ⟨_, Try.func40, by kernel_rfl, by kernel_rfl⟩
theorem ok_41 : FnOK Try.prog 41 := ⟨_, Try.func41, by kernel_rfl, by kernel_rfl⟩
theorem ok_42 : FnOK Try.prog 42 := ⟨_, Try.func42, by kernel_rfl, by kernel_rfl⟩
theorem ok_43 : FnOK Try.prog 43 := ⟨_, Try.func43, by kernel_rfl, by kernel_rfl⟩
theorem ok_44 : FnOK Try.prog 44 := ⟨_, Try.func44, by kernel_rfl, by kernel_rfl⟩
theorem ok_45 : FnOK Try.prog 45 := ⟨_, Try.func45, by kernel_rfl, by kernel_rfl⟩
theorem ok_46 : FnOK Try.prog 46 := ⟨_, Try.func46, by kernel_rfl, by kernel_rfl⟩
theorem ok_47 : FnOK Try.prog 47 := ⟨_, Try.func47, by kernel_rfl, by kernel_rfl⟩
theorem ok_48 : FnOK Try.prog 48 := ⟨_, Try.func48, by kernel_rfl, by kernel_rfl⟩
theorem ok_49 : FnOK Try.prog 49 := ⟨_, Try.func49, by kernel_rfl, by kernel_rfl⟩
theorem ok_52 : FnOK Try.prog 52 := ⟨_, Try.func52, by kernel_rfl, by kernel_rfl⟩
theorem ok_53 : FnOK Try.prog 53 := ⟨_, Try.func53, by kernel_rfl, by kernel_rfl⟩
theorem ok_54 : FnOK Try.prog 54 := ⟨_, Try.func54, by kernel_rfl, by kernel_rfl⟩
theorem ok_55 : FnOK Try.prog 55 := ⟨_, Try.func55, by kernel_rfl, by kernel_rfl⟩
theorem ok_56 : FnOK Try.prog 56 := ⟨_, Try.func56, by kernel_rfl, by kernel_rfl⟩
theorem ok_57 : FnOK Try.prog 57 := ⟨_, Try.func57, by kernel_rfl, by kernel_rfl⟩
theorem ok_58 : FnOK Try.prog 58 := ⟨_, Try.func58, by kernel_rfl, by kernel_rfl⟩
theorem ok_59 : FnOK Try.prog 59 := ⟨_, Try.func59, by kernel_rfl, by kernel_rfl⟩
theorem ok_60 : FnOK Try.prog 60 := ⟨_, Try.func60, by kernel_rfl, by kernel_rfl⟩
theorem ok_61 : FnOK Try.prog 61 := ⟨_, Try.func61, by kernel_rfl, by kernel_rfl⟩
theorem ok_62 : FnOK Try.prog 62 := ⟨_, Try.func62, by kernel_rfl, by kernel_rfl⟩
theorem ok_63 : FnOK Try.prog 63 := ⟨_, Try.func63, by kernel_rfl, by kernel_rfl⟩
theorem ok_64 : FnOK Try.prog 64 := ⟨_, Try.func64, by kernel_rfl, by kernel_rfl⟩
theorem ok_65 : FnOK Try.prog 65 := ⟨_, Try.func65, by kernel_rfl, by kernel_rfl⟩
theorem ok_66 : FnOK Try.prog 66 := ⟨_, Try.func66, by kernel_rfl, by kernel_rfl⟩
theorem ok_67 : FnOK Try.prog 67 := ⟨_, Try.func67, by kernel_rfl, by kernel_rfl⟩
theorem ok_68 : FnOK Try.prog 68 := ⟨_, Try.func68, by kernel_rfl, by kernel_rfl⟩
theorem ok_69 : FnOK Try.prog 69 := ⟨_, Try.func69, by kernel_rfl, by kernel_rfl⟩
theorem ok_7 : FnOK Try.prog 7 := ⟨_, Try.func7, by kernel_rfl, by kernel_rfl⟩
theorem ok_70 : FnOK Try.prog 70 := ⟨_, Try.func70, by kernel_rfl, by kernel_rfl⟩
theorem ok_71 : FnOK Try.prog 71 := ⟨_, Try.func71, by kernel_rfl, by kernel_rfl⟩
theorem ok_72 : FnOK Try.prog 72 := ⟨_, Try.func72, by kernel_rfl, by kernel_rfl⟩
theorem ok_73 : FnOK Try.prog 73 := ⟨_, Try.func73, by kernel_rfl, by kernel_rfl⟩
theorem ok_74 : FnOK Try.prog 74 := ⟨_, Try.func74, by kernel_rfl, by kernel_rfl⟩
theorem ok_75 : FnOK Try.prog 75 := ⟨_, Try.func75, by kernel_rfl, by kernel_rfl⟩
theorem ok_76 : FnOK Try.prog 76 := ⟨_, Try.func76, by kernel_rfl, by kernel_rfl⟩
theorem ok_77 : FnOK Try.prog 77 := ⟨_, Try.func77, by kernel_rfl, by kernel_rfl⟩
theorem ok_78 : FnOK Try.prog 78 := ⟨_, Try.func78, by kernel_rfl, by kernel_rfl⟩
theorem ok_79 : FnOK Try.prog 79 := ⟨_, Try.func79, by kernel_rfl, by kernel_rfl⟩
theorem ok_80 : FnOK Try.prog 80 := ⟨_, Try.func80, by kernel_rfl, by kernel_rfl⟩
theorem ok_81 : FnOK Try.prog 81 := ⟨_, Try.func81, by kernel_rfl, by kernel_rfl⟩
theorem ok_82 : FnOK Try.prog 82 := ⟨_, Try.func82, by kernel_rfl, by kernel_rfl⟩
theorem ok_83 : FnOK Try.prog 83 := ⟨_, Try.func83, by kernel_rfl, by kernel_rfl⟩
theorem ok_84 : FnOK Try.prog 84 := ⟨_, Try.func84, by kernel_rfl, by kernel_rfl⟩
theorem ok_85 : FnOK Try.prog 85 := ⟨_, Try.func85, by kernel_rfl, by kernel_rfl⟩
theorem ok_9 : FnOK Try.prog 9 := ⟨_, Try.func9, by kernel_rfl, by kernel_rfl⟩
theorem size_101 : (Try.prog.info? 101).map (·.size) = some 2 := by kernel_rfl
theorem size_102 : (Try.prog.info? 102).map (·.size) = some 1 := by kernel_rfl
theorem size_2 : (Try.prog.info? 2).map (·.size) = some 1 := by kernel_rfl
theorem size_24 : (Try.prog.info? 24).map (·.size) = some 1 := by kernel_rfl
theorem size_28 : (Try.prog.info? 28).map (·.size) = some 1 := by kernel_rfl
theorem size_29 : (Try.prog.info? 29).map (·.size) = some 1 := by kernel_rfl
theorem size_3 : (Try.prog.info? 3).map (·.size) = some 1 := by kernel_rfl
theorem size_4 : (Try.prog.info? 4).map (·.size) = some 1 := by kernel_rfl
theorem size_49 : (Try.prog.info? 49).map (·.size) = some 1 := by kernel_rfl
theorem size_51 : (Try.prog.info? 51).map (·.size) = some 2 := by kernel_rfl
theorem size_53 : (Try.prog.info? 53).map (·.size) = some 2 := by kernel_rfl
theorem size_64 : (Try.prog.info? 64).map (·.size) = some 1 := by kernel_rfl
theorem size_69 : (Try.prog.info? 69).map (·.size) = some 2 := by kernel_rfl
theorem size_9 : (Try.prog.info? 9).map (·.size) = some 1 := by kernel_rfl
theorem zero_104 : (Try.prog.info? 104).bind (·.zero) = some (Value.agg #[(Value.int .u64 0), (Value.int .u64 0), (Value.int .u64 0)]) := by kernel_rfl
theorem zero_24 : (Try.prog.info? 24).bind (·.zero) = some (Value.slice none 0 0) := by kernel_rfl
theorem zero_29 : (Try.prog.info? 29).bind (·.zero) = some (Value.int .i64 0) := by kernel_rfl
theorem zero_4 : (Try.prog.info? 4).bind (·.zero) = some (Value.bool false) := by kernel_rfl
theorem zero_51 : (Try.prog.info? 51).bind (·.zero) = some (Value.agg #[(Value.int .i64 0), (Value.slice none 0 0)]) := by kernel_rfl
theorem zero_53 : (Try.prog.info? 53).bind (·.zero) = some (Value.agg #[(str ([] : List UInt8)), (Value.int .i64 0)]) := by kernel_rfl
theorem zero_64 : (Try.prog.info? 64).bind (·.zero) = some (Value.slice none 0 0) := by kernel_rfl
theorem zero_69 : (Try.prog.info? 69).bind (·.zero) = some (Value.agg #[(Value.slice none 0 0), (Value.slice none 0 0)]) := by kernel_rfl
set_option maxRecDepth 100000 in
set_option maxHeartbeats 4000000 in
theorem c_ref10_Box (F : NP) (w0 : World) (hF : ∀ k, F k → k < w0.heap.size) (ext1 : List Int) (a1 : Option Addr) (c1 : Nat) (hc : AllCl [Cl.sl (cInt .i64) a1 c1 ext1] F w0) (r : Int)
  (h : m_ref10_Box ext1 = some r) :
  Calls Try.prog 33 #[(vs a1 ext1.length c1)] w0 fun e w => e = .returned (vi r) ∧ Ext w0 w ∧ AllCl [] F w := by
 refine enterK (l := [(vs a1 ext1.length c1)]) Try.func33 rfl Try.ntmps33 rfl ?_
 have hI := Bun.start hF hc
 clear hc
 rw [m_ref10_Box] at h
 refine sr ?_
 refine sac ?_
 refine nk ?_
 refine c_seq ?_
 refine sr ?_
 refine sm ?_
 refine sq (y_lenl rfl Try.underlying24 et) ?_
 refine sq (y_gtr rfl et ev_const) ?_
 refine nk ?_
 refine c_cond (b := decide (16 < (ext1.length : Int))) et (fun hb => ?_) (fun hb => ?_)
 ·replace h := ite_t hb h
  refine sr ?_
  refine sac ?_
  refine nk ?_
  refine c_ret ?_
  obtain rfl := some_inj h
  exact q_ret (vs := [(vi 2)]) Try.results33 ⟨ev_tmp rfl rfl, trivial⟩ ⟨rfl, hI.ext0, hI.fin trivial⟩
 ·replace h := ite_f hb h
  refine c_skip ?_
  refine k_same ?_
  refine sr ?_
  refine sac ?_
  refine nk ?_
  refine c_join (α := Int) (fun _ => ⟨48, []⟩) (fun x => [(0, (vs a1 ext1.length c1)), (3, (vi x))]) (fun x => fun w => ∃ C, Bun noM F w0 C w [] [Cl.sl (cInt .i64) a1 c1 ext1] ∧ m_ref10_Box_j1 ext1 x = some r) ?_ ?_
  ·clear h hI; rintro n1 w1 ⟨c2, hI, h⟩
   try dsimp only at hI h
   rw [m_ref10_Box_j1] at h
   refine c_sub (e := [(0, (vs a1 ext1.length c1)), (3, (vi n1))]) ⟨rfl, rfl, trivial⟩ ?_
   refine c_seq ?_
   refine sr ?_
   refine sac ?_
   refine nk ?_
   refine c_block ?_
   refine c_loop (α := Nat × Int × Int) (fun x => fun w => ∃ C, Bun noM F w0 C w [] [Cl.sl (cInt .i64) a1 c1 ext1] ∧ m_ref10_Box_l1 ext1 (x.1) (x.2.1) (x.2.2) = some r) (fun x _ => x.1) (fun x => [(0, (vs a1 ext1.length c1)), (3, (vi (x.2.1))), (5, (vi (x.2.2)))]) (fu, n1, 0) ⟨_, hI.arr .n ⟨.z, trivial⟩, h⟩ ⟨rfl, rfl, rfl, trivial⟩ ?_
   clear h hI; rintro ⟨fuel1, n2, i1⟩ w2 ⟨c3, hI, h⟩
   dsimp only at hI h
   rcases fuel1 with _ | fuel1
   ·rw [m_ref10_Box_l1] at h; cases h
   rw [m_ref10_Box_l1] at h
   refine c_sub (e := [(0, (vs a1 ext1.length c1)), (3, (vi n2)), (5, (vi i1))]) ⟨rfl, rfl, rfl, trivial⟩ ?_
   refine c_seq ?_
   refine sr ?_
   refine sm ?_
   refine sm ?_
   refine sq (y_lenl rfl Try.underlying24 et) ?_
   refine sq (y_lss rfl et et) ?_
   refine sm ?_
   refine s_gval (g_true rfl rfl rfl rfl) rfl (fun hc => (y_move rfl et)) ?_
   refine s_gval (g_true rfl rfl rfl rfl) rfl (fun hc => (y_gtr rfl (ev_gv et hc) ev_const)) ?_
   refine sq (y_and rfl et et) ?_
   refine nk ?_
   refine c_cond (b := (decide (i1 < (ext1.length : Int))) && (decide (0 < n2))) et (fun hb => ?_) (fun hb => ?_)
   ·replace h := ite_t hb h
    refine c_skip ?_
    refine k_same ?_
    refine c_seq ?_
    refine c_block ?_
    refine c_seq ?_
    refine sr ?_
    refine sm ?_
    refine sm ?_
    obtain ⟨e1, hx1, h⟩ := bnd_some h
    obtain ⟨ad1, cs1, hA1, hr1, hq1⟩ := hI.clat .z hx1
    obtain rfl : cs1 = [(vi e1)] := hr1
    refine sq (y_indexAddr rfl Try.underlying24 size_3 et et (lat_bd hx1) hA1) ?_
    refine sq (y_load1 (v := (vi e1)) rfl et Try.underlying3 rfl hq1.1) ?_
    refine sq (y_gtr rfl et ev_const) ?_
    refine nk ?_
    refine c_cond (b := decide (65536 < e1)) et (fun hb => ?_) (fun hb => ?_)
    ·replace h := ite_t hb h
     refine sr ?_
     refine sac ?_
     refine nk ?_
     refine c_ret ?_
     obtain rfl := some_inj h
     exact q_ret (vs := [(vi 2)]) Try.results33 ⟨ev_tmp rfl rfl, trivial⟩ ⟨rfl, hI.ext0, hI.fin trivial⟩
    ·replace h := ite_f hb h
     refine c_skip ?_
     refine k_same ?_
     refine sr ?_
     refine sm ?_
     refine sm ?_
     refine sm ?_
     obtain ⟨e2, hx2, h⟩ := bnd_some h
     obtain ⟨ad2, cs2, hA2, hr2, hq2⟩ := hI.clat .z hx2
     obtain rfl : cs2 = [(vi e2)] := hr2
     refine sq (y_indexAddr rfl Try.underlying24 size_3 et et (lat_bd hx2) hA2) ?_
     refine sq (y_load1 (v := (vi e2)) rfl et Try.underlying3 rfl hq2.1) ?_
     refine sq (y_mul rfl et et) ?_
     refine sa ?_
     refine nk ?_
     refine sr ?_
     refine sm ?_
     refine sq (y_gtr rfl et ev_const) ?_
     refine nk ?_
     refine c_cond (b := decide (65536 < wi64 (n2 * e2))) et (fun hb => ?_) (fun hb => ?_)
     ·replace h := ite_t hb h
      refine sr ?_
      refine sac ?_
      refine s_nil ?_
      refine k_next (e := [(2, (vi 2))]) ⟨rfl, trivial⟩ ?_
      refine c_ret ?_
      obtain rfl := some_inj h
      exact q_ret (vs := [(vi 2)]) Try.results33 ⟨ev_tmp rfl rfl, trivial⟩ ⟨rfl, hI.ext0, hI.fin trivial⟩
     ·replace h := ite_f hb h
      refine c_skip ?_
      refine k_same ?_
      refine c_region rfl ?_
      refine sm ?_
      refine sq (y_add rfl et ev_const) ?_
      refine sa ?_
      refine s_nil ?_
      exact k_loop (fuel1, wi64 (n2 * e2), wi64 (i1 + 1)) ⟨rfl, rfl, rfl, trivial⟩ ⟨_, hI.arr .n ⟨.z, trivial⟩, h⟩ (Nat.lt_succ_self _)
   ·replace h := ite_f hb h
    refine c_exit ?_
    refine k_in ?_
    refine k_same ?_
    refine sr ?_
    refine sac ?_
    refine nk ?_
    refine c_ret ?_
    obtain rfl := some_inj h
    exact q_ret (vs := [(vi 0)]) Try.results33 ⟨ev_tmp rfl rfl, trivial⟩ ⟨rfl, hI.ext0, hI.fin trivial⟩
  ·skip
   refine sr ?_
   refine sac ?_
   refine nk ?_
   refine c_block ?_
   refine c_loop (α := Nat × Int × Int) (fun x => fun w => ∃ C, Bun noM F w0 C w [] [Cl.sl (cInt .i64) a1 c1 ext1] ∧ m_ref10_Box_l2 ext1 (x.1) (x.2.1) (x.2.2) = some r) (fun x _ => x.1) (fun x => [(0, (vs a1 ext1.length c1)), (3, (vi (x.2.1))), (4, (vi (x.2.2)))]) (fu, 1, 0) ⟨_, hI.arr .n ⟨.z, trivial⟩, h⟩ ⟨rfl, rfl, rfl, trivial⟩ ?_
   clear h hI; rintro ⟨fuel2, n3, i2⟩ w3 ⟨c4, hI, h⟩
   dsimp only at hI h
   rcases fuel2 with _ | fuel2
   ·rw [m_ref10_Box_l2] at h; cases h
   rw [m_ref10_Box_l2] at h
   refine c_sub (e := [(0, (vs a1 ext1.length c1)), (3, (vi n3)), (4, (vi i2))]) ⟨rfl, rfl, rfl, trivial⟩ ?_
   refine c_seq ?_
   refine sr ?_
   refine sm ?_
   refine sm ?_
   refine sq (y_lenl rfl Try.underlying24 et) ?_
   refine sq (y_lss rfl et et) ?_
   refine nk ?_
   refine c_cond (b := decide (i2 < (ext1.length : Int))) et (fun hb => ?_) (fun hb => ?_)
   ·replace h := ite_t hb h
    refine c_skip ?_
    refine k_same ?_
    refine c_join (α := Int) (fun _ => ⟨48, []⟩) (fun x => [(0, (vs a1 ext1.length c1)), (3, (vi x)), (4, (vi i2))]) (fun x => fun w => ∃ C, Bun noM F w0 C w [] [Cl.sl (cInt .i64) a1 c1 ext1] ∧ m_ref10_Box_j2 (m_ref10_Box_l2 ext1 fuel2) i2 x = some r) ?_ ?_
    ·clear h hI; rintro n4 w4 ⟨c5, hI, h⟩
     try dsimp only at hI h
     rw [m_ref10_Box_j2] at h
     refine c_sub (e := [(0, (vs a1 ext1.length c1)), (3, (vi n4)), (4, (vi i2))]) ⟨rfl, rfl, rfl, trivial⟩ ?_
     refine c_region rfl ?_
     refine sm ?_
     refine sq (y_add rfl et ev_const) ?_
     refine sa ?_
     refine s_nil ?_
     exact k_loop (fuel2, n4, wi64 (i2 + 1)) ⟨rfl, rfl, rfl, trivial⟩ ⟨_, hI.arr .n ⟨.z, trivial⟩, h⟩ (Nat.lt_succ_self _)
    ·skip
     refine c_block ?_
     refine c_seq ?_
     refine sr ?_
     refine sm ?_
     refine sm ?_
     obtain ⟨e3, hx3, h⟩ := bnd_some h
     obtain ⟨ad3, cs3, hA3, hr3, hq3⟩ := hI.clat .z hx3
     obtain rfl : cs3 = [(vi e3)] := hr3
     refine sq (y_indexAddr rfl Try.underlying24 size_3 et et (lat_bd hx3) hA3) ?_
     refine sq (y_load1 (v := (vi e3)) rfl et Try.underlying3 rfl hq3.1) ?_
     refine sq (y_lss rfl et ev_const) ?_
     refine nk ?_
     refine c_cond (b := decide (e3 < 0)) et (fun hb => ?_) (fun hb => ?_)
     ·replace h := ite_t hb h
      refine sr ?_
      refine sac ?_
      refine nk ?_
      refine c_ret ?_
      obtain rfl := some_inj h
      exact q_ret (vs := [(vi 1)]) Try.results33 ⟨ev_tmp rfl rfl, trivial⟩ ⟨rfl, hI.ext0, hI.fin trivial⟩
     ·replace h := ite_f hb h
      refine c_skip ?_
      refine k_same ?_
      refine sr ?_
      refine sm ?_
      refine sm ?_
      obtain ⟨e4, hx4, h⟩ := bnd_some h
      obtain ⟨ad4, cs4, hA4, hr4, hq4⟩ := hI.clat .z hx4
      obtain rfl : cs4 = [(vi e4)] := hr4
      refine sq (y_indexAddr rfl Try.underlying24 size_3 et et (lat_bd hx4) hA4) ?_
      refine sq (y_load1 (v := (vi e4)) rfl et Try.underlying3 rfl hq4.1) ?_
      refine sq (y_eql rfl et ev_const) ?_
      refine nk ?_
      refine c_cond (b := decide (e4 = 0)) et (fun hb => ?_) (fun hb => ?_)
      ·replace h := ite_t hb h
       refine c_region rfl ?_
       refine sac ?_
       refine s_nil ?_
       exact k_join 0 ⟨rfl, rfl, rfl, trivial⟩ ⟨_, hI.arr .n ⟨.z, trivial⟩, h⟩ rfl
      ·replace h := ite_f hb h
       refine c_skip ?_
       exact k_join n3 ⟨rfl, rfl, rfl, trivial⟩ ⟨_, hI.arr .n ⟨.z, trivial⟩, h⟩ rfl
   ·replace h := ite_f hb h
    refine c_exit ?_
    refine k_in ?_
    exact k_join n3 ⟨rfl, rfl, trivial⟩ ⟨_, hI.arr .n ⟨.z, trivial⟩, h⟩ rfl
set_option maxRecDepth 100000 in
set_option maxHeartbeats 4000000 in
theorem c_ref10_Few (F : NP) (w0 : World) (hF : ∀ k, F k → k < w0.heap.size) (ext1 : List Int) (n1 : Int) (a1 : Option Addr) (c1 : Nat) (hc : AllCl [Cl.sl (cInt .i64) a1 c1 ext1] F w0) (r : Bool)
  (h : m_ref10_Few ext1 n1 = some r) :
  Calls Try.prog 15 #[(vs a1 ext1.length c1), (vi n1)] w0 fun e w => e = .returned (vb r) ∧ Ext w0 w ∧ AllCl [] F w := by
 refine enterK (l := [(vs a1 ext1.length c1), (vi n1)]) Try.func15 rfl Try.ntmps15 rfl ?_
 have hI := Bun.start hF hc
 clear hc
 rw [m_ref10_Few] at h
 refine sr ?_
 refine sac ?_
 refine nk ?_
 refine c_seq ?_
 refine sr ?_
 refine sm ?_
 obtain ⟨r1, hx1, h⟩ := bnd_some h
 refine s_call gn rfl (r_callF (vs := [(vs a1 ext1.length c1)]) rfl ok_33 ⟨et, trivial⟩) (Calls.mono (c_ref10_Box (Dj F noM) w0 hI.lt ext1 a1 c1 ⟨(hI.get .z), trivial⟩ r1 hx1) ?_)
 rintro _ w1 ⟨rfl, hx2, hl1⟩
 refine ⟨_, rfl, ?_⟩
 replace hI := (hI.ext hx2)
 refine sq (y_neq rfl et ev_const) ?_
 refine nk ?_
 refine c_cond (b := !decide (r1 = 0)) et (fun hb => ?_) (fun hb => ?_)
 ·replace h := ite_t hb h
  refine sr ?_
  refine sac ?_
  refine nk ?_
  refine c_ret ?_
  obtain rfl := some_inj h
  exact q_ret (vs := [(vb true)]) Try.results15 ⟨ev_tmp rfl rfl, trivial⟩ ⟨rfl, hI.ext0, hI.fin trivial⟩
 ·replace h := ite_f hb h
  refine c_skip ?_
  refine k_same ?_
  refine sr ?_
  refine sac ?_
  refine nk ?_
  refine c_seq ?_
  refine sr ?_
  refine sac ?_
  refine nk ?_
  refine c_block ?_
  refine c_loop (α := Nat × Int × Int) (fun x => fun w => ∃ C, Bun noM F w0 C w [] [Cl.sl (cInt .i64) a1 c1 ext1] ∧ m_ref10_Few_l1 ext1 n1 (x.1) (x.2.1) (x.2.2) = some r) (fun x _ => x.1) (fun x => [(0, (vs a1 ext1.length c1)), (1, (vi n1)), (5, (vi (x.2.1))), (6, (vi (x.2.2)))]) (fu, 1, 0) ⟨_, hI.arr .n ⟨.z, trivial⟩, h⟩ ⟨rfl, rfl, rfl, rfl, trivial⟩ ?_
  clear h hI; rintro ⟨fuel1, many1, i1⟩ w2 ⟨c2, hI, h⟩
  dsimp only at hI h
  rcases fuel1 with _ | fuel1
  ·rw [m_ref10_Few_l1] at h; cases h
  rw [m_ref10_Few_l1] at h
  refine c_sub (e := [(0, (vs a1 ext1.length c1)), (1, (vi n1)), (5, (vi many1)), (6, (vi i1))]) ⟨rfl, rfl, rfl, rfl, trivial⟩ ?_
  refine c_seq ?_
  refine sr ?_
  refine sm ?_
  refine sm ?_
  refine sq (y_lenl rfl Try.underlying24 et) ?_
  refine sq (y_lss rfl et et) ?_
  refine nk ?_
  refine c_cond (b := decide (i1 < (ext1.length : Int))) et (fun hb => ?_) (fun hb => ?_)
  ·replace h := ite_t hb h
   refine c_skip ?_
   refine k_same ?_
   refine c_seq ?_
   refine c_block ?_
   refine c_region rfl ?_
   refine sm ?_
   refine sm ?_
   refine sm ?_
   obtain ⟨e1, hx3, h⟩ := bnd_some h
   obtain ⟨ad1, cs1, hA1, hr1, hq1⟩ := hI.clat .z hx3
   obtain rfl : cs1 = [(vi e1)] := hr1
   refine sq (y_indexAddr rfl Try.underlying24 size_3 et et (lat_bd hx3) hA1) ?_
   refine sq (y_load1 (v := (vi e1)) rfl et Try.underlying3 rfl hq1.1) ?_
   refine sq (y_mul rfl et et) ?_
   refine sa ?_
   refine nk ?_
   refine c_region rfl ?_
   refine sm ?_
   refine sq (y_add rfl et ev_const) ?_
   refine sa ?_
   refine s_nil ?_
   exact k_loop (fuel1, wi64 (many1 * e1), wi64 (i1 + 1)) ⟨rfl, rfl, rfl, rfl, trivial⟩ ⟨_, hI.arr .n ⟨.z, trivial⟩, h⟩ (Nat.lt_succ_self _)
  ·replace h := ite_f hb h
   refine c_exit ?_
   refine k_in ?_
   refine k_same ?_
   refine sr ?_
   refine sm ?_
   refine sm ?_
   refine sq (y_leq rfl et et) ?_
   refine sa ?_
   refine nk ?_
   refine c_ret ?_
   obtain rfl := some_inj h
   exact q_ret (vs := [(vb (decide (many1 ≤ n1)))]) Try.results15 ⟨ev_tmp rfl rfl, trivial⟩ ⟨rfl, hI.ext0, hI.fin trivial⟩
set_option maxRecDepth 100000 in
set_option maxHeartbeats 4000000 in
theorem c_law10_few (F : NP) (w0 : World) (hF : ∀ k, F k → k < w0.heap.size) (m1 : List GLin) (names1 : List (List UInt8)) (ext1 : List Int) (a1 : Option Addr) (c1 : Nat) (a2 : Option Addr) (c2 : Nat) (a3 : Option Addr) (c3 : Nat) (hc : AllCl [Cl.sl cGLin a1 c1 m1, Cl.sl cStr a2 c2 names1, Cl.sl (cInt .i64) a3 c3 ext1] F w0) (r : Bool)
  (h : m_law10_few m1 names1 ext1 = some r) :
  Calls Try.prog 7 #[(vs a1 m1.length c1), (vs a2 names1.length c2), (vs a3 ext1.length c3)] w0 fun e w => e = .returned (vb r) ∧ Ext w0 w ∧ AllCl [] F w := by
 refine enterK (l := [(vs a1 m1.length c1), (vs a2 names1.length c2), (vs a3 ext1.length c3)]) Try.func7 rfl Try.ntmps7 rfl ?_
 have hI := Bun.start hF hc
 clear hc
 rw [m_law10_few] at h
 refine sr ?_
 refine sac ?_
 refine nk ?_
 refine c_seq ?_
 refine sr ?_
 refine sm ?_
 refine sq (y_lenl rfl Try.underlying22 et) ?_
 refine sq (y_gtr rfl et ev_const) ?_
 refine sm ?_
 refine s_gval (g_false rfl rfl rfl rfl) rfl (fun hc => (y_move rfl et)) ?_
 refine s_gval (g_false rfl rfl rfl rfl) rfl (fun hc => (y_lenl rfl Try.underlying23 (ev_gv et hc))) ?_
 refine s_gval (g_false rfl rfl rfl rfl) rfl (fun hc => (y_gtr rfl (ev_gv et hc) ev_const)) ?_
 refine sq (y_or rfl et et) ?_
 refine sm ?_
 refine s_gval (g_false rfl rfl rfl rfl) rfl (fun hc => (y_move rfl et)) ?_
 refine s_gval (g_false rfl rfl rfl rfl) rfl (fun hc => (y_lenl rfl Try.underlying24 (ev_gv et hc))) ?_
 refine s_gval (g_false rfl rfl rfl rfl) rfl (fun hc => (y_gtr rfl (ev_gv et hc) ev_const)) ?_
 refine sq (y_or rfl et et) ?_
 refine sm ?_
 refine s_gval (g_false rfl rfl rfl rfl) rfl (fun hc => (y_move rfl et)) ?_
 obtain ⟨r1, hx1, h⟩ := bnd_some h
 replace hx1 := gd_some hx1
 refine s_gcallU (v := (vb r1)) (g_false rfl rfl rfl rfl) rfl (fun hc => (r_callF (vs := [(vs a3 ext1.length c3), (vi 200)]) rfl ok_15 ⟨(ev_gv et hc), ⟨ev_const, trivial⟩⟩)) (fun hc => (c_ref10_Few (Dj F noM) w0 hI.lt ext1 200 a3 c3 ⟨(hI.get (.s (.s .z))), trivial⟩ r1 (hx1 hc)).mono fun _ _ k => ⟨k.1, k.2.1⟩) ?_
 intro w1 hx2; replace hI := hI.ext hx2
 refine s_gval (g_false rfl rfl rfl rfl) rfl (fun hc => (y_not rfl (ev_gv et hc))) ?_
 refine sq (y_or rfl et et) ?_
 refine nk ?_
 refine c_cond (b := (((decide (20 < (m1.length : Int))) || (decide (20 < (names1.length : Int)))) || (decide (20 < (ext1.length : Int)))) || (!r1)) et (fun hb => ?_) (fun hb => ?_)
 ·replace h := ite_t hb h
  refine sr ?_
  refine sac ?_
  refine nk ?_
  refine c_ret ?_
  obtain rfl := some_inj h
  exact q_ret (vs := [(vb false)]) Try.results7 ⟨ev_tmp rfl rfl, trivial⟩ ⟨rfl, hI.ext0, hI.fin trivial⟩
 ·replace h := ite_f hb h
  refine c_skip ?_
  refine k_same ?_
  refine c_join (α := Unit) (fun _ => ⟨52, []⟩) (fun _ => [(1, (vs a2 names1.length c2))]) (fun _ => fun w => ∃ C, Bun noM F w0 C w [] [Cl.sl cStr a2 c2 names1] ∧ m_law10_few_j1 names1 = some r) ?_ ?_
  ·clear h hI; rintro _ w2 ⟨c4, hI, h⟩
   try dsimp only at hI h
   rw [m_law10_few_j1] at h
   refine c_sub (e := [(1, (vs a2 names1.length c2))]) ⟨rfl, trivial⟩ ?_
   refine c_seq ?_
   refine sr ?_
   refine sac ?_
   refine nk ?_
   refine c_block ?_
   refine c_loop (α := Nat × Int) (fun x => fun w => ∃ C, Bun noM F w0 C w [] [Cl.sl cStr a2 c2 names1] ∧ m_law10_few_l1 names1 (x.1) (x.2) = some r) (fun x _ => x.1) (fun x => [(1, (vs a2 names1.length c2)), (8, (vi (x.2)))]) (fu, 0) ⟨_, hI.arr .n ⟨.z, trivial⟩, h⟩ ⟨rfl, rfl, trivial⟩ ?_
   clear h hI; rintro ⟨fuel1, i1⟩ w3 ⟨c5, hI, h⟩
   dsimp only at hI h
   rcases fuel1 with _ | fuel1
   ·rw [m_law10_few_l1] at h; cases h
   rw [m_law10_few_l1] at h
   refine c_sub (e := [(1, (vs a2 names1.length c2)), (8, (vi i1))]) ⟨rfl, rfl, trivial⟩ ?_
   refine c_seq ?_
   refine sr ?_
   refine sm ?_
   refine sm ?_
   refine sq (y_lenl rfl Try.underlying23 et) ?_
   refine sq (y_lss rfl et et) ?_
   refine nk ?_
   refine c_cond (b := decide (i1 < (names1.length : Int))) et (fun hb => ?_) (fun hb => ?_)
   ·replace h := ite_t hb h
    refine c_skip ?_
    refine k_same ?_
    refine c_seq ?_
    refine c_block ?_
    refine sr ?_
    refine sm ?_
    refine sm ?_
    obtain ⟨e1, hx3, h⟩ := bnd_some h
    obtain ⟨ad1, cs1, hA1, hr1, hq1⟩ := hI.clat .z hx3
    obtain rfl : cs1 = [(str e1)] := hr1
    refine sq (y_indexAddr rfl Try.underlying23 size_9 et et (lat_bd hx3) hA1) ?_
    refine sq (y_load1 (v := (str e1)) rfl et Try.underlying9 rfl hq1.1) ?_
    refine sq (y_lens rfl Try.underlying9 et) ?_
    refine sq (y_gtr rfl et ev_const) ?_
    refine nk ?_
    refine c_cond (b := decide (100 < (e1.length : Int))) et (fun hb => ?_) (fun hb => ?_)
    ·replace h := ite_t hb h
     refine sr ?_
     refine sac ?_
     refine nk ?_
     refine c_ret ?_
     obtain rfl := some_inj h
     exact q_ret (vs := [(vb false)]) Try.results7 ⟨ev_tmp rfl rfl, trivial⟩ ⟨rfl, hI.ext0, hI.fin trivial⟩
    ·replace h := ite_f hb h
     refine c_skip ?_
     refine k_same ?_
     refine c_region rfl ?_
     refine sm ?_
     refine sq (y_add rfl et ev_const) ?_
     refine sa ?_
     refine s_nil ?_
     exact k_loop (fuel1, wi64 (i1 + 1)) ⟨rfl, rfl, trivial⟩ ⟨_, hI.arr .n ⟨.z, trivial⟩, h⟩ (Nat.lt_succ_self _)
   ·replace h := ite_f hb h
    refine c_exit ?_
    refine k_in ?_
    refine k_same ?_
    refine sr ?_
    refine sac ?_
    refine nk ?_
    refine c_ret ?_
    obtain rfl := some_inj h
    exact q_ret (vs := [(vb true)]) Try.results7 ⟨ev_tmp rfl rfl, trivial⟩ ⟨rfl, hI.ext0, hI.fin trivial⟩
  ·skip
   refine sr ?_
   refine sac ?_
   refine nk ?_
   refine c_block ?_
   refine c_loop (α := Nat × Int) (fun x => fun w => ∃ C, Bun noM F w0 C w [] [Cl.sl cGLin a1 c1 m1, Cl.sl cStr a2 c2 names1] ∧ m_law10_few_l2 m1 names1 (x.1) (x.2) = some r) (fun x _ => x.1) (fun x => [(0, (vs a1 m1.length c1)), (1, (vs a2 names1.length c2)), (7, (vi (x.2)))]) (fu, 0) ⟨_, hI.arr .n ⟨.z, (.s .z), trivial⟩, h⟩ ⟨rfl, rfl, rfl, trivial⟩ ?_
   clear h hI; rintro ⟨fuel2, i2⟩ w4 ⟨c6, hI, h⟩
   dsimp only at hI h
   rcases fuel2 with _ | fuel2
   ·rw [m_law10_few_l2] at h; cases h
   rw [m_law10_few_l2] at h
   refine c_sub (e := [(0, (vs a1 m1.length c1)), (1, (vs a2 names1.length c2)), (7, (vi i2))]) ⟨rfl, rfl, rfl, trivial⟩ ?_
   refine c_seq ?_
   refine sr ?_
   refine sm ?_
   refine sm ?_
   refine sq (y_lenl rfl Try.underlying22 et) ?_
   refine sq (y_lss rfl et et) ?_
   refine nk ?_
   refine c_cond (b := decide (i2 < (m1.length : Int))) et (fun hb => ?_) (fun hb => ?_)
   ·replace h := ite_t hb h
    refine c_skip ?_
    refine k_same ?_
    refine c_seq ?_
    refine c_block ?_
    refine sr ?_
    refine sm ?_
    refine sm ?_
    obtain ⟨e2, hx4, h⟩ := bnd_some h
    obtain ⟨ad2, cs2, hA2, hr2, hq2⟩ := hI.clat .z hx4
    obtain ⟨a4, c7, rfl, hf1⟩ := hr2
    have hI := hI.add (c := Cl.sl cGMono a4 c7 e2.L) hf1
    refine sq (y_indexAddr rfl Try.underlying22 size_51 et et (lat_bd hx4) hA2) ?_
    refine sq (y_fieldAddr rfl et Try.underlying51 rfl size_49 rfl) ?_
    refine sq (y_load1 (v := (vs a4 e2.L.length c7)) rfl et Try.underlying49 rfl (CA.part hq2 rfl).1) ?_
    refine sq (y_lenl rfl Try.underlying49 et) ?_
    refine sq (y_gtr rfl et ev_const) ?_
    refine nk ?_
    refine c_cond (b := decide (20 < (e2.L.length : Int))) et (fun hb => ?_) (fun hb => ?_)
    ·replace h := ite_t hb h
     refine sr ?_
     refine sac ?_
     refine nk ?_
     refine c_ret ?_
     obtain rfl := some_inj h
     exact q_ret (vs := [(vb false)]) Try.results7 ⟨ev_tmp rfl rfl, trivial⟩ ⟨rfl, hI.ext0, hI.fin trivial⟩
    ·replace h := ite_f hb h
     refine c_skip ?_
     refine k_same ?_
     refine c_region rfl ?_
     refine sm ?_
     refine sq (y_add rfl et ev_const) ?_
     refine sa ?_
     refine s_nil ?_
     exact k_loop (fuel2, wi64 (i2 + 1)) ⟨rfl, rfl, rfl, trivial⟩ ⟨_, hI.arr .n ⟨(.s .z), (.s (.s .z)), trivial⟩, h⟩ (Nat.lt_succ_self _)
   ·replace h := ite_f hb h
    refine c_exit ?_
    refine k_in ?_
    exact k_join () ⟨rfl, trivial⟩ ⟨_, hI.arr .n ⟨(.s .z), trivial⟩, h⟩ rfl
set_option maxRecDepth 100000 in
set_option maxHeartbeats 4000000 in
theorem c_lin_reserved (F : NP) (w0 : World) (hF : ∀ k, F k → k < w0.heap.size) (s1 : List UInt8) (hc : AllCl [] F w0) (r : Bool)
  (h : m_lin_reserved s1 = some r) :
  Calls Try.prog 74 #[(str s1)] w0 fun e w => e = .returned (vb r) ∧ Ext w0 w ∧ AllCl [] F w := by
 refine enterK (l := [(str s1)]) Try.func74 rfl Try.ntmps74 rfl ?_
 have hI := Bun.start hF hc
 clear hc
 rw [m_lin_reserved] at h
 refine sr ?_
 refine sac ?_
 refine nk ?_
 refine c_seq ?_
 refine sr ?_
 refine sm ?_
 refine nk ?_
 refine c_block ?_
 refine c_seq ?_
 refine sr ?_
 refine sq (y_eqs rfl et ev_const) ?_
 refine sa ?_
 refine nk ?_
 refine c_cond (b := decide (s1 = ([115, 105, 122, 101] : List UInt8))) et (fun hb => ?_) (fun hb => ?_)
 ·replace h := ite_t hb h
  refine c_skip ?_
  refine k_same ?_
  refine c_cond (b := decide (s1 = ([115, 105, 122, 101] : List UInt8))) et (fun hb => ?_) (fun hb => ?_)
  ·replace h := ite_t hb h
   refine sr ?_
   refine sac ?_
   refine nk ?_
   refine c_ret ?_
   obtain rfl := some_inj h
   exact q_ret (vs := [(vb true)]) Try.results74 ⟨ev_tmp rfl rfl, trivial⟩ ⟨rfl, hI.ext0, hI.fin trivial⟩
  ·replace h := ite_f hb h
   refine c_skip ?_
   refine k_same ?_
   refine sr ?_
   refine sac ?_
   refine nk ?_
   refine c_ret ?_
   obtain rfl := some_inj h
   exact q_ret (vs := [(vb false)]) Try.results74 ⟨ev_tmp rfl rfl, trivial⟩ ⟨rfl, hI.ext0, hI.fin trivial⟩
 ·replace h := ite_f hb h
  refine sr ?_
  refine sq (y_eqs rfl et ev_const) ?_
  refine sa ?_
  refine nk ?_
  refine c_cond (b := decide (s1 = ([119, 104, 101, 114, 101] : List UInt8))) et (fun hb => ?_) (fun hb => ?_)
  ·replace h := ite_t hb h
   refine c_skip ?_
   refine k_same ?_
   refine c_cond (b := decide (s1 = ([119, 104, 101, 114, 101] : List UInt8))) et (fun hb => ?_) (fun hb => ?_)
   ·replace h := ite_t hb h
    refine sr ?_
    refine sac ?_
    refine nk ?_
    refine c_ret ?_
    obtain rfl := some_inj h
    exact q_ret (vs := [(vb true)]) Try.results74 ⟨ev_tmp rfl rfl, trivial⟩ ⟨rfl, hI.ext0, hI.fin trivial⟩
   ·replace h := ite_f hb h
    refine c_skip ?_
    refine k_same ?_
    refine sr ?_
    refine sac ?_
    refine nk ?_
    refine c_ret ?_
    obtain rfl := some_inj h
    exact q_ret (vs := [(vb false)]) Try.results74 ⟨ev_tmp rfl rfl, trivial⟩ ⟨rfl, hI.ext0, hI.fin trivial⟩
  ·replace h := ite_f hb h
   refine sr ?_
   refine sq (y_eqs rfl et ev_const) ?_
   refine sa ?_
   refine nk ?_
   refine c_cond (b := decide (s1 = ([105, 110] : List UInt8))) et (fun hb => ?_) (fun hb => ?_)
   ·replace h := ite_t hb h
    refine c_skip ?_
    refine k_same ?_
    refine c_cond (b := decide (s1 = ([105, 110] : List UInt8))) et (fun hb => ?_) (fun hb => ?_)
    ·replace h := ite_t hb h
     refine sr ?_
     refine sac ?_
     refine nk ?_
     refine c_ret ?_
     obtain rfl := some_inj h
     exact q_ret (vs := [(vb true)]) Try.results74 ⟨ev_tmp rfl rfl, trivial⟩ ⟨rfl, hI.ext0, hI.fin trivial⟩
    ·replace h := ite_f hb h
     refine c_skip ?_
     refine k_same ?_
     refine sr ?_
     refine sac ?_
     refine nk ?_
     refine c_ret ?_
     obtain rfl := some_inj h
     exact q_ret (vs := [(vb false)]) Try.results74 ⟨ev_tmp rfl rfl, trivial⟩ ⟨rfl, hI.ext0, hI.fin trivial⟩
   ·replace h := ite_f hb h
    refine sr ?_
    refine sq (y_eqs rfl et ev_const) ?_
    refine sa ?_
    refine nk ?_
    refine c_cond (b := decide (s1 = ([100, 101, 102] : List UInt8))) et (fun hb => ?_) (fun hb => ?_)
    ·replace h := ite_t hb h
     refine c_skip ?_
     refine k_same ?_
     refine c_cond (b := decide (s1 = ([100, 101, 102] : List UInt8))) et (fun hb => ?_) (fun hb => ?_)
     ·replace h := ite_t hb h
      refine sr ?_
      refine sac ?_
      refine nk ?_
      refine c_ret ?_
      obtain rfl := some_inj h
      exact q_ret (vs := [(vb true)]) Try.results74 ⟨ev_tmp rfl rfl, trivial⟩ ⟨rfl, hI.ext0, hI.fin trivial⟩
     ·replace h := ite_f hb h
      refine c_skip ?_
      refine k_same ?_
      refine sr ?_
      refine sac ?_
      refine nk ?_
      refine c_ret ?_
      obtain rfl := some_inj h
      exact q_ret (vs := [(vb false)]) Try.results74 ⟨ev_tmp rfl rfl, trivial⟩ ⟨rfl, hI.ext0, hI.fin trivial⟩
    ·replace h := ite_f hb h
     refine sr ?_
     refine sq (y_eqs rfl et ev_const) ?_
     refine sa ?_
     refine nk ?_
     refine c_cond (b := decide (s1 = ([111, 117, 116] : List UInt8))) et (fun hb => ?_) (fun hb => ?_)
     ·replace h := ite_t hb h
      refine c_skip ?_
      refine k_same ?_
      refine c_cond (b := decide (s1 = ([111, 117, 116] : List UInt8))) et (fun hb => ?_) (fun hb => ?_)
      ·replace h := ite_t hb h
       refine sr ?_
       refine sac ?_
       refine nk ?_
       refine c_ret ?_
       obtain rfl := some_inj h
       exact q_ret (vs := [(vb true)]) Try.results74 ⟨ev_tmp rfl rfl, trivial⟩ ⟨rfl, hI.ext0, hI.fin trivial⟩
      ·replace h := ite_f hb h
       refine c_skip ?_
       refine k_same ?_
       refine sr ?_
       refine sac ?_
       refine nk ?_
       refine c_ret ?_
       obtain rfl := some_inj h
       exact q_ret (vs := [(vb false)]) Try.results74 ⟨ev_tmp rfl rfl, trivial⟩ ⟨rfl, hI.ext0, hI.fin trivial⟩
     ·replace h := ite_f hb h
      refine sr ?_
      refine sq (y_eqs rfl et ev_const) ?_
      refine sa ?_
      refine nk ?_
      refine c_cond (b := decide (s1 = ([115, 117, 109] : List UInt8))) et (fun hb => ?_) (fun hb => ?_)
      ·replace h := ite_t hb h
       refine c_skip ?_
       refine k_same ?_
       refine c_cond (b := decide (s1 = ([115, 117, 109] : List UInt8))) et (fun hb => ?_) (fun hb => ?_)
       ·replace h := ite_t hb h
        refine sr ?_
        refine sac ?_
        refine nk ?_
        refine c_ret ?_
        obtain rfl := some_inj h
        exact q_ret (vs := [(vb true)]) Try.results74 ⟨ev_tmp rfl rfl, trivial⟩ ⟨rfl, hI.ext0, hI.fin trivial⟩
       ·replace h := ite_f hb h
        refine c_skip ?_
        refine k_same ?_
        refine sr ?_
        refine sac ?_
        refine nk ?_
        refine c_ret ?_
        obtain rfl := some_inj h
        exact q_ret (vs := [(vb false)]) Try.results74 ⟨ev_tmp rfl rfl, trivial⟩ ⟨rfl, hI.ext0, hI.fin trivial⟩
      ·replace h := ite_f hb h
       refine sr ?_
       refine sq (y_eqs rfl et ev_const) ?_
       refine sa ?_
       refine nk ?_
       refine c_cond (b := decide (s1 = ([112, 114, 111, 100] : List UInt8))) et (fun hb => ?_) (fun hb => ?_)
       ·replace h := ite_t hb h
        refine c_skip ?_
        refine k_same ?_
        refine c_cond (b := decide (s1 = ([112, 114, 111, 100] : List UInt8))) et (fun hb => ?_) (fun hb => ?_)
        ·replace h := ite_t hb h
         refine sr ?_
         refine sac ?_
         refine nk ?_
         refine c_ret ?_
         obtain rfl := some_inj h
         exact q_ret (vs := [(vb true)]) Try.results74 ⟨ev_tmp rfl rfl, trivial⟩ ⟨rfl, hI.ext0, hI.fin trivial⟩
        ·replace h := ite_f hb h
         refine c_skip ?_
         refine k_same ?_
         refine sr ?_
         refine sac ?_
         refine nk ?_
         refine c_ret ?_
         obtain rfl := some_inj h
         exact q_ret (vs := [(vb false)]) Try.results74 ⟨ev_tmp rfl rfl, trivial⟩ ⟨rfl, hI.ext0, hI.fin trivial⟩
       ·replace h := ite_f hb h
        refine sr ?_
        refine sq (y_eqs rfl et ev_const) ?_
        refine sa ?_
        refine nk ?_
        refine c_cond (b := decide (s1 = ([109, 105, 110] : List UInt8))) et (fun hb => ?_) (fun hb => ?_)
        ·replace h := ite_t hb h
         refine c_skip ?_
         refine k_same ?_
         refine c_cond (b := decide (s1 = ([109, 105, 110] : List UInt8))) et (fun hb => ?_) (fun hb => ?_)
         ·replace h := ite_t hb h
          refine sr ?_
          refine sac ?_
          refine nk ?_
          refine c_ret ?_
          obtain rfl := some_inj h
          exact q_ret (vs := [(vb true)]) Try.results74 ⟨ev_tmp rfl rfl, trivial⟩ ⟨rfl, hI.ext0, hI.fin trivial⟩
         ·replace h := ite_f hb h
          refine c_skip ?_
          refine k_same ?_
          refine sr ?_
          refine sac ?_
          refine nk ?_
          refine c_ret ?_
          obtain rfl := some_inj h
          exact q_ret (vs := [(vb false)]) Try.results74 ⟨ev_tmp rfl rfl, trivial⟩ ⟨rfl, hI.ext0, hI.fin trivial⟩
        ·replace h := ite_f hb h
         refine sr ?_
         refine sq (y_eqs rfl et ev_const) ?_
         refine sa ?_
         refine nk ?_
         refine c_cond (b := decide (s1 = ([109, 97, 120] : List UInt8))) et (fun hb => ?_) (fun hb => ?_)
         ·replace h := ite_t hb h
          refine c_skip ?_
          refine k_same ?_
          refine c_cond (b := decide (s1 = ([109, 97, 120] : List UInt8))) et (fun hb => ?_) (fun hb => ?_)
          ·replace h := ite_t hb h
           refine sr ?_
           refine sac ?_
           refine nk ?_
           refine c_ret ?_
           obtain rfl := some_inj h
           exact q_ret (vs := [(vb true)]) Try.results74 ⟨ev_tmp rfl rfl, trivial⟩ ⟨rfl, hI.ext0, hI.fin trivial⟩
          ·replace h := ite_f hb h
           refine c_skip ?_
           refine k_same ?_
           refine sr ?_
           refine sac ?_
           refine nk ?_
           refine c_ret ?_
           obtain rfl := some_inj h
           exact q_ret (vs := [(vb false)]) Try.results74 ⟨ev_tmp rfl rfl, trivial⟩ ⟨rfl, hI.ext0, hI.fin trivial⟩
         ·replace h := ite_f hb h
          refine sr ?_
          refine sq (y_eqs rfl et ev_const) ?_
          refine sa ?_
          refine nk ?_
          refine c_cond (b := decide (s1 = ([115, 99, 97, 110] : List UInt8))) et (fun hb => ?_) (fun hb => ?_)
          ·replace h := ite_t hb h
           refine c_skip ?_
           refine k_same ?_
           refine c_cond (b := decide (s1 = ([115, 99, 97, 110] : List UInt8))) et (fun hb => ?_) (fun hb => ?_)
           ·replace h := ite_t hb h
            refine sr ?_
            refine sac ?_
            refine nk ?_
            refine c_ret ?_
            obtain rfl := some_inj h
            exact q_ret (vs := [(vb true)]) Try.results74 ⟨ev_tmp rfl rfl, trivial⟩ ⟨rfl, hI.ext0, hI.fin trivial⟩
           ·replace h := ite_f hb h
            refine c_skip ?_
            refine k_same ?_
            refine sr ?_
            refine sac ?_
            refine nk ?_
            refine c_ret ?_
            obtain rfl := some_inj h
            exact q_ret (vs := [(vb false)]) Try.results74 ⟨ev_tmp rfl rfl, trivial⟩ ⟨rfl, hI.ext0, hI.fin trivial⟩
          ·replace h := ite_f hb h
           refine sr ?_
           refine sq (y_eqs rfl et ev_const) ?_
           refine sa ?_
           refine nk ?_
           refine c_cond (b := decide (s1 = ([111, 118, 101, 114] : List UInt8))) et (fun hb => ?_) (fun hb => ?_)
           ·replace h := ite_t hb h
            refine c_skip ?_
            refine k_same ?_
            refine c_cond (b := decide (s1 = ([111, 118, 101, 114] : List UInt8))) et (fun hb => ?_) (fun hb => ?_)
            ·replace h := ite_t hb h
             refine sr ?_
             refine sac ?_
             refine nk ?_
             refine c_ret ?_
             obtain rfl := some_inj h
             exact q_ret (vs := [(vb true)]) Try.results74 ⟨ev_tmp rfl rfl, trivial⟩ ⟨rfl, hI.ext0, hI.fin trivial⟩
            ·replace h := ite_f hb h
             refine c_skip ?_
             refine k_same ?_
             refine sr ?_
             refine sac ?_
             refine nk ?_
             refine c_ret ?_
             obtain rfl := some_inj h
             exact q_ret (vs := [(vb false)]) Try.results74 ⟨ev_tmp rfl rfl, trivial⟩ ⟨rfl, hI.ext0, hI.fin trivial⟩
           ·replace h := ite_f hb h
            refine sr ?_
            refine sq (y_eqs rfl et ev_const) ?_
            refine sa ?_
            refine nk ?_
            refine c_cond (b := decide (s1 = ([105, 102] : List UInt8))) et (fun hb => ?_) (fun hb => ?_)
            ·replace h := ite_t hb h
             refine c_skip ?_
             refine k_same ?_
             refine c_cond (b := decide (s1 = ([105, 102] : List UInt8))) et (fun hb => ?_) (fun hb => ?_)
             ·replace h := ite_t hb h
              refine sr ?_
              refine sac ?_
              refine nk ?_
              refine c_ret ?_
              obtain rfl := some_inj h
              exact q_ret (vs := [(vb true)]) Try.results74 ⟨ev_tmp rfl rfl, trivial⟩ ⟨rfl, hI.ext0, hI.fin trivial⟩
             ·replace h := ite_f hb h
              refine c_skip ?_
              refine k_same ?_
              refine sr ?_
              refine sac ?_
              refine nk ?_
              refine c_ret ?_
              obtain rfl := some_inj h
              exact q_ret (vs := [(vb false)]) Try.results74 ⟨ev_tmp rfl rfl, trivial⟩ ⟨rfl, hI.ext0, hI.fin trivial⟩
            ·replace h := ite_f hb h
             refine sr ?_
             refine sq (y_eqs rfl et ev_const) ?_
             refine sa ?_
             refine nk ?_
             refine c_cond (b := decide (s1 = ([99, 97, 115, 116] : List UInt8))) et (fun hb => ?_) (fun hb => ?_)
             ·replace h := ite_t hb h
              refine c_skip ?_
              refine k_same ?_
              refine c_cond (b := decide (s1 = ([99, 97, 115, 116] : List UInt8))) et (fun hb => ?_) (fun hb => ?_)
              ·replace h := ite_t hb h
               refine sr ?_
               refine sac ?_
               refine nk ?_
               refine c_ret ?_
               obtain rfl := some_inj h
               exact q_ret (vs := [(vb true)]) Try.results74 ⟨ev_tmp rfl rfl, trivial⟩ ⟨rfl, hI.ext0, hI.fin trivial⟩
              ·replace h := ite_f hb h
               refine c_skip ?_
               refine k_same ?_
               refine sr ?_
               refine sac ?_
               refine nk ?_
               refine c_ret ?_
               obtain rfl := some_inj h
               exact q_ret (vs := [(vb false)]) Try.results74 ⟨ev_tmp rfl rfl, trivial⟩ ⟨rfl, hI.ext0, hI.fin trivial⟩
             ·replace h := ite_f hb h
              refine sr ?_
              refine sq (y_eqs rfl et ev_const) ?_
              refine sa ?_
              refine nk ?_
              refine c_cond (b := decide (s1 = ([102, 114, 97, 99] : List UInt8))) et (fun hb => ?_) (fun hb => ?_)
              ·replace h := ite_t hb h
               refine c_skip ?_
               refine k_same ?_
               refine c_cond (b := decide (s1 = ([102, 114, 97, 99] : List UInt8))) et (fun hb => ?_) (fun hb => ?_)
               ·replace h := ite_t hb h
                refine sr ?_
                refine sac ?_
                refine nk ?_
                refine c_ret ?_
                obtain rfl := some_inj h
                exact q_ret (vs := [(vb true)]) Try.results74 ⟨ev_tmp rfl rfl, trivial⟩ ⟨rfl, hI.ext0, hI.fin trivial⟩
               ·replace h := ite_f hb h
                refine c_skip ?_
                refine k_same ?_
                refine sr ?_
                refine sac ?_
                refine nk ?_
                refine c_ret ?_
                obtain rfl := some_inj h
                exact q_ret (vs := [(vb false)]) Try.results74 ⟨ev_tmp rfl rfl, trivial⟩ ⟨rfl, hI.ext0, hI.fin trivial⟩
              ·replace h := ite_f hb h
               refine sr ?_
               refine sq (y_eqs rfl et ev_const) ?_
               refine sa ?_
               refine nk ?_
               refine c_cond (b := decide (s1 = ([105, 110, 116] : List UInt8))) et (fun hb => ?_) (fun hb => ?_)
               ·replace h := ite_t hb h
                refine c_skip ?_
                refine k_same ?_
                refine c_cond (b := decide (s1 = ([105, 110, 116] : List UInt8))) et (fun hb => ?_) (fun hb => ?_)
                ·replace h := ite_t hb h
                 refine sr ?_
                 refine sac ?_
                 refine nk ?_
                 refine c_ret ?_
                 obtain rfl := some_inj h
                 exact q_ret (vs := [(vb true)]) Try.results74 ⟨ev_tmp rfl rfl, trivial⟩ ⟨rfl, hI.ext0, hI.fin trivial⟩
                ·replace h := ite_f hb h
                 refine c_skip ?_
                 refine k_same ?_
                 refine sr ?_
                 refine sac ?_
                 refine nk ?_
                 refine c_ret ?_
                 obtain rfl := some_inj h
                 exact q_ret (vs := [(vb false)]) Try.results74 ⟨ev_tmp rfl rfl, trivial⟩ ⟨rfl, hI.ext0, hI.fin trivial⟩
               ·replace h := ite_f hb h
                refine sr ?_
                refine sq (y_eqs rfl et ev_const) ?_
                refine sa ?_
                refine nk ?_
                refine c_cond (b := decide (s1 = ([102, 105, 120] : List UInt8))) et (fun hb => ?_) (fun hb => ?_)
                ·replace h := ite_t hb h
                 refine c_skip ?_
                 refine k_same ?_
                 refine c_cond (b := decide (s1 = ([102, 105, 120] : List UInt8))) et (fun hb => ?_) (fun hb => ?_)
                 ·replace h := ite_t hb h
                  refine sr ?_
                  refine sac ?_
                  refine nk ?_
                  refine c_ret ?_
                  obtain rfl := some_inj h
                  exact q_ret (vs := [(vb true)]) Try.results74 ⟨ev_tmp rfl rfl, trivial⟩ ⟨rfl, hI.ext0, hI.fin trivial⟩
                 ·replace h := ite_f hb h
                  refine c_skip ?_
                  refine k_same ?_
                  refine sr ?_
                  refine sac ?_
                  refine nk ?_
                  refine c_ret ?_
                  obtain rfl := some_inj h
                  exact q_ret (vs := [(vb false)]) Try.results74 ⟨ev_tmp rfl rfl, trivial⟩ ⟨rfl, hI.ext0, hI.fin trivial⟩
                ·replace h := ite_f hb h
                 refine sr ?_
                 refine sq (y_eqs rfl et ev_const) ?_
                 refine sa ?_
                 refine nk ?_
                 refine c_cond (b := decide (s1 = ([99, 101, 105, 108] : List UInt8))) et (fun hb => ?_) (fun hb => ?_)
                 ·replace h := ite_t hb h
                  refine c_skip ?_
                  refine k_same ?_
                  refine c_cond (b := decide (s1 = ([99, 101, 105, 108] : List UInt8))) et (fun hb => ?_) (fun hb => ?_)
                  ·replace h := ite_t hb h
                   refine sr ?_
                   refine sac ?_
                   refine nk ?_
                   refine c_ret ?_
                   obtain rfl := some_inj h
                   exact q_ret (vs := [(vb true)]) Try.results74 ⟨ev_tmp rfl rfl, trivial⟩ ⟨rfl, hI.ext0, hI.fin trivial⟩
                  ·replace h := ite_f hb h
                   refine c_skip ?_
                   refine k_same ?_
                   refine sr ?_
                   refine sac ?_
                   refine nk ?_
                   refine c_ret ?_
                   obtain rfl := some_inj h
                   exact q_ret (vs := [(vb false)]) Try.results74 ⟨ev_tmp rfl rfl, trivial⟩ ⟨rfl, hI.ext0, hI.fin trivial⟩
                 ·replace h := ite_f hb h
                  refine sr ?_
                  refine sq (y_eqs rfl et ev_const) ?_
                  refine sa ?_
                  refine nk ?_
                  refine c_cond (b := decide (s1 = ([102, 108, 111, 111, 114] : List UInt8))) et (fun hb => ?_) (fun hb => ?_)
                  ·replace h := ite_t hb h
                   refine c_skip ?_
                   refine k_same ?_
                   refine c_cond (b := decide (s1 = ([102, 108, 111, 111, 114] : List UInt8))) et (fun hb => ?_) (fun hb => ?_)
                   ·replace h := ite_t hb h
                    refine sr ?_
                    refine sac ?_
                    refine nk ?_
                    refine c_ret ?_
                    obtain rfl := some_inj h
                    exact q_ret (vs := [(vb true)]) Try.results74 ⟨ev_tmp rfl rfl, trivial⟩ ⟨rfl, hI.ext0, hI.fin trivial⟩
                   ·replace h := ite_f hb h
                    refine c_skip ?_
                    refine k_same ?_
                    refine sr ?_
                    refine sac ?_
                    refine nk ?_
                    refine c_ret ?_
                    obtain rfl := some_inj h
                    exact q_ret (vs := [(vb false)]) Try.results74 ⟨ev_tmp rfl rfl, trivial⟩ ⟨rfl, hI.ext0, hI.fin trivial⟩
                  ·replace h := ite_f hb h
                   refine sr ?_
                   refine sq (y_eqs rfl et ev_const) ?_
                   refine sa ?_
                   refine nk ?_
                   refine c_cond (b := decide (s1 = ([122, 101, 114, 111] : List UInt8))) et (fun hb => ?_) (fun hb => ?_)
                   ·replace h := ite_t hb h
                    refine c_skip ?_
                    refine k_same ?_
                    refine c_cond (b := decide (s1 = ([122, 101, 114, 111] : List UInt8))) et (fun hb => ?_) (fun hb => ?_)
                    ·replace h := ite_t hb h
                     refine sr ?_
                     refine sac ?_
                     refine nk ?_
                     refine c_ret ?_
                     obtain rfl := some_inj h
                     exact q_ret (vs := [(vb true)]) Try.results74 ⟨ev_tmp rfl rfl, trivial⟩ ⟨rfl, hI.ext0, hI.fin trivial⟩
                    ·replace h := ite_f hb h
                     refine c_skip ?_
                     refine k_same ?_
                     refine sr ?_
                     refine sac ?_
                     refine nk ?_
                     refine c_ret ?_
                     obtain rfl := some_inj h
                     exact q_ret (vs := [(vb false)]) Try.results74 ⟨ev_tmp rfl rfl, trivial⟩ ⟨rfl, hI.ext0, hI.fin trivial⟩
                   ·replace h := ite_f hb h
                    refine sr ?_
                    refine sq (y_eqs rfl et ev_const) ?_
                    refine sa ?_
                    refine nk ?_
                    refine c_cond (b := decide (s1 = ([101, 118, 101, 110] : List UInt8))) et (fun hb => ?_) (fun hb => ?_)
                    ·replace h := ite_t hb h
                     refine c_skip ?_
                     refine k_same ?_
                     refine c_cond (b := decide (s1 = ([101, 118, 101, 110] : List UInt8))) et (fun hb => ?_) (fun hb => ?_)
                     ·replace h := ite_t hb h
                      refine sr ?_
                      refine sac ?_
                      refine nk ?_
                      refine c_ret ?_
                      obtain rfl := some_inj h
                      exact q_ret (vs := [(vb true)]) Try.results74 ⟨ev_tmp rfl rfl, trivial⟩ ⟨rfl, hI.ext0, hI.fin trivial⟩
                     ·replace h := ite_f hb h
                      refine c_skip ?_
                      refine k_next (e := []) trivial ?_
                      refine sr ?_
                      refine sac ?_
                      refine nk ?_
                      refine c_ret ?_
                      obtain rfl := some_inj h
                      exact q_ret (vs := [(vb false)]) Try.results74 ⟨ev_tmp rfl rfl, trivial⟩ ⟨rfl, hI.ext0, hI.fin trivial⟩
                    ·replace h := ite_f hb h
                     refine sr ?_
                     refine sq (y_eqs rfl et ev_const) ?_
                     refine sa ?_
                     refine nk ?_
                     refine c_cond (b := decide (s1 = ([115, 97, 116] : List UInt8))) et (fun hb => ?_) (fun hb => ?_)
                     ·replace h := ite_t hb h
                      refine c_skip ?_
                      refine k_next (e := [(4, (vb (decide (s1 = ([115, 97, 116] : List UInt8)))))]) ⟨rfl, trivial⟩ ?_
                      refine c_cond (b := decide (s1 = ([115, 97, 116] : List UInt8))) et (fun hb => ?_) (fun hb => ?_)
                      ·replace h := ite_t hb h
                       refine sr ?_
                       refine sac ?_
                       refine nk ?_
                       refine c_ret ?_
                       obtain rfl := some_inj h
                       exact q_ret (vs := [(vb true)]) Try.results74 ⟨ev_tmp rfl rfl, trivial⟩ ⟨rfl, hI.ext0, hI.fin trivial⟩
                      ·replace h := ite_f hb h
                       refine c_skip ?_
                       refine k_same ?_
                       refine sr ?_
                       refine sac ?_
                       refine nk ?_
                       refine c_ret ?_
                       obtain rfl := some_inj h
                       exact q_ret (vs := [(vb false)]) Try.results74 ⟨ev_tmp rfl rfl, trivial⟩ ⟨rfl, hI.ext0, hI.fin trivial⟩
                     ·replace h := ite_f hb h
                      refine c_region rfl ?_
                      refine sq (y_eqs rfl et ev_const) ?_
                      refine sa ?_
                      refine s_nil ?_
                      refine k_next (e := [(4, (vb (decide (s1 = ([119, 114, 97, 112] : List UInt8)))))]) ⟨rfl, trivial⟩ ?_
                      refine c_cond (b := decide (s1 = ([119, 114, 97, 112] : List UInt8))) et (fun hb => ?_) (fun hb => ?_)
                      ·replace h := ite_t hb h
                       refine sr ?_
                       refine sac ?_
                       refine nk ?_
                       refine c_ret ?_
                       obtain rfl := some_inj h
                       exact q_ret (vs := [(vb true)]) Try.results74 ⟨ev_tmp rfl rfl, trivial⟩ ⟨rfl, hI.ext0, hI.fin trivial⟩
                      ·replace h := ite_f hb h
                       refine c_skip ?_
                       refine k_same ?_
                       refine sr ?_
                       refine sac ?_
                       refine nk ?_
                       refine c_ret ?_
                       obtain rfl := some_inj h
                       exact q_ret (vs := [(vb false)]) Try.results74 ⟨ev_tmp rfl rfl, trivial⟩ ⟨rfl, hI.ext0, hI.fin trivial⟩
set_option maxRecDepth 100000 in
set_option maxHeartbeats 4000000 in
theorem c_lin_identifier (F : NP) (w0 : World) (hF : ∀ k, F k → k < w0.heap.size) (s1 : List UInt8) (hc : AllCl [] F w0) (r : Bool)
  (h : m_lin_identifier s1 = some r) :
  Calls Try.prog 53 #[(str s1)] w0 fun e w => e = .returned (vb r) ∧ Ext w0 w ∧ AllCl [] F w := by
 refine enterK (l := [(str s1)]) Try.func53 rfl Try.ntmps53 rfl ?_
 have hI := Bun.start hF hc
 clear hc
 rw [m_lin_identifier] at h
 refine sr ?_
 refine sac ?_
 refine nk ?_
 refine c_seq ?_
 refine sr ?_
 refine sm ?_
 refine sq (y_lens rfl Try.underlying9 et) ?_
 refine sq (y_lss rfl et ev_const) ?_
 refine sm ?_
 refine s_gval (g_false rfl rfl rfl rfl) rfl (fun hc => (y_move rfl et)) ?_
 refine s_gval (g_false rfl rfl rfl rfl) rfl (fun hc => (y_lens rfl Try.underlying9 (ev_gv et hc))) ?_
 refine s_gval (g_false rfl rfl rfl rfl) rfl (fun hc => (y_gtr rfl (ev_gv et hc) ev_const)) ?_
 refine sq (y_or rfl et et) ?_
 refine sm ?_
 refine s_gval (g_false rfl rfl rfl rfl) rfl (fun hc => (y_move rfl et)) ?_
 obtain ⟨r1, hx1, h⟩ := bnd_some h
 replace hx1 := gd_some hx1
 refine s_gcallU (v := (vb r1)) (g_false rfl rfl rfl rfl) rfl (fun hc => (r_callF (vs := [(str s1)]) rfl ok_74 ⟨(ev_gv et hc), trivial⟩)) (fun hc => (c_lin_reserved (Dj F noM) w0 hI.lt s1 trivial r1 (hx1 hc)).mono fun _ _ k => ⟨k.1, k.2.1⟩) ?_
 intro w1 hx2; replace hI := hI.ext hx2
 refine sq (y_or rfl et et) ?_
 refine sm ?_
 refine s_gval (g_false rfl rfl rfl rfl) rfl (fun hc => (y_move rfl et)) ?_
 obtain ⟨b1, hx3, h⟩ := bnd_some h
 replace hx3 := gd_some hx3
 refine s_gval (g_false rfl rfl rfl rfl) rfl (fun hc => (y_satl rfl Try.underlying9 (ev_gv et hc) ev_const (hx3 hc))) ?_
 refine s_gval (g_false rfl rfl rfl rfl) rfl (fun hc => (y_lss rfl (ev_gv et hc) ev_const)) ?_
 refine sq (y_or rfl et et) ?_
 refine sm ?_
 refine s_gval (g_false rfl rfl rfl rfl) rfl (fun hc => (y_move rfl et)) ?_
 obtain ⟨b2, hx4, h⟩ := bnd_some h
 replace hx4 := gd_some hx4
 refine s_gval (g_false rfl rfl rfl rfl) rfl (fun hc => (y_satl rfl Try.underlying9 (ev_gv et hc) ev_const (hx4 hc))) ?_
 refine s_gval (g_false rfl rfl rfl rfl) rfl (fun hc => (y_gtr rfl (ev_gv et hc) ev_const)) ?_
 refine sq (y_or rfl et et) ?_
 refine nk ?_
 refine c_cond (b := ((((decide ((s1.length : Int) < 1)) || (decide (16 < (s1.length : Int)))) || r1) || (decide (b1 < 97))) || (decide (122 < b2))) et (fun hb => ?_) (fun hb => ?_)
 ·replace h := ite_t hb h
  refine sr ?_
  refine sac ?_
  refine nk ?_
  refine c_ret ?_
  obtain rfl := some_inj h
  exact q_ret (vs := [(vb false)]) Try.results53 ⟨ev_tmp rfl rfl, trivial⟩ ⟨rfl, hI.ext0, hI.fin trivial⟩
 ·replace h := ite_f hb h
  refine c_skip ?_
  refine k_same ?_
  refine c_seq ?_
  refine sr ?_
  refine sm ?_
  refine sq (y_lens rfl Try.underlying9 et) ?_
  refine sq (y_move rfl ev_const) ?_
  refine s_nil ?_
  refine k_next (e := [(0, (str s1)), (28, (vi (s1.length : Int))), (29, (vi 0))]) ⟨rfl, rfl, rfl, trivial⟩ ?_
  refine c_block ?_
  refine c_loop (α := Nat × Int) (fun x => fun w => ∃ C, Bun noM F w0 C w [] [] ∧ m_lin_identifier_l1 s1 (x.1) (x.2) = some r) (fun x _ => x.1) (fun x => [(0, (str s1)), (28, (vi (s1.length : Int))), (29, (vi (x.2)))]) (fu, 0) ⟨_, hI.arr .n trivial, h⟩ ⟨rfl, rfl, rfl, trivial⟩ ?_
  clear h hI; rintro ⟨fuel1, i1⟩ w2 ⟨c1, hI, h⟩
  dsimp only at hI h
  rcases fuel1 with _ | fuel1
  ·rw [m_lin_identifier_l1] at h; cases h
  rw [m_lin_identifier_l1] at h
  refine c_sub (e := [(0, (str s1)), (28, (vi (s1.length : Int))), (29, (vi i1))]) ⟨rfl, rfl, rfl, trivial⟩ ?_
  refine sr ?_
  refine sq (y_lss rfl et et) ?_
  refine nk ?_
  refine c_seq ?_
  refine c_cond (b := decide (i1 < (s1.length : Int))) et (fun hb => ?_) (fun hb => ?_)
  ·replace h := ite_t hb h
   refine c_skip ?_
   refine k_same ?_
   refine c_seq ?_
   refine c_block ?_
   refine sr ?_
   refine sm ?_
   refine sa ?_
   refine nk ?_
   refine sr ?_
   refine sm ?_
   refine sm ?_
   obtain ⟨b3, hx5, h⟩ := bnd_some h
   refine sq (y_satl rfl Try.underlying9 et et hx5) ?_
   refine sa ?_
   refine nk ?_
   refine sr ?_
   refine sm ?_
   refine sq (y_lss rfl et ev_const) ?_
   refine sm ?_
   refine s_gval (g_false rfl rfl rfl rfl) rfl (fun hc => (y_move rfl et)) ?_
   refine s_gval (g_false rfl rfl rfl rfl) rfl (fun hc => (y_gtr rfl (ev_gv et hc) ev_const)) ?_
   refine sq (y_or rfl et et) ?_
   refine sm ?_
   refine s_gval (g_true rfl rfl rfl rfl) rfl (fun hc => (y_move rfl et)) ?_
   refine s_gval (g_true rfl rfl rfl rfl) rfl (fun hc => (y_lss rfl (ev_gv et hc) ev_const)) ?_
   refine s_gval (g_true rfl rfl rfl rfl) rfl (fun hc => (y_move rfl (ev_gv et hc))) ?_
   refine s_gval (g_false2 rfl rfl rfl rfl) rfl (fun hc => (y_move rfl et)) ?_
   refine s_gval (g_false2 rfl rfl rfl rfl) rfl (fun hc => (y_gtr rfl (ev_gv et hc) ev_const)) ?_
   refine s_gval (g_true rfl rfl rfl rfl) rfl (fun hc => (y_or2 rfl hc et et)) ?_
   refine sq (y_and rfl et et) ?_
   refine sm ?_
   refine s_gval (g_true rfl rfl rfl rfl) rfl (fun hc => (y_move rfl et)) ?_
   refine s_gval (g_true rfl rfl rfl rfl) rfl (fun hc => (y_neq rfl (ev_gv et hc) ev_const)) ?_
   refine sq (y_and rfl et et) ?_
   refine s_nil ?_
   refine k_next (e := [(0, (str s1)), (28, (vi (s1.length : Int))), (29, (vi i1)), (52, (vb ((((decide (b3 < 97)) || (decide (122 < b3))) && ((decide (b3 < 48)) || (decide (57 < b3)))) && (!decide (b3 = 95)))))]) ⟨rfl, rfl, rfl, rfl, trivial⟩ ?_
   refine c_cond (b := (((decide (b3 < 97)) || (decide (122 < b3))) && ((decide (b3 < 48)) || (decide (57 < b3)))) && (!decide (b3 = 95))) et (fun hb => ?_) (fun hb => ?_)
   ·replace h := ite_t hb h
    refine sr ?_
    refine sac ?_
    refine nk ?_
    refine c_ret ?_
    obtain rfl := some_inj h
    exact q_ret (vs := [(vb false)]) Try.results53 ⟨ev_tmp rfl rfl, trivial⟩ ⟨rfl, hI.ext0, hI.fin trivial⟩
   ·replace h := ite_f hb h
    refine c_skip ?_
    refine k_same ?_
    refine c_region rfl ?_
    refine sq (y_add rfl et ev_const) ?_
    refine sm ?_
    refine s_nil ?_
    exact k_loop (fuel1, wi64 (i1 + 1)) ⟨rfl, rfl, rfl, trivial⟩ ⟨_, hI.arr .n trivial, h⟩ (Nat.lt_succ_self _)
  ·replace h := ite_f hb h
   refine c_exit ?_
   refine k_in ?_
   refine k_same ?_
   refine sr ?_
   refine sac ?_
   refine nk ?_
   refine c_ret ?_
   obtain rfl := some_inj h
   exact q_ret (vs := [(vb true)]) Try.results53 ⟨ev_tmp rfl rfl, trivial⟩ ⟨rfl, hI.ext0, hI.fin trivial⟩
set_option maxRecDepth 100000 in
set_option maxHeartbeats 4000000 in
theorem c_lin_Var (F : NP) (w0 : World) (hF : ∀ k, F k → k < w0.heap.size) (name1 : List UInt8) (hc : AllCl [] F w0) (r : GLin)
  (h : m_lin_Var name1 = some r) :
  Calls Try.prog 52 #[(str name1)] w0 fun e w => ∃ (a1 : Option Addr) (c1 : Nat), e = .returned (Value.agg #[(vi r.K), (vs a1 r.L.length c1)]) ∧ Ext w0 w ∧ AllCl [Cl.sl cGMono a1 c1 r.L] F w := by
 refine enterK (l := [(str name1)]) Try.func52 rfl Try.ntmps52 rfl ?_
 have hI := Bun.start hF hc
 clear hc
 rw [m_lin_Var] at h
 refine sr ?_
 refine l_alloc (cs := #[(vi 0), (vs none 0 0)]) hI gn rfl rfl zero_51 rfl ?_
 clear hI; intro b1 c2 w1 hI
 refine nk ?_
 refine c_seq ?_
 refine sr ?_
 refine sm ?_
 obtain ⟨r1, hx1, h⟩ := bnd_some h
 refine s_call gn rfl (r_callF (vs := [(str name1)]) rfl ok_53 ⟨et, trivial⟩) (Calls.mono (c_lin_identifier (Dj F c2) w1 hI.lt name1 trivial r1 hx1) ?_)
 rintro _ w2 ⟨rfl, hx2, hl1⟩
 refine ⟨_, rfl, ?_⟩
 replace hI := (hI.ext hx2)
 refine sq (y_not rfl et) ?_
 refine nk ?_
 refine c_cond (b := !r1) et (fun hb => ?_) (fun hb => ?_)
 ·replace h := ite_t hb h
  refine sr ?_
  refine sq (y_build (vs := []) (cs := #[(vi 0), (vs none 0 0)]) rfl trivial (by kernel_rfl)) ?_
  refine l_store (new := [(vi 0), (vs none 0 0)]) (cs' := #[(vi 0), (vs none 0 0)]) hI .z gn rfl rfl et et rfl size_51 rfl rfl rfl ?_
  clear hI; intro c3 w3 hI
  refine nk ?_
  refine c_ret ?_
  have hI := hI.add (c := Cl.sl cGMono none 0 ([] : List GMono)) SlC.nil
  obtain rfl := some_inj h
  exact q_ret (vs := [(Value.agg #[(vi 0), (vs none 0 0)])]) Try.results52 ⟨⟨_, ev_tmp rfl rfl, load_agg (l := [(vi 0), (vs none 0 0)]) Try.underlying51 rfl size_51 (CellsAt.of_blk (hI.blk .z) rfl)⟩, trivial⟩ ⟨none, 0, rfl, hI.ext0, hI.fin ⟨.z, trivial⟩⟩
 ·replace h := ite_f hb h
  refine c_skip ?_
  refine k_same ?_
  refine sr ?_
  refine sm ?_
  refine sq (y_build (vs := [(0, (str name1)), (1, (vi 1))]) (cs := #[(str name1), (vi 1)]) rfl ⟨rfl, et, ⟨rfl, ev_const, trivial⟩⟩ (by kernel_rfl)) ?_
  refine l_lit (c := cGMono) (xs := ([(⟨name1, 1⟩ : GMono)] : List GMono)) (vs := [(0, (Value.agg #[(str name1), (vi 1)]))]) (cs := #[(str name1), (vi 1)]) (css := [[(str name1), (vi 1)]]) hI gn rfl rfl Try.underlying49 info_53 rfl ⟨rfl, et, trivial⟩ (by kernel_rfl) ⟨rfl, trivial⟩ rfl rfl rfl ?_
  clear hI; intro b2 c4 w4 hI
  refine sq (y_build (vs := [(1, (vs (some ⟨b2, 0, none⟩) ([(⟨name1, 1⟩ : GMono)] : List GMono).length 1))]) (cs := #[(vi 0), (vs (some ⟨b2, 0, none⟩) ([(⟨name1, 1⟩ : GMono)] : List GMono).length 1)]) rfl ⟨rfl, et, trivial⟩ (by kernel_rfl)) ?_
  refine l_store (new := [(vi 0), (vs (some ⟨b2, 0, none⟩) ([(⟨name1, 1⟩ : GMono)] : List GMono).length 1)]) (cs' := #[(vi 0), (vs (some ⟨b2, 0, none⟩) ([(⟨name1, 1⟩ : GMono)] : List GMono).length 1)]) hI (.s .z) gn rfl rfl et et rfl size_51 rfl rfl rfl ?_
  clear hI; intro c5 w5 hI
  refine nk ?_
  refine c_ret ?_
  obtain ⟨c6, hI⟩ := hI.release .z
  obtain rfl := some_inj h
  exact q_ret (vs := [(Value.agg #[(vi 0), (vs (some ⟨b2, 0, none⟩) ([(⟨name1, 1⟩ : GMono)] : List GMono).length 1)])]) Try.results52 ⟨⟨_, ev_tmp rfl rfl, load_agg (l := [(vi 0), (vs (some ⟨b2, 0, none⟩) ([(⟨name1, 1⟩ : GMono)] : List GMono).length 1)]) Try.underlying51 rfl size_51 (CellsAt.of_blk (hI.blk .z) rfl)⟩, trivial⟩ ⟨some ⟨b2, 0, none⟩, 1, rfl, hI.ext0, hI.fin ⟨.z, trivial⟩⟩
set_option maxRecDepth 100000 in
set_option maxHeartbeats 4000000 in
theorem c_slices_Index_string_string (F : NP) (w0 : World) (hF : ∀ k, F k → k < w0.heap.size) (s1 : List (List UInt8)) (v1 : List UInt8) (a1 : Option Addr) (c1 : Nat) (hc : AllCl [Cl.sl cStr a1 c1 s1] F w0) (r : Int)
  (h : m_slices_Index_string_string s1 v1 = some r) :
  Calls Try.prog 43 #[(vs a1 s1.length c1), (str v1)] w0 fun e w => e = .returned (vi r) ∧ Ext w0 w ∧ AllCl [] F w := by
 refine enterK (l := [(vs a1 s1.length c1), (str v1)]) Try.func43 rfl Try.ntmps43 rfl ?_
 have hI := Bun.start hF hc
 clear hc
 rw [m_slices_Index_string_string] at h
 refine sr ?_
 refine sac ?_
 refine nk ?_
 refine c_seq ?_
 refine sr ?_
 refine sm ?_
 refine sq (y_lenl rfl Try.underlying23 et) ?_
 refine sq (y_move rfl ev_const) ?_
 refine nk ?_
 refine c_block ?_
 refine c_loop (α := Nat × Int) (fun x => fun w => ∃ C, Bun noM F w0 C w [] [Cl.sl cStr a1 c1 s1] ∧ m_slices_Index_string_string_l1 s1 v1 (x.1) (x.2) = some r) (fun x _ => x.1) (fun x => [(0, (vs a1 s1.length c1)), (1, (str v1)), (7, (vi (s1.length : Int))), (8, (vi (x.2)))]) (fu, 0) ⟨_, hI.arr .n ⟨.z, trivial⟩, h⟩ ⟨rfl, rfl, rfl, rfl, trivial⟩ ?_
 clear h hI; rintro ⟨fuel1, i1⟩ w1 ⟨c2, hI, h⟩
 dsimp only at hI h
 rcases fuel1 with _ | fuel1
 ·rw [m_slices_Index_string_string_l1] at h; cases h
 rw [m_slices_Index_string_string_l1] at h
 refine c_sub (e := [(0, (vs a1 s1.length c1)), (1, (str v1)), (7, (vi (s1.length : Int))), (8, (vi i1))]) ⟨rfl, rfl, rfl, rfl, trivial⟩ ?_
 refine sr ?_
 refine sq (y_lss rfl et et) ?_
 refine nk ?_
 refine c_seq ?_
 refine c_cond (b := decide (i1 < (s1.length : Int))) et (fun hb => ?_) (fun hb => ?_)
 ·replace h := ite_t hb h
  refine c_skip ?_
  refine k_same ?_
  refine c_seq ?_
  refine c_block ?_
  refine sr ?_
  refine sm ?_
  refine sa ?_
  refine nk ?_
  refine sr ?_
  refine sm ?_
  refine sm ?_
  refine sm ?_
  obtain ⟨e1, hx1, h⟩ := bnd_some h
  obtain ⟨ad1, cs1, hA1, hr1, hq1⟩ := hI.clat .z hx1
  obtain rfl : cs1 = [(str e1)] := hr1
  refine sq (y_indexAddr rfl Try.underlying23 size_9 et et (lat_bd hx1) hA1) ?_
  refine sq (y_load1 (v := (str e1)) rfl et Try.underlying9 rfl hq1.1) ?_
  refine sq (y_eqs rfl et et) ?_
  refine nk ?_
  refine c_cond (b := decide (v1 = e1)) et (fun hb => ?_) (fun hb => ?_)
  ·replace h := ite_t hb h
   refine sr ?_
   refine sm ?_
   refine sa ?_
   refine nk ?_
   refine c_ret ?_
   obtain rfl := some_inj h
   exact q_ret (vs := [(vi i1)]) Try.results43 ⟨ev_tmp rfl rfl, trivial⟩ ⟨rfl, hI.ext0, hI.fin trivial⟩
  ·replace h := ite_f hb h
   refine c_skip ?_
   refine k_same ?_
   refine c_region rfl ?_
   refine sq (y_add rfl et ev_const) ?_
   refine sm ?_
   refine s_nil ?_
   exact k_loop (fuel1, wi64 (i1 + 1)) ⟨rfl, rfl, rfl, rfl, trivial⟩ ⟨_, hI.arr .n ⟨.z, trivial⟩, h⟩ (Nat.lt_succ_self _)
 ·replace h := ite_f hb h
  refine c_exit ?_
  refine k_in ?_
  refine k_same ?_
  refine sr ?_
  refine sac ?_
  refine nk ?_
  refine c_ret ?_
  obtain rfl := some_inj h
  exact q_ret (vs := [(vi (-1))]) Try.results43 ⟨ev_tmp rfl rfl, trivial⟩ ⟨rfl, hI.ext0, hI.fin trivial⟩
set_option maxRecDepth 100000 in
set_option maxHeartbeats 4000000 in
theorem c_slices_Contains_string_string (F : NP) (w0 : World) (hF : ∀ k, F k → k < w0.heap.size) (s1 : List (List UInt8)) (v1 : List UInt8) (a1 : Option Addr) (c1 : Nat) (hc : AllCl [Cl.sl cStr a1 c1 s1] F w0) (r : Bool)
  (h : m_slices_Contains_string_string s1 v1 = some r) :
  Calls Try.prog 29 #[(vs a1 s1.length c1), (str v1)] w0 fun e w => e = .returned (vb r) ∧ Ext w0 w ∧ AllCl [] F w := by
 refine enterK (l := [(vs a1 s1.length c1), (str v1)]) Try.func29 rfl Try.ntmps29 rfl ?_
 have hI := Bun.start hF hc
 clear hc
 rw [m_slices_Contains_string_string] at h
 refine sr ?_
 refine sac ?_
 refine nk ?_
 refine sr ?_
 refine sm ?_
 refine sm ?_
 obtain ⟨r1, hx1, h⟩ := bnd_some h
 refine s_call gn rfl (r_callF (vs := [(vs a1 s1.length c1), (str v1)]) rfl ok_43 ⟨et, ⟨et, trivial⟩⟩) (Calls.mono (c_slices_Index_string_string (Dj F noM) w0 hI.lt s1 v1 a1 c1 ⟨(hI.get .z), trivial⟩ r1 hx1) ?_)
 rintro _ w1 ⟨rfl, hx2, hl1⟩
 refine ⟨_, rfl, ?_⟩
 replace hI := (hI.ext hx2)
 refine sq (y_geq rfl et ev_const) ?_
 refine sa ?_
 refine nk ?_
 refine c_ret ?_
 obtain rfl := some_inj h
 exact q_ret (vs := [(vb (decide (0 ≤ r1)))]) Try.results29 ⟨ev_tmp rfl rfl, trivial⟩ ⟨rfl, hI.ext0, hI.fin trivial⟩
set_option maxRecDepth 100000 in
set_option maxHeartbeats 4000000 in
theorem c_affine_named (F : NP) (w0 : World) (hF : ∀ k, F k → k < w0.heap.size) (names1 : List (List UInt8)) (a1 : Option Addr) (c1 : Nat) (hc : AllCl [Cl.sl cStr a1 c1 names1] F w0) (r : Int)
  (h : m_affine_named names1 = some r) :
  Calls Try.prog 27 #[(vs a1 names1.length c1)] w0 fun e w => e = .returned (vi r) ∧ Ext w0 w ∧ AllCl [] F w := by
 refine enterK (l := [(vs a1 names1.length c1)]) Try.func27 rfl Try.ntmps27 rfl ?_
 have hI := Bun.start hF hc
 clear hc
 rw [m_affine_named] at h
 refine sr ?_
 refine sac ?_
 refine nk ?_
 refine c_seq ?_
 refine sr ?_
 refine sm ?_
 refine sq (y_lenl rfl Try.underlying23 et) ?_
 refine sq (y_move rfl ev_const) ?_
 refine nk ?_
 refine c_block ?_
 refine c_loop (α := Nat × Int) (fun x => fun w => ∃ C, Bun noM F w0 C w [] [Cl.sl cStr a1 c1 names1] ∧ m_affine_named_l1 names1 (x.1) (x.2) = some r) (fun x _ => x.1) (fun x => [(0, (vs a1 names1.length c1)), (5, (vs a1 names1.length c1)), (6, (vi (names1.length : Int))), (7, (vi (x.2)))]) (fu, 0) ⟨_, hI.arr .n ⟨.z, trivial⟩, h⟩ ⟨rfl, rfl, rfl, rfl, trivial⟩ ?_
 clear h hI; rintro ⟨fuel1, i1⟩ w1 ⟨c2, hI, h⟩
 dsimp only at hI h
 rcases fuel1 with _ | fuel1
 ·rw [m_affine_named_l1] at h; cases h
 rw [m_affine_named_l1] at h
 refine c_sub (e := [(0, (vs a1 names1.length c1)), (5, (vs a1 names1.length c1)), (6, (vi (names1.length : Int))), (7, (vi i1))]) ⟨rfl, rfl, rfl, rfl, trivial⟩ ?_
 refine sr ?_
 refine sq (y_lss rfl et et) ?_
 refine nk ?_
 refine c_seq ?_
 refine c_cond (b := decide (i1 < (names1.length : Int))) et (fun hb => ?_) (fun hb => ?_)
 ·replace h := ite_t hb h
  refine c_skip ?_
  refine k_same ?_
  refine c_seq ?_
  refine c_block ?_
  refine sr ?_
  refine sm ?_
  obtain ⟨e1, hx1, h⟩ := bnd_some h
  obtain ⟨ad1, cs1, hA1, hr1, hq1⟩ := hI.clat .z hx1
  obtain rfl : cs1 = [(str e1)] := hr1
  refine sq (y_indexAddr rfl Try.underlying23 size_9 et et (lat_bd hx1) hA1) ?_
  refine sq (y_load1 (v := (str e1)) rfl et Try.underlying9 rfl hq1.1) ?_
  refine sa ?_
  refine sa ?_
  refine nk ?_
  refine c_block ?_
  refine sr ?_
  refine sm ?_
  obtain ⟨r1, hx2, h⟩ := bnd_some h
  refine s_call gn rfl (r_callF (vs := [(str e1)]) rfl ok_52 ⟨et, trivial⟩) (Calls.mono (c_lin_Var (Dj F c2) w1 hI.lt e1 trivial r1 hx2) ?_)
  rintro _ w2 ⟨a2, c3, rfl, hx3, hl1⟩
  refine ⟨_, rfl, ?_⟩
  replace hI := (hI.ext hx3).adds hl1
  refine sq (y_field rfl et Try.underlying51 rfl (part_one Try.underlying49 rfl rfl)) ?_
  refine sq (y_lenl rfl Try.underlying49 et) ?_
  refine sq (y_eql rfl et ev_const) ?_
  refine sa ?_
  refine nk ?_
  refine c_cond (b := decide ((r1.L.length : Int) = 0)) et (fun hb => ?_) (fun hb => ?_)
  ·replace h := ite_t hb h
   refine sr ?_
   refine sac ?_
   refine nk ?_
   refine c_ret ?_
   obtain rfl := some_inj h
   exact q_ret (vs := [(vi 7)]) Try.results27 ⟨ev_tmp rfl rfl, trivial⟩ ⟨rfl, hI.ext0, hI.fin trivial⟩
  ·replace h := ite_f hb h
   refine sr ?_
   refine sm ?_
   refine sm ?_
   obtain ⟨zs1, hx4, h⟩ := bnd_some h
   refine sq (y_lupto rfl Try.underlying23 size_9 et et hx4 (hI.cap_ (.s .z))) ?_
   replace hI := hI.upto (.s .z) hx4
   refine sm ?_
   obtain ⟨r2, hx5, h⟩ := bnd_some h
   refine s_call gn rfl (r_callF (vs := [(vs a1 zs1.length c1), (str e1)]) rfl ok_29 ⟨et, ⟨et, trivial⟩⟩) (Calls.mono (c_slices_Contains_string_string (Dj F c2) w2 hI.lt zs1 e1 a1 c1 ⟨(hI.get .z), trivial⟩ r2 hx5) ?_)
   rintro _ w3 ⟨rfl, hx6, hl2⟩
   refine ⟨_, rfl, ?_⟩
   replace hI := (hI.ext hx6)
   refine sa ?_
   refine nk ?_
   refine c_cond (b := r2) et (fun hb => ?_) (fun hb => ?_)
   ·replace h := ite_t hb h
    refine sr ?_
    refine sac ?_
    refine nk ?_
    refine c_ret ?_
    obtain rfl := some_inj h
    exact q_ret (vs := [(vi 8)]) Try.results27 ⟨ev_tmp rfl rfl, trivial⟩ ⟨rfl, hI.ext0, hI.fin trivial⟩
   ·replace h := ite_f hb h
    refine c_skip ?_
    refine k_same ?_
    refine c_region rfl ?_
    refine sq (y_add rfl et ev_const) ?_
    refine sm ?_
    refine s_nil ?_
    exact k_loop (fuel1, wi64 (i1 + 1)) ⟨rfl, rfl, rfl, rfl, trivial⟩ ⟨_, hI.arr .n ⟨(.s (.s .z)), trivial⟩, h⟩ (Nat.lt_succ_self _)
 ·replace h := ite_f hb h
  refine c_exit ?_
  refine k_in ?_
  refine k_same ?_
  refine sr ?_
  refine sac ?_
  refine nk ?_
  refine c_ret ?_
  obtain rfl := some_inj h
  exact q_ret (vs := [(vi 0)]) Try.results27 ⟨ev_tmp rfl rfl, trivial⟩ ⟨rfl, hI.ext0, hI.fin trivial⟩
set_option maxRecDepth 100000 in
set_option maxHeartbeats 4000000 in
theorem c_lin_Validate (F : NP) (w0 : World) (hF : ∀ k, F k → k < w0.heap.size) (l1 : GLin) (a1 : Option Addr) (c1 : Nat) (hc : AllCl [Cl.sl cGMono a1 c1 l1.L] F w0) (r : Int)
  (h : m_lin_Validate l1 = some r) :
  Calls Try.prog 28 #[(Value.agg #[(vi l1.K), (vs a1 l1.L.length c1)])] w0 fun e w => e = .returned (vi r) ∧ Ext w0 w ∧ AllCl [] F w := by
 refine enterK (l := [(Value.agg #[(vi l1.K), (vs a1 l1.L.length c1)])]) Try.func28 rfl Try.ntmps28 rfl ?_
 have hI := Bun.start hF hc
 clear hc
 rw [m_lin_Validate] at h
 refine sr ?_
 refine l_box (v := (Value.agg #[(vi l1.K), (vs a1 l1.L.length c1)])) (cs := #[(vi l1.K), (vs a1 l1.L.length c1)]) hI gn rfl rfl et rfl ?_
 clear hI; intro b1 c2 w1 hI
 obtain ⟨c3, hI⟩ := hI.relBox .z
 refine sac ?_
 refine nk ?_
 refine c_seq ?_
 refine sr ?_
 refine sq (y_fieldAddr rfl et Try.underlying51 rfl size_49 rfl) ?_
 refine sq (y_load1 (v := (vs a1 l1.L.length c1)) rfl et Try.underlying49 rfl (hI.kblk (l := [(vs a1 l1.L.length c1)]) .z rfl).1) ?_
 refine sq (y_lenl rfl Try.underlying49 et) ?_
 refine sq (y_move rfl ev_const) ?_
 refine nk ?_
 refine c_block ?_
 refine c_loop (α := Nat × Int) (fun x => fun w => ∃ C, Bun noM F w0 C w [] [Cl.blk b1 51 #[(vi l1.K), (vs a1 l1.L.length c1)], Cl.sl cGMono a1 c1 l1.L] ∧ m_lin_Validate_l1 l1 (x.1) (x.2) = some r) (fun x _ => x.1) (fun x => [(1, (vp b1 0)), (6, (vs a1 l1.L.length c1)), (7, (vi (l1.L.length : Int))), (8, (vi (x.2)))]) (fu, 0) ⟨_, hI.arr .n ⟨.z, (.s .z), trivial⟩, h⟩ ⟨rfl, rfl, rfl, rfl, trivial⟩ ?_
 clear h hI; rintro ⟨fuel1, i1⟩ w2 ⟨c4, hI, h⟩
 dsimp only at hI h
 rcases fuel1 with _ | fuel1
 ·rw [m_lin_Validate_l1] at h; cases h
 rw [m_lin_Validate_l1] at h
 refine c_sub (e := [(1, (vp b1 0)), (6, (vs a1 l1.L.length c1)), (7, (vi (l1.L.length : Int))), (8, (vi i1))]) ⟨rfl, rfl, rfl, rfl, trivial⟩ ?_
 refine sr ?_
 refine sq (y_lss rfl et et) ?_
 refine nk ?_
 refine c_seq ?_
 refine c_cond (b := decide (i1 < (l1.L.length : Int))) et (fun hb => ?_) (fun hb => ?_)
 ·replace h := ite_t hb h
  refine c_skip ?_
  refine k_same ?_
  refine c_seq ?_
  refine c_block ?_
  refine sr ?_
  refine sm ?_
  obtain ⟨e1, hx1, h⟩ := bnd_some h
  obtain ⟨ad1, cs1, hA1, hr1, hq1⟩ := hI.clat (.s .z) hx1
  obtain rfl : cs1 = [(str e1.Name), (vi e1.By)] := hr1
  refine sq (y_indexAddr rfl Try.underlying49 size_53 et et (lat_bd hx1) hA1) ?_
  refine sq (y_loadN (l := [(str e1.Name), (vi e1.By)]) rfl et Try.underlying53 rfl size_53 hq1.1) ?_
  refine l_alloc (cs := #[(str ([] : List UInt8)), (vi 0)]) hI gn rfl rfl zero_53 rfl ?_
  clear hI; intro b2 c5 w3 hI
  refine sa ?_
  refine l_store (new := [(str e1.Name), (vi e1.By)]) (cs' := #[(str e1.Name), (vi e1.By)]) hI .z gn rfl rfl et et rfl size_53 rfl rfl rfl ?_
  clear hI; intro c6 w4 hI
  refine nk ?_
  refine c_seq ?_
  refine c_drawX [] false (.c (0, .q) (.c (1, .q) (.c (2, .s) (.c (3, .q) (.c (4, .q) (.c (5, .q) (.c (6, .q) (.c (7, .q) (.c (8, .q) (.c (9, .q) (.c (10, .q) (.c (11, .q) (.c (12, .q) (.c (13, .q) (.c (14, .q) (.c (15, .q) (.c (16, .q) (.c (17, .q) (.c (18, .q) (.c (19, .q) (.c (20, .q) (.c (21, .q) (.c (22, .q) (.c (23, .q) (.c (24, .q) .n))))))))))))))))))))))))) hI (by kernel_rfl) (by kernel_rfl) ?_
  clear hI; intro w5 hI
  refine a_q rfl gn rfl (fun w' => (y_fieldAddr rfl et Try.underlying53 rfl size_9 rfl)) ?_
  refine a_read rfl gn rfl (fun w' hw' => (y_load1 (v := (str e1.Name)) rfl et Try.underlying9 rfl ((CA.blk (hI.blk .z) rfl).at_ (SX.any rfl hw')))) (by kernel_rfl) ?_
  obtain ⟨r1, hx2, h⟩ := bnd_some h
  refine la_call rfl gn rfl (r_callF (vs := [(str e1.Name)]) rfl ok_53 ⟨et, trivial⟩) (Calls.mono (c_lin_identifier (Dj F c6) w5 hI.lt e1.Name trivial r1 hx2) ?_)
  rintro _ w6 ⟨rfl, hx3, hl1⟩
  refine ⟨_, rfl, hx3, ?_⟩
  replace hI := (hI.ext hx3)
  refine a_q rfl gn rfl (fun w' => (y_not rfl et)) ?_
  refine a_q rfl gn rfl (fun w' => (y_move rfl et)) ?_
  refine a_gval rfl (g_false rfl rfl rfl rfl) rfl (fun hc => fun w' => (y_fieldAddr rfl et Try.underlying53 rfl size_2 rfl)) ?_
  refine a_gread rfl (g_false rfl rfl rfl rfl) rfl (fun hc => fun w' hw' => (y_load1 (v := (vi e1.By)) rfl (ev_gv et hc) Try.underlying2 rfl ((CA.blk (hI.blk .z) rfl).at_ (SX.any rfl hw')))) (by kernel_rfl) ?_
  refine a_gval rfl (g_false rfl rfl rfl rfl) rfl (fun hc => fun w' => (y_eql rfl (ev_gv et hc) ev_const)) ?_
  refine a_q rfl gn rfl (fun w' => (y_or rfl et et)) ?_
  refine a_q rfl gn rfl (fun w' => (y_move rfl et)) ?_
  refine a_gval rfl (g_false rfl rfl rfl rfl) rfl (fun hc => fun w' => (y_move rfl et)) ?_
  refine a_gval rfl (g_false rfl rfl rfl rfl) rfl (fun hc => fun w' => (y_gtr rfl (ev_gv et hc) ev_const)) ?_
  refine a_gval rfl (g_false rfl rfl rfl rfl) rfl (fun hc => fun w' => (y_move rfl (ev_gv et hc))) ?_
  refine a_gval rfl (g_true2 rfl rfl rfl rfl) rfl (fun hc => fun w' => (y_fieldAddr rfl et Try.underlying51 rfl size_49 rfl)) ?_
  refine a_gread rfl (g_true2 rfl rfl rfl rfl) rfl (fun hc => fun w' hw' => (y_load1 (v := (vs a1 l1.L.length c1)) rfl (ev_gv et hc) Try.underlying49 rfl ((hI.kblk (l := [(vs a1 l1.L.length c1)]) .z rfl).at_ (SX.any rfl hw')))) (by kernel_rfl) ?_
  refine a_gval rfl (g_true2 rfl rfl rfl rfl) rfl (fun hc => fun w' => (y_move rfl et)) ?_
  refine a_gval rfl (g_true2 rfl rfl rfl rfl) rfl (fun hc => fun w' => (y_sub rfl (ev_gv et hc) ev_const)) ?_
  obtain ⟨e2, hx4, h⟩ := bnd_some h
  replace hx4 := gd_some hx4
  obtain ⟨ad2, cs2, hq2⟩ := hI.gclat (.s .z) hx4
  have hq3 : ((!((!r1) || (decide (e1.By = 0)))) && (decide (0 < i1))) = true → CA (Dj F c6) w6 (ad2.add (Int.toNat (wi64 (i1 - 1)) * 2)) [(str e2.Name), (vi e2.By)] := fun hc => by have k := hq2 hc; have e : cs2 = _ := k.2.1; rw [← e]; exact k.2.2
  refine a_gval rfl (g_true2 rfl rfl rfl rfl) rfl (fun hc => fun w' => (y_indexAddr rfl Try.underlying49 size_53 (ev_gv et hc) (ev_gv et hc) (lat_bd (hx4 hc)) (hq2 hc).1)) ?_
  refine a_gval rfl (g_true2 rfl rfl rfl rfl) rfl (fun hc => fun w' => (y_fieldAddr rfl (ev_gv et hc) Try.underlying53 rfl size_9 rfl)) ?_
  refine a_gread rfl (g_true2 rfl rfl rfl rfl) rfl (fun hc => fun w' hw' => (y_load1 (v := (str e2.Name)) rfl (ev_gv et hc) Try.underlying9 rfl ((CA.part (hq3 hc) rfl).at_ (SX.any rfl hw')))) (by kernel_rfl) ?_
  refine a_gval rfl (g_true2 rfl rfl rfl rfl) rfl (fun hc => fun w' => (y_fieldAddr rfl et Try.underlying53 rfl size_9 rfl)) ?_
  refine a_gread rfl (g_true2 rfl rfl rfl rfl) rfl (fun hc => fun w' hw' => (y_load1 (v := (str e1.Name)) rfl (ev_gv et hc) Try.underlying9 rfl ((CA.blk (hI.blk .z) rfl).at_ (SX.any rfl hw')))) (by kernel_rfl) ?_
  refine a_gval rfl (g_true2 rfl rfl rfl rfl) rfl (fun hc => fun w' => (y_ges rfl (ev_gv et hc) (ev_gv et hc))) ?_
  refine a_gval rfl (g_false rfl rfl rfl rfl) rfl (fun hc => fun w' => (y_and2 rfl hc et et)) ?_
  refine a_q rfl gn rfl (fun w' => (y_or rfl et et)) ?_
  refine a_nil ?_
  refine k_next (e := [(1, (vp b1 0)), (6, (vs a1 l1.L.length c1)), (7, (vi (l1.L.length : Int))), (8, (vi i1)), (37, (vb (((!r1) || (decide (e1.By = 0))) || ((decide (0 < i1)) && (!Op.bytesLess e2.Name e1.Name)))))]) ⟨rfl, rfl, rfl, rfl, rfl, trivial⟩ ?_
  refine c_cond (b := ((!r1) || (decide (e1.By = 0))) || ((decide (0 < i1)) && (!Op.bytesLess e2.Name e1.Name))) et (fun hb => ?_) (fun hb => ?_)
  ·replace h := ite_t hb h
   refine sr ?_
   refine sac ?_
   refine nk ?_
   refine c_ret ?_
   obtain rfl := some_inj h
   exact q_ret (vs := [(vi 1)]) Try.results28 ⟨ev_tmp rfl rfl, trivial⟩ ⟨rfl, hI.ext0, hI.fin trivial⟩
  ·replace h := ite_f hb h
   refine c_skip ?_
   refine k_same ?_
   refine c_region rfl ?_
   refine sq (y_add rfl et ev_const) ?_
   refine sm ?_
   refine s_nil ?_
   exact k_loop (fuel1, wi64 (i1 + 1)) ⟨rfl, rfl, rfl, rfl, trivial⟩ ⟨_, hI.arr .n ⟨.z, (.s .z), trivial⟩, h⟩ (Nat.lt_succ_self _)
 ·replace h := ite_f hb h
  refine c_exit ?_
  refine k_in ?_
  refine k_same ?_
  refine sr ?_
  refine sac ?_
  refine nk ?_
  refine c_ret ?_
  obtain rfl := some_inj h
  exact q_ret (vs := [(vi 0)]) Try.results28 ⟨ev_tmp rfl rfl, trivial⟩ ⟨rfl, hI.ext0, hI.fin trivial⟩
set_option maxRecDepth 100000 in
set_option maxHeartbeats 4000000 in
theorem c_affine_Validate (F : NP) (w0 : World) (hF : ∀ k, F k → k < w0.heap.size) (m1 : List GLin) (names1 : List (List UInt8)) (a1 : Option Addr) (c1 : Nat) (a2 : Option Addr) (c2 : Nat) (hc : AllCl [Cl.sl cGLin a1 c1 m1, Cl.sl cStr a2 c2 names1] F w0) (r : Int)
  (h : m_affine_Validate m1 names1 = some r) :
  Calls Try.prog 12 #[(vs a1 m1.length c1), (vs a2 names1.length c2)] w0 fun e w => e = .returned (vi r) ∧ Ext w0 w ∧ AllCl [] F w := by
 refine enterK (l := [(vs a1 m1.length c1), (vs a2 names1.length c2)]) Try.func12 rfl Try.ntmps12 rfl ?_
 have hI := Bun.start hF hc
 clear hc
 rw [m_affine_Validate] at h
 refine sr ?_
 refine sac ?_
 refine nk ?_
 refine c_seq ?_
 refine sr ?_
 refine sm ?_
 refine sq (y_lenl rfl Try.underlying22 et) ?_
 refine sq (y_gtr rfl et ev_const) ?_
 refine sm ?_
 refine s_gval (g_false rfl rfl rfl rfl) rfl (fun hc => (y_move rfl et)) ?_
 refine s_gval (g_false rfl rfl rfl rfl) rfl (fun hc => (y_lenl rfl Try.underlying23 (ev_gv et hc))) ?_
 refine s_gval (g_false rfl rfl rfl rfl) rfl (fun hc => (y_gtr rfl (ev_gv et hc) ev_const)) ?_
 refine sq (y_or rfl et et) ?_
 refine nk ?_
 refine c_cond (b := (decide (16 < (m1.length : Int))) || (decide (16 < (names1.length : Int)))) et (fun hb => ?_) (fun hb => ?_)
 ·replace h := ite_t hb h
  refine sr ?_
  refine sac ?_
  refine nk ?_
  refine c_ret ?_
  obtain rfl := some_inj h
  exact q_ret (vs := [(vi 2)]) Try.results12 ⟨ev_tmp rfl rfl, trivial⟩ ⟨rfl, hI.ext0, hI.fin trivial⟩
 ·replace h := ite_f hb h
  refine c_skip ?_
  refine k_same ?_
  refine c_seq ?_
  refine sr ?_
  refine sm ?_
  obtain ⟨r1, hx1, h⟩ := bnd_some h
  refine s_call gn rfl (r_callF (vs := [(vs a2 names1.length c2)]) rfl ok_27 ⟨et, trivial⟩) (Calls.mono (c_affine_named (Dj F noM) w0 hI.lt names1 a2 c2 ⟨(hI.get (.s .z)), trivial⟩ r1 hx1) ?_)
  rintro _ w1 ⟨rfl, hx2, hl1⟩
  refine ⟨_, rfl, ?_⟩
  replace hI := (hI.ext hx2)
  refine sa ?_
  refine nk ?_
  refine sr ?_
  refine sm ?_
  refine sq (y_neq rfl et ev_const) ?_
  refine nk ?_
  refine c_cond (b := !decide (r1 = 0)) et (fun hb => ?_) (fun hb => ?_)
  ·replace h := ite_t hb h
   refine sr ?_
   refine sm ?_
   refine sa ?_
   refine nk ?_
   refine c_ret ?_
   obtain rfl := some_inj h
   exact q_ret (vs := [(vi r1)]) Try.results12 ⟨ev_tmp rfl rfl, trivial⟩ ⟨rfl, hI.ext0, hI.fin trivial⟩
  ·replace h := ite_f hb h
   refine c_skip ?_
   refine k_same ?_
   refine c_seq ?_
   refine sr ?_
   refine sm ?_
   refine sq (y_lenl rfl Try.underlying22 et) ?_
   refine sq (y_move rfl ev_const) ?_
   refine nk ?_
   refine c_block ?_
   refine c_loop (α := Nat × Int) (fun x => fun w => ∃ C, Bun noM F w0 C w [] [Cl.sl cStr a2 c2 names1, Cl.sl cGLin a1 c1 m1] ∧ m_affine_Validate_l1 m1 names1 (x.1) (x.2) = some r) (fun x _ => x.1) (fun x => [(1, (vs a2 names1.length c2)), (23, (vs a1 m1.length c1)), (24, (vi (m1.length : Int))), (25, (vi (x.2)))]) (fu, 0) ⟨_, hI.arr .n ⟨(.s .z), .z, trivial⟩, h⟩ ⟨rfl, rfl, rfl, rfl, trivial⟩ ?_
   clear h hI; rintro ⟨fuel1, i1⟩ w2 ⟨c3, hI, h⟩
   dsimp only at hI h
   rcases fuel1 with _ | fuel1
   ·rw [m_affine_Validate_l1] at h; cases h
   rw [m_affine_Validate_l1] at h
   refine c_sub (e := [(1, (vs a2 names1.length c2)), (23, (vs a1 m1.length c1)), (24, (vi (m1.length : Int))), (25, (vi i1))]) ⟨rfl, rfl, rfl, rfl, trivial⟩ ?_
   refine sr ?_
   refine sq (y_lss rfl et et) ?_
   refine nk ?_
   refine c_seq ?_
   refine c_cond (b := decide (i1 < (m1.length : Int))) et (fun hb => ?_) (fun hb => ?_)
   ·replace h := ite_t hb h
    refine c_skip ?_
    refine k_same ?_
    refine c_join (α := Unit) (fun _ => ⟨46, []⟩) (fun _ => [(1, (vs a2 names1.length c2)), (23, (vs a1 m1.length c1)), (24, (vi (m1.length : Int))), (25, (vi i1))]) (fun _ => fun w => ∃ C, Bun noM F w0 C w [] [Cl.sl cStr a2 c2 names1, Cl.sl cGLin a1 c1 m1] ∧ m_affine_Validate_j1 (m_affine_Validate_l1 m1 names1 fuel1) i1 = some r) ?_ ?_
    ·clear h hI; rintro _ w3 ⟨c4, hI, h⟩
     try dsimp only at hI h
     rw [m_affine_Validate_j1] at h
     refine c_sub (e := [(1, (vs a2 names1.length c2)), (23, (vs a1 m1.length c1)), (24, (vi (m1.length : Int))), (25, (vi i1))]) ⟨rfl, rfl, rfl, rfl, trivial⟩ ?_
     refine c_region rfl ?_
     refine sq (y_add rfl et ev_const) ?_
     refine sm ?_
     refine s_nil ?_
     exact k_loop (fuel1, wi64 (i1 + 1)) ⟨rfl, rfl, rfl, rfl, trivial⟩ ⟨_, hI.arr .n ⟨.z, (.s .z), trivial⟩, h⟩ (Nat.lt_succ_self _)
    ·skip
     refine c_block ?_
     refine sr ?_
     obtain ⟨e1, hx3, h⟩ := bnd_some h
     obtain ⟨ad1, cs1, hA1, hr1, hq1⟩ := hI.clat (.s .z) hx3
     obtain ⟨a3, c5, rfl, hf1⟩ := hr1
     have hI := hI.add (c := Cl.sl cGMono a3 c5 e1.L) hf1
     refine sq (y_indexAddr rfl Try.underlying22 size_51 et et (lat_bd hx3) hA1) ?_
     refine sq (y_loadN (l := [(vi e1.K), (vs a3 e1.L.length c5)]) rfl et Try.underlying51 rfl size_51 hq1.1) ?_
     refine l_alloc (cs := #[(vi 0), (vs none 0 0)]) hI gn rfl rfl zero_51 rfl ?_
     clear hI; intro b1 c6 w4 hI
     refine l_store (new := [(vi e1.K), (vs a3 e1.L.length c5)]) (cs' := #[(vi e1.K), (vs a3 e1.L.length c5)]) hI .z gn rfl rfl et et rfl size_51 rfl rfl rfl ?_
     clear hI; intro c7 w5 hI
     refine nk ?_
     refine c_seq ?_
     refine sr ?_
     refine sq (y_loadN (l := [(vi e1.K), (vs a3 e1.L.length c5)]) rfl et Try.underlying51 rfl size_51 (CellsAt.of_blk (hI.blk .z) rfl)) ?_
     obtain ⟨r2, hx4, h⟩ := bnd_some h
     refine s_call gn rfl (r_callF (vs := [(Value.agg #[(vi e1.K), (vs a3 e1.L.length c5)])]) rfl ok_28 ⟨et, trivial⟩) (Calls.mono (c_lin_Validate (Dj F c7) w5 hI.lt e1 a3 c5 ⟨(hI.get .z), trivial⟩ r2 hx4) ?_)
     rintro _ w6 ⟨rfl, hx5, hl2⟩
     refine ⟨_, rfl, ?_⟩
     replace hI := (hI.ext hx5)
     refine sq (y_neq rfl et ev_const) ?_
     refine nk ?_
     refine c_cond (b := !decide (r2 = 0)) et (fun hb => ?_) (fun hb => ?_)
     ·replace h := ite_t hb h
      refine sr ?_
      refine sac ?_
      refine nk ?_
      refine c_ret ?_
      obtain rfl := some_inj h
      exact q_ret (vs := [(vi 1)]) Try.results12 ⟨ev_tmp rfl rfl, trivial⟩ ⟨rfl, hI.ext0, hI.fin trivial⟩
     ·replace h := ite_f hb h
      refine c_skip ?_
      refine k_same ?_
      refine sr ?_
      refine sq (y_fieldAddr rfl et Try.underlying51 rfl size_49 rfl) ?_
      refine sq (y_load1 (v := (vs a3 e1.L.length c5)) rfl et Try.underlying49 rfl (CellsAt.of_blk (hI.blk .z) rfl)) ?_
      refine sq (y_lenl rfl Try.underlying49 et) ?_
      refine sq (y_move rfl ev_const) ?_
      refine nk ?_
      refine c_block ?_
      refine c_loop (α := Nat × Int) (fun x => fun w => ∃ C, Bun noM F w0 C w [] [Cl.sl cStr a2 c2 names1, Cl.sl cGLin a1 c1 m1, Cl.sl cGMono a3 c5 e1.L] ∧ m_affine_Validate_l2 e1 names1 (m_affine_Validate_l1 m1 names1 fuel1) i1 (x.1) (x.2) = some r) (fun x _ => x.1) (fun x => [(1, (vs a2 names1.length c2)), (23, (vs a1 m1.length c1)), (24, (vi (m1.length : Int))), (25, (vi i1)), (33, (vs a3 e1.L.length c5)), (34, (vi (e1.L.length : Int))), (35, (vi (x.2)))]) (fu, 0) ⟨_, hI.arr .n ⟨(.s .z), (.s (.s .z)), .z, trivial⟩, h⟩ ⟨rfl, rfl, rfl, rfl, rfl, rfl, rfl, trivial⟩ ?_
      clear h hI; rintro ⟨fuel2, i2⟩ w7 ⟨c8, hI, h⟩
      dsimp only at hI h
      rcases fuel2 with _ | fuel2
      ·rw [m_affine_Validate_l2] at h; cases h
      rw [m_affine_Validate_l2] at h
      refine c_sub (e := [(1, (vs a2 names1.length c2)), (23, (vs a1 m1.length c1)), (24, (vi (m1.length : Int))), (25, (vi i1)), (33, (vs a3 e1.L.length c5)), (34, (vi (e1.L.length : Int))), (35, (vi i2))]) ⟨rfl, rfl, rfl, rfl, rfl, rfl, rfl, trivial⟩ ?_
      refine sr ?_
      refine sq (y_lss rfl et et) ?_
      refine nk ?_
      refine c_seq ?_
      refine c_cond (b := decide (i2 < (e1.L.length : Int))) et (fun hb => ?_) (fun hb => ?_)
      ·replace h := ite_t hb h
       refine c_skip ?_
       refine k_same ?_
       refine c_seq ?_
       refine c_block ?_
       refine sr ?_
       obtain ⟨e2, hx6, h⟩ := bnd_some h
       obtain ⟨ad2, cs2, hA2, hr2, hq2⟩ := hI.clat (.s (.s .z)) hx6
       obtain rfl : cs2 = [(str e2.Name), (vi e2.By)] := hr2
       refine sq (y_indexAddr rfl Try.underlying49 size_53 et et (lat_bd hx6) hA2) ?_
       refine sq (y_loadN (l := [(str e2.Name), (vi e2.By)]) rfl et Try.underlying53 rfl size_53 hq2.1) ?_
       refine l_alloc (cs := #[(str ([] : List UInt8)), (vi 0)]) hI gn rfl rfl zero_53 rfl ?_
       clear hI; intro b2 c9 w8 hI
       refine l_store (new := [(str e2.Name), (vi e2.By)]) (cs' := #[(str e2.Name), (vi e2.By)]) hI .z gn rfl rfl et et rfl size_53 rfl rfl rfl ?_
       clear hI; intro c10 w9 hI
       refine nk ?_
       refine sr ?_
       refine sm ?_
       refine sq (y_fieldAddr rfl et Try.underlying53 rfl size_9 rfl) ?_
       refine sq (y_load1 (v := (str e2.Name)) rfl et Try.underlying9 rfl (CellsAt.of_blk (hI.blk .z) rfl)) ?_
       obtain ⟨r3, hx7, h⟩ := bnd_some h
       refine s_call gn rfl (r_callF (vs := [(vs a2 names1.length c2), (str e2.Name)]) rfl ok_29 ⟨et, ⟨et, trivial⟩⟩) (Calls.mono (c_slices_Contains_string_string (Dj F c10) w9 hI.lt names1 e2.Name a2 c2 ⟨(hI.get .z), trivial⟩ r3 hx7) ?_)
       rintro _ w10 ⟨rfl, hx8, hl3⟩
       refine ⟨_, rfl, ?_⟩
       replace hI := (hI.ext hx8)
       refine sq (y_not rfl et) ?_
       refine nk ?_
       refine c_cond (b := !r3) et (fun hb => ?_) (fun hb => ?_)
       ·replace h := ite_t hb h
        refine sr ?_
        refine sac ?_
        refine nk ?_
        refine c_ret ?_
        obtain rfl := some_inj h
        exact q_ret (vs := [(vi 9)]) Try.results12 ⟨ev_tmp rfl rfl, trivial⟩ ⟨rfl, hI.ext0, hI.fin trivial⟩
       ·replace h := ite_f hb h
        refine c_skip ?_
        refine k_same ?_
        refine c_region rfl ?_
        refine sq (y_add rfl et ev_const) ?_
        refine sm ?_
        refine s_nil ?_
        exact k_loop (fuel2, wi64 (i2 + 1)) ⟨rfl, rfl, rfl, rfl, rfl, rfl, rfl, trivial⟩ ⟨_, hI.arr .n ⟨.z, (.s .z), (.s (.s .z)), trivial⟩, h⟩ (Nat.lt_succ_self _)
      ·replace h := ite_f hb h
       refine c_exit ?_
       refine k_in ?_
       exact k_join () ⟨rfl, rfl, rfl, rfl, trivial⟩ ⟨_, hI.arr .n ⟨.z, (.s .z), trivial⟩, h⟩ rfl
   ·replace h := ite_f hb h
    refine c_exit ?_
    refine k_in ?_
    refine k_same ?_
    refine sr ?_
    refine sac ?_
    refine nk ?_
    refine c_ret ?_
    obtain rfl := some_inj h
    exact q_ret (vs := [(vi 0)]) Try.results12 ⟨ev_tmp rfl rfl, trivial⟩ ⟨rfl, hI.ext0, hI.fin trivial⟩
set_option maxRecDepth 100000 in
set_option maxHeartbeats 4000000 in
theorem c_affine_bind (F : NP) (w0 : World) (hF : ∀ k, F k → k < w0.heap.size) (names1 : List (List UInt8)) (p1 : List Int) (a1 : Option Addr) (c1 : Nat) (a2 : Option Addr) (c2 : Nat) (hc : AllCl [Cl.sl cStr a1 c1 names1, Cl.sl (cInt .i64) a2 c2 p1] F w0) (r : List GBinding)
  (h : m_affine_bind names1 p1 = some r) :
  Calls Try.prog 48 #[(vs a1 names1.length c1), (vs a2 p1.length c2)] w0 fun e w => ∃ (a3 : Option Addr) (c3 : Nat), e = .returned (vs a3 r.length c3) ∧ Ext w0 w ∧ AllCl [Cl.sl cGBinding a3 c3 r] F w := by
 refine enterK (l := [(vs a1 names1.length c1), (vs a2 p1.length c2)]) Try.func48 rfl Try.ntmps48 rfl ?_
 have hI := Bun.start hF hc
 clear hc
 rw [m_affine_bind] at h
 refine sr ?_
 refine sac ?_
 refine nk ?_
 refine sr ?_
 refine sac ?_
 refine nk ?_
 refine c_seq ?_
 refine sr ?_
 refine sm ?_
 refine sq (y_lenl rfl Try.underlying23 et) ?_
 refine sq (y_move rfl ev_const) ?_
 refine nk ?_
 refine c_block ?_
 have hI := hI.nil cGBinding 101 none
 refine c_loop (α := Nat × (List GBinding) × Int × (Option Addr) × Nat) (fun x => fun w => ∃ C, Bun noM F w0 C w [MO.row cGBinding 101 (x.2.2.2.1) (x.2.2.2.2) (x.2.1)] [Cl.sl (cInt .i64) a2 c2 p1, Cl.sl cStr a1 c1 names1] ∧ m_affine_bind_l1 names1 p1 (x.1) (x.2.1) (x.2.2.1) = some r) (fun x _ => x.1) (fun x => [(1, (vs a2 p1.length c2)), (5, (vs (x.2.2.2.1) (x.2.1).length (x.2.2.2.2))), (8, (vs a1 names1.length c1)), (9, (vi (names1.length : Int))), (10, (vi (x.2.2.1)))]) (fu, ([] : List GBinding), 0, none, 0) ⟨_, hI.arr (.c .z .n) ⟨(.s .z), .z, trivial⟩, h⟩ ⟨rfl, rfl, rfl, rfl, rfl, trivial⟩ ?_
 clear h hI; rintro ⟨fuel1, env1, i1, a4, c4⟩ w1 ⟨c5, hI, h⟩
 dsimp only at hI h
 rcases fuel1 with _ | fuel1
 ·rw [m_affine_bind_l1] at h; cases h
 rw [m_affine_bind_l1] at h
 refine c_sub (e := [(1, (vs a2 p1.length c2)), (5, (vs a4 env1.length c4)), (8, (vs a1 names1.length c1)), (9, (vi (names1.length : Int))), (10, (vi i1))]) ⟨rfl, rfl, rfl, rfl, rfl, trivial⟩ ?_
 refine sr ?_
 refine sq (y_lss rfl et et) ?_
 refine nk ?_
 refine c_seq ?_
 refine c_cond (b := decide (i1 < (names1.length : Int))) et (fun hb => ?_) (fun hb => ?_)
 ·replace h := ite_t hb h
  refine c_skip ?_
  refine k_same ?_
  refine c_seq ?_
  refine c_block ?_
  refine sr ?_
  refine sm ?_
  obtain ⟨e1, hx1, h⟩ := bnd_some h
  obtain ⟨ad1, cs1, hA1, hr1, hq1⟩ := hI.clat (.s .z) hx1
  obtain rfl : cs1 = [(str e1)] := hr1
  refine sq (y_indexAddr rfl Try.underlying23 size_9 et et (lat_bd hx1) hA1) ?_
  refine sq (y_load1 (v := (str e1)) rfl et Try.underlying9 rfl hq1.1) ?_
  refine sa ?_
  refine sa ?_
  refine nk ?_
  refine c_region rfl ?_
  refine sm ?_
  refine sm ?_
  refine sm ?_
  refine sm ?_
  obtain ⟨e2, hx2, h⟩ := bnd_some h
  obtain ⟨ad2, cs2, hA2, hr2, hq2⟩ := hI.clat .z hx2
  obtain rfl : cs2 = [(vi e2)] := hr2
  refine sq (y_indexAddr rfl Try.underlying24 size_3 et et (lat_bd hx2) hA2) ?_
  refine sq (y_load1 (v := (vi e2)) rfl et Try.underlying3 rfl hq2.1) ?_
  refine sq (y_build (vs := [(0, (str e1)), (1, (vi e2))]) (cs := #[(str e1), (vi e2)]) rfl ⟨rfl, et, ⟨rfl, et, trivial⟩⟩ (by kernel_rfl)) ?_
  refine l_lit (c := cGBinding) (xs := ([(⟨e1, e2⟩ : GBinding)] : List GBinding)) (vs := [(0, (Value.agg #[(str e1), (vi e2)]))]) (cs := #[(str e1), (vi e2)]) (css := [[(str e1), (vi e2)]]) hI gn rfl rfl Try.underlying80 info_101 rfl ⟨rfl, et, trivial⟩ (by kernel_rfl) ⟨rfl, trivial⟩ rfl rfl rfl ?_
  clear hI; intro b1 c6 w2 hI
  obtain ⟨zs1, hx3, h⟩ := bnd_some h
  refine l_append (xs := env1) (ys := ([(⟨e1, e2⟩ : GBinding)] : List GBinding)) hI (.s .z) (hI.rd .z) hx3 gn rfl rfl Try.underlying80 info_101 rfl rfl et et ?_
  clear hI; intro a5 c7 c8 w3 hI
  refine sa ?_
  refine nk ?_
  refine c_region rfl ?_
  refine sq (y_add rfl et ev_const) ?_
  refine sm ?_
  refine s_nil ?_
  exact k_loop (fuel1, zs1, wi64 (i1 + 1), a5, c7) ⟨rfl, rfl, rfl, rfl, rfl, trivial⟩ ⟨_, hI.arr (.c (.s .z) .n) ⟨.z, (.s .z), trivial⟩, h⟩ (Nat.lt_succ_self _)
 ·replace h := ite_f hb h
  refine c_exit ?_
  refine k_in ?_
  refine k_same ?_
  refine sr ?_
  refine sm ?_
  refine sa ?_
  refine nk ?_
  refine c_ret ?_
  obtain ⟨c9, hI⟩ := hI.release .z
  obtain rfl := some_inj h
  exact q_ret (vs := [(vs a4 env1.length c4)]) Try.results48 ⟨ev_tmp rfl rfl, trivial⟩ ⟨a4, c4, rfl, hI.ext0, hI.fin ⟨.z, trivial⟩⟩
set_option maxRecDepth 100000 in
set_option maxHeartbeats 4000000 in
theorem c_lin_magnitude (F : NP) (w0 : World) (hF : ∀ k, F k → k < w0.heap.size) (n1 : Int) (hc : AllCl [] F w0) (r : Int)
  (h : m_lin_magnitude n1 = some r) :
  Calls Try.prog 69 #[(vi n1)] w0 fun e w => e = .returned (Value.int .u64 r) ∧ Ext w0 w ∧ AllCl [] F w := by
 refine enterK (l := [(vi n1)]) Try.func69 rfl Try.ntmps69 rfl ?_
 have hI := Bun.start hF hc
 clear hc
 rw [m_lin_magnitude] at h
 refine sr ?_
 refine sac ?_
 refine nk ?_
 refine c_seq ?_
 refine sr ?_
 refine sm ?_
 refine sq (y_lss rfl et ev_const) ?_
 refine nk ?_
 refine c_cond (b := decide (n1 < 0)) et (fun hb => ?_) (fun hb => ?_)
 ·replace h := ite_t hb h
  refine sr ?_
  refine sm ?_
  refine sq (y_conv rfl (by rw [Try.underlying2]; rfl) Try.underlying102 et) ?_
  refine sq (y_neg rfl et) ?_
  refine sa ?_
  refine nk ?_
  refine c_ret ?_
  obtain rfl := some_inj h
  exact q_ret (vs := [(Value.int .u64 (wu64 (-(wu64 n1))))]) Try.results69 ⟨ev_tmp rfl rfl, trivial⟩ ⟨rfl, hI.ext0, hI.fin trivial⟩
 ·replace h := ite_f hb h
  refine c_skip ?_
  refine k_same ?_
  refine sr ?_
  refine sm ?_
  refine sq (y_conv rfl (by rw [Try.underlying2]; rfl) Try.underlying102 et) ?_
  refine sa ?_
  refine nk ?_
  refine c_ret ?_
  obtain rfl := some_inj h
  exact q_ret (vs := [(Value.int .u64 (wu64 n1))]) Try.results69 ⟨ev_tmp rfl rfl, trivial⟩ ⟨rfl, hI.ext0, hI.fin trivial⟩
set_option maxRecDepth 100000 in
set_option maxHeartbeats 4000000 in
theorem c_lin_Eval_1 (F : NP) (w0 : World) (hF : ∀ k, F k → k < w0.heap.size) (b1 : GBinding) (a1 : GMono) (b2 : Nat) (hc : AllCl [Cl.blk b2 53 #[(str a1.Name), (vi a1.By)]] F w0) (r : Bool)
  (h : m_lin_Eval_1 b1 a1 = some r) :
  Calls Try.prog 71 #[(Value.agg #[(str b1.Name), (vi b1.Val)]), (vp b2 0)] w0 fun e w => e = .returned (vb r) ∧ Ext w0 w ∧ AllCl [] F w := by
 refine enterK (l := [(Value.agg #[(str b1.Name), (vi b1.Val)]), (vp b2 0)]) Try.func71 rfl Try.ntmps71 rfl ?_
 have hI := Bun.start hF hc
 clear hc
 rw [m_lin_Eval_1] at h
 refine sr ?_
 refine l_box (v := (Value.agg #[(str b1.Name), (vi b1.Val)])) (cs := #[(str b1.Name), (vi b1.Val)]) hI gn rfl rfl et rfl ?_
 clear hI; intro b3 c1 w1 hI
 obtain ⟨c2, hI⟩ := hI.relBox .z
 refine sac ?_
 refine nk ?_
 refine sr ?_
 refine sq (y_fieldAddr rfl et Try.underlying101 rfl size_9 rfl) ?_
 refine sq (y_load1 (v := (str b1.Name)) rfl et Try.underlying9 rfl (hI.kblk (l := [(str b1.Name)]) .z rfl).1) ?_
 refine sq (y_fieldAddr rfl et Try.underlying53 rfl size_9 rfl) ?_
 refine sq (y_load1 (v := (str a1.Name)) rfl et Try.underlying9 rfl (hI.kblk (l := [(str a1.Name)]) (.s .z) rfl).1) ?_
 refine sq (y_eqs rfl et et) ?_
 refine sa ?_
 refine nk ?_
 refine c_ret ?_
 obtain rfl := some_inj h
 exact q_ret (vs := [(vb (decide (b1.Name = a1.Name)))]) Try.results71 ⟨ev_tmp rfl rfl, trivial⟩ ⟨rfl, hI.ext0, hI.fin trivial⟩
set_option maxRecDepth 100000 in
set_option maxHeartbeats 4000000 in
theorem c_slices_IndexFunc_api_Binding_api_Binding (F : NP) (w0 : World) (hF : ∀ k, F k → k < w0.heap.size) (s1 : List GBinding) (f1 : (GBinding → Option Bool)) (a1 : Option Addr) (c1 : Nat) (fv1 : Value) (hc : AllCl [Cl.sl cGBinding a1 c1 s1, clFn_k1 fv1 f1] F w0) (r : Int)
  (h : m_slices_IndexFunc_api_Binding_api_Binding s1 f1 = some r) :
  Calls Try.prog 70 #[(vs a1 s1.length c1), fv1] w0 fun e w => e = .returned (vi r) ∧ Ext w0 w ∧ AllCl [] F w := by
 refine enterK (l := [(vs a1 s1.length c1), fv1]) Try.func70 rfl Try.ntmps70 rfl ?_
 have hI := Bun.start hF hc
 clear hc
 rw [m_slices_IndexFunc_api_Binding_api_Binding] at h
 refine sr ?_
 refine sac ?_
 refine nk ?_
 refine c_seq ?_
 refine sr ?_
 refine sm ?_
 refine sq (y_lenl rfl Try.underlying80 et) ?_
 refine sq (y_move rfl ev_const) ?_
 refine nk ?_
 refine c_block ?_
 refine c_loop (α := Nat × Int) (fun x => fun w => ∃ C, Bun noM F w0 C w [] [Cl.sl cGBinding a1 c1 s1, clFn_k1 fv1 f1] ∧ m_slices_IndexFunc_api_Binding_api_Binding_l1 s1 f1 (x.1) (x.2) = some r) (fun x _ => x.1) (fun x => [(0, (vs a1 s1.length c1)), (1, fv1), (7, (vi (s1.length : Int))), (8, (vi (x.2)))]) (fu, 0) ⟨_, hI.arr .n ⟨.z, (.s .z), trivial⟩, h⟩ ⟨rfl, rfl, rfl, rfl, trivial⟩ ?_
 clear h hI; rintro ⟨fuel1, i1⟩ w1 ⟨c2, hI, h⟩
 dsimp only at hI h
 rcases fuel1 with _ | fuel1
 ·rw [m_slices_IndexFunc_api_Binding_api_Binding_l1] at h; cases h
 rw [m_slices_IndexFunc_api_Binding_api_Binding_l1] at h
 refine c_sub (e := [(0, (vs a1 s1.length c1)), (1, fv1), (7, (vi (s1.length : Int))), (8, (vi i1))]) ⟨rfl, rfl, rfl, rfl, trivial⟩ ?_
 refine sr ?_
 refine sq (y_lss rfl et et) ?_
 refine nk ?_
 refine c_seq ?_
 refine c_cond (b := decide (i1 < (s1.length : Int))) et (fun hb => ?_) (fun hb => ?_)
 ·replace h := ite_t hb h
  refine c_skip ?_
  refine k_same ?_
  refine c_seq ?_
  refine c_block ?_
  refine sr ?_
  refine sm ?_
  refine sa ?_
  refine nk ?_
  refine sr ?_
  refine sm ?_
  refine sm ?_
  refine sm ?_
  obtain ⟨e1, hx1, h⟩ := bnd_some h
  obtain ⟨ad1, cs1, hA1, hr1, hq1⟩ := hI.clat .z hx1
  obtain rfl : cs1 = [(str e1.Name), (vi e1.Val)] := hr1
  refine sq (y_indexAddr rfl Try.underlying80 size_101 et et (lat_bd hx1) hA1) ?_
  refine sq (y_loadN (l := [(str e1.Name), (vi e1.Val)]) rfl et Try.underlying101 rfl size_101 hq1.1) ?_
  obtain ⟨r1, hx2, h⟩ := bnd_some h
  refine s_callV (args := [(Value.agg #[(str e1.Name), (vi e1.Val)])]) gn rfl rfl et ⟨et, trivial⟩ (CallV.mono ((hI.get (.s .z)).2 (Dj F c2) w1 (Sp.of_ext .rfl') hI.lt e1 r1 trivial hx2) ?_)
  rintro _ w2 ⟨rfl, hx3, hl1⟩
  refine ⟨_, rfl, ?_⟩
  replace hI := (hI.ext hx3)
  refine nk ?_
  refine c_cond (b := r1) et (fun hb => ?_) (fun hb => ?_)
  ·replace h := ite_t hb h
   refine sr ?_
   refine sm ?_
   refine sa ?_
   refine nk ?_
   refine c_ret ?_
   obtain rfl := some_inj h
   exact q_ret (vs := [(vi i1)]) Try.results70 ⟨ev_tmp rfl rfl, trivial⟩ ⟨rfl, hI.ext0, hI.fin trivial⟩
  ·replace h := ite_f hb h
   refine c_skip ?_
   refine k_same ?_
   refine c_region rfl ?_
   refine sq (y_add rfl et ev_const) ?_
   refine sm ?_
   refine s_nil ?_
   exact k_loop (fuel1, wi64 (i1 + 1)) ⟨rfl, rfl, rfl, rfl, trivial⟩ ⟨_, hI.arr .n ⟨.z, (.s .z), trivial⟩, h⟩ (Nat.lt_succ_self _)
 ·replace h := ite_f hb h
  refine c_exit ?_
  refine k_in ?_
  refine k_same ?_
  refine sr ?_
  refine sac ?_
  refine nk ?_
  refine c_ret ?_
  obtain rfl := some_inj h
  exact q_ret (vs := [(vi (-1))]) Try.results70 ⟨ev_tmp rfl rfl, trivial⟩ ⟨rfl, hI.ext0, hI.fin trivial⟩
set_option maxRecDepth 100000 in
set_option maxHeartbeats 4000000 in
theorem c_lin_product (F : NP) (w0 : World) (hF : ∀ k, F k → k < w0.heap.size) (a1 : Int) (b1 : Int) (hc : AllCl [] F w0) (r : Int × Int)
  (h : m_lin_product a1 b1 = some r) :
  Calls Try.prog 72 #[(Value.int .u64 a1), (Value.int .u64 b1)] w0 fun e w => e = .returned (Value.tuple #[(Value.int .u64 r.1), (Value.int .u64 r.2)]) ∧ Ext w0 w ∧ AllCl [] F w := by
 refine enterK (l := [(Value.int .u64 a1), (Value.int .u64 b1)]) Try.func72 rfl Try.ntmps72 rfl ?_
 have hI := Bun.start hF hc
 clear hc
 rw [m_lin_product] at h
 refine sr ?_
 refine sac ?_
 refine sac ?_
 refine nk ?_
 refine sr ?_
 refine sm ?_
 refine sq (y_bits rfl et ev_const rfl) ?_
 refine sm ?_
 refine sq (y_bits rfl et ev_const rfl) ?_
 refine sq (y_mul rfl et et) ?_
 obtain ⟨low1, hx1, h⟩ := bnd_some h
 refine sq (binU (y_assign rfl et) (congrArg (Value.int .u64) (some_inj hx1))) ?_
 refine nk ?_
 refine sr ?_
 refine sm ?_
 refine sq (y_shrc (s := 32) rfl et ev_const (by decide) rfl) ?_
 refine sm ?_
 refine sq (y_bits rfl et ev_const rfl) ?_
 refine sq (y_mul rfl et et) ?_
 refine sm ?_
 refine sq (y_shrc (s := 32) rfl et ev_const (by decide) rfl) ?_
 refine sq (y_add rfl et et) ?_
 obtain ⟨mid1, hx2, h⟩ := bnd_some h
 refine sq (binU (y_assign rfl et) (congrArg (Value.int .u64) (some_inj hx2))) ?_
 refine nk ?_
 refine sr ?_
 refine sm ?_
 refine sq (y_bits rfl et ev_const rfl) ?_
 refine sm ?_
 refine sq (y_shrc (s := 32) rfl et ev_const (by decide) rfl) ?_
 refine sq (y_mul rfl et et) ?_
 refine sm ?_
 refine sq (y_bits rfl et ev_const rfl) ?_
 refine sq (y_add rfl et et) ?_
 obtain ⟨cross1, hx3, h⟩ := bnd_some h
 refine sq (binU (y_assign rfl et) (congrArg (Value.int .u64) (some_inj hx3))) ?_
 refine s_nil ?_
 refine k_next (e := [(0, (Value.int .u64 a1)), (1, (Value.int .u64 b1)), (7, (Value.int .u64 mid1)), (8, (Value.int .u64 cross1))]) ⟨rfl, rfl, rfl, rfl, trivial⟩ ?_
 refine sr ?_
 refine sm ?_
 refine sq (y_shrc (s := 32) rfl et ev_const (by decide) rfl) ?_
 refine sm ?_
 refine sq (y_shrc (s := 32) rfl et ev_const (by decide) rfl) ?_
 refine sq (y_mul rfl et et) ?_
 refine sm ?_
 refine sq (y_shrc (s := 32) rfl et ev_const (by decide) rfl) ?_
 refine sq (y_add rfl et et) ?_
 refine sm ?_
 refine sq (y_shrc (s := 32) rfl et ev_const (by decide) rfl) ?_
 refine sq (y_add rfl et et) ?_
 refine sm ?_
 refine sm ?_
 refine sq (y_mul rfl et et) ?_
 obtain ⟨hi1, hx4, h⟩ := bnd_some h
 refine sq (binU (y_assign rfl et) (congrArg (Value.int .u64) (some_inj hx4))) ?_
 refine sa ?_
 refine nk ?_
 refine c_ret ?_
 obtain rfl := some_inj h
 exact q_ret (vs := [(Value.int .u64 hi1), (Value.int .u64 (wu64 (a1 * b1)))]) Try.results72 ⟨ev_tmp rfl rfl, ⟨ev_tmp rfl rfl, trivial⟩⟩ ⟨rfl, hI.ext0, hI.fin trivial⟩
set_option maxRecDepth 100000 in
set_option maxHeartbeats 4000000 in
theorem c_lin_wide_narrow (F : NP) (w0 : World) (hF : ∀ k, F k → k < w0.heap.size) (w1 : Glin_wide) (b1 : Nat) (hc : AllCl [Cl.blk b1 104 #[(Value.int .u64 w1.high), (Value.int .u64 w1.mid), (Value.int .u64 w1.low)]] F w0) (r : Int × Bool)
  (h : m_lin_wide_narrow w1 = some r) :
  Calls Try.prog 73 #[(vp b1 0)] w0 fun e w => e = .returned (Value.tuple #[(vi r.1), (vb r.2)]) ∧ Ext w0 w ∧ AllCl [] F w := by
 refine enterK (l := [(vp b1 0)]) Try.func73 rfl Try.ntmps73 rfl ?_
 have hI := Bun.start hF hc
 clear hc
 rw [m_lin_wide_narrow] at h
 refine sr ?_
 refine sac ?_
 refine sac ?_
 refine nk ?_
 refine sr ?_
 refine sm ?_
 refine sq (y_nilCheck rfl et) ?_
 refine sq (y_fieldAddr rfl et Try.underlying104 rfl size_102 rfl) ?_
 refine sq (y_load1 (v := (Value.int .u64 w1.low)) rfl et Try.underlying102 rfl (hI.kblk (l := [(Value.int .u64 w1.low)]) .z rfl).1) ?_
 refine sq (y_conv rfl (by rw [Try.underlying102]; rfl) Try.underlying2 et) ?_
 refine sa ?_
 refine nk ?_
 refine sr ?_
 refine sm ?_
 refine sq (y_shrc (s := 63) rfl et ev_const (by decide) rfl) ?_
 refine sq (y_conv rfl (by rw [Try.underlying2]; rfl) Try.underlying102 et) ?_
 obtain ⟨sign1, hx1, h⟩ := bnd_some h
 refine sq (binU (y_assign rfl et) (congrArg (Value.int .u64) (some_inj hx1))) ?_
 refine nk ?_
 refine c_seq ?_
 refine c_drawX [] false (.c (0, .q) (.c (1, .q) (.c (2, .q) (.c (3, .q) (.c (4, .q) (.c (5, .q) (.c (6, .q) (.c (7, .q) (.c (8, .q) (.c (9, .q) (.c (10, .q) (.c (11, .q) (.c (12, .q) (.c (13, .q) (.c (14, .q) (.c (15, .q) (.c (16, .q) .n))))))))))))))))) hI (by kernel_rfl) (by kernel_rfl) ?_
 clear hI; intro w2 hI
 refine a_q rfl gn rfl (fun w' => (y_move rfl et)) ?_
 refine a_q rfl gn rfl (fun w' => (y_move rfl et)) ?_
 refine a_q rfl gn rfl (fun w' => (y_nilCheck rfl et)) ?_
 refine a_q rfl gn rfl (fun w' => (y_fieldAddr rfl et Try.underlying104 rfl size_102 rfl)) ?_
 refine a_read rfl gn rfl (fun w' hw' => (y_load1 (v := (Value.int .u64 w1.mid)) rfl et Try.underlying102 rfl ((hI.kblk (l := [(Value.int .u64 w1.mid)]) .z rfl).at_ (SX.any rfl hw')))) (by kernel_rfl) ?_
 refine a_q rfl gn rfl (fun w' => (y_move rfl et)) ?_
 refine a_q rfl gn rfl (fun w' => (y_eql rfl et et)) ?_
 refine a_q rfl gn rfl (fun w' => (y_move rfl et)) ?_
 refine a_gval rfl (g_true rfl rfl rfl rfl) rfl (fun hc => fun w' => (y_move rfl et)) ?_
 refine a_gval rfl (g_true rfl rfl rfl rfl) rfl (fun hc => fun w' => (y_nilCheck rfl (ev_gv et hc))) ?_
 refine a_gval rfl (g_true rfl rfl rfl rfl) rfl (fun hc => fun w' => (y_fieldAddr rfl (ev_gv et hc) Try.underlying104 rfl size_102 rfl)) ?_
 refine a_gread rfl (g_true rfl rfl rfl rfl) rfl (fun hc => fun w' hw' => (y_load1 (v := (Value.int .u64 w1.high)) rfl (ev_gv et hc) Try.underlying102 rfl ((hI.kblk (l := [(Value.int .u64 w1.high)]) .z rfl).at_ (SX.any rfl hw')))) (by kernel_rfl) ?_
 refine a_gval rfl (g_true rfl rfl rfl rfl) rfl (fun hc => fun w' => (y_move rfl et)) ?_
 refine a_gval rfl (g_true rfl rfl rfl rfl) rfl (fun hc => fun w' => (y_eql rfl (ev_gv et hc) (ev_gv et hc))) ?_
 refine a_q rfl gn rfl (fun w' => (y_and rfl et et)) ?_
 refine a_q rfl gn rfl (fun w' => (y_assign rfl et)) ?_
 refine a_q rfl gn rfl (fun w' => (y_assign rfl et)) ?_
 refine a_nil ?_
 refine k_next (e := [(2, (vi (wi64 w1.low))), (3, (vb ((decide (w1.mid = sign1)) && (decide (w1.high = sign1)))))]) ⟨rfl, rfl, trivial⟩ ?_
 refine c_ret ?_
 obtain rfl := some_inj h
 exact q_ret (vs := [(vi (wi64 w1.low)), (vb ((decide (w1.mid = sign1)) && (decide (w1.high = sign1))))]) Try.results73 ⟨ev_tmp rfl rfl, ⟨ev_tmp rfl rfl, trivial⟩⟩ ⟨rfl, hI.ext0, hI.fin trivial⟩
set_option maxRecDepth 100000 in
set_option maxHeartbeats 4000000 in
theorem c_lin_wide_add_w (C0 F : NP) (w0 : World) (w1 : Glin_wide) (hi1 : Int) (lo1 : Int) (negative1 : Bool) (b1 : Nat) (hI : Bun C0 F w0 C0 w0 [MO.box b1 104 #[(Value.int .u64 w1.high), (Value.int .u64 w1.mid), (Value.int .u64 w1.low)]] []) (r : Unit × Glin_wide)
  (h : m_lin_wide_add_w w1 hi1 lo1 negative1 = some r) :
  Calls Try.prog 68 #[(vp b1 0), (Value.int .u64 hi1), (Value.int .u64 lo1), (vb negative1)] w0 fun e w => ∃ (C : NP), e = .returned (Value.tuple #[]) ∧ Bun C0 F w0 C w [MO.box b1 104 #[(Value.int .u64 r.2.high), (Value.int .u64 r.2.mid), (Value.int .u64 r.2.low)]] [] := by
 refine enterK (l := [(vp b1 0), (Value.int .u64 hi1), (Value.int .u64 lo1), (vb negative1)]) Try.func68 rfl Try.ntmps68 rfl ?_
 rw [m_lin_wide_add_w] at h
 refine sr ?_
 refine sac ?_
 refine nk ?_
 refine c_join (α := Int × Int × Int) (fun _ => ⟨76, []⟩) (fun x => [(0, (vp b1 0)), (1, (Value.int .u64 (x.1))), (2, (Value.int .u64 (x.2.1))), (8, (Value.int .u64 (x.2.2)))]) (fun x => fun w => ∃ C, Bun C0 F w0 C w [MO.box b1 104 #[(Value.int .u64 w1.high), (Value.int .u64 w1.mid), (Value.int .u64 w1.low)]] [] ∧ m_lin_wide_add_w_j1 w1 (x.1) (x.2.1) (x.2.2) = some r) ?_ ?_
 ·clear h hI; rintro ⟨hi2, lo2, top1⟩ w2 ⟨c1, hI, h⟩
  try dsimp only at hI h
  rw [m_lin_wide_add_w_j1] at h
  refine c_sub (e := [(0, (vp b1 0)), (1, (Value.int .u64 hi2)), (2, (Value.int .u64 lo2)), (8, (Value.int .u64 top1))]) ⟨rfl, rfl, rfl, rfl, trivial⟩ ?_
  refine sr ?_
  refine sm ?_
  refine sq (y_nilCheck rfl et) ?_
  refine sq (y_fieldAddr rfl et Try.underlying104 rfl size_102 rfl) ?_
  refine sq (y_load1 (v := (Value.int .u64 w1.low)) rfl et Try.underlying102 rfl (CellsAt.of_blk (hI.blk .z) rfl)) ?_
  refine sm ?_
  refine sq (y_add rfl et et) ?_
  refine sq (y_nilCheck rfl et) ?_
  refine sq (y_fieldAddr rfl et Try.underlying104 rfl size_102 rfl) ?_
  refine l_store (new := [(Value.int .u64 (wu64 (w1.low + lo2)))]) (cs' := #[(Value.int .u64 w1.high), (Value.int .u64 w1.mid), (Value.int .u64 (wu64 (w1.low + lo2)))]) hI .z gn rfl rfl et et rfl size_102 rfl rfl rfl ?_
  clear hI; intro c2 w3 hI
  refine nk ?_
  refine sr ?_
  refine sac ?_
  refine nk ?_
  refine c_join (α := Int) (fun _ => ⟨76, []⟩) (fun x => [(0, (vp b1 0)), (1, (Value.int .u64 hi2)), (8, (Value.int .u64 top1)), (9, (Value.int .u64 x))]) (fun x => fun w => ∃ C, Bun C0 F w0 C w [MO.box b1 104 #[(Value.int .u64 w1.high), (Value.int .u64 w1.mid), (Value.int .u64 (wu64 (w1.low + lo2)))]] [] ∧ m_lin_wide_add_w_j2 w1 hi2 top1 lo2 x = some r) ?_ ?_
  ·clear h hI; rintro carry1 w4 ⟨c3, hI, h⟩
   try dsimp only at hI h
   rw [m_lin_wide_add_w_j2] at h
   refine c_sub (e := [(0, (vp b1 0)), (1, (Value.int .u64 hi2)), (8, (Value.int .u64 top1)), (9, (Value.int .u64 carry1))]) ⟨rfl, rfl, rfl, rfl, trivial⟩ ?_
   refine sr ?_
   refine sm ?_
   refine sq (y_nilCheck rfl et) ?_
   refine sq (y_fieldAddr rfl et Try.underlying104 rfl size_102 rfl) ?_
   refine sq (y_load1 (v := (Value.int .u64 w1.mid)) rfl et Try.underlying102 rfl (CellsAt.of_blk (hI.blk .z) rfl)) ?_
   refine sm ?_
   refine sq (y_add rfl et et) ?_
   refine sa ?_
   refine nk ?_
   refine sr ?_
   refine sac ?_
   refine nk ?_
   refine c_join (α := Int) (fun _ => ⟨76, []⟩) (fun x => [(0, (vp b1 0)), (8, (Value.int .u64 top1)), (9, (Value.int .u64 carry1)), (10, (Value.int .u64 (wu64 (w1.mid + hi2)))), (11, (Value.int .u64 x))]) (fun x => fun w => ∃ C, Bun C0 F w0 C w [MO.box b1 104 #[(Value.int .u64 w1.high), (Value.int .u64 w1.mid), (Value.int .u64 (wu64 (w1.low + lo2)))]] [] ∧ m_lin_wide_add_w_j3 w1 hi2 carry1 top1 lo2 x = some r) ?_ ?_
   ·clear h hI; rintro over1 w5 ⟨c4, hI, h⟩
    try dsimp only at hI h
    rw [m_lin_wide_add_w_j3] at h
    refine c_sub (e := [(0, (vp b1 0)), (8, (Value.int .u64 top1)), (9, (Value.int .u64 carry1)), (10, (Value.int .u64 (wu64 (w1.mid + hi2)))), (11, (Value.int .u64 over1))]) ⟨rfl, rfl, rfl, rfl, rfl, trivial⟩ ?_
    refine sr ?_
    refine sm ?_
    refine sm ?_
    refine sm ?_
    refine sq (y_add rfl et et) ?_
    refine sq (y_nilCheck rfl et) ?_
    refine sq (y_fieldAddr rfl et Try.underlying104 rfl size_102 rfl) ?_
    refine l_store (new := [(Value.int .u64 (wu64 ((wu64 (w1.mid + hi2)) + carry1)))]) (cs' := #[(Value.int .u64 w1.high), (Value.int .u64 (wu64 ((wu64 (w1.mid + hi2)) + carry1))), (Value.int .u64 (wu64 (w1.low + lo2)))]) hI .z gn rfl rfl et et rfl size_102 rfl rfl rfl ?_
    clear hI; intro c5 w6 hI
    refine nk ?_
    refine c_join (α := Int) (fun _ => ⟨76, []⟩) (fun x => [(0, (vp b1 0)), (8, (Value.int .u64 top1)), (11, (Value.int .u64 x))]) (fun x => fun w => ∃ C, Bun C0 F w0 C w [MO.box b1 104 #[(Value.int .u64 w1.high), (Value.int .u64 (wu64 ((wu64 (w1.mid + hi2)) + carry1))), (Value.int .u64 (wu64 (w1.low + lo2)))]] [] ∧ m_lin_wide_add_w_j4 w1 top1 hi2 carry1 lo2 x = some r) ?_ ?_
    ·clear h hI; rintro over2 w7 ⟨c6, hI, h⟩
     try dsimp only at hI h
     rw [m_lin_wide_add_w_j4] at h
     refine c_sub (e := [(0, (vp b1 0)), (8, (Value.int .u64 top1)), (11, (Value.int .u64 over2))]) ⟨rfl, rfl, rfl, trivial⟩ ?_
     refine c_region rfl ?_
     refine sm ?_
     refine sq (y_nilCheck rfl et) ?_
     refine sq (y_fieldAddr rfl et Try.underlying104 rfl size_102 rfl) ?_
     refine sq (y_load1 (v := (Value.int .u64 w1.high)) rfl et Try.underlying102 rfl (CellsAt.of_blk (hI.blk .z) rfl)) ?_
     refine sm ?_
     refine sm ?_
     refine sq (y_add rfl et et) ?_
     refine sq (y_add rfl et et) ?_
     refine sq (y_nilCheck rfl et) ?_
     refine sq (y_fieldAddr rfl et Try.underlying104 rfl size_102 rfl) ?_
     refine l_store (new := [(Value.int .u64 (wu64 (w1.high + (wu64 (top1 + over2)))))]) (cs' := #[(Value.int .u64 (wu64 (w1.high + (wu64 (top1 + over2))))), (Value.int .u64 (wu64 ((wu64 (w1.mid + hi2)) + carry1))), (Value.int .u64 (wu64 (w1.low + lo2)))]) hI .z gn rfl rfl et et rfl size_102 rfl rfl rfl ?_
     clear hI; intro c7 w8 hI
     refine s_nil ?_
     obtain rfl := some_inj h
     exact q_ret (vs := []) Try.results68 trivial ⟨_, rfl, hI.arr (.c .z .n) trivial⟩
    ·skip
     refine sr ?_
     refine sm ?_
     refine sq (y_nilCheck rfl et) ?_
     refine sq (y_fieldAddr rfl et Try.underlying104 rfl size_102 rfl) ?_
     refine sq (y_load1 (v := (Value.int .u64 (wu64 ((wu64 (w1.mid + hi2)) + carry1)))) rfl et Try.underlying102 rfl (CellsAt.of_blk (hI.blk .z) rfl)) ?_
     refine sm ?_
     refine sq (y_lss rfl et et) ?_
     refine nk ?_
     refine c_cond (b := decide (wu64 ((wu64 (w1.mid + hi2)) + carry1) < wu64 (w1.mid + hi2))) et (fun hb => ?_) (fun hb => ?_)
     ·replace h := ite_t hb h
      refine c_region rfl ?_
      refine sm ?_
      refine sq (y_add rfl et ev_const) ?_
      refine sa ?_
      refine s_nil ?_
      exact k_join (wu64 (over1 + 1)) ⟨rfl, rfl, rfl, trivial⟩ ⟨_, hI.arr (.c .z .n) trivial, h⟩ rfl
     ·replace h := ite_f hb h
      refine c_skip ?_
      exact k_join over1 ⟨rfl, rfl, rfl, trivial⟩ ⟨_, hI.arr (.c .z .n) trivial, h⟩ rfl
   ·skip
    refine sr ?_
    refine sm ?_
    refine sm ?_
    refine sq (y_lss rfl et et) ?_
    refine nk ?_
    refine c_cond (b := decide (wu64 (w1.mid + hi2) < hi2)) et (fun hb => ?_) (fun hb => ?_)
    ·replace h := ite_t hb h
     refine c_region rfl ?_
     refine sac ?_
     refine s_nil ?_
     exact k_join 1 ⟨rfl, rfl, rfl, rfl, rfl, trivial⟩ ⟨_, hI.arr (.c .z .n) trivial, h⟩ rfl
    ·replace h := ite_f hb h
     refine c_skip ?_
     exact k_join 0 ⟨rfl, rfl, rfl, rfl, rfl, trivial⟩ ⟨_, hI.arr (.c .z .n) trivial, h⟩ rfl
  ·skip
   refine sr ?_
   refine sm ?_
   refine sq (y_nilCheck rfl et) ?_
   refine sq (y_fieldAddr rfl et Try.underlying104 rfl size_102 rfl) ?_
   refine sq (y_load1 (v := (Value.int .u64 (wu64 (w1.low + lo2)))) rfl et Try.underlying102 rfl (CellsAt.of_blk (hI.blk .z) rfl)) ?_
   refine sm ?_
   refine sq (y_lss rfl et et) ?_
   refine nk ?_
   refine c_cond (b := decide (wu64 (w1.low + lo2) < lo2)) et (fun hb => ?_) (fun hb => ?_)
   ·replace h := ite_t hb h
    refine c_region rfl ?_
    refine sac ?_
    refine s_nil ?_
    exact k_join 1 ⟨rfl, rfl, rfl, rfl, trivial⟩ ⟨_, hI.arr (.c .z .n) trivial, h⟩ rfl
   ·replace h := ite_f hb h
    refine c_skip ?_
    exact k_join 0 ⟨rfl, rfl, rfl, rfl, trivial⟩ ⟨_, hI.arr (.c .z .n) trivial, h⟩ rfl
 ·skip
  refine sr ?_
  refine sm ?_
  refine nk ?_
  refine c_cond (b := negative1) et (fun hb => ?_) (fun hb => ?_)
  ·replace h := ite_t hb h
   refine sr ?_
   refine sm ?_
   refine sq (y_com rfl et) ?_
   refine sm ?_
   refine sq (y_com rfl et) ?_
   refine sm ?_
   refine sq (y_com rfl et) ?_
   obtain ⟨top2, hx1, h⟩ := bnd_some h
   refine sq (binU (y_assign rfl et) (congrArg (Value.int .u64) (some_inj hx1))) ?_
   obtain ⟨hi3, hx2, h⟩ := bnd_some h
   refine sq (binU (y_assign rfl et) (congrArg (Value.int .u64) (some_inj hx2))) ?_
   obtain ⟨lo3, hx3, h⟩ := bnd_some h
   refine sq (binU (y_assign rfl et) (congrArg (Value.int .u64) (some_inj hx3))) ?_
   refine nk ?_
   refine sr ?_
   refine sm ?_
   refine sq (y_add rfl et ev_const) ?_
   refine sa ?_
   refine nk ?_
   refine sr ?_
   refine sm ?_
   refine sq (y_eql rfl et ev_const) ?_
   refine nk ?_
   refine c_cond (b := decide (wu64 (lo3 + 1) = 0)) et (fun hb => ?_) (fun hb => ?_)
   ·replace h := ite_t hb h
    refine sr ?_
    refine sm ?_
    refine sq (y_add rfl et ev_const) ?_
    refine sa ?_
    refine nk ?_
    refine sr ?_
    refine sm ?_
    refine sq (y_eql rfl et ev_const) ?_
    refine nk ?_
    refine c_cond (b := decide (wu64 (hi3 + 1) = 0)) et (fun hb => ?_) (fun hb => ?_)
    ·replace h := ite_t hb h
     refine c_region rfl ?_
     refine sm ?_
     refine sq (y_add rfl et ev_const) ?_
     refine sa ?_
     refine s_nil ?_
     exact k_join (wu64 (hi3 + 1), wu64 (lo3 + 1), wu64 (top2 + 1)) ⟨rfl, rfl, rfl, rfl, trivial⟩ ⟨_, hI.arr (.c .z .n) trivial, h⟩ rfl
    ·replace h := ite_f hb h
     refine c_skip ?_
     exact k_join (wu64 (hi3 + 1), wu64 (lo3 + 1), top2) ⟨rfl, rfl, rfl, rfl, trivial⟩ ⟨_, hI.arr (.c .z .n) trivial, h⟩ rfl
   ·replace h := ite_f hb h
    refine c_skip ?_
    exact k_join (hi3, wu64 (lo3 + 1), top2) ⟨rfl, rfl, rfl, rfl, trivial⟩ ⟨_, hI.arr (.c .z .n) trivial, h⟩ rfl
  ·replace h := ite_f hb h
   refine c_skip ?_
   exact k_join (hi1, lo1, 0) ⟨rfl, rfl, rfl, rfl, trivial⟩ ⟨_, hI.arr (.c .z .n) trivial, h⟩ rfl
set_option maxRecDepth 100000 in
set_option maxHeartbeats 4000000 in
theorem c_lin_Eval (F : NP) (w0 : World) (hF : ∀ k, F k → k < w0.heap.size) (l1 : GLin) (env1 : List GBinding) (a1 : Option Addr) (c1 : Nat) (a2 : Option Addr) (c2 : Nat) (hc : AllCl [Cl.sl cGMono a1 c1 l1.L, Cl.sl cGBinding a2 c2 env1] F w0) (r : Int × Int)
  (h : m_lin_Eval l1 env1 = some r) :
  Calls Try.prog 49 #[(Value.agg #[(vi l1.K), (vs a1 l1.L.length c1)]), (vs a2 env1.length c2)] w0 fun e w => e = .returned (Value.tuple #[(vi r.1), (vi r.2)]) ∧ Ext w0 w ∧ AllCl [] F w := by
 refine enterK (l := [(Value.agg #[(vi l1.K), (vs a1 l1.L.length c1)]), (vs a2 env1.length c2)]) Try.func49 rfl Try.ntmps49 rfl ?_
 have hI := Bun.start hF hc
 clear hc
 rw [m_lin_Eval] at h
 refine sr ?_
 refine l_box (v := (Value.agg #[(vi l1.K), (vs a1 l1.L.length c1)])) (cs := #[(vi l1.K), (vs a1 l1.L.length c1)]) hI gn rfl rfl et rfl ?_
 clear hI; intro b1 c3 w1 hI
 obtain ⟨c4, hI⟩ := hI.relBox .z
 refine sac ?_
 refine sac ?_
 refine nk ?_
 refine c_seq ?_
 refine sr ?_
 refine sq (y_loadN (l := [(vi l1.K), (vs a1 l1.L.length c1)]) rfl et Try.underlying51 rfl size_51 (hI.kblk (l := [(vi l1.K), (vs a1 l1.L.length c1)]) .z rfl).1) ?_
 obtain ⟨r1, hx1, h⟩ := bnd_some h
 refine s_call gn rfl (r_callF (vs := [(Value.agg #[(vi l1.K), (vs a1 l1.L.length c1)])]) rfl ok_28 ⟨et, trivial⟩) (Calls.mono (c_lin_Validate (Dj F c4) w1 hI.lt l1 a1 c1 ⟨(hI.get (.s .z)), trivial⟩ r1 hx1) ?_)
 rintro _ w2 ⟨rfl, hx2, hl1⟩
 refine ⟨_, rfl, ?_⟩
 replace hI := (hI.ext hx2)
 refine sq (y_neq rfl et ev_const) ?_
 refine nk ?_
 refine c_cond (b := !decide (r1 = 0)) et (fun hb => ?_) (fun hb => ?_)
 ·replace h := ite_t hb h
  refine sr ?_
  refine sac ?_
  refine sac ?_
  refine nk ?_
  refine c_ret ?_
  obtain rfl := some_inj h
  exact q_ret (vs := [(vi 0), (vi 1)]) Try.results49 ⟨ev_tmp rfl rfl, ⟨ev_tmp rfl rfl, trivial⟩⟩ ⟨rfl, hI.ext0, hI.fin trivial⟩
 ·replace h := ite_f hb h
  refine c_skip ?_
  refine k_same ?_
  refine sr ?_
  refine l_alloc (cs := #[(Value.int .u64 0), (Value.int .u64 0), (Value.int .u64 0)]) hI gn rfl rfl zero_104 rfl ?_
  clear hI; intro b2 c5 w3 hI
  refine nk ?_
  refine c_seq ?_
  refine c_drawX [6] false (.c (0, .q) (.c (1, .q) (.c (3, .q) (.c (4, .q) (.c (5, .q) (.c (2, .s) (.c (6, .s) .n))))))) hI (by kernel_rfl) (by kernel_rfl) ?_
  clear hI; intro w4 hI
  refine a_q rfl gn rfl (fun w' => (y_fieldAddr rfl et Try.underlying51 rfl size_2 rfl)) ?_
  refine a_read rfl gn rfl (fun w' hw' => (y_load1 (v := (vi l1.K)) rfl et Try.underlying2 rfl ((hI.kblk (l := [(vi l1.K)]) .z rfl).at_ (SX.any rfl hw')))) (by kernel_rfl) ?_
  refine a_q rfl gn rfl (fun w' => (y_fieldAddr rfl et Try.underlying51 rfl size_2 rfl)) ?_
  refine a_read rfl gn rfl (fun w' hw' => (y_load1 (v := (vi l1.K)) rfl et Try.underlying2 rfl ((hI.kblk (l := [(vi l1.K)]) .z rfl).at_ (SX.any rfl hw')))) (by kernel_rfl) ?_
  refine a_q rfl gn rfl (fun w' => (y_lss rfl et ev_const)) ?_
  obtain ⟨r2, hx3, h⟩ := bnd_some h
  refine la_call rfl gn rfl (r_callF (vs := [(vi l1.K)]) rfl ok_69 ⟨et, trivial⟩) (Calls.mono (c_lin_magnitude (Dj F c5) w4 hI.lt l1.K trivial r2 hx3) ?_)
  rintro _ w5 ⟨rfl, hx4, hl2⟩
  refine ⟨_, rfl, hx4, ?_⟩
  replace hI := (hI.ext hx4)
  refine a_turn (F := F) (C := c5) rfl rfl ?_
  obtain ⟨c6, f1, hB, hl3, hk1⟩ := hI.hands (.l .n)
  obtain ⟨⟨r3, s1⟩, hx5, h⟩ := bnd_some h
  try dsimp only at h
  refine la_callX rfl gn rfl (r_callF (vs := [(vp b2 0), (Value.int .u64 0), (Value.int .u64 r2), (vb (decide (l1.K < 0)))]) rfl ok_68 ⟨et, ⟨ev_const, ⟨et, ⟨et, trivial⟩⟩⟩⟩) (Calls.mono (c_lin_wide_add_w c6 f1 w5 (⟨0, 0, 0⟩ : Glin_wide) 0 r2 (decide (l1.K < 0)) b2 (hB.subs trivial) _ hx5) ?_)
  rintro _ w6 ⟨c7, rfl, hB2⟩
  obtain ⟨c8, hs1, hI⟩ := hk1 _ _ _ _ hB2
  replace hI : Bun noM F w0 c8 w6 [MO.box b2 104 #[(Value.int .u64 s1.high), (Value.int .u64 s1.mid), (Value.int .u64 s1.low)]] [Cl.blk b1 51 #[(vi l1.K), (vs a1 l1.L.length c1)], Cl.sl cGMono a1 c1 l1.L, Cl.sl cGBinding a2 c2 env1] := hI
  refine ⟨_, rfl, DM true F c8, hs1, ?_⟩
  refine a_nil ?_
  refine k_same ?_
  refine c_join (α := Glin_wide) (fun _ => ⟨68, []⟩) (fun x => [(6, (vp b2 0))]) (fun x => fun w => ∃ C, Bun noM F w0 C w [MO.box b2 104 #[(Value.int .u64 x.high), (Value.int .u64 x.mid), (Value.int .u64 x.low)]] [] ∧ m_lin_Eval_j1 x = some r) ?_ ?_
  ·clear h hI; rintro sum1 w7 ⟨c9, hI, h⟩
   try dsimp only at hI h
   rw [m_lin_Eval_j1] at h
   refine c_sub (e := [(6, (vp b2 0))]) ⟨rfl, trivial⟩ ?_
   refine sr ?_
   obtain ⟨r4, hx6, h⟩ := bnd_some h
   refine s_call gn rfl (r_callF (vs := [(vp b2 0)]) rfl ok_73 ⟨et, trivial⟩) (Calls.mono (c_lin_wide_narrow noM w7 (fun _ k => k.elim) sum1 b2 ⟨hI.lendBox .z, trivial⟩ r4 hx6) ?_)
   rintro _ w8 ⟨rfl, hx7, hl4⟩
   refine ⟨_, rfl, ?_⟩
   replace hI := (hI.ext hx7)
   refine sm ?_
   refine sq (y_extract rfl et rfl) ?_
   refine sq (y_extract rfl et rfl) ?_
   refine sa ?_
   refine sa ?_
   refine nk ?_
   refine c_seq ?_
   refine sr ?_
   refine sm ?_
   refine sq (y_not rfl et) ?_
   refine nk ?_
   refine c_cond (b := !r4.2) et (fun hb => ?_) (fun hb => ?_)
   ·replace h := ite_t hb h
    refine sr ?_
    refine sac ?_
    refine sac ?_
    refine nk ?_
    refine c_ret ?_
    obtain rfl := some_inj h
    exact q_ret (vs := [(vi 0), (vi 3)]) Try.results49 ⟨ev_tmp rfl rfl, ⟨ev_tmp rfl rfl, trivial⟩⟩ ⟨rfl, hI.ext0, hI.fin trivial⟩
   ·replace h := ite_f hb h
    refine c_skip ?_
    refine k_same ?_
    refine sr ?_
    refine sm ?_
    refine sa ?_
    refine sac ?_
    refine nk ?_
    refine c_ret ?_
    obtain rfl := some_inj h
    exact q_ret (vs := [(vi r4.1), (vi 0)]) Try.results49 ⟨ev_tmp rfl rfl, ⟨ev_tmp rfl rfl, trivial⟩⟩ ⟨rfl, hI.ext0, hI.fin trivial⟩
  ·skip
   refine sr ?_
   refine sq (y_fieldAddr rfl et Try.underlying51 rfl size_49 rfl) ?_
   refine sq (y_load1 (v := (vs a1 l1.L.length c1)) rfl et Try.underlying49 rfl (hI.kblk (l := [(vs a1 l1.L.length c1)]) .z rfl).1) ?_
   refine sq (y_lenl rfl Try.underlying49 et) ?_
   refine sq (y_move rfl ev_const) ?_
   refine nk ?_
   refine c_block ?_
   refine c_loop (α := Nat × Int × Glin_wide) (fun x => fun w => ∃ C, Bun noM F w0 C w [MO.box b2 104 #[(Value.int .u64 (x.2.2).high), (Value.int .u64 (x.2.2).mid), (Value.int .u64 (x.2.2).low)]] [Cl.sl cGBinding a2 c2 env1, Cl.sl cGMono a1 c1 l1.L] ∧ m_lin_Eval_l1 l1 env1 (x.1) (x.2.1) (x.2.2) = some r) (fun x _ => x.1) (fun x => [(1, (vs a2 env1.length c2)), (6, (vp b2 0)), (26, (vs a1 l1.L.length c1)), (27, (vi (l1.L.length : Int))), (28, (vi (x.2.1)))]) (fu, 0, s1) ⟨_, hI.arr (.c .z .n) ⟨(.s (.s .z)), (.s .z), trivial⟩, h⟩ ⟨rfl, rfl, rfl, rfl, rfl, trivial⟩ ?_
   clear h hI; rintro ⟨fuel1, i1, sum2⟩ w9 ⟨c10, hI, h⟩
   dsimp only at hI h
   rcases fuel1 with _ | fuel1
   ·rw [m_lin_Eval_l1] at h; cases h
   rw [m_lin_Eval_l1] at h
   refine c_sub (e := [(1, (vs a2 env1.length c2)), (6, (vp b2 0)), (26, (vs a1 l1.L.length c1)), (27, (vi (l1.L.length : Int))), (28, (vi i1))]) ⟨rfl, rfl, rfl, rfl, rfl, trivial⟩ ?_
   refine sr ?_
   refine sq (y_lss rfl et et) ?_
   refine nk ?_
   refine c_seq ?_
   refine c_cond (b := decide (i1 < (l1.L.length : Int))) et (fun hb => ?_) (fun hb => ?_)
   ·replace h := ite_t hb h
    refine c_skip ?_
    refine k_same ?_
    refine c_seq ?_
    refine c_block ?_
    refine sr ?_
    obtain ⟨e1, hx8, h⟩ := bnd_some h
    obtain ⟨ad1, cs1, hA1, hr1, hq1⟩ := hI.clat (.s .z) hx8
    obtain rfl : cs1 = [(str e1.Name), (vi e1.By)] := hr1
    refine sq (y_indexAddr rfl Try.underlying49 size_53 et et (lat_bd hx8) hA1) ?_
    refine sq (y_loadN (l := [(str e1.Name), (vi e1.By)]) rfl et Try.underlying53 rfl size_53 hq1.1) ?_
    refine l_alloc (cs := #[(str ([] : List UInt8)), (vi 0)]) hI gn rfl rfl zero_53 rfl ?_
    clear hI; intro b3 c11 w10 hI
    refine l_store (new := [(str e1.Name), (vi e1.By)]) (cs' := #[(str e1.Name), (vi e1.By)]) hI .z gn rfl rfl et et rfl size_53 rfl rfl rfl ?_
    clear hI; intro c12 w11 hI
    refine nk ?_
    refine sr ?_
    refine sm ?_
    refine sq (y_makeFunc (vs := []) (cap := [(vp b3 0)]) rfl rfl ⟨et, trivial⟩) ?_
    obtain ⟨r5, hx9, h⟩ := bnd_some h
    refine s_call gn rfl (r_callF (vs := [(vs a2 env1.length c2), (Value.func (.func 71) #[] #[(vp b3 0)])]) rfl ok_70 ⟨et, ⟨et, trivial⟩⟩) (Calls.mono (c_slices_IndexFunc_api_Binding_api_Binding noM w11 (fun _ k => k.elim) env1 (fun y_1 => m_lin_Eval_1 y_1 e1) a2 c2 (Value.func (.func 71) #[] #[(vp b3 0)]) ⟨(hI.get0 .z), ⟨rfl, fun D' w' hs hl x_1 r k h => CallV.fn (cap := [(vp b3 0)]) ok_71 (c_lin_Eval_1 D' w' hl x_1 e1 b3 ⟨(Cl.sp _ hs (hI.lendBox .z)), trivial⟩ r h)⟩, trivial⟩ r5 hx9) ?_)
    rintro _ w12 ⟨rfl, hx10, hl5⟩
    refine ⟨_, rfl, ?_⟩
    replace hI := (hI.ext hx10)
    refine sa ?_
    refine nk ?_
    refine c_seq ?_
    refine sr ?_
    refine sm ?_
    refine sq (y_lss rfl et ev_const) ?_
    refine nk ?_
    refine c_cond (b := decide (r5 < 0)) et (fun hb => ?_) (fun hb => ?_)
    ·replace h := ite_t hb h
     refine sr ?_
     refine sac ?_
     refine sac ?_
     refine nk ?_
     refine c_ret ?_
     obtain rfl := some_inj h
     exact q_ret (vs := [(vi 0), (vi 9)]) Try.results49 ⟨ev_tmp rfl rfl, ⟨ev_tmp rfl rfl, trivial⟩⟩ ⟨rfl, hI.ext0, hI.fin trivial⟩
    ·replace h := ite_f hb h
     refine c_skip ?_
     refine k_same ?_
     refine sr ?_
     refine sm ?_
     refine sm ?_
     obtain ⟨e2, hx11, h⟩ := bnd_some h
     obtain ⟨ad2, cs2, hA2, hr2, hq2⟩ := hI.clat .z hx11
     obtain rfl : cs2 = [(str e2.Name), (vi e2.Val)] := hr2
     refine sq (y_indexAddr rfl Try.underlying80 size_101 et et (lat_bd hx11) hA2) ?_
     refine sq (y_fieldAddr rfl et Try.underlying101 rfl size_2 rfl) ?_
     refine sq (y_load1 (v := (vi e2.Val)) rfl et Try.underlying2 rfl (CA.part hq2 rfl).1) ?_
     refine sa ?_
     refine nk ?_
     refine sr ?_
     refine sq (y_fieldAddr rfl et Try.underlying53 rfl size_2 rfl) ?_
     refine sq (y_load1 (v := (vi e1.By)) rfl et Try.underlying2 rfl (CellsAt.of_blk (hI.blk .z) rfl)) ?_
     obtain ⟨r6, hx12, h⟩ := bnd_some h
     refine s_call gn rfl (r_callF (vs := [(vi e1.By)]) rfl ok_69 ⟨et, trivial⟩) (Calls.mono (c_lin_magnitude (Dj F c12) w12 hI.lt e1.By trivial r6 hx12) ?_)
     rintro _ w13 ⟨rfl, hx13, hl6⟩
     refine ⟨_, rfl, ?_⟩
     replace hI := (hI.ext hx13)
     refine sm ?_
     obtain ⟨r7, hx14, h⟩ := bnd_some h
     refine s_call gn rfl (r_callF (vs := [(vi e2.Val)]) rfl ok_69 ⟨et, trivial⟩) (Calls.mono (c_lin_magnitude (Dj F c12) w13 hI.lt e2.Val trivial r7 hx14) ?_)
     rintro _ w14 ⟨rfl, hx15, hl7⟩
     refine ⟨_, rfl, ?_⟩
     replace hI := (hI.ext hx15)
     obtain ⟨r8, hx16, h⟩ := bnd_some h
     refine s_call gn rfl (r_callF (vs := [(Value.int .u64 r6), (Value.int .u64 r7)]) rfl ok_72 ⟨et, ⟨et, trivial⟩⟩) (Calls.mono (c_lin_product (Dj F c12) w14 hI.lt r6 r7 trivial r8 hx16) ?_)
     rintro _ w15 ⟨rfl, hx17, hl8⟩
     refine ⟨_, rfl, ?_⟩
     replace hI := (hI.ext hx17)
     refine sm ?_
     refine sq (y_extract rfl et rfl) ?_
     refine sq (y_extract rfl et rfl) ?_
     refine sa ?_
     refine sa ?_
     refine nk ?_
     refine c_region rfl ?_
     refine sm ?_
     refine sm ?_
     refine sq (y_fieldAddr rfl et Try.underlying53 rfl size_2 rfl) ?_
     refine sq (y_load1 (v := (vi e1.By)) rfl et Try.underlying2 rfl (CellsAt.of_blk (hI.blk .z) rfl)) ?_
     refine sq (y_lss rfl et ev_const) ?_
     refine sm ?_
     refine sq (y_lss rfl et ev_const) ?_
     refine sq (y_neb rfl Try.underlying4 et et) ?_
     obtain ⟨c13, f2, hB, hl9, hk2⟩ := hI.hands (.r (.l .n))
     obtain ⟨⟨r9, s2⟩, hx18, h⟩ := bnd_some h
     try dsimp only at h
     refine s_call gn rfl (r_callF (vs := [(vp b2 0), (Value.int .u64 r8.1), (Value.int .u64 r8.2), (vb ((decide (e1.By < 0)) != (decide (e2.Val < 0))))]) rfl ok_68 ⟨et, ⟨et, ⟨et, ⟨et, trivial⟩⟩⟩⟩) (Calls.mono (c_lin_wide_add_w c13 f2 w15 sum2 r8.1 r8.2 ((decide (e1.By < 0)) != (decide (e2.Val < 0))) b2 (hB.subs trivial) _ hx18) ?_)
     rintro _ w16 ⟨c14, rfl, hB2⟩
     obtain ⟨c15, hs2, hI⟩ := hk2 _ _ _ _ hB2
     replace hI : Bun noM F w0 c15 w16 [MO.box b2 104 #[(Value.int .u64 s2.high), (Value.int .u64 s2.mid), (Value.int .u64 s2.low)], MO.box b3 53 #[(str e1.Name), (vi e1.By)]] [Cl.sl cGBinding a2 c2 env1, Cl.sl cGMono a1 c1 l1.L] := hI
     refine ⟨_, rfl, ?_⟩
     refine s_nil ?_
     refine k_next (e := [(1, (vs a2 env1.length c2)), (6, (vp b2 0)), (26, (vs a1 l1.L.length c1)), (27, (vi (l1.L.length : Int))), (28, (vi i1))]) ⟨rfl, rfl, rfl, rfl, rfl, trivial⟩ ?_
     refine c_region rfl ?_
     refine sq (y_add rfl et ev_const) ?_
     refine sm ?_
     refine s_nil ?_
     exact k_loop (fuel1, wi64 (i1 + 1), s2) ⟨rfl, rfl, rfl, rfl, rfl, trivial⟩ ⟨_, hI.arr (.c .z .n) ⟨.z, (.s .z), trivial⟩, h⟩ (Nat.lt_succ_self _)
   ·replace h := ite_f hb h
    refine c_exit ?_
    refine k_in ?_
    exact k_join sum2 ⟨rfl, trivial⟩ ⟨_, hI.arr (.c .z .n) trivial, h⟩ rfl
set_option maxRecDepth 100000 in
set_option maxHeartbeats 4000000 in
theorem c_affine_image (F : NP) (w0 : World) (hF : ∀ k, F k → k < w0.heap.size) (m1 : List GLin) (names1 : List (List UInt8)) (p1 : List Int) (a1 : Option Addr) (c1 : Nat) (a2 : Option Addr) (c2 : Nat) (a3 : Option Addr) (c3 : Nat) (hc : AllCl [Cl.sl cGLin a1 c1 m1, Cl.sl cStr a2 c2 names1, Cl.sl (cInt .i64) a3 c3 p1] F w0) (r : List Int × Int)
  (h : m_affine_image m1 names1 p1 = some r) :
  Calls Try.prog 25 #[(vs a1 m1.length c1), (vs a2 names1.length c2), (vs a3 p1.length c3)] w0 fun e w => ∃ (a4 : Option Addr) (c4 : Nat), e = .returned (Value.tuple #[(vs a4 r.1.length c4), (vi r.2)]) ∧ Ext w0 w ∧ AllCl [Cl.sl (cInt .i64) a4 c4 r.1] F w := by
 refine enterK (l := [(vs a1 m1.length c1), (vs a2 names1.length c2), (vs a3 p1.length c3)]) Try.func25 rfl Try.ntmps25 rfl ?_
 have hI := Bun.start hF hc
 clear hc
 rw [m_affine_image] at h
 refine sr ?_
 refine sac ?_
 refine sac ?_
 refine nk ?_
 refine sr ?_
 refine sm ?_
 refine sm ?_
 obtain ⟨r1, hx1, h⟩ := bnd_some h
 refine s_call gn rfl (r_callF (vs := [(vs a2 names1.length c2), (vs a3 p1.length c3)]) rfl ok_48 ⟨et, ⟨et, trivial⟩⟩) (Calls.mono (c_affine_bind (Dj F noM) w0 hI.lt names1 p1 a2 c2 a3 c3 ⟨(hI.get (.s .z)), (hI.get (.s (.s .z))), trivial⟩ r1 hx1) ?_)
 rintro _ w1 ⟨a5, c5, rfl, hx2, hl1⟩
 refine ⟨_, rfl, ?_⟩
 replace hI := (hI.ext hx2).adds hl1
 refine sa ?_
 refine nk ?_
 refine sr ?_
 refine sac ?_
 refine nk ?_
 refine c_seq ?_
 refine sr ?_
 refine sm ?_
 refine sq (y_lenl rfl Try.underlying22 et) ?_
 refine sq (y_move rfl ev_const) ?_
 refine nk ?_
 refine c_block ?_
 have hI := hI.nil (cInt .i64) 2 none
 refine c_loop (α := Nat × (List Int) × Int × (Option Addr) × Nat) (fun x => fun w => ∃ C, Bun noM F w0 C w [MO.row (cInt .i64) 2 (x.2.2.2.1) (x.2.2.2.2) (x.2.1)] [Cl.sl cGBinding a5 c5 r1, Cl.sl cGLin a1 c1 m1] ∧ m_affine_image_l1 m1 r1 (x.1) (x.2.1) (x.2.2.1) = some r) (fun x _ => x.1) (fun x => [(8, (vs a5 r1.length c5)), (9, (vs (x.2.2.2.1) (x.2.1).length (x.2.2.2.2))), (17, (vs a1 m1.length c1)), (18, (vi (m1.length : Int))), (19, (vi (x.2.2.1)))]) (fu, ([] : List Int), 0, none, 0) ⟨_, hI.arr (.c .z .n) ⟨.z, (.s .z), trivial⟩, h⟩ ⟨rfl, rfl, rfl, rfl, rfl, trivial⟩ ?_
 clear h hI; rintro ⟨fuel1, out1, i1, a6, c6⟩ w2 ⟨c7, hI, h⟩
 dsimp only at hI h
 rcases fuel1 with _ | fuel1
 ·rw [m_affine_image_l1] at h; cases h
 rw [m_affine_image_l1] at h
 refine c_sub (e := [(8, (vs a5 r1.length c5)), (9, (vs a6 out1.length c6)), (17, (vs a1 m1.length c1)), (18, (vi (m1.length : Int))), (19, (vi i1))]) ⟨rfl, rfl, rfl, rfl, rfl, trivial⟩ ?_
 refine sr ?_
 refine sq (y_lss rfl et et) ?_
 refine nk ?_
 refine c_seq ?_
 refine c_cond (b := decide (i1 < (m1.length : Int))) et (fun hb => ?_) (fun hb => ?_)
 ·replace h := ite_t hb h
  refine c_skip ?_
  refine k_same ?_
  refine c_seq ?_
  refine c_block ?_
  refine sr ?_
  obtain ⟨e1, hx3, h⟩ := bnd_some h
  obtain ⟨ad1, cs1, hA1, hr1, hq1⟩ := hI.clat (.s .z) hx3
  obtain ⟨a7, c8, rfl, hf1⟩ := hr1
  have hI := hI.add (c := Cl.sl cGMono a7 c8 e1.L) hf1
  refine sq (y_indexAddr rfl Try.underlying22 size_51 et et (lat_bd hx3) hA1) ?_
  refine sq (y_loadN (l := [(vi e1.K), (vs a7 e1.L.length c8)]) rfl et Try.underlying51 rfl size_51 hq1.1) ?_
  refine l_alloc (cs := #[(vi 0), (vs none 0 0)]) hI gn rfl rfl zero_51 rfl ?_
  clear hI; intro b1 c9 w3 hI
  refine l_store (new := [(vi e1.K), (vs a7 e1.L.length c8)]) (cs' := #[(vi e1.K), (vs a7 e1.L.length c8)]) hI .z gn rfl rfl et et rfl size_51 rfl rfl rfl ?_
  clear hI; intro c10 w4 hI
  refine nk ?_
  refine sr ?_
  refine sq (y_loadN (l := [(vi e1.K), (vs a7 e1.L.length c8)]) rfl et Try.underlying51 rfl size_51 (CellsAt.of_blk (hI.blk .z) rfl)) ?_
  refine sm ?_
  obtain ⟨r2, hx4, h⟩ := bnd_some h
  refine s_call gn rfl (r_callF (vs := [(Value.agg #[(vi e1.K), (vs a7 e1.L.length c8)]), (vs a5 r1.length c5)]) rfl ok_49 ⟨et, ⟨et, trivial⟩⟩) (Calls.mono (c_lin_Eval (Dj F c10) w4 hI.lt e1 r1 a7 c8 a5 c5 ⟨(hI.get .z), (hI.get (.s .z)), trivial⟩ r2 hx4) ?_)
  rintro _ w5 ⟨rfl, hx5, hl2⟩
  refine ⟨_, rfl, ?_⟩
  replace hI := (hI.ext hx5)
  refine sm ?_
  refine sq (y_extract rfl et rfl) ?_
  refine sq (y_extract rfl et rfl) ?_
  refine sa ?_
  refine sa ?_
  refine nk ?_
  refine c_seq ?_
  refine sr ?_
  refine sm ?_
  refine sq (y_neq rfl et ev_const) ?_
  refine nk ?_
  refine c_cond (b := !decide (r2.2 = 0)) et (fun hb => ?_) (fun hb => ?_)
  ·replace h := ite_t hb h
   refine sr ?_
   refine sm ?_
   refine sac ?_
   refine sa ?_
   refine nk ?_
   refine c_ret ?_
   have hI := hI.add (c := Cl.sl (cInt .i64) none 0 ([] : List Int)) SlC.nil
   obtain rfl := some_inj h
   exact q_ret (vs := [(vs none 0 0), (vi r2.2)]) Try.results25 ⟨ev_tmp rfl rfl, ⟨ev_tmp rfl rfl, trivial⟩⟩ ⟨none, 0, rfl, hI.ext0, hI.fin ⟨.z, trivial⟩⟩
  ·replace h := ite_f hb h
   refine c_skip ?_
   refine k_same ?_
   refine c_region rfl ?_
   refine sm ?_
   refine sm ?_
   refine l_lit (c := (cInt .i64)) (xs := ([r2.1] : List Int)) (vs := [(0, (vi r2.1))]) (cs := #[(vi r2.1)]) (css := [[(vi r2.1)]]) hI gn rfl rfl Try.underlying28 info_2 rfl ⟨rfl, et, trivial⟩ (by kernel_rfl) ⟨rfl, trivial⟩ rfl rfl rfl ?_
   clear hI; intro b2 c11 w6 hI
   obtain ⟨zs1, hx6, h⟩ := bnd_some h
   refine l_append (xs := out1) (ys := ([r2.1] : List Int)) hI (.s (.s .z)) (hI.rd .z) hx6 gn rfl rfl Try.underlying28 info_2 rfl rfl et et ?_
   clear hI; intro a8 c12 c13 w7 hI
   refine sa ?_
   refine nk ?_
   refine c_region rfl ?_
   refine sq (y_add rfl et ev_const) ?_
   refine sm ?_
   refine s_nil ?_
   exact k_loop (fuel1, zs1, wi64 (i1 + 1), a8, c12) ⟨rfl, rfl, rfl, rfl, rfl, trivial⟩ ⟨_, hI.arr (.c (.s (.s .z)) .n) ⟨(.s .z), (.s (.s .z)), trivial⟩, h⟩ (Nat.lt_succ_self _)
 ·replace h := ite_f hb h
  refine c_exit ?_
  refine k_in ?_
  refine k_same ?_
  refine sr ?_
  refine sm ?_
  refine sa ?_
  refine sac ?_
  refine nk ?_
  refine c_ret ?_
  obtain ⟨c14, hI⟩ := hI.release .z
  obtain rfl := some_inj h
  exact q_ret (vs := [(vs a6 out1.length c6), (vi 0)]) Try.results25 ⟨ev_tmp rfl rfl, ⟨ev_tmp rfl rfl, trivial⟩⟩ ⟨a6, c6, rfl, hI.ext0, hI.fin ⟨.z, trivial⟩⟩
set_option maxRecDepth 100000 in
set_option maxHeartbeats 4000000 in
theorem c_affine_Apply (F : NP) (w0 : World) (hF : ∀ k, F k → k < w0.heap.size) (m1 : List GLin) (names1 : List (List UInt8)) (p1 : List Int) (a1 : Option Addr) (c1 : Nat) (a2 : Option Addr) (c2 : Nat) (a3 : Option Addr) (c3 : Nat) (hc : AllCl [Cl.sl cGLin a1 c1 m1, Cl.sl cStr a2 c2 names1, Cl.sl (cInt .i64) a3 c3 p1] F w0) (r : List Int × Int)
  (h : m_affine_Apply m1 names1 p1 = some r) :
  Calls Try.prog 10 #[(vs a1 m1.length c1), (vs a2 names1.length c2), (vs a3 p1.length c3)] w0 fun e w => ∃ (a4 : Option Addr) (c4 : Nat), e = .returned (Value.tuple #[(vs a4 r.1.length c4), (vi r.2)]) ∧ Ext w0 w ∧ AllCl [Cl.sl (cInt .i64) a4 c4 r.1] F w := by
 refine enterK (l := [(vs a1 m1.length c1), (vs a2 names1.length c2), (vs a3 p1.length c3)]) Try.func10 rfl Try.ntmps10 rfl ?_
 have hI := Bun.start hF hc
 clear hc
 rw [m_affine_Apply] at h
 refine sr ?_
 refine sac ?_
 refine sac ?_
 refine nk ?_
 refine c_seq ?_
 refine sr ?_
 refine sm ?_
 refine sm ?_
 obtain ⟨r1, hx1, h⟩ := bnd_some h
 refine s_call gn rfl (r_callF (vs := [(vs a1 m1.length c1), (vs a2 names1.length c2)]) rfl ok_12 ⟨et, ⟨et, trivial⟩⟩) (Calls.mono (c_affine_Validate (Dj F noM) w0 hI.lt m1 names1 a1 c1 a2 c2 ⟨(hI.get .z), (hI.get (.s .z)), trivial⟩ r1 hx1) ?_)
 rintro _ w1 ⟨rfl, hx2, hl1⟩
 refine ⟨_, rfl, ?_⟩
 replace hI := (hI.ext hx2)
 refine sa ?_
 refine nk ?_
 refine sr ?_
 refine sm ?_
 refine sq (y_neq rfl et ev_const) ?_
 refine nk ?_
 refine c_cond (b := !decide (r1 = 0)) et (fun hb => ?_) (fun hb => ?_)
 ·replace h := ite_t hb h
  refine sr ?_
  refine sm ?_
  refine sac ?_
  refine sa ?_
  refine nk ?_
  refine c_ret ?_
  have hI := hI.add (c := Cl.sl (cInt .i64) none 0 ([] : List Int)) SlC.nil
  obtain rfl := some_inj h
  exact q_ret (vs := [(vs none 0 0), (vi r1)]) Try.results10 ⟨ev_tmp rfl rfl, ⟨ev_tmp rfl rfl, trivial⟩⟩ ⟨none, 0, rfl, hI.ext0, hI.fin ⟨.z, trivial⟩⟩
 ·replace h := ite_f hb h
  refine c_skip ?_
  refine k_same ?_
  refine c_seq ?_
  refine sr ?_
  refine sm ?_
  refine sq (y_lenl rfl Try.underlying24 et) ?_
  refine sm ?_
  refine sq (y_lenl rfl Try.underlying23 et) ?_
  refine sq (y_neq rfl et et) ?_
  refine nk ?_
  refine c_cond (b := !decide ((p1.length : Int) = (names1.length : Int))) et (fun hb => ?_) (fun hb => ?_)
  ·replace h := ite_t hb h
   refine sr ?_
   refine sac ?_
   refine sac ?_
   refine nk ?_
   refine c_ret ?_
   have hI := hI.add (c := Cl.sl (cInt .i64) none 0 ([] : List Int)) SlC.nil
   obtain rfl := some_inj h
   exact q_ret (vs := [(vs none 0 0), (vi 11)]) Try.results10 ⟨ev_tmp rfl rfl, ⟨ev_tmp rfl rfl, trivial⟩⟩ ⟨none, 0, rfl, hI.ext0, hI.fin ⟨.z, trivial⟩⟩
  ·replace h := ite_f hb h
   refine c_skip ?_
   refine k_same ?_
   refine sr ?_
   refine sm ?_
   refine sm ?_
   refine sm ?_
   obtain ⟨r2, hx3, h⟩ := bnd_some h
   refine s_call gn rfl (r_callF (vs := [(vs a1 m1.length c1), (vs a2 names1.length c2), (vs a3 p1.length c3)]) rfl ok_25 ⟨et, ⟨et, ⟨et, trivial⟩⟩⟩) (Calls.mono (c_affine_image (Dj F noM) w1 hI.lt m1 names1 p1 a1 c1 a2 c2 a3 c3 ⟨(hI.get .z), (hI.get (.s .z)), (hI.get (.s (.s .z))), trivial⟩ r2 hx3) ?_)
   rintro _ w2 ⟨a5, c5, rfl, hx4, hl2⟩
   refine ⟨_, rfl, ?_⟩
   replace hI := (hI.ext hx4).adds hl2
   refine sq (y_extract rfl et rfl) ?_
   refine sq (y_extract rfl et rfl) ?_
   refine sa ?_
   refine sa ?_
   refine nk ?_
   refine c_ret ?_
   obtain rfl := some_inj h
   exact q_ret (vs := [(vs a5 r2.1.length c5), (vi r2.2)]) Try.results10 ⟨ev_tmp rfl rfl, ⟨ev_tmp rfl rfl, trivial⟩⟩ ⟨a5, c5, rfl, hI.ext0, hI.fin ⟨.z, trivial⟩⟩
set_option maxRecDepth 100000 in
set_option maxHeartbeats 4000000 in
theorem c_box_Validate (F : NP) (w0 : World) (hF : ∀ k, F k → k < w0.heap.size) (ext1 : List Int) (a1 : Option Addr) (c1 : Nat) (hc : AllCl [Cl.sl (cInt .i64) a1 c1 ext1] F w0) (r : Int)
  (h : m_box_Validate ext1 = some r) :
  Calls Try.prog 38 #[(vs a1 ext1.length c1)] w0 fun e w => e = .returned (vi r) ∧ Ext w0 w ∧ AllCl [] F w := by
 refine enterK (l := [(vs a1 ext1.length c1)]) Try.func38 rfl Try.ntmps38 rfl ?_
 have hI := Bun.start hF hc
 clear hc
 rw [m_box_Validate] at h
 refine sr ?_
 refine sac ?_
 refine nk ?_
 refine c_seq ?_
 refine sr ?_
 refine sm ?_
 refine sq (y_lenl rfl Try.underlying24 et) ?_
 refine sq (y_gtr rfl et ev_const) ?_
 refine nk ?_
 refine c_cond (b := decide (16 < (ext1.length : Int))) et (fun hb => ?_) (fun hb => ?_)
 ·replace h := ite_t hb h
  refine sr ?_
  refine sac ?_
  refine nk ?_
  refine c_ret ?_
  obtain rfl := some_inj h
  exact q_ret (vs := [(vi 2)]) Try.results38 ⟨ev_tmp rfl rfl, trivial⟩ ⟨rfl, hI.ext0, hI.fin trivial⟩
 ·replace h := ite_f hb h
  refine c_skip ?_
  refine k_same ?_
  refine sr ?_
  refine sac ?_
  refine sac ?_
  refine nk ?_
  refine c_join (α := Bool) (fun _ => ⟨46, []⟩) (fun x => [(0, (vs a1 ext1.length c1)), (3, (vi 1)), (4, (vb x))]) (fun x => fun w => ∃ C, Bun noM F w0 C w [] [Cl.sl (cInt .i64) a1 c1 ext1] ∧ m_box_Validate_j1 ext1 x = some r) ?_ ?_
  ·clear h hI; rintro empty1 w1 ⟨c2, hI, h⟩
   try dsimp only at hI h
   rw [m_box_Validate_j1] at h
   refine c_sub (e := [(0, (vs a1 ext1.length c1)), (3, (vi 1)), (4, (vb empty1))]) ⟨rfl, rfl, rfl, trivial⟩ ?_
   refine c_seq ?_
   refine sr ?_
   refine sm ?_
   refine sq (y_lenl rfl Try.underlying24 et) ?_
   refine sq (y_move rfl ev_const) ?_
   refine nk ?_
   refine c_block ?_
   refine c_loop (α := Nat × Int × Int) (fun x => fun w => ∃ C, Bun noM F w0 C w [] [Cl.sl (cInt .i64) a1 c1 ext1] ∧ m_box_Validate_l1 ext1 empty1 (x.1) (x.2.1) (x.2.2) = some r) (fun x _ => x.1) (fun x => [(3, (vi (x.2.1))), (4, (vb empty1)), (26, (vs a1 ext1.length c1)), (27, (vi (ext1.length : Int))), (28, (vi (x.2.2)))]) (fu, 1, 0) ⟨_, hI.arr .n ⟨.z, trivial⟩, h⟩ ⟨rfl, rfl, rfl, rfl, rfl, trivial⟩ ?_
   clear h hI; rintro ⟨fuel1, points1, i1⟩ w2 ⟨c3, hI, h⟩
   dsimp only at hI h
   rcases fuel1 with _ | fuel1
   ·rw [m_box_Validate_l1] at h; cases h
   rw [m_box_Validate_l1] at h
   refine c_sub (e := [(3, (vi points1)), (4, (vb empty1)), (26, (vs a1 ext1.length c1)), (27, (vi (ext1.length : Int))), (28, (vi i1))]) ⟨rfl, rfl, rfl, rfl, rfl, trivial⟩ ?_
   refine sr ?_
   refine sq (y_lss rfl et et) ?_
   refine nk ?_
   refine c_seq ?_
   refine c_cond (b := decide (i1 < (ext1.length : Int))) et (fun hb => ?_) (fun hb => ?_)
   ·replace h := ite_t hb h
    refine c_skip ?_
    refine k_same ?_
    refine c_join (α := Int) (fun _ => ⟨46, []⟩) (fun x => [(3, (vi x)), (4, (vb empty1)), (26, (vs a1 ext1.length c1)), (27, (vi (ext1.length : Int))), (28, (vi i1))]) (fun x => fun w => ∃ C, Bun noM F w0 C w [] [Cl.sl (cInt .i64) a1 c1 ext1] ∧ m_box_Validate_j2 (m_box_Validate_l1 ext1 empty1 fuel1) i1 x = some r) ?_ ?_
    ·clear h hI; rintro points2 w3 ⟨c4, hI, h⟩
     try dsimp only at hI h
     rw [m_box_Validate_j2] at h
     refine c_sub (e := [(3, (vi points2)), (4, (vb empty1)), (26, (vs a1 ext1.length c1)), (27, (vi (ext1.length : Int))), (28, (vi i1))]) ⟨rfl, rfl, rfl, rfl, rfl, trivial⟩ ?_
     refine c_region rfl ?_
     refine sq (y_add rfl et ev_const) ?_
     refine sm ?_
     refine s_nil ?_
     exact k_loop (fuel1, points2, wi64 (i1 + 1)) ⟨rfl, rfl, rfl, rfl, rfl, trivial⟩ ⟨_, hI.arr .n ⟨.z, trivial⟩, h⟩ (Nat.lt_succ_self _)
    ·skip
     refine c_block ?_
     refine sr ?_
     obtain ⟨e1, hx1, h⟩ := bnd_some h
     obtain ⟨ad1, cs1, hA1, hr1, hq1⟩ := hI.clat .z hx1
     obtain rfl : cs1 = [(vi e1)] := hr1
     refine sq (y_indexAddr rfl Try.underlying24 size_3 et et (lat_bd hx1) hA1) ?_
     refine sq (y_load1 (v := (vi e1)) rfl et Try.underlying3 rfl hq1.1) ?_
     refine sa ?_
     refine nk ?_
     refine c_seq ?_
     refine sr ?_
     refine sm ?_
     refine sq (y_not rfl et) ?_
     refine sm ?_
     refine s_gval (g_true rfl rfl rfl rfl) rfl (fun hc => (y_move rfl et)) ?_
     refine s_gval (g_true rfl rfl rfl rfl) rfl (fun hc => (y_move rfl et)) ?_
     obtain ⟨ho1, h⟩ := chk_some h
     refine s_gval (g_true rfl rfl rfl rfl) rfl (fun hc => (y_quo rfl ev_const (ev_gv et hc) (ho1 hc))) ?_
     refine s_gval (g_true rfl rfl rfl rfl) rfl (fun hc => (y_gtr rfl (ev_gv et hc) (ev_gv et hc))) ?_
     refine sq (y_and rfl et et) ?_
     refine nk ?_
     refine c_cond (b := (!empty1) && (decide (wi64 (Int.tdiv 65536 points1) < e1))) et (fun hb => ?_) (fun hb => ?_)
     ·replace h := ite_t hb h
      refine sr ?_
      refine sac ?_
      refine nk ?_
      refine c_ret ?_
      obtain rfl := some_inj h
      exact q_ret (vs := [(vi 2)]) Try.results38 ⟨ev_tmp rfl rfl, trivial⟩ ⟨rfl, hI.ext0, hI.fin trivial⟩
     ·replace h := ite_f hb h
      refine c_skip ?_
      refine k_same ?_
      refine sr ?_
      refine sm ?_
      refine sq (y_not rfl et) ?_
      refine nk ?_
      refine c_cond (b := !empty1) et (fun hb => ?_) (fun hb => ?_)
      ·replace h := ite_t hb h
       refine c_region rfl ?_
       refine sm ?_
       refine sm ?_
       refine sq (y_mul rfl et et) ?_
       refine sa ?_
       refine s_nil ?_
       exact k_join (wi64 (points1 * e1)) ⟨rfl, rfl, rfl, rfl, rfl, trivial⟩ ⟨_, hI.arr .n ⟨.z, trivial⟩, h⟩ rfl
      ·replace h := ite_f hb h
       refine c_skip ?_
       exact k_join points1 ⟨rfl, rfl, rfl, rfl, rfl, trivial⟩ ⟨_, hI.arr .n ⟨.z, trivial⟩, h⟩ rfl
   ·replace h := ite_f hb h
    refine c_exit ?_
    refine k_in ?_
    refine k_same ?_
    refine sr ?_
    refine sac ?_
    refine nk ?_
    refine c_ret ?_
    obtain rfl := some_inj h
    exact q_ret (vs := [(vi 0)]) Try.results38 ⟨ev_tmp rfl rfl, trivial⟩ ⟨rfl, hI.ext0, hI.fin trivial⟩
  ·skip
   refine sr ?_
   refine sm ?_
   refine sq (y_lenl rfl Try.underlying24 et) ?_
   refine sq (y_move rfl ev_const) ?_
   refine nk ?_
   refine c_block ?_
   refine c_loop (α := Nat × Bool × Int) (fun x => fun w => ∃ C, Bun noM F w0 C w [] [Cl.sl (cInt .i64) a1 c1 ext1] ∧ m_box_Validate_l2 ext1 (x.1) (x.2.1) (x.2.2) = some r) (fun x _ => x.1) (fun x => [(0, (vs a1 ext1.length c1)), (3, (vi 1)), (4, (vb (x.2.1))), (12, (vs a1 ext1.length c1)), (13, (vi (ext1.length : Int))), (14, (vi (x.2.2)))]) (fu, false, 0) ⟨_, hI.arr .n ⟨.z, trivial⟩, h⟩ ⟨rfl, rfl, rfl, rfl, rfl, rfl, trivial⟩ ?_
   clear h hI; rintro ⟨fuel2, empty2, i2⟩ w4 ⟨c5, hI, h⟩
   dsimp only at hI h
   rcases fuel2 with _ | fuel2
   ·rw [m_box_Validate_l2] at h; cases h
   rw [m_box_Validate_l2] at h
   refine c_sub (e := [(0, (vs a1 ext1.length c1)), (3, (vi 1)), (4, (vb empty2)), (12, (vs a1 ext1.length c1)), (13, (vi (ext1.length : Int))), (14, (vi i2))]) ⟨rfl, rfl, rfl, rfl, rfl, rfl, trivial⟩ ?_
   refine sr ?_
   refine sq (y_lss rfl et et) ?_
   refine nk ?_
   refine c_seq ?_
   refine c_cond (b := decide (i2 < (ext1.length : Int))) et (fun hb => ?_) (fun hb => ?_)
   ·replace h := ite_t hb h
    refine c_skip ?_
    refine k_same ?_
    refine c_seq ?_
    refine c_block ?_
    refine sr ?_
    obtain ⟨e2, hx2, h⟩ := bnd_some h
    obtain ⟨ad2, cs2, hA2, hr2, hq2⟩ := hI.clat .z hx2
    obtain rfl : cs2 = [(vi e2)] := hr2
    refine sq (y_indexAddr rfl Try.underlying24 size_3 et et (lat_bd hx2) hA2) ?_
    refine sq (y_load1 (v := (vi e2)) rfl et Try.underlying3 rfl hq2.1) ?_
    refine sa ?_
    refine nk ?_
    refine c_seq ?_
    refine sr ?_
    refine sm ?_
    refine sq (y_lss rfl et ev_const) ?_
    refine nk ?_
    refine c_cond (b := decide (e2 < 0)) et (fun hb => ?_) (fun hb => ?_)
    ·replace h := ite_t hb h
     refine sr ?_
     refine sac ?_
     refine nk ?_
     refine c_ret ?_
     obtain rfl := some_inj h
     exact q_ret (vs := [(vi 1)]) Try.results38 ⟨ev_tmp rfl rfl, trivial⟩ ⟨rfl, hI.ext0, hI.fin trivial⟩
    ·replace h := ite_f hb h
     refine c_skip ?_
     refine k_same ?_
     refine c_region rfl ?_
     refine sm ?_
     refine sm ?_
     refine s_gval (g_false rfl rfl rfl rfl) rfl (fun hc => (y_move rfl et)) ?_
     refine s_gval (g_false rfl rfl rfl rfl) rfl (fun hc => (y_eql rfl (ev_gv et hc) ev_const)) ?_
     refine sq (y_or rfl et et) ?_
     obtain ⟨empty3, hx3, h⟩ := bnd_some h
     refine sq (binU (y_assign rfl et) (congrArg Value.bool (some_inj hx3))) ?_
     refine nk ?_
     refine c_region rfl ?_
     refine sq (y_add rfl et ev_const) ?_
     refine sm ?_
     refine s_nil ?_
     exact k_loop (fuel2, empty3, wi64 (i2 + 1)) ⟨rfl, rfl, rfl, rfl, rfl, rfl, trivial⟩ ⟨_, hI.arr .n ⟨.z, trivial⟩, h⟩ (Nat.lt_succ_self _)
   ·replace h := ite_f hb h
    refine c_exit ?_
    refine k_in ?_
    exact k_join empty2 ⟨rfl, rfl, rfl, trivial⟩ ⟨_, hI.arr .n ⟨.z, trivial⟩, h⟩ rfl
set_option maxRecDepth 100000 in
set_option maxHeartbeats 4000000 in
theorem c_affine_boxed (F : NP) (w0 : World) (hF : ∀ k, F k → k < w0.heap.size) (names1 : List (List UInt8)) (ext1 : List Int) (a1 : Option Addr) (c1 : Nat) (a2 : Option Addr) (c2 : Nat) (hc : AllCl [Cl.sl cStr a1 c1 names1, Cl.sl (cInt .i64) a2 c2 ext1] F w0) (r : Int)
  (h : m_affine_boxed names1 ext1 = some r) :
  Calls Try.prog 34 #[(vs a1 names1.length c1), (vs a2 ext1.length c2)] w0 fun e w => e = .returned (vi r) ∧ Ext w0 w ∧ AllCl [] F w := by
 refine enterK (l := [(vs a1 names1.length c1), (vs a2 ext1.length c2)]) Try.func34 rfl Try.ntmps34 rfl ?_
 have hI := Bun.start hF hc
 clear hc
 rw [m_affine_boxed] at h
 refine sr ?_
 refine sac ?_
 refine nk ?_
 refine c_seq ?_
 refine sr ?_
 refine sm ?_
 obtain ⟨r1, hx1, h⟩ := bnd_some h
 refine s_call gn rfl (r_callF (vs := [(vs a2 ext1.length c2)]) rfl ok_38 ⟨et, trivial⟩) (Calls.mono (c_box_Validate (Dj F noM) w0 hI.lt ext1 a2 c2 ⟨(hI.get (.s .z)), trivial⟩ r1 hx1) ?_)
 rintro _ w1 ⟨rfl, hx2, hl1⟩
 refine ⟨_, rfl, ?_⟩
 replace hI := (hI.ext hx2)
 refine sa ?_
 refine nk ?_
 refine sr ?_
 refine sm ?_
 refine sq (y_neq rfl et ev_const) ?_
 refine nk ?_
 refine c_cond (b := !decide (r1 = 0)) et (fun hb => ?_) (fun hb => ?_)
 ·replace h := ite_t hb h
  refine sr ?_
  refine sm ?_
  refine sa ?_
  refine nk ?_
  refine c_ret ?_
  obtain rfl := some_inj h
  exact q_ret (vs := [(vi r1)]) Try.results34 ⟨ev_tmp rfl rfl, trivial⟩ ⟨rfl, hI.ext0, hI.fin trivial⟩
 ·replace h := ite_f hb h
  refine c_skip ?_
  refine k_same ?_
  refine c_seq ?_
  refine sr ?_
  refine sm ?_
  refine sq (y_lenl rfl Try.underlying24 et) ?_
  refine sm ?_
  refine sq (y_lenl rfl Try.underlying23 et) ?_
  refine sq (y_neq rfl et et) ?_
  refine nk ?_
  refine c_cond (b := !decide ((ext1.length : Int) = (names1.length : Int))) et (fun hb => ?_) (fun hb => ?_)
  ·replace h := ite_t hb h
   refine sr ?_
   refine sac ?_
   refine nk ?_
   refine c_ret ?_
   obtain rfl := some_inj h
   exact q_ret (vs := [(vi 11)]) Try.results34 ⟨ev_tmp rfl rfl, trivial⟩ ⟨rfl, hI.ext0, hI.fin trivial⟩
  ·replace h := ite_f hb h
   refine c_skip ?_
   refine k_same ?_
   refine sr ?_
   refine sac ?_
   refine nk ?_
   refine c_ret ?_
   obtain rfl := some_inj h
   exact q_ret (vs := [(vi 0)]) Try.results34 ⟨ev_tmp rfl rfl, trivial⟩ ⟨rfl, hI.ext0, hI.fin trivial⟩
set_option maxRecDepth 100000 in
set_option maxHeartbeats 4000000 in
theorem c_slices_Clone_int_int_o (C0 F : NP) (w0 : World) (s1 : List Int) (a1 : Option Addr) (c1 : Nat) (hI : Bun C0 F w0 C0 w0 [] [Cl.sl (cInt .i64) a1 c1 s1]) (r : List Int)
  (h : m_slices_Clone_int_int_o s1 = some r) :
  Calls Try.prog 56 #[(vs a1 s1.length c1)] w0 fun e w => ∃ (a2 : Option Addr) (c2 : Nat) (C : NP), e = .returned (vs a2 r.length c2) ∧ Bun C0 F w0 C w [MO.row (cInt .i64) 3 a2 c2 r] [] := by
 refine enterK (l := [(vs a1 s1.length c1)]) Try.func56 rfl Try.ntmps56 rfl ?_
 rw [m_slices_Clone_int_int_o] at h
 refine sr ?_
 refine sac ?_
 refine nk ?_
 refine c_seq ?_
 refine sr ?_
 refine sm ?_
 refine sq (y_eqnil rfl et ev_const Try.underlying24) ?_
 refine nk ?_
 refine c_cond (b := Option.isNone a1) et (fun hb => ?_) (fun hb => ?_)
 ·have hn_ := hI.nilEmpty .z hb
  replace h : some (([] : List Int)) = some r := by rw [hn_] at h; simpa [lapp] using h
  refine sr ?_
  refine sac ?_
  refine nk ?_
  refine c_ret ?_
  have hI := hI.nil (cInt .i64) 3 none
  obtain rfl := some_inj h
  exact q_ret (vs := [(vs none ([] : List Int).length 0)]) Try.results56 ⟨ev_tmp rfl rfl, trivial⟩ ⟨none, 0, _, rfl, hI.arr (.c .z .n) trivial⟩
 ·skip
  refine c_skip ?_
  refine k_same ?_
  refine sr ?_
  refine l_lit (c := (cInt .i64)) (xs := ([] : List Int)) (vs := []) (cs := #[]) (css := []) hI gn rfl rfl Try.underlying24 info_3 rfl trivial (by kernel_rfl) trivial rfl rfl rfl ?_
  clear hI; intro b1 c3 w1 hI
  refine sm ?_
  obtain ⟨zs1, hx1, h⟩ := bnd_some h
  refine l_append (xs := ([] : List Int)) (ys := s1) hI .z (hI.crd .z) hx1 gn rfl rfl Try.underlying24 info_3 rfl rfl et et ?_
  clear hI; intro a3 c4 c5 w2 hI
  refine sa ?_
  refine nk ?_
  refine c_ret ?_
  obtain rfl := some_inj h
  exact q_ret (vs := [(vs a3 zs1.length c4)]) Try.results56 ⟨ev_tmp rfl rfl, trivial⟩ ⟨a3, c4, _, rfl, hI.arr (.c .z .n) trivial⟩
set_option maxRecDepth 100000 in
set_option maxHeartbeats 4000000 in
theorem c_box_Count (F : NP) (w0 : World) (hF : ∀ k, F k → k < w0.heap.size) (ext1 : List Int) (a1 : Option Addr) (c1 : Nat) (hc : AllCl [Cl.sl (cInt .i64) a1 c1 ext1] F w0) (r : Int)
  (h : m_box_Count ext1 = some r) :
  Calls Try.prog 18 #[(vs a1 ext1.length c1)] w0 fun e w => e = .returned (vi r) ∧ Ext w0 w ∧ AllCl [] F w := by
 refine enterK (l := [(vs a1 ext1.length c1)]) Try.func18 rfl Try.ntmps18 rfl ?_
 have hI := Bun.start hF hc
 clear hc
 rw [m_box_Count] at h
 refine sr ?_
 refine sac ?_
 refine nk ?_
 refine c_seq ?_
 refine sr ?_
 refine sm ?_
 obtain ⟨r1, hx1, h⟩ := bnd_some h
 refine s_call gn rfl (r_callF (vs := [(vs a1 ext1.length c1)]) rfl ok_38 ⟨et, trivial⟩) (Calls.mono (c_box_Validate (Dj F noM) w0 hI.lt ext1 a1 c1 ⟨(hI.get .z), trivial⟩ r1 hx1) ?_)
 rintro _ w1 ⟨rfl, hx2, hl1⟩
 refine ⟨_, rfl, ?_⟩
 replace hI := (hI.ext hx2)
 refine sq (y_neq rfl et ev_const) ?_
 refine nk ?_
 refine c_cond (b := !decide (r1 = 0)) et (fun hb => ?_) (fun hb => ?_)
 ·replace h := ite_t hb h
  refine sr ?_
  refine sac ?_
  refine nk ?_
  refine c_ret ?_
  obtain rfl := some_inj h
  exact q_ret (vs := [(vi 0)]) Try.results18 ⟨ev_tmp rfl rfl, trivial⟩ ⟨rfl, hI.ext0, hI.fin trivial⟩
 ·replace h := ite_f hb h
  refine c_skip ?_
  refine k_same ?_
  refine sr ?_
  refine sac ?_
  refine nk ?_
  refine c_join (α := Unit) (fun _ => ⟨31, []⟩) (fun _ => [(0, (vs a1 ext1.length c1)), (3, (vi 1))]) (fun _ => fun w => ∃ C, Bun noM F w0 C w [] [Cl.sl (cInt .i64) a1 c1 ext1] ∧ m_box_Count_j1 ext1 = some r) ?_ ?_
  ·clear h hI; rintro _ w2 ⟨c2, hI, h⟩
   try dsimp only at hI h
   rw [m_box_Count_j1] at h
   refine c_sub (e := [(0, (vs a1 ext1.length c1)), (3, (vi 1))]) ⟨rfl, rfl, trivial⟩ ?_
   refine c_seq ?_
   refine sr ?_
   refine sm ?_
   refine sq (y_lenl rfl Try.underlying24 et) ?_
   refine sq (y_move rfl ev_const) ?_
   refine nk ?_
   refine c_block ?_
   refine c_loop (α := Nat × Int × Int) (fun x => fun w => ∃ C, Bun noM F w0 C w [] [Cl.sl (cInt .i64) a1 c1 ext1] ∧ m_box_Count_l1 ext1 (x.1) (x.2.1) (x.2.2) = some r) (fun x _ => x.1) (fun x => [(3, (vi (x.2.1))), (20, (vs a1 ext1.length c1)), (21, (vi (ext1.length : Int))), (22, (vi (x.2.2)))]) (fu, 1, 0) ⟨_, hI.arr .n ⟨.z, trivial⟩, h⟩ ⟨rfl, rfl, rfl, rfl, trivial⟩ ?_
   clear h hI; rintro ⟨fuel1, points1, i1⟩ w3 ⟨c3, hI, h⟩
   dsimp only at hI h
   rcases fuel1 with _ | fuel1
   ·rw [m_box_Count_l1] at h; cases h
   rw [m_box_Count_l1] at h
   refine c_sub (e := [(3, (vi points1)), (20, (vs a1 ext1.length c1)), (21, (vi (ext1.length : Int))), (22, (vi i1))]) ⟨rfl, rfl, rfl, rfl, trivial⟩ ?_
   refine sr ?_
   refine sq (y_lss rfl et et) ?_
   refine nk ?_
   refine c_seq ?_
   refine c_cond (b := decide (i1 < (ext1.length : Int))) et (fun hb => ?_) (fun hb => ?_)
   ·replace h := ite_t hb h
    refine c_skip ?_
    refine k_same ?_
    refine c_seq ?_
    refine c_block ?_
    refine sr ?_
    obtain ⟨e1, hx3, h⟩ := bnd_some h
    obtain ⟨ad1, cs1, hA1, hr1, hq1⟩ := hI.clat .z hx3
    obtain rfl : cs1 = [(vi e1)] := hr1
    refine sq (y_indexAddr rfl Try.underlying24 size_3 et et (lat_bd hx3) hA1) ?_
    refine sq (y_load1 (v := (vi e1)) rfl et Try.underlying3 rfl hq1.1) ?_
    refine sa ?_
    refine nk ?_
    refine c_region rfl ?_
    refine sm ?_
    refine sm ?_
    refine sq (y_mul rfl et et) ?_
    refine sa ?_
    refine nk ?_
    refine c_region rfl ?_
    refine sq (y_add rfl et ev_const) ?_
    refine sm ?_
    refine s_nil ?_
    exact k_loop (fuel1, wi64 (points1 * e1), wi64 (i1 + 1)) ⟨rfl, rfl, rfl, rfl, trivial⟩ ⟨_, hI.arr .n ⟨.z, trivial⟩, h⟩ (Nat.lt_succ_self _)
   ·replace h := ite_f hb h
    refine c_exit ?_
    refine k_in ?_
    refine k_same ?_
    refine sr ?_
    refine sm ?_
    refine sa ?_
    refine nk ?_
    refine c_ret ?_
    obtain rfl := some_inj h
    exact q_ret (vs := [(vi points1)]) Try.results18 ⟨ev_tmp rfl rfl, trivial⟩ ⟨rfl, hI.ext0, hI.fin trivial⟩
  ·skip
   refine sr ?_
   refine sm ?_
   refine sq (y_lenl rfl Try.underlying24 et) ?_
   refine sq (y_move rfl ev_const) ?_
   refine nk ?_
   refine c_block ?_
   refine c_loop (α := Nat × Int) (fun x => fun w => ∃ C, Bun noM F w0 C w [] [Cl.sl (cInt .i64) a1 c1 ext1] ∧ m_box_Count_l2 ext1 (x.1) (x.2) = some r) (fun x _ => x.1) (fun x => [(0, (vs a1 ext1.length c1)), (3, (vi 1)), (11, (vs a1 ext1.length c1)), (12, (vi (ext1.length : Int))), (13, (vi (x.2)))]) (fu, 0) ⟨_, hI.arr .n ⟨.z, trivial⟩, h⟩ ⟨rfl, rfl, rfl, rfl, rfl, trivial⟩ ?_
   clear h hI; rintro ⟨fuel2, i2⟩ w4 ⟨c4, hI, h⟩
   dsimp only at hI h
   rcases fuel2 with _ | fuel2
   ·rw [m_box_Count_l2] at h; cases h
   rw [m_box_Count_l2] at h
   refine c_sub (e := [(0, (vs a1 ext1.length c1)), (3, (vi 1)), (11, (vs a1 ext1.length c1)), (12, (vi (ext1.length : Int))), (13, (vi i2))]) ⟨rfl, rfl, rfl, rfl, rfl, trivial⟩ ?_
   refine sr ?_
   refine sq (y_lss rfl et et) ?_
   refine nk ?_
   refine c_seq ?_
   refine c_cond (b := decide (i2 < (ext1.length : Int))) et (fun hb => ?_) (fun hb => ?_)
   ·replace h := ite_t hb h
    refine c_skip ?_
    refine k_same ?_
    refine c_seq ?_
    refine c_block ?_
    refine sr ?_
    obtain ⟨e2, hx4, h⟩ := bnd_some h
    obtain ⟨ad2, cs2, hA2, hr2, hq2⟩ := hI.clat .z hx4
    obtain rfl : cs2 = [(vi e2)] := hr2
    refine sq (y_indexAddr rfl Try.underlying24 size_3 et et (lat_bd hx4) hA2) ?_
    refine sq (y_load1 (v := (vi e2)) rfl et Try.underlying3 rfl hq2.1) ?_
    refine sa ?_
    refine nk ?_
    refine sr ?_
    refine sm ?_
    refine sq (y_eql rfl et ev_const) ?_
    refine nk ?_
    refine c_cond (b := decide (e2 = 0)) et (fun hb => ?_) (fun hb => ?_)
    ·replace h := ite_t hb h
     refine sr ?_
     refine sac ?_
     refine nk ?_
     refine c_ret ?_
     obtain rfl := some_inj h
     exact q_ret (vs := [(vi 0)]) Try.results18 ⟨ev_tmp rfl rfl, trivial⟩ ⟨rfl, hI.ext0, hI.fin trivial⟩
    ·replace h := ite_f hb h
     refine c_skip ?_
     refine k_same ?_
     refine c_region rfl ?_
     refine sq (y_add rfl et ev_const) ?_
     refine sm ?_
     refine s_nil ?_
     exact k_loop (fuel2, wi64 (i2 + 1)) ⟨rfl, rfl, rfl, rfl, rfl, trivial⟩ ⟨_, hI.arr .n ⟨.z, trivial⟩, h⟩ (Nat.lt_succ_self _)
   ·replace h := ite_f hb h
    refine c_exit ?_
    refine k_in ?_
    exact k_join () ⟨rfl, rfl, trivial⟩ ⟨_, hI.arr .n ⟨.z, trivial⟩, h⟩ rfl
set_option maxRecDepth 100000 in
set_option maxHeartbeats 4000000 in
theorem c_box_numbers (F : NP) (w0 : World) (hF : ∀ k, F k → k < w0.heap.size) (ext1 : List Int) (a1 : Option Addr) (c1 : Nat) (hc : AllCl [Cl.sl (cInt .i64) a1 c1 ext1] F w0) (r : List Int)
  (h : m_box_numbers ext1 = some r) :
  Calls Try.prog 78 #[(vs a1 ext1.length c1)] w0 fun e w => ∃ (b1 : Nat) (a2 : Option Addr) (c2 : Nat), e = .returned (Value.func (.func 83) #[] #[(vp b1 0)]) ∧ Ext w0 w ∧ AllCl [Cl.sl (cInt .i64) a2 c2 r, Cl.blk b1 24 #[(vs a2 r.length c2)]] F w := by
 refine enterK (l := [(vs a1 ext1.length c1)]) Try.func78 rfl Try.ntmps78 rfl ?_
 have hI := Bun.start hF hc
 clear hc
 rw [m_box_numbers] at h
 refine sr ?_
 refine l_box (v := (vs a1 ext1.length c1)) (cs := #[(vs a1 ext1.length c1)]) hI gn rfl rfl et rfl ?_
 clear hI; intro b2 c3 w1 hI
 obtain ⟨c4, hI⟩ := hI.relBox .z
 refine sac ?_
 refine nk ?_
 refine sr ?_
 refine sq (y_makeFunc (vs := []) (cap := [(vp b2 0)]) rfl rfl ⟨et, trivial⟩) ?_
 refine sa ?_
 refine nk ?_
 refine c_ret ?_
 obtain rfl := some_inj h
 exact q_ret (vs := [(Value.func (.func 83) #[] #[(vp b2 0)])]) Try.results78 ⟨ev_tmp rfl rfl, trivial⟩ ⟨b2, a1, c1, rfl, hI.ext0, hI.fin ⟨(.s .z), .z, trivial⟩⟩
set_option maxRecDepth 100000 in
set_option maxHeartbeats 4000000 in
theorem c_box_Point (F : NP) (w0 : World) (hF : ∀ k, F k → k < w0.heap.size) (ext1 : List Int) (at1 : Int) (a1 : Option Addr) (c1 : Nat) (hc : AllCl [Cl.sl (cInt .i64) a1 c1 ext1] F w0) (r : List Int × Bool)
  (h : m_box_Point ext1 at1 = some r) :
  Calls Try.prog 79 #[(vs a1 ext1.length c1), (vi at1)] w0 fun e w => ∃ (a2 : Option Addr) (c2 : Nat), e = .returned (Value.tuple #[(vs a2 r.1.length c2), (vb r.2)]) ∧ Ext w0 w ∧ AllCl [Cl.sl (cInt .i64) a2 c2 r.1] F w := by
 refine enterK (l := [(vs a1 ext1.length c1), (vi at1)]) Try.func79 rfl Try.ntmps79 rfl ?_
 have hI := Bun.start hF hc
 clear hc
 rw [m_box_Point] at h
 refine sr ?_
 refine sac ?_
 refine sac ?_
 refine nk ?_
 refine c_seq ?_
 refine sr ?_
 refine sm ?_
 refine sq (y_lss rfl et ev_const) ?_
 refine sm ?_
 refine s_gval (g_false rfl rfl rfl rfl) rfl (fun hc => (y_move rfl et)) ?_
 refine s_gval (g_false rfl rfl rfl rfl) rfl (fun hc => (y_move rfl et)) ?_
 obtain ⟨r1, hx1, h⟩ := bnd_some h
 replace hx1 := gd_some hx1
 refine s_gcallU (v := (vi r1)) (g_false rfl rfl rfl rfl) rfl (fun hc => (r_callF (vs := [(vs a1 ext1.length c1)]) rfl ok_18 ⟨(ev_gv et hc), trivial⟩)) (fun hc => (c_box_Count (Dj F noM) w0 hI.lt ext1 a1 c1 ⟨(hI.get .z), trivial⟩ r1 (hx1 hc)).mono fun _ _ k => ⟨k.1, k.2.1⟩) ?_
 intro w1 hx2; replace hI := hI.ext hx2
 refine s_gval (g_false rfl rfl rfl rfl) rfl (fun hc => (y_geq rfl (ev_gv et hc) (ev_gv et hc))) ?_
 refine sq (y_or rfl et et) ?_
 refine nk ?_
 refine c_cond (b := (decide (at1 < 0)) || (decide (r1 ≤ at1))) et (fun hb => ?_) (fun hb => ?_)
 ·replace h := ite_t hb h
  refine sr ?_
  refine sac ?_
  refine sac ?_
  refine nk ?_
  refine c_ret ?_
  have hI := hI.add (c := Cl.sl (cInt .i64) none 0 ([] : List Int)) SlC.nil
  obtain rfl := some_inj h
  exact q_ret (vs := [(vs none 0 0), (vb false)]) Try.results79 ⟨ev_tmp rfl rfl, ⟨ev_tmp rfl rfl, trivial⟩⟩ ⟨none, 0, rfl, hI.ext0, hI.fin ⟨.z, trivial⟩⟩
 ·replace h := ite_f hb h
  refine c_skip ?_
  refine k_same ?_
  refine sr ?_
  refine sm ?_
  refine sq (y_lenl rfl Try.underlying24 et) ?_
  obtain ⟨zs1, hx3, h⟩ := bnd_some h
  refine l_make (c := (cInt .i64)) hI hx3 gn  rfl rfl Try.underlying24 info_3 rfl rfl et et rfl ?_
  clear hI; intro b1 c3 w2 hI
  refine sa ?_
  refine nk ?_
  refine c_seq ?_
  refine sr ?_
  refine sm ?_
  refine sq (y_lenl rfl Try.underlying24 et) ?_
  refine sq (y_sub rfl et ev_const) ?_
  obtain ⟨i1, hx4, h⟩ := bnd_some h
  refine sq (binU (y_assign rfl et) (congrArg (Value.int .i64) (some_inj hx4))) ?_
  refine nk ?_
  refine c_block ?_
  refine c_loop (α := Nat × Int × (List Int) × Int × (Option Addr) × Nat) (fun x => fun w => ∃ C, Bun noM F w0 C w [MO.row (cInt .i64) 3 (x.2.2.2.2.1) (x.2.2.2.2.2) (x.2.2.1)] [Cl.sl (cInt .i64) a1 c1 ext1] ∧ m_box_Point_l1 ext1 (x.1) (x.2.1) (x.2.2.1) (x.2.2.2.1) = some r) (fun x _ => x.1) (fun x => [(0, (vs a1 ext1.length c1)), (1, (vi (x.2.1))), (6, (vs (x.2.2.2.2.1) (x.2.2.1).length (x.2.2.2.2.2))), (7, (vi (x.2.2.2.1)))]) (fu, at1, zs1, i1, some ⟨b1, 0, none⟩, ((ext1.length : Int)).toNat) ⟨_, hI.arr (.c .z .n) ⟨.z, trivial⟩, h⟩ ⟨rfl, rfl, rfl, rfl, trivial⟩ ?_
  clear h hI; rintro ⟨fuel1, at2, p1, i2, a3, c4⟩ w3 ⟨c5, hI, h⟩
  dsimp only at hI h
  rcases fuel1 with _ | fuel1
  ·rw [m_box_Point_l1] at h; cases h
  rw [m_box_Point_l1] at h
  refine c_sub (e := [(0, (vs a1 ext1.length c1)), (1, (vi at2)), (6, (vs a3 p1.length c4)), (7, (vi i2))]) ⟨rfl, rfl, rfl, rfl, trivial⟩ ?_
  refine c_seq ?_
  refine sr ?_
  refine sm ?_
  refine sq (y_geq rfl et ev_const) ?_
  refine nk ?_
  refine c_cond (b := decide (0 ≤ i2)) et (fun hb => ?_) (fun hb => ?_)
  ·replace h := ite_t hb h
   refine c_skip ?_
   refine k_same ?_
   refine c_seq ?_
   refine c_block ?_
   refine sr ?_
   refine sm ?_
   refine sm ?_
   refine sm ?_
   refine sm ?_
   refine sm ?_
   obtain ⟨e1, hx5, h⟩ := bnd_some h
   obtain ⟨ad1, cs1, hA1, hr1, hq1⟩ := hI.clat .z hx5
   obtain rfl : cs1 = [(vi e1)] := hr1
   refine sq (y_indexAddr rfl Try.underlying24 size_3 et et (lat_bd hx5) hA1) ?_
   refine sq (y_load1 (v := (vi e1)) rfl et Try.underlying3 rfl hq1.1) ?_
   obtain ⟨ho1, h⟩ := chk_some h
   refine sq (y_rem rfl et et ho1) ?_
   obtain ⟨ho2, h⟩ := chk_some h
   obtain ⟨ad2, hA2⟩ := hI.addr .z ho2
   refine sq (y_indexAddr rfl Try.underlying24 size_3 et et ho2 hA2) ?_
   refine l_storeRow (p := Int.toNat i2) (new := [(vi (Int.tmod at2 e1))]) (off := 0) (x' := Int.tmod at2 e1) hI .z gn rfl rfl (by have := ho2; first | omega | (simp only [List.length_set]; omega)) hA2 rfl et et rfl size_3 rfl (by show 0 + 1 ≤ 1; omega) (fun _ cs0 _ hr0 => by rw [spl_full (by have e := Cod.len _ hr0; exact e)]; exact rfl) ?_
   clear hI; intro c6 w4 hI
   refine s_nil ?_
   refine k_next (e := [(0, (vs a1 ext1.length c1)), (1, (vi at2)), (6, (vs a3 (p1.set (Int.toNat i2) (Int.tmod at2 e1)).length c4)), (7, (vi i2))]) ⟨rfl, rfl, (lookset rfl), rfl, trivial⟩ ?_
   refine c_region rfl ?_
   refine sm ?_
   refine sm ?_
   refine sm ?_
   obtain ⟨e2, hx6, h⟩ := bnd_some h
   obtain ⟨ad3, cs2, hA3, hr2, hq2⟩ := hI.clat .z hx6
   obtain rfl : cs2 = [(vi e2)] := hr2
   refine sq (y_indexAddr rfl Try.underlying24 size_3 et et (lat_bd hx6) hA3) ?_
   refine sq (y_load1 (v := (vi e2)) rfl et Try.underlying3 rfl hq2.1) ?_
   obtain ⟨ho3, h⟩ := chk_some h
   refine sq (y_quo rfl et et ho3) ?_
   refine sa ?_
   refine nk ?_
   refine c_region rfl ?_
   refine sm ?_
   refine sq (y_sub rfl et ev_const) ?_
   refine sa ?_
   refine s_nil ?_
   exact k_loop (fuel1, wi64 (Int.tdiv at2 e2), p1.set (Int.toNat i2) (Int.tmod at2 e1), wi64 (i2 - 1), a3, c4) ⟨rfl, rfl, rfl, rfl, trivial⟩ ⟨_, hI.arr (.c .z .n) ⟨.z, trivial⟩, h⟩ (Nat.lt_succ_self _)
  ·replace h := ite_f hb h
   refine c_exit ?_
   refine k_in ?_
   refine k_same ?_
   refine sr ?_
   refine sm ?_
   refine sa ?_
   refine sac ?_
   refine nk ?_
   refine c_ret ?_
   obtain ⟨c7, hI⟩ := hI.release .z
   obtain rfl := some_inj h
   exact q_ret (vs := [(vs a3 p1.length c4), (vb true)]) Try.results79 ⟨ev_tmp rfl rfl, ⟨ev_tmp rfl rfl, trivial⟩⟩ ⟨a3, c4, rfl, hI.ext0, hI.fin ⟨.z, trivial⟩⟩
set_option maxRecDepth 100000 in
set_option maxHeartbeats 4000000 in
theorem c_box_All (F : NP) (w0 : World) (hF : ∀ k, F k → k < w0.heap.size) (ext1 : List Int) (a1 : Option Addr) (c1 : Nat) (hc : AllCl [Cl.sl (cInt .i64) a1 c1 ext1] F w0) (r : List Int)
  (h : m_box_All ext1 = some r) :
  Calls Try.prog 61 #[(vs a1 ext1.length c1)] w0 fun e w => ∃ (b1 : Nat) (a2 : Option Addr) (c2 : Nat), e = .returned (Value.func (.func 77) #[] #[(vp b1 0)]) ∧ Ext w0 w ∧ AllCl [Cl.sl (cInt .i64) a2 c2 r, Cl.blk b1 24 #[(vs a2 r.length c2)]] F w := by
 refine enterK (l := [(vs a1 ext1.length c1)]) Try.func61 rfl Try.ntmps61 rfl ?_
 have hI := Bun.start hF hc
 clear hc
 rw [m_box_All] at h
 refine sr ?_
 refine l_box (v := (vs a1 ext1.length c1)) (cs := #[(vs a1 ext1.length c1)]) hI gn rfl rfl et rfl ?_
 clear hI; intro b2 c3 w1 hI
 refine sac ?_
 refine nk ?_
 refine sr ?_
 refine sq (y_load1 (v := (vs a1 ext1.length c1)) rfl et Try.underlying24 rfl (CellsAt.of_blk (hI.blk .z) rfl)) ?_
 obtain ⟨zs1, hx1, h⟩ := bnd_some h
 replace hI := hI.nil (cInt .i64) 3 none
 refine l_append (xs := ([] : List Int)) (ys := ext1) hI .z (hI.crd .z) hx1 gn rfl rfl Try.underlying24 info_3 rfl rfl ev_const et ?_
 clear hI; intro a3 c4 c5 w2 hI
 refine l_store (new := [(vs a3 zs1.length c4)]) (cs' := #[(vs a3 zs1.length c4)]) hI (.s .z) gn rfl rfl et et rfl size_24 rfl rfl rfl ?_
 clear hI; intro c6 w3 hI
 refine nk ?_
 refine sr ?_
 refine sq (y_makeFunc (vs := []) (cap := [(vp b2 0)]) rfl rfl ⟨et, trivial⟩) ?_
 refine sa ?_
 refine nk ?_
 refine c_ret ?_
 obtain ⟨c7, hI⟩ := hI.release .z
 obtain ⟨c8, hI⟩ := hI.relBox .z
 obtain rfl := some_inj h
 exact q_ret (vs := [(Value.func (.func 77) #[] #[(vp b2 0)])]) Try.results61 ⟨ev_tmp rfl rfl, trivial⟩ ⟨b2, a3, c4, rfl, hI.ext0, hI.fin ⟨(.s .z), .z, trivial⟩⟩
set_option maxRecDepth 100000 in
set_option maxHeartbeats 4000000 in
theorem c_box_numbers_1_s {σ : Type} (I : StI σ) (C0 F : NP) (w0 : World) (yield1 : (Int → σ → Option (Bool × σ))) (a1 : List Int) (s1 : σ) (fv1 : Value) (b1 : Nat) (a2 : Option Addr) (c1 : Nat) (hI : Bun C0 F w0 C0 w0 [MO.st I s1] [clFnS_k4 I fv1 yield1, Cl.sl (cInt .i64) a2 c1 a1, Cl.blk b1 24 #[(vs a2 a1.length c1)]]) (r : Unit × σ)
  (h : m_box_numbers_1_s yield1 a1 s1 = some r) :
  Calls Try.prog 83 #[fv1, (vp b1 0)] w0 fun e w => ∃ (C : NP), e = .returned (Value.tuple #[]) ∧ Bun C0 F w0 C w [MO.st I r.2] [] := by
 refine enterK (l := [fv1, (vp b1 0)]) Try.func83 rfl Try.ntmps83 rfl ?_
 rw [m_box_numbers_1_s] at h
 refine sr ?_
 refine sq (y_load1 (v := (vs a2 a1.length c1)) rfl et Try.underlying24 rfl (hI.kblk (l := [(vs a2 a1.length c1)]) (.s (.s .z)) rfl).1) ?_
 obtain ⟨r1, hx1, h⟩ := bnd_some h
 refine s_call gn rfl (r_callF (vs := [(vs a2 a1.length c1)]) rfl ok_18 ⟨et, trivial⟩) (Calls.mono (c_box_Count (Dj F C0) w0 hI.lt a1 a2 c1 ⟨(hI.get (.s .z)), trivial⟩ r1 hx1) ?_)
 rintro _ w1 ⟨rfl, hx2, hl1⟩
 refine ⟨_, rfl, ?_⟩
 replace hI := (hI.ext hx2)
 refine sq (y_move rfl ev_const) ?_
 refine nk ?_
 refine c_block ?_
 refine c_loop (α := Nat × Int × σ) (fun x => fun w => ∃ C, Bun C0 F w0 C w [MO.st I (x.2.2)] [clFnS_k4 I fv1 yield1] ∧ m_box_numbers_1_s_l1 r1 yield1 (x.1) (x.2.1) (x.2.2) = some r) (fun x _ => x.1) (fun x => [(0, fv1), (5, (vi r1)), (6, (vi (x.2.1)))]) (fu, 0, s1) ⟨_, hI.arr (.c .z .n) ⟨.z, trivial⟩, h⟩ ⟨rfl, rfl, rfl, trivial⟩ ?_
 clear h hI; rintro ⟨fuel1, i1, s2⟩ w2 ⟨c2, hI, h⟩
 dsimp only at hI h
 rcases fuel1 with _ | fuel1
 ·rw [m_box_numbers_1_s_l1] at h; cases h
 rw [m_box_numbers_1_s_l1] at h
 refine c_sub (e := [(0, fv1), (5, (vi r1)), (6, (vi i1))]) ⟨rfl, rfl, rfl, trivial⟩ ?_
 refine sr ?_
 refine sq (y_lss rfl et et) ?_
 refine nk ?_
 refine c_seq ?_
 refine c_cond (b := decide (i1 < r1)) et (fun hb => ?_) (fun hb => ?_)
 ·replace h := ite_t hb h
  refine c_skip ?_
  refine k_same ?_
  refine c_seq ?_
  refine c_block ?_
  refine sr ?_
  refine sm ?_
  refine sa ?_
  refine nk ?_
  refine sr ?_
  refine sm ?_
  refine sm ?_
  obtain ⟨⟨r2, s3⟩, hx3, h⟩ := bnd_some h
  try dsimp only at h
  obtain ⟨c3, f1, hB, hl2, hk1⟩ := hI.hands (.l .n)
  refine s_callV (args := [(vi i1)]) gn rfl rfl et ⟨et, trivial⟩ (CallV.mono ((hI.get .z).2 c3 f1 w2 (Sp.less hl2) i1 s2 _ (hB.subs trivial) hx3) ?_)
  rintro _ w3 ⟨c4, rfl, hB2⟩
  obtain ⟨c5, hs1, hI⟩ := hk1 _ _ _ _ hB2
  replace hI : Bun C0 F w0 c5 w3 [MO.st I s3] [clFnS_k4 I fv1 yield1] := hI
  refine ⟨_, rfl, ?_⟩
  refine sq (y_not rfl et) ?_
  refine nk ?_
  refine c_cond (b := !r2) et (fun hb => ?_) (fun hb => ?_)
  ·replace h := ite_t hb h
   refine c_ret ?_
   obtain rfl := some_inj h
   exact q_ret (vs := []) Try.results83 trivial ⟨_, rfl, hI.arr (.c .z .n) trivial⟩
  ·replace h := ite_f hb h
   refine c_skip ?_
   refine k_same ?_
   refine c_region rfl ?_
   refine sq (y_add rfl et ev_const) ?_
   refine sm ?_
   refine s_nil ?_
   exact k_loop (fuel1, wi64 (i1 + 1), s3) ⟨rfl, rfl, rfl, trivial⟩ ⟨_, hI.arr (.c .z .n) ⟨.z, trivial⟩, h⟩ (Nat.lt_succ_self _)
 ·replace h := ite_f hb h
  refine c_exit ?_
  refine k_in ?_
  obtain rfl := some_inj h
  exact q_ret (vs := []) Try.results83 trivial ⟨_, rfl, hI.arr (.c .z .n) trivial⟩
set_option maxRecDepth 100000 in
set_option maxHeartbeats 4000000 in
theorem c_box_All_1_s {σ : Type} (I : StI σ) (C0 F : NP) (w0 : World) (yield1 : ((List Int) → σ → Option (Bool × σ))) (a1 : List Int) (s1 : σ) (fv1 : Value) (b1 : Nat) (a2 : Option Addr) (c1 : Nat) (hI : Bun C0 F w0 C0 w0 [MO.st I s1] [clFnS_k3 I fv1 yield1, Cl.sl (cInt .i64) a2 c1 a1, Cl.blk b1 24 #[(vs a2 a1.length c1)]]) (r : Unit × σ)
  (h : m_box_All_1_s yield1 a1 s1 = some r) :
  Calls Try.prog 77 #[fv1, (vp b1 0)] w0 fun e w => ∃ (C : NP), e = .returned (Value.tuple #[]) ∧ Bun C0 F w0 C w [MO.st I r.2] [] := by
 refine enterK (l := [fv1, (vp b1 0)]) Try.func77 rfl Try.ntmps77 rfl ?_
 rw [m_box_All_1_s] at h
 refine sr ?_
 refine l_box (v := fv1) (cs := #[fv1]) hI gn rfl rfl et (isFn.cells (hI.get .z).1) ?_
 clear hI; intro b2 c2 w1 hI
 obtain ⟨c3, hI⟩ := hI.relBox .z
 refine nk ?_
 refine sr ?_
 refine sq (y_load1 (v := (vs a2 a1.length c1)) rfl et Try.underlying24 rfl (hI.kblk (l := [(vs a2 a1.length c1)]) (.s (.s (.s .z))) rfl).1) ?_
 obtain ⟨r1, hx1, h⟩ := bnd_some h
 refine s_call gn rfl (r_callF (vs := [(vs a2 a1.length c1)]) rfl ok_78 ⟨et, trivial⟩) (Calls.mono (c_box_numbers (Dj F c3) w1 hI.lt a1 a2 c1 ⟨(hI.get (.s (.s .z))), trivial⟩ r1 hx1) ?_)
 rintro _ w2 ⟨b3, a3, c4, rfl, hx2, hl1⟩
 refine ⟨_, rfl, ?_⟩
 replace hI := (hI.ext hx2).adds hl1
 refine nk ?_
 refine c_block ?_
 refine c_rangeFunc [Code.ret] hI et ok_83 (fun l1 q1 fn1 tm1 rc1 hrc1 c6 w4 hE1 hI => ?_)
 obtain ⟨c7, f1, hB, hl2, hk1⟩ := hI.hands (.l (.r (.l .n)))
 have hB : Bun c7 f1 w4 c7 w4 [MO.st (StI.loop l1 rc1 (fun (s : σ) (b : Unit) => [MO.st I s]) (fun (s : σ) (b : Unit) => [Cl.blk b1 24 #[(vs a2 a1.length c1)], Cl.sl (cInt .i64) a2 c1 a1, Cl.blk b2 26 #[fv1], clFnS_k3 I fv1 yield1, Cl.blk b3 24 #[(vs a3 r1.length c4)], Cl.sl (cInt .i64) a3 c4 r1])) (0, s1)] _ := Bun.mkst (b := ()) hB ⟨(.s (.s (.s (.s (.s .z))))), (.s (.s (.s (.s .z)))), (.s (.s .z)), (.s (.s (.s .z))), (.s .z), .z, trivial⟩
 have hY1 : fnS_k4 (StI.loop l1 rc1 (fun (s : σ) (b : Unit) => [MO.st I s]) (fun (s : σ) (b : Unit) => [Cl.blk b1 24 #[(vs a2 a1.length c1)], Cl.sl (cInt .i64) a2 c1 a1, Cl.blk b2 26 #[fv1], clFnS_k3 I fv1 yield1, Cl.blk b3 24 #[(vs a3 r1.length c4)], Cl.sl (cInt .i64) a3 c4 r1])) (Value.func (.yield l1) #[] #[]) (fun k_0 q => if q.1 = 0 then m_box_All_1_s_b1 a1 yield1 k_0 q.2 else none) (Dj f1 c7) w4 := by
  refine ⟨rfl, fun C0 F w0 _ => ?_⟩
  rintro y1 ⟨o_, s2⟩ r hB h
  replace h : o_ = 0 ∧ m_box_All_1_s_b1 a1 yield1 y1 s2 = some r := chk_some h
  have ho_ := h.1; subst ho_; replace h := h.2
  rw [m_box_All_1_s_b1] at h
  obtain ⟨_, hI⟩ := Bun.unst hB
  subst hrc1
  replace hI : Bun C0 F w0 C0 w0 [MO.loop l1 (lrec fn1 tm1 _ _ _ q1 [Code.ret] 0), MO.st I s2] [Cl.blk b1 24 #[(vs a2 a1.length c1)], Cl.sl (cInt .i64) a2 c1 a1, Cl.blk b2 26 #[fv1], clFnS_k3 I fv1 yield1, Cl.blk b3 24 #[(vs a3 r1.length c4)], Cl.sl (cInt .i64) a3 c4 r1] := hI
  clear hB
  refine callV_yield hI rfl (has_round1 (hE1 ⟨19, []⟩ rfl rfl)) ?_
  refine c_region rfl ?_
  refine sa ?_
  refine s_nil ?_
  refine k_begin hI .z (fun c8 w5 hI => ?_)
  refine c_block ?_
  refine sr ?_
  refine sq (y_load1 (v := (vs a2 a1.length c1)) rfl et Try.underlying24 rfl (hI.kblk (l := [(vs a2 a1.length c1)]) .z rfl).1) ?_
  refine sm ?_
  obtain ⟨r2, hx3, h⟩ := bnd_some h
  refine s_call gn rfl (r_callF (vs := [(vs a2 a1.length c1), (vi y1)]) rfl ok_79 ⟨et, ⟨et, trivial⟩⟩) (Calls.mono (c_box_Point (Dj F c8) w5 hI.lt a1 y1 a2 c1 ⟨(hI.get (.s .z)), trivial⟩ r2 hx3) ?_)
  rintro _ w6 ⟨a4, c9, rfl, hx4, hl3⟩
  refine ⟨_, rfl, ?_⟩
  replace hI := (hI.ext hx4).adds hl3
  refine sm ?_
  refine sq (y_extract rfl et rfl) ?_
  refine sq (y_extract rfl et rfl) ?_
  refine sa ?_
  refine sa ?_
  refine nk ?_
  refine sr ?_
  refine sq (y_load1 (v := fv1) rfl et Try.underlying26 rfl (hI.kblk (l := [fv1]) (.s (.s (.s .z))) rfl).1) ?_
  refine sm ?_
  obtain ⟨⟨r3, s3⟩, hx5, h⟩ := bnd_some h
  try dsimp only at h
  obtain ⟨c10, f2, hB, hl4, hk2⟩ := hI.hands (.r (.l .n))
  refine s_callV (args := [(vs a4 r2.1.length c9)]) gn rfl rfl et ⟨et, trivial⟩ (CallV.mono ((hI.get (.s (.s (.s (.s .z))))).2 c10 f2 w6 (Sp.less hl4) r2.1 a4 c9 s2 _ (hB.subs ⟨.z, trivial⟩) hx5) ?_)
  rintro _ w7 ⟨c11, rfl, hB2⟩
  obtain ⟨c12, hs1, hI⟩ := hk2 _ _ _ _ hB2
  replace hI : Bun C0 F w0 c12 w7 [MO.st I s3, MO.loop l1 (LR .busy none fn1 tm1 _ _ _ q1)] [Cl.sl (cInt .i64) a4 c9 r2.1, Cl.blk b1 24 #[(vs a2 a1.length c1)], Cl.sl (cInt .i64) a2 c1 a1, Cl.blk b2 26 #[fv1], clFnS_k3 I fv1 yield1, Cl.blk b3 24 #[(vs a3 r1.length c4)], Cl.sl (cInt .i64) a3 c4 r1] := hI
  refine ⟨_, rfl, ?_⟩
  refine sq (y_not rfl et) ?_
  refine nk ?_
  refine c_cond (b := !r3) et (fun hb => ?_) (fun hb => ?_)
  ·replace h := ite_t hb h
   refine c_ret ?_
   obtain rfl := some_inj h
   exact fun _ _ => k_round (js := [Code.ret]) (oS := (fun (s : σ) (b : Unit) => [MO.st I s])) (cS := (fun (s : σ) (b : Unit) => [Cl.blk b1 24 #[(vs a2 a1.length c1)], Cl.sl (cInt .i64) a2 c1 a1, Cl.blk b2 26 #[fv1], clFnS_k3 I fv1 yield1, Cl.blk b3 24 #[(vs a3 r1.length c4)], Cl.sl (cInt .i64) a3 c4 r1])) (out := 1) (s := s3) (b := ()) (hI.arr (.c (.s .z) (.c .z .n)) ⟨(.s .z), (.s (.s .z)), (.s (.s (.s .z))), (.s (.s (.s (.s .z)))), (.s (.s (.s (.s (.s .z))))), (.s (.s (.s (.s (.s (.s .z)))))), trivial⟩) rfl (fun C w hB => ⟨C, rfl, hB⟩)
  ·replace h := ite_f hb h
   refine c_skip ?_
   obtain rfl := some_inj h
   exact fun _ _ => k_round (js := [Code.ret]) (oS := (fun (s : σ) (b : Unit) => [MO.st I s])) (cS := (fun (s : σ) (b : Unit) => [Cl.blk b1 24 #[(vs a2 a1.length c1)], Cl.sl (cInt .i64) a2 c1 a1, Cl.blk b2 26 #[fv1], clFnS_k3 I fv1 yield1, Cl.blk b3 24 #[(vs a3 r1.length c4)], Cl.sl (cInt .i64) a3 c4 r1])) (out := 0) (s := s3) (b := ()) (hI.arr (.c (.s .z) (.c .z .n)) ⟨(.s .z), (.s (.s .z)), (.s (.s (.s .z))), (.s (.s (.s (.s .z)))), (.s (.s (.s (.s (.s .z))))), (.s (.s (.s (.s (.s (.s .z)))))), trivial⟩) rfl (fun C w hB => ⟨C, rfl, hB⟩)
 obtain ⟨⟨u1, o1, s4⟩, hx6, h⟩ := bnd_some h
 try dsimp only at h
 refine Calls.mono (c_box_numbers_1_s (StI.loop l1 rc1 (fun (s : σ) (b : Unit) => [MO.st I s]) (fun (s : σ) (b : Unit) => [Cl.blk b1 24 #[(vs a2 a1.length c1)], Cl.sl (cInt .i64) a2 c1 a1, Cl.blk b2 26 #[fv1], clFnS_k3 I fv1 yield1, Cl.blk b3 24 #[(vs a3 r1.length c4)], Cl.sl (cInt .i64) a3 c4 r1])) c7 f1 w4 (fun k_0 q => if q.1 = 0 then m_box_All_1_s_b1 a1 yield1 k_0 q.2 else none) r1 (0, s1) (Value.func (.yield l1) #[] #[]) b3 a3 c4 ((hB.add (c := clFnS_k4 (StI.loop l1 rc1 (fun (s : σ) (b : Unit) => [MO.st I s]) (fun (s : σ) (b : Unit) => [Cl.blk b1 24 #[(vs a2 a1.length c1)], Cl.sl (cInt .i64) a2 c1 a1, Cl.blk b2 26 #[fv1], clFnS_k3 I fv1 yield1, Cl.blk b3 24 #[(vs a3 r1.length c4)], Cl.sl (cInt .i64) a3 c4 r1])) (Value.func (.yield l1) #[] #[]) (fun k_0 q => if q.1 = 0 then m_box_All_1_s_b1 a1 yield1 k_0 q.2 else none)) hY1).subs ⟨.z, (.s .z), (.s (.s .z)), trivial⟩) _ hx6) ?_
 rintro _ w9 ⟨c14, rfl, hB2⟩
 obtain ⟨_, hB2⟩ := Bun.unst hB2
 subst hrc1
 obtain ⟨c15, hs2, hI⟩ := hk1 _ _ _ _ hB2
 replace hI : Bun C0 F w0 c15 w9 [MO.loop l1 (lrec fn1 tm1 _ _ _ q1 [Code.ret] o1), MO.st I s4, MO.dfr q1] [Cl.blk b1 24 #[(vs a2 a1.length c1)], Cl.sl (cInt .i64) a2 c1 a1, Cl.blk b2 26 #[fv1], clFnS_k3 I fv1 yield1, Cl.blk b3 24 #[(vs a3 r1.length c4)], Cl.sl (cInt .i64) a3 c4 r1, Cl.sl (cInt .i64) a3 c4 r1, Cl.blk b3 24 #[(vs a3 r1.length c4)], Cl.blk b2 26 #[fv1], clFnS_k3 I fv1 yield1, Cl.sl (cInt .i64) a2 c1 a1, Cl.blk b1 24 #[(vs a2 a1.length c1)]] := hI
 refine ⟨_, rfl, k_endLoop hI .z (fun c16 w10 hI => ?_)⟩
 by_cases hz1 : o1 = 0
 ·subst hz1; rw [if_pos rfl] at h
  obtain ⟨w11, hs3, c17, hI⟩ : ∃ w2, Shuts Try.prog [q1] w10 w2 ∧ ∃ C, Bun C0 F w0 C w2 [MO.obj l1 _, MO.st I s4, MO.obj q1 (.deferred none)] [Cl.blk b1 24 #[(vs a2 a1.length c1)], Cl.sl (cInt .i64) a2 c1 a1, Cl.blk b2 26 #[fv1], clFnS_k3 I fv1 yield1, Cl.blk b3 24 #[(vs a3 r1.length c4)], Cl.sl (cInt .i64) a3 c4 r1, Cl.sl (cInt .i64) a3 c4 r1, Cl.blk b3 24 #[(vs a3 r1.length c4)], Cl.blk b2 26 #[fv1], clFnS_k3 I fv1 yield1, Cl.sl (cInt .i64) a2 c1 a1, Cl.blk b1 24 #[(vs a2 a1.length c1)]] := hI.shut (.s (.s .z)) fun C w hI => shut_nil ⟨_, hI⟩
  obtain rfl := some_inj h
  exact q_retS (vs := []) hs3 Try.results77 trivial ⟨_, rfl, hI.arr (.c (.s .z) .n) trivial⟩
 ·rw [if_neg hz1] at h
  by_cases hz2 : o1 = 1
  ·subst hz2; rw [if_pos rfl] at h
   refine c_ret ?_
   obtain ⟨w12, hs4, c18, hI⟩ : ∃ w2, Shuts Try.prog [q1] w10 w2 ∧ ∃ C, Bun C0 F w0 C w2 [MO.obj l1 _, MO.st I s4, MO.obj q1 (.deferred none)] [Cl.blk b1 24 #[(vs a2 a1.length c1)], Cl.sl (cInt .i64) a2 c1 a1, Cl.blk b2 26 #[fv1], clFnS_k3 I fv1 yield1, Cl.blk b3 24 #[(vs a3 r1.length c4)], Cl.sl (cInt .i64) a3 c4 r1, Cl.sl (cInt .i64) a3 c4 r1, Cl.blk b3 24 #[(vs a3 r1.length c4)], Cl.blk b2 26 #[fv1], clFnS_k3 I fv1 yield1, Cl.sl (cInt .i64) a2 c1 a1, Cl.blk b1 24 #[(vs a2 a1.length c1)]] := hI.shut (.s (.s .z)) fun C w hI => shut_nil ⟨_, hI⟩
   obtain rfl := some_inj h
   exact q_retS (vs := []) hs4 Try.results77 trivial ⟨_, rfl, hI.arr (.c (.s .z) .n) trivial⟩
  ·rw [if_neg hz2] at h
   cases h
def tr_affine_all_1_w_1_1 : Tr := (.c (6, .s) (.c (7, .s) .n))
def tr_affine_all_1_w_1_0 : Tr := (.c (5, .s) tr_affine_all_1_w_1_1)
set_option maxRecDepth 100000 in
set_option maxHeartbeats 4000000 in
theorem c_affine_all_1_w (C0 F : NP) (w0 : World) (p1 : List Int) (to1 : List Int) (a3 : List Gaffine_pair) (a1 : Option Addr) (c1 : Nat) (a2 : Option Addr) (c2 : Nat) (b1 : Nat) (a4 : Option Addr) (c3 : Nat) (hI : Bun C0 F w0 C0 w0 [MO.box b1 64 #[(vs a4 a3.length c3)], MO.row cGaffine_pair 69 a4 c3 a3] [Cl.sl (cInt .i64) a1 c1 p1, Cl.sl (cInt .i64) a2 c2 to1]) (r : Bool × List Gaffine_pair)
  (h : m_affine_all_1_w p1 to1 a3 = some r) :
  Calls Try.prog 55 #[(vs a1 p1.length c1), (vs a2 to1.length c2), (vp b1 0)] w0 fun e w => ∃ (a5 : Option Addr) (c4 : Nat) (C : NP), e = .returned (vb r.1) ∧ Bun C0 F w0 C w [MO.box b1 64 #[(vs a5 r.2.length c4)], MO.row cGaffine_pair 69 a5 c4 r.2] [] := by
 refine enterK (l := [(vs a1 p1.length c1), (vs a2 to1.length c2), (vp b1 0)]) Try.func55 rfl Try.ntmps55 rfl ?_
 rw [m_affine_all_1_w] at h
 refine sr ?_
 refine sac ?_
 refine nk ?_
 refine c_seq ?_
 obtain ⟨r1, hx1, h⟩ := bnd_some h
 obtain ⟨zs1, hx2, h⟩ := bnd_some h
 refine c_drawX [2, 6, 7] false (.c (1, .q) (.c (3, .q) (.two 0 (.c (2, .s) (.c (4, .q) tr_affine_all_1_w_1_0)) 2 (.c (4, .q) (.two 0 tr_affine_all_1_w_1_0 5 (.c (0, .s) tr_affine_all_1_w_1_1)))))) hI (by kernel_rfl) (by kernel_rfl) ?_
 clear hI; intro w7 hI
 refine a_join (α := (Option Addr) × Nat × Nat × NP) (T := tr_affine_all_1_w_1_1) (fun x => [(0, (vs a1 p1.length c1)), (1, (vs a2 to1.length c2)), (2, (vp b1 0)), (5, (vb false)), (6, (vs a4 a3.length c3)), (7, (vs a1 p1.length c1)), (8, (vs (x.1) r1.length (x.2.1))), (9, (vs a2 to1.length c2)), (10, (Value.agg #[(vs (x.1) r1.length (x.2.1)), (vs a2 to1.length c2)])), (11, (vs (some ⟨(x.2.2.1), 0, none⟩) ([(⟨r1, to1⟩ : Gaffine_pair)] : List Gaffine_pair).length 1))]) (fun x w => Bun C0 F w0 (x.2.2.2) w [MO.row cGaffine_pair 69 (some ⟨(x.2.2.1), 0, none⟩) 1 ([(⟨r1, to1⟩ : Gaffine_pair)] : List Gaffine_pair), MO.box b1 64 #[(vs a4 a3.length c3)], MO.row cGaffine_pair 69 a4 c3 a3] [Cl.sl (cInt .i64) (x.1) (x.2.1) r1, Cl.sl (cInt .i64) a1 c1 p1, Cl.sl (cInt .i64) a2 c2 to1]) (fun x w => SN [] (DM true F (x.2.2.2)) w) ?_ ?_
 ·clear hI; rintro ⟨a6, c6, b2, c15⟩ w6 hI
  try dsimp only at hI ⊢
  unfold tr_affine_all_1_w_1_1
  refine la_append (xs := a3) (ys := ([(⟨r1, to1⟩ : Gaffine_pair)] : List Gaffine_pair)) hI (.s (.s .z)) (hI.rd .z) hx2 rfl gn rfl rfl Try.underlying64 info_69 rfl rfl et et ?_
  clear hI; intro a7 c11 c12 w3 hI
  refine la_store (new := [(vs a7 zs1.length c11)]) (cs' := #[(vs a7 zs1.length c11)]) hI (.s .z) rfl gn rfl rfl et et rfl size_64 rfl rfl rfl ?_
  clear hI; intro c13 w4 hI
  refine a_nil ?_
  refine k_same ?_
  refine sr ?_
  refine sac ?_
  refine nk ?_
  refine c_ret ?_
  obtain rfl := some_inj h
  exact q_ret (vs := [(vb true)]) Try.results55 ⟨ev_tmp rfl rfl, trivial⟩ ⟨a7, c11, _, rfl, hI.arr (.c (.s .z) (.c (.s .z) .n)) trivial⟩
 intro hk_tr_affine_all_1_w_1_1
 refine a_join (α := (Option Addr) × Nat × NP) (T := tr_affine_all_1_w_1_0) (fun x => [(0, (vs a1 p1.length c1)), (1, (vs a2 to1.length c2)), (2, (vp b1 0)), (5, (vb false)), (6, (vs a4 a3.length c3)), (7, (vs a1 p1.length c1)), (8, (vs (x.1) r1.length (x.2.1))), (9, (vs a2 to1.length c2)), (10, (Value.agg #[(vs (x.1) r1.length (x.2.1)), (vs a2 to1.length c2)]))]) (fun x w => Bun C0 F w0 (x.2.2) w [MO.row (cInt .i64) 3 (x.1) (x.2.1) r1, MO.box b1 64 #[(vs a4 a3.length c3)], MO.row cGaffine_pair 69 a4 c3 a3] [Cl.sl (cInt .i64) a1 c1 p1, Cl.sl (cInt .i64) a2 c2 to1]) (fun x w => SN [] (DM true F (x.2.2)) w) ?_ ?_
 ·clear hI; rintro ⟨a6, c6, c14⟩ w5 hI
  try dsimp only at hI ⊢
  unfold tr_affine_all_1_w_1_0
  obtain ⟨c9, hJ⟩ := hI.restart.release .z
  obtain ⟨hs2, hI⟩ := hI.back hJ
  clear hJ
  refine a_down hs2 ?_
  refine la_lit (c := cGaffine_pair) (xs := ([(⟨r1, to1⟩ : Gaffine_pair)] : List Gaffine_pair)) (vs := [(0, (Value.agg #[(vs a6 r1.length c6), (vs a2 to1.length c2)]))]) (cs := #[(vs a6 r1.length c6), (vs a2 to1.length c2)]) (css := [[(vs a6 r1.length c6), (vs a2 to1.length c2)]]) hI rfl gn rfl rfl Try.underlying64 info_69 rfl ⟨rfl, et, trivial⟩ (by kernel_rfl) ⟨⟨a6, c6, a2, c2, rfl, hI.get .z, hI.get (.s (.s .z))⟩, trivial⟩ rfl rfl rfl ?_
  clear hI; intro b2 c10 w2 hI
  exact a_sub (hk_tr_affine_all_1_w_1_1 (a6, c6, b2, c10) _ (hI.arr (.c .z (.c .z (.c .z .n))) ⟨.z, (.s .z), (.s (.s .z)), trivial⟩)) ⟨rfl, rfl, rfl, rfl, rfl, rfl, rfl, rfl, rfl, rfl, trivial⟩
 intro hk_tr_affine_all_1_w_1_0
 refine a_q rfl gn rfl (fun w' => (y_move rfl et)) ?_
 refine a_q rfl gn rfl (fun w' => (y_move rfl et)) ?_
 refine a_two ?_ ?_
 ·skip
  refine a_val rfl gn rfl (y_load1 (v := (vs a4 a3.length c3)) rfl et Try.underlying64 rfl (CellsAt.of_blk (hI.blk .z) rfl)) SX.self ?_
  refine a_turn (F := F) (C := C0) rfl rfl ?_
  obtain ⟨c5, f1, hB, hl1, hk1⟩ := hI.hands (.r (.r .n))
  refine la_callX rfl gn rfl (r_callF (vs := [(vs a1 p1.length c1)]) rfl ok_56 ⟨et, trivial⟩) (Calls.mono (c_slices_Clone_int_int_o c5 f1 w7 p1 a1 c1 (hB.subs ⟨.z, trivial⟩) _ hx1) ?_)
  rintro _ w1 ⟨a6, c6, c7, rfl, hB2⟩
  obtain ⟨c8, hs1, hI⟩ := hk1 _ _ _ _ hB2
  replace hI : Bun C0 F w0 c8 w1 [MO.row (cInt .i64) 3 a6 c6 r1, MO.box b1 64 #[(vs a4 a3.length c3)], MO.row cGaffine_pair 69 a4 c3 a3] [Cl.sl (cInt .i64) a1 c1 p1, Cl.sl (cInt .i64) a2 c2 to1] := hI
  refine ⟨_, rfl, DM true F c8, hs1, ?_⟩
  refine a_q rfl gn rfl (fun w' => (y_build (vs := [(0, (vs a6 r1.length c6)), (1, (vs a2 to1.length c2))]) (cs := #[(vs a6 r1.length c6), (vs a2 to1.length c2)]) rfl ⟨rfl, et, ⟨rfl, et, trivial⟩⟩ (by kernel_rfl))) ?_
  exact a_sub (hk_tr_affine_all_1_w_1_0 (a6, c6, c8) _ (hI.arr (.c .z (.c .z (.c .z .n))) ⟨.z, (.s .z), trivial⟩)) ⟨rfl, rfl, rfl, rfl, rfl, rfl, rfl, rfl, rfl, trivial⟩
 ·skip
  refine a_turnT (F := F) (C := C0) rfl rfl ?_
  obtain ⟨c5, f1, hB, hl1, hk1⟩ := hI.hands (.r (.r .n))
  refine la_callX rfl gn rfl (r_callF (vs := [(vs a1 p1.length c1)]) rfl ok_56 ⟨et, trivial⟩) (Calls.mono (c_slices_Clone_int_int_o c5 f1 w7 p1 a1 c1 (hB.subs ⟨.z, trivial⟩) _ hx1) ?_)
  rintro _ w1 ⟨a6, c6, c7, rfl, hB2⟩
  obtain ⟨c8, hs1, hI⟩ := hk1 _ _ _ _ hB2
  replace hI : Bun C0 F w0 c8 w1 [MO.row (cInt .i64) 3 a6 c6 r1, MO.box b1 64 #[(vs a4 a3.length c3)], MO.row cGaffine_pair 69 a4 c3 a3] [Cl.sl (cInt .i64) a1 c1 p1, Cl.sl (cInt .i64) a2 c2 to1] := hI
  refine ⟨_, rfl, DM true F c8, hs1, ?_⟩
  refine a_q rfl gn rfl (fun w' => (y_build (vs := [(0, (vs a6 r1.length c6)), (1, (vs a2 to1.length c2))]) (cs := #[(vs a6 r1.length c6), (vs a2 to1.length c2)]) rfl ⟨rfl, et, ⟨rfl, et, trivial⟩⟩ (by kernel_rfl))) ?_
  refine a_two ?_ ?_
  ·skip
   refine a_val rfl gn rfl (y_load1 (v := (vs a4 a3.length c3)) rfl et Try.underlying64 rfl (CellsAt.of_blk (hI.blk (.s .z)) rfl)) SX.self ?_
   exact a_sub (hk_tr_affine_all_1_w_1_0 (a6, c6, c8) _ (hI.arr (.c .z (.c .z (.c .z .n))) ⟨.z, (.s .z), trivial⟩)) ⟨rfl, rfl, rfl, rfl, rfl, rfl, rfl, rfl, rfl, trivial⟩
  ·skip
   obtain ⟨c9, hJ⟩ := hI.restart.release .z
   obtain ⟨hs2, hI⟩ := hI.back hJ
   clear hJ
   refine a_down hs2 ?_
   refine la_lit (c := cGaffine_pair) (xs := ([(⟨r1, to1⟩ : Gaffine_pair)] : List Gaffine_pair)) (vs := [(0, (Value.agg #[(vs a6 r1.length c6), (vs a2 to1.length c2)]))]) (cs := #[(vs a6 r1.length c6), (vs a2 to1.length c2)]) (css := [[(vs a6 r1.length c6), (vs a2 to1.length c2)]]) hI rfl gn rfl rfl Try.underlying64 info_69 rfl ⟨rfl, et, trivial⟩ (by kernel_rfl) ⟨⟨a6, c6, a2, c2, rfl, hI.get .z, hI.get (.s (.s .z))⟩, trivial⟩ rfl rfl rfl ?_
   clear hI; intro b2 c10 w2 hI
   refine a_val rfl gn rfl (y_load1 (v := (vs a4 a3.length c3)) rfl et Try.underlying64 rfl (CellsAt.of_blk (hI.blk (.s .z)) rfl)) SX.self ?_
   exact a_sub (hk_tr_affine_all_1_w_1_1 (a6, c6, b2, c10) _ (hI.arr (.c .z (.c .z (.c .z .n))) ⟨.z, (.s .z), (.s (.s .z)), trivial⟩)) ⟨rfl, rfl, rfl, rfl, rfl, rfl, rfl, rfl, rfl, rfl, trivial⟩
set_option maxRecDepth 100000 in
set_option maxHeartbeats 4000000 in
theorem c_affine_visit_s {σ : Type} (I : StI σ) (C0 F : NP) (w0 : World) (m1 : List GLin) (names1 : List (List UInt8)) (ext1 : List Int) (f1 : ((List Int) → (List Int) → σ → Option (Bool × σ))) (s1 : σ) (a1 : Option Addr) (c1 : Nat) (a2 : Option Addr) (c2 : Nat) (a3 : Option Addr) (c3 : Nat) (fv1 : Value) (hI : Bun C0 F w0 C0 w0 [MO.st I s1] [Cl.sl cGLin a1 c1 m1, Cl.sl cStr a2 c2 names1, Cl.sl (cInt .i64) a3 c3 ext1, clFnS_k2 I fv1 f1]) (r : Int × σ)
  (h : m_affine_visit_s m1 names1 ext1 f1 s1 = some r) :
  Calls Try.prog 39 #[(vs a1 m1.length c1), (vs a2 names1.length c2), (vs a3 ext1.length c3), fv1] w0 fun e w => ∃ (C : NP), e = .returned (vi r.1) ∧ Bun C0 F w0 C w [MO.st I r.2] [] := by
 refine enterK (l := [(vs a1 m1.length c1), (vs a2 names1.length c2), (vs a3 ext1.length c3), fv1]) Try.func39 rfl Try.ntmps39 rfl ?_
 rw [m_affine_visit_s] at h
 refine sr ?_
 refine l_box (v := (vs a1 m1.length c1)) (cs := #[(vs a1 m1.length c1)]) hI gn rfl rfl et rfl ?_
 clear hI; intro b1 c4 w1 hI
 obtain ⟨c5, hI⟩ := hI.relBox .z
 refine l_box (v := (vs a2 names1.length c2)) (cs := #[(vs a2 names1.length c2)]) hI gn rfl rfl et rfl ?_
 clear hI; intro b2 c6 w2 hI
 obtain ⟨c7, hI⟩ := hI.relBox .z
 refine l_box (v := fv1) (cs := #[fv1]) hI gn rfl rfl et (isFn.cells (hI.get (.s (.s (.s (.s (.s .z)))))).1) ?_
 clear hI; intro b3 c8 w3 hI
 obtain ⟨c9, hI⟩ := hI.relBox .z
 refine l_alloc (cs := #[(vi 0)]) hI gn rfl rfl zero_29 rfl ?_
 clear hI; intro b4 c10 w4 hI
 refine nk ?_
 refine c_seq ?_
 refine sr ?_
 refine sm ?_
 obtain ⟨r1, hx1, h⟩ := bnd_some h
 refine s_call gn rfl (r_callF (vs := [(vs a3 ext1.length c3)]) rfl ok_61 ⟨et, trivial⟩) (Calls.mono (c_box_All (Dj F c10) w4 hI.lt ext1 a3 c3 ⟨(hI.get (.s (.s (.s (.s (.s .z)))))), trivial⟩ r1 hx1) ?_)
 rintro _ w5 ⟨b5, a4, c11, rfl, hx2, hl1⟩
 refine ⟨_, rfl, ?_⟩
 replace hI := (hI.ext hx2).adds hl1
 refine nk ?_
 refine c_block ?_
 refine c_rangeFunc [Code.ret, Code.exit 0] hI et ok_77 (fun l1 q1 fn1 tm1 rc1 hrc1 c13 w7 hE1 hI => ?_)
 obtain ⟨c14, f2, hB, hl2, hk1⟩ := hI.hands (.l (.r (.l (.l .n))))
 replace hB := hB.ord (.c .z (.c (.s .z) (.c .z .n)))
 have hB : Bun c14 f2 w7 c14 w7 [MO.st (StI.loop l1 rc1 (fun (s : Int × σ) (b : Unit) => [MO.st I (s.2), MO.box b4 29 #[(vi (s.1))]]) (fun (s : Int × σ) (b : Unit) => [Cl.blk b1 22 #[(vs a1 m1.length c1)], Cl.sl cGLin a1 c1 m1, Cl.blk b2 23 #[(vs a2 names1.length c2)], Cl.sl cStr a2 c2 names1, Cl.blk b3 71 #[fv1], clFnS_k2 I fv1 f1, Cl.blk b5 24 #[(vs a4 r1.length c11)], Cl.sl (cInt .i64) a4 c11 r1])) (0, (0, s1))] _ := Bun.mkst (b := ()) hB ⟨(.s (.s (.s (.s .z)))), (.s (.s (.s (.s (.s .z))))), (.s (.s (.s .z))), (.s (.s (.s (.s (.s (.s .z)))))), (.s (.s .z)), (.s (.s (.s (.s (.s (.s (.s (.s .z)))))))), (.s .z), .z, trivial⟩
 have hY1 : fnS_k3 (StI.loop l1 rc1 (fun (s : Int × σ) (b : Unit) => [MO.st I (s.2), MO.box b4 29 #[(vi (s.1))]]) (fun (s : Int × σ) (b : Unit) => [Cl.blk b1 22 #[(vs a1 m1.length c1)], Cl.sl cGLin a1 c1 m1, Cl.blk b2 23 #[(vs a2 names1.length c2)], Cl.sl cStr a2 c2 names1, Cl.blk b3 71 #[fv1], clFnS_k2 I fv1 f1, Cl.blk b5 24 #[(vs a4 r1.length c11)], Cl.sl (cInt .i64) a4 c11 r1])) (Value.func (.yield l1) #[] #[]) (fun k_0 q => if q.1 = 0 then m_affine_visit_s_b1 m1 names1 f1 k_0 q.2.1 q.2.2 else none) (Dj f2 c14) w7 := by
  refine ⟨rfl, fun C0 F w0 _ => ?_⟩
  rintro y1 a5 c15 ⟨o_, ⟨v1, s2⟩⟩ r hB h
  replace h : o_ = 0 ∧ m_affine_visit_s_b1 m1 names1 f1 y1 v1 s2 = some r := chk_some h
  have ho_ := h.1; subst ho_; replace h := h.2
  rw [m_affine_visit_s_b1] at h
  obtain ⟨_, hI⟩ := Bun.unst hB
  subst hrc1
  replace hI : Bun C0 F w0 C0 w0 [MO.loop l1 (lrec fn1 tm1 _ _ _ q1 [Code.ret, Code.exit 0] 0), MO.st I s2, MO.box b4 29 #[(vi v1)]] [Cl.blk b1 22 #[(vs a1 m1.length c1)], Cl.sl cGLin a1 c1 m1, Cl.blk b2 23 #[(vs a2 names1.length c2)], Cl.sl cStr a2 c2 names1, Cl.blk b3 71 #[fv1], clFnS_k2 I fv1 f1, Cl.blk b5 24 #[(vs a4 r1.length c11)], Cl.sl (cInt .i64) a4 c11 r1, Cl.sl (cInt .i64) a5 c15 y1] := hI
  clear hB
  refine callV_yield hI rfl (has_round1 (hE1 ⟨30, []⟩ rfl rfl)) ?_
  refine c_region rfl ?_
  refine sa ?_
  refine s_nil ?_
  refine k_begin hI .z (fun c16 w8 hI => ?_)
  refine c_block ?_
  refine sr ?_
  refine sq (y_load1 (v := (vs a1 m1.length c1)) rfl et Try.underlying22 rfl (hI.kblk (l := [(vs a1 m1.length c1)]) .z rfl).1) ?_
  refine sq (y_load1 (v := (vs a2 names1.length c2)) rfl et Try.underlying23 rfl (hI.kblk (l := [(vs a2 names1.length c2)]) (.s (.s .z)) rfl).1) ?_
  refine sm ?_
  obtain ⟨r2, hx3, h⟩ := bnd_some h
  refine s_call gn rfl (r_callF (vs := [(vs a1 m1.length c1), (vs a2 names1.length c2), (vs a5 y1.length c15)]) rfl ok_25 ⟨et, ⟨et, ⟨et, trivial⟩⟩⟩) (Calls.mono (c_affine_image (Dj F c16) w8 hI.lt m1 names1 y1 a1 c1 a2 c2 a5 c15 ⟨(hI.get (.s .z)), (hI.get (.s (.s (.s .z)))), (hI.get (.s (.s (.s (.s (.s (.s (.s (.s .z))))))))), trivial⟩ r2 hx3) ?_)
  rintro _ w9 ⟨a6, c17, rfl, hx4, hl3⟩
  refine ⟨_, rfl, ?_⟩
  replace hI := (hI.ext hx4).adds hl3
  refine sm ?_
  refine sq (y_extract rfl et rfl) ?_
  refine sq (y_extract rfl et rfl) ?_
  refine sa ?_
  refine sa ?_
  refine nk ?_
  refine c_seq ?_
  refine sr ?_
  refine sm ?_
  refine sq (y_neq rfl et ev_const) ?_
  refine nk ?_
  refine c_cond (b := !decide (r2.2 = 0)) et (fun hb => ?_) (fun hb => ?_)
  ·replace h := ite_t hb h
   refine sr ?_
   refine sm ?_
   refine l_store (new := [(vi r2.2)]) (cs' := #[(vi r2.2)]) hI (.s (.s .z)) gn rfl rfl et et rfl size_29 rfl rfl rfl ?_
   clear hI; intro c18 w10 hI
   refine nk ?_
   refine c_ret ?_
   obtain rfl := some_inj h
   exact fun _ _ => k_round (js := [Code.ret, Code.exit 0]) (oS := (fun (s : Int × σ) (b : Unit) => [MO.st I (s.2), MO.box b4 29 #[(vi (s.1))]])) (cS := (fun (s : Int × σ) (b : Unit) => [Cl.blk b1 22 #[(vs a1 m1.length c1)], Cl.sl cGLin a1 c1 m1, Cl.blk b2 23 #[(vs a2 names1.length c2)], Cl.sl cStr a2 c2 names1, Cl.blk b3 71 #[fv1], clFnS_k2 I fv1 f1, Cl.blk b5 24 #[(vs a4 r1.length c11)], Cl.sl (cInt .i64) a4 c11 r1])) (out := 1) (s := (r2.2, s2)) (b := ()) (hI.arr (.c .z (.c .z (.c .z .n))) ⟨(.s .z), (.s (.s .z)), (.s (.s (.s .z))), (.s (.s (.s (.s .z)))), (.s (.s (.s (.s (.s .z))))), (.s (.s (.s (.s (.s (.s .z)))))), (.s (.s (.s (.s (.s (.s (.s .z))))))), (.s (.s (.s (.s (.s (.s (.s (.s .z)))))))), trivial⟩) rfl (fun C w hB => ⟨C, rfl, hB⟩)
  ·replace h := ite_f hb h
   refine c_skip ?_
   refine k_same ?_
   refine sr ?_
   refine sq (y_load1 (v := fv1) rfl et Try.underlying71 rfl (hI.kblk (l := [fv1]) (.s (.s (.s (.s (.s .z))))) rfl).1) ?_
   refine sm ?_
   refine sm ?_
   obtain ⟨⟨r3, s3⟩, hx5, h⟩ := bnd_some h
   try dsimp only at h
   obtain ⟨c19, f3, hB, hl4, hk2⟩ := hI.hands (.r (.l (.r .n)))
   refine s_callV (args := [(vs a5 y1.length c15), (vs a6 r2.1.length c17)]) gn rfl rfl et ⟨et, ⟨et, trivial⟩⟩ (CallV.mono ((hI.get (.s (.s (.s (.s (.s (.s .z))))))).2 c19 f3 w9 (Sp.less hl4) y1 r2.1 a5 c15 a6 c17 s2 _ (hB.subs ⟨(.s (.s (.s (.s (.s (.s (.s (.s (.s .z))))))))), .z, trivial⟩) hx5) ?_)
   rintro _ w11 ⟨c20, rfl, hB2⟩
   obtain ⟨c21, hs1, hI⟩ := hk2 _ _ _ _ hB2
   replace hI : Bun C0 F w0 c21 w11 [MO.st I s3, MO.loop l1 (LR .busy none fn1 tm1 _ _ _ q1), MO.box b4 29 #[(vi v1)]] [Cl.sl (cInt .i64) a6 c17 r2.1, Cl.blk b1 22 #[(vs a1 m1.length c1)], Cl.sl cGLin a1 c1 m1, Cl.blk b2 23 #[(vs a2 names1.length c2)], Cl.sl cStr a2 c2 names1, Cl.blk b3 71 #[fv1], clFnS_k2 I fv1 f1, Cl.blk b5 24 #[(vs a4 r1.length c11)], Cl.sl (cInt .i64) a4 c11 r1, Cl.sl (cInt .i64) a5 c15 y1] := hI
   refine ⟨_, rfl, ?_⟩
   refine sq (y_not rfl et) ?_
   refine nk ?_
   refine c_cond (b := !r3) et (fun hb => ?_) (fun hb => ?_)
   ·replace h := ite_t hb h
    refine c_exit ?_
    refine k_out rfl ?_
    obtain rfl := some_inj h
    exact fun _ _ => k_round (js := [Code.ret, Code.exit 0]) (oS := (fun (s : Int × σ) (b : Unit) => [MO.st I (s.2), MO.box b4 29 #[(vi (s.1))]])) (cS := (fun (s : Int × σ) (b : Unit) => [Cl.blk b1 22 #[(vs a1 m1.length c1)], Cl.sl cGLin a1 c1 m1, Cl.blk b2 23 #[(vs a2 names1.length c2)], Cl.sl cStr a2 c2 names1, Cl.blk b3 71 #[fv1], clFnS_k2 I fv1 f1, Cl.blk b5 24 #[(vs a4 r1.length c11)], Cl.sl (cInt .i64) a4 c11 r1])) (out := 2) (s := (v1, s3)) (b := ()) (hI.arr (.c (.s .z) (.c .z (.c .z .n))) ⟨(.s .z), (.s (.s .z)), (.s (.s (.s .z))), (.s (.s (.s (.s .z)))), (.s (.s (.s (.s (.s .z))))), (.s (.s (.s (.s (.s (.s .z)))))), (.s (.s (.s (.s (.s (.s (.s .z))))))), (.s (.s (.s (.s (.s (.s (.s (.s .z)))))))), trivial⟩) rfl (fun C w hB => ⟨C, rfl, hB⟩)
   ·replace h := ite_f hb h
    refine c_skip ?_
    obtain rfl := some_inj h
    exact fun _ _ => k_round (js := [Code.ret, Code.exit 0]) (oS := (fun (s : Int × σ) (b : Unit) => [MO.st I (s.2), MO.box b4 29 #[(vi (s.1))]])) (cS := (fun (s : Int × σ) (b : Unit) => [Cl.blk b1 22 #[(vs a1 m1.length c1)], Cl.sl cGLin a1 c1 m1, Cl.blk b2 23 #[(vs a2 names1.length c2)], Cl.sl cStr a2 c2 names1, Cl.blk b3 71 #[fv1], clFnS_k2 I fv1 f1, Cl.blk b5 24 #[(vs a4 r1.length c11)], Cl.sl (cInt .i64) a4 c11 r1])) (out := 0) (s := (v1, s3)) (b := ()) (hI.arr (.c (.s .z) (.c .z (.c .z .n))) ⟨(.s .z), (.s (.s .z)), (.s (.s (.s .z))), (.s (.s (.s (.s .z)))), (.s (.s (.s (.s (.s .z))))), (.s (.s (.s (.s (.s (.s .z)))))), (.s (.s (.s (.s (.s (.s (.s .z))))))), (.s (.s (.s (.s (.s (.s (.s (.s .z)))))))), trivial⟩) rfl (fun C w hB => ⟨C, rfl, hB⟩)
 obtain ⟨⟨u1, o1, v2, s4⟩, hx6, h⟩ := bnd_some h
 try dsimp only at h
 refine Calls.mono (c_box_All_1_s (StI.loop l1 rc1 (fun (s : Int × σ) (b : Unit) => [MO.st I (s.2), MO.box b4 29 #[(vi (s.1))]]) (fun (s : Int × σ) (b : Unit) => [Cl.blk b1 22 #[(vs a1 m1.length c1)], Cl.sl cGLin a1 c1 m1, Cl.blk b2 23 #[(vs a2 names1.length c2)], Cl.sl cStr a2 c2 names1, Cl.blk b3 71 #[fv1], clFnS_k2 I fv1 f1, Cl.blk b5 24 #[(vs a4 r1.length c11)], Cl.sl (cInt .i64) a4 c11 r1])) c14 f2 w7 (fun k_0 q => if q.1 = 0 then m_affine_visit_s_b1 m1 names1 f1 k_0 q.2.1 q.2.2 else none) r1 (0, (0, s1)) (Value.func (.yield l1) #[] #[]) b5 a4 c11 ((hB.add (c := clFnS_k3 (StI.loop l1 rc1 (fun (s : Int × σ) (b : Unit) => [MO.st I (s.2), MO.box b4 29 #[(vi (s.1))]]) (fun (s : Int × σ) (b : Unit) => [Cl.blk b1 22 #[(vs a1 m1.length c1)], Cl.sl cGLin a1 c1 m1, Cl.blk b2 23 #[(vs a2 names1.length c2)], Cl.sl cStr a2 c2 names1, Cl.blk b3 71 #[fv1], clFnS_k2 I fv1 f1, Cl.blk b5 24 #[(vs a4 r1.length c11)], Cl.sl (cInt .i64) a4 c11 r1])) (Value.func (.yield l1) #[] #[]) (fun k_0 q => if q.1 = 0 then m_affine_visit_s_b1 m1 names1 f1 k_0 q.2.1 q.2.2 else none)) hY1).subs ⟨.z, (.s .z), (.s (.s .z)), trivial⟩) _ hx6) ?_
 rintro _ w13 ⟨c23, rfl, hB2⟩
 obtain ⟨_, hB2⟩ := Bun.unst hB2
 subst hrc1
 obtain ⟨c24, hs2, hI⟩ := hk1 _ _ _ _ hB2
 replace hI : Bun C0 F w0 c24 w13 [MO.loop l1 (lrec fn1 tm1 _ _ _ q1 [Code.ret, Code.exit 0] o1), MO.st I s4, MO.box b4 29 #[(vi v2)], MO.dfr q1] [Cl.blk b1 22 #[(vs a1 m1.length c1)], Cl.sl cGLin a1 c1 m1, Cl.blk b2 23 #[(vs a2 names1.length c2)], Cl.sl cStr a2 c2 names1, Cl.blk b3 71 #[fv1], clFnS_k2 I fv1 f1, Cl.blk b5 24 #[(vs a4 r1.length c11)], Cl.sl (cInt .i64) a4 c11 r1, Cl.sl (cInt .i64) a4 c11 r1, Cl.blk b5 24 #[(vs a4 r1.length c11)], Cl.blk b3 71 #[fv1], Cl.blk b2 23 #[(vs a2 names1.length c2)], Cl.blk b1 22 #[(vs a1 m1.length c1)], Cl.sl cGLin a1 c1 m1, Cl.sl cStr a2 c2 names1, Cl.sl (cInt .i64) a3 c3 ext1, clFnS_k2 I fv1 f1] := hI
 refine ⟨_, rfl, k_endLoop hI .z (fun c25 w14 hI => ?_)⟩
 by_cases hz1 : o1 = 0
 ·subst hz1; rw [if_pos rfl] at h
  refine k_same ?_
  refine sr ?_
  refine l_store (new := [(vi 0)]) (cs' := #[(vi 0)]) hI (.s (.s .z)) gn rfl rfl et ev_const rfl size_29 rfl rfl rfl ?_
  clear hI; intro c26 w15 hI
  refine nk ?_
  refine c_ret ?_
  obtain ⟨w16, hs3, c27, hI⟩ : ∃ w2, Shuts Try.prog [q1] w15 w2 ∧ ∃ C, Bun C0 F w0 C w2 [MO.obj l1 _, MO.st I s4, MO.box b4 29 #[(vi 0)], MO.obj q1 (.deferred none)] [Cl.blk b1 22 #[(vs a1 m1.length c1)], Cl.sl cGLin a1 c1 m1, Cl.blk b2 23 #[(vs a2 names1.length c2)], Cl.sl cStr a2 c2 names1, Cl.blk b3 71 #[fv1], clFnS_k2 I fv1 f1, Cl.blk b5 24 #[(vs a4 r1.length c11)], Cl.sl (cInt .i64) a4 c11 r1, Cl.sl (cInt .i64) a4 c11 r1, Cl.blk b5 24 #[(vs a4 r1.length c11)], Cl.blk b3 71 #[fv1], Cl.blk b2 23 #[(vs a2 names1.length c2)], Cl.blk b1 22 #[(vs a1 m1.length c1)], Cl.sl cGLin a1 c1 m1, Cl.sl cStr a2 c2 names1, Cl.sl (cInt .i64) a3 c3 ext1, clFnS_k2 I fv1 f1] := hI.shut (.s (.s (.s .z))) fun C w hI => shut_nil ⟨_, hI⟩
  obtain rfl := some_inj h
  exact q_retS (vs := [(vi 0)]) hs3 Try.results39 ⟨⟨_, ev_tmp rfl rfl, load_one (v := (vi 0)) Try.underlying29 rfl (CellsAt.of_blk (hI.blk (.s (.s .z))) rfl)⟩, trivial⟩ ⟨_, rfl, hI.arr (.c (.s .z) .n) trivial⟩
 ·rw [if_neg hz1] at h
  by_cases hz2 : o1 = 1
  ·subst hz2; rw [if_pos rfl] at h
   refine c_ret ?_
   obtain ⟨w17, hs4, c28, hI⟩ : ∃ w2, Shuts Try.prog [q1] w14 w2 ∧ ∃ C, Bun C0 F w0 C w2 [MO.obj l1 _, MO.st I s4, MO.box b4 29 #[(vi v2)], MO.obj q1 (.deferred none)] [Cl.blk b1 22 #[(vs a1 m1.length c1)], Cl.sl cGLin a1 c1 m1, Cl.blk b2 23 #[(vs a2 names1.length c2)], Cl.sl cStr a2 c2 names1, Cl.blk b3 71 #[fv1], clFnS_k2 I fv1 f1, Cl.blk b5 24 #[(vs a4 r1.length c11)], Cl.sl (cInt .i64) a4 c11 r1, Cl.sl (cInt .i64) a4 c11 r1, Cl.blk b5 24 #[(vs a4 r1.length c11)], Cl.blk b3 71 #[fv1], Cl.blk b2 23 #[(vs a2 names1.length c2)], Cl.blk b1 22 #[(vs a1 m1.length c1)], Cl.sl cGLin a1 c1 m1, Cl.sl cStr a2 c2 names1, Cl.sl (cInt .i64) a3 c3 ext1, clFnS_k2 I fv1 f1] := hI.shut (.s (.s (.s .z))) fun C w hI => shut_nil ⟨_, hI⟩
   obtain rfl := some_inj h
   exact q_retS (vs := [(vi v2)]) hs4 Try.results39 ⟨⟨_, ev_tmp rfl rfl, load_one (v := (vi v2)) Try.underlying29 rfl (CellsAt.of_blk (hI.blk (.s (.s .z))) rfl)⟩, trivial⟩ ⟨_, rfl, hI.arr (.c (.s .z) .n) trivial⟩
  ·rw [if_neg hz2] at h
   by_cases hz3 : o1 = 2
   ·subst hz3; rw [if_pos rfl] at h
    refine c_exit ?_
    refine k_in ?_
    refine k_same ?_
    refine sr ?_
    refine l_store (new := [(vi 0)]) (cs' := #[(vi 0)]) hI (.s (.s .z)) gn rfl rfl et ev_const rfl size_29 rfl rfl rfl ?_
    clear hI; intro c29 w18 hI
    refine nk ?_
    refine c_ret ?_
    obtain ⟨w19, hs5, c30, hI⟩ : ∃ w2, Shuts Try.prog [q1] w18 w2 ∧ ∃ C, Bun C0 F w0 C w2 [MO.obj l1 _, MO.st I s4, MO.box b4 29 #[(vi 0)], MO.obj q1 (.deferred none)] [Cl.blk b1 22 #[(vs a1 m1.length c1)], Cl.sl cGLin a1 c1 m1, Cl.blk b2 23 #[(vs a2 names1.length c2)], Cl.sl cStr a2 c2 names1, Cl.blk b3 71 #[fv1], clFnS_k2 I fv1 f1, Cl.blk b5 24 #[(vs a4 r1.length c11)], Cl.sl (cInt .i64) a4 c11 r1, Cl.sl (cInt .i64) a4 c11 r1, Cl.blk b5 24 #[(vs a4 r1.length c11)], Cl.blk b3 71 #[fv1], Cl.blk b2 23 #[(vs a2 names1.length c2)], Cl.blk b1 22 #[(vs a1 m1.length c1)], Cl.sl cGLin a1 c1 m1, Cl.sl cStr a2 c2 names1, Cl.sl (cInt .i64) a3 c3 ext1, clFnS_k2 I fv1 f1] := hI.shut (.s (.s (.s .z))) fun C w hI => shut_nil ⟨_, hI⟩
    obtain rfl := some_inj h
    exact q_retS (vs := [(vi 0)]) hs5 Try.results39 ⟨⟨_, ev_tmp rfl rfl, load_one (v := (vi 0)) Try.underlying29 rfl (CellsAt.of_blk (hI.blk (.s (.s .z))) rfl)⟩, trivial⟩ ⟨_, rfl, hI.arr (.c (.s .z) .n) trivial⟩
   ·rw [if_neg hz3] at h
    cases h
set_option maxRecDepth 100000 in
set_option maxHeartbeats 4000000 in
theorem c_affine_all (F : NP) (w0 : World) (hF : ∀ k, F k → k < w0.heap.size) (m1 : List GLin) (names1 : List (List UInt8)) (ext1 : List Int) (a1 : Option Addr) (c1 : Nat) (a2 : Option Addr) (c2 : Nat) (a3 : Option Addr) (c3 : Nat) (hc : AllCl [Cl.sl cGLin a1 c1 m1, Cl.sl cStr a2 c2 names1, Cl.sl (cInt .i64) a3 c3 ext1] F w0) (r : List Gaffine_pair × Int)
  (h : m_affine_all m1 names1 ext1 = some r) :
  Calls Try.prog 35 #[(vs a1 m1.length c1), (vs a2 names1.length c2), (vs a3 ext1.length c3)] w0 fun e w => ∃ (a4 : Option Addr) (c4 : Nat), e = .returned (Value.tuple #[(vs a4 r.1.length c4), (vi r.2)]) ∧ Ext w0 w ∧ AllCl [Cl.sl cGaffine_pair a4 c4 r.1] F w := by
 refine enterK (l := [(vs a1 m1.length c1), (vs a2 names1.length c2), (vs a3 ext1.length c3)]) Try.func35 rfl Try.ntmps35 rfl ?_
 have hI := Bun.start hF hc
 clear hc
 rw [m_affine_all] at h
 refine sr ?_
 refine sac ?_
 refine sac ?_
 refine nk ?_
 refine sr ?_
 refine l_alloc (cs := #[(vs none 0 0)]) hI gn rfl rfl zero_64 rfl ?_
 clear hI; intro b1 c5 w1 hI
 refine nk ?_
 refine sr ?_
 refine sm ?_
 refine sm ?_
 refine sm ?_
 refine sq (y_makeFunc (vs := []) (cap := [(vp b1 0)]) rfl rfl ⟨et, trivial⟩) ?_
 have hI := hI.nil cGaffine_pair 69 none
 obtain ⟨c6, f1, hB, hl1, hk1⟩ := hI.hands (.l (.l .n))
 replace hB := hB.ord (.c (.s .z) (.c .z .n))
 have hB : Bun c6 f1 w1 c6 w1 [MO.st (StI.of (fun (s : (List Gaffine_pair)) (b : (Option Addr) × Nat) => [MO.box b1 64 #[(vs (b.1) s.length (b.2))], MO.row cGaffine_pair 69 (b.1) (b.2) s]) (fun (s : (List Gaffine_pair)) (b : (Option Addr) × Nat) => [])) ([] : List Gaffine_pair)] _ := Bun.mkst (b := (none, 0)) hB trivial
 have hC := hB
 have hY1 : fnS_k2 (StI.of (fun (s : (List Gaffine_pair)) (b : (Option Addr) × Nat) => [MO.box b1 64 #[(vs (b.1) s.length (b.2))], MO.row cGaffine_pair 69 (b.1) (b.2) s]) (fun (s : (List Gaffine_pair)) (b : (Option Addr) × Nat) => [])) (Value.func (.func 55) #[] #[(vp b1 0)]) (fun x_1 x_4 s => m_affine_all_1_w x_1 x_4 s) (Dj f1 c6) w1 := by
  refine ⟨rfl, fun C0 F w' hs x_1 x_4 A_2 c_3 A_5 c_6 s r hB h => ?_⟩
  obtain ⟨⟨a5, c7⟩, hB⟩ := Bun.unst hB
  refine CallV.fn (cap := [(vp b1 0)]) ok_55 (Calls.mono (c_affine_all_1_w C0 F w' x_1 x_4 s A_2 c_3 A_5 c_6 b1 a5 c7 (hB.subs ⟨.z, (.s .z), trivial⟩) r h) ?_)
  rintro _ w'' ⟨z1, z2, C', rfl, hB2⟩
  exact ⟨C', rfl, (Bun.mkst (os := (fun (s : (List Gaffine_pair)) (b : (Option Addr) × Nat) => [MO.box b1 64 #[(vs (b.1) s.length (b.2))], MO.row cGaffine_pair 69 (b.1) (b.2) s])) (cl := (fun (s : (List Gaffine_pair)) (b : (Option Addr) × Nat) => [])) (s := r.2) (b := (z1, z2)) hB2 trivial).subs trivial⟩
 obtain ⟨⟨r1, s1⟩, hx1, h⟩ := bnd_some h
 try dsimp only at h
 refine s_call gn rfl (r_callF (vs := [(vs a1 m1.length c1), (vs a2 names1.length c2), (vs a3 ext1.length c3), (Value.func (.func 55) #[] #[(vp b1 0)])]) rfl ok_39 ⟨et, ⟨et, ⟨et, ⟨et, trivial⟩⟩⟩⟩) (Calls.mono (c_affine_visit_s (StI.of (fun (s : (List Gaffine_pair)) (b : (Option Addr) × Nat) => [MO.box b1 64 #[(vs (b.1) s.length (b.2))], MO.row cGaffine_pair 69 (b.1) (b.2) s]) (fun (s : (List Gaffine_pair)) (b : (Option Addr) × Nat) => [])) c6 f1 w1 m1 names1 ext1 (fun x_1 x_4 s => m_affine_all_1_w x_1 x_4 s) ([] : List Gaffine_pair) a1 c1 a2 c2 a3 c3 (Value.func (.func 55) #[] #[(vp b1 0)]) ((hB.add (c := (clFnS_k2 (StI.of (fun (s : (List Gaffine_pair)) (b : (Option Addr) × Nat) => [MO.box b1 64 #[(vs (b.1) s.length (b.2))], MO.row cGaffine_pair 69 (b.1) (b.2) s]) (fun (s : (List Gaffine_pair)) (b : (Option Addr) × Nat) => [])) (Value.func (.func 55) #[] #[(vp b1 0)]) (fun x_1 x_4 s => m_affine_all_1_w x_1 x_4 s))) hY1).subs ⟨(.s .z), (.s (.s .z)), (.s (.s (.s .z))), .z, trivial⟩) _ hx1) ?_)
 rintro _ w2 ⟨c8, rfl, hB2⟩
 obtain ⟨⟨a6, c9⟩, hB2⟩ := Bun.unst hB2
 obtain ⟨c10, hs1, hI⟩ := hk1 _ _ _ _ hB2
 replace hI : Bun noM F w0 c10 w2 [MO.box b1 64 #[(vs a6 s1.length c9)], MO.row cGaffine_pair 69 a6 c9 s1] [Cl.sl cGLin a1 c1 m1, Cl.sl cStr a2 c2 names1, Cl.sl (cInt .i64) a3 c3 ext1] := hI
 refine ⟨_, rfl, ?_⟩
 refine sa ?_
 refine nk ?_
 refine sr ?_
 refine sq (y_load1 (v := (vs a6 s1.length c9)) rfl et Try.underlying64 rfl (CellsAt.of_blk (hI.blk .z) rfl)) ?_
 refine sm ?_
 refine sa ?_
 refine sa ?_
 refine nk ?_
 refine c_ret ?_
 obtain ⟨c11, hI⟩ := hI.release (.s .z)
 obtain rfl := some_inj h
 exact q_ret (vs := [(vs a6 s1.length c9), (vi r1)]) Try.results35 ⟨ev_tmp rfl rfl, ⟨ev_tmp rfl rfl, trivial⟩⟩ ⟨a6, c9, rfl, hI.ext0, hI.fin ⟨.z, trivial⟩⟩
set_option maxRecDepth 100000 in
set_option maxHeartbeats 4000000 in
theorem c_cmp_isNaN_int64 (F : NP) (w0 : World) (hF : ∀ k, F k → k < w0.heap.size) (x1 : Int) (hc : AllCl [] F w0) (r : Bool)
  (h : m_cmp_isNaN_int64 x1 = some r) :
  Calls Try.prog 82 #[(vi x1)] w0 fun e w => e = .returned (vb r) ∧ Ext w0 w ∧ AllCl [] F w := by
 refine enterK (l := [(vi x1)]) Try.func82 rfl Try.ntmps82 rfl ?_
 have hI := Bun.start hF hc
 clear hc
 rw [m_cmp_isNaN_int64] at h
 refine sr ?_
 refine sac ?_
 refine nk ?_
 refine sr ?_
 refine sm ?_
 refine sm ?_
 refine sq (y_neq rfl et et) ?_
 refine sa ?_
 refine nk ?_
 refine c_ret ?_
 obtain rfl := some_inj h
 exact q_ret (vs := [(vb (!decide (x1 = x1)))]) Try.results82 ⟨ev_tmp rfl rfl, trivial⟩ ⟨rfl, hI.ext0, hI.fin trivial⟩
set_option maxRecDepth 100000 in
set_option maxHeartbeats 4000000 in
theorem c_cmp_Compare_int64 (F : NP) (w0 : World) (hF : ∀ k, F k → k < w0.heap.size) (x1 : Int) (y1 : Int) (hc : AllCl [] F w0) (r : Int)
  (h : m_cmp_Compare_int64 x1 y1 = some r) :
  Calls Try.prog 76 #[(vi x1), (vi y1)] w0 fun e w => e = .returned (vi r) ∧ Ext w0 w ∧ AllCl [] F w := by
 refine enterK (l := [(vi x1), (vi y1)]) Try.func76 rfl Try.ntmps76 rfl ?_
 have hI := Bun.start hF hc
 clear hc
 rw [m_cmp_Compare_int64] at h
 refine sr ?_
 refine sac ?_
 refine nk ?_
 refine sr ?_
 refine sm ?_
 obtain ⟨r1, hx1, h⟩ := bnd_some h
 refine s_call gn rfl (r_callF (vs := [(vi x1)]) rfl ok_82 ⟨et, trivial⟩) (Calls.mono (c_cmp_isNaN_int64 (Dj F noM) w0 hI.lt x1 trivial r1 hx1) ?_)
 rintro _ w1 ⟨rfl, hx2, hl1⟩
 refine ⟨_, rfl, ?_⟩
 replace hI := (hI.ext hx2)
 refine sa ?_
 refine nk ?_
 refine sr ?_
 refine sm ?_
 obtain ⟨r2, hx3, h⟩ := bnd_some h
 refine s_call gn rfl (r_callF (vs := [(vi y1)]) rfl ok_82 ⟨et, trivial⟩) (Calls.mono (c_cmp_isNaN_int64 (Dj F noM) w1 hI.lt y1 trivial r2 hx3) ?_)
 rintro _ w2 ⟨rfl, hx4, hl2⟩
 refine ⟨_, rfl, ?_⟩
 replace hI := (hI.ext hx4)
 refine sa ?_
 refine nk ?_
 refine c_seq ?_
 refine sr ?_
 refine sm ?_
 refine nk ?_
 refine c_cond (b := r1) et (fun hb => ?_) (fun hb => ?_)
 ·replace h := ite_t hb h
  refine c_seq ?_
  refine sr ?_
  refine sm ?_
  refine nk ?_
  refine c_cond (b := r2) et (fun hb => ?_) (fun hb => ?_)
  ·replace h := ite_t hb h
   refine sr ?_
   refine sac ?_
   refine nk ?_
   refine c_ret ?_
   obtain rfl := some_inj h
   exact q_ret (vs := [(vi 0)]) Try.results76 ⟨ev_tmp rfl rfl, trivial⟩ ⟨rfl, hI.ext0, hI.fin trivial⟩
  ·replace h := ite_f hb h
   refine c_skip ?_
   refine k_same ?_
   refine sr ?_
   refine sac ?_
   refine nk ?_
   refine c_ret ?_
   obtain rfl := some_inj h
   exact q_ret (vs := [(vi (-1))]) Try.results76 ⟨ev_tmp rfl rfl, trivial⟩ ⟨rfl, hI.ext0, hI.fin trivial⟩
 ·replace h := ite_f hb h
  refine c_skip ?_
  refine k_same ?_
  refine c_seq ?_
  refine sr ?_
  refine sm ?_
  refine nk ?_
  refine c_cond (b := r2) et (fun hb => ?_) (fun hb => ?_)
  ·replace h := ite_t hb h
   refine sr ?_
   refine sac ?_
   refine nk ?_
   refine c_ret ?_
   obtain rfl := some_inj h
   exact q_ret (vs := [(vi 1)]) Try.results76 ⟨ev_tmp rfl rfl, trivial⟩ ⟨rfl, hI.ext0, hI.fin trivial⟩
  ·replace h := ite_f hb h
   refine c_skip ?_
   refine k_same ?_
   refine c_seq ?_
   refine sr ?_
   refine sm ?_
   refine sm ?_
   refine sq (y_lss rfl et et) ?_
   refine nk ?_
   refine c_cond (b := decide (x1 < y1)) et (fun hb => ?_) (fun hb => ?_)
   ·replace h := ite_t hb h
    refine sr ?_
    refine sac ?_
    refine nk ?_
    refine c_ret ?_
    obtain rfl := some_inj h
    exact q_ret (vs := [(vi (-1))]) Try.results76 ⟨ev_tmp rfl rfl, trivial⟩ ⟨rfl, hI.ext0, hI.fin trivial⟩
   ·replace h := ite_f hb h
    refine c_skip ?_
    refine k_same ?_
    refine c_seq ?_
    refine sr ?_
    refine sm ?_
    refine sm ?_
    refine sq (y_gtr rfl et et) ?_
    refine nk ?_
    refine c_cond (b := decide (y1 < x1)) et (fun hb => ?_) (fun hb => ?_)
    ·replace h := ite_t hb h
     refine sr ?_
     refine sac ?_
     refine nk ?_
     refine c_ret ?_
     obtain rfl := some_inj h
     exact q_ret (vs := [(vi 1)]) Try.results76 ⟨ev_tmp rfl rfl, trivial⟩ ⟨rfl, hI.ext0, hI.fin trivial⟩
    ·replace h := ite_f hb h
     refine c_skip ?_
     refine k_same ?_
     refine sr ?_
     refine sac ?_
     refine nk ?_
     refine c_ret ?_
     obtain rfl := some_inj h
     exact q_ret (vs := [(vi 0)]) Try.results76 ⟨ev_tmp rfl rfl, trivial⟩ ⟨rfl, hI.ext0, hI.fin trivial⟩
end Go.Proofs.Ytaokohndeepbjaa
