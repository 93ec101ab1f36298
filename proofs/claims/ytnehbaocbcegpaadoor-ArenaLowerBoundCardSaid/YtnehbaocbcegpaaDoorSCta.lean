import Derived.Test.YtnehbaocbcegpaaDoorSXc
namespace Go.Proofs.YtnehbaocbcegpaaDoor
open Go Go.RowKit Go.Vc
set_option linter.unusedVariables false
set_option linter.unusedSimpArgs false
theorem info_3 : Info Tryd.prog 3 1 8 (Value.int .i64 0) := info_mk (by kernel_rfl) rfl
theorem info_37 : Info Tryd.prog 37 4 40 (Value.agg #[(str ([] : List UInt8)), (Value.int .i64 0), (Value.int .i64 0), (Value.int .i64 0)]) := info_mk (by kernel_rfl) rfl
theorem info_39 : Info Tryd.prog 39 3 32 (Value.agg #[(str ([] : List UInt8)), (Value.int .i64 0), (Value.int .i64 0)]) := info_mk (by kernel_rfl) rfl
theorem info_9 : Info Tryd.prog 9 1 16 (str ([] : List UInt8)) := info_mk (by kernel_rfl) rfl
theorem ok_10 : FnOK Tryd.prog 10 := ⟨_, Tryd.func10, by kernel_rfl, by kernel_rfl⟩
theorem ok_14 : FnOK Tryd.prog 14 := ⟨_, Tryd.func14, by kernel_rfl, by kernel_rfl⟩
theorem ok_15 : FnOK Tryd.prog 15 := ⟨_, Tryd.func15, by kernel_rfl, by kernel_rfl⟩
theorem ok_16 : FnOK Tryd.prog 16 := ⟨_, Tryd.func16, by kernel_rfl, by kernel_rfl⟩
theorem ok_17 : FnOK Tryd.prog 17 := ⟨_, Tryd.func17, by kernel_rfl, by kernel_rfl⟩
theorem ok_19 : FnOK Tryd.prog 19 := ⟨_, Tryd.func19, by kernel_rfl, by kernel_rfl⟩
theorem ok_20 : FnOK Tryd.prog 20 := ⟨_, Tryd.func20, by kernel_rfl, by kernel_rfl⟩
theorem ok_21 : FnOK Tryd.prog 21 := ⟨_, Tryd.func21, by kernel_rfl, by kernel_rfl⟩
theorem ok_22 : FnOK Tryd.prog 22 := ⟨_, Tryd.func22, by kernel_rfl, by kernel_rfl⟩
theorem ok_23 : FnOK Tryd.prog 23 := ⟨_, Tryd.func23, by kernel_rfl, by kernel_rfl⟩
theorem ok_26 : FnOK Tryd.prog 26 := ⟨_, Tryd.func26, by kernel_rfl, by kernel_rfl⟩
theorem ok_27 : FnOK Tryd.prog 27 := ⟨_, Tryd.func27, by kernel_rfl, by kernel_rfl⟩
theorem ok_28 : FnOK Tryd.prog 28 := ⟨_, Tryd.func28, by kernel_rfl, by kernel_rfl⟩
theorem ok_29 : FnOK Tryd.prog 29 := ⟨_, Tryd.func29, by kernel_rfl, by kernel_rfl⟩
theorem ok_31 : FnOK Tryd.prog 31 := ⟨_, Tryd.func31, by kernel_rfl, by kernel_rfl⟩
theorem ok_32 : FnOK Tryd.prog 32 := ⟨_, Tryd.func32, by kernel_rfl, by kernel_rfl⟩
theorem ok_33 : FnOK Tryd.prog 33 := ⟨_, Tryd.func33, by kernel_rfl, by kernel_rfl⟩
theorem ok_34 : FnOK Tryd.prog 34 := ⟨_, Tryd.func34, by kernel_rfl, by kernel_rfl⟩
theorem ok_37 : FnOK Tryd.prog 37 := ⟨_, Tryd.func37, by kernel_rfl, by kernel_rfl⟩
theorem ok_38 : FnOK Tryd.prog 38 := ⟨_, Tryd.func38, by kernel_rfl, by kernel_rfl⟩
theorem ok_39 : FnOK Tryd.prog 39 := ⟨_, Tryd.func39, by kernel_rfl, by kernel_rfl⟩
theorem ok_40 : FnOK Tryd.prog 40 := ⟨_, Tryd.func40, by kernel_rfl, by kernel_rfl⟩
theorem ok_41 : FnOK Tryd.prog 41 := ⟨_, Tryd.func41, by kernel_rfl, by kernel_rfl⟩
theorem ok_42 : FnOK Tryd.prog 42 := ⟨_, Tryd.func42, by kernel_rfl, by kernel_rfl⟩
theorem ok_43 : FnOK Tryd.prog 43 := ⟨_, Tryd.func43, by kernel_rfl, by kernel_rfl⟩
theorem ok_44 : FnOK Tryd.prog 44 := ⟨_, Tryd.func44, by kernel_rfl, by kernel_rfl⟩
theorem ok_45 : FnOK Tryd.prog 45 := ⟨_, Tryd.func45, by kernel_rfl, by kernel_rfl⟩
theorem ok_46 : FnOK Tryd.prog 46 := ⟨_, Tryd.func46, by kernel_rfl, by kernel_rfl⟩
theorem ok_47 : FnOK Tryd.prog 47 := ⟨_, Tryd.func47, by kernel_rfl, by kernel_rfl⟩
theorem ok_48 : FnOK Tryd.prog 48 := ⟨_, Tryd.func48, by kernel_rfl, by kernel_rfl⟩
theorem ok_49 : FnOK Tryd.prog 49 := ⟨_, Tryd.func49, by kernel_rfl, by kernel_rfl⟩
theorem ok_50 : FnOK Tryd.prog 50 := ⟨_, Tryd.func50, by kernel_rfl, by kernel_rfl⟩
theorem ok_51 : FnOK Tryd.prog 51 := ⟨_, Tryd.func51, by kernel_rfl, by kernel_rfl⟩
theorem ok_52 : FnOK Tryd.prog 52 := ⟨_, Tryd.func52, by kernel_rfl, by kernel_rfl⟩
theorem ok_53 : FnOK Tryd.prog 53 := ⟨_, Tryd.func53, by kernel_rfl, by kernel_rfl⟩
theorem ok_54 : FnOK Tryd.prog 54 := ⟨_, Tryd.func54, by kernel_rfl, by kernel_rfl⟩
theorem ok_55 : FnOK Tryd.prog 55 := ⟨_, Tryd.func55, by kernel_rfl, by kernel_rfl⟩
theorem ok_56 : FnOK Tryd.prog 56 := ⟨_, Tryd.func56, by kernel_rfl, by kernel_rfl⟩
theorem ok_59 : FnOK Tryd.prog 59 := ⟨_, Tryd.func59, by kernel_rfl, by kernel_rfl⟩
theorem ok_60 : FnOK Tryd.prog 60 := ⟨_, Tryd.func60, by kernel_rfl, by kernel_rfl⟩
theorem ok_61 : FnOK Tryd.prog 61 := ⟨_, Tryd.func61, by kernel_rfl, by kernel_rfl⟩
theorem ok_63 : FnOK Tryd.prog 63 := ⟨_, Tryd.func63, by kernel_rfl, by kernel_rfl⟩
theorem ok_66 : FnOK Tryd.prog 66 := ⟨_, Tryd.func66, by kernel_rfl, by kernel_rfl⟩
theorem ok_8 : FnOK Tryd.prog 8 := ⟨_, Tryd.func8, by kernel_rfl, by kernel_rfl⟩
theorem ok_9 : FnOK Tryd.prog 9 := ⟨_, Tryd.func9, by kernel_rfl, by kernel_rfl⟩
theorem size_3 : (Tryd.prog.info? 3).map (·.size) = some 1 := by kernel_rfl
theorem size_37 : (Tryd.prog.info? 37).map (·.size) = some 4 := by kernel_rfl
theorem size_39 : (Tryd.prog.info? 39).map (·.size) = some 3 := by kernel_rfl
theorem size_51 : (Tryd.prog.info? 51).map (·.size) = some 1 := by kernel_rfl
theorem size_9 : (Tryd.prog.info? 9).map (·.size) = some 1 := by kernel_rfl
theorem zero_3 : (Tryd.prog.info? 3).bind (·.zero) = some (Value.int .i64 0) := by kernel_rfl
theorem zero_37 : (Tryd.prog.info? 37).bind (·.zero) = some (Value.agg #[(str ([] : List UInt8)), (Value.int .i64 0), (Value.int .i64 0), (Value.int .i64 0)]) := by kernel_rfl
theorem zero_39 : (Tryd.prog.info? 39).bind (·.zero) = some (Value.agg #[(str ([] : List UInt8)), (Value.int .i64 0), (Value.int .i64 0)]) := by kernel_rfl
theorem zero_4 : (Tryd.prog.info? 4).bind (·.zero) = some (Value.bool false) := by kernel_rfl
theorem zero_51 : (Tryd.prog.info? 51).bind (·.zero) = some Value.nilFunc := by kernel_rfl
set_option maxRecDepth 100000 in
set_option maxHeartbeats 4000000 in
theorem c_law42_few (F : NP) (w0 : World) (hF : ∀ k, F k → k < w0.heap.size) (l1 : List GLifetime) (most1 : Int) (a1 : Option Addr) (c1 : Nat) (hc : AllCl [Cl.sl cGLifetime a1 c1 l1] F w0) (r : Bool)
  (h : m_law42_few l1 most1 = some r) :
  Calls Tryd.prog 8 #[(vs a1 l1.length c1), (vi most1)] w0 fun e w => e = .returned (vb r) ∧ Ext w0 w ∧ AllCl [] F w := by
 refine enterK (l := [(vs a1 l1.length c1), (vi most1)]) Tryd.func8 rfl Tryd.ntmps8 rfl ?_
 have hI := Bun.start hF hc
 clear hc
 rw [m_law42_few] at h
 refine sr ?_
 refine sac ?_
 refine nk ?_
 refine c_seq ?_
 refine sr ?_
 refine sm ?_
 refine sq (y_lenl rfl Tryd.underlying22 et) ?_
 refine sm ?_
 refine sq (y_gtr rfl et et) ?_
 refine nk ?_
 refine c_cond (b := decide (most1 < (l1.length : Int))) et (fun hb => ?_) (fun hb => ?_)
 ·replace h := ite_t hb h
  refine sr ?_
  refine sac ?_
  refine nk ?_
  refine c_ret ?_
  obtain rfl := some_inj h
  exact q_ret (vs := [(vb false)]) Tryd.results8 ⟨ev_tmp rfl rfl, trivial⟩ ⟨rfl, hI.ext0, hI.fin trivial⟩
 ·replace h := ite_f hb h
  refine c_skip ?_
  refine k_same ?_
  refine c_seq ?_
  refine sr ?_
  refine sac ?_
  refine nk ?_
  refine c_block ?_
  refine c_loop (α := Nat × Int) (fun x => fun w => ∃ C, Bun noM F w0 C w [] [Cl.sl cGLifetime a1 c1 l1] ∧ m_law42_few_l1 l1 (x.1) (x.2) = some r) (fun x _ => x.1) (fun x => [(0, (vs a1 l1.length c1)), (5, (vi (x.2)))]) (fu, 0) ⟨_, hI.arr .n ⟨.z, trivial⟩, h⟩ ⟨rfl, rfl, trivial⟩ ?_
  clear h hI; rintro ⟨fuel1, i1⟩ w1 ⟨c2, hI, h⟩
  dsimp only at hI h
  rcases fuel1 with _ | fuel1
  ·rw [m_law42_few_l1] at h; cases h
  rw [m_law42_few_l1] at h
  refine c_sub (e := [(0, (vs a1 l1.length c1)), (5, (vi i1))]) ⟨rfl, rfl, trivial⟩ ?_
  refine c_seq ?_
  refine sr ?_
  refine sm ?_
  refine sm ?_
  refine sq (y_lenl rfl Tryd.underlying22 et) ?_
  refine sq (y_lss rfl et et) ?_
  refine nk ?_
  refine c_cond (b := decide (i1 < (l1.length : Int))) et (fun hb => ?_) (fun hb => ?_)
  ·replace h := ite_t hb h
   refine c_skip ?_
   refine k_same ?_
   refine c_seq ?_
   refine c_block ?_
   refine sr ?_
   refine sm ?_
   refine sm ?_
   obtain ⟨e1, hx1, h⟩ := bnd_some h
   obtain ⟨ad1, cs1, hA1, hr1, hq1⟩ := hI.clat .z hx1
   obtain rfl : cs1 = [(str e1.Name), (vi e1.From), (vi e1.To), (vi e1.Size)] := hr1
   refine sq (y_indexAddr rfl Tryd.underlying22 size_37 et et (lat_bd hx1) hA1) ?_
   refine sq (y_fieldAddr rfl et Tryd.underlying37 rfl size_9 rfl) ?_
   refine sq (y_load1 (v := (str e1.Name)) rfl et Tryd.underlying9 rfl (CA.part hq1 rfl).1) ?_
   refine sq (y_lens rfl Tryd.underlying9 et) ?_
   refine sq (y_gtr rfl et ev_const) ?_
   refine nk ?_
   refine c_cond (b := decide (100 < (e1.Name.length : Int))) et (fun hb => ?_) (fun hb => ?_)
   ·replace h := ite_t hb h
    refine sr ?_
    refine sac ?_
    refine nk ?_
    refine c_ret ?_
    obtain rfl := some_inj h
    exact q_ret (vs := [(vb false)]) Tryd.results8 ⟨ev_tmp rfl rfl, trivial⟩ ⟨rfl, hI.ext0, hI.fin trivial⟩
   ·replace h := ite_f hb h
    refine c_skip ?_
    refine k_same ?_
    refine c_region rfl ?_
    refine sm ?_
    refine sq (y_add rfl et ev_const) ?_
    refine sa ?_
    refine s_nil ?_
    exact k_loop (fuel1, wi64 (i1 + 1)) ⟨rfl, rfl, trivial⟩ ⟨_, hI.arr .n ⟨.z, trivial⟩, h⟩ (Nat.lt_succ_self _)
  ·replace h := ite_f hb h
   refine c_exit ?_
   refine k_in ?_
   refine k_same ?_
   refine sr ?_
   refine sac ?_
   refine nk ?_
   refine c_ret ?_
   obtain rfl := some_inj h
   exact q_ret (vs := [(vb true)]) Tryd.results8 ⟨ev_tmp rfl rfl, trivial⟩ ⟨rfl, hI.ext0, hI.fin trivial⟩
set_option maxRecDepth 100000 in
set_option maxHeartbeats 4000000 in
theorem c_lexer_letter (F : NP) (w0 : World) (hF : ∀ k, F k → k < w0.heap.size) (r1 : Int) (hc : AllCl [] F w0) (r : Bool)
  (h : m_lexer_letter r1 = some r) :
  Calls Tryd.prog 38 #[(Value.int .i32 r1)] w0 fun e w => e = .returned (vb r) ∧ Ext w0 w ∧ AllCl [] F w := by
 refine enterK (l := [(Value.int .i32 r1)]) Tryd.func38 rfl Tryd.ntmps38 rfl ?_
 have hI := Bun.start hF hc
 clear hc
 rw [m_lexer_letter] at h
 refine sr ?_
 refine sac ?_
 refine nk ?_
 refine sr ?_
 refine sm ?_
 refine sq (y_geq rfl et ev_const) ?_
 refine sm ?_
 refine s_gval (g_true rfl rfl rfl rfl) rfl (fun hc => (y_move rfl et)) ?_
 refine s_gval (g_true rfl rfl rfl rfl) rfl (fun hc => (y_leq rfl (ev_gv et hc) ev_const)) ?_
 refine sq (y_and rfl et et) ?_
 refine sa ?_
 refine nk ?_
 refine c_ret ?_
 obtain rfl := some_inj h
 exact q_ret (vs := [(vb ((decide (97 ≤ r1)) && (decide (r1 ≤ 122))))]) Tryd.results38 ⟨ev_tmp rfl rfl, trivial⟩ ⟨rfl, hI.ext0, hI.fin trivial⟩
set_option maxRecDepth 100000 in
set_option maxHeartbeats 4000000 in
theorem c_lexer_span (F : NP) (w0 : World) (hF : ∀ k, F k → k < w0.heap.size) (s1 : List UInt8) (ok1 : (Int → Option Bool)) (fv1 : Value) (hc : AllCl [clFn_k1 fv1 ok1] F w0) (r : Int)
  (h : m_lexer_span s1 ok1 = some r) :
  Calls Tryd.prog 39 #[(str s1), fv1] w0 fun e w => e = .returned (vi r) ∧ Ext w0 w ∧ AllCl [] F w := by
 refine enterK (l := [(str s1), fv1]) Tryd.func39 rfl Tryd.ntmps39 rfl ?_
 have hI := Bun.start hF hc
 clear hc
 rw [m_lexer_span] at h
 refine sr ?_
 refine sac ?_
 refine nk ?_
 refine sr ?_
 refine sac ?_
 refine nk ?_
 refine c_seq ?_
 refine c_block ?_
 refine c_loop (α := Nat × Int) (fun x => fun w => ∃ C, Bun noM F w0 C w [] [clFn_k1 fv1 ok1] ∧ m_lexer_span_l1 s1 ok1 (x.1) (x.2) = some r) (fun x _ => x.1) (fun x => [(0, (str s1)), (1, fv1), (5, (vi (x.2)))]) (fu, 0) ⟨_, hI.arr .n ⟨.z, trivial⟩, h⟩ ⟨rfl, rfl, rfl, trivial⟩ ?_
 clear h hI; rintro ⟨fuel1, n1⟩ w1 ⟨c1, hI, h⟩
 dsimp only at hI h
 rcases fuel1 with _ | fuel1
 ·rw [m_lexer_span_l1] at h; cases h
 rw [m_lexer_span_l1] at h
 refine c_sub (e := [(0, (str s1)), (1, fv1), (5, (vi n1))]) ⟨rfl, rfl, rfl, trivial⟩ ?_
 refine c_seq ?_
 refine sr ?_
 refine sm ?_
 refine sm ?_
 refine sq (y_lens rfl Tryd.underlying9 et) ?_
 refine sq (y_lss rfl et et) ?_
 refine sm ?_
 refine s_gval (g_true rfl rfl rfl rfl) rfl (fun hc => (y_move rfl et)) ?_
 refine s_gval (g_true rfl rfl rfl rfl) rfl (fun hc => (y_move rfl et)) ?_
 refine s_gval (g_true rfl rfl rfl rfl) rfl (fun hc => (y_move rfl et)) ?_
 obtain ⟨b1, hx1, h⟩ := bnd_some h
 replace hx1 := gd_some hx1
 refine s_gval (g_true rfl rfl rfl rfl) rfl (fun hc => (y_satl rfl Tryd.underlying9 (ev_gv et hc) (ev_gv et hc) (hx1 hc))) ?_
 refine s_gval (g_true rfl rfl rfl rfl) rfl (fun hc => (y_conv rfl (by rw [Tryd.underlying5]; rfl) Tryd.underlying21 (ev_gv et hc))) ?_
 obtain ⟨r1, hx2, h⟩ := bnd_some h
 replace hx2 := gd_some hx2
 refine s_gcallV (u := (vb r1)) (args := [(Value.int .i32 (wi32 b1))]) (g_true rfl rfl rfl rfl) rfl rfl (fun hc => (ev_gv et hc)) (fun hc => ⟨(ev_gv et hc), trivial⟩) (fun hc => CallV.mono ((hI.get .z).2 (Dj F c1) w1 (Sp.of_ext .rfl') hI.lt (wi32 b1) r1 trivial (hx2 hc)) fun _ _ k => ⟨k.1, k.2.1⟩) ?_
 intro w2 hx3; replace hI := hI.ext hx3
 refine sq (y_and rfl et et) ?_
 refine nk ?_
 refine c_cond (b := (decide (n1 < (s1.length : Int))) && r1) et (fun hb => ?_) (fun hb => ?_)
 ·replace h := ite_t hb h
  refine c_skip ?_
  refine k_same ?_
  refine c_block ?_
  refine c_region rfl ?_
  refine sm ?_
  refine sq (y_add rfl et ev_const) ?_
  refine sa ?_
  refine s_nil ?_
  exact k_loop (fuel1, wi64 (n1 + 1)) ⟨rfl, rfl, rfl, trivial⟩ ⟨_, hI.arr .n ⟨.z, trivial⟩, h⟩ (Nat.lt_succ_self _)
 ·replace h := ite_f hb h
  refine c_exit ?_
  refine k_in ?_
  refine k_same ?_
  refine sr ?_
  refine sm ?_
  refine sa ?_
  refine nk ?_
  refine c_ret ?_
  obtain rfl := some_inj h
  exact q_ret (vs := [(vi n1)]) Tryd.results39 ⟨ev_tmp rfl rfl, trivial⟩ ⟨rfl, hI.ext0, hI.fin trivial⟩
set_option maxRecDepth 100000 in
set_option maxHeartbeats 4000000 in
theorem c_lexer_digit (F : NP) (w0 : World) (hF : ∀ k, F k → k < w0.heap.size) (r1 : Int) (hc : AllCl [] F w0) (r : Bool)
  (h : m_lexer_digit r1 = some r) :
  Calls Tryd.prog 47 #[(Value.int .i32 r1)] w0 fun e w => e = .returned (vb r) ∧ Ext w0 w ∧ AllCl [] F w := by
 refine enterK (l := [(Value.int .i32 r1)]) Tryd.func47 rfl Tryd.ntmps47 rfl ?_
 have hI := Bun.start hF hc
 clear hc
 rw [m_lexer_digit] at h
 refine sr ?_
 refine sac ?_
 refine nk ?_
 refine sr ?_
 refine sm ?_
 refine sq (y_geq rfl et ev_const) ?_
 refine sm ?_
 refine s_gval (g_true rfl rfl rfl rfl) rfl (fun hc => (y_move rfl et)) ?_
 refine s_gval (g_true rfl rfl rfl rfl) rfl (fun hc => (y_leq rfl (ev_gv et hc) ev_const)) ?_
 refine sq (y_and rfl et et) ?_
 refine sa ?_
 refine nk ?_
 refine c_ret ?_
 obtain rfl := some_inj h
 exact q_ret (vs := [(vb ((decide (48 ≤ r1)) && (decide (r1 ≤ 57))))]) Tryd.results47 ⟨ev_tmp rfl rfl, trivial⟩ ⟨rfl, hI.ext0, hI.fin trivial⟩
set_option maxRecDepth 100000 in
set_option maxHeartbeats 4000000 in
theorem c_lexer_inWord (F : NP) (w0 : World) (hF : ∀ k, F k → k < w0.heap.size) (r1 : Int) (hc : AllCl [] F w0) (r : Bool)
  (h : m_lexer_inWord r1 = some r) :
  Calls Tryd.prog 40 #[(Value.int .i32 r1)] w0 fun e w => e = .returned (vb r) ∧ Ext w0 w ∧ AllCl [] F w := by
 refine enterK (l := [(Value.int .i32 r1)]) Tryd.func40 rfl Tryd.ntmps40 rfl ?_
 have hI := Bun.start hF hc
 clear hc
 rw [m_lexer_inWord] at h
 refine sr ?_
 refine sac ?_
 refine nk ?_
 refine sr ?_
 refine sm ?_
 obtain ⟨r2, hx1, h⟩ := bnd_some h
 refine s_call gn rfl (r_callF (vs := [(Value.int .i32 r1)]) rfl ok_38 ⟨et, trivial⟩) (Calls.mono (c_lexer_letter (Dj F noM) w0 hI.lt r1 trivial r2 hx1) ?_)
 rintro _ w1 ⟨rfl, hx2, hl1⟩
 refine ⟨_, rfl, ?_⟩
 replace hI := (hI.ext hx2)
 refine sm ?_
 refine s_gval (g_false rfl rfl rfl rfl) rfl (fun hc => (y_move rfl et)) ?_
 obtain ⟨r3, hx3, h⟩ := bnd_some h
 replace hx3 := gd_some hx3
 refine s_gcallU (v := (vb r3)) (g_false rfl rfl rfl rfl) rfl (fun hc => (r_callF (vs := [(Value.int .i32 r1)]) rfl ok_47 ⟨(ev_gv et hc), trivial⟩)) (fun hc => (c_lexer_digit (Dj F noM) w1 hI.lt r1 trivial r3 (hx3 hc)).mono fun _ _ k => ⟨k.1, k.2.1⟩) ?_
 intro w2 hx4; replace hI := hI.ext hx4
 refine sq (y_or rfl et et) ?_
 refine sm ?_
 refine s_gval (g_false rfl rfl rfl rfl) rfl (fun hc => (y_move rfl et)) ?_
 refine s_gval (g_false rfl rfl rfl rfl) rfl (fun hc => (y_eql rfl (ev_gv et hc) ev_const)) ?_
 refine sq (y_or rfl et et) ?_
 refine sa ?_
 refine nk ?_
 refine c_ret ?_
 obtain rfl := some_inj h
 exact q_ret (vs := [(vb ((r2 || r3) || (decide (r1 = 95))))]) Tryd.results40 ⟨ev_tmp rfl rfl, trivial⟩ ⟨rfl, hI.ext0, hI.fin trivial⟩
set_option maxRecDepth 100000 in
set_option maxHeartbeats 4000000 in
theorem c_lexer_keywords (F : NP) (w0 : World) (hF : ∀ k, F k → k < w0.heap.size) (hc : AllCl [clSpace] F w0) (r : List (List UInt8))
  (h : m_lexer_keywords = some r) :
  Calls Tryd.prog 49 #[] w0 fun e w => ∃ (a1 : Option Addr) (c1 : Nat), e = .returned (vs a1 r.length c1) ∧ Ext w0 w ∧ AllCl [Cl.sl cStr a1 c1 r] F w := by
 refine enterK (l := []) Tryd.func49 rfl Tryd.ntmps49 rfl ?_
 have hI := Bun.start hF hc
 clear hc
 rw [m_lexer_keywords] at h
 refine sr ?_
 refine sac ?_
 refine nk ?_
 refine sr ?_
 obtain ⟨r1, hx1, h⟩ := bnd_some h
 refine s_call gn rfl (r_callF (vs := [(str ([115, 105, 122, 101, 32, 119, 104, 101, 114, 101, 32, 105, 110, 32, 100, 101, 102, 32, 111, 117, 116, 32, 115, 117, 109, 32, 112, 114, 111, 100, 32, 109, 105, 110, 32, 109, 97, 120, 32, 115, 99, 97, 110, 32, 111, 118, 101, 114, 32, 105, 102, 32, 99, 97, 115, 116, 32, 102, 114, 97, 99, 32, 105, 110, 116, 32, 102, 105, 120, 32, 99, 101, 105, 108, 32, 102, 108, 111, 111, 114, 32, 122, 101, 114, 111, 32, 101, 118, 101, 110, 32, 115, 97, 116, 32, 119, 114, 97, 112] : List UInt8))]) rfl ok_54 ⟨ev_const, trivial⟩) (Calls.mono (c_strings_Fields (Dj F noM) w0 hI.lt ([115, 105, 122, 101, 32, 119, 104, 101, 114, 101, 32, 105, 110, 32, 100, 101, 102, 32, 111, 117, 116, 32, 115, 117, 109, 32, 112, 114, 111, 100, 32, 109, 105, 110, 32, 109, 97, 120, 32, 115, 99, 97, 110, 32, 111, 118, 101, 114, 32, 105, 102, 32, 99, 97, 115, 116, 32, 102, 114, 97, 99, 32, 105, 110, 116, 32, 102, 105, 120, 32, 99, 101, 105, 108, 32, 102, 108, 111, 111, 114, 32, 122, 101, 114, 111, 32, 101, 118, 101, 110, 32, 115, 97, 116, 32, 119, 114, 97, 112] : List UInt8) ⟨(hI.get .z), trivial⟩ r1 hx1) ?_)
 rintro _ w1 ⟨a2, c2, rfl, hx2, hl1⟩
 refine ⟨_, rfl, ?_⟩
 replace hI := (hI.ext hx2).adds hl1
 refine sa ?_
 refine nk ?_
 refine c_ret ?_
 obtain rfl := some_inj h
 exact q_ret (vs := [(vs a2 r1.length c2)]) Tryd.results49 ⟨ev_tmp rfl rfl, trivial⟩ ⟨a2, c2, rfl, hI.ext0, hI.fin ⟨.z, trivial⟩⟩
set_option maxRecDepth 100000 in
set_option maxHeartbeats 4000000 in
theorem c_slices_Index_string_string (F : NP) (w0 : World) (hF : ∀ k, F k → k < w0.heap.size) (s1 : List (List UInt8)) (v1 : List UInt8) (a1 : Option Addr) (c1 : Nat) (hc : AllCl [Cl.sl cStr a1 c1 s1] F w0) (r : Int)
  (h : m_slices_Index_string_string s1 v1 = some r) :
  Calls Tryd.prog 53 #[(vs a1 s1.length c1), (str v1)] w0 fun e w => e = .returned (vi r) ∧ Ext w0 w ∧ AllCl [] F w := by
 refine enterK (l := [(vs a1 s1.length c1), (str v1)]) Tryd.func53 rfl Tryd.ntmps53 rfl ?_
 have hI := Bun.start hF hc
 clear hc
 rw [m_slices_Index_string_string] at h
 refine sr ?_
 refine sac ?_
 refine nk ?_
 refine c_seq ?_
 refine sr ?_
 refine sm ?_
 refine sq (y_lenl rfl Tryd.underlying67 et) ?_
 refine sq (y_move rfl ev_const) ?_
 refine nk ?_
 refine c_block ?_
 refine c_loop (α := Nat × Int) (fun x => fun w => ∃ C, Bun noM F w0 C w [] [Cl.sl cStr a1 c1 s1] ∧ m_slices_Index_string_string_l1 s1 v1 (x.1) (x.2) = some r) (fun x _ => x.1) (fun x => [(0, (vs a1 s1.length c1)), (1, (str v1)), (7, (vi (s1.length : Int))), (8, (vi (x.2)))]) (fu, 0) ⟨_, hI.arr .n ⟨.z, trivial⟩, h⟩ ⟨rfl, rfl, rfl, rfl, trivial⟩ ?_
 clear h hI; rintro ⟨fuel1, i1⟩ w1 ⟨c2, hI, h⟩
 dsimp only at hI h
 rcases fuel1 with _ | fuel1
 ·rw [m_slices_Index_string_string_l1] at h; cases h
 rw [m_slices_Index_string_string_l1] at h
 refine c_sub (e := [(0, (vs a1 s1.length c1)), (1, (str v1)), (7, (vi (s1.length : Int))), (8, (vi i1))]) ⟨rfl, rfl, rfl, rfl, trivial⟩ ?_
 refine sr ?_
 refine sq (y_lss rfl et et) ?_
 refine nk ?_
 refine c_seq ?_
 refine c_cond (b := decide (i1 < (s1.length : Int))) et (fun hb => ?_) (fun hb => ?_)
 ·replace h := ite_t hb h
  refine c_skip ?_
  refine k_same ?_
  refine c_seq ?_
  refine c_block ?_
  refine sr ?_
  refine sm ?_
  refine sa ?_
  refine nk ?_
  refine sr ?_
  refine sm ?_
  refine sm ?_
  refine sm ?_
  obtain ⟨e1, hx1, h⟩ := bnd_some h
  obtain ⟨ad1, cs1, hA1, hr1, hq1⟩ := hI.clat .z hx1
  obtain rfl : cs1 = [(str e1)] := hr1
  refine sq (y_indexAddr rfl Tryd.underlying67 size_9 et et (lat_bd hx1) hA1) ?_
  refine sq (y_load1 (v := (str e1)) rfl et Tryd.underlying9 rfl hq1.1) ?_
  refine sq (y_eqs rfl et et) ?_
  refine nk ?_
  refine c_cond (b := decide (v1 = e1)) et (fun hb => ?_) (fun hb => ?_)
  ·replace h := ite_t hb h
   refine sr ?_
   refine sm ?_
   refine sa ?_
   refine nk ?_
   refine c_ret ?_
   obtain rfl := some_inj h
   exact q_ret (vs := [(vi i1)]) Tryd.results53 ⟨ev_tmp rfl rfl, trivial⟩ ⟨rfl, hI.ext0, hI.fin trivial⟩
  ·replace h := ite_f hb h
   refine c_skip ?_
   refine k_same ?_
   refine c_region rfl ?_
   refine sq (y_add rfl et ev_const) ?_
   refine sm ?_
   refine s_nil ?_
   exact k_loop (fuel1, wi64 (i1 + 1)) ⟨rfl, rfl, rfl, rfl, trivial⟩ ⟨_, hI.arr .n ⟨.z, trivial⟩, h⟩ (Nat.lt_succ_self _)
 ·replace h := ite_f hb h
  refine c_exit ?_
  refine k_in ?_
  refine k_same ?_
  refine sr ?_
  refine sac ?_
  refine nk ?_
  refine c_ret ?_
  obtain rfl := some_inj h
  exact q_ret (vs := [(vi (-1))]) Tryd.results53 ⟨ev_tmp rfl rfl, trivial⟩ ⟨rfl, hI.ext0, hI.fin trivial⟩
set_option maxRecDepth 100000 in
set_option maxHeartbeats 4000000 in
theorem c_slices_Contains_string_string (F : NP) (w0 : World) (hF : ∀ k, F k → k < w0.heap.size) (s1 : List (List UInt8)) (v1 : List UInt8) (a1 : Option Addr) (c1 : Nat) (hc : AllCl [Cl.sl cStr a1 c1 s1] F w0) (r : Bool)
  (h : m_slices_Contains_string_string s1 v1 = some r) :
  Calls Tryd.prog 48 #[(vs a1 s1.length c1), (str v1)] w0 fun e w => e = .returned (vb r) ∧ Ext w0 w ∧ AllCl [] F w := by
 refine enterK (l := [(vs a1 s1.length c1), (str v1)]) Tryd.func48 rfl Tryd.ntmps48 rfl ?_
 have hI := Bun.start hF hc
 clear hc
 rw [m_slices_Contains_string_string] at h
 refine sr ?_
 refine sac ?_
 refine nk ?_
 refine sr ?_
 refine sm ?_
 refine sm ?_
 obtain ⟨r1, hx1, h⟩ := bnd_some h
 refine s_call gn rfl (r_callF (vs := [(vs a1 s1.length c1), (str v1)]) rfl ok_53 ⟨et, ⟨et, trivial⟩⟩) (Calls.mono (c_slices_Index_string_string (Dj F noM) w0 hI.lt s1 v1 a1 c1 ⟨(hI.get .z), trivial⟩ r1 hx1) ?_)
 rintro _ w1 ⟨rfl, hx2, hl1⟩
 refine ⟨_, rfl, ?_⟩
 replace hI := (hI.ext hx2)
 refine sq (y_geq rfl et ev_const) ?_
 refine sa ?_
 refine nk ?_
 refine c_ret ?_
 obtain rfl := some_inj h
 exact q_ret (vs := [(vb (decide (0 ≤ r1)))]) Tryd.results48 ⟨ev_tmp rfl rfl, trivial⟩ ⟨rfl, hI.ext0, hI.fin trivial⟩
set_option maxRecDepth 100000 in
set_option maxHeartbeats 4000000 in
theorem c_lexer_IsKeyword (F : NP) (w0 : World) (hF : ∀ k, F k → k < w0.heap.size) (s1 : List UInt8) (hc : AllCl [clSpace] F w0) (r : Bool)
  (h : m_lexer_IsKeyword s1 = some r) :
  Calls Tryd.prog 41 #[(str s1)] w0 fun e w => e = .returned (vb r) ∧ Ext w0 w ∧ AllCl [] F w := by
 refine enterK (l := [(str s1)]) Tryd.func41 rfl Tryd.ntmps41 rfl ?_
 have hI := Bun.start hF hc
 clear hc
 rw [m_lexer_IsKeyword] at h
 refine sr ?_
 refine sac ?_
 refine nk ?_
 refine sr ?_
 obtain ⟨r1, hx1, h⟩ := bnd_some h
 refine s_call gn rfl (r_callF (vs := []) rfl ok_49 trivial) (Calls.mono (c_lexer_keywords (Dj F noM) w0 hI.lt ⟨(hI.get .z), trivial⟩ r1 hx1) ?_)
 rintro _ w1 ⟨a1, c1, rfl, hx2, hl1⟩
 refine ⟨_, rfl, ?_⟩
 replace hI := (hI.ext hx2).adds hl1
 refine sm ?_
 obtain ⟨r2, hx3, h⟩ := bnd_some h
 refine s_call gn rfl (r_callF (vs := [(vs a1 r1.length c1), (str s1)]) rfl ok_48 ⟨et, ⟨et, trivial⟩⟩) (Calls.mono (c_slices_Contains_string_string (Dj F noM) w1 hI.lt r1 s1 a1 c1 ⟨(hI.get .z), trivial⟩ r2 hx3) ?_)
 rintro _ w2 ⟨rfl, hx4, hl2⟩
 refine ⟨_, rfl, ?_⟩
 replace hI := (hI.ext hx4)
 refine sa ?_
 refine nk ?_
 refine c_ret ?_
 obtain rfl := some_inj h
 exact q_ret (vs := [(vb r2)]) Tryd.results41 ⟨ev_tmp rfl rfl, trivial⟩ ⟨rfl, hI.ext0, hI.fin trivial⟩
set_option maxRecDepth 100000 in
set_option maxHeartbeats 4000000 in
theorem c_lexer_IsName (F : NP) (w0 : World) (hF : ∀ k, F k → k < w0.heap.size) (s1 : List UInt8) (hc : AllCl [clSpace] F w0) (r : Bool)
  (h : m_lexer_IsName s1 = some r) :
  Calls Tryd.prog 31 #[(str s1)] w0 fun e w => e = .returned (vb r) ∧ Ext w0 w ∧ AllCl [] F w := by
 refine enterK (l := [(str s1)]) Tryd.func31 rfl Tryd.ntmps31 rfl ?_
 have hI := Bun.start hF hc
 clear hc
 rw [m_lexer_IsName] at h
 refine sr ?_
 refine sac ?_
 refine nk ?_
 refine sr ?_
 refine sm ?_
 refine sq (y_nes rfl et ev_const) ?_
 refine sm ?_
 refine s_gval (g_true rfl rfl rfl rfl) rfl (fun hc => (y_move rfl et)) ?_
 refine s_gval (g_true rfl rfl rfl rfl) rfl (fun hc => (y_lens rfl Tryd.underlying9 (ev_gv et hc))) ?_
 refine s_gval (g_true rfl rfl rfl rfl) rfl (fun hc => (y_leq rfl (ev_gv et hc) ev_const)) ?_
 refine sq (y_and rfl et et) ?_
 refine sm ?_
 refine s_gval (g_true rfl rfl rfl rfl) rfl (fun hc => (y_move rfl et)) ?_
 obtain ⟨b1, hx1, h⟩ := bnd_some h
 replace hx1 := gd_some hx1
 refine s_gval (g_true rfl rfl rfl rfl) rfl (fun hc => (y_satl rfl Tryd.underlying9 (ev_gv et hc) ev_const (hx1 hc))) ?_
 refine s_gval (g_true rfl rfl rfl rfl) rfl (fun hc => (y_conv rfl (by rw [Tryd.underlying5]; rfl) Tryd.underlying21 (ev_gv et hc))) ?_
 obtain ⟨r1, hx2, h⟩ := bnd_some h
 replace hx2 := gd_some hx2
 refine s_gcallU (v := (vb r1)) (g_true rfl rfl rfl rfl) rfl (fun hc => (r_callF (vs := [(Value.int .i32 (wi32 b1))]) rfl ok_38 ⟨(ev_gv et hc), trivial⟩)) (fun hc => (c_lexer_letter (Dj F noM) w0 hI.lt (wi32 b1) trivial r1 (hx2 hc)).mono fun _ _ k => ⟨k.1, k.2.1⟩) ?_
 intro w1 hx3; replace hI := hI.ext hx3
 refine sq (y_and rfl et et) ?_
 refine sm ?_
 refine s_gval (g_true rfl rfl rfl rfl) rfl (fun hc => (y_move rfl et)) ?_
 have hI := hI.add (c := clFn_k1 (Value.func (.func 40) #[] #[]) m_lexer_inWord) ⟨rfl, fun D' w' hs hl x_1 r k h => CallV.fn (cap := []) ok_40 (c_lexer_inWord D' w' hl x_1 trivial r h)⟩
 obtain ⟨r2, hx4, h⟩ := bnd_some h
 replace hx4 := gd_some hx4
 refine s_gcallU (v := (vi r2)) (g_true rfl rfl rfl rfl) rfl (fun hc => (r_callF (vs := [(str s1), (Value.func (.func 40) #[] #[])]) rfl ok_39 ⟨(ev_gv et hc), ⟨ev_func, trivial⟩⟩)) (fun hc => (c_lexer_span (Dj F noM) w1 hI.lt s1 m_lexer_inWord (Value.func (.func 40) #[] #[]) ⟨(hI.get .z), trivial⟩ r2 (hx4 hc)).mono fun _ _ k => ⟨k.1, k.2.1⟩) ?_
 intro w2 hx5; replace hI := hI.ext hx5
 refine s_gval (g_true rfl rfl rfl rfl) rfl (fun hc => (y_move rfl et)) ?_
 refine s_gval (g_true rfl rfl rfl rfl) rfl (fun hc => (y_lens rfl Tryd.underlying9 (ev_gv et hc))) ?_
 refine s_gval (g_true rfl rfl rfl rfl) rfl (fun hc => (y_eql rfl (ev_gv et hc) (ev_gv et hc))) ?_
 refine sq (y_and rfl et et) ?_
 refine sm ?_
 refine s_gval (g_true rfl rfl rfl rfl) rfl (fun hc => (y_move rfl et)) ?_
 obtain ⟨r3, hx6, h⟩ := bnd_some h
 replace hx6 := gd_some hx6
 refine s_gcallU (v := (vb r3)) (g_true rfl rfl rfl rfl) rfl (fun hc => (r_callF (vs := [(str s1)]) rfl ok_41 ⟨(ev_gv et hc), trivial⟩)) (fun hc => (c_lexer_IsKeyword (Dj F noM) w2 hI.lt s1 ⟨(hI.get (.s .z)), trivial⟩ r3 (hx6 hc)).mono fun _ _ k => ⟨k.1, k.2.1⟩) ?_
 intro w3 hx7; replace hI := hI.ext hx7
 refine s_gval (g_true rfl rfl rfl rfl) rfl (fun hc => (y_not rfl (ev_gv et hc))) ?_
 refine sq (y_and rfl et et) ?_
 refine sa ?_
 refine s_nil ?_
 refine k_next (e := [(2, (vb (((((!decide (s1 = ([] : List UInt8))) && (decide ((s1.length : Int) ≤ 16))) && r1) && (decide (r2 = (s1.length : Int)))) && (!r3))))]) ⟨rfl, trivial⟩ ?_
 refine c_ret ?_
 obtain rfl := some_inj h
 exact q_ret (vs := [(vb (((((!decide (s1 = ([] : List UInt8))) && (decide ((s1.length : Int) ≤ 16))) && r1) && (decide (r2 = (s1.length : Int)))) && (!r3)))]) Tryd.results31 ⟨ev_tmp rfl rfl, trivial⟩ ⟨rfl, hI.ext0, hI.fin trivial⟩
set_option maxRecDepth 100000 in
set_option maxHeartbeats 4000000 in
theorem c_liveness_Validate (F : NP) (w0 : World) (hF : ∀ k, F k → k < w0.heap.size) (l1 : List GLifetime) (a1 : Option Addr) (c1 : Nat) (hc : AllCl [Cl.sl cGLifetime a1 c1 l1, clSpace] F w0) (r : Int)
  (h : m_liveness_Validate l1 = some r) :
  Calls Tryd.prog 19 #[(vs a1 l1.length c1)] w0 fun e w => e = .returned (vi r) ∧ Ext w0 w ∧ AllCl [] F w := by
 refine enterK (l := [(vs a1 l1.length c1)]) Tryd.func19 rfl Tryd.ntmps19 rfl ?_
 have hI := Bun.start hF hc
 clear hc
 rw [m_liveness_Validate] at h
 refine sr ?_
 refine sac ?_
 refine nk ?_
 refine sr ?_
 refine l_makeMap kStr Value.bool hI gn rfl rfl ?_
 clear hI; intro b1 c2 w1 hI
 refine sa ?_
 refine nk ?_
 refine c_seq ?_
 refine sr ?_
 refine sm ?_
 refine sq (y_lenl rfl Tryd.underlying22 et) ?_
 refine sq (y_move rfl ev_const) ?_
 refine nk ?_
 refine c_block ?_
 refine c_loop (α := Nat × Int × (List (List UInt8 × Bool))) (fun x => fun w => ∃ C, Bun noM F w0 C w [MO.map kStr Value.bool b1 (x.2.2)] [Cl.sl cGLifetime a1 c1 l1, clSpace] ∧ m_liveness_Validate_l1 l1 (x.1) (x.2.1) (x.2.2) = some r) (fun x _ => x.1) (fun x => [(3, (Value.map (some b1))), (7, (vs a1 l1.length c1)), (8, (vi (l1.length : Int))), (9, (vi (x.2.1)))]) (fu, 0, ([] : List (List UInt8 × Bool))) ⟨_, hI.arr (.c .z .n) ⟨.z, (.s .z), trivial⟩, h⟩ ⟨rfl, rfl, rfl, rfl, trivial⟩ ?_
 clear h hI; rintro ⟨fuel1, i1, m1⟩ w2 ⟨c3, hI, h⟩
 dsimp only at hI h
 rcases fuel1 with _ | fuel1
 ·rw [m_liveness_Validate_l1] at h; cases h
 rw [m_liveness_Validate_l1] at h
 refine c_sub (e := [(3, (Value.map (some b1))), (7, (vs a1 l1.length c1)), (8, (vi (l1.length : Int))), (9, (vi i1))]) ⟨rfl, rfl, rfl, rfl, trivial⟩ ?_
 refine sr ?_
 refine sq (y_lss rfl et et) ?_
 refine nk ?_
 refine c_seq ?_
 refine c_cond (b := decide (i1 < (l1.length : Int))) et (fun hb => ?_) (fun hb => ?_)
 ·replace h := ite_t hb h
  refine c_skip ?_
  refine k_same ?_
  refine c_seq ?_
  refine c_block ?_
  refine sr ?_
  obtain ⟨e1, hx1, h⟩ := bnd_some h
  obtain ⟨ad1, cs1, hA1, hr1, hq1⟩ := hI.clat .z hx1
  obtain rfl : cs1 = [(str e1.Name), (vi e1.From), (vi e1.To), (vi e1.Size)] := hr1
  refine sq (y_indexAddr rfl Tryd.underlying22 size_37 et et (lat_bd hx1) hA1) ?_
  refine sq (y_loadN (l := [(str e1.Name), (vi e1.From), (vi e1.To), (vi e1.Size)]) rfl et Tryd.underlying37 rfl size_37 hq1.1) ?_
  refine l_alloc (cs := #[(str ([] : List UInt8)), (vi 0), (vi 0), (vi 0)]) hI gn rfl rfl zero_37 rfl ?_
  clear hI; intro b2 c4 w3 hI
  refine l_store (new := [(str e1.Name), (vi e1.From), (vi e1.To), (vi e1.Size)]) (cs' := #[(str e1.Name), (vi e1.From), (vi e1.To), (vi e1.Size)]) hI .z gn rfl rfl et et rfl size_37 rfl rfl rfl ?_
  clear hI; intro c5 w4 hI
  refine nk ?_
  refine c_seq ?_
  refine c_block ?_
  refine sr ?_
  refine sq (y_fieldAddr rfl et Tryd.underlying37 rfl size_9 rfl) ?_
  refine sq (y_load1 (v := (str e1.Name)) rfl et Tryd.underlying9 rfl (CellsAt.of_blk (hI.blk .z) rfl)) ?_
  obtain ⟨r1, hx2, h⟩ := bnd_some h
  refine s_call gn rfl (r_callF (vs := [(str e1.Name)]) rfl ok_31 ⟨et, trivial⟩) (Calls.mono (c_lexer_IsName (Dj F c5) w4 hI.lt e1.Name ⟨(hI.get (.s .z)), trivial⟩ r1 hx2) ?_)
  rintro _ w5 ⟨rfl, hx3, hl1⟩
  refine ⟨_, rfl, ?_⟩
  replace hI := (hI.ext hx3)
  refine sq (y_not rfl et) ?_
  refine sa ?_
  refine nk ?_
  refine c_cond (b := !r1) et (fun hb => ?_) (fun hb => ?_)
  ·replace h := ite_t hb h
   refine sr ?_
   refine sac ?_
   refine nk ?_
   refine c_ret ?_
   obtain rfl := some_inj h
   exact q_ret (vs := [(vi 7)]) Tryd.results19 ⟨ev_tmp rfl rfl, trivial⟩ ⟨rfl, hI.ext0, hI.fin trivial⟩
  ·replace h := ite_f hb h
   refine sr ?_
   refine sm ?_
   refine sq (y_fieldAddr rfl et Tryd.underlying37 rfl size_9 rfl) ?_
   refine sq (y_load1 (v := (str e1.Name)) rfl et Tryd.underlying9 rfl (CellsAt.of_blk (hI.blk .z) rfl)) ?_
   refine sq (y_lookup rfl et et (hI.mlk (.s .z) Tryd.underlying54 Tryd.underlying9 (z0 := false) zero_4 e1.Name)) ?_
   refine sa ?_
   refine nk ?_
   refine c_cond (b := (mget m1 e1.Name).getD false) et (fun hb => ?_) (fun hb => ?_)
   ·replace h := ite_t hb h
    refine sr ?_
    refine sac ?_
    refine nk ?_
    refine c_ret ?_
    obtain rfl := some_inj h
    exact q_ret (vs := [(vi 8)]) Tryd.results19 ⟨ev_tmp rfl rfl, trivial⟩ ⟨rfl, hI.ext0, hI.fin trivial⟩
   ·replace h := ite_f hb h
    refine sr ?_
    refine sq (y_fieldAddr rfl et Tryd.underlying37 rfl size_3 rfl) ?_
    refine sq (y_load1 (v := (vi e1.From)) rfl et Tryd.underlying3 rfl (CellsAt.of_blk (hI.blk .z) rfl)) ?_
    refine sq (y_lss rfl et ev_const) ?_
    refine sm ?_
    refine s_gval (g_false rfl rfl rfl rfl) rfl (fun hc => (y_fieldAddr rfl et Tryd.underlying37 rfl size_3 rfl)) ?_
    refine s_gval (g_false rfl rfl rfl rfl) rfl (fun hc => (y_load1 (v := (vi e1.To)) rfl (ev_gv et hc) Tryd.underlying3 rfl (CellsAt.of_blk (hI.blk .z) rfl))) ?_
    refine s_gval (g_false rfl rfl rfl rfl) rfl (fun hc => (y_fieldAddr rfl et Tryd.underlying37 rfl size_3 rfl)) ?_
    refine s_gval (g_false rfl rfl rfl rfl) rfl (fun hc => (y_load1 (v := (vi e1.From)) rfl (ev_gv et hc) Tryd.underlying3 rfl (CellsAt.of_blk (hI.blk .z) rfl))) ?_
    refine s_gval (g_false rfl rfl rfl rfl) rfl (fun hc => (y_lss rfl (ev_gv et hc) (ev_gv et hc))) ?_
    refine sq (y_or rfl et et) ?_
    refine sm ?_
    refine s_gval (g_false rfl rfl rfl rfl) rfl (fun hc => (y_fieldAddr rfl et Tryd.underlying37 rfl size_3 rfl)) ?_
    refine s_gval (g_false rfl rfl rfl rfl) rfl (fun hc => (y_load1 (v := (vi e1.Size)) rfl (ev_gv et hc) Tryd.underlying3 rfl (CellsAt.of_blk (hI.blk .z) rfl))) ?_
    refine s_gval (g_false rfl rfl rfl rfl) rfl (fun hc => (y_lss rfl (ev_gv et hc) ev_const)) ?_
    refine sq (y_or rfl et et) ?_
    refine sm ?_
    refine s_gval (g_false rfl rfl rfl rfl) rfl (fun hc => (y_fieldAddr rfl et Tryd.underlying37 rfl size_3 rfl)) ?_
    refine s_gval (g_false rfl rfl rfl rfl) rfl (fun hc => (y_load1 (v := (vi e1.Size)) rfl (ev_gv et hc) Tryd.underlying3 rfl (CellsAt.of_blk (hI.blk .z) rfl))) ?_
    refine s_gval (g_false rfl rfl rfl rfl) rfl (fun hc => (y_gtr rfl (ev_gv et hc) ev_const)) ?_
    refine sq (y_or rfl et et) ?_
    refine sa ?_
    refine s_nil ?_
    refine k_next (e := [(3, (Value.map (some b1))), (7, (vs a1 l1.length c1)), (8, (vi (l1.length : Int))), (9, (vi i1)), (5, (vp b2 0)), (23, (vb ((((decide (e1.From < 0)) || (decide (e1.To < e1.From))) || (decide (e1.Size < 1))) || (decide (4096 < e1.Size)))))]) ⟨rfl, rfl, rfl, rfl, rfl, rfl, trivial⟩ ?_
    refine c_cond (b := (((decide (e1.From < 0)) || (decide (e1.To < e1.From))) || (decide (e1.Size < 1))) || (decide (4096 < e1.Size))) et (fun hb => ?_) (fun hb => ?_)
    ·replace h := ite_t hb h
     refine sr ?_
     refine sac ?_
     refine nk ?_
     refine c_ret ?_
     obtain rfl := some_inj h
     exact q_ret (vs := [(vi 1)]) Tryd.results19 ⟨ev_tmp rfl rfl, trivial⟩ ⟨rfl, hI.ext0, hI.fin trivial⟩
    ·replace h := ite_f hb h
     refine c_skip ?_
     refine k_same ?_
     refine c_region rfl ?_
     refine sm ?_
     refine sq (y_fieldAddr rfl et Tryd.underlying37 rfl size_9 rfl) ?_
     refine sq (y_load1 (v := (str e1.Name)) rfl et Tryd.underlying9 rfl (CellsAt.of_blk (hI.blk .z) rfl)) ?_
     refine l_mapUpdate (k := e1.Name) (u := true) hI (.s .z) gn rfl rfl et et ev_const Tryd.underlying54 Tryd.underlying9 ?_
     clear hI; intro c6 w6 hI
     refine nk ?_
     refine c_region rfl ?_
     refine sq (y_add rfl et ev_const) ?_
     refine sm ?_
     refine s_nil ?_
     exact k_loop (fuel1, wi64 (i1 + 1), mput m1 e1.Name true) ⟨rfl, rfl, rfl, rfl, trivial⟩ ⟨_, hI.arr (.c (.s .z) .n) ⟨.z, (.s .z), trivial⟩, h⟩ (Nat.lt_succ_self _)
 ·replace h := ite_f hb h
  refine c_exit ?_
  refine k_in ?_
  refine k_same ?_
  refine sr ?_
  refine sac ?_
  refine nk ?_
  refine c_ret ?_
  obtain rfl := some_inj h
  exact q_ret (vs := [(vi 0)]) Tryd.results19 ⟨ev_tmp rfl rfl, trivial⟩ ⟨rfl, hI.ext0, hI.fin trivial⟩
set_option maxRecDepth 100000 in
set_option maxHeartbeats 4000000 in
theorem c_arena_Plan_1 (F : NP) (w0 : World) (hF : ∀ k, F k → k < w0.heap.size) (a1 : Int) (b1 : Int) (a2 : List GLifetime) (b2 : Nat) (a3 : Option Addr) (c1 : Nat) (hc : AllCl [Cl.sl cGLifetime a3 c1 a2, Cl.blk b2 22 #[(vs a3 a2.length c1)]] F w0) (r : Int)
  (h : m_arena_Plan_1 a1 b1 a2 = some r) :
  Calls Tryd.prog 22 #[(vi a1), (vi b1), (vp b2 0)] w0 fun e w => e = .returned (vi r) ∧ Ext w0 w ∧ AllCl [] F w := by
 refine enterK (l := [(vi a1), (vi b1), (vp b2 0)]) Tryd.func22 rfl Tryd.ntmps22 rfl ?_
 have hI := Bun.start hF hc
 clear hc
 rw [m_arena_Plan_1] at h
 refine sr ?_
 refine sac ?_
 refine nk ?_
 refine c_seq ?_
 refine c_drawX [] false (.c (0, .q) (.c (1, .q) (.c (2, .q) (.c (3, .q) (.c (4, .q) (.c (5, .q) (.c (6, .q) (.c (7, .q) (.c (8, .q) (.c (9, .q) (.c (10, .q) (.c (11, .q) .n)))))))))))) hI (by kernel_rfl) (by kernel_rfl) ?_
 clear hI; intro w1 hI
 refine a_read rfl gn rfl (fun w' hw' => (y_load1 (v := (vs a3 a2.length c1)) rfl et Tryd.underlying22 rfl ((hI.kblk (l := [(vs a3 a2.length c1)]) (.s .z) rfl).at_ (SX.any rfl hw')))) (by kernel_rfl) ?_
 refine a_q rfl gn rfl (fun w' => (y_move rfl et)) ?_
 obtain ⟨e1, hx1, h⟩ := bnd_some h
 obtain ⟨ad1, cs1, hA1, hr1, hq1⟩ := hI.clat .z hx1
 obtain rfl : cs1 = [(str e1.Name), (vi e1.From), (vi e1.To), (vi e1.Size)] := hr1
 refine a_q rfl gn rfl (fun w' => (y_indexAddr rfl Tryd.underlying22 size_37 et et (lat_bd hx1) hA1)) ?_
 refine a_q rfl gn rfl (fun w' => (y_fieldAddr rfl et Tryd.underlying37 rfl size_3 rfl)) ?_
 refine a_read rfl gn rfl (fun w' hw' => (y_load1 (v := (vi e1.Size)) rfl et Tryd.underlying3 rfl ((CA.part hq1 rfl).at_ (SX.any rfl hw')))) (by kernel_rfl) ?_
 refine a_read rfl gn rfl (fun w' hw' => (y_load1 (v := (vs a3 a2.length c1)) rfl et Tryd.underlying22 rfl ((hI.kblk (l := [(vs a3 a2.length c1)]) (.s .z) rfl).at_ (SX.any rfl hw')))) (by kernel_rfl) ?_
 refine a_q rfl gn rfl (fun w' => (y_move rfl et)) ?_
 obtain ⟨e2, hx2, h⟩ := bnd_some h
 obtain ⟨ad2, cs2, hA2, hr2, hq2⟩ := hI.clat .z hx2
 obtain rfl : cs2 = [(str e2.Name), (vi e2.From), (vi e2.To), (vi e2.Size)] := hr2
 refine a_q rfl gn rfl (fun w' => (y_indexAddr rfl Tryd.underlying22 size_37 et et (lat_bd hx2) hA2)) ?_
 refine a_q rfl gn rfl (fun w' => (y_fieldAddr rfl et Tryd.underlying37 rfl size_3 rfl)) ?_
 refine a_read rfl gn rfl (fun w' hw' => (y_load1 (v := (vi e2.Size)) rfl et Tryd.underlying3 rfl ((CA.part hq2 rfl).at_ (SX.any rfl hw')))) (by kernel_rfl) ?_
 refine a_q rfl gn rfl (fun w' => (y_sub rfl et et)) ?_
 refine a_q rfl gn rfl (fun w' => (y_assign rfl et)) ?_
 refine a_nil ?_
 refine k_same ?_
 refine c_ret ?_
 obtain rfl := some_inj h
 exact q_ret (vs := [(vi (wi64 (e1.Size - e2.Size)))]) Tryd.results22 ⟨ev_tmp rfl rfl, trivial⟩ ⟨rfl, hI.ext0, hI.fin trivial⟩
set_option maxRecDepth 100000 in
set_option maxHeartbeats 4000000 in
theorem c_slices_insertionSortCmpFunc_int_w (C0 F : NP) (w0 : World) (data1 : List Int) (a2 : Int) (b1 : Int) (cmp1 : (Int → Int → Option Int)) (a1 : Option Addr) (n1 : Nat) (c1 : Nat) (fv1 : Value) (hI : Bun C0 F w0 C0 w0 [MO.prow (cInt .i64) 3 a1 n1 c1 data1] [clFn_k2 fv1 cmp1]) (r : Unit × List Int)
  (h : m_slices_insertionSortCmpFunc_int_w data1 a2 b1 cmp1 = some r) :
  Calls Tryd.prog 51 #[(vs a1 n1 c1), (vi a2), (vi b1), fv1] w0 fun e w => ∃ (C : NP), e = .returned (Value.tuple #[]) ∧ Bun C0 F w0 C w [MO.prow (cInt .i64) 3 a1 n1 c1 r.2] [] := by
 refine enterK (l := [(vs a1 n1 c1), (vi a2), (vi b1), fv1]) Tryd.func51 rfl Tryd.ntmps51 rfl ?_
 rw [m_slices_insertionSortCmpFunc_int_w] at h
 refine sr ?_
 refine sm ?_
 refine sq (y_add rfl et ev_const) ?_
 refine sa ?_
 refine nk ?_
 refine c_block ?_
 refine c_loop (α := Nat × Int × (List Int)) (fun x => fun w => ∃ C, Bun C0 F w0 C w [MO.prow (cInt .i64) 3 a1 n1 c1 (x.2.2)] [clFn_k2 fv1 cmp1] ∧ m_slices_insertionSortCmpFunc_int_w_l1 b1 a2 cmp1 (x.1) (x.2.1) (x.2.2) = some r) (fun x _ => x.1) (fun x => [(0, (vs a1 n1 c1)), (1, (vi a2)), (2, (vi b1)), (3, fv1), (8, (vi (x.2.1)))]) (fu, wi64 (a2 + 1), data1) ⟨_, hI.arr (.c .z .n) ⟨.z, trivial⟩, h⟩ ⟨rfl, rfl, rfl, rfl, rfl, trivial⟩ ?_
 clear h hI; rintro ⟨fuel1, i1, l1⟩ w1 ⟨c2, hI, h⟩
 dsimp only at hI h
 rcases fuel1 with _ | fuel1
 ·rw [m_slices_insertionSortCmpFunc_int_w_l1] at h; cases h
 rw [m_slices_insertionSortCmpFunc_int_w_l1] at h
 refine c_sub (e := [(0, (vs a1 n1 c1)), (1, (vi a2)), (2, (vi b1)), (3, fv1), (8, (vi i1))]) ⟨rfl, rfl, rfl, rfl, rfl, trivial⟩ ?_
 refine c_seq ?_
 refine sr ?_
 refine sm ?_
 refine sm ?_
 refine sq (y_lss rfl et et) ?_
 refine nk ?_
 refine c_cond (b := decide (i1 < b1)) et (fun hb => ?_) (fun hb => ?_)
 ·replace h := ite_t hb h
  refine c_skip ?_
  refine k_same ?_
  refine c_join (α := (List Int)) (fun _ => ⟨53, []⟩) (fun x => [(0, (vs a1 n1 c1)), (1, (vi a2)), (2, (vi b1)), (3, fv1), (8, (vi i1))]) (fun x => fun w => ∃ C, Bun C0 F w0 C w [MO.prow (cInt .i64) 3 a1 n1 c1 x] [clFn_k2 fv1 cmp1] ∧ m_slices_insertionSortCmpFunc_int_w_j1 (m_slices_insertionSortCmpFunc_int_w_l1 b1 a2 cmp1 fuel1) i1 x = some r) ?_ ?_
  ·clear h hI; rintro l2 w2 ⟨c3, hI, h⟩
   try dsimp only at hI h
   rw [m_slices_insertionSortCmpFunc_int_w_j1] at h
   refine c_sub (e := [(0, (vs a1 n1 c1)), (1, (vi a2)), (2, (vi b1)), (3, fv1), (8, (vi i1))]) ⟨rfl, rfl, rfl, rfl, rfl, trivial⟩ ?_
   refine c_region rfl ?_
   refine sm ?_
   refine sq (y_add rfl et ev_const) ?_
   refine sa ?_
   refine s_nil ?_
   exact k_loop (fuel1, wi64 (i1 + 1), l2) ⟨rfl, rfl, rfl, rfl, rfl, trivial⟩ ⟨_, hI.arr (.c .z .n) ⟨.z, trivial⟩, h⟩ (Nat.lt_succ_self _)
  ·skip
   refine c_block ?_
   refine sr ?_
   refine sm ?_
   refine sa ?_
   refine nk ?_
   refine c_block ?_
   refine c_loop (α := Nat × Int × (List Int)) (fun x => fun w => ∃ C, Bun C0 F w0 C w [MO.prow (cInt .i64) 3 a1 n1 c1 (x.2.2)] [clFn_k2 fv1 cmp1] ∧ m_slices_insertionSortCmpFunc_int_w_l2 a2 cmp1 (m_slices_insertionSortCmpFunc_int_w_l1 b1 a2 cmp1 fuel1) i1 (x.1) (x.2.1) (x.2.2) = some r) (fun x _ => x.1) (fun x => [(0, (vs a1 n1 c1)), (1, (vi a2)), (2, (vi b1)), (3, fv1), (8, (vi i1)), (9, (vi (x.2.1)))]) (fu, i1, l1) ⟨_, hI.arr (.c .z .n) ⟨.z, trivial⟩, h⟩ ⟨rfl, rfl, rfl, rfl, rfl, rfl, trivial⟩ ?_
   clear h hI; rintro ⟨fuel2, j1, l3⟩ w3 ⟨c4, hI, h⟩
   dsimp only at hI h
   rcases fuel2 with _ | fuel2
   ·rw [m_slices_insertionSortCmpFunc_int_w_l2] at h; cases h
   rw [m_slices_insertionSortCmpFunc_int_w_l2] at h
   refine c_sub (e := [(0, (vs a1 n1 c1)), (1, (vi a2)), (2, (vi b1)), (3, fv1), (8, (vi i1)), (9, (vi j1))]) ⟨rfl, rfl, rfl, rfl, rfl, rfl, trivial⟩ ?_
   refine c_seq ?_
   refine c_seq ?_
   refine c_drawX [] false (.c (0, .q) (.c (1, .q) (.c (2, .q) (.c (3, .q) (.c (4, .q) (.c (5, .q) (.c (6, .q) (.c (7, .q) (.c (8, .q) (.c (9, .q) (.c (10, .q) (.c (11, .q) (.c (12, .q) (.c (13, .q) (.c (14, .s) (.c (15, .q) (.c (16, .q) .n))))))))))))))))) hI (by kernel_rfl) (by kernel_rfl) ?_
   clear hI; intro w4 hI
   refine a_q rfl gn rfl (fun w' => (y_move rfl et)) ?_
   refine a_q rfl gn rfl (fun w' => (y_move rfl et)) ?_
   refine a_q rfl gn rfl (fun w' => (y_gtr rfl et et)) ?_
   refine a_q rfl gn rfl (fun w' => (y_move rfl et)) ?_
   refine a_gval rfl (g_true rfl rfl rfl rfl) rfl (fun hc => fun w' => (y_move rfl et)) ?_
   refine a_gval rfl (g_true rfl rfl rfl rfl) rfl (fun hc => fun w' => (y_move rfl et)) ?_
   refine a_gval rfl (g_true rfl rfl rfl rfl) rfl (fun hc => fun w' => (y_move rfl et)) ?_
   obtain ⟨e1, hx1, h⟩ := bnd_some h
   replace hx1 := gd_some hx1
   obtain ⟨ad1, cs1, hq1⟩ := (hI.unpin .z).2.golat .z hx1
   have hq2 : (decide (a2 < j1)) = true → CA noM w4 (ad1.add (Int.toNat j1 * 1)) [(vi e1)] := fun hc => by have k := hq1 hc; have e : cs1 = _ := k.2.1; rw [← e]; exact k.2.2
   refine a_gval rfl (g_true rfl rfl rfl rfl) rfl (fun hc => fun w' => (y_indexAddr rfl Tryd.underlying41 size_3 (ev_gv et hc) (ev_gv et hc) (bdn (hI.unpin .z).1 (lat_bd (hx1 hc))) (hq1 hc).1)) ?_
   refine a_gread rfl (g_true rfl rfl rfl rfl) rfl (fun hc => fun w' hw' => (y_load1 (v := (vi e1)) rfl (ev_gv et hc) Tryd.underlying3 rfl ((hq2 hc).at_ (SX.any rfl hw')))) (by kernel_rfl) ?_
   refine a_gval rfl (g_true rfl rfl rfl rfl) rfl (fun hc => fun w' => (y_move rfl et)) ?_
   refine a_gval rfl (g_true rfl rfl rfl rfl) rfl (fun hc => fun w' => (y_move rfl et)) ?_
   refine a_gval rfl (g_true rfl rfl rfl rfl) rfl (fun hc => fun w' => (y_sub rfl (ev_gv et hc) ev_const)) ?_
   obtain ⟨e2, hx2, h⟩ := bnd_some h
   replace hx2 := gd_some hx2
   obtain ⟨ad2, cs2, hq3⟩ := (hI.unpin .z).2.golat .z hx2
   have hq4 : (decide (a2 < j1)) = true → CA noM w4 (ad2.add (Int.toNat (wi64 (j1 - 1)) * 1)) [(vi e2)] := fun hc => by have k := hq3 hc; have e : cs2 = _ := k.2.1; rw [← e]; exact k.2.2
   refine a_gval rfl (g_true rfl rfl rfl rfl) rfl (fun hc => fun w' => (y_indexAddr rfl Tryd.underlying41 size_3 (ev_gv et hc) (ev_gv et hc) (bdn (hI.unpin .z).1 (lat_bd (hx2 hc))) (hq3 hc).1)) ?_
   refine a_gread rfl (g_true rfl rfl rfl rfl) rfl (fun hc => fun w' hw' => (y_load1 (v := (vi e2)) rfl (ev_gv et hc) Tryd.underlying3 rfl ((hq4 hc).at_ (SX.any rfl hw')))) (by kernel_rfl) ?_
   obtain ⟨r1, hx3, h⟩ := bnd_some h
   replace hx3 := gd_some hx3
   refine la_gcallV (u := (vi r1)) (args := [(vi e1), (vi e2)]) rfl (g_true rfl rfl rfl rfl) rfl rfl (fun hc => (ev_gv et hc)) (fun hc => ⟨(ev_gv et hc), ⟨(ev_gv et hc), trivial⟩⟩) (fun hc => CallV.mono ((hI.get .z).2 (Dj F c4) w4 (Sp.of_ext .rfl') hI.lt e1 e2 r1 trivial (hx3 hc)) fun _ _ k => ⟨k.1, k.2.1⟩) ?_
   intro w5 hx4; replace hI := hI.ext hx4
   refine a_gval rfl (g_true rfl rfl rfl rfl) rfl (fun hc => fun w' => (y_lss rfl (ev_gv et hc) ev_const)) ?_
   refine a_q rfl gn rfl (fun w' => (y_and rfl et et)) ?_
   refine a_nil ?_
   refine k_same ?_
   refine c_cond (b := (decide (a2 < j1)) && (decide (r1 < 0))) et (fun hb => ?_) (fun hb => ?_)
   ·replace h := ite_t hb h
    refine c_skip ?_
    refine k_same ?_
    refine c_seq ?_
    refine c_block ?_
    refine c_drawX [15, 17] false (.c (0, .q) (.c (1, .q) (.c (2, .q) (.c (3, .q) (.c (4, .q) (.c (5, .q) (.c (6, .q) (.c (7, .q) (.c (8, .q) (.c (9, .q) (.c (10, .q) (.c (11, .q) (.c (12, .q) (.c (13, .q) (.c (14, .q) (.c (15, .s) (.c (16, .q) (.c (17, .s) .n)))))))))))))))))) hI (by kernel_rfl) (by kernel_rfl) ?_
    clear hI; intro w6 hI
    refine a_q rfl gn rfl (fun w' => (y_move rfl et)) ?_
    refine a_q rfl gn rfl (fun w' => (y_move rfl et)) ?_
    refine a_q rfl gn rfl (fun w' => (y_move rfl et)) ?_
    refine a_q rfl gn rfl (fun w' => (y_move rfl et)) ?_
    refine a_q rfl gn rfl (fun w' => (y_sub rfl et ev_const)) ?_
    refine a_q rfl gn rfl (fun w' => (y_move rfl et)) ?_
    refine a_q rfl gn rfl (fun w' => (y_move rfl et)) ?_
    refine a_q rfl gn rfl (fun w' => (y_sub rfl et ev_const)) ?_
    obtain ⟨e3, hx5, h⟩ := bnd_some h
    obtain ⟨ad3, cs3, hA3, hr3, hq5⟩ := (hI.unpin .z).2.olat .z hx5
    obtain rfl : cs3 = [(vi e3)] := hr3
    refine a_q rfl gn rfl (fun w' => (y_indexAddr rfl Tryd.underlying41 size_3 et et (bdn (hI.unpin .z).1 (lat_bd hx5)) hA3)) ?_
    refine a_read rfl gn rfl (fun w' hw' => (y_load1 (v := (vi e3)) rfl et Tryd.underlying3 rfl (hq5.at_ (SX.any rfl hw')))) (by kernel_rfl) ?_
    refine a_q rfl gn rfl (fun w' => (y_move rfl et)) ?_
    refine a_q rfl gn rfl (fun w' => (y_move rfl et)) ?_
    obtain ⟨e4, hx6, h⟩ := bnd_some h
    obtain ⟨ad4, cs4, hA4, hr4, hq6⟩ := (hI.unpin .z).2.olat .z hx6
    obtain rfl : cs4 = [(vi e4)] := hr4
    refine a_q rfl gn rfl (fun w' => (y_indexAddr rfl Tryd.underlying41 size_3 et et (bdn (hI.unpin .z).1 (lat_bd hx6)) hA4)) ?_
    refine a_read rfl gn rfl (fun w' hw' => (y_load1 (v := (vi e4)) rfl et Tryd.underlying3 rfl (hq6.at_ (SX.any rfl hw')))) (by kernel_rfl) ?_
    obtain ⟨ho1, h⟩ := chk_some h
    obtain ⟨ad5, hA5⟩ := (hI.unpin .z).2.addr .z ho1
    refine a_q rfl gn rfl (fun w' => (y_indexAddr rfl Tryd.underlying41 size_3 et et (bdn (hI.unpin .z).1 ho1) hA5)) ?_
    refine a_turn (F := F) (C := c4) rfl rfl ?_
    obtain ⟨hl2, hP⟩ := hI.unpin .z
    refine la_storeRow (p := Int.toNat j1) (new := [(vi e3)]) (off := 0) (x' := e3) hP .z rfl gn rfl rfl (by have := ho1; first | omega | (simp only [List.length_set]; omega)) hA5 rfl et et rfl size_3 rfl (by show 0 + 1 ≤ 1; omega) (fun _ cs0 _ hr0 => by rw [spl_full (by have e := Cod.len _ hr0; exact e)]; exact rfl) ?_
    clear hI hP; intro c5 w7 hI
    replace hI := hI.pin .z (lset_len hl2)
    obtain ⟨ho2, h⟩ := chk_some h
    obtain ⟨ad6, hA6⟩ := (hI.unpin .z).2.addr .z ho2
    refine a_q rfl gn rfl (fun w' => (y_indexAddr rfl Tryd.underlying41 size_3 et et (bdn (hI.unpin .z).1 ho2) hA6)) ?_
    obtain ⟨hl3, hP⟩ := hI.unpin .z
    refine la_storeRow (p := Int.toNat (wi64 (j1 - 1))) (new := [(vi e4)]) (off := 0) (x' := e4) hP .z rfl gn rfl rfl (by have := ho2; first | omega | (simp only [List.length_set]; omega)) hA6 rfl et et rfl size_3 rfl (by show 0 + 1 ≤ 1; omega) (fun _ cs0 _ hr0 => by rw [spl_full (by have e := Cod.len _ hr0; exact e)]; exact rfl) ?_
    clear hI hP; intro c6 w8 hI
    replace hI := hI.pin .z (lset_len hl3)
    refine a_nil ?_
    refine k_next (e := [(0, (vs a1 n1 c1)), (1, (vi a2)), (2, (vi b1)), (3, fv1), (8, (vi i1)), (9, (vi j1))]) ⟨rfl, rfl, rfl, rfl, rfl, rfl, trivial⟩ ?_
    refine c_region rfl ?_
    refine sm ?_
    refine sq (y_sub rfl et ev_const) ?_
    refine sa ?_
    refine s_nil ?_
    exact k_loop (fuel2, wi64 (j1 - 1), (l3.set (Int.toNat j1) e3).set (Int.toNat (wi64 (j1 - 1))) e4) ⟨rfl, rfl, rfl, rfl, rfl, rfl, trivial⟩ ⟨_, hI.arr (.c .z .n) ⟨.z, trivial⟩, h⟩ (Nat.lt_succ_self _)
   ·replace h := ite_f hb h
    refine c_exit ?_
    refine k_in ?_
    exact k_join l3 ⟨rfl, rfl, rfl, rfl, rfl, trivial⟩ ⟨_, hI.arr (.c .z .n) ⟨.z, trivial⟩, h⟩ rfl
 ·replace h := ite_f hb h
  refine c_exit ?_
  refine k_in ?_
  obtain rfl := some_inj h
  exact q_ret (vs := []) Tryd.results51 trivial ⟨_, rfl, hI.arr (.c .z .n) trivial⟩
set_option maxRecDepth 100000 in
set_option maxHeartbeats 4000000 in
theorem c_slices_swapRangeCmpFunc_int_w (C0 F : NP) (w0 : World) (data1 : List Int) (a2 : Int) (b1 : Int) (n2 : Int) (cmp1 : (Int → Int → Option Int)) (a1 : Option Addr) (n1 : Nat) (c1 : Nat) (fv1 : Value) (hI : Bun C0 F w0 C0 w0 [MO.prow (cInt .i64) 3 a1 n1 c1 data1] [clFn_k2 fv1 cmp1]) (r : Unit × List Int)
  (h : m_slices_swapRangeCmpFunc_int_w data1 a2 b1 n2 cmp1 = some r) :
  Calls Tryd.prog 61 #[(vs a1 n1 c1), (vi a2), (vi b1), (vi n2), fv1] w0 fun e w => ∃ (C : NP), e = .returned (Value.tuple #[]) ∧ Bun C0 F w0 C w [MO.prow (cInt .i64) 3 a1 n1 c1 r.2] [] := by
 refine enterK (l := [(vs a1 n1 c1), (vi a2), (vi b1), (vi n2), fv1]) Tryd.func61 rfl Tryd.ntmps61 rfl ?_
 rw [m_slices_swapRangeCmpFunc_int_w] at h
 refine sr ?_
 refine sac ?_
 refine nk ?_
 refine c_block ?_
 refine c_loop (α := Nat × Int × (List Int)) (fun x => fun w => ∃ C, Bun C0 F w0 C w [MO.prow (cInt .i64) 3 a1 n1 c1 (x.2.2)] [] ∧ m_slices_swapRangeCmpFunc_int_w_l1 n2 b1 a2 (x.1) (x.2.1) (x.2.2) = some r) (fun x _ => x.1) (fun x => [(0, (vs a1 n1 c1)), (1, (vi a2)), (2, (vi b1)), (3, (vi n2)), (10, (vi (x.2.1)))]) (fu, 0, data1) ⟨_, hI.arr (.c .z .n) trivial, h⟩ ⟨rfl, rfl, rfl, rfl, rfl, trivial⟩ ?_
 clear h hI; rintro ⟨fuel1, i1, l1⟩ w1 ⟨c2, hI, h⟩
 dsimp only at hI h
 rcases fuel1 with _ | fuel1
 ·rw [m_slices_swapRangeCmpFunc_int_w_l1] at h; cases h
 rw [m_slices_swapRangeCmpFunc_int_w_l1] at h
 refine c_sub (e := [(0, (vs a1 n1 c1)), (1, (vi a2)), (2, (vi b1)), (3, (vi n2)), (10, (vi i1))]) ⟨rfl, rfl, rfl, rfl, rfl, trivial⟩ ?_
 refine c_seq ?_
 refine sr ?_
 refine sm ?_
 refine sm ?_
 refine sq (y_lss rfl et et) ?_
 refine nk ?_
 refine c_cond (b := decide (i1 < n2)) et (fun hb => ?_) (fun hb => ?_)
 ·replace h := ite_t hb h
  refine c_skip ?_
  refine k_same ?_
  refine c_seq ?_
  refine c_block ?_
  refine c_drawX [21, 23] false (.c (0, .q) (.c (1, .q) (.c (2, .q) (.c (3, .q) (.c (4, .q) (.c (5, .q) (.c (6, .q) (.c (7, .q) (.c (8, .q) (.c (9, .q) (.c (10, .q) (.c (11, .q) (.c (12, .q) (.c (13, .q) (.c (14, .q) (.c (15, .q) (.c (16, .q) (.c (17, .q) (.c (18, .q) (.c (19, .q) (.c (20, .q) (.c (21, .s) (.c (22, .q) (.c (23, .s) .n)))))))))))))))))))))))) hI (by kernel_rfl) (by kernel_rfl) ?_
  clear hI; intro w2 hI
  refine a_q rfl gn rfl (fun w' => (y_move rfl et)) ?_
  refine a_q rfl gn rfl (fun w' => (y_move rfl et)) ?_
  refine a_q rfl gn rfl (fun w' => (y_move rfl et)) ?_
  refine a_q rfl gn rfl (fun w' => (y_add rfl et et)) ?_
  refine a_q rfl gn rfl (fun w' => (y_move rfl et)) ?_
  refine a_q rfl gn rfl (fun w' => (y_move rfl et)) ?_
  refine a_q rfl gn rfl (fun w' => (y_move rfl et)) ?_
  refine a_q rfl gn rfl (fun w' => (y_add rfl et et)) ?_
  refine a_q rfl gn rfl (fun w' => (y_move rfl et)) ?_
  refine a_q rfl gn rfl (fun w' => (y_move rfl et)) ?_
  refine a_q rfl gn rfl (fun w' => (y_move rfl et)) ?_
  refine a_q rfl gn rfl (fun w' => (y_add rfl et et)) ?_
  obtain ⟨e1, hx1, h⟩ := bnd_some h
  obtain ⟨ad1, cs1, hA1, hr1, hq1⟩ := (hI.unpin .z).2.olat .z hx1
  obtain rfl : cs1 = [(vi e1)] := hr1
  refine a_q rfl gn rfl (fun w' => (y_indexAddr rfl Tryd.underlying41 size_3 et et (bdn (hI.unpin .z).1 (lat_bd hx1)) hA1)) ?_
  refine a_read rfl gn rfl (fun w' hw' => (y_load1 (v := (vi e1)) rfl et Tryd.underlying3 rfl (hq1.at_ (SX.any rfl hw')))) (by kernel_rfl) ?_
  refine a_q rfl gn rfl (fun w' => (y_move rfl et)) ?_
  refine a_q rfl gn rfl (fun w' => (y_move rfl et)) ?_
  refine a_q rfl gn rfl (fun w' => (y_move rfl et)) ?_
  refine a_q rfl gn rfl (fun w' => (y_add rfl et et)) ?_
  obtain ⟨e2, hx2, h⟩ := bnd_some h
  obtain ⟨ad2, cs2, hA2, hr2, hq2⟩ := (hI.unpin .z).2.olat .z hx2
  obtain rfl : cs2 = [(vi e2)] := hr2
  refine a_q rfl gn rfl (fun w' => (y_indexAddr rfl Tryd.underlying41 size_3 et et (bdn (hI.unpin .z).1 (lat_bd hx2)) hA2)) ?_
  refine a_read rfl gn rfl (fun w' hw' => (y_load1 (v := (vi e2)) rfl et Tryd.underlying3 rfl (hq2.at_ (SX.any rfl hw')))) (by kernel_rfl) ?_
  obtain ⟨ho1, h⟩ := chk_some h
  obtain ⟨ad3, hA3⟩ := (hI.unpin .z).2.addr .z ho1
  refine a_q rfl gn rfl (fun w' => (y_indexAddr rfl Tryd.underlying41 size_3 et et (bdn (hI.unpin .z).1 ho1) hA3)) ?_
  refine a_turn (F := F) (C := c2) rfl rfl ?_
  obtain ⟨hl1, hP⟩ := hI.unpin .z
  refine la_storeRow (p := Int.toNat (wi64 (a2 + i1))) (new := [(vi e1)]) (off := 0) (x' := e1) hP .z rfl gn rfl rfl (by have := ho1; first | omega | (simp only [List.length_set]; omega)) hA3 rfl et et rfl size_3 rfl (by show 0 + 1 ≤ 1; omega) (fun _ cs0 _ hr0 => by rw [spl_full (by have e := Cod.len _ hr0; exact e)]; exact rfl) ?_
  clear hI hP; intro c3 w3 hI
  replace hI := hI.pin .z (lset_len hl1)
  obtain ⟨ho2, h⟩ := chk_some h
  obtain ⟨ad4, hA4⟩ := (hI.unpin .z).2.addr .z ho2
  refine a_q rfl gn rfl (fun w' => (y_indexAddr rfl Tryd.underlying41 size_3 et et (bdn (hI.unpin .z).1 ho2) hA4)) ?_
  obtain ⟨hl2, hP⟩ := hI.unpin .z
  refine la_storeRow (p := Int.toNat (wi64 (b1 + i1))) (new := [(vi e2)]) (off := 0) (x' := e2) hP .z rfl gn rfl rfl (by have := ho2; first | omega | (simp only [List.length_set]; omega)) hA4 rfl et et rfl size_3 rfl (by show 0 + 1 ≤ 1; omega) (fun _ cs0 _ hr0 => by rw [spl_full (by have e := Cod.len _ hr0; exact e)]; exact rfl) ?_
  clear hI hP; intro c4 w4 hI
  replace hI := hI.pin .z (lset_len hl2)
  refine a_nil ?_
  refine k_next (e := [(0, (vs a1 n1 c1)), (1, (vi a2)), (2, (vi b1)), (3, (vi n2)), (10, (vi i1))]) ⟨rfl, rfl, rfl, rfl, rfl, trivial⟩ ?_
  refine c_region rfl ?_
  refine sm ?_
  refine sq (y_add rfl et ev_const) ?_
  refine sa ?_
  refine s_nil ?_
  exact k_loop (fuel1, wi64 (i1 + 1), (l1.set (Int.toNat (wi64 (a2 + i1))) e1).set (Int.toNat (wi64 (b1 + i1))) e2) ⟨rfl, rfl, rfl, rfl, rfl, trivial⟩ ⟨_, hI.arr (.c .z .n) trivial, h⟩ (Nat.lt_succ_self _)
 ·replace h := ite_f hb h
  refine c_exit ?_
  refine k_in ?_
  obtain rfl := some_inj h
  exact q_ret (vs := []) Tryd.results61 trivial ⟨_, rfl, hI.arr (.c .z .n) trivial⟩
set_option maxRecDepth 100000 in
set_option maxHeartbeats 4000000 in
theorem c_slices_rotateCmpFunc_int_w (C0 F : NP) (w0 : World) (data1 : List Int) (a2 : Int) (m1 : Int) (b1 : Int) (cmp1 : (Int → Int → Option Int)) (a1 : Option Addr) (n1 : Nat) (c1 : Nat) (fv1 : Value) (hI : Bun C0 F w0 C0 w0 [MO.prow (cInt .i64) 3 a1 n1 c1 data1] [clFn_k2 fv1 cmp1]) (r : Unit × List Int)
  (h : m_slices_rotateCmpFunc_int_w data1 a2 m1 b1 cmp1 = some r) :
  Calls Tryd.prog 56 #[(vs a1 n1 c1), (vi a2), (vi m1), (vi b1), fv1] w0 fun e w => ∃ (C : NP), e = .returned (Value.tuple #[]) ∧ Bun C0 F w0 C w [MO.prow (cInt .i64) 3 a1 n1 c1 r.2] [] := by
 refine enterK (l := [(vs a1 n1 c1), (vi a2), (vi m1), (vi b1), fv1]) Tryd.func56 rfl Tryd.ntmps56 rfl ?_
 rw [m_slices_rotateCmpFunc_int_w] at h
 refine sr ?_
 refine sm ?_
 refine sm ?_
 refine sq (y_sub rfl et et) ?_
 refine sa ?_
 refine nk ?_
 refine sr ?_
 refine sm ?_
 refine sm ?_
 refine sq (y_sub rfl et et) ?_
 refine sa ?_
 refine nk ?_
 refine c_seq ?_
 refine c_block ?_
 refine c_loop (α := Nat × Int × Int × (List Int)) (fun x => fun w => ∃ C, Bun C0 F w0 C w [MO.prow (cInt .i64) 3 a1 n1 c1 (x.2.2.2)] [clFn_k2 fv1 cmp1] ∧ m_slices_rotateCmpFunc_int_w_l1 m1 cmp1 (x.1) (x.2.1) (x.2.2.1) (x.2.2.2) = some r) (fun x _ => x.1) (fun x => [(0, (vs a1 n1 c1)), (2, (vi m1)), (4, fv1), (10, (vi (x.2.1))), (11, (vi (x.2.2.1)))]) (fu, wi64 (m1 - a2), wi64 (b1 - m1), data1) ⟨_, hI.arr (.c .z .n) ⟨.z, trivial⟩, h⟩ ⟨rfl, rfl, rfl, rfl, rfl, trivial⟩ ?_
 clear h hI; rintro ⟨fuel1, i1, j1, l1⟩ w1 ⟨c2, hI, h⟩
 dsimp only at hI h
 rcases fuel1 with _ | fuel1
 ·rw [m_slices_rotateCmpFunc_int_w_l1] at h; cases h
 rw [m_slices_rotateCmpFunc_int_w_l1] at h
 refine c_sub (e := [(0, (vs a1 n1 c1)), (2, (vi m1)), (4, fv1), (10, (vi i1)), (11, (vi j1))]) ⟨rfl, rfl, rfl, rfl, rfl, trivial⟩ ?_
 refine c_seq ?_
 refine sr ?_
 refine sm ?_
 refine sm ?_
 refine sq (y_neq rfl et et) ?_
 refine nk ?_
 refine c_cond (b := !decide (i1 = j1)) et (fun hb => ?_) (fun hb => ?_)
 ·replace h := ite_t hb h
  refine c_skip ?_
  refine k_same ?_
  refine c_block ?_
  refine sr ?_
  refine sm ?_
  refine sm ?_
  refine sq (y_gtr rfl et et) ?_
  refine nk ?_
  refine c_cond (b := decide (j1 < i1)) et (fun hb => ?_) (fun hb => ?_)
  ·replace h := ite_t hb h
   refine sr ?_
   refine sm ?_
   refine sm ?_
   refine sm ?_
   refine sq (y_sub rfl et et) ?_
   refine sm ?_
   refine sm ?_
   refine sm ?_
   obtain ⟨c3, f1, hB, hl1, hk1⟩ := hI.hands (.l .n)
   obtain ⟨⟨r1, s1⟩, hx1, h⟩ := bnd_some h
   try dsimp only at h
   refine s_call gn rfl (r_callF (vs := [(vs a1 n1 c1), (vi (wi64 (m1 - i1))), (vi m1), (vi j1), fv1]) rfl ok_61 ⟨et, ⟨et, ⟨et, ⟨et, ⟨et, trivial⟩⟩⟩⟩⟩) (Calls.mono (c_slices_swapRangeCmpFunc_int_w c3 f1 w1 l1 (wi64 (m1 - i1)) m1 j1 cmp1 a1 n1 c1 fv1 (hB.subs ⟨.z, trivial⟩) _ hx1) ?_)
   rintro _ w2 ⟨c4, rfl, hB2⟩
   obtain ⟨c5, hs1, hI⟩ := hk1 _ _ _ _ hB2
   replace hI : Bun C0 F w0 c5 w2 [MO.prow (cInt .i64) 3 a1 n1 c1 s1] [clFn_k2 fv1 cmp1] := hI
   refine ⟨_, rfl, ?_⟩
   refine nk ?_
   refine c_region rfl ?_
   refine sm ?_
   refine sm ?_
   refine sq (y_sub rfl et et) ?_
   refine sa ?_
   refine s_nil ?_
   exact k_loop (fuel1, wi64 (i1 - j1), j1, s1) ⟨rfl, rfl, rfl, rfl, rfl, trivial⟩ ⟨_, hI.arr (.c .z .n) ⟨.z, trivial⟩, h⟩ (Nat.lt_succ_self _)
  ·replace h := ite_f hb h
   refine sr ?_
   refine sm ?_
   refine sm ?_
   refine sm ?_
   refine sq (y_sub rfl et et) ?_
   refine sm ?_
   refine sm ?_
   refine sq (y_add rfl et et) ?_
   refine sm ?_
   refine sq (y_sub rfl et et) ?_
   refine sm ?_
   refine sm ?_
   obtain ⟨c6, f2, hB, hl2, hk2⟩ := hI.hands (.l .n)
   obtain ⟨⟨r2, s2⟩, hx2, h⟩ := bnd_some h
   try dsimp only at h
   refine s_call gn rfl (r_callF (vs := [(vs a1 n1 c1), (vi (wi64 (m1 - i1))), (vi (wi64 ((wi64 (m1 + j1)) - i1))), (vi i1), fv1]) rfl ok_61 ⟨et, ⟨et, ⟨et, ⟨et, ⟨et, trivial⟩⟩⟩⟩⟩) (Calls.mono (c_slices_swapRangeCmpFunc_int_w c6 f2 w1 l1 (wi64 (m1 - i1)) (wi64 ((wi64 (m1 + j1)) - i1)) i1 cmp1 a1 n1 c1 fv1 (hB.subs ⟨.z, trivial⟩) _ hx2) ?_)
   rintro _ w3 ⟨c7, rfl, hB2⟩
   obtain ⟨c8, hs2, hI⟩ := hk2 _ _ _ _ hB2
   replace hI : Bun C0 F w0 c8 w3 [MO.prow (cInt .i64) 3 a1 n1 c1 s2] [clFn_k2 fv1 cmp1] := hI
   refine ⟨_, rfl, ?_⟩
   refine nk ?_
   refine c_region rfl ?_
   refine sm ?_
   refine sm ?_
   refine sq (y_sub rfl et et) ?_
   refine sa ?_
   refine s_nil ?_
   exact k_loop (fuel1, i1, wi64 (j1 - i1), s2) ⟨rfl, rfl, rfl, rfl, rfl, trivial⟩ ⟨_, hI.arr (.c .z .n) ⟨.z, trivial⟩, h⟩ (Nat.lt_succ_self _)
 ·replace h := ite_f hb h
  refine c_exit ?_
  refine k_in ?_
  refine k_same ?_
  refine c_region rfl ?_
  refine sm ?_
  refine sm ?_
  refine sm ?_
  refine sq (y_sub rfl et et) ?_
  refine sm ?_
  refine sm ?_
  refine sm ?_
  obtain ⟨c9, f3, hB, hl3, hk3⟩ := hI.hands (.l .n)
  obtain ⟨⟨r3, s3⟩, hx3, h⟩ := bnd_some h
  try dsimp only at h
  refine s_call gn rfl (r_callF (vs := [(vs a1 n1 c1), (vi (wi64 (m1 - i1))), (vi m1), (vi i1), fv1]) rfl ok_61 ⟨et, ⟨et, ⟨et, ⟨et, ⟨et, trivial⟩⟩⟩⟩⟩) (Calls.mono (c_slices_swapRangeCmpFunc_int_w c9 f3 w1 l1 (wi64 (m1 - i1)) m1 i1 cmp1 a1 n1 c1 fv1 (hB.subs ⟨.z, trivial⟩) _ hx3) ?_)
  rintro _ w4 ⟨c10, rfl, hB2⟩
  obtain ⟨c11, hs3, hI⟩ := hk3 _ _ _ _ hB2
  replace hI : Bun C0 F w0 c11 w4 [MO.prow (cInt .i64) 3 a1 n1 c1 s3] [clFn_k2 fv1 cmp1] := hI
  refine ⟨_, rfl, ?_⟩
  refine s_nil ?_
  obtain rfl := some_inj h
  exact q_ret (vs := []) Tryd.results56 trivial ⟨_, rfl, hI.arr (.c .z .n) trivial⟩
set_option maxRecDepth 100000 in
set_option maxHeartbeats 4000000 in
theorem c_slices_symMergeCmpFunc_int_w_b (rec_ : ((List Int) → Int → Int → Int → (Int → Int → Option Int) → Option (Unit × List Int))) (hrec : ∀ (C0 F : NP) (w0 : World) (data1 : List Int) (a2 : Int) (m1 : Int) (b1 : Int) (cmp1 : (Int → Int → Option Int)) (a1 : Option Addr) (n1 : Nat) (c1 : Nat) (fv1 : Value) (hI : Bun C0 F w0 C0 w0 [MO.prow (cInt .i64) 3 a1 n1 c1 data1] [clFn_k2 fv1 cmp1]) (r : Unit × List Int) (h : rec_ data1 a2 m1 b1 cmp1 = some r), Calls Tryd.prog 52 #[(vs a1 n1 c1), (vi a2), (vi m1), (vi b1), fv1] w0 fun e w => ∃ (C : NP), e = .returned (Value.tuple #[]) ∧ Bun C0 F w0 C w [MO.prow (cInt .i64) 3 a1 n1 c1 r.2] [])
  (C0 F : NP) (w0 : World) (data1 : List Int) (a2 : Int) (m1 : Int) (b1 : Int) (cmp1 : (Int → Int → Option Int)) (a1 : Option Addr) (n1 : Nat) (c1 : Nat) (fv1 : Value) (hI : Bun C0 F w0 C0 w0 [MO.prow (cInt .i64) 3 a1 n1 c1 data1] [clFn_k2 fv1 cmp1]) (r : Unit × List Int) (h : m_slices_symMergeCmpFunc_int_w_b rec_ data1 a2 m1 b1 cmp1 = some r) : Calls Tryd.prog 52 #[(vs a1 n1 c1), (vi a2), (vi m1), (vi b1), fv1] w0 fun e w => ∃ (C : NP), e = .returned (Value.tuple #[]) ∧ Bun C0 F w0 C w [MO.prow (cInt .i64) 3 a1 n1 c1 r.2] [] := by
 refine enterK (l := [(vs a1 n1 c1), (vi a2), (vi m1), (vi b1), fv1]) Tryd.func52 rfl Tryd.ntmps52 rfl ?_
 rw [m_slices_symMergeCmpFunc_int_w_b] at h
 refine c_join (α := Unit) (fun _ => ⟨220, []⟩) (fun _ => [(0, (vs a1 n1 c1)), (1, (vi a2)), (2, (vi m1)), (3, (vi b1)), (4, fv1)]) (fun _ => fun w => ∃ C, Bun C0 F w0 C w [MO.prow (cInt .i64) 3 a1 n1 c1 data1] [clFn_k2 fv1 cmp1] ∧ m_slices_symMergeCmpFunc_int_w_j1 b1 m1 data1 cmp1 a2 rec_ = some r) ?_ ?_
 ·clear h hI; rintro _ w1 ⟨c2, hI, h⟩
  try dsimp only at hI h
  rw [m_slices_symMergeCmpFunc_int_w_j1] at h
  refine c_sub (e := [(0, (vs a1 n1 c1)), (1, (vi a2)), (2, (vi m1)), (3, (vi b1)), (4, fv1)]) ⟨rfl, rfl, rfl, rfl, rfl, trivial⟩ ?_
  refine c_join (α := Unit) (fun _ => ⟨220, []⟩) (fun _ => [(0, (vs a1 n1 c1)), (1, (vi a2)), (2, (vi m1)), (3, (vi b1)), (4, fv1)]) (fun _ => fun w => ∃ C, Bun C0 F w0 C w [MO.prow (cInt .i64) 3 a1 n1 c1 data1] [clFn_k2 fv1 cmp1] ∧ m_slices_symMergeCmpFunc_int_w_j2 a2 b1 m1 data1 cmp1 rec_ = some r) ?_ ?_
  ·clear h hI; rintro _ w2 ⟨c3, hI, h⟩
   try dsimp only at hI h
   rw [m_slices_symMergeCmpFunc_int_w_j2] at h
   refine c_sub (e := [(0, (vs a1 n1 c1)), (1, (vi a2)), (2, (vi m1)), (3, (vi b1)), (4, fv1)]) ⟨rfl, rfl, rfl, rfl, rfl, trivial⟩ ?_
   refine sr ?_
   refine sm ?_
   refine sm ?_
   refine sq (y_add rfl et et) ?_
   refine sq (y_conv rfl (by rw [Tryd.underlying3]; rfl) Tryd.underlying75 et) ?_
   refine sq (y_shrc (s := 1) rfl et ev_const (by decide) rfl) ?_
   refine sq (y_conv rfl (by rw [Tryd.underlying75]; rfl) Tryd.underlying3 et) ?_
   obtain ⟨mid1, hx1, h⟩ := bnd_some h
   refine sq (binU (y_assign rfl et) (congrArg (Value.int .i64) (some_inj hx1))) ?_
   refine nk ?_
   refine sr ?_
   refine sm ?_
   refine sm ?_
   refine sq (y_add rfl et et) ?_
   refine sa ?_
   refine nk ?_
   refine sr ?_
   refine sac ?_
   refine sac ?_
   refine nk ?_
   refine c_join (α := Int × Int) (fun _ => ⟨220, []⟩) (fun x => [(0, (vs a1 n1 c1)), (1, (vi a2)), (2, (vi m1)), (3, (vi b1)), (4, fv1), (18, (vi mid1)), (19, (vi (wi64 (mid1 + m1)))), (20, (vi (x.1))), (21, (vi (x.2)))]) (fun x => fun w => ∃ C, Bun C0 F w0 C w [MO.prow (cInt .i64) 3 a1 n1 c1 data1] [clFn_k2 fv1 cmp1] ∧ m_slices_symMergeCmpFunc_int_w_j3 mid1 m1 data1 cmp1 a2 rec_ b1 (x.1) (x.2) = some r) ?_ ?_
   ·clear h hI; rintro ⟨start1, r1⟩ w3 ⟨c4, hI, h⟩
    try dsimp only at hI h
    rw [m_slices_symMergeCmpFunc_int_w_j3] at h
    refine c_sub (e := [(0, (vs a1 n1 c1)), (1, (vi a2)), (2, (vi m1)), (3, (vi b1)), (4, fv1), (18, (vi mid1)), (19, (vi (wi64 (mid1 + m1)))), (20, (vi start1)), (21, (vi r1))]) ⟨rfl, rfl, rfl, rfl, rfl, rfl, rfl, rfl, rfl, trivial⟩ ?_
    refine sr ?_
    refine sm ?_
    refine sq (y_sub rfl et ev_const) ?_
    obtain ⟨p1, hx2, h⟩ := bnd_some h
    refine sq (binU (y_assign rfl et) (congrArg (Value.int .i64) (some_inj hx2))) ?_
    refine nk ?_
    refine c_join (α := Int) (fun _ => ⟨220, []⟩) (fun x => [(0, (vs a1 n1 c1)), (1, (vi a2)), (2, (vi m1)), (3, (vi b1)), (4, fv1), (18, (vi mid1)), (19, (vi (wi64 (mid1 + m1)))), (20, (vi x))]) (fun x => fun w => ∃ C, Bun C0 F w0 C w [MO.prow (cInt .i64) 3 a1 n1 c1 data1] [clFn_k2 fv1 cmp1] ∧ m_slices_symMergeCmpFunc_int_w_j4 mid1 m1 data1 cmp1 a2 rec_ b1 x = some r) ?_ ?_
    ·clear h hI; rintro start2 w4 ⟨c5, hI, h⟩
     try dsimp only at hI h
     rw [m_slices_symMergeCmpFunc_int_w_j4] at h
     refine c_sub (e := [(0, (vs a1 n1 c1)), (1, (vi a2)), (2, (vi m1)), (3, (vi b1)), (4, fv1), (18, (vi mid1)), (19, (vi (wi64 (mid1 + m1)))), (20, (vi start2))]) ⟨rfl, rfl, rfl, rfl, rfl, rfl, rfl, rfl, trivial⟩ ?_
     refine sr ?_
     refine sm ?_
     refine sm ?_
     refine sq (y_sub rfl et et) ?_
     obtain ⟨end1, hx3, h⟩ := bnd_some h
     refine sq (binU (y_assign rfl et) (congrArg (Value.int .i64) (some_inj hx3))) ?_
     refine nk ?_
     refine c_join (α := (List Int)) (fun _ => ⟨220, []⟩) (fun x => [(0, (vs a1 n1 c1)), (1, (vi a2)), (3, (vi b1)), (4, fv1), (18, (vi mid1)), (20, (vi start2)), (24, (vi end1))]) (fun x => fun w => ∃ C, Bun C0 F w0 C w [MO.prow (cInt .i64) 3 a1 n1 c1 x] [clFn_k2 fv1 cmp1] ∧ m_slices_symMergeCmpFunc_int_w_j5 a2 start2 mid1 rec_ cmp1 end1 b1 x = some r) ?_ ?_
     ·clear h hI; rintro l1 w5 ⟨c6, hI, h⟩
      try dsimp only at hI h
      rw [m_slices_symMergeCmpFunc_int_w_j5] at h
      refine c_sub (e := [(0, (vs a1 n1 c1)), (1, (vi a2)), (3, (vi b1)), (4, fv1), (18, (vi mid1)), (20, (vi start2)), (24, (vi end1))]) ⟨rfl, rfl, rfl, rfl, rfl, rfl, rfl, trivial⟩ ?_
      refine c_join (α := (List Int)) (fun _ => ⟨220, []⟩) (fun x => [(0, (vs a1 n1 c1)), (3, (vi b1)), (4, fv1), (18, (vi mid1)), (24, (vi end1))]) (fun x => fun w => ∃ C, Bun C0 F w0 C w [MO.prow (cInt .i64) 3 a1 n1 c1 x] [clFn_k2 fv1 cmp1] ∧ m_slices_symMergeCmpFunc_int_w_j6 mid1 end1 b1 rec_ cmp1 x = some r) ?_ ?_
      ·clear h hI; rintro l2 w6 ⟨c7, hI, h⟩
       try dsimp only at hI h
       rw [m_slices_symMergeCmpFunc_int_w_j6] at h
       refine c_sub (e := [(0, (vs a1 n1 c1)), (3, (vi b1)), (4, fv1), (18, (vi mid1)), (24, (vi end1))]) ⟨rfl, rfl, rfl, rfl, rfl, trivial⟩ ?_
       refine sr ?_
       refine sm ?_
       refine sm ?_
       refine sq (y_lss rfl et et) ?_
       refine sm ?_
       refine s_gval (g_true rfl rfl rfl rfl) rfl (fun hc => (y_move rfl et)) ?_
       refine s_gval (g_true rfl rfl rfl rfl) rfl (fun hc => (y_move rfl et)) ?_
       refine s_gval (g_true rfl rfl rfl rfl) rfl (fun hc => (y_lss rfl (ev_gv et hc) (ev_gv et hc))) ?_
       refine sq (y_and rfl et et) ?_
       refine nk ?_
       refine c_cond (b := (decide (mid1 < end1)) && (decide (end1 < b1))) et (fun hb => ?_) (fun hb => ?_)
       ·replace h := ite_t hb h
        refine c_region rfl ?_
        refine sm ?_
        refine sm ?_
        refine sm ?_
        refine sm ?_
        refine sm ?_
        obtain ⟨c8, f1, hB, hl1, hk1⟩ := hI.hands (.l .n)
        obtain ⟨⟨r2, s1⟩, hx4, h⟩ := bnd_some h
        try dsimp only at h
        refine s_call gn rfl (r_callF (vs := [(vs a1 n1 c1), (vi mid1), (vi end1), (vi b1), fv1]) rfl ok_52 ⟨et, ⟨et, ⟨et, ⟨et, ⟨et, trivial⟩⟩⟩⟩⟩) (Calls.mono (hrec c8 f1 w6 l2 mid1 end1 b1 cmp1 a1 n1 c1 fv1 (hB.subs ⟨.z, trivial⟩) _ hx4) ?_)
        rintro _ w7 ⟨c9, rfl, hB2⟩
        obtain ⟨c10, hs1, hI⟩ := hk1 _ _ _ _ hB2
        replace hI : Bun C0 F w0 c10 w7 [MO.prow (cInt .i64) 3 a1 n1 c1 s1] [clFn_k2 fv1 cmp1] := hI
        refine ⟨_, rfl, ?_⟩
        refine s_nil ?_
        obtain rfl := some_inj h
        exact q_ret (vs := []) Tryd.results52 trivial ⟨_, rfl, hI.arr (.c .z .n) trivial⟩
       ·replace h := ite_f hb h
        refine c_skip ?_
        obtain rfl := some_inj h
        exact q_ret (vs := []) Tryd.results52 trivial ⟨_, rfl, hI.arr (.c .z .n) trivial⟩
      ·skip
       refine sr ?_
       refine sm ?_
       refine sm ?_
       refine sq (y_lss rfl et et) ?_
       refine sm ?_
       refine s_gval (g_true rfl rfl rfl rfl) rfl (fun hc => (y_move rfl et)) ?_
       refine s_gval (g_true rfl rfl rfl rfl) rfl (fun hc => (y_move rfl et)) ?_
       refine s_gval (g_true rfl rfl rfl rfl) rfl (fun hc => (y_lss rfl (ev_gv et hc) (ev_gv et hc))) ?_
       refine sq (y_and rfl et et) ?_
       refine nk ?_
       refine c_cond (b := (decide (a2 < start2)) && (decide (start2 < mid1))) et (fun hb => ?_) (fun hb => ?_)
       ·replace h := ite_t hb h
        refine c_region rfl ?_
        refine sm ?_
        refine sm ?_
        refine sm ?_
        refine sm ?_
        refine sm ?_
        obtain ⟨c11, f2, hB, hl2, hk2⟩ := hI.hands (.l .n)
        obtain ⟨⟨r3, s2⟩, hx5, h⟩ := bnd_some h
        try dsimp only at h
        refine s_call gn rfl (r_callF (vs := [(vs a1 n1 c1), (vi a2), (vi start2), (vi mid1), fv1]) rfl ok_52 ⟨et, ⟨et, ⟨et, ⟨et, ⟨et, trivial⟩⟩⟩⟩⟩) (Calls.mono (hrec c11 f2 w5 l1 a2 start2 mid1 cmp1 a1 n1 c1 fv1 (hB.subs ⟨.z, trivial⟩) _ hx5) ?_)
        rintro _ w8 ⟨c12, rfl, hB2⟩
        obtain ⟨c13, hs2, hI⟩ := hk2 _ _ _ _ hB2
        replace hI : Bun C0 F w0 c13 w8 [MO.prow (cInt .i64) 3 a1 n1 c1 s2] [clFn_k2 fv1 cmp1] := hI
        refine ⟨_, rfl, ?_⟩
        refine s_nil ?_
        exact k_join s2 ⟨rfl, rfl, rfl, rfl, rfl, trivial⟩ ⟨_, hI.arr (.c .z .n) ⟨.z, trivial⟩, h⟩ rfl
       ·replace h := ite_f hb h
        refine c_skip ?_
        exact k_join l1 ⟨rfl, rfl, rfl, rfl, rfl, trivial⟩ ⟨_, hI.arr (.c .z .n) ⟨.z, trivial⟩, h⟩ rfl
     ·skip
      refine sr ?_
      refine sm ?_
      refine sm ?_
      refine sq (y_lss rfl et et) ?_
      refine sm ?_
      refine s_gval (g_true rfl rfl rfl rfl) rfl (fun hc => (y_move rfl et)) ?_
      refine s_gval (g_true rfl rfl rfl rfl) rfl (fun hc => (y_move rfl et)) ?_
      refine s_gval (g_true rfl rfl rfl rfl) rfl (fun hc => (y_lss rfl (ev_gv et hc) (ev_gv et hc))) ?_
      refine sq (y_and rfl et et) ?_
      refine nk ?_
      refine c_cond (b := (decide (start2 < m1)) && (decide (m1 < end1))) et (fun hb => ?_) (fun hb => ?_)
      ·replace h := ite_t hb h
       refine c_region rfl ?_
       refine sm ?_
       refine sm ?_
       refine sm ?_
       refine sm ?_
       refine sm ?_
       obtain ⟨c14, f3, hB, hl3, hk3⟩ := hI.hands (.l .n)
       obtain ⟨⟨r4, s3⟩, hx6, h⟩ := bnd_some h
       try dsimp only at h
       refine s_call gn rfl (r_callF (vs := [(vs a1 n1 c1), (vi start2), (vi m1), (vi end1), fv1]) rfl ok_56 ⟨et, ⟨et, ⟨et, ⟨et, ⟨et, trivial⟩⟩⟩⟩⟩) (Calls.mono (c_slices_rotateCmpFunc_int_w c14 f3 w4 data1 start2 m1 end1 cmp1 a1 n1 c1 fv1 (hB.subs ⟨.z, trivial⟩) _ hx6) ?_)
       rintro _ w9 ⟨c15, rfl, hB2⟩
       obtain ⟨c16, hs3, hI⟩ := hk3 _ _ _ _ hB2
       replace hI : Bun C0 F w0 c16 w9 [MO.prow (cInt .i64) 3 a1 n1 c1 s3] [clFn_k2 fv1 cmp1] := hI
       refine ⟨_, rfl, ?_⟩
       refine s_nil ?_
       exact k_join s3 ⟨rfl, rfl, rfl, rfl, rfl, rfl, rfl, trivial⟩ ⟨_, hI.arr (.c .z .n) ⟨.z, trivial⟩, h⟩ rfl
      ·replace h := ite_f hb h
       refine c_skip ?_
       exact k_join data1 ⟨rfl, rfl, rfl, rfl, rfl, rfl, rfl, trivial⟩ ⟨_, hI.arr (.c .z .n) ⟨.z, trivial⟩, h⟩ rfl
    ·skip
     refine c_block ?_
     refine c_loop (α := Nat × Int × Int) (fun x => fun w => ∃ C, Bun C0 F w0 C w [MO.prow (cInt .i64) 3 a1 n1 c1 data1] [clFn_k2 fv1 cmp1] ∧ m_slices_symMergeCmpFunc_int_w_l1 data1 p1 cmp1 mid1 m1 a2 rec_ b1 (x.1) (x.2.1) (x.2.2) = some r) (fun x _ => x.1) (fun x => [(0, (vs a1 n1 c1)), (1, (vi a2)), (2, (vi m1)), (3, (vi b1)), (4, fv1), (18, (vi mid1)), (19, (vi (wi64 (mid1 + m1)))), (20, (vi (x.2.1))), (21, (vi (x.2.2))), (22, (vi p1))]) (fu, start1, r1) ⟨_, hI.arr (.c .z .n) ⟨.z, trivial⟩, h⟩ ⟨rfl, rfl, rfl, rfl, rfl, rfl, rfl, rfl, rfl, rfl, trivial⟩ ?_
     clear h hI; rintro ⟨fuel1, start3, r5⟩ w10 ⟨c17, hI, h⟩
     dsimp only at hI h
     rcases fuel1 with _ | fuel1
     ·rw [m_slices_symMergeCmpFunc_int_w_l1] at h; cases h
     rw [m_slices_symMergeCmpFunc_int_w_l1] at h
     refine c_sub (e := [(0, (vs a1 n1 c1)), (1, (vi a2)), (2, (vi m1)), (3, (vi b1)), (4, fv1), (18, (vi mid1)), (19, (vi (wi64 (mid1 + m1)))), (20, (vi start3)), (21, (vi r5)), (22, (vi p1))]) ⟨rfl, rfl, rfl, rfl, rfl, rfl, rfl, rfl, rfl, rfl, trivial⟩ ?_
     refine c_seq ?_
     refine sr ?_
     refine sm ?_
     refine sm ?_
     refine sq (y_lss rfl et et) ?_
     refine nk ?_
     refine c_cond (b := decide (start3 < r5)) et (fun hb => ?_) (fun hb => ?_)
     ·replace h := ite_t hb h
      refine c_skip ?_
      refine k_same ?_
      refine c_block ?_
      refine sr ?_
      refine sm ?_
      refine sm ?_
      refine sq (y_add rfl et et) ?_
      refine sq (y_conv rfl (by rw [Tryd.underlying3]; rfl) Tryd.underlying75 et) ?_
      refine sq (y_shrc (s := 1) rfl et ev_const (by decide) rfl) ?_
      refine sq (y_conv rfl (by rw [Tryd.underlying75]; rfl) Tryd.underlying3 et) ?_
      obtain ⟨c18, hx7, h⟩ := bnd_some h
      refine sq (binU (y_assign rfl et) (congrArg (Value.int .i64) (some_inj hx7))) ?_
      refine nk ?_
      refine c_seq ?_
      refine c_drawX [] false (.c (0, .q) (.c (1, .q) (.c (2, .q) (.c (3, .q) (.c (4, .q) (.c (5, .q) (.c (6, .q) (.c (7, .q) (.c (8, .q) (.c (9, .q) (.c (10, .q) (.c (11, .s) (.c (12, .q) (.c (13, .q) .n)))))))))))))) hI (by kernel_rfl) (by kernel_rfl) ?_
      clear hI; intro w11 hI
      refine a_q rfl gn rfl (fun w' => (y_move rfl et)) ?_
      refine a_q rfl gn rfl (fun w' => (y_move rfl et)) ?_
      refine a_q rfl gn rfl (fun w' => (y_move rfl et)) ?_
      refine a_q rfl gn rfl (fun w' => (y_move rfl et)) ?_
      refine a_q rfl gn rfl (fun w' => (y_sub rfl et et)) ?_
      obtain ⟨e1, hx8, h⟩ := bnd_some h
      obtain ⟨ad1, cs1, hA1, hr1, hq1⟩ := (hI.unpin .z).2.olat .z hx8
      obtain rfl : cs1 = [(vi e1)] := hr1
      refine a_q rfl gn rfl (fun w' => (y_indexAddr rfl Tryd.underlying41 size_3 et et (bdn (hI.unpin .z).1 (lat_bd hx8)) hA1)) ?_
      refine a_read rfl gn rfl (fun w' hw' => (y_load1 (v := (vi e1)) rfl et Tryd.underlying3 rfl (hq1.at_ (SX.any rfl hw')))) (by kernel_rfl) ?_
      refine a_q rfl gn rfl (fun w' => (y_move rfl et)) ?_
      refine a_q rfl gn rfl (fun w' => (y_move rfl et)) ?_
      obtain ⟨e2, hx9, h⟩ := bnd_some h
      obtain ⟨ad2, cs2, hA2, hr2, hq2⟩ := (hI.unpin .z).2.olat .z hx9
      obtain rfl : cs2 = [(vi e2)] := hr2
      refine a_q rfl gn rfl (fun w' => (y_indexAddr rfl Tryd.underlying41 size_3 et et (bdn (hI.unpin .z).1 (lat_bd hx9)) hA2)) ?_
      refine a_read rfl gn rfl (fun w' hw' => (y_load1 (v := (vi e2)) rfl et Tryd.underlying3 rfl (hq2.at_ (SX.any rfl hw')))) (by kernel_rfl) ?_
      obtain ⟨r6, hx10, h⟩ := bnd_some h
      refine la_callV (args := [(vi e1), (vi e2)]) rfl gn rfl rfl et ⟨et, ⟨et, trivial⟩⟩ (CallV.mono ((hI.get .z).2 (Dj F c17) w11 (Sp.of_ext .rfl') hI.lt e1 e2 r6 trivial hx10) ?_)
      rintro _ w12 ⟨rfl, hx11, hl4⟩
      refine ⟨_, rfl, _, Sp.of_ext hx11, ?_⟩
      replace hI := (hI.ext hx11)
      refine a_q rfl gn rfl (fun w' => (y_lss rfl et ev_const)) ?_
      refine a_q rfl gn rfl (fun w' => (y_not rfl et)) ?_
      refine a_nil ?_
      refine k_same ?_
      refine c_cond (b := !(decide (r6 < 0))) et (fun hb => ?_) (fun hb => ?_)
      ·replace h := ite_t hb h
       refine c_region rfl ?_
       refine sm ?_
       refine sq (y_add rfl et ev_const) ?_
       refine sa ?_
       refine s_nil ?_
       exact k_loop (fuel1, wi64 (c18 + 1), r5) ⟨rfl, rfl, rfl, rfl, rfl, rfl, rfl, rfl, rfl, rfl, trivial⟩ ⟨_, hI.arr (.c .z .n) ⟨.z, trivial⟩, h⟩ (Nat.lt_succ_self _)
      ·replace h := ite_f hb h
       refine c_region rfl ?_
       refine sm ?_
       refine sa ?_
       refine s_nil ?_
       exact k_loop (fuel1, start3, c18) ⟨rfl, rfl, rfl, rfl, rfl, rfl, rfl, rfl, rfl, rfl, trivial⟩ ⟨_, hI.arr (.c .z .n) ⟨.z, trivial⟩, h⟩ (Nat.lt_succ_self _)
     ·replace h := ite_f hb h
      refine c_exit ?_
      refine k_in ?_
      exact k_join start3 ⟨rfl, rfl, rfl, rfl, rfl, rfl, rfl, rfl, trivial⟩ ⟨_, hI.arr (.c .z .n) ⟨.z, trivial⟩, h⟩ rfl
   ·skip
    refine sr ?_
    refine sm ?_
    refine sm ?_
    refine sq (y_gtr rfl et et) ?_
    refine nk ?_
    refine c_cond (b := decide (mid1 < m1)) et (fun hb => ?_) (fun hb => ?_)
    ·replace h := ite_t hb h
     refine sr ?_
     refine sm ?_
     refine sm ?_
     refine sq (y_sub rfl et et) ?_
     obtain ⟨start4, hx12, h⟩ := bnd_some h
     refine sq (binU (y_assign rfl et) (congrArg (Value.int .i64) (some_inj hx12))) ?_
     refine nk ?_
     refine c_region rfl ?_
     refine sm ?_
     refine sa ?_
     refine s_nil ?_
     exact k_join (start4, mid1) ⟨rfl, rfl, rfl, rfl, rfl, rfl, rfl, rfl, rfl, trivial⟩ ⟨_, hI.arr (.c .z .n) ⟨.z, trivial⟩, h⟩ rfl
    ·replace h := ite_f hb h
     refine sr ?_
     refine sm ?_
     refine sa ?_
     refine nk ?_
     refine c_region rfl ?_
     refine sm ?_
     refine sa ?_
     refine s_nil ?_
     exact k_join (a2, m1) ⟨rfl, rfl, rfl, rfl, rfl, rfl, rfl, rfl, rfl, trivial⟩ ⟨_, hI.arr (.c .z .n) ⟨.z, trivial⟩, h⟩ rfl
  ·skip
   refine sr ?_
   refine sm ?_
   refine sm ?_
   refine sq (y_sub rfl et et) ?_
   refine sq (y_eql rfl et ev_const) ?_
   refine nk ?_
   refine c_cond (b := decide (wi64 (b1 - m1) = 1)) et (fun hb => ?_) (fun hb => ?_)
   ·replace h := ite_t hb h
    refine sr ?_
    refine sm ?_
    refine sa ?_
    refine nk ?_
    refine sr ?_
    refine sm ?_
    refine sa ?_
    refine nk ?_
    refine c_join (α := Int) (fun _ => ⟨220, []⟩) (fun x => [(0, (vs a1 n1 c1)), (2, (vi m1)), (14, (vi x))]) (fun x => fun w => ∃ C, Bun C0 F w0 C w [MO.prow (cInt .i64) 3 a1 n1 c1 data1] [] ∧ m_slices_symMergeCmpFunc_int_w_j7 m1 data1 x = some r) ?_ ?_
    ·clear h hI; rintro i1 w13 ⟨c19, hI, h⟩
     try dsimp only at hI h
     rw [m_slices_symMergeCmpFunc_int_w_j7] at h
     refine c_sub (e := [(0, (vs a1 n1 c1)), (2, (vi m1)), (14, (vi i1))]) ⟨rfl, rfl, rfl, trivial⟩ ?_
     refine c_seq ?_
     refine sr ?_
     refine sm ?_
     refine sa ?_
     refine nk ?_
     refine c_block ?_
     refine c_loop (α := Nat × Int × (List Int)) (fun x => fun w => ∃ C, Bun C0 F w0 C w [MO.prow (cInt .i64) 3 a1 n1 c1 (x.2.2)] [] ∧ m_slices_symMergeCmpFunc_int_w_l2 i1 (x.1) (x.2.1) (x.2.2) = some r) (fun x _ => x.1) (fun x => [(0, (vs a1 n1 c1)), (14, (vi i1)), (17, (vi (x.2.1)))]) (fu, m1, data1) ⟨_, hI.arr (.c .z .n) trivial, h⟩ ⟨rfl, rfl, rfl, trivial⟩ ?_
     clear h hI; rintro ⟨fuel2, k1, l3⟩ w14 ⟨c20, hI, h⟩
     dsimp only at hI h
     rcases fuel2 with _ | fuel2
     ·rw [m_slices_symMergeCmpFunc_int_w_l2] at h; cases h
     rw [m_slices_symMergeCmpFunc_int_w_l2] at h
     refine c_sub (e := [(0, (vs a1 n1 c1)), (14, (vi i1)), (17, (vi k1))]) ⟨rfl, rfl, rfl, trivial⟩ ?_
     refine c_seq ?_
     refine sr ?_
     refine sm ?_
     refine sm ?_
     refine sq (y_gtr rfl et et) ?_
     refine nk ?_
     refine c_cond (b := decide (i1 < k1)) et (fun hb => ?_) (fun hb => ?_)
     ·replace h := ite_t hb h
      refine c_skip ?_
      refine k_same ?_
      refine c_seq ?_
      refine c_block ?_
      refine c_drawX [15, 17] false (.c (0, .q) (.c (1, .q) (.c (2, .q) (.c (3, .q) (.c (4, .q) (.c (5, .q) (.c (6, .q) (.c (7, .q) (.c (8, .q) (.c (9, .q) (.c (10, .q) (.c (11, .q) (.c (12, .q) (.c (13, .q) (.c (14, .q) (.c (15, .s) (.c (16, .q) (.c (17, .s) .n)))))))))))))))))) hI (by kernel_rfl) (by kernel_rfl) ?_
      clear hI; intro w15 hI
      refine a_q rfl gn rfl (fun w' => (y_move rfl et)) ?_
      refine a_q rfl gn rfl (fun w' => (y_move rfl et)) ?_
      refine a_q rfl gn rfl (fun w' => (y_move rfl et)) ?_
      refine a_q rfl gn rfl (fun w' => (y_move rfl et)) ?_
      refine a_q rfl gn rfl (fun w' => (y_sub rfl et ev_const)) ?_
      refine a_q rfl gn rfl (fun w' => (y_move rfl et)) ?_
      refine a_q rfl gn rfl (fun w' => (y_move rfl et)) ?_
      refine a_q rfl gn rfl (fun w' => (y_sub rfl et ev_const)) ?_
      obtain ⟨e3, hx13, h⟩ := bnd_some h
      obtain ⟨ad3, cs3, hA3, hr3, hq3⟩ := (hI.unpin .z).2.olat .z hx13
      obtain rfl : cs3 = [(vi e3)] := hr3
      refine a_q rfl gn rfl (fun w' => (y_indexAddr rfl Tryd.underlying41 size_3 et et (bdn (hI.unpin .z).1 (lat_bd hx13)) hA3)) ?_
      refine a_read rfl gn rfl (fun w' hw' => (y_load1 (v := (vi e3)) rfl et Tryd.underlying3 rfl (hq3.at_ (SX.any rfl hw')))) (by kernel_rfl) ?_
      refine a_q rfl gn rfl (fun w' => (y_move rfl et)) ?_
      refine a_q rfl gn rfl (fun w' => (y_move rfl et)) ?_
      obtain ⟨e4, hx14, h⟩ := bnd_some h
      obtain ⟨ad4, cs4, hA4, hr4, hq4⟩ := (hI.unpin .z).2.olat .z hx14
      obtain rfl : cs4 = [(vi e4)] := hr4
      refine a_q rfl gn rfl (fun w' => (y_indexAddr rfl Tryd.underlying41 size_3 et et (bdn (hI.unpin .z).1 (lat_bd hx14)) hA4)) ?_
      refine a_read rfl gn rfl (fun w' hw' => (y_load1 (v := (vi e4)) rfl et Tryd.underlying3 rfl (hq4.at_ (SX.any rfl hw')))) (by kernel_rfl) ?_
      obtain ⟨ho1, h⟩ := chk_some h
      obtain ⟨ad5, hA5⟩ := (hI.unpin .z).2.addr .z ho1
      refine a_q rfl gn rfl (fun w' => (y_indexAddr rfl Tryd.underlying41 size_3 et et (bdn (hI.unpin .z).1 ho1) hA5)) ?_
      refine a_turn (F := F) (C := c20) rfl rfl ?_
      obtain ⟨hl5, hP⟩ := hI.unpin .z
      refine la_storeRow (p := Int.toNat k1) (new := [(vi e3)]) (off := 0) (x' := e3) hP .z rfl gn rfl rfl (by have := ho1; first | omega | (simp only [List.length_set]; omega)) hA5 rfl et et rfl size_3 rfl (by show 0 + 1 ≤ 1; omega) (fun _ cs0 _ hr0 => by rw [spl_full (by have e := Cod.len _ hr0; exact e)]; exact rfl) ?_
      clear hI hP; intro c21 w16 hI
      replace hI := hI.pin .z (lset_len hl5)
      obtain ⟨ho2, h⟩ := chk_some h
      obtain ⟨ad6, hA6⟩ := (hI.unpin .z).2.addr .z ho2
      refine a_q rfl gn rfl (fun w' => (y_indexAddr rfl Tryd.underlying41 size_3 et et (bdn (hI.unpin .z).1 ho2) hA6)) ?_
      obtain ⟨hl6, hP⟩ := hI.unpin .z
      refine la_storeRow (p := Int.toNat (wi64 (k1 - 1))) (new := [(vi e4)]) (off := 0) (x' := e4) hP .z rfl gn rfl rfl (by have := ho2; first | omega | (simp only [List.length_set]; omega)) hA6 rfl et et rfl size_3 rfl (by show 0 + 1 ≤ 1; omega) (fun _ cs0 _ hr0 => by rw [spl_full (by have e := Cod.len _ hr0; exact e)]; exact rfl) ?_
      clear hI hP; intro c22 w17 hI
      replace hI := hI.pin .z (lset_len hl6)
      refine a_nil ?_
      refine k_same ?_
      refine c_region rfl ?_
      refine sm ?_
      refine sq (y_sub rfl et ev_const) ?_
      refine sa ?_
      refine s_nil ?_
      exact k_loop (fuel2, wi64 (k1 - 1), (l3.set (Int.toNat k1) e3).set (Int.toNat (wi64 (k1 - 1))) e4) ⟨rfl, rfl, rfl, trivial⟩ ⟨_, hI.arr (.c .z .n) trivial, h⟩ (Nat.lt_succ_self _)
     ·replace h := ite_f hb h
      refine c_exit ?_
      refine k_in ?_
      refine k_same ?_
      refine c_ret ?_
      obtain rfl := some_inj h
      exact q_ret (vs := []) Tryd.results52 trivial ⟨_, rfl, hI.arr (.c .z .n) trivial⟩
    ·skip
     refine c_block ?_
     refine c_loop (α := Nat × Int × Int) (fun x => fun w => ∃ C, Bun C0 F w0 C w [MO.prow (cInt .i64) 3 a1 n1 c1 data1] [clFn_k2 fv1 cmp1] ∧ m_slices_symMergeCmpFunc_int_w_l3 data1 m1 cmp1 (x.1) (x.2.1) (x.2.2) = some r) (fun x _ => x.1) (fun x => [(0, (vs a1 n1 c1)), (2, (vi m1)), (4, fv1), (14, (vi (x.2.1))), (15, (vi (x.2.2)))]) (fu, a2, m1) ⟨_, hI.arr (.c .z .n) ⟨.z, trivial⟩, h⟩ ⟨rfl, rfl, rfl, rfl, rfl, trivial⟩ ?_
     clear h hI; rintro ⟨fuel3, i2, j1⟩ w18 ⟨c23, hI, h⟩
     dsimp only at hI h
     rcases fuel3 with _ | fuel3
     ·rw [m_slices_symMergeCmpFunc_int_w_l3] at h; cases h
     rw [m_slices_symMergeCmpFunc_int_w_l3] at h
     refine c_sub (e := [(0, (vs a1 n1 c1)), (2, (vi m1)), (4, fv1), (14, (vi i2)), (15, (vi j1))]) ⟨rfl, rfl, rfl, rfl, rfl, trivial⟩ ?_
     refine c_seq ?_
     refine sr ?_
     refine sm ?_
     refine sm ?_
     refine sq (y_lss rfl et et) ?_
     refine nk ?_
     refine c_cond (b := decide (i2 < j1)) et (fun hb => ?_) (fun hb => ?_)
     ·replace h := ite_t hb h
      refine c_skip ?_
      refine k_same ?_
      refine c_block ?_
      refine sr ?_
      refine sm ?_
      refine sm ?_
      refine sq (y_add rfl et et) ?_
      refine sq (y_conv rfl (by rw [Tryd.underlying3]; rfl) Tryd.underlying75 et) ?_
      refine sq (y_shrc (s := 1) rfl et ev_const (by decide) rfl) ?_
      refine sq (y_conv rfl (by rw [Tryd.underlying75]; rfl) Tryd.underlying3 et) ?_
      obtain ⟨h1, hx15, h⟩ := bnd_some h
      refine sq (binU (y_assign rfl et) (congrArg (Value.int .i64) (some_inj hx15))) ?_
      refine nk ?_
      refine c_seq ?_
      refine c_drawX [] false (.c (0, .q) (.c (1, .q) (.c (2, .q) (.c (3, .q) (.c (4, .q) (.c (5, .q) (.c (6, .q) (.c (7, .q) (.c (8, .q) (.c (9, .s) (.c (10, .q) (.c (11, .q) .n)))))))))))) hI (by kernel_rfl) (by kernel_rfl) ?_
      clear hI; intro w19 hI
      refine a_q rfl gn rfl (fun w' => (y_move rfl et)) ?_
      refine a_q rfl gn rfl (fun w' => (y_move rfl et)) ?_
      refine a_q rfl gn rfl (fun w' => (y_move rfl et)) ?_
      obtain ⟨e5, hx16, h⟩ := bnd_some h
      obtain ⟨ad7, cs5, hA7, hr5, hq5⟩ := (hI.unpin .z).2.olat .z hx16
      obtain rfl : cs5 = [(vi e5)] := hr5
      refine a_q rfl gn rfl (fun w' => (y_indexAddr rfl Tryd.underlying41 size_3 et et (bdn (hI.unpin .z).1 (lat_bd hx16)) hA7)) ?_
      refine a_read rfl gn rfl (fun w' hw' => (y_load1 (v := (vi e5)) rfl et Tryd.underlying3 rfl (hq5.at_ (SX.any rfl hw')))) (by kernel_rfl) ?_
      refine a_q rfl gn rfl (fun w' => (y_move rfl et)) ?_
      refine a_q rfl gn rfl (fun w' => (y_move rfl et)) ?_
      obtain ⟨e6, hx17, h⟩ := bnd_some h
      obtain ⟨ad8, cs6, hA8, hr6, hq6⟩ := (hI.unpin .z).2.olat .z hx17
      obtain rfl : cs6 = [(vi e6)] := hr6
      refine a_q rfl gn rfl (fun w' => (y_indexAddr rfl Tryd.underlying41 size_3 et et (bdn (hI.unpin .z).1 (lat_bd hx17)) hA8)) ?_
      refine a_read rfl gn rfl (fun w' hw' => (y_load1 (v := (vi e6)) rfl et Tryd.underlying3 rfl (hq6.at_ (SX.any rfl hw')))) (by kernel_rfl) ?_
      obtain ⟨r7, hx18, h⟩ := bnd_some h
      refine la_callV (args := [(vi e5), (vi e6)]) rfl gn rfl rfl et ⟨et, ⟨et, trivial⟩⟩ (CallV.mono ((hI.get .z).2 (Dj F c23) w19 (Sp.of_ext .rfl') hI.lt e5 e6 r7 trivial hx18) ?_)
      rintro _ w20 ⟨rfl, hx19, hl7⟩
      refine ⟨_, rfl, _, Sp.of_ext hx19, ?_⟩
      replace hI := (hI.ext hx19)
      refine a_q rfl gn rfl (fun w' => (y_lss rfl et ev_const)) ?_
      refine a_q rfl gn rfl (fun w' => (y_not rfl et)) ?_
      refine a_nil ?_
      refine k_same ?_
      refine c_cond (b := !(decide (r7 < 0))) et (fun hb => ?_) (fun hb => ?_)
      ·replace h := ite_t hb h
       refine c_region rfl ?_
       refine sm ?_
       refine sq (y_add rfl et ev_const) ?_
       refine sa ?_
       refine s_nil ?_
       exact k_loop (fuel3, wi64 (h1 + 1), j1) ⟨rfl, rfl, rfl, rfl, rfl, trivial⟩ ⟨_, hI.arr (.c .z .n) ⟨.z, trivial⟩, h⟩ (Nat.lt_succ_self _)
      ·replace h := ite_f hb h
       refine c_region rfl ?_
       refine sm ?_
       refine sa ?_
       refine s_nil ?_
       exact k_loop (fuel3, i2, h1) ⟨rfl, rfl, rfl, rfl, rfl, trivial⟩ ⟨_, hI.arr (.c .z .n) ⟨.z, trivial⟩, h⟩ (Nat.lt_succ_self _)
     ·replace h := ite_f hb h
      refine c_exit ?_
      refine k_in ?_
      exact k_join i2 ⟨rfl, rfl, rfl, trivial⟩ ⟨_, hI.arr (.c .z .n) trivial, h⟩ rfl
   ·replace h := ite_f hb h
    refine c_skip ?_
    exact k_join () ⟨rfl, rfl, rfl, rfl, rfl, trivial⟩ ⟨_, hI.arr (.c .z .n) ⟨.z, trivial⟩, h⟩ rfl
 ·skip
  refine sr ?_
  refine sm ?_
  refine sm ?_
  refine sq (y_sub rfl et et) ?_
  refine sq (y_eql rfl et ev_const) ?_
  refine nk ?_
  refine c_cond (b := decide (wi64 (m1 - a2) = 1)) et (fun hb => ?_) (fun hb => ?_)
  ·replace h := ite_t hb h
   refine sr ?_
   refine sm ?_
   refine sa ?_
   refine nk ?_
   refine sr ?_
   refine sm ?_
   refine sa ?_
   refine nk ?_
   refine c_join (α := Int) (fun _ => ⟨220, []⟩) (fun x => [(0, (vs a1 n1 c1)), (1, (vi a2)), (10, (vi x))]) (fun x => fun w => ∃ C, Bun C0 F w0 C w [MO.prow (cInt .i64) 3 a1 n1 c1 data1] [] ∧ m_slices_symMergeCmpFunc_int_w_j8 a2 data1 x = some r) ?_ ?_
   ·clear h hI; rintro i3 w21 ⟨c24, hI, h⟩
    try dsimp only at hI h
    rw [m_slices_symMergeCmpFunc_int_w_j8] at h
    refine c_sub (e := [(0, (vs a1 n1 c1)), (1, (vi a2)), (10, (vi i3))]) ⟨rfl, rfl, rfl, trivial⟩ ?_
    refine c_seq ?_
    refine sr ?_
    refine sm ?_
    refine sa ?_
    refine nk ?_
    refine c_block ?_
    refine c_loop (α := Nat × Int × (List Int)) (fun x => fun w => ∃ C, Bun C0 F w0 C w [MO.prow (cInt .i64) 3 a1 n1 c1 (x.2.2)] [] ∧ m_slices_symMergeCmpFunc_int_w_l4 i3 (x.1) (x.2.1) (x.2.2) = some r) (fun x _ => x.1) (fun x => [(0, (vs a1 n1 c1)), (10, (vi i3)), (13, (vi (x.2.1)))]) (fu, a2, data1) ⟨_, hI.arr (.c .z .n) trivial, h⟩ ⟨rfl, rfl, rfl, trivial⟩ ?_
    clear h hI; rintro ⟨fuel4, k2, l4⟩ w22 ⟨c25, hI, h⟩
    dsimp only at hI h
    rcases fuel4 with _ | fuel4
    ·rw [m_slices_symMergeCmpFunc_int_w_l4] at h; cases h
    rw [m_slices_symMergeCmpFunc_int_w_l4] at h
    refine c_sub (e := [(0, (vs a1 n1 c1)), (10, (vi i3)), (13, (vi k2))]) ⟨rfl, rfl, rfl, trivial⟩ ?_
    refine c_seq ?_
    refine sr ?_
    refine sm ?_
    refine sm ?_
    refine sq (y_sub rfl et ev_const) ?_
    refine sq (y_lss rfl et et) ?_
    refine nk ?_
    refine c_cond (b := decide (k2 < wi64 (i3 - 1))) et (fun hb => ?_) (fun hb => ?_)
    ·replace h := ite_t hb h
     refine c_skip ?_
     refine k_same ?_
     refine c_seq ?_
     refine c_block ?_
     refine c_drawX [15, 17] false (.c (0, .q) (.c (1, .q) (.c (2, .q) (.c (3, .q) (.c (4, .q) (.c (5, .q) (.c (6, .q) (.c (7, .q) (.c (8, .q) (.c (9, .q) (.c (10, .q) (.c (11, .q) (.c (12, .q) (.c (13, .q) (.c (14, .q) (.c (15, .s) (.c (16, .q) (.c (17, .s) .n)))))))))))))))))) hI (by kernel_rfl) (by kernel_rfl) ?_
     clear hI; intro w23 hI
     refine a_q rfl gn rfl (fun w' => (y_move rfl et)) ?_
     refine a_q rfl gn rfl (fun w' => (y_move rfl et)) ?_
     refine a_q rfl gn rfl (fun w' => (y_move rfl et)) ?_
     refine a_q rfl gn rfl (fun w' => (y_move rfl et)) ?_
     refine a_q rfl gn rfl (fun w' => (y_add rfl et ev_const)) ?_
     refine a_q rfl gn rfl (fun w' => (y_move rfl et)) ?_
     refine a_q rfl gn rfl (fun w' => (y_move rfl et)) ?_
     refine a_q rfl gn rfl (fun w' => (y_add rfl et ev_const)) ?_
     obtain ⟨e7, hx20, h⟩ := bnd_some h
     obtain ⟨ad9, cs7, hA9, hr7, hq7⟩ := (hI.unpin .z).2.olat .z hx20
     obtain rfl : cs7 = [(vi e7)] := hr7
     refine a_q rfl gn rfl (fun w' => (y_indexAddr rfl Tryd.underlying41 size_3 et et (bdn (hI.unpin .z).1 (lat_bd hx20)) hA9)) ?_
     refine a_read rfl gn rfl (fun w' hw' => (y_load1 (v := (vi e7)) rfl et Tryd.underlying3 rfl (hq7.at_ (SX.any rfl hw')))) (by kernel_rfl) ?_
     refine a_q rfl gn rfl (fun w' => (y_move rfl et)) ?_
     refine a_q rfl gn rfl (fun w' => (y_move rfl et)) ?_
     obtain ⟨e8, hx21, h⟩ := bnd_some h
     obtain ⟨ad10, cs8, hA10, hr8, hq8⟩ := (hI.unpin .z).2.olat .z hx21
     obtain rfl : cs8 = [(vi e8)] := hr8
     refine a_q rfl gn rfl (fun w' => (y_indexAddr rfl Tryd.underlying41 size_3 et et (bdn (hI.unpin .z).1 (lat_bd hx21)) hA10)) ?_
     refine a_read rfl gn rfl (fun w' hw' => (y_load1 (v := (vi e8)) rfl et Tryd.underlying3 rfl (hq8.at_ (SX.any rfl hw')))) (by kernel_rfl) ?_
     obtain ⟨ho3, h⟩ := chk_some h
     obtain ⟨ad11, hA11⟩ := (hI.unpin .z).2.addr .z ho3
     refine a_q rfl gn rfl (fun w' => (y_indexAddr rfl Tryd.underlying41 size_3 et et (bdn (hI.unpin .z).1 ho3) hA11)) ?_
     refine a_turn (F := F) (C := c25) rfl rfl ?_
     obtain ⟨hl8, hP⟩ := hI.unpin .z
     refine la_storeRow (p := Int.toNat k2) (new := [(vi e7)]) (off := 0) (x' := e7) hP .z rfl gn rfl rfl (by have := ho3; first | omega | (simp only [List.length_set]; omega)) hA11 rfl et et rfl size_3 rfl (by show 0 + 1 ≤ 1; omega) (fun _ cs0 _ hr0 => by rw [spl_full (by have e := Cod.len _ hr0; exact e)]; exact rfl) ?_
     clear hI hP; intro c26 w24 hI
     replace hI := hI.pin .z (lset_len hl8)
     obtain ⟨ho4, h⟩ := chk_some h
     obtain ⟨ad12, hA12⟩ := (hI.unpin .z).2.addr .z ho4
     refine a_q rfl gn rfl (fun w' => (y_indexAddr rfl Tryd.underlying41 size_3 et et (bdn (hI.unpin .z).1 ho4) hA12)) ?_
     obtain ⟨hl9, hP⟩ := hI.unpin .z
     refine la_storeRow (p := Int.toNat (wi64 (k2 + 1))) (new := [(vi e8)]) (off := 0) (x' := e8) hP .z rfl gn rfl rfl (by have := ho4; first | omega | (simp only [List.length_set]; omega)) hA12 rfl et et rfl size_3 rfl (by show 0 + 1 ≤ 1; omega) (fun _ cs0 _ hr0 => by rw [spl_full (by have e := Cod.len _ hr0; exact e)]; exact rfl) ?_
     clear hI hP; intro c27 w25 hI
     replace hI := hI.pin .z (lset_len hl9)
     refine a_nil ?_
     refine k_same ?_
     refine c_region rfl ?_
     refine sm ?_
     refine sq (y_add rfl et ev_const) ?_
     refine sa ?_
     refine s_nil ?_
     exact k_loop (fuel4, wi64 (k2 + 1), (l4.set (Int.toNat k2) e7).set (Int.toNat (wi64 (k2 + 1))) e8) ⟨rfl, rfl, rfl, trivial⟩ ⟨_, hI.arr (.c .z .n) trivial, h⟩ (Nat.lt_succ_self _)
    ·replace h := ite_f hb h
     refine c_exit ?_
     refine k_in ?_
     refine k_same ?_
     refine c_ret ?_
     obtain rfl := some_inj h
     exact q_ret (vs := []) Tryd.results52 trivial ⟨_, rfl, hI.arr (.c .z .n) trivial⟩
   ·skip
    refine c_block ?_
    refine c_loop (α := Nat × Int × Int) (fun x => fun w => ∃ C, Bun C0 F w0 C w [MO.prow (cInt .i64) 3 a1 n1 c1 data1] [clFn_k2 fv1 cmp1] ∧ m_slices_symMergeCmpFunc_int_w_l5 data1 a2 cmp1 (x.1) (x.2.1) (x.2.2) = some r) (fun x _ => x.1) (fun x => [(0, (vs a1 n1 c1)), (1, (vi a2)), (4, fv1), (10, (vi (x.2.1))), (11, (vi (x.2.2)))]) (fu, m1, b1) ⟨_, hI.arr (.c .z .n) ⟨.z, trivial⟩, h⟩ ⟨rfl, rfl, rfl, rfl, rfl, trivial⟩ ?_
    clear h hI; rintro ⟨fuel5, i4, j2⟩ w26 ⟨c28, hI, h⟩
    dsimp only at hI h
    rcases fuel5 with _ | fuel5
    ·rw [m_slices_symMergeCmpFunc_int_w_l5] at h; cases h
    rw [m_slices_symMergeCmpFunc_int_w_l5] at h
    refine c_sub (e := [(0, (vs a1 n1 c1)), (1, (vi a2)), (4, fv1), (10, (vi i4)), (11, (vi j2))]) ⟨rfl, rfl, rfl, rfl, rfl, trivial⟩ ?_
    refine c_seq ?_
    refine sr ?_
    refine sm ?_
    refine sm ?_
    refine sq (y_lss rfl et et) ?_
    refine nk ?_
    refine c_cond (b := decide (i4 < j2)) et (fun hb => ?_) (fun hb => ?_)
    ·replace h := ite_t hb h
     refine c_skip ?_
     refine k_same ?_
     refine c_block ?_
     refine sr ?_
     refine sm ?_
     refine sm ?_
     refine sq (y_add rfl et et) ?_
     refine sq (y_conv rfl (by rw [Tryd.underlying3]; rfl) Tryd.underlying75 et) ?_
     refine sq (y_shrc (s := 1) rfl et ev_const (by decide) rfl) ?_
     refine sq (y_conv rfl (by rw [Tryd.underlying75]; rfl) Tryd.underlying3 et) ?_
     obtain ⟨h2, hx22, h⟩ := bnd_some h
     refine sq (binU (y_assign rfl et) (congrArg (Value.int .i64) (some_inj hx22))) ?_
     refine nk ?_
     refine c_seq ?_
     refine c_drawX [] false (.c (0, .q) (.c (1, .q) (.c (2, .q) (.c (3, .q) (.c (4, .q) (.c (5, .q) (.c (6, .q) (.c (7, .q) (.c (8, .q) (.c (9, .s) (.c (10, .q) .n))))))))))) hI (by kernel_rfl) (by kernel_rfl) ?_
     clear hI; intro w27 hI
     refine a_q rfl gn rfl (fun w' => (y_move rfl et)) ?_
     refine a_q rfl gn rfl (fun w' => (y_move rfl et)) ?_
     refine a_q rfl gn rfl (fun w' => (y_move rfl et)) ?_
     obtain ⟨e9, hx23, h⟩ := bnd_some h
     obtain ⟨ad13, cs9, hA13, hr9, hq9⟩ := (hI.unpin .z).2.olat .z hx23
     obtain rfl : cs9 = [(vi e9)] := hr9
     refine a_q rfl gn rfl (fun w' => (y_indexAddr rfl Tryd.underlying41 size_3 et et (bdn (hI.unpin .z).1 (lat_bd hx23)) hA13)) ?_
     refine a_read rfl gn rfl (fun w' hw' => (y_load1 (v := (vi e9)) rfl et Tryd.underlying3 rfl (hq9.at_ (SX.any rfl hw')))) (by kernel_rfl) ?_
     refine a_q rfl gn rfl (fun w' => (y_move rfl et)) ?_
     refine a_q rfl gn rfl (fun w' => (y_move rfl et)) ?_
     obtain ⟨e10, hx24, h⟩ := bnd_some h
     obtain ⟨ad14, cs10, hA14, hr10, hq10⟩ := (hI.unpin .z).2.olat .z hx24
     obtain rfl : cs10 = [(vi e10)] := hr10
     refine a_q rfl gn rfl (fun w' => (y_indexAddr rfl Tryd.underlying41 size_3 et et (bdn (hI.unpin .z).1 (lat_bd hx24)) hA14)) ?_
     refine a_read rfl gn rfl (fun w' hw' => (y_load1 (v := (vi e10)) rfl et Tryd.underlying3 rfl (hq10.at_ (SX.any rfl hw')))) (by kernel_rfl) ?_
     obtain ⟨r8, hx25, h⟩ := bnd_some h
     refine la_callV (args := [(vi e9), (vi e10)]) rfl gn rfl rfl et ⟨et, ⟨et, trivial⟩⟩ (CallV.mono ((hI.get .z).2 (Dj F c28) w27 (Sp.of_ext .rfl') hI.lt e9 e10 r8 trivial hx25) ?_)
     rintro _ w28 ⟨rfl, hx26, hl10⟩
     refine ⟨_, rfl, _, Sp.of_ext hx26, ?_⟩
     replace hI := (hI.ext hx26)
     refine a_q rfl gn rfl (fun w' => (y_lss rfl et ev_const)) ?_
     refine a_nil ?_
     refine k_same ?_
     refine c_cond (b := decide (r8 < 0)) et (fun hb => ?_) (fun hb => ?_)
     ·replace h := ite_t hb h
      refine c_region rfl ?_
      refine sm ?_
      refine sq (y_add rfl et ev_const) ?_
      refine sa ?_
      refine s_nil ?_
      exact k_loop (fuel5, wi64 (h2 + 1), j2) ⟨rfl, rfl, rfl, rfl, rfl, trivial⟩ ⟨_, hI.arr (.c .z .n) ⟨.z, trivial⟩, h⟩ (Nat.lt_succ_self _)
     ·replace h := ite_f hb h
      refine c_region rfl ?_
      refine sm ?_
      refine sa ?_
      refine s_nil ?_
      exact k_loop (fuel5, i4, h2) ⟨rfl, rfl, rfl, rfl, rfl, trivial⟩ ⟨_, hI.arr (.c .z .n) ⟨.z, trivial⟩, h⟩ (Nat.lt_succ_self _)
    ·replace h := ite_f hb h
     refine c_exit ?_
     refine k_in ?_
     exact k_join i4 ⟨rfl, rfl, rfl, trivial⟩ ⟨_, hI.arr (.c .z .n) trivial, h⟩ rfl
  ·replace h := ite_f hb h
   refine c_skip ?_
   exact k_join () ⟨rfl, rfl, rfl, rfl, rfl, trivial⟩ ⟨_, hI.arr (.c .z .n) ⟨.z, trivial⟩, h⟩ rfl
theorem c_slices_symMergeCmpFunc_int_w_r (n : Nat) : ∀ (C0 F : NP) (w0 : World) (data1 : List Int) (a2 : Int) (m1 : Int) (b1 : Int) (cmp1 : (Int → Int → Option Int)) (a1 : Option Addr) (n1 : Nat) (c1 : Nat) (fv1 : Value) (hI : Bun C0 F w0 C0 w0 [MO.prow (cInt .i64) 3 a1 n1 c1 data1] [clFn_k2 fv1 cmp1]) (r : Unit × List Int) (h : m_slices_symMergeCmpFunc_int_w_r n data1 a2 m1 b1 cmp1 = some r), Calls Tryd.prog 52 #[(vs a1 n1 c1), (vi a2), (vi m1), (vi b1), fv1] w0 fun e w => ∃ (C : NP), e = .returned (Value.tuple #[]) ∧ Bun C0 F w0 C w [MO.prow (cInt .i64) 3 a1 n1 c1 r.2] [] := by
 induction n with
 | zero => intro C0 F w0 data1 a2 m1 b1 cmp1 a1 n1 c1 fv1 hI r h; cases h
 | succ n ih => intro C0 F w0 data1 a2 m1 b1 cmp1 a1 n1 c1 fv1 hI r h; exact c_slices_symMergeCmpFunc_int_w_b (m_slices_symMergeCmpFunc_int_w_r n) ih C0 F w0 data1 a2 m1 b1 cmp1 a1 n1 c1 fv1 hI r h
theorem c_slices_symMergeCmpFunc_int_w (C0 F : NP) (w0 : World) (data1 : List Int) (a2 : Int) (m1 : Int) (b1 : Int) (cmp1 : (Int → Int → Option Int)) (a1 : Option Addr) (n1 : Nat) (c1 : Nat) (fv1 : Value) (hI : Bun C0 F w0 C0 w0 [MO.prow (cInt .i64) 3 a1 n1 c1 data1] [clFn_k2 fv1 cmp1]) (r : Unit × List Int) (h : m_slices_symMergeCmpFunc_int_w data1 a2 m1 b1 cmp1 = some r) : Calls Tryd.prog 52 #[(vs a1 n1 c1), (vi a2), (vi m1), (vi b1), fv1] w0 fun e w => ∃ (C : NP), e = .returned (Value.tuple #[]) ∧ Bun C0 F w0 C w [MO.prow (cInt .i64) 3 a1 n1 c1 r.2] [] := c_slices_symMergeCmpFunc_int_w_r fu C0 F w0 data1 a2 m1 b1 cmp1 a1 n1 c1 fv1 hI r h
set_option maxRecDepth 100000 in
set_option maxHeartbeats 4000000 in
theorem c_slices_stableCmpFunc_int_w (C0 F : NP) (w0 : World) (data1 : List Int) (n2 : Int) (cmp1 : (Int → Int → Option Int)) (a1 : Option Addr) (n1 : Nat) (c1 : Nat) (fv1 : Value) (hI : Bun C0 F w0 C0 w0 [MO.prow (cInt .i64) 3 a1 n1 c1 data1] [clFn_k2 fv1 cmp1]) (r : Unit × List Int)
  (h : m_slices_stableCmpFunc_int_w data1 n2 cmp1 = some r) :
  Calls Tryd.prog 44 #[(vs a1 n1 c1), (vi n2), fv1] w0 fun e w => ∃ (C : NP), e = .returned (Value.tuple #[]) ∧ Bun C0 F w0 C w [MO.prow (cInt .i64) 3 a1 n1 c1 r.2] [] := by
 refine enterK (l := [(vs a1 n1 c1), (vi n2), fv1]) Tryd.func44 rfl Tryd.ntmps44 rfl ?_
 rw [m_slices_stableCmpFunc_int_w] at h
 refine sr ?_
 refine sac ?_
 refine nk ?_
 refine sr ?_
 refine sm ?_
 refine sac ?_
 refine sa ?_
 refine nk ?_
 refine c_join (α := Int × (List Int)) (fun _ => ⟨63, []⟩) (fun x => [(0, (vs a1 n1 c1)), (1, (vi n2)), (2, fv1), (6, (vi 20)), (7, (vi (x.1)))]) (fun x => fun w => ∃ C, Bun C0 F w0 C w [MO.prow (cInt .i64) 3 a1 n1 c1 (x.2)] [clFn_k2 fv1 cmp1] ∧ m_slices_stableCmpFunc_int_w_j1 n2 cmp1 (x.1) (x.2) = some r) ?_ ?_
 ·clear h hI; rintro ⟨a2, l1⟩ w1 ⟨c2, hI, h⟩
  try dsimp only at hI h
  rw [m_slices_stableCmpFunc_int_w_j1] at h
  refine c_sub (e := [(0, (vs a1 n1 c1)), (1, (vi n2)), (2, fv1), (6, (vi 20)), (7, (vi a2))]) ⟨rfl, rfl, rfl, rfl, rfl, trivial⟩ ?_
  refine sr ?_
  refine sm ?_
  refine sm ?_
  refine sm ?_
  refine sm ?_
  obtain ⟨c3, f1, hB, hl1, hk1⟩ := hI.hands (.l .n)
  obtain ⟨⟨r1, s1⟩, hx1, h⟩ := bnd_some h
  try dsimp only at h
  refine s_call gn rfl (r_callF (vs := [(vs a1 n1 c1), (vi a2), (vi n2), fv1]) rfl ok_51 ⟨et, ⟨et, ⟨et, ⟨et, trivial⟩⟩⟩⟩) (Calls.mono (c_slices_insertionSortCmpFunc_int_w c3 f1 w1 l1 a2 n2 cmp1 a1 n1 c1 fv1 (hB.subs ⟨.z, trivial⟩) _ hx1) ?_)
  rintro _ w2 ⟨c4, rfl, hB2⟩
  obtain ⟨c5, hs1, hI⟩ := hk1 _ _ _ _ hB2
  replace hI : Bun C0 F w0 c5 w2 [MO.prow (cInt .i64) 3 a1 n1 c1 s1] [clFn_k2 fv1 cmp1] := hI
  refine ⟨_, rfl, ?_⟩
  refine nk ?_
  refine c_block ?_
  refine c_loop (α := Nat × Int × (List Int)) (fun x => fun w => ∃ C, Bun C0 F w0 C w [MO.prow (cInt .i64) 3 a1 n1 c1 (x.2.2)] [clFn_k2 fv1 cmp1] ∧ m_slices_stableCmpFunc_int_w_l1 n2 cmp1 (x.1) (x.2.1) (x.2.2) = some r) (fun x _ => x.1) (fun x => [(0, (vs a1 n1 c1)), (1, (vi n2)), (2, fv1), (6, (vi (x.2.1)))]) (fu, 20, s1) ⟨_, hI.arr (.c .z .n) ⟨.z, trivial⟩, h⟩ ⟨rfl, rfl, rfl, rfl, trivial⟩ ?_
  clear h hI; rintro ⟨fuel1, blockSize1, l2⟩ w3 ⟨c6, hI, h⟩
  dsimp only at hI h
  rcases fuel1 with _ | fuel1
  ·rw [m_slices_stableCmpFunc_int_w_l1] at h; cases h
  rw [m_slices_stableCmpFunc_int_w_l1] at h
  refine c_sub (e := [(0, (vs a1 n1 c1)), (1, (vi n2)), (2, fv1), (6, (vi blockSize1))]) ⟨rfl, rfl, rfl, rfl, trivial⟩ ?_
  refine c_seq ?_
  refine sr ?_
  refine sm ?_
  refine sm ?_
  refine sq (y_lss rfl et et) ?_
  refine nk ?_
  refine c_cond (b := decide (blockSize1 < n2)) et (fun hb => ?_) (fun hb => ?_)
  ·replace h := ite_t hb h
   refine c_skip ?_
   refine k_same ?_
   refine c_block ?_
   refine sr ?_
   refine sm ?_
   refine sq (y_mul rfl ev_const et) ?_
   refine sac ?_
   refine sa ?_
   refine nk ?_
   refine c_join (α := Int × (List Int)) (fun _ => ⟨63, []⟩) (fun x => [(0, (vs a1 n1 c1)), (1, (vi n2)), (2, fv1), (6, (vi blockSize1)), (7, (vi (x.1)))]) (fun x => fun w => ∃ C, Bun C0 F w0 C w [MO.prow (cInt .i64) 3 a1 n1 c1 (x.2)] [clFn_k2 fv1 cmp1] ∧ m_slices_stableCmpFunc_int_w_j2 blockSize1 n2 cmp1 (m_slices_stableCmpFunc_int_w_l1 n2 cmp1 fuel1) (x.1) (x.2) = some r) ?_ ?_
   ·clear h hI; rintro ⟨a3, l3⟩ w4 ⟨c7, hI, h⟩
    try dsimp only at hI h
    rw [m_slices_stableCmpFunc_int_w_j2] at h
    refine c_sub (e := [(0, (vs a1 n1 c1)), (1, (vi n2)), (2, fv1), (6, (vi blockSize1)), (7, (vi a3))]) ⟨rfl, rfl, rfl, rfl, rfl, trivial⟩ ?_
    refine c_join (α := (List Int)) (fun _ => ⟨63, []⟩) (fun x => [(0, (vs a1 n1 c1)), (1, (vi n2)), (2, fv1), (6, (vi blockSize1))]) (fun x => fun w => ∃ C, Bun C0 F w0 C w [MO.prow (cInt .i64) 3 a1 n1 c1 x] [clFn_k2 fv1 cmp1] ∧ m_slices_stableCmpFunc_int_w_j3 (m_slices_stableCmpFunc_int_w_l1 n2 cmp1 fuel1) blockSize1 x = some r) ?_ ?_
    ·clear h hI; rintro l4 w5 ⟨c8, hI, h⟩
     try dsimp only at hI h
     rw [m_slices_stableCmpFunc_int_w_j3] at h
     refine c_sub (e := [(0, (vs a1 n1 c1)), (1, (vi n2)), (2, fv1), (6, (vi blockSize1))]) ⟨rfl, rfl, rfl, rfl, trivial⟩ ?_
     refine c_region rfl ?_
     refine sm ?_
     refine sq (y_mul rfl et ev_const) ?_
     refine sa ?_
     refine s_nil ?_
     exact k_loop (fuel1, wi64 (blockSize1 * 2), l4) ⟨rfl, rfl, rfl, rfl, trivial⟩ ⟨_, hI.arr (.c .z .n) ⟨.z, trivial⟩, h⟩ (Nat.lt_succ_self _)
    ·skip
     refine sr ?_
     refine sm ?_
     refine sm ?_
     refine sq (y_add rfl et et) ?_
     refine sa ?_
     refine nk ?_
     refine sr ?_
     refine sm ?_
     refine sm ?_
     refine sq (y_lss rfl et et) ?_
     refine nk ?_
     refine c_cond (b := decide (wi64 (a3 + blockSize1) < n2)) et (fun hb => ?_) (fun hb => ?_)
     ·replace h := ite_t hb h
      refine c_region rfl ?_
      refine sm ?_
      refine sm ?_
      refine sm ?_
      refine sm ?_
      refine sm ?_
      obtain ⟨c9, f2, hB, hl2, hk2⟩ := hI.hands (.l .n)
      obtain ⟨⟨r2, s2⟩, hx2, h⟩ := bnd_some h
      try dsimp only at h
      refine s_call gn rfl (r_callF (vs := [(vs a1 n1 c1), (vi a3), (vi (wi64 (a3 + blockSize1))), (vi n2), fv1]) rfl ok_52 ⟨et, ⟨et, ⟨et, ⟨et, ⟨et, trivial⟩⟩⟩⟩⟩) (Calls.mono (c_slices_symMergeCmpFunc_int_w c9 f2 w4 l3 a3 (wi64 (a3 + blockSize1)) n2 cmp1 a1 n1 c1 fv1 (hB.subs ⟨.z, trivial⟩) _ hx2) ?_)
      rintro _ w6 ⟨c10, rfl, hB2⟩
      obtain ⟨c11, hs2, hI⟩ := hk2 _ _ _ _ hB2
      replace hI : Bun C0 F w0 c11 w6 [MO.prow (cInt .i64) 3 a1 n1 c1 s2] [clFn_k2 fv1 cmp1] := hI
      refine ⟨_, rfl, ?_⟩
      refine s_nil ?_
      exact k_join s2 ⟨rfl, rfl, rfl, rfl, trivial⟩ ⟨_, hI.arr (.c .z .n) ⟨.z, trivial⟩, h⟩ rfl
     ·replace h := ite_f hb h
      refine c_skip ?_
      exact k_join l3 ⟨rfl, rfl, rfl, rfl, trivial⟩ ⟨_, hI.arr (.c .z .n) ⟨.z, trivial⟩, h⟩ rfl
   ·skip
    refine c_block ?_
    refine c_loop (α := Nat × Int × Int × (List Int)) (fun x => fun w => ∃ C, Bun C0 F w0 C w [MO.prow (cInt .i64) 3 a1 n1 c1 (x.2.2.2)] [clFn_k2 fv1 cmp1] ∧ m_slices_stableCmpFunc_int_w_l2 n2 blockSize1 cmp1 (m_slices_stableCmpFunc_int_w_l1 n2 cmp1 fuel1) (x.1) (x.2.1) (x.2.2.1) (x.2.2.2) = some r) (fun x _ => x.1) (fun x => [(0, (vs a1 n1 c1)), (1, (vi n2)), (2, fv1), (6, (vi blockSize1)), (7, (vi (x.2.1))), (8, (vi (x.2.2.1)))]) (fu, 0, wi64 (2 * blockSize1), l2) ⟨_, hI.arr (.c .z .n) ⟨.z, trivial⟩, h⟩ ⟨rfl, rfl, rfl, rfl, rfl, rfl, trivial⟩ ?_
    clear h hI; rintro ⟨fuel2, a4, b1, l5⟩ w7 ⟨c12, hI, h⟩
    dsimp only at hI h
    rcases fuel2 with _ | fuel2
    ·rw [m_slices_stableCmpFunc_int_w_l2] at h; cases h
    rw [m_slices_stableCmpFunc_int_w_l2] at h
    refine c_sub (e := [(0, (vs a1 n1 c1)), (1, (vi n2)), (2, fv1), (6, (vi blockSize1)), (7, (vi a4)), (8, (vi b1))]) ⟨rfl, rfl, rfl, rfl, rfl, rfl, trivial⟩ ?_
    refine c_seq ?_
    refine sr ?_
    refine sm ?_
    refine sm ?_
    refine sq (y_leq rfl et et) ?_
    refine nk ?_
    refine c_cond (b := decide (b1 ≤ n2)) et (fun hb => ?_) (fun hb => ?_)
    ·replace h := ite_t hb h
     refine c_skip ?_
     refine k_same ?_
     refine c_block ?_
     refine sr ?_
     refine sm ?_
     refine sm ?_
     refine sm ?_
     refine sm ?_
     refine sq (y_add rfl et et) ?_
     refine sm ?_
     refine sm ?_
     obtain ⟨c13, f3, hB, hl3, hk3⟩ := hI.hands (.l .n)
     obtain ⟨⟨r3, s3⟩, hx3, h⟩ := bnd_some h
     try dsimp only at h
     refine s_call gn rfl (r_callF (vs := [(vs a1 n1 c1), (vi a4), (vi (wi64 (a4 + blockSize1))), (vi b1), fv1]) rfl ok_52 ⟨et, ⟨et, ⟨et, ⟨et, ⟨et, trivial⟩⟩⟩⟩⟩) (Calls.mono (c_slices_symMergeCmpFunc_int_w c13 f3 w7 l5 a4 (wi64 (a4 + blockSize1)) b1 cmp1 a1 n1 c1 fv1 (hB.subs ⟨.z, trivial⟩) _ hx3) ?_)
     rintro _ w8 ⟨c14, rfl, hB2⟩
     obtain ⟨c15, hs3, hI⟩ := hk3 _ _ _ _ hB2
     replace hI : Bun C0 F w0 c15 w8 [MO.prow (cInt .i64) 3 a1 n1 c1 s3] [clFn_k2 fv1 cmp1] := hI
     refine ⟨_, rfl, ?_⟩
     refine nk ?_
     refine sr ?_
     refine sm ?_
     refine sa ?_
     refine nk ?_
     refine c_region rfl ?_
     refine sm ?_
     refine sm ?_
     refine sq (y_mul rfl ev_const et) ?_
     refine sq (y_add rfl et et) ?_
     obtain ⟨b2, hx4, h⟩ := bnd_some h
     refine sq (binU (y_assign rfl et) (congrArg (Value.int .i64) (some_inj hx4))) ?_
     refine s_nil ?_
     exact k_loop (fuel2, b1, b2, s3) ⟨rfl, rfl, rfl, rfl, rfl, rfl, trivial⟩ ⟨_, hI.arr (.c .z .n) ⟨.z, trivial⟩, h⟩ (Nat.lt_succ_self _)
    ·replace h := ite_f hb h
     refine c_exit ?_
     refine k_in ?_
     exact k_join (a4, l5) ⟨rfl, rfl, rfl, rfl, rfl, trivial⟩ ⟨_, hI.arr (.c .z .n) ⟨.z, trivial⟩, h⟩ rfl
  ·replace h := ite_f hb h
   refine c_exit ?_
   refine k_in ?_
   obtain rfl := some_inj h
   exact q_ret (vs := []) Tryd.results44 trivial ⟨_, rfl, hI.arr (.c .z .n) trivial⟩
 ·skip
  refine c_block ?_
  refine c_loop (α := Nat × Int × Int × (List Int)) (fun x => fun w => ∃ C, Bun C0 F w0 C w [MO.prow (cInt .i64) 3 a1 n1 c1 (x.2.2.2)] [clFn_k2 fv1 cmp1] ∧ m_slices_stableCmpFunc_int_w_l3 n2 cmp1 (x.1) (x.2.1) (x.2.2.1) (x.2.2.2) = some r) (fun x _ => x.1) (fun x => [(0, (vs a1 n1 c1)), (1, (vi n2)), (2, fv1), (6, (vi 20)), (7, (vi (x.2.1))), (8, (vi (x.2.2.1)))]) (fu, 0, 20, data1) ⟨_, hI.arr (.c .z .n) ⟨.z, trivial⟩, h⟩ ⟨rfl, rfl, rfl, rfl, rfl, rfl, trivial⟩ ?_
  clear h hI; rintro ⟨fuel3, a5, b3, l6⟩ w9 ⟨c16, hI, h⟩
  dsimp only at hI h
  rcases fuel3 with _ | fuel3
  ·rw [m_slices_stableCmpFunc_int_w_l3] at h; cases h
  rw [m_slices_stableCmpFunc_int_w_l3] at h
  refine c_sub (e := [(0, (vs a1 n1 c1)), (1, (vi n2)), (2, fv1), (6, (vi 20)), (7, (vi a5)), (8, (vi b3))]) ⟨rfl, rfl, rfl, rfl, rfl, rfl, trivial⟩ ?_
  refine c_seq ?_
  refine sr ?_
  refine sm ?_
  refine sm ?_
  refine sq (y_leq rfl et et) ?_
  refine nk ?_
  refine c_cond (b := decide (b3 ≤ n2)) et (fun hb => ?_) (fun hb => ?_)
  ·replace h := ite_t hb h
   refine c_skip ?_
   refine k_same ?_
   refine c_block ?_
   refine sr ?_
   refine sm ?_
   refine sm ?_
   refine sm ?_
   refine sm ?_
   obtain ⟨c17, f4, hB, hl4, hk4⟩ := hI.hands (.l .n)
   obtain ⟨⟨r4, s4⟩, hx5, h⟩ := bnd_some h
   try dsimp only at h
   refine s_call gn rfl (r_callF (vs := [(vs a1 n1 c1), (vi a5), (vi b3), fv1]) rfl ok_51 ⟨et, ⟨et, ⟨et, ⟨et, trivial⟩⟩⟩⟩) (Calls.mono (c_slices_insertionSortCmpFunc_int_w c17 f4 w9 l6 a5 b3 cmp1 a1 n1 c1 fv1 (hB.subs ⟨.z, trivial⟩) _ hx5) ?_)
   rintro _ w10 ⟨c18, rfl, hB2⟩
   obtain ⟨c19, hs4, hI⟩ := hk4 _ _ _ _ hB2
   replace hI : Bun C0 F w0 c19 w10 [MO.prow (cInt .i64) 3 a1 n1 c1 s4] [clFn_k2 fv1 cmp1] := hI
   refine ⟨_, rfl, ?_⟩
   refine nk ?_
   refine sr ?_
   refine sm ?_
   refine sa ?_
   refine nk ?_
   refine c_region rfl ?_
   refine sm ?_
   refine sm ?_
   refine sq (y_add rfl et et) ?_
   refine sa ?_
   refine s_nil ?_
   exact k_loop (fuel3, b3, wi64 (b3 + 20), s4) ⟨rfl, rfl, rfl, rfl, rfl, rfl, trivial⟩ ⟨_, hI.arr (.c .z .n) ⟨.z, trivial⟩, h⟩ (Nat.lt_succ_self _)
  ·replace h := ite_f hb h
   refine c_exit ?_
   refine k_in ?_
   exact k_join (a5, l6) ⟨rfl, rfl, rfl, rfl, rfl, trivial⟩ ⟨_, hI.arr (.c .z .n) ⟨.z, trivial⟩, h⟩ rfl
set_option maxRecDepth 100000 in
set_option maxHeartbeats 4000000 in
theorem c_slices_SortStableFunc_int_int_w (C0 F : NP) (w0 : World) (x1 : List Int) (cmp1 : (Int → Int → Option Int)) (a1 : Option Addr) (n1 : Nat) (c1 : Nat) (fv1 : Value) (hI : Bun C0 F w0 C0 w0 [MO.prow (cInt .i64) 3 a1 n1 c1 x1] [clFn_k2 fv1 cmp1]) (r : Unit × List Int)
  (h : m_slices_SortStableFunc_int_int_w x1 cmp1 = some r) :
  Calls Tryd.prog 33 #[(vs a1 n1 c1), fv1] w0 fun e w => ∃ (C : NP), e = .returned (Value.tuple #[]) ∧ Bun C0 F w0 C w [MO.prow (cInt .i64) 3 a1 n1 c1 r.2] [] := by
 refine enterK (l := [(vs a1 n1 c1), fv1]) Tryd.func33 rfl Tryd.ntmps33 rfl ?_
 rw [m_slices_SortStableFunc_int_int_w] at h
 refine c_region rfl ?_
 refine sm ?_
 refine sm ?_
 refine sq (y_lenp (hI.unpin .z).1 rfl Tryd.underlying41 et) ?_
 refine sm ?_
 obtain ⟨c2, f1, hB, hl1, hk1⟩ := hI.hands (.l .n)
 obtain ⟨⟨r1, s1⟩, hx1, h⟩ := bnd_some h
 try dsimp only at h
 refine s_call gn rfl (r_callF (vs := [(vs a1 n1 c1), (vi (x1.length : Int)), fv1]) rfl ok_44 ⟨et, ⟨et, ⟨et, trivial⟩⟩⟩) (Calls.mono (c_slices_stableCmpFunc_int_w c2 f1 w0 x1 (x1.length : Int) cmp1 a1 n1 c1 fv1 (hB.subs ⟨.z, trivial⟩) _ hx1) ?_)
 rintro _ w1 ⟨c3, rfl, hB2⟩
 obtain ⟨c4, hs1, hI⟩ := hk1 _ _ _ _ hB2
 replace hI : Bun C0 F w0 c4 w1 [MO.prow (cInt .i64) 3 a1 n1 c1 s1] [clFn_k2 fv1 cmp1] := hI
 refine ⟨_, rfl, ?_⟩
 refine s_nil ?_
 obtain rfl := some_inj h
 exact q_ret (vs := []) Tryd.results33 trivial ⟨_, rfl, hI.arr (.c .z .n) trivial⟩
set_option maxRecDepth 100000 in
set_option maxHeartbeats 4000000 in
theorem c_arena_sorted_int (F : NP) (w0 : World) (hF : ∀ k, F k → k < w0.heap.size) (l1 : List Int) (compare1 : (Int → Int → Option Int)) (a1 : Option Addr) (c1 : Nat) (fv1 : Value) (hc : AllCl [Cl.sl (cInt .i64) a1 c1 l1, clFn_k2 fv1 compare1] F w0) (r : List Int)
  (h : m_arena_sorted_int l1 compare1 = some r) :
  Calls Tryd.prog 21 #[(vs a1 l1.length c1), fv1] w0 fun e w => ∃ (a2 : Option Addr) (c2 : Nat), e = .returned (vs a2 r.length c2) ∧ Ext w0 w ∧ AllCl [Cl.sl (cInt .i64) a2 c2 r] F w := by
 refine enterK (l := [(vs a1 l1.length c1), fv1]) Tryd.func21 rfl Tryd.ntmps21 rfl ?_
 have hI := Bun.start hF hc
 clear hc
 rw [m_arena_sorted_int] at h
 refine sr ?_
 refine sac ?_
 refine nk ?_
 refine sr ?_
 refine sm ?_
 obtain ⟨zs1, hx1, h⟩ := bnd_some h
 replace hI := hI.nil (cInt .i64) 3 none
 refine l_append (xs := ([] : List Int)) (ys := l1) hI .z (hI.crd .z) hx1 gn rfl rfl Tryd.underlying41 info_3 rfl rfl ev_const et ?_
 clear hI; intro a3 c3 c4 w1 hI
 refine sa ?_
 refine nk ?_
 refine sr ?_
 refine sm ?_
 refine sm ?_
 replace hI := hI.pin (m := zs1.length) .z rfl
 obtain ⟨c5, f1, hB, hl1, hk1⟩ := hI.hands (.l .n)
 obtain ⟨⟨r1, s1⟩, hx2, h⟩ := bnd_some h
 try dsimp only at h
 refine s_call gn rfl (r_callF (vs := [(vs a3 zs1.length c3), fv1]) rfl ok_33 ⟨et, ⟨et, trivial⟩⟩) (Calls.mono (c_slices_SortStableFunc_int_int_w c5 f1 w1 zs1 compare1 a3 zs1.length c3 fv1 (hB.subs ⟨(.s .z), trivial⟩) _ hx2) ?_)
 rintro _ w2 ⟨c6, rfl, hB2⟩
 obtain ⟨c7, hs1, hI⟩ := hk1 _ _ _ _ hB2
 replace hI : Bun noM F w0 c7 w2 [MO.prow (cInt .i64) 3 a3 zs1.length c3 s1] [Cl.sl (cInt .i64) a1 c1 l1, clFn_k2 fv1 compare1] := hI
 obtain ⟨hl2, hI⟩ := hI.unpin .z
 refine ⟨_, rfl, ?_⟩
 refine s_nil ?_
 refine k_next (e := [(5, (vs a3 s1.length c3))]) ⟨(looklen hl2 rfl), trivial⟩ ?_
 refine sr ?_
 refine sm ?_
 refine sa ?_
 refine nk ?_
 refine c_ret ?_
 obtain ⟨c8, hI⟩ := hI.release .z
 obtain rfl := some_inj h
 exact q_ret (vs := [(vs a3 s1.length c3)]) Tryd.results21 ⟨ev_tmp rfl rfl, trivial⟩ ⟨a3, c3, rfl, hI.ext0, hI.fin ⟨.z, trivial⟩⟩
set_option maxRecDepth 100000 in
set_option maxHeartbeats 4000000 in
theorem c_liveness_Overlap (F : NP) (w0 : World) (hF : ∀ k, F k → k < w0.heap.size) (a1 : GLifetime) (b1 : GLifetime) (hc : AllCl [] F w0) (r : Bool)
  (h : m_liveness_Overlap a1 b1 = some r) :
  Calls Tryd.prog 26 #[(Value.agg #[(str a1.Name), (vi a1.From), (vi a1.To), (vi a1.Size)]), (Value.agg #[(str b1.Name), (vi b1.From), (vi b1.To), (vi b1.Size)])] w0 fun e w => e = .returned (vb r) ∧ Ext w0 w ∧ AllCl [] F w := by
 refine enterK (l := [(Value.agg #[(str a1.Name), (vi a1.From), (vi a1.To), (vi a1.Size)]), (Value.agg #[(str b1.Name), (vi b1.From), (vi b1.To), (vi b1.Size)])]) Tryd.func26 rfl Tryd.ntmps26 rfl ?_
 have hI := Bun.start hF hc
 clear hc
 rw [m_liveness_Overlap] at h
 refine sr ?_
 refine l_box (v := (Value.agg #[(str a1.Name), (vi a1.From), (vi a1.To), (vi a1.Size)])) (cs := #[(str a1.Name), (vi a1.From), (vi a1.To), (vi a1.Size)]) hI gn rfl rfl et rfl ?_
 clear hI; intro b2 c1 w1 hI
 obtain ⟨c2, hI⟩ := hI.relBox .z
 refine l_box (v := (Value.agg #[(str b1.Name), (vi b1.From), (vi b1.To), (vi b1.Size)])) (cs := #[(str b1.Name), (vi b1.From), (vi b1.To), (vi b1.Size)]) hI gn rfl rfl et rfl ?_
 clear hI; intro b3 c3 w2 hI
 obtain ⟨c4, hI⟩ := hI.relBox .z
 refine sac ?_
 refine nk ?_
 refine sr ?_
 refine sq (y_fieldAddr rfl et Tryd.underlying37 rfl size_3 rfl) ?_
 refine sq (y_load1 (v := (vi a1.From)) rfl et Tryd.underlying3 rfl (hI.kblk (l := [(vi a1.From)]) (.s .z) rfl).1) ?_
 refine sq (y_fieldAddr rfl et Tryd.underlying37 rfl size_3 rfl) ?_
 refine sq (y_load1 (v := (vi b1.To)) rfl et Tryd.underlying3 rfl (hI.kblk (l := [(vi b1.To)]) .z rfl).1) ?_
 refine sq (y_leq rfl et et) ?_
 refine sm ?_
 refine s_gval (g_true rfl rfl rfl rfl) rfl (fun hc => (y_fieldAddr rfl et Tryd.underlying37 rfl size_3 rfl)) ?_
 refine s_gval (g_true rfl rfl rfl rfl) rfl (fun hc => (y_load1 (v := (vi b1.From)) rfl (ev_gv et hc) Tryd.underlying3 rfl (hI.kblk (l := [(vi b1.From)]) .z rfl).1)) ?_
 refine s_gval (g_true rfl rfl rfl rfl) rfl (fun hc => (y_fieldAddr rfl et Tryd.underlying37 rfl size_3 rfl)) ?_
 refine s_gval (g_true rfl rfl rfl rfl) rfl (fun hc => (y_load1 (v := (vi a1.To)) rfl (ev_gv et hc) Tryd.underlying3 rfl (hI.kblk (l := [(vi a1.To)]) (.s .z) rfl).1)) ?_
 refine s_gval (g_true rfl rfl rfl rfl) rfl (fun hc => (y_leq rfl (ev_gv et hc) (ev_gv et hc))) ?_
 refine sq (y_and rfl et et) ?_
 refine sa ?_
 refine nk ?_
 refine c_ret ?_
 obtain rfl := some_inj h
 exact q_ret (vs := [(vb ((decide (a1.From ≤ b1.To)) && (decide (b1.From ≤ a1.To))))]) Tryd.results26 ⟨ev_tmp rfl rfl, trivial⟩ ⟨rfl, hI.ext0, hI.fin trivial⟩
set_option maxRecDepth 100000 in
set_option maxHeartbeats 4000000 in
theorem c_slices_insertionSortCmpFunc_api_Slot_w (C0 F : NP) (w0 : World) (data1 : List GSlot) (a2 : Int) (b1 : Int) (cmp1 : (GSlot → GSlot → Option Int)) (a1 : Option Addr) (n1 : Nat) (c1 : Nat) (fv1 : Value) (hI : Bun C0 F w0 C0 w0 [MO.prow cGSlot 39 a1 n1 c1 data1] [clFn_k3 fv1 cmp1]) (r : Unit × List GSlot)
  (h : m_slices_insertionSortCmpFunc_api_Slot_w data1 a2 b1 cmp1 = some r) :
  Calls Tryd.prog 59 #[(vs a1 n1 c1), (vi a2), (vi b1), fv1] w0 fun e w => ∃ (C : NP), e = .returned (Value.tuple #[]) ∧ Bun C0 F w0 C w [MO.prow cGSlot 39 a1 n1 c1 r.2] [] := by
 refine enterK (l := [(vs a1 n1 c1), (vi a2), (vi b1), fv1]) Tryd.func59 rfl Tryd.ntmps59 rfl ?_
 rw [m_slices_insertionSortCmpFunc_api_Slot_w] at h
 refine sr ?_
 refine sm ?_
 refine sq (y_add rfl et ev_const) ?_
 refine sa ?_
 refine nk ?_
 refine c_block ?_
 refine c_loop (α := Nat × Int × (List GSlot)) (fun x => fun w => ∃ C, Bun C0 F w0 C w [MO.prow cGSlot 39 a1 n1 c1 (x.2.2)] [clFn_k3 fv1 cmp1] ∧ m_slices_insertionSortCmpFunc_api_Slot_w_l1 b1 a2 cmp1 (x.1) (x.2.1) (x.2.2) = some r) (fun x _ => x.1) (fun x => [(0, (vs a1 n1 c1)), (1, (vi a2)), (2, (vi b1)), (3, fv1), (8, (vi (x.2.1)))]) (fu, wi64 (a2 + 1), data1) ⟨_, hI.arr (.c .z .n) ⟨.z, trivial⟩, h⟩ ⟨rfl, rfl, rfl, rfl, rfl, trivial⟩ ?_
 clear h hI; rintro ⟨fuel1, i1, l1⟩ w1 ⟨c2, hI, h⟩
 dsimp only at hI h
 rcases fuel1 with _ | fuel1
 ·rw [m_slices_insertionSortCmpFunc_api_Slot_w_l1] at h; cases h
 rw [m_slices_insertionSortCmpFunc_api_Slot_w_l1] at h
 refine c_sub (e := [(0, (vs a1 n1 c1)), (1, (vi a2)), (2, (vi b1)), (3, fv1), (8, (vi i1))]) ⟨rfl, rfl, rfl, rfl, rfl, trivial⟩ ?_
 refine c_seq ?_
 refine sr ?_
 refine sm ?_
 refine sm ?_
 refine sq (y_lss rfl et et) ?_
 refine nk ?_
 refine c_cond (b := decide (i1 < b1)) et (fun hb => ?_) (fun hb => ?_)
 ·replace h := ite_t hb h
  refine c_skip ?_
  refine k_same ?_
  refine c_join (α := (List GSlot)) (fun _ => ⟨53, []⟩) (fun x => [(0, (vs a1 n1 c1)), (1, (vi a2)), (2, (vi b1)), (3, fv1), (8, (vi i1))]) (fun x => fun w => ∃ C, Bun C0 F w0 C w [MO.prow cGSlot 39 a1 n1 c1 x] [clFn_k3 fv1 cmp1] ∧ m_slices_insertionSortCmpFunc_api_Slot_w_j1 (m_slices_insertionSortCmpFunc_api_Slot_w_l1 b1 a2 cmp1 fuel1) i1 x = some r) ?_ ?_
  ·clear h hI; rintro l2 w2 ⟨c3, hI, h⟩
   try dsimp only at hI h
   rw [m_slices_insertionSortCmpFunc_api_Slot_w_j1] at h
   refine c_sub (e := [(0, (vs a1 n1 c1)), (1, (vi a2)), (2, (vi b1)), (3, fv1), (8, (vi i1))]) ⟨rfl, rfl, rfl, rfl, rfl, trivial⟩ ?_
   refine c_region rfl ?_
   refine sm ?_
   refine sq (y_add rfl et ev_const) ?_
   refine sa ?_
   refine s_nil ?_
   exact k_loop (fuel1, wi64 (i1 + 1), l2) ⟨rfl, rfl, rfl, rfl, rfl, trivial⟩ ⟨_, hI.arr (.c .z .n) ⟨.z, trivial⟩, h⟩ (Nat.lt_succ_self _)
  ·skip
   refine c_block ?_
   refine sr ?_
   refine sm ?_
   refine sa ?_
   refine nk ?_
   refine c_block ?_
   refine c_loop (α := Nat × Int × (List GSlot)) (fun x => fun w => ∃ C, Bun C0 F w0 C w [MO.prow cGSlot 39 a1 n1 c1 (x.2.2)] [clFn_k3 fv1 cmp1] ∧ m_slices_insertionSortCmpFunc_api_Slot_w_l2 a2 cmp1 (m_slices_insertionSortCmpFunc_api_Slot_w_l1 b1 a2 cmp1 fuel1) i1 (x.1) (x.2.1) (x.2.2) = some r) (fun x _ => x.1) (fun x => [(0, (vs a1 n1 c1)), (1, (vi a2)), (2, (vi b1)), (3, fv1), (8, (vi i1)), (9, (vi (x.2.1)))]) (fu, i1, l1) ⟨_, hI.arr (.c .z .n) ⟨.z, trivial⟩, h⟩ ⟨rfl, rfl, rfl, rfl, rfl, rfl, trivial⟩ ?_
   clear h hI; rintro ⟨fuel2, j1, l3⟩ w3 ⟨c4, hI, h⟩
   dsimp only at hI h
   rcases fuel2 with _ | fuel2
   ·rw [m_slices_insertionSortCmpFunc_api_Slot_w_l2] at h; cases h
   rw [m_slices_insertionSortCmpFunc_api_Slot_w_l2] at h
   refine c_sub (e := [(0, (vs a1 n1 c1)), (1, (vi a2)), (2, (vi b1)), (3, fv1), (8, (vi i1)), (9, (vi j1))]) ⟨rfl, rfl, rfl, rfl, rfl, rfl, trivial⟩ ?_
   refine c_seq ?_
   refine c_seq ?_
   refine c_drawX [] false (.c (0, .q) (.c (1, .q) (.c (2, .q) (.c (3, .q) (.c (4, .q) (.c (5, .q) (.c (6, .q) (.c (7, .q) (.c (8, .q) (.c (9, .q) (.c (10, .q) (.c (11, .q) (.c (12, .q) (.c (13, .q) (.c (14, .s) (.c (15, .q) (.c (16, .q) .n))))))))))))))))) hI (by kernel_rfl) (by kernel_rfl) ?_
   clear hI; intro w4 hI
   refine a_q rfl gn rfl (fun w' => (y_move rfl et)) ?_
   refine a_q rfl gn rfl (fun w' => (y_move rfl et)) ?_
   refine a_q rfl gn rfl (fun w' => (y_gtr rfl et et)) ?_
   refine a_q rfl gn rfl (fun w' => (y_move rfl et)) ?_
   refine a_gval rfl (g_true rfl rfl rfl rfl) rfl (fun hc => fun w' => (y_move rfl et)) ?_
   refine a_gval rfl (g_true rfl rfl rfl rfl) rfl (fun hc => fun w' => (y_move rfl et)) ?_
   refine a_gval rfl (g_true rfl rfl rfl rfl) rfl (fun hc => fun w' => (y_move rfl et)) ?_
   obtain ⟨e1, hx1, h⟩ := bnd_some h
   replace hx1 := gd_some hx1
   obtain ⟨ad1, cs1, hq1⟩ := (hI.unpin .z).2.golat .z hx1
   have hq2 : (decide (a2 < j1)) = true → CA noM w4 (ad1.add (Int.toNat j1 * 3)) [(str e1.Name), (vi e1.At), (vi e1.Len)] := fun hc => by have k := hq1 hc; have e : cs1 = _ := k.2.1; rw [← e]; exact k.2.2
   refine a_gval rfl (g_true rfl rfl rfl rfl) rfl (fun hc => fun w' => (y_indexAddr rfl Tryd.underlying25 size_39 (ev_gv et hc) (ev_gv et hc) (bdn (hI.unpin .z).1 (lat_bd (hx1 hc))) (hq1 hc).1)) ?_
   refine a_gread rfl (g_true rfl rfl rfl rfl) rfl (fun hc => fun w' hw' => (y_loadN (l := [(str e1.Name), (vi e1.At), (vi e1.Len)]) rfl (ev_gv et hc) Tryd.underlying39 rfl size_39 ((hq2 hc).at_ (SX.any rfl hw')))) (by kernel_rfl) ?_
   refine a_gval rfl (g_true rfl rfl rfl rfl) rfl (fun hc => fun w' => (y_move rfl et)) ?_
   refine a_gval rfl (g_true rfl rfl rfl rfl) rfl (fun hc => fun w' => (y_move rfl et)) ?_
   refine a_gval rfl (g_true rfl rfl rfl rfl) rfl (fun hc => fun w' => (y_sub rfl (ev_gv et hc) ev_const)) ?_
   obtain ⟨e2, hx2, h⟩ := bnd_some h
   replace hx2 := gd_some hx2
   obtain ⟨ad2, cs2, hq3⟩ := (hI.unpin .z).2.golat .z hx2
   have hq4 : (decide (a2 < j1)) = true → CA noM w4 (ad2.add (Int.toNat (wi64 (j1 - 1)) * 3)) [(str e2.Name), (vi e2.At), (vi e2.Len)] := fun hc => by have k := hq3 hc; have e : cs2 = _ := k.2.1; rw [← e]; exact k.2.2
   refine a_gval rfl (g_true rfl rfl rfl rfl) rfl (fun hc => fun w' => (y_indexAddr rfl Tryd.underlying25 size_39 (ev_gv et hc) (ev_gv et hc) (bdn (hI.unpin .z).1 (lat_bd (hx2 hc))) (hq3 hc).1)) ?_
   refine a_gread rfl (g_true rfl rfl rfl rfl) rfl (fun hc => fun w' hw' => (y_loadN (l := [(str e2.Name), (vi e2.At), (vi e2.Len)]) rfl (ev_gv et hc) Tryd.underlying39 rfl size_39 ((hq4 hc).at_ (SX.any rfl hw')))) (by kernel_rfl) ?_
   obtain ⟨r1, hx3, h⟩ := bnd_some h
   replace hx3 := gd_some hx3
   refine la_gcallV (u := (vi r1)) (args := [(Value.agg #[(str e1.Name), (vi e1.At), (vi e1.Len)]), (Value.agg #[(str e2.Name), (vi e2.At), (vi e2.Len)])]) rfl (g_true rfl rfl rfl rfl) rfl rfl (fun hc => (ev_gv et hc)) (fun hc => ⟨(ev_gv et hc), ⟨(ev_gv et hc), trivial⟩⟩) (fun hc => CallV.mono ((hI.get .z).2 (Dj F c4) w4 (Sp.of_ext .rfl') hI.lt e1 e2 r1 trivial (hx3 hc)) fun _ _ k => ⟨k.1, k.2.1⟩) ?_
   intro w5 hx4; replace hI := hI.ext hx4
   refine a_gval rfl (g_true rfl rfl rfl rfl) rfl (fun hc => fun w' => (y_lss rfl (ev_gv et hc) ev_const)) ?_
   refine a_q rfl gn rfl (fun w' => (y_and rfl et et)) ?_
   refine a_nil ?_
   refine k_same ?_
   refine c_cond (b := (decide (a2 < j1)) && (decide (r1 < 0))) et (fun hb => ?_) (fun hb => ?_)
   ·replace h := ite_t hb h
    refine c_skip ?_
    refine k_same ?_
    refine c_seq ?_
    refine c_block ?_
    refine c_drawX [15, 17] false (.c (0, .q) (.c (1, .q) (.c (2, .q) (.c (3, .q) (.c (4, .q) (.c (5, .q) (.c (6, .q) (.c (7, .q) (.c (8, .q) (.c (9, .q) (.c (10, .q) (.c (11, .q) (.c (12, .q) (.c (13, .q) (.c (14, .q) (.c (15, .s) (.c (16, .q) (.c (17, .s) .n)))))))))))))))))) hI (by kernel_rfl) (by kernel_rfl) ?_
    clear hI; intro w6 hI
    refine a_q rfl gn rfl (fun w' => (y_move rfl et)) ?_
    refine a_q rfl gn rfl (fun w' => (y_move rfl et)) ?_
    refine a_q rfl gn rfl (fun w' => (y_move rfl et)) ?_
    refine a_q rfl gn rfl (fun w' => (y_move rfl et)) ?_
    refine a_q rfl gn rfl (fun w' => (y_sub rfl et ev_const)) ?_
    refine a_q rfl gn rfl (fun w' => (y_move rfl et)) ?_
    refine a_q rfl gn rfl (fun w' => (y_move rfl et)) ?_
    refine a_q rfl gn rfl (fun w' => (y_sub rfl et ev_const)) ?_
    obtain ⟨e3, hx5, h⟩ := bnd_some h
    obtain ⟨ad3, cs3, hA3, hr3, hq5⟩ := (hI.unpin .z).2.olat .z hx5
    obtain rfl : cs3 = [(str e3.Name), (vi e3.At), (vi e3.Len)] := hr3
    refine a_q rfl gn rfl (fun w' => (y_indexAddr rfl Tryd.underlying25 size_39 et et (bdn (hI.unpin .z).1 (lat_bd hx5)) hA3)) ?_
    refine a_read rfl gn rfl (fun w' hw' => (y_loadN (l := [(str e3.Name), (vi e3.At), (vi e3.Len)]) rfl et Tryd.underlying39 rfl size_39 (hq5.at_ (SX.any rfl hw')))) (by kernel_rfl) ?_
    refine a_q rfl gn rfl (fun w' => (y_move rfl et)) ?_
    refine a_q rfl gn rfl (fun w' => (y_move rfl et)) ?_
    obtain ⟨e4, hx6, h⟩ := bnd_some h
    obtain ⟨ad4, cs4, hA4, hr4, hq6⟩ := (hI.unpin .z).2.olat .z hx6
    obtain rfl : cs4 = [(str e4.Name), (vi e4.At), (vi e4.Len)] := hr4
    refine a_q rfl gn rfl (fun w' => (y_indexAddr rfl Tryd.underlying25 size_39 et et (bdn (hI.unpin .z).1 (lat_bd hx6)) hA4)) ?_
    refine a_read rfl gn rfl (fun w' hw' => (y_loadN (l := [(str e4.Name), (vi e4.At), (vi e4.Len)]) rfl et Tryd.underlying39 rfl size_39 (hq6.at_ (SX.any rfl hw')))) (by kernel_rfl) ?_
    obtain ⟨ho1, h⟩ := chk_some h
    obtain ⟨ad5, hA5⟩ := (hI.unpin .z).2.addr .z ho1
    refine a_q rfl gn rfl (fun w' => (y_indexAddr rfl Tryd.underlying25 size_39 et et (bdn (hI.unpin .z).1 ho1) hA5)) ?_
    refine a_turn (F := F) (C := c4) rfl rfl ?_
    obtain ⟨hl2, hP⟩ := hI.unpin .z
    refine la_storeRow (p := Int.toNat j1) (new := [(str e3.Name), (vi e3.At), (vi e3.Len)]) (off := 0) (x' := e3) hP .z rfl gn rfl rfl (by have := ho1; first | omega | (simp only [List.length_set]; omega)) hA5 rfl et et rfl size_39 rfl (by show 0 + 3 ≤ 3; omega) (fun _ cs0 _ hr0 => by rw [spl_full (by have e := Cod.len _ hr0; exact e)]; exact rfl) ?_
    clear hI hP; intro c5 w7 hI
    replace hI := hI.pin .z (lset_len hl2)
    obtain ⟨ho2, h⟩ := chk_some h
    obtain ⟨ad6, hA6⟩ := (hI.unpin .z).2.addr .z ho2
    refine a_q rfl gn rfl (fun w' => (y_indexAddr rfl Tryd.underlying25 size_39 et et (bdn (hI.unpin .z).1 ho2) hA6)) ?_
    obtain ⟨hl3, hP⟩ := hI.unpin .z
    refine la_storeRow (p := Int.toNat (wi64 (j1 - 1))) (new := [(str e4.Name), (vi e4.At), (vi e4.Len)]) (off := 0) (x' := e4) hP .z rfl gn rfl rfl (by have := ho2; first | omega | (simp only [List.length_set]; omega)) hA6 rfl et et rfl size_39 rfl (by show 0 + 3 ≤ 3; omega) (fun _ cs0 _ hr0 => by rw [spl_full (by have e := Cod.len _ hr0; exact e)]; exact rfl) ?_
    clear hI hP; intro c6 w8 hI
    replace hI := hI.pin .z (lset_len hl3)
    refine a_nil ?_
    refine k_next (e := [(0, (vs a1 n1 c1)), (1, (vi a2)), (2, (vi b1)), (3, fv1), (8, (vi i1)), (9, (vi j1))]) ⟨rfl, rfl, rfl, rfl, rfl, rfl, trivial⟩ ?_
    refine c_region rfl ?_
    refine sm ?_
    refine sq (y_sub rfl et ev_const) ?_
    refine sa ?_
    refine s_nil ?_
    exact k_loop (fuel2, wi64 (j1 - 1), (l3.set (Int.toNat j1) e3).set (Int.toNat (wi64 (j1 - 1))) e4) ⟨rfl, rfl, rfl, rfl, rfl, rfl, trivial⟩ ⟨_, hI.arr (.c .z .n) ⟨.z, trivial⟩, h⟩ (Nat.lt_succ_self _)
   ·replace h := ite_f hb h
    refine c_exit ?_
    refine k_in ?_
    exact k_join l3 ⟨rfl, rfl, rfl, rfl, rfl, trivial⟩ ⟨_, hI.arr (.c .z .n) ⟨.z, trivial⟩, h⟩ rfl
 ·replace h := ite_f hb h
  refine c_exit ?_
  refine k_in ?_
  obtain rfl := some_inj h
  exact q_ret (vs := []) Tryd.results59 trivial ⟨_, rfl, hI.arr (.c .z .n) trivial⟩
set_option maxRecDepth 100000 in
set_option maxHeartbeats 4000000 in
theorem c_slices_swapRangeCmpFunc_api_Slot_w (C0 F : NP) (w0 : World) (data1 : List GSlot) (a2 : Int) (b1 : Int) (n2 : Int) (cmp1 : (GSlot → GSlot → Option Int)) (a1 : Option Addr) (n1 : Nat) (c1 : Nat) (fv1 : Value) (hI : Bun C0 F w0 C0 w0 [MO.prow cGSlot 39 a1 n1 c1 data1] [clFn_k3 fv1 cmp1]) (r : Unit × List GSlot)
  (h : m_slices_swapRangeCmpFunc_api_Slot_w data1 a2 b1 n2 cmp1 = some r) :
  Calls Tryd.prog 66 #[(vs a1 n1 c1), (vi a2), (vi b1), (vi n2), fv1] w0 fun e w => ∃ (C : NP), e = .returned (Value.tuple #[]) ∧ Bun C0 F w0 C w [MO.prow cGSlot 39 a1 n1 c1 r.2] [] := by
 refine enterK (l := [(vs a1 n1 c1), (vi a2), (vi b1), (vi n2), fv1]) Tryd.func66 rfl Tryd.ntmps66 rfl ?_
 rw [m_slices_swapRangeCmpFunc_api_Slot_w] at h
 refine sr ?_
 refine sac ?_
 refine nk ?_
 refine c_block ?_
 refine c_loop (α := Nat × Int × (List GSlot)) (fun x => fun w => ∃ C, Bun C0 F w0 C w [MO.prow cGSlot 39 a1 n1 c1 (x.2.2)] [] ∧ m_slices_swapRangeCmpFunc_api_Slot_w_l1 n2 b1 a2 (x.1) (x.2.1) (x.2.2) = some r) (fun x _ => x.1) (fun x => [(0, (vs a1 n1 c1)), (1, (vi a2)), (2, (vi b1)), (3, (vi n2)), (10, (vi (x.2.1)))]) (fu, 0, data1) ⟨_, hI.arr (.c .z .n) trivial, h⟩ ⟨rfl, rfl, rfl, rfl, rfl, trivial⟩ ?_
 clear h hI; rintro ⟨fuel1, i1, l1⟩ w1 ⟨c2, hI, h⟩
 dsimp only at hI h
 rcases fuel1 with _ | fuel1
 ·rw [m_slices_swapRangeCmpFunc_api_Slot_w_l1] at h; cases h
 rw [m_slices_swapRangeCmpFunc_api_Slot_w_l1] at h
 refine c_sub (e := [(0, (vs a1 n1 c1)), (1, (vi a2)), (2, (vi b1)), (3, (vi n2)), (10, (vi i1))]) ⟨rfl, rfl, rfl, rfl, rfl, trivial⟩ ?_
 refine c_seq ?_
 refine sr ?_
 refine sm ?_
 refine sm ?_
 refine sq (y_lss rfl et et) ?_
 refine nk ?_
 refine c_cond (b := decide (i1 < n2)) et (fun hb => ?_) (fun hb => ?_)
 ·replace h := ite_t hb h
  refine c_skip ?_
  refine k_same ?_
  refine c_seq ?_
  refine c_block ?_
  refine c_drawX [21, 23] false (.c (0, .q) (.c (1, .q) (.c (2, .q) (.c (3, .q) (.c (4, .q) (.c (5, .q) (.c (6, .q) (.c (7, .q) (.c (8, .q) (.c (9, .q) (.c (10, .q) (.c (11, .q) (.c (12, .q) (.c (13, .q) (.c (14, .q) (.c (15, .q) (.c (16, .q) (.c (17, .q) (.c (18, .q) (.c (19, .q) (.c (20, .q) (.c (21, .s) (.c (22, .q) (.c (23, .s) .n)))))))))))))))))))))))) hI (by kernel_rfl) (by kernel_rfl) ?_
  clear hI; intro w2 hI
  refine a_q rfl gn rfl (fun w' => (y_move rfl et)) ?_
  refine a_q rfl gn rfl (fun w' => (y_move rfl et)) ?_
  refine a_q rfl gn rfl (fun w' => (y_move rfl et)) ?_
  refine a_q rfl gn rfl (fun w' => (y_add rfl et et)) ?_
  refine a_q rfl gn rfl (fun w' => (y_move rfl et)) ?_
  refine a_q rfl gn rfl (fun w' => (y_move rfl et)) ?_
  refine a_q rfl gn rfl (fun w' => (y_move rfl et)) ?_
  refine a_q rfl gn rfl (fun w' => (y_add rfl et et)) ?_
  refine a_q rfl gn rfl (fun w' => (y_move rfl et)) ?_
  refine a_q rfl gn rfl (fun w' => (y_move rfl et)) ?_
  refine a_q rfl gn rfl (fun w' => (y_move rfl et)) ?_
  refine a_q rfl gn rfl (fun w' => (y_add rfl et et)) ?_
  obtain ⟨e1, hx1, h⟩ := bnd_some h
  obtain ⟨ad1, cs1, hA1, hr1, hq1⟩ := (hI.unpin .z).2.olat .z hx1
  obtain rfl : cs1 = [(str e1.Name), (vi e1.At), (vi e1.Len)] := hr1
  refine a_q rfl gn rfl (fun w' => (y_indexAddr rfl Tryd.underlying25 size_39 et et (bdn (hI.unpin .z).1 (lat_bd hx1)) hA1)) ?_
  refine a_read rfl gn rfl (fun w' hw' => (y_loadN (l := [(str e1.Name), (vi e1.At), (vi e1.Len)]) rfl et Tryd.underlying39 rfl size_39 (hq1.at_ (SX.any rfl hw')))) (by kernel_rfl) ?_
  refine a_q rfl gn rfl (fun w' => (y_move rfl et)) ?_
  refine a_q rfl gn rfl (fun w' => (y_move rfl et)) ?_
  refine a_q rfl gn rfl (fun w' => (y_move rfl et)) ?_
  refine a_q rfl gn rfl (fun w' => (y_add rfl et et)) ?_
  obtain ⟨e2, hx2, h⟩ := bnd_some h
  obtain ⟨ad2, cs2, hA2, hr2, hq2⟩ := (hI.unpin .z).2.olat .z hx2
  obtain rfl : cs2 = [(str e2.Name), (vi e2.At), (vi e2.Len)] := hr2
  refine a_q rfl gn rfl (fun w' => (y_indexAddr rfl Tryd.underlying25 size_39 et et (bdn (hI.unpin .z).1 (lat_bd hx2)) hA2)) ?_
  refine a_read rfl gn rfl (fun w' hw' => (y_loadN (l := [(str e2.Name), (vi e2.At), (vi e2.Len)]) rfl et Tryd.underlying39 rfl size_39 (hq2.at_ (SX.any rfl hw')))) (by kernel_rfl) ?_
  obtain ⟨ho1, h⟩ := chk_some h
  obtain ⟨ad3, hA3⟩ := (hI.unpin .z).2.addr .z ho1
  refine a_q rfl gn rfl (fun w' => (y_indexAddr rfl Tryd.underlying25 size_39 et et (bdn (hI.unpin .z).1 ho1) hA3)) ?_
  refine a_turn (F := F) (C := c2) rfl rfl ?_
  obtain ⟨hl1, hP⟩ := hI.unpin .z
  refine la_storeRow (p := Int.toNat (wi64 (a2 + i1))) (new := [(str e1.Name), (vi e1.At), (vi e1.Len)]) (off := 0) (x' := e1) hP .z rfl gn rfl rfl (by have := ho1; first | omega | (simp only [List.length_set]; omega)) hA3 rfl et et rfl size_39 rfl (by show 0 + 3 ≤ 3; omega) (fun _ cs0 _ hr0 => by rw [spl_full (by have e := Cod.len _ hr0; exact e)]; exact rfl) ?_
  clear hI hP; intro c3 w3 hI
  replace hI := hI.pin .z (lset_len hl1)
  obtain ⟨ho2, h⟩ := chk_some h
  obtain ⟨ad4, hA4⟩ := (hI.unpin .z).2.addr .z ho2
  refine a_q rfl gn rfl (fun w' => (y_indexAddr rfl Tryd.underlying25 size_39 et et (bdn (hI.unpin .z).1 ho2) hA4)) ?_
  obtain ⟨hl2, hP⟩ := hI.unpin .z
  refine la_storeRow (p := Int.toNat (wi64 (b1 + i1))) (new := [(str e2.Name), (vi e2.At), (vi e2.Len)]) (off := 0) (x' := e2) hP .z rfl gn rfl rfl (by have := ho2; first | omega | (simp only [List.length_set]; omega)) hA4 rfl et et rfl size_39 rfl (by show 0 + 3 ≤ 3; omega) (fun _ cs0 _ hr0 => by rw [spl_full (by have e := Cod.len _ hr0; exact e)]; exact rfl) ?_
  clear hI hP; intro c4 w4 hI
  replace hI := hI.pin .z (lset_len hl2)
  refine a_nil ?_
  refine k_next (e := [(0, (vs a1 n1 c1)), (1, (vi a2)), (2, (vi b1)), (3, (vi n2)), (10, (vi i1))]) ⟨rfl, rfl, rfl, rfl, rfl, trivial⟩ ?_
  refine c_region rfl ?_
  refine sm ?_
  refine sq (y_add rfl et ev_const) ?_
  refine sa ?_
  refine s_nil ?_
  exact k_loop (fuel1, wi64 (i1 + 1), (l1.set (Int.toNat (wi64 (a2 + i1))) e1).set (Int.toNat (wi64 (b1 + i1))) e2) ⟨rfl, rfl, rfl, rfl, rfl, trivial⟩ ⟨_, hI.arr (.c .z .n) trivial, h⟩ (Nat.lt_succ_self _)
 ·replace h := ite_f hb h
  refine c_exit ?_
  refine k_in ?_
  obtain rfl := some_inj h
  exact q_ret (vs := []) Tryd.results66 trivial ⟨_, rfl, hI.arr (.c .z .n) trivial⟩
set_option maxRecDepth 100000 in
set_option maxHeartbeats 4000000 in
theorem c_slices_rotateCmpFunc_api_Slot_w (C0 F : NP) (w0 : World) (data1 : List GSlot) (a2 : Int) (m1 : Int) (b1 : Int) (cmp1 : (GSlot → GSlot → Option Int)) (a1 : Option Addr) (n1 : Nat) (c1 : Nat) (fv1 : Value) (hI : Bun C0 F w0 C0 w0 [MO.prow cGSlot 39 a1 n1 c1 data1] [clFn_k3 fv1 cmp1]) (r : Unit × List GSlot)
  (h : m_slices_rotateCmpFunc_api_Slot_w data1 a2 m1 b1 cmp1 = some r) :
  Calls Tryd.prog 63 #[(vs a1 n1 c1), (vi a2), (vi m1), (vi b1), fv1] w0 fun e w => ∃ (C : NP), e = .returned (Value.tuple #[]) ∧ Bun C0 F w0 C w [MO.prow cGSlot 39 a1 n1 c1 r.2] [] := by
 refine enterK (l := [(vs a1 n1 c1), (vi a2), (vi m1), (vi b1), fv1]) Tryd.func63 rfl Tryd.ntmps63 rfl ?_
 rw [m_slices_rotateCmpFunc_api_Slot_w] at h
 refine sr ?_
 refine sm ?_
 refine sm ?_
 refine sq (y_sub rfl et et) ?_
 refine sa ?_
 refine nk ?_
 refine sr ?_
 refine sm ?_
 refine sm ?_
 refine sq (y_sub rfl et et) ?_
 refine sa ?_
 refine nk ?_
 refine c_seq ?_
 refine c_block ?_
 refine c_loop (α := Nat × Int × Int × (List GSlot)) (fun x => fun w => ∃ C, Bun C0 F w0 C w [MO.prow cGSlot 39 a1 n1 c1 (x.2.2.2)] [clFn_k3 fv1 cmp1] ∧ m_slices_rotateCmpFunc_api_Slot_w_l1 m1 cmp1 (x.1) (x.2.1) (x.2.2.1) (x.2.2.2) = some r) (fun x _ => x.1) (fun x => [(0, (vs a1 n1 c1)), (2, (vi m1)), (4, fv1), (10, (vi (x.2.1))), (11, (vi (x.2.2.1)))]) (fu, wi64 (m1 - a2), wi64 (b1 - m1), data1) ⟨_, hI.arr (.c .z .n) ⟨.z, trivial⟩, h⟩ ⟨rfl, rfl, rfl, rfl, rfl, trivial⟩ ?_
 clear h hI; rintro ⟨fuel1, i1, j1, l1⟩ w1 ⟨c2, hI, h⟩
 dsimp only at hI h
 rcases fuel1 with _ | fuel1
 ·rw [m_slices_rotateCmpFunc_api_Slot_w_l1] at h; cases h
 rw [m_slices_rotateCmpFunc_api_Slot_w_l1] at h
 refine c_sub (e := [(0, (vs a1 n1 c1)), (2, (vi m1)), (4, fv1), (10, (vi i1)), (11, (vi j1))]) ⟨rfl, rfl, rfl, rfl, rfl, trivial⟩ ?_
 refine c_seq ?_
 refine sr ?_
 refine sm ?_
 refine sm ?_
 refine sq (y_neq rfl et et) ?_
 refine nk ?_
 refine c_cond (b := !decide (i1 = j1)) et (fun hb => ?_) (fun hb => ?_)
 ·replace h := ite_t hb h
  refine c_skip ?_
  refine k_same ?_
  refine c_block ?_
  refine sr ?_
  refine sm ?_
  refine sm ?_
  refine sq (y_gtr rfl et et) ?_
  refine nk ?_
  refine c_cond (b := decide (j1 < i1)) et (fun hb => ?_) (fun hb => ?_)
  ·replace h := ite_t hb h
   refine sr ?_
   refine sm ?_
   refine sm ?_
   refine sm ?_
   refine sq (y_sub rfl et et) ?_
   refine sm ?_
   refine sm ?_
   refine sm ?_
   obtain ⟨c3, f1, hB, hl1, hk1⟩ := hI.hands (.l .n)
   obtain ⟨⟨r1, s1⟩, hx1, h⟩ := bnd_some h
   try dsimp only at h
   refine s_call gn rfl (r_callF (vs := [(vs a1 n1 c1), (vi (wi64 (m1 - i1))), (vi m1), (vi j1), fv1]) rfl ok_66 ⟨et, ⟨et, ⟨et, ⟨et, ⟨et, trivial⟩⟩⟩⟩⟩) (Calls.mono (c_slices_swapRangeCmpFunc_api_Slot_w c3 f1 w1 l1 (wi64 (m1 - i1)) m1 j1 cmp1 a1 n1 c1 fv1 (hB.subs ⟨.z, trivial⟩) _ hx1) ?_)
   rintro _ w2 ⟨c4, rfl, hB2⟩
   obtain ⟨c5, hs1, hI⟩ := hk1 _ _ _ _ hB2
   replace hI : Bun C0 F w0 c5 w2 [MO.prow cGSlot 39 a1 n1 c1 s1] [clFn_k3 fv1 cmp1] := hI
   refine ⟨_, rfl, ?_⟩
   refine nk ?_
   refine c_region rfl ?_
   refine sm ?_
   refine sm ?_
   refine sq (y_sub rfl et et) ?_
   refine sa ?_
   refine s_nil ?_
   exact k_loop (fuel1, wi64 (i1 - j1), j1, s1) ⟨rfl, rfl, rfl, rfl, rfl, trivial⟩ ⟨_, hI.arr (.c .z .n) ⟨.z, trivial⟩, h⟩ (Nat.lt_succ_self _)
  ·replace h := ite_f hb h
   refine sr ?_
   refine sm ?_
   refine sm ?_
   refine sm ?_
   refine sq (y_sub rfl et et) ?_
   refine sm ?_
   refine sm ?_
   refine sq (y_add rfl et et) ?_
   refine sm ?_
   refine sq (y_sub rfl et et) ?_
   refine sm ?_
   refine sm ?_
   obtain ⟨c6, f2, hB, hl2, hk2⟩ := hI.hands (.l .n)
   obtain ⟨⟨r2, s2⟩, hx2, h⟩ := bnd_some h
   try dsimp only at h
   refine s_call gn rfl (r_callF (vs := [(vs a1 n1 c1), (vi (wi64 (m1 - i1))), (vi (wi64 ((wi64 (m1 + j1)) - i1))), (vi i1), fv1]) rfl ok_66 ⟨et, ⟨et, ⟨et, ⟨et, ⟨et, trivial⟩⟩⟩⟩⟩) (Calls.mono (c_slices_swapRangeCmpFunc_api_Slot_w c6 f2 w1 l1 (wi64 (m1 - i1)) (wi64 ((wi64 (m1 + j1)) - i1)) i1 cmp1 a1 n1 c1 fv1 (hB.subs ⟨.z, trivial⟩) _ hx2) ?_)
   rintro _ w3 ⟨c7, rfl, hB2⟩
   obtain ⟨c8, hs2, hI⟩ := hk2 _ _ _ _ hB2
   replace hI : Bun C0 F w0 c8 w3 [MO.prow cGSlot 39 a1 n1 c1 s2] [clFn_k3 fv1 cmp1] := hI
   refine ⟨_, rfl, ?_⟩
   refine nk ?_
   refine c_region rfl ?_
   refine sm ?_
   refine sm ?_
   refine sq (y_sub rfl et et) ?_
   refine sa ?_
   refine s_nil ?_
   exact k_loop (fuel1, i1, wi64 (j1 - i1), s2) ⟨rfl, rfl, rfl, rfl, rfl, trivial⟩ ⟨_, hI.arr (.c .z .n) ⟨.z, trivial⟩, h⟩ (Nat.lt_succ_self _)
 ·replace h := ite_f hb h
  refine c_exit ?_
  refine k_in ?_
  refine k_same ?_
  refine c_region rfl ?_
  refine sm ?_
  refine sm ?_
  refine sm ?_
  refine sq (y_sub rfl et et) ?_
  refine sm ?_
  refine sm ?_
  refine sm ?_
  obtain ⟨c9, f3, hB, hl3, hk3⟩ := hI.hands (.l .n)
  obtain ⟨⟨r3, s3⟩, hx3, h⟩ := bnd_some h
  try dsimp only at h
  refine s_call gn rfl (r_callF (vs := [(vs a1 n1 c1), (vi (wi64 (m1 - i1))), (vi m1), (vi i1), fv1]) rfl ok_66 ⟨et, ⟨et, ⟨et, ⟨et, ⟨et, trivial⟩⟩⟩⟩⟩) (Calls.mono (c_slices_swapRangeCmpFunc_api_Slot_w c9 f3 w1 l1 (wi64 (m1 - i1)) m1 i1 cmp1 a1 n1 c1 fv1 (hB.subs ⟨.z, trivial⟩) _ hx3) ?_)
  rintro _ w4 ⟨c10, rfl, hB2⟩
  obtain ⟨c11, hs3, hI⟩ := hk3 _ _ _ _ hB2
  replace hI : Bun C0 F w0 c11 w4 [MO.prow cGSlot 39 a1 n1 c1 s3] [clFn_k3 fv1 cmp1] := hI
  refine ⟨_, rfl, ?_⟩
  refine s_nil ?_
  obtain rfl := some_inj h
  exact q_ret (vs := []) Tryd.results63 trivial ⟨_, rfl, hI.arr (.c .z .n) trivial⟩
set_option maxRecDepth 100000 in
set_option maxHeartbeats 4000000 in
theorem c_slices_symMergeCmpFunc_api_Slot_w_b (rec_ : ((List GSlot) → Int → Int → Int → (GSlot → GSlot → Option Int) → Option (Unit × List GSlot))) (hrec : ∀ (C0 F : NP) (w0 : World) (data1 : List GSlot) (a2 : Int) (m1 : Int) (b1 : Int) (cmp1 : (GSlot → GSlot → Option Int)) (a1 : Option Addr) (n1 : Nat) (c1 : Nat) (fv1 : Value) (hI : Bun C0 F w0 C0 w0 [MO.prow cGSlot 39 a1 n1 c1 data1] [clFn_k3 fv1 cmp1]) (r : Unit × List GSlot) (h : rec_ data1 a2 m1 b1 cmp1 = some r), Calls Tryd.prog 60 #[(vs a1 n1 c1), (vi a2), (vi m1), (vi b1), fv1] w0 fun e w => ∃ (C : NP), e = .returned (Value.tuple #[]) ∧ Bun C0 F w0 C w [MO.prow cGSlot 39 a1 n1 c1 r.2] [])
  (C0 F : NP) (w0 : World) (data1 : List GSlot) (a2 : Int) (m1 : Int) (b1 : Int) (cmp1 : (GSlot → GSlot → Option Int)) (a1 : Option Addr) (n1 : Nat) (c1 : Nat) (fv1 : Value) (hI : Bun C0 F w0 C0 w0 [MO.prow cGSlot 39 a1 n1 c1 data1] [clFn_k3 fv1 cmp1]) (r : Unit × List GSlot) (h : m_slices_symMergeCmpFunc_api_Slot_w_b rec_ data1 a2 m1 b1 cmp1 = some r) : Calls Tryd.prog 60 #[(vs a1 n1 c1), (vi a2), (vi m1), (vi b1), fv1] w0 fun e w => ∃ (C : NP), e = .returned (Value.tuple #[]) ∧ Bun C0 F w0 C w [MO.prow cGSlot 39 a1 n1 c1 r.2] [] := by
 refine enterK (l := [(vs a1 n1 c1), (vi a2), (vi m1), (vi b1), fv1]) Tryd.func60 rfl Tryd.ntmps60 rfl ?_
 rw [m_slices_symMergeCmpFunc_api_Slot_w_b] at h
 refine c_join (α := Unit) (fun _ => ⟨220, []⟩) (fun _ => [(0, (vs a1 n1 c1)), (1, (vi a2)), (2, (vi m1)), (3, (vi b1)), (4, fv1)]) (fun _ => fun w => ∃ C, Bun C0 F w0 C w [MO.prow cGSlot 39 a1 n1 c1 data1] [clFn_k3 fv1 cmp1] ∧ m_slices_symMergeCmpFunc_api_Slot_w_j1 b1 m1 data1 cmp1 a2 rec_ = some r) ?_ ?_
 ·clear h hI; rintro _ w1 ⟨c2, hI, h⟩
  try dsimp only at hI h
  rw [m_slices_symMergeCmpFunc_api_Slot_w_j1] at h
  refine c_sub (e := [(0, (vs a1 n1 c1)), (1, (vi a2)), (2, (vi m1)), (3, (vi b1)), (4, fv1)]) ⟨rfl, rfl, rfl, rfl, rfl, trivial⟩ ?_
  refine c_join (α := Unit) (fun _ => ⟨220, []⟩) (fun _ => [(0, (vs a1 n1 c1)), (1, (vi a2)), (2, (vi m1)), (3, (vi b1)), (4, fv1)]) (fun _ => fun w => ∃ C, Bun C0 F w0 C w [MO.prow cGSlot 39 a1 n1 c1 data1] [clFn_k3 fv1 cmp1] ∧ m_slices_symMergeCmpFunc_api_Slot_w_j2 a2 b1 m1 data1 cmp1 rec_ = some r) ?_ ?_
  ·clear h hI; rintro _ w2 ⟨c3, hI, h⟩
   try dsimp only at hI h
   rw [m_slices_symMergeCmpFunc_api_Slot_w_j2] at h
   refine c_sub (e := [(0, (vs a1 n1 c1)), (1, (vi a2)), (2, (vi m1)), (3, (vi b1)), (4, fv1)]) ⟨rfl, rfl, rfl, rfl, rfl, trivial⟩ ?_
   refine sr ?_
   refine sm ?_
   refine sm ?_
   refine sq (y_add rfl et et) ?_
   refine sq (y_conv rfl (by rw [Tryd.underlying3]; rfl) Tryd.underlying75 et) ?_
   refine sq (y_shrc (s := 1) rfl et ev_const (by decide) rfl) ?_
   refine sq (y_conv rfl (by rw [Tryd.underlying75]; rfl) Tryd.underlying3 et) ?_
   obtain ⟨mid1, hx1, h⟩ := bnd_some h
   refine sq (binU (y_assign rfl et) (congrArg (Value.int .i64) (some_inj hx1))) ?_
   refine nk ?_
   refine sr ?_
   refine sm ?_
   refine sm ?_
   refine sq (y_add rfl et et) ?_
   refine sa ?_
   refine nk ?_
   refine sr ?_
   refine sac ?_
   refine sac ?_
   refine nk ?_
   refine c_join (α := Int × Int) (fun _ => ⟨220, []⟩) (fun x => [(0, (vs a1 n1 c1)), (1, (vi a2)), (2, (vi m1)), (3, (vi b1)), (4, fv1), (18, (vi mid1)), (19, (vi (wi64 (mid1 + m1)))), (20, (vi (x.1))), (21, (vi (x.2)))]) (fun x => fun w => ∃ C, Bun C0 F w0 C w [MO.prow cGSlot 39 a1 n1 c1 data1] [clFn_k3 fv1 cmp1] ∧ m_slices_symMergeCmpFunc_api_Slot_w_j3 mid1 m1 data1 cmp1 a2 rec_ b1 (x.1) (x.2) = some r) ?_ ?_
   ·clear h hI; rintro ⟨start1, r1⟩ w3 ⟨c4, hI, h⟩
    try dsimp only at hI h
    rw [m_slices_symMergeCmpFunc_api_Slot_w_j3] at h
    refine c_sub (e := [(0, (vs a1 n1 c1)), (1, (vi a2)), (2, (vi m1)), (3, (vi b1)), (4, fv1), (18, (vi mid1)), (19, (vi (wi64 (mid1 + m1)))), (20, (vi start1)), (21, (vi r1))]) ⟨rfl, rfl, rfl, rfl, rfl, rfl, rfl, rfl, rfl, trivial⟩ ?_
    refine sr ?_
    refine sm ?_
    refine sq (y_sub rfl et ev_const) ?_
    obtain ⟨p1, hx2, h⟩ := bnd_some h
    refine sq (binU (y_assign rfl et) (congrArg (Value.int .i64) (some_inj hx2))) ?_
    refine nk ?_
    refine c_join (α := Int) (fun _ => ⟨220, []⟩) (fun x => [(0, (vs a1 n1 c1)), (1, (vi a2)), (2, (vi m1)), (3, (vi b1)), (4, fv1), (18, (vi mid1)), (19, (vi (wi64 (mid1 + m1)))), (20, (vi x))]) (fun x => fun w => ∃ C, Bun C0 F w0 C w [MO.prow cGSlot 39 a1 n1 c1 data1] [clFn_k3 fv1 cmp1] ∧ m_slices_symMergeCmpFunc_api_Slot_w_j4 mid1 m1 data1 cmp1 a2 rec_ b1 x = some r) ?_ ?_
    ·clear h hI; rintro start2 w4 ⟨c5, hI, h⟩
     try dsimp only at hI h
     rw [m_slices_symMergeCmpFunc_api_Slot_w_j4] at h
     refine c_sub (e := [(0, (vs a1 n1 c1)), (1, (vi a2)), (2, (vi m1)), (3, (vi b1)), (4, fv1), (18, (vi mid1)), (19, (vi (wi64 (mid1 + m1)))), (20, (vi start2))]) ⟨rfl, rfl, rfl, rfl, rfl, rfl, rfl, rfl, trivial⟩ ?_
     refine sr ?_
     refine sm ?_
     refine sm ?_
     refine sq (y_sub rfl et et) ?_
     obtain ⟨end1, hx3, h⟩ := bnd_some h
     refine sq (binU (y_assign rfl et) (congrArg (Value.int .i64) (some_inj hx3))) ?_
     refine nk ?_
     refine c_join (α := (List GSlot)) (fun _ => ⟨220, []⟩) (fun x => [(0, (vs a1 n1 c1)), (1, (vi a2)), (3, (vi b1)), (4, fv1), (18, (vi mid1)), (20, (vi start2)), (24, (vi end1))]) (fun x => fun w => ∃ C, Bun C0 F w0 C w [MO.prow cGSlot 39 a1 n1 c1 x] [clFn_k3 fv1 cmp1] ∧ m_slices_symMergeCmpFunc_api_Slot_w_j5 a2 start2 mid1 rec_ cmp1 end1 b1 x = some r) ?_ ?_
     ·clear h hI; rintro l1 w5 ⟨c6, hI, h⟩
      try dsimp only at hI h
      rw [m_slices_symMergeCmpFunc_api_Slot_w_j5] at h
      refine c_sub (e := [(0, (vs a1 n1 c1)), (1, (vi a2)), (3, (vi b1)), (4, fv1), (18, (vi mid1)), (20, (vi start2)), (24, (vi end1))]) ⟨rfl, rfl, rfl, rfl, rfl, rfl, rfl, trivial⟩ ?_
      refine c_join (α := (List GSlot)) (fun _ => ⟨220, []⟩) (fun x => [(0, (vs a1 n1 c1)), (3, (vi b1)), (4, fv1), (18, (vi mid1)), (24, (vi end1))]) (fun x => fun w => ∃ C, Bun C0 F w0 C w [MO.prow cGSlot 39 a1 n1 c1 x] [clFn_k3 fv1 cmp1] ∧ m_slices_symMergeCmpFunc_api_Slot_w_j6 mid1 end1 b1 rec_ cmp1 x = some r) ?_ ?_
      ·clear h hI; rintro l2 w6 ⟨c7, hI, h⟩
       try dsimp only at hI h
       rw [m_slices_symMergeCmpFunc_api_Slot_w_j6] at h
       refine c_sub (e := [(0, (vs a1 n1 c1)), (3, (vi b1)), (4, fv1), (18, (vi mid1)), (24, (vi end1))]) ⟨rfl, rfl, rfl, rfl, rfl, trivial⟩ ?_
       refine sr ?_
       refine sm ?_
       refine sm ?_
       refine sq (y_lss rfl et et) ?_
       refine sm ?_
       refine s_gval (g_true rfl rfl rfl rfl) rfl (fun hc => (y_move rfl et)) ?_
       refine s_gval (g_true rfl rfl rfl rfl) rfl (fun hc => (y_move rfl et)) ?_
       refine s_gval (g_true rfl rfl rfl rfl) rfl (fun hc => (y_lss rfl (ev_gv et hc) (ev_gv et hc))) ?_
       refine sq (y_and rfl et et) ?_
       refine nk ?_
       refine c_cond (b := (decide (mid1 < end1)) && (decide (end1 < b1))) et (fun hb => ?_) (fun hb => ?_)
       ·replace h := ite_t hb h
        refine c_region rfl ?_
        refine sm ?_
        refine sm ?_
        refine sm ?_
        refine sm ?_
        refine sm ?_
        obtain ⟨c8, f1, hB, hl1, hk1⟩ := hI.hands (.l .n)
        obtain ⟨⟨r2, s1⟩, hx4, h⟩ := bnd_some h
        try dsimp only at h
        refine s_call gn rfl (r_callF (vs := [(vs a1 n1 c1), (vi mid1), (vi end1), (vi b1), fv1]) rfl ok_60 ⟨et, ⟨et, ⟨et, ⟨et, ⟨et, trivial⟩⟩⟩⟩⟩) (Calls.mono (hrec c8 f1 w6 l2 mid1 end1 b1 cmp1 a1 n1 c1 fv1 (hB.subs ⟨.z, trivial⟩) _ hx4) ?_)
        rintro _ w7 ⟨c9, rfl, hB2⟩
        obtain ⟨c10, hs1, hI⟩ := hk1 _ _ _ _ hB2
        replace hI : Bun C0 F w0 c10 w7 [MO.prow cGSlot 39 a1 n1 c1 s1] [clFn_k3 fv1 cmp1] := hI
        refine ⟨_, rfl, ?_⟩
        refine s_nil ?_
        obtain rfl := some_inj h
        exact q_ret (vs := []) Tryd.results60 trivial ⟨_, rfl, hI.arr (.c .z .n) trivial⟩
       ·replace h := ite_f hb h
        refine c_skip ?_
        obtain rfl := some_inj h
        exact q_ret (vs := []) Tryd.results60 trivial ⟨_, rfl, hI.arr (.c .z .n) trivial⟩
      ·skip
       refine sr ?_
       refine sm ?_
       refine sm ?_
       refine sq (y_lss rfl et et) ?_
       refine sm ?_
       refine s_gval (g_true rfl rfl rfl rfl) rfl (fun hc => (y_move rfl et)) ?_
       refine s_gval (g_true rfl rfl rfl rfl) rfl (fun hc => (y_move rfl et)) ?_
       refine s_gval (g_true rfl rfl rfl rfl) rfl (fun hc => (y_lss rfl (ev_gv et hc) (ev_gv et hc))) ?_
       refine sq (y_and rfl et et) ?_
       refine nk ?_
       refine c_cond (b := (decide (a2 < start2)) && (decide (start2 < mid1))) et (fun hb => ?_) (fun hb => ?_)
       ·replace h := ite_t hb h
        refine c_region rfl ?_
        refine sm ?_
        refine sm ?_
        refine sm ?_
        refine sm ?_
        refine sm ?_
        obtain ⟨c11, f2, hB, hl2, hk2⟩ := hI.hands (.l .n)
        obtain ⟨⟨r3, s2⟩, hx5, h⟩ := bnd_some h
        try dsimp only at h
        refine s_call gn rfl (r_callF (vs := [(vs a1 n1 c1), (vi a2), (vi start2), (vi mid1), fv1]) rfl ok_60 ⟨et, ⟨et, ⟨et, ⟨et, ⟨et, trivial⟩⟩⟩⟩⟩) (Calls.mono (hrec c11 f2 w5 l1 a2 start2 mid1 cmp1 a1 n1 c1 fv1 (hB.subs ⟨.z, trivial⟩) _ hx5) ?_)
        rintro _ w8 ⟨c12, rfl, hB2⟩
        obtain ⟨c13, hs2, hI⟩ := hk2 _ _ _ _ hB2
        replace hI : Bun C0 F w0 c13 w8 [MO.prow cGSlot 39 a1 n1 c1 s2] [clFn_k3 fv1 cmp1] := hI
        refine ⟨_, rfl, ?_⟩
        refine s_nil ?_
        exact k_join s2 ⟨rfl, rfl, rfl, rfl, rfl, trivial⟩ ⟨_, hI.arr (.c .z .n) ⟨.z, trivial⟩, h⟩ rfl
       ·replace h := ite_f hb h
        refine c_skip ?_
        exact k_join l1 ⟨rfl, rfl, rfl, rfl, rfl, trivial⟩ ⟨_, hI.arr (.c .z .n) ⟨.z, trivial⟩, h⟩ rfl
     ·skip
      refine sr ?_
      refine sm ?_
      refine sm ?_
      refine sq (y_lss rfl et et) ?_
      refine sm ?_
      refine s_gval (g_true rfl rfl rfl rfl) rfl (fun hc => (y_move rfl et)) ?_
      refine s_gval (g_true rfl rfl rfl rfl) rfl (fun hc => (y_move rfl et)) ?_
      refine s_gval (g_true rfl rfl rfl rfl) rfl (fun hc => (y_lss rfl (ev_gv et hc) (ev_gv et hc))) ?_
      refine sq (y_and rfl et et) ?_
      refine nk ?_
      refine c_cond (b := (decide (start2 < m1)) && (decide (m1 < end1))) et (fun hb => ?_) (fun hb => ?_)
      ·replace h := ite_t hb h
       refine c_region rfl ?_
       refine sm ?_
       refine sm ?_
       refine sm ?_
       refine sm ?_
       refine sm ?_
       obtain ⟨c14, f3, hB, hl3, hk3⟩ := hI.hands (.l .n)
       obtain ⟨⟨r4, s3⟩, hx6, h⟩ := bnd_some h
       try dsimp only at h
       refine s_call gn rfl (r_callF (vs := [(vs a1 n1 c1), (vi start2), (vi m1), (vi end1), fv1]) rfl ok_63 ⟨et, ⟨et, ⟨et, ⟨et, ⟨et, trivial⟩⟩⟩⟩⟩) (Calls.mono (c_slices_rotateCmpFunc_api_Slot_w c14 f3 w4 data1 start2 m1 end1 cmp1 a1 n1 c1 fv1 (hB.subs ⟨.z, trivial⟩) _ hx6) ?_)
       rintro _ w9 ⟨c15, rfl, hB2⟩
       obtain ⟨c16, hs3, hI⟩ := hk3 _ _ _ _ hB2
       replace hI : Bun C0 F w0 c16 w9 [MO.prow cGSlot 39 a1 n1 c1 s3] [clFn_k3 fv1 cmp1] := hI
       refine ⟨_, rfl, ?_⟩
       refine s_nil ?_
       exact k_join s3 ⟨rfl, rfl, rfl, rfl, rfl, rfl, rfl, trivial⟩ ⟨_, hI.arr (.c .z .n) ⟨.z, trivial⟩, h⟩ rfl
      ·replace h := ite_f hb h
       refine c_skip ?_
       exact k_join data1 ⟨rfl, rfl, rfl, rfl, rfl, rfl, rfl, trivial⟩ ⟨_, hI.arr (.c .z .n) ⟨.z, trivial⟩, h⟩ rfl
    ·skip
     refine c_block ?_
     refine c_loop (α := Nat × Int × Int) (fun x => fun w => ∃ C, Bun C0 F w0 C w [MO.prow cGSlot 39 a1 n1 c1 data1] [clFn_k3 fv1 cmp1] ∧ m_slices_symMergeCmpFunc_api_Slot_w_l1 data1 p1 cmp1 mid1 m1 a2 rec_ b1 (x.1) (x.2.1) (x.2.2) = some r) (fun x _ => x.1) (fun x => [(0, (vs a1 n1 c1)), (1, (vi a2)), (2, (vi m1)), (3, (vi b1)), (4, fv1), (18, (vi mid1)), (19, (vi (wi64 (mid1 + m1)))), (20, (vi (x.2.1))), (21, (vi (x.2.2))), (22, (vi p1))]) (fu, start1, r1) ⟨_, hI.arr (.c .z .n) ⟨.z, trivial⟩, h⟩ ⟨rfl, rfl, rfl, rfl, rfl, rfl, rfl, rfl, rfl, rfl, trivial⟩ ?_
     clear h hI; rintro ⟨fuel1, start3, r5⟩ w10 ⟨c17, hI, h⟩
     dsimp only at hI h
     rcases fuel1 with _ | fuel1
     ·rw [m_slices_symMergeCmpFunc_api_Slot_w_l1] at h; cases h
     rw [m_slices_symMergeCmpFunc_api_Slot_w_l1] at h
     refine c_sub (e := [(0, (vs a1 n1 c1)), (1, (vi a2)), (2, (vi m1)), (3, (vi b1)), (4, fv1), (18, (vi mid1)), (19, (vi (wi64 (mid1 + m1)))), (20, (vi start3)), (21, (vi r5)), (22, (vi p1))]) ⟨rfl, rfl, rfl, rfl, rfl, rfl, rfl, rfl, rfl, rfl, trivial⟩ ?_
     refine c_seq ?_
     refine sr ?_
     refine sm ?_
     refine sm ?_
     refine sq (y_lss rfl et et) ?_
     refine nk ?_
     refine c_cond (b := decide (start3 < r5)) et (fun hb => ?_) (fun hb => ?_)
     ·replace h := ite_t hb h
      refine c_skip ?_
      refine k_same ?_
      refine c_block ?_
      refine sr ?_
      refine sm ?_
      refine sm ?_
      refine sq (y_add rfl et et) ?_
      refine sq (y_conv rfl (by rw [Tryd.underlying3]; rfl) Tryd.underlying75 et) ?_
      refine sq (y_shrc (s := 1) rfl et ev_const (by decide) rfl) ?_
      refine sq (y_conv rfl (by rw [Tryd.underlying75]; rfl) Tryd.underlying3 et) ?_
      obtain ⟨c18, hx7, h⟩ := bnd_some h
      refine sq (binU (y_assign rfl et) (congrArg (Value.int .i64) (some_inj hx7))) ?_
      refine nk ?_
      refine c_seq ?_
      refine c_drawX [] false (.c (0, .q) (.c (1, .q) (.c (2, .q) (.c (3, .q) (.c (4, .q) (.c (5, .q) (.c (6, .q) (.c (7, .q) (.c (8, .q) (.c (9, .q) (.c (10, .q) (.c (11, .s) (.c (12, .q) (.c (13, .q) .n)))))))))))))) hI (by kernel_rfl) (by kernel_rfl) ?_
      clear hI; intro w11 hI
      refine a_q rfl gn rfl (fun w' => (y_move rfl et)) ?_
      refine a_q rfl gn rfl (fun w' => (y_move rfl et)) ?_
      refine a_q rfl gn rfl (fun w' => (y_move rfl et)) ?_
      refine a_q rfl gn rfl (fun w' => (y_move rfl et)) ?_
      refine a_q rfl gn rfl (fun w' => (y_sub rfl et et)) ?_
      obtain ⟨e1, hx8, h⟩ := bnd_some h
      obtain ⟨ad1, cs1, hA1, hr1, hq1⟩ := (hI.unpin .z).2.olat .z hx8
      obtain rfl : cs1 = [(str e1.Name), (vi e1.At), (vi e1.Len)] := hr1
      refine a_q rfl gn rfl (fun w' => (y_indexAddr rfl Tryd.underlying25 size_39 et et (bdn (hI.unpin .z).1 (lat_bd hx8)) hA1)) ?_
      refine a_read rfl gn rfl (fun w' hw' => (y_loadN (l := [(str e1.Name), (vi e1.At), (vi e1.Len)]) rfl et Tryd.underlying39 rfl size_39 (hq1.at_ (SX.any rfl hw')))) (by kernel_rfl) ?_
      refine a_q rfl gn rfl (fun w' => (y_move rfl et)) ?_
      refine a_q rfl gn rfl (fun w' => (y_move rfl et)) ?_
      obtain ⟨e2, hx9, h⟩ := bnd_some h
      obtain ⟨ad2, cs2, hA2, hr2, hq2⟩ := (hI.unpin .z).2.olat .z hx9
      obtain rfl : cs2 = [(str e2.Name), (vi e2.At), (vi e2.Len)] := hr2
      refine a_q rfl gn rfl (fun w' => (y_indexAddr rfl Tryd.underlying25 size_39 et et (bdn (hI.unpin .z).1 (lat_bd hx9)) hA2)) ?_
      refine a_read rfl gn rfl (fun w' hw' => (y_loadN (l := [(str e2.Name), (vi e2.At), (vi e2.Len)]) rfl et Tryd.underlying39 rfl size_39 (hq2.at_ (SX.any rfl hw')))) (by kernel_rfl) ?_
      obtain ⟨r6, hx10, h⟩ := bnd_some h
      refine la_callV (args := [(Value.agg #[(str e1.Name), (vi e1.At), (vi e1.Len)]), (Value.agg #[(str e2.Name), (vi e2.At), (vi e2.Len)])]) rfl gn rfl rfl et ⟨et, ⟨et, trivial⟩⟩ (CallV.mono ((hI.get .z).2 (Dj F c17) w11 (Sp.of_ext .rfl') hI.lt e1 e2 r6 trivial hx10) ?_)
      rintro _ w12 ⟨rfl, hx11, hl4⟩
      refine ⟨_, rfl, _, Sp.of_ext hx11, ?_⟩
      replace hI := (hI.ext hx11)
      refine a_q rfl gn rfl (fun w' => (y_lss rfl et ev_const)) ?_
      refine a_q rfl gn rfl (fun w' => (y_not rfl et)) ?_
      refine a_nil ?_
      refine k_same ?_
      refine c_cond (b := !(decide (r6 < 0))) et (fun hb => ?_) (fun hb => ?_)
      ·replace h := ite_t hb h
       refine c_region rfl ?_
       refine sm ?_
       refine sq (y_add rfl et ev_const) ?_
       refine sa ?_
       refine s_nil ?_
       exact k_loop (fuel1, wi64 (c18 + 1), r5) ⟨rfl, rfl, rfl, rfl, rfl, rfl, rfl, rfl, rfl, rfl, trivial⟩ ⟨_, hI.arr (.c .z .n) ⟨.z, trivial⟩, h⟩ (Nat.lt_succ_self _)
      ·replace h := ite_f hb h
       refine c_region rfl ?_
       refine sm ?_
       refine sa ?_
       refine s_nil ?_
       exact k_loop (fuel1, start3, c18) ⟨rfl, rfl, rfl, rfl, rfl, rfl, rfl, rfl, rfl, rfl, trivial⟩ ⟨_, hI.arr (.c .z .n) ⟨.z, trivial⟩, h⟩ (Nat.lt_succ_self _)
     ·replace h := ite_f hb h
      refine c_exit ?_
      refine k_in ?_
      exact k_join start3 ⟨rfl, rfl, rfl, rfl, rfl, rfl, rfl, rfl, trivial⟩ ⟨_, hI.arr (.c .z .n) ⟨.z, trivial⟩, h⟩ rfl
   ·skip
    refine sr ?_
    refine sm ?_
    refine sm ?_
    refine sq (y_gtr rfl et et) ?_
    refine nk ?_
    refine c_cond (b := decide (mid1 < m1)) et (fun hb => ?_) (fun hb => ?_)
    ·replace h := ite_t hb h
     refine sr ?_
     refine sm ?_
     refine sm ?_
     refine sq (y_sub rfl et et) ?_
     obtain ⟨start4, hx12, h⟩ := bnd_some h
     refine sq (binU (y_assign rfl et) (congrArg (Value.int .i64) (some_inj hx12))) ?_
     refine nk ?_
     refine c_region rfl ?_
     refine sm ?_
     refine sa ?_
     refine s_nil ?_
     exact k_join (start4, mid1) ⟨rfl, rfl, rfl, rfl, rfl, rfl, rfl, rfl, rfl, trivial⟩ ⟨_, hI.arr (.c .z .n) ⟨.z, trivial⟩, h⟩ rfl
    ·replace h := ite_f hb h
     refine sr ?_
     refine sm ?_
     refine sa ?_
     refine nk ?_
     refine c_region rfl ?_
     refine sm ?_
     refine sa ?_
     refine s_nil ?_
     exact k_join (a2, m1) ⟨rfl, rfl, rfl, rfl, rfl, rfl, rfl, rfl, rfl, trivial⟩ ⟨_, hI.arr (.c .z .n) ⟨.z, trivial⟩, h⟩ rfl
  ·skip
   refine sr ?_
   refine sm ?_
   refine sm ?_
   refine sq (y_sub rfl et et) ?_
   refine sq (y_eql rfl et ev_const) ?_
   refine nk ?_
   refine c_cond (b := decide (wi64 (b1 - m1) = 1)) et (fun hb => ?_) (fun hb => ?_)
   ·replace h := ite_t hb h
    refine sr ?_
    refine sm ?_
    refine sa ?_
    refine nk ?_
    refine sr ?_
    refine sm ?_
    refine sa ?_
    refine nk ?_
    refine c_join (α := Int) (fun _ => ⟨220, []⟩) (fun x => [(0, (vs a1 n1 c1)), (2, (vi m1)), (14, (vi x))]) (fun x => fun w => ∃ C, Bun C0 F w0 C w [MO.prow cGSlot 39 a1 n1 c1 data1] [] ∧ m_slices_symMergeCmpFunc_api_Slot_w_j7 m1 data1 x = some r) ?_ ?_
    ·clear h hI; rintro i1 w13 ⟨c19, hI, h⟩
     try dsimp only at hI h
     rw [m_slices_symMergeCmpFunc_api_Slot_w_j7] at h
     refine c_sub (e := [(0, (vs a1 n1 c1)), (2, (vi m1)), (14, (vi i1))]) ⟨rfl, rfl, rfl, trivial⟩ ?_
     refine c_seq ?_
     refine sr ?_
     refine sm ?_
     refine sa ?_
     refine nk ?_
     refine c_block ?_
     refine c_loop (α := Nat × Int × (List GSlot)) (fun x => fun w => ∃ C, Bun C0 F w0 C w [MO.prow cGSlot 39 a1 n1 c1 (x.2.2)] [] ∧ m_slices_symMergeCmpFunc_api_Slot_w_l2 i1 (x.1) (x.2.1) (x.2.2) = some r) (fun x _ => x.1) (fun x => [(0, (vs a1 n1 c1)), (14, (vi i1)), (17, (vi (x.2.1)))]) (fu, m1, data1) ⟨_, hI.arr (.c .z .n) trivial, h⟩ ⟨rfl, rfl, rfl, trivial⟩ ?_
     clear h hI; rintro ⟨fuel2, k1, l3⟩ w14 ⟨c20, hI, h⟩
     dsimp only at hI h
     rcases fuel2 with _ | fuel2
     ·rw [m_slices_symMergeCmpFunc_api_Slot_w_l2] at h; cases h
     rw [m_slices_symMergeCmpFunc_api_Slot_w_l2] at h
     refine c_sub (e := [(0, (vs a1 n1 c1)), (14, (vi i1)), (17, (vi k1))]) ⟨rfl, rfl, rfl, trivial⟩ ?_
     refine c_seq ?_
     refine sr ?_
     refine sm ?_
     refine sm ?_
     refine sq (y_gtr rfl et et) ?_
     refine nk ?_
     refine c_cond (b := decide (i1 < k1)) et (fun hb => ?_) (fun hb => ?_)
     ·replace h := ite_t hb h
      refine c_skip ?_
      refine k_same ?_
      refine c_seq ?_
      refine c_block ?_
      refine c_drawX [15, 17] false (.c (0, .q) (.c (1, .q) (.c (2, .q) (.c (3, .q) (.c (4, .q) (.c (5, .q) (.c (6, .q) (.c (7, .q) (.c (8, .q) (.c (9, .q) (.c (10, .q) (.c (11, .q) (.c (12, .q) (.c (13, .q) (.c (14, .q) (.c (15, .s) (.c (16, .q) (.c (17, .s) .n)))))))))))))))))) hI (by kernel_rfl) (by kernel_rfl) ?_
      clear hI; intro w15 hI
      refine a_q rfl gn rfl (fun w' => (y_move rfl et)) ?_
      refine a_q rfl gn rfl (fun w' => (y_move rfl et)) ?_
      refine a_q rfl gn rfl (fun w' => (y_move rfl et)) ?_
      refine a_q rfl gn rfl (fun w' => (y_move rfl et)) ?_
      refine a_q rfl gn rfl (fun w' => (y_sub rfl et ev_const)) ?_
      refine a_q rfl gn rfl (fun w' => (y_move rfl et)) ?_
      refine a_q rfl gn rfl (fun w' => (y_move rfl et)) ?_
      refine a_q rfl gn rfl (fun w' => (y_sub rfl et ev_const)) ?_
      obtain ⟨e3, hx13, h⟩ := bnd_some h
      obtain ⟨ad3, cs3, hA3, hr3, hq3⟩ := (hI.unpin .z).2.olat .z hx13
      obtain rfl : cs3 = [(str e3.Name), (vi e3.At), (vi e3.Len)] := hr3
      refine a_q rfl gn rfl (fun w' => (y_indexAddr rfl Tryd.underlying25 size_39 et et (bdn (hI.unpin .z).1 (lat_bd hx13)) hA3)) ?_
      refine a_read rfl gn rfl (fun w' hw' => (y_loadN (l := [(str e3.Name), (vi e3.At), (vi e3.Len)]) rfl et Tryd.underlying39 rfl size_39 (hq3.at_ (SX.any rfl hw')))) (by kernel_rfl) ?_
      refine a_q rfl gn rfl (fun w' => (y_move rfl et)) ?_
      refine a_q rfl gn rfl (fun w' => (y_move rfl et)) ?_
      obtain ⟨e4, hx14, h⟩ := bnd_some h
      obtain ⟨ad4, cs4, hA4, hr4, hq4⟩ := (hI.unpin .z).2.olat .z hx14
      obtain rfl : cs4 = [(str e4.Name), (vi e4.At), (vi e4.Len)] := hr4
      refine a_q rfl gn rfl (fun w' => (y_indexAddr rfl Tryd.underlying25 size_39 et et (bdn (hI.unpin .z).1 (lat_bd hx14)) hA4)) ?_
      refine a_read rfl gn rfl (fun w' hw' => (y_loadN (l := [(str e4.Name), (vi e4.At), (vi e4.Len)]) rfl et Tryd.underlying39 rfl size_39 (hq4.at_ (SX.any rfl hw')))) (by kernel_rfl) ?_
      obtain ⟨ho1, h⟩ := chk_some h
      obtain ⟨ad5, hA5⟩ := (hI.unpin .z).2.addr .z ho1
      refine a_q rfl gn rfl (fun w' => (y_indexAddr rfl Tryd.underlying25 size_39 et et (bdn (hI.unpin .z).1 ho1) hA5)) ?_
      refine a_turn (F := F) (C := c20) rfl rfl ?_
      obtain ⟨hl5, hP⟩ := hI.unpin .z
      refine la_storeRow (p := Int.toNat k1) (new := [(str e3.Name), (vi e3.At), (vi e3.Len)]) (off := 0) (x' := e3) hP .z rfl gn rfl rfl (by have := ho1; first | omega | (simp only [List.length_set]; omega)) hA5 rfl et et rfl size_39 rfl (by show 0 + 3 ≤ 3; omega) (fun _ cs0 _ hr0 => by rw [spl_full (by have e := Cod.len _ hr0; exact e)]; exact rfl) ?_
      clear hI hP; intro c21 w16 hI
      replace hI := hI.pin .z (lset_len hl5)
      obtain ⟨ho2, h⟩ := chk_some h
      obtain ⟨ad6, hA6⟩ := (hI.unpin .z).2.addr .z ho2
      refine a_q rfl gn rfl (fun w' => (y_indexAddr rfl Tryd.underlying25 size_39 et et (bdn (hI.unpin .z).1 ho2) hA6)) ?_
      obtain ⟨hl6, hP⟩ := hI.unpin .z
      refine la_storeRow (p := Int.toNat (wi64 (k1 - 1))) (new := [(str e4.Name), (vi e4.At), (vi e4.Len)]) (off := 0) (x' := e4) hP .z rfl gn rfl rfl (by have := ho2; first | omega | (simp only [List.length_set]; omega)) hA6 rfl et et rfl size_39 rfl (by show 0 + 3 ≤ 3; omega) (fun _ cs0 _ hr0 => by rw [spl_full (by have e := Cod.len _ hr0; exact e)]; exact rfl) ?_
      clear hI hP; intro c22 w17 hI
      replace hI := hI.pin .z (lset_len hl6)
      refine a_nil ?_
      refine k_same ?_
      refine c_region rfl ?_
      refine sm ?_
      refine sq (y_sub rfl et ev_const) ?_
      refine sa ?_
      refine s_nil ?_
      exact k_loop (fuel2, wi64 (k1 - 1), (l3.set (Int.toNat k1) e3).set (Int.toNat (wi64 (k1 - 1))) e4) ⟨rfl, rfl, rfl, trivial⟩ ⟨_, hI.arr (.c .z .n) trivial, h⟩ (Nat.lt_succ_self _)
     ·replace h := ite_f hb h
      refine c_exit ?_
      refine k_in ?_
      refine k_same ?_
      refine c_ret ?_
      obtain rfl := some_inj h
      exact q_ret (vs := []) Tryd.results60 trivial ⟨_, rfl, hI.arr (.c .z .n) trivial⟩
    ·skip
     refine c_block ?_
     refine c_loop (α := Nat × Int × Int) (fun x => fun w => ∃ C, Bun C0 F w0 C w [MO.prow cGSlot 39 a1 n1 c1 data1] [clFn_k3 fv1 cmp1] ∧ m_slices_symMergeCmpFunc_api_Slot_w_l3 data1 m1 cmp1 (x.1) (x.2.1) (x.2.2) = some r) (fun x _ => x.1) (fun x => [(0, (vs a1 n1 c1)), (2, (vi m1)), (4, fv1), (14, (vi (x.2.1))), (15, (vi (x.2.2)))]) (fu, a2, m1) ⟨_, hI.arr (.c .z .n) ⟨.z, trivial⟩, h⟩ ⟨rfl, rfl, rfl, rfl, rfl, trivial⟩ ?_
     clear h hI; rintro ⟨fuel3, i2, j1⟩ w18 ⟨c23, hI, h⟩
     dsimp only at hI h
     rcases fuel3 with _ | fuel3
     ·rw [m_slices_symMergeCmpFunc_api_Slot_w_l3] at h; cases h
     rw [m_slices_symMergeCmpFunc_api_Slot_w_l3] at h
     refine c_sub (e := [(0, (vs a1 n1 c1)), (2, (vi m1)), (4, fv1), (14, (vi i2)), (15, (vi j1))]) ⟨rfl, rfl, rfl, rfl, rfl, trivial⟩ ?_
     refine c_seq ?_
     refine sr ?_
     refine sm ?_
     refine sm ?_
     refine sq (y_lss rfl et et) ?_
     refine nk ?_
     refine c_cond (b := decide (i2 < j1)) et (fun hb => ?_) (fun hb => ?_)
     ·replace h := ite_t hb h
      refine c_skip ?_
      refine k_same ?_
      refine c_block ?_
      refine sr ?_
      refine sm ?_
      refine sm ?_
      refine sq (y_add rfl et et) ?_
      refine sq (y_conv rfl (by rw [Tryd.underlying3]; rfl) Tryd.underlying75 et) ?_
      refine sq (y_shrc (s := 1) rfl et ev_const (by decide) rfl) ?_
      refine sq (y_conv rfl (by rw [Tryd.underlying75]; rfl) Tryd.underlying3 et) ?_
      obtain ⟨h1, hx15, h⟩ := bnd_some h
      refine sq (binU (y_assign rfl et) (congrArg (Value.int .i64) (some_inj hx15))) ?_
      refine nk ?_
      refine c_seq ?_
      refine c_drawX [] false (.c (0, .q) (.c (1, .q) (.c (2, .q) (.c (3, .q) (.c (4, .q) (.c (5, .q) (.c (6, .q) (.c (7, .q) (.c (8, .q) (.c (9, .s) (.c (10, .q) (.c (11, .q) .n)))))))))))) hI (by kernel_rfl) (by kernel_rfl) ?_
      clear hI; intro w19 hI
      refine a_q rfl gn rfl (fun w' => (y_move rfl et)) ?_
      refine a_q rfl gn rfl (fun w' => (y_move rfl et)) ?_
      refine a_q rfl gn rfl (fun w' => (y_move rfl et)) ?_
      obtain ⟨e5, hx16, h⟩ := bnd_some h
      obtain ⟨ad7, cs5, hA7, hr5, hq5⟩ := (hI.unpin .z).2.olat .z hx16
      obtain rfl : cs5 = [(str e5.Name), (vi e5.At), (vi e5.Len)] := hr5
      refine a_q rfl gn rfl (fun w' => (y_indexAddr rfl Tryd.underlying25 size_39 et et (bdn (hI.unpin .z).1 (lat_bd hx16)) hA7)) ?_
      refine a_read rfl gn rfl (fun w' hw' => (y_loadN (l := [(str e5.Name), (vi e5.At), (vi e5.Len)]) rfl et Tryd.underlying39 rfl size_39 (hq5.at_ (SX.any rfl hw')))) (by kernel_rfl) ?_
      refine a_q rfl gn rfl (fun w' => (y_move rfl et)) ?_
      refine a_q rfl gn rfl (fun w' => (y_move rfl et)) ?_
      obtain ⟨e6, hx17, h⟩ := bnd_some h
      obtain ⟨ad8, cs6, hA8, hr6, hq6⟩ := (hI.unpin .z).2.olat .z hx17
      obtain rfl : cs6 = [(str e6.Name), (vi e6.At), (vi e6.Len)] := hr6
      refine a_q rfl gn rfl (fun w' => (y_indexAddr rfl Tryd.underlying25 size_39 et et (bdn (hI.unpin .z).1 (lat_bd hx17)) hA8)) ?_
      refine a_read rfl gn rfl (fun w' hw' => (y_loadN (l := [(str e6.Name), (vi e6.At), (vi e6.Len)]) rfl et Tryd.underlying39 rfl size_39 (hq6.at_ (SX.any rfl hw')))) (by kernel_rfl) ?_
      obtain ⟨r7, hx18, h⟩ := bnd_some h
      refine la_callV (args := [(Value.agg #[(str e5.Name), (vi e5.At), (vi e5.Len)]), (Value.agg #[(str e6.Name), (vi e6.At), (vi e6.Len)])]) rfl gn rfl rfl et ⟨et, ⟨et, trivial⟩⟩ (CallV.mono ((hI.get .z).2 (Dj F c23) w19 (Sp.of_ext .rfl') hI.lt e5 e6 r7 trivial hx18) ?_)
      rintro _ w20 ⟨rfl, hx19, hl7⟩
      refine ⟨_, rfl, _, Sp.of_ext hx19, ?_⟩
      replace hI := (hI.ext hx19)
      refine a_q rfl gn rfl (fun w' => (y_lss rfl et ev_const)) ?_
      refine a_q rfl gn rfl (fun w' => (y_not rfl et)) ?_
      refine a_nil ?_
      refine k_same ?_
      refine c_cond (b := !(decide (r7 < 0))) et (fun hb => ?_) (fun hb => ?_)
      ·replace h := ite_t hb h
       refine c_region rfl ?_
       refine sm ?_
       refine sq (y_add rfl et ev_const) ?_
       refine sa ?_
       refine s_nil ?_
       exact k_loop (fuel3, wi64 (h1 + 1), j1) ⟨rfl, rfl, rfl, rfl, rfl, trivial⟩ ⟨_, hI.arr (.c .z .n) ⟨.z, trivial⟩, h⟩ (Nat.lt_succ_self _)
      ·replace h := ite_f hb h
       refine c_region rfl ?_
       refine sm ?_
       refine sa ?_
       refine s_nil ?_
       exact k_loop (fuel3, i2, h1) ⟨rfl, rfl, rfl, rfl, rfl, trivial⟩ ⟨_, hI.arr (.c .z .n) ⟨.z, trivial⟩, h⟩ (Nat.lt_succ_self _)
     ·replace h := ite_f hb h
      refine c_exit ?_
      refine k_in ?_
      exact k_join i2 ⟨rfl, rfl, rfl, trivial⟩ ⟨_, hI.arr (.c .z .n) trivial, h⟩ rfl
   ·replace h := ite_f hb h
    refine c_skip ?_
    exact k_join () ⟨rfl, rfl, rfl, rfl, rfl, trivial⟩ ⟨_, hI.arr (.c .z .n) ⟨.z, trivial⟩, h⟩ rfl
 ·skip
  refine sr ?_
  refine sm ?_
  refine sm ?_
  refine sq (y_sub rfl et et) ?_
  refine sq (y_eql rfl et ev_const) ?_
  refine nk ?_
  refine c_cond (b := decide (wi64 (m1 - a2) = 1)) et (fun hb => ?_) (fun hb => ?_)
  ·replace h := ite_t hb h
   refine sr ?_
   refine sm ?_
   refine sa ?_
   refine nk ?_
   refine sr ?_
   refine sm ?_
   refine sa ?_
   refine nk ?_
   refine c_join (α := Int) (fun _ => ⟨220, []⟩) (fun x => [(0, (vs a1 n1 c1)), (1, (vi a2)), (10, (vi x))]) (fun x => fun w => ∃ C, Bun C0 F w0 C w [MO.prow cGSlot 39 a1 n1 c1 data1] [] ∧ m_slices_symMergeCmpFunc_api_Slot_w_j8 a2 data1 x = some r) ?_ ?_
   ·clear h hI; rintro i3 w21 ⟨c24, hI, h⟩
    try dsimp only at hI h
    rw [m_slices_symMergeCmpFunc_api_Slot_w_j8] at h
    refine c_sub (e := [(0, (vs a1 n1 c1)), (1, (vi a2)), (10, (vi i3))]) ⟨rfl, rfl, rfl, trivial⟩ ?_
    refine c_seq ?_
    refine sr ?_
    refine sm ?_
    refine sa ?_
    refine nk ?_
    refine c_block ?_
    refine c_loop (α := Nat × Int × (List GSlot)) (fun x => fun w => ∃ C, Bun C0 F w0 C w [MO.prow cGSlot 39 a1 n1 c1 (x.2.2)] [] ∧ m_slices_symMergeCmpFunc_api_Slot_w_l4 i3 (x.1) (x.2.1) (x.2.2) = some r) (fun x _ => x.1) (fun x => [(0, (vs a1 n1 c1)), (10, (vi i3)), (13, (vi (x.2.1)))]) (fu, a2, data1) ⟨_, hI.arr (.c .z .n) trivial, h⟩ ⟨rfl, rfl, rfl, trivial⟩ ?_
    clear h hI; rintro ⟨fuel4, k2, l4⟩ w22 ⟨c25, hI, h⟩
    dsimp only at hI h
    rcases fuel4 with _ | fuel4
    ·rw [m_slices_symMergeCmpFunc_api_Slot_w_l4] at h; cases h
    rw [m_slices_symMergeCmpFunc_api_Slot_w_l4] at h
    refine c_sub (e := [(0, (vs a1 n1 c1)), (10, (vi i3)), (13, (vi k2))]) ⟨rfl, rfl, rfl, trivial⟩ ?_
    refine c_seq ?_
    refine sr ?_
    refine sm ?_
    refine sm ?_
    refine sq (y_sub rfl et ev_const) ?_
    refine sq (y_lss rfl et et) ?_
    refine nk ?_
    refine c_cond (b := decide (k2 < wi64 (i3 - 1))) et (fun hb => ?_) (fun hb => ?_)
    ·replace h := ite_t hb h
     refine c_skip ?_
     refine k_same ?_
     refine c_seq ?_
     refine c_block ?_
     refine c_drawX [15, 17] false (.c (0, .q) (.c (1, .q) (.c (2, .q) (.c (3, .q) (.c (4, .q) (.c (5, .q) (.c (6, .q) (.c (7, .q) (.c (8, .q) (.c (9, .q) (.c (10, .q) (.c (11, .q) (.c (12, .q) (.c (13, .q) (.c (14, .q) (.c (15, .s) (.c (16, .q) (.c (17, .s) .n)))))))))))))))))) hI (by kernel_rfl) (by kernel_rfl) ?_
     clear hI; intro w23 hI
     refine a_q rfl gn rfl (fun w' => (y_move rfl et)) ?_
     refine a_q rfl gn rfl (fun w' => (y_move rfl et)) ?_
     refine a_q rfl gn rfl (fun w' => (y_move rfl et)) ?_
     refine a_q rfl gn rfl (fun w' => (y_move rfl et)) ?_
     refine a_q rfl gn rfl (fun w' => (y_add rfl et ev_const)) ?_
     refine a_q rfl gn rfl (fun w' => (y_move rfl et)) ?_
     refine a_q rfl gn rfl (fun w' => (y_move rfl et)) ?_
     refine a_q rfl gn rfl (fun w' => (y_add rfl et ev_const)) ?_
     obtain ⟨e7, hx20, h⟩ := bnd_some h
     obtain ⟨ad9, cs7, hA9, hr7, hq7⟩ := (hI.unpin .z).2.olat .z hx20
     obtain rfl : cs7 = [(str e7.Name), (vi e7.At), (vi e7.Len)] := hr7
     refine a_q rfl gn rfl (fun w' => (y_indexAddr rfl Tryd.underlying25 size_39 et et (bdn (hI.unpin .z).1 (lat_bd hx20)) hA9)) ?_
     refine a_read rfl gn rfl (fun w' hw' => (y_loadN (l := [(str e7.Name), (vi e7.At), (vi e7.Len)]) rfl et Tryd.underlying39 rfl size_39 (hq7.at_ (SX.any rfl hw')))) (by kernel_rfl) ?_
     refine a_q rfl gn rfl (fun w' => (y_move rfl et)) ?_
     refine a_q rfl gn rfl (fun w' => (y_move rfl et)) ?_
     obtain ⟨e8, hx21, h⟩ := bnd_some h
     obtain ⟨ad10, cs8, hA10, hr8, hq8⟩ := (hI.unpin .z).2.olat .z hx21
     obtain rfl : cs8 = [(str e8.Name), (vi e8.At), (vi e8.Len)] := hr8
     refine a_q rfl gn rfl (fun w' => (y_indexAddr rfl Tryd.underlying25 size_39 et et (bdn (hI.unpin .z).1 (lat_bd hx21)) hA10)) ?_
     refine a_read rfl gn rfl (fun w' hw' => (y_loadN (l := [(str e8.Name), (vi e8.At), (vi e8.Len)]) rfl et Tryd.underlying39 rfl size_39 (hq8.at_ (SX.any rfl hw')))) (by kernel_rfl) ?_
     obtain ⟨ho3, h⟩ := chk_some h
     obtain ⟨ad11, hA11⟩ := (hI.unpin .z).2.addr .z ho3
     refine a_q rfl gn rfl (fun w' => (y_indexAddr rfl Tryd.underlying25 size_39 et et (bdn (hI.unpin .z).1 ho3) hA11)) ?_
     refine a_turn (F := F) (C := c25) rfl rfl ?_
     obtain ⟨hl8, hP⟩ := hI.unpin .z
     refine la_storeRow (p := Int.toNat k2) (new := [(str e7.Name), (vi e7.At), (vi e7.Len)]) (off := 0) (x' := e7) hP .z rfl gn rfl rfl (by have := ho3; first | omega | (simp only [List.length_set]; omega)) hA11 rfl et et rfl size_39 rfl (by show 0 + 3 ≤ 3; omega) (fun _ cs0 _ hr0 => by rw [spl_full (by have e := Cod.len _ hr0; exact e)]; exact rfl) ?_
     clear hI hP; intro c26 w24 hI
     replace hI := hI.pin .z (lset_len hl8)
     obtain ⟨ho4, h⟩ := chk_some h
     obtain ⟨ad12, hA12⟩ := (hI.unpin .z).2.addr .z ho4
     refine a_q rfl gn rfl (fun w' => (y_indexAddr rfl Tryd.underlying25 size_39 et et (bdn (hI.unpin .z).1 ho4) hA12)) ?_
     obtain ⟨hl9, hP⟩ := hI.unpin .z
     refine la_storeRow (p := Int.toNat (wi64 (k2 + 1))) (new := [(str e8.Name), (vi e8.At), (vi e8.Len)]) (off := 0) (x' := e8) hP .z rfl gn rfl rfl (by have := ho4; first | omega | (simp only [List.length_set]; omega)) hA12 rfl et et rfl size_39 rfl (by show 0 + 3 ≤ 3; omega) (fun _ cs0 _ hr0 => by rw [spl_full (by have e := Cod.len _ hr0; exact e)]; exact rfl) ?_
     clear hI hP; intro c27 w25 hI
     replace hI := hI.pin .z (lset_len hl9)
     refine a_nil ?_
     refine k_same ?_
     refine c_region rfl ?_
     refine sm ?_
     refine sq (y_add rfl et ev_const) ?_
     refine sa ?_
     refine s_nil ?_
     exact k_loop (fuel4, wi64 (k2 + 1), (l4.set (Int.toNat k2) e7).set (Int.toNat (wi64 (k2 + 1))) e8) ⟨rfl, rfl, rfl, trivial⟩ ⟨_, hI.arr (.c .z .n) trivial, h⟩ (Nat.lt_succ_self _)
    ·replace h := ite_f hb h
     refine c_exit ?_
     refine k_in ?_
     refine k_same ?_
     refine c_ret ?_
     obtain rfl := some_inj h
     exact q_ret (vs := []) Tryd.results60 trivial ⟨_, rfl, hI.arr (.c .z .n) trivial⟩
   ·skip
    refine c_block ?_
    refine c_loop (α := Nat × Int × Int) (fun x => fun w => ∃ C, Bun C0 F w0 C w [MO.prow cGSlot 39 a1 n1 c1 data1] [clFn_k3 fv1 cmp1] ∧ m_slices_symMergeCmpFunc_api_Slot_w_l5 data1 a2 cmp1 (x.1) (x.2.1) (x.2.2) = some r) (fun x _ => x.1) (fun x => [(0, (vs a1 n1 c1)), (1, (vi a2)), (4, fv1), (10, (vi (x.2.1))), (11, (vi (x.2.2)))]) (fu, m1, b1) ⟨_, hI.arr (.c .z .n) ⟨.z, trivial⟩, h⟩ ⟨rfl, rfl, rfl, rfl, rfl, trivial⟩ ?_
    clear h hI; rintro ⟨fuel5, i4, j2⟩ w26 ⟨c28, hI, h⟩
    dsimp only at hI h
    rcases fuel5 with _ | fuel5
    ·rw [m_slices_symMergeCmpFunc_api_Slot_w_l5] at h; cases h
    rw [m_slices_symMergeCmpFunc_api_Slot_w_l5] at h
    refine c_sub (e := [(0, (vs a1 n1 c1)), (1, (vi a2)), (4, fv1), (10, (vi i4)), (11, (vi j2))]) ⟨rfl, rfl, rfl, rfl, rfl, trivial⟩ ?_
    refine c_seq ?_
    refine sr ?_
    refine sm ?_
    refine sm ?_
    refine sq (y_lss rfl et et) ?_
    refine nk ?_
    refine c_cond (b := decide (i4 < j2)) et (fun hb => ?_) (fun hb => ?_)
    ·replace h := ite_t hb h
     refine c_skip ?_
     refine k_same ?_
     refine c_block ?_
     refine sr ?_
     refine sm ?_
     refine sm ?_
     refine sq (y_add rfl et et) ?_
     refine sq (y_conv rfl (by rw [Tryd.underlying3]; rfl) Tryd.underlying75 et) ?_
     refine sq (y_shrc (s := 1) rfl et ev_const (by decide) rfl) ?_
     refine sq (y_conv rfl (by rw [Tryd.underlying75]; rfl) Tryd.underlying3 et) ?_
     obtain ⟨h2, hx22, h⟩ := bnd_some h
     refine sq (binU (y_assign rfl et) (congrArg (Value.int .i64) (some_inj hx22))) ?_
     refine nk ?_
     refine c_seq ?_
     refine c_drawX [] false (.c (0, .q) (.c (1, .q) (.c (2, .q) (.c (3, .q) (.c (4, .q) (.c (5, .q) (.c (6, .q) (.c (7, .q) (.c (8, .q) (.c (9, .s) (.c (10, .q) .n))))))))))) hI (by kernel_rfl) (by kernel_rfl) ?_
     clear hI; intro w27 hI
     refine a_q rfl gn rfl (fun w' => (y_move rfl et)) ?_
     refine a_q rfl gn rfl (fun w' => (y_move rfl et)) ?_
     refine a_q rfl gn rfl (fun w' => (y_move rfl et)) ?_
     obtain ⟨e9, hx23, h⟩ := bnd_some h
     obtain ⟨ad13, cs9, hA13, hr9, hq9⟩ := (hI.unpin .z).2.olat .z hx23
     obtain rfl : cs9 = [(str e9.Name), (vi e9.At), (vi e9.Len)] := hr9
     refine a_q rfl gn rfl (fun w' => (y_indexAddr rfl Tryd.underlying25 size_39 et et (bdn (hI.unpin .z).1 (lat_bd hx23)) hA13)) ?_
     refine a_read rfl gn rfl (fun w' hw' => (y_loadN (l := [(str e9.Name), (vi e9.At), (vi e9.Len)]) rfl et Tryd.underlying39 rfl size_39 (hq9.at_ (SX.any rfl hw')))) (by kernel_rfl) ?_
     refine a_q rfl gn rfl (fun w' => (y_move rfl et)) ?_
     refine a_q rfl gn rfl (fun w' => (y_move rfl et)) ?_
     obtain ⟨e10, hx24, h⟩ := bnd_some h
     obtain ⟨ad14, cs10, hA14, hr10, hq10⟩ := (hI.unpin .z).2.olat .z hx24
     obtain rfl : cs10 = [(str e10.Name), (vi e10.At), (vi e10.Len)] := hr10
     refine a_q rfl gn rfl (fun w' => (y_indexAddr rfl Tryd.underlying25 size_39 et et (bdn (hI.unpin .z).1 (lat_bd hx24)) hA14)) ?_
     refine a_read rfl gn rfl (fun w' hw' => (y_loadN (l := [(str e10.Name), (vi e10.At), (vi e10.Len)]) rfl et Tryd.underlying39 rfl size_39 (hq10.at_ (SX.any rfl hw')))) (by kernel_rfl) ?_
     obtain ⟨r8, hx25, h⟩ := bnd_some h
     refine la_callV (args := [(Value.agg #[(str e9.Name), (vi e9.At), (vi e9.Len)]), (Value.agg #[(str e10.Name), (vi e10.At), (vi e10.Len)])]) rfl gn rfl rfl et ⟨et, ⟨et, trivial⟩⟩ (CallV.mono ((hI.get .z).2 (Dj F c28) w27 (Sp.of_ext .rfl') hI.lt e9 e10 r8 trivial hx25) ?_)
     rintro _ w28 ⟨rfl, hx26, hl10⟩
     refine ⟨_, rfl, _, Sp.of_ext hx26, ?_⟩
     replace hI := (hI.ext hx26)
     refine a_q rfl gn rfl (fun w' => (y_lss rfl et ev_const)) ?_
     refine a_nil ?_
     refine k_same ?_
     refine c_cond (b := decide (r8 < 0)) et (fun hb => ?_) (fun hb => ?_)
     ·replace h := ite_t hb h
      refine c_region rfl ?_
      refine sm ?_
      refine sq (y_add rfl et ev_const) ?_
      refine sa ?_
      refine s_nil ?_
      exact k_loop (fuel5, wi64 (h2 + 1), j2) ⟨rfl, rfl, rfl, rfl, rfl, trivial⟩ ⟨_, hI.arr (.c .z .n) ⟨.z, trivial⟩, h⟩ (Nat.lt_succ_self _)
     ·replace h := ite_f hb h
      refine c_region rfl ?_
      refine sm ?_
      refine sa ?_
      refine s_nil ?_
      exact k_loop (fuel5, i4, h2) ⟨rfl, rfl, rfl, rfl, rfl, trivial⟩ ⟨_, hI.arr (.c .z .n) ⟨.z, trivial⟩, h⟩ (Nat.lt_succ_self _)
    ·replace h := ite_f hb h
     refine c_exit ?_
     refine k_in ?_
     exact k_join i4 ⟨rfl, rfl, rfl, trivial⟩ ⟨_, hI.arr (.c .z .n) trivial, h⟩ rfl
  ·replace h := ite_f hb h
   refine c_skip ?_
   exact k_join () ⟨rfl, rfl, rfl, rfl, rfl, trivial⟩ ⟨_, hI.arr (.c .z .n) ⟨.z, trivial⟩, h⟩ rfl
theorem c_slices_symMergeCmpFunc_api_Slot_w_r (n : Nat) : ∀ (C0 F : NP) (w0 : World) (data1 : List GSlot) (a2 : Int) (m1 : Int) (b1 : Int) (cmp1 : (GSlot → GSlot → Option Int)) (a1 : Option Addr) (n1 : Nat) (c1 : Nat) (fv1 : Value) (hI : Bun C0 F w0 C0 w0 [MO.prow cGSlot 39 a1 n1 c1 data1] [clFn_k3 fv1 cmp1]) (r : Unit × List GSlot) (h : m_slices_symMergeCmpFunc_api_Slot_w_r n data1 a2 m1 b1 cmp1 = some r), Calls Tryd.prog 60 #[(vs a1 n1 c1), (vi a2), (vi m1), (vi b1), fv1] w0 fun e w => ∃ (C : NP), e = .returned (Value.tuple #[]) ∧ Bun C0 F w0 C w [MO.prow cGSlot 39 a1 n1 c1 r.2] [] := by
 induction n with
 | zero => intro C0 F w0 data1 a2 m1 b1 cmp1 a1 n1 c1 fv1 hI r h; cases h
 | succ n ih => intro C0 F w0 data1 a2 m1 b1 cmp1 a1 n1 c1 fv1 hI r h; exact c_slices_symMergeCmpFunc_api_Slot_w_b (m_slices_symMergeCmpFunc_api_Slot_w_r n) ih C0 F w0 data1 a2 m1 b1 cmp1 a1 n1 c1 fv1 hI r h
theorem c_slices_symMergeCmpFunc_api_Slot_w (C0 F : NP) (w0 : World) (data1 : List GSlot) (a2 : Int) (m1 : Int) (b1 : Int) (cmp1 : (GSlot → GSlot → Option Int)) (a1 : Option Addr) (n1 : Nat) (c1 : Nat) (fv1 : Value) (hI : Bun C0 F w0 C0 w0 [MO.prow cGSlot 39 a1 n1 c1 data1] [clFn_k3 fv1 cmp1]) (r : Unit × List GSlot) (h : m_slices_symMergeCmpFunc_api_Slot_w data1 a2 m1 b1 cmp1 = some r) : Calls Tryd.prog 60 #[(vs a1 n1 c1), (vi a2), (vi m1), (vi b1), fv1] w0 fun e w => ∃ (C : NP), e = .returned (Value.tuple #[]) ∧ Bun C0 F w0 C w [MO.prow cGSlot 39 a1 n1 c1 r.2] [] := c_slices_symMergeCmpFunc_api_Slot_w_r fu C0 F w0 data1 a2 m1 b1 cmp1 a1 n1 c1 fv1 hI r h
set_option maxRecDepth 100000 in
set_option maxHeartbeats 4000000 in
theorem c_slices_stableCmpFunc_api_Slot_w (C0 F : NP) (w0 : World) (data1 : List GSlot) (n2 : Int) (cmp1 : (GSlot → GSlot → Option Int)) (a1 : Option Addr) (n1 : Nat) (c1 : Nat) (fv1 : Value) (hI : Bun C0 F w0 C0 w0 [MO.prow cGSlot 39 a1 n1 c1 data1] [clFn_k3 fv1 cmp1]) (r : Unit × List GSlot)
  (h : m_slices_stableCmpFunc_api_Slot_w data1 n2 cmp1 = some r) :
  Calls Tryd.prog 55 #[(vs a1 n1 c1), (vi n2), fv1] w0 fun e w => ∃ (C : NP), e = .returned (Value.tuple #[]) ∧ Bun C0 F w0 C w [MO.prow cGSlot 39 a1 n1 c1 r.2] [] := by
 refine enterK (l := [(vs a1 n1 c1), (vi n2), fv1]) Tryd.func55 rfl Tryd.ntmps55 rfl ?_
 rw [m_slices_stableCmpFunc_api_Slot_w] at h
 refine sr ?_
 refine sac ?_
 refine nk ?_
 refine sr ?_
 refine sm ?_
 refine sac ?_
 refine sa ?_
 refine nk ?_
 refine c_join (α := Int × (List GSlot)) (fun _ => ⟨63, []⟩) (fun x => [(0, (vs a1 n1 c1)), (1, (vi n2)), (2, fv1), (6, (vi 20)), (7, (vi (x.1)))]) (fun x => fun w => ∃ C, Bun C0 F w0 C w [MO.prow cGSlot 39 a1 n1 c1 (x.2)] [clFn_k3 fv1 cmp1] ∧ m_slices_stableCmpFunc_api_Slot_w_j1 n2 cmp1 (x.1) (x.2) = some r) ?_ ?_
 ·clear h hI; rintro ⟨a2, l1⟩ w1 ⟨c2, hI, h⟩
  try dsimp only at hI h
  rw [m_slices_stableCmpFunc_api_Slot_w_j1] at h
  refine c_sub (e := [(0, (vs a1 n1 c1)), (1, (vi n2)), (2, fv1), (6, (vi 20)), (7, (vi a2))]) ⟨rfl, rfl, rfl, rfl, rfl, trivial⟩ ?_
  refine sr ?_
  refine sm ?_
  refine sm ?_
  refine sm ?_
  refine sm ?_
  obtain ⟨c3, f1, hB, hl1, hk1⟩ := hI.hands (.l .n)
  obtain ⟨⟨r1, s1⟩, hx1, h⟩ := bnd_some h
  try dsimp only at h
  refine s_call gn rfl (r_callF (vs := [(vs a1 n1 c1), (vi a2), (vi n2), fv1]) rfl ok_59 ⟨et, ⟨et, ⟨et, ⟨et, trivial⟩⟩⟩⟩) (Calls.mono (c_slices_insertionSortCmpFunc_api_Slot_w c3 f1 w1 l1 a2 n2 cmp1 a1 n1 c1 fv1 (hB.subs ⟨.z, trivial⟩) _ hx1) ?_)
  rintro _ w2 ⟨c4, rfl, hB2⟩
  obtain ⟨c5, hs1, hI⟩ := hk1 _ _ _ _ hB2
  replace hI : Bun C0 F w0 c5 w2 [MO.prow cGSlot 39 a1 n1 c1 s1] [clFn_k3 fv1 cmp1] := hI
  refine ⟨_, rfl, ?_⟩
  refine nk ?_
  refine c_block ?_
  refine c_loop (α := Nat × Int × (List GSlot)) (fun x => fun w => ∃ C, Bun C0 F w0 C w [MO.prow cGSlot 39 a1 n1 c1 (x.2.2)] [clFn_k3 fv1 cmp1] ∧ m_slices_stableCmpFunc_api_Slot_w_l1 n2 cmp1 (x.1) (x.2.1) (x.2.2) = some r) (fun x _ => x.1) (fun x => [(0, (vs a1 n1 c1)), (1, (vi n2)), (2, fv1), (6, (vi (x.2.1)))]) (fu, 20, s1) ⟨_, hI.arr (.c .z .n) ⟨.z, trivial⟩, h⟩ ⟨rfl, rfl, rfl, rfl, trivial⟩ ?_
  clear h hI; rintro ⟨fuel1, blockSize1, l2⟩ w3 ⟨c6, hI, h⟩
  dsimp only at hI h
  rcases fuel1 with _ | fuel1
  ·rw [m_slices_stableCmpFunc_api_Slot_w_l1] at h; cases h
  rw [m_slices_stableCmpFunc_api_Slot_w_l1] at h
  refine c_sub (e := [(0, (vs a1 n1 c1)), (1, (vi n2)), (2, fv1), (6, (vi blockSize1))]) ⟨rfl, rfl, rfl, rfl, trivial⟩ ?_
  refine c_seq ?_
  refine sr ?_
  refine sm ?_
  refine sm ?_
  refine sq (y_lss rfl et et) ?_
  refine nk ?_
  refine c_cond (b := decide (blockSize1 < n2)) et (fun hb => ?_) (fun hb => ?_)
  ·replace h := ite_t hb h
   refine c_skip ?_
   refine k_same ?_
   refine c_block ?_
   refine sr ?_
   refine sm ?_
   refine sq (y_mul rfl ev_const et) ?_
   refine sac ?_
   refine sa ?_
   refine nk ?_
   refine c_join (α := Int × (List GSlot)) (fun _ => ⟨63, []⟩) (fun x => [(0, (vs a1 n1 c1)), (1, (vi n2)), (2, fv1), (6, (vi blockSize1)), (7, (vi (x.1)))]) (fun x => fun w => ∃ C, Bun C0 F w0 C w [MO.prow cGSlot 39 a1 n1 c1 (x.2)] [clFn_k3 fv1 cmp1] ∧ m_slices_stableCmpFunc_api_Slot_w_j2 blockSize1 n2 cmp1 (m_slices_stableCmpFunc_api_Slot_w_l1 n2 cmp1 fuel1) (x.1) (x.2) = some r) ?_ ?_
   ·clear h hI; rintro ⟨a3, l3⟩ w4 ⟨c7, hI, h⟩
    try dsimp only at hI h
    rw [m_slices_stableCmpFunc_api_Slot_w_j2] at h
    refine c_sub (e := [(0, (vs a1 n1 c1)), (1, (vi n2)), (2, fv1), (6, (vi blockSize1)), (7, (vi a3))]) ⟨rfl, rfl, rfl, rfl, rfl, trivial⟩ ?_
    refine c_join (α := (List GSlot)) (fun _ => ⟨63, []⟩) (fun x => [(0, (vs a1 n1 c1)), (1, (vi n2)), (2, fv1), (6, (vi blockSize1))]) (fun x => fun w => ∃ C, Bun C0 F w0 C w [MO.prow cGSlot 39 a1 n1 c1 x] [clFn_k3 fv1 cmp1] ∧ m_slices_stableCmpFunc_api_Slot_w_j3 (m_slices_stableCmpFunc_api_Slot_w_l1 n2 cmp1 fuel1) blockSize1 x = some r) ?_ ?_
    ·clear h hI; rintro l4 w5 ⟨c8, hI, h⟩
     try dsimp only at hI h
     rw [m_slices_stableCmpFunc_api_Slot_w_j3] at h
     refine c_sub (e := [(0, (vs a1 n1 c1)), (1, (vi n2)), (2, fv1), (6, (vi blockSize1))]) ⟨rfl, rfl, rfl, rfl, trivial⟩ ?_
     refine c_region rfl ?_
     refine sm ?_
     refine sq (y_mul rfl et ev_const) ?_
     refine sa ?_
     refine s_nil ?_
     exact k_loop (fuel1, wi64 (blockSize1 * 2), l4) ⟨rfl, rfl, rfl, rfl, trivial⟩ ⟨_, hI.arr (.c .z .n) ⟨.z, trivial⟩, h⟩ (Nat.lt_succ_self _)
    ·skip
     refine sr ?_
     refine sm ?_
     refine sm ?_
     refine sq (y_add rfl et et) ?_
     refine sa ?_
     refine nk ?_
     refine sr ?_
     refine sm ?_
     refine sm ?_
     refine sq (y_lss rfl et et) ?_
     refine nk ?_
     refine c_cond (b := decide (wi64 (a3 + blockSize1) < n2)) et (fun hb => ?_) (fun hb => ?_)
     ·replace h := ite_t hb h
      refine c_region rfl ?_
      refine sm ?_
      refine sm ?_
      refine sm ?_
      refine sm ?_
      refine sm ?_
      obtain ⟨c9, f2, hB, hl2, hk2⟩ := hI.hands (.l .n)
      obtain ⟨⟨r2, s2⟩, hx2, h⟩ := bnd_some h
      try dsimp only at h
      refine s_call gn rfl (r_callF (vs := [(vs a1 n1 c1), (vi a3), (vi (wi64 (a3 + blockSize1))), (vi n2), fv1]) rfl ok_60 ⟨et, ⟨et, ⟨et, ⟨et, ⟨et, trivial⟩⟩⟩⟩⟩) (Calls.mono (c_slices_symMergeCmpFunc_api_Slot_w c9 f2 w4 l3 a3 (wi64 (a3 + blockSize1)) n2 cmp1 a1 n1 c1 fv1 (hB.subs ⟨.z, trivial⟩) _ hx2) ?_)
      rintro _ w6 ⟨c10, rfl, hB2⟩
      obtain ⟨c11, hs2, hI⟩ := hk2 _ _ _ _ hB2
      replace hI : Bun C0 F w0 c11 w6 [MO.prow cGSlot 39 a1 n1 c1 s2] [clFn_k3 fv1 cmp1] := hI
      refine ⟨_, rfl, ?_⟩
      refine s_nil ?_
      exact k_join s2 ⟨rfl, rfl, rfl, rfl, trivial⟩ ⟨_, hI.arr (.c .z .n) ⟨.z, trivial⟩, h⟩ rfl
     ·replace h := ite_f hb h
      refine c_skip ?_
      exact k_join l3 ⟨rfl, rfl, rfl, rfl, trivial⟩ ⟨_, hI.arr (.c .z .n) ⟨.z, trivial⟩, h⟩ rfl
   ·skip
    refine c_block ?_
    refine c_loop (α := Nat × Int × Int × (List GSlot)) (fun x => fun w => ∃ C, Bun C0 F w0 C w [MO.prow cGSlot 39 a1 n1 c1 (x.2.2.2)] [clFn_k3 fv1 cmp1] ∧ m_slices_stableCmpFunc_api_Slot_w_l2 n2 blockSize1 cmp1 (m_slices_stableCmpFunc_api_Slot_w_l1 n2 cmp1 fuel1) (x.1) (x.2.1) (x.2.2.1) (x.2.2.2) = some r) (fun x _ => x.1) (fun x => [(0, (vs a1 n1 c1)), (1, (vi n2)), (2, fv1), (6, (vi blockSize1)), (7, (vi (x.2.1))), (8, (vi (x.2.2.1)))]) (fu, 0, wi64 (2 * blockSize1), l2) ⟨_, hI.arr (.c .z .n) ⟨.z, trivial⟩, h⟩ ⟨rfl, rfl, rfl, rfl, rfl, rfl, trivial⟩ ?_
    clear h hI; rintro ⟨fuel2, a4, b1, l5⟩ w7 ⟨c12, hI, h⟩
    dsimp only at hI h
    rcases fuel2 with _ | fuel2
    ·rw [m_slices_stableCmpFunc_api_Slot_w_l2] at h; cases h
    rw [m_slices_stableCmpFunc_api_Slot_w_l2] at h
    refine c_sub (e := [(0, (vs a1 n1 c1)), (1, (vi n2)), (2, fv1), (6, (vi blockSize1)), (7, (vi a4)), (8, (vi b1))]) ⟨rfl, rfl, rfl, rfl, rfl, rfl, trivial⟩ ?_
    refine c_seq ?_
    refine sr ?_
    refine sm ?_
    refine sm ?_
    refine sq (y_leq rfl et et) ?_
    refine nk ?_
    refine c_cond (b := decide (b1 ≤ n2)) et (fun hb => ?_) (fun hb => ?_)
    ·replace h := ite_t hb h
     refine c_skip ?_
     refine k_same ?_
     refine c_block ?_
     refine sr ?_
     refine sm ?_
     refine sm ?_
     refine sm ?_
     refine sm ?_
     refine sq (y_add rfl et et) ?_
     refine sm ?_
     refine sm ?_
     obtain ⟨c13, f3, hB, hl3, hk3⟩ := hI.hands (.l .n)
     obtain ⟨⟨r3, s3⟩, hx3, h⟩ := bnd_some h
     try dsimp only at h
     refine s_call gn rfl (r_callF (vs := [(vs a1 n1 c1), (vi a4), (vi (wi64 (a4 + blockSize1))), (vi b1), fv1]) rfl ok_60 ⟨et, ⟨et, ⟨et, ⟨et, ⟨et, trivial⟩⟩⟩⟩⟩) (Calls.mono (c_slices_symMergeCmpFunc_api_Slot_w c13 f3 w7 l5 a4 (wi64 (a4 + blockSize1)) b1 cmp1 a1 n1 c1 fv1 (hB.subs ⟨.z, trivial⟩) _ hx3) ?_)
     rintro _ w8 ⟨c14, rfl, hB2⟩
     obtain ⟨c15, hs3, hI⟩ := hk3 _ _ _ _ hB2
     replace hI : Bun C0 F w0 c15 w8 [MO.prow cGSlot 39 a1 n1 c1 s3] [clFn_k3 fv1 cmp1] := hI
     refine ⟨_, rfl, ?_⟩
     refine nk ?_
     refine sr ?_
     refine sm ?_
     refine sa ?_
     refine nk ?_
     refine c_region rfl ?_
     refine sm ?_
     refine sm ?_
     refine sq (y_mul rfl ev_const et) ?_
     refine sq (y_add rfl et et) ?_
     obtain ⟨b2, hx4, h⟩ := bnd_some h
     refine sq (binU (y_assign rfl et) (congrArg (Value.int .i64) (some_inj hx4))) ?_
     refine s_nil ?_
     exact k_loop (fuel2, b1, b2, s3) ⟨rfl, rfl, rfl, rfl, rfl, rfl, trivial⟩ ⟨_, hI.arr (.c .z .n) ⟨.z, trivial⟩, h⟩ (Nat.lt_succ_self _)
    ·replace h := ite_f hb h
     refine c_exit ?_
     refine k_in ?_
     exact k_join (a4, l5) ⟨rfl, rfl, rfl, rfl, rfl, trivial⟩ ⟨_, hI.arr (.c .z .n) ⟨.z, trivial⟩, h⟩ rfl
  ·replace h := ite_f hb h
   refine c_exit ?_
   refine k_in ?_
   obtain rfl := some_inj h
   exact q_ret (vs := []) Tryd.results55 trivial ⟨_, rfl, hI.arr (.c .z .n) trivial⟩
 ·skip
  refine c_block ?_
  refine c_loop (α := Nat × Int × Int × (List GSlot)) (fun x => fun w => ∃ C, Bun C0 F w0 C w [MO.prow cGSlot 39 a1 n1 c1 (x.2.2.2)] [clFn_k3 fv1 cmp1] ∧ m_slices_stableCmpFunc_api_Slot_w_l3 n2 cmp1 (x.1) (x.2.1) (x.2.2.1) (x.2.2.2) = some r) (fun x _ => x.1) (fun x => [(0, (vs a1 n1 c1)), (1, (vi n2)), (2, fv1), (6, (vi 20)), (7, (vi (x.2.1))), (8, (vi (x.2.2.1)))]) (fu, 0, 20, data1) ⟨_, hI.arr (.c .z .n) ⟨.z, trivial⟩, h⟩ ⟨rfl, rfl, rfl, rfl, rfl, rfl, trivial⟩ ?_
  clear h hI; rintro ⟨fuel3, a5, b3, l6⟩ w9 ⟨c16, hI, h⟩
  dsimp only at hI h
  rcases fuel3 with _ | fuel3
  ·rw [m_slices_stableCmpFunc_api_Slot_w_l3] at h; cases h
  rw [m_slices_stableCmpFunc_api_Slot_w_l3] at h
  refine c_sub (e := [(0, (vs a1 n1 c1)), (1, (vi n2)), (2, fv1), (6, (vi 20)), (7, (vi a5)), (8, (vi b3))]) ⟨rfl, rfl, rfl, rfl, rfl, rfl, trivial⟩ ?_
  refine c_seq ?_
  refine sr ?_
  refine sm ?_
  refine sm ?_
  refine sq (y_leq rfl et et) ?_
  refine nk ?_
  refine c_cond (b := decide (b3 ≤ n2)) et (fun hb => ?_) (fun hb => ?_)
  ·replace h := ite_t hb h
   refine c_skip ?_
   refine k_same ?_
   refine c_block ?_
   refine sr ?_
   refine sm ?_
   refine sm ?_
   refine sm ?_
   refine sm ?_
   obtain ⟨c17, f4, hB, hl4, hk4⟩ := hI.hands (.l .n)
   obtain ⟨⟨r4, s4⟩, hx5, h⟩ := bnd_some h
   try dsimp only at h
   refine s_call gn rfl (r_callF (vs := [(vs a1 n1 c1), (vi a5), (vi b3), fv1]) rfl ok_59 ⟨et, ⟨et, ⟨et, ⟨et, trivial⟩⟩⟩⟩) (Calls.mono (c_slices_insertionSortCmpFunc_api_Slot_w c17 f4 w9 l6 a5 b3 cmp1 a1 n1 c1 fv1 (hB.subs ⟨.z, trivial⟩) _ hx5) ?_)
   rintro _ w10 ⟨c18, rfl, hB2⟩
   obtain ⟨c19, hs4, hI⟩ := hk4 _ _ _ _ hB2
   replace hI : Bun C0 F w0 c19 w10 [MO.prow cGSlot 39 a1 n1 c1 s4] [clFn_k3 fv1 cmp1] := hI
   refine ⟨_, rfl, ?_⟩
   refine nk ?_
   refine sr ?_
   refine sm ?_
   refine sa ?_
   refine nk ?_
   refine c_region rfl ?_
   refine sm ?_
   refine sm ?_
   refine sq (y_add rfl et et) ?_
   refine sa ?_
   refine s_nil ?_
   exact k_loop (fuel3, b3, wi64 (b3 + 20), s4) ⟨rfl, rfl, rfl, rfl, rfl, rfl, trivial⟩ ⟨_, hI.arr (.c .z .n) ⟨.z, trivial⟩, h⟩ (Nat.lt_succ_self _)
  ·replace h := ite_f hb h
   refine c_exit ?_
   refine k_in ?_
   exact k_join (a5, l6) ⟨rfl, rfl, rfl, rfl, rfl, trivial⟩ ⟨_, hI.arr (.c .z .n) ⟨.z, trivial⟩, h⟩ rfl
set_option maxRecDepth 100000 in
set_option maxHeartbeats 4000000 in
theorem c_slices_SortStableFunc_api_Slot_api_Slot_w (C0 F : NP) (w0 : World) (x1 : List GSlot) (cmp1 : (GSlot → GSlot → Option Int)) (a1 : Option Addr) (n1 : Nat) (c1 : Nat) (fv1 : Value) (hI : Bun C0 F w0 C0 w0 [MO.prow cGSlot 39 a1 n1 c1 x1] [clFn_k3 fv1 cmp1]) (r : Unit × List GSlot)
  (h : m_slices_SortStableFunc_api_Slot_api_Slot_w x1 cmp1 = some r) :
  Calls Tryd.prog 50 #[(vs a1 n1 c1), fv1] w0 fun e w => ∃ (C : NP), e = .returned (Value.tuple #[]) ∧ Bun C0 F w0 C w [MO.prow cGSlot 39 a1 n1 c1 r.2] [] := by
 refine enterK (l := [(vs a1 n1 c1), fv1]) Tryd.func50 rfl Tryd.ntmps50 rfl ?_
 rw [m_slices_SortStableFunc_api_Slot_api_Slot_w] at h
 refine c_region rfl ?_
 refine sm ?_
 refine sm ?_
 refine sq (y_lenp (hI.unpin .z).1 rfl Tryd.underlying25 et) ?_
 refine sm ?_
 obtain ⟨c2, f1, hB, hl1, hk1⟩ := hI.hands (.l .n)
 obtain ⟨⟨r1, s1⟩, hx1, h⟩ := bnd_some h
 try dsimp only at h
 refine s_call gn rfl (r_callF (vs := [(vs a1 n1 c1), (vi (x1.length : Int)), fv1]) rfl ok_55 ⟨et, ⟨et, ⟨et, trivial⟩⟩⟩) (Calls.mono (c_slices_stableCmpFunc_api_Slot_w c2 f1 w0 x1 (x1.length : Int) cmp1 a1 n1 c1 fv1 (hB.subs ⟨.z, trivial⟩) _ hx1) ?_)
 rintro _ w1 ⟨c3, rfl, hB2⟩
 obtain ⟨c4, hs1, hI⟩ := hk1 _ _ _ _ hB2
 replace hI : Bun C0 F w0 c4 w1 [MO.prow cGSlot 39 a1 n1 c1 s1] [clFn_k3 fv1 cmp1] := hI
 refine ⟨_, rfl, ?_⟩
 refine s_nil ?_
 obtain rfl := some_inj h
 exact q_ret (vs := []) Tryd.results50 trivial ⟨_, rfl, hI.arr (.c .z .n) trivial⟩
set_option maxRecDepth 100000 in
set_option maxHeartbeats 4000000 in
theorem c_arena_sorted_api_Slot (F : NP) (w0 : World) (hF : ∀ k, F k → k < w0.heap.size) (l1 : List GSlot) (compare1 : (GSlot → GSlot → Option Int)) (a1 : Option Addr) (c1 : Nat) (fv1 : Value) (hc : AllCl [Cl.sl cGSlot a1 c1 l1, clFn_k3 fv1 compare1] F w0) (r : List GSlot)
  (h : m_arena_sorted_api_Slot l1 compare1 = some r) :
  Calls Tryd.prog 42 #[(vs a1 l1.length c1), fv1] w0 fun e w => ∃ (a2 : Option Addr) (c2 : Nat), e = .returned (vs a2 r.length c2) ∧ Ext w0 w ∧ AllCl [Cl.sl cGSlot a2 c2 r] F w := by
 refine enterK (l := [(vs a1 l1.length c1), fv1]) Tryd.func42 rfl Tryd.ntmps42 rfl ?_
 have hI := Bun.start hF hc
 clear hc
 rw [m_arena_sorted_api_Slot] at h
 refine sr ?_
 refine sac ?_
 refine nk ?_
 refine sr ?_
 refine sm ?_
 obtain ⟨zs1, hx1, h⟩ := bnd_some h
 replace hI := hI.nil cGSlot 39 none
 refine l_append (xs := ([] : List GSlot)) (ys := l1) hI .z (hI.crd .z) hx1 gn rfl rfl Tryd.underlying25 info_39 rfl rfl ev_const et ?_
 clear hI; intro a3 c3 c4 w1 hI
 refine sa ?_
 refine nk ?_
 refine sr ?_
 refine sm ?_
 refine sm ?_
 replace hI := hI.pin (m := zs1.length) .z rfl
 obtain ⟨c5, f1, hB, hl1, hk1⟩ := hI.hands (.l .n)
 obtain ⟨⟨r1, s1⟩, hx2, h⟩ := bnd_some h
 try dsimp only at h
 refine s_call gn rfl (r_callF (vs := [(vs a3 zs1.length c3), fv1]) rfl ok_50 ⟨et, ⟨et, trivial⟩⟩) (Calls.mono (c_slices_SortStableFunc_api_Slot_api_Slot_w c5 f1 w1 zs1 compare1 a3 zs1.length c3 fv1 (hB.subs ⟨(.s .z), trivial⟩) _ hx2) ?_)
 rintro _ w2 ⟨c6, rfl, hB2⟩
 obtain ⟨c7, hs1, hI⟩ := hk1 _ _ _ _ hB2
 replace hI : Bun noM F w0 c7 w2 [MO.prow cGSlot 39 a3 zs1.length c3 s1] [Cl.sl cGSlot a1 c1 l1, clFn_k3 fv1 compare1] := hI
 obtain ⟨hl2, hI⟩ := hI.unpin .z
 refine ⟨_, rfl, ?_⟩
 refine s_nil ?_
 refine k_next (e := [(5, (vs a3 s1.length c3))]) ⟨(looklen hl2 rfl), trivial⟩ ?_
 refine sr ?_
 refine sm ?_
 refine sa ?_
 refine nk ?_
 refine c_ret ?_
 obtain ⟨c8, hI⟩ := hI.release .z
 obtain rfl := some_inj h
 exact q_ret (vs := [(vs a3 s1.length c3)]) Tryd.results42 ⟨ev_tmp rfl rfl, trivial⟩ ⟨a3, c3, rfl, hI.ext0, hI.fin ⟨.z, trivial⟩⟩
set_option maxRecDepth 100000 in
set_option maxHeartbeats 4000000 in
theorem c_arena_fit_1 (F : NP) (w0 : World) (hF : ∀ k, F k → k < w0.heap.size) (a1 : GSlot) (b1 : GSlot) (hc : AllCl [] F w0) (r : Int)
  (h : m_arena_fit_1 a1 b1 = some r) :
  Calls Tryd.prog 43 #[(Value.agg #[(str a1.Name), (vi a1.At), (vi a1.Len)]), (Value.agg #[(str b1.Name), (vi b1.At), (vi b1.Len)])] w0 fun e w => e = .returned (vi r) ∧ Ext w0 w ∧ AllCl [] F w := by
 refine enterK (l := [(Value.agg #[(str a1.Name), (vi a1.At), (vi a1.Len)]), (Value.agg #[(str b1.Name), (vi b1.At), (vi b1.Len)])]) Tryd.func43 rfl Tryd.ntmps43 rfl ?_
 have hI := Bun.start hF hc
 clear hc
 rw [m_arena_fit_1] at h
 refine sr ?_
 refine l_box (v := (Value.agg #[(str a1.Name), (vi a1.At), (vi a1.Len)])) (cs := #[(str a1.Name), (vi a1.At), (vi a1.Len)]) hI gn rfl rfl et rfl ?_
 clear hI; intro b2 c1 w1 hI
 obtain ⟨c2, hI⟩ := hI.relBox .z
 refine l_box (v := (Value.agg #[(str b1.Name), (vi b1.At), (vi b1.Len)])) (cs := #[(str b1.Name), (vi b1.At), (vi b1.Len)]) hI gn rfl rfl et rfl ?_
 clear hI; intro b3 c3 w2 hI
 obtain ⟨c4, hI⟩ := hI.relBox .z
 refine sac ?_
 refine nk ?_
 refine sr ?_
 refine sq (y_fieldAddr rfl et Tryd.underlying39 rfl size_3 rfl) ?_
 refine sq (y_load1 (v := (vi a1.At)) rfl et Tryd.underlying3 rfl (hI.kblk (l := [(vi a1.At)]) (.s .z) rfl).1) ?_
 refine sq (y_fieldAddr rfl et Tryd.underlying39 rfl size_3 rfl) ?_
 refine sq (y_load1 (v := (vi b1.At)) rfl et Tryd.underlying3 rfl (hI.kblk (l := [(vi b1.At)]) .z rfl).1) ?_
 refine sq (y_sub rfl et et) ?_
 refine sa ?_
 refine nk ?_
 refine c_ret ?_
 obtain rfl := some_inj h
 exact q_ret (vs := [(vi (wi64 (a1.At - b1.At)))]) Tryd.results43 ⟨ev_tmp rfl rfl, trivial⟩ ⟨rfl, hI.ext0, hI.fin trivial⟩
set_option maxRecDepth 100000 in
set_option maxHeartbeats 4000000 in
theorem c_arena_fit (F : NP) (w0 : World) (hF : ∀ k, F k → k < w0.heap.size) (l1 : List GLifetime) (slots1 : List GSlot) (k1 : Int) (a1 : Option Addr) (c1 : Nat) (a2 : Option Addr) (c2 : Nat) (hc : AllCl [Cl.sl cGLifetime a1 c1 l1, Cl.sl cGSlot a2 c2 slots1] F w0) (r : Int)
  (h : m_arena_fit l1 slots1 k1 = some r) :
  Calls Tryd.prog 32 #[(vs a1 l1.length c1), (vs a2 slots1.length c2), (vi k1)] w0 fun e w => e = .returned (vi r) ∧ Ext w0 w ∧ AllCl [] F w := by
 refine enterK (l := [(vs a1 l1.length c1), (vs a2 slots1.length c2), (vi k1)]) Tryd.func32 rfl Tryd.ntmps32 rfl ?_
 have hI := Bun.start hF hc
 clear hc
 rw [m_arena_fit] at h
 refine sr ?_
 refine sac ?_
 refine nk ?_
 refine sr ?_
 refine sac ?_
 refine nk ?_
 refine c_join (α := (List GSlot) × (Option Addr) × Nat) (fun _ => ⟨70, []⟩) (fun x => [(0, (vs a1 l1.length c1)), (2, (vi k1)), (7, (vs (x.2.1) (x.1).length (x.2.2)))]) (fun x => fun w => ∃ C, Bun noM F w0 C w [MO.row cGSlot 39 (x.2.1) (x.2.2) (x.1)] [Cl.sl cGLifetime a1 c1 l1] ∧ m_arena_fit_j1 l1 k1 (x.1) = some r) ?_ ?_
 ·clear h hI; rintro ⟨busy1, a3, c3⟩ w1 ⟨c4, hI, h⟩
  try dsimp only at hI h
  rw [m_arena_fit_j1] at h
  refine c_sub (e := [(0, (vs a1 l1.length c1)), (2, (vi k1)), (7, (vs a3 busy1.length c3))]) ⟨rfl, rfl, rfl, trivial⟩ ?_
  refine sr ?_
  refine sac ?_
  refine nk ?_
  refine c_seq ?_
  refine sr ?_
  refine sm ?_
  obtain ⟨c5, hI⟩ := hI.release .z
  have hI := hI.add (c := clFn_k3 (Value.func (.func 43) #[] #[]) m_arena_fit_1) ⟨rfl, fun D' w' hs hl x_1 x_2 r k h => CallV.fn (cap := []) ok_43 (c_arena_fit_1 D' w' hl x_1 x_2 trivial r h)⟩
  obtain ⟨r1, hx1, h⟩ := bnd_some h
  refine s_call gn rfl (r_callF (vs := [(vs a3 busy1.length c3), (Value.func (.func 43) #[] #[])]) rfl ok_42 ⟨et, ⟨ev_func, trivial⟩⟩) (Calls.mono (c_arena_sorted_api_Slot (Dj F c5) w1 hI.lt busy1 m_arena_fit_1 a3 c3 (Value.func (.func 43) #[] #[]) ⟨(hI.get (.s .z)), (hI.get .z), trivial⟩ r1 hx1) ?_)
  rintro _ w2 ⟨a4, c6, rfl, hx2, hl1⟩
  refine ⟨_, rfl, ?_⟩
  replace hI := (hI.ext hx2).adds hl1
  refine sq (y_lenl rfl Tryd.underlying25 et) ?_
  refine sq (y_move rfl ev_const) ?_
  refine nk ?_
  refine c_block ?_
  refine c_loop (α := Nat × Int × Int) (fun x => fun w => ∃ C, Bun noM F w0 C w [] [Cl.sl cGLifetime a1 c1 l1, Cl.sl cGSlot a4 c6 r1] ∧ m_arena_fit_l1 r1 l1 k1 (x.1) (x.2.1) (x.2.2) = some r) (fun x _ => x.1) (fun x => [(0, (vs a1 l1.length c1)), (2, (vi k1)), (10, (vi (x.2.1))), (45, (vs a4 r1.length c6)), (46, (vi (r1.length : Int))), (47, (vi (x.2.2)))]) (fu, 0, 0) ⟨_, hI.arr .n ⟨(.s (.s (.s .z))), .z, trivial⟩, h⟩ ⟨rfl, rfl, rfl, rfl, rfl, rfl, trivial⟩ ?_
  clear h hI; rintro ⟨fuel1, at1, i1⟩ w3 ⟨c7, hI, h⟩
  dsimp only at hI h
  rcases fuel1 with _ | fuel1
  ·rw [m_arena_fit_l1] at h; cases h
  rw [m_arena_fit_l1] at h
  refine c_sub (e := [(0, (vs a1 l1.length c1)), (2, (vi k1)), (10, (vi at1)), (45, (vs a4 r1.length c6)), (46, (vi (r1.length : Int))), (47, (vi i1))]) ⟨rfl, rfl, rfl, rfl, rfl, rfl, trivial⟩ ?_
  refine sr ?_
  refine sq (y_lss rfl et et) ?_
  refine nk ?_
  refine c_seq ?_
  refine c_cond (b := decide (i1 < (r1.length : Int))) et (fun hb => ?_) (fun hb => ?_)
  ·replace h := ite_t hb h
   refine c_skip ?_
   refine k_same ?_
   refine c_seq ?_
   refine c_block ?_
   refine sr ?_
   obtain ⟨e1, hx3, h⟩ := bnd_some h
   obtain ⟨ad1, cs1, hA1, hr1, hq1⟩ := hI.clat (.s .z) hx3
   obtain rfl : cs1 = [(str e1.Name), (vi e1.At), (vi e1.Len)] := hr1
   refine sq (y_indexAddr rfl Tryd.underlying25 size_39 et et (lat_bd hx3) hA1) ?_
   refine sq (y_loadN (l := [(str e1.Name), (vi e1.At), (vi e1.Len)]) rfl et Tryd.underlying39 rfl size_39 hq1.1) ?_
   refine l_alloc (cs := #[(str ([] : List UInt8)), (vi 0), (vi 0)]) hI gn rfl rfl zero_39 rfl ?_
   clear hI; intro b1 c8 w4 hI
   refine l_store (new := [(str e1.Name), (vi e1.At), (vi e1.Len)]) (cs' := #[(str e1.Name), (vi e1.At), (vi e1.Len)]) hI .z gn rfl rfl et et rfl size_39 rfl rfl rfl ?_
   clear hI; intro c9 w5 hI
   refine nk ?_
   refine c_seq ?_
   refine c_seq ?_
   refine c_drawX [] false (.c (0, .q) (.c (1, .q) (.c (2, .q) (.c (3, .q) (.c (4, .q) (.c (5, .q) (.c (6, .q) (.c (7, .q) (.c (8, .q) (.c (9, .q) .n)))))))))) hI (by kernel_rfl) (by kernel_rfl) ?_
   clear hI; intro w6 hI
   refine a_q rfl gn rfl (fun w' => (y_move rfl et)) ?_
   refine a_q rfl gn rfl (fun w' => (y_move rfl et)) ?_
   refine a_q rfl gn rfl (fun w' => (y_move rfl et)) ?_
   obtain ⟨e2, hx4, h⟩ := bnd_some h
   obtain ⟨ad2, cs2, hA2, hr2, hq2⟩ := hI.clat .z hx4
   obtain rfl : cs2 = [(str e2.Name), (vi e2.From), (vi e2.To), (vi e2.Size)] := hr2
   refine a_q rfl gn rfl (fun w' => (y_indexAddr rfl Tryd.underlying22 size_37 et et (lat_bd hx4) hA2)) ?_
   refine a_q rfl gn rfl (fun w' => (y_fieldAddr rfl et Tryd.underlying37 rfl size_3 rfl)) ?_
   refine a_read rfl gn rfl (fun w' hw' => (y_load1 (v := (vi e2.Size)) rfl et Tryd.underlying3 rfl ((CA.part hq2 rfl).at_ (SX.any rfl hw')))) (by kernel_rfl) ?_
   refine a_q rfl gn rfl (fun w' => (y_add rfl et et)) ?_
   refine a_q rfl gn rfl (fun w' => (y_fieldAddr rfl et Tryd.underlying39 rfl size_3 rfl)) ?_
   refine a_read rfl gn rfl (fun w' hw' => (y_load1 (v := (vi e1.At)) rfl et Tryd.underlying3 rfl ((CA.blk (hI.blk .z) rfl).at_ (SX.any rfl hw')))) (by kernel_rfl) ?_
   refine a_q rfl gn rfl (fun w' => (y_leq rfl et et)) ?_
   refine a_nil ?_
   refine k_same ?_
   refine c_cond (b := decide (wi64 (at1 + e2.Size) ≤ e1.At)) et (fun hb => ?_) (fun hb => ?_)
   ·replace h := ite_t hb h
    refine c_exit ?_
    refine k_out rfl ?_
    refine k_in ?_
    refine k_same ?_
    refine sr ?_
    refine sm ?_
    refine sa ?_
    refine nk ?_
    refine c_ret ?_
    obtain rfl := some_inj h
    exact q_ret (vs := [(vi at1)]) Tryd.results32 ⟨ev_tmp rfl rfl, trivial⟩ ⟨rfl, hI.ext0, hI.fin trivial⟩
   ·replace h := ite_f hb h
    refine c_skip ?_
    refine k_same ?_
    refine c_region rfl ?_
    refine sm ?_
    refine sq (y_fieldAddr rfl et Tryd.underlying39 rfl size_3 rfl) ?_
    refine sq (y_load1 (v := (vi e1.At)) rfl et Tryd.underlying3 rfl (CellsAt.of_blk (hI.blk .z) rfl)) ?_
    refine sq (y_fieldAddr rfl et Tryd.underlying39 rfl size_3 rfl) ?_
    refine sq (y_load1 (v := (vi e1.Len)) rfl et Tryd.underlying3 rfl (CellsAt.of_blk (hI.blk .z) rfl)) ?_
    refine sq (y_add rfl et et) ?_
    refine sq (y_max rfl et et) ?_
    obtain ⟨at2, hx5, h⟩ := bnd_some h
    refine sq (binU (y_assign rfl et) (congrArg (Value.int .i64) (some_inj hx5))) ?_
    refine nk ?_
    refine c_region rfl ?_
    refine sq (y_add rfl et ev_const) ?_
    refine sm ?_
    refine s_nil ?_
    exact k_loop (fuel1, at2, wi64 (i1 + 1)) ⟨rfl, rfl, rfl, rfl, rfl, rfl, trivial⟩ ⟨_, hI.arr .n ⟨.z, (.s .z), trivial⟩, h⟩ (Nat.lt_succ_self _)
  ·replace h := ite_f hb h
   refine c_exit ?_
   refine k_in ?_
   refine k_same ?_
   refine sr ?_
   refine sm ?_
   refine sa ?_
   refine nk ?_
   refine c_ret ?_
   obtain rfl := some_inj h
   exact q_ret (vs := [(vi at1)]) Tryd.results32 ⟨ev_tmp rfl rfl, trivial⟩ ⟨rfl, hI.ext0, hI.fin trivial⟩
 ·skip
  refine sr ?_
  refine sm ?_
  refine sq (y_lenl rfl Tryd.underlying25 et) ?_
  refine sq (y_move rfl ev_const) ?_
  refine nk ?_
  refine c_block ?_
  have hI := hI.nil cGSlot 39 none
  refine c_loop (α := Nat × (List GSlot) × Int × (Option Addr) × Nat) (fun x => fun w => ∃ C, Bun noM F w0 C w [MO.row cGSlot 39 (x.2.2.2.1) (x.2.2.2.2) (x.2.1)] [Cl.sl cGLifetime a1 c1 l1, Cl.sl cGSlot a2 c2 slots1] ∧ m_arena_fit_l2 slots1 k1 l1 (x.1) (x.2.1) (x.2.2.1) = some r) (fun x _ => x.1) (fun x => [(0, (vs a1 l1.length c1)), (2, (vi k1)), (7, (vs (x.2.2.2.1) (x.2.1).length (x.2.2.2.2))), (13, (vs a2 slots1.length c2)), (14, (vi (slots1.length : Int))), (15, (vi (x.2.2.1)))]) (fu, ([] : List GSlot), 0, none, 0) ⟨_, hI.arr (.c .z .n) ⟨.z, (.s .z), trivial⟩, h⟩ ⟨rfl, rfl, rfl, rfl, rfl, rfl, trivial⟩ ?_
  clear h hI; rintro ⟨fuel2, busy2, i2, a5, c10⟩ w7 ⟨c11, hI, h⟩
  dsimp only at hI h
  rcases fuel2 with _ | fuel2
  ·rw [m_arena_fit_l2] at h; cases h
  rw [m_arena_fit_l2] at h
  refine c_sub (e := [(0, (vs a1 l1.length c1)), (2, (vi k1)), (7, (vs a5 busy2.length c10)), (13, (vs a2 slots1.length c2)), (14, (vi (slots1.length : Int))), (15, (vi i2))]) ⟨rfl, rfl, rfl, rfl, rfl, rfl, trivial⟩ ?_
  refine sr ?_
  refine sq (y_lss rfl et et) ?_
  refine nk ?_
  refine c_seq ?_
  refine c_cond (b := decide (i2 < (slots1.length : Int))) et (fun hb => ?_) (fun hb => ?_)
  ·replace h := ite_t hb h
   refine c_skip ?_
   refine k_same ?_
   refine c_join (α := (List GSlot) × (Option Addr) × Nat) (fun _ => ⟨70, []⟩) (fun x => [(0, (vs a1 l1.length c1)), (2, (vi k1)), (7, (vs (x.2.1) (x.1).length (x.2.2))), (13, (vs a2 slots1.length c2)), (14, (vi (slots1.length : Int))), (15, (vi i2))]) (fun x => fun w => ∃ C, Bun noM F w0 C w [MO.row cGSlot 39 (x.2.1) (x.2.2) (x.1)] [Cl.sl cGLifetime a1 c1 l1, Cl.sl cGSlot a2 c2 slots1] ∧ m_arena_fit_j2 (m_arena_fit_l2 slots1 k1 l1 fuel2) i2 (x.1) = some r) ?_ ?_
   ·clear h hI; rintro ⟨busy3, a6, c12⟩ w8 ⟨c13, hI, h⟩
    try dsimp only at hI h
    rw [m_arena_fit_j2] at h
    refine c_sub (e := [(0, (vs a1 l1.length c1)), (2, (vi k1)), (7, (vs a6 busy3.length c12)), (13, (vs a2 slots1.length c2)), (14, (vi (slots1.length : Int))), (15, (vi i2))]) ⟨rfl, rfl, rfl, rfl, rfl, rfl, trivial⟩ ?_
    refine c_region rfl ?_
    refine sq (y_add rfl et ev_const) ?_
    refine sm ?_
    refine s_nil ?_
    exact k_loop (fuel2, busy3, wi64 (i2 + 1), a6, c12) ⟨rfl, rfl, rfl, rfl, rfl, rfl, trivial⟩ ⟨_, hI.arr (.c .z .n) ⟨.z, (.s .z), trivial⟩, h⟩ (Nat.lt_succ_self _)
   ·skip
    refine c_block ?_
    refine sr ?_
    refine sm ?_
    obtain ⟨e3, hx6, h⟩ := bnd_some h
    obtain ⟨ad3, cs3, hA3, hr3, hq3⟩ := hI.clat (.s .z) hx6
    obtain rfl : cs3 = [(str e3.Name), (vi e3.At), (vi e3.Len)] := hr3
    refine sq (y_indexAddr rfl Tryd.underlying25 size_39 et et (lat_bd hx6) hA3) ?_
    refine sq (y_loadN (l := [(str e3.Name), (vi e3.At), (vi e3.Len)]) rfl et Tryd.underlying39 rfl size_39 hq3.1) ?_
    refine l_alloc (cs := #[(str ([] : List UInt8)), (vi 0), (vi 0)]) hI gn rfl rfl zero_39 rfl ?_
    clear hI; intro b2 c14 w9 hI
    refine sa ?_
    refine l_store (new := [(str e3.Name), (vi e3.At), (vi e3.Len)]) (cs' := #[(str e3.Name), (vi e3.At), (vi e3.Len)]) hI .z gn rfl rfl et et rfl size_39 rfl rfl rfl ?_
    clear hI; intro c15 w10 hI
    refine nk ?_
    refine c_seq ?_
    refine c_drawX [] false (.c (0, .q) (.c (1, .q) (.c (2, .q) (.c (3, .q) (.c (4, .q) (.c (5, .q) (.c (6, .q) (.c (7, .q) (.c (8, .q) (.c (9, .q) (.c (10, .q) (.c (11, .q) (.c (12, .q) (.c (13, .q) (.c (14, .q) (.c (15, .q) (.c (16, .q) (.c (17, .s) (.c (18, .q) .n))))))))))))))))))) hI (by kernel_rfl) (by kernel_rfl) ?_
    clear hI; intro w11 hI
    refine a_q rfl gn rfl (fun w' => (y_fieldAddr rfl et Tryd.underlying39 rfl size_3 rfl)) ?_
    refine a_read rfl gn rfl (fun w' hw' => (y_load1 (v := (vi e3.Len)) rfl et Tryd.underlying3 rfl ((CA.blk (hI.blk .z) rfl).at_ (SX.any rfl hw')))) (by kernel_rfl) ?_
    refine a_q rfl gn rfl (fun w' => (y_gtr rfl et ev_const)) ?_
    refine a_q rfl gn rfl (fun w' => (y_move rfl et)) ?_
    refine a_gval rfl (g_true rfl rfl rfl rfl) rfl (fun hc => fun w' => (y_move rfl et)) ?_
    refine a_gval rfl (g_true rfl rfl rfl rfl) rfl (fun hc => fun w' => (y_move rfl et)) ?_
    refine a_gval rfl (g_true rfl rfl rfl rfl) rfl (fun hc => fun w' => (y_neq rfl (ev_gv et hc) (ev_gv et hc))) ?_
    refine a_q rfl gn rfl (fun w' => (y_and rfl et et)) ?_
    refine a_q rfl gn rfl (fun w' => (y_move rfl et)) ?_
    refine a_gval rfl (g_true rfl rfl rfl rfl) rfl (fun hc => fun w' => (y_move rfl et)) ?_
    refine a_gval rfl (g_true rfl rfl rfl rfl) rfl (fun hc => fun w' => (y_move rfl et)) ?_
    obtain ⟨e4, hx7, h⟩ := bnd_some h
    replace hx7 := gd_some hx7
    obtain ⟨ad4, cs4, hq4⟩ := hI.gclat .z hx7
    have hq5 : ((decide (0 < e3.Len)) && (!decide (i2 = k1))) = true → CA (Dj F c15) w11 (ad4.add (Int.toNat i2 * 4)) [(str e4.Name), (vi e4.From), (vi e4.To), (vi e4.Size)] := fun hc => by have k := hq4 hc; have e : cs4 = _ := k.2.1; rw [← e]; exact k.2.2
    refine a_gval rfl (g_true rfl rfl rfl rfl) rfl (fun hc => fun w' => (y_indexAddr rfl Tryd.underlying22 size_37 (ev_gv et hc) (ev_gv et hc) (lat_bd (hx7 hc)) (hq4 hc).1)) ?_
    refine a_gread rfl (g_true rfl rfl rfl rfl) rfl (fun hc => fun w' hw' => (y_loadN (l := [(str e4.Name), (vi e4.From), (vi e4.To), (vi e4.Size)]) rfl (ev_gv et hc) Tryd.underlying37 rfl size_37 ((hq5 hc).at_ (SX.any rfl hw')))) (by kernel_rfl) ?_
    refine a_gval rfl (g_true rfl rfl rfl rfl) rfl (fun hc => fun w' => (y_move rfl et)) ?_
    refine a_gval rfl (g_true rfl rfl rfl rfl) rfl (fun hc => fun w' => (y_move rfl et)) ?_
    obtain ⟨e5, hx8, h⟩ := bnd_some h
    replace hx8 := gd_some hx8
    obtain ⟨ad5, cs5, hq6⟩ := hI.gclat .z hx8
    have hq7 : ((decide (0 < e3.Len)) && (!decide (i2 = k1))) = true → CA (Dj F c15) w11 (ad5.add (Int.toNat k1 * 4)) [(str e5.Name), (vi e5.From), (vi e5.To), (vi e5.Size)] := fun hc => by have k := hq6 hc; have e : cs5 = _ := k.2.1; rw [← e]; exact k.2.2
    refine a_gval rfl (g_true rfl rfl rfl rfl) rfl (fun hc => fun w' => (y_indexAddr rfl Tryd.underlying22 size_37 (ev_gv et hc) (ev_gv et hc) (lat_bd (hx8 hc)) (hq6 hc).1)) ?_
    refine a_gread rfl (g_true rfl rfl rfl rfl) rfl (fun hc => fun w' hw' => (y_loadN (l := [(str e5.Name), (vi e5.From), (vi e5.To), (vi e5.Size)]) rfl (ev_gv et hc) Tryd.underlying37 rfl size_37 ((hq7 hc).at_ (SX.any rfl hw')))) (by kernel_rfl) ?_
    obtain ⟨r2, hx9, h⟩ := bnd_some h
    replace hx9 := gd_some hx9
    refine la_gcallU (v := (vb r2)) rfl (g_true rfl rfl rfl rfl) rfl (fun hc => (r_callF (vs := [(Value.agg #[(str e4.Name), (vi e4.From), (vi e4.To), (vi e4.Size)]), (Value.agg #[(str e5.Name), (vi e5.From), (vi e5.To), (vi e5.Size)])]) rfl ok_26 ⟨(ev_gv et hc), ⟨(ev_gv et hc), trivial⟩⟩)) (fun hc => (c_liveness_Overlap (Dj F c15) w11 hI.lt e4 e5 trivial r2 (hx9 hc)).mono fun _ _ k => ⟨k.1, k.2.1⟩) ?_
    intro w12 hx10; replace hI := hI.ext hx10
    refine a_q rfl gn rfl (fun w' => (y_and rfl et et)) ?_
    refine a_nil ?_
    refine k_same ?_
    refine c_cond (b := ((decide (0 < e3.Len)) && (!decide (i2 = k1))) && r2) et (fun hb => ?_) (fun hb => ?_)
    ·replace h := ite_t hb h
     refine c_region rfl ?_
     refine sm ?_
     refine sq (y_loadN (l := [(str e3.Name), (vi e3.At), (vi e3.Len)]) rfl et Tryd.underlying39 rfl size_39 (CellsAt.of_blk (hI.blk .z) rfl)) ?_
     refine l_lit (c := cGSlot) (xs := ([e3] : List GSlot)) (vs := [(0, (Value.agg #[(str e3.Name), (vi e3.At), (vi e3.Len)]))]) (cs := #[(str e3.Name), (vi e3.At), (vi e3.Len)]) (css := [[(str e3.Name), (vi e3.At), (vi e3.Len)]]) hI gn rfl rfl Tryd.underlying25 info_39 rfl ⟨rfl, et, trivial⟩ (by kernel_rfl) ⟨rfl, trivial⟩ rfl rfl rfl ?_
     clear hI; intro b3 c16 w13 hI
     obtain ⟨zs1, hx11, h⟩ := bnd_some h
     refine l_append (xs := busy2) (ys := ([e3] : List GSlot)) hI (.s (.s .z)) (hI.rd .z) hx11 gn rfl rfl Tryd.underlying25 info_39 rfl rfl et et ?_
     clear hI; intro a7 c17 c18 w14 hI
     refine sa ?_
     refine s_nil ?_
     exact k_join (zs1, a7, c17) ⟨rfl, rfl, rfl, rfl, rfl, rfl, trivial⟩ ⟨_, hI.arr (.c (.s (.s .z)) .n) ⟨.z, (.s .z), trivial⟩, h⟩ rfl
    ·replace h := ite_f hb h
     refine c_skip ?_
     exact k_join (busy2, a5, c10) ⟨rfl, rfl, rfl, rfl, rfl, rfl, trivial⟩ ⟨_, hI.arr (.c (.s .z) .n) ⟨.z, (.s .z), trivial⟩, h⟩ rfl
  ·replace h := ite_f hb h
   refine c_exit ?_
   refine k_in ?_
   exact k_join (busy2, a5, c10) ⟨rfl, rfl, rfl, trivial⟩ ⟨_, hI.arr (.c .z .n) ⟨.z, trivial⟩, h⟩ rfl
set_option maxRecDepth 100000 in
set_option maxHeartbeats 4000000 in
theorem c_arena_place (F : NP) (w0 : World) (hF : ∀ k, F k → k < w0.heap.size) (l1 : List GLifetime) (order1 : List Int) (a1 : Option Addr) (c1 : Nat) (a2 : Option Addr) (c2 : Nat) (hc : AllCl [Cl.sl cGLifetime a1 c1 l1, Cl.sl (cInt .i64) a2 c2 order1] F w0) (r : List GSlot × Int)
  (h : m_arena_place l1 order1 = some r) :
  Calls Tryd.prog 20 #[(vs a1 l1.length c1), (vs a2 order1.length c2)] w0 fun e w => ∃ (a3 : Option Addr) (c3 : Nat), e = .returned (Value.tuple #[(vs a3 r.1.length c3), (vi r.2)]) ∧ Ext w0 w ∧ AllCl [Cl.sl cGSlot a3 c3 r.1] F w := by
 refine enterK (l := [(vs a1 l1.length c1), (vs a2 order1.length c2)]) Tryd.func20 rfl Tryd.ntmps20 rfl ?_
 have hI := Bun.start hF hc
 clear hc
 rw [m_arena_place] at h
 refine sr ?_
 refine sac ?_
 refine sac ?_
 refine nk ?_
 refine sr ?_
 refine sm ?_
 refine sq (y_lenl rfl Tryd.underlying22 et) ?_
 obtain ⟨zs1, hx1, h⟩ := bnd_some h
 refine l_make (c := cGSlot) hI hx1 gn  rfl rfl Tryd.underlying25 info_39 rfl rfl et et rfl ?_
 clear hI; intro b1 c4 w1 hI
 refine sa ?_
 refine nk ?_
 refine sr ?_
 refine sac ?_
 refine nk ?_
 refine c_seq ?_
 refine sr ?_
 refine sm ?_
 refine sq (y_lenl rfl Tryd.underlying41 et) ?_
 refine sq (y_move rfl ev_const) ?_
 refine nk ?_
 refine c_block ?_
 refine c_loop (α := Nat × (List GSlot) × Int × Int × (Option Addr) × Nat) (fun x => fun w => ∃ C, Bun noM F w0 C w [MO.row cGSlot 39 (x.2.2.2.2.1) (x.2.2.2.2.2) (x.2.1)] [Cl.sl cGLifetime a1 c1 l1, Cl.sl (cInt .i64) a2 c2 order1] ∧ m_arena_place_l1 order1 l1 (x.1) (x.2.1) (x.2.2.1) (x.2.2.2.1) = some r) (fun x _ => x.1) (fun x => [(0, (vs a1 l1.length c1)), (6, (vs (x.2.2.2.2.1) (x.2.1).length (x.2.2.2.2.2))), (7, (vi (x.2.2.1))), (14, (vs a2 order1.length c2)), (15, (vi (order1.length : Int))), (16, (vi (x.2.2.2.1)))]) (fu, zs1, 0, 0, some ⟨b1, 0, none⟩, ((l1.length : Int)).toNat) ⟨_, hI.arr (.c .z .n) ⟨.z, (.s .z), trivial⟩, h⟩ ⟨rfl, rfl, rfl, rfl, rfl, rfl, trivial⟩ ?_
 clear h hI; rintro ⟨fuel1, slots1, size1, i1, a4, c5⟩ w2 ⟨c6, hI, h⟩
 dsimp only at hI h
 rcases fuel1 with _ | fuel1
 ·rw [m_arena_place_l1] at h; cases h
 rw [m_arena_place_l1] at h
 refine c_sub (e := [(0, (vs a1 l1.length c1)), (6, (vs a4 slots1.length c5)), (7, (vi size1)), (14, (vs a2 order1.length c2)), (15, (vi (order1.length : Int))), (16, (vi i1))]) ⟨rfl, rfl, rfl, rfl, rfl, rfl, trivial⟩ ?_
 refine sr ?_
 refine sq (y_lss rfl et et) ?_
 refine nk ?_
 refine c_seq ?_
 refine c_cond (b := decide (i1 < (order1.length : Int))) et (fun hb => ?_) (fun hb => ?_)
 ·replace h := ite_t hb h
  refine c_skip ?_
  refine k_same ?_
  refine c_seq ?_
  refine c_block ?_
  refine sr ?_
  obtain ⟨e1, hx2, h⟩ := bnd_some h
  obtain ⟨ad1, cs1, hA1, hr1, hq1⟩ := hI.clat (.s .z) hx2
  obtain rfl : cs1 = [(vi e1)] := hr1
  refine sq (y_indexAddr rfl Tryd.underlying41 size_3 et et (lat_bd hx2) hA1) ?_
  refine sq (y_load1 (v := (vi e1)) rfl et Tryd.underlying3 rfl hq1.1) ?_
  refine sa ?_
  refine nk ?_
  refine sr ?_
  refine sm ?_
  refine sm ?_
  refine sm ?_
  obtain ⟨r1, hx3, h⟩ := bnd_some h
  refine s_call gn rfl (r_callF (vs := [(vs a1 l1.length c1), (vs a4 slots1.length c5), (vi e1)]) rfl ok_32 ⟨et, ⟨et, ⟨et, trivial⟩⟩⟩) (Calls.mono (c_arena_fit noM w2 (fun _ k => k.elim) l1 slots1 e1 a1 c1 a4 c5 ⟨(hI.get0 .z), hI.lend .z, trivial⟩ r1 hx3) ?_)
  rintro _ w3 ⟨rfl, hx4, hl1⟩
  refine ⟨_, rfl, ?_⟩
  replace hI := (hI.ext hx4)
  refine sa ?_
  refine nk ?_
  refine c_seq ?_
  refine c_drawX [15] false (.c (0, .q) (.c (1, .q) (.c (2, .q) (.c (3, .q) (.c (4, .q) (.c (5, .q) (.c (6, .q) (.c (7, .q) (.c (8, .q) (.c (9, .q) (.c (10, .q) (.c (11, .q) (.c (12, .q) (.c (13, .q) (.c (14, .q) (.c (15, .s) .n)))))))))))))))) hI (by kernel_rfl) (by kernel_rfl) ?_
  clear hI; intro w4 hI
  refine a_q rfl gn rfl (fun w' => (y_move rfl et)) ?_
  refine a_q rfl gn rfl (fun w' => (y_move rfl et)) ?_
  refine a_q rfl gn rfl (fun w' => (y_move rfl et)) ?_
  refine a_q rfl gn rfl (fun w' => (y_move rfl et)) ?_
  obtain ⟨e2, hx5, h⟩ := bnd_some h
  obtain ⟨ad2, cs2, hA2, hr2, hq2⟩ := hI.clat .z hx5
  obtain rfl : cs2 = [(str e2.Name), (vi e2.From), (vi e2.To), (vi e2.Size)] := hr2
  refine a_q rfl gn rfl (fun w' => (y_indexAddr rfl Tryd.underlying22 size_37 et et (lat_bd hx5) hA2)) ?_
  refine a_q rfl gn rfl (fun w' => (y_fieldAddr rfl et Tryd.underlying37 rfl size_9 rfl)) ?_
  refine a_read rfl gn rfl (fun w' hw' => (y_load1 (v := (str e2.Name)) rfl et Tryd.underlying9 rfl ((CA.part hq2 rfl).at_ (SX.any rfl hw')))) (by kernel_rfl) ?_
  refine a_q rfl gn rfl (fun w' => (y_move rfl et)) ?_
  refine a_q rfl gn rfl (fun w' => (y_move rfl et)) ?_
  refine a_q rfl gn rfl (fun w' => (y_move rfl et)) ?_
  obtain ⟨e3, hx6, h⟩ := bnd_some h
  obtain ⟨ad3, cs3, hA3, hr3, hq3⟩ := hI.clat .z hx6
  obtain rfl : cs3 = [(str e3.Name), (vi e3.From), (vi e3.To), (vi e3.Size)] := hr3
  refine a_q rfl gn rfl (fun w' => (y_indexAddr rfl Tryd.underlying22 size_37 et et (lat_bd hx6) hA3)) ?_
  refine a_q rfl gn rfl (fun w' => (y_fieldAddr rfl et Tryd.underlying37 rfl size_3 rfl)) ?_
  refine a_read rfl gn rfl (fun w' hw' => (y_load1 (v := (vi e3.Size)) rfl et Tryd.underlying3 rfl ((CA.part hq3 rfl).at_ (SX.any rfl hw')))) (by kernel_rfl) ?_
  refine a_q rfl gn rfl (fun w' => (y_build (vs := [(0, (str e2.Name)), (1, (vi r1)), (2, (vi e3.Size))]) (cs := #[(str e2.Name), (vi r1), (vi e3.Size)]) rfl ⟨rfl, et, ⟨rfl, et, ⟨rfl, et, trivial⟩⟩⟩ (by kernel_rfl))) ?_
  obtain ⟨ho1, h⟩ := chk_some h
  obtain ⟨ad4, hA4⟩ := hI.addr .z ho1
  refine a_q rfl gn rfl (fun w' => (y_indexAddr rfl Tryd.underlying25 size_39 et et ho1 hA4)) ?_
  refine a_turn (F := F) (C := c6) rfl rfl ?_
  refine la_storeRow (p := Int.toNat e1) (new := [(str e2.Name), (vi r1), (vi e3.Size)]) (off := 0) (x' := (⟨e2.Name, r1, e3.Size⟩ : GSlot)) hI .z rfl gn rfl rfl (by have := ho1; first | omega | (simp only [List.length_set]; omega)) hA4 rfl et et rfl size_39 rfl (by show 0 + 3 ≤ 3; omega) (fun _ cs0 _ hr0 => by rw [spl_full (by have e := Cod.len _ hr0; exact e)]; exact rfl) ?_
  clear hI; intro c7 w5 hI
  refine a_nil ?_
  refine k_next (e := [(0, (vs a1 l1.length c1)), (6, (vs a4 (slots1.set (Int.toNat e1) (⟨e2.Name, r1, e3.Size⟩ : GSlot)).length c5)), (7, (vi size1)), (14, (vs a2 order1.length c2)), (15, (vi (order1.length : Int))), (16, (vi i1)), (9, (vi e1)), (10, (vi r1))]) ⟨rfl, (lookset rfl), rfl, rfl, rfl, rfl, rfl, rfl, trivial⟩ ?_
  refine c_region rfl ?_
  refine sm ?_
  refine sm ?_
  refine sm ?_
  refine sm ?_
  obtain ⟨e4, hx7, h⟩ := bnd_some h
  obtain ⟨ad5, cs4, hA5, hr4, hq4⟩ := hI.clat .z hx7
  obtain rfl : cs4 = [(str e4.Name), (vi e4.From), (vi e4.To), (vi e4.Size)] := hr4
  refine sq (y_indexAddr rfl Tryd.underlying22 size_37 et et (lat_bd hx7) hA5) ?_
  refine sq (y_fieldAddr rfl et Tryd.underlying37 rfl size_3 rfl) ?_
  refine sq (y_load1 (v := (vi e4.Size)) rfl et Tryd.underlying3 rfl (CA.part hq4 rfl).1) ?_
  refine sq (y_add rfl et et) ?_
  refine sq (y_max rfl et et) ?_
  obtain ⟨size2, hx8, h⟩ := bnd_some h
  refine sq (binU (y_assign rfl et) (congrArg (Value.int .i64) (some_inj hx8))) ?_
  refine nk ?_
  refine c_region rfl ?_
  refine sq (y_add rfl et ev_const) ?_
  refine sm ?_
  refine s_nil ?_
  exact k_loop (fuel1, slots1.set (Int.toNat e1) (⟨e2.Name, r1, e3.Size⟩ : GSlot), size2, wi64 (i1 + 1), a4, c5) ⟨rfl, rfl, rfl, rfl, rfl, rfl, trivial⟩ ⟨_, hI.arr (.c .z .n) ⟨.z, (.s .z), trivial⟩, h⟩ (Nat.lt_succ_self _)
 ·replace h := ite_f hb h
  refine c_exit ?_
  refine k_in ?_
  refine k_same ?_
  refine sr ?_
  refine sm ?_
  refine sm ?_
  refine sa ?_
  refine sa ?_
  refine nk ?_
  refine c_ret ?_
  obtain ⟨c8, hI⟩ := hI.release .z
  obtain rfl := some_inj h
  exact q_ret (vs := [(vs a4 slots1.length c5), (vi size1)]) Tryd.results20 ⟨ev_tmp rfl rfl, ⟨ev_tmp rfl rfl, trivial⟩⟩ ⟨a4, c5, rfl, hI.ext0, hI.fin ⟨.z, trivial⟩⟩
set_option maxRecDepth 100000 in
set_option maxHeartbeats 4000000 in
theorem c_arena_Plan (F : NP) (w0 : World) (hF : ∀ k, F k → k < w0.heap.size) (l1 : List GLifetime) (a1 : Option Addr) (c1 : Nat) (hc : AllCl [Cl.sl cGLifetime a1 c1 l1, clSpace] F w0) (r : List GSlot × Int × Int)
  (h : m_arena_Plan l1 = some r) :
  Calls Tryd.prog 10 #[(vs a1 l1.length c1)] w0 fun e w => ∃ (a2 : Option Addr) (c2 : Nat), e = .returned (Value.tuple #[(vs a2 r.1.length c2), (vi r.2.1), (vi r.2.2)]) ∧ Ext w0 w ∧ AllCl [Cl.sl cGSlot a2 c2 r.1] F w := by
 refine enterK (l := [(vs a1 l1.length c1)]) Tryd.func10 rfl Tryd.ntmps10 rfl ?_
 have hI := Bun.start hF hc
 clear hc
 rw [m_arena_Plan] at h
 refine sr ?_
 refine l_box (v := (vs a1 l1.length c1)) (cs := #[(vs a1 l1.length c1)]) hI gn rfl rfl et rfl ?_
 clear hI; intro b1 c3 w1 hI
 obtain ⟨c4, hI⟩ := hI.relBox .z
 refine sac ?_
 refine sac ?_
 refine sac ?_
 refine nk ?_
 refine c_seq ?_
 refine sr ?_
 refine sq (y_load1 (v := (vs a1 l1.length c1)) rfl et Tryd.underlying22 rfl (hI.kblk (l := [(vs a1 l1.length c1)]) .z rfl).1) ?_
 obtain ⟨r1, hx1, h⟩ := bnd_some h
 refine s_call gn rfl (r_callF (vs := [(vs a1 l1.length c1)]) rfl ok_19 ⟨et, trivial⟩) (Calls.mono (c_liveness_Validate (Dj F c4) w1 hI.lt l1 a1 c1 ⟨(hI.get (.s .z)), (hI.get (.s (.s .z))), trivial⟩ r1 hx1) ?_)
 rintro _ w2 ⟨rfl, hx2, hl1⟩
 refine ⟨_, rfl, ?_⟩
 replace hI := (hI.ext hx2)
 refine sa ?_
 refine nk ?_
 refine sr ?_
 refine sm ?_
 refine sq (y_neq rfl et ev_const) ?_
 refine nk ?_
 refine c_cond (b := !decide (r1 = 0)) et (fun hb => ?_) (fun hb => ?_)
 ·replace h := ite_t hb h
  refine sr ?_
  refine sm ?_
  refine sac ?_
  refine sac ?_
  refine sa ?_
  refine nk ?_
  refine c_ret ?_
  have hI := hI.add (c := Cl.sl cGSlot none 0 ([] : List GSlot)) SlC.nil
  obtain rfl := some_inj h
  exact q_ret (vs := [(vs none 0 0), (vi 0), (vi r1)]) Tryd.results10 ⟨ev_tmp rfl rfl, ⟨ev_tmp rfl rfl, ⟨ev_tmp rfl rfl, trivial⟩⟩⟩ ⟨none, 0, rfl, hI.ext0, hI.fin ⟨.z, trivial⟩⟩
 ·replace h := ite_f hb h
  refine c_skip ?_
  refine k_same ?_
  refine sr ?_
  refine sac ?_
  refine nk ?_
  refine c_join (α := (List Int) × (Option Addr) × Nat) (fun _ => ⟨37, []⟩) (fun x => [(1, (vp b1 0)), (6, (vs (x.2.1) (x.1).length (x.2.2)))]) (fun x => fun w => ∃ C, Bun noM F w0 C w [MO.row (cInt .i64) 3 (x.2.1) (x.2.2) (x.1)] [Cl.blk b1 22 #[(vs a1 l1.length c1)], Cl.sl cGLifetime a1 c1 l1, clSpace] ∧ m_arena_Plan_j1 l1 (x.1) = some r) ?_ ?_
  ·clear h hI; rintro ⟨order1, a3, c5⟩ w3 ⟨c6, hI, h⟩
   try dsimp only at hI h
   rw [m_arena_Plan_j1] at h
   refine c_sub (e := [(1, (vp b1 0)), (6, (vs a3 order1.length c5))]) ⟨rfl, rfl, trivial⟩ ?_
   refine c_seq ?_
   refine c_drawX [] false (.c (0, .q) (.c (1, .q) (.c (2, .q) (.c (3, .s) (.c (4, .s) (.c (5, .q) (.c (6, .q) (.c (7, .q) (.c (8, .q) (.c (9, .q) .n)))))))))) hI (by kernel_rfl) (by kernel_rfl) ?_
   clear hI; intro w4 hI
   refine a_read rfl gn rfl (fun w' hw' => (y_load1 (v := (vs a1 l1.length c1)) rfl et Tryd.underlying22 rfl ((hI.kblk (l := [(vs a1 l1.length c1)]) .z rfl).at_ (SX.any rfl hw')))) (by kernel_rfl) ?_
   refine a_q rfl gn rfl (fun w' => (y_move rfl et)) ?_
   refine a_q rfl gn rfl (fun w' => (y_makeFunc (vs := []) (cap := [(vp b1 0)]) rfl rfl ⟨et, trivial⟩)) ?_
   obtain ⟨c7, hI⟩ := hI.release .z
   have hI := hI.add (c := clFn_k2 (Value.func (.func 22) #[] #[(vp b1 0)]) (fun y_1 y_2 => m_arena_Plan_1 y_1 y_2 l1)) ⟨rfl, fun D' w' hs hl x_1 x_2 r k h => CallV.fn (cap := [(vp b1 0)]) ok_22 (c_arena_Plan_1 D' w' hl x_1 x_2 l1 b1 a1 c1 ⟨(Cl.sp _ hs (hI.get (.s (.s .z)))), (Cl.sp _ hs (hI.get (.s .z))), trivial⟩ r h)⟩
   obtain ⟨r2, hx3, h⟩ := bnd_some h
   refine la_call rfl gn rfl (r_callF (vs := [(vs a3 order1.length c5), (Value.func (.func 22) #[] #[(vp b1 0)])]) rfl ok_21 ⟨et, ⟨et, trivial⟩⟩) (Calls.mono (c_arena_sorted_int (Dj F c7) w4 hI.lt order1 (fun y_1 y_2 => m_arena_Plan_1 y_1 y_2 l1) a3 c5 (Value.func (.func 22) #[] #[(vp b1 0)]) ⟨(hI.get (.s .z)), (hI.get .z), trivial⟩ r2 hx3) ?_)
   rintro _ w5 ⟨a4, c8, rfl, hx4, hl2⟩
   refine ⟨_, rfl, hx4, ?_⟩
   replace hI := (hI.ext hx4).adds hl2
   obtain ⟨r3, hx5, h⟩ := bnd_some h
   refine la_call rfl gn rfl (r_callF (vs := [(vs a1 l1.length c1), (vs a4 r2.length c8)]) rfl ok_20 ⟨et, ⟨et, trivial⟩⟩) (Calls.mono (c_arena_place (Dj F c7) w5 hI.lt l1 r2 a1 c1 a4 c8 ⟨(hI.get (.s (.s (.s (.s .z))))), (hI.get .z), trivial⟩ r3 hx5) ?_)
   rintro _ w6 ⟨a5, c9, rfl, hx6, hl3⟩
   refine ⟨_, rfl, hx6, ?_⟩
   replace hI := (hI.ext hx6).adds hl3
   refine a_q rfl gn rfl (fun w' => (y_move rfl et)) ?_
   refine a_q rfl gn rfl (fun w' => (y_extract rfl et rfl)) ?_
   refine a_q rfl gn rfl (fun w' => (y_extract rfl et rfl)) ?_
   refine a_q rfl gn rfl (fun w' => (y_assign rfl et)) ?_
   refine a_q rfl gn rfl (fun w' => (y_assign rfl et)) ?_
   refine a_nil ?_
   refine k_same ?_
   refine c_seq ?_
   refine sr ?_
   refine sm ?_
   refine sq (y_gtr rfl et ev_const) ?_
   refine nk ?_
   refine c_cond (b := decide (2147483647 < r3.2)) et (fun hb => ?_) (fun hb => ?_)
   ·replace h := ite_t hb h
    refine sr ?_
    refine sac ?_
    refine sac ?_
    refine sac ?_
    refine nk ?_
    refine c_ret ?_
    have hI := hI.add (c := Cl.sl cGSlot none 0 ([] : List GSlot)) SlC.nil
    obtain rfl := some_inj h
    exact q_ret (vs := [(vs none 0 0), (vi 0), (vi 22)]) Tryd.results10 ⟨ev_tmp rfl rfl, ⟨ev_tmp rfl rfl, ⟨ev_tmp rfl rfl, trivial⟩⟩⟩ ⟨none, 0, rfl, hI.ext0, hI.fin ⟨.z, trivial⟩⟩
   ·replace h := ite_f hb h
    refine c_skip ?_
    refine k_same ?_
    refine sr ?_
    refine sm ?_
    refine sm ?_
    refine sa ?_
    refine sa ?_
    refine sac ?_
    refine nk ?_
    refine c_ret ?_
    obtain rfl := some_inj h
    exact q_ret (vs := [(vs a5 r3.1.length c9), (vi r3.2), (vi 0)]) Tryd.results10 ⟨ev_tmp rfl rfl, ⟨ev_tmp rfl rfl, ⟨ev_tmp rfl rfl, trivial⟩⟩⟩ ⟨a5, c9, rfl, hI.ext0, hI.fin ⟨.z, trivial⟩⟩
  ·skip
   refine sr ?_
   refine sq (y_load1 (v := (vs a1 l1.length c1)) rfl et Tryd.underlying22 rfl (hI.kblk (l := [(vs a1 l1.length c1)]) .z rfl).1) ?_
   refine sq (y_lenl rfl Tryd.underlying22 et) ?_
   refine sq (y_move rfl ev_const) ?_
   refine nk ?_
   refine c_block ?_
   have hI := hI.nil (cInt .i64) 3 none
   refine c_loop (α := Nat × (List Int) × Int × (Option Addr) × Nat) (fun x => fun w => ∃ C, Bun noM F w0 C w [MO.row (cInt .i64) 3 (x.2.2.2.1) (x.2.2.2.2) (x.2.1)] [Cl.blk b1 22 #[(vs a1 l1.length c1)], Cl.sl cGLifetime a1 c1 l1, clSpace] ∧ m_arena_Plan_l1 l1 (x.1) (x.2.1) (x.2.2.1) = some r) (fun x _ => x.1) (fun x => [(1, (vp b1 0)), (6, (vs (x.2.2.2.1) (x.2.1).length (x.2.2.2.2))), (16, (vi (l1.length : Int))), (17, (vi (x.2.2.1)))]) (fu, ([] : List Int), 0, none, 0) ⟨_, hI.arr (.c .z .n) ⟨.z, (.s .z), (.s (.s .z)), trivial⟩, h⟩ ⟨rfl, rfl, rfl, rfl, trivial⟩ ?_
   clear h hI; rintro ⟨fuel1, order2, i1, a6, c10⟩ w7 ⟨c11, hI, h⟩
   dsimp only at hI h
   rcases fuel1 with _ | fuel1
   ·rw [m_arena_Plan_l1] at h; cases h
   rw [m_arena_Plan_l1] at h
   refine c_sub (e := [(1, (vp b1 0)), (6, (vs a6 order2.length c10)), (16, (vi (l1.length : Int))), (17, (vi i1))]) ⟨rfl, rfl, rfl, rfl, trivial⟩ ?_
   refine sr ?_
   refine sq (y_lss rfl et et) ?_
   refine nk ?_
   refine c_seq ?_
   refine c_cond (b := decide (i1 < (l1.length : Int))) et (fun hb => ?_) (fun hb => ?_)
   ·replace h := ite_t hb h
    refine c_skip ?_
    refine k_same ?_
    refine c_seq ?_
    refine c_block ?_
    refine sr ?_
    refine sm ?_
    refine sa ?_
    refine nk ?_
    refine c_region rfl ?_
    refine sm ?_
    refine sm ?_
    refine l_lit (c := (cInt .i64)) (xs := ([i1] : List Int)) (vs := [(0, (vi i1))]) (cs := #[(vi i1)]) (css := [[(vi i1)]]) hI gn rfl rfl Tryd.underlying41 info_3 rfl ⟨rfl, et, trivial⟩ (by kernel_rfl) ⟨rfl, trivial⟩ rfl rfl rfl ?_
    clear hI; intro b2 c12 w8 hI
    obtain ⟨zs1, hx7, h⟩ := bnd_some h
    refine l_append (xs := order2) (ys := ([i1] : List Int)) hI (.s .z) (hI.rd .z) hx7 gn rfl rfl Tryd.underlying41 info_3 rfl rfl et et ?_
    clear hI; intro a7 c13 c14 w9 hI
    refine sa ?_
    refine nk ?_
    refine c_region rfl ?_
    refine sq (y_add rfl et ev_const) ?_
    refine sm ?_
    refine s_nil ?_
    exact k_loop (fuel1, zs1, wi64 (i1 + 1), a7, c13) ⟨rfl, rfl, rfl, rfl, trivial⟩ ⟨_, hI.arr (.c (.s .z) .n) ⟨.z, (.s .z), (.s (.s .z)), trivial⟩, h⟩ (Nat.lt_succ_self _)
   ·replace h := ite_f hb h
    refine c_exit ?_
    refine k_in ?_
    exact k_join (order2, a6, c10) ⟨rfl, rfl, trivial⟩ ⟨_, hI.arr (.c .z .n) ⟨.z, (.s .z), (.s (.s .z)), trivial⟩, h⟩ rfl
set_option maxRecDepth 100000 in
set_option maxHeartbeats 4000000 in
theorem c_arena_meet (F : NP) (w0 : World) (hF : ∀ k, F k → k < w0.heap.size) (a1 : GSlot) (b1 : GSlot) (hc : AllCl [] F w0) (r : Bool)
  (h : m_arena_meet a1 b1 = some r) :
  Calls Tryd.prog 27 #[(Value.agg #[(str a1.Name), (vi a1.At), (vi a1.Len)]), (Value.agg #[(str b1.Name), (vi b1.At), (vi b1.Len)])] w0 fun e w => e = .returned (vb r) ∧ Ext w0 w ∧ AllCl [] F w := by
 refine enterK (l := [(Value.agg #[(str a1.Name), (vi a1.At), (vi a1.Len)]), (Value.agg #[(str b1.Name), (vi b1.At), (vi b1.Len)])]) Tryd.func27 rfl Tryd.ntmps27 rfl ?_
 have hI := Bun.start hF hc
 clear hc
 rw [m_arena_meet] at h
 refine sr ?_
 refine l_box (v := (Value.agg #[(str a1.Name), (vi a1.At), (vi a1.Len)])) (cs := #[(str a1.Name), (vi a1.At), (vi a1.Len)]) hI gn rfl rfl et rfl ?_
 clear hI; intro b2 c1 w1 hI
 obtain ⟨c2, hI⟩ := hI.relBox .z
 refine l_box (v := (Value.agg #[(str b1.Name), (vi b1.At), (vi b1.Len)])) (cs := #[(str b1.Name), (vi b1.At), (vi b1.Len)]) hI gn rfl rfl et rfl ?_
 clear hI; intro b3 c3 w2 hI
 obtain ⟨c4, hI⟩ := hI.relBox .z
 refine sac ?_
 refine nk ?_
 refine sr ?_
 refine sq (y_fieldAddr rfl et Tryd.underlying39 rfl size_3 rfl) ?_
 refine sq (y_load1 (v := (vi a1.Len)) rfl et Tryd.underlying3 rfl (hI.kblk (l := [(vi a1.Len)]) (.s .z) rfl).1) ?_
 refine sq (y_gtr rfl et ev_const) ?_
 refine sm ?_
 refine s_gval (g_true rfl rfl rfl rfl) rfl (fun hc => (y_fieldAddr rfl et Tryd.underlying39 rfl size_3 rfl)) ?_
 refine s_gval (g_true rfl rfl rfl rfl) rfl (fun hc => (y_load1 (v := (vi b1.Len)) rfl (ev_gv et hc) Tryd.underlying3 rfl (hI.kblk (l := [(vi b1.Len)]) .z rfl).1)) ?_
 refine s_gval (g_true rfl rfl rfl rfl) rfl (fun hc => (y_gtr rfl (ev_gv et hc) ev_const)) ?_
 refine sq (y_and rfl et et) ?_
 refine sm ?_
 refine s_gval (g_true rfl rfl rfl rfl) rfl (fun hc => (y_fieldAddr rfl et Tryd.underlying39 rfl size_3 rfl)) ?_
 refine s_gval (g_true rfl rfl rfl rfl) rfl (fun hc => (y_load1 (v := (vi a1.At)) rfl (ev_gv et hc) Tryd.underlying3 rfl (hI.kblk (l := [(vi a1.At)]) (.s .z) rfl).1)) ?_
 refine s_gval (g_true rfl rfl rfl rfl) rfl (fun hc => (y_fieldAddr rfl et Tryd.underlying39 rfl size_3 rfl)) ?_
 refine s_gval (g_true rfl rfl rfl rfl) rfl (fun hc => (y_load1 (v := (vi b1.At)) rfl (ev_gv et hc) Tryd.underlying3 rfl (hI.kblk (l := [(vi b1.At)]) .z rfl).1)) ?_
 refine s_gval (g_true rfl rfl rfl rfl) rfl (fun hc => (y_fieldAddr rfl et Tryd.underlying39 rfl size_3 rfl)) ?_
 refine s_gval (g_true rfl rfl rfl rfl) rfl (fun hc => (y_load1 (v := (vi b1.Len)) rfl (ev_gv et hc) Tryd.underlying3 rfl (hI.kblk (l := [(vi b1.Len)]) .z rfl).1)) ?_
 refine s_gval (g_true rfl rfl rfl rfl) rfl (fun hc => (y_add rfl (ev_gv et hc) (ev_gv et hc))) ?_
 refine s_gval (g_true rfl rfl rfl rfl) rfl (fun hc => (y_lss rfl (ev_gv et hc) (ev_gv et hc))) ?_
 refine sq (y_and rfl et et) ?_
 refine sm ?_
 refine s_gval (g_true rfl rfl rfl rfl) rfl (fun hc => (y_fieldAddr rfl et Tryd.underlying39 rfl size_3 rfl)) ?_
 refine s_gval (g_true rfl rfl rfl rfl) rfl (fun hc => (y_load1 (v := (vi b1.At)) rfl (ev_gv et hc) Tryd.underlying3 rfl (hI.kblk (l := [(vi b1.At)]) .z rfl).1)) ?_
 refine s_gval (g_true rfl rfl rfl rfl) rfl (fun hc => (y_fieldAddr rfl et Tryd.underlying39 rfl size_3 rfl)) ?_
 refine s_gval (g_true rfl rfl rfl rfl) rfl (fun hc => (y_load1 (v := (vi a1.At)) rfl (ev_gv et hc) Tryd.underlying3 rfl (hI.kblk (l := [(vi a1.At)]) (.s .z) rfl).1)) ?_
 refine s_gval (g_true rfl rfl rfl rfl) rfl (fun hc => (y_fieldAddr rfl et Tryd.underlying39 rfl size_3 rfl)) ?_
 refine s_gval (g_true rfl rfl rfl rfl) rfl (fun hc => (y_load1 (v := (vi a1.Len)) rfl (ev_gv et hc) Tryd.underlying3 rfl (hI.kblk (l := [(vi a1.Len)]) (.s .z) rfl).1)) ?_
 refine s_gval (g_true rfl rfl rfl rfl) rfl (fun hc => (y_add rfl (ev_gv et hc) (ev_gv et hc))) ?_
 refine s_gval (g_true rfl rfl rfl rfl) rfl (fun hc => (y_lss rfl (ev_gv et hc) (ev_gv et hc))) ?_
 refine sq (y_and rfl et et) ?_
 refine sa ?_
 refine s_nil ?_
 refine k_next (e := [(4, (vb ((((decide (0 < a1.Len)) && (decide (0 < b1.Len))) && (decide (a1.At < wi64 (b1.At + b1.Len)))) && (decide (b1.At < wi64 (a1.At + a1.Len))))))]) ⟨rfl, trivial⟩ ?_
 refine c_ret ?_
 obtain rfl := some_inj h
 exact q_ret (vs := [(vb ((((decide (0 < a1.Len)) && (decide (0 < b1.Len))) && (decide (a1.At < wi64 (b1.At + b1.Len)))) && (decide (b1.At < wi64 (a1.At + a1.Len)))))]) Tryd.results27 ⟨ev_tmp rfl rfl, trivial⟩ ⟨rfl, hI.ext0, hI.fin trivial⟩
end Go.Proofs.YtnehbaocbcegpaaDoor
