import Derived.Test.YtebpdmfmknfkjaaGreatDoorSYh
namespace Go.Proofs.YtebpdmfmknfkjaaGreatDoor
open Go Go.RowKit Go.Vc
set_option linter.unusedVariables false
set_option linter.unusedSimpArgs false
theorem le_sum_of : ∀ {l : List Nat} {x : Nat}, x ∈ l → x ≤ l.sum
  | y :: l, x, h => by
    rw [List.sum_cons]
    rcases List.mem_cons.1 h with rfl | h
    · omega
    · have := le_sum_of h; omega
abbrev Wr (rec : List UInt8 → GExpr → Option (Unit × List UInt8)) (a : GExpr) : Prop := ∀ w' : List UInt8, w'.length + 100 * wE a ≤ 4000000000 → rec w' a = some ((), w' ++ exT a)
theorem operand_w {rc : List UInt8 → GExpr → Option (Unit × List UInt8)} {a : GExpr} {w : List UInt8} (least : Int) (h : Wr rc a) (hl : (exT a).length ≤ 100 * wE a) (hw : w.length + 100 * wE a + 2 ≤ 4000000000) : m_printer_writer_operand_w rc w a least = some ((), w ++ opd a (exT a) least) := by
  unfold m_printer_writer_operand_w opd
  rw [(prec_ok _).1, Option.bind_some]
  by_cases hc : lvl a.Op < least
  · rw [if_neg (by simp; omega), if_pos hc, lapp_ok (by simp only [List.length_cons, List.length_nil]; omega), Option.bind_some, h _ (by simp only [List.length_append, List.length_cons, List.length_nil]; omega), Option.bind_some]
    simp only []
    rw [lapp_ok (by simp only [List.length_append, List.length_cons, List.length_nil]; omega), Option.bind_some]
    simp
  · rw [if_pos (by simp; omega), if_neg hc, h _ (by omega)]; rfl
theorem operand_r {rc : GExpr → Option (List UInt8)} {a : GExpr} (least : Int) (h : rc a = some (exT a)) (hl : (exT a).length ≤ 100 * wE a) (hw : wE a ≤ 300) : m_ref15_operand rc a least = some (opd a (exT a) least) := by
  unfold m_ref15_operand opd
  rw [(prec_ok _).2, Option.bind_some, h]
  by_cases hc : lvl a.Op < least
  · rw [if_pos (by simpa using hc), if_pos hc, Option.bind_some, lapp_ok (by simp only [List.length_cons, List.length_nil]; omega), Option.bind_some, lapp_ok (by simp only [List.length_append, List.length_cons, List.length_nil]; omega), Option.bind_some]
    simp
  · rw [if_neg (by simpa using hc), if_neg hc]; rfl
theorem call_w {rc : List UInt8 → GExpr → Option (Unit × List UInt8)} {nm first w : List UInt8} {args : List GExpr} (hr : ∀ a ∈ args, Wr rc a) (hl : ∀ a ∈ args, (exT a).length ≤ 100 * wE a) (h3 : args.length ≤ 3) (hn : nm.length ≤ 4) (hf : first.length ≤ 60)
    (hw : w.length + 100 * (args.map wE).sum + 90 ≤ 4000000000) : m_printer_writer_call_w rc w nm first args = some ((), w ++ (nm ++ ([40] ++ (joinT (if first = [] then args.map exT else first :: args.map exT) ++ [41])))) := by
  have hj : ∀ i, (joinT ((if first = [] then [] else [first]) ++ (args.map exT).take i)).length ≤ 62 + 100 * (args.map wE).sum + 6 ∧ ∀ a, args[i]? = some a → (joinT ((if first = [] then [] else [first]) ++ (args.map exT).take i)).length + 2 + 100 * wE a ≤ 64 + 100 * (args.map wE).sum + 6 := fun i => by
    have h1 := joinT_len ((if first = [] then [] else [first]) ++ (args.map exT).take i)
    have h2 : lenJ ((if first = [] then [] else [first]) ++ (args.map exT).take i) ≤ 62 + lenJ ((args.map exT).take i) := by
      unfold lenJ; rw [List.map_append, List.sum_append]
      by_cases hfe : first = [] <;> simp [hfe] <;> omega
    have h4 : lenJ ((args.map exT).take i) ≤ 100 * ((args.take i).map wE).sum + 2 * (args.take i).length := by
      rw [← List.map_take]; exact lenJ_args fun a ha => hl a (List.mem_of_mem_take ha)
    have h5 := take_le (args.map wE) i
    rw [← List.map_take] at h5
    rw [List.length_take] at h4
    refine ⟨by omega, fun a ha => ?_⟩
    have h6 := take_sum (zs := args.map wE) (i := i) (x := wE a) (by rw [List.getElem?_map, ha]; rfl)
    have h7 := take_le (args.map wE) (i + 1)
    rw [List.map_take] at h4
    omega
  unfold m_printer_writer_call_w
  rw [lapp_ok (by simp only [List.length_cons, List.length_nil]; omega), Option.bind_some, lapp_ok (by simp only [List.length_append, List.length_cons, List.length_nil]; omega), Option.bind_some, lapp_ok (by simp only [List.length_append, List.length_cons, List.length_nil]; omega), Option.bind_some]
  refine loop_eq (L := fun f s i => m_printer_writer_call_w_l1 args first rc f i s) (n := args.length) (by omega) (fun i s => s = w ++ (nm ++ ([40] ++ joinT ((if first = [] then [] else [first]) ++ (args.map exT).take i)))) ?_ ?_ _ ?_
  · rintro f i s hi rfl
    obtain ⟨a, ha⟩ := at_some hi
    have hm := List.mem_of_getElem? ha
    have hb := (hj i).2 a ha
    have hla := hl a hm
    left
    refine ⟨_, rfl, ?_⟩
    have eS : (if first = [] then [] else [first]) ++ (args.map exT).take (i + 1) = ((if first = [] then [] else [first]) ++ (args.map exT).take i) ++ [exT a] := by
      rw [take_succ' (x := exT a) (by rw [List.getElem?_map, ha]; rfl), List.append_assoc]
    rw [eS, joinT_snoc]
    simp only [m_printer_writer_call_w_l1]
    rw [if_pos (lt_dec hi), lat_at ha, Option.bind_some]
    by_cases hc : (if first = [] then [] else [first]) ++ (args.map exT).take i = []
    · have c1 : first = [] := by
        by_cases h : first = []
        · exact h
        · rw [if_neg h] at hc; simp at hc
      have c2 : i = 0 := by
        rw [c1, if_pos rfl, List.nil_append] at hc
        rcases List.take_eq_nil_iff.1 hc with h | h
        · exact h
        · rw [List.map_eq_nil_iff] at h; rw [h] at hi; simp at hi
      rw [if_pos hc, hc]
      subst c2
      rw [if_neg (by simp [c1])]
      unfold m_printer_writer_call_w_j1
      rw [hr a hm _ (by simp only [joinT, List.length_append, List.length_cons, List.length_nil]; omega), Option.bind_some]
      simp [joinT, show wi64 1 = 1 by decide]
    · rw [if_neg hc, if_pos, lapp_ok (by simp only [List.length_append, List.length_cons, List.length_nil]; omega), Option.bind_some]
      · unfold m_printer_writer_call_w_j1
        rw [hr a hm _ (by simp only [List.length_append, List.length_cons, List.length_nil]; omega), Option.bind_some]
        simp only []
        rw [wis (by omega)]
        simp only [List.append_assoc]
      · by_cases h : first = []
        · rw [h, if_pos rfl, List.nil_append] at hc
          have : i ≠ 0 := fun h0 => hc (by rw [h0, List.take_zero])
          simp; left; omega
        · simp [h]
  · rintro f s rfl
    have hb := (hj args.length).1
    simp only [m_printer_writer_call_w_l1]
    rw [if_neg (by simp), lapp_ok (by simp only [List.length_append, List.length_cons, List.length_nil]; omega), Option.bind_some, show args.length = (args.map exT).length by rw [List.length_map], List.take_length]
    by_cases h : first = [] <;> simp [h]
  · by_cases h : first = [] <;> simp [h, joinT]
theorem text_l1 {e : GExpr} {s0 : List UInt8} (hi : ∀ x ∈ e.Idx, smI x) (hn : e.Idx.length ≤ 300) (hl : lenJ (e.Idx.map ixT) ≤ 3000000) (hs : s0.length ≤ 100) : m_ref15_text_l1 e fu s0 0 = some (s0 ++ (joinT (e.Idx.map ixT) ++ [93])) := by
  refine loop_eq (L := fun f s i => m_ref15_text_l1 e f s i) (n := e.Idx.length) (by omega) (fun i s => s = s0 ++ joinT ((e.Idx.map ixT).take i)) ?_ ?_ _ (by simp [joinT])
  · rintro f i s h rfl
    obtain ⟨x, hx⟩ := at_some h
    have ht : (e.Idx.map ixT)[i]? = some (ixT x) := by rw [List.getElem?_map, hx]; rfl
    have h1 := joinT_len ((e.Idx.map ixT).take i)
    have h2 := lenJ_at ht
    have hsm := hi x (List.mem_of_getElem? hx)
    left
    refine ⟨_, rfl, ?_⟩
    rw [take_succ' ht, joinT_snoc]
    simp only [m_ref15_text_l1]
    rw [if_pos (lt_dec h)]
    cases i with
    | zero =>
      rw [if_neg (by simp), if_pos (by simp)]
      unfold m_ref15_text_j2
      rw [show lat e.Idx ((0 : Nat) : Int) = some x from lat_at hx, Option.bind_some, (printer_Index hsm).2, Option.bind_some]
      simp only [List.take_zero, joinT, List.append_nil]
      rw [lapp_ok (by omega), Option.bind_some]; rfl
    | succ i =>
      rw [if_pos (by simp), if_neg (take_ne (by rw [List.length_map]; exact h)), lapp_ok (by simp only [List.length_append, List.length_cons, List.length_nil]; omega), Option.bind_some]
      unfold m_ref15_text_j2
      rw [lat_at hx, Option.bind_some, (printer_Index hsm).2, Option.bind_some, lapp_ok (by simp only [List.length_append, List.length_cons, List.length_nil]; omega), Option.bind_some, wis (by omega)]
      simp only [List.append_assoc]
  · rintro f s rfl
    have h1 := joinT_len (e.Idx.map ixT)
    simp only [m_ref15_text_l1]
    rw [if_neg (by simp), show e.Idx.length = (e.Idx.map ixT).length by rw [List.length_map], List.take_length, lapp_ok (by simp only [List.length_append, List.length_cons, List.length_nil]; omega), Option.bind_some]
    simp
theorem idx_list {e : GExpr} (hi : ∀ x ∈ e.Idx, smI x) (hn : e.Idx.length ≤ 300) (hl : lenJ (e.Idx.map ixT) ≤ 3000000) : m_printer_list (e.Idx.length : Int) (m_printer_indices_item e.Idx) = some (joinT (e.Idx.map ixT)) := by
  rw [show (e.Idx.length : Int) = ((e.Idx.map ixT).length : Int) by rw [List.length_map]]
  refine list_ok (e.Idx.map ixT) (by rw [List.length_map]; omega) (fun i t ht => ?_) (by omega)
  obtain ⟨x, hx, rfl⟩ := map_at ht
  unfold m_printer_indices_item
  rw [lat_at hx, Option.bind_some, (printer_Index (hi x (List.mem_of_getElem? hx))).1]; rfl
set_option maxHeartbeats 1000000 in
theorem text_ok {f : Nat} : ∀ {e : GExpr}, okGExpr e → eErr e = 0 → wE e ≤ 300 → wE e < f →
    (∀ w : List UInt8, w.length + 100 * wE e ≤ 4000000000 → m_printer_writer_expr_w_r f w e = some ((), w ++ exT e)) ∧ m_ref15_text_r f e = some (exT e) := by
  induction f with
  | zero => intro e _ _ _ h; omega
  | succ f ih =>
    intro e ho he h300 hf
    obtain ⟨hn, hz⟩ := eErr_zero he
    obtain ⟨p1, p2, p3, p4, p5⟩ := nodeErr_zero hn
    obtain ⟨o1, o2, o3⟩ := ho.out
    obtain ⟨hv1, hv2, hv3⟩ := valT_ok e.Type_ (VaR.of (okGExpr_iff.1 ho).2.2.1)
    have hwe := wE_eq e
    have ht := tyT_len e.Type_
    have hLn := linT_len o1.r
    have hrec : ∀ a ∈ e.Args, Wr (m_printer_writer_expr_w_r f) a ∧ m_ref15_text_r f a = some (exT a) ∧ (exT a).length ≤ 100 * wE a ∧ wE a ≤ 300 := fun a hm => by
      have := wE_arg hm
      obtain ⟨q1, q2⟩ := ih (o3.1 a hm) (hz a hm) (by omega) (by omega)
      exact ⟨q1, q2, exT_len (wE a + 1) a (by omega) (o3.1 a hm) (hz a hm), by omega⟩
    have hT := type_ok e.Type_
    have hF := lin_Format o1.r.1 o1.r.2 (by omega)
    have hR := ref05_Format o1.r.1 o1.r.2 (by omega)
    have hlen : (e.Args.length : Int) = opsN e.Op := by
      unfold rankN at p3
      simp only [Bool.and_eq_true, decide_eq_true_eq] at p3
      exact p3.1.1
    have hal : e.Args.length ≤ 3 := by
      unfold opsN at hlen
      split at hlen
      · omega
      · split at hlen
        · omega
        · split at hlen <;> omega
    have hop : 1 ≤ e.Op ∧ e.Op ≤ 18 := by
      unfold plainN at p1
      simp only [Bool.and_eq_true, decide_eq_true_eq] at p1
      exact ⟨p1.1.1.1.1.1.1, p1.1.1.1.1.1.2⟩
    have hcall : ∀ (nm first w : List UInt8), nm.length ≤ 4 → first.length ≤ 60 → w.length + 100 * wE e ≤ 4000000000 → m_printer_writer_call_w (m_printer_writer_expr_w_r f) w nm first e.Args = some ((), w ++ (nm ++ ([40] ++ (joinT (if first = [] then e.Args.map exT else first :: e.Args.map exT) ++ [41])))) := fun nm first w h1 h2 h3 =>
      call_w (fun a hm => (hrec a hm).1) (fun a hm => (hrec a hm).2.2.1) hal h1 h2 (by omega)
    have hpr := (prec_ok e.Op).1
    have hlv := (prec_ok e.Op).2
    show (∀ w : List UInt8, w.length + 100 * wE e ≤ 4000000000 → m_printer_writer_expr_w_b (m_printer_writer_expr_w_r f) w e = some ((), w ++ exT e)) ∧ m_ref15_text_b (m_ref15_text_r f) e = some (exT e)
    unfold m_printer_writer_expr_w_b m_ref15_text_b
    rw [hpr, hlv, sign_ok, exT_eq]
    simp only [Option.bind_some]
    unfold exB
    have hsn : ∀ n : Int, e.Op = n → symT n = [] → symT e.Op = [] := fun n h1 h2 => by rw [h1]; exact h2
    have hidx : 60 * (e.Idx.map wI).sum + 62 * e.Idx.length ≥ lenJ (e.Idx.map ixT) := by
      unfold lenJ
      rw [List.map_map, ← sum_lin]
      exact sum_map_le fun x hx => by have := ixT_len2 (o2.1 x hx); simp only [Function.comp]; omega
    have hsmI : ∀ x ∈ e.Idx, smI x := fun x hx => ⟨o2.1 x hx, by have := le_sum_of (List.mem_map_of_mem (f := wI) hx); omega⟩
    by_cases h1 : e.Op = 1
    · have hs : symT e.Op = [] := by rw [h1]; rfl
      rw [hs]
      simp only [h1, decide_true, if_true, hT.1, hT.2, hv1, hv2, Option.bind_some, Bool.not_true, Bool.false_eq_true, if_false]
      refine ⟨fun w hw => ?_, ?_⟩
      · rw [lapp_ok (by simp only [List.length_cons, List.length_nil]; omega), Option.bind_some, lapp_ok (by simp only [List.length_append, List.length_cons, List.length_nil]; omega), Option.bind_some, lapp_ok (by simp only [List.length_append, List.length_cons, List.length_nil]; omega), Option.bind_some, lapp_ok (by simp only [List.length_append, List.length_cons, List.length_nil]; omega), Option.bind_some]
        simp
      · rw [lapp_ok (by simp only [List.length_cons, List.length_nil]; omega), Option.bind_some, lapp_ok (by simp only [List.length_append, List.length_cons, List.length_nil]; omega), Option.bind_some, lapp_ok (by simp only [List.length_append, List.length_cons, List.length_nil]; omega), Option.bind_some]
        simp
    simp only [h1, decide_false, Bool.false_eq_true, if_false]
    by_cases h2 : e.Op = 2
    · have hs : symT e.Op = [] := by rw [h2]; rfl
      rw [hs]
      simp only [h2, decide_true, if_true, hF, hR, Option.bind_some, Bool.not_true, Bool.false_eq_true, if_false]
      refine ⟨fun w hw => ?_, ?_⟩
      · rw [lapp_ok (by simp only [List.length_cons, List.length_nil]; omega), Option.bind_some, lapp_ok (by simp only [List.length_append, List.length_cons, List.length_nil]; omega), Option.bind_some, lapp_ok (by simp only [List.length_append, List.length_cons, List.length_nil]; omega), Option.bind_some]
        simp
      · rw [lapp_ok (by simp only [List.length_cons, List.length_nil]; omega), Option.bind_some, lapp_ok (by simp only [List.length_append, List.length_cons, List.length_nil]; omega), Option.bind_some]
        simp
    simp only [h2, decide_false, Bool.false_eq_true, if_false]
    by_cases h3 : e.Op = 3
    · have hs : symT e.Op = [] := by rw [h3]; rfl
      have hnm : e.Name.length ≤ 16 := by
        unfold namedN at p2
        simp only [h3, decide_true, Bool.not_true, Bool.false_or, Bool.and_eq_true] at p2
        exact (nameB_len p2.1).2
      have hjx := joinT_len (e.Idx.map ixT)
      rw [hs]
      simp only [h3, decide_true, if_true, Bool.not_true, Bool.false_eq_true, if_false]
      refine ⟨fun w hw => ?_, ?_⟩
      · rw [idx_list hsmI (by omega) (by omega)]
        simp (disch := (simp only [List.length_append, List.length_cons, List.length_nil]; omega)) only [lapp_ok, Option.bind_some]
        simp
      · simp (disch := (simp only [List.length_append, List.length_cons, List.length_nil]; omega)) only [lapp_ok, Option.bind_some]
        rw [text_l1 hsmI (by omega) (by omega) (by simp only [List.length_append, List.length_cons, List.length_nil]; omega)]
        simp
    simp only [h3, decide_false, Bool.false_eq_true, if_false]
    by_cases h8 : e.Op = 8
    · have hs : symT e.Op = [] := by rw [h8]; rfl
      have hl1 : e.Args.length = 1 := by rw [h8] at hlen; have : opsN 8 = 1 := rfl; omega
      obtain ⟨a, ha⟩ := List.length_eq_one_iff.1 hl1
      obtain ⟨q1, q2, q3, q4⟩ := hrec a (by rw [ha]; simp)
      have hwa := wE_arg (e := e) (a := a) (by rw [ha]; simp)
      have hol := opd_len a (exT a) 7
      have hlv8 : lvl 8 = 7 := rfl
      rw [hs, ha]
      simp only [h8, hlv8, decide_true, if_true, Bool.not_true, Bool.false_eq_true, if_false, show lat [a] 0 = some a from rfl, Option.bind_some]
      refine ⟨fun w hw => ?_, ?_⟩
      · simp (disch := (simp only [List.length_append, List.length_cons, List.length_nil]; omega)) only [lapp_ok, Option.bind_some]
        rw [operand_w 7 q1 q3 (by simp only [List.length_append, List.length_cons, List.length_nil]; omega), Option.bind_some]
        simp
      · rw [operand_r 7 q2 q3 (by omega), Option.bind_some]
        simp (disch := (simp only [List.length_append, List.length_cons, List.length_nil]; omega)) only [lapp_ok, Option.bind_some]
        simp
    simp only [h8, decide_false, Bool.false_eq_true, if_false]
    by_cases h18 : e.Op = 18
    · have hs : symT e.Op = [] := by rw [h18]; rfl
      have hl1 : e.Args.length = 1 := by rw [h18] at hlen; have : opsN 18 = 1 := rfl; omega
      obtain ⟨a, ha⟩ := List.length_eq_one_iff.1 hl1
      obtain ⟨q1, q2, q3, q4⟩ := hrec a (by rw [ha]; simp)
      have hwa := wE_arg (e := e) (a := a) (by rw [ha]; simp)
      have hol := opd_len a (exT a) 3
      have hlv8 : lvl 18 = 3 := rfl
      rw [hs, ha]
      simp only [h18, hlv8, decide_true, if_true, Bool.not_true, Bool.false_eq_true, if_false, show lat [a] 0 = some a from rfl, Option.bind_some]
      refine ⟨fun w hw => ?_, ?_⟩
      · simp (disch := (simp only [List.length_append, List.length_cons, List.length_nil]; omega)) only [lapp_ok, Option.bind_some]
        rw [operand_w 3 q1 q3 (by simp only [List.length_append, List.length_cons, List.length_nil]; omega), Option.bind_some]
        simp
      · rw [operand_r 3 q2 q3 (by omega), Option.bind_some]
        simp (disch := (simp only [List.length_append, List.length_cons, List.length_nil]; omega)) only [lapp_ok, Option.bind_some]
        simp
    simp only [h18, decide_false, Bool.false_eq_true, if_false]
    by_cases h9 : e.Op = 9
    · have hs : symT e.Op = [] := by rw [h9]; rfl
      have hl : e.Args.length = 2 := by rw [h9] at hlen; have : opsN 9 = 2 := rfl; omega
      have hc := hcall [109, 105, 110] []
      rw [hs]
      simp only [h9, decide_true, if_true, Bool.not_true, Bool.false_eq_true, if_false] at hc ⊢
      refine ⟨fun w hw => ?_, ?_⟩
      · rw [hc w (by simp) (by simp) hw, Option.bind_some]
      · obtain ⟨a, b, ha⟩ := len2 hl
        obtain ⟨_, q0, l0, m0⟩ := hrec a (by rw [ha]; simp)
        obtain ⟨_, q1, l1, m1⟩ := hrec b (by rw [ha]; simp)
        rw [ha]
        simp only [show lat [a, b] 0 = some a from rfl, show lat [a, b] 1 = some b from rfl, Option.bind_some]
        rw [q0, Option.bind_some]
        simp (disch := (simp only [List.length_append, List.length_cons, List.length_nil]; omega)) only [lapp_ok, Option.bind_some]
        rw [q1, Option.bind_some]
        simp (disch := (simp only [List.length_append, List.length_cons, List.length_nil]; omega)) only [lapp_ok, Option.bind_some]
        simp [joinT]
    simp only [h9, decide_false, Bool.false_eq_true, if_false]
    by_cases h10 : e.Op = 10
    · have hs : symT e.Op = [] := by rw [h10]; rfl
      have hl : e.Args.length = 2 := by rw [h10] at hlen; have : opsN 10 = 2 := rfl; omega
      have hc := hcall [109, 97, 120] []
      rw [hs]
      simp only [h10, decide_true, if_true, Bool.not_true, Bool.false_eq_true, if_false] at hc ⊢
      refine ⟨fun w hw => ?_, ?_⟩
      · rw [hc w (by simp) (by simp) hw, Option.bind_some]
      · obtain ⟨a, b, ha⟩ := len2 hl
        obtain ⟨_, q0, l0, m0⟩ := hrec a (by rw [ha]; simp)
        obtain ⟨_, q1, l1, m1⟩ := hrec b (by rw [ha]; simp)
        rw [ha]
        simp only [show lat [a, b] 0 = some a from rfl, show lat [a, b] 1 = some b from rfl, Option.bind_some]
        rw [q0, Option.bind_some]
        simp (disch := (simp only [List.length_append, List.length_cons, List.length_nil]; omega)) only [lapp_ok, Option.bind_some]
        rw [q1, Option.bind_some]
        simp (disch := (simp only [List.length_append, List.length_cons, List.length_nil]; omega)) only [lapp_ok, Option.bind_some]
        simp [joinT]
    simp only [h10, decide_false, Bool.false_eq_true, if_false]
    by_cases h11 : e.Op = 11
    · have hs : symT e.Op = [] := by rw [h11]; rfl
      have hl : e.Args.length = 3 := by rw [h11] at hlen; have : opsN 11 = 3 := rfl; omega
      have hc := hcall [105, 102] []
      rw [hs]
      simp only [h11, decide_true, if_true, Bool.not_true, Bool.false_eq_true, if_false] at hc ⊢
      refine ⟨fun w hw => ?_, ?_⟩
      · rw [hc w (by simp) (by simp) hw, Option.bind_some]
      · obtain ⟨a, b, c, ha⟩ := len3 hl
        obtain ⟨_, q0, l0, m0⟩ := hrec a (by rw [ha]; simp)
        obtain ⟨_, q1, l1, m1⟩ := hrec b (by rw [ha]; simp)
        obtain ⟨_, q2, l2, m2⟩ := hrec c (by rw [ha]; simp)
        rw [ha]
        simp only [show lat [a, b, c] 0 = some a from rfl, show lat [a, b, c] 1 = some b from rfl, show lat [a, b, c] 2 = some c from rfl, Option.bind_some]
        rw [q0, Option.bind_some]
        simp (disch := (simp only [List.length_append, List.length_cons, List.length_nil]; omega)) only [lapp_ok, Option.bind_some]
        rw [q1, Option.bind_some]
        simp (disch := (simp only [List.length_append, List.length_cons, List.length_nil]; omega)) only [lapp_ok, Option.bind_some]
        rw [q2, Option.bind_some]
        simp (disch := (simp only [List.length_append, List.length_cons, List.length_nil]; omega)) only [lapp_ok, Option.bind_some]
        simp [joinT]
    simp only [h11, decide_false, Bool.false_eq_true, if_false]
    by_cases h12 : e.Op = 12
    · have hs : symT e.Op = [] := by rw [h12]; rfl
      have hl : e.Args.length = 1 := by rw [h12] at hlen; have : opsN 12 = 1 := rfl; omega
      have htn : tyT e.Type_ ≠ [] := by
        unfold typeN at p4
        rw [Bool.and_eq_true] at p4
        have hty : tyB e.Type_ = true := by simpa [h12] using p4.1
        unfold tyT
        rw [if_pos hty]
        repeat' split
        all_goals simp
      have hc := hcall [99, 97, 115, 116] (tyT e.Type_)
      rw [hs]
      simp only [h12, decide_true, if_true, Bool.not_true, Bool.false_eq_true, if_false, hT.1, Option.bind_some, if_neg htn] at hc ⊢
      refine ⟨fun w hw => ?_, ?_⟩
      · rw [hc w (by simp) (by omega) hw, Option.bind_some]
      · obtain ⟨a, ha⟩ := List.length_eq_one_iff.1 hl
        obtain ⟨_, q0, l0, m0⟩ := hrec a (by rw [ha]; simp)
        unfold m_ref15_text_j1
        rw [ha]
        simp only [show lat [a] 0 = some a from rfl, Option.bind_some, hT.2]
        simp (disch := (simp only [List.length_append, List.length_cons, List.length_nil]; omega)) only [lapp_ok, Option.bind_some]
        rw [q0, Option.bind_some]
        simp (disch := (simp only [List.length_append, List.length_cons, List.length_nil]; omega)) only [lapp_ok, Option.bind_some]
        simp [joinT]
    simp only [h12, decide_false, Bool.false_eq_true, if_false]
    have hs : symT e.Op ≠ [] := by
      unfold symT
      repeat' split
      all_goals first | simp | skip
      exfalso; omega
    have hl2 : e.Args.length = 2 := by
      unfold opsN at hlen
      rw [if_neg (by simp [h1, h2, h3]), if_neg (by simp [h8, h12, h18]), if_neg h11] at hlen; omega
    obtain ⟨a, b, ha⟩ := len2 hl2
    obtain ⟨q1, q2, q3, q4⟩ := hrec a (by rw [ha]; simp)
    obtain ⟨t1, t2, t3, t4⟩ := hrec b (by rw [ha]; simp)
    have hsl := symT_len e.Op
    have hwa : wE e ≥ 1 + wE a + wE b := by rw [hwe, ha, List.map_cons, List.map_cons, List.sum_cons, List.sum_cons]; omega
    have hlb : 1 ≤ lvl e.Op ∧ lvl e.Op ≤ 8 := by unfold lvl; repeat' split
                                                 all_goals omega
    have ho1 := opd_len a (exT a) (lvl e.Op)
    have ho2 := opd_len b (exT b) (lvl e.Op + 1)
    rw [ha, if_neg hs]
    simp only [show lat [a, b] 0 = some a from rfl, show lat [a, b] 1 = some b from rfl, Option.bind_some, symbol_ok, show wi64 (lvl e.Op + 1) = lvl e.Op + 1 from wr_i64 ⟨by omega, by omega⟩]
    refine ⟨fun w hw => ?_, ?_⟩
    · rw [operand_w (lvl e.Op) q1 q3 (by omega), Option.bind_some]
      simp only []
      simp (disch := (simp only [List.length_append, List.length_cons, List.length_nil]; omega)) only [lapp_ok, Option.bind_some]
      rw [operand_w (lvl e.Op + 1) t1 t3 (by simp only [List.length_append, List.length_cons, List.length_nil]; omega), Option.bind_some]
      simp
    · rw [if_pos (by simp), operand_r (lvl e.Op) q2 q3 (by omega), Option.bind_some]
      simp (disch := (simp only [List.length_append, List.length_cons, List.length_nil]; omega)) only [lapp_ok, Option.bind_some]
      rw [operand_r (lvl e.Op + 1) t2 t3 (by omega), Option.bind_some]
      simp (disch := (simp only [List.length_append, List.length_cons, List.length_nil]; omega)) only [lapp_ok, Option.bind_some]
      simp
theorem vE_zero {e : GExpr} (h : vE e = 0) : eErr e = 0 := by
  unfold vE at h
  repeat' split at h
  all_goals simp_all
theorem exprs_ok {e : GExpr} (ho : okGExpr e) (h300 : wE e ≤ 300) : m_printer_Expr e = some (if vE e = 0 then exT e else []) ∧ m_ref15_Expr e = some (if vE e = 0 then exT e else []) := by
  obtain ⟨v1, v2⟩ := validate_ok ho h300
  unfold m_printer_Expr m_ref15_Expr
  rw [v1, v2, Option.bind_some, Option.bind_some]
  by_cases hv : vE e = 0
  · obtain ⟨q1, q2⟩ := text_ok (f := fu) ho (vE_zero hv) h300 (by unfold fu; omega)
    simp only [hv, decide_true, Bool.not_true, Bool.false_eq_true, if_false, if_true]
    unfold m_printer_writer_expr_w m_ref15_text
    rw [q1 _ (by simp; omega), q2]
    exact ⟨rfl, rfl⟩
  · simp [hv]
end Go.Proofs.YtebpdmfmknfkjaaGreatDoor
