/- What each function's text asks: printed by a program of my own from the loaded text; Lean checks it. -/
import Derived.Test.YtndiieicjjifkaaDoorProg
import Derived.Test.YtndiieicjjifkaaDoorVcBld
import Derived.Test.YtndiieicjjifkaaDoorFns
namespace Go.Proofs.YtndiieicjjifkaaDoor
open Go Go.RowKit Go.Vc
set_option linter.unusedVariables false
set_option linter.unusedSimpArgs false
theorem info_5 : Info Tryd.prog 5 1 1 (Value.int .u8 0) := info_mk (by kernel_rfl) rfl
theorem ok_7 : FnOK Tryd.prog 7 := ⟨_, Tryd.func7, by kernel_rfl, by kernel_rfl⟩
/- 'brocade/brocadelaw13.LexerLongWords': what is enough. -/
set_option maxRecDepth 100000 in
set_option maxHeartbeats 4000000 in
theorem vc7 (n1 : Int) (first1 : Int) (other1 : Int) (w0 : World) (R : Value → World → Prop)
    (h : (R64 n1) ∧ (R64 (1 + (n1.tmod 300))) ∧ (RU8 (97 + (first1.tmod 26))) ∧ ((0 : Int) ≤ 97 + (first1.tmod 26) ∧ 97 + (first1.tmod 26) ≤ 255) ∧ (RU8 (48 + (first1.tmod 10))) ∧ ((0 : Int) ≤ 48 + (first1.tmod 10) ∧ 48 + (first1.tmod 10) ≤ 255) ∧ ∀ (w2 : World), Ext w0 w2 → ∃ (inv1 : List UInt8 → List UInt8 → Int → World → Prop) (mu1 : List UInt8 → List UInt8 → Int → Nat), inv1 ([UInt8.ofNat (Int.toNat (97 + (first1.tmod 26)))]) ([UInt8.ofNat (Int.toNat (48 + (first1.tmod 10)))]) 1 w2 ∧ (∀ (word1 : List UInt8) (number1 : List UInt8) (i1 : Int) (w3 : World), Ext w0 w3 → inv1 word1 number1 i1 w3 → (((decide (i1 < 1 + (n1.tmod 300))) = true → ((0 : Int) ≤ other1.tmod 7 ∧ other1.tmod 7 < (([97, 98, 122, 48, 49, 57, 95] : List UInt8).length : Int)) ∧ ((0 : Int) ≤ at8 ([97, 98, 122, 48, 49, 57, 95] : List UInt8) (Int.toNat (other1.tmod 7)) ∧ at8 ([97, 98, 122, 48, 49, 57, 95] : List UInt8) (Int.toNat (other1.tmod 7)) ≤ 255) ∧ (word1.length + ([UInt8.ofNat (Int.toNat (at8 ([97, 98, 122, 48, 49, 57, 95] : List UInt8) (Int.toNat (other1.tmod 7))))]).length ≤ 9223372036854775807) ∧ (RU8 (48 + (other1.tmod 10))) ∧ ((0 : Int) ≤ 48 + (other1.tmod 10) ∧ 48 + (other1.tmod 10) ≤ 255) ∧ (number1.length + ([UInt8.ofNat (Int.toNat (48 + (other1.tmod 10)))]).length ≤ 9223372036854775807) ∧ (R64 (i1 + 1)) ∧ ∀ (w5 : World), Ext w3 w5 → (inv1 (word1 ++ ([UInt8.ofNat (Int.toNat (at8 ([97, 98, 122, 48, 49, 57, 95] : List UInt8) (Int.toNat (other1.tmod 7))))])) (number1 ++ ([UInt8.ofNat (Int.toNat (48 + (other1.tmod 10)))])) (i1 + 1) w5 ∧ mu1 (word1 ++ ([UInt8.ofNat (Int.toNat (at8 ([97, 98, 122, 48, 49, 57, 95] : List UInt8) (Int.toNat (other1.tmod 7))))])) (number1 ++ ([UInt8.ofNat (Int.toNat (48 + (other1.tmod 10)))])) (i1 + 1) < mu1 word1 number1 i1)) ∧ ((decide (i1 < 1 + (n1.tmod 300))) = false → (([32, 32] : List UInt8).length + word1.length ≤ 9223372036854775807) ∧ Calls Tryd.prog 9 #[(str (([32, 32] : List UInt8) ++ word1))] w3 (fun e w6 => ∃ (r1A : Option Addr) (r1n : Nat) (r1c : Nat) (r2 : Int) (r3 : Int), e = .returned (Value.tuple #[(Value.slice r1A r1n r1c), (Value.int .i64 r2), (Value.int .i64 r3)]) ∧ Ext w3 w6 ∧ Calls Tryd.prog 9 #[(str number1)] w6 (fun e w7 => ∃ (r4A : Option Addr) (r4n : Nat) (r4c : Nat) (r5 : Int) (r6 : Int), e = .returned (Value.tuple #[(Value.slice r4A r4n r4c), (Value.int .i64 r5), (Value.int .i64 r6)]) ∧ Ext w6 w7 ∧ ((!(((!decide (r6 = 0)) || (!decide (r5 = 0))) || (!decide ((r4n : Int) = 1)))) = true → (0 : Int) ≤ 0 ∧ 0 < (r4n : Int)) ∧ ∃ (ad1 : Addr), ((!(((!decide (r6 = 0)) || (!decide (r5 = 0))) || (!decide ((r4n : Int) = 1)))) = true → r4A = some ad1) ∧ ∃ (exa1 : Int) (exb1 : Int) (exc1 : List UInt8), ((!(((!decide (r6 = 0)) || (!decide (r5 = 0))) || (!decide ((r4n : Int) = 1)))) = true → CellsAt w7 (ad1.add (Int.toNat 0 * 3)) [(Value.int .i64 exa1), (Value.int .i64 exb1), (str exc1)]) ∧ ((((((!decide (r6 = 0)) || (!decide (r5 = 0))) || (!decide ((r4n : Int) = 1))) || (!((decide (exa1 = 2)) && (decide (exb1 = 0)) && (decide (exc1 = number1))))) = true → R (Value.bool false) w7) ∧ (((((!decide (r6 = 0)) || (!decide (r5 = 0))) || (!decide ((r4n : Int) = 1))) || (!((decide (exa1 = 2)) && (decide (exb1 = 0)) && (decide (exc1 = number1))))) = false → (((decide (16 < 1 + (n1.tmod 300))) = true → ∃ q1 : Bool → World → Prop, ((((decide ((r1n : Int) = 0)) && (decide (r2 = 2))) && (decide (r3 = 2))) = true → Calls Tryd.prog 14 #[(str word1)] w7 (fun e w8 => ∃ (r7 : Bool), e = .returned (Value.bool r7) ∧ Ext w7 w8 ∧ q1 r7 w8)) ∧ (∀ (r7 : Bool) (w8 : World), Ext w7 w8 → ((((decide ((r1n : Int) = 0)) && (decide (r2 = 2))) && (decide (r3 = 2))) = true → q1 r7 w8) → ∃ q2 : Bool → World → Prop, (((((decide ((r1n : Int) = 0)) && (decide (r2 = 2))) && (decide (r3 = 2))) && (!r7)) = true → Calls Tryd.prog 8 #[] w8 (fun e w9 => ∃ (r8 : Bool), e = .returned (Value.bool r8) ∧ Ext w8 w9 ∧ q2 r8 w9)) ∧ (∀ (r8 : Bool) (w9 : World), Ext w8 w9 → (((((decide ((r1n : Int) = 0)) && (decide (r2 = 2))) && (decide (r3 = 2))) && (!r7)) = true → q2 r8 w9) → R (Value.bool (((((decide ((r1n : Int) = 0)) && (decide (r2 = 2))) && (decide (r3 = 2))) && (!r7)) && r8)) w9))) ∧ ((decide (16 < 1 + (n1.tmod 300))) = false → ((((decide (r3 = 0)) && (decide (r2 = 0))) && (decide ((r1n : Int) = 1))) = true → (0 : Int) ≤ 0 ∧ 0 < (r1n : Int)) ∧ ∃ (ad2 : Addr), ((((decide (r3 = 0)) && (decide (r2 = 0))) && (decide ((r1n : Int) = 1))) = true → r1A = some ad2) ∧ ∃ (exa2 : Int) (exb2 : Int) (exc2 : List UInt8), ((((decide (r3 = 0)) && (decide (r2 = 0))) && (decide ((r1n : Int) = 1))) = true → CellsAt w7 (ad2.add (Int.toNat 0 * 3)) [(Value.int .i64 exa2), (Value.int .i64 exb2), (str exc2)]) ∧ ∃ q3 : Bool → World → Prop, (((((decide (r3 = 0)) && (decide (r2 = 0))) && (decide ((r1n : Int) = 1))) && ((decide (exa2 = 1)) && (decide (exb2 = 2)) && (decide (exc2 = word1)))) = true → Calls Tryd.prog 14 #[(str word1)] w7 (fun e w10 => ∃ (r9 : Bool), e = .returned (Value.bool r9) ∧ Ext w7 w10 ∧ q3 r9 w10)) ∧ (∀ (r9 : Bool) (w10 : World), Ext w7 w10 → (((((decide (r3 = 0)) && (decide (r2 = 0))) && (decide ((r1n : Int) = 1))) && ((decide (exa2 = 1)) && (decide (exb2 = 2)) && (decide (exc2 = word1)))) = true → q3 r9 w10) → ∃ q4 : Bool → World → Prop, (((((decide (r3 = 0)) && (decide (r2 = 0))) && (decide ((r1n : Int) = 1))) && ((decide (exa2 = 1)) && (decide (exb2 = 2)) && (decide (exc2 = word1)))) = true → Calls Tryd.prog 16 #[(str word1)] w10 (fun e w11 => ∃ (r10 : Bool), e = .returned (Value.bool r10) ∧ Ext w10 w11 ∧ q4 r10 w11)) ∧ (∀ (r10 : Bool) (w11 : World), Ext w10 w11 → (((((decide (r3 = 0)) && (decide (r2 = 0))) && (decide ((r1n : Int) = 1))) && ((decide (exa2 = 1)) && (decide (exb2 = 2)) && (decide (exc2 = word1)))) = true → q4 r10 w11) → ∃ q5 : Bool → World → Prop, ((((((decide (r3 = 0)) && (decide (r2 = 0))) && (decide ((r1n : Int) = 1))) && ((decide (exa2 = 1)) && (decide (exb2 = 2)) && (decide (exc2 = word1)))) && (r9 != r10)) = true → Calls Tryd.prog 8 #[] w11 (fun e w12 => ∃ (r11 : Bool), e = .returned (Value.bool r11) ∧ Ext w11 w12 ∧ q5 r11 w12)) ∧ (∀ (r11 : Bool) (w12 : World), Ext w11 w12 → ((((((decide (r3 = 0)) && (decide (r2 = 0))) && (decide ((r1n : Int) = 1))) && ((decide (exa2 = 1)) && (decide (exb2 = 2)) && (decide (exc2 = word1)))) && (r9 != r10)) = true → q5 r11 w12) → R (Value.bool ((((((decide (r3 = 0)) && (decide (r2 = 0))) && (decide ((r1n : Int) = 1))) && ((decide (exa2 = 1)) && (decide (exb2 = 2)) && (decide (exc2 = word1)))) && (r9 != r10)) && r11)) w12))))))))))))) :
    Calls Tryd.prog 7 #[(Value.int .u16 n1), (Value.int .u8 first1), (Value.int .u8 other1)] w0 fun e w' => ∃ v, e = .returned v ∧ R v w' := by
  refine enter (l := [(Value.int .u16 n1), (Value.int .u8 first1), (Value.int .u8 other1)]) Tryd.func7 rfl Tryd.ntmps7 rfl ?_
  refine c_seq ?_
  refine c_region ?_
  refine s_q rfl rfl (y_assign rfl ev_const) ?_
  refine s_nil ?_
  refine k_next (e := [(0, (Value.int .u16 n1)), (1, (Value.int .u8 first1)), (2, (Value.int .u8 other1))]) ⟨rfl, rfl, rfl, trivial⟩ ?_
  refine c_seq ?_
  refine c_region ?_
  refine s_q rfl rfl (y_move rfl (ev_tmp rfl rfl)) ?_
  obtain ⟨ho1, h⟩ := h
  refine s_q rfl rfl (y_int (y_conv rfl (by rw [Tryd.underlying34]; rfl) Tryd.underlying3 (ev_tmp rfl rfl)) (wr_i64 ho1)) ?_
  refine s_q rfl rfl (y_rem rfl (ev_tmp rfl rfl) ev_const (by decide)) ?_
  obtain ⟨ho2, h⟩ := h
  refine s_q rfl rfl (y_int (y_add rfl ev_const (ev_tmp rfl rfl)) (wr_i64 ho2)) ?_
  refine s_q rfl rfl (y_assign rfl (ev_tmp rfl rfl)) ?_
  refine s_nil ?_
  refine k_next (e := [(1, (Value.int .u8 first1)), (2, (Value.int .u8 other1)), (7, (Value.int .i64 (1 + (n1.tmod 300))))]) ⟨rfl, rfl, rfl, trivial⟩ ?_
  refine c_seq ?_
  refine c_region ?_
  refine s_q rfl rfl (y_move rfl (ev_tmp rfl rfl)) ?_
  refine s_q rfl rfl (y_rem rfl (ev_tmp rfl rfl) ev_const (by decide)) ?_
  obtain ⟨ho3, h⟩ := h
  refine s_q rfl rfl (y_int (y_add rfl ev_const (ev_tmp rfl rfl)) (wr_u8 ho3)) ?_
  refine s_buildSlice (vs := [(0, (Value.int .u8 (97 + (first1.tmod 26))))]) (cs := #[(Value.int .u8 (97 + (first1.tmod 26)))]) rfl rfl rfl Tryd.underlying35 info_5 rfl ⟨rfl, (ev_tmp rfl rfl), trivial⟩ (by kernel_rfl) ?_
  intro b1 w1 hb1 hs1 hx1 hB1
  have hS1 : Stp noM w0 noM w1 := Stp.step Stp.start hx1
  obtain ⟨ho4, h⟩ := h
  refine s_q rfl rfl (y_bstr (l := [UInt8.ofNat (Int.toNat (97 + (first1.tmod 26)))]) rfl Tryd.underlying35 Tryd.underlying5 Tryd.underlying9 (ev_tmp rfl rfl) (by show CellsAt _ _ [Value.int .u8 ((UInt8.ofNat (Int.toNat (97 + (first1.tmod 26)))).toNat : Nat)]; rw [b8 ho4]; exact CellsAt.of_blk hB1 rfl) rfl) ?_
  refine s_q rfl rfl (y_assign rfl (ev_tmp rfl rfl)) ?_
  refine s_nil ?_
  refine k_next (e := [(1, (Value.int .u8 first1)), (2, (Value.int .u8 other1)), (7, (Value.int .i64 (1 + (n1.tmod 300)))), (8, (str ([UInt8.ofNat (Int.toNat (97 + (first1.tmod 26)))])))]) ⟨rfl, rfl, rfl, rfl, trivial⟩ ?_
  refine c_seq ?_
  refine c_region ?_
  refine s_q rfl rfl (y_move rfl (ev_tmp rfl rfl)) ?_
  refine s_q rfl rfl (y_rem rfl (ev_tmp rfl rfl) ev_const (by decide)) ?_
  obtain ⟨ho5, h⟩ := h
  refine s_q rfl rfl (y_int (y_add rfl ev_const (ev_tmp rfl rfl)) (wr_u8 ho5)) ?_
  refine s_buildSlice (vs := [(0, (Value.int .u8 (48 + (first1.tmod 10))))]) (cs := #[(Value.int .u8 (48 + (first1.tmod 10)))]) rfl rfl rfl Tryd.underlying35 info_5 rfl ⟨rfl, (ev_tmp rfl rfl), trivial⟩ (by kernel_rfl) ?_
  intro b2 w2 hb2 hs2 hx2 hB2
  have hn1 : b1 ≠ b2 := by have := hB1.lt; omega
  have hS2 : Stp noM w0 noM w2 := Stp.step hS1 hx2
  have hB3 := hB1.ext hx2
  obtain ⟨ho6, h⟩ := h
  refine s_q rfl rfl (y_bstr (l := [UInt8.ofNat (Int.toNat (48 + (first1.tmod 10)))]) rfl Tryd.underlying35 Tryd.underlying5 Tryd.underlying9 (ev_tmp rfl rfl) (by show CellsAt _ _ [Value.int .u8 ((UInt8.ofNat (Int.toNat (48 + (first1.tmod 10)))).toNat : Nat)]; rw [b8 ho6]; exact CellsAt.of_blk hB2 rfl) rfl) ?_
  refine s_q rfl rfl (y_assign rfl (ev_tmp rfl rfl)) ?_
  refine s_nil ?_
  refine k_next (e := [(2, (Value.int .u8 other1)), (7, (Value.int .i64 (1 + (n1.tmod 300)))), (8, (str ([UInt8.ofNat (Int.toNat (97 + (first1.tmod 26)))]))), (9, (str ([UInt8.ofNat (Int.toNat (48 + (first1.tmod 10)))])))]) ⟨rfl, rfl, rfl, rfl, trivial⟩ ?_
  refine c_seq ?_
  refine c_seq ?_
  refine c_region ?_
  refine s_q rfl rfl (y_assign rfl ev_const) ?_
  refine s_nil ?_
  refine k_next (e := [(2, (Value.int .u8 other1)), (7, (Value.int .i64 (1 + (n1.tmod 300)))), (8, (str ([UInt8.ofNat (Int.toNat (97 + (first1.tmod 26)))]))), (9, (str ([UInt8.ofNat (Int.toNat (48 + (first1.tmod 10)))]))), (10, (Value.int .i64 1))]) ⟨rfl, rfl, rfl, rfl, rfl, trivial⟩ ?_
  refine c_block ?_
  replace h := h w2 (Stp.ext0 hS2)
  obtain ⟨inv1, mu1, h0, h⟩ := h
  refine c_loop (α := List UInt8 × List UInt8 × Int) (fun x => fun w3 => inv1 (x.1) (x.2.1) (x.2.2) w3 ∧ (Ext w0 w3) ∧ (Blk w3 b1 5 #[(Value.int .u8 (97 + (first1.tmod 26)))]) ∧ (Blk w3 b2 5 #[(Value.int .u8 (48 + (first1.tmod 10)))])) (fun x => fun w3 => mu1 (x.1) (x.2.1) (x.2.2)) (fun x => [(2, (Value.int .u8 other1)), (7, (Value.int .i64 (1 + (n1.tmod 300)))), (8, (str x.1)), (9, (str x.2.1)), (10, (Value.int .i64 x.2.2))]) ([UInt8.ofNat (Int.toNat (97 + (first1.tmod 26)))], [UInt8.ofNat (Int.toNat (48 + (first1.tmod 10)))], 1) ⟨h0, (Stp.ext0 hS2), hB3, hB2⟩ ⟨rfl, rfl, rfl, rfl, rfl, trivial⟩ ?_
  clear h0
  rintro ⟨word1, number1, i1⟩ w3 ⟨hI1, hf1, hf2, hf3⟩
  have hf1 : Ext w0 w3 := hf1
  have hf2 : Blk w3 b1 5 #[(Value.int .u8 (97 + (first1.tmod 26)))] := hf2
  have hf3 : Blk w3 b2 5 #[(Value.int .u8 (48 + (first1.tmod 10)))] := hf3
  have hS3 : Stp noM w0 noM w3 := (Stp.step Stp.start hf1)
  replace h := h word1 number1 i1 w3 hf1 hI1
  refine c_sub (e := [(2, (Value.int .u8 other1)), (7, (Value.int .i64 (1 + (n1.tmod 300)))), (8, (str word1)), (9, (str number1)), (10, (Value.int .i64 i1))]) ⟨rfl, rfl, rfl, rfl, rfl, trivial⟩ ?_
  refine c_seq ?_
  refine c_seq ?_
  refine c_region ?_
  refine s_q rfl rfl (y_move rfl (ev_tmp rfl rfl)) ?_
  refine s_q rfl rfl (y_move rfl (ev_tmp rfl rfl)) ?_
  refine s_q rfl rfl (y_lss rfl (ev_tmp rfl rfl) (ev_tmp rfl rfl)) ?_
  refine s_nil ?_
  refine k_next (e := [(2, (Value.int .u8 other1)), (7, (Value.int .i64 (1 + (n1.tmod 300)))), (8, (str word1)), (9, (str number1)), (10, (Value.int .i64 i1)), (33, (Value.bool (decide (i1 < 1 + (n1.tmod 300)))))]) ⟨rfl, rfl, rfl, rfl, rfl, rfl, trivial⟩ ?_
  refine c_cond (b := decide (i1 < 1 + (n1.tmod 300))) (ev_tmp rfl rfl) (fun hb => ?_) (fun hb => ?_)
  all_goals obtain ⟨hT, hF⟩ := h
  · replace h := hT hb
    clear hT hF
    refine c_skip ?_
    refine k_next (e := [(2, (Value.int .u8 other1)), (7, (Value.int .i64 (1 + (n1.tmod 300)))), (8, (str word1)), (9, (str number1)), (10, (Value.int .i64 i1))]) ⟨rfl, rfl, rfl, rfl, rfl, trivial⟩ ?_
    refine c_seq ?_
    refine c_block ?_
    refine c_seq ?_
    refine c_region ?_
    refine s_q rfl rfl (y_move rfl (ev_tmp rfl rfl)) ?_
    refine s_q rfl rfl (y_move rfl (ev_tmp rfl rfl)) ?_
    refine s_q rfl rfl (y_rem rfl (ev_tmp rfl rfl) ev_const (by decide)) ?_
    obtain ⟨ho7, h⟩ := h
    refine s_q rfl rfl (y_indexs rfl Tryd.underlying9 ev_const (ev_tmp rfl rfl) ho7) ?_
    refine s_buildSlice (vs := [(0, (Value.int .u8 (at8 ([97, 98, 122, 48, 49, 57, 95] : List UInt8) (Int.toNat (other1.tmod 7)))))]) (cs := #[(Value.int .u8 (at8 ([97, 98, 122, 48, 49, 57, 95] : List UInt8) (Int.toNat (other1.tmod 7))))]) rfl rfl rfl Tryd.underlying35 info_5 rfl ⟨rfl, (ev_tmp rfl rfl), trivial⟩ (by kernel_rfl) ?_
    intro b3 w4 hb3 hs3 hx3 hB4
    have hn2 : b1 ≠ b3 := by have := hf2.lt; omega
    have hn3 : b2 ≠ b3 := by have := hf3.lt; omega
    have hS4 : Stp noM w0 noM w4 := Stp.step hS3 hx3
    have hS5 : Stp noM w3 noM w4 := Stp.step (Stp.self hS3) hx3
    have hB5 := hf2.ext hx3
    have hB6 := hf3.ext hx3
    obtain ⟨ho8, h⟩ := h
    refine s_q rfl rfl (y_bstr (l := [UInt8.ofNat (Int.toNat (at8 ([97, 98, 122, 48, 49, 57, 95] : List UInt8) (Int.toNat (other1.tmod 7))))]) rfl Tryd.underlying35 Tryd.underlying5 Tryd.underlying9 (ev_tmp rfl rfl) (by show CellsAt _ _ [Value.int .u8 ((UInt8.ofNat (Int.toNat (at8 ([97, 98, 122, 48, 49, 57, 95] : List UInt8) (Int.toNat (other1.tmod 7))))).toNat : Nat)]; rw [b8 ho8]; exact CellsAt.of_blk hB4 rfl) rfl) ?_
    obtain ⟨ho9, h⟩ := h
    refine s_q rfl rfl (y_cat rfl (ev_tmp rfl rfl) (ev_tmp rfl rfl) ho9) ?_
    refine s_q rfl rfl (y_assign rfl (ev_tmp rfl rfl)) ?_
    refine s_nil ?_
    refine k_next (e := [(2, (Value.int .u8 other1)), (7, (Value.int .i64 (1 + (n1.tmod 300)))), (8, (str (word1 ++ ([UInt8.ofNat (Int.toNat (at8 ([97, 98, 122, 48, 49, 57, 95] : List UInt8) (Int.toNat (other1.tmod 7))))])))), (9, (str number1)), (10, (Value.int .i64 i1))]) ⟨rfl, rfl, rfl, rfl, rfl, trivial⟩ ?_
    refine c_region ?_
    refine s_q rfl rfl (y_move rfl (ev_tmp rfl rfl)) ?_
    refine s_q rfl rfl (y_move rfl (ev_tmp rfl rfl)) ?_
    refine s_q rfl rfl (y_rem rfl (ev_tmp rfl rfl) ev_const (by decide)) ?_
    obtain ⟨ho10, h⟩ := h
    refine s_q rfl rfl (y_int (y_add rfl ev_const (ev_tmp rfl rfl)) (wr_u8 ho10)) ?_
    refine s_buildSlice (vs := [(0, (Value.int .u8 (48 + (other1.tmod 10))))]) (cs := #[(Value.int .u8 (48 + (other1.tmod 10)))]) rfl rfl rfl Tryd.underlying35 info_5 rfl ⟨rfl, (ev_tmp rfl rfl), trivial⟩ (by kernel_rfl) ?_
    intro b4 w5 hb4 hs4 hx4 hB7
    have hn4 : b1 ≠ b4 := by have := hB5.lt; omega
    have hn5 : b2 ≠ b4 := by have := hB6.lt; omega
    have hn6 : b3 ≠ b4 := by have := hB4.lt; omega
    have hS6 : Stp noM w0 noM w5 := Stp.step hS4 hx4
    have hS7 : Stp noM w3 noM w5 := Stp.step hS5 hx4
    have hB8 := hB5.ext hx4
    have hB9 := hB6.ext hx4
    have hB10 := hB4.ext hx4
    obtain ⟨ho11, h⟩ := h
    refine s_q rfl rfl (y_bstr (l := [UInt8.ofNat (Int.toNat (48 + (other1.tmod 10)))]) rfl Tryd.underlying35 Tryd.underlying5 Tryd.underlying9 (ev_tmp rfl rfl) (by show CellsAt _ _ [Value.int .u8 ((UInt8.ofNat (Int.toNat (48 + (other1.tmod 10)))).toNat : Nat)]; rw [b8 ho11]; exact CellsAt.of_blk hB7 rfl) rfl) ?_
    obtain ⟨ho12, h⟩ := h
    refine s_q rfl rfl (y_cat rfl (ev_tmp rfl rfl) (ev_tmp rfl rfl) ho12) ?_
    refine s_q rfl rfl (y_assign rfl (ev_tmp rfl rfl)) ?_
    refine s_nil ?_
    refine k_next (e := [(2, (Value.int .u8 other1)), (7, (Value.int .i64 (1 + (n1.tmod 300)))), (8, (str (word1 ++ ([UInt8.ofNat (Int.toNat (at8 ([97, 98, 122, 48, 49, 57, 95] : List UInt8) (Int.toNat (other1.tmod 7))))])))), (9, (str (number1 ++ ([UInt8.ofNat (Int.toNat (48 + (other1.tmod 10)))])))), (10, (Value.int .i64 i1))]) ⟨rfl, rfl, rfl, rfl, rfl, trivial⟩ ?_
    refine c_region ?_
    refine s_q rfl rfl (y_move rfl (ev_tmp rfl rfl)) ?_
    obtain ⟨ho13, h⟩ := h
    refine s_q rfl rfl (y_int (y_add rfl (ev_tmp rfl rfl) ev_const) (wr_i64 ho13)) ?_
    refine s_q rfl rfl (y_assign rfl (ev_tmp rfl rfl)) ?_
    refine s_nil ?_
    replace h := h w5 (Stp.ext0 hS7)
    exact k_loop (word1 ++ ([UInt8.ofNat (Int.toNat (at8 ([97, 98, 122, 48, 49, 57, 95] : List UInt8) (Int.toNat (other1.tmod 7))))]), number1 ++ ([UInt8.ofNat (Int.toNat (48 + (other1.tmod 10)))]), i1 + 1) ⟨rfl, rfl, rfl, rfl, rfl, trivial⟩ ⟨h.1, (Stp.ext0 hS6), hB8, hB9⟩ h.2
  · replace h := hF hb
    clear hT hF
    refine c_exit ?_
    refine k_in ?_
    refine k_next (e := [(7, (Value.int .i64 (1 + (n1.tmod 300)))), (8, (str word1)), (9, (str number1))]) ⟨rfl, rfl, rfl, trivial⟩ ?_
    refine c_seq ?_
    refine c_region ?_
    refine s_q rfl rfl (y_move rfl (ev_tmp rfl rfl)) ?_
    obtain ⟨ho14, h⟩ := h
    refine s_q rfl rfl (y_cat rfl ev_const (ev_tmp rfl rfl) ho14) ?_
    refine s_call rfl rfl (r_callF (vs := [(str (([32, 32] : List UInt8) ++ word1))]) rfl ok_9 ⟨(ev_tmp rfl rfl), trivial⟩) (Calls.mono h ?_)
    rintro _ w6 ⟨r1A, r1n, r1c, r2, r3, rfl, hx5, h⟩
    refine ⟨_, rfl, ?_⟩
    have hS8 : Stp noM w0 noM w6 := Stp.step hS3 hx5
    have hS9 : Stp noM w3 noM w6 := Stp.step (Stp.self hS3) hx5
    have hB11 := hf2.ext hx5
    have hB12 := hf3.ext hx5
    refine s_q rfl rfl (y_move rfl (ev_tmp rfl rfl)) ?_
    refine s_q rfl rfl (y_extract rfl (ev_tmp rfl rfl) rfl) ?_
    refine s_q rfl rfl (y_extract rfl (ev_tmp rfl rfl) rfl) ?_
    refine s_q rfl rfl (y_extract rfl (ev_tmp rfl rfl) rfl) ?_
    refine s_q rfl rfl (y_assign rfl (ev_tmp rfl rfl)) ?_
    refine s_q rfl rfl (y_assign rfl (ev_tmp rfl rfl)) ?_
    refine s_q rfl rfl (y_assign rfl (ev_tmp rfl rfl)) ?_
    refine s_nil ?_
    refine k_next (e := [(7, (Value.int .i64 (1 + (n1.tmod 300)))), (8, (str word1)), (9, (str number1)), (11, (Value.slice r1A r1n r1c)), (12, (Value.int .i64 r2)), (13, (Value.int .i64 r3))]) ⟨rfl, rfl, rfl, rfl, rfl, rfl, trivial⟩ ?_
    refine c_seq ?_
    refine c_region ?_
    refine s_q rfl rfl (y_move rfl (ev_tmp rfl rfl)) ?_
    refine s_call rfl rfl (r_callF (vs := [(str number1)]) rfl ok_9 ⟨(ev_tmp rfl rfl), trivial⟩) (Calls.mono h ?_)
    rintro _ w7 ⟨r4A, r4n, r4c, r5, r6, rfl, hx6, h⟩
    refine ⟨_, rfl, ?_⟩
    have hS10 : Stp noM w0 noM w7 := Stp.step hS8 hx6
    have hS11 : Stp noM w6 noM w7 := Stp.step (Stp.self hS8) hx6
    have hB13 := hB11.ext hx6
    have hB14 := hB12.ext hx6
    refine s_q rfl rfl (y_move rfl (ev_tmp rfl rfl)) ?_
    refine s_q rfl rfl (y_extract rfl (ev_tmp rfl rfl) rfl) ?_
    refine s_q rfl rfl (y_extract rfl (ev_tmp rfl rfl) rfl) ?_
    refine s_q rfl rfl (y_extract rfl (ev_tmp rfl rfl) rfl) ?_
    refine s_q rfl rfl (y_assign rfl (ev_tmp rfl rfl)) ?_
    refine s_q rfl rfl (y_assign rfl (ev_tmp rfl rfl)) ?_
    refine s_q rfl rfl (y_assign rfl (ev_tmp rfl rfl)) ?_
    refine s_nil ?_
    refine k_next (e := [(7, (Value.int .i64 (1 + (n1.tmod 300)))), (8, (str word1)), (9, (str number1)), (11, (Value.slice r1A r1n r1c)), (12, (Value.int .i64 r2)), (13, (Value.int .i64 r3)), (14, (Value.slice r4A r4n r4c)), (15, (Value.int .i64 r5)), (16, (Value.int .i64 r6))]) ⟨rfl, rfl, rfl, rfl, rfl, rfl, rfl, rfl, rfl, trivial⟩ ?_
    refine c_seq ?_
    refine c_seq ?_
    refine c_region ?_
    refine s_q rfl rfl (y_move rfl (ev_tmp rfl rfl)) ?_
    refine s_q rfl rfl (y_neq rfl (ev_tmp rfl rfl) ev_const) ?_
    refine s_q rfl rfl (y_move rfl (ev_tmp rfl rfl)) ?_
    refine s_gval (g_false rfl rfl rfl rfl) rfl (fun hc => (y_move rfl (ev_tmp rfl rfl))) ?_
    refine s_gval (g_false rfl rfl rfl rfl) rfl (fun hc => (y_neq rfl (ev_gv (ev_tmp rfl rfl) hc) ev_const)) ?_
    refine s_q rfl rfl (y_or rfl (ev_tmp rfl rfl) (ev_tmp rfl rfl)) ?_
    refine s_q rfl rfl (y_move rfl (ev_tmp rfl rfl)) ?_
    refine s_gval (g_false rfl rfl rfl rfl) rfl (fun hc => (y_move rfl (ev_tmp rfl rfl))) ?_
    refine s_gval (g_false rfl rfl rfl rfl) rfl (fun hc => (y_lenl rfl Tryd.underlying23 (ev_gv (ev_tmp rfl rfl) hc))) ?_
    refine s_gval (g_false rfl rfl rfl rfl) rfl (fun hc => (y_neq rfl (ev_gv (ev_tmp rfl rfl) hc) ev_const)) ?_
    refine s_q rfl rfl (y_or rfl (ev_tmp rfl rfl) (ev_tmp rfl rfl)) ?_
    refine s_q rfl rfl (y_move rfl (ev_tmp rfl rfl)) ?_
    refine s_gval (g_false rfl rfl rfl rfl) rfl (fun hc => (y_move rfl (ev_tmp rfl rfl))) ?_
    obtain ⟨ho15, h⟩ := h
    obtain ⟨ad1, hC1, h⟩ := h
    refine s_gval (g_false rfl rfl rfl rfl) rfl (fun hc => (y_indexAddr rfl Tryd.underlying23 size_30 (ev_gv (ev_tmp rfl rfl) hc) ev_const (ho15 hc) (hC1 hc))) ?_
    obtain ⟨exa1, exb1, exc1, hC2, h⟩ := h
    refine s_gval (g_false rfl rfl rfl rfl) rfl (fun hc => (y_loadN (l := [(Value.int .i64 exa1), (Value.int .i64 exb1), (str exc1)]) rfl (ev_gv (ev_tmp rfl rfl) hc) Tryd.underlying30 rfl size_30 (hC2 hc))) ?_
    refine s_gval (g_false rfl rfl rfl rfl) rfl (fun hc => (y_move rfl (ev_tmp rfl rfl))) ?_
    refine s_gval (g_false rfl rfl rfl rfl) rfl (fun hc => (y_build (vs := [(0, (Value.int .i64 2)), (1, (Value.int .i64 0)), (2, (str number1))]) (cs := #[(Value.int .i64 2), (Value.int .i64 0), (str number1)]) rfl ⟨rfl, ev_const, ⟨rfl, ev_const, ⟨rfl, (ev_gv (ev_tmp rfl rfl) hc), trivial⟩⟩⟩ (by kernel_rfl))) ?_
    refine s_gval (g_false rfl rfl rfl rfl) rfl (fun hc => (y_bin rfl (ev_gv (ev_tmp rfl rfl) hc) (ev_gv (ev_tmp rfl rfl) hc) (eqstruct_30n ..) (eqguard_30 ..))) ?_
    refine s_q rfl rfl (y_or rfl (ev_tmp rfl rfl) (ev_tmp rfl rfl)) ?_
    refine s_nil ?_
    refine k_next (e := [(7, (Value.int .i64 (1 + (n1.tmod 300)))), (8, (str word1)), (11, (Value.slice r1A r1n r1c)), (12, (Value.int .i64 r2)), (13, (Value.int .i64 r3)), (81, (Value.bool ((((!decide (r6 = 0)) || (!decide (r5 = 0))) || (!decide ((r4n : Int) = 1))) || (!((decide (exa1 = 2)) && (decide (exb1 = 0)) && (decide (exc1 = number1)))))))]) ⟨rfl, rfl, rfl, rfl, rfl, rfl, trivial⟩ ?_
    refine c_cond (b := (((!decide (r6 = 0)) || (!decide (r5 = 0))) || (!decide ((r4n : Int) = 1))) || (!((decide (exa1 = 2)) && (decide (exb1 = 0)) && (decide (exc1 = number1))))) (ev_tmp rfl rfl) (fun hb => ?_) (fun hb => ?_)
    all_goals obtain ⟨hT, hF⟩ := h
    · replace h := hT hb
      clear hT hF
      refine c_seq ?_
      refine c_region ?_
      refine s_q rfl rfl (y_assign rfl ev_const) ?_
      refine s_nil ?_
      refine k_next (e := [(6, (Value.bool false))]) ⟨rfl, trivial⟩ ?_
      refine c_ret ?_
      exact q_ret (vs := [(Value.bool false)]) Tryd.results7 ⟨ev_tmp rfl rfl, trivial⟩ h
    · replace h := hF hb
      clear hT hF
      refine c_skip ?_
      refine k_next (e := [(7, (Value.int .i64 (1 + (n1.tmod 300)))), (8, (str word1)), (11, (Value.slice r1A r1n r1c)), (12, (Value.int .i64 r2)), (13, (Value.int .i64 r3))]) ⟨rfl, rfl, rfl, rfl, rfl, trivial⟩ ?_
      refine c_seq ?_
      refine c_seq ?_
      refine c_region ?_
      refine s_q rfl rfl (y_move rfl (ev_tmp rfl rfl)) ?_
      refine s_q rfl rfl (y_gtr rfl (ev_tmp rfl rfl) ev_const) ?_
      refine s_nil ?_
      refine k_next (e := [(8, (str word1)), (11, (Value.slice r1A r1n r1c)), (12, (Value.int .i64 r2)), (13, (Value.int .i64 r3)), (83, (Value.bool (decide (16 < 1 + (n1.tmod 300)))))]) ⟨rfl, rfl, rfl, rfl, rfl, trivial⟩ ?_
      refine c_cond (b := decide (16 < 1 + (n1.tmod 300))) (ev_tmp rfl rfl) (fun hb => ?_) (fun hb => ?_)
      all_goals obtain ⟨hT, hF⟩ := h
      · replace h := hT hb
        clear hT hF
        refine c_seq ?_
        refine c_region ?_
        refine s_q rfl rfl (y_move rfl (ev_tmp rfl rfl)) ?_
        refine s_q rfl rfl (y_lenl rfl Tryd.underlying23 (ev_tmp rfl rfl)) ?_
        refine s_q rfl rfl (y_eql rfl (ev_tmp rfl rfl) ev_const) ?_
        refine s_q rfl rfl (y_move rfl (ev_tmp rfl rfl)) ?_
        refine s_gval (g_true rfl rfl rfl rfl) rfl (fun hc => (y_move rfl (ev_tmp rfl rfl))) ?_
        refine s_gval (g_true rfl rfl rfl rfl) rfl (fun hc => (y_eql rfl (ev_gv (ev_tmp rfl rfl) hc) ev_const)) ?_
        refine s_q rfl rfl (y_and rfl (ev_tmp rfl rfl) (ev_tmp rfl rfl)) ?_
        refine s_q rfl rfl (y_move rfl (ev_tmp rfl rfl)) ?_
        refine s_gval (g_true rfl rfl rfl rfl) rfl (fun hc => (y_move rfl (ev_tmp rfl rfl))) ?_
        refine s_gval (g_true rfl rfl rfl rfl) rfl (fun hc => (y_eql rfl (ev_gv (ev_tmp rfl rfl) hc) ev_const)) ?_
        refine s_q rfl rfl (y_and rfl (ev_tmp rfl rfl) (ev_tmp rfl rfl)) ?_
        refine s_q rfl rfl (y_move rfl (ev_tmp rfl rfl)) ?_
        refine s_gval (g_true rfl rfl rfl rfl) rfl (fun hc => (y_move rfl (ev_tmp rfl rfl))) ?_
        obtain ⟨q1, hq2, h⟩ := h
        refine s_gcallT (α := Bool) (fun x => (Value.bool x)) (fun x => fun w => q1 (x) w) (g_true rfl rfl rfl rfl) rfl (fun hc => (r_callF (vs := [(str word1)]) rfl ok_14 ⟨(ev_gv (ev_tmp rfl rfl) hc), trivial⟩)) (fun hc => (hq2 hc).mono ?_) ?_
        · rintro _ w' ⟨r7, rfl, hE', hq'⟩; exact ⟨r7, rfl, hE', hq'⟩
        rintro r7 w8 hx7 hq1
        replace h := h r7 w8 hx7 hq1
        have hS12 : Stp noM w0 noM w8 := Stp.step hS10 hx7
        have hS13 : Stp noM w7 noM w8 := Stp.step (Stp.self hS10) hx7
        have hB15 := hB13.ext hx7
        have hB16 := hB14.ext hx7
        refine s_gval (g_true rfl rfl rfl rfl) rfl (fun hc => (y_not rfl (ev_gv (ev_tmp rfl rfl) hc))) ?_
        refine s_q rfl rfl (y_and rfl (ev_tmp rfl rfl) (ev_tmp rfl rfl)) ?_
        refine s_q rfl rfl (y_move rfl (ev_tmp rfl rfl)) ?_
        obtain ⟨q2, hq4, h⟩ := h
        refine s_gcallT (α := Bool) (fun x => (Value.bool x)) (fun x => fun w => q2 (x) w) (g_true rfl rfl rfl rfl) rfl (fun hc => (r_callF (vs := []) rfl ok_8 trivial)) (fun hc => (hq4 hc).mono ?_) ?_
        · rintro _ w' ⟨r8, rfl, hE', hq'⟩; exact ⟨r8, rfl, hE', hq'⟩
        rintro r8 w9 hx8 hq3
        replace h := h r8 w9 hx8 hq3
        have hS14 : Stp noM w0 noM w9 := Stp.step hS12 hx8
        have hS15 : Stp noM w8 noM w9 := Stp.step (Stp.self hS12) hx8
        have hB17 := hB15.ext hx8
        have hB18 := hB16.ext hx8
        refine s_q rfl rfl (y_and rfl (ev_tmp rfl rfl) (ev_tmp rfl rfl)) ?_
        refine s_q rfl rfl (y_assign rfl (ev_tmp rfl rfl)) ?_
        refine s_nil ?_
        refine k_next (e := [(6, (Value.bool (((((decide ((r1n : Int) = 0)) && (decide (r2 = 2))) && (decide (r3 = 2))) && (!r7)) && r8)))]) ⟨rfl, trivial⟩ ?_
        refine c_ret ?_
        exact q_ret (vs := [(Value.bool (((((decide ((r1n : Int) = 0)) && (decide (r2 = 2))) && (decide (r3 = 2))) && (!r7)) && r8))]) Tryd.results7 ⟨ev_tmp rfl rfl, trivial⟩ h
      · replace h := hF hb
        clear hT hF
        refine c_skip ?_
        refine k_next (e := [(8, (str word1)), (11, (Value.slice r1A r1n r1c)), (12, (Value.int .i64 r2)), (13, (Value.int .i64 r3))]) ⟨rfl, rfl, rfl, rfl, trivial⟩ ?_
        refine c_seq ?_
        refine c_region ?_
        refine s_q rfl rfl (y_move rfl (ev_tmp rfl rfl)) ?_
        refine s_q rfl rfl (y_eql rfl (ev_tmp rfl rfl) ev_const) ?_
        refine s_q rfl rfl (y_move rfl (ev_tmp rfl rfl)) ?_
        refine s_gval (g_true rfl rfl rfl rfl) rfl (fun hc => (y_move rfl (ev_tmp rfl rfl))) ?_
        refine s_gval (g_true rfl rfl rfl rfl) rfl (fun hc => (y_eql rfl (ev_gv (ev_tmp rfl rfl) hc) ev_const)) ?_
        refine s_q rfl rfl (y_and rfl (ev_tmp rfl rfl) (ev_tmp rfl rfl)) ?_
        refine s_q rfl rfl (y_move rfl (ev_tmp rfl rfl)) ?_
        refine s_gval (g_true rfl rfl rfl rfl) rfl (fun hc => (y_move rfl (ev_tmp rfl rfl))) ?_
        refine s_gval (g_true rfl rfl rfl rfl) rfl (fun hc => (y_lenl rfl Tryd.underlying23 (ev_gv (ev_tmp rfl rfl) hc))) ?_
        refine s_gval (g_true rfl rfl rfl rfl) rfl (fun hc => (y_eql rfl (ev_gv (ev_tmp rfl rfl) hc) ev_const)) ?_
        refine s_q rfl rfl (y_and rfl (ev_tmp rfl rfl) (ev_tmp rfl rfl)) ?_
        refine s_q rfl rfl (y_move rfl (ev_tmp rfl rfl)) ?_
        refine s_gval (g_true rfl rfl rfl rfl) rfl (fun hc => (y_move rfl (ev_tmp rfl rfl))) ?_
        obtain ⟨ho16, h⟩ := h
        obtain ⟨ad2, hC3, h⟩ := h
        refine s_gval (g_true rfl rfl rfl rfl) rfl (fun hc => (y_indexAddr rfl Tryd.underlying23 size_30 (ev_gv (ev_tmp rfl rfl) hc) ev_const (ho16 hc) (hC3 hc))) ?_
        obtain ⟨exa2, exb2, exc2, hC4, h⟩ := h
        refine s_gval (g_true rfl rfl rfl rfl) rfl (fun hc => (y_loadN (l := [(Value.int .i64 exa2), (Value.int .i64 exb2), (str exc2)]) rfl (ev_gv (ev_tmp rfl rfl) hc) Tryd.underlying30 rfl size_30 (hC4 hc))) ?_
        refine s_gval (g_true rfl rfl rfl rfl) rfl (fun hc => (y_move rfl (ev_tmp rfl rfl))) ?_
        refine s_gval (g_true rfl rfl rfl rfl) rfl (fun hc => (y_build (vs := [(0, (Value.int .i64 1)), (1, (Value.int .i64 2)), (2, (str word1))]) (cs := #[(Value.int .i64 1), (Value.int .i64 2), (str word1)]) rfl ⟨rfl, ev_const, ⟨rfl, ev_const, ⟨rfl, (ev_gv (ev_tmp rfl rfl) hc), trivial⟩⟩⟩ (by kernel_rfl))) ?_
        refine s_gval (g_true rfl rfl rfl rfl) rfl (fun hc => (y_bin rfl (ev_gv (ev_tmp rfl rfl) hc) (ev_gv (ev_tmp rfl rfl) hc) (eqstruct_30 ..) (eqguard_30 ..))) ?_
        refine s_q rfl rfl (y_and rfl (ev_tmp rfl rfl) (ev_tmp rfl rfl)) ?_
        refine s_q rfl rfl (y_move rfl (ev_tmp rfl rfl)) ?_
        refine s_gval (g_true rfl rfl rfl rfl) rfl (fun hc => (y_move rfl (ev_tmp rfl rfl))) ?_
        obtain ⟨q3, hq6, h⟩ := h
        refine s_gcallT (α := Bool) (fun x => (Value.bool x)) (fun x => fun w => q3 (x) w) (g_true rfl rfl rfl rfl) rfl (fun hc => (r_callF (vs := [(str word1)]) rfl ok_14 ⟨(ev_gv (ev_tmp rfl rfl) hc), trivial⟩)) (fun hc => (hq6 hc).mono ?_) ?_
        · rintro _ w' ⟨r9, rfl, hE', hq'⟩; exact ⟨r9, rfl, hE', hq'⟩
        rintro r9 w10 hx9 hq5
        replace h := h r9 w10 hx9 hq5
        have hS16 : Stp noM w0 noM w10 := Stp.step hS10 hx9
        have hS17 : Stp noM w7 noM w10 := Stp.step (Stp.self hS10) hx9
        have hB19 := hB13.ext hx9
        have hB20 := hB14.ext hx9
        have hC5 := fun hc => (hC4 hc).ext hx9
        refine s_gval (g_true rfl rfl rfl rfl) rfl (fun hc => (y_move rfl (ev_tmp rfl rfl))) ?_
        obtain ⟨q4, hq8, h⟩ := h
        refine s_gcallT (α := Bool) (fun x => (Value.bool x)) (fun x => fun w => q4 (x) w) (g_true rfl rfl rfl rfl) rfl (fun hc => (r_callF (vs := [(str word1)]) rfl ok_16 ⟨(ev_gv (ev_tmp rfl rfl) hc), trivial⟩)) (fun hc => (hq8 hc).mono ?_) ?_
        · rintro _ w' ⟨r10, rfl, hE', hq'⟩; exact ⟨r10, rfl, hE', hq'⟩
        rintro r10 w11 hx10 hq7
        replace h := h r10 w11 hx10 hq7
        have hS18 : Stp noM w0 noM w11 := Stp.step hS16 hx10
        have hS19 : Stp noM w10 noM w11 := Stp.step (Stp.self hS16) hx10
        have hB21 := hB19.ext hx10
        have hB22 := hB20.ext hx10
        have hC6 := fun hc => (hC5 hc).ext hx10
        refine s_gval (g_true rfl rfl rfl rfl) rfl (fun hc => (y_neb rfl Tryd.underlying4 (ev_gv (ev_tmp rfl rfl) hc) (ev_gv (ev_tmp rfl rfl) hc))) ?_
        refine s_q rfl rfl (y_and rfl (ev_tmp rfl rfl) (ev_tmp rfl rfl)) ?_
        refine s_q rfl rfl (y_move rfl (ev_tmp rfl rfl)) ?_
        obtain ⟨q5, hq10, h⟩ := h
        refine s_gcallT (α := Bool) (fun x => (Value.bool x)) (fun x => fun w => q5 (x) w) (g_true rfl rfl rfl rfl) rfl (fun hc => (r_callF (vs := []) rfl ok_8 trivial)) (fun hc => (hq10 hc).mono ?_) ?_
        · rintro _ w' ⟨r11, rfl, hE', hq'⟩; exact ⟨r11, rfl, hE', hq'⟩
        rintro r11 w12 hx11 hq9
        replace h := h r11 w12 hx11 hq9
        have hS20 : Stp noM w0 noM w12 := Stp.step hS18 hx11
        have hS21 : Stp noM w11 noM w12 := Stp.step (Stp.self hS18) hx11
        have hB23 := hB21.ext hx11
        have hB24 := hB22.ext hx11
        have hC7 := fun hc => (hC6 hc).ext hx11
        refine s_q rfl rfl (y_and rfl (ev_tmp rfl rfl) (ev_tmp rfl rfl)) ?_
        refine s_q rfl rfl (y_assign rfl (ev_tmp rfl rfl)) ?_
        refine s_nil ?_
        refine k_next (e := [(6, (Value.bool ((((((decide (r3 = 0)) && (decide (r2 = 0))) && (decide ((r1n : Int) = 1))) && ((decide (exa2 = 1)) && (decide (exb2 = 2)) && (decide (exc2 = word1)))) && (r9 != r10)) && r11)))]) ⟨rfl, trivial⟩ ?_
        refine c_ret ?_
        exact q_ret (vs := [(Value.bool ((((((decide (r3 = 0)) && (decide (r2 = 0))) && (decide ((r1n : Int) = 1))) && ((decide (exa2 = 1)) && (decide (exb2 = 2)) && (decide (exc2 = word1)))) && (r9 != r10)) && r11))]) Tryd.results7 ⟨ev_tmp rfl rfl, trivial⟩ h

end Go.Proofs.YtndiieicjjifkaaDoor
