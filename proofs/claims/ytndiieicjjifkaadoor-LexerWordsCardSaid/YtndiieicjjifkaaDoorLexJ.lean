/- Reading an argument of type []Token. -/
import Derived.Test.YtndiieicjjifkaaDoorLexI
import Derived.Test.YtndiieicjjifkaaDoorVcArg
namespace Go.Proofs.YtndiieicjjifkaaDoor
open Go Go.RowKit Go.Vc Go.WideShapes
theorem cells30 : Tryd.prog.cellsOf 30 = 3 := by kernel_rfl
theorem cells9 : Tryd.prog.cellsOf 9 = 1 := by kernel_rfl
theorem cells3 : Tryd.prog.cellsOf 3 = 1 := by kernel_rfl
theorem open_tokens {H : Type} {enc : TypeId × Value → H} {W : World} {base : Nat} {sp : Nat → Bool} {held : Bool} {v : Value} {d : DataW H} {ps : List MemPlace} {r : Reach}
    (hv : Value.okWide Tryd.prog W r base 23 v) (h : DataW.Trod enc Tryd.prog W 0 sp held 23 v d ps) : ∃ A c ts, v = .slice A (List.length ts) c ∧ SlR W A ts.length 3 (toksV ts) := by
  obtain ⟨A, len, cap, rfl⟩ := okWide_slice Tryd.underlying23 hv
  obtain ⟨fuel, hf⟩ := h
  rcases DataW.trod_slice Tryd.underlying23 hf with ⟨h1, _⟩ | ⟨a, len', cap', elems, rest, n, _, h1, _, _, _, _, hlen, hel, _⟩
  · have e : (Value.slice A len cap).cells.toList = [.slice A len cap] := rfl
    rw [e] at h1
    injection h1 with h1
    injection h1 with h1 h2 h3
    subst h1; subst h2
    exact ⟨none, cap, [], rfl, SlR.nil⟩
  · have e : (Value.slice A len cap).cells.toList = [.slice A len cap] := rfl
    rw [e] at h1
    injection h1 with h1
    injection h1 with h1 h2 h3
    subst h1; subst h2
    obtain ⟨ts, hts, hp⟩ := list_of (fun i (t : Tok) => CellsAt W (a.add (i * 3)) t.cells) len fun i hi => by
      have he := hel i hi
      rw [cells30] at he
      have hs : ∃ y, elems[i]? = some y := ⟨elems[i]'(by omega), by simp [hlen, hi]⟩
      obtain ⟨y, hy⟩ := hs
      rw [hy, Option.bind_eq_some_iff] at he
      obtain ⟨cs, hc1, hc2⟩ := he
      obtain ⟨hl, hc⟩ := cells_spec hc1
      obtain ⟨xs, m, _, _, hcl, hxs, hfi⟩ := DataW.trod_struct Tryd.underlying30 hc2
      match cs, hl with
      | [c0, c1, c2], _ =>
        have f0 := hfi 0 _ rfl
        have f1 := hfi 1 _ rfl
        have f2 := hfi 2 _ rfl
        obtain ⟨x0, g0⟩ : ∃ x, xs[0]? = some x := ⟨xs[0]'(by rw [hxs]; decide), by simp [hxs]⟩
        obtain ⟨x1, g1⟩ : ∃ x, xs[1]? = some x := ⟨xs[1]'(by rw [hxs]; decide), by simp [hxs]⟩
        obtain ⟨x2, g2⟩ : ∃ x, xs[2]? = some x := ⟨xs[2]'(by rw [hxs]; decide), by simp [hxs]⟩
        rw [g0] at f0
        rw [g1] at f1
        rw [g2] at f2
        obtain ⟨k0, e0, _⟩ := DataW.trod_int Tryd.underlying3 f0
        obtain ⟨k1, e1, _⟩ := DataW.trod_int Tryd.underlying3 f1
        obtain ⟨k2, e2, _⟩ := DataW.trod_string Tryd.underlying9 f2
        replace e0 : ([c0, c1, c2].drop 0).take (Tryd.prog.cellsOf 3) = [.int .i64 k0] := e0
        replace e1 : ([c0, c1, c2].drop 1).take (Tryd.prog.cellsOf 3) = [.int .i64 k1] := e1
        replace e2 : ([c0, c1, c2].drop 2).take (Tryd.prog.cellsOf 9) = [.string k2] := e2
        rw [cells3] at e0 e1
        rw [cells9] at e2
        simp at e0 e1 e2
        subst e0; subst e1; subst e2
        exact ⟨⟨k0, k1, k2.data.toList⟩, hc⟩
    refine ⟨some a, cap, ts, by rw [hts], by rw [toksV_length], fun _ => ⟨a, rfl, ?_⟩⟩
    have hfl := CellsAt.flat (w := W) (a := a) (k := 3) (ts.map Tok.cells) (fun x hx => by
      obtain ⟨t, _, rfl⟩ := List.mem_map.1 hx
      rfl) (fun i hi => by
      rw [List.getElem_map]
      exact hp i (by simpa using hi))
    rwa [← List.flatMap_def] at hfl
theorem law4w (A : Option Addr) (c : Nat) (ts : List Tok) (s : List UInt8) (w : World) (hS : SlR w A ts.length 3 (toksV ts)) (hT : Tabs w) : RetV Tryd.prog 4 #[.slice A ts.length c, str s] w (.bool true) := law4 A c ts s w hS hT
end Go.Proofs.YtndiieicjjifkaaDoor
