import Derived.Test.YtebpdmfmknfkjaaGreatDoorSLfQ
import Derived.Laws.IdiomStrings
namespace Go.Vc
open Go Go.RowKit
def Cod.bot (α : Type) (n : Nat) : Cod α where
 n := n
 rel _ _ _ _ := False
 len h := h.elim
 one h := h.elim
 sp _ h := h
def itC {α : Type} (S : Cod α → Cod α) (n : Nat) : Nat → Cod α
 | 0 => Cod.bot α n
 | k + 1 => S (itC S n k)
def Cod.fix {α : Type} (S : Cod α → Cod α) (n : Nat) (hn : ∀ c, (S c).n = n) : Cod α where
 n := n
 rel D w x cs := ∃ k, (itC S n k).rel D w x cs
 len h := by
  obtain ⟨k, h⟩ := h
  cases k with
  | zero => exact False.elim h
  | succ k => exact ((itC S n (k + 1)).len h).trans (hn _)
 one h := by obtain ⟨k, h⟩ := h; exact (itC S n k).one h
 sp hs h := by obtain ⟨k, h⟩ := h; exact ⟨k, (itC S n k).sp hs h⟩
section
variable {α : Type} {c c' : Cod α} {D : NP} {w : World} {A : Option Addr} {cap : Nat} {xs : List α} {S : Cod α → Cod α} {n : Nat}
theorem Rels.mono (hm : ∀ D w x cs, c.rel D w x cs → c'.rel D w x cs) : ∀ {xs : List α} {css : List (List Value)}, Rels c D w xs css → Rels c' D w xs css
 | [], [], h => h
 | [], _ :: _, h => h.elim
 | _ :: _, [], h => h.elim
 | _ :: _, _ :: _, h => ⟨hm _ _ _ _ h.1, Rels.mono hm h.2⟩
theorem SlC.mono (h : SlC c D w A cap xs) (hm : ∀ D w x cs, c.rel D w x cs → c'.rel D w x cs) : SlC c' D w A cap xs :=
 ⟨h.1, fun hn => let ⟨ad, h1, h2, h3, css, h4, h5⟩ := h.2 hn; ⟨ad, h1, h2, h3, css, h4.mono hm, h5⟩⟩
end
section
variable {P : Program} {ro : Option Nat} {n : Fr} {Kn : Act → World → Prop} {Ke : Nat → Act → World → Prop} {Kr : Act → World → Prop} {env : Env} {w : World}
variable {ops : Array Oper} {rest : List Oper} {o : Oper} {i d : Nat} {v u : Value} {x y : Operand} {t t' e : TypeId}
theorem y_makeBound {f : FuncId} {ys : List Operand} {vs : List Value} {xs : Array Operand} (ho : o.op = .makeFunc (.func f) ys.toArray xs) (hx0 : xs = #[]) (hys : EvA n env ys vs) : Yld P n env o (.func (.func f) vs.toArray #[]) w := fun a ha => by
 subst hx0
 simp [execOp, ho, hys.map ha, Instr.makeFunc]
theorem CallV.fnB {args : List Value} {R : Ending → World → Prop} {f : FuncId} {fs : List Value} (hok : FnOK P f) (h : Calls P f (fs ++ args).toArray w R) : CallV P (.func (.func f) fs.toArray #[]) args w R :=
 .inl ⟨f, fs, [], rfl, hok, by simpa using h⟩
def strOf (l : List Int) : List UInt8 := l.map fun z => UInt8.ofNat z.toNat
theorem foldl_strOf : ∀ (l : List Int) (r : ByteArray), l.foldl (fun r n => r.push (UInt8.ofNat n.toNat)) r = ⟨r.data ++ (strOf l).toArray⟩
 | [], r => by simp [strOf]
 | z :: l, r => by
  simp only [List.foldl_cons]
  rw [foldl_strOf l]
  simp [ByteArray.push, strOf]
theorem rels_int {D : NP} {k : IntKind} : ∀ {l : List Int} {css : List (List Value)}, Rels (cInt k) D w l css → css.flatten = l.map (Value.int k)
 | [], [], _ => rfl
 | [], _ :: _, h => h.elim
 | _ :: _, [], h => h.elim
 | x :: l, cs :: css, h => by
  have h1 : cs = [.int k x] := h.1
  rw [List.flatten_cons, rels_int h.2, h1]; rfl
theorem y_bytesStr {D : NP} {A : Option Addr} {cap : Nat} {l : List Int} (ho : o.op = .convert t t' x) (hx : Ev n env x (.slice A l.length cap)) (ht : P.underlying t = some (.slice e)) (ht' : P.underlying t' = some .string) (he : P.underlying e = some (.int .u8)) (hr : Rd (cInt .u8) D w A l) : Yld P n env o (str (strOf l)) w := fun a ha => by
 have key : (convert t t' (.slice A l.length cap)).run P w = .ok (str (strOf l)) w := by
  rw [run_convert_bytes_string w t t' e A l.length cap ht he ht']
  cases A with
  | none =>
   have : l = [] := List.eq_nil_of_length_eq_zero (Nat.eq_zero_of_not_pos fun h => by obtain ⟨_, h1, _⟩ := hr h; cases h1)
   subst this
   rfl
  | some ad =>
   have hl : (loadCells ad l.length).run P w = .ok (l.map (Value.int .u8)).toArray w := by
    have := run_loadCells_list (P := P) (w := w) ad (l.map (Value.int .u8)) (fun j v hj => by
     have hp : 0 < l.length := by
      have := (List.getElem?_eq_some_iff.1 hj).1
      simp at this; omega
     obtain ⟨ad', h1, css, h2, h3⟩ := hr hp
     injection h1 with h1
     subst h1
     exact h3 j v (by rw [rels_int h2]; exact hj))
    simpa using this
   rw [run_bytesToString w ad l.length cap l hl, foldl_strOf]
   simp [str]
 simp [execOp, ho, hx a ha, key]
theorem y_fieldAddr2 {fs : Array Field} {f : Field} {i : Nat} {ad : Addr} {o1 : Nat} (ho : o.op = .fieldAddr t x i) (hx : Ev n env x (.pointer (some (ad.add o1)))) (ht : P.underlying t = some (.struct fs)) (hf : fs[i]? = some f) {s off : Nat} (hs : (P.info? f.type).map (·.size) = some (s + 1)) (hoff : o1 + f.offset = off) : Yld P n env o (.pointer (some (ad.add off))) w := by
 have h := y_fieldAddr (w := w) ho hx ht hf hs rfl
 rw [add_add, hoff] at h
 exact h
theorem s_glit {C0 F C : NP} {w0 : World} {os : List MO} {cl : List Cl} {α : Type} {c : Cod α} {xs : List α} {b : Bool} {len bytes : Nat} {zv : Value} {ps : List (Nat × Operand)} {vs : List (Nat × Value)} {cs : Array Value} {css : List (List Value)} (hI : Bun C0 F w0 C w os cl) (hg : Grd n env ops o b) (hd : o.dst = some d) (ho : o.op = .buildSlice t len ps.toArray) (ht : P.underlying t = some (.slice e)) (hi : Info P e c.n bytes zv) (hlen : Nat.ble (len * c.n) 16777216 = true)
  (hp : b = true → EvL n env ps vs) (hf : Instr.fill (fun i => some (i * c.n, c.n)) ((Array.range (len * c.n)).map (fun i => (if len * c.n = 0 then #[] else zv.cells)[i % (if len * c.n = 0 then #[] else zv.cells).size]!)) vs = some cs)
  (hr : Rels c (Dj F C) w xs css) (hx : xs.length = len) (hcs : cs.toList = css.flatten) (_hl2 : Nat.ble len 4294967296 = true)
  (h : ∀ A w', Ext w w' → (b = true → SlC c (Dj F C) w' A len xs) → SeqW P ro n ops Kn Ke Kr rest ((d, gv b (.slice A xs.length len)) :: env) w') : SeqW P ro n ops Kn Ke Kr (o :: rest) env w := by
 subst hx
 cases b with
 | true =>
  refine s_val (v := .slice (some ⟨w.heap.size, 0, none⟩) xs.length xs.length) hg hd (w' := w.alloc (.cells cs e)) (fun a ha => by
   unfold execOp
   simp only [ho, (hp rfl).map ha, Sem.run_bind, run_buildSlice (w := w) ht hi hlen hf, Result.andThen_ok, Sem.run_pure]) (h (some ⟨w.heap.size, 0, none⟩) _ (Ext.alloc _) fun _ => ⟨Nat.le_refl _, fun _ => ⟨_, rfl, ?_, ?_, css, hr.sp (Sp.of_ext (Ext.alloc _)), ?_⟩⟩)
  ·show w.heap.size < (w.heap.push _).size
   rw [Array.size_push]; exact Nat.lt_succ_self _
  ·exact fun k => k.elim (fun k => absurd (hI.fl _ k) (Nat.lt_irrefl _)) (fun k => absurd (hI.st.lt _ k) (Nat.lt_irrefl _))
  ·exact CellsAt.of_blk Blk.new (by simp only [List.drop_zero, hcs]; exact List.take_of_length_le (Nat.le_refl _))
 | false => exact s_does fun a _ ha => does_not (hg a ha) ⟨_, by rw [hd]; exact ha.put d undef, h none w .rfl' fun k => by cases k⟩
end
end Go.Vc
