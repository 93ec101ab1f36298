import Derived.Test.YtmhoikfoogemnaaGreatDoorGVcOps
import Derived.Maps.AppendAt
import Derived.Laws.MakeOwn
import Derived.Laws.OwnMore
import Derived.Laws.IdiomStrings
namespace Go.Vc
open Go Go.RowKit
abbrev du:Nat→Prop:=λ_=>False
structure Stp (M:Nat→Prop) (w:World) (M':Nat→Prop) (w':World):Prop where
 os:w'.os=w.os
 tape:w'.tape=w.tape
 output:w'.output=w.output
 size:w.heap.size≤w'.heap.size
 keep:∀ k,k<w.heap.size→¬ M k→w'.heap[k]? =w.heap[k]? ∧¬ M' k
 lt:∀ k,M' k→k<w'.heap.size
section
variable {M M' M'':Nat→Prop} {a b c w w' w0:World}
theorem Stp.start:Stp du w0 du w0:=⟨rfl,rfl,rfl,Nat.le_refl _,λ_ _ h=>⟨rfl,h⟩,λ_ h=>h.elim⟩
theorem Stp.ext0 (h:Stp du w0 M w):Ext w0 w:=⟨h.os,h.tape,h.output,h.size,λk hk=>(h.keep k hk (λh=>h)).1⟩
theorem Stp.step (h:Stp M a M' b) (hx:Ext b c):Stp M a M' c:=
 ⟨hx.os.trans h.os,hx.tape.trans h.tape,hx.output.trans h.output,Nat.le_trans h.size hx.size,λi hi hn=>
  ⟨(hx.block i (Nat.lt_of_lt_of_le hi h.size)).trans (h.keep i hi hn).1,(h.keep i hi hn).2⟩,λk hk=>Nat.lt_of_lt_of_le (h.lt k hk) hx.size⟩
def LK (A:Option Addr):Option Nat:=A.map (·.block)
theorem mF (A:Option Addr) (n c:Nat):(Value.slice A n c).ownBlock=LK A:=by cases A<;>rfl
section
variable {e:TypeId} {size n:Nat} {A A2:Option Addr} {n2 c' c2:Nat} {xs:List Value}
end
end
section
variable {P:Program} {ro:Ro} {n:Fr} {Kn:Act→World→Prop} {Ke:Nat→Act→World→Prop} {Kr:Act→World→Prop} {env:lw} {w:World}
variable {ops:Array Oper} {rest:List Oper} {rs:Tr} {fl:Fl} {o:Oper} {i d:Nat} {x y z:Operand} {t e:TypeId} {M:Nat→Prop}
def re (P:Program) (e:TypeId) (size bytes:Nat) (z:Value):Prop:=∃ j,P.info? e=some j∧j.zero=some z∧j.size=size∧j.bytes=bytes∧z.cells.size=size
theorem oJ {size bytes:Nat} {z:Value} (h:(P.info? e).map (λi=>(i.zero,i.size,i.bytes))=some (some z,size,bytes)) (hz:z.cells.size=size):re P e size bytes z:=by
 obtain⟨j,hj,h2⟩:=Option.map_eq_some_iff.1 h
 simp only[Prod.mk.injEq]at h2
 exact⟨j,hj,h2.1,h2.2.1,h2.2.2,hz⟩
theorem ta {size len:Nat} {zv:Value} {bytes:Nat} {vs:List (Nat×Value)} {cs:Array Value} (ht:P.underlying t=some (.slice e)) (hi:re P e size bytes zv) (hlen:Nat.ble (len * size) 16777216=true)
  (hf:Instr.fill (λi=>some (i * size,size)) ((Array.range (len * size)).map (λi=>(if len * size=0 then #[]else zv.cells)[i % (if len * size=0 then #[]else zv.cells).size]!)) vs=some cs):
  (Instr.buildSlice t len vs.toArray).run P w= .ok (.slice (some ⟨w.heap.size,0,none⟩) len len) (w.alloc (.cells cs e)):=by
 obtain⟨j,hj,hz,hs,hby,hzs⟩:=hi
 have hl:=Nat.le_of_ble_eq_true hlen
 by_cases h0:len * size=0
 ·have e0:∀ f:Nat→Value,(Array.range 0).map f= #[]:=λf=>by simp
  simp only[h0,if_true,e0]at hf
  have hb:(Instr.buildSlice t len vs.toArray).run P w=((match Instr.fill (λi=>some (i * size,size)) #[] vs with | some cells=>(do pure (.slice (some (← newRow e cells)) len len):Sem Value) | none=>stuck "buildSlice: a part of the wrong size").run P w):=by
   simp[Instr.buildSlice,run_underlying ht,sizeOf,typeInfo,hj,hs,h0,e0]
   cases Instr.fill (λi=>some (i * size,size)) #[] vs<;>rfl
  rw[hb,hf]
  simp[newRow,newObj,Sem.run]
 ·simp only[h0,if_false]at hf
  simp[Instr.buildSlice,run_underlying ht,sizeOf,typeInfo,hj,hs,h0,hf,newRow,newObj,Sem.run,zeroValue,hz,Nat.not_lt.2 hl]
theorem F8 {A:Option Addr} {m c size:Nat} {p q:Int} {k k':IntKind} {r:Option Operand} (ho:o.op= .slice t x (some y) (some z) r) (hr:r=none) (ht:P.underlying t=some (.slice e)) (hs:(P.info? e).map (·.size)=some size) (hx:Ev n env x (.slice A m c)) (hy:Ev n env y (.int k p)) (hz:Ev n env z (.int k' q)) (h0:0≤p∧p≤q∧q≤c):
  iE P n env o (.slice (if c=p.toNat then A else A.map (·.add (p.toNat * size))) (q.toNat - p.toNat) (c - p.toNat)) w:=λa ha=>by
 subst hr
 obtain⟨j,hj,hs⟩:=Option.map_eq_some_iff.1 hs
 have h:P.underlying t=some (.slice (P.elem t)):=by simp[Program.elem,ht]
 have he:P.elem t=e:=by simp[Program.elem,ht]
 simp only[execOp,ho,hx a ha,hy a ha,hz a ha,Option.map_some,Option.map_none]
 simp[Instr.sliceAt,Instr.slice,Instr.sliceBounds,Instr.sliceBound,run_underlying ht,asIntOf,h0.1,h0.2.1,h0.2.2,sizeOf,typeInfo,hj,hs,show 0≤q by omega,Int.toNat_of_nonneg (show 0≤q by omega)]
theorem Do {A:Option Addr} {m c size:Nat} {p:Int} {k:IntKind} {r:Option Operand} (ho:o.op= .slice t x (some y) none r) (hr:r=none) (ht:P.underlying t=some (.slice e)) (hs:(P.info? e).map (·.size)=some size) (hx:Ev n env x (.slice A m c)) (hy:Ev n env y (.int k p)) (h0:0≤p∧p≤m):
  iE P n env o (.slice (if c=p.toNat then A else A.map (·.add (p.toNat * size))) (m - p.toNat) (c - p.toNat)) w:=λa ha=>by
 subst hr
 obtain⟨j,hj,hs⟩:=Option.map_eq_some_iff.1 hs
 simp only[execOp,ho,hx a ha,hy a ha,Option.map_some,Option.map_none]
 simp[Instr.sliceAt,Instr.slice,Instr.sliceBounds,Instr.sliceBound,run_underlying ht,asIntOf,h0.1,h0.2,sizeOf,typeInfo,hj,hs]
end
end Go.Vc
namespace Go.Vc
open Go Go.RowKit
section
variable {P:Program} {ro:Ro} {n:Fr} {Kn:Act→World→Prop} {Ke:Nat→Act→World→Prop} {Kr:Act→World→Prop} {env:lw} {w:World}
variable {ops:Array Oper} {rest:List Oper} {rs:Tr} {fl:Fl} {o:Oper} {i d:Nat} {x y z:Operand} {t e:TypeId} {M:Nat→Prop}
def FZ (l:List Value) (i:Nat) (new:List Value):List Value:=l.take i++new++l.drop (i+new.length)
theorem Gc {k:IntKind} {p q:Int} {t t':TypeId} (ho:o.op= .call { callee:= .builtin .max,args:=#[x,y],argTypes:=#[t,t'] }) (hx:Ev n env x (.int k p)) (hy:Ev n env y (.int k q)):iE P n env o (.int k (max p q)) w:=λa ha=>by
 have e:max p q=if q>p then q else p:=by split<;>omega
 unfold execOp
 simp only[ho,resolve,invoke,builtin,Sem.run_bind,Sem.run_pure,Result.andThen_ok,List.map_toArray,List.map_cons,List.map_nil,hx a ha,hy a ha]
 simp[Builtin.max_,Builtin.max2,e]
theorem KM {k:IntKind} {p q:Int} {t t':TypeId} (ho:o.op= .call { callee:= .builtin .min,args:=#[x,y],argTypes:=#[t,t'] }) (hx:Ev n env x (.int k p)) (hy:Ev n env y (.int k q)):iE P n env o (.int k (min p q)) w:=λa ha=>by
 have e:min p q=if q<p then q else p:=by split<;>omega
 unfold execOp
 simp only[ho,resolve,invoke,builtin,Sem.run_bind,Sem.run_pure,Result.andThen_ok,List.map_toArray,List.map_cons,List.map_nil,hx a ha,hy a ha]
 simp[Builtin.min_,Builtin.min2,e]
theorem b8 {q:Int} (h:0≤q∧q≤255):(((UInt8.ofNat q.toNat).toNat:Nat):Int)=q:=by
 rw[UInt8.toNat_ofNat_of_lt' (by show q.toNat<256;omega)];omega
end
end Go.Vc
namespace Go.Vc
open Go Go.RowKit
theorem qp (a b:Int):(a==b)=decide (a=b):=rfl
theorem qo (a b:List UInt8):(a==b)=decide (a=b):=BI a b
end Go.Vc
