import Derived.Test.YtmhoikfoogemnaaGreatDoorKVcOps
import Derived.Maps.AppendAt
import Derived.Laws.MakeOwn
import Derived.Laws.OwnMore
import Derived.Laws.IdiomStrings
namespace Go.Vc
open Go Go.RowKit
abbrev du:Nat→Prop:=fun _=>False
structure Stp (M:Nat→Prop) (w:World) (M':Nat→Prop) (w':World):Prop where
 os:w'.os=w.os
 tape:w'.tape=w.tape
 output:w'.output=w.output
 size:w.heap.size≤w'.heap.size
 keep:∀ k,k<w.heap.size→¬ M k→w'.heap[k]? =w.heap[k]? ∧¬ M' k
 lt:∀ k,M' k→k<w'.heap.size
section
variable {M M' M'':Nat→Prop} {a b c w w' w0:World}
theorem Stp.start:Stp du w0 du w0:=⟨rfl,rfl,rfl,Nat.le_refl _,fun _ _ h=>⟨rfl,h⟩,fun _ h=>h.elim⟩
theorem Stp.ext0 (h:Stp du w0 M w):Ext w0 w:=⟨h.os,h.tape,h.output,h.size,fun k hk=>(h.keep k hk (fun h=>h)).1⟩
theorem Stp.step (h:Stp M a M' b) (hx:Ext b c):Stp M a M' c:=
 ⟨hx.os.trans h.os,hx.tape.trans h.tape,hx.output.trans h.output,Nat.le_trans h.size hx.size,fun i hi hn=>
  ⟨(hx.block i (Nat.lt_of_lt_of_le hi h.size)).trans (h.keep i hi hn).1,(h.keep i hi hn).2⟩,fun k hk=>Nat.lt_of_lt_of_le (h.lt k hk) hx.size⟩
def IA (A:Option Addr):Option Nat:=A.map (·.block)
theorem lB (A:Option Addr) (n c:Nat):(Value.slice A n c).ownBlock=IA A:=by cases A<;>rfl
section
variable {e:TypeId} {size n:Nat} {A A2:Option Addr} {n2 c' c2:Nat} {xs:List Value}
end
end
section
variable {P:Program} {ro:Ro} {n:Fr} {Kn:Act→World→Prop} {Ke:Nat→Act→World→Prop} {Kr:Act→World→Prop} {env:kE} {w:World}
variable {ops:Array Oper} {rest:List Oper} {rs:Tr} {fl:Fl} {o:Oper} {i d:Nat} {x y z:Operand} {t e:TypeId} {M:Nat→Prop}
def rg (P:Program) (e:TypeId) (size bytes:Nat) (z:Value):Prop:=∃ j,P.info? e=some j∧j.zero=some z∧j.size=size∧j.bytes=bytes∧z.cells.size=size
theorem p9 {size bytes:Nat} {z:Value} (h:(P.info? e).map (fun i=>(i.zero,i.size,i.bytes))=some (some z,size,bytes)) (hz:z.cells.size=size):rg P e size bytes z:=by
 obtain⟨j,hj,h2⟩:=Option.map_eq_some_iff.1 h
 simp only[Prod.mk.injEq]at h2
 exact⟨j,hj,h2.1,h2.2.1,h2.2.2,hz⟩
theorem qG {size len:Nat} {zv:Value} {bytes:Nat} {vs:List (Nat×Value)} {cs:Array Value} (ht:P.underlying t=some (.slice e)) (hi:rg P e size bytes zv) (hlen:Nat.ble (len * size) 16777216=true)
  (hf:Instr.fill (fun i=>some (i * size,size)) ((Array.range (len * size)).map (fun i=>(if len * size=0 then #[]else zv.cells)[i % (if len * size=0 then #[]else zv.cells).size]!)) vs=some cs):
  (Instr.buildSlice t len vs.toArray).run P w= .ok (.slice (some ⟨w.heap.size,0,none⟩) len len) (w.alloc (.cells cs e)):=by
 obtain⟨j,hj,hz,hs,hby,hzs⟩:=hi
 have hl:=Nat.le_of_ble_eq_true hlen
 by_cases h0:len * size=0
 ·have e0:∀ f:Nat→Value,(Array.range 0).map f= #[]:=fun f=>by simp
  simp only[h0,if_true,e0]at hf
  have hb:(Instr.buildSlice t len vs.toArray).run P w=((match Instr.fill (fun i=>some (i * size,size)) #[] vs with | some cells=>(do pure (.slice (some (← newRow e cells)) len len):Sem Value) | none=>stuck "buildSlice: a part of the wrong size").run P w):=by
   simp[Instr.buildSlice,run_underlying ht,sizeOf,typeInfo,hj,hs,h0,e0]
   cases Instr.fill (fun i=>some (i * size,size)) #[] vs<;>rfl
  rw[hb,hf]
  simp[newRow,newObj,Sem.run]
 ·simp only[h0,if_false]at hf
  simp[Instr.buildSlice,run_underlying ht,sizeOf,typeInfo,hj,hs,h0,hf,newRow,newObj,Sem.run,zeroValue,hz,Nat.not_lt.2 hl]
theorem AM {A:Option Addr} {m c size:Nat} {p:Int} {k:IntKind} {r:Option Operand} (ho:o.op= .slice t x (some y) none r) (hr:r=none) (ht:P.underlying t=some (.slice e)) (hs:(P.info? e).map (·.size)=some size) (hx:Ev n env x (.slice A m c)) (hy:Ev n env y (.int k p)) (h0:0≤p∧p≤m):
  hH P n env o (.slice (if c=p.toNat then A else A.map (·.add (p.toNat * size))) (m - p.toNat) (c - p.toNat)) w:=fun a ha=>by
 subst hr
 obtain⟨j,hj,hs⟩:=Option.map_eq_some_iff.1 hs
 simp only[execOp,ho,hx a ha,hy a ha,Option.map_some,Option.map_none]
 simp[Instr.sliceAt,Instr.slice,Instr.sliceBounds,Instr.sliceBound,run_underlying ht,asIntOf,h0.1,h0.2,sizeOf,typeInfo,hj,hs]
end
end Go.Vc
namespace Go.Vc
open Go Go.RowKit
section
variable {P:Program} {ro:Ro} {n:Fr} {Kn:Act→World→Prop} {Ke:Nat→Act→World→Prop} {Kr:Act→World→Prop} {env:kE} {w:World}
variable {ops:Array Oper} {rest:List Oper} {rs:Tr} {fl:Fl} {o:Oper} {i d:Nat} {x y z:Operand} {t e:TypeId} {M:Nat→Prop}
def Db (l:List Value) (i:Nat) (new:List Value):List Value:=l.take i++new++l.drop (i+new.length)
theorem Dm {k:IntKind} {p q:Int} {t t':TypeId} (ho:o.op= .call { callee:= .builtin .max,args:=#[x,y],argTypes:=#[t,t'] }) (hx:Ev n env x (.int k p)) (hy:Ev n env y (.int k q)):hH P n env o (.int k (max p q)) w:=fun a ha=>by
 have e:max p q=if q>p then q else p:=by split<;>omega
 unfold execOp
 simp only[ho,resolve,invoke,builtin,Sem.run_bind,Sem.run_pure,Result.andThen_ok,List.map_toArray,List.map_cons,List.map_nil,hx a ha,hy a ha]
 simp[Builtin.max_,Builtin.max2,e]
theorem HI {k:IntKind} {p q:Int} {t t':TypeId} (ho:o.op= .call { callee:= .builtin .min,args:=#[x,y],argTypes:=#[t,t'] }) (hx:Ev n env x (.int k p)) (hy:Ev n env y (.int k q)):hH P n env o (.int k (min p q)) w:=fun a ha=>by
 have e:min p q=if q<p then q else p:=by split<;>omega
 unfold execOp
 simp only[ho,resolve,invoke,builtin,Sem.run_bind,Sem.run_pure,Result.andThen_ok,List.map_toArray,List.map_cons,List.map_nil,hx a ha,hy a ha]
 simp[Builtin.min_,Builtin.min2,e]
theorem b8 {q:Int} (h:0≤q∧q≤255):(((UInt8.ofNat q.toNat).toNat:Nat):Int)=q:=by
 rw[UInt8.toNat_ofNat_of_lt' (by show q.toNat<256;omega)];omega
end
end Go.Vc
namespace Go.Vc
open Go Go.RowKit
theorem oM (a b:Int):(a==b)=decide (a=b):=rfl
theorem oL (a b:List UInt8):(a==b)=decide (a=b):=za a b
end Go.Vc
