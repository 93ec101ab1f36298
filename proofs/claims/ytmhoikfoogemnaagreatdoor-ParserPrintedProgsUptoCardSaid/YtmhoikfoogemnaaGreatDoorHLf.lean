import Derived.Test.YtmhoikfoogemnaaGreatDoorHVcOps
import Derived.Maps.AppendAt
import Derived.Laws.MakeOwn
import Derived.Laws.OwnMore
import Derived.Laws.IdiomStrings
namespace Go.Vc
open Go Go.RowKit
abbrev cH:Nat→Prop:=λ_=>False
structure Stp (M:Nat→Prop) (w:World) (M':Nat→Prop) (w':World):Prop where
 os:w'.os=w.os
 tape:w'.tape=w.tape
 output:w'.output=w.output
 size:w.heap.size≤w'.heap.size
 keep:∀ k,k<w.heap.size→¬ M k→w'.heap[k]? =w.heap[k]? ∧¬ M' k
 lt:∀ k,M' k→k<w'.heap.size
section
variable {M M' M'':Nat→Prop} {a b c w w' w0:World}
theorem Stp.start:Stp cH w0 cH w0:=⟨rfl,rfl,rfl,Nat.le_refl _,λ_ _ h=>⟨rfl,h⟩,λ_ h=>h.elim⟩
theorem Stp.ext0 (h:Stp cH w0 M w):Ext w0 w:=⟨h.os,h.tape,h.output,h.size,λk hk=>(h.keep k hk (λh=>h)).1⟩
theorem Stp.step (h:Stp M a M' b) (hx:Ext b c):Stp M a M' c:=
 ⟨hx.os.trans h.os,hx.tape.trans h.tape,hx.output.trans h.output,Nat.le_trans h.size hx.size,λi hi hn=>
  ⟨(hx.block i (Nat.lt_of_lt_of_le hi h.size)).trans (h.keep i hi hn).1,(h.keep i hi hn).2⟩,λk hk=>Nat.lt_of_lt_of_le (h.lt k hk) hx.size⟩
def QY (A:Option Addr):Option Nat:=A.map (·.block)
theorem lM (A:Option Addr) (n c:Nat):(Value.slice A n c).ownBlock=QY A:=by cases A<;>rfl
section
variable {e:TypeId} {size n:Nat} {A A2:Option Addr} {n2 c' c2:Nat} {xs:List Value}
end
end
section
variable {P:Program} {ro:Ro} {n:Fr} {Kn:Act→World→Prop} {Ke:Nat→Act→World→Prop} {Kr:Act→World→Prop} {env:kW} {w:World}
variable {ops:Array Oper} {rest:List Oper} {rs:Tr} {fl:Fl} {o:Oper} {i d:Nat} {x y z:Operand} {t e:TypeId} {M:Nat→Prop}
def qM (P:Program) (e:TypeId) (size bytes:Nat) (z:Value):Prop:=∃ j,P.info? e=some j∧j.zero=some z∧j.size=size∧j.bytes=bytes∧z.cells.size=size
theorem ni {size bytes:Nat} {z:Value} (h:(P.info? e).map (λi=>(i.zero,i.size,i.bytes))=some (some z,size,bytes)) (hz:z.cells.size=size):qM P e size bytes z:=by
 obtain⟨j,hj,h2⟩:=Option.map_eq_some_iff.1 h
 simp only[Prod.mk.injEq]at h2
 exact⟨j,hj,h2.1,h2.2.1,h2.2.2,hz⟩
theorem tz {size len:Nat} {zv:Value} {bytes:Nat} {vs:List (Nat×Value)} {cs:Array Value} (ht:P.underlying t=some (.slice e)) (hi:qM P e size bytes zv) (hlen:Nat.ble (len * size) 16777216=true)
  (hf:Instr.fill (λi=>some (i * size,size)) ((Array.range (len * size)).map (λi=>(if len * size=0 then #[]else zv.cells)[i % (if len * size=0 then #[]else zv.cells).size]!)) vs=some cs):
  (Instr.buildSlice t len vs.toArray).run P w= .ok (.slice (some ⟨w.heap.size,0,none⟩) len len) (w.alloc (.cells cs e)):=by
 obtain⟨j,hj,hz,hs,hby,hzs⟩:=hi
 have hl:=Nat.le_of_ble_eq_true hlen
 by_cases h0:len * size=0
 ·have e0:∀ f:Nat→Value,(Array.range 0).map f= #[]:=λf=>by simp
  simp only[h0,if_true,e0]at hf
  have hb:(Instr.buildSlice t len vs.toArray).run P w=((match Instr.fill (λi=>some (i * size,size)) #[] vs with | some cells=>(do pure (.slice (some (← newRow e cells)) len len):Sem Value) | none=>stuck "buildSlice: a part of the wrong size").run P w):=by
   simp[Instr.buildSlice,run_underlying ht,sizeOf,typeInfo,hj,hs,h0,e0]
   cases Instr.fill (λi=>some (i * size,size)) #[] vs<;>rfl
  rw[hb,hf]
  simp[newRow,newObj,Sem.run]
 ·simp only[h0,if_false]at hf
  simp[Instr.buildSlice,run_underlying ht,sizeOf,typeInfo,hj,hs,h0,hf,newRow,newObj,Sem.run,zeroValue,hz,Nat.not_lt.2 hl]
theorem Fb {A:Option Addr} {m c size:Nat} {p:Int} {k:IntKind} {r:Option Operand} (ho:o.op= .slice t x (some y) none r) (hr:r=none) (ht:P.underlying t=some (.slice e)) (hs:(P.info? e).map (·.size)=some size) (hx:Ev n env x (.slice A m c)) (hy:Ev n env y (.int k p)) (h0:0≤p∧p≤m):
  hH P n env o (.slice (if c=p.toNat then A else A.map (·.add (p.toNat * size))) (m - p.toNat) (c - p.toNat)) w:=λa ha=>by
 subst hr
 obtain⟨j,hj,hs⟩:=Option.map_eq_some_iff.1 hs
 simp only[execOp,ho,hx a ha,hy a ha,Option.map_some,Option.map_none]
 simp[Instr.sliceAt,Instr.slice,Instr.sliceBounds,Instr.sliceBound,run_underlying ht,asIntOf,h0.1,h0.2,sizeOf,typeInfo,hj,hs]
end
end Go.Vc
namespace Go.Vc
open Go Go.RowKit
section
variable {P:Program} {ro:Ro} {n:Fr} {Kn:Act→World→Prop} {Ke:Nat→Act→World→Prop} {Kr:Act→World→Prop} {env:kW} {w:World}
variable {ops:Array Oper} {rest:List Oper} {rs:Tr} {fl:Fl} {o:Oper} {i d:Nat} {x y z:Operand} {t e:TypeId} {M:Nat→Prop}
theorem Iz {k:IntKind} {p q:Int} {t t':TypeId} (ho:o.op= .call { callee:= .builtin .max,args:=#[x,y],argTypes:=#[t,t'] }) (hx:Ev n env x (.int k p)) (hy:Ev n env y (.int k q)):hH P n env o (.int k (max p q)) w:=λa ha=>by
 have e:max p q=if q>p then q else p:=by split<;>omega
 unfold execOp
 simp only[ho,resolve,invoke,builtin,Sem.run_bind,Sem.run_pure,Result.andThen_ok,List.map_toArray,List.map_cons,List.map_nil,hx a ha,hy a ha]
 simp[Builtin.max_,Builtin.max2,e]
theorem PA {k:IntKind} {p q:Int} {t t':TypeId} (ho:o.op= .call { callee:= .builtin .min,args:=#[x,y],argTypes:=#[t,t'] }) (hx:Ev n env x (.int k p)) (hy:Ev n env y (.int k q)):hH P n env o (.int k (min p q)) w:=λa ha=>by
 have e:min p q=if q<p then q else p:=by split<;>omega
 unfold execOp
 simp only[ho,resolve,invoke,builtin,Sem.run_bind,Sem.run_pure,Result.andThen_ok,List.map_toArray,List.map_cons,List.map_nil,hx a ha,hy a ha]
 simp[Builtin.min_,Builtin.min2,e]
theorem b8 {q:Int} (h:0≤q∧q≤255):(((UInt8.ofNat q.toNat).toNat:Nat):Int)=q:=by
 rw[UInt8.toNat_ofNat_of_lt' (by show q.toNat<256;omega)];omega
end
end Go.Vc
namespace Go.Vc
open Go Go.RowKit
theorem HA {ad:Addr} {i j:Nat} :(ad.add i).add j=ad.add (i+j):=by
 unfold Addr.add
 by_cases hi:i=0<;>by_cases hj:j=0<;>simp[hi,hj,Nat.add_assoc]
theorem qs (a b:Int):(a==b)=decide (a=b):=rfl
theorem qr (a b:List UInt8):(a==b)=decide (a=b):=Do a b
end Go.Vc
namespace Go.Vc
open Go Go.RowKit
abbrev NP:=Nat→Prop
def Dj (F C:NP):NP:=λk=>F k∨C k
def DM (md:Bool) (F C:NP):NP:=match md with | true=>Dj F C | false=>cH
structure Sp (D:NP) (w:World) (D':NP) (w':World):Prop where
 size:w.heap.size≤w'.heap.size
 keep:∀ k,k<w.heap.size→¬ D k→w'.heap[k]? =w.heap[k]? ∧¬ D' k
section
variable {D D' D'' C C' C0 F:NP} {w w' w'' w0:World}
theorem Sp.trans (h:Sp D w D' w') (k:Sp D' w' D'' w''):Sp D w D'' w'':=
 ⟨Nat.le_trans h.size k.size,λi hi hn=>⟨(k.keep i (Nat.lt_of_lt_of_le hi h.size) (h.keep i hi hn).2).1.trans (h.keep i hi hn).1,(k.keep i (Nat.lt_of_lt_of_le hi h.size) (h.keep i hi hn).2).2⟩⟩
theorem Rb (h:Ext w w'):Sp D w D w':=⟨h.size,λk hk hn=>⟨h.block k hk,hn⟩⟩
theorem Ra (h:∀ k,D' k→D k):Sp D w D' w:=⟨Nat.le_refl _,λk _ hn=>⟨rfl,λhd=>hn (h k hd)⟩⟩
end
structure Cod (α:Type) where
 n:Nat
 rel:NP→World→α→List Value→Prop
 len:∀ {D w x cs},rel D w x cs→cs.length=n
 one:∀ {D w x cs},rel D w x cs→cs.all (·.oneCell')=true
 sp:∀ {D w D' w' x cs},Sp D w D' w'→rel D w x cs→rel D' w' x cs
def nz (k:IntKind):Cod Int where
 n:=1
 rel _ _ x cs:=cs=[.int k x]
 len h:=by subst h;rfl
 one h:=by subst h;rfl
 sp _ h:=h
def M4:Cod Bool where
 n:=1
 rel _ _ x cs:=cs=[.bool x]
 len h:=by subst h;rfl
 one h:=by subst h;rfl
 sp _ h:=h
def be:Cod (List UInt8) where
 n:=1
 rel _ _ x cs:=cs=[str x]
 len h:=by subst h;rfl
 one h:=by subst h;rfl
 sp _ h:=h
def Rels {α:Type} (c:Cod α) (D:NP) (w:World):List α→List (List Value)→Prop
 | [],[]=>True
 | x::xs,cs::css=>c.rel D w x cs∧Rels c D w xs css
 | _,_=>False
section
variable {α:Type} {c:Cod α} {D D':NP} {w w':World} {xs ys:List α} {css dss:List (List Value)}
theorem Rels.sp (hs:Sp D w D' w') (h:Rels c D w xs css):Rels c D' w' xs css:=by
 induction xs generalizing css with
 | nil=>cases css<;>exact h
 | cons x xs ih=>cases css with
  | nil=>exact h
  | cons cs css=>exact⟨c.sp hs h.1,ih h.2⟩
theorem Rels.flat (h:Rels c D w xs css):css.flatten.length=xs.length * c.n:=by
 induction xs generalizing css with
 | nil=>cases css with | nil=>simp | cons=>exact h.elim
 | cons x xs ih=>cases css with
  | nil=>exact h.elim
  | cons cs css=>simp only[List.flatten_cons,List.length_append,ih h.2,c.len h.1,List.length_cons,Nat.add_mul];omega
theorem Rels.one (h:Rels c D w xs css):css.flatten.all (·.oneCell')=true:=by
 induction xs generalizing css with
 | nil=>cases css with | nil=>rfl | cons=>exact h.elim
 | cons x xs ih=>cases css with
  | nil=>exact h.elim
  | cons cs css=>simp only[List.flatten_cons,List.all_append,c.one h.1,ih h.2,Bool.and_self]
theorem Rels.append (h:Rels c D w xs css) (k:Rels c D w ys dss):Rels c D w (xs++ys) (css++dss):=by
 induction xs generalizing css with
 | nil=>cases css with | nil=>exact k | cons=>exact h.elim
 | cons x xs ih=>cases css with
  | nil=>exact h.elim
  | cons cs css=>exact⟨h.1,ih h.2⟩
theorem Rels.drop (h:Rels c D w xs css) (n:Nat):Rels c D w (xs.drop n) (css.drop n):=by
 induction xs generalizing css n with
 | nil=>cases css with | nil=>simpa using h | cons=>exact h.elim
 | cons x xs ih=>cases css with
  | nil=>exact h.elim
  | cons cs css=>cases n with
   | zero=>exact h
   | succ n=>exact ih h.2 n
theorem Rels.at_ (h:Rels c D w xs css) {i:Nat} {x:α} (hx:xs[i]? =some x):∃ cs,css[i]? =some cs∧c.rel D w x cs:=by
 induction xs generalizing css i with
 | nil=>simp at hx
 | cons y xs ih=>cases css with
  | nil=>exact h.elim
  | cons cs css=>cases i with
   | zero=>simp at hx;subst hx;exact⟨cs,by simp,h.1⟩
   | succ i=>simpa using ih h.2 (by simpa using hx)
theorem Rels.part (h:Rels c D w xs css) {i:Nat} {cs:List Value} (hi:css[i]? =some cs):(css.flatten.drop (i * c.n)).take c.n=cs∧i * c.n+c.n≤css.flatten.length:=by
 induction xs generalizing css i with
 | nil=>cases css with | nil=>simp at hi | cons=>exact h.elim
 | cons y xs ih=>cases css with
  | nil=>exact h.elim
  | cons ds css=>
   have hl:=c.len h.1
   cases i with
   | zero=>
    simp at hi;subst hi
    simp only[List.flatten_cons,Nat.zero_mul,List.drop_zero,List.length_append]
    exact⟨by rw[← hl];exact List.take_left,by omega⟩
   | succ i=>
    obtain⟨h1,h2⟩:=ih h.2 (i:=i) (by simpa using hi)
    have e:(i+1) * c.n=ds.length+i * c.n:=by rw[Nat.add_mul,hl];omega
    simp only[List.flatten_cons,e,List.length_append]
    refine⟨?_,by omega⟩
    rw[← List.drop_drop,List.drop_left,h1]
end
def Rd {α:Type} (c:Cod α) (D:NP) (w:World) (A:Option Addr) (xs:List α):Prop:=
 0<xs.length→∃ ad,A=some ad∧∃ css,Rels c D w xs css∧CellsAt w ad css.flatten
def SlC {α:Type} (c:Cod α) (D:NP) (w:World) (A:Option Addr) (cap:Nat) (xs:List α):Prop:=
 xs.length≤cap∧(0<xs.length→∃ ad,A=some ad∧ad.block<w.heap.size∧¬ D ad.block∧∃ css,Rels c D w xs css∧CellsAt w ad css.flatten)
theorem qD {ad:Addr} {j:Nat} :(ad.add j).block=ad.block:=by unfold Addr.add;split<;>rfl
theorem CellsAt.same {w w':World} {ad:Addr} {l:List Value} (h:CellsAt w ad l) (he:w'.heap[ad.block]? =w.heap[ad.block]?):CellsAt w' ad l:=λj u hu=>
 (World.cell?_of_block (by rw[qD];exact he)).trans (h j u hu)
section
variable {α:Type} {c:Cod α} {D D':NP} {w w':World} {A:Option Addr} {xs:List α}
variable {cap:Nat}
theorem SlC.rd (h:SlC c D w A cap xs):Rd c D w A xs:=λhn=>let ⟨ad,h1,_,_,h4⟩:=h.2 hn;⟨ad,h1,h4⟩
theorem SlC.nil {A:Option Addr} :SlC c D w A cap []:=⟨Nat.zero_le _,λh=>absurd h (by simp)⟩
theorem SlC.sp (hs:Sp D w D' w') (h:SlC c D w A cap xs):SlC c D' w' A cap xs:=by
 refine⟨h.1,λhn=>?_⟩
 obtain⟨ad,h1,h2,h3,css,h4,h5⟩:=h.2 hn
 have hk:=hs.keep _ h2 h3
 exact⟨ad,h1,Nat.lt_of_lt_of_le h2 hs.size,hk.2,css,h4.sp hs,h5.same hk.1⟩
theorem Rd.at_ (h:Rd c D w A xs) {i:Nat} {x:α} (hx:xs[i]? =some x):∃ ad cs,A=some ad∧c.rel D w x cs∧CellsAt w (ad.add (i * c.n)) cs:=by
 have hi:i<xs.length:=(List.getElem?_eq_some_iff.1 hx).1
 obtain⟨ad,h1,css,h2,h3⟩:=h (by omega)
 obtain⟨cs,h4,h5⟩:=h2.at_ hx
 have:=(h2.part h4).1
 refine⟨ad,cs,h1,h5,h3.part ?_⟩
 rw[c.len h5];exact this
theorem CellsAt.drop {ad:Addr} {l:List Value} (h:CellsAt w ad l) (k:Nat):CellsAt w (ad.add k) (l.drop k):=h.part (by rw[List.take_of_length_le (Nat.le_refl _)])
theorem LV {α:Type} {c:Cod α} {D:NP} {w:World} {xs:List α} {css:List (List Value)} (h:Rels c D w xs css) (n:Nat):(css.take n).flatten=css.flatten.take (n * c.n):=by
 induction xs generalizing css n with
 | nil=>cases css with | nil=>simp | cons=>exact h.elim
 | cons x xs ih=>cases css with
  | nil=>exact h.elim
  | cons cs css=>cases n with
   | zero=>simp
   | succ n=>
    have e:(n+1) * c.n=cs.length+n * c.n:=by rw[Nat.add_mul,c.len h.1];omega
    simp only[List.take_succ_cons,List.flatten_cons,e,List.take_length_add_append,ih h.2]
theorem Cy {α:Type} {c:Cod α} {D:NP} {w:World} {xs:List α} {css:List (List Value)} (h:Rels c D w xs css) (n:Nat):(css.drop n).flatten=css.flatten.drop (n * c.n):=by
 induction xs generalizing css n with
 | nil=>cases css with | nil=>simp | cons=>exact h.elim
 | cons x xs ih=>cases css with
  | nil=>exact h.elim
  | cons cs css=>cases n with
   | zero=>simp
   | succ n=>
    have e:(n+1) * c.n=cs.length+n * c.n:=by rw[Nat.add_mul,c.len h.1];omega
    simp only[List.drop_succ_cons,List.flatten_cons,e,List.drop_length_add_append,ih h.2]
theorem SlC.drop (h:SlC c D w A cap xs) (n:Nat):SlC c D w (A.map (·.add (n * c.n))) (cap - n) (xs.drop n):=by
 refine⟨by rw[List.length_drop];have:=h.1;omega,λhn=>?_⟩
 rw[List.length_drop]at hn
 obtain⟨ad,h1,h2,h3,css,h4,h5⟩:=h.2 (by omega)
 subst h1
 exact⟨_,rfl,by rw[qD];exact h2,by rw[qD];exact h3,css.drop n,h4.drop n,by rw[Cy h4];exact h5.drop _⟩
end
def Ik {α:Type} (c:Cod α):Cod (List α) where
 n:=1
 rel D w xs cs:=∃ A cap,cs=[.slice A xs.length cap]∧SlC c D w A cap xs
 len h:=by obtain⟨A,cap,rfl,_⟩:=h;rfl
 one h:=by obtain⟨A,cap,rfl,_⟩:=h;rfl
 sp hs h:=by obtain⟨A,cap,h1,h2⟩:=h;exact⟨A,cap,h1,h2.sp hs⟩
structure Cl where
 p:NP→World→Prop
 sp:∀ {D w D' w'},Sp D w D' w'→p D w→p D' w'
def Cl.sl {α:Type} (c:Cod α) (A:Option Addr) (cap:Nat) (xs:List α):Cl:=⟨λD w=>SlC c D w A cap xs,λhs h=>h.sp hs⟩
def Rf {α:Type} (b:Bool) (c:Cod α) (A:Option Addr) (cap:Nat) (xs:List α):Cl:=⟨λD w=>b=true→SlC c D w A cap xs,λhs h hb=>(h hb).sp hs⟩
def AllCl:List Cl→NP→World→Prop
 | [],_,_=>True
 | c::r,D,w=>c.p D w∧AllCl r D w
inductive In:List Cl→Cl→Prop where
 | z {c:Cl} {r:List Cl} :In (c::r) c
 | s {a c:Cl} {r:List Cl} (h:In r c):In (a::r) c
def Subs (L:List Cl):List Cl→Prop
 | []=>True
 | c::r=>In L c∧Subs L r
section
variable {D D':NP} {w w':World} {L L':List Cl} {c:Cl}
theorem AllCl.sp (hs:Sp D w D' w') (h:AllCl L D w):AllCl L D' w':=by
 induction L with
 | nil=>trivial
 | cons a L ih=>exact⟨a.sp hs h.1,ih h.2⟩
theorem AllCl.get (h:AllCl L D w) (hi:In L c):c.p D w:=by
 induction hi with
 | z=>exact h.1
 | s _ ih=>exact ih h.2
theorem AllCl.subs (h:AllCl L D w) (hs:Subs L L'):AllCl L' D w:=by
 induction L' with
 | nil=>trivial
 | cons a L' ih=>exact⟨h.get hs.1,ih hs.2⟩
theorem AllCl.app (h:AllCl L D w) (k:AllCl L' D w):AllCl (L++L') D w:=by
 induction L with
 | nil=>exact k
 | cons a L ih=>exact⟨h.1,ih h.2⟩
end
structure MO where
 inv:NP→NP→World→Prop
 lt:∀ {C D w},inv C D w→∀ k,C k→k<w.heap.size
 sp:∀ {C D w D' w'},inv C D w→(∀ k,C k→w'.heap[k]? =w.heap[k]?)→Sp D w D' w'→inv C D' w'
def MO.box (b:Nat) (T:TypeId) (cs:Array Value):MO where
 inv C _ w:=(∀ k,C k↔k=b)∧Blk w b T cs
 lt h k hk:=by rw[(h.1 k).1 hk];exact h.2.lt
 sp h hc _:=⟨h.1,(hc b ((h.1 b).2 rfl)).trans h.2⟩
def Q6 {α:Type} (c:Cod α) (e:TypeId) (A:Option Addr) (cap:Nat) (xs:List α):MO where
 inv C D w:=(cap=0∧xs=[]∧∀ k,¬ C k)∨(∃ css,Rels c D w xs css∧w.ownsRow 0 e c.n (.slice A xs.length cap) xs.length css.flatten∧∀ k,C k↔QY A=some k)
 lt h k hk:=by
  rcases h with⟨_,_,h⟩ | ⟨css,_,h,h2⟩
  ·exact absurd hk (h k)
  ·exact(h.lt k (by rw[lM];exact(h2 k).1 hk)).2
 sp h hc hs:=by
  rcases h with h | ⟨css,h1,h2,h3⟩
  ·exact .inl h
  ·refine .inr ⟨css,h1.sp hs,⟨h2.1,?_⟩,h3⟩
   rcases h2.2 with h | ⟨g,cap',cur,hv,hb,hh,r⟩
   ·exact .inl h
   ·refine .inr ⟨g,cap',cur,hv,hb,?_,r⟩
    injection hv with hA
    rw[hc g ((h3 g).2 (by rw[hA];rfl))];exact hh
def AllMO:List MO→NP→NP→World→Prop
 | [],_,_,_=>True
 | m::r,C,D,w=>∃ C1 C2,m.inv C1 D w∧AllMO r C2 D w∧(∀ k,C1 k→¬ C2 k)∧(∀ k,C1 k→C k)∧(∀ k,C2 k→C k)
inductive At:List MO→MO→(MO→List MO)→Prop where
 | z {m:MO} {r:List MO} :At (m::r) m (λx=>x::r)
 | s {a m:MO} {r:List MO} {f:MO→List MO} (h:At r m f):At (a::r) m (λx=>a::f x)
inductive Rm:List MO→MO→List MO→Prop where
 | z {m:MO} {r:List MO} :Rm (m::r) m r
 | s {a m:MO} {r r':List MO} (h:Rm r m r'):Rm (a::r) m (a::r')
inductive KP:List MO→List MO→Prop where
 | n {os:List MO} :KP os []
 | c {os os' r:List MO} {m:MO} (h:Rm os m os') (k:KP os' r):KP os (m::r)
inductive M5:List MO→List MO→List MO→Prop where
 | n:M5 [] [] []
 | l {a:MO} {r s t:List MO} (h:M5 r s t):M5 (a::r) (a::s) t
 | r {a:MO} {r s t:List MO} (h:M5 r s t):M5 (a::r) s (a::t)
section
variable {C C' D D' F C0:NP} {w w' w0:World} {os os':List MO} {m:MO} {f:MO→List MO}
theorem AllMO.mono (h:AllMO os C D w) (hc:∀ k,C k→C' k):AllMO os C' D w:=by
 cases os with
 | nil=>trivial
 | cons m os=>obtain⟨C1,C2,h1,h2,h3,h4,h5⟩:=h;exact⟨C1,C2,h1,h2,h3,λk hk=>hc k (h4 k hk),λk hk=>hc k (h5 k hk)⟩
theorem AllMO.sp (h:AllMO os C D w) (hc:∀ k,C k→k<w.heap.size→w'.heap[k]? =w.heap[k]?) (hs:Sp D w D' w'):AllMO os C D' w':=by
 induction os generalizing C with
 | nil=>trivial
 | cons m os ih=>
  obtain⟨C1,C2,h1,h2,h3,h4,h5⟩:=h
  exact⟨C1,C2,m.sp h1 (λk hk=>hc k (h4 k hk) (m.lt h1 k hk)) hs,ih h2 (λk hk=>hc k (h5 k hk)),h3,h4,h5⟩
theorem AllMO.shrink (h:AllMO os C D w):AllMO os (λk=>C k∧k<w.heap.size) D w:=by
 induction os generalizing C with
 | nil=>trivial
 | cons m os ih=>
  obtain⟨C1,C2,h1,h2,h3,h4,h5⟩:=h
  exact⟨C1,_,h1,ih h2,λk hk hk2=>h3 k hk hk2.1,λk hk=>⟨h4 k hk,m.lt h1 k hk⟩,λk hk=>⟨h5 k hk.1,hk.2⟩⟩
theorem AllMO.out (h:AllMO os C D w) (ha:At os m f):∃ C1,m.inv C1 D w∧(∀ k,C1 k→C k)∧
  ∀ (w':World) (C1' D':NP) (m':MO),(∀ k,k<w.heap.size→¬ C1 k→w'.heap[k]? =w.heap[k]?)→(∀ k,k<w.heap.size→¬ C1 k→¬ C1' k)→Sp D w D' w'→m'.inv C1' D' w'→AllMO (f m') (λk=>(C k∧¬ C1 k)∨C1' k) D' w':=by
 induction ha generalizing C with
 | z=>
  obtain⟨C1,C2,h1,h2,h3,h4,h5⟩:=h
  refine⟨C1,h1,h4,λw' C1' D' m' hw hc hs hm=>?_⟩
  refine⟨C1',λk=>C2 k∧k<w.heap.size,hm,(h2.shrink).sp (λk hk _=>hw k hk.2 (λh=>h3 k h hk.1)) hs,λk hk hk2=>?_,λk hk=> .inr hk,λk hk=> .inl ⟨h5 k hk.1,λh=>h3 k h hk.1⟩⟩
  exact hc k hk2.2 (λh=>h3 k h hk2.1) hk
 | s _ ih=>
  obtain⟨C1,C2,h1,h2,h3,h4,h5⟩:=h
  obtain⟨E,e1,e2,e3⟩:=ih h2
  rename_i a m r f _
  refine⟨E,e1,λk hk=>h5 k (e2 k hk),λw' C1' D' m' hw hc hs hm=>?_⟩
  have hE:∀ k,C1 k→¬ E k:=λk hk he=>h3 k hk (e2 k he)
  refine⟨C1,_,a.sp h1 (λk hk=>hw k (a.lt h1 k hk) (hE k hk)) hs,e3 w' C1' D' m' hw hc hs hm,λk hk hk2=>?_,λk hk=> .inl ⟨h4 k hk,hE k hk⟩,λk hk=>hk.imp (λh=>⟨h5 k h.1,h.2⟩) id⟩
  rcases hk2 with h | h
  ·exact h3 k hk h.1
  ·exact hc k (a.lt h1 k hk) (hE k hk) h
theorem AllMO.rm (h:AllMO os C D w) (hr:Rm os m os'):∃ C1,m.inv C1 D w∧(∀ k,C1 k→C k)∧AllMO os' (λk=>C k∧¬ C1 k) D w:=by
 induction hr generalizing C with
 | z=>
  obtain⟨C1,C2,h1,h2,h3,h4,h5⟩:=h
  exact⟨C1,h1,h4,h2.mono λk hk=>⟨h5 k hk,λh=>h3 k h hk⟩⟩
 | s _ ih=>
  obtain⟨C1,C2,h1,h2,h3,h4,h5⟩:=h
  obtain⟨E,e1,e2,e3⟩:=ih h2
  exact⟨E,e1,λk hk=>h5 k (e2 k hk),C1,_,h1,e3,λk hk hk2=>h3 k hk hk2.1,λk hk=>⟨h4 k hk,λhe=>h3 k hk (e2 k he)⟩,λk hk=>⟨h5 k hk.1,hk.2⟩⟩
theorem AllMO.got (h:AllMO os C D w) (hg:KP os os'):AllMO os' C D w:=by
 induction hg generalizing C with
 | n=>trivial
 | c hr _ ih=>
  obtain⟨C1,h1,h2,h3⟩:=h.rm hr
  exact⟨C1,_,h1,ih h3,λk hk hk2=>hk2.2 hk,h2,λk hk=>hk.1⟩
theorem AllMO.sel {sl rest:List MO} (h:AllMO os C D w) (hs:M5 os sl rest):∃ C1 C2,AllMO sl C1 D w∧AllMO rest C2 D w∧(∀ k,C1 k→¬ C2 k)∧(∀ k,C1 k→C k)∧(∀ k,C2 k→C k)∧(∀ k,C1 k→k<w.heap.size)∧(∀ k,C2 k→k<w.heap.size):=by
 induction hs generalizing C with
 | n=>exact⟨λ_=>False,λ_=>False,af,af,λ_ h=>h.elim,λ_ h=>h.elim,λ_ h=>h.elim,λ_ h=>h.elim,λ_ h=>h.elim⟩
 | l _ ih=>
  rename_i a r s t _
  obtain⟨C1,C2,h1,h2,h3,h4,h5⟩:=h
  obtain⟨E1,E2,e1,e2,e3,e4,e5,e6,e7⟩:=ih h2
  refine⟨λk=>C1 k∨E1 k,E2,⟨C1,E1,h1,e1,λk hk he=>h3 k hk (e4 k he),λk hk=> .inl hk,λk hk=> .inr hk⟩,e2,λk hk he=>?_,λk hk=>hk.elim (h4 k) (λh=>h5 k (e4 k h)),λk hk=>h5 k (e5 k hk),λk hk=>hk.elim (a.lt h1 k) (e6 k),e7⟩
  exact hk.elim (λh=>h3 k h (e5 k he)) (λh=>e3 k h he)
 | r _ ih=>
  rename_i a r s t _
  obtain⟨C1,C2,h1,h2,h3,h4,h5⟩:=h
  obtain⟨E1,E2,e1,e2,e3,e4,e5,e6,e7⟩:=ih h2
  refine⟨E1,λk=>C1 k∨E2 k,e1,⟨C1,E2,h1,e2,λk hk he=>h3 k hk (e5 k he),λk hk=> .inl hk,λk hk=> .inr hk⟩,λk hk he=>?_,λk hk=>h5 k (e4 k hk),λk hk=>hk.elim (h4 k) (λh=>h5 k (e5 k h)),e6,λk hk=>hk.elim (a.lt h1 k) (e7 k)⟩
  exact he.elim (λh=>h3 k h (e4 k hk)) (λh=>e3 k hk h)
theorem AllMO.app {o1 o2:List MO} {C1 C2:NP} (h:AllMO o1 C1 D w) (k:AllMO o2 C2 D w) (hd:∀ k,C1 k→¬ C2 k):AllMO (o1++o2) (λk=>C1 k∨C2 k) D w:=by
 induction o1 generalizing C1 with
 | nil=>exact k.mono λ_ h=> .inr h
 | cons m o1 ih=>
  obtain⟨E1,E2,h1,h2,h3,h4,h5⟩:=h
  exact⟨E1,_,h1,ih h2 (λk hk=>hd k (h5 k hk)),λk hk he=>he.elim (h3 k hk) (hd k (h4 k hk)),λk hk=> .inl (h4 k hk),λk hk=>hk.imp (h5 k) id⟩
end
structure Bun (C0 F:NP) (w0:World) (C:NP) (w:World) (os:List MO) (cl:List Cl):Prop where
 st:Stp C0 w0 C w
 mo:AllMO os C (Dj F C) w
 cl:AllCl cl (Dj F C) w
 dj:∀ k,F k→¬ C k
 fl:∀ k,F k→k<w.heap.size
section
variable {C0 F C C':NP} {w0 w w':World} {os os':List MO} {cl cl':List Cl} {m m':MO} {c:Cl} {f:MO→List MO}
theorem Bun.start (hF:∀ k,F k→k<w0.heap.size) (h:AllCl cl F w0):Bun cH F w0 cH w0 [] cl:=
 ⟨Stp.start,af,h.sp (Ra λk hk=>hk.elim id (λh=>h.elim)),λ_ _ h=>h,hF⟩
theorem Bun.lt (h:Bun C0 F w0 C w os cl):∀ k,Dj F C k→k<w.heap.size:=λk hk=>hk.elim (h.fl k) (h.st.lt k)
theorem Bun.ext (h:Bun C0 F w0 C w os cl) (hx:Ext w w'):Bun C0 F w0 C w' os cl:=
 ⟨h.st.step hx,h.mo.sp (λk _ hk=>hx.block k hk) (Rb hx),h.cl.sp (Rb hx),h.dj,λk hk=>Nat.lt_of_lt_of_le (h.fl k hk) hx.size⟩
theorem Bun.ext0 (h:Bun cH F w0 C w os cl):Ext w0 w:=h.st.ext0
theorem Bun.add (h:Bun C0 F w0 C w os cl) (hp:c.p (Dj F C) w):Bun C0 F w0 C w os (c::cl):=⟨h.st,h.mo,⟨hp,h.cl⟩,h.dj,h.fl⟩
theorem Bun.adds (h:Bun C0 F w0 C w os cl) (hp:AllCl cl' (Dj F C) w):Bun C0 F w0 C w os (cl'++cl):=⟨h.st,h.mo,hp.app h.cl,h.dj,h.fl⟩
theorem Bun.get (h:Bun C0 F w0 C w os cl) (hi:In cl c):c.p (Dj F C) w:=h.cl.get hi
theorem Bun.get0 (h:Bun C0 F w0 C w os cl) (hi:In cl c):c.p cH w:=c.sp (Ra λ_ h=>h.elim) (h.cl.get hi)
theorem Bun.facts (h:Bun C0 F w0 C w os cl) (hs:Subs cl cl'):AllCl cl' (Dj F C) w:=h.cl.subs hs
theorem Bun.arr (h:Bun C0 F w0 C w os cl) (hp:KP os os') (hs:Subs cl cl'):Bun C0 F w0 C w os' cl':=⟨h.st,h.mo.got hp,h.cl.subs hs,h.dj,h.fl⟩
theorem Bun.fin (h:Bun C0 F w0 C w os cl) (hs:Subs cl cl'):AllCl cl' F w:=(h.cl.subs hs).sp (Ra λ_ h=> .inl h)
theorem Bun.new {b:Nat} (h:Bun C0 F w0 C w os cl) (hx:Ext w w') (h1:w.heap.size=b) (h2:w'.heap.size=b+1) (hm:∀ D,Sp (Dj F C) w D w'→m.inv (λk=>k=b) D w'):∃ C',(∀ md,Sp (DM md F C) w (DM md F C') w')∧Bun C0 F w0 C' w' (m::os) cl:=by
 have hlt:∀ k,C k→k<w.heap.size:=h.st.lt
 have hsp:Sp (Dj F C) w (Dj F λk=>C k∨k=b) w':=⟨hx.size,λk hk hn=>⟨hx.block k hk,λhd=>hd.elim (λh=>hn (.inl h)) (λh=>h.elim (λh=>hn (.inr h)) (λh=>by omega))⟩⟩
 refine⟨λk=>C k∨k=b,λmd=>(by cases md;exact Rb hx;exact hsp),⟨hx.os.trans h.st.os,hx.tape.trans h.st.tape,hx.output.trans h.st.output,Nat.le_trans h.st.size hx.size,λk hk hn=>⟨?_,?_⟩,λk hk=>?_⟩,⟨λk=>k=b,C,hm _ hsp,h.mo.sp (λk _ hk=>hx.block k hk) hsp,λk hk hc=>by have:=hlt k hc;omega,λk hk=> .inr hk,λk hk=> .inl hk⟩,h.cl.sp hsp,λk hk hc=>?_,λk hk=>Nat.lt_of_lt_of_le (h.fl k hk) hx.size⟩
 ·exact(hx.block k (Nat.lt_of_lt_of_le hk h.st.size)).trans (h.st.keep k hk hn).1
 ·rintro(hc | hc)
  ·exact(h.st.keep k hk hn).2 hc
  ·have:=h.st.size;omega
 ·rcases hk with hk | hk
  ·exact Nat.lt_of_lt_of_le (hlt k hk) hx.size
  ·omega
 ·rcases hc with hc | hc
  ·exact h.dj k hk hc
  ·have:=h.fl k hk;omega
theorem Bun.look (h:Bun C0 F w0 C w os cl) (ha:At os m f):∃ C1,m.inv C1 (Dj F C) w∧∀ k,C1 k→C k:=by
 obtain⟨C1,h1,h2,_⟩:=h.mo.out ha
 exact⟨C1,h1,h2⟩
theorem Bun.turn (h:Bun C0 F w0 C w os cl) (ha:At os m f):∃ C1,m.inv C1 (Dj F C) w∧(∀ k,C1 k→C k)∧
  ∀ (w':World) (C1':NP),Stp C1 w C1' w'→∃ C',Sp (Dj F C) w (Dj F C') w'∧∀ m',m'.inv C1' (Dj F C') w'→Bun C0 F w0 C' w' (f m') cl:=by
 obtain⟨C1,h1,h2,h3⟩:=h.mo.out ha
 refine⟨C1,h1,h2,λw' C1' hs=>?_⟩
 have hsp:Sp (Dj F C) w (Dj F λk=>(C k∧¬ C1 k)∨C1' k) w':=⟨hs.size,λk hk hn=>by
  have hn1:¬ C1 k:=λh=>hn (.inr (h2 k h))
  refine⟨(hs.keep k hk hn1).1,?_⟩
  rintro(h | h | h)
  ·exact hn (.inl h)
  ·exact hn (.inr h.1)
  ·exact(hs.keep k hk hn1).2 h⟩
 refine⟨_,hsp,λm' hm=>⟨⟨hs.os.trans h.st.os,hs.tape.trans h.st.tape,hs.output.trans h.st.output,Nat.le_trans h.st.size hs.size,λk hk hn=>?_,λk hk=>?_⟩,h3 w' C1' _ m' (λk hk hn=>(hs.keep k hk hn).1) (λk hk hn=>(hs.keep k hk hn).2) hsp hm,h.cl.sp hsp,λk hk hc=>?_,λk hk=>Nat.lt_of_lt_of_le (h.fl k hk) hs.size⟩⟩
 ·have hk':=Nat.lt_of_lt_of_le hk h.st.size
  have hn1:¬ C1 k:=λh'=>(h.st.keep k hk hn).2 (h2 k h')
  refine⟨(hs.keep k hk' hn1).1.trans (h.st.keep k hk hn).1,?_⟩
  rintro(h' | h')
  ·exact(h.st.keep k hk hn).2 h'.1
  ·exact(hs.keep k hk' hn1).2 h'
 ·rcases hk with h' | h'
  ·exact Nat.lt_of_lt_of_le (h.st.lt k h'.1) hs.size
  ·exact hs.lt k h'
 ·rcases hc with h' | h'
  ·exact h.dj k hk h'.1
  ·have hn1:¬ C1 k:=λh''=>h.dj k hk (h2 k h'')
   exact(hs.keep k (h.fl k hk) hn1).2 h'
theorem Bun.release {α:Type} {d:Cod α} {e:TypeId} {A:Option Addr} {cap:Nat} {xs:List α} (h:Bun C0 F w0 C w os cl) (hr:Rm os (Q6 d e A cap xs) os'):∃ C',Bun C0 F w0 C' w os' (Cl.sl d A cap xs::cl):=by
 obtain⟨C1,h1,h2,h3⟩:=h.mo.rm hr
 have hless:Sp (Dj F C) w (Dj F λk=>C k∧¬ C1 k) w:=Ra λk hk=>hk.imp id And.left
 refine⟨λk=>C k∧¬ C1 k,⟨h.st.os,h.st.tape,h.st.output,h.st.size,λk hk hn=>⟨(h.st.keep k hk hn).1,λh'=>(h.st.keep k hk hn).2 h'.1⟩,λk hk=>h.st.lt k hk.1⟩,h3.sp (λ_ _ _=>rfl) hless,⟨?_,h.cl.sp hless⟩,λk hk hc=>h.dj k hk hc.1,h.fl⟩
 refine⟨?_,λhn=>?_⟩
 ·rcases h1 with⟨_,rfl,_⟩ | ⟨css,k1,k2,k3⟩
  ·simp
  ·rcases k2.2 with⟨hv,h0⟩ | ⟨g,cap',cur,hv,hbg,hh,r,_⟩
   ·omega
   ·injection hv with _ _ hv;omega
 rcases h1 with⟨_,rfl,_⟩ | ⟨css,k1,k2,k3⟩
 ·simp at hn
 ·have hb:=k2
  rcases k2.2 with⟨_,h0⟩ | ⟨g,cap',cur,hv,hbg,hh,r⟩
  ·omega
  ·injection hv with hA
   subst hA
   have hg:C1 g:=(k3 g).2 rfl
   refine⟨⟨g,0,none⟩,rfl,h.st.lt g (h2 g hg),?_,css,k1.sp hless,λj u hu=>hb.cells (g:=g) rfl j u hu⟩
   rintro(hf | hc)
   ·exact h.dj g hf (h2 g hg)
   ·exact hc.2 hg
theorem Bun.rd {α:Type} {d:Cod α} {e:TypeId} {A:Option Addr} {cap:Nat} {xs:List α} (h:Bun C0 F w0 C w os cl) (ha:At os (Q6 d e A cap xs) f):Rd d (Dj F C) w A xs:=by
 obtain⟨C1,h1,h2⟩:=h.look ha
 intro hn
 rcases h1 with⟨_,rfl,_⟩ | ⟨css,k1,k2,k3⟩
 ·simp at hn
 ·have hb:=k2
  rcases k2.2 with⟨_,h0⟩ | ⟨g,cap',cur,hv,hbg,hh,r⟩
  ·omega
  ·injection hv with hA
   subst hA
   exact⟨⟨g,0,none⟩,rfl,css,k1,λj u hu=>hb.cells (g:=g) rfl j u hu⟩
theorem Bun.lend {α:Type} {d:Cod α} {e:TypeId} {A:Option Addr} {cap:Nat} {xs:List α} (h:Bun C0 F w0 C w os cl) (ha:At os (Q6 d e A cap xs) f):(Cl.sl d A cap xs).p cH w:=by
 refine⟨?_,λhn=>?_⟩
 ·obtain⟨C1,h1,_⟩:=h.look ha
  rcases h1 with⟨_,rfl,_⟩ | ⟨css,k1,k2,k3⟩
  ·simp
  ·rcases k2.2 with⟨hv,h0⟩ | ⟨g,cap',cur,hv,hbg,hh,r,_⟩
   ·omega
   ·injection hv with _ _ hv;omega
 obtain⟨ad,h1,css,h2,h3⟩:=h.rd ha hn
 refine⟨ad,h1,?_,λh=>h,css,h2.sp (Ra λ_ h=>h.elim),h3⟩
 obtain⟨C1,k1,k2⟩:=h.look ha
 rcases k1 with⟨_,rfl,_⟩ | ⟨css',q1,q2,q3⟩
 ·simp at hn
 ·rcases q2.2 with⟨_,h0⟩ | ⟨g,cap',cur,hv,hbg,hh,r⟩
  ·omega
  ·injection hv with hA
   rw[hA]at h1
   injection h1 with h1
   subst h1
   exact(Array.getElem?_eq_some_iff.1 hh).1
end
end Go.Vc
