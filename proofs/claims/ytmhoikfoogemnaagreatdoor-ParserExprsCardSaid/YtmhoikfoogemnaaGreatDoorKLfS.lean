import Derived.Test.YtmhoikfoogemnaaGreatDoorKLfA
import Derived.Deep.Slices
import Derived.WideShapes
import Derived.Carry
import Derived.OpenShut
import Derived.Lib.LaidTab
import Derived.Sort.Grow
import Derived.Deep.Draws
import Derived.RangeFuncRecord
namespace Go.Vc
open Go Go.RowKit
def CallV (P:Program) (v:Value) (args:List Value) (w:World) (R:Ending→World→Prop):Prop:=
 (∃ (f:FuncId) (fs cap:List Value),v= .func (.func f) fs.toArray cap.toArray∧fy P f∧Calls P f (fs++args++cap).toArray w R)∨
 (∃ (l:Nat) (fn:FuncId) (tmps:Array Value) (assign body:Code),v= .func (.yield l) #[] #[]∧(Instr.yield l args.toArray).run P w= .ok (.round l fn tmps assign body) w∧Round P l fn tmps assign body w R)
def En:Value→Bool
 | .func _ _ _=>true
 | _=>false
section
variable {P:Program} {v:Value} {args:List Value} {w:World} {R R':Ending→World→Prop}
theorem CallV.mono (h:CallV P v args w R) (hr:∀ e w',R e w'→R' e w'):CallV P v args w R':=by
 rcases h with⟨f,fs,cap,h1,h2,h3⟩ | ⟨l,fn,tmps,assign,body,h1,h2,h3⟩
 ·exact .inl ⟨f,fs,cap,h1,h2,h3.mono hr⟩
 ·exact .inr ⟨l,fn,tmps,assign,body,h1,h2,fun m=>(h3 m).mono hr⟩
theorem CallV.fn {f:FuncId} {cap:List Value} (hok:fy P f) (h:Calls P f (args++cap).toArray w R):CallV P (.func (.func f) #[] cap.toArray) args w R:=
 .inl ⟨f,[],cap,rfl,hok,by simpa using h⟩
end
section
variable {P:Program} {ro:Ro} {n:Fr} {Kn:Act→World→Prop} {Ke:Nat→Act→World→Prop} {Kr:Act→World→Prop} {env:kE} {w:World}
variable {ops:Array Oper} {rest:List Oper} {rs:Tr} {fl:Fl} {o:Oper} {i d:Nat} {v u:Value} {fx:Operand} {xs:List Operand} {args:List Value} {ts:Array TypeId} {D D':NP} {X:List Nat}
theorem su {K:Act→World→Prop} {Q:Exit→Act→World→Prop} {a:Act} (hn:gt o=true) (hw:Region.wanted o (yielded ops a.tmps)=true) (ha:Has n a env) (ho:o.op= .call { callee:= .value fx,args:=xs.toArray,argTypes:=ts }) (hf:Ev n env fx v) (hxs:EvA n env xs args)
  (h:CallV P v args w fun e w'=>∃ u,e= .returned u∧K (a.put o.dst u) w'):qn P ro.r ops Q o K a w:=by
 rcases h with⟨f,fs,cap,rfl,h2,h3⟩ | ⟨l,fn,tmps,assign,body,rfl,h2,h3⟩
 ·exact pB hn hw (gO (P:=P) (w:=w) ho hf h2 hxs a ha) h3
 ·refine Bo hn hw ?_ h3
  simp only[execOp,ho,resolve,hxs.map ha,hf a ha,Deferred.ofValue,Sem.run_bind,Sem.run_pure,Result.andThen_ok,invoke]
  simpa using h2
theorem sE (hg:nC n env ops o true) (hd:o.dst=some d) (ho:o.op= .call { callee:= .value fx,args:=xs.toArray,argTypes:=ts }) (hf:Ev n env fx v) (hxs:EvA n env xs args)
  (h:CallV P v args w fun e w'=>∃ u,e= .returned u∧dm P ro n ops Kn Ke Kr rest ((d,u)::env) w'):dm P ro n ops Kn Ke Kr (o::rest) env w:=
 pU fun a hn ha=>su hn (hg a ha) ha ho hf hxs (h.mono fun _ _ ⟨u,h1,h2⟩=>⟨u,h1,_,by rw[hd];exact ha.put d u,h2⟩)
theorem wd (hi:ops[i]? =some o) (hg:nC n env ops o true) (hd:o.dst=some d) (ho:o.op= .call { callee:= .value fx,args:=xs.toArray,argTypes:=ts }) (hf:Ev n env fx v) (hxs:EvA n env xs args)
  (h:CallV P v args w fun e w'=>∃ u,e= .returned u∧∃ D',Sp D w D' w'∧db P ro n ops Kn Ke Kr (SN X D' w') rs ((d,u)::env) w') (hX:X.contains i=false:=by rfl) (hfl:fl.solo=true:=by rfl):db P ro n ops Kn Ke Kr (SN X D w) (.c (i,fl) rs) env w:=
 ub (hfl:=hfl) (S:=SN X D w) (hx:=hX) hi fun a hn ha=>su hn (hg a ha) ha ho hf hxs (h.mono fun _ _ ⟨u,h1,D',h2,h3⟩=>⟨u,h1,⟨D',h2⟩,_,by rw[hd];exact ha.put d u,zg h2 h3⟩)
theorem DH {c:Bool} (hg:nC n env ops o c) (hd:o.dst=some d) (ho:o.op= .call { callee:= .value fx,args:=xs.toArray,argTypes:=ts }) (hf:c=true→Ev n env fx v) (hxs:c=true→EvA n env xs args)
  (hc:c=true→CallV P v args w fun e w'=>e= .returned u∧Ext w w') (h:∀ w',Ext w w'→dm P ro n ops Kn Ke Kr rest ((d,gv c u)::env) w'):dm P ro n ops Kn Ke Kr (o::rest) env w:=
 pU fun a hn ha=>by
  cases c with
  | true=>exact su hn (hg a ha) ha ho (hf rfl) (hxs rfl) ((hc rfl).mono fun _ _ ⟨h1,h2⟩=>⟨u,h1,_,by rw[hd];exact ha.put d u,h _ h2⟩)
  | false=>exact qO (hg a ha) ⟨_,by rw[hd];exact ha.put d undef,h _ .rfl'⟩
theorem fo {g:FuncId} {args:Array Value} (hi:ops[i]? =some o) (hg:nC n env ops o true) (hd:o.dst=some d) (hr:mN P n env o w (.ok (.enter g args) w))
  (h:Calls P g args w fun e w'=>∃ v,e= .returned v∧∃ D',Sp D w D' w'∧db P ro n ops Kn Ke Kr (SN X D' w') rs ((d,v)::env) w') (hX:X.contains i=false:=by rfl) (hfl:fl.solo=true:=by rfl):db P ro n ops Kn Ke Kr (SN X D w) (.c (i,fl) rs) env w:=
 EK (hfl:=hfl) (S:=SN X D w) (hx:=hX) hi hg hd hr (h.mono fun e w' ⟨v,h1,D',h2,h3⟩=>⟨v,h1,⟨D',h2⟩,zg h2 h3⟩)
theorem nJ {f:FuncId} {ys:List Operand} {vs cap:List Value} {xs:Array Operand} (ho:o.op= .makeFunc (.func f) xs ys.toArray) (hx0:xs= #[]) (hys:EvA n env ys cap):hH P n env o (.func (.func f) #[] cap.toArray) w:=fun a ha=>by
 have _:=vs
 subst hx0
 simp[execOp,ho,hys.map ha,Instr.makeFunc]
end
def Cl.blk (b:Nat) (T:TypeId) (cs:Array Value):Cl:=⟨fun D w=>b<w.heap.size∧¬ D b∧Blk w b T cs,fun hs ⟨h1,h2,h3⟩=>⟨Nat.lt_of_lt_of_le h1 hs.size,(hs.keep _ h1 h2).2,(hs.keep _ h1 h2).1.trans h3⟩⟩
section
variable {C0 F C D:NP} {w0 w w':World} {os os':List MO} {cl cl':List Cl} {f:MO→List MO} {b:Nat} {T:TypeId} {cs:Array Value}
theorem Bun.kblk {off:Nat} {l:List Value} (h:Bun C0 F w0 C w os cl) (hi:In cl (Cl.blk b T cs)) (hl:(cs.toList.drop off).take l.length=l):CA (Dj F C) w ⟨b,off,none⟩ l:=
 have hb:=h.get hi
 ⟨CellsAt.of_blk hb.2.2 hl,fun _=>⟨hb.1,hb.2.1⟩⟩
theorem Bun.lendBox (h:Bun C0 F w0 C w os cl) (ha:At os (MO.box b T cs) f):(Cl.blk b T cs).p du w:=⟨(h.blk ha).lt,fun h=>h,h.blk ha⟩
theorem Bun.relBox (h:Bun C0 F w0 C w os cl) (hr:Rm os (MO.box b T cs) os'):∃ C',Bun C0 F w0 C' w os' (Cl.blk b T cs::cl):=by
 obtain⟨C1,h1,h2,h3⟩:=h.mo.rm hr
 have hless:Sp (Dj F C) w (Dj F fun k=>C k∧¬ C1 k) w:=Sp.less fun k hk=>hk.imp id And.left
 refine⟨fun k=>C k∧¬ C1 k,⟨h.st.os,h.st.tape,h.st.output,h.st.size,fun k hk hn=>⟨(h.st.keep k hk hn).1,fun h'=>(h.st.keep k hk hn).2 h'.1⟩,fun k hk=>h.st.lt k hk.1⟩,h3.sp (fun _ _ _=>rfl) hless,⟨⟨h1.2.lt,?_,h1.2⟩,h.cl.sp hless⟩,fun k hk hc=>h.dj k hk hc.1,h.fl⟩
 rintro(hf | hc)
 ·exact h.dj b hf (h2 b ((h1.1 b).2 rfl))
 ·exact hc.2 ((h1.1 b).2 rfl)
theorem Bun.subs (h:Bun C0 F w0 C w os cl) (hs:Subs cl cl'):Bun C0 F w0 C w os cl':=⟨h.st,h.mo,h.cl.subs hs,h.dj,h.fl⟩
theorem Bun.ord (h:Bun C0 F w0 C w os cl) (hg:EU os os'):Bun C0 F w0 C w os' cl:=⟨h.st,h.mo.got hg,h.cl,h.dj,h.fl⟩
theorem Bun.hands {sl rest:List MO} (h:Bun C0 F w0 C w os cl) (hs:Gj os sl rest):∃ C1 F1,Bun C1 F1 w C1 w sl cl∧(∀ k,Dj F1 C1 k→Dj F C k)∧
  ∀ (C1':NP) (w':World) (sl':List MO) (cl1:List Cl),Bun C1 F1 w C1' w' sl' cl1→∃ C',Sp (Dj F C) w (Dj F C') w'∧Bun C0 F w0 C' w' (sl'++rest) (cl1++cl):=by
 obtain⟨C1,C2,h1,h2,h3,h4,h5,h6,h7⟩:=h.mo.sel hs
 have e12:Sp (Dj F C) w (Dj (Dj F C2) C1) w:=Sp.less fun k hk=>hk.elim (fun h=>h.imp id (h5 k)) (fun h=> .inr (h4 k h))
 refine⟨C1,Dj F C2,⟨⟨rfl,rfl,rfl,Nat.le_refl _,fun k _ hn=>⟨rfl,hn⟩,h6⟩,h1.sp (fun _ _ _=>rfl) e12,h.cl.sp e12,fun k hk hc=>hk.elim (fun hf=>h.dj k hf (h4 k hc)) (h3 k hc),fun k hk=>hk.elim (h.fl k) (h7 k)⟩,fun k hk=>hk.elim (fun h=>h.imp id (h5 k)) (fun h=> .inr (h4 k h)),fun C1' w' sl' cl1 hb=> ?_⟩
 have hsp:Sp (Dj F C) w (Dj F fun k=>C1' k∨C2 k) w':=⟨hb.st.size,fun k hk hn=>by
  have hn1:¬ C1 k:=fun h=>hn (.inr (h4 k h))
  refine⟨(hb.st.keep k hk hn1).1,?_⟩
  rintro(h | h | h)
  ·exact hn (.inl h)
  ·exact(hb.st.keep k hk hn1).2 h
  ·exact hn (.inr (h5 k h))⟩
 have e1:Sp (Dj (Dj F C2) C1') w' (Dj F fun k=>C1' k∨C2 k) w':=Sp.less fun k hk=>hk.elim (fun h=> .inl (.inl h)) (fun h=>h.elim .inr (fun h=> .inl (.inr h)))
 have hd:∀ k,C1' k→¬ C2 k:=fun k hk h2'=>hb.dj k (.inr h2') hk
 refine⟨fun k=>C1' k∨C2 k,hsp,⟨hb.st.os.trans h.st.os,hb.st.tape.trans h.st.tape,hb.st.output.trans h.st.output,Nat.le_trans h.st.size hb.st.size,fun k hk hn=> ?_,fun k hk=>hk.elim (hb.st.lt k) (fun h=>Nat.lt_of_lt_of_le (h7 k h) hb.st.size)⟩,?_,(hb.cl.sp e1).app (h.cl.sp hsp),fun k hk hc=>hc.elim (hb.dj k (.inl hk)) (fun hc=>h.dj k hk (h5 k hc)),fun k hk=>Nat.lt_of_lt_of_le (h.fl k hk) hb.st.size⟩
 ·have hk':=Nat.lt_of_lt_of_le hk h.st.size
  have hn1:¬ C1 k:=fun h'=>(h.st.keep k hk hn).2 (h4 k h')
  refine⟨(hb.st.keep k hk' hn1).1.trans (h.st.keep k hk hn).1,?_⟩
  rintro(h' | h')
  ·exact(hb.st.keep k hk' hn1).2 h'
  ·exact(h.st.keep k hk hn).2 (h5 k h')
 ·have h2':AllMO rest C2 (Dj F fun k=>C1' k∨C2 k) w':=AllMO.sp h2 (fun k hk hlt=>(hb.st.keep k hlt (fun h1'=>h3 k h1' hk)).1) hsp
  exact AllMO.app (AllMO.sp hb.mo (fun _ _ _=>rfl) e1) h2' hd
end
structure StI (σ:Type) where
 inv:σ→NP→NP→World→Prop
 lt:∀ {s C D w},inv s C D w→∀ k,C k→k<w.heap.size
 sp:∀ {s C D w D' w'},inv s C D w→(∀ k,C k→w'.heap[k]? =w.heap[k]?)→Sp D w D' w'→inv s C D' w'
def MO.st {σ:Type} (I:StI σ) (s:σ):MO:=⟨I.inv s,I.lt,I.sp⟩
def StI.of {σ β:Type} (os:σ→β→List MO) (cl:σ→β→List Cl):StI σ where
 inv s C D w:=(∃ b,AllMO (os s b) C D w∧AllCl (cl s b) D w)∧∀ k,C k→k<w.heap.size
 lt h:=h.2
 sp:=fun⟨⟨b,h1,h2⟩,h3⟩ hc hs=>⟨⟨b,h1.sp (fun k hk _=>hc k hk) hs,h2.sp hs⟩,fun k hk=>Nat.lt_of_lt_of_le (h3 k hk) hs.size⟩
section
variable {σ β:Type} {os:σ→β→List MO} {cl:σ→β→List Cl} {s:σ} {C0 F C:NP} {w0 w:World} {L:List Cl}
theorem Bun.unst (h:Bun C0 F w0 C w [MO.st (StI.of os cl) s] L):∃ b,Bun C0 F w0 C w (os s b) (cl s b++L):=by
 obtain⟨C1,C2,⟨⟨b,h1,h2⟩,h3⟩,_,_,h5,_⟩:=h.mo
 exact⟨b,h.st,h1.mono h5,h2.app h.cl,h.dj,h.fl⟩
theorem Bun.mkst {b:β} (h:Bun C0 F w0 C w (os s b) L) (hs:Subs L (cl s b)):Bun C0 F w0 C w [MO.st (StI.of os cl) s] L:=
 ⟨h.st,⟨C,fun _=>False,⟨⟨b,h.mo,h.cl.subs hs⟩,h.st.lt⟩,trivial,fun _ _ h=>h,fun _ h=>h,fun _ h=>h.elim⟩,h.cl,h.dj,h.fl⟩
end
end Go.Vc
namespace Go.Vc
open Go Go.RowKit Go.WideShapes
abbrev okI (k:IntKind) (n:Int):Prop:=(Lit.int k n).wf=true
abbrev okS (s:List UInt8):Prop:=s.length≤maxLen
section
variable {P:Program} {t e:TypeId} {α:Type} {c:Cod α} {ok:α→Prop}
theorem BA {name:String} {g:Nat} {k:IntKind} {zs:List Int} {w w':World} (hg:P.globalNamed name=some g) (h:Lib.TabIs P w name k zs) (he:w'.heap[g]? =w.heap[g]?):Lib.TabIs P w' name k zs:=by
 unfold Lib.TabIs World.var? at *
 rw[hg]at *
 simp only[Option.bind_some]at *
 rw[he];exact h
def tabCl {name:String} {g:Nat} (hg:P.globalNamed name=some g) (k:IntKind) (zs:List Int):Cl:=
 ⟨fun D w=>Lib.TabIs P w name k zs∧g<w.heap.size∧¬ D g,fun hs ⟨h1,h2,h3⟩=>⟨BA hg h1 (hs.keep _ h2 h3).1,Nat.lt_of_lt_of_le h2 hs.size,(hs.keep _ h2 h3).2⟩⟩
theorem tabCl.start {name:String} {g:Nat} (hg:P.globalNamed name=some g) {k:IntKind} {zs:List Int} {w:World} (h:Lib.TabIs P w name k zs):(tabCl hg k zs).p du w:=by
 refine⟨h,?_,fun h=>h⟩
 unfold Lib.TabIs World.var? at h
 rw[hg]at h
 by_cases hb:g<w.heap.size
 ·exact hb
 ·have e:w.heap[g]? =none:=by simp;omega
  simp[e]at h
theorem Gr {k:IntKind} {n:Int} (h:(Lit.int k n).wf=true):k.min≤n∧n≤k.max:=by
 simpa[Lit.wf,IntKind.has]using h
end
end Go.Vc
namespace Go.Vc
open Go Go.RowKit
def MO.obj (r:Nat) (o:Obj):MO where
 inv C _ w:=(∀ k,C k↔k=r)∧w.heap[r]? =some o
 lt h k hk:=by rw[(h.1 k).1 hk];exact(Array.getElem?_eq_some_iff.1 h.2).1
 sp h hc _:=⟨h.1,(hc r ((h.1 r).2 rfl)).trans h.2⟩
abbrev MO.dfr (r:Nat):MO:=MO.obj r (.deferred (some []))
abbrev LR (st:LoopState) (pe:Option Code) (fn:FuncId) (tmps:Array Value) (ps:Array Tmp) (assign body:Code) (r:Nat):Loop:=⟨st,pe,fn,tmps,ps,assign,body,r⟩
abbrev MO.loop (l:Nat) (r:Loop):MO:=MO.obj l (.loop r)
def HB (js:List Code):Nat→Option Code
 | 0=>none
 | k+1=>js[k]?
def Bh (fn:FuncId) (tmps:Array Value) (ps:Array Tmp) (assign body:Code) (r:Nat) (js:List Code) (out:Nat):Loop:=
 LR (if(HB js out).isNone then .ready else .done) (HB js out) fn tmps ps assign body r
section
variable {P:Program} {C0 F C:NP} {w0 w w':World} {os os':List MO} {cl:List Cl} {f:MO→List MO} {r l:Nat} {o o':Obj} {rc:Loop}
theorem Bun.oat (h:Bun C0 F w0 C w os cl) (ha:At os (MO.obj r o) f):w.heap[r]? =some o:=by
 obtain⟨C1,h1,_⟩:=h.look ha;exact h1.2
theorem Bun.newObj (h:Bun C0 F w0 C w os cl) (o:Obj):∃ C',(∀ md,Sp (DM md F C) w (DM md F C') (w.alloc o))∧Bun C0 F w0 C' (w.alloc o) (MO.obj w.heap.size o::os) cl:=
 h.new (b:=w.heap.size) (Ext.alloc _) rfl (by simp) fun D _=>⟨fun _=>Iff.rfl,heap_alloc_new w o⟩
theorem Bun.putObj (h:Bun C0 F w0 C w os cl) (ha:At os (MO.obj r o) f) (o':Obj):∃ C',Sp (Dj F C) w (Dj F C') (w.putObj r o')∧Bun C0 F w0 C' (w.putObj r o') (f (MO.obj r o')) cl:=by
 obtain⟨C1,h1,h2,h3⟩:=h.turn ha
 have hlt:r<w.heap.size:=(Array.getElem?_eq_some_iff.1 h1.2).1
 obtain⟨C',h4,h5⟩:=h3 (w.putObj r o') C1 ⟨rfl,rfl,rfl,by simp,fun k hk hn=>⟨World.putObj_heap_other fun e=>hn ((h1.1 k).2 e),hn⟩,fun k hk=>by rw[(h1.1 k).1 hk];simpa using hlt⟩
 exact⟨C',h4,h5 (MO.obj r o') ⟨h1.1,World.putObj_heap_same hlt⟩⟩
theorem Bun.shut {ds:List Nat} {K:World→Prop} (h:Bun C0 F w0 C w os cl) (ha:At os (MO.dfr r) f) (hk:∀ C' w',Bun C0 F w0 C' w' (f (MO.obj r (.deferred none))) cl→∃ w2,pO P ds w' w2∧K w2):∃ w2,pO P (r::ds) w w2∧K w2:=by
 obtain⟨C',_,h2⟩:=h.putObj ha (.deferred none)
 obtain⟨w2,h3,h4⟩:=hk _ _ h2
 exact⟨w2,⟨_,run_takeDeferred (h.oat ha),h3⟩,h4⟩
theorem py {K:World→Prop} (hk:K w):∃ w2,pO P [] w w2∧K w2:=⟨w,rfl,hk⟩
end
def StI.loop {σ β:Type} (l:Nat) (rc:Nat→Loop) (os:σ→β→List MO) (cl:σ→β→List Cl):StI (Nat×σ):=
 StI.of (fun s b=>MO.loop l (rc s.1)::os s.2 b) (fun s b=>cl s.2 b)
section
variable {P:Program} {ro:Ro} {n:Fr} {Kn:Act→World→Prop} {Ke:Nat→Act→World→Prop} {Kr:Act→World→Prop} {env:kE} {w:World}
variable {C0 F C:NP} {w0:World} {os:List MO} {cl:List Cl} {f:MO→List MO} {l r m:Nat} {fn:FuncId} {tmps:Array Value} {ps:Array Tmp} {assign body:Code} {R:Ending→World→Prop}
theorem zr {k:Nat} {c:Code} {Q:Exit→Act→World→Prop} {a:Act} (h:c.wpIn (FW ro.r) 0 P Q a w):c.wpIn (FW ro.r) k P Q a w:=fun b ks cs h1 h2 _=>h b ks cs h1 h2 (Fy _)
theorem qR {args:List Value} {env1:kE} {js:List Code} {oss:List MO} (hI:Bun C0 F w0 C w (MO.loop l (Bh fn tmps ps assign body r js 0)::oss) cl) (hps:args.length=ps.size)
  (henv:Has ⟨m,[]⟩ { tmps:=(ps.zip args.toArray).foldl (fun t (p,v)=>t.setIfInBounds p v) tmps,defers:=[] } env1)
  (h:gG P (.rnd l) ⟨m,[]⟩ assign (fun a1 w1=>∃ w2,(Instr.beginRound l).run P w1= .ok () w2∧Code.wpIn (FW (some l)) 0 P body (roundPost P l R) a1 w2) (fun _ _ _=>False) (fun _ _=>False) env1 w):CallV P (.func (.yield l) #[] #[]) args w R:=by
 have hat:w.heap[l]? =some (.loop (LR .ready none fn tmps ps assign body r)):=hI.oat .z
 refine .inr ⟨l,fn,_,assign,body,rfl,run_yield hat (by simpa using hps),fun k=> ?_⟩
 refine roundIn_of_wpIn (F:=Fence.wide) trivial ?_
 have h1:=h _ henv
 refine zr (ro:= .rnd l) (k:=k) (wpIn_mono h1 fun e a w' q=> ?_)
 cases e with
 | normal=>obtain⟨w2,h2,h3⟩:=q;exact⟨w2,h2,zr (ro:= .rnd l) (k:=k) h3⟩
 | exit id=>exact q
 | ret=>exact q
 | panic ch=>exact q.2.elim
 | goto l=>exact q.elim
 | outgrown=>exact q.elim
theorem Subs.up {c:Cl} {L L':List Cl} (h:Subs L L'):Subs (c::L) L':=by
 induction L' with
 | nil=>trivial
 | cons a L' ih=>exact⟨.s h.1,ih h.2⟩
theorem Subs.refl (L:List Cl):Subs L L:=by
 induction L with
 | nil=>trivial
 | cons a L ih=>exact⟨.z,ih.up⟩
def FL (P:Program) (l:Nat) (R:Ending→World→Prop) (jump:Option Code) (w3:World):Prop:=∃ v w4,(Instr.endRound l jump).run P w3= .ok v w4∧R (.returned v) w4
theorem yx {js:List Code} (hI:Bun C0 F w0 C w os cl) (ha:At os (MO.loop l (Bh fn tmps ps assign body r js 0)) f)
  (h:∀ C' w2,Bun C0 F w0 C' w2 (f (MO.loop l (LR .busy none fn tmps ps assign body r))) cl→
   gG P (.rnd l) n body (fun _ w3=>FL P l R none w3) (fun id _ w3=>FL P l R (some (.exit id)) w3) (fun _ w3=>FL P l R (some .ret) w3) env w2):
  ∀ a,Has n a env→∃ w2,(Instr.beginRound l).run P w= .ok () w2∧Code.wpIn (FW (some l)) 0 P body (roundPost P l R) a w2:=fun a hA=>by
 obtain⟨C',_,h2⟩:=hI.putObj ha (.loop (LR .busy none fn tmps ps assign body r))
 have hat:w.heap[l]? =some (.loop (LR .ready none fn tmps ps assign body r)):=hI.oat ha
 refine⟨_,run_beginRound hat rfl,wpIn_mono (h C' _ h2 a hA) fun e a' w' q=> ?_⟩
 cases e with
 | normal=>exact q
 | exit id=>exact q
 | ret=>exact q
 | panic ch=>exact q.2.elim
 | goto l=>exact q.elim
 | outgrown=>exact q.elim
theorem rq {σ β:Type} {js:List Code} {oS:σ→β→List MO} {cS:σ→β→List Cl} {out:Nat} {s:σ} {b:β} {jump:Option Code} (hI:Bun C0 F w0 C w (MO.loop l (LR .busy none fn tmps ps assign body r)::oS s b) (cS s b)) (hj:HB js out=jump)
  (h:∀ C' w2,Bun C0 F w0 C' w2 [MO.st (StI.loop l (Bh fn tmps ps assign body r js) oS cS) (out,s)] []→R (.returned (.bool jump.isNone)) w2):FL P l R jump w:=by
 have hat:w.heap[l]? =some (.loop (LR .busy none fn tmps ps assign body r)):=hI.oat .z
 obtain⟨C',_,h2⟩:=hI.putObj .z (.loop (LR (if jump.isNone then .ready else .done) jump fn tmps ps assign body r))
 subst hj
 refine⟨_,_,run_endRound _ hat,h C' _ ?_⟩
 have h3:=Bun.mkst (os:=fun(s:Nat×σ) b=>MO.loop l (Bh fn tmps ps assign body r js s.1)::oS s.2 b) (cl:=fun(s:Nat×σ) b=>cS s.2 b) (s:=(out,s)) (b:=b) (L:=cS s b) h2 (Subs.refl _)
 exact h3.subs trivial
theorem qV {gf:FuncId} {cap:List Value} {g:Operand} (js:List Code) (hI:Bun C0 F w0 C w os cl) (hg:Ev n env g (.func (.func gf) #[] cap.toArray)) (hok:fy P gf)
  (h:∀ (l r:Nat) (fn:FuncId) (tmps:Array Value) (rc:Nat→Loop) (_:rc=Bh fn tmps ps assign body r js) (C':NP) (w':World),(∀ n':Fr,n'.n=n.n→n'.ds=[]→Has n' { tmps:=tmps,defers:=[] } env)→
   Bun C0 F w0 C' w' (MO.loop l (rc 0)::MO.dfr r::os) cl→
   Calls P gf (.func (.yield l) #[] #[]::cap).toArray w' fun e w2=>∃ v,e= .returned v∧∃ jump w3,(Instr.endLoop l).run P w2= .ok jump w3∧
    match jump with
    | none=>∀ a,Has ⟨n.n,r::n.ds⟩ a env→Kn a w3
    | some c=>gG P .plain ⟨n.n,r::n.ds⟩ c Kn Ke Kr env w3):gG P .plain n (.rangeFunc g ps assign body) Kn Ke Kr env w:=fun a ha=>by
 refine wpIn_rangeFunc fun fn _=> ?_
 obtain⟨Ca,_,hIa⟩:=hI.newObj (.deferred (some []))
 obtain⟨Cb,_,hIb⟩:=hIa.newObj (.loop (LR .ready none fn a.tmps ps assign body w.heap.size))
 have hx:=h _ _ fn a.tmps _ rfl Cb _ (fun n' e1 e2=>⟨by rw[e2];rfl,ha.sz.trans e1.symm,fun t v hl ht=>ha.rd t v hl (e1▸ht)⟩) hIb
 have hsz:(w.alloc (.deferred (some []))).heap.size=w.heap.size+1:=by simp
 let W:=(w.alloc (.deferred (some []))).alloc (.loop (LR .ready none fn a.tmps ps assign body w.heap.size))
 refine⟨w.heap.size+1,[{ target:= .collected w.heap.size,args:=#[] }],W,Deferred.mk (Target.fn (Fn.func gf) cap.toArray) #[Value.func (Fn.yield (w.heap.size+1)) #[] #[]],W,gf,#[Value.func (Fn.yield (w.heap.size+1)) #[] #[]]++cap.toArray,W,run_enterLoop_outer _ _ _ _ _,?_,fun _ _=>trivial,?_,sS,?_⟩
 ·simp only[resolve,hg a ha]
  simp[go_sem]
 ·simp[invoke,pV hok]
 ·rw[hsz]at hx
  have e1:(#[Value.func (Fn.yield (w.heap.size+1)) #[] #[]]++cap.toArray:Array Value)=(Value.func (Fn.yield (w.heap.size+1)) #[] #[]::cap).toArray:=by simp
  rw[e1]
  refine ss (hx.mono ?_)
  rintro e w2 ⟨v,rfl,jump,w3,h1,h2⟩
  refine⟨jump,w3,h1,?_⟩
  cases jump with
  | none=>exact h2 _ ⟨by simp[z7,ha.df],ha.sz,ha.rd⟩
  | some c=>exact h2 _ ⟨by simp[z7,ha.df],ha.sz,ha.rd⟩
theorem tM {js:List Code} {out:Nat} {K:Option Code→World→Prop} (hI:Bun C0 F w0 C w os cl) (ha:At os (MO.loop l (Bh fn tmps ps assign body r js out)) f)
  (h:∀ C' w3,Bun C0 F w0 C' w3 (f (MO.loop l (LR .exhausted (HB js out) fn tmps ps assign body r))) cl→K (HB js out) w3):∃ jump w3,(Instr.endLoop l).run P w= .ok jump w3∧K jump w3:=by
 obtain⟨C',_,h2⟩:=hI.putObj ha (.loop (LR .exhausted (HB js out) fn tmps ps assign body r))
 exact⟨_,_,run_endLoop (hI.oat ha) (by simp only[Bh];split<;>simp),h C' _ h2⟩
theorem sg {tmps:Array Value} {n':Fr} {p:Tmp} {v:Value} (h:Has n' { tmps:=tmps,defers:=[] } env):Has n' { tmps:=((#[p]:Array Tmp).zip ([v].toArray)).foldl (fun t (p,v)=>t.setIfInBounds p v) tmps,defers:=[] } ((p,v)::env):=by
 have:=h.put p v
 simpa[Act.put]using this
end
end Go.Vc
