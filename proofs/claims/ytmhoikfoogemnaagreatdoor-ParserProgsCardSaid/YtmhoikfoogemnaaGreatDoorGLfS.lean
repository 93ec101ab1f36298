import Derived.Test.YtmhoikfoogemnaaGreatDoorGLfA
import Derived.Deep.Slices
import Derived.WideShapes
import Derived.Carry
import Derived.OpenShut
import Derived.Lib.LaidTab
import Derived.Sort.Grow
import Derived.Deep.Draws
import Derived.RangeFuncRecord
namespace Go.Vc
open Go Go.RowKit
def CallV (P:Program) (v:Value) (args:List Value) (w:World) (R:Ending→World→Prop):Prop:=
 (∃ (f:FuncId) (fs cap:List Value),v= .func (.func f) fs.toArray cap.toArray∧eG P f∧Calls P f (fs++args++cap).toArray w R)∨
 (∃ (l:Nat) (fn:FuncId) (tmps:Array Value) (assign body:Code),v= .func (.yield l) #[] #[]∧(Instr.yield l args.toArray).run P w= .ok (.round l fn tmps assign body) w∧Round P l fn tmps assign body w R)
def Hl:Value→Bool
 | .func _ _ _=>true
 | _=>false
section
variable {P:Program} {v:Value} {args:List Value} {w:World} {R R':Ending→World→Prop}
theorem CallV.mono (h:CallV P v args w R) (hr:∀ e w',R e w'→R' e w'):CallV P v args w R':=by
 rcases h with⟨f,fs,cap,h1,h2,h3⟩ | ⟨l,fn,tmps,assign,body,h1,h2,h3⟩
 ·exact .inl ⟨f,fs,cap,h1,h2,h3.mono hr⟩
 ·exact .inr ⟨l,fn,tmps,assign,body,h1,h2,λm=>(h3 m).mono hr⟩
theorem CallV.fn {f:FuncId} {cap:List Value} (hok:eG P f) (h:Calls P f (args++cap).toArray w R):CallV P (.func (.func f) #[] cap.toArray) args w R:=
 .inl ⟨f,[],cap,rfl,hok,by simpa using h⟩
end
section
variable {P:Program} {ro:Ro} {n:Fr} {Kn:Act→World→Prop} {Ke:Nat→Act→World→Prop} {Kr:Act→World→Prop} {env:lw} {w:World}
variable {ops:Array Oper} {rest:List Oper} {rs:Tr} {fl:Fl} {o:Oper} {i d:Nat} {v u:Value} {fx:Operand} {xs:List Operand} {args:List Value} {ts:Array TypeId} {D D':NP} {X:List Nat}
theorem uX {K:Act→World→Prop} {Q:Exit→Act→World→Prop} {a:Act} (hn:hO o=true) (hw:Region.wanted o (yielded ops a.tmps)=true) (ha:Has n a env) (ho:o.op= .call { callee:= .value fx,args:=xs.toArray,argTypes:=ts }) (hf:Ev n env fx v) (hxs:EvA n env xs args)
  (h:CallV P v args w λe w'=>∃ u,e= .returned u∧K (a.put o.dst u) w'):su P ro.r ops Q o K a w:=by
 rcases h with⟨f,fs,cap,rfl,h2,h3⟩ | ⟨l,fn,tmps,assign,body,rfl,h2,h3⟩
 ·exact rp hn hw (tg (P:=P) (w:=w) ho hf h2 hxs a ha) h3
 ·refine DZ hn hw ?_ h3
  simp only[execOp,ho,resolve,hxs.map ha,hf a ha,Deferred.ofValue,Sem.run_bind,Sem.run_pure,Result.andThen_ok,invoke]
  simpa using h2
theorem vg (hg:oU n env ops o true) (hd:o.dst=some d) (ho:o.op= .call { callee:= .value fx,args:=xs.toArray,argTypes:=ts }) (hf:Ev n env fx v) (hxs:EvA n env xs args)
  (h:CallV P v args w λe w'=>∃ u,e= .returned u∧dM P ro n ops Kn Ke Kr rest ((d,u)::env) w'):dM P ro n ops Kn Ke Kr (o::rest) env w:=
 rL λa hn ha=>uX hn (hg a ha) ha ho hf hxs (h.mono λ_ _ ⟨u,h1,h2⟩=>⟨u,h1,_,by rw[hd];exact ha.put d u,h2⟩)
theorem yo (hi:ops[i]? =some o) (hg:oU n env ops o true) (hd:o.dst=some d) (ho:o.op= .call { callee:= .value fx,args:=xs.toArray,argTypes:=ts }) (hf:Ev n env fx v) (hxs:EvA n env xs args)
  (h:CallV P v args w λe w'=>∃ u,e= .returned u∧∃ D',Sp D w D' w'∧dw P ro n ops Kn Ke Kr (SN X D' w') rs ((d,u)::env) w') (hX:X.contains i=false:=by rfl) (hfl:fl.solo=true:=by rfl):dw P ro n ops Kn Ke Kr (SN X D w) (.c (i,fl) rs) env w:=
 wC (hfl:=hfl) (S:=SN X D w) (hx:=hX) hi λa hn ha=>uX hn (hg a ha) ha ho hf hxs (h.mono λ_ _ ⟨u,h1,D',h2,h3⟩=>⟨u,h1,⟨D',h2⟩,_,by rw[hd];exact ha.put d u,zW h2 h3⟩)
theorem Gy {c:Bool} (hg:oU n env ops o c) (hd:o.dst=some d) (ho:o.op= .call { callee:= .value fx,args:=xs.toArray,argTypes:=ts }) (hf:c=true→Ev n env fx v) (hxs:c=true→EvA n env xs args)
  (hc:c=true→CallV P v args w λe w'=>e= .returned u∧Ext w w') (h:∀ w',Ext w w'→dM P ro n ops Kn Ke Kr rest ((d,gv c u)::env) w'):dM P ro n ops Kn Ke Kr (o::rest) env w:=
 rL λa hn ha=>by
  cases c with
  | true=>exact uX hn (hg a ha) ha ho (hf rfl) (hxs rfl) ((hc rfl).mono λ_ _ ⟨h1,h2⟩=>⟨u,h1,_,by rw[hd];exact ha.put d u,h _ h2⟩)
  | false=>exact tB (hg a ha) ⟨_,by rw[hd];exact ha.put d undef,h _ .rfl'⟩
theorem fA {g:FuncId} {args:Array Value} (hi:ops[i]? =some o) (hg:oU n env ops o true) (hd:o.dst=some d) (hr:nY P n env o w (.ok (.enter g args) w))
  (h:Calls P g args w λe w'=>∃ v,e= .returned v∧∃ D',Sp D w D' w'∧dw P ro n ops Kn Ke Kr (SN X D' w') rs ((d,v)::env) w') (hX:X.contains i=false:=by rfl) (hfl:fl.solo=true:=by rfl):dw P ro n ops Kn Ke Kr (SN X D w) (.c (i,fl) rs) env w:=
 HG (hfl:=hfl) (S:=SN X D w) (hx:=hX) hi hg hd hr (h.mono λe w' ⟨v,h1,D',h2,h3⟩=>⟨v,h1,⟨D',h2⟩,zW h2 h3⟩)
theorem nW {f:FuncId} {ys:List Operand} {vs cap:List Value} {xs:Array Operand} (ho:o.op= .makeFunc (.func f) xs ys.toArray) (hx0:xs= #[]) (hys:EvA n env ys cap):iE P n env o (.func (.func f) #[] cap.toArray) w:=λa ha=>by
 have _:=vs
 subst hx0
 simp[execOp,ho,hys.map ha,Instr.makeFunc]
end
def Cl.blk (b:Nat) (T:TypeId) (cs:Array Value):Cl:=⟨λD w=>b<w.heap.size∧¬ D b∧Blk w b T cs,λhs ⟨h1,h2,h3⟩=>⟨Nat.lt_of_lt_of_le h1 hs.size,(hs.keep _ h1 h2).2,(hs.keep _ h1 h2).1.trans h3⟩⟩
section
variable {C0 F C D:NP} {w0 w w':World} {os os':List MO} {cl cl':List Cl} {f:MO→List MO} {b:Nat} {T:TypeId} {cs:Array Value}
theorem Bun.kblk {off:Nat} {l:List Value} (h:Bun C0 F w0 C w os cl) (hi:In cl (Cl.blk b T cs)) (hl:(cs.toList.drop off).take l.length=l):CA (Dj F C) w ⟨b,off,none⟩ l:=
 have hb:=h.get hi
 ⟨LU hb.2.2 hl,λ_=>⟨hb.1,hb.2.1⟩⟩
theorem Bun.lendBox (h:Bun C0 F w0 C w os cl) (ha:At os (MO.box b T cs) f):(Cl.blk b T cs).p du w:=⟨(h.blk ha).lt,λh=>h,h.blk ha⟩
theorem Bun.relBox (h:Bun C0 F w0 C w os cl) (hr:Rm os (MO.box b T cs) os'):∃ C',Bun C0 F w0 C' w os' (Cl.blk b T cs::cl):=by
 obtain⟨C1,h1,h2,h3⟩:=h.mo.rm hr
 have hless:Sp (Dj F C) w (Dj F λk=>C k∧¬ C1 k) w:=LZ λk hk=>hk.imp id And.left
 refine⟨λk=>C k∧¬ C1 k,⟨h.st.os,h.st.tape,h.st.output,h.st.size,λk hk hn=>⟨(h.st.keep k hk hn).1,λh'=>(h.st.keep k hk hn).2 h'.1⟩,λk hk=>h.st.lt k hk.1⟩,h3.sp (λ_ _ _=>rfl) hless,⟨⟨h1.2.lt,?_,h1.2⟩,h.cl.sp hless⟩,λk hk hc=>h.dj k hk hc.1,h.fl⟩
 rintro(hf | hc)
 ·exact h.dj b hf (h2 b ((h1.1 b).2 rfl))
 ·exact hc.2 ((h1.1 b).2 rfl)
theorem Bun.subs (h:Bun C0 F w0 C w os cl) (hs:Subs cl cl'):Bun C0 F w0 C w os cl':=⟨h.st,h.mo,h.cl.subs hs,h.dj,h.fl⟩
theorem Bun.ord (h:Bun C0 F w0 C w os cl) (hg:HT os os'):Bun C0 F w0 C w os' cl:=⟨h.st,h.mo.got hg,h.cl,h.dj,h.fl⟩
theorem Bun.hands {sl rest:List MO} (h:Bun C0 F w0 C w os cl) (hs:Ja os sl rest):∃ C1 F1,Bun C1 F1 w C1 w sl cl∧(∀ k,Dj F1 C1 k→Dj F C k)∧
  ∀ (C1':NP) (w':World) (sl':List MO) (cl1:List Cl),Bun C1 F1 w C1' w' sl' cl1→∃ C',Sp (Dj F C) w (Dj F C') w'∧Bun C0 F w0 C' w' (sl'++rest) (cl1++cl):=by
 obtain⟨C1,C2,h1,h2,h3,h4,h5,h6,h7⟩:=h.mo.sel hs
 have e12:Sp (Dj F C) w (Dj (Dj F C2) C1) w:=LZ λk hk=>hk.elim (λh=>h.imp id (h5 k)) (λh=> .inr (h4 k h))
 refine⟨C1,Dj F C2,⟨⟨rfl,rfl,rfl,Nat.le_refl _,λk _ hn=>⟨rfl,hn⟩,h6⟩,h1.sp (λ_ _ _=>rfl) e12,h.cl.sp e12,λk hk hc=>hk.elim (λhf=>h.dj k hf (h4 k hc)) (h3 k hc),λk hk=>hk.elim (h.fl k) (h7 k)⟩,λk hk=>hk.elim (λh=>h.imp id (h5 k)) (λh=> .inr (h4 k h)),λC1' w' sl' cl1 hb=>?_⟩
 have hsp:Sp (Dj F C) w (Dj F λk=>C1' k∨C2 k) w':=⟨hb.st.size,λk hk hn=>by
  have hn1:¬ C1 k:=λh=>hn (.inr (h4 k h))
  refine⟨(hb.st.keep k hk hn1).1,?_⟩
  rintro(h | h | h)
  ·exact hn (.inl h)
  ·exact(hb.st.keep k hk hn1).2 h
  ·exact hn (.inr (h5 k h))⟩
 have e1:Sp (Dj (Dj F C2) C1') w' (Dj F λk=>C1' k∨C2 k) w':=LZ λk hk=>hk.elim (λh=> .inl (.inl h)) (λh=>h.elim .inr (λh=> .inl (.inr h)))
 have hd:∀ k,C1' k→¬ C2 k:=λk hk h2'=>hb.dj k (.inr h2') hk
 refine⟨λk=>C1' k∨C2 k,hsp,⟨hb.st.os.trans h.st.os,hb.st.tape.trans h.st.tape,hb.st.output.trans h.st.output,Nat.le_trans h.st.size hb.st.size,λk hk hn=>?_,λk hk=>hk.elim (hb.st.lt k) (λh=>Nat.lt_of_lt_of_le (h7 k h) hb.st.size)⟩,?_,(hb.cl.sp e1).app (h.cl.sp hsp),λk hk hc=>hc.elim (hb.dj k (.inl hk)) (λhc=>h.dj k hk (h5 k hc)),λk hk=>Nat.lt_of_lt_of_le (h.fl k hk) hb.st.size⟩
 ·have hk':=Nat.lt_of_lt_of_le hk h.st.size
  have hn1:¬ C1 k:=λh'=>(h.st.keep k hk hn).2 (h4 k h')
  refine⟨(hb.st.keep k hk' hn1).1.trans (h.st.keep k hk hn).1,?_⟩
  rintro(h' | h')
  ·exact(hb.st.keep k hk' hn1).2 h'
  ·exact(h.st.keep k hk hn).2 (h5 k h')
 ·have h2':AllMO rest C2 (Dj F λk=>C1' k∨C2 k) w':=AllMO.sp h2 (λk hk hlt=>(hb.st.keep k hlt (λh1'=>h3 k h1' hk)).1) hsp
  exact AllMO.app (AllMO.sp hb.mo (λ_ _ _=>rfl) e1) h2' hd
end
structure StI (σ:Type) where
 inv:σ→NP→NP→World→Prop
 lt:∀ {s C D w},inv s C D w→∀ k,C k→k<w.heap.size
 sp:∀ {s C D w D' w'},inv s C D w→(∀ k,C k→w'.heap[k]? =w.heap[k]?)→Sp D w D' w'→inv s C D' w'
def MO.st {σ:Type} (I:StI σ) (s:σ):MO:=⟨I.inv s,I.lt,I.sp⟩
def StI.of {σ β:Type} (os:σ→β→List MO) (cl:σ→β→List Cl):StI σ where
 inv s C D w:=(∃ b,AllMO (os s b) C D w∧AllCl (cl s b) D w)∧∀ k,C k→k<w.heap.size
 lt h:=h.2
 sp:=λ⟨⟨b,h1,h2⟩,h3⟩ hc hs=>⟨⟨b,h1.sp (λk hk _=>hc k hk) hs,h2.sp hs⟩,λk hk=>Nat.lt_of_lt_of_le (h3 k hk) hs.size⟩
section
variable {σ β:Type} {os:σ→β→List MO} {cl:σ→β→List Cl} {s:σ} {C0 F C:NP} {w0 w:World} {L:List Cl}
theorem Bun.unst (h:Bun C0 F w0 C w [MO.st (StI.of os cl) s] L):∃ b,Bun C0 F w0 C w (os s b) (cl s b++L):=by
 obtain⟨C1,C2,⟨⟨b,h1,h2⟩,h3⟩,_,_,h5,_⟩:=h.mo
 exact⟨b,h.st,h1.mono h5,h2.app h.cl,h.dj,h.fl⟩
theorem Bun.mkst {b:β} (h:Bun C0 F w0 C w (os s b) L) (hs:Subs L (cl s b)):Bun C0 F w0 C w [MO.st (StI.of os cl) s] L:=
 ⟨h.st,⟨C,λ_=>False,⟨⟨b,h.mo,h.cl.subs hs⟩,h.st.lt⟩,ah,λ_ _ h=>h,λ_ h=>h,λ_ h=>h.elim⟩,h.cl,h.dj,h.fl⟩
end
end Go.Vc
namespace Go.Vc
open Go Go.RowKit Go.WideShapes
abbrev okI (k:IntKind) (n:Int):Prop:=(Lit.int k n).wf=true
abbrev okS (s:List UInt8):Prop:=s.length≤maxLen
section
variable {P:Program} {t e:TypeId} {α:Type} {c:Cod α} {ok:α→Prop}
theorem Ef {name:String} {g:Nat} {k:IntKind} {zs:List Int} {w w':World} (hg:P.globalNamed name=some g) (h:Lib.TabIs P w name k zs) (he:w'.heap[g]? =w.heap[g]?):Lib.TabIs P w' name k zs:=by
 unfold Lib.TabIs World.var? at *
 rw[hg]at *
 simp only[Option.bind_some]at *
 rw[he];exact h
def tabCl {name:String} {g:Nat} (hg:P.globalNamed name=some g) (k:IntKind) (zs:List Int):Cl:=
 ⟨λD w=>Lib.TabIs P w name k zs∧g<w.heap.size∧¬ D g,λhs ⟨h1,h2,h3⟩=>⟨Ef hg h1 (hs.keep _ h2 h3).1,Nat.lt_of_lt_of_le h2 hs.size,(hs.keep _ h2 h3).2⟩⟩
theorem tabCl.start {name:String} {g:Nat} (hg:P.globalNamed name=some g) {k:IntKind} {zs:List Int} {w:World} (h:Lib.TabIs P w name k zs):(tabCl hg k zs).p du w:=by
 refine⟨h,?_,λh=>h⟩
 unfold Lib.TabIs World.var? at h
 rw[hg]at h
 by_cases hb:g<w.heap.size
 ·exact hb
 ·have e:w.heap[g]? =none:=by simp;omega
  simp[e]at h
theorem Jh {k:IntKind} {n:Int} (h:(Lit.int k n).wf=true):k.min≤n∧n≤k.max:=by
 simpa[Lit.wf,IntKind.has]using h
end
end Go.Vc
namespace Go.Vc
open Go Go.RowKit
def LY (r:Nat) (o:Obj):MO where
 inv C _ w:=(∀ k,C k↔k=r)∧w.heap[r]? =some o
 lt h k hk:=by rw[(h.1 k).1 hk];exact(Array.getElem?_eq_some_iff.1 h.2).1
 sp h hc _:=⟨h.1,(hc r ((h.1 r).2 rfl)).trans h.2⟩
abbrev MO.dfr (r:Nat):MO:=LY r (.deferred (some []))
abbrev LR (st:LoopState) (pe:Option Code) (fn:FuncId) (tmps:Array Value) (ps:Array Tmp) (assign body:Code) (r:Nat):Loop:=⟨st,pe,fn,tmps,ps,assign,body,r⟩
abbrev MO.loop (l:Nat) (r:Loop):MO:=LY l (.loop r)
def KF (js:List Code):Nat→Option Code
 | 0=>none
 | k+1=>js[k]?
def DP (fn:FuncId) (tmps:Array Value) (ps:Array Tmp) (assign body:Code) (r:Nat) (js:List Code) (out:Nat):Loop:=
 LR (if(KF js out).isNone then .ready else .done) (KF js out) fn tmps ps assign body r
section
variable {P:Program} {C0 F C:NP} {w0 w w':World} {os os':List MO} {cl:List Cl} {f:MO→List MO} {r l:Nat} {o o':Obj} {rc:Loop}
theorem Bun.oat (h:Bun C0 F w0 C w os cl) (ha:At os (LY r o) f):w.heap[r]? =some o:=by
 obtain⟨C1,h1,_⟩:=h.look ha;exact h1.2
theorem Bun.newObj (h:Bun C0 F w0 C w os cl) (o:Obj):∃ C',(∀ md,Sp (DM md F C) w (DM md F C') (w.alloc o))∧Bun C0 F w0 C' (w.alloc o) (LY w.heap.size o::os) cl:=
 h.new (b:=w.heap.size) (Ext.alloc _) rfl (by simp) λD _=>⟨λ_=>Iff.rfl,heap_alloc_new w o⟩
theorem Bun.putObj (h:Bun C0 F w0 C w os cl) (ha:At os (LY r o) f) (o':Obj):∃ C',Sp (Dj F C) w (Dj F C') (w.putObj r o')∧Bun C0 F w0 C' (w.putObj r o') (f (LY r o')) cl:=by
 obtain⟨C1,h1,h2,h3⟩:=h.turn ha
 have hlt:r<w.heap.size:=(Array.getElem?_eq_some_iff.1 h1.2).1
 obtain⟨C',h4,h5⟩:=h3 (w.putObj r o') C1 ⟨rfl,rfl,rfl,by simp,λk hk hn=>⟨World.putObj_heap_other λe=>hn ((h1.1 k).2 e),hn⟩,λk hk=>by rw[(h1.1 k).1 hk];simpa using hlt⟩
 exact⟨C',h4,h5 (LY r o') ⟨h1.1,World.putObj_heap_same hlt⟩⟩
theorem Bun.shut {ds:List Nat} {K:World→Prop} (h:Bun C0 F w0 C w os cl) (ha:At os (MO.dfr r) f) (hk:∀ C' w',Bun C0 F w0 C' w' (f (LY r (.deferred none))) cl→∃ w2,rG P ds w' w2∧K w2):∃ w2,rG P (r::ds) w w2∧K w2:=by
 obtain⟨C',_,h2⟩:=h.putObj ha (.deferred none)
 obtain⟨w2,h3,h4⟩:=hk _ _ h2
 exact⟨w2,⟨_,run_takeDeferred (h.oat ha),h3⟩,h4⟩
theorem rg {K:World→Prop} (hk:K w):∃ w2,rG P [] w w2∧K w2:=⟨w,rfl,hk⟩
end
def StI.loop {σ β:Type} (l:Nat) (rc:Nat→Loop) (os:σ→β→List MO) (cl:σ→β→List Cl):StI (Nat×σ):=
 StI.of (λs b=>MO.loop l (rc s.1)::os s.2 b) (λs b=>cl s.2 b)
section
variable {P:Program} {ro:Ro} {n:Fr} {Kn:Act→World→Prop} {Ke:Nat→Act→World→Prop} {Kr:Act→World→Prop} {env:lw} {w:World}
variable {C0 F C:NP} {w0:World} {os:List MO} {cl:List Cl} {f:MO→List MO} {l r m:Nat} {fn:FuncId} {tmps:Array Value} {ps:Array Tmp} {assign body:Code} {R:Ending→World→Prop}
theorem BZ {k:Nat} {c:Code} {Q:Exit→Act→World→Prop} {a:Act} (h:c.wpIn (FW ro.r) 0 P Q a w):c.wpIn (FW ro.r) k P Q a w:=λb ks cs h1 h2 _=>h b ks cs h1 h2 (Iu _)
theorem tE {args:List Value} {env1:lw} {js:List Code} {oss:List MO} (hI:Bun C0 F w0 C w (MO.loop l (DP fn tmps ps assign body r js 0)::oss) cl) (hps:args.length=ps.size)
  (henv:Has ⟨m,[]⟩ { tmps:=(ps.zip args.toArray).foldl (λt (p,v)=>t.setIfInBounds p v) tmps,defers:=[] } env1)
  (h:im P (.rnd l) ⟨m,[]⟩ assign (λa1 w1=>∃ w2,(Instr.beginRound l).run P w1= .ok () w2∧Code.wpIn (FW (some l)) 0 P body (roundPost P l R) a1 w2) (λ_ _ _=>False) (λ_ _=>False) env1 w):CallV P (.func (.yield l) #[] #[]) args w R:=by
 have hat:w.heap[l]? =some (.loop (LR .ready none fn tmps ps assign body r)):=hI.oat .z
 refine .inr ⟨l,fn,_,assign,body,rfl,run_yield hat (by simpa using hps),λk=>?_⟩
 refine roundIn_of_wpIn (F:=Fence.wide) trivial ?_
 have h1:=h _ henv
 refine BZ (ro:= .rnd l) (k:=k) (wpIn_mono h1 λe a w' q=>?_)
 cases e with
 | normal=>obtain⟨w2,h2,h3⟩:=q;exact⟨w2,h2,BZ (ro:= .rnd l) (k:=k) h3⟩
 | exit id=>exact q
 | ret=>exact q
 | panic ch=>exact q.2.elim
 | goto l=>exact q.elim
 | outgrown=>exact q.elim
theorem Subs.up {c:Cl} {L L':List Cl} (h:Subs L L'):Subs (c::L) L':=by
 induction L' with
 | nil=>trivial
 | cons a L' ih=>exact⟨.s h.1,ih h.2⟩
theorem Subs.refl (L:List Cl):Subs L L:=by
 induction L with
 | nil=>trivial
 | cons a L ih=>exact⟨.z,ih.up⟩
def IF (P:Program) (l:Nat) (R:Ending→World→Prop) (jump:Option Code) (w3:World):Prop:=∃ v w4,(Instr.endRound l jump).run P w3= .ok v w4∧R (.returned v) w4
theorem AY {js:List Code} (hI:Bun C0 F w0 C w os cl) (ha:At os (MO.loop l (DP fn tmps ps assign body r js 0)) f)
  (h:∀ C' w2,Bun C0 F w0 C' w2 (f (MO.loop l (LR .busy none fn tmps ps assign body r))) cl→
   im P (.rnd l) n body (λ_ w3=>IF P l R none w3) (λid _ w3=>IF P l R (some (.exit id)) w3) (λ_ w3=>IF P l R (some .ret) w3) env w2):
  ∀ a,Has n a env→∃ w2,(Instr.beginRound l).run P w= .ok () w2∧Code.wpIn (FW (some l)) 0 P body (roundPost P l R) a w2:=λa hA=>by
 obtain⟨C',_,h2⟩:=hI.putObj ha (.loop (LR .busy none fn tmps ps assign body r))
 have hat:w.heap[l]? =some (.loop (LR .ready none fn tmps ps assign body r)):=hI.oat ha
 refine⟨_,run_beginRound hat rfl,wpIn_mono (h C' _ h2 a hA) λe a' w' q=>?_⟩
 cases e with
 | normal=>exact q
 | exit id=>exact q
 | ret=>exact q
 | panic ch=>exact q.2.elim
 | goto l=>exact q.elim
 | outgrown=>exact q.elim
theorem tX {σ β:Type} {js:List Code} {oS:σ→β→List MO} {cS:σ→β→List Cl} {out:Nat} {s:σ} {b:β} {jump:Option Code} (hI:Bun C0 F w0 C w (MO.loop l (LR .busy none fn tmps ps assign body r)::oS s b) (cS s b)) (hj:KF js out=jump)
  (h:∀ C' w2,Bun C0 F w0 C' w2 [MO.st (StI.loop l (DP fn tmps ps assign body r js) oS cS) (out,s)] []→R (.returned (.bool jump.isNone)) w2):IF P l R jump w:=by
 have hat:w.heap[l]? =some (.loop (LR .busy none fn tmps ps assign body r)):=hI.oat .z
 obtain⟨C',_,h2⟩:=hI.putObj .z (.loop (LR (if jump.isNone then .ready else .done) jump fn tmps ps assign body r))
 subst hj
 refine⟨_,_,run_endRound _ hat,h C' _ ?_⟩
 have h3:=Bun.mkst (os:=λ(s:Nat×σ) b=>MO.loop l (DP fn tmps ps assign body r js s.1)::oS s.2 b) (cl:=λ(s:Nat×σ) b=>cS s.2 b) (s:=(out,s)) (b:=b) (L:=cS s b) h2 (Subs.refl _)
 exact h3.subs trivial
theorem tI {gf:FuncId} {cap:List Value} {g:Operand} (js:List Code) (hI:Bun C0 F w0 C w os cl) (hg:Ev n env g (.func (.func gf) #[] cap.toArray)) (hok:eG P gf)
  (h:∀ (l r:Nat) (fn:FuncId) (tmps:Array Value) (rc:Nat→Loop) (_:rc=DP fn tmps ps assign body r js) (C':NP) (w':World),(∀ n':Fr,n'.n=n.n→n'.ds=[]→Has n' { tmps:=tmps,defers:=[] } env)→
   Bun C0 F w0 C' w' (MO.loop l (rc 0)::MO.dfr r::os) cl→
   Calls P gf (.func (.yield l) #[] #[]::cap).toArray w' λe w2=>∃ v,e= .returned v∧∃ jump w3,(Instr.endLoop l).run P w2= .ok jump w3∧
    match jump with
    | none=>∀ a,Has ⟨n.n,r::n.ds⟩ a env→Kn a w3
    | some c=>im P .plain ⟨n.n,r::n.ds⟩ c Kn Ke Kr env w3):im P .plain n (.rangeFunc g ps assign body) Kn Ke Kr env w:=λa ha=>by
 refine wpIn_rangeFunc λfn _=>?_
 obtain⟨Ca,_,hIa⟩:=hI.newObj (.deferred (some []))
 obtain⟨Cb,_,hIb⟩:=hIa.newObj (.loop (LR .ready none fn a.tmps ps assign body w.heap.size))
 have hx:=h _ _ fn a.tmps _ rfl Cb _ (λn' e1 e2=>⟨by rw[e2];rfl,ha.sz.trans e1.symm,λt v hl ht=>ha.rd t v hl (e1▸ht)⟩) hIb
 have hsz:(w.alloc (.deferred (some []))).heap.size=w.heap.size+1:=by simp
 let W:=(w.alloc (.deferred (some []))).alloc (.loop (LR .ready none fn a.tmps ps assign body w.heap.size))
 refine⟨w.heap.size+1,[{ target:= .collected w.heap.size,args:=#[] }],W,Deferred.mk (Target.fn (Fn.func gf) cap.toArray) #[Value.func (Fn.yield (w.heap.size+1)) #[] #[]],W,gf,#[Value.func (Fn.yield (w.heap.size+1)) #[] #[]]++cap.toArray,W,run_enterLoop_outer _ _ _ _ _,?_,λ_ _=>trivial,?_,vw,?_⟩
 ·simp only[resolve,hg a ha]
  simp[go_sem]
 ·simp[invoke,rM hok]
 ·rw[hsz]at hx
  have e1:(#[Value.func (Fn.yield (w.heap.size+1)) #[] #[]]++cap.toArray:Array Value)=(Value.func (Fn.yield (w.heap.size+1)) #[] #[]::cap).toArray:=by simp
  rw[e1]
  refine uW (hx.mono ?_)
  rintro e w2 ⟨v,rfl,jump,w3,h1,h2⟩
  refine⟨jump,w3,h1,?_⟩
  cases jump with
  | none=>exact h2 _ ⟨by simp[Cv,ha.df],ha.sz,ha.rd⟩
  | some c=>exact h2 _ ⟨by simp[Cv,ha.df],ha.sz,ha.rd⟩
theorem wo {js:List Code} {out:Nat} {K:Option Code→World→Prop} (hI:Bun C0 F w0 C w os cl) (ha:At os (MO.loop l (DP fn tmps ps assign body r js out)) f)
  (h:∀ C' w3,Bun C0 F w0 C' w3 (f (MO.loop l (LR .exhausted (KF js out) fn tmps ps assign body r))) cl→K (KF js out) w3):∃ jump w3,(Instr.endLoop l).run P w= .ok jump w3∧K jump w3:=by
 obtain⟨C',_,h2⟩:=hI.putObj ha (.loop (LR .exhausted (KF js out) fn tmps ps assign body r))
 exact⟨_,_,run_endLoop (hI.oat ha) (by simp only[DP];split<;>simp),h C' _ h2⟩
theorem uQ {tmps:Array Value} {n':Fr} {p:Tmp} {v:Value} (h:Has n' { tmps:=tmps,defers:=[] } env):Has n' { tmps:=((#[p]:Array Tmp).zip ([v].toArray)).foldl (λt (p,v)=>t.setIfInBounds p v) tmps,defers:=[] } ((p,v)::env):=by
 have:=h.put p v
 simpa[Act.put]using this
end
end Go.Vc
