import Derived.Test.YtmhoikfoogemnaaGreatDoorMLfA
namespace Go.Vc
open Go Go.RowKit
def CallV (P:Program) (v:Value) (args:List Value) (w:World) (R:Ending→World→Prop):Prop:=
 (∃ (f:FuncId) (fs cap:List Value),v= .func (.func f) fs.toArray cap.toArray∧eh P f∧Calls P f (fs++args++cap).toArray w R)∨
 (∃ (l:Nat) (fn:FuncId) (tmps:Array Value) (assign body:Code),v= .func (.yield l) #[] #[]∧(Instr.yield l args.toArray).run P w= .ok (.round l fn tmps assign body) w∧Round P l fn tmps assign body w R)
def Fx:Value→Bool
 | .func _ _ _=>true
 | _=>false
section
variable {P:Program} {v:Value} {args:List Value} {w:World} {R R':Ending→World→Prop}
theorem CallV.mono (h:CallV P v args w R) (hr:∀ e w',R e w'→R' e w'):CallV P v args w R':=by
 rcases h with⟨f,fs,cap,h1,h2,h3⟩ | ⟨l,fn,tmps,assign,body,h1,h2,h3⟩
 ·exact .inl ⟨f,fs,cap,h1,h2,h3.mono hr⟩
 ·exact .inr ⟨l,fn,tmps,assign,body,h1,h2,fun m=>(h3 m).mono hr⟩
theorem CallV.fn {f:FuncId} {cap:List Value} (hok:eh P f) (h:Calls P f (args++cap).toArray w R):CallV P (.func (.func f) #[] cap.toArray) args w R:=
 .inl ⟨f,[],cap,rfl,hok,by simpa using h⟩
end
section
variable {P:Program} {ro:Ro} {n:Fr} {Kn:Act→World→Prop} {Ke:Nat→Act→World→Prop} {Kr:Act→World→Prop} {env:jQ} {w:World}
variable {ops:Array Oper} {rest:List Oper} {rs:Tr} {fl:Fl} {o:Oper} {i d:Nat} {v u:Value} {fx:Operand} {xs:List Operand} {args:List Value} {ts:Array TypeId} {D D':NP} {X:List Nat}
theorem rO {K:Act→World→Prop} {Q:Exit→Act→World→Prop} {a:Act} (hn:ft o=true) (hw:Region.wanted o (yielded ops a.tmps)=true) (ha:Has n a env) (ho:o.op= .call { callee:= .value fx,args:=xs.toArray,argTypes:=ts }) (hf:Ev n env fx v) (hxs:EvA n env xs args)
  (h:CallV P v args w fun e w'=>∃ u,e= .returned u∧K (a.put o.dst u) w'):pV P ro.r ops Q o K a w:=by
 rcases h with⟨f,fs,cap,rfl,h2,h3⟩ | ⟨l,fn,tmps,assign,body,rfl,h2,h3⟩
 ·exact pc hn hw (fP (P:=P) (w:=w) ho hf h2 hxs a ha) h3
 ·refine BU hn hw ?_ h3
  simp only[execOp,ho,resolve,hxs.map ha,hf a ha,Deferred.ofValue,Sem.run_bind,Sem.run_pure,Result.andThen_ok,invoke]
  simpa using h2
theorem se (hg:mC n env ops o true) (hd:o.dst=some d) (ho:o.op= .call { callee:= .value fx,args:=xs.toArray,argTypes:=ts }) (hf:Ev n env fx v) (hxs:EvA n env xs args)
  (h:CallV P v args w fun e w'=>∃ u,e= .returned u∧cV P ro n ops Kn Ke Kr rest ((d,u)::env) w'):cV P ro n ops Kn Ke Kr (o::rest) env w:=
 py fun a hn ha=>rO hn (hg a ha) ha ho hf hxs (h.mono fun _ _ ⟨u,h1,h2⟩=>⟨u,h1,_,by rw[hd];exact ha.put d u,h2⟩)
theorem vB (hi:ops[i]? =some o) (hg:mC n env ops o true) (hd:o.dst=some d) (ho:o.op= .call { callee:= .value fx,args:=xs.toArray,argTypes:=ts }) (hf:Ev n env fx v) (hxs:EvA n env xs args)
  (h:CallV P v args w fun e w'=>∃ u,e= .returned u∧∃ D',Sp D w D' w'∧cG P ro n ops Kn Ke Kr (SN X D' w') rs ((d,u)::env) w') (hX:X.contains i=false:=by rfl) (hfl:fl.solo=true:=by rfl):cG P ro n ops Kn Ke Kr (SN X D w) (.c (i,fl) rs) env w:=
 tN (hfl:=hfl) (S:=SN X D w) (hx:=hX) hi fun a hn ha=>rO hn (hg a ha) ha ho hf hxs (h.mono fun _ _ ⟨u,h1,D',h2,h3⟩=>⟨u,h1,⟨D',h2⟩,_,by rw[hd];exact ha.put d u,zB h2 h3⟩)
theorem ET {c:Bool} (hg:mC n env ops o c) (hd:o.dst=some d) (ho:o.op= .call { callee:= .value fx,args:=xs.toArray,argTypes:=ts }) (hf:c=true→Ev n env fx v) (hxs:c=true→EvA n env xs args)
  (hc:c=true→CallV P v args w fun e w'=>e= .returned u∧Ext w w') (h:∀ w',Ext w w'→cV P ro n ops Kn Ke Kr rest ((d,gv c u)::env) w'):cV P ro n ops Kn Ke Kr (o::rest) env w:=
 py fun a hn ha=>by
  cases c with
  | true=>exact rO hn (hg a ha) ha ho (hf rfl) (hxs rfl) ((hc rfl).mono fun _ _ ⟨h1,h2⟩=>⟨u,h1,_,by rw[hd];exact ha.put d u,h _ h2⟩)
  | false=>exact qx (hg a ha) ⟨_,by rw[hd];exact ha.put d undef,h _ .rfl'⟩
theorem eC {g:FuncId} {args:Array Value} (hi:ops[i]? =some o) (hg:mC n env ops o true) (hd:o.dst=some d) (hr:lM P n env o w (.ok (.enter g args) w))
  (h:Calls P g args w fun e w'=>∃ v,e= .returned v∧∃ D',Sp D w D' w'∧cG P ro n ops Kn Ke Kr (SN X D' w') rs ((d,v)::env) w') (hX:X.contains i=false:=by rfl) (hfl:fl.solo=true:=by rfl):cG P ro n ops Kn Ke Kr (SN X D w) (.c (i,fl) rs) env w:=
 FY (hfl:=hfl) (S:=SN X D w) (hx:=hX) hi hg hd hr (h.mono fun e w' ⟨v,h1,D',h2,h3⟩=>⟨v,h1,⟨D',h2⟩,zB h2 h3⟩)
theorem mF {f:FuncId} {ys:List Operand} {vs cap:List Value} {xs:Array Operand} (ho:o.op= .makeFunc (.func f) xs ys.toArray) (hx0:xs= #[]) (hys:EvA n env ys cap):fZ P n env o (.func (.func f) #[] cap.toArray) w:=fun a ha=>by
 have _:=vs
 subst hx0
 simp[execOp,ho,hys.map ha,Instr.makeFunc]
end
def Cl.blk (b:Nat) (T:TypeId) (cs:Array Value):Cl:=⟨fun D w=>b<w.heap.size∧¬ D b∧Blk w b T cs,fun hs ⟨h1,h2,h3⟩=>⟨Nat.lt_of_lt_of_le h1 hs.size,(hs.keep _ h1 h2).2,(hs.keep _ h1 h2).1.trans h3⟩⟩
section
variable {C0 F C D:NP} {w0 w w':World} {os os':List MO} {cl cl':List Cl} {f:MO→List MO} {b:Nat} {T:TypeId} {cs:Array Value}
theorem Bun.kblk {off:Nat} {l:List Value} (h:Bun C0 F w0 C w os cl) (hi:In cl (Cl.blk b T cs)) (hl:(cs.toList.drop off).take l.length=l):CA (Dj F C) w ⟨b,off,none⟩ l:=
 have hb:=h.get hi
 ⟨CellsAt.of_blk hb.2.2 hl,fun _=>⟨hb.1,hb.2.1⟩⟩
theorem Bun.lendBox (h:Bun C0 F w0 C w os cl) (ha:At os (MO.box b T cs) f):(Cl.blk b T cs).p d7 w:=⟨(h.blk ha).lt,fun h=>h,h.blk ha⟩
theorem Bun.relBox (h:Bun C0 F w0 C w os cl) (hr:Rm os (MO.box b T cs) os'):∃ C',Bun C0 F w0 C' w os' (Cl.blk b T cs::cl):=by
 obtain⟨C1,h1,h2,h3⟩:=h.mo.rm hr
 have hless:Sp (Dj F C) w (Dj F fun k=>C k∧¬ C1 k) w:=Sp.less fun k hk=>hk.imp id And.left
 refine⟨fun k=>C k∧¬ C1 k,⟨h.st.os,h.st.tape,h.st.output,h.st.size,fun k hk hn=>⟨(h.st.keep k hk hn).1,fun h'=>(h.st.keep k hk hn).2 h'.1⟩,fun k hk=>h.st.lt k hk.1⟩,h3.sp (fun _ _ _=>rfl) hless,⟨⟨h1.2.lt,?_,h1.2⟩,h.cl.sp hless⟩,fun k hk hc=>h.dj k hk hc.1,h.fl⟩
 rintro(hf | hc)
 ·exact h.dj b hf (h2 b ((h1.1 b).2 rfl))
 ·exact hc.2 ((h1.1 b).2 rfl)
theorem Bun.subs (h:Bun C0 F w0 C w os cl) (hs:Subs cl cl'):Bun C0 F w0 C w os cl':=⟨h.st,h.mo,h.cl.subs hs,h.dj,h.fl⟩
theorem Bun.ord (h:Bun C0 F w0 C w os cl) (hg:Gf os os'):Bun C0 F w0 C w os' cl:=⟨h.st,h.mo.got hg,h.cl,h.dj,h.fl⟩
theorem Bun.hands {sl rest:List MO} (h:Bun C0 F w0 C w os cl) (hs:H0 os sl rest):∃ C1 F1,Bun C1 F1 w C1 w sl cl∧(∀ k,Dj F1 C1 k→Dj F C k)∧
  ∀ (C1':NP) (w':World) (sl':List MO) (cl1:List Cl),Bun C1 F1 w C1' w' sl' cl1→∃ C',Sp (Dj F C) w (Dj F C') w'∧Bun C0 F w0 C' w' (sl'++rest) (cl1++cl):=by
 obtain⟨C1,C2,h1,h2,h3,h4,h5,h6,h7⟩:=h.mo.sel hs
 have e12:Sp (Dj F C) w (Dj (Dj F C2) C1) w:=Sp.less fun k hk=>hk.elim (fun h=>h.imp id (h5 k)) (fun h=> .inr (h4 k h))
 refine⟨C1,Dj F C2,⟨⟨rfl,rfl,rfl,Nat.le_refl _,fun k _ hn=>⟨rfl,hn⟩,h6⟩,h1.sp (fun _ _ _=>rfl) e12,h.cl.sp e12,fun k hk hc=>hk.elim (fun hf=>h.dj k hf (h4 k hc)) (h3 k hc),fun k hk=>hk.elim (h.fl k) (h7 k)⟩,fun k hk=>hk.elim (fun h=>h.imp id (h5 k)) (fun h=> .inr (h4 k h)),fun C1' w' sl' cl1 hb=> ?_⟩
 have hsp:Sp (Dj F C) w (Dj F fun k=>C1' k∨C2 k) w':=⟨hb.st.size,fun k hk hn=>by
  have hn1:¬ C1 k:=fun h=>hn (.inr (h4 k h))
  refine⟨(hb.st.keep k hk hn1).1,?_⟩
  rintro(h | h | h)
  ·exact hn (.inl h)
  ·exact(hb.st.keep k hk hn1).2 h
  ·exact hn (.inr (h5 k h))⟩
 have e1:Sp (Dj (Dj F C2) C1') w' (Dj F fun k=>C1' k∨C2 k) w':=Sp.less fun k hk=>hk.elim (fun h=> .inl (.inl h)) (fun h=>h.elim .inr (fun h=> .inl (.inr h)))
 have hd:∀ k,C1' k→¬ C2 k:=fun k hk h2'=>hb.dj k (.inr h2') hk
 refine⟨fun k=>C1' k∨C2 k,hsp,⟨hb.st.os.trans h.st.os,hb.st.tape.trans h.st.tape,hb.st.output.trans h.st.output,Nat.le_trans h.st.size hb.st.size,fun k hk hn=> ?_,fun k hk=>hk.elim (hb.st.lt k) (fun h=>Nat.lt_of_lt_of_le (h7 k h) hb.st.size)⟩,?_,(hb.cl.sp e1).app (h.cl.sp hsp),fun k hk hc=>hc.elim (hb.dj k (.inl hk)) (fun hc=>h.dj k hk (h5 k hc)),fun k hk=>Nat.lt_of_lt_of_le (h.fl k hk) hb.st.size⟩
 ·have hk':=Nat.lt_of_lt_of_le hk h.st.size
  have hn1:¬ C1 k:=fun h'=>(h.st.keep k hk hn).2 (h4 k h')
  refine⟨(hb.st.keep k hk' hn1).1.trans (h.st.keep k hk hn).1,?_⟩
  rintro(h' | h')
  ·exact(hb.st.keep k hk' hn1).2 h'
  ·exact(h.st.keep k hk hn).2 (h5 k h')
 ·have h2':AllMO rest C2 (Dj F fun k=>C1' k∨C2 k) w':=AllMO.sp h2 (fun k hk hlt=>(hb.st.keep k hlt (fun h1'=>h3 k h1' hk)).1) hsp
  exact AllMO.app (AllMO.sp hb.mo (fun _ _ _=>rfl) e1) h2' hd
end
structure StI (σ:Type) where
 inv:σ→NP→NP→World→Prop
 lt:∀ {s C D w},inv s C D w→∀ k,C k→k<w.heap.size
 sp:∀ {s C D w D' w'},inv s C D w→(∀ k,C k→w'.heap[k]? =w.heap[k]?)→Sp D w D' w'→inv s C D' w'
def MO.st {σ:Type} (I:StI σ) (s:σ):MO:=⟨I.inv s,I.lt,I.sp⟩
def StI.of {σ β:Type} (os:σ→β→List MO) (cl:σ→β→List Cl):StI σ where
 inv s C D w:=(∃ b,AllMO (os s b) C D w∧AllCl (cl s b) D w)∧∀ k,C k→k<w.heap.size
 lt h:=h.2
 sp:=fun⟨⟨b,h1,h2⟩,h3⟩ hc hs=>⟨⟨b,h1.sp (fun k hk _=>hc k hk) hs,h2.sp hs⟩,fun k hk=>Nat.lt_of_lt_of_le (h3 k hk) hs.size⟩
section
variable {σ β:Type} {os:σ→β→List MO} {cl:σ→β→List Cl} {s:σ} {C0 F C:NP} {w0 w:World} {L:List Cl}
theorem Bun.unst (h:Bun C0 F w0 C w [MO.st (StI.of os cl) s] L):∃ b,Bun C0 F w0 C w (os s b) (cl s b++L):=by
 obtain⟨C1,C2,⟨⟨b,h1,h2⟩,h3⟩,_,_,h5,_⟩:=h.mo
 exact⟨b,h.st,h1.mono h5,h2.app h.cl,h.dj,h.fl⟩
theorem Bun.mkst {b:β} (h:Bun C0 F w0 C w (os s b) L) (hs:Subs L (cl s b)):Bun C0 F w0 C w [MO.st (StI.of os cl) s] L:=
 ⟨h.st,⟨C,fun _=>False,⟨⟨b,h.mo,h.cl.subs hs⟩,h.st.lt⟩,trivial,fun _ _ h=>h,fun _ h=>h,fun _ h=>h.elim⟩,h.cl,h.dj,h.fl⟩
end
end Go.Vc
