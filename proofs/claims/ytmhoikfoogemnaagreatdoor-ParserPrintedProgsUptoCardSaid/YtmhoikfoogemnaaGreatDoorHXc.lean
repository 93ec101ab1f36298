import Derived.Test.YtmhoikfoogemnaaGreatDoorHXm
import Derived.Test.YtmhoikfoogemnaaGreatDoorProg
import Derived.RecoverIn
import Derived.KernelRfl
import Derived.Test.YtmhoikfoogemnaaGreatDoorHMd
import Derived.Test.YtmhoikfoogemnaaGreatDoorHShelf
namespace Go.Proofs.YtmhoikfoogemnaaGreatDoor
open Go Go.RowKit Go.Vc
set_option linter.unusedVariables false
set_option linter.unusedSimpArgs false
namespace Cg
theorem vT {P:Program} {ti:TypeId} {ms:Array (String×TypeId)} (tp:TypeId) (v:Value) (w:World) (hi:P.underlying ti=some (.interface ms)):
  (binOp .neq ti (.iface tp v) .nilIface).run P w= .ok (.bool true) w:=by
 have h:∀ d:Nat,(Op.equalIn (d+1) ti (.iface tp v) .nilIface).run P w= .ok false w:=λd=>by simp[Op.equalIn,run_underlying hi]
 simp only[binOp]
 simp[Op.equal,Op.maxDepth,h 9999]
theorem xR {P:Program} {ti:TypeId} {ms:Array (String×TypeId)} (w:World) (hi:P.underlying ti=some (.interface ms)):
  (binOp .neq ti .nilIface .nilIface).run P w= .ok (.bool false) w:=by
 have h:∀ d:Nat,(Op.equalIn (d+1) ti .nilIface .nilIface).run P w= .ok true w:=λd=>by simp[Op.equalIn,run_underlying hi]
 simp only[binOp]
 simp[Op.equal,Op.maxDepth,h 9999]
theorem HC {P:Program} {n:Fr} {env:kW} {o:Oper} {x:Operand} {t:TypeId} {v:Value} {w:World} {tx:TypeId} {ms:Array (String×TypeId)} (ho:o.op= .binOp .neq tx x (.const .nilIface) tx) (ht:P.underlying tx=some (.interface ms)) (hx:Ev n env x (.iface t v)):hH P n env o (.bool true) w:=
 iT ho hx (λ_ _=>rfl) (vT t v w ht) (by simp[eqGuard])
theorem IE {P:Program} {n:Fr} {env:kW} {o:Oper} {x:Operand} {t tx:TypeId} {d:TypeDesc} {v:Value} {w:World} (ho:o.op= .typeAssert x tx t true) (ht:P.underlying t=some d) (hd:(match d with | .interface _=>true | _=>false)=false) (hx:Ev n env x (.iface t v)):hH P n env o (.tuple #[v,.bool true]) w:=λa ha=>by
 have:(Instr.typeAssert (.iface t v) tx t true).run P w= .ok (.tuple #[v,.bool true]) w:=by
  cases d<;>first | (cases hd;done) | simp[Instr.typeAssert,run_underlying ht]
 simp only[execOp,ho,hx a ha]
 simp[this]
theorem Ja:(Tryz.prog.info? 114).map (·.size)=some 2:=by kernel_rfl
theorem lE:(Tryz.prog.info? 28).map (·.size)=some 1:=by kernel_rfl
theorem jQ:(Tryz.prog.info? 3).map (·.size)=some 1:=by kernel_rfl
theorem Iv:(Tryz.prog.info? 114).bind (·.zero)=some (Value.agg #[(Value.int .i64 0),(Value.int .i64 0)]):=by kernel_rfl
def iK:Tr:=(.c (5,.s) .n)
def l6:Option Unit:=some ()
theorem has3 {v0 v1 v2:Value} {tmps:Array Value} {m:Nat} (hs:tmps.size=m) (h0:tmps.getD 0 undef=v0) (h1:tmps.getD 1 undef=v1) (h2:tmps.getD 2 undef=v2):Has ⟨m,[]⟩ { tmps:=tmps,defers:=[] } [(0,v0),(1,v1),(2,v2)]:=
 ⟨rfl,hs,λt v h ht=>by
  match t,h with
  | 0,h=>injection (show some v0=some v from h)with h;rw[← h];exact h0
  | 1,h=>injection (show some v1=some v from h)with h;rw[← h];exact h1
  | 2,h=>injection (show some v2=some v from h)with h;rw[← h];exact h2
  | n+3,h=>cases (show none=some v from h)⟩
set_option maxRecDepth 100000 in
set_option maxHeartbeats 1000000 in
theorem F7:∃ c1 c2,Tryz.f67.body=some (.seq c1 c2)∧∀ {C0 F C:NP} {w0 w:World} {b1 b2:Nat} {x y a b:Int},Bun C0 F w0 C w [MO.box b1 3 #[.int .i64 x],MO.box b2 28 #[.int .i64 y]] []→
  gH Tryz.prog .plain ⟨20,[]⟩ c2 (λa' w'=>a'.defers=[]∧∃ C',Bun C0 F w0 C' w' [MO.box b1 3 #[.int .i64 a],MO.box b2 28 #[.int .i64 b]] []) (λ_ _ _=>False) (λ_ _=>False) [(0,.pointer (some ⟨b1,0,none⟩)),(1,.pointer (some ⟨b2,0,none⟩)),(2,.iface 114 (.agg #[.int .i64 a,.int .i64 b]))] w:=by
 refine⟨_,_,rfl,?_⟩
 intro C0 F C w0 w b1 b2 x y a b hI
 obtain⟨r,h⟩:∃ r,l6=some r:=⟨_,rfl⟩
 refine aj ?_
 refine ip rfl ?_
 refine E6 (bD rfl) rfl (fC rfl (aT rfl rfl)) ?_
 refine E6 (bD rfl) rfl (HC rfl Tryz.underlying20 (aT rfl rfl)) ?_
 refine aG ?_
 refine aS ?_
 refine sO (b:=true) (aT rfl rfl) (λ_=>?_) (λhb=>by cases hb)
 refine aj ?_
 refine ip rfl ?_
 refine E6 (bD rfl) rfl (fC rfl (aT rfl rfl)) ?_
 refine E6 (bD rfl) rfl (IE rfl Tryz.underlying114 rfl (aT rfl rfl)) ?_
 refine E6 (bD rfl) rfl (fC rfl (aT rfl rfl)) ?_
 refine E6 (bD rfl) rfl (ir rfl (aT rfl rfl) rfl) ?_
 refine E6 (bD rfl) rfl (ir rfl (aT rfl rfl) rfl) ?_
 refine cY (cs:=#[(Value.int .i64 0),(Value.int .i64 0)]) hI (bD rfl) rfl rfl Iv rfl ?_
 clear hI;intro b3 c1 w1 hI
 refine bJ (new:=[(Value.int .i64 a),(Value.int .i64 b)]) (cs':=#[(Value.int .i64 a),(Value.int .i64 b)]) hI .z (bD rfl) rfl rfl (aT rfl rfl) (aT rfl rfl) rfl Ja rfl rfl rfl ?_
 clear hI;intro c2 w2 hI
 refine E6 (bD rfl) rfl (cx rfl (aT rfl rfl)) ?_
 refine aG ?_
 refine aS ?_
 refine bO (α:=Unit) (λ_=>⟨20,[]⟩) (λ_=>[(0,(Value.pointer (some ⟨b1,0,none⟩))),(1,(Value.pointer (some ⟨b2,0,none⟩))),(3,(Value.pointer (some ⟨b3,0,none⟩)))]) (λ_=>λw=>∃ C,Bun C0 F w0 C w [MO.box b1 3 #[(Value.int .i64 x)],MO.box b2 28 #[(Value.int .i64 y)],MO.box b3 114 #[(Value.int .i64 a),(Value.int .i64 b)]] []∧l6=some r) ?_ ?_
 ·clear h hI;rintro _ w3 ⟨c3,hI,h⟩
  try dsimp only at hI h
  rw[l6]at h
  refine QK (e:=[(0,(Value.pointer (some ⟨b1,0,none⟩))),(1,(Value.pointer (some ⟨b2,0,none⟩))),(3,(Value.pointer (some ⟨b3,0,none⟩)))]) ⟨rfl,rfl,rfl,af⟩ ?_
  refine aL [4,5] false (.c (0,.q) (.c (1,.q) (.c (2,.q) (.two 3 (.c (4,.s) iK) 4 (.c (3,.s) iK))))) hI (by kernel_rfl) (by kernel_rfl) ?_
  clear hI;intro w7 hI
  refine fU (α:=NP) (T:=iK) (λx=>[(0,(Value.pointer (some ⟨b1,0,none⟩))),(1,(Value.pointer (some ⟨b2,0,none⟩))),(3,(Value.pointer (some ⟨b3,0,none⟩))),(16,(Value.pointer (some ⟨b3,0,none⟩))),(17,(Value.int .i64 a)),(18,(Value.pointer (some ⟨b3,1,none⟩))),(19,(Value.int .i64 b))]) (λx w=>Bun C0 F w0 x w [MO.box b1 3 #[(Value.int .i64 a)],MO.box b2 28 #[(Value.int .i64 y)],MO.box b3 114 #[(Value.int .i64 a),(Value.int .i64 b)]] []) (λx w=>SN [] (DM true F x) w) ?_ ?_
  ·clear hI;rintro c6 w6 hI
   try dsimp only at hI ⊢
   unfold iK
   refine tH (new:=[(Value.int .i64 b)]) (cs':=#[(Value.int .i64 b)]) hI (.s .z) rfl (bD rfl) rfl rfl (aT rfl rfl) (aT rfl rfl) rfl lE rfl rfl rfl ?_
   clear hI;intro c5 w5 hI
   refine pp ?_
   exact λa_ ha_=>⟨CG rfl ha_,_,hI.arr (.c .z (.c .z .n)) trivial⟩
  intro hk_tr_parser_caught_1_1_0
  refine iq rfl (bD rfl) rfl (λw'=>(aq rfl (aT rfl rfl) Tryz.underlying114 rfl jQ rfl)) ?_
  refine dl rfl (bD rfl) rfl (λw' hw'=>(aF (v:=(Value.int .i64 a)) rfl (aT rfl rfl) Tryz.underlying3 rfl ((CA.blk (hI.blk (.s (.s .z))) rfl).at_ (SX.any rfl hw')))) (by kernel_rfl) ?_
  refine iq rfl (bD rfl) rfl (λw'=>(aq rfl (aT rfl rfl) Tryz.underlying114 rfl lE rfl)) ?_
  refine gG ?_ ?_
  ·skip
   refine dz rfl (bD rfl) rfl (aF (v:=(Value.int .i64 b)) rfl (aT rfl rfl) Tryz.underlying28 rfl (Q5 (hI.blk (.s (.s .z))) rfl)) Q7 ?_
   refine gQ (F:=F) (C:=c3) rfl rfl ?_
   refine tH (new:=[(Value.int .i64 a)]) (cs':=#[(Value.int .i64 a)]) hI .z rfl (bD rfl) rfl rfl (aT rfl rfl) (aT rfl rfl) rfl jQ rfl rfl rfl ?_
   clear hI;intro c4 w4 hI
   exact cn (hk_tr_parser_caught_1_1_0 c4 _ (hI.arr (.c .z (.c .z (.c .z .n))) trivial)) ⟨rfl,rfl,rfl,rfl,rfl,rfl,rfl,af⟩
  ·skip
   refine dC (F:=F) (C:=c3) rfl rfl ?_
   refine tH (new:=[(Value.int .i64 a)]) (cs':=#[(Value.int .i64 a)]) hI .z rfl (bD rfl) rfl rfl (aT rfl rfl) (aT rfl rfl) rfl jQ rfl rfl rfl ?_
   clear hI;intro c4 w4 hI
   refine dz rfl (bD rfl) rfl (aF (v:=(Value.int .i64 b)) rfl (aT rfl rfl) Tryz.underlying28 rfl (Q5 (hI.blk (.s (.s .z))) rfl)) Q7 ?_
   exact cn (hk_tr_parser_caught_1_1_0 c4 _ (hI.arr (.c .z (.c .z (.c .z .n))) trivial)) ⟨rfl,rfl,rfl,rfl,rfl,rfl,rfl,af⟩
 ·skip
  refine aj ?_
  refine ip rfl ?_
  refine E6 (bD rfl) rfl (fC rfl (aT rfl rfl)) ?_
  refine E6 (bD rfl) rfl (uH rfl (aT rfl rfl)) ?_
  refine aG ?_
  refine aS ?_
  refine sO (b:=false) (aT rfl rfl) (λhb=>by cases hb) (λ_=>?_)
  refine aZ ?_
  exact bI () ⟨rfl,rfl,rfl,af⟩ ⟨_,hI.arr (.c (.s .z) (.c (.s .z) (.c .z .n))) trivial,h⟩ rfl
set_option maxHeartbeats 1000000 in
theorem Ij {C0 F C:NP} {w0 w:World} {b1 b2:Nat} {x y a b:Int} (hI:Bun C0 F w0 C w [MO.box b1 3 #[.int .i64 x],MO.box b2 28 #[.int .i64 y]] []):
  CallsDIn Fence.wide 0 Tryz.prog 67 #[.pointer (some ⟨b1,0,none⟩),.pointer (some ⟨b2,0,none⟩)] (.panicking [pe 114 a b]) w λe u' w'=>
   e= .returned (.tuple #[])∧u'= .panicking [{ pe 114 a b with recovered:=true }]∧∃ C',Bun C0 F w0 C' w' [MO.box b1 3 #[.int .i64 a],MO.box b2 28 #[.int .i64 b]] []:=by
 obtain⟨c1,c2,hb,hc⟩:=F7
 have e1:Tryz.f67.body=_:=rfl
 refine callsDIn_of_wpSIn Tryz.func67 hb trivial λc₀ cs hu=>?_
 obtain⟨e2,e3⟩:c1=_ ∧c2=_:=by
  have:=hb.symm.trans e1
  injection this with this
  injection this with h1 h2
  exact⟨h1,h2⟩
 subst e2
 apply wpSIn_seq
 apply wpSIn_region
 simp[wpOpsSIn,go_sem,recoverD,hu,Tryz.ntmps67,Exit.thenS]
 refine wpSIn_of_wpIn rfl ?_
 have hA:=has3 (v0:= .pointer (some ⟨b1,0,none⟩)) (v1:= .pointer (some ⟨b2,0,none⟩)) (v2:= .iface 114 (.agg #[.int .i64 a,.int .i64 b])) (m:=20) (tmps:=#[.pointer (some ⟨b1,0,none⟩),.pointer (some ⟨b2,0,none⟩)]++((Array.replicate 18 undef).setIfInBounds 3 (.iface 114 (.agg #[.int .i64 a,.int .i64 b]))).setIfInBounds 0 (.iface 114 (.agg #[.int .i64 a,.int .i64 b]))) (by simp) (by simp) (by simp) (by simp)
 refine wpIn_mono (hc hI _ hA) λe a' w' q=>?_
 cases e with
 | normal=>obtain⟨h1,C',h2⟩:=q;exact⟨h1,_,rfl,_,by simp[results,Tryz.results67],rfl,rfl,C',h2⟩
 | panic ch=>exact q.2.elim
 | ret=>exact q.elim
 | exit id=>exact q.elim
 | goto l=>exact q.elim
 | outgrown=>exact q.elim
theorem F6 {w:World} {p q:Value} :
  CallsDIn Fence.wide 0 Tryz.prog 67 #[p,q] .returning w λe u' w'=>e= .returned (.tuple #[])∧u'= .returning∧w'=w:=by
 refine callsDIn_of_wpSIn Tryz.func67 rfl trivial λc₀ cs hu=>?_
 apply wpSIn_seq
 apply wpSIn_region
 simp[wpOpsSIn,go_sem,recoverD,hu,Tryz.ntmps67,Exit.thenS]
 apply wpSIn_seq
 apply wpSIn_region
 simp[wpOpsSIn,go_sem,Exit.thenS,eqGuard,xR (P:=Tryz.prog) _ Tryz.underlying20]
 refine wpSIn_cond (t:=false) (by simp[Act.eval]) ?_
 simp only[Bool.false_eq_true,if_false]
 refine wpSIn_of_wpIn rfl (wpIn_skip ?_)
 refine⟨rfl,.returning,?_,_,by simp[results,Tryz.results67],rfl,rfl,rfl⟩
 cases c₀
 simp_all
def Dw (n:Nat) (ds:List Deferred) (a:Act) (env:kW):Prop:=a.defers=ds∧Has ⟨n,[]⟩ { a with defers:=[] } env
theorem Ho (a:Act) (ds:List Deferred):({ a with defers:=ds } :Act).eval=a.eval:=by funext x;cases x<;>rfl
theorem Nx {n:Nat} {ds:List Deferred} {a:Act} {env:kW} {o:Oper} {w:World} {r:Result Next} (h:nA Tryz.prog ⟨n,[]⟩ env o w r) (hd:Dw n ds a env):(execOp a.eval o).run Tryz.prog w=r:=by
 rw[← Ho a []];exact h _ hd.2
theorem P6 {n:Nat} {ds:List Deferred} {a:Act} {env:kW} (hd:Dw n ds a env) (d:Nat) (v:Value):Dw n ds (a.put (some d) v) ((d,v)::env):=
 ⟨by rw[Jo];exact hd.1,hd.2.put d v⟩
def AQ (n:Nat) (ds:List Deferred) (ops:Array Oper) (Q:Exit→Act→World→Prop) (l:List Oper) (env:kW) (w:World):Prop:=∀ a,Dw n ds a env→wpListIn (FW none) 0 Tryz.prog ops Q l a w
section
variable {n:Nat} {ds:List Deferred} {ops:Array Oper} {Q:Exit→Act→World→Prop} {rest:List Oper} {env:kW} {w w':World} {o:Oper} {d:Nat} {v:Value}
theorem Hu (hn:gu o=true) (hg:o.guard=none) (hd:o.dst=some d) (hr:nA Tryz.prog ⟨n,[]⟩ env o w (.ok (.value v) w')) (h:AQ n ds ops Q rest ((d,v)::env) w'):AQ n ds ops Q (o::rest) env w:=λa ha=>by
 show sS Tryz.prog none ops Q o (wpListIn (FW none) 0 Tryz.prog ops Q rest) a w
 exact tO hn (by simp[Region.wanted,hg]) (Nx hr ha) (by rw[hd];exact h _ (P6 ha d v))
theorem Kj (hn:gu o=true) (hg:o.guard=none) (hd:o.dst=none) (hr:nA Tryz.prog ⟨n,[]⟩ env o w (.ok .skip w')) (h:AQ n ds ops Q rest env w'):AQ n ds ops Q (o::rest) env w:=λa ha=>by
 show sS Tryz.prog none ops Q o (wpListIn (FW none) 0 Tryz.prog ops Q rest) a w
 exact wX hn (by simp[Region.wanted,hg]) (Nx hr ha) (by rw[hd];exact h _ ha)
theorem O4 {f:FuncId} {args:Array Value} (hn:gu o=true) (hg:o.guard=none) (hd:o.dst=some d) (hr:nA Tryz.prog ⟨n,[]⟩ env o w (.ok (.enter f args) w))
  (h:Calls Tryz.prog f args w λe w'=>(∃ v,e= .returned v∧AQ n ds ops Q rest ((d,v)::env) w')∨∃ ch,e= .panicked ch∧∀ a,Dw n ds a env→Q (.panic ch) a w'):AQ n ds ops Q (o::rest) env w:=λa ha=>by
 show sS Tryz.prog none ops Q o (wpListIn (FW none) 0 Tryz.prog ops Q rest) a w
 refine vt hn (by simp[Region.wanted,hg]) (Nx hr ha) (h.mono ?_)
 rintro e w' (⟨u,h1,h2⟩ | ⟨ch,h1,h2⟩)
 ·exact .inl ⟨u,h1,by rw[hd];exact h2 _ (P6 ha d u)⟩
 ·exact .inr ⟨ch,h1,h2 a ha⟩
theorem L2 {x:Operand} {g:FuncId} {cap:Array Value} (hg:o.guard=none) (hd:o.dst=none) (ho:o.op= .defer { callee:= .value x,args:=#[],argTypes:=#[] }) (hx:Ev ⟨n,[]⟩ env x (.func (.func g) #[] cap))
  (h:AQ n ({ target:= .fn (.func g) cap,args:=#[] } ::ds) ops Q rest env w):AQ n ds ops Q (o::rest) env w:=λa ha=>by
 show sS Tryz.prog none ops Q o (wpListIn (FW none) 0 Tryz.prog ops Q rest) a w
 have e0:a.eval x= .func (.func g) #[] cap:=by rw[← Ho a []];exact hx _ ha.2
 have e1:(execOp a.eval o).run Tryz.prog w= .ok (.defer { target:= .fn (.func g) cap,args:=#[] }) w:=by
  simp[execOp,ho,resolve,e0,Deferred.ofValue]
 unfold sS
 rw[if_pos (by simp[Region.wanted,hg])]
 refine⟨λ_ _=>trivial,?_⟩
 rw[show(FW none).round=none from rfl,Oper.semAt_none,e1]
 show wpListIn (FW none) 0 Tryz.prog ops Q rest (({ a with defers:= { target:= .fn (.func g) cap,args:=#[] } ::a.defers } :Act).put o.dst undef) w
 rw[hd]
 refine h _ ⟨?_,?_⟩
 ·show _ ::a.defers=_;rw[ha.1]
 ·exact ha.2
theorem Hv (h:∀ a,Dw n ds a env→Q .normal a w):AQ n ds ops Q [] env w:=λa ha=>h a ha
theorem wr {id:Nat} {l:List Oper} {y:Code} (h:AQ n ds l.toArray (Exit.then (λa w=>y.wpIn (FW none) 0 Tryz.prog Q a w) Q) l env w):∀ a,Dw n ds a env→(Code.seq (.region id l.toArray false) y).wpIn (FW none) 0 Tryz.prog Q a w:=λa ha=>wpIn_seq (wpIn_region_lit (h a ha))
end
theorem It:(Tryz.prog.info? 3).bind (·.zero)=some (.int .i64 0):=by kernel_rfl
theorem Gj:(Tryz.prog.info? 28).bind (·.zero)=some (.int .i64 0):=by kernel_rfl
set_option maxRecDepth 100000 in
set_option maxHeartbeats 2000000 in
theorem zq {cf:FuncId} {cap:List Value} {w0:World} {R:Ending→World→Prop} {w1 w2:World} {b1 b2:Nat} (hb1:w0.heap.size=b1) (hw1:w1=w0.alloc (.cells #[.int .i64 0] 3)) (hb2:w1.heap.size=b2) (hw2:w2=w1.alloc (.cells #[.int .i64 0] 28)) (hok:dv Tryz.prog cf)
  (hf:Calls Tryz.prog cf cap.toArray w2 λe w=>(∃ u,e= .returned u∧Blk w b1 3 #[.int .i64 0]∧Blk w b2 28 #[.int .i64 0]∧R (.returned (.tuple #[.int .i64 0,.int .i64 0])) ((w.setRow b1 #[.int .i64 0]).setRow b2 #[.int .i64 0])∧b1≠b2)∨
   ∃ a b,e= .panicked [pe 114 a b]∧CallsDIn Fence.wide 0 Tryz.prog 67 #[.pointer (some ⟨b1,0,none⟩),.pointer (some ⟨b2,0,none⟩)] (.panicking [pe 114 a b]) w λe u' w'=>
    e= .returned (.tuple #[])∧u'= .panicking [{ pe 114 a b with recovered:=true }]∧Blk w' b1 3 #[.int .i64 a]∧Blk w' b2 28 #[.int .i64 b]∧R (.returned (.tuple #[.int .i64 a,.int .i64 b])) w'):
  Calls Tryz.prog 29 #[.func (.func cf) #[] cap.toArray] w0 R:=by
 refine(callsIn_wide (n:=0)).1 (callsIn_of_wp_marks Tryz.func29 rfl af ?_)
 simp only[Tryz.ntmps29]
 have res:∀ {a:Act} {w:World} {p q:Int} {env:kW},Dw 7 a.defers a env→Go.Vc.look env 2=some (Value.pointer (some ⟨b1,0,none⟩))→Go.Vc.look env 3=some (Value.pointer (some ⟨b2,0,none⟩))→Blk w b1 3 #[.int .i64 p]→Blk w b2 28 #[.int .i64 q]→(results Tryz.f29 a.tmps).run Tryz.prog w= .ok (.tuple #[.int .i64 p,.int .i64 q]) w:=λ{a w p q env} ha h2 h3 k1 k2=>by
  obtain⟨ds',w',h1,h2',v,h3',h4⟩:=gR (P:=Tryz.prog) (n:=⟨7,[]⟩) (env:=env) (w:=w) (fn:=Tryz.f29) (R:=λv _=>v= .tuple #[.int .i64 p,.int .i64 q]) (rs:=[.cell 2 3,.cell 3 28]) (vs:=[.int .i64 p,.int .i64 q]) Tryz.results29 ⟨⟨_,aT h2 rfl,kB Tryz.underlying3 rfl (Q5 (off:=0) k1 rfl)⟩,⟨_,aT h3 rfl,kB Tryz.underlying28 rfl (Q5 (off:=0) k2 rfl)⟩,af⟩ rfl rfl _ ha.2
  have e:ds'=[]:=by cases ds' with
   | nil=>rfl
   | cons x l=>cases h1
  subst e
  have e2:w=w':=h2'
  subst e2
  subst h4
  exact h3'
 let d:Deferred:= { target:= .fn (.func 67) #[.pointer (some ⟨b1,0,none⟩),.pointer (some ⟨b2,0,none⟩)],args:=#[] }
 have hA:Dw 7 [] { tmps:=#[Value.func (.func cf) #[] cap.toArray]++Array.replicate (7 - #[Value.func (.func cf) #[] cap.toArray].size) undef,defers:=[] } [(0,.func (.func cf) #[] cap.toArray)]:=⟨rfl,rfl,rfl,λt v h ht=>by
  match t,h with
  | 0,h=>injection (show some (Value.func (.func cf) #[] cap.toArray)=some v from h)with h
  | n+1,h=>cases (show none=some v from h)⟩
 have hinv:∀ w:World,(invoke d.target d.args).run Tryz.prog w= .ok (.enter 67 #[.pointer (some ⟨b1,0,none⟩),.pointer (some ⟨b2,0,none⟩)]) w:=λw=>by
  simp only[d,invoke]
  rw[rW ⟨_,Tryz.func67,by kernel_rfl,by kernel_rfl⟩]
  rfl
 refine wr ?_ _ hA
 refine Hu rfl rfl rfl (yg (w:=w0) rfl It) ?_
 have ew1:w0.alloc (.cells (Value.int .i64 0).cells 3)=w1:=hw1.symm
 rw[ew1,hb1]
 refine Hu rfl rfl rfl (yg (w:=w1) rfl Gj) ?_
 have ew2:w1.alloc (.cells (Value.int .i64 0).cells 28)=w2:=hw2.symm
 rw[ew2,hb2]
 refine Hv (wr ?_)
 refine Hu rfl rfl rfl (np (vs:=[]) (cap:=[.pointer (some ⟨b1,0,none⟩),.pointer (some ⟨b2,0,none⟩)]) rfl rfl ⟨et,et,af⟩) ?_
 refine L2 rfl rfl rfl et ?_
 refine Hv (wr ?_)
 refine Hu rfl rfl rfl (fC rfl et) ?_
 refine O4 rfl rfl rfl (tA (fs:=[]) (vs:=[]) (cap:=cap) rfl et hok trivial) (hf.mono ?_)
 rintro e w (⟨u,rfl,k1,k2,hR,hne⟩ | ⟨a,b,rfl,hC⟩)
 ·refine .inl ⟨u,rfl,?_⟩
  refine Hv (wr ?_)
  refine Kj rfl rfl rfl (yf (off:=0) (cs:=#[.int .i64 0]) (cs':=#[.int .i64 0]) (new:=[.int .i64 0]) rfl et ah rfl jQ k1 rfl rfl rfl) ?_
  refine Kj rfl rfl rfl (yf (off:=0) (cs:=#[.int .i64 0]) (cs':=#[.int .i64 0]) (new:=[.int .i64 0]) rfl et ah rfl lE (k2.farRow (Ne.symm hne)) rfl rfl rfl) ?_
  refine Hv λa ha=>wpIn_ret ?_
  have k3:Blk ((w.setRow b1 #[.int .i64 0]).setRow b2 #[.int .i64 0]) b1 3 #[.int .i64 0]:=k1.setRow.farRow hne
  have k4:Blk ((w.setRow b1 #[.int .i64 0]).setRow b2 #[.int .i64 0]) b2 28 #[.int .i64 0]:=(k2.farRow (Ne.symm hne)).setRow
  have hr:=res (p:=0) (q:=0) ⟨rfl,ha.2⟩ rfl rfl k3 k4
  show LeavesInM Fence.wide 0 Tryz.prog Tryz.f29 a.tmps R a.defers .returning _
  rw[ha.1]
  refine⟨by simp,.inr ⟨λh=>by simp[Fence.wide]at h,_,_,67,_,rfl,hinv _,λ_ _=>trivial,?_⟩⟩
  refine(F6 (w:=(w.setRow b1 #[.int .i64 0]).setRow b2 #[.int .i64 0]) (p:= .pointer (some ⟨b1,0,none⟩)) (q:= .pointer (some ⟨b2,0,none⟩))).mono ?_
  rintro e u' w' ⟨rfl,rfl,rfl⟩
  exact⟨_,hr,hR⟩
 ·refine .inr ⟨_,rfl,λa' ha=>?_⟩
  show LeavesInM Fence.wide 0 Tryz.prog Tryz.f29 a'.tmps R a'.defers (.panicking [pe 114 a b]) _
  have hd:=ha.1
  rw[hd]
  refine⟨by simp,.inr ⟨λh=>by simp[Fence.wide]at h,_,_,67,_,rfl,hinv _,λ_ _=>trivial,?_⟩⟩
  refine hC.mono ?_
  rintro e u' w' ⟨rfl,rfl,k3,k4,hR⟩
  exact⟨_,res ⟨rfl,ha.2⟩ rfl rfl k3 k4,hR⟩
end Cg
open Cg
theorem DW (os:List MO):M5 os os []:=by
 induction os with
 | nil=>exact .n
 | cons a r ih=>exact .l ih
theorem Ds {m:MO} {r:List MO} {f:MO→List MO} (h:At r m f) (o:List MO):At (o++r) m (λx=>o++f x):=by
 induction o with
 | nil=>exact h
 | cons a o ih=>exact .s ih
theorem OI {o1 o2:List MO} {C D:NP} {w:World} (h:AllMO (o1++o2) C D w):AllMO o1 C D w:=by
 induction o1 generalizing C with
 | nil=>trivial
 | cons a o ih=>obtain⟨C1,C2,h1,h2,h3⟩:=h;exact⟨C1,C2,h1,ih h2,h3⟩
theorem O6 {o1 o2:List Cl} {D:NP} {w:World} (h:AllCl (o1++o2) D w):AllCl o1 D w:=by
 induction o1 with
 | nil=>trivial
 | cons a o ih=>exact⟨h.1,ih h.2⟩
theorem sQ {β:Type} (os1:β→List MO) (cl1:β→List Cl) {C0 F:NP} {w0:World} {os:List MO} {cl:List Cl} {cf:FuncId} {cap:List Value} (hok:dv Tryz.prog cf) (hI:Bun C0 F w0 C0 w0 os cl)
  (hf:∀ (C1 F1:NP) (w1:World),Bun C1 F1 w1 C1 w1 os cl→Calls Tryz.prog cf cap.toArray w1 λe w=>e= .returned (.tuple #[])∧∃ (x:β) (C:NP),Bun C1 F1 w1 C w (os1 x) (cl1 x)):
  Calls Tryz.prog 29 #[.func (.func cf) #[] cap.toArray] w0 λe w=>e= .returned (.tuple #[.int .i64 0,.int .i64 0])∧∃ (x:β) (C:NP),Bun C0 F w0 C w (os1 x) (cl1 x):=by
 obtain⟨Ca,_,ha⟩:=hI.alloc 3 #[.int .i64 0]
 obtain⟨Cb,_,hb⟩:=ha.alloc 28 #[.int .i64 0]
 refine zq rfl rfl rfl rfl hok ?_
 obtain⟨C1,F1,hB,hl,hk⟩:=hb.hands (.r (.r (DW os)))
 refine(hf C1 F1 _ hB).mono ?_
 rintro e w ⟨rfl,x,C2,h2⟩
 obtain⟨C3,hs,h3⟩:=hk _ _ _ _ h2
 obtain⟨C4,_,h4⟩:=h3.setBox (cs':=#[.int .i64 0]) (Ds (.s .z) (os1 x))
 obtain⟨C5,_,h5⟩:=h4.setBox (cs':=#[.int .i64 0]) (Ds .z (os1 x))
 refine .inl ⟨_,rfl,h3.blk (Ds (.s .z) (os1 x)),h3.blk (Ds .z (os1 x)),⟨rfl,x,C5,h5.st,OI h5.mo,O6 h5.cl,h5.dj,h5.fl⟩,?_⟩
 simp
theorem sR {C0 F:NP} {w0:World} {os:List MO} {cl:List Cl} {cf:FuncId} {cap:List Value} {a b:Int} (hok:dv Tryz.prog cf) (hI:Bun C0 F w0 C0 w0 os cl)
  (hf:∀ (C1 F1:NP) (w1:World),Bun C1 F1 w1 C1 w1 os cl→Calls Tryz.prog cf cap.toArray w1 λe w=>e= .panicked [pe 114 a b]∧∃ C:NP,Bun C1 F1 w1 C w [] []):
  Calls Tryz.prog 29 #[.func (.func cf) #[] cap.toArray] w0 λe w=>e= .returned (.tuple #[.int .i64 a,.int .i64 b])∧∃ C:NP,Bun C0 F w0 C w [] []:=by
 obtain⟨Ca,_,ha⟩:=hI.alloc 3 #[.int .i64 0]
 obtain⟨Cb,_,hb⟩:=ha.alloc 28 #[.int .i64 0]
 refine zq rfl rfl rfl rfl hok ?_
 obtain⟨C1,F1,hB,hl,hk⟩:=hb.hands (.r (.r (DW os)))
 refine(hf C1 F1 _ hB).mono ?_
 rintro e w ⟨rfl,C2,h2⟩
 obtain⟨C3,hs,h3⟩:=hk _ _ _ _ h2
 have h4:Bun C0 F w0 C3 w [MO.box w0.heap.size 3 #[.int .i64 0],MO.box (w0.alloc (.cells #[.int .i64 0] 3)).heap.size 28 #[.int .i64 0]] []:=h3.arr (.c (.s .z) (.c .z .n)) trivial
 refine .inr ⟨a,b,rfl,(Ij h4).mono ?_⟩
 rintro e u' w' ⟨h1,h2,C',h5⟩
 exact⟨h1,h2,h5.blk .z,h5.blk (.s .z),rfl,C',h5.st,af,af,h5.dj,h5.fl⟩
end Go.Proofs.YtmhoikfoogemnaaGreatDoor
namespace Go.Proofs.YtmhoikfoogemnaaGreatDoor
open Go Go.RowKit Go.Vc
set_option linter.unusedVariables false
theorem wZ (F:NP) (w0:World) (hF:∀ k,F k→k<w0.heap.size) (s:List UInt8) (hc:AllCl [au] F w0) (r:List (List UInt8)) (h:oE s=some r):
  Calls Tryz.prog 247 #[(str s)] w0 λe w=>∃ (A1:Option Addr) (c1:Nat),e= .returned (Value.slice A1 r.length c1)∧Ext w0 w∧AllCl [Cl.sl be A1 c1 r] F w:=by
 unfold oE at h
 obtain⟨⟨h0,h1⟩,hz⟩:=fT h
 obtain rfl:=ak hz
 refine(Tryz.strings_Fields ⟨s.toArray⟩ w0 (by show s.toArray.size< _;simpa using h1) (λj b hb=>h0 b (List.mem_of_getElem? (by simpa using hb))) hc.1.1).mono ?_
 rintro e w ⟨rfl,rfl⟩
 refine⟨_,_,rfl,Ext.alloc _,⟨Nat.le_refl _,λ_=>⟨_,rfl,?_,λk=>absurd (hF _ k) (Nat.lt_irrefl _),(Lib.fields s).map λl=>[str l],?_,?_⟩⟩,af⟩
 ·show w0.heap.size<(w0.heap.push _).size
  rw[Array.size_push];exact Nat.lt_succ_self _
 ·exact DZ (c:=be) (enc:=str) (λ_ _ _=>rfl) _
 ·rw[Es];exact Q5 Blk.new (by simp only[List.drop_zero,List.toList_toArray];exact List.take_of_length_le (by simp))
theorem vw (F:NP) (w0:World) (_:∀ k,F k→k<w0.heap.size) (s:List UInt8) (b bits:Int) (hc:AllCl [] F w0) (r:Int×Unit) (h:kO s b bits=some r):
  Calls Tryz.prog 270 #[(str s),(Value.int .i64 b),(Value.int .i64 bits)] w0 λe w=>∃ (v1:Value),e= .returned (Value.tuple #[(Value.int .i64 r.1),v1])∧Ext w0 w∧AllCl [] F w:=by
 unfold kO at h
 obtain⟨⟨rfl,rfl,h0⟩,hz⟩:=fT h
 split at hz
 ·rename_i v hv
  obtain rfl:=ak hz
  refine(Tryz.strconv_ParseInt_10_at64_ok ⟨s.toArray⟩ (by show s.toArray.size≤ _;simp;omega) v hv w0).mono λe w ⟨h2,h3⟩=>⟨_,h2,?_,af⟩
  rcases h3 with rfl | ⟨t,rfl⟩
  ·exact .rfl'
  ·exact Lib.bytesWorld_below _ _ _
 ·cases hz
theorem pD (F:NP) (w0:World) (_:∀ k,F k→k<w0.heap.size) (s p:List UInt8) (hc:AllCl [] F w0) (r:Int) (h:fY s p=some r):
  Calls Tryz.prog 271 #[(str s),(str p)] w0 λe w=>e= .returned (Value.int .i64 r)∧Ext w0 w∧AllCl [] F w:=by
 unfold fY at h
 split at h
 ·obtain rfl:=ak h
  exact(Tryz.stringslite_Index_one ⟨s.toArray⟩ _ w0).mono λe w ⟨h2,h3⟩=>⟨h2,h3▸ .rfl',af⟩
 ·cases h
end Go.Proofs.YtmhoikfoogemnaaGreatDoor
