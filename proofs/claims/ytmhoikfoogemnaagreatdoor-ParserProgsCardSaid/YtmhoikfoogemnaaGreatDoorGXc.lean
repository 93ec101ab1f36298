import Derived.Test.YtmhoikfoogemnaaGreatDoorGXm
import Derived.Test.YtmhoikfoogemnaaGreatDoorProg
import Derived.RecoverIn
import Derived.KernelRfl
import Derived.Test.YtmhoikfoogemnaaGreatDoorGMd
import Derived.Test.YtmhoikfoogemnaaGreatDoorGShelf
namespace Go.Proofs.YtmhoikfoogemnaaGreatDoor
open Go Go.RowKit Go.Vc
set_option linter.unusedVariables false
set_option linter.unusedSimpArgs false
namespace Cg
theorem vh {P:Program} {ti:TypeId} {ms:Array (String×TypeId)} (tp:TypeId) (v:Value) (w:World) (hi:P.underlying ti=some (.interface ms)):
  (binOp .neq ti (.iface tp v) .nilIface).run P w= .ok (.bool true) w:=by
 have h:∀ d:Nat,(Op.equalIn (d+1) ti (.iface tp v) .nilIface).run P w= .ok false w:=λd=>by simp[Op.equalIn,run_underlying hi]
 simp only[binOp]
 simp[Op.equal,Op.maxDepth,h 9999]
theorem xc {P:Program} {ti:TypeId} {ms:Array (String×TypeId)} (w:World) (hi:P.underlying ti=some (.interface ms)):
  (binOp .neq ti .nilIface .nilIface).run P w= .ok (.bool false) w:=by
 have h:∀ d:Nat,(Op.equalIn (d+1) ti .nilIface .nilIface).run P w= .ok true w:=λd=>by simp[Op.equalIn,run_underlying hi]
 simp only[binOp]
 simp[Op.equal,Op.maxDepth,h 9999]
theorem E5 {P:Program} {n:Fr} {env:lw} {o:Oper} {x:Operand} {t:TypeId} {v:Value} {w:World} {tx:TypeId} {ms:Array (String×TypeId)} (ho:o.op= .binOp .neq tx x (.const .nilIface) tx) (ht:P.underlying tx=some (.interface ms)) (hx:Ev n env x (.iface t v)):iE P n env o (.bool true) w:=
 jn ho hx (λ_ _=>rfl) (vh t v w ht) (by simp[eqGuard])
theorem Gi {P:Program} {n:Fr} {env:lw} {o:Oper} {x:Operand} {t tx:TypeId} {d:TypeDesc} {v:Value} {w:World} (ho:o.op= .typeAssert x tx t true) (ht:P.underlying t=some d) (hd:(match d with | .interface _=>true | _=>false)=false) (hx:Ev n env x (.iface t v)):iE P n env o (.tuple #[v,.bool true]) w:=λa ha=>by
 have:(Instr.typeAssert (.iface t v) tx t true).run P w= .ok (.tuple #[v,.bool true]) w:=by
  cases d<;>first | (cases hd;done) | simp[Instr.typeAssert,run_underlying ht]
 simp only[execOp,ho,hx a ha]
 simp[this]
theorem Gw:(Tryz.prog.info? 114).map (·.size)=some 2:=by kernel_rfl
theorem ku:(Tryz.prog.info? 28).map (·.size)=some 1:=by kernel_rfl
theorem jP:(Tryz.prog.info? 3).map (·.size)=some 1:=by kernel_rfl
theorem F4:(Tryz.prog.info? 114).bind (·.zero)=some (Value.agg #[(Value.int .i64 0),(Value.int .i64 0)]):=by kernel_rfl
def jr:Tr:=(.c (5,.s) .n)
def mP:Option Unit:=some ()
theorem has3 {v0 v1 v2:Value} {tmps:Array Value} {m:Nat} (hs:tmps.size=m) (h0:tmps.getD 0 undef=v0) (h1:tmps.getD 1 undef=v1) (h2:tmps.getD 2 undef=v2):Has ⟨m,[]⟩ { tmps:=tmps,defers:=[] } [(0,v0),(1,v1),(2,v2)]:=
 ⟨rfl,hs,λt v h ht=>by
  match t,h with
  | 0,h=>injection (show some v0=some v from h)with h;rw[← h];exact h0
  | 1,h=>injection (show some v1=some v from h)with h;rw[← h];exact h1
  | 2,h=>injection (show some v2=some v from h)with h;rw[← h];exact h2
  | n+3,h=>cases (show none=some v from h)⟩
set_option maxRecDepth 100000 in
set_option maxHeartbeats 1000000 in
theorem D7:∃ c1 c2,Tryz.f67.body=some (.seq c1 c2)∧∀ {C0 F C:NP} {w0 w:World} {b1 b2:Nat} {x y a b:Int},Bun C0 F w0 C w [MO.box b1 3 #[.int .i64 x],MO.box b2 28 #[.int .i64 y]] []→
  im Tryz.prog .plain ⟨20,[]⟩ c2 (λa' w'=>a'.defers=[]∧∃ C',Bun C0 F w0 C' w' [MO.box b1 3 #[.int .i64 a],MO.box b2 28 #[.int .i64 b]] []) (λ_ _ _=>False) (λ_ _=>False) [(0,.pointer (some ⟨b1,0,none⟩)),(1,.pointer (some ⟨b2,0,none⟩)),(2,.iface 114 (.agg #[.int .i64 a,.int .i64 b]))] w:=by
 refine⟨_,_,rfl,?_⟩
 intro C0 F C w0 w b1 b2 x y a b hI
 obtain⟨r,h⟩:∃ r,mP=some r:=⟨_,rfl⟩
 refine al ?_
 refine jX rfl ?_
 refine Dk (bQ rfl) rfl (gp rfl (aR rfl rfl)) ?_
 refine Dk (bQ rfl) rfl (E5 rfl Tryz.underlying20 (aR rfl rfl)) ?_
 refine aO ?_
 refine bh ?_
 refine sg (b:=true) (aR rfl rfl) (λ_=>?_) (λhb=>by cases hb)
 refine al ?_
 refine jX rfl ?_
 refine Dk (bQ rfl) rfl (gp rfl (aR rfl rfl)) ?_
 refine Dk (bQ rfl) rfl (Gi rfl Tryz.underlying114 rfl (aR rfl rfl)) ?_
 refine Dk (bQ rfl) rfl (gp rfl (aR rfl rfl)) ?_
 refine Dk (bQ rfl) rfl (fO rfl (aR rfl rfl) rfl) ?_
 refine Dk (bQ rfl) rfl (fO rfl (aR rfl rfl) rfl) ?_
 refine dl (cs:=#[(Value.int .i64 0),(Value.int .i64 0)]) hI (bQ rfl) rfl rfl F4 rfl ?_
 clear hI;intro b3 c1 w1 hI
 refine aQ (new:=[(Value.int .i64 a),(Value.int .i64 b)]) (cs':=#[(Value.int .i64 a),(Value.int .i64 b)]) hI .z (bQ rfl) rfl rfl (aR rfl rfl) (aR rfl rfl) rfl Gw rfl rfl rfl ?_
 clear hI;intro c2 w2 hI
 refine Dk (bQ rfl) rfl (cP rfl (aR rfl rfl)) ?_
 refine aO ?_
 refine bh ?_
 refine bM (α:=Unit) (λ_=>⟨20,[]⟩) (λ_=>[(0,(Value.pointer (some ⟨b1,0,none⟩))),(1,(Value.pointer (some ⟨b2,0,none⟩))),(3,(Value.pointer (some ⟨b3,0,none⟩)))]) (λ_=>λw=>∃ C,Bun C0 F w0 C w [MO.box b1 3 #[(Value.int .i64 x)],MO.box b2 28 #[(Value.int .i64 y)],MO.box b3 114 #[(Value.int .i64 a),(Value.int .i64 b)]] []∧mP=some r) ?_ ?_
 ·clear h hI;rintro _ w3 ⟨c3,hI,h⟩
  try dsimp only at hI h
  rw[mP]at h
  refine Lw (e:=[(0,(Value.pointer (some ⟨b1,0,none⟩))),(1,(Value.pointer (some ⟨b2,0,none⟩))),(3,(Value.pointer (some ⟨b3,0,none⟩)))]) ⟨rfl,rfl,rfl,ah⟩ ?_
  refine aJ [4,5] false (.c (0,.q) (.c (1,.q) (.c (2,.q) (.two 3 (.c (4,.s) jr) 4 (.c (3,.s) jr))))) hI (by kernel_rfl) (by kernel_rfl) ?_
  clear hI;intro w7 hI
  refine bT (α:=NP) (T:=jr) (λx=>[(0,(Value.pointer (some ⟨b1,0,none⟩))),(1,(Value.pointer (some ⟨b2,0,none⟩))),(3,(Value.pointer (some ⟨b3,0,none⟩))),(16,(Value.pointer (some ⟨b3,0,none⟩))),(17,(Value.int .i64 a)),(18,(Value.pointer (some ⟨b3,1,none⟩))),(19,(Value.int .i64 b))]) (λx w=>Bun C0 F w0 x w [MO.box b1 3 #[(Value.int .i64 a)],MO.box b2 28 #[(Value.int .i64 y)],MO.box b3 114 #[(Value.int .i64 a),(Value.int .i64 b)]] []) (λx w=>SN [] (DM true F x) w) ?_ ?_
  ·clear hI;rintro c6 w6 hI
   try dsimp only at hI ⊢
   unfold jr
   refine tn (new:=[(Value.int .i64 b)]) (cs':=#[(Value.int .i64 b)]) hI (.s .z) rfl (bQ rfl) rfl rfl (aR rfl rfl) (aR rfl rfl) rfl ku rfl rfl rfl ?_
   clear hI;intro c5 w5 hI
   refine oY ?_
   exact λa_ ha_=>⟨Bi rfl ha_,_,hI.arr (.c .z (.c .z .n)) trivial⟩
  intro hk_tr_parser_caught_1_1_0
  refine nv rfl (bQ rfl) rfl (λw'=>(aP rfl (aR rfl rfl) Tryz.underlying114 rfl jP rfl)) ?_
  refine bR rfl (bQ rfl) rfl (λw' hw'=>(ba (v:=(Value.int .i64 a)) rfl (aR rfl rfl) Tryz.underlying3 rfl ((CA.blk (hI.blk (.s (.s .z))) rfl).at_ (SX.any rfl hw')))) (by kernel_rfl) ?_
  refine nv rfl (bQ rfl) rfl (λw'=>(aP rfl (aR rfl rfl) Tryz.underlying114 rfl ku rfl)) ?_
  refine cL ?_ ?_
  ·skip
   refine bq rfl (bQ rfl) rfl (ba (v:=(Value.int .i64 b)) rfl (aR rfl rfl) Tryz.underlying28 rfl (LU (hI.blk (.s (.s .z))) rfl)) LW ?_
   refine bK (F:=F) (C:=c3) rfl rfl ?_
   refine tn (new:=[(Value.int .i64 a)]) (cs':=#[(Value.int .i64 a)]) hI .z rfl (bQ rfl) rfl rfl (aR rfl rfl) (aR rfl rfl) rfl jP rfl rfl rfl ?_
   clear hI;intro c4 w4 hI
   exact bc (hk_tr_parser_caught_1_1_0 c4 _ (hI.arr (.c .z (.c .z (.c .z .n))) trivial)) ⟨rfl,rfl,rfl,rfl,rfl,rfl,rfl,ah⟩
  ·skip
   refine bB (F:=F) (C:=c3) rfl rfl ?_
   refine tn (new:=[(Value.int .i64 a)]) (cs':=#[(Value.int .i64 a)]) hI .z rfl (bQ rfl) rfl rfl (aR rfl rfl) (aR rfl rfl) rfl jP rfl rfl rfl ?_
   clear hI;intro c4 w4 hI
   refine bq rfl (bQ rfl) rfl (ba (v:=(Value.int .i64 b)) rfl (aR rfl rfl) Tryz.underlying28 rfl (LU (hI.blk (.s (.s .z))) rfl)) LW ?_
   exact bc (hk_tr_parser_caught_1_1_0 c4 _ (hI.arr (.c .z (.c .z (.c .z .n))) trivial)) ⟨rfl,rfl,rfl,rfl,rfl,rfl,rfl,ah⟩
 ·skip
  refine al ?_
  refine jX rfl ?_
  refine Dk (bQ rfl) rfl (gp rfl (aR rfl rfl)) ?_
  refine Dk (bQ rfl) rfl (xL rfl (aR rfl rfl)) ?_
  refine aO ?_
  refine bh ?_
  refine sg (b:=false) (aR rfl rfl) (λhb=>by cases hb) (λ_=>?_)
  refine bl ?_
  exact bu () ⟨rfl,rfl,rfl,ah⟩ ⟨_,hI.arr (.c (.s .z) (.c (.s .z) (.c .z .n))) trivial,h⟩ rfl
set_option maxHeartbeats 1000000 in
theorem FQ {C0 F C:NP} {w0 w:World} {b1 b2:Nat} {x y a b:Int} (hI:Bun C0 F w0 C w [MO.box b1 3 #[.int .i64 x],MO.box b2 28 #[.int .i64 y]] []):
  CallsDIn Fence.wide 0 Tryz.prog 67 #[.pointer (some ⟨b1,0,none⟩),.pointer (some ⟨b2,0,none⟩)] (.panicking [pe 114 a b]) w λe u' w'=>
   e= .returned (.tuple #[])∧u'= .panicking [{ pe 114 a b with recovered:=true }]∧∃ C',Bun C0 F w0 C' w' [MO.box b1 3 #[.int .i64 a],MO.box b2 28 #[.int .i64 b]] []:=by
 obtain⟨c1,c2,hb,hc⟩:=D7
 have e1:Tryz.f67.body=_:=rfl
 refine callsDIn_of_wpSIn Tryz.func67 hb trivial λc₀ cs hu=>?_
 obtain⟨e2,e3⟩:c1=_ ∧c2=_:=by
  have:=hb.symm.trans e1
  injection this with this
  injection this with h1 h2
  exact⟨h1,h2⟩
 subst e2
 apply wpSIn_seq
 apply wpSIn_region
 simp[wpOpsSIn,go_sem,recoverD,hu,Tryz.ntmps67,Exit.thenS]
 refine wpSIn_of_wpIn rfl ?_
 have hA:=has3 (v0:= .pointer (some ⟨b1,0,none⟩)) (v1:= .pointer (some ⟨b2,0,none⟩)) (v2:= .iface 114 (.agg #[.int .i64 a,.int .i64 b])) (m:=20) (tmps:=#[.pointer (some ⟨b1,0,none⟩),.pointer (some ⟨b2,0,none⟩)]++((Array.replicate 18 undef).setIfInBounds 3 (.iface 114 (.agg #[.int .i64 a,.int .i64 b]))).setIfInBounds 0 (.iface 114 (.agg #[.int .i64 a,.int .i64 b]))) (by simp) (by simp) (by simp) (by simp)
 refine wpIn_mono (hc hI _ hA) λe a' w' q=>?_
 cases e with
 | normal=>obtain⟨h1,C',h2⟩:=q;exact⟨h1,_,rfl,_,by simp[results,Tryz.results67],rfl,rfl,C',h2⟩
 | panic ch=>exact q.2.elim
 | ret=>exact q.elim
 | exit id=>exact q.elim
 | goto l=>exact q.elim
 | outgrown=>exact q.elim
theorem D6 {w:World} {p q:Value} :
  CallsDIn Fence.wide 0 Tryz.prog 67 #[p,q] .returning w λe u' w'=>e= .returned (.tuple #[])∧u'= .returning∧w'=w:=by
 refine callsDIn_of_wpSIn Tryz.func67 rfl trivial λc₀ cs hu=>?_
 apply wpSIn_seq
 apply wpSIn_region
 simp[wpOpsSIn,go_sem,recoverD,hu,Tryz.ntmps67,Exit.thenS]
 apply wpSIn_seq
 apply wpSIn_region
 simp[wpOpsSIn,go_sem,Exit.thenS,eqGuard,xc (P:=Tryz.prog) _ Tryz.underlying20]
 refine wpSIn_cond (t:=false) (by simp[Act.eval]) ?_
 simp only[Bool.false_eq_true,if_false]
 refine wpSIn_of_wpIn rfl (wpIn_skip ?_)
 refine⟨rfl,.returning,?_,_,by simp[results,Tryz.results67],rfl,rfl,rfl⟩
 cases c₀
 simp_all
def BP (n:Nat) (ds:List Deferred) (a:Act) (env:lw):Prop:=a.defers=ds∧Has ⟨n,[]⟩ { a with defers:=[] } env
theorem ET (a:Act) (ds:List Deferred):({ a with defers:=ds } :Act).eval=a.eval:=by funext x;cases x<;>rfl
theorem Jp {n:Nat} {ds:List Deferred} {a:Act} {env:lw} {o:Oper} {w:World} {r:Result Next} (h:nY Tryz.prog ⟨n,[]⟩ env o w r) (hd:BP n ds a env):(execOp a.eval o).run Tryz.prog w=r:=by
 rw[← ET a []];exact h _ hd.2
theorem K7 {n:Nat} {ds:List Deferred} {a:Act} {env:lw} (hd:BP n ds a env) (d:Nat) (v:Value):BP n ds (a.put (some d) v) ((d,v)::env):=
 ⟨by rw[GP];exact hd.1,hd.2.put d v⟩
def zX (n:Nat) (ds:List Deferred) (ops:Array Oper) (Q:Exit→Act→World→Prop) (l:List Oper) (env:lw) (w:World):Prop:=∀ a,BP n ds a env→wpListIn (FW none) 0 Tryz.prog ops Q l a w
section
variable {n:Nat} {ds:List Deferred} {ops:Array Oper} {Q:Exit→Act→World→Prop} {rest:List Oper} {env:lw} {w w':World} {o:Oper} {d:Nat} {v:Value}
theorem EY (hn:hO o=true) (hg:o.guard=none) (hd:o.dst=some d) (hr:nY Tryz.prog ⟨n,[]⟩ env o w (.ok (.value v) w')) (h:zX n ds ops Q rest ((d,v)::env) w'):zX n ds ops Q (o::rest) env w:=λa ha=>by
 show su Tryz.prog none ops Q o (wpListIn (FW none) 0 Tryz.prog ops Q rest) a w
 exact tA hn (by simp[Region.wanted,hg]) (Jp hr ha) (by rw[hd];exact h _ (K7 ha d v))
theorem Hx (hn:hO o=true) (hg:o.guard=none) (hd:o.dst=none) (hr:nY Tryz.prog ⟨n,[]⟩ env o w (.ok .skip w')) (h:zX n ds ops Q rest env w'):zX n ds ops Q (o::rest) env w:=λa ha=>by
 show su Tryz.prog none ops Q o (wpListIn (FW none) 0 Tryz.prog ops Q rest) a w
 exact wq hn (by simp[Region.wanted,hg]) (Jp hr ha) (by rw[hd];exact h _ ha)
theorem Km {f:FuncId} {args:Array Value} (hn:hO o=true) (hg:o.guard=none) (hd:o.dst=some d) (hr:nY Tryz.prog ⟨n,[]⟩ env o w (.ok (.enter f args) w))
  (h:Calls Tryz.prog f args w λe w'=>(∃ v,e= .returned v∧zX n ds ops Q rest ((d,v)::env) w')∨∃ ch,e= .panicked ch∧∀ a,BP n ds a env→Q (.panic ch) a w'):zX n ds ops Q (o::rest) env w:=λa ha=>by
 show su Tryz.prog none ops Q o (wpListIn (FW none) 0 Tryz.prog ops Q rest) a w
 refine uU hn (by simp[Region.wanted,hg]) (Jp hr ha) (h.mono ?_)
 rintro e w' (⟨u,h1,h2⟩ | ⟨ch,h1,h2⟩)
 ·exact .inl ⟨u,h1,by rw[hd];exact h2 _ (K7 ha d u)⟩
 ·exact .inr ⟨ch,h1,h2 a ha⟩
theorem Ix {x:Operand} {g:FuncId} {cap:Array Value} (hg:o.guard=none) (hd:o.dst=none) (ho:o.op= .defer { callee:= .value x,args:=#[],argTypes:=#[] }) (hx:Ev ⟨n,[]⟩ env x (.func (.func g) #[] cap))
  (h:zX n ({ target:= .fn (.func g) cap,args:=#[] } ::ds) ops Q rest env w):zX n ds ops Q (o::rest) env w:=λa ha=>by
 show su Tryz.prog none ops Q o (wpListIn (FW none) 0 Tryz.prog ops Q rest) a w
 have e0:a.eval x= .func (.func g) #[] cap:=by rw[← ET a []];exact hx _ ha.2
 have e1:(execOp a.eval o).run Tryz.prog w= .ok (.defer { target:= .fn (.func g) cap,args:=#[] }) w:=by
  simp[execOp,ho,resolve,e0,Deferred.ofValue]
 unfold su
 rw[if_pos (by simp[Region.wanted,hg])]
 refine⟨λ_ _=>trivial,?_⟩
 rw[show(FW none).round=none from rfl,Oper.semAt_none,e1]
 show wpListIn (FW none) 0 Tryz.prog ops Q rest (({ a with defers:= { target:= .fn (.func g) cap,args:=#[] } ::a.defers } :Act).put o.dst undef) w
 rw[hd]
 refine h _ ⟨?_,?_⟩
 ·show _ ::a.defers=_;rw[ha.1]
 ·exact ha.2
theorem EZ (h:∀ a,BP n ds a env→Q .normal a w):zX n ds ops Q [] env w:=λa ha=>h a ha
theorem vE {id:Nat} {l:List Oper} {y:Code} (h:zX n ds l.toArray (Exit.then (λa w=>y.wpIn (FW none) 0 Tryz.prog Q a w) Q) l env w):∀ a,BP n ds a env→(Code.seq (.region id l.toArray false) y).wpIn (FW none) 0 Tryz.prog Q a w:=λa ha=>wpIn_seq (wpIn_region_lit (h a ha))
end
theorem F2:(Tryz.prog.info? 3).bind (·.zero)=some (.int .i64 0):=by kernel_rfl
theorem Eh:(Tryz.prog.info? 28).bind (·.zero)=some (.int .i64 0):=by kernel_rfl
set_option maxRecDepth 100000 in
set_option maxHeartbeats 2000000 in
theorem yE {cf:FuncId} {cap:List Value} {w0:World} {R:Ending→World→Prop} {w1 w2:World} {b1 b2:Nat} (hb1:w0.heap.size=b1) (hw1:w1=w0.alloc (.cells #[.int .i64 0] 3)) (hb2:w1.heap.size=b2) (hw2:w2=w1.alloc (.cells #[.int .i64 0] 28)) (hok:eG Tryz.prog cf)
  (hf:Calls Tryz.prog cf cap.toArray w2 λe w=>(∃ u,e= .returned u∧Blk w b1 3 #[.int .i64 0]∧Blk w b2 28 #[.int .i64 0]∧R (.returned (.tuple #[.int .i64 0,.int .i64 0])) ((w.setRow b1 #[.int .i64 0]).setRow b2 #[.int .i64 0])∧b1≠b2)∨
   ∃ a b,e= .panicked [pe 114 a b]∧CallsDIn Fence.wide 0 Tryz.prog 67 #[.pointer (some ⟨b1,0,none⟩),.pointer (some ⟨b2,0,none⟩)] (.panicking [pe 114 a b]) w λe u' w'=>
    e= .returned (.tuple #[])∧u'= .panicking [{ pe 114 a b with recovered:=true }]∧Blk w' b1 3 #[.int .i64 a]∧Blk w' b2 28 #[.int .i64 b]∧R (.returned (.tuple #[.int .i64 a,.int .i64 b])) w'):
  Calls Tryz.prog 29 #[.func (.func cf) #[] cap.toArray] w0 R:=by
 refine(callsIn_wide (n:=0)).1 (callsIn_of_wp_marks Tryz.func29 rfl ah ?_)
 simp only[Tryz.ntmps29]
 have res:∀ {a:Act} {w:World} {p q:Int} {env:lw},BP 7 a.defers a env→Go.Vc.look env 2=some (Value.pointer (some ⟨b1,0,none⟩))→Go.Vc.look env 3=some (Value.pointer (some ⟨b2,0,none⟩))→Blk w b1 3 #[.int .i64 p]→Blk w b2 28 #[.int .i64 q]→(results Tryz.f29 a.tmps).run Tryz.prog w= .ok (.tuple #[.int .i64 p,.int .i64 q]) w:=λ{a w p q env} ha h2 h3 k1 k2=>by
  obtain⟨ds',w',h1,h2',v,h3',h4⟩:=fY (P:=Tryz.prog) (n:=⟨7,[]⟩) (env:=env) (w:=w) (fn:=Tryz.f29) (R:=λv _=>v= .tuple #[.int .i64 p,.int .i64 q]) (rs:=[.cell 2 3,.cell 3 28]) (vs:=[.int .i64 p,.int .i64 q]) Tryz.results29 ⟨⟨_,aR h2 rfl,li Tryz.underlying3 rfl (LU (off:=0) k1 rfl)⟩,⟨_,aR h3 rfl,li Tryz.underlying28 rfl (LU (off:=0) k2 rfl)⟩,ah⟩ rfl rfl _ ha.2
  have e:ds'=[]:=by cases ds' with
   | nil=>rfl
   | cons x l=>cases h1
  subst e
  have e2:w=w':=h2'
  subst e2
  subst h4
  exact h3'
 let d:Deferred:= { target:= .fn (.func 67) #[.pointer (some ⟨b1,0,none⟩),.pointer (some ⟨b2,0,none⟩)],args:=#[] }
 have hA:BP 7 [] { tmps:=#[Value.func (.func cf) #[] cap.toArray]++Array.replicate (7 - #[Value.func (.func cf) #[] cap.toArray].size) undef,defers:=[] } [(0,.func (.func cf) #[] cap.toArray)]:=⟨rfl,rfl,rfl,λt v h ht=>by
  match t,h with
  | 0,h=>injection (show some (Value.func (.func cf) #[] cap.toArray)=some v from h)with h
  | n+1,h=>cases (show none=some v from h)⟩
 have hinv:∀ w:World,(invoke d.target d.args).run Tryz.prog w= .ok (.enter 67 #[.pointer (some ⟨b1,0,none⟩),.pointer (some ⟨b2,0,none⟩)]) w:=λw=>by
  simp only[d,invoke]
  rw[rM ⟨_,Tryz.func67,by kernel_rfl,by kernel_rfl⟩]
  rfl
 refine vE ?_ _ hA
 refine EY rfl rfl rfl (xC (w:=w0) rfl F2) ?_
 have ew1:w0.alloc (.cells (Value.int .i64 0).cells 3)=w1:=hw1.symm
 rw[ew1,hb1]
 refine EY rfl rfl rfl (xC (w:=w1) rfl Eh) ?_
 have ew2:w1.alloc (.cells (Value.int .i64 0).cells 28)=w2:=hw2.symm
 rw[ew2,hb2]
 refine EZ (vE ?_)
 refine EY rfl rfl rfl (nW (vs:=[]) (cap:=[.pointer (some ⟨b1,0,none⟩),.pointer (some ⟨b2,0,none⟩)]) rfl rfl ⟨et,et,ah⟩) ?_
 refine Ix rfl rfl rfl et ?_
 refine EZ (vE ?_)
 refine EY rfl rfl rfl (gp rfl et) ?_
 refine Km rfl rfl rfl (tg (fs:=[]) (vs:=[]) (cap:=cap) rfl et hok trivial) (hf.mono ?_)
 rintro e w (⟨u,rfl,k1,k2,hR,hne⟩ | ⟨a,b,rfl,hC⟩)
 ·refine .inl ⟨u,rfl,?_⟩
  refine EZ (vE ?_)
  refine Hx rfl rfl rfl (xB (off:=0) (cs:=#[.int .i64 0]) (cs':=#[.int .i64 0]) (new:=[.int .i64 0]) rfl et ao rfl jP k1 rfl rfl rfl) ?_
  refine Hx rfl rfl rfl (xB (off:=0) (cs:=#[.int .i64 0]) (cs':=#[.int .i64 0]) (new:=[.int .i64 0]) rfl et ao rfl ku (k2.farRow (Ne.symm hne)) rfl rfl rfl) ?_
  refine EZ λa ha=>wpIn_ret ?_
  have k3:Blk ((w.setRow b1 #[.int .i64 0]).setRow b2 #[.int .i64 0]) b1 3 #[.int .i64 0]:=k1.setRow.farRow hne
  have k4:Blk ((w.setRow b1 #[.int .i64 0]).setRow b2 #[.int .i64 0]) b2 28 #[.int .i64 0]:=(k2.farRow (Ne.symm hne)).setRow
  have hr:=res (p:=0) (q:=0) ⟨rfl,ha.2⟩ rfl rfl k3 k4
  show LeavesInM Fence.wide 0 Tryz.prog Tryz.f29 a.tmps R a.defers .returning _
  rw[ha.1]
  refine⟨by simp,.inr ⟨λh=>by simp[Fence.wide]at h,_,_,67,_,rfl,hinv _,λ_ _=>trivial,?_⟩⟩
  refine(D6 (w:=(w.setRow b1 #[.int .i64 0]).setRow b2 #[.int .i64 0]) (p:= .pointer (some ⟨b1,0,none⟩)) (q:= .pointer (some ⟨b2,0,none⟩))).mono ?_
  rintro e u' w' ⟨rfl,rfl,rfl⟩
  exact⟨_,hr,hR⟩
 ·refine .inr ⟨_,rfl,λa' ha=>?_⟩
  show LeavesInM Fence.wide 0 Tryz.prog Tryz.f29 a'.tmps R a'.defers (.panicking [pe 114 a b]) _
  have hd:=ha.1
  rw[hd]
  refine⟨by simp,.inr ⟨λh=>by simp[Fence.wide]at h,_,_,67,_,rfl,hinv _,λ_ _=>trivial,?_⟩⟩
  refine hC.mono ?_
  rintro e u' w' ⟨rfl,rfl,k3,k4,hR⟩
  exact⟨_,res ⟨rfl,ha.2⟩ rfl rfl k3 k4,hR⟩
end Cg
open Cg
theorem Ci (os:List MO):Ja os os []:=by
 induction os with
 | nil=>exact .n
 | cons a r ih=>exact .l ih
theorem BL {m:MO} {r:List MO} {f:MO→List MO} (h:At r m f) (o:List MO):At (o++r) m (λx=>o++f x):=by
 induction o with
 | nil=>exact h
 | cons a o ih=>exact .s ih
theorem Kc {o1 o2:List MO} {C D:NP} {w:World} (h:AllMO (o1++o2) C D w):AllMO o1 C D w:=by
 induction o1 generalizing C with
 | nil=>trivial
 | cons a o ih=>obtain⟨C1,C2,h1,h2,h3⟩:=h;exact⟨C1,C2,h1,ih h2,h3⟩
theorem Kp {o1 o2:List Cl} {D:NP} {w:World} (h:AllCl (o1++o2) D w):AllCl o1 D w:=by
 induction o1 with
 | nil=>trivial
 | cons a o ih=>exact⟨h.1,ih h.2⟩
theorem sj {β:Type} (os1:β→List MO) (cl1:β→List Cl) {C0 F:NP} {w0:World} {os:List MO} {cl:List Cl} {cf:FuncId} {cap:List Value} (hok:eG Tryz.prog cf) (hI:Bun C0 F w0 C0 w0 os cl)
  (hf:∀ (C1 F1:NP) (w1:World),Bun C1 F1 w1 C1 w1 os cl→Calls Tryz.prog cf cap.toArray w1 λe w=>e= .returned (.tuple #[])∧∃ (x:β) (C:NP),Bun C1 F1 w1 C w (os1 x) (cl1 x)):
  Calls Tryz.prog 29 #[.func (.func cf) #[] cap.toArray] w0 λe w=>e= .returned (.tuple #[.int .i64 0,.int .i64 0])∧∃ (x:β) (C:NP),Bun C0 F w0 C w (os1 x) (cl1 x):=by
 obtain⟨Ca,_,ha⟩:=hI.alloc 3 #[.int .i64 0]
 obtain⟨Cb,_,hb⟩:=ha.alloc 28 #[.int .i64 0]
 refine yE rfl rfl rfl rfl hok ?_
 obtain⟨C1,F1,hB,hl,hk⟩:=hb.hands (.r (.r (Ci os)))
 refine(hf C1 F1 _ hB).mono ?_
 rintro e w ⟨rfl,x,C2,h2⟩
 obtain⟨C3,hs,h3⟩:=hk _ _ _ _ h2
 obtain⟨C4,_,h4⟩:=h3.setBox (cs':=#[.int .i64 0]) (BL (.s .z) (os1 x))
 obtain⟨C5,_,h5⟩:=h4.setBox (cs':=#[.int .i64 0]) (BL .z (os1 x))
 refine .inl ⟨_,rfl,h3.blk (BL (.s .z) (os1 x)),h3.blk (BL .z (os1 x)),⟨rfl,x,C5,h5.st,Kc h5.mo,Kp h5.cl,h5.dj,h5.fl⟩,?_⟩
 simp
theorem sk {C0 F:NP} {w0:World} {os:List MO} {cl:List Cl} {cf:FuncId} {cap:List Value} {a b:Int} (hok:eG Tryz.prog cf) (hI:Bun C0 F w0 C0 w0 os cl)
  (hf:∀ (C1 F1:NP) (w1:World),Bun C1 F1 w1 C1 w1 os cl→Calls Tryz.prog cf cap.toArray w1 λe w=>e= .panicked [pe 114 a b]∧∃ C:NP,Bun C1 F1 w1 C w [] []):
  Calls Tryz.prog 29 #[.func (.func cf) #[] cap.toArray] w0 λe w=>e= .returned (.tuple #[.int .i64 a,.int .i64 b])∧∃ C:NP,Bun C0 F w0 C w [] []:=by
 obtain⟨Ca,_,ha⟩:=hI.alloc 3 #[.int .i64 0]
 obtain⟨Cb,_,hb⟩:=ha.alloc 28 #[.int .i64 0]
 refine yE rfl rfl rfl rfl hok ?_
 obtain⟨C1,F1,hB,hl,hk⟩:=hb.hands (.r (.r (Ci os)))
 refine(hf C1 F1 _ hB).mono ?_
 rintro e w ⟨rfl,C2,h2⟩
 obtain⟨C3,hs,h3⟩:=hk _ _ _ _ h2
 have h4:Bun C0 F w0 C3 w [MO.box w0.heap.size 3 #[.int .i64 0],MO.box (w0.alloc (.cells #[.int .i64 0] 3)).heap.size 28 #[.int .i64 0]] []:=h3.arr (.c (.s .z) (.c .z .n)) trivial
 refine .inr ⟨a,b,rfl,(FQ h4).mono ?_⟩
 rintro e u' w' ⟨h1,h2,C',h5⟩
 exact⟨h1,h2,h5.blk .z,h5.blk (.s .z),rfl,C',h5.st,ah,ah,h5.dj,h5.fl⟩
end Go.Proofs.YtmhoikfoogemnaaGreatDoor
namespace Go.Proofs.YtmhoikfoogemnaaGreatDoor
open Go Go.RowKit Go.Vc
set_option linter.unusedVariables false
theorem ws (F:NP) (w0:World) (hF:∀ k,F k→k<w0.heap.size) (s:List UInt8) (hc:AllCl [aA] F w0) (r:List (List UInt8)) (h:o5 s=some r):
  Calls Tryz.prog 247 #[(aT s)] w0 λe w=>∃ (A1:Option Addr) (c1:Nat),e= .returned (Value.slice A1 r.length c1)∧Ext w0 w∧AllCl [LT bk A1 c1 r] F w:=by
 unfold o5 at h
 obtain⟨⟨h0,h1⟩,hz⟩:=fC h
 obtain rfl:=ak hz
 refine(Tryz.strings_Fields ⟨s.toArray⟩ w0 (by show s.toArray.size< _;simpa using h1) (λj b hb=>h0 b (List.mem_of_getElem? (by simpa using hb))) hc.1.1).mono ?_
 rintro e w ⟨rfl,rfl⟩
 refine⟨_,_,rfl,Ext.alloc _,⟨Nat.le_refl _,λ_=>⟨_,rfl,?_,λk=>absurd (hF _ k) (Nat.lt_irrefl _),(Lib.fields s).map λl=>[aT l],?_,?_⟩⟩,ah⟩
 ·show w0.heap.size<(w0.heap.push _).size
  rw[Array.size_push];exact Nat.lt_succ_self _
 ·exact Cm (c:=bk) (enc:=aT) (λ_ _ _=>rfl) _
 ·rw[CK];exact LU Blk.new (by simp only[List.drop_zero,List.toList_toArray];exact List.take_of_length_le (by simp))
theorem uY (F:NP) (w0:World) (_:∀ k,F k→k<w0.heap.size) (s:List UInt8) (b bits:Int) (hc:AllCl [] F w0) (r:Int×Unit) (h:lH s b bits=some r):
  Calls Tryz.prog 270 #[(aT s),(Value.int .i64 b),(Value.int .i64 bits)] w0 λe w=>∃ (v1:Value),e= .returned (Value.tuple #[(Value.int .i64 r.1),v1])∧Ext w0 w∧AllCl [] F w:=by
 unfold lH at h
 obtain⟨⟨rfl,rfl,h0⟩,hz⟩:=fC h
 split at hz
 ·rename_i v hv
  obtain rfl:=ak hz
  refine(Tryz.strconv_ParseInt_10_at64_ok ⟨s.toArray⟩ (by show s.toArray.size≤ _;simp;omega) v hv w0).mono λe w ⟨h2,h3⟩=>⟨_,h2,?_,ah⟩
  rcases h3 with rfl | ⟨t,rfl⟩
  ·exact .rfl'
  ·exact Lib.bytesWorld_below _ _ _
 ·cases hz
theorem pU (F:NP) (w0:World) (_:∀ k,F k→k<w0.heap.size) (s p:List UInt8) (hc:AllCl [] F w0) (r:Int) (h:gH s p=some r):
  Calls Tryz.prog 271 #[(aT s),(aT p)] w0 λe w=>e= .returned (Value.int .i64 r)∧Ext w0 w∧AllCl [] F w:=by
 unfold gH at h
 split at h
 ·obtain rfl:=ak h
  exact(Tryz.stringslite_Index_one ⟨s.toArray⟩ _ w0).mono λe w ⟨h2,h3⟩=>⟨h2,h3▸ .rfl',ah⟩
 ·cases h
end Go.Proofs.YtmhoikfoogemnaaGreatDoor
