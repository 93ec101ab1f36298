import Derived.Test.YtmhoikfoogemnaaGreatDoorKXm
import Derived.Test.YtmhoikfoogemnaaGreatDoorProg
import Derived.RecoverIn
import Derived.KernelRfl
namespace Go.Proofs.YtmhoikfoogemnaaGreatDoor
open Go Go.RowKit Go.Vc
set_option linter.unusedVariables false
set_option linter.unusedSimpArgs false
namespace Cg
theorem sF {P:Program} {ti:TypeId} {ms:Array (String×TypeId)} (tp:TypeId) (v:Value) (w:World) (hi:P.underlying ti=some (.interface ms)):
  (binOp .neq ti (.iface tp v) .nilIface).run P w= .ok (.bool true) w:=by
 have h:∀ d:Nat,(Op.equalIn (d+1) ti (.iface tp v) .nilIface).run P w= .ok false w:=fun d=>by simp[Op.equalIn,run_underlying hi]
 simp only[binOp]
 simp[Op.equal,Op.maxDepth,h 9999]
theorem uA {P:Program} {ti:TypeId} {ms:Array (String×TypeId)} (w:World) (hi:P.underlying ti=some (.interface ms)):
  (binOp .neq ti .nilIface .nilIface).run P w= .ok (.bool false) w:=by
 have h:∀ d:Nat,(Op.equalIn (d+1) ti .nilIface .nilIface).run P w= .ok true w:=fun d=>by simp[Op.equalIn,run_underlying hi]
 simp only[binOp]
 simp[Op.equal,Op.maxDepth,h 9999]
theorem Cj {P:Program} {n:Fr} {env:kE} {o:Oper} {x:Operand} {t:TypeId} {v:Value} {w:World} {tx:TypeId} {ms:Array (String×TypeId)} (ho:o.op= .binOp .neq tx x (.const .nilIface) tx) (ht:P.underlying tx=some (.interface ms)) (hx:Ev n env x (.iface t v)):hH P n env o (.bool true) w:=
 ji ho hx (fun _ _=>rfl) (sF t v w ht) (by simp[eqGuard])
theorem Ds {P:Program} {n:Fr} {env:kE} {o:Oper} {x:Operand} {t tx:TypeId} {d:TypeDesc} {v:Value} {w:World} (ho:o.op= .typeAssert x tx t true) (ht:P.underlying t=some d) (hd:(match d with | .interface _=>true | _=>false)=false) (hx:Ev n env x (.iface t v)):hH P n env o (.tuple #[v,.bool true]) w:=fun a ha=>by
 have:(Instr.typeAssert (.iface t v) tx t true).run P w= .ok (.tuple #[v,.bool true]) w:=by
  cases d<;>first | (cases hd;done) | simp[Instr.typeAssert,run_underlying ht]
 simp only[execOp,ho,hx a ha]
 simp[this]
theorem DF:(Tryz.prog.info? 114).map (·.size)=some 2:=by kernel_rfl
theorem jK:(Tryz.prog.info? 28).map (·.size)=some 1:=by kernel_rfl
theorem jt:(Tryz.prog.info? 3).map (·.size)=some 1:=by kernel_rfl
theorem Dg:(Tryz.prog.info? 114).bind (·.zero)=some (Value.agg #[(Value.int .i64 0),(Value.int .i64 0)]):=by kernel_rfl
def iL:Tr:=(.c (5,.s) .n)
def lM:Option Unit:=some ()
theorem has3 {v0 v1 v2:Value} {tmps:Array Value} {m:Nat} (hs:tmps.size=m) (h0:tmps.getD 0 undef=v0) (h1:tmps.getD 1 undef=v1) (h2:tmps.getD 2 undef=v2):Has ⟨m,[]⟩ { tmps:=tmps,defers:=[] } [(0,v0),(1,v1),(2,v2)]:=
 ⟨rfl,hs,fun t v h ht=>by
  match t,h with
  | 0,h=>injection (show some v0=some v from h)with h;rw[← h];exact h0
  | 1,h=>injection (show some v1=some v from h)with h;rw[← h];exact h1
  | 2,h=>injection (show some v2=some v from h)with h;rw[← h];exact h2
  | n+3,h=>cases (show none=some v from h)⟩
set_option maxRecDepth 100000 in
set_option maxHeartbeats 1000000 in
theorem Bt:∃ c1 c2,Tryz.f67.body=some (.seq c1 c2)∧∀ {C0 F C:NP} {w0 w:World} {b1 b2:Nat} {x y a b:Int},Bun C0 F w0 C w [MO.box b1 3 #[.int .i64 x],MO.box b2 28 #[.int .i64 y]] []→
  gG Tryz.prog .plain ⟨20,[]⟩ c2 (fun a' w'=>a'.defers=[]∧∃ C',Bun C0 F w0 C' w' [MO.box b1 3 #[.int .i64 a],MO.box b2 28 #[.int .i64 b]] []) (fun _ _ _=>False) (fun _ _=>False) [(0,.pointer (some ⟨b1,0,none⟩)),(1,.pointer (some ⟨b2,0,none⟩)),(2,.iface 114 (.agg #[.int .i64 a,.int .i64 b]))] w:=by
 refine⟨_,_,rfl,?_⟩
 intro C0 F C w0 w b1 b2 x y a b hI
 obtain⟨r,h⟩:∃ r,lM=some r:=⟨_,rfl⟩
 refine al ?_
 refine kz rfl ?_
 refine AH (bA rfl) rfl (ft rfl (aK rfl rfl)) ?_
 refine AH (bA rfl) rfl (Cj rfl Tryz.underlying20 (aK rfl rfl)) ?_
 refine aM ?_
 refine bb ?_
 refine q8 (b:=true) (aK rfl rfl) (fun _=> ?_) (fun hb=>by cases hb)
 refine al ?_
 refine kz rfl ?_
 refine AH (bA rfl) rfl (ft rfl (aK rfl rfl)) ?_
 refine AH (bA rfl) rfl (Ds rfl Tryz.underlying114 rfl (aK rfl rfl)) ?_
 refine AH (bA rfl) rfl (ft rfl (aK rfl rfl)) ?_
 refine AH (bA rfl) rfl (eW rfl (aK rfl rfl) rfl) ?_
 refine AH (bA rfl) rfl (eW rfl (aK rfl rfl) rfl) ?_
 refine cF (cs:=#[(Value.int .i64 0),(Value.int .i64 0)]) hI (bA rfl) rfl rfl Dg rfl ?_
 clear hI;intro b3 c1 w1 hI
 refine ba (new:=[(Value.int .i64 a),(Value.int .i64 b)]) (cs':=#[(Value.int .i64 a),(Value.int .i64 b)]) hI .z (bA rfl) rfl rfl (aK rfl rfl) (aK rfl rfl) rfl DF rfl rfl rfl ?_
 clear hI;intro c2 w2 hI
 refine AH (bA rfl) rfl (cy rfl (aK rfl rfl)) ?_
 refine aM ?_
 refine bb ?_
 refine bw (α:=Unit) (fun _=>⟨20,[]⟩) (fun _=>[(0,(Value.pointer (some ⟨b1,0,none⟩))),(1,(Value.pointer (some ⟨b2,0,none⟩))),(3,(Value.pointer (some ⟨b3,0,none⟩)))]) (fun _=>fun w=>∃ C,Bun C0 F w0 C w [MO.box b1 3 #[(Value.int .i64 x)],MO.box b2 28 #[(Value.int .i64 y)],MO.box b3 114 #[(Value.int .i64 a),(Value.int .i64 b)]] []∧lM=some r) ?_ ?_
 ·clear h hI;rintro _ w3 ⟨c3,hI,h⟩
  try dsimp only at hI h
  rw[lM]at h
  refine Gi (e:=[(0,(Value.pointer (some ⟨b1,0,none⟩))),(1,(Value.pointer (some ⟨b2,0,none⟩))),(3,(Value.pointer (some ⟨b3,0,none⟩)))]) ⟨rfl,rfl,rfl,trivial⟩ ?_
  refine aI [4,5] false (.c (0,.q) (.c (1,.q) (.c (2,.q) (.two 3 (.c (4,.s) iL) 4 (.c (3,.s) iL))))) hI (by kernel_rfl) (by kernel_rfl) ?_
  clear hI;intro w7 hI
  refine cj (α:=NP) (T:=iL) (fun x=>[(0,(Value.pointer (some ⟨b1,0,none⟩))),(1,(Value.pointer (some ⟨b2,0,none⟩))),(3,(Value.pointer (some ⟨b3,0,none⟩))),(16,(Value.pointer (some ⟨b3,0,none⟩))),(17,(Value.int .i64 a)),(18,(Value.pointer (some ⟨b3,1,none⟩))),(19,(Value.int .i64 b))]) (fun x w=>Bun C0 F w0 x w [MO.box b1 3 #[(Value.int .i64 a)],MO.box b2 28 #[(Value.int .i64 y)],MO.box b3 114 #[(Value.int .i64 a),(Value.int .i64 b)]] []) (fun x w=>SN [] (DM true F x) w) ?_ ?_
  ·clear hI;rintro c6 w6 hI
   try dsimp only at hI ⊢
   unfold iL
   refine oJ (new:=[(Value.int .i64 b)]) (cs':=#[(Value.int .i64 b)]) hI (.s .z) rfl (bA rfl) rfl rfl (aK rfl rfl) (aK rfl rfl) rfl jK rfl rfl rfl ?_
   clear hI;intro c5 w5 hI
   refine oq ?_
   exact fun a_ ha_=>⟨yH rfl ha_,_,hI.arr (.c .z (.c .z .n)) trivial⟩
  intro hk_tr_parser_caught_1_1_0
  refine l6 rfl (bA rfl) rfl (fun w'=>(aN rfl (aK rfl rfl) Tryz.underlying114 rfl jt rfl)) ?_
  refine ct rfl (bA rfl) rfl (fun w' hw'=>(bo (v:=(Value.int .i64 a)) rfl (aK rfl rfl) Tryz.underlying3 rfl ((CA.blk (hI.blk (.s (.s .z))) rfl).at_ (SX.any rfl hw')))) (by kernel_rfl) ?_
  refine l6 rfl (bA rfl) rfl (fun w'=>(aN rfl (aK rfl rfl) Tryz.underlying114 rfl jK rfl)) ?_
  refine da ?_ ?_
  ·skip
   refine bn rfl (bA rfl) rfl (bo (v:=(Value.int .i64 b)) rfl (aK rfl rfl) Tryz.underlying28 rfl (CellsAt.of_blk (hI.blk (.s (.s .z))) rfl)) SX.self ?_
   refine bJ (F:=F) (C:=c3) rfl rfl ?_
   refine oJ (new:=[(Value.int .i64 a)]) (cs':=#[(Value.int .i64 a)]) hI .z rfl (bA rfl) rfl rfl (aK rfl rfl) (aK rfl rfl) rfl jt rfl rfl rfl ?_
   clear hI;intro c4 w4 hI
   exact aW (hk_tr_parser_caught_1_1_0 c4 _ (hI.arr (.c .z (.c .z (.c .z .n))) trivial)) ⟨rfl,rfl,rfl,rfl,rfl,rfl,rfl,trivial⟩
  ·skip
   refine bu (F:=F) (C:=c3) rfl rfl ?_
   refine oJ (new:=[(Value.int .i64 a)]) (cs':=#[(Value.int .i64 a)]) hI .z rfl (bA rfl) rfl rfl (aK rfl rfl) (aK rfl rfl) rfl jt rfl rfl rfl ?_
   clear hI;intro c4 w4 hI
   refine bn rfl (bA rfl) rfl (bo (v:=(Value.int .i64 b)) rfl (aK rfl rfl) Tryz.underlying28 rfl (CellsAt.of_blk (hI.blk (.s (.s .z))) rfl)) SX.self ?_
   exact aW (hk_tr_parser_caught_1_1_0 c4 _ (hI.arr (.c .z (.c .z (.c .z .n))) trivial)) ⟨rfl,rfl,rfl,rfl,rfl,rfl,rfl,trivial⟩
 ·skip
  refine al ?_
  refine kz rfl ?_
  refine AH (bA rfl) rfl (ft rfl (aK rfl rfl)) ?_
  refine AH (bA rfl) rfl (xM rfl (aK rfl rfl)) ?_
  refine aM ?_
  refine bb ?_
  refine q8 (b:=false) (aK rfl rfl) (fun hb=>by cases hb) (fun _=> ?_)
  refine bf ?_
  exact bi () ⟨rfl,rfl,rfl,trivial⟩ ⟨_,hI.arr (.c (.s .z) (.c (.s .z) (.c .z .n))) trivial,h⟩ rfl
set_option maxHeartbeats 1000000 in
theorem CZ {C0 F C:NP} {w0 w:World} {b1 b2:Nat} {x y a b:Int} (hI:Bun C0 F w0 C w [MO.box b1 3 #[.int .i64 x],MO.box b2 28 #[.int .i64 y]] []):
  CallsDIn Fence.wide 0 Tryz.prog 67 #[.pointer (some ⟨b1,0,none⟩),.pointer (some ⟨b2,0,none⟩)] (.panicking [pe 114 a b]) w fun e u' w'=>
   e= .returned (.tuple #[])∧u'= .panicking [{ pe 114 a b with recovered:=true }]∧∃ C',Bun C0 F w0 C' w' [MO.box b1 3 #[.int .i64 a],MO.box b2 28 #[.int .i64 b]] []:=by
 obtain⟨c1,c2,hb,hc⟩:=Bt
 have e1:Tryz.f67.body=_:=rfl
 refine callsDIn_of_wpSIn Tryz.func67 hb trivial fun c₀ cs hu=> ?_
 obtain⟨e2,e3⟩:c1=_ ∧c2=_:=by
  have:=hb.symm.trans e1
  injection this with this
  injection this with h1 h2
  exact⟨h1,h2⟩
 subst e2
 apply wpSIn_seq
 apply wpSIn_region
 simp[wpOpsSIn,go_sem,recoverD,hu,Tryz.ntmps67,Exit.thenS]
 refine wpSIn_of_wpIn rfl ?_
 have hA:=has3 (v0:= .pointer (some ⟨b1,0,none⟩)) (v1:= .pointer (some ⟨b2,0,none⟩)) (v2:= .iface 114 (.agg #[.int .i64 a,.int .i64 b])) (m:=20) (tmps:=#[.pointer (some ⟨b1,0,none⟩),.pointer (some ⟨b2,0,none⟩)]++((Array.replicate 18 undef).setIfInBounds 3 (.iface 114 (.agg #[.int .i64 a,.int .i64 b]))).setIfInBounds 0 (.iface 114 (.agg #[.int .i64 a,.int .i64 b]))) (by simp) (by simp) (by simp) (by simp)
 refine wpIn_mono (hc hI _ hA) fun e a' w' q=> ?_
 cases e with
 | normal=>obtain⟨h1,C',h2⟩:=q;exact⟨h1,_,rfl,_,by simp[results,Tryz.results67],rfl,rfl,C',h2⟩
 | panic ch=>exact q.2.elim
 | ret=>exact q.elim
 | exit id=>exact q.elim
 | goto l=>exact q.elim
 | outgrown=>exact q.elim
theorem Bs {w:World} {p q:Value} :
  CallsDIn Fence.wide 0 Tryz.prog 67 #[p,q] .returning w fun e u' w'=>e= .returned (.tuple #[])∧u'= .returning∧w'=w:=by
 refine callsDIn_of_wpSIn Tryz.func67 rfl trivial fun c₀ cs hu=> ?_
 apply wpSIn_seq
 apply wpSIn_region
 simp[wpOpsSIn,go_sem,recoverD,hu,Tryz.ntmps67,Exit.thenS]
 apply wpSIn_seq
 apply wpSIn_region
 simp[wpOpsSIn,go_sem,Exit.thenS,eqGuard,uA (P:=Tryz.prog) _ Tryz.underlying20]
 refine wpSIn_cond (t:=false) (by simp[Act.eval]) ?_
 simp only[Bool.false_eq_true,if_false]
 refine wpSIn_of_wpIn rfl (wpIn_skip ?_)
 refine⟨rfl,.returning,?_,_,by simp[results,Tryz.results67],rfl,rfl,rfl⟩
 cases c₀
 simp_all
def zi (n:Nat) (ds:List Deferred) (a:Act) (env:kE):Prop:=a.defers=ds∧Has ⟨n,[]⟩ { a with defers:=[] } env
theorem B8 (a:Act) (ds:List Deferred):({ a with defers:=ds } :Act).eval=a.eval:=by funext x;cases x<;>rfl
theorem Gz {n:Nat} {ds:List Deferred} {a:Act} {env:kE} {o:Oper} {w:World} {r:Result Next} (h:mN Tryz.prog ⟨n,[]⟩ env o w r) (hd:zi n ds a env):(execOp a.eval o).run Tryz.prog w=r:=by
 rw[← B8 a []];exact h _ hd.2
theorem H5 {n:Nat} {ds:List Deferred} {a:Act} {env:kE} (hd:zi n ds a env) (d:Nat) (v:Value):zi n ds (a.put (some d) v) ((d,v)::env):=
 ⟨by rw[DX];exact hd.1,hd.2.put d v⟩
def xL (n:Nat) (ds:List Deferred) (ops:Array Oper) (Q:Exit→Act→World→Prop) (l:List Oper) (env:kE) (w:World):Prop:=∀ a,zi n ds a env→wpListIn (FW none) 0 Tryz.prog ops Q l a w
section
variable {n:Nat} {ds:List Deferred} {ops:Array Oper} {Q:Exit→Act→World→Prop} {rest:List Oper} {env:kE} {w w':World} {o:Oper} {d:Nat} {v:Value}
theorem Ce (hn:gt o=true) (hg:o.guard=none) (hd:o.dst=some d) (hr:mN Tryz.prog ⟨n,[]⟩ env o w (.ok (.value v) w')) (h:xL n ds ops Q rest ((d,v)::env) w'):xL n ds ops Q (o::rest) env w:=fun a ha=>by
 show qn Tryz.prog none ops Q o (wpListIn (FW none) 0 Tryz.prog ops Q rest) a w
 exact qN hn (by simp[Region.wanted,hg]) (Gz hr ha) (by rw[hd];exact h _ (H5 ha d v))
theorem Ey (hn:gt o=true) (hg:o.guard=none) (hd:o.dst=none) (hr:mN Tryz.prog ⟨n,[]⟩ env o w (.ok .skip w')) (h:xL n ds ops Q rest env w'):xL n ds ops Q (o::rest) env w:=fun a ha=>by
 show qn Tryz.prog none ops Q o (wpListIn (FW none) 0 Tryz.prog ops Q rest) a w
 exact tP hn (by simp[Region.wanted,hg]) (Gz hr ha) (by rw[hd];exact h _ ha)
theorem Hq {f:FuncId} {args:Array Value} (hn:gt o=true) (hg:o.guard=none) (hd:o.dst=some d) (hr:mN Tryz.prog ⟨n,[]⟩ env o w (.ok (.enter f args) w))
  (h:Calls Tryz.prog f args w fun e w'=>(∃ v,e= .returned v∧xL n ds ops Q rest ((d,v)::env) w')∨∃ ch,e= .panicked ch∧∀ a,zi n ds a env→Q (.panic ch) a w'):xL n ds ops Q (o::rest) env w:=fun a ha=>by
 show qn Tryz.prog none ops Q o (wpListIn (FW none) 0 Tryz.prog ops Q rest) a w
 refine sn hn (by simp[Region.wanted,hg]) (Gz hr ha) (h.mono ?_)
 rintro e w' (⟨u,h1,h2⟩ | ⟨ch,h1,h2⟩)
 ·exact .inl ⟨u,h1,by rw[hd];exact h2 _ (H5 ha d u)⟩
 ·exact .inr ⟨ch,h1,h2 a ha⟩
theorem FB {x:Operand} {g:FuncId} {cap:Array Value} (hg:o.guard=none) (hd:o.dst=none) (ho:o.op= .defer { callee:= .value x,args:=#[],argTypes:=#[] }) (hx:Ev ⟨n,[]⟩ env x (.func (.func g) #[] cap))
  (h:xL n ({ target:= .fn (.func g) cap,args:=#[] } ::ds) ops Q rest env w):xL n ds ops Q (o::rest) env w:=fun a ha=>by
 show qn Tryz.prog none ops Q o (wpListIn (FW none) 0 Tryz.prog ops Q rest) a w
 have e0:a.eval x= .func (.func g) #[] cap:=by rw[← B8 a []];exact hx _ ha.2
 have e1:(execOp a.eval o).run Tryz.prog w= .ok (.defer { target:= .fn (.func g) cap,args:=#[] }) w:=by
  simp[execOp,ho,resolve,e0,Deferred.ofValue]
 unfold qn
 rw[if_pos (by simp[Region.wanted,hg])]
 refine⟨fun _ _=>trivial,?_⟩
 rw[show(FW none).round=none from rfl,Oper.semAt_none,e1]
 show wpListIn (FW none) 0 Tryz.prog ops Q rest (({ a with defers:= { target:= .fn (.func g) cap,args:=#[] } ::a.defers } :Act).put o.dst undef) w
 rw[hd]
 refine h _ ⟨?_,?_⟩
 ·show _ ::a.defers=_;rw[ha.1]
 ·exact ha.2
theorem Cf (h:∀ a,zi n ds a env→Q .normal a w):xL n ds ops Q [] env w:=fun a ha=>h a ha
theorem ta {id:Nat} {l:List Oper} {y:Code} (h:xL n ds l.toArray (Exit.then (fun a w=>y.wpIn (FW none) 0 Tryz.prog Q a w) Q) l env w):∀ a,zi n ds a env→(Code.seq (.region id l.toArray false) y).wpIn (FW none) 0 Tryz.prog Q a w:=fun a ha=>wpIn_seq (wpIn_region_lit (h a ha))
end
theorem De:(Tryz.prog.info? 3).bind (·.zero)=some (.int .i64 0):=by kernel_rfl
theorem BB:(Tryz.prog.info? 28).bind (·.zero)=some (.int .i64 0):=by kernel_rfl
set_option maxRecDepth 100000 in
set_option maxHeartbeats 2000000 in
theorem ww {cf:FuncId} {cap:List Value} {w0:World} {R:Ending→World→Prop} {w1 w2:World} {b1 b2:Nat} (hb1:w0.heap.size=b1) (hw1:w1=w0.alloc (.cells #[.int .i64 0] 3)) (hb2:w1.heap.size=b2) (hw2:w2=w1.alloc (.cells #[.int .i64 0] 28)) (hok:fy Tryz.prog cf)
  (hf:Calls Tryz.prog cf cap.toArray w2 fun e w=>(∃ u,e= .returned u∧Blk w b1 3 #[.int .i64 0]∧Blk w b2 28 #[.int .i64 0]∧R (.returned (.tuple #[.int .i64 0,.int .i64 0])) ((w.setRow b1 #[.int .i64 0]).setRow b2 #[.int .i64 0])∧b1≠b2)∨
   ∃ a b,e= .panicked [pe 114 a b]∧CallsDIn Fence.wide 0 Tryz.prog 67 #[.pointer (some ⟨b1,0,none⟩),.pointer (some ⟨b2,0,none⟩)] (.panicking [pe 114 a b]) w fun e u' w'=>
    e= .returned (.tuple #[])∧u'= .panicking [{ pe 114 a b with recovered:=true }]∧Blk w' b1 3 #[.int .i64 a]∧Blk w' b2 28 #[.int .i64 b]∧R (.returned (.tuple #[.int .i64 a,.int .i64 b])) w'):
  Calls Tryz.prog 29 #[.func (.func cf) #[] cap.toArray] w0 R:=by
 refine(callsIn_wide (n:=0)).1 (callsIn_of_wp_marks Tryz.func29 rfl trivial ?_)
 simp only[Tryz.ntmps29]
 have res:∀ {a:Act} {w:World} {p q:Int} {env:kE},zi 7 a.defers a env→Go.Vc.look env 2=some (Value.pointer (some ⟨b1,0,none⟩))→Go.Vc.look env 3=some (Value.pointer (some ⟨b2,0,none⟩))→Blk w b1 3 #[.int .i64 p]→Blk w b2 28 #[.int .i64 q]→(results Tryz.f29 a.tmps).run Tryz.prog w= .ok (.tuple #[.int .i64 p,.int .i64 q]) w:=fun {a w p q env} ha h2 h3 k1 k2=>by
  obtain⟨ds',w',h1,h2',v,h3',h4⟩:=eV (P:=Tryz.prog) (n:=⟨7,[]⟩) (env:=env) (w:=w) (fn:=Tryz.f29) (R:=fun v _=>v= .tuple #[.int .i64 p,.int .i64 q]) (rs:=[.cell 2 3,.cell 3 28]) (vs:=[.int .i64 p,.int .i64 q]) Tryz.results29 ⟨⟨_,aK h2 rfl,kw Tryz.underlying3 rfl (CellsAt.of_blk (off:=0) k1 rfl)⟩,⟨_,aK h3 rfl,kw Tryz.underlying28 rfl (CellsAt.of_blk (off:=0) k2 rfl)⟩,trivial⟩ rfl rfl _ ha.2
  have e:ds'=[]:=by cases ds' with
   | nil=>rfl
   | cons x l=>cases h1
  subst e
  have e2:w=w':=h2'
  subst e2
  subst h4
  exact h3'
 let d:Deferred:= { target:= .fn (.func 67) #[.pointer (some ⟨b1,0,none⟩),.pointer (some ⟨b2,0,none⟩)],args:=#[] }
 have hA:zi 7 [] { tmps:=#[Value.func (.func cf) #[] cap.toArray]++Array.replicate (7 - #[Value.func (.func cf) #[] cap.toArray].size) undef,defers:=[] } [(0,.func (.func cf) #[] cap.toArray)]:=⟨rfl,rfl,rfl,fun t v h ht=>by
  match t,h with
  | 0,h=>injection (show some (Value.func (.func cf) #[] cap.toArray)=some v from h)with h
  | n+1,h=>cases (show none=some v from h)⟩
 have hinv:∀ w:World,(invoke d.target d.args).run Tryz.prog w= .ok (.enter 67 #[.pointer (some ⟨b1,0,none⟩),.pointer (some ⟨b2,0,none⟩)]) w:=fun w=>by
  simp only[d,invoke]
  rw[pV ⟨_,Tryz.func67,by kernel_rfl,by kernel_rfl⟩]
  rfl
 refine ta ?_ _ hA
 refine Ce rfl rfl rfl (va (w:=w0) rfl De) ?_
 have ew1:w0.alloc (.cells (Value.int .i64 0).cells 3)=w1:=hw1.symm
 rw[ew1,hb1]
 refine Ce rfl rfl rfl (va (w:=w1) rfl BB) ?_
 have ew2:w1.alloc (.cells (Value.int .i64 0).cells 28)=w2:=hw2.symm
 rw[ew2,hb2]
 refine Cf (ta ?_)
 refine Ce rfl rfl rfl (nJ (vs:=[]) (cap:=[.pointer (some ⟨b1,0,none⟩),.pointer (some ⟨b2,0,none⟩)]) rfl rfl ⟨et,et,trivial⟩) ?_
 refine FB rfl rfl rfl et ?_
 refine Cf (ta ?_)
 refine Ce rfl rfl rfl (ft rfl et) ?_
 refine Hq rfl rfl rfl (gO (fs:=[]) (vs:=[]) (cap:=cap) rfl et hok trivial) (hf.mono ?_)
 rintro e w (⟨u,rfl,k1,k2,hR,hne⟩ | ⟨a,b,rfl,hC⟩)
 ·refine .inl ⟨u,rfl,?_⟩
  refine Cf (ta ?_)
  refine Ey rfl rfl rfl (u0 (off:=0) (cs:=#[.int .i64 0]) (cs':=#[.int .i64 0]) (new:=[.int .i64 0]) rfl et ao rfl jt k1 rfl rfl rfl) ?_
  refine Ey rfl rfl rfl (u0 (off:=0) (cs:=#[.int .i64 0]) (cs':=#[.int .i64 0]) (new:=[.int .i64 0]) rfl et ao rfl jK (k2.farRow (Ne.symm hne)) rfl rfl rfl) ?_
  refine Cf fun a ha=>wpIn_ret ?_
  have k3:Blk ((w.setRow b1 #[.int .i64 0]).setRow b2 #[.int .i64 0]) b1 3 #[.int .i64 0]:=k1.setRow.farRow hne
  have k4:Blk ((w.setRow b1 #[.int .i64 0]).setRow b2 #[.int .i64 0]) b2 28 #[.int .i64 0]:=(k2.farRow (Ne.symm hne)).setRow
  have hr:=res (p:=0) (q:=0) ⟨rfl,ha.2⟩ rfl rfl k3 k4
  show LeavesInM Fence.wide 0 Tryz.prog Tryz.f29 a.tmps R a.defers .returning _
  rw[ha.1]
  refine⟨by simp,.inr ⟨fun h=>by simp[Fence.wide]at h,_,_,67,_,rfl,hinv _,fun _ _=>trivial,?_⟩⟩
  refine(Bs (w:=(w.setRow b1 #[.int .i64 0]).setRow b2 #[.int .i64 0]) (p:= .pointer (some ⟨b1,0,none⟩)) (q:= .pointer (some ⟨b2,0,none⟩))).mono ?_
  rintro e u' w' ⟨rfl,rfl,rfl⟩
  exact⟨_,hr,hR⟩
 ·refine .inr ⟨_,rfl,fun a' ha=> ?_⟩
  show LeavesInM Fence.wide 0 Tryz.prog Tryz.f29 a'.tmps R a'.defers (.panicking [pe 114 a b]) _
  have hd:=ha.1
  rw[hd]
  refine⟨by simp,.inr ⟨fun h=>by simp[Fence.wide]at h,_,_,67,_,rfl,hinv _,fun _ _=>trivial,?_⟩⟩
  refine hC.mono ?_
  rintro e u' w' ⟨rfl,rfl,k3,k4,hR⟩
  exact⟨_,res ⟨rfl,ha.2⟩ rfl rfl k3 k4,hR⟩
end Cg
open Cg
theorem zJ (os:List MO):Gj os os []:=by
 induction os with
 | nil=>exact .n
 | cons a r ih=>exact .l ih
theorem zd {m:MO} {r:List MO} {f:MO→List MO} (h:At r m f) (o:List MO):At (o++r) m (fun x=>o++f x):=by
 induction o with
 | nil=>exact h
 | cons a o ih=>exact .s ih
theorem Hg {o1 o2:List MO} {C D:NP} {w:World} (h:AllMO (o1++o2) C D w):AllMO o1 C D w:=by
 induction o1 generalizing C with
 | nil=>trivial
 | cons a o ih=>obtain⟨C1,C2,h1,h2,h3⟩:=h;exact⟨C1,C2,h1,ih h2,h3⟩
theorem Hs {o1 o2:List Cl} {D:NP} {w:World} (h:AllCl (o1++o2) D w):AllCl o1 D w:=by
 induction o1 with
 | nil=>trivial
 | cons a o ih=>exact⟨h.1,ih h.2⟩
theorem tq {β:Type} (os1:β→List MO) (cl1:β→List Cl) {C0 F:NP} {w0:World} {os:List MO} {cl:List Cl} {cf:FuncId} {cap:List Value} (hok:fy Tryz.prog cf) (hI:Bun C0 F w0 C0 w0 os cl)
  (hf:∀ (C1 F1:NP) (w1:World),Bun C1 F1 w1 C1 w1 os cl→Calls Tryz.prog cf cap.toArray w1 fun e w=>e= .returned (.tuple #[])∧∃ (x:β) (C:NP),Bun C1 F1 w1 C w (os1 x) (cl1 x)):
  Calls Tryz.prog 29 #[.func (.func cf) #[] cap.toArray] w0 fun e w=>e= .returned (.tuple #[.int .i64 0,.int .i64 0])∧∃ (x:β) (C:NP),Bun C0 F w0 C w (os1 x) (cl1 x):=by
 obtain⟨Ca,_,ha⟩:=hI.alloc 3 #[.int .i64 0]
 obtain⟨Cb,_,hb⟩:=ha.alloc 28 #[.int .i64 0]
 refine ww rfl rfl rfl rfl hok ?_
 obtain⟨C1,F1,hB,hl,hk⟩:=hb.hands (.r (.r (zJ os)))
 refine(hf C1 F1 _ hB).mono ?_
 rintro e w ⟨rfl,x,C2,h2⟩
 obtain⟨C3,hs,h3⟩:=hk _ _ _ _ h2
 obtain⟨C4,_,h4⟩:=h3.setBox (cs':=#[.int .i64 0]) (zd (.s .z) (os1 x))
 obtain⟨C5,_,h5⟩:=h4.setBox (cs':=#[.int .i64 0]) (zd .z (os1 x))
 refine .inl ⟨_,rfl,h3.blk (zd (.s .z) (os1 x)),h3.blk (zd .z (os1 x)),⟨rfl,x,C5,⟨h5.st,Hg h5.mo,Hs h5.cl,h5.dj,h5.fl⟩⟩,?_⟩
 simp
theorem tr {C0 F:NP} {w0:World} {os:List MO} {cl:List Cl} {cf:FuncId} {cap:List Value} {a b:Int} (hok:fy Tryz.prog cf) (hI:Bun C0 F w0 C0 w0 os cl)
  (hf:∀ (C1 F1:NP) (w1:World),Bun C1 F1 w1 C1 w1 os cl→Calls Tryz.prog cf cap.toArray w1 fun e w=>e= .panicked [pe 114 a b]∧∃ C:NP,Bun C1 F1 w1 C w [] []):
  Calls Tryz.prog 29 #[.func (.func cf) #[] cap.toArray] w0 fun e w=>e= .returned (.tuple #[.int .i64 a,.int .i64 b])∧∃ C:NP,Bun C0 F w0 C w [] []:=by
 obtain⟨Ca,_,ha⟩:=hI.alloc 3 #[.int .i64 0]
 obtain⟨Cb,_,hb⟩:=ha.alloc 28 #[.int .i64 0]
 refine ww rfl rfl rfl rfl hok ?_
 obtain⟨C1,F1,hB,hl,hk⟩:=hb.hands (.r (.r (zJ os)))
 refine(hf C1 F1 _ hB).mono ?_
 rintro e w ⟨rfl,C2,h2⟩
 obtain⟨C3,hs,h3⟩:=hk _ _ _ _ h2
 have h4:Bun C0 F w0 C3 w [MO.box w0.heap.size 3 #[.int .i64 0],MO.box (w0.alloc (.cells #[.int .i64 0] 3)).heap.size 28 #[.int .i64 0]] []:=h3.arr (.c (.s .z) (.c .z .n)) trivial
 refine .inr ⟨a,b,rfl,(CZ h4).mono ?_⟩
 rintro e u' w' ⟨h1,h2,C',h5⟩
 exact⟨h1,h2,h5.blk .z,h5.blk (.s .z),rfl,C',⟨h5.st,trivial,trivial,h5.dj,h5.fl⟩⟩
end Go.Proofs.YtmhoikfoogemnaaGreatDoor
