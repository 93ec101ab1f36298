import Derived.Test.YtmhoikfoogemnaaGreatDoorHLfZ
namespace Go.Vc
open Go Go.RowKit Go.Proofs
set_option linter.unusedVariables false
theorem ca {α:Type _} (a:α) (s t:List α):a::s++t=a::(s++t):=rfl
theorem vF {D:NP} {w:World} {ad:Addr} {a b:List Value} (h:a=b) (k:CA D w ad a):CA D w ad b:=h▸k
theorem na {α:Type _} (t:List α):[]++t=t:=rfl
section
variable {ro:Ro} {n:Fr} {Kn:Act→World→Prop} {Ke:Nat→Act→World→Prop} {Kr:Act→World→Prop} {env:kW} {w w0:World}
variable {ops:Array Oper} {rest:List Oper} {o:Oper} {v:Value} {d:Nat}
variable {α β:Type} {a b:Int} {T0:TypeId} {X:Ending→World→Prop} {C0 F C1 F1 C:NP} {os:List MO} {cl:List Cl}
abbrev Hk (C0 F:NP) (w0:World) (C:NP) (w:World) (C1 F1:NP) (os:List MO) (cl:List Cl):Prop:=∀ (C1':NP) (w':World) (sl':List MO) (cl1:List Cl),Bun C1 F1 w C1' w' sl' cl1→∃ C',Sp (Dj F C) w (Dj F C') w'∧Bun C0 F w0 C' w' (sl'++os) (cl1++cl)
theorem jL {r:bZ β} (hk:Hk C0 F w0 C w C1 F1 os cl):∀ (a b:Int) (e:Ending) (w':World),r= .pan a b→(e= .panicked [pe T0 a b]∧∃ C',Bun C1 F1 w C' w' [] [])→
  ∃ ch,e= .panicked ch∧(Ro.pan λe w=>X e w∨∃ pa pn,r= .pan pa pn∧e= .panicked [pe T0 pa pn]∧∃ C,Bun C0 F w0 C w [] []).kp ch w':=by
 rintro a b e w' rfl ⟨rfl,C_,hB⟩
 obtain⟨C9,-,hI⟩:=hk _ _ _ _ hB
 exact⟨_,rfl,fB (.inr ⟨_,_,rfl,rfl,_,hI.arr .n trivial⟩)⟩
theorem dh {m:Option (bZ α)} {k:α→Option (bZ β)} {r:bZ β} {A:α→Ending→World→Prop} {B:Int→Int→Ending→World→Prop} {f:FuncId} {args:Array Value}
  (h:pb m k=some r) (hc:∀ q,m=some q→Calls Tryz.prog f args w λe w'=>(∃ x,q= .ret x∧A x e w')∨∃ a b,q= .pan a b∧B a b e w')
  (hp:∀ a b e w',r= .pan a b→B a b e w'→∃ ch,e= .panicked ch∧ro.kp ch w') (hr:nA Tryz.prog n env o w (.ok (.enter f args) w))
  (hn:∀ x,m=some (.ret x)→k x=some r→∀ e w',A x e w'→∃ v,e= .returned v∧dD Tryz.prog ro n ops Kn Ke Kr rest ((d,v)::env) w')
  (hg:oC n env ops o true:=by exact gn) (hd:o.dst=some d:=by rfl) (hds:n.ds=[]:=by rfl):dD Tryz.prog ro n ops Kn Ke Kr (o::rest) env w:=by
 rcases en h with⟨x,h1,h2⟩ | ⟨a,b,h1,h2⟩
 ·exact bf hg hd hr ((hc _ h1).mono λe w' q=>hn x h1 h2 e w' (cy (A:=λx=>A x e w') (B:=λa b=>B a b e w') q))
 ·exact iw hg hd hr ((hc _ h1).mono λe w' q=> .inr (hp a b e w' h2 (cz (A:=λx=>A x e w') (B:=λa b=>B a b e w') q))) hds
theorem RL.t {t:Nat} {r:List ResultVar} {s:List Value} (h:look env t=some v) (ht:Nat.blt t n.n=true) (k:ResL Tryz.prog n env w r s):ResL Tryz.prog n env w (.tmp t::r) (v::s):=⟨aT h ht,k⟩
theorem RL.e:ResL Tryz.prog n env w [] []:=trivial
theorem QF {fn:Func} {rs:List ResultVar} {vs:List Value} {v':Value} {cl':List Cl} (hI:Bun cH F w0 C w os cl) (hr:fn.results.toList=rs:=by rfl) (h:ResL Tryz.prog n env w rs vs:=by repeat (first | exact RL.e | (apply RL.t;(rfl);(rfl)))) (hv:yF vs=v':=by rfl) (hs:Subs cl cl':=by exact trivial) (hn:n.ds=[]:=by rfl):
  ∀ a,Has n a env→yc Tryz.prog fn (λu w=>Ending.returned u=Ending.returned v'∧Ext w0 w∧AllCl cl' F w) a w:=
 gR (R:=λu w=>Ending.returned u=Ending.returned v'∧Ext w0 w∧AllCl cl' F w) (rs:=rs) (by subst hr;simp) h (by subst hv;exact⟨rfl,hI.ext0,hI.fin hs⟩) hn
theorem LK {t:Nat} {y:Operand} (hk:H1 (.load t y)=some (y,true)):(∃ fs,BK t=some (.struct fs))∨∃ k e,BK t=some (.array k e):=by
 unfold H1 at hk
 dsimp only at hk
 split at hk
 ·next e=>exact .inl ⟨_,e⟩
 ·next e=>exact .inr ⟨_,_,e⟩
 ·next h1 h2 h3=>injection hk with hk;injection hk with _ hk;cases hk
 ·cases hk
theorem JN {t b T:Nat} {cs:Array Value} {y:Operand} (hb:Blk w b T cs) (hk:H1 (.load t y)=some (y,true)) (hs:Ip t=some cs.size):(loadVar t ⟨b,0,none⟩).run Tryz.prog w= .ok (.agg cs) w:=by
 have h3:(Tryz.prog.info? t).map (·.size)=some cs.toList.length:=rT (Array.length_toList▸hs)
 rcases LK hk with⟨fs,h1⟩ | ⟨k,e,h1⟩
 ·exact jI (jO h1) rfl h3 (Dn hb)
 ·exact jI (jO h1) rfl h3 (Dn hb)
theorem RL.g {p t b T:Nat} {cs:Array Value} {y:Operand} {r:List ResultVar} {s:List Value} (h:look env p=some (.pointer (some ⟨b,0,none⟩))) (ht:Nat.blt p n.n=true) (hb:Blk w b T cs) (hk:H1 (.load t y)=some (y,true)) (hs:Ip t=some cs.size) (k:ResL Tryz.prog n env w r s):ResL Tryz.prog n env w (.cell p t::r) (.agg cs::s):=
 ⟨⟨_,aT h ht,JN hb hk hs⟩,k⟩
theorem QG {fn:Func} {R:Value→World→Prop} {rs:List ResultVar} {vs:List Value} (hR:R (yF vs) w) (hr:fn.results.toList=rs:=by rfl) (h:ResL Tryz.prog n env w rs vs:=by repeat (first | exact RL.e | (apply RL.t;(rfl);(rfl)) | (apply RL.g (y:= .tmp 0);(rfl);(rfl);(exact hI.blk PO);(rfl);(rfl)))) (hn:n.ds=[]:=by rfl):
  ∀ a,Has n a env→yc Tryz.prog fn R a w:=
 gR (R:=R) (rs:=rs) (by subst hr;simp) h hR hn
end
end Go.Vc
namespace Go.Vc
open Go Go.RowKit Go.Proofs
set_option linter.unusedVariables false
set_option maxRecDepth 100000
inductive LL {α:Type _} :List α→List α→Prop where
 | n:LL [] []
 | c {a:α} {r s:List α} (h:LL r s):LL (a::r) (a::s)
theorem LL.eq {α:Type _} {r s:List α} (h:LL r s):r=s:=by induction h with | n=>rfl | c _ ih=>rw[ih]
theorem WO {α:Type _} {r s:List α} (h:LL r s:=by repeat (first | exact LL.n | apply LL.c)):LL r s:=h
def QN:Value→Option (Array Value)
 | .agg cs=>some cs
 | _=>none
theorem Gg {v:Value} {cs:Array Value} (h:QN v=some cs):v= .agg cs:=by unfold QN at h;split at h<;>first | (injection h with h;subst h;rfl) | cases h
noncomputable def zrt (t:Nat):Option Value:=match KH t with | some i=>i.zero | none=>none
theorem M6 {t:Nat} {z:Value} (h:zrt t=some z):((Tryz.prog.info? t).bind (·.zero))=some z:=by
 unfold zrt at h
 cases e:KH t with
 | none=>rw[e]at h;cases h
 | some i=>rw[e]at h;rw[BN e];exact h
theorem MD {f:Nat} {fn:Func} (h:Tryz.prog.funcs[f]? =some fn) (h2:(fn.name== "runtime.NumGoroutine")=false:=by kernel_rfl) (h3:fn.body.isNone=false:=by kernel_rfl):dv Tryz.prog f:=⟨fn,h,h2,h3⟩
theorem BH {p:Prop} (q:p:=by exact⟨_,hI.arr GO SU,h⟩):p:=q
theorem FS {p:Prop} (q:p:=by exact hI.facts SU):p:=q
theorem HS {p:Prop} (q:p:=by exact hB.subs SU):p:=q
theorem RF {p:Prop} (q:p:=by(try refine T ?_);(try refine nk ?_);refine aO ?_;obtain rfl:=ak h;exact QF hI):p:=q
theorem RQ {p:Prop} (q:p:=by(try refine T ?_);(try refine nk ?_);refine aO ?_;obtain rfl:=ak h;refine QG ?_;exact⟨rfl,hI.ext0,hI.fin SU⟩):p:=q
section
variable {ro:Ro} {n:Fr} {Kn:Act→World→Prop} {Ke:Nat→Act→World→Prop} {Kr:Act→World→Prop} {env:kW} {w w0:World}
variable {ops:Array Oper} {rest:List Oper} {o:Oper} {v:Value} {d:Nat} {x y:Operand} {t:TypeId}
variable {C0 F C:NP} {os:List MO} {cl:List Cl} {f:MO→List MO}
theorem kl {α:Type} {E:α→kW} {I:α→World→Prop} {μ:α→World→Nat} {m:Nat} (x:α) (hI:I x w:=by exact BH) (hs:Sub (E x) env:=by exact SB) (hm:μ x w<m:=by exact Nat.lt_succ_self _):∀ a,Has n a env→KB n E I μ m a w:=qo x hs hI hm
theorem kj {α:Type} {N:α→Fr} {E:α→kW} {J:α→World→Prop} (x:α) (hj:J x w:=by exact BH) (hs:Sub (E x) env:=by exact SB) (hn:N x=n:=by rfl):∀ a,Has n a env→KD N E J a w:=bI x hs hj hn
theorem QE {c:Operand} {x y:Code} {b:Bool} {β:Type} {p q:Option β} {r:β} (h:(if b=true then p else q)=some r) (hc:Ev n env c (.bool b)) (ht:b=true→p=some r→gH Tryz.prog ro n x Kn Ke Kr env w) (hf:b=false→q=some r→gH Tryz.prog ro n y Kn Ke Kr env w):gH Tryz.prog ro n (.cond c x y) Kn Ke Kr env w:=sO hc (λhb=>ht hb (MN hb h)) (λhb=>hf hb (MP hb h))
theorem TC {G G1 G2:Prop} (h1:G1) (h2:G2) (t:Wr G1→Wr G2→G:=by
 intro h1_ h2_
 (try refine T ?_)
 (try refine nk ?_)
 exact QE h et h1_.out h2_.out):G:=t ⟨h1⟩ ⟨h2⟩
theorem lA {g:Nat} {T:TypeId} {cs cs':Array Value} (h:∀ C' w',Bun C0 F w0 C' w' (f (MO.box g T cs')) cl→dD Tryz.prog ro n ops Kn Ke Kr rest env w')
  (ho:o.op= .store t x y:=by rfl) (hx:Ev n env x (.pointer (some ⟨g,0,none⟩)):=by exact et) (hy:Ev n env y v:=by exact EV) (hv:QN v=some cs':=by rfl) (hI:Bun C0 F w0 C w os cl:=by exact hI) (ha:At os (MO.box g T cs) f:=by exact PO)
  (hs:Ip t=some cs'.toList.length:=by rfl) (hone:cs'.toList.all (·.oneCell')=true:=by rfl) (hfit:cs'.toList.length=cs.toList.length:=by rfl) (hg:o.guard=none:=by rfl) (hd:o.dst=none:=by rfl):dD Tryz.prog ro n ops Kn Ke Kr (o::rest) env w:=by
 have e:=Gg hv;subst e
 refine bJ (new:=cs'.toList) (cs':=cs') hI ha (bD hg) hd ho hx hy rfl (rT hs) hone ?_ ?_ h
 ·apply Nat.ble_eq_true_of_le;rw[hfit,Nat.zero_add];simp
 ·rw[List.take_zero,List.nil_append,Nat.zero_add,hfit,List.drop_length,List.append_nil]
theorem l1 {g off:Nat} {T:TypeId} {cs:Array Value} {l:List Value} (h:∀ C' w',Bun C0 F w0 C' w' (f (MO.box g T l.toArray)) cl→dD Tryz.prog ro n ops Kn Ke Kr rest env w')
  (ho:o.op= .store t x y:=by rfl) (hx:Ev n env x (.pointer (some ⟨g,off,none⟩)):=by exact et) (hy:Ev n env y v:=by exact EV) (hI:Bun C0 F w0 C w os cl:=by exact hI) (ha:At os (MO.box g T cs) f:=by exact PO)
  (hv:v.cells.toList=[v]:=by rfl) (hs:Ip t=some 1:=by rfl) (hone:v.oneCell'=true:=by rfl) (hfit:Nat.ble (off+1) cs.size=true:=by rfl) (hl:LL (cs.toList.take off++v::cs.toList.drop (off+1)) l:=by exact WO) (hg:o.guard=none:=by rfl) (hd:o.dst=none:=by rfl):dD Tryz.prog ro n ops Kn Ke Kr (o::rest) env w:=by
 refine bJ (new:=[v]) (cs':=l.toArray) hI ha (bD hg) hd ho hx hy hv (rT hs) (by simp[hone]) hfit ?_ h
 rw[← hl.eq];simp
theorem lN {z:Value} {l:List Value} (h:∀ b C' w',Bun C0 F w0 C' w' (MO.box b t l.toArray::os) cl→dD Tryz.prog ro n ops Kn Ke Kr rest ((d,.pointer (some ⟨b,0,none⟩))::env) w')
  (ho:o.op= .alloc t:=by rfl) (hz:zrt t=some z:=by rfl) (hl:LL z.cells.toList l:=by exact WO) (hI:Bun C0 F w0 C w os cl:=by exact hI) (hg:o.guard=none:=by rfl) (hd:o.dst=some d:=by rfl):dD Tryz.prog ro n ops Kn Ke Kr (o::rest) env w:=
 cY hI (bD hg) hd ho (M6 hz) (by rw[← hl.eq]) h
theorem EA {xs:List Operand} {vs:List Value} (h:EvA n env xs vs:=by repeat (first | exact trivial | refine⟨EV,?_⟩)):EvA n env xs vs:=h
theorem EAg {xs:List Operand} {vs:List Value} (h:EvA n env xs vs:=by repeat (first | exact trivial | refine⟨EG,?_⟩)):EvA n env xs vs:=h
theorem sU {g:FuncId} {args:Array Value} {b:Bool} {u:Value} {D:NP} {cl1:List Cl} (hc:b=true→Calls Tryz.prog g args w λe w'=>e= .returned u∧Ext w w'∧AllCl cl1 D w') (hr:b=true→nA Tryz.prog n env o w (.ok (.enter g args) w)) (h:∀ w',Bun C0 F w0 C w' os cl→dD Tryz.prog ro n ops Kn Ke Kr rest ((d,gv b u)::env) w') (hg:oC n env ops o b:=by exact GD) (hI:Bun C0 F w0 C w os cl:=by exact hI) (hd:o.dst=some d:=by rfl):dD Tryz.prog ro n ops Kn Ke Kr (o::rest) env w:=
 Jg hg hd hr (λhb=>(hc hb).mono λ_ _ k=>⟨k.1,k.2.1⟩) λw' hx=>h w' (hI.ext hx)
theorem HN {C1 F1 C1':NP} {w':World} {sl' os2:List MO} {cl1 cl2:List Cl} {G:Prop} (hk:∀ (C1':NP) (w':World) (sl':List MO) (cl1:List Cl),Bun C1 F1 w C1' w' sl' cl1→∃ C',Sp (Dj F C) w (Dj F C') w'∧Bun C0 F w0 C' w' (sl'++os) (cl1++cl)) (hB:Bun C1 F1 w C1' w' sl' cl1)
  (h:∀ C',Bun C0 F w0 C' w' os2 cl2→G) (h1:LL (sl'++os) os2:=by exact WO) (h2:LL (cl1++cl) cl2:=by exact WO):G:=by
 obtain⟨C',-,h3⟩:=hk _ _ _ _ hB
 rw[h1.eq,h2.eq]at h3
 exact h C' h3
end
end Go.Vc
namespace Go.Vc
open Go Go.RowKit Go.Proofs
set_option linter.unusedVariables false
set_option maxRecDepth 100000
section
variable {ro:Ro} {n:Fr} {Kn:Act→World→Prop} {Ke:Nat→Act→World→Prop} {Kr:Act→World→Prop} {env:kW} {w w0:World}
variable {ops:Array Oper} {rest:List Oper} {rs:Tr} {fl:Fl} {o:Oper} {v:Value} {i d:Nat} {x y:Operand} {t e:TypeId} {X:List Nat} {md:Bool}
variable {C0 F C D:NP} {os:List MO} {cl:List Cl} {f:MO→List MO} {α:Type} {c:Cod α}
theorem lS {g off:Nat} {T:TypeId} {cs:Array Value} {l:List Value} (h:∀ C' w',Bun C0 F w0 C' w' (f (MO.box g T l.toArray)) cl→dD Tryz.prog ro n ops Kn Ke Kr rest env w')
  (ho:o.op= .store t x y:=by rfl) (hx:Ev n env x (.pointer (some ⟨g,off,none⟩)):=by exact et) (hy:Ev n env y v:=by exact EV) (hI:Bun C0 F w0 C w os cl:=by exact hI) (ha:At os (MO.box g T cs) f:=by exact PO)
  (hv:v.cells.toList=[v]:=by rfl) (hs:Ip t=some 1:=by rfl) (hone:v.oneCell'=true:=by rfl) (hfit:Nat.ble (off+1) cs.size=true:=by rfl) (hl:LL (cs.toList.take off++v::cs.toList.drop (off+1)) l:=by exact WO) (hg:o.guard=none:=by rfl) (hd:o.dst=none:=by rfl):dD Tryz.prog ro n ops Kn Ke Kr (o::rest) env w:=
 l1 h ho hx hy hI ha hv hs hone hfit hl hg hd
theorem vA {g:Nat} {T:TypeId} {cs cs':Array Value} (h:∀ C' w',Bun C0 F w0 C' w' (f (MO.box g T cs')) cl→di Tryz.prog ro n ops Kn Ke Kr (SN [] (Dj F C') w') rs env w')
  (hi:xB ops.toList i=some o:=by rfl) (ho:o.op= .store t x y:=by rfl) (hx:Ev n env x (.pointer (some ⟨g,0,none⟩)):=by exact et) (hy:Ev n env y v:=by exact EV) (hv:QN v=some cs':=by rfl) (hI:Bun C0 F w0 C w os cl:=by exact hI) (ha:At os (MO.box g T cs) f:=by exact PO)
  (hs:Ip t=some cs'.toList.length:=by rfl) (hone:cs'.toList.all (·.oneCell')=true:=by rfl) (hfit:cs'.toList.length=cs.toList.length:=by rfl) (hg:o.guard=none:=by rfl) (hd:o.dst=none:=by rfl) (hfl:fl.solo=true:=by rfl):di Tryz.prog ro n ops Kn Ke Kr (SN [] (DM true F C) w) (.c (i,fl) rs) env w:=by
 have e:=Gg hv;subst e
 refine tH (hfl:=hfl) (new:=cs'.toList) (cs':=cs') hI ha (nh hi) (bD hg) hd ho hx hy rfl (rT hs) hone ?_ ?_ h
 ·apply Nat.ble_eq_true_of_le;rw[hfit,Nat.zero_add];simp
 ·rw[List.take_zero,List.nil_append,Nat.zero_add,hfit,List.drop_length,List.append_nil]
theorem vS {g off:Nat} {T:TypeId} {cs:Array Value} {l:List Value} (h:∀ C' w',Bun C0 F w0 C' w' (f (MO.box g T l.toArray)) cl→di Tryz.prog ro n ops Kn Ke Kr (SN [] (Dj F C') w') rs env w')
  (hi:xB ops.toList i=some o:=by rfl) (ho:o.op= .store t x y:=by rfl) (hx:Ev n env x (.pointer (some ⟨g,off,none⟩)):=by exact et) (hy:Ev n env y v:=by exact EV) (hI:Bun C0 F w0 C w os cl:=by exact hI) (ha:At os (MO.box g T cs) f:=by exact PO)
  (hv:v.cells.toList=[v]:=by rfl) (hs:Ip t=some 1:=by rfl) (hone:v.oneCell'=true:=by rfl) (hfit:Nat.ble (off+1) cs.size=true:=by rfl) (hl:LL (cs.toList.take off++v::cs.toList.drop (off+1)) l:=by exact WO) (hg:o.guard=none:=by rfl) (hd:o.dst=none:=by rfl) (hfl:fl.solo=true:=by rfl):di Tryz.prog ro n ops Kn Ke Kr (SN [] (DM true F C) w) (.c (i,fl) rs) env w:=by
 refine tH (hfl:=hfl) (new:=[v]) (cs':=l.toArray) hI ha (nh hi) (bD hg) hd ho hx hy hv (rT hs) (by simp[hone]) hfit ?_ h
 rw[← hl.eq];simp
theorem EvL.nl:EvL n env [] []:=trivial
theorem EvL.cs {j:Nat} {ps:List (Nat×Operand)} {vs:List (Nat×Value)} (h:Ev n env x v) (k:EvL n env ps vs):EvL n env ((j,x)::ps) ((j,v)::vs):=⟨rfl,h,k⟩
theorem EE {ps:List (Nat×Operand)} {vs:List (Nat×Value)} (h:EvL n env ps vs:=by repeat (first | exact EvL.nl | apply EvL.cs EV)):EvL n env ps vs:=h
theorem Rels.nl:Rels c D w [] []:=trivial
theorem Rels.cs {a:α} {xs:List α} {cs:List Value} {css:List (List Value)} (h:c.rel D w a cs) (k:Rels c D w xs css):Rels c D w (a::xs) (cs::css):=⟨h,k⟩
theorem Rr {xs:List α} {css:List (List Value)} (h:Rels c D w xs css:=by repeat (first | exact Rels.nl | apply Rels.cs rfl)):Rels c D w xs css:=h
theorem ll {bytes len:Nat} {zv:Value} {ps:List (Nat×Operand)} {vs:List (Nat×Value)} {css:List (List Value)} (hI:Bun C0 F w0 C w os cl) (c:Cod α) (xs:List α) (hi:qM Tryz.prog e c.n bytes zv) (hr:Rels c (Dj F C) w xs css)
  (h:∀ b C' w',Bun C0 F w0 C' w' (Q6 c e (some ⟨b,0,none⟩) len xs::os) cl→dD Tryz.prog ro n ops Kn Ke Kr rest ((d,.slice (some ⟨b,0,none⟩) xs.length len)::env) w')
  (ho:o.op= .buildSlice t len ps.toArray:=by rfl) (ht:BK t=some (.slice e):=by rfl) (hp:EvL n env ps vs:=by exact EE)
  (hlen:Nat.ble (len * c.n) 16777216=true:=by rfl) (hf:Instr.fill (λi=>some (i * c.n,c.n)) ((Array.range (len * c.n)).map (λi=>(if len * c.n=0 then #[]else zv.cells)[i % (if len * c.n=0 then #[]else zv.cells).size]!)) vs=some css.flatten.toArray:=by kernel_rfl)
  (hx:xs.length=len:=by rfl) (hl2:Nat.ble len 4294967296=true:=by rfl) (hg:o.guard=none:=by rfl) (hd:o.dst=some d:=by rfl):dD Tryz.prog ro n ops Kn Ke Kr (o::rest) env w:=
 MM hI (bD hg) hd ho (jO ht) hi hlen hp hf hr hx rfl hl2 h
theorem vl {bytes len:Nat} {zv:Value} {ps:List (Nat×Operand)} {vs:List (Nat×Value)} {css:List (List Value)} (hI:Bun C0 F w0 C w os cl) (c:Cod α) (xs:List α) (hi:qM Tryz.prog e c.n bytes zv) (hr:Rels c (Dj F C) w xs css)
  (h:∀ b C' w',Bun C0 F w0 C' w' (Q6 c e (some ⟨b,0,none⟩) len xs::os) cl→di Tryz.prog ro n ops Kn Ke Kr (SN X (DM md F C') w') rs ((d,.slice (some ⟨b,0,none⟩) xs.length len)::env) w')
  (hix:xB ops.toList i=some o:=by rfl) (ho:o.op= .buildSlice t len ps.toArray:=by rfl) (ht:BK t=some (.slice e):=by rfl) (hp:EvL n env ps vs:=by exact EE)
  (hlen:Nat.ble (len * c.n) 16777216=true:=by rfl) (hf:Instr.fill (λi=>some (i * c.n,c.n)) ((Array.range (len * c.n)).map (λi=>(if len * c.n=0 then #[]else zv.cells)[i % (if len * c.n=0 then #[]else zv.cells).size]!)) vs=some css.flatten.toArray:=by kernel_rfl)
  (hx:xs.length=len:=by rfl) (hl2:Nat.ble len 4294967296=true:=by rfl) (hg:o.guard=none:=by rfl) (hd:o.dst=some d:=by rfl) (hX:X.contains i=false:=by rfl) (hfl:fl.solo=true:=by rfl):di Tryz.prog ro n ops Kn Ke Kr (SN X (DM md F C) w) (.c (i,fl) rs) env w:=
 OR (hfl:=hfl) (hX:=hX) hI (nh hix) (bD hg) hd ho (jO ht) hi hlen hp hf hr hx rfl hl2 h
theorem Rc {fg:Nat} {fn:Func} {vs:List Value} {xs:List Operand} {ts:Array TypeId} (h:Tryz.prog.funcs[fg]? =some fn) (ho:o.op= .call { callee:= .value (.func fg),args:=xs.toArray,argTypes:=ts } :=by rfl) (hx:EvA n env xs vs:=by exact EA) (h2:(fn.name== "runtime.NumGoroutine")=false:=by kernel_rfl) (h3:fn.body.isNone=false:=by kernel_rfl):nA Tryz.prog n env o w (.ok (.enter fg vs.toArray) w):=ar ho ⟨fn,h,h2,h3⟩ hx
theorem Rg {fg:Nat} {fn:Func} {vs:List Value} {xs:List Operand} {ts:Array TypeId} {b:Bool} (h:Tryz.prog.funcs[fg]? =some fn) (ho:o.op= .call { callee:= .value (.func fg),args:=xs.toArray,argTypes:=ts } :=by rfl) (hx:b=true→EvA n env xs vs:=by exact λhc=>EAg) (h2:(fn.name== "runtime.NumGoroutine")=false:=by kernel_rfl) (h3:fn.body.isNone=false:=by kernel_rfl):b=true→nA Tryz.prog n env o w (.ok (.enter fg vs.toArray) w):=λhc=>ar ho ⟨fn,h,h2,h3⟩ (hx hc)
theorem EN {g:FuncId} {fn:Func} {cd:Code} {l:List Value} {m:Nat} {K:Ending→World→Prop} (hf:Tryz.prog.funcs[g]? =some fn) (hn:fn.ntmps=m) (hF:∀ k,F k→k<w.heap.size) (hc:AllCl cl F w)
  (h:Bun cH F w cH w [] cl→gH Tryz.prog .plain ⟨m,[]⟩ cd (yc Tryz.prog fn λv w=>K (.returned v) w) (λ_ _ _=>False) (yc Tryz.prog fn λv w=>K (.returned v) w) (ue 0 l) w) (hb:fn.body=some cd:=by rfl) (hl:Nat.ble l.length m=true:=by rfl):Calls Tryz.prog g l.toArray w K:=
 sw hf hb hn hl (h (Bun.start hF hc))
theorem lX {cs:Array Value} (h:∀ b C' w',Bun C0 F w0 C' w' os (Cl.blk b t cs::cl)→dD Tryz.prog ro n ops Kn Ke Kr rest ((d,.pointer (some ⟨b,0,none⟩))::env) w') (ho:o.op= .box t x:=by rfl) (hx:Ev n env x v:=by exact et) (hv:QN v=some cs:=by rfl) (hI:Bun C0 F w0 C w os cl:=by exact hI) (hg:o.guard=none:=by rfl) (hd:o.dst=some d:=by rfl):dD Tryz.prog ro n ops Kn Ke Kr (o::rest) env w:=by
 have e:=Gg hv;subst e
 refine Ei hI (bD hg) hd ho hx rfl λb C' w' hI2=>?_
 obtain⟨C2,h3⟩:=hI2.relBox .z
 exact h _ _ _ h3
theorem Bun.ads {A:Option Addr} {cap:Nat} {xs:List α} (h:Bun C0 F w0 C w os cl) (hf:SlC c (Dj F C) w A cap xs):Bun C0 F w0 C w os (Cl.sl c A cap xs::cl):=h.add hf
theorem TR {G G2:Prop} (h2:G2) (t:Wr G2→G:=by
 intro h2_
 (try refine T ?_)
 (try refine nk ?_)
 refine QE h et ?_ h2_.out
 intro hb h
 exact RF):G:=t ⟨h2⟩
theorem sB {β γ:Type} {m:Option β} {k:β→Option γ} {r:γ} {g:FuncId} {args:Array Value} {u:β→Value} {D:β→NP} {cl1:β→List Cl} (hh:m.bind k=some r) (hc:∀ q,m=some q→Calls Tryz.prog g args w λe w'=>e= .returned (u q)∧Ext w w'∧AllCl (cl1 q) (D q) w') (hr:nA Tryz.prog n env o w (.ok (.enter g args) w)) (h:∀ q w',k q=some r→Bun C0 F w0 C w' os cl→dD Tryz.prog ro n ops Kn Ke Kr rest ((d,u q)::env) w') (hI:Bun C0 F w0 C w os cl:=by exact hI) (hg:o.guard=none:=by rfl) (hd:o.dst=some d:=by rfl):dD Tryz.prog ro n ops Kn Ke Kr (o::rest) env w:=by
 obtain⟨q,h1,h2⟩:=ab hh
 exact bf (bD hg) hd hr ((hc q h1).mono λ_ _ z=>⟨u q,z.1,h q _ h2 (hI.ext z.2.1)⟩)
end
end Go.Vc
namespace Go.Vc
open Go Go.RowKit Go.Proofs
set_option linter.unusedVariables false
section
variable {x a b c d e f g h i j:Cl} {r:List Cl}
theorem In.p1:In (a::x::r) x:= .s .z
theorem In.p2:In (a::b::x::r) x:= .s .p1
theorem In.p3:In (a::b::c::x::r) x:= .s .p2
theorem In.p4:In (a::b::c::d::x::r) x:= .s .p3
theorem In.p5:In (a::b::c::d::e::x::r) x:= .s .p4
theorem In.p6:In (a::b::c::d::e::f::x::r) x:= .s .p5
theorem In.p7:In (a::b::c::d::e::f::g::x::r) x:= .s .p6
theorem In.p8:In (a::b::c::d::e::f::g::h::x::r) x:= .s .p7
theorem In.p9:In (a::b::c::d::e::f::g::h::i::x::r) x:= .s .p8
end
section
variable {x a b c d e f g h i j:MO} {r:List MO}
theorem At.p1:At (a::x::r) x (λy=>a::y::r):= .s .z
theorem At.p2:At (a::b::x::r) x (λy=>a::b::y::r):= .s .p1
theorem At.p3:At (a::b::c::x::r) x (λy=>a::b::c::y::r):= .s .p2
theorem At.p4:At (a::b::c::d::x::r) x (λy=>a::b::c::d::y::r):= .s .p3
theorem At.p5:At (a::b::c::d::e::x::r) x (λy=>a::b::c::d::e::y::r):= .s .p4
theorem At.p6:At (a::b::c::d::e::f::x::r) x (λy=>a::b::c::d::e::f::y::r):= .s .p5
theorem At.p7:At (a::b::c::d::e::f::g::x::r) x (λy=>a::b::c::d::e::f::g::y::r):= .s .p6
theorem At.p8:At (a::b::c::d::e::f::g::h::x::r) x (λy=>a::b::c::d::e::f::g::h::y::r):= .s .p7
theorem Rm.p1:Rm (a::x::r) x (a::r):= .s .z
theorem Rm.p2:Rm (a::b::x::r) x (a::b::r):= .s .p1
theorem Rm.p3:Rm (a::b::c::x::r) x (a::b::c::r):= .s .p2
theorem Rm.p4:Rm (a::b::c::d::x::r) x (a::b::c::d::r):= .s .p3
end
end Go.Vc
