import Derived.Test.YtmhoikfoogemnaaGreatDoorKLfZ
namespace Go.Vc
open Go Go.RowKit Go.Proofs
set_option linter.unusedVariables false
theorem ca {α:Type _} (a:α) (s t:List α):a::s++t=a::(s++t):=rfl
theorem uq {D:NP} {w:World} {ad:Addr} {a b:List Value} (h:a=b) (k:CA D w ad a):CA D w ad b:=h▸k
theorem na {α:Type _} (t:List α):[]++t=t:=rfl
section
variable {ro:Ro} {n:Fr} {Kn:Act→World→Prop} {Ke:Nat→Act→World→Prop} {Kr:Act→World→Prop} {env:kE} {w w0:World}
variable {ops:Array Oper} {rest:List Oper} {o:Oper} {v:Value} {d:Nat}
variable {α β:Type} {a b:Int} {T0:TypeId} {X:Ending→World→Prop} {C0 F C1 F1 C:NP} {os:List MO} {cl:List Cl}
abbrev Hk (C0 F:NP) (w0:World) (C:NP) (w:World) (C1 F1:NP) (os:List MO) (cl:List Cl):Prop:=∀ (C1':NP) (w':World) (sl':List MO) (cl1:List Cl),Bun C1 F1 w C1' w' sl' cl1→∃ C',Sp (Dj F C) w (Dj F C') w'∧Bun C0 F w0 C' w' (sl'++os) (cl1++cl)
theorem lw {r:bz β} (hk:Hk C0 F w0 C w C1 F1 os cl):∀ (a b:Int) (e:Ending) (w':World),r= .pan a b→(e= .panicked [pe T0 a b]∧∃ C',Bun C1 F1 w C' w' [] [])→
  ∃ ch,e= .panicked ch∧(Ro.pan fun e w=>X e w∨∃ pa pn,r= .pan pa pn∧e= .panicked [pe T0 pa pn]∧∃ C,Bun C0 F w0 C w [] []).kp ch w':=by
 rintro a b e w' rfl ⟨rfl,C_,hB⟩
 obtain⟨C9,-,hI⟩:=hk _ _ _ _ hB
 exact⟨_,rfl,iK (.inr ⟨_,_,rfl,rfl,_,hI.arr .n trivial⟩)⟩
theorem eG {m:Option (bz α)} {k:α→Option (bz β)} {r:bz β} {A:α→Ending→World→Prop} {B:Int→Int→Ending→World→Prop} {f:FuncId} {args:Array Value}
  (h:pb m k=some r) (hc:∀ q,m=some q→Calls Tryz.prog f args w fun e w'=>(∃ x,q= .ret x∧A x e w')∨∃ a b,q= .pan a b∧B a b e w')
  (hp:∀ a b e w',r= .pan a b→B a b e w'→∃ ch,e= .panicked ch∧ro.kp ch w') (hr:mN Tryz.prog n env o w (.ok (.enter f args) w))
  (hn:∀ x,m=some (.ret x)→k x=some r→∀ e w',A x e w'→∃ v,e= .returned v∧dm Tryz.prog ro n ops Kn Ke Kr rest ((d,v)::env) w')
  (hg:nC n env ops o true:=by exact gn) (hd:o.dst=some d:=by rfl) (hds:n.ds=[]:=by rfl):dm Tryz.prog ro n ops Kn Ke Kr (o::rest) env w:=by
 rcases iM h with⟨x,h1,h2⟩ | ⟨a,b,h1,h2⟩
 ·exact aB hg hd hr ((hc _ h1).mono fun e w' q=>hn x h1 h2 e w' (eX (A:=fun x=>A x e w') (B:=fun a b=>B a b e w') q))
 ·exact nU hg hd hr ((hc _ h1).mono fun e w' q=> .inr (hp a b e w' h2 (eY (A:=fun x=>A x e w') (B:=fun a b=>B a b e w') q))) hds
theorem RL.t {t:Nat} {r:List ResultVar} {s:List Value} (h:look env t=some v) (ht:Nat.blt t n.n=true) (k:ResL Tryz.prog n env w r s):ResL Tryz.prog n env w (.tmp t::r) (v::s):=⟨aK h ht,k⟩
theorem RL.e:ResL Tryz.prog n env w [] []:=trivial
theorem QF {fn:Func} {rs:List ResultVar} {vs:List Value} {v':Value} {cl':List Cl} (hI:Bun du F w0 C w os cl) (hr:fn.results.toList=rs:=by rfl) (h:ResL Tryz.prog n env w rs vs:=by repeat (first | exact RL.e | (apply RL.t;(rfl);(rfl)))) (hv:vz vs=v':=by rfl) (hs:Subs cl cl':=by exact trivial) (hn:n.ds=[]:=by rfl):
  ∀ a,Has n a env→uV Tryz.prog fn (fun u w=>Ending.returned u=Ending.returned v'∧Ext w0 w∧AllCl cl' F w) a w:=
 eV (R:=fun u w=>Ending.returned u=Ending.returned v'∧Ext w0 w∧AllCl cl' F w) (rs:=rs) (by subst hr;simp) h (by subst hv;exact⟨rfl,hI.ext0,hI.fin hs⟩) hn
theorem Ft {t:Nat} {y:Operand} (hk:CH (.load t y)=some (y,true)):(∃ fs,yf t=some (.struct fs))∨∃ k e,yf t=some (.array k e):=by
 unfold CH at hk
 dsimp only at hk
 split at hk
 ·next e=>exact .inl ⟨_,e⟩
 ·next e=>exact .inr ⟨_,_,e⟩
 ·next h1 h2 h3=>injection hk with hk;injection hk with _ hk;cases hk
 ·cases hk
theorem Ei {t b T:Nat} {cs:Array Value} {y:Operand} (hb:Blk w b T cs) (hk:CH (.load t y)=some (y,true)) (hs:Da t=some cs.size):(loadVar t ⟨b,0,none⟩).run Tryz.prog w= .ok (.agg cs) w:=by
 have h3:(Tryz.prog.info? t).map (·.size)=some cs.toList.length:=pR (Array.length_toList▸hs)
 rcases Ft hk with⟨fs,h1⟩ | ⟨k,e,h1⟩
 ·exact ci (jU h1) rfl h3 (y8 hb)
 ·exact ci (jU h1) rfl h3 (y8 hb)
theorem RL.g {p t b T:Nat} {cs:Array Value} {y:Operand} {r:List ResultVar} {s:List Value} (h:look env p=some (.pointer (some ⟨b,0,none⟩))) (ht:Nat.blt p n.n=true) (hb:Blk w b T cs) (hk:CH (.load t y)=some (y,true)) (hs:Da t=some cs.size) (k:ResL Tryz.prog n env w r s):ResL Tryz.prog n env w (.cell p t::r) (.agg cs::s):=
 ⟨⟨_,aK h ht,Ei hb hk hs⟩,k⟩
theorem QG {fn:Func} {R:Value→World→Prop} {rs:List ResultVar} {vs:List Value} (hR:R (vz vs) w) (hr:fn.results.toList=rs:=by rfl) (h:ResL Tryz.prog n env w rs vs:=by repeat (first | exact RL.e | (apply RL.t;(rfl);(rfl)) | (apply RL.g (y:= .tmp 0);(rfl);(rfl);(exact hI.blk PO);(rfl);(rfl)))) (hn:n.ds=[]:=by rfl):
  ∀ a,Has n a env→uV Tryz.prog fn R a w:=
 eV (R:=R) (rs:=rs) (by subst hr;simp) h hR hn
end
end Go.Vc
namespace Go.Vc
open Go Go.RowKit Go.Proofs
set_option linter.unusedVariables false
set_option maxRecDepth 100000
inductive LL {α:Type _} :List α→List α→Prop where
 | n:LL [] []
 | c {a:α} {r s:List α} (h:LL r s):LL (a::r) (a::s)
theorem LL.eq {α:Type _} {r s:List α} (h:LL r s):r=s:=by induction h with | n=>rfl | c _ ih=>rw[ih]
theorem WO {α:Type _} {r s:List α} (h:LL r s:=by repeat (first | exact LL.n | apply LL.c)):LL r s:=h
def Ir:Value→Option (Array Value)
 | .agg cs=>some cs
 | _=>none
theorem Bz {v:Value} {cs:Array Value} (h:Ir v=some cs):v= .agg cs:=by unfold Ir at h;split at h<;>first | (injection h with h;subst h;rfl) | cases h
noncomputable def zrt (t:Nat):Option Value:=match ET t with | some i=>i.zero | none=>none
theorem Gl {t:Nat} {z:Value} (h:zrt t=some z):((Tryz.prog.info? t).bind (·.zero))=some z:=by
 unfold zrt at h
 cases e:ET t with
 | none=>rw[e]at h;cases h
 | some i=>rw[e]at h;rw[yg e];exact h
theorem BH {p:Prop} (q:p:=by exact⟨_,hI.arr GO SU,h⟩):p:=q
theorem FS {p:Prop} (q:p:=by exact hI.facts SU):p:=q
theorem HS {p:Prop} (q:p:=by exact hB.subs SU):p:=q
theorem RF {p:Prop} (q:p:=by(try refine T ?_);(try refine nk ?_);refine aA ?_;obtain rfl:=aj h;exact QF hI):p:=q
theorem RQ {p:Prop} (q:p:=by(try refine T ?_);(try refine nk ?_);refine aA ?_;obtain rfl:=aj h;refine QG ?_;exact⟨rfl,hI.ext0,hI.fin SU⟩):p:=q
section
variable {ro:Ro} {n:Fr} {Kn:Act→World→Prop} {Ke:Nat→Act→World→Prop} {Kr:Act→World→Prop} {env:kE} {w w0:World}
variable {ops:Array Oper} {rest:List Oper} {o:Oper} {v:Value} {d:Nat} {x y:Operand} {t:TypeId}
variable {C0 F C:NP} {os:List MO} {cl:List Cl} {f:MO→List MO}
theorem kl {α:Type} {E:α→kE} {I:α→World→Prop} {μ:α→World→Nat} {m:Nat} (x:α) (hI:I x w:=by exact BH) (hs:Sub (E x) env:=by exact SB) (hm:μ x w<m:=by exact Nat.lt_succ_self _):∀ a,Has n a env→EM n E I μ m a w:=jY x hs hI hm
theorem kj {α:Type} {N:α→Fr} {E:α→kE} {J:α→World→Prop} (x:α) (hj:J x w:=by exact BH) (hs:Sub (E x) env:=by exact SB) (hn:N x=n:=by rfl):∀ a,Has n a env→EO N E J a w:=bi x hs hj hn
theorem Io {c:Operand} {x y:Code} {b:Bool} {β:Type} {p q:Option β} {r:β} (h:(if b=true then p else q)=some r) (hc:Ev n env c (.bool b)) (ht:b=true→p=some r→gG Tryz.prog ro n x Kn Ke Kr env w) (hf:b=false→q=some r→gG Tryz.prog ro n y Kn Ke Kr env w):gG Tryz.prog ro n (.cond c x y) Kn Ke Kr env w:=q8 hc (fun hb=>ht hb (Gc hb h)) (fun hb=>hf hb (Gd hb h))
theorem TC {G G1 G2:Prop} (h1:G1) (h2:G2) (t:Wr G1→Wr G2→G:=by
 intro h1_ h2_
 (try refine T ?_)
 (try refine nk ?_)
 exact Io h et h1_.out h2_.out):G:=t ⟨h1⟩ ⟨h2⟩
theorem lA {g:Nat} {T:TypeId} {cs cs':Array Value} (h:∀ C' w',Bun C0 F w0 C' w' (f (MO.box g T cs')) cl→dm Tryz.prog ro n ops Kn Ke Kr rest env w')
  (ho:o.op= .store t x y:=by rfl) (hx:Ev n env x (.pointer (some ⟨g,0,none⟩)):=by exact et) (hy:Ev n env y v:=by exact EV) (hv:Ir v=some cs':=by rfl) (hI:Bun C0 F w0 C w os cl:=by exact hI) (ha:At os (MO.box g T cs) f:=by exact PO)
  (hs:Da t=some cs'.toList.length:=by rfl) (hone:cs'.toList.all (·.oneCell')=true:=by rfl) (hfit:cs'.toList.length=cs.toList.length:=by rfl) (hg:o.guard=none:=by rfl) (hd:o.dst=none:=by rfl):dm Tryz.prog ro n ops Kn Ke Kr (o::rest) env w:=by
 have e:=Bz hv;subst e
 refine ba (new:=cs'.toList) (cs':=cs') hI ha (bA hg) hd ho hx hy rfl (pR hs) hone ?_ ?_ h
 ·apply Nat.ble_eq_true_of_le;rw[hfit,Nat.zero_add];simp
 ·rw[List.take_zero,List.nil_append,Nat.zero_add,hfit,List.drop_length,List.append_nil]
theorem l1 {g off:Nat} {T:TypeId} {cs:Array Value} {l:List Value} (h:∀ C' w',Bun C0 F w0 C' w' (f (MO.box g T l.toArray)) cl→dm Tryz.prog ro n ops Kn Ke Kr rest env w')
  (ho:o.op= .store t x y:=by rfl) (hx:Ev n env x (.pointer (some ⟨g,off,none⟩)):=by exact et) (hy:Ev n env y v:=by exact EV) (hI:Bun C0 F w0 C w os cl:=by exact hI) (ha:At os (MO.box g T cs) f:=by exact PO)
  (hv:v.cells.toList=[v]:=by rfl) (hs:Da t=some 1:=by rfl) (hone:v.oneCell'=true:=by rfl) (hfit:Nat.ble (off+1) cs.size=true:=by rfl) (hl:LL (cs.toList.take off++v::cs.toList.drop (off+1)) l:=by exact WO) (hg:o.guard=none:=by rfl) (hd:o.dst=none:=by rfl):dm Tryz.prog ro n ops Kn Ke Kr (o::rest) env w:=by
 refine ba (new:=[v]) (cs':=l.toArray) hI ha (bA hg) hd ho hx hy hv (pR hs) (by simp[hone]) hfit ?_ h
 rw[← hl.eq];simp
theorem lN {z:Value} {l:List Value} (h:∀ b C' w',Bun C0 F w0 C' w' (MO.box b t l.toArray::os) cl→dm Tryz.prog ro n ops Kn Ke Kr rest ((d,.pointer (some ⟨b,0,none⟩))::env) w')
  (ho:o.op= .alloc t:=by rfl) (hz:zrt t=some z:=by rfl) (hl:LL z.cells.toList l:=by exact WO) (hI:Bun C0 F w0 C w os cl:=by exact hI) (hg:o.guard=none:=by rfl) (hd:o.dst=some d:=by rfl):dm Tryz.prog ro n ops Kn Ke Kr (o::rest) env w:=
 cF hI (bA hg) hd ho (Gl hz) (by rw[← hl.eq]) h
theorem EA {xs:List Operand} {vs:List Value} (h:EvA n env xs vs:=by repeat (first | exact trivial | refine⟨EV,?_⟩)):EvA n env xs vs:=h
theorem EAg {xs:List Operand} {vs:List Value} (h:EvA n env xs vs:=by repeat (first | exact trivial | refine⟨EG,?_⟩)):EvA n env xs vs:=h
theorem sU {g:FuncId} {args:Array Value} {b:Bool} {u:Value} {D:NP} {cl1:List Cl} (hc:b=true→Calls Tryz.prog g args w fun e w'=>e= .returned u∧Ext w w'∧AllCl cl1 D w') (hr:b=true→mN Tryz.prog n env o w (.ok (.enter g args) w)) (h:∀ w',Bun C0 F w0 C w' os cl→dm Tryz.prog ro n ops Kn Ke Kr rest ((d,gv b u)::env) w') (hg:nC n env ops o b:=by exact GD) (hI:Bun C0 F w0 C w os cl:=by exact hI) (hd:o.dst=some d:=by rfl):dm Tryz.prog ro n ops Kn Ke Kr (o::rest) env w:=
 DI hg hd hr (fun hb=>(hc hb).mono fun _ _ k=>⟨k.1,k.2.1⟩) fun w' hx=>h w' (hI.ext hx)
theorem HN {C1 F1 C1':NP} {w':World} {sl' os2:List MO} {cl1 cl2:List Cl} {G:Prop} (hk:∀ (C1':NP) (w':World) (sl':List MO) (cl1:List Cl),Bun C1 F1 w C1' w' sl' cl1→∃ C',Sp (Dj F C) w (Dj F C') w'∧Bun C0 F w0 C' w' (sl'++os) (cl1++cl)) (hB:Bun C1 F1 w C1' w' sl' cl1)
  (h:∀ C',Bun C0 F w0 C' w' os2 cl2→G) (h1:LL (sl'++os) os2:=by exact WO) (h2:LL (cl1++cl) cl2:=by exact WO):G:=by
 obtain⟨C',-,h3⟩:=hk _ _ _ _ hB
 rw[h1.eq,h2.eq]at h3
 exact h C' h3
end
end Go.Vc
namespace Go.Vc
open Go Go.RowKit Go.Proofs
set_option linter.unusedVariables false
set_option maxRecDepth 100000
section
variable {ro:Ro} {n:Fr} {Kn:Act→World→Prop} {Ke:Nat→Act→World→Prop} {Kr:Act→World→Prop} {env:kE} {w w0:World}
variable {ops:Array Oper} {rest:List Oper} {rs:Tr} {fl:Fl} {o:Oper} {v:Value} {i d:Nat} {x y:Operand} {t e:TypeId} {X:List Nat} {md:Bool}
variable {C0 F C D:NP} {os:List MO} {cl:List Cl} {f:MO→List MO} {α:Type} {c:Cod α}
theorem lS {g off:Nat} {T:TypeId} {cs:Array Value} {l:List Value} (h:∀ C' w',Bun C0 F w0 C' w' (f (MO.box g T l.toArray)) cl→dm Tryz.prog ro n ops Kn Ke Kr rest env w')
  (ho:o.op= .store t x y:=by rfl) (hx:Ev n env x (.pointer (some ⟨g,off,none⟩)):=by exact et) (hy:Ev n env y v:=by exact EV) (hI:Bun C0 F w0 C w os cl:=by exact hI) (ha:At os (MO.box g T cs) f:=by exact PO)
  (hv:v.cells.toList=[v]:=by rfl) (hs:Da t=some 1:=by rfl) (hone:v.oneCell'=true:=by rfl) (hfit:Nat.ble (off+1) cs.size=true:=by rfl) (hl:LL (cs.toList.take off++v::cs.toList.drop (off+1)) l:=by exact WO) (hg:o.guard=none:=by rfl) (hd:o.dst=none:=by rfl):dm Tryz.prog ro n ops Kn Ke Kr (o::rest) env w:=
 l1 h ho hx hy hI ha hv hs hone hfit hl hg hd
theorem vA {g:Nat} {T:TypeId} {cs cs':Array Value} (h:∀ C' w',Bun C0 F w0 C' w' (f (MO.box g T cs')) cl→db Tryz.prog ro n ops Kn Ke Kr (SN [] (Dj F C') w') rs env w')
  (hi:um ops.toList i=some o:=by rfl) (ho:o.op= .store t x y:=by rfl) (hx:Ev n env x (.pointer (some ⟨g,0,none⟩)):=by exact et) (hy:Ev n env y v:=by exact EV) (hv:Ir v=some cs':=by rfl) (hI:Bun C0 F w0 C w os cl:=by exact hI) (ha:At os (MO.box g T cs) f:=by exact PO)
  (hs:Da t=some cs'.toList.length:=by rfl) (hone:cs'.toList.all (·.oneCell')=true:=by rfl) (hfit:cs'.toList.length=cs.toList.length:=by rfl) (hg:o.guard=none:=by rfl) (hd:o.dst=none:=by rfl) (hfl:fl.solo=true:=by rfl):db Tryz.prog ro n ops Kn Ke Kr (SN [] (DM true F C) w) (.c (i,fl) rs) env w:=by
 have e:=Bz hv;subst e
 refine oJ (hfl:=hfl) (new:=cs'.toList) (cs':=cs') hI ha (mK hi) (bA hg) hd ho hx hy rfl (pR hs) hone ?_ ?_ h
 ·apply Nat.ble_eq_true_of_le;rw[hfit,Nat.zero_add];simp
 ·rw[List.take_zero,List.nil_append,Nat.zero_add,hfit,List.drop_length,List.append_nil]
theorem vS {g off:Nat} {T:TypeId} {cs:Array Value} {l:List Value} (h:∀ C' w',Bun C0 F w0 C' w' (f (MO.box g T l.toArray)) cl→db Tryz.prog ro n ops Kn Ke Kr (SN [] (Dj F C') w') rs env w')
  (hi:um ops.toList i=some o:=by rfl) (ho:o.op= .store t x y:=by rfl) (hx:Ev n env x (.pointer (some ⟨g,off,none⟩)):=by exact et) (hy:Ev n env y v:=by exact EV) (hI:Bun C0 F w0 C w os cl:=by exact hI) (ha:At os (MO.box g T cs) f:=by exact PO)
  (hv:v.cells.toList=[v]:=by rfl) (hs:Da t=some 1:=by rfl) (hone:v.oneCell'=true:=by rfl) (hfit:Nat.ble (off+1) cs.size=true:=by rfl) (hl:LL (cs.toList.take off++v::cs.toList.drop (off+1)) l:=by exact WO) (hg:o.guard=none:=by rfl) (hd:o.dst=none:=by rfl) (hfl:fl.solo=true:=by rfl):db Tryz.prog ro n ops Kn Ke Kr (SN [] (DM true F C) w) (.c (i,fl) rs) env w:=by
 refine oJ (hfl:=hfl) (new:=[v]) (cs':=l.toArray) hI ha (mK hi) (bA hg) hd ho hx hy hv (pR hs) (by simp[hone]) hfit ?_ h
 rw[← hl.eq];simp
theorem EvL.nl:EvL n env [] []:=trivial
theorem EvL.cs {j:Nat} {ps:List (Nat×Operand)} {vs:List (Nat×Value)} (h:Ev n env x v) (k:EvL n env ps vs):EvL n env ((j,x)::ps) ((j,v)::vs):=⟨rfl,h,k⟩
theorem EE {ps:List (Nat×Operand)} {vs:List (Nat×Value)} (h:EvL n env ps vs:=by repeat (first | exact EvL.nl | apply EvL.cs EV)):EvL n env ps vs:=h
theorem Rels.nl:Rels c D w [] []:=trivial
theorem Rels.cs {a:α} {xs:List α} {cs:List Value} {css:List (List Value)} (h:c.rel D w a cs) (k:Rels c D w xs css):Rels c D w (a::xs) (cs::css):=⟨h,k⟩
theorem Rr {xs:List α} {css:List (List Value)} (h:Rels c D w xs css:=by repeat (first | exact Rels.nl | apply Rels.cs rfl)):Rels c D w xs css:=h
theorem ll {bytes len:Nat} {zv:Value} {ps:List (Nat×Operand)} {vs:List (Nat×Value)} {css:List (List Value)} (hI:Bun C0 F w0 C w os cl) (c:Cod α) (xs:List α) (hi:rg Tryz.prog e c.n bytes zv) (hr:Rels c (Dj F C) w xs css)
  (h:∀ b C' w',Bun C0 F w0 C' w' (MO.row c e (some ⟨b,0,none⟩) len xs::os) cl→dm Tryz.prog ro n ops Kn Ke Kr rest ((d,.slice (some ⟨b,0,none⟩) xs.length len)::env) w')
  (ho:o.op= .buildSlice t len ps.toArray:=by rfl) (ht:yf t=some (.slice e):=by rfl) (hp:EvL n env ps vs:=by exact EE)
  (hlen:Nat.ble (len * c.n) 16777216=true:=by rfl) (hf:Instr.fill (fun i=>some (i * c.n,c.n)) ((Array.range (len * c.n)).map (fun i=>(if len * c.n=0 then #[]else zv.cells)[i % (if len * c.n=0 then #[]else zv.cells).size]!)) vs=some css.flatten.toArray:=by kernel_rfl)
  (hx:xs.length=len:=by rfl) (hl2:Nat.ble len 4294967296=true:=by rfl) (hg:o.guard=none:=by rfl) (hd:o.dst=some d:=by rfl):dm Tryz.prog ro n ops Kn Ke Kr (o::rest) env w:=
 Gb hI (bA hg) hd ho (jU ht) hi hlen hp hf hr hx rfl hl2 h
theorem vl {bytes len:Nat} {zv:Value} {ps:List (Nat×Operand)} {vs:List (Nat×Value)} {css:List (List Value)} (hI:Bun C0 F w0 C w os cl) (c:Cod α) (xs:List α) (hi:rg Tryz.prog e c.n bytes zv) (hr:Rels c (Dj F C) w xs css)
  (h:∀ b C' w',Bun C0 F w0 C' w' (MO.row c e (some ⟨b,0,none⟩) len xs::os) cl→db Tryz.prog ro n ops Kn Ke Kr (SN X (DM md F C') w') rs ((d,.slice (some ⟨b,0,none⟩) xs.length len)::env) w')
  (hix:um ops.toList i=some o:=by rfl) (ho:o.op= .buildSlice t len ps.toArray:=by rfl) (ht:yf t=some (.slice e):=by rfl) (hp:EvL n env ps vs:=by exact EE)
  (hlen:Nat.ble (len * c.n) 16777216=true:=by rfl) (hf:Instr.fill (fun i=>some (i * c.n,c.n)) ((Array.range (len * c.n)).map (fun i=>(if len * c.n=0 then #[]else zv.cells)[i % (if len * c.n=0 then #[]else zv.cells).size]!)) vs=some css.flatten.toArray:=by kernel_rfl)
  (hx:xs.length=len:=by rfl) (hl2:Nat.ble len 4294967296=true:=by rfl) (hg:o.guard=none:=by rfl) (hd:o.dst=some d:=by rfl) (hX:X.contains i=false:=by rfl) (hfl:fl.solo=true:=by rfl):db Tryz.prog ro n ops Kn Ke Kr (SN X (DM md F C) w) (.c (i,fl) rs) env w:=
 Hl (hfl:=hfl) (hX:=hX) hI (mK hix) (bA hg) hd ho (jU ht) hi hlen hp hf hr hx rfl hl2 h
theorem Rc {fg:Nat} {fn:Func} {vs:List Value} {xs:List Operand} {ts:Array TypeId} (h:Tryz.prog.funcs[fg]? =some fn) (ho:o.op= .call { callee:= .value (.func fg),args:=xs.toArray,argTypes:=ts } :=by rfl) (hx:EvA n env xs vs:=by exact EA) (h2:(fn.name== "runtime.NumGoroutine")=false:=by kernel_rfl) (h3:fn.body.isNone=false:=by kernel_rfl):mN Tryz.prog n env o w (.ok (.enter fg vs.toArray) w):=aF ho ⟨fn,h,h2,h3⟩ hx
theorem Rg {fg:Nat} {fn:Func} {vs:List Value} {xs:List Operand} {ts:Array TypeId} {b:Bool} (h:Tryz.prog.funcs[fg]? =some fn) (ho:o.op= .call { callee:= .value (.func fg),args:=xs.toArray,argTypes:=ts } :=by rfl) (hx:b=true→EvA n env xs vs:=by exact fun hc=>EAg) (h2:(fn.name== "runtime.NumGoroutine")=false:=by kernel_rfl) (h3:fn.body.isNone=false:=by kernel_rfl):b=true→mN Tryz.prog n env o w (.ok (.enter fg vs.toArray) w):=fun hc=>aF ho ⟨fn,h,h2,h3⟩ (hx hc)
theorem EN {g:FuncId} {fn:Func} {cd:Code} {l:List Value} {m:Nat} {K:Ending→World→Prop} (hf:Tryz.prog.funcs[g]? =some fn) (hn:fn.ntmps=m) (hF:∀ k,F k→k<w.heap.size) (hc:AllCl cl F w)
  (h:Bun du F w du w [] cl→gG Tryz.prog .plain ⟨m,[]⟩ cd (uV Tryz.prog fn fun v w=>K (.returned v) w) (fun _ _ _=>False) (uV Tryz.prog fn fun v w=>K (.returned v) w) (rf 0 l) w) (hb:fn.body=some cd:=by rfl) (hl:Nat.ble l.length m=true:=by rfl):Calls Tryz.prog g l.toArray w K:=
 oN hf hb hn hl (h (Bun.start hF hc))
theorem lX {cs:Array Value} (h:∀ b C' w',Bun C0 F w0 C' w' os (Cl.blk b t cs::cl)→dm Tryz.prog ro n ops Kn Ke Kr rest ((d,.pointer (some ⟨b,0,none⟩))::env) w') (ho:o.op= .box t x:=by rfl) (hx:Ev n env x v:=by exact et) (hv:Ir v=some cs:=by rfl) (hI:Bun C0 F w0 C w os cl:=by exact hI) (hg:o.guard=none:=by rfl) (hd:o.dst=some d:=by rfl):dm Tryz.prog ro n ops Kn Ke Kr (o::rest) env w:=by
 have e:=Bz hv;subst e
 refine mS hI (bA hg) hd ho hx rfl fun b C' w' hI2=> ?_
 obtain⟨C2,h3⟩:=hI2.relBox .z
 exact h _ _ _ h3
theorem Bun.ads {A:Option Addr} {cap:Nat} {xs:List α} (h:Bun C0 F w0 C w os cl) (hf:SlC c (Dj F C) w A cap xs):Bun C0 F w0 C w os (Cl.sl c A cap xs::cl):=h.add hf
theorem TR {G G2:Prop} (h2:G2) (t:Wr G2→G:=by
 intro h2_
 (try refine T ?_)
 (try refine nk ?_)
 refine Io h et ?_ h2_.out
 intro hb h
 exact RF):G:=t ⟨h2⟩
theorem sB {β γ:Type} {m:Option β} {k:β→Option γ} {r:γ} {g:FuncId} {args:Array Value} {u:β→Value} {D:β→NP} {cl1:β→List Cl} (hh:m.bind k=some r) (hc:∀ q,m=some q→Calls Tryz.prog g args w fun e w'=>e= .returned (u q)∧Ext w w'∧AllCl (cl1 q) (D q) w') (hr:mN Tryz.prog n env o w (.ok (.enter g args) w)) (h:∀ q w',k q=some r→Bun C0 F w0 C w' os cl→dm Tryz.prog ro n ops Kn Ke Kr rest ((d,u q)::env) w') (hI:Bun C0 F w0 C w os cl:=by exact hI) (hg:o.guard=none:=by rfl) (hd:o.dst=some d:=by rfl):dm Tryz.prog ro n ops Kn Ke Kr (o::rest) env w:=by
 obtain⟨q,h1,h2⟩:=ae hh
 exact aB (bA hg) hd hr ((hc q h1).mono fun _ _ z=>⟨u q,z.1,h q _ h2 (hI.ext z.2.1)⟩)
end
end Go.Vc
