import Derived.Test.YtmhoikfoogemnaaGreatDoorGLfS
import Derived.MapKept
import Derived.Laws.IdiomStrings
import Derived.RecoverIn
import Derived.Test.YtmhoikfoogemnaaGreatDoorProg
import Derived.KernelRfl
import Derived.Lib.ParseIntB
import Derived.Lib.AtoiErrMem
import Derived.Lib.Bytealg
import Derived.Shelf.Strings.Fields
namespace Go.Vc
open Go Go.RowKit
structure KC (κ:Type) [DecidableEq κ] where
 enc:κ→Value
 d:TypeDesc
 key:∀ a,MapKept.IsKey d (enc a)
 same:∀ a b,Instr.sameNow d (enc a) (enc b)=some (decide (a=b))
 bits:∀ a,Instr.sameBits 10000 (enc a) (enc a)=true
section
variable {κ β:Type} [DecidableEq κ]
end
section
variable {κ β:Type} [DecidableEq κ] {kc:KC κ} {ev:β→Value} {m:List (κ×β)}
variable {P:Program} {ro:Ro} {n:Fr} {Kn:Act→World→Prop} {Ke:Nat→Act→World→Prop} {Kr:Act→World→Prop} {env:lw} {w:World}
variable {ops:Array Oper} {rest:List Oper} {rs:Tr} {fl:Fl} {o:Oper} {i d:Nat} {v:Value} {x y z:Operand} {t kt et:TypeId} {md:Bool} {X:List Nat}
variable {C0 F C:NP} {w0:World} {os:List MO} {cl:List Cl} {f:MO→List MO} {b:Nat}
end
end Go.Vc
namespace Go.Vc
open Go Go.RowKit
section
variable {P:Program} {ro:Ro} {n:Fr} {Kn:Act→World→Prop} {Ke:Nat→Act→World→Prop} {Kr:Act→World→Prop} {env:lw} {w:World}
variable {ops:Array Oper} {rest:List Oper} {rs:Tr} {fl:Fl} {o:Oper} {i d:Nat} {v:Value} {x y z:Operand} {t t' e:TypeId} {md:Bool} {X:List Nat}
variable {C0 F C:NP} {w0:World} {os os':List MO} {cl:List Cl} {f:MO→List MO} {b N:Nat} {T:TypeId} {α:Type} {enc:α→Value} {xs ys:List α} {c:Cod α} {A A2:Option Addr}
theorem Cm {D:NP} (hc:∀ D w u,c.rel D w u [enc u]):∀ xs:List α,Rels c D w xs (xs.map λu=>[enc u])
 | []=>trivial
 | _ ::r=>⟨hc _ _ _,Cm hc r⟩
theorem CK:∀ xs:List α,(xs.map λu=>[enc u]).flatten=xs.map enc
 | []=>rfl
 | u::r=>by simp[CK r]
end
end Go.Vc
namespace Go.Vc
open Go Go.RowKit
section
variable {P:Program} {ro:Ro} {n:Fr} {Kn:Act→World→Prop} {Ke:Nat→Act→World→Prop} {Kr:Act→World→Prop} {env:lw} {w:World}
variable {ops:Array Oper} {o:Oper} {i d:Nat} {v:Value} {S:Sn} {rest:Tr}
theorem HF {S2:World→Prop} (hx:S.x.contains i=true) (hw:S2 w) (hin:Nat.blt i ops.size=true) (h:dw P ro n ops Kn Ke Kr ⟨[],S2⟩ (.c (i,.t) rest) env w):dw P ro n ops Kn Ke Kr S (.c (i,.t) rest) env w:=λa listed h1 h2 _ ha _=>by
 have h4:uj P ro.r ops (vc ro Kn Ke Kr) i (λa' w'=>Sn.f ⟨[],S2⟩ (listed.setIfInBounds i true) w'∧Any P ro.r ops (vc ro Kn Ke Kr) (Sn.f ⟨[],S2⟩) rest.len (listed.setIfInBounds i true) a' w') a w:=h a listed h1 h2 rfl ha hw
 show uj P ro.r ops (vc ro Kn Ke Kr) i (λa' w'=>S.f (listed.setIfInBounds i true) w'∧Any P ro.r ops (vc ro Kn Ke Kr) S.f rest.len (listed.setIfInBounds i true) a' w') a w
 simp only[eD,Bool.and_eq_true]at h2
 have hj:i∈Region.ready .any ops listed:=by simpa using h2.1.1
 have hun:=(mem_ready.1 hj).1
 have hlt:i<listed.size:=by
  rcases Nat.lt_or_ge i listed.size with h' | h'
  ·exact h'
  ·simp[Array.getElem?_eq_none h']at hun
 have _:=hin
 refine wpOpIn_mono (λa' w' ⟨_,h5⟩=>?_) h4
 have hmem:i∈S.x:=by simpa using hx
 have key:∀ l:Array Bool,l.getD i false=true→∀ w,¬ S.free l∨S.f l w:=λl hl w=> .inl λhfr=>by
  unfold Sn.free at hfr
  rw[List.any_eq_false]at hfr
  exact hfr i hmem hl
 have hset:(listed.setIfInBounds i true).getD i false=true:=by simp[hlt]
 refine⟨λhfr=>absurd hfr ((key _ hset w').elim id λh6=>λhfr=>by unfold Sn.free at hfr;rw[List.any_eq_false]at hfr;exact hfr i hmem hset),?_⟩
 refine BM (λl=>l.getD i false=true) (λl i' hl=>?_) (λl w hl _ hfr=>?_) _ _ _ _ hset h5
 ·by_cases e:i'=i
  ·subst e
   have:i'<l.size:=by
    rcases Nat.lt_or_ge i' l.size with h' | h'
    ·exact h'
    ·simp[Array.getElem?_eq_none h']at hl
   simp[this]
  ·simp only[Array.getD_eq_getD_getElem?]at hl ⊢
   rw[Array.getElem?_setIfInBounds_ne e];exact hl
 ·unfold Sn.free at hfr;rw[List.any_eq_false]at hfr;exact absurd hl (hfr i hmem)
theorem bB {F C D:NP} {X:List Nat} (hx:X.contains i=true) (hin:Nat.blt i ops.size=true) (h:dw P ro n ops Kn Ke Kr (SN [] (DM true F C) w) (.c (i,.t) rest) env w):dw P ro n ops Kn Ke Kr (SN X D w) (.c (i,.t) rest) env w:=
 HF (S:=SN X D w) (S2:=SX (DM true F C) w) hx LW hin h
end
section
variable {P:Program} {ro:Ro} {n:Fr} {Kn:Act→World→Prop} {Ke:Nat→Act→World→Prop} {Kr:Act→World→Prop} {env:lw} {w:World}
variable {ops:Array Oper} {rest:List Oper} {rs:Tr} {fl:Fl} {o:Oper} {i d:Nat} {v u:Value} {x y z:Operand} {t t' e:TypeId} {md:Bool} {X:List Nat}
variable {C0 F C:NP} {w0:World} {os:List MO} {cl:List Cl} {f:MO→List MO} {α:Type} {c:Cod α} {A A2:Option Addr} {xs ys:List α}
theorem GA {β:Type} [Inhabited β] {g:FuncId} {args:Array Value} {b:Bool} (V:β→Value) (Ψ:β→World→Prop) (hg:oU n env ops o b) (hd:o.dst=some d) (hr:b=true→nY P n env o w (.ok (.enter g args) w))
  (hc:b=true→Calls P g args w λe w'=>∃ x,e= .returned (V x)∧Ext w w'∧Ψ x w')
  (h:∀ x w',Ext w w'→(b=true→Ψ x w')→dM P ro n ops Kn Ke Kr rest ((d,gv b (V x))::env) w'):dM P ro n ops Kn Ke Kr (o::rest) env w:=
 AE (λu w'=>∃ x,u=V x∧Ext w w'∧Ψ x w') hg hd hr (λhb=>(hc hb).mono λe w' ⟨x,h1,h2⟩=>⟨V x,h1,x,rfl,h2⟩) λu w' h1 h2=>by
  cases b with
  | true=>obtain⟨x,rfl,hx,hp⟩:=h1 rfl;exact h x w' hx λ_=>hp
  | false=>rw[h2 rfl];exact h default w .rfl' λhb=>by cases hb
end
end Go.Vc
namespace Go.Vc
open Go Go.RowKit
abbrev vi (x:Int):Value:= .int .i64 x
abbrev vs (A:Option Addr) (n c:Nat):Value:= .slice A n c
abbrev vb (b:Bool):Value:= .bool b
abbrev vp (b k:Nat):Value:= .pointer (some ⟨b,k,none⟩)
section
variable {P:Program} {ro:Ro} {n:Fr} {Kn:Act→World→Prop} {Ke:Nat→Act→World→Prop} {Kr:Act→World→Prop} {env:lw} {w:World}
variable {ops:Array Oper} {rest:List Oper} {rs:Tr} {fl:Fl} {o:Oper} {i d t:Nat} {v:Value} {S:Sn}
theorem et (h:look env t=some v:=by rfl) (ht:Nat.blt t n.n=true:=by rfl):Ev n env (.tmp t) v:=aR h ht
theorem gn {ops:Array Oper} (hg:o.guard=none:=by rfl):oU n env ops o true:=bQ hg
theorem sq (hr:iE P n env o v w) (h:dM P ro n ops Kn Ke Kr rest ((d,v)::env) w) (hg:o.guard=none:=by rfl) (hd:o.dst=some d:=by rfl):dM P ro n ops Kn Ke Kr (o::rest) env w:=Dk (bQ hg) hd hr h
theorem pR {f:FuncId} {fn:Func} {c:Code} {l:List Value} {m:Nat} {K:Ending→World→Prop} (hf:P.funcs[f]? =some fn) (hb:fn.body=some c) (hn:fn.ntmps=m) (hl:Nat.ble l.length m=true)
  (h:im P .plain ⟨m,[]⟩ c (xw P fn λv w=>K (.returned v) w) (λ_ _ _=>False) (xw P fn λv w=>K (.returned v) w) (tP 0 l) w):Calls P f l.toArray w K:=
 Ij (enter hf hb hn hl h) λ_ _ h=>h
theorem bh {c:Code} (h:im P ro n c Kn Ke Kr env w):∀ a,Has n a env→Code.wpIn (FW ro.r) 0 P c (vc ro Kn Ke Kr) a w:=λa ha=>h a ha
variable {ops':Array Oper} {Kn':Act→World→Prop} {Ke':Nat→Act→World→Prop} {Kr':Act→World→Prop}
theorem nk {c:Code} (h:im P ro n c Kn' Ke' Kr' env w):dM P ro n ops (λa w=>Code.wpIn (FW ro.r) 0 P c (vc ro Kn' Ke' Kr') a w) Ke Kr [] env w:=aO (bh h)
theorem sr {y:Code} {id:Nat} {l:List Oper} (h:dM P ro n l.toArray (λa w=>Code.wpIn (FW ro.r) 0 P y (vc ro Kn Ke Kr) a w) Ke Kr l env w) (hn:l.all hO=true:=by rfl):im P ro n (.seq (.region id l.toArray false) y) Kn Ke Kr env w:=al (jX hn h)
theorem sm (h:dM P ro n ops Kn Ke Kr rest ((d,v)::env) w) (ho:o.op= .move (.tmp t):=by rfl) (hl:look env t=some v:=by rfl) (ht:Nat.blt t n.n=true:=by rfl) (hg:o.guard=none:=by rfl) (hd:o.dst=some d:=by rfl):dM P ro n ops Kn Ke Kr (o::rest) env w:=Dk (bQ hg) hd (gp ho (aR hl ht)) h
theorem sa (h:dM P ro n ops Kn Ke Kr rest ((d,v)::env) w) (ho:o.op= .assign (.tmp t):=by rfl) (hl:look env t=some v:=by rfl) (ht:Nat.blt t n.n=true:=by rfl) (hg:o.guard=none:=by rfl) (hd:o.dst=some d:=by rfl):dM P ro n ops Kn Ke Kr (o::rest) env w:=Dk (bQ hg) hd (cP ho (aR hl ht)) h
theorem tV {v:Value} (h:dM P ro n ops Kn Ke Kr rest ((d,v)::env) w) (ho:o.op= .assign (.const v):=by rfl) (hg:o.guard=none:=by rfl) (hd:o.dst=some d:=by rfl):dM P ro n ops Kn Ke Kr (o::rest) env w:=Dk (bQ hg) hd (cP ho ao) h
end
section
variable {α:Type} {c:Cod α} {e:TypeId} {A:Option Addr} {m cap:Nat} {xs:List α} {C0 F C:NP} {w0 w:World} {os:List MO} {cl:List Cl} {f:MO→List MO}
variable {P:Program} {ro:Ro} {n:Fr} {Kn:Act→World→Prop} {Ke:Nat→Act→World→Prop} {Kr:Act→World→Prop} {env:lw}
variable {ops:Array Oper} {rs:Tr} {fl:Fl} {o:Oper} {i d t te:Nat} {v u:Value} {x fx:Operand} {ys:List Operand} {args:List Value} {ts:Array TypeId} {X:List Nat} {md:Bool}
end
section
variable {C0 F C C':NP} {w0 w w':World} {os os':List MO} {cl cl':List Cl}
theorem Bun.restart (h:Bun C0 F w0 C w os cl):Bun C F w C w os cl:=⟨⟨rfl,rfl,rfl,Nat.le_refl _,λk _ hn=>⟨rfl,hn⟩,h.st.lt⟩,h.mo,h.cl,h.dj,h.fl⟩
theorem Bun.back (h:Bun C0 F w0 C w os cl) (k:Bun C F w C' w' os' cl'):Sp (Dj F C) w (Dj F C') w'∧Bun C0 F w0 C' w' os' cl':=
 ⟨⟨k.st.size,λi hi hn=>⟨(k.st.keep i hi λhc=>hn (.inr hc)).1,λhd=>hd.elim (λhf=>hn (.inl hf)) λhc=>(k.st.keep i hi λhc=>hn (.inr hc)).2 hc⟩⟩,
  ⟨k.st.os.trans h.st.os,k.st.tape.trans h.st.tape,k.st.output.trans h.st.output,Nat.le_trans h.st.size k.st.size,λi hi hn=>have a:=h.st.keep i hi hn;have b:=k.st.keep i (Nat.lt_of_lt_of_le hi h.st.size) a.2;⟨b.1.trans a.1,b.2⟩,k.st.lt⟩,k.mo,k.cl,k.dj,k.fl⟩
variable {P:Program} {ro:Ro} {n:Fr} {Kn:Act→World→Prop} {Ke:Nat→Act→World→Prop} {Kr:Act→World→Prop} {env:lw} {ops:Array Oper} {rs:Tr} {X:List Nat} {md:Bool}
theorem Kv (hs:Sp (Dj F C) w (Dj F C') w) (h:dw P ro n ops Kn Ke Kr (SN X (DM md F C') w) rs env w):dw P ro n ops Kn Ke Kr (SN X (DM md F C) w) rs env w:=by
 cases md
 ·exact h
 ·exact zW hs h
end
end Go.Vc
namespace Go.Vc
open Go Go.RowKit
def Cod.bot (α:Type) (n:Nat):Cod α where
 n:=n
 rel _ _ _ _:=False
 len h:=h.elim
 one h:=h.elim
 sp _ h:=h
def F0 {α:Type} (S:Cod α→Cod α) (n:Nat):Nat→Cod α
 | 0=>Cod.bot α n
 | k+1=>S (F0 S n k)
def Cod.fix {α:Type} (S:Cod α→Cod α) (n:Nat) (hn:∀ c,(S c).n=n):Cod α where
 n:=n
 rel D w x cs:=∃ k,(F0 S n k).rel D w x cs
 len h:=by
  obtain⟨k,h⟩:=h
  cases k with
  | zero=>exact False.elim h
  | succ k=>exact((F0 S n (k+1)).len h).trans (hn _)
 one h:=by obtain⟨k,h⟩:=h;exact(F0 S n k).one h
 sp hs h:=by obtain⟨k,h⟩:=h;exact⟨k,(F0 S n k).sp hs h⟩
section
variable {α:Type} {c c':Cod α} {D:NP} {w:World} {A:Option Addr} {cap:Nat} {xs:List α} {S:Cod α→Cod α} {n:Nat}
theorem Rels.mono (hm:∀ D w x cs,c.rel D w x cs→c'.rel D w x cs):∀ {xs:List α} {css:List (List Value)},Rels c D w xs css→Rels c' D w xs css
 | [],[],h=>h
 | [],_ :: _,h=>h.elim
 | _ :: _,[],h=>h.elim
 | _ :: _,_ :: _,h=>⟨hm _ _ _ _ h.1,Rels.mono hm h.2⟩
theorem SlC.mono (h:SlC c D w A cap xs) (hm:∀ D w x cs,c.rel D w x cs→c'.rel D w x cs):SlC c' D w A cap xs:=
 ⟨h.1,λhn=>let ⟨ad,h1,h2,h3,css,h4,h5⟩:=h.2 hn;⟨ad,h1,h2,h3,css,h4.mono hm,h5⟩⟩
theorem Hi (hS:∀ {c c':Cod α},(∀ D w x cs,c.rel D w x cs→c'.rel D w x cs)→∀ D w x cs,(S c).rel D w x cs→(S c').rel D w x cs) (k:Nat):∀ D w x cs,(F0 S n k).rel D w x cs→(F0 S n (k+1)).rel D w x cs:=by
 induction k with
 | zero=>exact λ_ _ _ _ h=>False.elim h
 | succ k ih=>exact hS ih
theorem CB (hS:∀ {c c':Cod α},(∀ D w x cs,c.rel D w x cs→c'.rel D w x cs)→∀ D w x cs,(S c).rel D w x cs→(S c').rel D w x cs) {k m:Nat} (h:k≤m):∀ D w x cs,(F0 S n k).rel D w x cs→(F0 S n m).rel D w x cs:=by
 induction h with
 | refl=>exact λ_ _ _ _ h=>h
 | step _ ih=>exact λD w x cs h=>Hi hS _ D w x cs (ih D w x cs h)
theorem Rels.fix_out {hn:∀ c,(S c).n=n} (hS:∀ {c c':Cod α},(∀ D w x cs,c.rel D w x cs→c'.rel D w x cs)→∀ D w x cs,(S c).rel D w x cs→(S c').rel D w x cs):∀ {xs:List α} {css:List (List Value)},Rels (Cod.fix S n hn) D w xs css→∃ k,Rels (F0 S n k) D w xs css
 | [],[],_=>⟨0,ah⟩
 | [],_ :: _,h=>h.elim
 | _ :: _,[],h=>h.elim
 | _ :: _,_ :: _,h=>by
  obtain⟨⟨k,h1⟩,h2⟩:=h
  obtain⟨m,h3⟩:=Rels.fix_out hS h2
  exact⟨max k m,CB hS (Nat.le_max_left ..) _ _ _ _ h1,h3.mono (CB hS (Nat.le_max_right ..))⟩
theorem SlC.fix_out {hn:∀ c,(S c).n=n} (h:SlC (Cod.fix S n hn) D w A cap xs) (hS:∀ {c c':Cod α},(∀ D w x cs,c.rel D w x cs→c'.rel D w x cs)→∀ D w x cs,(S c).rel D w x cs→(S c').rel D w x cs):∃ k,SlC (F0 S n k) D w A cap xs:=by
 rcases Nat.eq_zero_or_pos xs.length with h0 | h0
 ·exact⟨0,h.1,λhn=>by omega⟩
 ·obtain⟨ad,h1,h2,h3,css,h4,h5⟩:=h.2 h0
  obtain⟨k,h6⟩:=h4.fix_out hS
  exact⟨k,h.1,λ_=>⟨ad,h1,h2,h3,css,h6,h5⟩⟩
end
section
variable {P:Program} {ro:Ro} {n:Fr} {Kn:Act→World→Prop} {Ke:Nat→Act→World→Prop} {Kr:Act→World→Prop} {env:lw} {w:World}
variable {ops:Array Oper} {rest:List Oper} {o:Oper} {i d:Nat} {v u:Value} {x y:Operand} {t t' e:TypeId}
theorem pA {f:FuncId} {ys:List Operand} {vs:List Value} {xs:Array Operand} (ho:o.op= .makeFunc (.func f) ys.toArray xs) (hx0:xs= #[]) (hys:EvA n env ys vs):iE P n env o (.func (.func f) vs.toArray #[]) w:=λa ha=>by
 subst hx0
 simp[execOp,ho,hys.map ha,Instr.makeFunc]
end
end Go.Vc
namespace Go.Vc
open Go Go.RowKit Go.WideShapes
abbrev okW {α:Type} (ok:α→Prop) (xs:List α):Prop:=(∀ x∈xs,ok x)∧xs.length≤140737488355328
section
variable {P:Program} {t e:TypeId} {α:Type} {c:Cod α} {ok:α→Prop} {sz:α→Nat} {N:Nat}
end
end Go.Vc
namespace Go.Vc
open Go Go.RowKit
inductive bL (α:Type) where
 | ret (x:α)
 | pan (a b:Int)
def pb {α β:Type} (m:Option (bL α)) (k:α→Option (bL β)):Option (bL β):=
 match m with
 | none=>none
 | some (.pan a b)=>some (.pan a b)
 | some (.ret x)=>k x
theorem eU {α β:Type} {m:Option (bL α)} {k:α→Option (bL β)} {r:bL β} (h:pb m k=some r):(∃ x,m=some (.ret x)∧k x=some r)∨∃ a b,m=some (.pan a b)∧r= .pan a b:=by
 cases m with
 | none=>cases h
 | some q=>cases q with
  | ret x=>exact .inl ⟨x,rfl,h⟩
  | pan a b=>exact .inr ⟨a,b,rfl,(Option.some.inj h).symm⟩
theorem cV {α:Type} {x:α} {A:α→Prop} {B:Int→Int→Prop} (h:(∃ y,bL.ret x= .ret y∧A y)∨∃ a b,(bL.ret x:bL α)= .pan a b∧B a b):A x:=by
 rcases h with⟨y,h1,h2⟩ | ⟨a,b,h1,_⟩
 ·injection h1 with h1;exact h1▸h2
 ·cases h1
theorem cW {α:Type} {a b:Int} {A:α→Prop} {B:Int→Int→Prop} (h:(∃ y,(bL.pan a b:bL α)= .ret y∧A y)∨∃ c d,(bL.pan a b:bL α)= .pan c d∧B c d):B a b:=by
 rcases h with⟨y,h1,_⟩ | ⟨c,d,h1,h2⟩
 ·cases h1
 ·injection h1 with h1 h3;exact h1▸h3▸h2
def I6 {α:Type} (c:Bool) (m:Option α) (z:α):Option α:=if c=true then m else some z
theorem Lp {α:Type} {c:Bool} {m:Option α} {z r:α} (hc:c=true) (h:I6 c m z=some r):m=some r:=by unfold I6 at h;rwa [if_pos hc]at h
theorem Lq {α:Type} {c:Bool} {m:Option α} {z r:α} (hc:c=false) (h:I6 c m z=some r):z=r:=by unfold I6 at h;rw[if_neg (by simp[hc])]at h;exact Option.some.inj h
def yb {α β:Type} (m:Option (bL α)) (k:α→Option β) (k2:Int→Int→Option β):Option β:=
 match m with
 | none=>none
 | some (.ret x)=>k x
 | some (.pan a b)=>if b≠0 then k2 a b else none
theorem th {α β:Type} {m:Option (bL α)} {k:α→Option β} {k2:Int→Int→Option β} {r:β} (h:yb m k k2=some r):(∃ x,m=some (.ret x)∧k x=some r)∨∃ a b,m=some (.pan a b)∧b≠0∧k2 a b=some r:=by
 cases m with
 | none=>cases h
 | some q=>cases q with
  | ret x=>exact .inl ⟨x,rfl,h⟩
  | pan a b=>
   have h':(if b≠0 then k2 a b else none)=some r:=h
   by_cases hb:b≠0
   ·rw[if_pos hb]at h';exact .inr ⟨a,b,rfl,hb,h'⟩
   ·rw[if_neg hb]at h';cases h'
abbrev pe (t:TypeId) (a b:Int):PanicEntry:= { v:= .iface t (.agg #[.int .i64 a,.int .i64 b]),recovered:=false }
section
variable {P:Program} {ro:Ro} {n:Fr} {Kn:Act→World→Prop} {Ke:Nat→Act→World→Prop} {Kr:Act→World→Prop} {env:lw} {w:World}
variable {ops:Array Oper} {rest:List Oper} {o:Oper} {i d:Nat} {v:Value} {x:Operand}
theorem Bi (hn:n.ds=[]) {a:Act} (ha:Has n a env):a.defers=[]:=by rw[ha.df,hn];rfl
theorem fJ {f:FuncId} {fn:Func} {c:Code} {l:List Value} {m:Nat} {K:Ending→World→Prop} (hf:P.funcs[f]? =some fn) (hb:fn.body=some c) (hn:fn.ntmps=m) (hl:Nat.ble l.length m=true)
  (h:im P (.pan K) ⟨m,[]⟩ c (xw P fn λv w=>K (.returned v) w) (λ_ _ _=>False) (xw P fn λv w=>K (.returned v) w) (tP 0 l) w):Calls P f l.toArray w K:=by
 refine(callsIn_wide (n:=0)).1 (callsIn_of_wp_marks hf hb ah ?_)
 subst hn
 refine wpIn_mono (h _ (CF hl)) λe a w q=>?_
 cases e with
 | normal=>obtain⟨ds,w',h1,h2,v,h3,h4⟩:=q;show LeavesInM _ _ _ _ _ _ _ _ _;rw[h1];exact og h3 h4 ds w h2
 | ret=>obtain⟨ds,w',h1,h2,v,h3,h4⟩:=q;show LeavesInM _ _ _ _ _ _ _ _ _;rw[h1];exact og h3 h4 ds w h2
 | panic ch=>
  obtain⟨h1,h2⟩:=q
  show LeavesInM _ _ _ _ _ _ _ _ _
  rw[h1]
  exact h2
 | exit id=>exact q.elim
 | goto l=>exact q.elim
 | outgrown=>exact q.elim
theorem uU {Q:Exit→Act→World→Prop} {K:Act→World→Prop} {r:Option Nat} {a:Act} {w':World} {f:FuncId} {args:Array Value} (hn:hO o=true) (hw:Region.wanted o (yielded ops a.tmps)=true) (hr:(execOp a.eval o).run P w= .ok (.enter f args) w')
  (h:Calls P f args w' λe w''=>(∃ u,e= .returned u∧K (a.put o.dst u) w'')∨∃ ch,e= .panicked ch∧Q (.panic ch) a w''):su P r ops Q o K a w:=
 tZ hn hw hr ⟨vw,uW (h.mono (by rintro e w'' (⟨u,rfl,hk⟩ | ⟨ch,rfl,hk⟩)<;>exact hk))⟩
theorem ja {f:FuncId} {args:Array Value} (hg:oU n env ops o true) (hd:o.dst=some d) (hr:nY P n env o w (.ok (.enter f args) w))
  (h:Calls P f args w λe w'=>(∃ v,e= .returned v∧dM P ro n ops Kn Ke Kr rest ((d,v)::env) w')∨∃ ch,e= .panicked ch∧ro.kp ch w') (hn:n.ds=[]:=by rfl):
  dM P ro n ops Kn Ke Kr (o::rest) env w:=rL λa hnd ha=>uU hnd (hg a ha) (hr a ha) (h.mono (by
   rintro e w' (⟨u,h1,h2⟩ | ⟨ch,h1,h2⟩)
   ·exact .inl ⟨u,h1,_,by rw[hd];exact ha.put d u,h2⟩
   ·exact .inr ⟨ch,h1,Bi hn ha,h2⟩))
theorem IB {S:Sn} {rs:Tr} {fl:Fl} {f:FuncId} {args:Array Value} (hi:ops[i]? =some o) (hg:oU n env ops o true) (hd:o.dst=some d) (hr:nY P n env o w (.ok (.enter f args) w))
  (h:Calls P f args w λe w'=>(∃ v,e= .returned v∧S.now w'∧dw P ro n ops Kn Ke Kr S rs ((d,v)::env) w')∨∃ ch,e= .panicked ch∧ro.kp ch w') (hx:S.x.contains i=false:=by rfl) (hfl:fl.solo=true:=by rfl) (hn:n.ds=[]:=by rfl):
  dw P ro n ops Kn Ke Kr S (.c (i,fl) rs) env w:=
 wC (hfl:=hfl) hi (λa hnd ha=>uU hnd (hg a ha) (hr a ha) (h.mono (by
   rintro e w' (⟨u,h1,h2,h3⟩ | ⟨ch,h1,h2⟩)
   ·exact .inl ⟨u,h1,h2,_,by rw[hd];exact ha.put d u,h3⟩
   ·exact .inr ⟨ch,h1,Bi hn ha,h2⟩))) hx
theorem fB {X:List Nat} {D:NP} {rs:Tr} {fl:Fl} {g:FuncId} {args:Array Value} (hi:ops[i]? =some o) (hg:oU n env ops o true) (hd:o.dst=some d) (hr:nY P n env o w (.ok (.enter g args) w))
  (h:Calls P g args w λe w'=>(∃ v,e= .returned v∧∃ D',Sp D w D' w'∧dw P ro n ops Kn Ke Kr (SN X D' w') rs ((d,v)::env) w')∨∃ ch,e= .panicked ch∧ro.kp ch w') (hX:X.contains i=false:=by rfl) (hfl:fl.solo=true:=by rfl) (hn:n.ds=[]:=by rfl):dw P ro n ops Kn Ke Kr (SN X D w) (.c (i,fl) rs) env w:=
 IB (hfl:=hfl) (S:=SN X D w) (hx:=hX) hi hg hd hr (h.mono (by
  rintro e w' (⟨v,h1,D',h2,h3⟩ | h1)
  ·exact .inl ⟨v,h1,⟨D',h2⟩,zW h2 h3⟩
  ·exact .inr h1)) hn
theorem KO {t t':TypeId} {y:Operand} {l l':List UInt8} (ho:o.op= .binOp .gtr t x y t') (hx:Ev n env x (aT l)) (hy:Ev n env y (aT l')):iE P n env o (.bool (!Op.bytesLess l l'&& !decide (l=l'))) w:=jn ho hx hy (by simp[binOp,Op.stringOp];by_cases h:l=l'<;>simp[h]) (by simp[go_sem])
theorem BV {t:TypeId} {d:TypeDesc} (ho:o.op= .makeInterface t x) (ht:P.underlying t=some d) (hd:(match d with | .interface _=>true | _=>false)=false) (hx:Ev n env x v):iE P n env o (.iface t v) w:=λa ha=>by
 have h1:(Instr.makeInterface t v).run P w= .ok (.iface t v) w:=by
  cases d<;>first | (cases hd;done) | simp[Instr.makeInterface,run_underlying ht]
 simp[execOp,ho,hx a ha,h1]
theorem Ic {t:TypeId} (hg:oU n env ops o true) (ho:o.op= .panic x) (hx:Ev n env x (.iface t v)) (h:ro.kp [{ v:= .iface t v,recovered:=false }] w) (hn:n.ds=[]:=by rfl):
  dM P ro n ops Kn Ke Kr (o::rest) env w:=rL λa hnd ha=>tZ hnd (hg a ha) (r:= .halt (.panic (.iface t v)) w) (by simp[execOp,ho,hx a ha];rfl) ⟨Bi hn ha,h⟩
end
end Go.Vc
namespace Go.Proofs.YtmhoikfoogemnaaGreatDoor
open Go Go.RowKit Go.Vc
set_option linter.unusedVariables false
theorem DV:Tryz.prog.globalNamed "strings.asciiSpace" =some 0:=by kernel_rfl
def aA:Cl:=tabCl DV .u8 Lib.asciiSpaceTab
def o5 (s:List UInt8):Option (List (List UInt8)):=if(∀ b∈s,b.toNat<128)∧s.length<4294967281 then some (Lib.fields s)else none
def lH (s:List UInt8) (b bits:Int):Option (Int×Unit):=if b=10∧bits=64∧s.length≤4294967296 then(match Lib.parseIntB 64 s with | .ok v=>some (v,()) | _=>none)else none
def gH (s p:List UInt8):Option Int:=match p with
 | [c]=>some (Lib.indexByte s c)
 | _=>none
end Go.Proofs.YtmhoikfoogemnaaGreatDoor
