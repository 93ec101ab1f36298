import Derived.Test.YtmhoikfoogemnaaGreatDoorKLfS
import Derived.MapKept
import Derived.Laws.IdiomStrings
import Derived.RecoverIn
import Derived.Test.YtmhoikfoogemnaaGreatDoorProg
import Derived.KernelRfl
import Derived.Lib.ParseIntB
import Derived.Lib.AtoiErrMem
import Derived.Lib.Bytealg
import Derived.Shelf.Strings.Fields
namespace Go.Vc
open Go Go.RowKit
structure KC (κ:Type) [DecidableEq κ] where
 enc:κ→Value
 d:TypeDesc
 key:∀ a,MapKept.IsKey d (enc a)
 same:∀ a b,Instr.sameNow d (enc a) (enc b)=some (decide (a=b))
 bits:∀ a,Instr.sameBits 10000 (enc a) (enc a)=true
section
variable {κ β:Type} [DecidableEq κ]
end
section
variable {κ β:Type} [DecidableEq κ] {kc:KC κ} {ev:β→Value} {m:List (κ×β)}
variable {P:Program} {ro:Ro} {n:Fr} {Kn:Act→World→Prop} {Ke:Nat→Act→World→Prop} {Kr:Act→World→Prop} {env:kE} {w:World}
variable {ops:Array Oper} {rest:List Oper} {rs:Tr} {fl:Fl} {o:Oper} {i d:Nat} {v:Value} {x y z:Operand} {t kt et:TypeId} {md:Bool} {X:List Nat}
variable {C0 F C:NP} {w0:World} {os:List MO} {cl:List Cl} {f:MO→List MO} {b:Nat}
end
end Go.Vc
namespace Go.Vc
open Go Go.RowKit
section
variable {P:Program} {ro:Ro} {n:Fr} {Kn:Act→World→Prop} {Ke:Nat→Act→World→Prop} {Kr:Act→World→Prop} {env:kE} {w:World}
variable {ops:Array Oper} {rest:List Oper} {rs:Tr} {fl:Fl} {o:Oper} {i d:Nat} {v:Value} {x y z:Operand} {t t' e:TypeId} {md:Bool} {X:List Nat}
variable {C0 F C:NP} {w0:World} {os os':List MO} {cl:List Cl} {f:MO→List MO} {b N:Nat} {T:TypeId} {α:Type} {enc:α→Value} {xs ys:List α} {c:Cod α} {A A2:Option Addr}
theorem zN {D:NP} (hc:∀ D w u,c.rel D w u [enc u]):∀ xs:List α,Rels c D w xs (xs.map fun u=>[enc u])
 | []=>trivial
 | _ ::r=>⟨hc _ _ _,zN hc r⟩
theorem Al:∀ xs:List α,(xs.map fun u=>[enc u]).flatten=xs.map enc
 | []=>rfl
 | u::r=>by simp[Al r]
end
end Go.Vc
namespace Go.Vc
open Go Go.RowKit
section
variable {P:Program} {ro:Ro} {n:Fr} {Kn:Act→World→Prop} {Ke:Nat→Act→World→Prop} {Kr:Act→World→Prop} {env:kE} {w:World}
variable {ops:Array Oper} {o:Oper} {i d:Nat} {v:Value} {S:Sn} {rest:Tr}
theorem EJ {S2:World→Prop} (hx:S.x.contains i=true) (hw:S2 w) (hin:Nat.blt i ops.size=true) (h:db P ro n ops Kn Ke Kr ⟨[],S2⟩ (.c (i,.t) rest) env w):db P ro n ops Kn Ke Kr S (.c (i,.t) rest) env w:=fun a listed h1 h2 _ ha _=>by
 have h4:rE P ro.r ops (sA ro Kn Ke Kr) i (fun a' w'=>Sn.f ⟨[],S2⟩ (listed.setIfInBounds i true) w'∧Any P ro.r ops (sA ro Kn Ke Kr) (Sn.f ⟨[],S2⟩) rest.len (listed.setIfInBounds i true) a' w') a w:=h a listed h1 h2 rfl ha hw
 show rE P ro.r ops (sA ro Kn Ke Kr) i (fun a' w'=>S.f (listed.setIfInBounds i true) w'∧Any P ro.r ops (sA ro Kn Ke Kr) S.f rest.len (listed.setIfInBounds i true) a' w') a w
 simp only[dS,Bool.and_eq_true]at h2
 have hj:i∈Region.ready .any ops listed:=by simpa using h2.1.1
 have hun:=(mem_ready.1 hj).1
 have hlt:i<listed.size:=by
  rcases Nat.lt_or_ge i listed.size with h' | h'
  ·exact h'
  ·simp[Array.getElem?_eq_none h']at hun
 have _:=hin
 refine wpOpIn_mono (fun a' w' ⟨_,h5⟩=> ?_) h4
 have hmem:i∈S.x:=by simpa using hx
 have key:∀ l:Array Bool,l.getD i false=true→∀ w,¬ S.free l∨S.f l w:=fun l hl w=> .inl fun hfr=>by
  unfold Sn.free at hfr
  rw[List.any_eq_false]at hfr
  exact hfr i hmem hl
 have hset:(listed.setIfInBounds i true).getD i false=true:=by simp[hlt]
 refine⟨fun hfr=>absurd hfr ((key _ hset w').elim id fun h6=>fun hfr=>by unfold Sn.free at hfr;rw[List.any_eq_false]at hfr;exact hfr i hmem hset),?_⟩
 refine ze (fun l=>l.getD i false=true) (fun l i' hl=> ?_) (fun l w hl _ hfr=> ?_) _ _ _ _ hset h5
 ·by_cases e:i'=i
  ·subst e
   have:i'<l.size:=by
    rcases Nat.lt_or_ge i' l.size with h' | h'
    ·exact h'
    ·simp[Array.getElem?_eq_none h']at hl
   simp[this]
  ·simp only[Array.getD_eq_getD_getElem?]at hl ⊢
   rw[Array.getElem?_setIfInBounds_ne e];exact hl
 ·unfold Sn.free at hfr;rw[List.any_eq_false]at hfr;exact absurd hl (hfr i hmem)
theorem bu {F C D:NP} {X:List Nat} (hx:X.contains i=true) (hin:Nat.blt i ops.size=true) (h:db P ro n ops Kn Ke Kr (SN [] (DM true F C) w) (.c (i,.t) rest) env w):db P ro n ops Kn Ke Kr (SN X D w) (.c (i,.t) rest) env w:=
 EJ (S:=SN X D w) (S2:=SX (DM true F C) w) hx SX.self hin h
end
section
variable {P:Program} {ro:Ro} {n:Fr} {Kn:Act→World→Prop} {Ke:Nat→Act→World→Prop} {Kr:Act→World→Prop} {env:kE} {w:World}
variable {ops:Array Oper} {rest:List Oper} {rs:Tr} {fl:Fl} {o:Oper} {i d:Nat} {v u:Value} {x y z:Operand} {t t' e:TypeId} {md:Bool} {X:List Nat}
variable {C0 F C:NP} {w0:World} {os:List MO} {cl:List Cl} {f:MO→List MO} {α:Type} {c:Cod α} {A A2:Option Addr} {xs ys:List α}
theorem DJ {β:Type} [Inhabited β] {g:FuncId} {args:Array Value} {b:Bool} (V:β→Value) (Ψ:β→World→Prop) (hg:nC n env ops o b) (hd:o.dst=some d) (hr:b=true→mN P n env o w (.ok (.enter g args) w))
  (hc:b=true→Calls P g args w fun e w'=>∃ x,e= .returned (V x)∧Ext w w'∧Ψ x w')
  (h:∀ x w',Ext w w'→(b=true→Ψ x w')→dm P ro n ops Kn Ke Kr rest ((d,gv b (V x))::env) w'):dm P ro n ops Kn Ke Kr (o::rest) env w:=
 pT (fun u w'=>∃ x,u=V x∧Ext w w'∧Ψ x w') hg hd hr (fun hb=>(hc hb).mono fun e w' ⟨x,h1,h2⟩=>⟨V x,h1,x,rfl,h2⟩) fun u w' h1 h2=>by
  cases b with
  | true=>obtain⟨x,rfl,hx,hp⟩:=h1 rfl;exact h x w' hx fun _=>hp
  | false=>rw[h2 rfl];exact h default w .rfl' fun hb=>by cases hb
end
end Go.Vc
namespace Go.Vc
open Go Go.RowKit
abbrev vi (x:Int):Value:= .int .i64 x
abbrev vs (A:Option Addr) (n c:Nat):Value:= .slice A n c
abbrev vb (b:Bool):Value:= .bool b
abbrev vp (b k:Nat):Value:= .pointer (some ⟨b,k,none⟩)
section
variable {P:Program} {ro:Ro} {n:Fr} {Kn:Act→World→Prop} {Ke:Nat→Act→World→Prop} {Kr:Act→World→Prop} {env:kE} {w:World}
variable {ops:Array Oper} {rest:List Oper} {rs:Tr} {fl:Fl} {o:Oper} {i d t:Nat} {v:Value} {S:Sn}
theorem et (h:look env t=some v:=by rfl) (ht:Nat.blt t n.n=true:=by rfl):Ev n env (.tmp t) v:=aK h ht
theorem gn {ops:Array Oper} (hg:o.guard=none:=by rfl):nC n env ops o true:=bA hg
theorem sq (hr:hH P n env o v w) (h:dm P ro n ops Kn Ke Kr rest ((d,v)::env) w) (hg:o.guard=none:=by rfl) (hd:o.dst=some d:=by rfl):dm P ro n ops Kn Ke Kr (o::rest) env w:=AH (bA hg) hd hr h
theorem oN {f:FuncId} {fn:Func} {c:Code} {l:List Value} {m:Nat} {K:Ending→World→Prop} (hf:P.funcs[f]? =some fn) (hb:fn.body=some c) (hn:fn.ntmps=m) (hl:Nat.ble l.length m=true)
  (h:gG P .plain ⟨m,[]⟩ c (uV P fn fun v w=>K (.returned v) w) (fun _ _ _=>False) (uV P fn fun v w=>K (.returned v) w) (rf 0 l) w):Calls P f l.toArray w K:=
 Fm (enter hf hb hn hl h) fun _ _ h=>h
theorem bb {c:Code} (h:gG P ro n c Kn Ke Kr env w):∀ a,Has n a env→Code.wpIn (FW ro.r) 0 P c (sA ro Kn Ke Kr) a w:=fun a ha=>h a ha
variable {ops':Array Oper} {Kn':Act→World→Prop} {Ke':Nat→Act→World→Prop} {Kr':Act→World→Prop}
theorem nk {c:Code} (h:gG P ro n c Kn' Ke' Kr' env w):dm P ro n ops (fun a w=>Code.wpIn (FW ro.r) 0 P c (sA ro Kn' Ke' Kr') a w) Ke Kr [] env w:=aM (bb h)
theorem sr {y:Code} {id:Nat} {l:List Oper} (h:dm P ro n l.toArray (fun a w=>Code.wpIn (FW ro.r) 0 P y (sA ro Kn Ke Kr) a w) Ke Kr l env w) (hn:l.all gt=true:=by rfl):gG P ro n (.seq (.region id l.toArray false) y) Kn Ke Kr env w:=al (kz hn h)
theorem sm (h:dm P ro n ops Kn Ke Kr rest ((d,v)::env) w) (ho:o.op= .move (.tmp t):=by rfl) (hl:look env t=some v:=by rfl) (ht:Nat.blt t n.n=true:=by rfl) (hg:o.guard=none:=by rfl) (hd:o.dst=some d:=by rfl):dm P ro n ops Kn Ke Kr (o::rest) env w:=AH (bA hg) hd (ft ho (aK hl ht)) h
theorem sa (h:dm P ro n ops Kn Ke Kr rest ((d,v)::env) w) (ho:o.op= .assign (.tmp t):=by rfl) (hl:look env t=some v:=by rfl) (ht:Nat.blt t n.n=true:=by rfl) (hg:o.guard=none:=by rfl) (hd:o.dst=some d:=by rfl):dm P ro n ops Kn Ke Kr (o::rest) env w:=AH (bA hg) hd (cy ho (aK hl ht)) h
theorem rJ {v:Value} (h:dm P ro n ops Kn Ke Kr rest ((d,v)::env) w) (ho:o.op= .assign (.const v):=by rfl) (hg:o.guard=none:=by rfl) (hd:o.dst=some d:=by rfl):dm P ro n ops Kn Ke Kr (o::rest) env w:=AH (bA hg) hd (cy ho ao) h
end
section
variable {α:Type} {c:Cod α} {e:TypeId} {A:Option Addr} {m cap:Nat} {xs:List α} {C0 F C:NP} {w0 w:World} {os:List MO} {cl:List Cl} {f:MO→List MO}
variable {P:Program} {ro:Ro} {n:Fr} {Kn:Act→World→Prop} {Ke:Nat→Act→World→Prop} {Kr:Act→World→Prop} {env:kE}
variable {ops:Array Oper} {rs:Tr} {fl:Fl} {o:Oper} {i d t te:Nat} {v u:Value} {x fx:Operand} {ys:List Operand} {args:List Value} {ts:Array TypeId} {X:List Nat} {md:Bool}
end
section
variable {C0 F C C':NP} {w0 w w':World} {os os':List MO} {cl cl':List Cl}
variable {P:Program} {ro:Ro} {n:Fr} {Kn:Act→World→Prop} {Ke:Nat→Act→World→Prop} {Kr:Act→World→Prop} {env:kE} {ops:Array Oper} {rs:Tr} {X:List Nat} {md:Bool}
end
end Go.Vc
namespace Go.Vc
open Go Go.RowKit
def Cod.bot (α:Type) (n:Nat):Cod α where
 n:=n
 rel _ _ _ _:=False
 len h:=h.elim
 one h:=h.elim
 sp _ h:=h
def Dc {α:Type} (S:Cod α→Cod α) (n:Nat):Nat→Cod α
 | 0=>Cod.bot α n
 | k+1=>S (Dc S n k)
def Cod.fix {α:Type} (S:Cod α→Cod α) (n:Nat) (hn:∀ c,(S c).n=n):Cod α where
 n:=n
 rel D w x cs:=∃ k,(Dc S n k).rel D w x cs
 len h:=by
  obtain⟨k,h⟩:=h
  cases k with
  | zero=>exact False.elim h
  | succ k=>exact((Dc S n (k+1)).len h).trans (hn _)
 one h:=by obtain⟨k,h⟩:=h;exact(Dc S n k).one h
 sp hs h:=by obtain⟨k,h⟩:=h;exact⟨k,(Dc S n k).sp hs h⟩
section
variable {α:Type} {c c':Cod α} {D:NP} {w:World} {A:Option Addr} {cap:Nat} {xs:List α} {S:Cod α→Cod α} {n:Nat}
theorem Rels.mono (hm:∀ D w x cs,c.rel D w x cs→c'.rel D w x cs):∀ {xs:List α} {css:List (List Value)},Rels c D w xs css→Rels c' D w xs css
 | [],[],h=>h
 | [],_ :: _,h=>h.elim
 | _ :: _,[],h=>h.elim
 | _ :: _,_ :: _,h=>⟨hm _ _ _ _ h.1,Rels.mono hm h.2⟩
theorem SlC.mono (h:SlC c D w A cap xs) (hm:∀ D w x cs,c.rel D w x cs→c'.rel D w x cs):SlC c' D w A cap xs:=
 ⟨h.1,fun hn=>let ⟨ad,h1,h2,h3,css,h4,h5⟩:=h.2 hn;⟨ad,h1,h2,h3,css,h4.mono hm,h5⟩⟩
theorem El (hS:∀ {c c':Cod α},(∀ D w x cs,c.rel D w x cs→c'.rel D w x cs)→∀ D w x cs,(S c).rel D w x cs→(S c').rel D w x cs) (k:Nat):∀ D w x cs,(Dc S n k).rel D w x cs→(Dc S n (k+1)).rel D w x cs:=by
 induction k with
 | zero=>exact fun _ _ _ _ h=>False.elim h
 | succ k ih=>exact hS ih
theorem Ab (hS:∀ {c c':Cod α},(∀ D w x cs,c.rel D w x cs→c'.rel D w x cs)→∀ D w x cs,(S c).rel D w x cs→(S c').rel D w x cs) {k m:Nat} (h:k≤m):∀ D w x cs,(Dc S n k).rel D w x cs→(Dc S n m).rel D w x cs:=by
 induction h with
 | refl=>exact fun _ _ _ _ h=>h
 | step _ ih=>exact fun D w x cs h=>El hS _ D w x cs (ih D w x cs h)
theorem Rels.fix_out {hn:∀ c,(S c).n=n} (hS:∀ {c c':Cod α},(∀ D w x cs,c.rel D w x cs→c'.rel D w x cs)→∀ D w x cs,(S c).rel D w x cs→(S c').rel D w x cs):∀ {xs:List α} {css:List (List Value)},Rels (Cod.fix S n hn) D w xs css→∃ k,Rels (Dc S n k) D w xs css
 | [],[],_=>⟨0,trivial⟩
 | [],_ :: _,h=>h.elim
 | _ :: _,[],h=>h.elim
 | _ :: _,_ :: _,h=>by
  obtain⟨⟨k,h1⟩,h2⟩:=h
  obtain⟨m,h3⟩:=Rels.fix_out hS h2
  exact⟨max k m,Ab hS (Nat.le_max_left ..) _ _ _ _ h1,h3.mono (Ab hS (Nat.le_max_right ..))⟩
theorem SlC.fix_out {hn:∀ c,(S c).n=n} (h:SlC (Cod.fix S n hn) D w A cap xs) (hS:∀ {c c':Cod α},(∀ D w x cs,c.rel D w x cs→c'.rel D w x cs)→∀ D w x cs,(S c).rel D w x cs→(S c').rel D w x cs):∃ k,SlC (Dc S n k) D w A cap xs:=by
 rcases Nat.eq_zero_or_pos xs.length with h0 | h0
 ·exact⟨0,h.1,fun hn=>by omega⟩
 ·obtain⟨ad,h1,h2,h3,css,h4,h5⟩:=h.2 h0
  obtain⟨k,h6⟩:=h4.fix_out hS
  exact⟨k,h.1,fun _=>⟨ad,h1,h2,h3,css,h6,h5⟩⟩
end
section
variable {P:Program} {ro:Ro} {n:Fr} {Kn:Act→World→Prop} {Ke:Nat→Act→World→Prop} {Kr:Act→World→Prop} {env:kE} {w:World}
variable {ops:Array Oper} {rest:List Oper} {o:Oper} {i d:Nat} {v u:Value} {x y:Operand} {t t' e:TypeId}
theorem n7 {f:FuncId} {ys:List Operand} {vs:List Value} {xs:Array Operand} (ho:o.op= .makeFunc (.func f) ys.toArray xs) (hx0:xs= #[]) (hys:EvA n env ys vs):hH P n env o (.func (.func f) vs.toArray #[]) w:=fun a ha=>by
 subst hx0
 simp[execOp,ho,hys.map ha,Instr.makeFunc]
end
end Go.Vc
namespace Go.Vc
open Go Go.RowKit Go.WideShapes
abbrev okW {α:Type} (ok:α→Prop) (xs:List α):Prop:=(∀ x∈xs,ok x)∧xs.length≤140737488355328
section
variable {P:Program} {t e:TypeId} {α:Type} {c:Cod α} {ok:α→Prop} {sz:α→Nat} {N:Nat}
end
end Go.Vc
namespace Go.Vc
open Go Go.RowKit
inductive bz (α:Type) where
 | ret (x:α)
 | pan (a b:Int)
def pb {α β:Type} (m:Option (bz α)) (k:α→Option (bz β)):Option (bz β):=
 match m with
 | none=>none
 | some (.pan a b)=>some (.pan a b)
 | some (.ret x)=>k x
theorem iM {α β:Type} {m:Option (bz α)} {k:α→Option (bz β)} {r:bz β} (h:pb m k=some r):(∃ x,m=some (.ret x)∧k x=some r)∨∃ a b,m=some (.pan a b)∧r= .pan a b:=by
 cases m with
 | none=>cases h
 | some q=>cases q with
  | ret x=>exact .inl ⟨x,rfl,h⟩
  | pan a b=>exact .inr ⟨a,b,rfl,(Option.some.inj h).symm⟩
theorem eX {α:Type} {x:α} {A:α→Prop} {B:Int→Int→Prop} (h:(∃ y,bz.ret x= .ret y∧A y)∨∃ a b,(bz.ret x:bz α)= .pan a b∧B a b):A x:=by
 rcases h with⟨y,h1,h2⟩ | ⟨a,b,h1,_⟩
 ·injection h1 with h1;exact h1▸h2
 ·cases h1
theorem eY {α:Type} {a b:Int} {A:α→Prop} {B:Int→Int→Prop} (h:(∃ y,(bz.pan a b:bz α)= .ret y∧A y)∨∃ c d,(bz.pan a b:bz α)= .pan c d∧B c d):B a b:=by
 rcases h with⟨y,h1,_⟩ | ⟨c,d,h1,h2⟩
 ·cases h1
 ·injection h1 with h1 h3;exact h1▸h3▸h2
def Dd {α:Type} (c:Bool) (m:Option α) (z:α):Option α:=if c=true then m else some z
theorem Ag {α:Type} {c:Bool} {m:Option α} {z r:α} (hc:c=true) (h:Dd c m z=some r):m=some r:=by unfold Dd at h;rwa [if_pos hc]at h
theorem Ah {α:Type} {c:Bool} {m:Option α} {z r:α} (hc:c=false) (h:Dd c m z=some r):z=r:=by unfold Dd at h;rw[if_neg (by simp[hc])]at h;exact Option.some.inj h
def yq {α β:Type} (m:Option (bz α)) (k:α→Option β) (k2:Int→Int→Option β):Option β:=
 match m with
 | none=>none
 | some (.ret x)=>k x
 | some (.pan a b)=>if b≠0 then k2 a b else none
theorem uh {α β:Type} {m:Option (bz α)} {k:α→Option β} {k2:Int→Int→Option β} {r:β} (h:yq m k k2=some r):(∃ x,m=some (.ret x)∧k x=some r)∨∃ a b,m=some (.pan a b)∧b≠0∧k2 a b=some r:=by
 cases m with
 | none=>cases h
 | some q=>cases q with
  | ret x=>exact .inl ⟨x,rfl,h⟩
  | pan a b=>
   have h':(if b≠0 then k2 a b else none)=some r:=h
   by_cases hb:b≠0
   ·rw[if_pos hb]at h';exact .inr ⟨a,b,rfl,hb,h'⟩
   ·rw[if_neg hb]at h';cases h'
abbrev pe (t:TypeId) (a b:Int):PanicEntry:= { v:= .iface t (.agg #[.int .i64 a,.int .i64 b]),recovered:=false }
section
variable {P:Program} {ro:Ro} {n:Fr} {Kn:Act→World→Prop} {Ke:Nat→Act→World→Prop} {Kr:Act→World→Prop} {env:kE} {w:World}
variable {ops:Array Oper} {rest:List Oper} {o:Oper} {i d:Nat} {v:Value} {x:Operand}
theorem yH (hn:n.ds=[]) {a:Act} (ha:Has n a env):a.defers=[]:=by rw[ha.df,hn];rfl
theorem fU {f:FuncId} {fn:Func} {c:Code} {l:List Value} {m:Nat} {K:Ending→World→Prop} (hf:P.funcs[f]? =some fn) (hb:fn.body=some c) (hn:fn.ntmps=m) (hl:Nat.ble l.length m=true)
  (h:gG P (.pan K) ⟨m,[]⟩ c (uV P fn fun v w=>K (.returned v) w) (fun _ _ _=>False) (uV P fn fun v w=>K (.returned v) w) (rf 0 l) w):Calls P f l.toArray w K:=by
 refine(callsIn_wide (n:=0)).1 (callsIn_of_wp_marks hf hb trivial ?_)
 subst hn
 refine wpIn_mono (h _ (Af hl)) fun e a w q=> ?_
 cases e with
 | normal=>obtain⟨ds,w',h1,h2,v,h3,h4⟩:=q;show LeavesInM _ _ _ _ _ _ _ _ _;rw[h1];exact mZ h3 h4 ds w h2
 | ret=>obtain⟨ds,w',h1,h2,v,h3,h4⟩:=q;show LeavesInM _ _ _ _ _ _ _ _ _;rw[h1];exact mZ h3 h4 ds w h2
 | panic ch=>
  obtain⟨h1,h2⟩:=q
  show LeavesInM _ _ _ _ _ _ _ _ _
  rw[h1]
  exact h2
 | exit id=>exact q.elim
 | goto l=>exact q.elim
 | outgrown=>exact q.elim
theorem sn {Q:Exit→Act→World→Prop} {K:Act→World→Prop} {r:Option Nat} {a:Act} {w':World} {f:FuncId} {args:Array Value} (hn:gt o=true) (hw:Region.wanted o (yielded ops a.tmps)=true) (hr:(execOp a.eval o).run P w= .ok (.enter f args) w')
  (h:Calls P f args w' fun e w''=>(∃ u,e= .returned u∧K (a.put o.dst u) w'')∨∃ ch,e= .panicked ch∧Q (.panic ch) a w''):qn P r ops Q o K a w:=
 rt hn hw hr ⟨sS,ss (h.mono (by rintro e w'' (⟨u,rfl,hk⟩ | ⟨ch,rfl,hk⟩)<;>exact hk))⟩
theorem nU {f:FuncId} {args:Array Value} (hg:nC n env ops o true) (hd:o.dst=some d) (hr:mN P n env o w (.ok (.enter f args) w))
  (h:Calls P f args w fun e w'=>(∃ v,e= .returned v∧dm P ro n ops Kn Ke Kr rest ((d,v)::env) w')∨∃ ch,e= .panicked ch∧ro.kp ch w') (hn:n.ds=[]:=by rfl):
  dm P ro n ops Kn Ke Kr (o::rest) env w:=pU fun a hnd ha=>sn hnd (hg a ha) (hr a ha) (h.mono (by
   rintro e w' (⟨u,h1,h2⟩ | ⟨ch,h1,h2⟩)
   ·exact .inl ⟨u,h1,_,by rw[hd];exact ha.put d u,h2⟩
   ·exact .inr ⟨ch,h1,yH hn ha,h2⟩))
theorem FF {S:Sn} {rs:Tr} {fl:Fl} {f:FuncId} {args:Array Value} (hi:ops[i]? =some o) (hg:nC n env ops o true) (hd:o.dst=some d) (hr:mN P n env o w (.ok (.enter f args) w))
  (h:Calls P f args w fun e w'=>(∃ v,e= .returned v∧S.now w'∧db P ro n ops Kn Ke Kr S rs ((d,v)::env) w')∨∃ ch,e= .panicked ch∧ro.kp ch w') (hx:S.x.contains i=false:=by rfl) (hfl:fl.solo=true:=by rfl) (hn:n.ds=[]:=by rfl):
  db P ro n ops Kn Ke Kr S (.c (i,fl) rs) env w:=
 ub (hfl:=hfl) hi (fun a hnd ha=>sn hnd (hg a ha) (hr a ha) (h.mono (by
   rintro e w' (⟨u,h1,h2,h3⟩ | ⟨ch,h1,h2⟩)
   ·exact .inl ⟨u,h1,h2,_,by rw[hd];exact ha.put d u,h3⟩
   ·exact .inr ⟨ch,h1,yH hn ha,h2⟩))) hx
theorem fp {X:List Nat} {D:NP} {rs:Tr} {fl:Fl} {g:FuncId} {args:Array Value} (hi:ops[i]? =some o) (hg:nC n env ops o true) (hd:o.dst=some d) (hr:mN P n env o w (.ok (.enter g args) w))
  (h:Calls P g args w fun e w'=>(∃ v,e= .returned v∧∃ D',Sp D w D' w'∧db P ro n ops Kn Ke Kr (SN X D' w') rs ((d,v)::env) w')∨∃ ch,e= .panicked ch∧ro.kp ch w') (hX:X.contains i=false:=by rfl) (hfl:fl.solo=true:=by rfl) (hn:n.ds=[]:=by rfl):db P ro n ops Kn Ke Kr (SN X D w) (.c (i,fl) rs) env w:=
 FF (hfl:=hfl) (S:=SN X D w) (hx:=hX) hi hg hd hr (h.mono (by
  rintro e w' (⟨v,h1,D',h2,h3⟩ | h1)
  ·exact .inl ⟨v,h1,⟨D',h2⟩,zg h2 h3⟩
  ·exact .inr h1)) hn
theorem HK {t t':TypeId} {y:Operand} {l l':List UInt8} (ho:o.op= .binOp .gtr t x y t') (hx:Ev n env x (aE l)) (hy:Ev n env y (aE l')):hH P n env o (.bool (!Op.bytesLess l l'&& !decide (l=l'))) w:=ji ho hx hy (by simp[binOp,Op.stringOp];by_cases h:l=l'<;>simp[h]) (by simp[go_sem])
theorem zo {t:TypeId} {d:TypeDesc} (ho:o.op= .makeInterface t x) (ht:P.underlying t=some d) (hd:(match d with | .interface _=>true | _=>false)=false) (hx:Ev n env x v):hH P n env o (.iface t v) w:=fun a ha=>by
 have h1:(Instr.makeInterface t v).run P w= .ok (.iface t v) w:=by
  cases d<;>first | (cases hd;done) | simp[Instr.makeInterface,run_underlying ht]
 simp[execOp,ho,hx a ha,h1]
theorem Ff {t:TypeId} (hg:nC n env ops o true) (ho:o.op= .panic x) (hx:Ev n env x (.iface t v)) (h:ro.kp [{ v:= .iface t v,recovered:=false }] w) (hn:n.ds=[]:=by rfl):
  dm P ro n ops Kn Ke Kr (o::rest) env w:=pU fun a hnd ha=>rt hnd (hg a ha) (r:= .halt (.panic (.iface t v)) w) (by simp[execOp,ho,hx a ha];rfl) ⟨yH hn ha,h⟩
end
end Go.Vc
namespace Go.Proofs.YtmhoikfoogemnaaGreatDoor
open Go Go.RowKit Go.Vc
set_option linter.unusedVariables false
theorem Bk:Tryz.prog.globalNamed "strings.asciiSpace" =some 0:=by kernel_rfl
def av:Cl:=tabCl Bk .u8 Lib.asciiSpaceTab
def nL (s:List UInt8):Option (List (List UInt8)):=if(∀ b∈s,b.toNat<128)∧s.length<4294967281 then some (Lib.fields s)else none
def kM (s:List UInt8) (b bits:Int):Option (Int×Unit):=if b=10∧bits=64∧s.length≤4294967296 then(match Lib.parseIntB 64 s with | .ok v=>some (v,()) | _=>none)else none
def fP (s p:List UInt8):Option Int:=match p with
 | [c]=>some (Lib.indexByte s c)
 | _=>none
end Go.Proofs.YtmhoikfoogemnaaGreatDoor
