import Derived.Test.YtmhoikfoogemnaaGreatDoorJLfS
import Derived.MapKept
import Derived.Laws.IdiomStrings
namespace Go.Vc
open Go Go.RowKit
structure KC (κ:Type) [DecidableEq κ] where
 enc:κ→Value
 d:TypeDesc
 key:∀ a,MapKept.IsKey d (enc a)
 same:∀ a b,Instr.sameNow d (enc a) (enc b)=some (decide (a=b))
 bits:∀ a,Instr.sameBits 10000 (enc a) (enc a)=true
section
variable {κ β:Type} [DecidableEq κ]
end
section
variable {κ β:Type} [DecidableEq κ] {kc:KC κ} {ev:β→Value} {m:List (κ×β)}
variable {P:Program} {ro:Ro} {n:Fr} {Kn:Act→World→Prop} {Ke:Nat→Act→World→Prop} {Kr:Act→World→Prop} {env:ko} {w:World}
variable {ops:Array Oper} {rest:List Oper} {rs:Tr} {fl:Fl} {o:Oper} {i d:Nat} {v:Value} {x y z:Operand} {t kt et:TypeId} {md:Bool} {X:List Nat}
variable {C0 F C:NP} {w0:World} {os:List MO} {cl:List Cl} {f:MO→List MO} {b:Nat}
end
end Go.Vc
namespace Go.Vc
open Go Go.RowKit
section
variable {P:Program} {ro:Ro} {n:Fr} {Kn:Act→World→Prop} {Ke:Nat→Act→World→Prop} {Kr:Act→World→Prop} {env:ko} {w:World}
variable {ops:Array Oper} {rest:List Oper} {rs:Tr} {fl:Fl} {o:Oper} {i d:Nat} {v:Value} {x y z:Operand} {t t' e:TypeId} {md:Bool} {X:List Nat}
variable {C0 F C:NP} {w0:World} {os os':List MO} {cl:List Cl} {f:MO→List MO} {b N:Nat} {T:TypeId} {α:Type} {enc:α→Value} {xs ys:List α} {c:Cod α} {A A2:Option Addr}
theorem zj {D:NP} (hc:∀ D w u,c.rel D w u [enc u]):∀ xs:List α,Rels c D w xs (xs.map fun u=>[enc u])
 | []=>trivial
 | _ ::r=>⟨hc _ _ _,zj hc r⟩
theorem zK:∀ xs:List α,(xs.map fun u=>[enc u]).flatten=xs.map enc
 | []=>rfl
 | u::r=>by simp[zK r]
end
end Go.Vc
namespace Go.Vc
open Go Go.RowKit
section
variable {P:Program} {ro:Ro} {n:Fr} {Kn:Act→World→Prop} {Ke:Nat→Act→World→Prop} {Kr:Act→World→Prop} {env:ko} {w:World}
variable {ops:Array Oper} {o:Oper} {i d:Nat} {v:Value} {S:Sn} {rest:Tr}
theorem D0 {S2:World→Prop} (hx:S.x.contains i=true) (hw:S2 w) (hin:Nat.blt i ops.size=true) (h:cW P ro n ops Kn Ke Kr ⟨[],S2⟩ (.c (i,.t) rest) env w):cW P ro n ops Kn Ke Kr S (.c (i,.t) rest) env w:=fun a listed h1 h2 _ ha _=>by
 have h4:rt P ro.r ops (sf ro Kn Ke Kr) i (fun a' w'=>Sn.f ⟨[],S2⟩ (listed.setIfInBounds i true) w'∧Any P ro.r ops (sf ro Kn Ke Kr) (Sn.f ⟨[],S2⟩) rest.len (listed.setIfInBounds i true) a' w') a w:=h a listed h1 h2 rfl ha hw
 show rt P ro.r ops (sf ro Kn Ke Kr) i (fun a' w'=>S.f (listed.setIfInBounds i true) w'∧Any P ro.r ops (sf ro Kn Ke Kr) S.f rest.len (listed.setIfInBounds i true) a' w') a w
 simp only[dK,Bool.and_eq_true]at h2
 have hj:i∈Region.ready .any ops listed:=by simpa using h2.1.1
 have hun:=(mem_ready.1 hj).1
 have hlt:i<listed.size:=by
  rcases Nat.lt_or_ge i listed.size with h' | h'
  ·exact h'
  ·simp[Array.getElem?_eq_none h']at hun
 have _:=hin
 refine wpOpIn_mono (fun a' w' ⟨_,h5⟩=> ?_) h4
 have hmem:i∈S.x:=by simpa using hx
 have key:∀ l:Array Bool,l.getD i false=true→∀ w,¬ S.free l∨S.f l w:=fun l hl w=> .inl fun hfr=>by
  unfold Sn.free at hfr
  rw[List.any_eq_false]at hfr
  exact hfr i hmem hl
 have hset:(listed.setIfInBounds i true).getD i false=true:=by simp[hlt]
 refine⟨fun hfr=>absurd hfr ((key _ hset w').elim id fun h6=>fun hfr=>by unfold Sn.free at hfr;rw[List.any_eq_false]at hfr;exact hfr i hmem hset),?_⟩
 refine yJ (fun l=>l.getD i false=true) (fun l i' hl=> ?_) (fun l w hl _ hfr=> ?_) _ _ _ _ hset h5
 ·by_cases e:i'=i
  ·subst e
   have:i'<l.size:=by
    rcases Nat.lt_or_ge i' l.size with h' | h'
    ·exact h'
    ·simp[Array.getElem?_eq_none h']at hl
   simp[this]
  ·simp only[Array.getD_eq_getD_getElem?]at hl ⊢
   rw[Array.getElem?_setIfInBounds_ne e];exact hl
 ·unfold Sn.free at hfr;rw[List.any_eq_false]at hfr;exact absurd hl (hfr i hmem)
theorem bo {F C D:NP} {X:List Nat} (hx:X.contains i=true) (hin:Nat.blt i ops.size=true) (h:cW P ro n ops Kn Ke Kr (SN [] (DM true F C) w) (.c (i,.t) rest) env w):cW P ro n ops Kn Ke Kr (SN X D w) (.c (i,.t) rest) env w:=
 D0 (S:=SN X D w) (S2:=SX (DM true F C) w) hx SX.self hin h
end
section
variable {P:Program} {ro:Ro} {n:Fr} {Kn:Act→World→Prop} {Ke:Nat→Act→World→Prop} {Kr:Act→World→Prop} {env:ko} {w:World}
variable {ops:Array Oper} {rest:List Oper} {rs:Tr} {fl:Fl} {o:Oper} {i d:Nat} {v u:Value} {x y z:Operand} {t t' e:TypeId} {md:Bool} {X:List Nat}
variable {C0 F C:NP} {w0:World} {os:List MO} {cl:List Cl} {f:MO→List MO} {α:Type} {c:Cod α} {A A2:Option Addr} {xs ys:List α}
theorem Da {β:Type} [Inhabited β] {g:FuncId} {args:Array Value} {b:Bool} (V:β→Value) (Ψ:β→World→Prop) (hg:m9 n env ops o b) (hd:o.dst=some d) (hr:b=true→mx P n env o w (.ok (.enter g args) w))
  (hc:b=true→Calls P g args w fun e w'=>∃ x,e= .returned (V x)∧Ext w w'∧Ψ x w')
  (h:∀ x w',Ext w w'→(b=true→Ψ x w')→dh P ro n ops Kn Ke Kr rest ((d,gv b (V x))::env) w'):dh P ro n ops Kn Ke Kr (o::rest) env w:=
 pG (fun u w'=>∃ x,u=V x∧Ext w w'∧Ψ x w') hg hd hr (fun hb=>(hc hb).mono fun e w' ⟨x,h1,h2⟩=>⟨V x,h1,x,rfl,h2⟩) fun u w' h1 h2=>by
  cases b with
  | true=>obtain⟨x,rfl,hx,hp⟩:=h1 rfl;exact h x w' hx fun _=>hp
  | false=>rw[h2 rfl];exact h default w .rfl' fun hb=>by cases hb
end
end Go.Vc
namespace Go.Vc
open Go Go.RowKit
abbrev vi (x:Int):Value:= .int .i64 x
abbrev vs (A:Option Addr) (n c:Nat):Value:= .slice A n c
abbrev vb (b:Bool):Value:= .bool b
abbrev vp (b k:Nat):Value:= .pointer (some ⟨b,k,none⟩)
section
variable {P:Program} {ro:Ro} {n:Fr} {Kn:Act→World→Prop} {Ke:Nat→Act→World→Prop} {Kr:Act→World→Prop} {env:ko} {w:World}
variable {ops:Array Oper} {rest:List Oper} {rs:Tr} {fl:Fl} {o:Oper} {i d t:Nat} {v:Value} {S:Sn}
theorem et (h:look env t=some v:=by rfl) (ht:Nat.blt t n.n=true:=by rfl):Ev n env (.tmp t) v:=aH h ht
theorem gn {ops:Array Oper} (hg:o.guard=none:=by rfl):m9 n env ops o true:=bv hg
theorem sq (hr:gJ P n env o v w) (h:dh P ro n ops Kn Ke Kr rest ((d,v)::env) w) (hg:o.guard=none:=by rfl) (hd:o.dst=some d:=by rfl):dh P ro n ops Kn Ke Kr (o::rest) env w:=Ag (bv hg) hd hr h
theorem o9 {f:FuncId} {fn:Func} {c:Code} {l:List Value} {m:Nat} {K:Ending→World→Prop} (hf:P.funcs[f]? =some fn) (hb:fn.body=some c) (hn:fn.ntmps=m) (hl:Nat.ble l.length m=true)
  (h:gl P .plain ⟨m,[]⟩ c (uE P fn fun v w=>K (.returned v) w) (fun _ _ _=>False) (uE P fn fun v w=>K (.returned v) w) (qU 0 l) w):Calls P f l.toArray w K:=
 Ex (enter hf hb hn hl h) fun _ _ h=>h
theorem aX {c:Code} (h:gl P ro n c Kn Ke Kr env w):∀ a,Has n a env→Code.wpIn (FW ro.r) 0 P c (sf ro Kn Ke Kr) a w:=fun a ha=>h a ha
variable {ops':Array Oper} {Kn':Act→World→Prop} {Ke':Nat→Act→World→Prop} {Kr':Act→World→Prop}
theorem nk {c:Code} (h:gl P ro n c Kn' Ke' Kr' env w):dh P ro n ops (fun a w=>Code.wpIn (FW ro.r) 0 P c (sf ro Kn' Ke' Kr') a w) Ke Kr [] env w:=aK (aX h)
theorem sr {y:Code} {id:Nat} {l:List Oper} (h:dh P ro n l.toArray (fun a w=>Code.wpIn (FW ro.r) 0 P y (sf ro Kn Ke Kr) a w) Ke Kr l env w) (hn:l.all ga=true:=by rfl):gl P ro n (.seq (.region id l.toArray false) y) Kn Ke Kr env w:=al (kN hn h)
theorem sm (h:dh P ro n ops Kn Ke Kr rest ((d,v)::env) w) (ho:o.op= .move (.tmp t):=by rfl) (hl:look env t=some v:=by rfl) (ht:Nat.blt t n.n=true:=by rfl) (hg:o.guard=none:=by rfl) (hd:o.dst=some d:=by rfl):dh P ro n ops Kn Ke Kr (o::rest) env w:=Ag (bv hg) hd (fj ho (aH hl ht)) h
theorem sa (h:dh P ro n ops Kn Ke Kr rest ((d,v)::env) w) (ho:o.op= .assign (.tmp t):=by rfl) (hl:look env t=some v:=by rfl) (ht:Nat.blt t n.n=true:=by rfl) (hg:o.guard=none:=by rfl) (hd:o.dst=some d:=by rfl):dh P ro n ops Kn Ke Kr (o::rest) env w:=Ag (bv hg) hd (bE ho (aH hl ht)) h
theorem ry {v:Value} (h:dh P ro n ops Kn Ke Kr rest ((d,v)::env) w) (ho:o.op= .assign (.const v):=by rfl) (hg:o.guard=none:=by rfl) (hd:o.dst=some d:=by rfl):dh P ro n ops Kn Ke Kr (o::rest) env w:=Ag (bv hg) hd (bE ho aj) h
end
section
variable {α:Type} {c:Cod α} {e:TypeId} {A:Option Addr} {m cap:Nat} {xs:List α} {C0 F C:NP} {w0 w:World} {os:List MO} {cl:List Cl} {f:MO→List MO}
variable {P:Program} {ro:Ro} {n:Fr} {Kn:Act→World→Prop} {Ke:Nat→Act→World→Prop} {Kr:Act→World→Prop} {env:ko}
variable {ops:Array Oper} {rs:Tr} {fl:Fl} {o:Oper} {i d t te:Nat} {v u:Value} {x fx:Operand} {ys:List Operand} {args:List Value} {ts:Array TypeId} {X:List Nat} {md:Bool}
end
section
variable {C0 F C C':NP} {w0 w w':World} {os os':List MO} {cl cl':List Cl}
variable {P:Program} {ro:Ro} {n:Fr} {Kn:Act→World→Prop} {Ke:Nat→Act→World→Prop} {Kr:Act→World→Prop} {env:ko} {ops:Array Oper} {rs:Tr} {X:List Nat} {md:Bool}
end
end Go.Vc
namespace Go.Vc
open Go Go.RowKit
def Cod.bot (α:Type) (n:Nat):Cod α where
 n:=n
 rel _ _ _ _:=False
 len h:=h.elim
 one h:=h.elim
 sp _ h:=h
def Cs {α:Type} (S:Cod α→Cod α) (n:Nat):Nat→Cod α
 | 0=>Cod.bot α n
 | k+1=>S (Cs S n k)
def Cod.fix {α:Type} (S:Cod α→Cod α) (n:Nat) (hn:∀ c,(S c).n=n):Cod α where
 n:=n
 rel D w x cs:=∃ k,(Cs S n k).rel D w x cs
 len h:=by
  obtain⟨k,h⟩:=h
  cases k with
  | zero=>exact False.elim h
  | succ k=>exact((Cs S n (k+1)).len h).trans (hn _)
 one h:=by obtain⟨k,h⟩:=h;exact(Cs S n k).one h
 sp hs h:=by obtain⟨k,h⟩:=h;exact⟨k,(Cs S n k).sp hs h⟩
section
variable {α:Type} {c c':Cod α} {D:NP} {w:World} {A:Option Addr} {cap:Nat} {xs:List α} {S:Cod α→Cod α} {n:Nat}
theorem Rels.mono (hm:∀ D w x cs,c.rel D w x cs→c'.rel D w x cs):∀ {xs:List α} {css:List (List Value)},Rels c D w xs css→Rels c' D w xs css
 | [],[],h=>h
 | [],_ :: _,h=>h.elim
 | _ :: _,[],h=>h.elim
 | _ :: _,_ :: _,h=>⟨hm _ _ _ _ h.1,Rels.mono hm h.2⟩
theorem SlC.mono (h:SlC c D w A cap xs) (hm:∀ D w x cs,c.rel D w x cs→c'.rel D w x cs):SlC c' D w A cap xs:=
 ⟨h.1,fun hn=>let ⟨ad,h1,h2,h3,css,h4,h5⟩:=h.2 hn;⟨ad,h1,h2,h3,css,h4.mono hm,h5⟩⟩
theorem DG (hS:∀ {c c':Cod α},(∀ D w x cs,c.rel D w x cs→c'.rel D w x cs)→∀ D w x cs,(S c).rel D w x cs→(S c').rel D w x cs) (k:Nat):∀ D w x cs,(Cs S n k).rel D w x cs→(Cs S n (k+1)).rel D w x cs:=by
 induction k with
 | zero=>exact fun _ _ _ _ h=>False.elim h
 | succ k ih=>exact hS ih
theorem zz (hS:∀ {c c':Cod α},(∀ D w x cs,c.rel D w x cs→c'.rel D w x cs)→∀ D w x cs,(S c).rel D w x cs→(S c').rel D w x cs) {k m:Nat} (h:k≤m):∀ D w x cs,(Cs S n k).rel D w x cs→(Cs S n m).rel D w x cs:=by
 induction h with
 | refl=>exact fun _ _ _ _ h=>h
 | step _ ih=>exact fun D w x cs h=>DG hS _ D w x cs (ih D w x cs h)
theorem Rels.fix_out {hn:∀ c,(S c).n=n} (hS:∀ {c c':Cod α},(∀ D w x cs,c.rel D w x cs→c'.rel D w x cs)→∀ D w x cs,(S c).rel D w x cs→(S c').rel D w x cs):∀ {xs:List α} {css:List (List Value)},Rels (Cod.fix S n hn) D w xs css→∃ k,Rels (Cs S n k) D w xs css
 | [],[],_=>⟨0,trivial⟩
 | [],_ :: _,h=>h.elim
 | _ :: _,[],h=>h.elim
 | _ :: _,_ :: _,h=>by
  obtain⟨⟨k,h1⟩,h2⟩:=h
  obtain⟨m,h3⟩:=Rels.fix_out hS h2
  exact⟨max k m,zz hS (Nat.le_max_left ..) _ _ _ _ h1,h3.mono (zz hS (Nat.le_max_right ..))⟩
theorem SlC.fix_out {hn:∀ c,(S c).n=n} (h:SlC (Cod.fix S n hn) D w A cap xs) (hS:∀ {c c':Cod α},(∀ D w x cs,c.rel D w x cs→c'.rel D w x cs)→∀ D w x cs,(S c).rel D w x cs→(S c').rel D w x cs):∃ k,SlC (Cs S n k) D w A cap xs:=by
 rcases Nat.eq_zero_or_pos xs.length with h0 | h0
 ·exact⟨0,h.1,fun hn=>by omega⟩
 ·obtain⟨ad,h1,h2,h3,css,h4,h5⟩:=h.2 h0
  obtain⟨k,h6⟩:=h4.fix_out hS
  exact⟨k,h.1,fun _=>⟨ad,h1,h2,h3,css,h6,h5⟩⟩
end
section
variable {P:Program} {ro:Ro} {n:Fr} {Kn:Act→World→Prop} {Ke:Nat→Act→World→Prop} {Kr:Act→World→Prop} {env:ko} {w:World}
variable {ops:Array Oper} {rest:List Oper} {o:Oper} {i d:Nat} {v u:Value} {x y:Operand} {t t' e:TypeId}
theorem nO {f:FuncId} {ys:List Operand} {vs:List Value} {xs:Array Operand} (ho:o.op= .makeFunc (.func f) ys.toArray xs) (hx0:xs= #[]) (hys:EvA n env ys vs):gJ P n env o (.func (.func f) vs.toArray #[]) w:=fun a ha=>by
 subst hx0
 simp[execOp,ho,hys.map ha,Instr.makeFunc]
end
end Go.Vc
