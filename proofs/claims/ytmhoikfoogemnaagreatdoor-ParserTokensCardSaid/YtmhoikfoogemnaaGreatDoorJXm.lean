import Derived.Test.YtmhoikfoogemnaaGreatDoorJLfT
import Derived.Test.YtmhoikfoogemnaaGreatDoorJLfS
import Derived.RecoverIn
import Derived.Test.YtmhoikfoogemnaaGreatDoorProg
import Derived.KernelRfl
import Derived.Lib.ParseIntB
import Derived.Lib.AtoiErrMem
import Derived.Lib.Bytealg
import Derived.Shelf.Strings.Fields
namespace Go.Vc
open Go Go.RowKit Go.WideShapes
structure GH where
 f:∀ {H:Type},DataW H→Nat
 pos:∀ {H:Type} (d:DataW H),1≤f d
 str:∀ {H:Type} (l:List UInt8),l.length+1≤f (.lit (.string l):DataW H)
 sl:∀ {H:Type} (xs ys:List (DataW H)),(xs.map f).sum+1≤f (.slice xs ys)
 agg:∀ {H:Type} (xs:List (DataW H)),(xs.map f).sum+1≤f (.agg xs)
abbrev okW {α:Type} (ok:α→Prop) (xs:List α):Prop:=(∀ x∈xs,ok x)∧xs.length≤140737488355328
abbrev HD {α:Type} (f:α→Nat) (xs:List α):Nat:=(xs.map f).sum+xs.length
abbrev E7 {H:Type} (P:Program) (t:TypeId) (d:DataW H):Prop:=(DataW.weights P t d).all (· ≤reachBytes)=true
def OpnB (P:Program) (t:TypeId) {α:Type} (c:Cod α) (ok:α→Prop) (sz:α→Nat) (N:Nat):Prop:=
 ∀ {H:Type} (enc:TypeId×Value→H) (w:World) (sp:Nat→Bool) (held:Bool) (fuel:Nat) (cs:List Value) (x:DataW H×List MemPlace),
  fuel<N→DataW.trod enc P w 0 sp held fuel t cs=some x→E7 P t x.1→∃ v:α,c.rel noM w v cs∧ok v∧∀ M:GH,sz v+1≤M.f x.1
section
variable {P:Program} {t e:TypeId} {α:Type} {c:Cod α} {ok:α→Prop} {sz:α→Nat} {N:Nat}
theorem OpnB.int {k:IntKind} (ht:P.underlying t=some (.int k)):OpnB P t (cInt k) (okI k) (fun _=>0) N:=fun enc w sp held fuel cs x _ h _=>by
 obtain⟨n,h1,_,h2⟩:=DataW.trod_int ht h
 exact⟨n,h1,h2,fun M=>by have:=M.pos x.1;omega⟩
theorem OpnB.str (ht:P.underlying t=some .string):OpnB P t cStr okS List.length N:=fun enc w sp held fuel cs x _ h _=>by
 obtain⟨s,h1,h3,h2⟩:=DataW.trod_string ht h
 refine⟨s.data.toList,?_,by show s.data.toList.length≤maxLen;rw[Array.length_toList];exact h2,fun M=> ?_⟩
 ·subst h1
  simp[cStr,Go.Vc.str]
 ·rw[h3];exact M.str _
theorem Bg {H:Type} :∀ {ds:List (DataW H)} {p:Nat→Bool} {d:DataW H},(DataW.weightsAll P e ds).all p=true→d∈ds→(DataW.weights P e d).all p=true
 | [],_,_,_,h=>by cases h
 | d::ds,p,d',h,hm=>by
  rw[DataW.weightsAll,List.all_append,Bool.and_eq_true]at h
  rcases List.mem_cons.1 hm with rfl | hm
  ·exact h.1
  ·exact Bg h.2 hm
theorem uX {H:Type} :∀ {ts:List TypeId} {ds:List (DataW H)} {p:Nat→Bool} {i:Nat} {t:TypeId} {d:DataW H},(DataW.weightsEach P ts ds).all p=true→ts[i]? =some t→ds[i]? =some d→(DataW.weights P t d).all p=true
 | [],_,_,_,_,_,_,h,_=>by cases h
 | _ :: _,[],_,_,_,_,_,_,h=>by cases h
 | t::ts,d::ds,p,i,t',d',h,ht,hd=>by
  rw[DataW.weightsEach,List.all_append,Bool.and_eq_true]at h
  cases i with
  | zero=>injection ht with ht;injection hd with hd;subst ht;subst hd;exact h.1
  | succ i=>exact uX h.2 ht hd
theorem wAgg_at {H:Type} {fs:Array Field} {ds:List (DataW H)} {i:Nat} {f:Field} {d:DataW H} (ht:P.underlying t=some (.struct fs)) (h:E7 P t (.agg ds)) (hf:fs[i]? =some f) (hd:ds[i]? =some d):E7 P f.type d:=by
 unfold E7 at h
 rw[DataW.weights,ht]at h
 exact uX h (by rw[List.getElem?_map,Array.getElem?_toList,hf];rfl) hd
theorem wSl {H:Type} {xs ys:List (DataW H)} (ht:P.underlying t=some (.slice e)) (hb:Nat.blt 0 (P.bytesOf e)=true) (h:E7 P t (.slice xs ys)):xs.length≤140737488355328∧∀ d∈xs,E7 P e d:=by
 unfold E7 at h
 rw[DataW.weights,ht]at h
 simp only[List.all_cons,Bool.and_eq_true,List.all_append]at h
 refine⟨?_,fun d hd=>Bg h.2.1 hd⟩
 have h1:(xs.length+ys.length) * P.bytesOf e≤reachBytes:=of_decide_eq_true h.1
 have h2:0<P.bytesOf e:=Nat.le_of_ble_eq_true hb
 have h3:(xs.length+ys.length) * 1≤(xs.length+ys.length) * P.bytesOf e:=Nat.mul_le_mul_left _ h2
 unfold reachBytes at h1
 omega
theorem CU {β:Type} (f:α→Nat) (g:β→Nat):∀ (xs:List α) (ys:List β),xs.length=ys.length→(∀ i (hi:i<xs.length) (hj:i<ys.length),f xs[i]+1≤g ys[i])→HD f xs≤(ys.map g).sum
 | [],[],_,_=>Nat.le_refl _
 | [],_ :: _,h,_=>by simp at h
 | _ :: _,[],h,_=>by simp at h
 | x::xs,y::ys,h,hp=>by
  have h1:=hp 0 (by simp) (by simp)
  have h2:=CU f g xs ys (by simpa using h) fun i hi hj=>hp (i+1) (by simpa using hi) (by simpa using hj)
  simp only[HD,List.map_cons,List.sum_cons,List.length_cons,List.getElem_cons_zero]at *
  omega
theorem OpnB.sl (ht:P.underlying t=some (.slice e)) (hc:P.cellsOf e=c.n) (h0:0<c.n) (hb:Nat.blt 0 (P.bytesOf e)=true) (he:OpnB P e c ok sz N):OpnB P t (cSl c) (okW ok) (HD sz) N:=fun enc w sp held fuel cs x hN h hw=>by
 rcases DataW.trod_slice ht h with⟨h1,_⟩ | ⟨a,len,cap,elems,rest,n,hfn,h1,hx,_,hcap,hmax,hlen,hel,_⟩
 ·exact⟨[],⟨none,0,h1,SlC.nil⟩,⟨fun x hx=>(by simp at hx),by simp⟩,fun M=>by have:=M.pos x.1;simpa[HD]using this⟩
 ·subst hx
  obtain⟨hw1,hw2⟩:=wSl ht hb hw
  rw[List.length_map]at hw1
  obtain⟨l,hl,hp⟩:=ED (fun i (q:α×List Value)=>((c.rel noM w q.1 q.2∧ok q.1)∧CellsAt w (a.add (i * c.n)) q.2)∧∀ M:GH,∀ y,elems[i]? =some y→sz q.1+1≤M.f y.1) len fun i hi=>by
   have h2:=hel i hi
   obtain⟨y,hy⟩:∃ y,elems[i]? =some y:=⟨elems[i]'(by omega),by simp[hlen,hi]⟩
   rw[hy,Option.bind_eq_some_iff]at h2
   obtain⟨cs',h3,h4⟩:=h2
   obtain⟨h5,h6⟩:=AV h3
   obtain⟨v,h7,h8,h9⟩:=he enc w sp held n cs' y (by omega) h4 (hw2 _ (List.mem_map_of_mem (List.mem_of_getElem? hy)))
   rw[hc]at h6
   exact⟨(v,cs'),⟨⟨h7,h8⟩,h6⟩,fun M y' hy'=>by rw[hy]at hy';injection hy' with hy';subst hy';exact h9 M⟩
  have hall:∀ q∈l,c.rel noM w q.1 q.2∧ok q.1:=fun q hq=>by
   obtain⟨i,hi,rfl⟩:=List.getElem_of_mem hq
   exact(hp i hi).1.1
  refine⟨l.map (·.1),⟨some a,cap,by rw[h1,List.length_map,hl],?_⟩,⟨fun x hx=> ?_,?_⟩,fun M=> ?_⟩
  ·refine⟨by rw[List.length_map,hl];exact hcap,fun hn=>⟨a,rfl,?_,fun h=>h,l.map (·.2),Rels.of_pairs fun q hq=>(hall q hq).1,?_⟩⟩
   ·have hn':0<l.length:=by simpa using hn
    have h2:=(hp 0 hn').1
    rw[Nat.zero_mul,Addr.add_zero']at h2
    exact CellsAt.lives h2.2 (by rw[c.len (h2.1).1];exact h0)
   ·refine CellsAt.flat (k:=c.n) _ (fun x hx=> ?_) fun i hi=> ?_
    ·obtain⟨q,hq,rfl⟩:=List.mem_map.1 hx
     exact c.len (hall q hq).1
    ·rw[List.getElem_map]
     exact(hp i (by simpa using hi)).1.2
  ·obtain⟨q,hq,rfl⟩:=List.mem_map.1 hx
   exact(hall q hq).2
  ·rw[List.length_map,hl, ← hlen];exact hw1
  ·refine Nat.le_trans (Nat.add_le_add_right (CU sz M.f (l.map (·.1)) (elems.map (·.1)) (by simp[hl,hlen]) fun i hi hj=> ?_) 1) (M.sl _ _)
   simp only[List.getElem_map]
   simp only[List.length_map]at hi hj
   exact(hp i hi).2 M _ (by simp[hj])
theorem OpnB.arg {H:Type} {enc:TypeId×Value→H} {w:World} {sp:Nat→Bool} {held:Bool} {v:Value} {d:DataW H} {ps:List MemPlace} (ho:∀ N,OpnB P t c ok sz N) (h:DataW.Trod enc P w 0 sp held t v d ps) (hw:E7 P t d):∃ x,c.rel noM w x v.cells.toList∧ok x∧∀ M:GH,sz x+1≤M.f d:=by
 obtain⟨fuel,hf⟩:=h
 exact ho (fuel+1) enc w sp held fuel _ _ (Nat.lt_succ_self _) hf hw
end
end Go.Vc
namespace Go.Vc
open Go Go.RowKit
inductive bu (α:Type) where
 | ret (x:α)
 | pan (a b:Int)
def pb {α β:Type} (m:Option (bu α)) (k:α→Option (bu β)):Option (bu β):=
 match m with
 | none=>none
 | some (.pan a b)=>some (.pan a b)
 | some (.ret x)=>k x
theorem ir {α β:Type} {m:Option (bu α)} {k:α→Option (bu β)} {r:bu β} (h:pb m k=some r):(∃ x,m=some (.ret x)∧k x=some r)∨∃ a b,m=some (.pan a b)∧r= .pan a b:=by
 cases m with
 | none=>cases h
 | some q=>cases q with
  | ret x=>exact .inl ⟨x,rfl,h⟩
  | pan a b=>exact .inr ⟨a,b,rfl,(Option.some.inj h).symm⟩
theorem eH {α:Type} {x:α} {A:α→Prop} {B:Int→Int→Prop} (h:(∃ y,bu.ret x= .ret y∧A y)∨∃ a b,(bu.ret x:bu α)= .pan a b∧B a b):A x:=by
 rcases h with⟨y,h1,h2⟩ | ⟨a,b,h1,_⟩
 ·injection h1 with h1;exact h1▸h2
 ·cases h1
theorem eI {α:Type} {a b:Int} {A:α→Prop} {B:Int→Int→Prop} (h:(∃ y,(bu.pan a b:bu α)= .ret y∧A y)∨∃ c d,(bu.pan a b:bu α)= .pan c d∧B c d):B a b:=by
 rcases h with⟨y,h1,_⟩ | ⟨c,d,h1,h2⟩
 ·cases h1
 ·injection h1 with h1 h3;exact h1▸h3▸h2
def Ct {α:Type} (c:Bool) (m:Option α) (z:α):Option α:=if c=true then m else some z
theorem zF {α:Type} {c:Bool} {m:Option α} {z r:α} (hc:c=true) (h:Ct c m z=some r):m=some r:=by unfold Ct at h;rwa [if_pos hc]at h
theorem zG {α:Type} {c:Bool} {m:Option α} {z r:α} (hc:c=false) (h:Ct c m z=some r):z=r:=by unfold Ct at h;rw[if_neg (by simp[hc])]at h;exact Option.some.inj h
def xY {α β:Type} (m:Option (bu α)) (k:α→Option β) (k2:Int→Int→Option β):Option β:=
 match m with
 | none=>none
 | some (.ret x)=>k x
 | some (.pan a b)=>if b≠0 then k2 a b else none
theorem tU {α β:Type} {m:Option (bu α)} {k:α→Option β} {k2:Int→Int→Option β} {r:β} (h:xY m k k2=some r):(∃ x,m=some (.ret x)∧k x=some r)∨∃ a b,m=some (.pan a b)∧b≠0∧k2 a b=some r:=by
 cases m with
 | none=>cases h
 | some q=>cases q with
  | ret x=>exact .inl ⟨x,rfl,h⟩
  | pan a b=>
   have h':(if b≠0 then k2 a b else none)=some r:=h
   by_cases hb:b≠0
   ·rw[if_pos hb]at h';exact .inr ⟨a,b,rfl,hb,h'⟩
   ·rw[if_neg hb]at h';cases h'
abbrev pe (t:TypeId) (a b:Int):PanicEntry:= { v:= .iface t (.agg #[.int .i64 a,.int .i64 b]),recovered:=false }
section
variable {P:Program} {ro:Ro} {n:Fr} {Kn:Act→World→Prop} {Ke:Nat→Act→World→Prop} {Kr:Act→World→Prop} {env:ko} {w:World}
variable {ops:Array Oper} {rest:List Oper} {o:Oper} {i d:Nat} {v:Value} {x:Operand}
theorem yh (hn:n.ds=[]) {a:Act} (ha:Has n a env):a.defers=[]:=by rw[ha.df,hn];rfl
theorem fG {f:FuncId} {fn:Func} {c:Code} {l:List Value} {m:Nat} {K:Ending→World→Prop} (hf:P.funcs[f]? =some fn) (hb:fn.body=some c) (hn:fn.ntmps=m) (hl:Nat.ble l.length m=true)
  (h:gl P (.pan K) ⟨m,[]⟩ c (uE P fn fun v w=>K (.returned v) w) (fun _ _ _=>False) (uE P fn fun v w=>K (.returned v) w) (qU 0 l) w):Calls P f l.toArray w K:=by
 refine(callsIn_wide (n:=0)).1 (callsIn_of_wp_marks hf hb trivial ?_)
 subst hn
 refine wpIn_mono (h _ (zD hl)) fun e a w q=> ?_
 cases e with
 | normal=>obtain⟨ds,w',h1,h2,v,h3,h4⟩:=q;show LeavesInM _ _ _ _ _ _ _ _ _;rw[h1];exact mH h3 h4 ds w h2
 | ret=>obtain⟨ds,w',h1,h2,v,h3,h4⟩:=q;show LeavesInM _ _ _ _ _ _ _ _ _;rw[h1];exact mH h3 h4 ds w h2
 | panic ch=>
  obtain⟨h1,h2⟩:=q
  show LeavesInM _ _ _ _ _ _ _ _ _
  rw[h1]
  exact h2
 | exit id=>exact q.elim
 | goto l=>exact q.elim
 | outgrown=>exact q.elim
theorem rX {Q:Exit→Act→World→Prop} {K:Act→World→Prop} {r:Option Nat} {a:Act} {w':World} {f:FuncId} {args:Array Value} (hn:ga o=true) (hw:Region.wanted o (yielded ops a.tmps)=true) (hr:(execOp a.eval o).run P w= .ok (.enter f args) w')
  (h:Calls P f args w' fun e w''=>(∃ u,e= .returned u∧K (a.put o.dst u) w'')∨∃ ch,e= .panicked ch∧Q (.panic ch) a w''):qb P r ops Q o K a w:=
 rg hn hw hr ⟨sx,rZ (h.mono (by rintro e w'' (⟨u,rfl,hk⟩ | ⟨ch,rfl,hk⟩)<;>exact hk))⟩
theorem nD {f:FuncId} {args:Array Value} (hg:m9 n env ops o true) (hd:o.dst=some d) (hr:mx P n env o w (.ok (.enter f args) w))
  (h:Calls P f args w fun e w'=>(∃ v,e= .returned v∧dh P ro n ops Kn Ke Kr rest ((d,v)::env) w')∨∃ ch,e= .panicked ch∧ro.kp ch w') (hn:n.ds=[]:=by rfl):
  dh P ro n ops Kn Ke Kr (o::rest) env w:=pH fun a hnd ha=>rX hnd (hg a ha) (hr a ha) (h.mono (by
   rintro e w' (⟨u,h1,h2⟩ | ⟨ch,h1,h2⟩)
   ·exact .inl ⟨u,h1,_,by rw[hd];exact ha.put d u,h2⟩
   ·exact .inr ⟨ch,h1,yh hn ha,h2⟩))
theorem EU {S:Sn} {rs:Tr} {fl:Fl} {f:FuncId} {args:Array Value} (hi:ops[i]? =some o) (hg:m9 n env ops o true) (hd:o.dst=some d) (hr:mx P n env o w (.ok (.enter f args) w))
  (h:Calls P f args w fun e w'=>(∃ v,e= .returned v∧S.now w'∧cW P ro n ops Kn Ke Kr S rs ((d,v)::env) w')∨∃ ch,e= .panicked ch∧ro.kp ch w') (hx:S.x.contains i=false:=by rfl) (hfl:fl.solo=true:=by rfl) (hn:n.ds=[]:=by rfl):
  cW P ro n ops Kn Ke Kr S (.c (i,fl) rs) env w:=
 tN (hfl:=hfl) hi (fun a hnd ha=>rX hnd (hg a ha) (hr a ha) (h.mono (by
   rintro e w' (⟨u,h1,h2,h3⟩ | ⟨ch,h1,h2⟩)
   ·exact .inl ⟨u,h1,h2,_,by rw[hd];exact ha.put d u,h3⟩
   ·exact .inr ⟨ch,h1,yh hn ha,h2⟩))) hx
theorem fa {X:List Nat} {D:NP} {rs:Tr} {fl:Fl} {g:FuncId} {args:Array Value} (hi:ops[i]? =some o) (hg:m9 n env ops o true) (hd:o.dst=some d) (hr:mx P n env o w (.ok (.enter g args) w))
  (h:Calls P g args w fun e w'=>(∃ v,e= .returned v∧∃ D',Sp D w D' w'∧cW P ro n ops Kn Ke Kr (SN X D' w') rs ((d,v)::env) w')∨∃ ch,e= .panicked ch∧ro.kp ch w') (hX:X.contains i=false:=by rfl) (hfl:fl.solo=true:=by rfl) (hn:n.ds=[]:=by rfl):cW P ro n ops Kn Ke Kr (SN X D w) (.c (i,fl) rs) env w:=
 EU (hfl:=hfl) (S:=SN X D w) (hx:=hX) hi hg hd hr (h.mono (by
  rintro e w' (⟨v,h1,D',h2,h3⟩ | h1)
  ·exact .inl ⟨v,h1,⟨D',h2⟩,yL h2 h3⟩
  ·exact .inr h1)) hn
theorem GU {t t':TypeId} {y:Operand} {l l':List UInt8} (ho:o.op= .binOp .gtr t x y t') (hx:Ev n env x (str l)) (hy:Ev n env y (str l')):gJ P n env o (.bool (!Op.bytesLess l l'&& !decide (l=l'))) w:=iO ho hx hy (by simp[binOp,Op.stringOp];by_cases h:l=l'<;>simp[h]) (by simp[go_sem])
theorem yT {t:TypeId} {d:TypeDesc} (ho:o.op= .makeInterface t x) (ht:P.underlying t=some d) (hd:(match d with | .interface _=>true | _=>false)=false) (hx:Ev n env x v):gJ P n env o (.iface t v) w:=fun a ha=>by
 have h1:(Instr.makeInterface t v).run P w= .ok (.iface t v) w:=by
  cases d<;>first | (cases hd;done) | simp[Instr.makeInterface,run_underlying ht]
 simp[execOp,ho,hx a ha,h1]
theorem Eq {t:TypeId} (hg:m9 n env ops o true) (ho:o.op= .panic x) (hx:Ev n env x (.iface t v)) (h:ro.kp [{ v:= .iface t v,recovered:=false }] w) (hn:n.ds=[]:=by rfl):
  dh P ro n ops Kn Ke Kr (o::rest) env w:=pH fun a hnd ha=>rg hnd (hg a ha) (r:= .halt (.panic (.iface t v)) w) (by simp[execOp,ho,hx a ha];rfl) ⟨yh hn ha,h⟩
end
end Go.Vc
namespace Go.Proofs.YtmhoikfoogemnaaGreatDoor
open Go Go.RowKit Go.Vc
set_option linter.unusedVariables false
theorem AL:Tryz.prog.globalNamed "strings.asciiSpace" =some 0:=by kernel_rfl
def au:Cl:=tabCl AL .u8 Lib.asciiSpaceTab
def nr (s:List UInt8):Option (List (List UInt8)):=if(∀ b∈s,b.toNat<128)∧s.length<4294967281 then some (Lib.fields s)else none
def kz (s:List UInt8) (b bits:Int):Option (Int×Unit):=if b=10∧bits=64∧s.length≤4294967296 then(match Lib.parseIntB 64 s with | .ok v=>some (v,()) | _=>none)else none
def fB (s p:List UInt8):Option Int:=match p with
 | [c]=>some (Lib.indexByte s c)
 | _=>none
end Go.Proofs.YtmhoikfoogemnaaGreatDoor
