import Derived.Test.YtmhoikfoogemnaaGreatDoorHLfQ
import Derived.Laws.IdiomStrings
import Derived.RecoverIn
import Derived.Test.YtmhoikfoogemnaaGreatDoorProg
import Derived.KernelRfl
import Derived.Lib.ParseIntB
import Derived.Lib.AtoiErrMem
import Derived.Lib.Bytealg
import Derived.Shelf.Strings.Fields
namespace Go.Vc
open Go Go.RowKit
def Cod.bot (α:Type) (n:Nat):Cod α where
 n:=n
 rel _ _ _ _:=False
 len h:=h.elim
 one h:=h.elim
 sp _ h:=h
def Iq {α:Type} (S:Cod α→Cod α) (n:Nat):Nat→Cod α
 | 0=>Cod.bot α n
 | k+1=>S (Iq S n k)
def Cod.fix {α:Type} (S:Cod α→Cod α) (n:Nat) (hn:∀ c,(S c).n=n):Cod α where
 n:=n
 rel D w x cs:=∃ k,(Iq S n k).rel D w x cs
 len h:=by
  obtain⟨k,h⟩:=h
  cases k with
  | zero=>exact False.elim h
  | succ k=>exact((Iq S n (k+1)).len h).trans (hn _)
 one h:=by obtain⟨k,h⟩:=h;exact(Iq S n k).one h
 sp hs h:=by obtain⟨k,h⟩:=h;exact⟨k,(Iq S n k).sp hs h⟩
section
variable {α:Type} {c c':Cod α} {D:NP} {w:World} {A:Option Addr} {cap:Nat} {xs:List α} {S:Cod α→Cod α} {n:Nat}
theorem Rels.mono (hm:∀ D w x cs,c.rel D w x cs→c'.rel D w x cs):∀ {xs:List α} {css:List (List Value)},Rels c D w xs css→Rels c' D w xs css
 | [],[],h=>h
 | [],_ :: _,h=>h.elim
 | _ :: _,[],h=>h.elim
 | _ :: _,_ :: _,h=>⟨hm _ _ _ _ h.1,Rels.mono hm h.2⟩
theorem SlC.mono (h:SlC c D w A cap xs) (hm:∀ D w x cs,c.rel D w x cs→c'.rel D w x cs):SlC c' D w A cap xs:=
 ⟨h.1,λhn=>let ⟨ad,h1,h2,h3,css,h4,h5⟩:=h.2 hn;⟨ad,h1,h2,h3,css,h4.mono hm,h5⟩⟩
theorem JV (hS:∀ {c c':Cod α},(∀ D w x cs,c.rel D w x cs→c'.rel D w x cs)→∀ D w x cs,(S c).rel D w x cs→(S c').rel D w x cs) (k:Nat):∀ D w x cs,(Iq S n k).rel D w x cs→(Iq S n (k+1)).rel D w x cs:=by
 induction k with
 | zero=>exact λ_ _ _ _ h=>False.elim h
 | succ k ih=>exact hS ih
theorem Ek (hS:∀ {c c':Cod α},(∀ D w x cs,c.rel D w x cs→c'.rel D w x cs)→∀ D w x cs,(S c).rel D w x cs→(S c').rel D w x cs) {k m:Nat} (h:k≤m):∀ D w x cs,(Iq S n k).rel D w x cs→(Iq S n m).rel D w x cs:=by
 induction h with
 | refl=>exact λ_ _ _ _ h=>h
 | step _ ih=>exact λD w x cs h=>JV hS _ D w x cs (ih D w x cs h)
theorem Rels.fix_out {hn:∀ c,(S c).n=n} (hS:∀ {c c':Cod α},(∀ D w x cs,c.rel D w x cs→c'.rel D w x cs)→∀ D w x cs,(S c).rel D w x cs→(S c').rel D w x cs):∀ {xs:List α} {css:List (List Value)},Rels (Cod.fix S n hn) D w xs css→∃ k,Rels (Iq S n k) D w xs css
 | [],[],_=>⟨0,af⟩
 | [],_ :: _,h=>h.elim
 | _ :: _,[],h=>h.elim
 | _ :: _,_ :: _,h=>by
  obtain⟨⟨k,h1⟩,h2⟩:=h
  obtain⟨m,h3⟩:=Rels.fix_out hS h2
  exact⟨max k m,Ek hS (Nat.le_max_left ..) _ _ _ _ h1,h3.mono (Ek hS (Nat.le_max_right ..))⟩
theorem SlC.fix_out {hn:∀ c,(S c).n=n} (h:SlC (Cod.fix S n hn) D w A cap xs) (hS:∀ {c c':Cod α},(∀ D w x cs,c.rel D w x cs→c'.rel D w x cs)→∀ D w x cs,(S c).rel D w x cs→(S c').rel D w x cs):∃ k,SlC (Iq S n k) D w A cap xs:=by
 rcases Nat.eq_zero_or_pos xs.length with h0 | h0
 ·exact⟨0,h.1,λhn=>by omega⟩
 ·obtain⟨ad,h1,h2,h3,css,h4,h5⟩:=h.2 h0
  obtain⟨k,h6⟩:=h4.fix_out hS
  exact⟨k,h.1,λ_=>⟨ad,h1,h2,h3,css,h6,h5⟩⟩
end
section
variable {P:Program} {ro:Ro} {n:Fr} {Kn:Act→World→Prop} {Ke:Nat→Act→World→Prop} {Kr:Act→World→Prop} {env:kW} {w:World}
variable {ops:Array Oper} {rest:List Oper} {o:Oper} {i d:Nat} {v u:Value} {x y:Operand} {t t' e:TypeId}
theorem oZ {f:FuncId} {ys:List Operand} {vs:List Value} {xs:Array Operand} (ho:o.op= .makeFunc (.func f) ys.toArray xs) (hx0:xs= #[]) (hys:EvA n env ys vs):hH P n env o (.func (.func f) vs.toArray #[]) w:=λa ha=>by
 subst hx0
 simp[execOp,ho,hys.map ha,Instr.makeFunc]
def xo (l:List Int):List UInt8:=l.map λz=>UInt8.ofNat z.toNat
theorem xG:∀ (l:List Int) (r:ByteArray),l.foldl (λr n=>r.push (UInt8.ofNat n.toNat)) r=⟨r.data++(xo l).toArray⟩
 | [],r=>by simp[xo]
 | z::l,r=>by
  simp only[List.foldl_cons]
  rw[xG l]
  simp[ByteArray.push,xo]
theorem D0 {D:NP} {k:IntKind} :∀ {l:List Int} {css:List (List Value)},Rels (nz k) D w l css→css.flatten=l.map (Value.int k)
 | [],[],_=>rfl
 | [],_ :: _,h=>h.elim
 | _ :: _,[],h=>h.elim
 | x::l,cs::css,h=>by
  have h1:cs=[.int k x]:=h.1
  rw[List.flatten_cons,D0 h.2,h1];rfl
theorem Fc {D:NP} {A:Option Addr} {cap:Nat} {l:List Int} (ho:o.op= .convert t t' x) (hx:Ev n env x (.slice A l.length cap)) (ht:P.underlying t=some (.slice e)) (ht':P.underlying t'=some .string) (he:P.underlying e=some (.int .u8)) (hr:Rd (nz .u8) D w A l):hH P n env o (str (xo l)) w:=λa ha=>by
 have key:(convert t t' (.slice A l.length cap)).run P w= .ok (str (xo l)) w:=by
  rw[run_convert_bytes_string w t t' e A l.length cap ht he ht']
  cases A with
  | none=>
   have:l=[]:=List.eq_nil_of_length_eq_zero (Nat.eq_zero_of_not_pos λh=>by obtain⟨_,h1,_⟩:=hr h;cases h1)
   subst this
   rfl
  | some ad=>
   have hl:(loadCells ad l.length).run P w= .ok (l.map (Value.int .u8)).toArray w:=by
    have:=run_loadCells_list (P:=P) (w:=w) ad (l.map (Value.int .u8)) (λj v hj=>by
     have hp:0<l.length:=by
      have:=(List.getElem?_eq_some_iff.1 hj).1
      simp at this;omega
     obtain⟨ad',h1,css,h2,h3⟩:=hr hp
     injection h1 with h1
     subst h1
     exact h3 j v (by rw[D0 h2];exact hj))
    simpa using this
   rw[run_bytesToString w ad l.length cap l hl,xG]
   simp[str]
 simp[execOp,ho,hx a ha,key]
theorem BF {fs:Array Field} {f:Field} {i:Nat} {ad:Addr} {o1:Nat} (ho:o.op= .fieldAddr t x i) (hx:Ev n env x (.pointer (some (ad.add o1)))) (ht:P.underlying t=some (.struct fs)) (hf:fs[i]? =some f) {s off:Nat} (hs:(P.info? f.type).map (·.size)=some (s+1)) (hoff:o1+f.offset=off):hH P n env o (.pointer (some (ad.add off))) w:=by
 have h:=aq (w:=w) ho hx ht hf hs rfl
 rw[HA,hoff]at h
 exact h
end
end Go.Vc
namespace Go.Vc
open Go Go.RowKit Go.WideShapes
structure Mh where
 f:∀ {H:Type},DataW H→Nat
 pos:∀ {H:Type} (d:DataW H),1≤f d
 str:∀ {H:Type} (l:List UInt8),l.length+1≤f (.lit (.string l):DataW H)
 sl:∀ {H:Type} (xs ys:List (DataW H)),(xs.map f).sum+1≤f (.slice xs ys)
 agg:∀ {H:Type} (xs:List (DataW H)),(xs.map f).sum+1≤f (.agg xs)
abbrev Cc {α:Type} (ok:α→Prop) (xs:List α):Prop:=(∀ x∈xs,ok x)∧xs.length≤140737488355328
abbrev oz {α:Type} (f:α→Nat) (xs:List α):Nat:=(xs.map f).sum+xs.length
abbrev Mr {H:Type} (P:Program) (t:TypeId) (d:DataW H):Prop:=(DataW.weights P t d).all (· ≤reachBytes)=true
def OpnB (P:Program) (t:TypeId) {α:Type} (c:Cod α) (ok:α→Prop) (sz:α→Nat) (N:Nat):Prop:=
 ∀ {H:Type} (enc:TypeId×Value→H) (w:World) (sp:Nat→Bool) (held:Bool) (fuel:Nat) (cs:List Value) (x:DataW H×List MemPlace),
  fuel<N→DataW.trod enc P w 0 sp held fuel t cs=some x→Mr P t x.1→∃ v:α,c.rel cH w v cs∧ok v∧∀ M:Mh,sz v+1≤M.f x.1
section
variable {P:Program} {t e:TypeId} {α:Type} {c:Cod α} {ok:α→Prop} {sz:α→Nat} {N:Nat}
theorem OpnB.zero:OpnB P t c ok sz 0:=λ_ _ _ _ _ _ _ h=>absurd h (Nat.not_lt_zero _)
theorem OpnB.int {k:IntKind} (ht:P.underlying t=some (.int k)):OpnB P t (nz k) (GY k) (λ_=>0) N:=λenc w sp held fuel cs x _ h _=>by
 obtain⟨n,h1,_,h2⟩:=DataW.trod_int ht h
 exact⟨n,h1,h2,λM=>by have:=M.pos x.1;omega⟩
theorem OpnB.bool (ht:P.underlying t=some .bool):OpnB P t M4 okB (λ_=>0) N:=λenc w sp held fuel cs x _ h _=>by
 obtain⟨n,h1,_⟩:=DataW.trod_bool ht h
 exact⟨n,h1,af,λM=>by have:=M.pos x.1;omega⟩
theorem OpnB.str (ht:P.underlying t=some .string):OpnB P t be KK List.length N:=λenc w sp held fuel cs x _ h _=>by
 obtain⟨s,h1,h3,h2⟩:=DataW.trod_string ht h
 refine⟨s.data.toList,?_,by show s.data.toList.length≤maxLen;rw[Array.length_toList];exact h2,λM=>?_⟩
 ·subst h1
  simp[be,Go.Vc.str]
 ·rw[h3];exact M.str _
theorem Gv {H:Type} :∀ {ds:List (DataW H)} {p:Nat→Bool} {d:DataW H},(DataW.weightsAll P e ds).all p=true→d∈ds→(DataW.weights P e d).all p=true
 | [],_,_,_,h=>by cases h
 | d::ds,p,d',h,hm=>by
  rw[DataW.weightsAll,List.all_append,Bool.and_eq_true]at h
  rcases List.mem_cons.1 hm with rfl | hm
  ·exact h.1
  ·exact Gv h.2 hm
theorem yw {H:Type} :∀ {ts:List TypeId} {ds:List (DataW H)} {p:Nat→Bool} {i:Nat} {t:TypeId} {d:DataW H},(DataW.weightsEach P ts ds).all p=true→ts[i]? =some t→ds[i]? =some d→(DataW.weights P t d).all p=true
 | [],_,_,_,_,_,_,h,_=>by cases h
 | _ :: _,[],_,_,_,_,_,_,h=>by cases h
 | t::ts,d::ds,p,i,t',d',h,ht,hd=>by
  rw[DataW.weightsEach,List.all_append,Bool.and_eq_true]at h
  cases i with
  | zero=>injection ht with ht;injection hd with hd;subst ht;subst hd;exact h.1
  | succ i=>exact yw h.2 ht hd
theorem cq {H:Type} {fs:Array Field} {ds:List (DataW H)} {i:Nat} {f:Field} {d:DataW H} (ht:P.underlying t=some (.struct fs)) (h:Mr P t (.agg ds)) (hf:fs[i]? =some f) (hd:ds[i]? =some d):Mr P f.type d:=by
 unfold Mr at h
 rw[DataW.weights,ht]at h
 exact yw h (by rw[List.getElem?_map,Array.getElem?_toList,hf];rfl) hd
theorem wSl {H:Type} {xs ys:List (DataW H)} (ht:P.underlying t=some (.slice e)) (hb:Nat.blt 0 (P.bytesOf e)=true) (h:Mr P t (.slice xs ys)):xs.length≤140737488355328∧∀ d∈xs,Mr P e d:=by
 unfold Mr at h
 rw[DataW.weights,ht]at h
 simp only[List.all_cons,Bool.and_eq_true,List.all_append]at h
 refine⟨?_,λd hd=>Gv h.2.1 hd⟩
 have h1:(xs.length+ys.length) * P.bytesOf e≤reachBytes:=of_decide_eq_true h.1
 have h2:0<P.bytesOf e:=Nat.le_of_ble_eq_true hb
 have h3:(xs.length+ys.length) * 1≤(xs.length+ys.length) * P.bytesOf e:=Nat.mul_le_mul_left _ h2
 unfold reachBytes at h1
 omega
theorem IZ {β:Type} (f:α→Nat) (g:β→Nat):∀ (xs:List α) (ys:List β),xs.length=ys.length→(∀ i (hi:i<xs.length) (hj:i<ys.length),f xs[i]+1≤g ys[i])→oz f xs≤(ys.map g).sum
 | [],[],_,_=>Nat.le_refl _
 | [],_ :: _,h,_=>by simp at h
 | _ :: _,[],h,_=>by simp at h
 | x::xs,y::ys,h,hp=>by
  have h1:=hp 0 (by simp) (by simp)
  have h2:=IZ f g xs ys (by simpa using h) λi hi hj=>hp (i+1) (by simpa using hi) (by simpa using hj)
  simp only[oz,List.map_cons,List.sum_cons,List.length_cons,List.getElem_cons_zero]at *
  omega
theorem OpnB.sl (ht:P.underlying t=some (.slice e)) (hc:P.cellsOf e=c.n) (h0:0<c.n) (hb:Nat.blt 0 (P.bytesOf e)=true) (he:OpnB P e c ok sz N):OpnB P t (Ik c) (Cc ok) (oz sz) N:=λenc w sp held fuel cs x hN h hw=>by
 rcases DataW.trod_slice ht h with⟨h1,_⟩ | ⟨a,len,cap,elems,rest,n,hfn,h1,hx,_,hcap,hmax,hlen,hel,_⟩
 ·exact⟨[],⟨none,0,h1,SlC.nil⟩,⟨λx hx=>(by simp at hx),by simp⟩,λM=>by have:=M.pos x.1;simpa[oz]using this⟩
 ·subst hx
  obtain⟨hw1,hw2⟩:=wSl ht hb hw
  rw[List.length_map]at hw1
  obtain⟨l,hl,hp⟩:=LG (λi (q:α×List Value)=>((c.rel cH w q.1 q.2∧ok q.1)∧CellsAt w (a.add (i * c.n)) q.2)∧∀ M:Mh,∀ y,elems[i]? =some y→sz q.1+1≤M.f y.1) len λi hi=>by
   have h2:=hel i hi
   obtain⟨y,hy⟩:∃ y,elems[i]? =some y:=⟨elems[i]'(by omega),by simp[hlen,hi]⟩
   rw[hy,Option.bind_eq_some_iff]at h2
   obtain⟨cs',h3,h4⟩:=h2
   obtain⟨h5,h6⟩:=F5 h3
   obtain⟨v,h7,h8,h9⟩:=he enc w sp held n cs' y (by omega) h4 (hw2 _ (List.mem_map_of_mem (List.mem_of_getElem? hy)))
   rw[hc]at h6
   exact⟨(v,cs'),⟨⟨h7,h8⟩,h6⟩,λM y' hy'=>by rw[hy]at hy';injection hy' with hy';subst hy';exact h9 M⟩
  have hall:∀ q∈l,c.rel cH w q.1 q.2∧ok q.1:=λq hq=>by
   obtain⟨i,hi,rfl⟩:=List.getElem_of_mem hq
   exact(hp i hi).1.1
  refine⟨l.map (·.1),⟨some a,cap,by rw[h1,List.length_map,hl],?_⟩,⟨λx hx=>?_,?_⟩,λM=>?_⟩
  ·refine⟨by rw[List.length_map,hl];exact hcap,λhn=>⟨a,rfl,?_,λh=>h,l.map (·.2),Rels.of_pairs λq hq=>(hall q hq).1,?_⟩⟩
   ·have hn':0<l.length:=by simpa using hn
    have h2:=(hp 0 hn').1
    rw[Nat.zero_mul,Addr.add_zero']at h2
    exact CellsAt.lives h2.2 (by rw[c.len (h2.1).1];exact h0)
   ·refine CellsAt.flat (k:=c.n) _ (λx hx=>?_) λi hi=>?_
    ·obtain⟨q,hq,rfl⟩:=List.mem_map.1 hx
     exact c.len (hall q hq).1
    ·rw[List.getElem_map]
     exact(hp i (by simpa using hi)).1.2
  ·obtain⟨q,hq,rfl⟩:=List.mem_map.1 hx
   exact(hall q hq).2
  ·rw[List.length_map,hl, ← hlen];exact hw1
  ·refine Nat.le_trans (Nat.add_le_add_right (IZ sz M.f (l.map (·.1)) (elems.map (·.1)) (by simp[hl,hlen]) λi hi hj=>?_) 1) (M.sl _ _)
   simp only[List.getElem_map]
   simp only[List.length_map]at hi hj
   exact(hp i hi).2 M _ (by simp[hj])
theorem OpnB.arg {H:Type} {enc:TypeId×Value→H} {w:World} {sp:Nat→Bool} {held:Bool} {v:Value} {d:DataW H} {ps:List MemPlace} (ho:∀ N,OpnB P t c ok sz N) (h:DataW.Trod enc P w 0 sp held t v d ps) (hw:Mr P t d):∃ x,c.rel cH w x v.cells.toList∧ok x∧∀ M:Mh,sz x+1≤M.f d:=by
 obtain⟨fuel,hf⟩:=h
 exact ho (fuel+1) enc w sp held fuel _ _ (Nat.lt_succ_self _) hf hw
end
end Go.Vc
namespace Go.Vc
open Go Go.RowKit
inductive bZ (α:Type) where
 | ret (x:α)
 | pan (a b:Int)
def pb {α β:Type} (m:Option (bZ α)) (k:α→Option (bZ β)):Option (bZ β):=
 match m with
 | none=>none
 | some (.pan a b)=>some (.pan a b)
 | some (.ret x)=>k x
theorem en {α β:Type} {m:Option (bZ α)} {k:α→Option (bZ β)} {r:bZ β} (h:pb m k=some r):(∃ x,m=some (.ret x)∧k x=some r)∨∃ a b,m=some (.pan a b)∧r= .pan a b:=by
 cases m with
 | none=>cases h
 | some q=>cases q with
  | ret x=>exact .inl ⟨x,rfl,h⟩
  | pan a b=>exact .inr ⟨a,b,rfl,(Option.some.inj h).symm⟩
theorem aW {α β:Type} {x:α} {k:α→Option (bZ β)} :pb (some (.ret x)) k=k x:=rfl
theorem cy {α:Type} {x:α} {A:α→Prop} {B:Int→Int→Prop} (h:(∃ y,bZ.ret x= .ret y∧A y)∨∃ a b,(bZ.ret x:bZ α)= .pan a b∧B a b):A x:=by
 rcases h with⟨y,h1,h2⟩ | ⟨a,b,h1,_⟩
 ·injection h1 with h1;exact h1▸h2
 ·cases h1
theorem cz {α:Type} {a b:Int} {A:α→Prop} {B:Int→Int→Prop} (h:(∃ y,(bZ.pan a b:bZ α)= .ret y∧A y)∨∃ c d,(bZ.pan a b:bZ α)= .pan c d∧B c d):B a b:=by
 rcases h with⟨y,h1,_⟩ | ⟨c,d,h1,h2⟩
 ·cases h1
 ·injection h1 with h1 h3;exact h1▸h3▸h2
def MR {α:Type} (c:Bool) (m:Option α) (z:α):Option α:=if c=true then m else some z
theorem Qv {α:Type} {c:Bool} {m:Option α} {z r:α} (hc:c=true) (h:MR c m z=some r):m=some r:=by unfold MR at h;rwa [if_pos hc]at h
theorem Qw {α:Type} {c:Bool} {m:Option α} {z r:α} (hc:c=false) (h:MR c m z=some r):z=r:=by unfold MR at h;rw[if_neg (by simp[hc])]at h;exact Option.some.inj h
def B2 {α β:Type} (m:Option (bZ α)) (k:α→Option β) (k2:Int→Int→Option β):Option β:=
 match m with
 | none=>none
 | some (.ret x)=>k x
 | some (.pan a b)=>if b≠0 then k2 a b else none
theorem tC {α β:Type} {m:Option (bZ α)} {k:α→Option β} {k2:Int→Int→Option β} {r:β} (h:B2 m k k2=some r):(∃ x,m=some (.ret x)∧k x=some r)∨∃ a b,m=some (.pan a b)∧b≠0∧k2 a b=some r:=by
 cases m with
 | none=>cases h
 | some q=>cases q with
  | ret x=>exact .inl ⟨x,rfl,h⟩
  | pan a b=>
   have h':(if b≠0 then k2 a b else none)=some r:=h
   by_cases hb:b≠0
   ·rw[if_pos hb]at h';exact .inr ⟨a,b,rfl,hb,h'⟩
   ·rw[if_neg hb]at h';cases h'
abbrev pe (t:TypeId) (a b:Int):PanicEntry:= { v:= .iface t (.agg #[.int .i64 a,.int .i64 b]),recovered:=false }
section
variable {P:Program} {ro:Ro} {n:Fr} {Kn:Act→World→Prop} {Ke:Nat→Act→World→Prop} {Kr:Act→World→Prop} {env:kW} {w:World}
variable {ops:Array Oper} {rest:List Oper} {o:Oper} {i d:Nat} {v:Value} {x:Operand}
theorem CG (hn:n.ds=[]) {a:Act} (ha:Has n a env):a.defers=[]:=by rw[ha.df,hn];rfl
theorem fa {f:FuncId} {fn:Func} {c:Code} {l:List Value} {m:Nat} {K:Ending→World→Prop} (hf:P.funcs[f]? =some fn) (hb:fn.body=some c) (hn:fn.ntmps=m) (hl:Nat.ble l.length m=true)
  (h:gH P (.pan K) ⟨m,[]⟩ c (yc P fn λv w=>K (.returned v) w) (λ_ _ _=>False) (yc P fn λv w=>K (.returned v) w) (ue 0 l) w):Calls P f l.toArray w K:=by
 refine(callsIn_wide (n:=0)).1 (callsIn_of_wp_marks hf hb af ?_)
 subst hn
 refine wpIn_mono (h _ (En hl)) λe a w q=>?_
 cases e with
 | normal=>obtain⟨ds,w',h1,h2,v,h3,h4⟩:=q;show LeavesInM _ _ _ _ _ _ _ _ _;rw[h1];exact nM h3 h4 ds w h2
 | ret=>obtain⟨ds,w',h1,h2,v,h3,h4⟩:=q;show LeavesInM _ _ _ _ _ _ _ _ _;rw[h1];exact nM h3 h4 ds w h2
 | panic ch=>
  obtain⟨h1,h2⟩:=q
  show LeavesInM _ _ _ _ _ _ _ _ _
  rw[h1]
  exact h2
 | exit id=>exact q.elim
 | goto l=>exact q.elim
 | outgrown=>exact q.elim
theorem vt {Q:Exit→Act→World→Prop} {K:Act→World→Prop} {r:Option Nat} {a:Act} {w':World} {f:FuncId} {args:Array Value} (hn:gu o=true) (hw:Region.wanted o (yielded ops a.tmps)=true) (hr:(execOp a.eval o).run P w= .ok (.enter f args) w')
  (h:Calls P f args w' λe w''=>(∃ u,e= .returned u∧K (a.put o.dst u) w'')∨∃ ch,e= .panicked ch∧Q (.panic ch) a w''):sS P r ops Q o K a w:=
 uw hn hw hr ⟨wm,vu (h.mono (by rintro e w'' (⟨u,rfl,hk⟩ | ⟨ch,rfl,hk⟩)<;>exact hk))⟩
theorem iw {f:FuncId} {args:Array Value} (hg:oC n env ops o true) (hd:o.dst=some d) (hr:nA P n env o w (.ok (.enter f args) w))
  (h:Calls P f args w λe w'=>(∃ v,e= .returned v∧dD P ro n ops Kn Ke Kr rest ((d,v)::env) w')∨∃ ch,e= .panicked ch∧ro.kp ch w') (hn:n.ds=[]:=by rfl):
  dD P ro n ops Kn Ke Kr (o::rest) env w:=rV λa hnd ha=>vt hnd (hg a ha) (hr a ha) (h.mono (by
   rintro e w' (⟨u,h1,h2⟩ | ⟨ch,h1,h2⟩)
   ·exact .inl ⟨u,h1,_,by rw[hd];exact ha.put d u,h2⟩
   ·exact .inr ⟨ch,h1,CG hn ha,h2⟩))
theorem Mc {S:Sn} {rs:Tr} {fl:Fl} {f:FuncId} {args:Array Value} (hi:ops[i]? =some o) (hg:oC n env ops o true) (hd:o.dst=some d) (hr:nA P n env o w (.ok (.enter f args) w))
  (h:Calls P f args w λe w'=>(∃ v,e= .returned v∧S.now w'∧di P ro n ops Kn Ke Kr S rs ((d,v)::env) w')∨∃ ch,e= .panicked ch∧ro.kp ch w') (hx:S.x.contains i=false:=by rfl) (hfl:fl.solo=true:=by rfl) (hn:n.ds=[]:=by rfl):
  di P ro n ops Kn Ke Kr S (.c (i,fl) rs) env w:=
 xj (hfl:=hfl) hi (λa hnd ha=>vt hnd (hg a ha) (hr a ha) (h.mono (by
   rintro e w' (⟨u,h1,h2,h3⟩ | ⟨ch,h1,h2⟩)
   ·exact .inl ⟨u,h1,h2,_,by rw[hd];exact ha.put d u,h3⟩
   ·exact .inr ⟨ch,h1,CG hn ha,h2⟩))) hx
theorem eO {X:List Nat} {D:NP} {rs:Tr} {fl:Fl} {g:FuncId} {args:Array Value} (hi:ops[i]? =some o) (hg:oC n env ops o true) (hd:o.dst=some d) (hr:nA P n env o w (.ok (.enter g args) w))
  (h:Calls P g args w λe w'=>(∃ v,e= .returned v∧∃ D',Sp D w D' w'∧di P ro n ops Kn Ke Kr (SN X D' w') rs ((d,v)::env) w')∨∃ ch,e= .panicked ch∧ro.kp ch w') (hX:X.contains i=false:=by rfl) (hfl:fl.solo=true:=by rfl) (hn:n.ds=[]:=by rfl):di P ro n ops Kn Ke Kr (SN X D w) (.c (i,fl) rs) env w:=
 Mc (hfl:=hfl) (S:=SN X D w) (hx:=hX) hi hg hd hr (h.mono (by
  rintro e w' (⟨v,h1,D',h2,h3⟩ | h1)
  ·exact .inl ⟨v,h1,⟨D',h2⟩,Du h2 h3⟩
  ·exact .inr h1)) hn
theorem DD {t:TypeId} {d:TypeDesc} (ho:o.op= .makeInterface t x) (ht:P.underlying t=some d) (hd:(match d with | .interface _=>true | _=>false)=false) (hx:Ev n env x v):hH P n env o (.iface t v) w:=λa ha=>by
 have h1:(Instr.makeInterface t v).run P w= .ok (.iface t v) w:=by
  cases d<;>first | (cases hd;done) | simp[Instr.makeInterface,run_underlying ht]
 simp[execOp,ho,hx a ha,h1]
theorem Lk {t:TypeId} (hg:oC n env ops o true) (ho:o.op= .panic x) (hx:Ev n env x (.iface t v)) (h:ro.kp [{ v:= .iface t v,recovered:=false }] w) (hn:n.ds=[]:=by rfl):
  dD P ro n ops Kn Ke Kr (o::rest) env w:=rV λa hnd ha=>uw hnd (hg a ha) (r:= .halt (.panic (.iface t v)) w) (by simp[execOp,ho,hx a ha];rfl) ⟨CG hn ha,h⟩
end
end Go.Vc
namespace Go.Proofs.YtmhoikfoogemnaaGreatDoor
open Go Go.RowKit Go.Vc
set_option linter.unusedVariables false
theorem FQ:Tryz.prog.globalNamed "strings.asciiSpace" =some 0:=by kernel_rfl
def au:Cl:=tabCl FQ .u8 Lib.asciiSpaceTab
def oE (s:List UInt8):Option (List (List UInt8)):=if(∀ b∈s,b.toNat<128)∧s.length<4294967281 then some (Lib.fields s)else none
def kO (s:List UInt8) (b bits:Int):Option (Int×Unit):=if b=10∧bits=64∧s.length≤4294967296 then(match Lib.parseIntB 64 s with | .ok v=>some (v,()) | _=>none)else none
def fY (s p:List UInt8):Option Int:=match p with
 | [c]=>some (Lib.indexByte s c)
 | _=>none
end Go.Proofs.YtmhoikfoogemnaaGreatDoor
