import Derived.Test.YtmhoikfoogemnaaGreatDoorHLf
namespace Go.Vc
open Go Go.RowKit
abbrev LIM:Nat:=4294967296
def lat {α:Type} (xs:List α) (i:Int):Option α:=if 0≤i then xs[i.toNat]? else none
def bt {α:Type} (xs ys:List α):Option (List α):=if xs.length+ys.length≤LIM then some (xs++ys)else none
def vh {α:Type} (xs:List α) (l h:Int):Option (List α):=if 0≤l∧l≤h∧h≤(xs.length:Int)then some ((xs.drop l.toNat).take (h.toNat - l.toNat))else none
def iJ {α:Type} (xs:List α) (l:Int):Option (List α):=if 0≤l∧l≤(xs.length:Int)then some (xs.drop l.toNat)else none
def tF {α:Type} (xs:List α) (h:Int):Option (List α):=if 0≤h∧h≤(xs.length:Int)then some (xs.take h.toNat)else none
def sat (s:List UInt8) (i:Int):Option Int:=if 0≤i∧i<(s.length:Int)then some (Ge s i.toNat)else none
def gd {α:Type} [Inhabited α] (g:Bool) (m:Option α):Option α:=if g=true then m else some default
def fu:Nat:=18446744073709551616
theorem ab {α β:Type} {m:Option α} {f:α→Option β} {r:β} (h:m.bind f=some r):∃ x,m=some x∧f x=some r:=Option.bind_eq_some_iff.1 h
theorem fT {p:Prop} [Decidable p] {β:Type} {m:Option β} {r:β} (h:(if p then m else none)=some r):p∧m=some r:=by
 by_cases hp:p
 ·rw[if_pos hp]at h;exact⟨hp,h⟩
 ·rw[if_neg hp]at h;cases h
theorem MN {b:Bool} {β:Type} {m k:Option β} {r:β} (hb:b=true) (h:(if b=true then m else k)=some r):m=some r:=by rw[if_pos hb]at h;exact h
theorem MP {b:Bool} {β:Type} {m k:Option β} {r:β} (hb:b=false) (h:(if b=true then m else k)=some r):k=some r:=by rw[if_neg (by simp[hb])]at h;exact h
theorem ax {α:Type} [Inhabited α] {g:Bool} {m:Option α} {x:α} (h:gd g m=some x):g=true→m=some x:=λhg=>by unfold gd at h;rw[if_pos hg]at h;exact h
theorem ak {α:Type} {a b:α} (h:some a=some b):a=b:=Option.some.inj h
theorem pA {α:Type} {xs:List α} {i:Int} {x:α} (h:lat xs i=some x):0≤i∧i<(xs.length:Int):=by
 unfold lat at h
 split at h
 ·have:=(List.getElem?_eq_some_iff.1 h).1;omega
 ·cases h
theorem LN {α:Type} {xs:List α} {i:Int} {x:α} (h:lat xs i=some x):xs[i.toNat]? =some x:=by
 unfold lat at h
 split at h
 ·exact h
 ·cases h
theorem Nu {s:List UInt8} {i:Int} {x:Int} (h:sat s i=some x):(0≤i∧i<(s.length:Int))∧x=Ge s i.toNat:=by
 unfold sat at h;obtain⟨h1,h2⟩:=fT h;exact⟨h1,(ak h2).symm⟩
theorem Be {α:Type} {xs ys zs:List α} (h:bt xs ys=some zs):xs.length+ys.length≤LIM∧zs=xs++ys:=by
 unfold bt at h;obtain⟨h1,h2⟩:=fT h;exact⟨h1,(ak h2).symm⟩
theorem HU {α:Type} {xs zs:List α} {l h:Int} (e:vh xs l h=some zs):(0≤l∧l≤h∧h≤(xs.length:Int))∧zs=(xs.drop l.toNat).take (h.toNat - l.toNat):=by
 unfold vh at e;obtain⟨h1,h2⟩:=fT e;exact⟨h1,(ak h2).symm⟩
theorem vj {α:Type} {xs zs:List α} {l:Int} (e:iJ xs l=some zs):(0≤l∧l≤(xs.length:Int))∧zs=xs.drop l.toNat:=by
 unfold iJ at e;obtain⟨h1,h2⟩:=fT e;exact⟨h1,(ak h2).symm⟩
theorem FI {α:Type} {xs zs:List α} {h:Int} (e:tF xs h=some zs):(0≤h∧h≤(xs.length:Int))∧zs=xs.take h.toNat:=by
 unfold tF at e;obtain⟨h1,h2⟩:=fT e;exact⟨h1,(ak h2).symm⟩
def CA (D:NP) (w:World) (ad:Addr) (l:List Value):Prop:=CellsAt w ad l∧(0<l.length→ad.block<w.heap.size∧¬ D ad.block)
def SX (D:NP) (w w':World):Prop:=∃ D',Sp D w D' w'
theorem SX.any {D:NP} {w w':World} {md:Bool} {F C:NP} (hm:md=false) (h:SX (DM md F C) w w'):SX D w w':=by
 subst hm
 obtain⟨D',h⟩:=h
 exact⟨D,h.size,λk hk hn=>⟨(h.keep k hk λh=>h).1,hn⟩⟩
theorem Q7 {D:NP} {w:World} :SX D w w:=⟨D,Rb .rfl'⟩
theorem CA.at_ {D:NP} {w w':World} {ad:Addr} {l:List Value} (h:CA D w ad l) (hs:SX D w w'):CellsAt w' ad l:=by
 obtain⟨D',hs⟩:=hs
 rcases Nat.eq_zero_or_pos l.length with h0 | h0
 ·rw[List.eq_nil_of_length_eq_zero h0];intro j u hu;simp at hu
 ·exact h.1.same (hs.keep _ (h.2 h0).1 (h.2 h0).2).1
theorem CA.part {D:NP} {w:World} {ad:Addr} {l l':List Value} {k:Nat} (h:CA D w ad l) (hl:(l.drop k).take l'.length=l'):CA D w (ad.add k) l':=by
 refine⟨h.1.part hl,λh0=>?_⟩
 rw[qD]
 refine h.2 ?_
 rw[← hl]at h0
 simp at h0;omega
theorem CA.blk {w:World} {g:Nat} {T:TypeId} {cs:Array Value} {off:Nat} {l:List Value} (h:Blk w g T cs) (hl:(cs.toList.drop off).take l.length=l):CA cH w ⟨g,off,none⟩ l:=
 ⟨Q5 h hl,λ_=>⟨h.lt,λh=>h⟩⟩
section
variable {C0 F C D:NP} {w0 w:World} {os:List MO} {cl:List Cl} {f:MO→List MO} {α:Type} {c:Cod α} {A:Option Addr} {xs:List α} {x:α} {i:Int} {g:Bool} {cap:Nat}
theorem SlC.lat (h:SlC c D w A cap xs) (hx:lat xs i=some x):∃ ad cs,A=some ad∧c.rel D w x cs∧CA D w (ad.add (i.toNat * c.n)) cs:=by
 obtain⟨ad,cs,h1,h2,h3⟩:=h.rd.at_ (LN hx)
 refine⟨ad,cs,h1,h2,h3,λ_=>?_⟩
 have hb:=pA hx
 obtain⟨ad',k1,k2,k3,_⟩:=h.2 (by omega)
 rw[h1]at k1;injection k1 with k1;subst k1
 rw[qD]
 exact⟨k2,k3⟩
theorem Bun.clat (h:Bun C0 F w0 C w os cl) (hi:In cl (Cl.sl c A cap xs)) (hx:Vc.lat xs i=some x):∃ ad cs,A=some ad∧c.rel (Dj F C) w x cs∧CA (Dj F C) w (ad.add (i.toNat * c.n)) cs:=
 SlC.lat (h.get hi) hx
theorem Bun.gclat (h:Bun C0 F w0 C w os cl) (hi:In cl (Cl.sl c A cap xs)) (hx:g=true→Vc.lat xs i=some x):∃ ad cs,g=true→(A=some ad∧c.rel (Dj F C) w x cs∧CA (Dj F C) w (ad.add (i.toNat * c.n)) cs):=by
 by_cases hg:g=true
 ·obtain⟨ad,cs,h1⟩:=h.clat hi (hx hg);exact⟨ad,cs,λ_=>h1⟩
 ·exact⟨default,[],λh=>absurd h hg⟩
theorem Bun.blk {b:Nat} {T:TypeId} {cs:Array Value} (h:Bun C0 F w0 C w os cl) (ha:At os (MO.box b T cs) f):Blk w b T cs:=by
 obtain⟨C1,h1,_⟩:=h.look ha;exact h1.2
end
section
variable {P:Program} {ro:Ro} {n:Fr} {Kn:Act→World→Prop} {Ke:Nat→Act→World→Prop} {Kr:Act→World→Prop} {env:kW} {w:World}
variable {ops:Array Oper} {rest:List Oper} {rs:Tr} {fl:Fl} {o:Oper} {i d:Nat} {v:Value} {x y z:Operand} {t e:TypeId} {md:Bool} {X:List Nat}
variable {C0 F C:NP} {w0:World} {os:List MO} {cl:List Cl} {f:MO→List MO} {α:Type} {c:Cod α} {A:Option Addr} {xs:List α}
abbrev SN (X:List Nat) (D:NP) (w:World):Sn:=⟨X,SX D w⟩
theorem aL {id:Nat} {ops:Array Oper} (X:List Nat) (md:Bool) (order:Tr) (hI:Bun C0 F w0 C w os cl) (hm:P.follows .mixedOrders=true) (hs:(plainOps ops&&d6 ops order (Array.replicate ops.size false)&&(order.len==ops.size)&&order.plain)=true)
  (h:∀ w',Bun C0 F w0 C w' os cl→di P ro n ops Kn Ke Kr (SN X (DM md F C) w') order env w'):gH P ro n (.region id ops true) Kn Ke Kr env w:=
 Pf (SN X (DM md F C) w.drew) order hm hs Q7 (h _ (hI.ext Ext.drew))
theorem Du {X:List Nat} {D1 D2:NP} {w1 w2:World} (h12:Sp D1 w1 D2 w2) (h:di P ro n ops Kn Ke Kr (SN X D2 w2) rs env w2):di P ro n ops Kn Ke Kr (SN X D1 w1) rs env w2:=
 Pi (S:=SN X D1 w1) (SX D2 w2) (λ_ ⟨D',h'⟩=>⟨D',h12.trans h'⟩) Q7 h
theorem gQ {X:List Nat} {D:NP} (hx:X.contains i=true) (hin:Nat.blt i ops.size=true) (h:di P ro n ops Kn Ke Kr (SN [] (DM true F C) w) (.c (i,.s) rs) env w):di P ro n ops Kn Ke Kr (SN X D w) (.c (i,.s) rs) env w:=
 Ma (S:=SN X D w) (S2:=SX (DM true F C) w) hx Q7 hin h
theorem Bun.alloc (hI:Bun C0 F w0 C w os cl) (t:TypeId) (cs:Array Value):∃ C',(∀ md,Sp (DM md F C) w (DM md F C') (w.alloc (.cells cs t)))∧Bun C0 F w0 C' (w.alloc (.cells cs t)) (MO.box w.heap.size t cs::os) cl:=
 hI.new (b:=w.heap.size) (Ext.alloc _) rfl (by simp) λD _=>⟨λ_=>Iff.rfl,Blk.new⟩
theorem cY {z:Value} {cs:Array Value} (hI:Bun C0 F w0 C w os cl) (hg:oC n env ops o true) (hd:o.dst=some d) (ho:o.op= .alloc t) (hz:((P.info? t).bind (·.zero))=some z) (hcs:z.cells=cs)
  (h:∀ b C' w',Bun C0 F w0 C' w' (MO.box b t cs::os) cl→dD P ro n ops Kn Ke Kr rest ((d,.pointer (some ⟨b,0,none⟩))::env) w'):dD P ro n ops Kn Ke Kr (o::rest) env w:=by
 obtain⟨C',_,h2⟩:=hI.alloc t cs
 subst hcs
 exact DX hg hd (yg ho hz) (h _ _ _ h2)
theorem Ei {cs:Array Value} (hI:Bun C0 F w0 C w os cl) (hg:oC n env ops o true) (hd:o.dst=some d) (ho:o.op= .box t x) (hx:Ev n env x v) (hcs:v.cells=cs)
  (h:∀ b C' w',Bun C0 F w0 C' w' (MO.box b t cs::os) cl→dD P ro n ops Kn Ke Kr rest ((d,.pointer (some ⟨b,0,none⟩))::env) w'):dD P ro n ops Kn Ke Kr (o::rest) env w:=by
 obtain⟨C',_,h2⟩:=hI.alloc t cs
 subst hcs
 exact DX hg hd (P4 ho hx) (h _ _ _ h2)
theorem ji {z:Value} {cs:Array Value} (hI:Bun C0 F w0 C w os cl) (hi:ops[i]? =some o) (hg:oC n env ops o true) (hd:o.dst=some d) (ho:o.op= .alloc t) (hz:((P.info? t).bind (·.zero))=some z) (hcs:z.cells=cs)
  (h:∀ b C' w',Bun C0 F w0 C' w' (MO.box b t cs::os) cl→di P ro n ops Kn Ke Kr (SN X (DM md F C') w') rs ((d,.pointer (some ⟨b,0,none⟩))::env) w') (hX:X.contains i=false:=by rfl) (hfl:fl.solo=true:=by rfl):di P ro n ops Kn Ke Kr (SN X (DM md F C) w) (.c (i,fl) rs) env w:=by
 obtain⟨C',h1,h2⟩:=hI.alloc t cs
 subst hcs
 exact dz (hfl:=hfl) (S:=SN X (DM md F C) w) hi hg hd (yg ho hz) ⟨_,h1 md⟩ (Du (h1 md) (h _ _ _ h2)) hX
theorem Bun.setBox {g:Nat} {T:TypeId} {cs cs':Array Value} (hI:Bun C0 F w0 C w os cl) (ha:At os (MO.box g T cs) f):∃ C',Sp (Dj F C) w (Dj F C') (w.setRow g cs')∧Bun C0 F w0 C' (w.setRow g cs') (f (MO.box g T cs')) cl:=by
 obtain⟨C1,h1,h2,h3⟩:=hI.turn ha
 obtain⟨C',h4,h5⟩:=h3 (w.setRow g cs') C1 ⟨rfl,rfl,rfl,by simp,λk hk hn=>⟨setRow_other w g k cs' (λe=>hn ((h1.1 k).2 e)),hn⟩,λk hk=>by rw[(h1.1 k).1 hk];simpa using h1.2.lt⟩
 exact⟨C',h4,h5 (MO.box g T cs') ⟨h1.1,h1.2.setRow⟩⟩
theorem bJ {g off:Nat} {T:TypeId} {cs cs':Array Value} {new:List Value} (hI:Bun C0 F w0 C w os cl) (ha:At os (MO.box g T cs) f) (hg:oC n env ops o true) (hd:o.dst=none) (ho:o.op= .store t x y) (hx:Ev n env x (.pointer (some ⟨g,off,none⟩))) (hy:Ev n env y v) (hv:v.cells.toList=new) (hs:(P.info? t).map (·.size)=some new.length)
  (hone:new.all (·.oneCell')=true) (hfit:Nat.ble (off+new.length) cs.size=true) (hcs:(cs.toList.take off++new++cs.toList.drop (off+new.length)).toArray=cs')
  (h:∀ C' w',Bun C0 F w0 C' w' (f (MO.box g T cs')) cl→dD P ro n ops Kn Ke Kr rest env w'):dD P ro n ops Kn Ke Kr (o::rest) env w:=by
 obtain⟨C',_,h2⟩:=hI.setBox (cs':=cs') ha
 exact Nv hg hd (yf ho hx hy hv hs (hI.blk ha) hone hfit hcs) (h _ _ h2)
theorem tH {g off:Nat} {T:TypeId} {cs cs':Array Value} {new:List Value} (hI:Bun C0 F w0 C w os cl) (ha:At os (MO.box g T cs) f) (hi:ops[i]? =some o) (hg:oC n env ops o true) (hd:o.dst=none) (ho:o.op= .store t x y) (hx:Ev n env x (.pointer (some ⟨g,off,none⟩))) (hy:Ev n env y v) (hv:v.cells.toList=new) (hs:(P.info? t).map (·.size)=some new.length)
  (hone:new.all (·.oneCell')=true) (hfit:Nat.ble (off+new.length) cs.size=true) (hcs:(cs.toList.take off++new++cs.toList.drop (off+new.length)).toArray=cs')
  (h:∀ C' w',Bun C0 F w0 C' w' (f (MO.box g T cs')) cl→di P ro n ops Kn Ke Kr (SN [] (Dj F C') w') rs env w') (hfl:fl.solo=true:=by rfl):di P ro n ops Kn Ke Kr (SN [] (DM true F C) w) (.c (i,fl) rs) env w:=by
 obtain⟨C',h1,h2⟩:=hI.setBox (cs':=cs') ha
 exact Ph (hfl:=hfl) (S:=SN [] (DM true F C) w) hi hg hd (yf ho hx hy hv hs (hI.blk ha) hone hfit hcs) ⟨_,h1⟩ (Du h1 (h _ _ h2))
end
end Go.Vc
