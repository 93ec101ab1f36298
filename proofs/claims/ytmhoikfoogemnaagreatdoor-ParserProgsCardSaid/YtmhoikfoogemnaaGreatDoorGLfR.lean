import Derived.Test.YtmhoikfoogemnaaGreatDoorGLf
namespace Go.Vc
open Go Go.RowKit
abbrev LIM:Nat:=4294967296
def lat {α:Type} (xs:List α) (i:Int):Option α:=if 0≤i then xs[i.toNat]? else none
def gm {α:Type} (xs ys:List α):Option (List α):=if xs.length+ys.length≤LIM then some (xs++ys)else none
def yk {α:Type} (xs:List α) (l h:Int):Option (List α):=if 0≤l∧l≤h∧h≤(xs.length:Int)then some ((xs.drop l.toNat).take (h.toNat - l.toNat))else none
def jE {α:Type} (xs:List α) (l:Int):Option (List α):=if 0≤l∧l≤(xs.length:Int)then some (xs.drop l.toNat)else none
def pV {α:Type} (xs:List α) (h:Int):Option (List α):=if 0≤h∧h≤(xs.length:Int)then some (xs.take h.toNat)else none
def sat (s:List UInt8) (i:Int):Option Int:=if 0≤i∧i<(s.length:Int)then some (zb s i.toNat)else none
def gd {α:Type} [Inhabited α] (g:Bool) (m:Option α):Option α:=if g=true then m else some default
def fu:Nat:=18446744073709551616
theorem ae {α β:Type} {m:Option α} {f:α→Option β} {r:β} (h:m.bind f=some r):∃ x,m=some x∧f x=some r:=Option.bind_eq_some_iff.1 h
theorem fC {p:Prop} [Decidable p] {β:Type} {m:Option β} {r:β} (h:(if p then m else none)=some r):p∧m=some r:=by
 by_cases hp:p
 ·rw[if_pos hp]at h;exact⟨hp,h⟩
 ·rw[if_neg hp]at h;cases h
theorem I4 {b:Bool} {β:Type} {m k:Option β} {r:β} (hb:b=true) (h:(if b=true then m else k)=some r):m=some r:=by rw[if_pos hb]at h;exact h
theorem I5 {b:Bool} {β:Type} {m k:Option β} {r:β} (hb:b=false) (h:(if b=true then m else k)=some r):k=some r:=by rw[if_neg (by simp[hb])]at h;exact h
theorem ay {α:Type} [Inhabited α] {g:Bool} {m:Option α} {x:α} (h:gd g m=some x):g=true→m=some x:=λhg=>by unfold gd at h;rw[if_pos hg]at h;exact h
theorem ak {α:Type} {a b:α} (h:some a=some b):a=b:=Option.some.inj h
theorem qm {α:Type} {xs:List α} {i:Int} {x:α} (h:lat xs i=some x):0≤i∧i<(xs.length:Int):=by
 unfold lat at h
 split at h
 ·have:=(List.getElem?_eq_some_iff.1 h).1;omega
 ·cases h
theorem EL {α:Type} {xs:List α} {i:Int} {x:α} (h:lat xs i=some x):xs[i.toNat]? =some x:=by
 unfold lat at h
 split at h
 ·exact h
 ·cases h
theorem Jo {s:List UInt8} {i:Int} {x:Int} (h:sat s i=some x):(0≤i∧i<(s.length:Int))∧x=zb s i.toNat:=by
 unfold sat at h;obtain⟨h1,h2⟩:=fC h;exact⟨h1,(ak h2).symm⟩
theorem Ab {α:Type} {xs ys zs:List α} (h:gm xs ys=some zs):xs.length+ys.length≤LIM∧zs=xs++ys:=by
 unfold gm at h;obtain⟨h1,h2⟩:=fC h;exact⟨h1,(ak h2).symm⟩
theorem wn {α:Type} {xs zs:List α} {l h:Int} (e:yk xs l h=some zs):(0≤l∧l≤h∧h≤(xs.length:Int))∧zs=(xs.drop l.toNat).take (h.toNat - l.toNat):=by
 unfold yk at e;obtain⟨h1,h2⟩:=fC e;exact⟨h1,(ak h2).symm⟩
theorem uP {α:Type} {xs zs:List α} {l:Int} (e:jE xs l=some zs):(0≤l∧l≤(xs.length:Int))∧zs=xs.drop l.toNat:=by
 unfold jE at e;obtain⟨h1,h2⟩:=fC e;exact⟨h1,(ak h2).symm⟩
theorem DO {α:Type} {xs zs:List α} {h:Int} (e:pV xs h=some zs):(0≤h∧h≤(xs.length:Int))∧zs=xs.take h.toNat:=by
 unfold pV at e;obtain⟨h1,h2⟩:=fC e;exact⟨h1,(ak h2).symm⟩
def CA (D:NP) (w:World) (ad:Addr) (l:List Value):Prop:=CellsAt w ad l∧(0<l.length→ad.block<w.heap.size∧¬ D ad.block)
def SX (D:NP) (w w':World):Prop:=∃ D',Sp D w D' w'
theorem SX.any {D:NP} {w w':World} {md:Bool} {F C:NP} (hm:md=false) (h:SX (DM md F C) w w'):SX D w w':=by
 subst hm
 obtain⟨D',h⟩:=h
 exact⟨D,h.size,λk hk hn=>⟨(h.keep k hk λh=>h).1,hn⟩⟩
theorem EJ {α:Type} {env:lw} {t:Nat} {A:Option Addr} {cap:Nat} {xs:List α} {i:Nat} {x:α} (h:look env t=some (.slice A xs.length cap)):look env t=some (.slice A (xs.set i x).length cap):=by rw[List.length_set];exact h
theorem LW {D:NP} {w:World} :SX D w w:=⟨D,L0 .rfl'⟩
theorem CA.at_ {D:NP} {w w':World} {ad:Addr} {l:List Value} (h:CA D w ad l) (hs:SX D w w'):CellsAt w' ad l:=by
 obtain⟨D',hs⟩:=hs
 rcases Nat.eq_zero_or_pos l.length with h0 | h0
 ·rw[List.eq_nil_of_length_eq_zero h0];intro j u hu;simp at hu
 ·exact h.1.same (hs.keep _ (h.2 h0).1 (h.2 h0).2).1
theorem CA.part {D:NP} {w:World} {ad:Addr} {l l':List Value} {k:Nat} (h:CA D w ad l) (hl:(l.drop k).take l'.length=l'):CA D w (ad.add k) l':=by
 refine⟨h.1.part hl,λh0=>?_⟩
 rw[ph]
 refine h.2 ?_
 rw[← hl]at h0
 simp at h0;omega
theorem CA.blk {w:World} {g:Nat} {T:TypeId} {cs:Array Value} {off:Nat} {l:List Value} (h:Blk w g T cs) (hl:(cs.toList.drop off).take l.length=l):CA du w ⟨g,off,none⟩ l:=
 ⟨LU h hl,λ_=>⟨h.lt,λh=>h⟩⟩
section
variable {C0 F C D:NP} {w0 w:World} {os:List MO} {cl:List Cl} {f:MO→List MO} {α:Type} {c:Cod α} {A:Option Addr} {xs:List α} {x:α} {i:Int} {g:Bool} {cap:Nat}
theorem SlC.lat (h:SlC c D w A cap xs) (hx:lat xs i=some x):∃ ad cs,A=some ad∧c.rel D w x cs∧CA D w (ad.add (i.toNat * c.n)) cs:=by
 obtain⟨ad,cs,h1,h2,h3⟩:=h.rd.at_ (EL hx)
 refine⟨ad,cs,h1,h2,h3,λ_=>?_⟩
 have hb:=qm hx
 obtain⟨ad',k1,k2,k3,_⟩:=h.2 (by omega)
 rw[h1]at k1;injection k1 with k1;subst k1
 rw[ph]
 exact⟨k2,k3⟩
theorem Bun.clat (h:Bun C0 F w0 C w os cl) (hi:In cl (LT c A cap xs)) (hx:Vc.lat xs i=some x):∃ ad cs,A=some ad∧c.rel (Dj F C) w x cs∧CA (Dj F C) w (ad.add (i.toNat * c.n)) cs:=
 SlC.lat (h.get hi) hx
theorem Bun.gclat (h:Bun C0 F w0 C w os cl) (hi:In cl (LT c A cap xs)) (hx:g=true→Vc.lat xs i=some x):∃ ad cs,g=true→(A=some ad∧c.rel (Dj F C) w x cs∧CA (Dj F C) w (ad.add (i.toNat * c.n)) cs):=by
 by_cases hg:g=true
 ·obtain⟨ad,cs,h1⟩:=h.clat hi (hx hg);exact⟨ad,cs,λ_=>h1⟩
 ·exact⟨default,[],λh=>absurd h hg⟩
theorem Bun.olat {e:TypeId} (h:Bun C0 F w0 C w os cl) (ha:At os (LV c e A cap xs) f) (hx:Vc.lat xs i=some x):∃ ad cs,A=some ad∧c.rel (Dj F C) w x cs∧CA du w (ad.add (i.toNat * c.n)) cs:=by
 obtain⟨ad,cs,h1,h2,h3⟩:=(h.rd ha).at_ (EL hx)
 refine⟨ad,cs,h1,h2,h3,λ_=>⟨?_,λh=>h⟩⟩
 have hb:=qm hx
 obtain⟨ad',k1,k2,_⟩:=(h.lend ha).2 (by omega)
 rw[h1]at k1;injection k1 with k1;subst k1
 rw[ph]
 exact k2
theorem Bun.golat {e:TypeId} (h:Bun C0 F w0 C w os cl) (ha:At os (LV c e A cap xs) f) (hx:g=true→Vc.lat xs i=some x):∃ ad cs,g=true→(A=some ad∧c.rel (Dj F C) w x cs∧CA du w (ad.add (i.toNat * c.n)) cs):=by
 by_cases hg:g=true
 ·obtain⟨ad,cs,h1⟩:=h.olat ha (hx hg);exact⟨ad,cs,λ_=>h1⟩
 ·exact⟨default,[],λh=>absurd h hg⟩
theorem Bun.addr {e:TypeId} (h:Bun C0 F w0 C w os cl) (ha:At os (LV c e A cap xs) f) (hi:0≤i∧i<(xs.length:Int)):∃ ad,A=some ad:=by
 obtain⟨ad,h1,_⟩:=(h.lend ha).2 (by omega);exact⟨ad,h1⟩
theorem Bun.blk {b:Nat} {T:TypeId} {cs:Array Value} (h:Bun C0 F w0 C w os cl) (ha:At os (MO.box b T cs) f):Blk w b T cs:=by
 obtain⟨C1,h1,_⟩:=h.look ha;exact h1.2
end
section
variable {P:Program} {ro:Ro} {n:Fr} {Kn:Act→World→Prop} {Ke:Nat→Act→World→Prop} {Kr:Act→World→Prop} {env:lw} {w:World}
variable {ops:Array Oper} {rest:List Oper} {rs:Tr} {fl:Fl} {o:Oper} {i d:Nat} {v:Value} {x y z:Operand} {t e:TypeId} {md:Bool} {X:List Nat}
variable {C0 F C:NP} {w0:World} {os:List MO} {cl:List Cl} {f:MO→List MO} {α:Type} {c:Cod α} {A:Option Addr} {xs:List α}
abbrev SN (X:List Nat) (D:NP) (w:World):Sn:=⟨X,SX D w⟩
theorem aJ {id:Nat} {ops:Array Oper} (X:List Nat) (md:Bool) (order:Tr) (hI:Bun C0 F w0 C w os cl) (hm:P.follows .mixedOrders=true) (hs:(plainOps ops&&eD ops order (Array.replicate ops.size false)&&(order.len==ops.size)&&order.plain)=true)
  (h:∀ w',Bun C0 F w0 C w' os cl→dw P ro n ops Kn Ke Kr (SN X (DM md F C) w') order env w'):im P ro n (.region id ops true) Kn Ke Kr env w:=
 Kq (SN X (DM md F C) w.drew) order hm hs LW (h _ (hI.ext Ext.drew))
theorem zW {X:List Nat} {D1 D2:NP} {w1 w2:World} (h12:Sp D1 w1 D2 w2) (h:dw P ro n ops Kn Ke Kr (SN X D2 w2) rs env w2):dw P ro n ops Kn Ke Kr (SN X D1 w1) rs env w2:=
 Ku (S:=SN X D1 w1) (SX D2 w2) (λ_ ⟨D',h'⟩=>⟨D',h12.trans h'⟩) LW h
theorem bK {X:List Nat} {D:NP} (hx:X.contains i=true) (hin:Nat.blt i ops.size=true) (h:dw P ro n ops Kn Ke Kr (SN [] (DM true F C) w) (.c (i,.s) rs) env w):dw P ro n ops Kn Ke Kr (SN X D w) (.c (i,.s) rs) env w:=
 Iz (S:=SN X D w) (S2:=SX (DM true F C) w) hx LW hin h
theorem Bun.alloc (hI:Bun C0 F w0 C w os cl) (t:TypeId) (cs:Array Value):∃ C',(∀ md,Sp (DM md F C) w (DM md F C') (w.alloc (.cells cs t)))∧Bun C0 F w0 C' (w.alloc (.cells cs t)) (MO.box w.heap.size t cs::os) cl:=
 hI.new (b:=w.heap.size) (Ext.alloc _) rfl (by simp) λD _=>⟨λ_=>Iff.rfl,Blk.new⟩
theorem dl {z:Value} {cs:Array Value} (hI:Bun C0 F w0 C w os cl) (hg:oU n env ops o true) (hd:o.dst=some d) (ho:o.op= .alloc t) (hz:((P.info? t).bind (·.zero))=some z) (hcs:z.cells=cs)
  (h:∀ b C' w',Bun C0 F w0 C' w' (MO.box b t cs::os) cl→dM P ro n ops Kn Ke Kr rest ((d,.pointer (some ⟨b,0,none⟩))::env) w'):dM P ro n ops Kn Ke Kr (o::rest) env w:=by
 obtain⟨C',_,h2⟩:=hI.alloc t cs
 subst hcs
 exact Cj hg hd (xC ho hz) (h _ _ _ h2)
theorem kL {cs:Array Value} (hI:Bun C0 F w0 C w os cl) (hg:oU n env ops o true) (hd:o.dst=some d) (ho:o.op= .box t x) (hx:Ev n env x v) (hcs:v.cells=cs)
  (h:∀ b C' w',Bun C0 F w0 C' w' (MO.box b t cs::os) cl→dM P ro n ops Kn Ke Kr rest ((d,.pointer (some ⟨b,0,none⟩))::env) w'):dM P ro n ops Kn Ke Kr (o::rest) env w:=by
 obtain⟨C',_,h2⟩:=hI.alloc t cs
 subst hcs
 exact Cj hg hd (K5 ho hx) (h _ _ _ h2)
theorem gS {z:Value} {cs:Array Value} (hI:Bun C0 F w0 C w os cl) (hi:ops[i]? =some o) (hg:oU n env ops o true) (hd:o.dst=some d) (ho:o.op= .alloc t) (hz:((P.info? t).bind (·.zero))=some z) (hcs:z.cells=cs)
  (h:∀ b C' w',Bun C0 F w0 C' w' (MO.box b t cs::os) cl→dw P ro n ops Kn Ke Kr (SN X (DM md F C') w') rs ((d,.pointer (some ⟨b,0,none⟩))::env) w') (hX:X.contains i=false:=by rfl) (hfl:fl.solo=true:=by rfl):dw P ro n ops Kn Ke Kr (SN X (DM md F C) w) (.c (i,fl) rs) env w:=by
 obtain⟨C',h1,h2⟩:=hI.alloc t cs
 subst hcs
 exact bq (hfl:=hfl) (S:=SN X (DM md F C) w) hi hg hd (xC ho hz) ⟨_,h1 md⟩ (zW (h1 md) (h _ _ _ h2)) hX
theorem Bun.setBox {g:Nat} {T:TypeId} {cs cs':Array Value} (hI:Bun C0 F w0 C w os cl) (ha:At os (MO.box g T cs) f):∃ C',Sp (Dj F C) w (Dj F C') (w.setRow g cs')∧Bun C0 F w0 C' (w.setRow g cs') (f (MO.box g T cs')) cl:=by
 obtain⟨C1,h1,h2,h3⟩:=hI.turn ha
 obtain⟨C',h4,h5⟩:=h3 (w.setRow g cs') C1 ⟨rfl,rfl,rfl,by simp,λk hk hn=>⟨setRow_other w g k cs' (λe=>hn ((h1.1 k).2 e)),hn⟩,λk hk=>by rw[(h1.1 k).1 hk];simpa using h1.2.lt⟩
 exact⟨C',h4,h5 (MO.box g T cs') ⟨h1.1,h1.2.setRow⟩⟩
theorem aQ {g off:Nat} {T:TypeId} {cs cs':Array Value} {new:List Value} (hI:Bun C0 F w0 C w os cl) (ha:At os (MO.box g T cs) f) (hg:oU n env ops o true) (hd:o.dst=none) (ho:o.op= .store t x y) (hx:Ev n env x (.pointer (some ⟨g,off,none⟩))) (hy:Ev n env y v) (hv:v.cells.toList=new) (hs:(P.info? t).map (·.size)=some new.length)
  (hone:new.all (·.oneCell')=true) (hfit:Nat.ble (off+new.length) cs.size=true) (hcs:(cs.toList.take off++new++cs.toList.drop (off+new.length)).toArray=cs')
  (h:∀ C' w',Bun C0 F w0 C' w' (f (MO.box g T cs')) cl→dM P ro n ops Kn Ke Kr rest env w'):dM P ro n ops Kn Ke Kr (o::rest) env w:=by
 obtain⟨C',_,h2⟩:=hI.setBox (cs':=cs') ha
 exact Gx hg hd (xB ho hx hy hv hs (hI.blk ha) hone hfit hcs) (h _ _ h2)
theorem tn {g off:Nat} {T:TypeId} {cs cs':Array Value} {new:List Value} (hI:Bun C0 F w0 C w os cl) (ha:At os (MO.box g T cs) f) (hi:ops[i]? =some o) (hg:oU n env ops o true) (hd:o.dst=none) (ho:o.op= .store t x y) (hx:Ev n env x (.pointer (some ⟨g,off,none⟩))) (hy:Ev n env y v) (hv:v.cells.toList=new) (hs:(P.info? t).map (·.size)=some new.length)
  (hone:new.all (·.oneCell')=true) (hfit:Nat.ble (off+new.length) cs.size=true) (hcs:(cs.toList.take off++new++cs.toList.drop (off+new.length)).toArray=cs')
  (h:∀ C' w',Bun C0 F w0 C' w' (f (MO.box g T cs')) cl→dw P ro n ops Kn Ke Kr (SN [] (Dj F C') w') rs env w') (hfl:fl.solo=true:=by rfl):dw P ro n ops Kn Ke Kr (SN [] (DM true F C) w) (.c (i,fl) rs) env w:=by
 obtain⟨C',h1,h2⟩:=hI.setBox (cs':=cs') ha
 exact Kt (hfl:=hfl) (S:=SN [] (DM true F C) w) hi hg hd (xB ho hx hy hv hs (hI.blk ha) hone hfit hcs) ⟨_,h1⟩ (zW h1 (h _ _ h2))
theorem Bun.setRow' {e:TypeId} {cap:Nat} {p:Nat} {off:Nat} {ad:Addr} {v:Value} {new:List Value} {x':α} (hI:Bun C0 F w0 C w os cl) (ha:At os (LV c e A cap xs) f) (hp:p<xs.length) (hA:A=some ad)
  (hv:v.cells.toList=new) (hs:(P.info? t).map (·.size)=some new.length) (hone:new.all (·.oneCell')=true) (hfit:off+new.length≤c.n)
  (hrel:∀ x0 cs0,xs[p]? =some x0→c.rel (Dj F C) w x0 cs0→c.rel (Dj F C) w x' (FZ cs0 off new)):
  ∃ C' w',(Instr.storeAt t (.pointer (some (ad.add (p * c.n+off)))) v).run P w= .ok () w'∧Sp (Dj F C) w (Dj F C') w'∧Bun C0 F w0 C' w' (f (LV c e A cap (xs.set p x'))) cl:=by
 subst hA
 obtain⟨C1,h1,h2,h3⟩:=hI.turn ha
 obtain⟨i0,hi0,hs⟩:=Option.map_eq_some_iff.1 hs
 have hsz:v.cells.size=i0.size:=by rw[hs, ← hv];simp
 rcases h1 with⟨_,rfl,_⟩ | ⟨css,k1,k2,k3⟩
 ·simp at hp
 ·rcases k2.2 with⟨h0,_⟩ | ⟨g,cap',cur,hq,hb,hh,q2,q3,q4,q5⟩
  ·cases h0
  ·injection hq with hA hq2 hq3
   injection hA with hA
   subst hA hq3
   have hadd:(⟨g,0,none⟩:Addr).add (p * c.n+off)=⟨g,p * c.n+off,none⟩:=by rw[Addr.add_lit];simp
   have hle:p * c.n+c.n≤xs.length * c.n:=by have:=Nat.mul_le_mul_right c.n (show p+1≤xs.length by omega);rw[Nat.add_mul]at this;omega
   have hfit':p * c.n+off+new.length≤cur.size:=by rw[q4];have:=Nat.mul_le_mul_right c.n q2;omega
   have hst:=run_storeCells_at P g (p * c.n+off) e new 0 cur w hh (by simpa using hfit') (λu hu=>List.all_eq_true.1 hone u hu)
   simp only[Nat.add_zero]at hst
   obtain⟨x0,hx0⟩:∃ x0,xs[p]? =some x0:=⟨xs[p],by simp[hp]⟩
   obtain⟨cs0,hc0,hr0⟩:=k1.at_ hx0
   have hr:=hrel x0 cs0 hx0 hr0
   have hl0:=c.len hr0
   have hlen:=k1.flat
   have hpart:=k1.part hc0
   have hsplit:FZ css.flatten (p * c.n+off) new=(css.set p (FZ cs0 off new)).flatten:=by
    have:=k1.setFlat hp (cs:=FZ cs0 off new) (c.len hr)
    rw[← this]
    have e1:css.flatten.drop (p * c.n)=cs0++css.flatten.drop (p * c.n+c.n):=by
     have:=(List.take_append_drop c.n (css.flatten.drop (p * c.n))).symm
     rw[hpart.1,List.drop_drop]at this
     exact this
    unfold FZ
    have e2:css.flatten.take (p * c.n+off)=css.flatten.take (p * c.n)++cs0.take off:=by
     rw[List.take_add,e1,List.take_append_of_le_length (by omega)]
    have e3:css.flatten.drop (p * c.n+off+new.length)=cs0.drop (off+new.length)++css.flatten.drop (p * c.n+c.n):=by
     rw[Nat.add_assoc, ← List.drop_drop,e1,List.drop_append_of_le_length (by omega)]
    have e4:(cs0.take off++new++cs0.drop (off+new.length)).length=c.n:=c.len hr
    rw[e2,e3,e4]
    simp only[List.append_assoc]
   obtain⟨C',h4,h5⟩:=h3 (w.setRow g (cur.toList.take (p * c.n+off)++new++cur.toList.drop (p * c.n+off+new.length)).toArray) C1 ⟨rfl,rfl,rfl,by simp,λk hk hn=>⟨setRow_other w g k _ (λe=>hn ((k3 k).2 (by rw[e];rfl))),hn⟩,λk hk=>by
    have:=(k3 k).1 hk
    injection this with this
    subst this
    simpa using(Array.getElem?_eq_some_iff.1 hh).1⟩
   refine⟨C',_,?_,h4,h5 (LV c e _ cap (xs.set p x')) (.inr ⟨css.set p (FZ cs0 off new),(k1.sp h4).set p (c.sp h4 hr),⟨?_,.inr ⟨g,cap,_,by simp,hb,setRow_heap w g cur _ e _ hh,by simpa using q2,q3,?_,?_⟩⟩,k3⟩)⟩
   ·simp[Instr.storeAt,Instr.sureAddr,storeVar,sizeOf,typeInfo,hi0,hsz,hv,hadd,hst]
   ·have:=((k1.sp h4).set p (c.sp h4 hr)).flat
    simpa using this
   ·simp only[List.size_toArray,List.length_append,List.length_take,List.length_drop,Array.length_toList];omega
   ·rw[← hsplit, ← q5]
    simp only[FZ,List.length_set]
    have e1:(cur.toList.take (xs.length * c.n)).take (p * c.n+off)=cur.toList.take (p * c.n+off):=by rw[List.take_take,Nat.min_eq_left (by omega)]
    rw[e1,List.drop_take]
    have hl1:(cur.toList.take (p * c.n+off)).length=p * c.n+off:=by rw[List.length_take,Array.length_toList];omega
    rw[List.take_append,List.take_of_length_le (by simp[hl1];omega)]
    congr 2
    simp[hl1]
theorem yp {cap p:Nat} {off:Nat} {ad ad':Addr} {new:List Value} {x':α} (hI:Bun C0 F w0 C w os cl) (ha:At os (LV c e A cap xs) f) (hg:oU n env ops o true) (hd:o.dst=none) (ho:o.op= .store t x y) (hp:p<xs.length) (hA:A=some ad) (had:ad'=ad.add (p * c.n+off)) (hx:Ev n env x (.pointer (some ad'))) (hy:Ev n env y v)
  (hv:v.cells.toList=new) (hs:(P.info? t).map (·.size)=some new.length) (hone:new.all (·.oneCell')=true) (hfit:off+new.length≤c.n)
  (hrel:∀ x0 cs0,xs[p]? =some x0→c.rel (Dj F C) w x0 cs0→c.rel (Dj F C) w x' (FZ cs0 off new))
  (h:∀ C' w',Bun C0 F w0 C' w' (f (LV c e A cap (xs.set p x'))) cl→dM P ro n ops Kn Ke Kr rest env w'):dM P ro n ops Kn Ke Kr (o::rest) env w:=by
 obtain⟨C',w',h1,_,h2⟩:=hI.setRow' (P:=P) (t:=t) (v:=v) ha hp hA hv hs hone hfit hrel
 subst had
 exact Gx hg hd (λa ha=>by simp only[execOp,ho,hx a ha,hy a ha,Sem.run_bind,h1,Result.andThen_ok,Sem.run_pure]) (h _ _ h2)
end
end Go.Vc
