import Derived.Test.YtmhoikfoogemnaaGreatDoorGEc
namespace Go.Proofs.YtmhoikfoogemnaaGreatDoor
open Go Go.RowKit Go.Vc
set_option linter.unusedVariables false
set_option linter.unusedSimpArgs false
abbrev PR:=aa
abbrev RS:=ab
abbrev Tk:=Int×List UInt8
def tk (t:bm):Tk:=(t.Kind,t.Text)
structure Cx where
 L:List bm
 o:Nat
def St (c:Cx) (r:PR):RS:=⟨c.L,r.at_+c.o,r.deep+c.o,0,0⟩
section
variable {L:Cx}
theorem IC (r:PR):(St L r).L=L.L:=rfl
theorem tQ (r:PR):(St L r).At=r.at_+L.o:=rfl
theorem ID (r:PR):(St L r).Deep=r.deep+L.o:=rfl
theorem vW (r:PR):(St L r).E=0:=rfl
end
structure Rok (L:Cx) (r:PR):Prop where
 sm:(L.o=0∧L.L.map tk=r.l.map tk)∨(L.o=1∧L.L.map tk=(3,[40])::(r.l.map tk++[(3,[41])]))
 a0:0≤r.at_
 a1:r.at_≤r.l.length
 ll:r.l.length≤50000
 tl:∀ t∈r.l,t.Text.length≤50000
 d0:0≤r.deep
 d1:r.deep≤160
def vY (r:PR) (k:Nat):Option bm:=r.l[r.at_.toNat+k]?
def isK (o:Option bm) (kind:Int) (s:List UInt8):Bool:=match o with | some t=>decide (t.Kind=kind)&&decide (t.Text=s) | none=>false
abbrev jd (r:PR) (kind:Int) (s:List UInt8):Bool:=isK (vY r 0) kind s
def adv (r:PR):PR:=⟨r.l,r.at_+1,r.deep⟩
theorem DU {o o':Option bm} (h:o.map tk=o'.map tk) (k:Int) (s:List UInt8):isK o k s=isK o' k s:=by
 cases o with
 | none=>cases o' with
  | none=>rfl
  | some t'=>cases h
 | some t=>cases o' with
  | none=>cases h
  | some t'=>injection h with h;injection h with h1 h2;unfold isK;dsimp only;rw[h1,h2]
section
variable {r:PR} {L:Cx}
theorem Rok.o1 (h:Rok L r):L.o=0∨L.o=1:=by rcases h.sm with⟨e,_⟩ | ⟨e,_⟩<;>simp[e]
theorem Rok.lenL (h:Rok L r):L.L.length=r.l.length+2 * L.o:=by
 rcases h.sm with⟨e,h⟩ | ⟨e,h⟩
 ·have:=congrArg List.length h;simp only[List.length_map]at this;omega
 ·have:=congrArg List.length h;simp only[List.length_map,List.length_cons,List.length_append,List.length_nil]at this;omega
theorem Rok.getk (h:Rok L r) (k:Nat):(L.L[(r.at_+L.o).toNat+k]?).map tk=(vY r k).map tk∨(L.o=1∧vY r k=none∧((L.L[(r.at_+L.o).toNat+k]?).map tk=some (3,[41])∨L.L[(r.at_+L.o).toNat+k]? =none)):=by
 have h0:=h.a0
 unfold vY
 rcases h.sm with⟨e,h⟩ | ⟨e,h⟩
 ·left;rw[← List.getElem?_map,h,List.getElem?_map,e];congr 2;omega
 ·rw[← List.getElem?_map,h,e,show(r.at_+((1:Nat):Int)).toNat+k=(r.at_.toNat+k)+1 by omega,List.getElem?_cons_succ]
  by_cases c:r.at_.toNat+k<r.l.length
  ·left;rw[List.getElem?_append_left (by simpa using c),List.getElem?_map]
  ·right
   refine⟨rfl,List.getElem?_eq_none (by omega),?_⟩
   rw[List.getElem?_append_right (by simp;omega)]
   by_cases c2:r.at_.toNat+k=r.l.length
   ·left;rw[c2];simp
   ·right
    have:=congrArg List.length h
    simp only[List.length_map,List.length_cons,List.length_append,List.length_nil]at this
    exact List.getElem?_eq_none (by omega)
theorem Rok.isK (h:Rok L r) (j:Nat) {k:Int} {s:List UInt8} (hs:s≠[41]):isK L.L[(r.at_+L.o).toNat+j]? k s=isK (vY r j) k s:=by
 rcases h.getk j with e | ⟨_,e,e1 | e1⟩
 ·exact DU e k s
 ·rw[e]
  obtain⟨t,h1,h2⟩:=Option.map_eq_some_iff.1 e1
  rw[h1];injection h2 with h2 h3
  unfold Go.Proofs.YtmhoikfoogemnaaGreatDoor.isK;dsimp only;rw[h3];simp[hs.symm]
 ·rw[e,e1]
theorem Rok.tkL (h:Rok L r) {t:bm} (e:vY r 0=some t):∃ t',lat L.L (r.at_+L.o)=some t'∧t'.Kind=t.Kind∧t'.Text=t.Text:=by
 rcases h.getk 0 with h1 | ⟨_,h1,_⟩
 ·rw[e,Nat.add_zero]at h1
  obtain⟨t',h1,h2⟩:=Option.map_eq_some_iff.1 h1
  injection h2 with h2 h3
  exact⟨t',by unfold lat;rw[if_pos (by have:=h.a0;omega)];exact h1,h2,h3⟩
 ·rw[e]at h1;cases h1
theorem Rok.wi1 (h:Rok L r):au (r.at_+1)=r.at_+1:=by have:=h.a0;have:=h.a1;have:=h.ll;exact wi ⟨by omega,by omega⟩
theorem Rok.wi0 (h:Rok L r):au ((r.at_+1) - 1)=r.at_:=by have:=h.a0;have:=h.a1;have:=h.ll;rw[show r.at_+1 - 1=r.at_ by omega];exact wi ⟨by omega,by omega⟩
theorem Rok.wi0o (h:Rok L r):au (au (r.at_+L.o+1) - 1)=r.at_+L.o:=by have:=h.a0;have:=h.a1;have:=h.ll;have:=h.o1;rw[wi (p:=r.at_+L.o+1) ⟨by omega,by omega⟩,show r.at_+(L.o:Int)+1 - 1=r.at_+L.o by omega];exact wi ⟨by omega,by omega⟩
theorem Rok.lat_ (h:Rok L r):lat r.l r.at_=vY r 0:=by unfold lat vY;rw[if_pos h.a0];rfl
theorem Rok.endL (h:Rok L r) (ho:L.o=1) (e:vY r 0=none):∃ t',lat L.L (r.at_+L.o)=some t'∧t'.Kind=3∧t'.Text=[41]:=by
 have h0:=h.a0
 have h1:=h.a1
 have hl:=h.lenL
 unfold vY at e
 rw[List.getElem?_eq_none_iff]at e
 rcases h.getk 0 with h2 | ⟨_,_,h2 | h2⟩
 ·unfold vY at h2
  rw[List.getElem?_eq_none (by omega:r.l.length≤r.at_.toNat+0)]at h2
  rw[List.getElem?_eq_getElem (show(r.at_+(L.o:Int)).toNat+0<L.L.length by omega)]at h2;cases h2
 ·rw[Nat.add_zero]at h2
  obtain⟨t,h3,h4⟩:=Option.map_eq_some_iff.1 h2
  injection h4 with h4 h5
  exact⟨t,by unfold lat;rw[if_pos (by omega)];exact h3,h4,h5⟩
 ·rw[List.getElem?_eq_none_iff]at h2;omega
theorem Rok.end_ (h:Rok L r):(vY r 0=none∧r.at_=r.l.length∧decide (r.at_<(r.l.length:Int))=false∧decide ((r.l.length:Int)≤r.at_)=true)∨∃ t,vY r 0=some t∧r.at_<r.l.length∧decide (r.at_<(r.l.length:Int))=true∧decide ((r.l.length:Int)≤r.at_)=false:=by
 have h0:=h.a0
 have h1:=h.a1
 by_cases c:r.at_<r.l.length
 ·right
  obtain⟨t,ht⟩:=cC (l:=r.l) (i:=r.at_.toNat) (by omega)
  exact⟨t,ht,c,decide_eq_true c,decide_eq_false (by omega)⟩
 ·left
  exact⟨List.getElem?_eq_none (by omega),by omega,decide_eq_false c,decide_eq_true (by omega)⟩
theorem Rok.adv (h:Rok L r) (hl:r.at_<r.l.length):Rok L (adv r):=⟨h.sm,by show 0≤r.at_+1;have:=h.a0;omega,by show r.at_+1≤ _;exact hl,h.ll,h.tl,h.d0,h.d1⟩
theorem Rok.is_lt (h:Rok L r) {k:Int} {s:List UInt8} (hb:jd r k s=true):r.at_<r.l.length:=by
 rcases h.end_ with⟨e,_⟩ | ⟨t,_,e,_⟩
 ·unfold jd at hb;rw[e]at hb;cases hb
 ·exact e
theorem uN (h:Rok L r) (k:Int) (s:List UInt8):bi r k s=some (jd r k s):=by
 unfold bi jd
 rw[h.lat_]
 rcases h.end_ with⟨e,_,e2,_⟩ | ⟨t,e,_,e2,_⟩
 ·rw[e,e2];rfl
 ·rw[e,e2]
  simp only[gd,if_true,Option.bind_some,Bool.true_and,isK]
  by_cases c:t.Kind=k<;>simp[c]
theorem iR (h:Rok L r) (s:List UInt8):aE r s=some (if jd r 3 s=true then(true,adv r)else(false,r)):=by
 unfold aE
 rw[uN h,Option.bind_some,h.wi1]
 split<;>rfl
def zd (s:List UInt8):Int:=match s with | c:: _=>if 97≤c.toNat∧c.toNat≤122 then 1 else 3 | []=>3
theorem Jt {p:RS} {k:Nat} {s:List UInt8} (hs:s≠[]) (he:p.E=0) (h0:0≤p.At) (hk:p.At+k<4611686018427387904):aK p (k:Int) s=some (isK p.L[p.At.toNat+k]? (zd s) s):=by
 unfold aK
 rw[he,show au (p.At+k)=p.At+k from wi ⟨by omega,by omega⟩]
 obtain⟨c,q,rfl⟩:∃ c q,s=c::q:=by cases s with | nil=>exact absurd rfl hs | cons c q=>exact⟨c,q,rfl⟩
 by_cases hl:(p.L.length:Int)≤p.At+k
 ·rw[if_pos (by simp;omega),List.getElem?_eq_none (by omega)];rfl
 ·rw[if_neg (by simp;omega)]
  obtain⟨t,ht⟩:=cC (l:=p.L) (i:=p.At.toNat+k) (by omega)
  have hlt:lat p.L (p.At+k)=some t:=by unfold lat;rw[if_pos (by omega),show(p.At+k).toNat=p.At.toNat+k by omega];exact ht
  have hsat:sat (c::q) 0=some (c.toNat:Int):=gq (i:=0) rfl
  have hj:∀ kd:Int,l7 p k (c::q) kd=some (isK (some t) kd (c::q)):=λkd=>by
   unfold l7
   rw[show au (p.At+k)=p.At+k from wi ⟨by omega,by omega⟩,hlt,Option.bind_some]
   by_cases e:t.Kind=kd<;>simp[gd,e,isK]
  rw[hsat,Option.bind_some,hj,hj,ht]
  unfold zd;dsimp only
  by_cases c1:97≤c.toNat
  ·rw[decide_eq_true (p:=97≤(c.toNat:Int)) (by omega)]
   simp only[gd,if_true,Option.bind_some,Bool.true_and]
   by_cases c2:c.toNat≤122
   ·rw[if_pos (show 97≤c.toNat∧c.toNat≤122 from⟨c1,c2⟩),if_pos (decide_eq_true (by omega))]
   ·rw[if_neg (λh:97≤c.toNat∧c.toNat≤122=>c2 h.2),if_neg (by simp;omega)]
  ·rw[decide_eq_false (p:=97≤(c.toNat:Int)) (by omega),if_neg (λh:97≤c.toNat∧c.toNat≤122=>c1 h.1)]
   rfl
theorem jh {p:RS} (he:p.E≠0) (k:Int) (s:List UInt8):aK p k s=some false:=by
 unfold aK;rw[if_pos (by simp[he])]
theorem GL (h:Rok L r) {s:List UInt8} (hs:s≠[]) (h2:s≠[41]):aK (St L r) 0 s=some (jd r (zd s) s):=by
 have:=h.a0;have:=h.a1;have:=h.ll;have:=h.o1
 have e:=Jt (p:=St L r) (k:=0) hs rfl (by rw[tQ];omega) (by rw[tQ];omega)
 rw[IC,tQ,h.isK 0 h2]at e;exact e
theorem IR (h:Rok L r) {s:List UInt8} (hs:s≠[]) (h2:s≠[41]):aK (St L r) 1 s=some (isK (vY r 1) (zd s) s):=by
 have:=h.a0;have:=h.a1;have:=h.ll;have:=h.o1
 have e:=Jt (p:=St L r) (k:=1) hs rfl (by rw[tQ];omega) (by rw[tQ];omega)
 rw[IC,tQ,h.isK 1 h2]at e;exact e
theorem gX (h:Rok L r) (s:List UInt8) (hs:(s≠[]∧zd s=3∧s≠[41]):=by exact⟨by simp,rfl,by simp⟩):aK (St L r) 0 s=some (jd r 3 s):=by rw[GL h hs.1 hs.2.2,hs.2.1]
theorem x6 (h:Rok L r) (s:List UInt8) (hs:(s≠[]∧zd s=1∧s≠[41]):=by exact⟨by simp,rfl,by simp⟩):aK (St L r) 0 s=some (jd r 1 s):=by rw[GL h hs.1 hs.2.2,hs.2.1]
theorem j4 (h:Rok L r):(⟨L.L,au (r.at_+L.o+1),r.deep+L.o,0,0⟩:RS)=St L (adv r):=by
 have:=h.a0;have:=h.a1;have:=h.ll;have:=h.o1
 rw[wi ⟨by omega,by omega⟩,show r.at_+(L.o:Int)+1=r.at_+1+L.o by omega];rfl
def CC (r:PR):Bool:=match vY r 0 with | some t=>decide (t.Kind=1)&&gr t.Text | none=>false
def It (r:PR):Bool:=match vY r 0 with | some t=>decide (t.Kind=2)&&uV t.Text | none=>false
theorem Rok.txt_le (h:Rok L r) {t:bm} (e:vY r 0=some t):t.Text.length<4611686018427387904:=by
 have:=h.tl t (List.mem_of_getElem? e);omega
theorem ye (h:Rok L r):dz r=some (CC r):=by
 unfold dz CC
 rw[h.lat_]
 rcases h.end_ with⟨e,_,e2,_⟩ | ⟨t,e,_,e2,_⟩
 ·rw[e,e2];rfl
 ·rw[e,e2]
  simp only[gd,if_true,Option.bind_some,Bool.true_and]
  by_cases c:t.Kind=1
  ·simp[c,Ac t.Text (h.txt_le e)]
  ·simp[c]
theorem AM (h:Rok L r):iM (St L r)=some (CC r):=by
 unfold iM CC St
 dsimp only
 have:=h.a0;have:=h.lenL
 rcases h.end_ with⟨e,e1,_⟩ | ⟨t,e,e1,_⟩
 ·rw[e]
  rcases h.o1 with ho | ho
  ·rw[decide_eq_false (p:=r.at_+(L.o:Int)<(L.L.length:Int)) (by omega)];rfl
  ·rw[decide_eq_true (p:=r.at_+(L.o:Int)<(L.L.length:Int)) (by omega)]
   obtain⟨t',e',k1⟩:=h.endL ho e
   rw[e']
   simp[gd,k1]
 ·obtain⟨t',e',k1,k2⟩:=h.tkL e
  rw[e,e',decide_eq_true (p:=r.at_+(L.o:Int)<(L.L.length:Int)) (by omega)]
  simp only[gd,decide_true,Bool.and_true,if_true,Option.bind_some,Bool.true_and,k1,k2]
  by_cases c:t.Kind=1
  ·simp[c,kK,k2]
  ·simp[c]
theorem wd {p:RS} (he:p.E≠0):iM p=some false:=by
 unfold iM;simp[gd,he]
theorem DD (h:Rok L r):gw r=some (It r):=by
 unfold gw It
 rw[h.lat_]
 rcases h.end_ with⟨e,_,e2,_⟩ | ⟨t,e,_,e2,_⟩
 ·rw[e,e2];rfl
 ·rw[e,e2]
  simp only[gd,if_true,Option.bind_some,Bool.true_and]
  by_cases c:t.Kind=2
  ·simp[c,yc t.Text (h.txt_le e)]
  ·simp[c]
def sw (r:PR):Int×Int:=if r.at_<r.l.length then(r.at_,5)else((r.l.length:Int),6)
theorem uo (h:Rok L r):0≤(sw r).1:=by unfold sw;have:=h.a0;split<;>dsimp only<;>omega
theorem qP (r:PR):(sw r).2≠0:=by unfold sw;split<;>simp
theorem pX (h:Rok L r):aW r=some (.pan (sw r).1 (sw r).2):=by
 unfold aW sw bP
 rcases h.end_ with⟨_,e1,_,e2⟩ | ⟨t,_,e1,_,e2⟩
 ·rw[e2,if_pos rfl,if_neg (show ¬ r.at_<(r.l.length:Int)by omega)];rfl
 ·rw[e2,if_neg (by simp),if_pos e1];rfl
theorem pW (h:Rok L r) (ho:L.o=0):cq (St L r)=some ⟨L.L,r.at_+L.o,r.deep+L.o,(sw r).2,(sw r).1⟩:=by
 unfold cq sw bJ St
 have hl:=h.lenL
 dsimp only
 rw[show(L.L.length:Int)=r.l.length by omega,show r.at_+(L.o:Int)=r.at_ by omega]
 rcases h.end_ with⟨_,e1,_,e2⟩ | ⟨t,_,e1,_,e2⟩
 ·rw[e2,if_pos rfl,if_neg (show ¬ r.at_<(r.l.length:Int)by omega)];rfl
 ·rw[e2,if_neg (by simp),if_pos e1];rfl
theorem Cr {p:RS} (he:p.E≠0) (a e:Int):bJ p a e=some p:=by unfold bJ;rw[if_neg (by simpa using he)]
theorem tW {p:RS} (he:p.E≠0):cq p=some p:=by unfold cq;rw[Cr he,Cr he];split<;>rfl
theorem Cq {p:RS} (he:p.E≠0):cy p=some ([],p):=by unfold cy;rw[wd he];simp[tW he]
theorem uK {p:RS} (he:p.E≠0):eK p=some ([],p):=by unfold eK;simp[gd,he,tW he]
end
section
variable {L:Cx}
structure Nx (L:Cx) (r r':PR):Prop where
 ok:Rok L r'
 l:r'.l=r.l
 d:r'.deep=r.deep
 le:r.at_≤r'.at_
theorem Nx.refl {r:PR} (h:Rok L r):Nx L r r:=⟨h,rfl,rfl,Int.le_refl _⟩
theorem Nx.trans {a b c:PR} (h:Nx L a b) (k:Nx L b c):Nx L a c:=⟨k.ok,k.l.trans h.l,k.d.trans h.d,Int.le_trans h.le k.le⟩
theorem Nx.adv {r:PR} (h:Rok L r) (hl:r.at_<r.l.length):Nx L r (adv r):=⟨h.adv hl,rfl,rfl,by show r.at_≤r.at_+1;omega⟩
def Fl (a e:Int) {β:Type} (m:Option (β×RS)):Prop:=∃ y s,m=some (y,s)∧s.E=e∧s.Pos=a∧e≠0
def Sim {α:Type} (L:Cx) (r:PR) (Q:α→PR→Prop) (m:Option (bL (α×PR))) (m':Option (α×RS)):Prop:=
 (∃ x r',m=some (.ret (x,r'))∧m'=some (x,St L r')∧Nx L r r'∧Q x r')∨∃ a e,m=some (.pan a e)∧0≤a∧(L.o=0→Fl a e m')
theorem Sim.ret {α:Type} {r r':PR} {Q:α→PR→Prop} {x:α} (h:Nx L r r') (hq:Q x r'):Sim L r Q (some (.ret (x,r'))) (some (x,St L r')):= .inl ⟨x,r',rfl,rfl,h,hq⟩
theorem Sim.bnd {α β:Type} {r:PR} {Q:α→PR→Prop} {Q2:β→PR→Prop} {m:Option (bL (α×PR))} {m':Option (α×RS)} {f:α×PR→Option (bL (β×PR))} {g:α×RS→Option (β×RS)} (h:Sim L r Q m m')
  (h1:∀ x r',Nx L r r'→Q x r'→Sim L r Q2 (f (x,r')) (g (x,St L r'))) (h2:∀ y s,s.E≠0→Fl s.Pos s.E (g (y,s))):Sim L r Q2 (pb m f) (m'.bind g):=by
 rcases h with⟨x,r',rfl,rfl,hn,hq⟩ | ⟨a,e,rfl,h0,h⟩
 ·exact h1 x r' hn hq
 ·refine .inr ⟨_,_,rfl,h0,λho=>?_⟩
  obtain⟨y,s,rfl,rfl,rfl,he⟩:=h ho
  exact h2 y s he
theorem Sim.base {α:Type} {r r':PR} {Q Q':α→PR→Prop} {m:Option (bL (α×PR))} {m':Option (α×RS)} (h:Sim L r' Q m m') (hn:Nx L r r') (hq:∀ x q,Nx L r' q→Q x q→Q' x q):Sim L r Q' m m':=by
 rcases h with⟨x,q,h1,h2,h3,h4⟩ | h
 ·exact .inl ⟨x,q,h1,h2,hn.trans h3,hq x q h3 h4⟩
 ·exact .inr h
theorem Fl.mk {β:Type} {y:β} {s:RS} (h:s.E≠0):Fl s.Pos s.E (some (y,s)):=⟨y,s,rfl,rfl,rfl,h⟩
def SimZ {α:Type} (L:Cx) (z:α) (r:PR) (Q:α→PR→Prop) (m:Option (bL (α×PR))) (m':Option (α×RS)):Prop:=
 (∃ x r',m=some (.ret (x,r'))∧m'=some (x,St L r')∧Nx L r r'∧Q x r')∨∃ a e,m=some (.pan a e)∧0≤a∧(L.o=0→∃ s,m'=some (z,s)∧s.E=e∧s.Pos=a∧e≠0)
theorem SimZ.sim {α:Type} {z:α} {r:PR} {Q:α→PR→Prop} {m:Option (bL (α×PR))} {m':Option (α×RS)} (h:SimZ L z r Q m m'):Sim L r Q m m':=by
 rcases h with h | ⟨a,e,h1,h0,h2⟩
 ·exact .inl h
 ·exact .inr ⟨a,e,h1,h0,λho=>by obtain⟨s,h2,h3⟩:=h2 ho;exact⟨z,s,h2,h3⟩⟩
theorem SimZ.ret {α:Type} {z:α} {r r':PR} {Q:α→PR→Prop} {x:α} (h:Nx L r r') (hq:Q x r'):SimZ L z r Q (some (.ret (x,r'))) (some (x,St L r')):= .inl ⟨x,r',rfl,rfl,h,hq⟩
theorem SimZ.bnd {α β:Type} {z:α} {r:PR} {Q:α→PR→Prop} {Q2:β→PR→Prop} {m:Option (bL (α×PR))} {m':Option (α×RS)} {f:α×PR→Option (bL (β×PR))} {g:α×RS→Option (β×RS)} (h:SimZ L z r Q m m')
  (h1:∀ x r',Nx L r r'→Q x r'→Sim L r Q2 (f (x,r')) (g (x,St L r'))) (h2:∀ s,s.E≠0→Fl s.Pos s.E (g (z,s))):Sim L r Q2 (pb m f) (m'.bind g):=by
 rcases h with⟨x,r',rfl,rfl,hn,hq⟩ | ⟨a,e,rfl,h0,h⟩
 ·exact h1 x r' hn hq
 ·refine .inr ⟨_,_,rfl,h0,λho=>?_⟩
  obtain⟨s,rfl,rfl,rfl,he⟩:=h ho
  exact h2 s he
theorem SimZ.base {α:Type} {z:α} {r r':PR} {Q Q':α→PR→Prop} {m:Option (bL (α×PR))} {m':Option (α×RS)} (h:SimZ L z r' Q m m') (hn:Nx L r r') (hq:∀ x q,Nx L r' q→Q x q→Q' x q):SimZ L z r Q' m m':=by
 rcases h with⟨x,q,h1,h2,h3,h4⟩ | h
 ·exact .inl ⟨x,q,h1,h2,hn.trans h3,hq x q h3 h4⟩
 ·exact .inr h
theorem Fu {r:PR} (h:Rok L r):SimZ L [] r (λx r'=>gr x=true∧r.at_<r'.at_) (aV r) (cy (St L r)):=by
 unfold aV cy
 rw[ye h,AM h,Option.bind_some,Option.bind_some]
 by_cases c:CC r=true
 ·rw[c]
  unfold ga
  simp only[Bool.not_true,Bool.false_eq_true,if_false]
  show SimZ L [] r _ _ ((lat L.L (au (au (r.at_+L.o+1) - 1))).bind λe1=>some (e1.Text,(⟨L.L,au (r.at_+L.o+1),r.deep+L.o,0,0⟩:RS)))
  rw[j4 h,h.wi1,h.wi0,h.wi0o,h.lat_]
  rcases h.end_ with⟨e,_⟩ | ⟨t,e,e1,_⟩
  ·unfold CC at c;rw[e]at c;cases c
  ·obtain⟨t',e',k1,k2⟩:=h.tkL e
   rw[e,e']
   unfold CC at c;rw[e]at c;simp only[Bool.and_eq_true,decide_eq_true_eq]at c
   dsimp only[Option.bind_some]
   rw[k2]
   exact SimZ.ret (Nx.adv h e1) ⟨c.2,by show r.at_<r.at_+1;omega⟩
 ·rw[Bool.not_eq_true]at c
  rw[c,pX h]
  exact .inr ⟨_,_,rfl,uo h,λho=>by rw[pW h ho];exact⟨_,rfl,rfl,rfl,qP r⟩⟩
theorem oq {r:PR} (h:Rok L r):Sim L r (λx r'=>gr x=true∧r.at_<r'.at_) (aV r) (cy (St L r)):=(Fu h).sim
theorem qF {r:PR} (h:Rok L r):SimZ L [] r (λx r'=>uV x=true∧x.length≤50000∧r.at_<r'.at_) (bU r) (eK (St L r)):=by
 unfold bU eK
 rw[DD h,Option.bind_some]
 have h0:=h.a0;have hl:=h.lenL;have ho1:=h.o1
 have bad:It r=false→∀ {m':Option (List UInt8×RS)},(L.o=0→m'=(cq (St L r)).bind λq=>some ([],q))→SimZ L [] r (λx r'=>uV x=true∧x.length≤50000∧r.at_<r'.at_) (if(!It r)=true then pb (aW r) λu=>cN u.2 else cN r) m':=λc m' hm=>by
  rw[c,if_pos (show(!false)=true from rfl),pX h]
  exact .inr ⟨_,_,rfl,uo h,λho=>by rw[hm ho,pW h ho];exact⟨_,rfl,rfl,rfl,qP r⟩⟩
 unfold St
 dsimp only
 rcases h.end_ with⟨e,e1,_,e2⟩ | ⟨t,e,e1,_,e2⟩
 ·refine bad (by unfold It;rw[e]) (λho=>?_)
  rw[decide_eq_true (p:=(L.L.length:Int)≤r.at_+L.o) (by omega)]
  simp[gd];rfl
 ·obtain⟨t',e',k1,k2⟩:=h.tkL e
  rw[e',decide_eq_false (p:=(L.L.length:Int)≤r.at_+L.o) (by omega)]
  have ht:=h.tl t (List.mem_of_getElem? e)
  by_cases k:t.Kind=2
  ·by_cases d:uV t.Text=true
   ·have c:It r=true:=by unfold It;rw[e];simp[k,d]
    rw[c]
    unfold cN
    simp only[gd,decide_true,Bool.not_true,Bool.or_false,Bool.false_or,Bool.not_false,if_true,Bool.false_eq_true,if_false,Option.bind_some,k1,k2,k,xX t.Text (by omega),d]
    rw[j4 h,h.wi1,h.wi0,h.wi0o,h.lat_,e,e']
    simp only[Option.bind_some,k2]
    exact SimZ.ret (Nx.adv h e1) ⟨d,ht,by show r.at_<r.at_+1;omega⟩
   ·rw[Bool.not_eq_true]at d
    refine bad (by unfold It;rw[e];simp[k,d]) (λho=>?_)
    simp only[gd,decide_true,Bool.not_true,Bool.or_false,Bool.false_or,Bool.not_false,if_true,Bool.false_eq_true,if_false,Option.bind_some,k1,k2,k,xX t.Text (by omega),d]
    rfl
  ·refine bad (by unfold It;rw[e];simp[k]) (λho=>?_)
   simp only[gd,decide_true,Bool.not_true,Bool.or_false,Bool.false_or,Bool.not_false,if_true,Bool.false_eq_true,if_false,Option.bind_some,k1,decide_eq_false k,Bool.or_true,Bool.true_or]
   rfl
theorem DJ {r:PR} (h:Rok L r):Sim L r (λx r'=>uV x=true∧x.length≤50000∧r.at_<r'.at_) (bU r) (eK (St L r)):=(qF h).sim
end
end Go.Proofs.YtmhoikfoogemnaaGreatDoor
