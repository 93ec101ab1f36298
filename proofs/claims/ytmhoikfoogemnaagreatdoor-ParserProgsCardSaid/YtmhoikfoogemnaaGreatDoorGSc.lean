import Derived.Test.YtmhoikfoogemnaaGreatDoorGSb
namespace Go.Proofs.YtmhoikfoogemnaaGreatDoor
open Go Go.RowKit Go.Vc
set_option linter.unusedVariables false
set_option linter.unusedSimpArgs false
variable {L:Cx}
structure PO (p:bI) (n:Nat):Prop where
 si:p.Sizes.length≤n
 wh:p.Where.length≤n
 pa:p.Params.length≤n
 de:p.Defs.length≤n
 ou:p.Outs.length≤n
 cw:∀ c∈p.Where,LJ c
 cp:∀ x∈p.Params,pmO x
 cd:∀ d∈p.Defs,Lu d
theorem PO.mono {p:bI} {n m:Nat} (h:PO p n) (hm:n≤m):PO p m:=⟨Nat.le_trans h.si hm,Nat.le_trans h.wh hm,Nat.le_trans h.pa hm,Nat.le_trans h.de hm,Nat.le_trans h.ou hm,h.cw,h.cp,h.cd⟩
abbrev zP:bI:=⟨[],[],[],[],[]⟩
theorem PO.zero (n:Nat):PO zP n:=⟨by simp,by simp,by simp,by simp,by simp,λc h=>(by cases h),λc h=>(by cases h),λc h=>(by cases h)⟩
theorem xS {α:Type} {l:List α} {x:α} {n m:Nat} (h:l.length≤n) (hm:n+1≤m):(l++[x]).length≤m:=by simp only[List.length_append,List.length_cons,List.length_nil];omega
theorem rk {a n k:Nat} (h:a≤n):a≤n+k:=Nat.le_trans h (Nat.le_add_right n k)
theorem E3 {α:Type} {l x:List α} {n k:Nat} (h:l.length≤n) (hx:x.length≤k):(l++x).length≤n+k:=by rw[List.length_append];omega
theorem xT {α:Type} {P:α→Prop} {l:List α} {x:α} (h:∀ y∈l,P y) (hx:P x):∀ y∈l++[x],P y:=λy hy=>by
 rcases List.mem_append.1 hy with hy | hy
 ·exact h y hy
 ·rw[List.mem_singleton.1 hy];exact hx
theorem o4 {α R:Type} {G:Nat→Int→Option R} {l:List α} {k:Option R} (hn:l.length<4611686018427387904)
  (rd:∀ f (i:Nat) x,l[i]? =some x→G (f+1) (i:Int)=G f ((i+1:Nat):Int)) (fin:∀ f,G (f+1) (l.length:Int)=k):G fu 0=k:=by
 refine kQ (L:=λf (_:Unit) i=>G f i) (n:=l.length) hn (λ_ _=>True) ?_ ?_ () trivial
 ·intro f i _ hi _
  obtain⟨x,hx⟩:=cC hi
  exact .inl ⟨(),ah,rd f i x hx⟩
 ·intro f _ _;exact fin f
theorem Am {α:Type} {l:List α} {i:Nat} {x:α} (h:l[i]? =some x):i<l.length:=(List.getElem?_eq_some_iff.1 h).1
theorem ur {l:List (List UInt8)} (hn:l.length<4611686018427387904):lh l l=some true:=by
 unfold lh
 rw[if_neg (by simp)]
 refine o4 (l:=l) hn (λf i x hx=>?_) λf=>?_
 ·have hi:=Am hx
  simp only[ij]
  rw[if_pos (bS hi),cD hx,Option.bind_some,Option.bind_some,if_neg (by simp),nu (by omega)]
 ·simp only[ij]
  rw[if_neg (by simp)]
theorem D5 {l:List aX} (hn:l.length<4611686018427387904) (h:∀ c∈l,LJ c):pH l l=some true:=by
 unfold pH
 rw[if_neg (by simp)]
 refine o4 (l:=l) hn (λf i x hx=>?_) λf=>?_
 ·have hi:=Am hx
  simp only[jV]
  rw[if_pos (bS hi),cD hx,Option.bind_some,Option.bind_some]
  unfold rT
  rw[rb _ (by have:=h x (List.mem_of_getElem? hx);omega)]
  simp[gd,nu (show i<4611686018427387904 by omega)]
 ·simp only[jV]
  rw[if_neg (by simp)]
theorem DR {l:List GLin} (hn:l.length<4611686018427387904) (h:∀ c∈l,c.L.length≤100000):lv l l=some true:=by
 unfold lv
 rw[if_neg (by simp)]
 refine o4 (l:=l) hn (λf i x hx=>?_) λf=>?_
 ·have hi:=Am hx
  simp only[gz]
  rw[if_pos (bS hi),cD hx,Option.bind_some,Option.bind_some,rb _ (by have:=h x (List.mem_of_getElem? hx);omega),Option.bind_some,if_neg (by simp),nu (by omega)]
 ·simp only[gz]
  rw[if_neg (by simp)]
theorem za {l:List gl} (h:axO l 100000):n8 l l=some true:=by
 have hn:=h.1
 unfold n8
 rw[if_neg (by simp)]
 refine o4 (l:=l) (by omega) (λf i x hx=>?_) λf=>?_
 ·have hi:=Am hx
  simp only[jW]
  rw[if_pos (bS hi)]
  simp[cD hx,rb _ (show x.Size.L.length<4611686018427387904 by have:=h.2 x (List.mem_of_getElem? hx);omega),gd,nu (show i<4611686018427387904 by omega)]
 ·simp only[jW]
  rw[if_neg (by simp)]
theorem FN {d:eF} (h:Lu d):ql d d=some true:=by
 unfold ql
 rw[za h.1,za h.2.1,y9 h.2.2.1 h.2.2.2]
 simp[gd]
theorem Dz {p:bI} {n:Nat} (h:PO p n) (hn:n≤1000000):pG p p=some true:=by
 have n1:=h.si;have n2:=h.wh;have n3:=h.pa;have n4:=h.de;have n5:=h.ou
 have l1:iW p p fu 0=some true:=by
  refine o4 (l:=p.Defs) (by omega) (λf i x hx=>?_) λf=>?_
  ·have hi:=Am hx
   simp only[iW]
   rw[if_pos (bS hi),cD hx,Option.bind_some,Option.bind_some,FN (h.cd x (List.mem_of_getElem? hx)),Option.bind_some,if_neg (by simp),nu (by omega)]
  ·simp only[iW]
   rw[if_neg (by simp)]
 have l2:iV p p fu 0=some true:=by
  refine o4 (l:=p.Params) (by omega) (λf i x hx=>?_) λf=>?_
  ·have hi:=Am hx
   have hm:=h.cp x (List.mem_of_getElem? hx)
   simp only[iV]
   rw[if_pos (bS hi)]
   simp[cD hx,gd,DR (l:=x.Dims) (by have:=hm.1;omega) hm.2,nu (show i<4611686018427387904 by omega)]
  ·simp only[iV]
   rw[if_neg (by simp)]
   exact l1
 unfold pG
 rw[ur (by omega),ur (by omega),D5 (by omega) h.cw]
 simp[gd,l2]
abbrev uq:List (List UInt8):=[[115,105,122,101],[119,104,101,114,101],[105,110],[100,101,102],[111,117,116]]
abbrev PS:=PR→bI→Option (bL (bI×PR))
def Fz (r2:PR) (p1:bI) (self:PS):Option (bL (bI×PR)):=
 (bF r2 uq).bind λ⟨r5,s2⟩=>
 if decide (r5=0)then
  pb (bO s2) λ⟨r6,s3⟩=>
  (gm p1.Sizes r6).bind λzs1=>
  aB self s3 ⟨zs1,p1.Where,p1.Params,p1.Defs,p1.Outs⟩
 else
  if decide (r5=1)then
   pb (cO s2) λ⟨r7,s4⟩=>
   (gm p1.Where ([r7]:List aX)).bind λzs2=>
   aB self s4 ⟨p1.Sizes,zs2,p1.Params,p1.Defs,p1.Outs⟩
  else
   if decide (r5=2)then
    pb (d4 s2) λ⟨r8,s5⟩=>
    (gm p1.Params ([r8]:List iz)).bind λzs3=>
    aB self s5 ⟨p1.Sizes,p1.Where,zs3,p1.Defs,p1.Outs⟩
   else
    if decide (r5=3)then
     pb (fh s2) λ⟨r9,s6⟩=>
     (gm p1.Defs ([r9]:List eF)).bind λzs4=>
     aB self s6 ⟨p1.Sizes,p1.Where,p1.Params,zs4,p1.Outs⟩
    else
     if decide (r5=4)then
      pb (bO s2) λ⟨r10,s7⟩=>
      (gm p1.Outs r10).bind λzs5=>
      aB self s7 ⟨p1.Sizes,p1.Where,p1.Params,p1.Defs,zs5⟩
     else
      pb (aW s2) λ⟨r11,s8⟩=>
      aB self s8 p1
theorem DA (F:Nat) (r:PR) (p:bI):bf (F+1) r p=if decide (r.at_<(r.l.length:Int))=true then Fz r p (bf F)else some (.ret (p,r)):=rfl
def LQ (L:Cx) (r:PR) (n:Nat) (P:PS→Option (bL (bI×PR))) (R:Option (bI×RS)):Prop:=
 (∃ p' r',Nx L r r'∧r.at_<r'.at_∧PO p' (n+(r'.at_ - r.at_).toNat)∧(∀ self,P self=self r' p')∧R=some (p',St L r'))∨(∃ a e,0≤a∧(∀ self,P self=some (.pan a e))∧Fl a e R)
theorem Hh (ho:L.o=0) {r q:PR} {p:bI} {n:Nat} (hq:Nx L r q) (hlt:r.at_<q.at_) (hp:PO p (n+(q.at_ - r.at_).toNat)):LQ L r n (λself=>aB self q p) (bw p (St L q)):=by
 unfold aB bw
 rcases cF hq.ok [59]with⟨r',e1,e2,hn,e3⟩ | ⟨a,e,e1,h0,e2⟩
 ·rw[e1,e2]
  exact .inl ⟨p,r',hq.trans hn,by omega,hp.mono (by omega),λself=>rfl,rfl⟩
 ·obtain⟨s,e2,q1,q2,q3⟩:=e2 ho
  rw[e1,e2]
  exact .inr ⟨a,e,h0,λself=>rfl,p,s,rfl,q1,q2,q3⟩
theorem DT {s:RS} (hs:s.E≠0) (p:bI):Fl s.Pos s.E (bw p s):=by
 unfold bw
 rw[be hs];exact Fl.mk hs
theorem DS {α:Type} (ho:L.o=0) {r q:PR} {n:Nat} (hq:Nx L r q) {O:α→Prop} {m:Option (bL (α×PR))} {m':Option (α×RS)} (hs:Sim L q (λx q'=>q.at_<q'.at_∧O x) m m') (l:List α) (hl:l.length≤1000000) (G:List α→bI)
  (hG:∀ (x:α) (q':PR),r.at_<q'.at_→O x→PO (G (l++[x])) (n+(q'.at_ - r.at_).toNat)):
  LQ L r n (λself=>pb m λ(x:α×PR)=>(gm l [x.1]).bind λzs=>aB self x.2 (G zs)) (m'.bind λx=>(gm l [x.1]).bind λzs=>bw (G zs) x.2):=by
 have hqa:=hq.le
 rcases hs with⟨x,q',e1,e2,hn,h1,h2⟩ | ⟨a,e,e1,h0,e2⟩
 ·rw[e1,e2,Option.bind_some]
  dsimp only
  have el:gm l [x]=some (l++[x]):=cJ (by simp only[List.length_cons,List.length_nil];omega)
  have eP:(λ(self:PS)=>pb (some (bL.ret (x,q'))) λ(x:α×PR)=>(gm l [x.1]).bind λzs=>aB self x.2 (G zs))= λself=>aB self q' (G (l++[x])):=by
   funext self
   show(gm l [x]).bind _ =_
   rw[el];rfl
  rw[eP,el,Option.bind_some]
  exact Hh ho (hq.trans hn) (by omega) (hG x q' (by omega) h2)
 ·obtain⟨y,s,e3,rfl,rfl,q3⟩:=e2 ho
  rw[e1,e3,Option.bind_some]
  dsimp only
  rw[cJ (by simp only[List.length_cons,List.length_nil];omega),Option.bind_some]
  exact .inr ⟨_,_,h0,λself=>rfl,DT q3 _⟩
theorem Cz (ho:L.o=0) {r q:PR} {n:Nat} (hq:Nx L r q) (l:List (List UInt8)) (hl:l.length≤500000) (G:List (List UInt8)→bI)
  (hG:∀ (x:List (List UInt8)) (q':PR),r.at_<q'.at_→x.length≤(q'.at_ - r.at_).toNat→PO (G (l++x)) (n+(q'.at_ - r.at_).toNat)):
  LQ L r n (λself=>pb (bO q) λ(x:List (List UInt8)×PR)=>(gm l x.1).bind λzs=>aB self x.2 (G zs)) ((gD (St L q) l).bind λx=>bw (G x.1) x.2):=by
 have hqa:=hq.le
 rcases DK hq.ok l (by omega)with⟨x,y,q',e1,e2,hn,h1,h2,h3⟩ | ⟨a,e,e1,h0,e2⟩
 ·have k1:=hn.ok.a1
  have k2:=hn.ok.ll
  have k3:=hq.ok.a0
  rw[e1,e2,Option.bind_some,h1]
  dsimp only
  have el:gm l x=some (l++x):=cJ (by omega)
  have eP:(λ(self:PS)=>pb (some (bL.ret (x,q'))) λ(x:List (List UInt8)×PR)=>(gm l x.1).bind λzs=>aB self x.2 (G zs))= λself=>aB self q' (G (l++x)):=by
   funext self
   show(gm l x).bind _ =_
   rw[el];rfl
  rw[eP]
  exact Hh ho (hq.trans hn) (by omega) (hG x q' (by omega) (by omega))
 ·obtain⟨y,s,e3,rfl,rfl,q3⟩:=e2 ho
  rw[e1,e3,Option.bind_some]
  dsimp only
  exact .inr ⟨_,_,h0,λself=>rfl,DT q3 _⟩
theorem Hg (ho:L.o=0) {r:PR} (h:Rok L r) {p:bI} {n:Nat} (hp:PO p n) (hn:n≤500000):LQ L r n (Fz r p) (cX (St L r) p):=by
 have ek:∀ s∈uq,s≠[]∧zd s=1∧s≠[41]:=by intro s hs;simp at hs;rcases hs with rfl | rfl | rfl | rfl | rfl<;>exact⟨by simp,rfl,by simp⟩
 have ec:=rV (p:=λs=>jd r (zd s) s) (q:=jd r 1) (l:=uq) (λs hs=>by rw[(ek s hs).2.1])
 have eW:=yd h uq (by simp)
 have eC:=tf h uq (by simp) (λs hs=>⟨(ek s hs).1,(ek s hs).2.2⟩)
 rw[ec]at eC
 have n1:=hp.si;have n2:=hp.wh;have n3:=hp.pa;have n4:=hp.de;have n5:=hp.ou
 have h0:=h.a0
 cases cw:lK (jd r 1) uq with
 | none=>
  rw[cw]at eW eC
  have eW:bF r uq=some (-1,r):=eW
  have eC:cK (St L r) uq=(cq (St L r)).bind λq=>some (0,q):=eC
  rw[pW h ho,Option.bind_some]at eC
  refine .inr ⟨(sw r).1,(sw r).2,uo h,λself=>?_,?_⟩
  ·unfold Fz
   rw[eW,Option.bind_some]
   show pb (aW r) _ =_
   rw[pX h];rfl
  ·unfold cX
   have hs:(⟨L.L,r.at_+L.o,r.deep+L.o,(sw r).2,(sw r).1⟩:RS).E≠0:=qP r
   have k:=DT hs p
   have eC':cK (St L r) ([([115,105,122,101]:List UInt8),([119,104,101,114,101]:List UInt8),([105,110]:List UInt8),([100,101,102]:List UInt8),([111,117,116]:List UInt8)]:List (List UInt8))=_:=eC
   rw[eC',Option.bind_some]
   exact k
 | some i=>
  obtain⟨hi,x,hx,hb⟩:=rl cw
  have hA:=Nx.adv h (h.is_lt hb)
  have ea:(adv r).at_=r.at_+1:=rfl
  rw[cw]at eW eC
  have eW:bF r uq=some ((i:Int),adv r):=eW
  have eC:cK (St L r) uq=some (((i+1:Nat):Int),St L (adv r)):=eC
  match i,hi with
  | 0,_=>
   have e1:Fz r p= λself=>pb (bO (adv r)) λ(x:List (List UInt8)×PR)=>(gm p.Sizes x.1).bind λzs=>aB self x.2 ⟨zs,p.Where,p.Params,p.Defs,p.Outs⟩:=by funext self;unfold Fz;rw[eW];rfl
   have e2:cX (St L r) p=(gD (St L (adv r)) p.Sizes).bind λx=>bw ⟨x.1,p.Where,p.Params,p.Defs,p.Outs⟩ x.2:=by unfold cX;rw[eC];rfl
   rw[e1,e2]
   exact Cz ho hA p.Sizes (by omega) (λzs=>⟨zs,p.Where,p.Params,p.Defs,p.Outs⟩) (λx q' hq hx=>show PO ⟨p.Sizes++x,p.Where,p.Params,p.Defs,p.Outs⟩ _ from⟨E3 n1 hx,rk n2,rk n3,rk n4,rk n5,hp.cw,hp.cp,hp.cd⟩)
  | 1,_=>
   have e1:Fz r p= λself=>pb (cO (adv r)) λ(x:aX×PR)=>(gm p.Where [x.1]).bind λzs=>aB self x.2 ⟨p.Sizes,zs,p.Params,p.Defs,p.Outs⟩:=by funext self;unfold Fz;rw[eW];rfl
   have e2:cX (St L r) p=(kF (St L (adv r))).bind λx=>(gm p.Where [x.1]).bind λzs=>bw ⟨p.Sizes,zs,p.Params,p.Defs,p.Outs⟩ x.2:=by unfold cX;rw[eC];rfl
   rw[e1,e2]
   exact DS ho hA (E6 hA.ok ho) p.Where (by omega) (λzs=>⟨p.Sizes,zs,p.Params,p.Defs,p.Outs⟩) (λx q' hq hx=>show PO ⟨p.Sizes,p.Where++[x],p.Params,p.Defs,p.Outs⟩ _ from⟨rk n1,xS n2 (by omega),rk n3,rk n4,rk n5,xT hp.cw hx,hp.cp,hp.cd⟩)
  | 2,_=>
   have e1:Fz r p= λself=>pb (d4 (adv r)) λ(x:iz×PR)=>(gm p.Params [x.1]).bind λzs=>aB self x.2 ⟨p.Sizes,p.Where,zs,p.Defs,p.Outs⟩:=by funext self;unfold Fz;rw[eW];rfl
   have e2:cX (St L r) p=(l6 (St L (adv r))).bind λx=>(gm p.Params [x.1]).bind λzs=>bw ⟨p.Sizes,p.Where,zs,p.Defs,p.Outs⟩ x.2:=by unfold cX;rw[eC];rfl
   rw[e1,e2]
   exact DS ho hA (Fj hA.ok) p.Params (by omega) (λzs=>⟨p.Sizes,p.Where,zs,p.Defs,p.Outs⟩) (λx q' hq hx=>show PO ⟨p.Sizes,p.Where,p.Params++[x],p.Defs,p.Outs⟩ _ from⟨rk n1,rk n2,xS n3 (by omega),rk n4,rk n5,hp.cw,xT hp.cp hx,hp.cd⟩)
  | 3,_=>
   have e1:Fz r p= λself=>pb (fh (adv r)) λ(x:eF×PR)=>(gm p.Defs [x.1]).bind λzs=>aB self x.2 ⟨p.Sizes,p.Where,p.Params,zs,p.Outs⟩:=by funext self;unfold Fz;rw[eW];rfl
   have e2:cX (St L r) p=(nZ (St L (adv r))).bind λx=>(gm p.Defs [x.1]).bind λzs=>bw ⟨p.Sizes,p.Where,p.Params,zs,p.Outs⟩ x.2:=by unfold cX;rw[eC];rfl
   rw[e1,e2]
   exact DS ho hA (Iw ho hA.ok) p.Defs (by omega) (λzs=>⟨p.Sizes,p.Where,p.Params,zs,p.Outs⟩) (λx q' hq hx=>show PO ⟨p.Sizes,p.Where,p.Params,p.Defs++[x],p.Outs⟩ _ from⟨rk n1,rk n2,rk n3,xS n4 (by omega),rk n5,hp.cw,hp.cp,xT hp.cd hx⟩)
  | 4,_=>
   have e1:Fz r p= λself=>pb (bO (adv r)) λ(x:List (List UInt8)×PR)=>(gm p.Outs x.1).bind λzs=>aB self x.2 ⟨p.Sizes,p.Where,p.Params,p.Defs,zs⟩:=by funext self;unfold Fz;rw[eW];rfl
   have e2:cX (St L r) p=(gD (St L (adv r)) p.Outs).bind λx=>bw ⟨p.Sizes,p.Where,p.Params,p.Defs,x.1⟩ x.2:=by unfold cX;rw[eC];rfl
   rw[e1,e2]
   exact Cz ho hA p.Outs (by omega) (λzs=>⟨p.Sizes,p.Where,p.Params,p.Defs,zs⟩) (λx q' hq hx=>show PO ⟨p.Sizes,p.Where,p.Params,p.Defs,p.Outs++x⟩ _ from⟨rk n1,rk n2,rk n3,rk n4,E3 n5 hx,hp.cw,hp.cp,hp.cd⟩)
theorem Fg (ho:L.o=0) (s:List UInt8) (r1:List bm×Int×Int):∀ (F F':Nat) (r:PR) (p:bI) (n:Nat),Rok L r→r1.1.length=r.l.length→r.l.length - r.at_.toNat<F→r.l.length - r.at_.toNat<F'→PO p n→n+(r.l.length - r.at_.toNat)≤100000→
  (∃ p' r',bf F r p=some (.ret (p',r'))∧gE r1 s F' (St L r) p=some (p',0,0)∧PO p' 100000)∨
  (∃ a e,0≤a∧e≠0∧bf F r p=some (.pan a e)∧gE r1 s F' (St L r) p=(jR s r1.1 a).bind λv=>some (zP,v,e)):=by
 intro F
 induction F with
 | zero=>intros;omega
 | succ F ih=>
  intro F' r p n h hl hF hF' hp hn
  obtain⟨F',rfl⟩:∃ g,F'=g+1:=⟨F' - 1,by omega⟩
  have h0:=h.a0
  have h1:=h.a1
  rw[DA]
  simp only[gE]
  rw[tQ,vW,hl]
  by_cases c:r.at_<r.l.length
  ·rw[if_pos (decide_eq_true c),if_pos (by simp;omega)]
   rcases Hg ho h hp (by omega)with⟨p',r',hx,hlt,hp',e1,e2⟩ | ⟨a,e,ha,e1,y,s',e2,q1,q2,q3⟩
   ·have hll:=hx.l
    have k1:=hx.ok.a1
    rw[e1,e2,Option.bind_some]
    exact ih F' r' p' _ hx.ok (by rw[hll];exact hl) (by rw[hll];omega) (by rw[hll];omega) hp' (by rw[hll]at k1 ⊢;omega)
   ·right
    refine⟨a,e,ha,q3,e1 _,?_⟩
    obtain⟨g,rfl⟩:∃ g,F'=g+1:=⟨F' - 1,by omega⟩
    rw[e2,Option.bind_some]
    simp only[gE]
    rw[if_neg (by simp[q1,q3])]
    unfold lU
    rw[if_pos (by simp[q1,q3]),q1,q2]
  ·left
   rw[if_neg (by simpa using c),if_neg (by simp;omega)]
   unfold lU
   rw[if_neg (by simp[vW])]
   exact⟨p,r,rfl,rfl,hp.mono (by omega)⟩
theorem FX {s:List UInt8} (hl:s.length≤50000):∃ r,nM s=some r∧ov s=some r∧PO r.1 100000:=by
 have htok:=Z13.lexer_Tokenize s (by omega)
 have hrtok:=Z13.ref13_Tokenize s (by omega)
 obtain⟨k1,k2⟩:=H1 (s:=s) (by omega)
 unfold nM ov
 rw[hrtok,htok,Option.bind_some,Option.bind_some]
 by_cases c:(Z13.tokens s).2.2=0
 ·have et:Z13.tokI s=((Z13.tokens s).1,((Z13.tokens s).2.1:Int),0):=by unfold Z13.tokI;rw[c];rfl
  rw[et]
  generalize (Z13.tokens s).1=l at *
  generalize ((Z13.tokens s).2.1:Int)=pz at *
  rw[if_neg (by simp),if_neg (by simp)]
  dsimp only
  have hR:=Rok.start2 (l:=l) (l2:=l) (at_:=0) rfl (by omega) (by omega) (by omega) (λt ht=>by have:=k2 t ht;omega)
  rw[St0' l 0 l]
  unfold lI ju
  rcases Fg (L:=⟨l,0⟩) rfl s (l,pz,0) fu fu ⟨l,0,0⟩ zP 0 hR rfl (by unfold fu;show l.length - _ < _;omega) (by unfold fu;show l.length - _ < _;omega) (PO.zero 0) (by show 0+(l.length - _)≤ _;omega)with⟨p',r',e1,e2,hp⟩ | ⟨a,e,ha,he,e1,e2⟩
  ·rw[e1,e2]
   exact⟨(p',0,0),rfl,rfl,hp⟩
  ·obtain⟨v,v1,v2⟩:=Ft s l ha
   rw[e1,e2]
   have ep:yb (pb (some (bL.pan a e)) λ(q:bI×PR)=>match q with | (r1,s1)=>some (bL.ret ((),s1,r1))) (λ(q:Unit×PR×bI)=>match q with | (r2,s2,s3)=>if(!decide ((0:Int)=0))=true then(fL s l 0).bind λr3=>some (zP,r3,(0:Int))else some (s3,(0:Int),(0:Int))) (λpa1 pn1=>(fL s l pa1).bind λr4=>some (zP,r4,pn1))=(fL s l a).bind λr4=>some (zP,r4,e):=by
    show(if e≠0 then _ else none)=_
    rw[if_pos he]
   refine⟨(zP,v,e),ep.trans ?_,?_,PO.zero _⟩
   ·rw[v1];rfl
   ·show(jR s l a).bind _ =_
    rw[v2];rfl
 ·have et:(Z13.tokI s).2.2=((Z13.tokens s).2.2:Int):=rfl
  rw[if_pos (by rw[et];simp[c]),if_pos (by rw[et];simp[c])]
  exact⟨_,rfl,rfl,PO.zero _⟩
theorem xg (s:List UInt8) (hs:okS s):kO s=some true:=by
 unfold kO
 rw[Iy]
 by_cases h:(4000:Int)<(s.length:Int)
 ·rw[if_pos (by simpa using h)];rfl
 ·rw[if_neg (by simpa using h)]
  obtain⟨r,e1,e2,e3⟩:=FX (s:=s) (by omega)
  rw[e1,e2,Option.bind_some,Option.bind_some,Dz e3 (by omega)]
  simp[gd]
end Go.Proofs.YtmhoikfoogemnaaGreatDoor
