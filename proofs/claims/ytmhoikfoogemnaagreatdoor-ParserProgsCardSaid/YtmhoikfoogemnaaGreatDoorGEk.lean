import Derived.Test.YtmhoikfoogemnaaGreatDoorGEj
namespace Go.Proofs.YtmhoikfoogemnaaGreatDoor
open Go Go.RowKit Go.Vc
set_option linter.unusedVariables false
set_option linter.unusedSimpArgs false
variable {L:Cx}
theorem XW.idx {op:Int} {s:List UInt8} {v:GVal} {t:GType} {f:GLin} {ix:List GIndex} {args:List GExpr} {x:GIndex} {n m:Nat} (h:XW ⟨op,s,v,t,f,ix,args⟩ n) (hx:IxI x m) (hm:1≤m) (hn:n+m≤200000):XW ⟨op,s,v,t,f,ix++[x],args⟩ (n+m):=by
 have ho:=okGExpr_iff.1 h.ok
 have hw:=h.w
 have hxw:=hx.w
 have hl:ix.length≤3 * n:=by rw[sZ]at hw;omega
 refine⟨okGExpr_iff.2 ⟨ho.1,ho.2.1,ho.2.2.1,ho.2.2.2.1,ho.2.2.2.2.1,⟨λy hy=>?_,by simp only[List.length_append,List.length_cons,List.length_nil];omega⟩,ho.2.2.2.2.2.2⟩,?_⟩
 ·rcases List.mem_append.1 hy with hy | hy
  ·exact ho.2.2.2.2.2.1.1 y hy
  ·rw[List.mem_singleton.1 hy];exact hx.ok
 ·rw[sZ]at hw ⊢
  rw[List.map_append,List.sum_append,List.length_append]
  simp only[List.map_cons,List.map_nil,List.sum_cons,List.sum_nil,List.length_cons,List.length_nil]
  omega
theorem uJ {p:RS} (he:p.E≠0) (g:Nat) (e:GExpr) (x:GIndex):fK (g+1) p e x=some (e,p):=by
 simp only[fK]
 rw[jh he,Option.bind_some,if_neg (by simp)]
 unfold lT
 rw[be he];rfl
theorem GI:∀ (F F':Nat) (a0:Int) (r:PR) (s:List UInt8) (ix:List GIndex) (x0:GIndex),Rok L r→r.l.length - r.at_.toNat<F→r.l.length - r.at_.toNat<F'→0≤a0→a0≤r.at_→XW ⟨3,s,zV,zT,zL,ix,[]⟩ (r.at_ - a0).toNat→
  Sim L r (λx r'=>r.at_<r'.at_∧XW x (r'.at_ - a0).toNat) (bZ F r ⟨3,s,zV,zT,zL,ix,[]⟩) (fK F' (St L r) ⟨3,s,zV,zT,zL,ix,[]⟩ x0):=by
 intro F
 induction F with
 | zero=>intros;omega
 | succ F ih=>
  intro F' a0 r s ix x0 h hF hF' ha0 ha1 ho
  obtain⟨F',rfl⟩:∃ g,F'=g+1:=⟨F' - 1,by omega⟩
  have h0:=h.a0
  have h1:=h.a1
  have h2:=h.ll
  have hlen:ix.length≤3 * (r.at_ - a0).toNat:=by have:=ho.w;rw[sZ]at this;omega
  simp only[bZ,fK]
  rw[iR h,gX h [44],Option.bind_some,Option.bind_some]
  cases c:jd r 3 [44]with
  | true=>
   have hlt:=h.is_lt c
   have hA:=Nx.adv h hlt
   simp only[if_true]
   show Sim L r _ (pb (db (adv r)) _) ((gZ (⟨L.L,au (r.at_+L.o+1),r.deep+L.o,0,0⟩:RS)).bind _)
   rw[j4 h]
   refine((Ad hA.ok).base hA (Q':=λx q=>r.at_+1<q.at_∧IxI x (q.at_ - (r.at_+1)).toNat) (λx q hq hx=>hx)).bnd (λx r1 hn ⟨hlt1,hx⟩=>?_) (λy s hs=>?_)
   ·have hl1:=hn.ok.a1
    have hll:=hn.l
    rw[hll]at hl1
    dsimp only
    rw[cJ (by simp only[List.length_cons,List.length_nil];omega),Option.bind_some,Option.bind_some]
    refine(ih F' a0 r1 s (ix++[x]) x hn.ok (by rw[hll];omega) (by rw[hll];omega) ha0 (by omega) ((ho.idx hx (by omega) (by omega)).mono (by omega))).base hn (λx q hq hx=>⟨by omega,hx.2⟩)
   ·dsimp only
    obtain⟨G,rfl⟩:∃ g,F'=g+1:=⟨F' - 1,by omega⟩
    rw[cJ (by simp only[List.length_cons,List.length_nil];omega),Option.bind_some,uJ hs]
    exact Fl.mk hs
  | false=>
   simp only[Bool.false_eq_true,if_false]
   unfold lT
   refine((cF h [93]).base (Nx.refl h) (Q':=λq=>q.at_=r.at_+1) (λq hq e=>e)).bnd (λr1 hn e=>?_) (λs hs=>Fl.mk hs)
   dsimp only at e ⊢
   exact Sim.ret hn ⟨by omega,ho.mono (by omega)⟩
def DC (s10:PR):Option (bL (GExpr×PR)):=
 pb (aV s10) λ⟨r20,s15⟩=>
 pb (ar s15 ([91]:List UInt8)) λ⟨r21,s16⟩=>
 (aE s16 ([93]:List UInt8)).bind λ⟨r22,s17⟩=>
 if r22 then
  some (.ret ((⟨3,r20,zV,zT,zL,[],[]⟩:GExpr),s17))
 else
  pb (db s17) λ⟨r23,s18⟩=>
  bZ fu s18 (⟨3,r20,zV,zT,zL,[r23],[]⟩:GExpr)
theorem XW.read0 {s:List UInt8} (h:okS s) {n:Nat} (hn:1≤n):XW ⟨3,s,zV,zT,zL,[],[]⟩ n:=
 ⟨J9 (by omega) h Fp G4 Fs sC sC,by rw[sZ];simp;omega⟩
theorem wc {p:RS} (he:p.E≠0) (s:List UInt8):∃ y,((aK p 0 [93]).bind λr3=>
 if r3 then
  some ((⟨3,s,(⟨0,0⟩:GVal),(⟨0,0,0,0,0⟩:GType),(⟨0,([]:List GMono)⟩:GLin),([]:List GIndex),([]:List GExpr)⟩:GExpr),(⟨p.L,au (p.At+1),p.Deep,p.E,p.Pos⟩:RS))
 else
  (gZ p).bind λr4=>
  (gm ([]:List GIndex) ([r4.1]:List GIndex)).bind λzs1=>
  fK fu r4.2 (⟨3,s,(⟨0,0⟩:GVal),(⟨0,0,0,0,0⟩:GType),(⟨0,([]:List GMono)⟩:GLin),zs1,([]:List GExpr)⟩:GExpr) r4.1)=some (y,p):=by
 obtain⟨y,hy⟩:=Ff he
 rw[jh he,Option.bind_some,if_neg (by simp),hy,Option.bind_some,cJ (by simp),Option.bind_some]
 obtain⟨g,hg⟩:=HP
 rw[hg,uJ he];exact⟨_,rfl⟩
theorem GK {p:RS} (he:p.E≠0):∃ y,jt p=some (y,p):=by
 unfold jt
 rw[Cq he,Option.bind_some]
 dsimp only
 rw[be he,Option.bind_some]
 exact wc he []
theorem GH {r:PR} (h:Rok L r):Sim L r (XI r) (DC r) (jt (St L r)):=by
 have h0:=h.a0;have h1:=h.a1;have h2:=h.ll
 unfold DC jt
 refine(oq h).bnd (λs r1 hn1 ⟨hs,q1⟩=>?_) (λy s hs=>?_)
 ·dsimp only
  have hS:okS s:=yf (by have:=(wl hs).2;omega)
  refine((cF hn1.ok [91]).base hn1 (Q':=λq=>r.at_+1<q.at_) (λq hq e=>by omega)).bnd (λr2 hn2 q2=>?_) (λq hs=>?_)
  ·dsimp only
   have h3:=hn2.ok
   rw[iR h3,gX h3 [93],Option.bind_some,Option.bind_some]
   cases c:jd r2 3 [93]with
   | true=>
    have hA:=Nx.adv h3 (h3.is_lt c)
    simp only[if_true]
    show Sim L r _ (some (.ret ((⟨3,s,zV,zT,zL,[],[]⟩:GExpr),adv r2))) (some ((⟨3,s,zV,zT,zL,[],[]⟩:GExpr),(⟨L.L,au (r2.at_+L.o+1),r2.deep+L.o,0,0⟩:RS)))
    rw[j4 h3]
    exact Sim.ret (hn2.trans hA) ⟨by rw[ss];omega,XW.read0 hS (by rw[ss];omega)⟩
   | false=>
    simp only[Bool.false_eq_true,if_false]
    refine((Ad h3).base hn2 (Q':=λx q=>r2.at_<q.at_∧IxI x (q.at_ - r2.at_).toNat) (λx q hq hx=>hx)).bnd (λx r4 hn4 ⟨hlt,hx⟩=>?_) (λy s' hs=>?_)
    ·dsimp only
     have hl1:=hn4.ok.a1
     have hll:=hn4.l
     rw[hll]at hl1
     rw[cJ (by simp),Option.bind_some]
     exact(GI fu fu r.at_ r4 s [x] x hn4.ok (by rw[hll];unfold fu;omega) (by rw[hll];unfold fu;omega) h0 (by omega) (((XW.read0 hS (n:=(r2.at_ - r.at_).toNat) (by omega)).idx hx (by omega) (by omega)).mono (by omega))).base hn4 (λx q hq hx=>⟨by omega,hx.2⟩)
    ·dsimp only
     rw[cJ (by simp),Option.bind_some]
     obtain⟨g,hg⟩:=HP
     rw[hg,uJ hs]
     exact Fl.mk hs
  ·obtain⟨y,hy⟩:=wc hs s
   rw[hy];exact Fl.mk hs
 ·dsimp only
  rw[be hs,Option.bind_some]
  obtain⟨z,hz⟩:=wc hs y
  rw[hz];exact Fl.mk hs
abbrev RP:=PR→Option (bL (GExpr×PR))
abbrev RR:=RS→Int→Option (GExpr×RS)
theorem XW.arg {op:Int} {s:List UInt8} {v:GVal} {t:GType} {f:GLin} {ix:List GIndex} {args:List GExpr} {x:GExpr} {n m:Nat} (h:XW ⟨op,s,v,t,f,ix,args⟩ n) (hx:XW x m) (hn:args.length≤1000000):XW ⟨op,s,v,t,f,ix,args++[x]⟩ (n+m):=by
 have ho:=okGExpr_iff.1 h.ok
 have hw:=h.w
 have hxw:=hx.w
 refine⟨okGExpr_iff.2 ⟨ho.1,ho.2.1,ho.2.2.1,ho.2.2.2.1,ho.2.2.2.2.1,ho.2.2.2.2.2.1,λy hy=>?_,by simp only[List.length_append,List.length_cons,List.length_nil];omega⟩,?_⟩
 ·rcases List.mem_append.1 hy with hy | hy
  ·exact ho.2.2.2.2.2.2.1 y hy
  ·rw[List.mem_singleton.1 hy];exact hx.ok
 ·rw[sZ]at hw ⊢
  rw[List.map_append,List.sum_append]
  simp only[List.map_cons,List.map_nil,List.sum_cons,List.sum_nil]
  omega
theorem XW.arg' {e x:GExpr} {n m:Nat} (h:XW e n) (hx:XW x m) (hn:e.Args.length≤1000000):XW ⟨e.Op,e.Name,e.Val,e.Type_,e.Lin,e.Idx,e.Args++[x]⟩ (n+m):=by cases e;exact h.arg hx hn
abbrev RF (rec':RR) (n:Int):Prop:=∀ p:RS,p.E≠0→∃ y,rec' p n=some (y,p)
abbrev RK (L:Cx) (rec_:RP) (rec':RR) (r:PR) (n:Int):Prop:=∀ q:PR,Rok L q→q.l=r.l→q.deep=r.deep+1→SimR L q (XI q) (rec_ q) (rec' (St L q) n)
theorem D8 {rec':RR} (hf:RF rec' 1) (p1:RS) (many:Nat) (hm:many≤10) (ty:Bool):∀ (n F' i:Nat) (p:RS) (e:GExpr),p.E≠0→i+n=many→n<F'→e.Args.length≤i→Fl p.Pos p.E (bY (many:Int) ty rec' p1 F' (i:Int) p e):=by
 intro n
 induction n with
 | zero=>
  intro F' i p e he hi hF ha
  obtain⟨F',rfl⟩:∃ g,F'=g+1:=⟨F' - 1,by omega⟩
  simp only[bY]
  rw[if_neg (by simp;omega)]
  unfold ji
  rw[be he,Option.bind_some]
  exact Fl.mk' he rfl rfl
 | succ n ih=>
  intro F' i p e he hi hF ha
  obtain⟨F',rfl⟩:∃ g,F'=g+1:=⟨F' - 1,by omega⟩
  simp only[bY]
  rw[if_pos (bS (by omega))]
  have k:Fl p.Pos p.E (eN rec' e (bY (many:Int) ty rec' p1 F') (i:Int) p):=by
   unfold eN
   obtain⟨y,hy⟩:=hf p he
   rw[hy,Option.bind_some,cJ (by simp only[List.length_cons,List.length_nil];omega),Option.bind_some,nu (by omega)]
   exact ih F' (i+1) p _ he (by omega) (by omega) (by simp only[List.length_append,List.length_cons,List.length_nil];omega)
  rw[be he,Option.bind_some]
  split<;>exact k
theorem HB {rec_:RP} {rec':RR} {r:PR} (hr:Rok L r) (hrec:RK L rec_ rec' r 1) (hf:RF rec' 1) (many:Nat) (hm:many≤10):∀ (n F F' i:Nat) (q:PR) (e:GExpr),i+n=many→n<F→n<F'→Rok L q→q.l=r.l→q.deep=r.deep+1→r.at_<q.at_→XW e (q.at_ - r.at_).toNat→e.Args.length≤i→
  SimR L r (XI r) (bH (many:Int) rec_ F (i:Int) q e) (bY (many:Int) false rec' (St L r) F' (i:Int) (St L q) e):=by
 intro n
 induction n with
 | zero=>
  intro F F' i q e hi hF hF' hq hql hqd ha hx hal
  obtain⟨F,rfl⟩:∃ g,F=g+1:=⟨F - 1,by omega⟩
  obtain⟨F',rfl⟩:∃ g,F'=g+1:=⟨F' - 1,by omega⟩
  simp only[bH,bY]
  rw[if_neg (by simp;omega),if_neg (by simp;omega)]
  unfold ji
  refine wr hr hq hql hqd (by omega) (λhn=>?_) (λs hs=>Fl.mk' hs rfl rfl)
  exact SimR.ret hn ⟨by show r.at_<q.at_+1;omega,hx.mono (by show _ ≤(q.at_+1 - r.at_).toNat;omega)⟩
 | succ n ih=>
  intro F F' i q e hi hF hF' hq hql hqd ha hx hal
  obtain⟨F,rfl⟩:∃ g,F=g+1:=⟨F - 1,by omega⟩
  obtain⟨F',rfl⟩:∃ g,F'=g+1:=⟨F' - 1,by omega⟩
  simp only[bH,bY]
  rw[if_pos (bS (by omega)),if_pos (bS (by omega))]
  have step:∀ q2,Rok L q2→q2.l=r.l→q2.deep=r.deep+1→r.at_<q2.at_→XW e (q2.at_ - r.at_).toNat→SimR L r (XI r) (eo rec_ e (bH (many:Int) rec_ F) (i:Int) q2) (eN rec' e (bY (many:Int) false rec' (St L r) F') (i:Int) (St L q2)):=λq2 k1 k2 k3 k4 k5=>by
   unfold eo eN
   refine(hrec q2 k1 k2 k3).bnd (λx r' hn ⟨h1,h2⟩=>?_) (λy s hs=>?_)
   ·dsimp only
    have hl':=hn.l
    have hd':=hn.d
    rw[cJ (by simp only[List.length_cons,List.length_nil];omega),Option.bind_some,Option.bind_some,nu (by omega)]
    exact ih F F' (i+1) r' _ (by omega) (by omega) (by omega) hn.ok (hl'.trans k2) (hd'.trans k3) (by omega) ((k5.arg' h2 (by omega)).mono (by omega)) (by simp only[List.length_append,List.length_cons,List.length_nil];omega)
   ·dsimp only
    rw[cJ (by simp only[List.length_cons,List.length_nil];omega),Option.bind_some,nu (by omega)]
    exact D8 hf (St L r) many hm false n F' (i+1) s _ hs (by omega) (by omega) (by simp only[List.length_append,List.length_cons,List.length_nil];omega)
  by_cases c:0<i
  ·rw[if_pos (by simpa using c),if_pos (by simpa using c)]
   refine(cF hq [44]).p.bnd (λr' hr' ⟨hn,e⟩=>?_) (λs hs=>?_)
   ·exact step r' hr' (hn.l.trans hql) (hn.d.trans hqd) (by omega) (hx.mono (by omega))
   ·unfold eN
    obtain⟨y,hy⟩:=hf s hs
    rw[hy,Option.bind_some,cJ (by simp only[List.length_cons,List.length_nil];omega),Option.bind_some,nu (by omega)]
    exact D8 hf (St L r) many hm false n F' (i+1) s _ hs (by omega) (by omega) (by simp only[List.length_append,List.length_cons,List.length_nil];omega)
  ·rw[if_neg (by simpa using c),if_neg (by simpa using c)]
   exact step q hq hql hqd ha hx
theorem DE {r:PR} (h:Rok L r) (c:jd r 3 [40]=true):cM r=ce r:=by
 unfold cM
 rw[uN h,Option.bind_some,c]
 exact ut _
theorem GR {r:PR} (h:Rok L r) (c:jd r 3 [40]=false):cM r=some (.pan (sw r).1 (sw r).2):=by
 unfold cM
 rw[uN h,Option.bind_some,c,pX h];rfl
theorem BX {r:PR} (h:Rok L r) (y:GExpr) (ho:L.o=0):Fl (sw r).1 (sw r).2 ((cq (St L r)).bind λr2=>some (y,r2)):=by rw[pW h ho];exact⟨_,_,rfl,rfl,rfl,qP r⟩
theorem HA {rec_:RP} {rec':RR} {r:PR} (hr:Rok L r) (hrec:RK L rec_ rec' r 1) (hf:RF rec' 1) (many:Nat) (hm:many≤10) (op:Int) (hop:0≤op∧op≤1000):SimR L r (XI r) (dA rec_ r op (many:Int)) (eu rec' (St L r) op (many:Int) false):=by
 unfold dA eu
 rw[gX hr [40],Option.bind_some]
 cases c:jd r 3 [40]with
 | false=>
  rw[GR hr c,if_pos (by simp)]
  exact .inr ⟨_,_,rfl,uo hr,BX hr _⟩
 | true=>
  rw[DE hr c,if_neg (by simp)]
  refine(tY hr (hr.is_lt c)).bnd (λr' hr' ⟨e,hd⟩=>?_) (λs hs=>?_)
  ·subst e
   simp only[Bool.false_eq_true,if_false]
   unfold eO
   exact HB hr hrec hf many hm many fu fu 0 (inn r) _ (by omega) (by unfold fu;omega) (by unfold fu;omega) hr' rfl rfl (by show r.at_<r.at_+1;omega) ⟨J9 hop Fq Fp G4 Fs sC sC,by rw[sZ];show _ ≤3 * (r.at_+1 - r.at_).toNat;simp;omega⟩ (by simp)
  ·simp only[Bool.false_eq_true,if_false]
   unfold eO
   exact D8 hf (St L r) many hm false many fu 0 s _ hs (by omega) (by unfold fu;omega) (by simp)
theorem fu2:∃ g,fu=g+1+1:=⟨fu - 2,by unfold fu;omega⟩
theorem Hz {rec_:RP} {rec':RR} {r:PR} (hr:Rok L r) (hrec:RK L rec_ rec' r 1) (hf:RF rec' 1):SimR L r (XI r) (fW rec_ r) (eu rec' (St L r) 12 1 true):=by
 unfold fW eu
 rw[gX hr [40],Option.bind_some]
 have run:∀ (t:GType) (p:RS),eO 1 true rec' (St L r) ⟨12,[],zV,t,zL,[],[]⟩ p=(az p [44]).bind λr6=>(rec' r6 1).bind λr5=>(az r5.2 [41]).bind λr4=>some (⟨12,[],zV,t,zL,[],[r5.1]⟩,⟨r4.L,r4.At,(St L r).Deep,r4.E,r4.Pos⟩):=λt p=>by
  unfold eO
  obtain⟨g,hg⟩:=fu2
  rw[hg]
  simp only[bY,eN,ji]
  rfl
 cases c:jd r 3 [40]with
 | false=>
  rw[GR hr c,if_pos (by simp)]
  exact .inr ⟨_,_,rfl,uo hr,BX hr _⟩
 | true=>
  rw[DE hr c,if_neg (by simp)]
  have fl:∀ (t:GType) (s:RS),s.E≠0→Fl s.Pos s.E (eO 1 true rec' (St L r) ⟨12,[],zV,t,zL,[],[]⟩ s):=λt s hs=>by
   rw[run,be hs,Option.bind_some]
   obtain⟨y,hy⟩:=hf s hs
   rw[hy,Option.bind_some]
   dsimp only
   rw[be hs,Option.bind_some]
   exact Fl.mk' hs rfl rfl
  refine(tY hr (hr.is_lt c)).bnd (λr' hr' ⟨e,hd⟩=>?_) (λs hs=>?_)
  ·subst e
   simp only[if_true]
   refine(xz hr').r.bnd (λt r2 hn2 ⟨ht,hlt⟩=>?_) (λy s hs=>fl y s hs)
   dsimp only
   rw[run]
   have e0:(inn r).at_=r.at_+1:=rfl
   refine(cF hn2.ok [44]).p.bnd (λr3 hr3 ⟨hn3,e3⟩=>?_) (λs hs=>?_)
   ·dsimp only
    refine(hrec r3 hr3 (hn3.l.trans hn2.l) (hn3.d.trans hn2.d)).bnd (λx r4 hn4 ⟨h1,h2⟩=>?_) (λy s hs=>?_)
    ·dsimp only
     refine wr hr hn4.ok (hn4.l.trans (hn3.l.trans hn2.l)) (hn4.d.trans (hn3.d.trans hn2.d)) (by omega) (λhn=>?_) (λs hs=>Fl.mk' hs rfl rfl)
     refine SimR.ret hn ⟨by show r.at_<r4.at_+1;omega,?_⟩
     have k:XW (⟨12,[],zV,t,zL,[],[]⟩:GExpr) 1:=⟨J9 (by omega) Fq Fp (G3 ht) Fs sC sC,by rw[sZ];simp⟩
     exact(k.arg h2 (by simp)).mono (by show _ ≤(r4.at_+1 - r.at_).toNat;omega)
    ·dsimp only
     rw[be hs,Option.bind_some]
     exact Fl.mk' hs rfl rfl
   ·obtain⟨y,hy⟩:=hf s hs
    rw[hy,Option.bind_some]
    dsimp only
    rw[be hs,Option.bind_some]
    exact Fl.mk' hs rfl rfl
  ·simp only[if_true]
   rw[vj hs,Option.bind_some]
   exact fl _ s hs
end Go.Proofs.YtmhoikfoogemnaaGreatDoor
