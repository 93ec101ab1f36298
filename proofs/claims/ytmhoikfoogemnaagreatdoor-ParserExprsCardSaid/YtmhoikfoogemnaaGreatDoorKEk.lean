import Derived.Test.YtmhoikfoogemnaaGreatDoorKEj
namespace Go.Proofs.YtmhoikfoogemnaaGreatDoor
open Go Go.RowKit Go.Vc
set_option linter.unusedVariables false
set_option linter.unusedSimpArgs false
variable {L:Cx}
theorem XW.idx {op:Int} {s:List UInt8} {v:GVal} {t:GType} {f:GLin} {ix:List GIndex} {args:List GExpr} {x:GIndex} {n m:Nat} (h:XW ⟨op,s,v,t,f,ix,args⟩ n) (hx:IxI x m) (hm:1≤m) (hn:n+m≤200000):XW ⟨op,s,v,t,f,ix++[x],args⟩ (n+m):=by
 have ho:=okGExpr_iff.1 h.ok
 have hw:=h.w
 have hxw:=hx.w
 have hl:ix.length≤3 * n:=by rw[qq]at hw;omega
 refine⟨okGExpr_iff.2 ⟨ho.1,ho.2.1,ho.2.2.1,ho.2.2.2.1,ho.2.2.2.2.1,⟨fun y hy=> ?_,by simp only[List.length_append,List.length_cons,List.length_nil];omega⟩,ho.2.2.2.2.2.2⟩,?_⟩
 ·rcases List.mem_append.1 hy with hy | hy
  ·exact ho.2.2.2.2.2.1.1 y hy
  ·rw[List.mem_singleton.1 hy];exact hx.ok
 ·rw[qq]at hw ⊢
  rw[List.map_append,List.sum_append,List.length_append]
  simp only[List.map_cons,List.map_nil,List.sum_cons,List.sum_nil,List.length_cons,List.length_nil]
  omega
theorem rZ {p:RS} (he:p.E≠0) (g:Nat) (e:GExpr) (x:GIndex):eO (g+1) p e x=some (e,p):=by
 simp only[eO]
 rw[jV he,Option.bind_some,if_neg (by simp)]
 unfold kT
 rw[bF he];rfl
theorem DR:∀ (F F':Nat) (a0:Int) (r:PR) (s:List UInt8) (ix:List GIndex) (x0:GIndex),Rok L r→r.l.length - r.at_.toNat<F→r.l.length - r.at_.toNat<F'→0≤a0→a0≤r.at_→XW ⟨3,s,zV,zT,zL,ix,[]⟩ (r.at_ - a0).toNat→
  Sim L r (fun x r'=>r.at_<r'.at_∧XW x (r'.at_ - a0).toNat) (bL F r ⟨3,s,zV,zT,zL,ix,[]⟩) (eO F' (St L r) ⟨3,s,zV,zT,zL,ix,[]⟩ x0):=by
 intro F
 induction F with
 | zero=>intros;omega
 | succ F ih=>
  intro F' a0 r s ix x0 h hF hF' ha0 ha1 ho
  obtain⟨F',rfl⟩:∃ g,F'=g+1:=⟨F' - 1,by omega⟩
  have h0:=h.a0
  have h1:=h.a1
  have h2:=h.ll
  have hlen:ix.length≤3 * (r.at_ - a0).toNat:=by have:=ho.w;rw[qq]at this;omega
  simp only[bL,eO]
  rw[j7 h,ic h [44],Option.bind_some,Option.bind_some]
  cases c:ly r 3 [44]with
  | true=>
   have hlt:=h.is_lt c
   have hA:=Nx.adv h hlt
   simp only[if_true]
   show Sim L r _ (pb (cK (adv r)) _) ((gp (⟨L.L,ar (r.at_+L.o+1),r.deep+L.o,0,0⟩:RS)).bind _)
   rw[kL h]
   refine((xV hA.ok).base hA (Q':=fun x q=>r.at_+1<q.at_∧IxI x (q.at_ - (r.at_+1)).toNat) (fun x q hq hx=>hx)).bnd (fun x r1 hn ⟨hlt1,hx⟩=> ?_) (fun y s hs=> ?_)
   ·have hl1:=hn.ok.a1
    have hll:=hn.l
    rw[hll]at hl1
    dsimp only
    rw[eE (by simp only[List.length_cons,List.length_nil];omega),Option.bind_some,Option.bind_some]
    refine(ih F' a0 r1 s (ix++[x]) x hn.ok (by rw[hll];omega) (by rw[hll];omega) ha0 (by omega) ((ho.idx hx (by omega) (by omega)).mono (by omega))).base hn (fun x q hq hx=>⟨by omega,hx.2⟩)
   ·dsimp only
    obtain⟨G,rfl⟩:∃ g,F'=g+1:=⟨F' - 1,by omega⟩
    rw[eE (by simp only[List.length_cons,List.length_nil];omega),Option.bind_some,rZ hs]
    exact Fl.mk hs
  | false=>
   simp only[Bool.false_eq_true,if_false]
   unfold kT
   refine((fT h [93]).base (Nx.refl h) (Q':=fun q=>q.at_=r.at_+1) (fun q hq e=>e)).bnd (fun r1 hn e=> ?_) (fun s hs=>Fl.mk hs)
   dsimp only at e ⊢
   exact Sim.ret hn ⟨by omega,ho.mono (by omega)⟩
def AY (s10:PR):Option (bz (GExpr×PR)):=
 pb (br s10) fun⟨r20,s15⟩=>
 pb (aJ s15 ([91]:List UInt8)) fun⟨r21,s16⟩=>
 (aw s16 ([93]:List UInt8)).bind fun⟨r22,s17⟩=>
 if r22 then
  some (.ret ((⟨3,r20,zV,zT,zL,[],[]⟩:GExpr),s17))
 else
  pb (cK s17) fun⟨r23,s18⟩=>
  bL fu s18 (⟨3,r20,zV,zT,zL,[r23],[]⟩:GExpr)
theorem XW.read0 {s:List UInt8} (h:okS s) {n:Nat} (hn:1≤n):XW ⟨3,s,zV,zT,zL,[],[]⟩ n:=
 ⟨F8 (by omega) h A8 CB Bc o7 o7,by rw[qq];simp;omega⟩
theorem tF {p:RS} (he:p.E≠0) (s:List UInt8):∃ y,((aL p 0 [93]).bind fun r3=>
 if r3 then
  some ((⟨3,s,(⟨0,0⟩:GVal),(⟨0,0,0,0,0⟩:GType),(⟨0,([]:List GMono)⟩:GLin),([]:List GIndex),([]:List GExpr)⟩:GExpr),(⟨p.L,ar (p.At+1),p.Deep,p.E,p.Pos⟩:RS))
 else
  (gp p).bind fun r4=>
  (mV ([]:List GIndex) ([r4.1]:List GIndex)).bind fun zs1=>
  eO fu r4.2 (⟨3,s,(⟨0,0⟩:GVal),(⟨0,0,0,0,0⟩:GType),(⟨0,([]:List GMono)⟩:GLin),zs1,([]:List GExpr)⟩:GExpr) r4.1)=some (y,p):=by
 obtain⟨y,hy⟩:=Ct he
 rw[jV he,Option.bind_some,if_neg (by simp),hy,Option.bind_some,eE (by simp),Option.bind_some]
 obtain⟨g,hg⟩:=Ge
 rw[hg,rZ he];exact⟨_,rfl⟩
theorem DT {p:RS} (he:p.E≠0):∃ y,iN p=some (y,p):=by
 unfold iN
 rw[DU he,Option.bind_some]
 dsimp only
 rw[bF he,Option.bind_some]
 exact tF he []
theorem DQ {r:PR} (h:Rok L r):Sim L r (XI r) (AY r) (iN (St L r)):=by
 have h0:=h.a0;have h1:=h.a1;have h2:=h.ll
 unfold AY iN
 refine(sQ h).bnd (fun s r1 hn1 ⟨hs,q1⟩=> ?_) (fun y s hs=> ?_)
 ·dsimp only
  have hS:okS s:=vX (by have:=(tK hs).2;omega)
  refine((fT hn1.ok [91]).base hn1 (Q':=fun q=>r.at_+1<q.at_) (fun q hq e=>by omega)).bnd (fun r2 hn2 q2=> ?_) (fun q hs=> ?_)
  ·dsimp only
   have h3:=hn2.ok
   rw[j7 h3,ic h3 [93],Option.bind_some,Option.bind_some]
   cases c:ly r2 3 [93]with
   | true=>
    have hA:=Nx.adv h3 (h3.is_lt c)
    simp only[if_true]
    show Sim L r _ (some (.ret ((⟨3,s,zV,zT,zL,[],[]⟩:GExpr),adv r2))) (some ((⟨3,s,zV,zT,zL,[],[]⟩:GExpr),(⟨L.L,ar (r2.at_+L.o+1),r2.deep+L.o,0,0⟩:RS)))
    rw[kL h3]
    exact Sim.ret (hn2.trans hA) ⟨by rw[qm];omega,XW.read0 hS (by rw[qm];omega)⟩
   | false=>
    simp only[Bool.false_eq_true,if_false]
    refine((xV h3).base hn2 (Q':=fun x q=>r2.at_<q.at_∧IxI x (q.at_ - r2.at_).toNat) (fun x q hq hx=>hx)).bnd (fun x r4 hn4 ⟨hlt,hx⟩=> ?_) (fun y s' hs=> ?_)
    ·dsimp only
     have hl1:=hn4.ok.a1
     have hll:=hn4.l
     rw[hll]at hl1
     rw[eE (by simp),Option.bind_some]
     exact(DR fu fu r.at_ r4 s [x] x hn4.ok (by rw[hll];unfold fu;omega) (by rw[hll];unfold fu;omega) h0 (by omega) (((XW.read0 hS (n:=(r2.at_ - r.at_).toNat) (by omega)).idx hx (by omega) (by omega)).mono (by omega))).base hn4 (fun x q hq hx=>⟨by omega,hx.2⟩)
    ·dsimp only
     rw[eE (by simp),Option.bind_some]
     obtain⟨g,hg⟩:=Ge
     rw[hg,rZ hs]
     exact Fl.mk hs
  ·obtain⟨y,hy⟩:=tF hs s
   rw[hy];exact Fl.mk hs
 ·dsimp only
  rw[bF hs,Option.bind_some]
  obtain⟨z,hz⟩:=tF hs y
  rw[hz];exact Fl.mk hs
abbrev RP:=PR→Option (bz (GExpr×PR))
abbrev RR:=RS→Int→Option (GExpr×RS)
theorem XW.arg {op:Int} {s:List UInt8} {v:GVal} {t:GType} {f:GLin} {ix:List GIndex} {args:List GExpr} {x:GExpr} {n m:Nat} (h:XW ⟨op,s,v,t,f,ix,args⟩ n) (hx:XW x m) (hn:args.length≤1000000):XW ⟨op,s,v,t,f,ix,args++[x]⟩ (n+m):=by
 have ho:=okGExpr_iff.1 h.ok
 have hw:=h.w
 have hxw:=hx.w
 refine⟨okGExpr_iff.2 ⟨ho.1,ho.2.1,ho.2.2.1,ho.2.2.2.1,ho.2.2.2.2.1,ho.2.2.2.2.2.1,⟨fun y hy=> ?_,by simp only[List.length_append,List.length_cons,List.length_nil];omega⟩⟩,?_⟩
 ·rcases List.mem_append.1 hy with hy | hy
  ·exact ho.2.2.2.2.2.2.1 y hy
  ·rw[List.mem_singleton.1 hy];exact hx.ok
 ·rw[qq]at hw ⊢
  rw[List.map_append,List.sum_append]
  simp only[List.map_cons,List.map_nil,List.sum_cons,List.sum_nil]
  omega
theorem XW.arg' {e x:GExpr} {n m:Nat} (h:XW e n) (hx:XW x m) (hn:e.Args.length≤1000000):XW ⟨e.Op,e.Name,e.Val,e.Type_,e.Lin,e.Idx,e.Args++[x]⟩ (n+m):=by cases e;exact h.arg hx hn
abbrev RF (rec':RR) (n:Int):Prop:=∀ p:RS,p.E≠0→∃ y,rec' p n=some (y,p)
abbrev RK (L:Cx) (rec_:RP) (rec':RR) (r:PR) (n:Int):Prop:=∀ q:PR,Rok L q→q.l=r.l→q.deep=r.deep+1→SimR L q (XI q) (rec_ q) (rec' (St L q) n)
theorem Bu {rec':RR} (hf:RF rec' 1) (p1:RS) (many:Nat) (hm:many≤10) (ty:Bool):∀ (n F' i:Nat) (p:RS) (e:GExpr),p.E≠0→i+n=many→n<F'→e.Args.length≤i→Fl p.Pos p.E (bK (many:Int) ty rec' p1 F' (i:Int) p e):=by
 intro n
 induction n with
 | zero=>
  intro F' i p e he hi hF ha
  obtain⟨F',rfl⟩:∃ g,F'=g+1:=⟨F' - 1,by omega⟩
  simp only[bK]
  rw[if_neg (by simp;omega)]
  unfold iA
  rw[bF he,Option.bind_some]
  exact Fl.mk' he rfl rfl
 | succ n ih=>
  intro F' i p e he hi hF ha
  obtain⟨F',rfl⟩:∃ g,F'=g+1:=⟨F' - 1,by omega⟩
  simp only[bK]
  rw[if_pos (cb (by omega))]
  have k:Fl p.Pos p.E (dV rec' e (bK (many:Int) ty rec' p1 F') (i:Int) p):=by
   unfold dV
   obtain⟨y,hy⟩:=hf p he
   rw[hy,Option.bind_some,eE (by simp only[List.length_cons,List.length_nil];omega),Option.bind_some,mU (by omega)]
   exact ih F' (i+1) p _ he (by omega) (by omega) (by simp only[List.length_append,List.length_cons,List.length_nil];omega)
  rw[bF he,Option.bind_some]
  split<;>exact k
theorem ED {rec_:RP} {rec':RR} {r:PR} (hr:Rok L r) (hrec:RK L rec_ rec' r 1) (hf:RF rec' 1) (many:Nat) (hm:many≤10):∀ (n F F' i:Nat) (q:PR) (e:GExpr),i+n=many→n<F→n<F'→Rok L q→q.l=r.l→q.deep=r.deep+1→r.at_<q.at_→XW e (q.at_ - r.at_).toNat→e.Args.length≤i→
  SimR L r (XI r) (bs (many:Int) rec_ F (i:Int) q e) (bK (many:Int) false rec' (St L r) F' (i:Int) (St L q) e):=by
 intro n
 induction n with
 | zero=>
  intro F F' i q e hi hF hF' hq hql hqd ha hx hal
  obtain⟨F,rfl⟩:∃ g,F=g+1:=⟨F - 1,by omega⟩
  obtain⟨F',rfl⟩:∃ g,F'=g+1:=⟨F' - 1,by omega⟩
  simp only[bs,bK]
  rw[if_neg (by simp;omega),if_neg (by simp;omega)]
  unfold iA
  refine tQ hr hq hql hqd (by omega) (fun hn=> ?_) (fun s hs=>Fl.mk' hs rfl rfl)
  exact SimR.ret hn ⟨by show r.at_<q.at_+1;omega,hx.mono (by show _ ≤(q.at_+1 - r.at_).toNat;omega)⟩
 | succ n ih=>
  intro F F' i q e hi hF hF' hq hql hqd ha hx hal
  obtain⟨F,rfl⟩:∃ g,F=g+1:=⟨F - 1,by omega⟩
  obtain⟨F',rfl⟩:∃ g,F'=g+1:=⟨F' - 1,by omega⟩
  simp only[bs,bK]
  rw[if_pos (cb (by omega)),if_pos (cb (by omega))]
  have step:∀ q2,Rok L q2→q2.l=r.l→q2.deep=r.deep+1→r.at_<q2.at_→XW e (q2.at_ - r.at_).toNat→SimR L r (XI r) (dL rec_ e (bs (many:Int) rec_ F) (i:Int) q2) (dV rec' e (bK (many:Int) false rec' (St L r) F') (i:Int) (St L q2)):=fun q2 k1 k2 k3 k4 k5=>by
   unfold dL dV
   refine(hrec q2 k1 k2 k3).bnd (fun x r' hn ⟨h1,h2⟩=> ?_) (fun y s hs=> ?_)
   ·dsimp only
    have hl':=hn.l
    have hd':=hn.d
    rw[eE (by simp only[List.length_cons,List.length_nil];omega),Option.bind_some,Option.bind_some,mU (by omega)]
    exact ih F F' (i+1) r' _ (by omega) (by omega) (by omega) hn.ok (hl'.trans k2) (hd'.trans k3) (by omega) ((k5.arg' h2 (by omega)).mono (by omega)) (by simp only[List.length_append,List.length_cons,List.length_nil];omega)
   ·dsimp only
    rw[eE (by simp only[List.length_cons,List.length_nil];omega),Option.bind_some,mU (by omega)]
    exact Bu hf (St L r) many hm false n F' (i+1) s _ hs (by omega) (by omega) (by simp only[List.length_append,List.length_cons,List.length_nil];omega)
  by_cases c:0<i
  ·rw[if_pos (by simpa using c),if_pos (by simpa using c)]
   refine(fT hq [44]).p.bnd (fun r' hr' ⟨hn,e⟩=> ?_) (fun s hs=> ?_)
   ·exact step r' hr' (hn.l.trans hql) (hn.d.trans hqd) (by omega) (hx.mono (by omega))
   ·unfold dV
    obtain⟨y,hy⟩:=hf s hs
    rw[hy,Option.bind_some,eE (by simp only[List.length_cons,List.length_nil];omega),Option.bind_some,mU (by omega)]
    exact Bu hf (St L r) many hm false n F' (i+1) s _ hs (by omega) (by omega) (by simp only[List.length_append,List.length_cons,List.length_nil];omega)
  ·rw[if_neg (by simpa using c),if_neg (by simpa using c)]
   exact step q hq hql hqd ha hx
theorem A5 {r:PR} (h:Rok L r) (c:ly r 3 [40]=true):cu r=bO r:=by
 unfold cu
 rw[xe h,Option.bind_some,c]
 exact rK _
theorem D0 {r:PR} (h:Rok L r) (c:ly r 3 [40]=false):cu r=some (.pan (rH r).1 (rH r).2):=by
 unfold cu
 rw[xe h,Option.bind_some,c,rn h];rfl
theorem zq {r:PR} (h:Rok L r) (y:GExpr) (ho:L.o=0):Fl (rH r).1 (rH r).2 ((cz (St L r)).bind fun r2=>some (y,r2)):=by rw[rl h ho];exact⟨_,_,rfl,rfl,rfl,tC r⟩
theorem EC {rec_:RP} {rec':RR} {r:PR} (hr:Rok L r) (hrec:RK L rec_ rec' r 1) (hf:RF rec' 1) (many:Nat) (hm:many≤10) (op:Int) (hop:0≤op∧op≤1000):SimR L r (XI r) (cY rec_ r op (many:Int)) (dO rec' (St L r) op (many:Int) false):=by
 unfold cY dO
 rw[ic hr [40],Option.bind_some]
 cases c:ly r 3 [40]with
 | false=>
  rw[D0 hr c,if_pos (by simp)]
  exact .inr ⟨_,_,rfl,vr hr,zq hr _⟩
 | true=>
  rw[A5 hr c,if_neg (by simp)]
  refine(rr hr (hr.is_lt c)).bnd (fun r' hr' ⟨e,hd⟩=> ?_) (fun s hs=> ?_)
  ·subst e
   simp only[Bool.false_eq_true,if_false]
   unfold dW
   exact ED hr hrec hf many hm many fu fu 0 (inn r) _ (by omega) (by unfold fu;omega) (by unfold fu;omega) hr' rfl rfl (by show r.at_<r.at_+1;omega) ⟨F8 hop Bb A8 CB Bc o7 o7,by rw[qq];show _ ≤3 * (r.at_+1 - r.at_).toNat;simp;omega⟩ (by simp)
  ·simp only[Bool.false_eq_true,if_false]
   unfold dW
   exact Bu hf (St L r) many hm false many fu 0 s _ hs (by omega) (by unfold fu;omega) (by simp)
theorem fu2:∃ g,fu=g+1+1:=⟨fu - 2,by unfold fu;omega⟩
theorem EB {rec_:RP} {rec':RR} {r:PR} (hr:Rok L r) (hrec:RK L rec_ rec' r 1) (hf:RF rec' 1):SimR L r (XI r) (fi rec_ r) (dO rec' (St L r) 12 1 true):=by
 unfold fi dO
 rw[ic hr [40],Option.bind_some]
 have run:∀ (t:GType) (p:RS),dW 1 true rec' (St L r) ⟨12,[],zV,t,zL,[],[]⟩ p=(aH p [44]).bind fun r6=>(rec' r6 1).bind fun r5=>(aH r5.2 [41]).bind fun r4=>some (⟨12,[],zV,t,zL,[],[r5.1]⟩,⟨r4.L,r4.At,(St L r).Deep,r4.E,r4.Pos⟩):=fun t p=>by
  unfold dW
  obtain⟨g,hg⟩:=fu2
  rw[hg]
  simp only[bK,dV,iA]
  rfl
 cases c:ly r 3 [40]with
 | false=>
  rw[D0 hr c,if_pos (by simp)]
  exact .inr ⟨_,_,rfl,vr hr,zq hr _⟩
 | true=>
  rw[A5 hr c,if_neg (by simp)]
  have fl:∀ (t:GType) (s:RS),s.E≠0→Fl s.Pos s.E (dW 1 true rec' (St L r) ⟨12,[],zV,t,zL,[],[]⟩ s):=fun t s hs=>by
   rw[run,bF hs,Option.bind_some]
   obtain⟨y,hy⟩:=hf s hs
   rw[hy,Option.bind_some]
   dsimp only
   rw[bF hs,Option.bind_some]
   exact Fl.mk' hs rfl rfl
  refine(rr hr (hr.is_lt c)).bnd (fun r' hr' ⟨e,hd⟩=> ?_) (fun s hs=> ?_)
  ·subst e
   simp only[if_true]
   refine(BI hr').r.bnd (fun t r2 hn2 ⟨ht,hlt⟩=> ?_) (fun y s hs=>fl y s hs)
   dsimp only
   rw[run]
   have e0:(inn r).at_=r.at_+1:=rfl
   refine(fT hn2.ok [44]).p.bnd (fun r3 hr3 ⟨hn3,e3⟩=> ?_) (fun s hs=> ?_)
   ·dsimp only
    refine(hrec r3 hr3 (hn3.l.trans hn2.l) (hn3.d.trans hn2.d)).bnd (fun x r4 hn4 ⟨h1,h2⟩=> ?_) (fun y s hs=> ?_)
    ·dsimp only
     refine tQ hr hn4.ok (hn4.l.trans (hn3.l.trans hn2.l)) (hn4.d.trans (hn3.d.trans hn2.d)) (by omega) (fun hn=> ?_) (fun s hs=>Fl.mk' hs rfl rfl)
     refine SimR.ret hn ⟨by show r.at_<r4.at_+1;omega,?_⟩
     have k:XW (⟨12,[],zV,t,zL,[],[]⟩:GExpr) 1:=⟨F8 (by omega) Bb A8 (D9 ht) Bc o7 o7,by rw[qq];simp⟩
     exact(k.arg h2 (by simp)).mono (by show _ ≤(r4.at_+1 - r.at_).toNat;omega)
    ·dsimp only
     rw[bF hs,Option.bind_some]
     exact Fl.mk' hs rfl rfl
   ·obtain⟨y,hy⟩:=hf s hs
    rw[hy,Option.bind_some]
    dsimp only
    rw[bF hs,Option.bind_some]
    exact Fl.mk' hs rfl rfl
  ·simp only[if_true]
   rw[Fg hs,Option.bind_some]
   exact fl _ s hs
end Go.Proofs.YtmhoikfoogemnaaGreatDoor
