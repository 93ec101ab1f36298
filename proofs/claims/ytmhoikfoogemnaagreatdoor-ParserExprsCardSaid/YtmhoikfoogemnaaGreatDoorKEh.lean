import Derived.Test.YtmhoikfoogemnaaGreatDoorKFs
import Derived.Test.YtmhoikfoogemnaaGreatDoorKPk
namespace Go.Proofs.YtmhoikfoogemnaaGreatDoor
open Go Go.RowKit Go.Vc
set_option linter.unusedVariables false
set_option linter.unusedSimpArgs false
variable {L:Cx}
theorem Fg {p:RS} (he:p.E≠0):iX p=some (⟨2,0,0,0,0⟩,p):=by
 unfold iX
 simp only[jV he,bF he,n8 he,Option.bind_some,Bool.false_eq_true,if_false]
 rw[fv he _ (by simp),Option.bind_some]
 dsimp only
 rw[bF he,Option.bind_some,fv he _ (by simp),Option.bind_some]
 dsimp only
 rw[bF he,Option.bind_some]
 simp[gd,he]
theorem sH {p:RS} (he:p.E≠0) (t:GType):fW p t=some (⟨0,0⟩,p):=by
 unfold fW d7
 rw[jV he,Option.bind_some,if_neg (by simp),sb he,Option.bind_some,eE (by simp),Option.bind_some]
 dsimp only
 rw[jV he,Option.bind_some,if_neg (by simp)]
 unfold cM
 rw[if_pos (by simp[he])]
abbrev tyQ (r:PR) (x:GType) (r':PR):Prop:=rh x=true∧r.at_<r'.at_
theorem BI {r:PR} (h:Rok L r):Sim L r (tyQ r) (fC r) (iX (St L r)):=by
 unfold fC iX
 rw[AX h _ (by simp),vH h [102,114,97,99],vH h [105,110,116],Option.bind_some]
 simp only[mn]
 by_cases c1:ly r 1 [102,114,97,99]=true
 ·have hn:=Nx.adv h (h.is_lt c1)
  rw[if_pos c1,if_pos c1]
  show Sim L r _ (some (.ret ((⟨1,0,0,0,0⟩:GType),adv r))) (some ((⟨1,0,0,0,0⟩:GType),(⟨L.L,ar (r.at_+L.o+1),r.deep+L.o,0,0⟩:RS)))
  rw[kL h]
  exact Sim.ret hn ⟨rfl,by rw[qm];omega⟩
 rw[if_neg c1,if_neg c1,Option.bind_some]
 by_cases c2:ly r 1 [105,110,116]=true
 ·have hn:=Nx.adv h (h.is_lt c2)
  rw[if_pos c2,if_pos c2]
  show Sim L r _ (some (.ret ((⟨3,0,0,0,0⟩:GType),adv r))) (some ((⟨3,0,0,0,0⟩:GType),(⟨L.L,ar (r.at_+L.o+1),r.deep+L.o,0,0⟩:RS)))
  rw[kL h]
  exact Sim.ret hn ⟨rfl,by rw[qm];omega⟩
 rw[if_neg c2,if_neg c2]
 by_cases c3:ly r 1 [102,105,120]=true
 ·have hn:=Nx.adv h (h.is_lt c3)
  have ef:aH (St L r) [102,105,120]=some (St L (adv r)):=by
   unfold aH
   rw[vH h [102,105,120],Option.bind_some,c3]
   show some (⟨L.L,ar (r.at_+L.o+1),r.deep+L.o,0,0⟩:RS)=_
   rw[kL h]
  rw[if_pos c3,ef,Option.bind_some]
  show Sim L r _ (d6 r (adv r)) _
  unfold d6
  refine((fT hn.ok [40]).base hn (Q':=fun q=>r.at_<q.at_) (fun q hq e=>by rw[e,qm];omega)).bnd (fun r1 hn1 q1=> ?_) (fun s hs=> ?_)
  rotate_left
  ·simp only[bF hs,n8 hs,Option.bind_some,fv hs [[102,108,111,111,114],[99,101,105,108],[122,101,114,111],[101,118,101,110]] (by simp),fv hs [[115,97,116],[119,114,97,112]] (by simp)]
   simp[gd,hs];exact Fl.mk hs
  refine((xN hn1.ok).base hn1 (Q':=fun x q=>r.at_<q.at_) (fun x q hq e=>by have:=hq.le;omega)).bnd (fun bits r2 hn2 q2=> ?_) (fun y s hs=> ?_)
  rotate_left
  ·dsimp only
   simp only[bF hs,n8 hs,Option.bind_some,fv hs [[102,108,111,111,114],[99,101,105,108],[122,101,114,111],[101,118,101,110]] (by simp),fv hs [[115,97,116],[119,114,97,112]] (by simp)]
   simp[gd,hs];exact Fl.mk hs
  refine((fT hn2.ok [44]).base hn2 (Q':=fun q=>r.at_<q.at_) (fun q hq e=>by have:=hq.le;omega)).bnd (fun r3 hn3 q3=> ?_) (fun s hs=> ?_)
  rotate_left
  ·simp only[bF hs,n8 hs,Option.bind_some,fv hs [[102,108,111,111,114],[99,101,105,108],[122,101,114,111],[101,118,101,110]] (by simp),fv hs [[115,97,116],[119,114,97,112]] (by simp)]
   simp[gd,hs];exact Fl.mk hs
  refine((xN hn3.ok).base hn3 (Q':=fun x q=>r.at_<q.at_) (fun x q hq e=>by have:=hq.le;omega)).bnd (fun frac r4 hn4 q4=> ?_) (fun y s hs=> ?_)
  rotate_left
  ·dsimp only
   simp only[bF hs,Option.bind_some,fv hs [[102,108,111,111,114],[99,101,105,108],[122,101,114,111],[101,118,101,110]] (by simp),fv hs [[115,97,116],[119,114,97,112]] (by simp)]
   simp[gd,hs];exact Fl.mk hs
  refine((fT hn4.ok [44]).base hn4 (Q':=fun q=>r.at_<q.at_) (fun q hq e=>by have:=hq.le;omega)).bnd (fun r5 hn5 q5=> ?_) (fun s hs=> ?_)
  rotate_left
  ·simp only[bF hs,Option.bind_some,fv hs [[102,108,111,111,114],[99,101,105,108],[122,101,114,111],[101,118,101,110]] (by simp),fv hs [[115,97,116],[119,114,97,112]] (by simp)]
   simp[gd,hs];exact Fl.mk hs
  refine(zt (Q2:=tyQ r5) hn5.ok [[102,108,111,111,114],[99,101,105,108],[122,101,114,111],[101,118,101,110]] (f:=fun r8 s=>d5 bits frac r8 r s) (by simp) (by intro s hs;simp at hs;rcases hs with rfl | rfl | rfl | rfl<;>exact⟨by simp,rfl,by simp⟩) (fun i hi hn6=> ?_) (fun s hs=> ?_)).base hn5 (fun x q hq e=>⟨e.1,by have:=e.2;omega⟩)
  rotate_left
  ·dsimp only
   simp only[bF hs,Option.bind_some,fv hs [[115,97,116],[119,114,97,112]] (by simp)]
   simp[gd,hs];exact Fl.mk hs
  dsimp only
  unfold d5
  refine((fT hn6.ok [44]).base hn6 (Q':=fun q=>r5.at_<q.at_) (fun q hq e=>by rw[e,qm];omega)).bnd (fun r7 hn7 q7=> ?_) (fun s hs=> ?_)
  rotate_left
  ·simp only[bF hs,Option.bind_some,fv hs [[115,97,116],[119,114,97,112]] (by simp)]
   simp[gd,hs];exact Fl.mk hs
  refine(zt (Q2:=tyQ r7) hn7.ok [[115,97,116],[119,114,97,112]] (f:=fun r11 s=>d4 bits frac (i:Int) r11 r s) (by simp) (by intro s hs;simp at hs;rcases hs with rfl | rfl<;>exact⟨by simp,rfl,by simp⟩) (fun k hk hn8=> ?_) (fun s hs=> ?_)).base hn7 (fun x q hq e=>⟨e.1,by have:=e.2;omega⟩)
  rotate_left
  ·dsimp only
   simp only[bF hs,Option.bind_some]
   simp[gd,hs];exact Fl.mk hs
  dsimp only
  unfold d4
  refine((fT hn8.ok [41]).base hn8 (Q':=fun q=>r7.at_<q.at_) (fun q hq e=>by rw[e,qm];omega)).bnd (fun r9 hn9 q9=> ?_) (fun s hs=> ?_)
  rotate_left
  ·simp[gd,hs];exact Fl.mk hs
  have ei:ar ((i:Int)+1)=((i+1:Nat):Int):=mU (by simp at hi;omega)
  have ek:ar ((k:Int)+1)=((k+1:Nat):Int):=mU (by simp at hk;omega)
  dsimp only
  rw[kF,ei,ek,Option.bind_some]
  simp only[gd,sy,decide_true,if_true,Option.bind_some,Bool.true_and]
  rw[ua,Option.bind_some]
  cases ht:rh (⟨2,bits,frac,((i+1:Nat):Int),((k+1:Nat):Int)⟩:GType)with
  | true=>exact Sim.ret hn9 ⟨ht,by omega⟩
  | false=>
   refine .inr ⟨r.at_,10,rfl,h.a0,fun ho=> ?_⟩
   rw[if_pos (by rfl)]
   show Fl r.at_ 10 ((bq (St L r9) (r.at_+L.o) 10).bind _)
   unfold bq
   rw[if_pos (by simp[sy])]
   exact⟨_,_,rfl,rfl,by show r.at_+(L.o:Int)=r.at_;omega,by omega⟩
 ·have ef:L.o=0→aH (St L r) [102,105,120]=some ⟨L.L,r.at_+L.o,r.deep+L.o,(rH r).2,(rH r).1⟩:=fun ho=>by
   unfold aH
   rw[vH h [102,105,120],Option.bind_some]
   rw[Bool.not_eq_true]at c3
   rw[c3,rl h ho];rfl
  rw[if_neg c3]
  refine .inr ⟨(rH r).1,(rH r).2,?_,vr h,fun ho=> ?_⟩
  ·show pb (bc r) _ =_
   rw[rn h];rfl
  ·rw[ef ho,Option.bind_some]
   have hs:(⟨L.L,r.at_+L.o,r.deep+L.o,(rH r).2,(rH r).1⟩:RS).E≠0:=tC r
   have he:Fl (⟨L.L,r.at_+L.o,r.deep+L.o,(rH r).2,(rH r).1⟩:RS).Pos (⟨L.L,r.at_+L.o,r.deep+L.o,(rH r).2,(rH r).1⟩:RS).E (some ((⟨2,0,0,0,0⟩:GType),(⟨L.L,r.at_+L.o,r.deep+L.o,(rH r).2,(rH r).1⟩:RS))):=Fl.mk hs
   show Fl (⟨L.L,r.at_+L.o,r.deep+L.o,(rH r).2,(rH r).1⟩:RS).Pos (⟨L.L,r.at_+L.o,r.deep+L.o,(rH r).2,(rH r).1⟩:RS).E _
   generalize (⟨L.L,r.at_+L.o,r.deep+L.o,(rH r).2,(rH r).1⟩:RS)=s at hs he
   simp only[bF hs,n8 hs,Option.bind_some,fv hs [[102,108,111,111,114],[99,101,105,108],[122,101,114,111],[101,118,101,110]] (by simp),fv hs [[115,97,116],[119,114,97,112]] (by simp)]
   simp[gd,hs]
   exact he
theorem Sim.weak {α:Type} {r:PR} {Q Q':α→PR→Prop} {m:Option (bz (α×PR))} {m':Option (α×RS)} (h:Sim L r Q m m') (hq:∀ x q,Q x q→Q' x q):Sim L r Q' m m':=by
 rcases h with⟨x,q,h1,h2,h3,h4⟩ | h
 ·exact .inl ⟨x,q,h1,h2,h3,hq x q h4⟩
 ·exact .inr h
abbrev cE (t:GType) (v:GVal):GExpr:=⟨1,[],v,t,⟨0,[]⟩,[],[]⟩
theorem xY {r r0 s2:PR} {L:Cx} (hn:Nx L r0 r) (t:GType) (h2':r0.at_<r.at_) (hs2:0≤s2.at_) (s:List UInt8) (hs:s.length≤200000) (ht:rh t=true):
  Sim L r0 (fun x r'=>r0.at_<r'.at_∧∃ v,x=cE t v∧rh t=true∧Z01.vparse t s=(v,0)∧s.length≤200000) (cL t s2 s r) (((cM t (St L s2) s (St L r)).bind fun r9=>(aH r9.2 [41]).bind fun r10=>some (cE t r9.1,r10))):=by
 have er:cM t (St L s2) s (St L r)=if(!decide ((Z01.vparse t s).2=0))=true then(bq (St L r) (St L s2).At (Z01.vparse t s).2).bind fun r3=>some (⟨0,0⟩,r3)else some ((Z01.vparse t s).1,St L r):=by
  unfold cM
  rw[if_neg (by simp[sy]),Z01.ref04_Parse (by omega),Option.bind_some]
 rw[er]
 unfold cL
 rw[Z01.value_Parse (by omega),Option.bind_some]
 by_cases e:(Z01.vparse t s).2=0
 ·rw[if_neg (by simp[e]),if_neg (by simp[e])]
  unfold dI
  rw[Option.bind_some]
  dsimp only
  refine((fT hn.ok [41]).base hn (Q':=fun q=>r0.at_<q.at_) (fun q hq e=>by rw[e];omega)).bnd (fun r1 hn1 q1=> ?_) (fun s hs=> ?_)
  ·exact Sim.ret hn1 ⟨q1,(Z01.vparse t s).1,rfl,ht,by rw[← e],hs⟩
  ·exact Fl.mk hs
 ·rw[if_pos (by simp[e]),if_pos (by simp[e])]
  refine .inr ⟨s2.at_,(Z01.vparse t s).2,rfl,hs2,fun ho=> ?_⟩
  have ef:bq (St L r) (St L s2).At (Z01.vparse t s).2=some ⟨L.L,r.at_+L.o,r.deep+L.o,(Z01.vparse t s).2,s2.at_+L.o⟩:=by
   unfold bq
   rw[if_pos (by simp[sy])];rfl
  rw[ef]
  simp only[Option.bind_some]
  rw[bF (by exact e)]
  exact⟨_,_,rfl,rfl,by show s2.at_+(L.o:Int)=s2.at_;omega,e⟩
theorem wt {s:RS} {t:GType} {p1:RS} {tx:List UInt8} (hs:s.E≠0):Fl s.Pos s.E ((cM t p1 tx s).bind fun r9=>(aH r9.2 [41]).bind fun r10=>some (cE t r9.1,r10)):=by
 unfold cM
 rw[if_pos (by simp[hs]),Option.bind_some]
 dsimp only
 rw[bF hs,Option.bind_some]
 exact Fl.mk hs
theorem Aq {r r0 s2:PR} {L:Cx} (hn:Nx L r0 r) (t:GType) (h2:r0.at_≤r.at_) (hs2:0≤s2.at_) (tx:List UInt8) (hs:tx.length≤1) (ht:rh t=true):
  Sim L r0 (fun x r'=>r0.at_<r'.at_∧∃ v s,x=cE t v∧rh t=true∧Z01.vparse t s=(v,0)∧s.length≤200000) (cc t s2 tx r) (((d7 t (St L s2) tx (St L r)).bind fun r9=>(aH r9.2 [41]).bind fun r10=>some (cE t r9.1,r10))):=by
 unfold cc d7
 rw[Option.bind_assoc]
 refine((o8 hn.ok).base hn (Q':=fun x q=>x.length≤50000∧r0.at_<q.at_) (fun x q hq e=>⟨e.2.1,by omega⟩)).bnd (fun x r1 hn1 ⟨hx,hlt⟩=> ?_) (fun s hs=> ?_)
 ·dsimp only
  rw[eE (by omega),Option.bind_some,Option.bind_some]
  have h1:=hn1.ok
  rw[j7 h1,ic h1 [47],Option.bind_some,Option.bind_some]
  have lx:(tx++x).length≤50001:=by rw[List.length_append];omega
  cases c:ly r1 3 [47]with
  | true=>
   have hA:=Nx.adv h1 (h1.is_lt c)
   simp only[if_true]
   show Sim L r0 _ (pb (bG (adv r1)) _) (Option.bind (Option.bind (dU (⟨L.L,ar (r1.at_+L.o+1),r1.deep+L.o,0,0⟩:RS)) _) _)
   rw[kL h1,Option.bind_assoc]
   refine((o8 hA.ok).base (hn1.trans hA) (Q':=fun y q=>y.length≤50000∧r0.at_<q.at_) (fun y q hq e=>⟨e.2.1,by have:=e.2.2;rw[qm]at this;omega⟩)).bnd (fun y r2 hn2 ⟨hy,hlt2⟩=> ?_) (fun s hs=> ?_)
   ·dsimp only
    rw[eE (by simp only[List.length_cons,List.length_nil];omega),Option.bind_some,Option.bind_some,eE (by simp only[List.length_append,List.length_cons,List.length_nil]at lx ⊢;omega),Option.bind_some,Option.bind_some]
    exact(xY hn2 t hlt2 hs2 (tx++x++([47]++y)) (by simp only[List.length_append,List.length_cons,List.length_nil]at lx ⊢;omega) ht).weak (fun x q ⟨h3,v,h4⟩=>⟨h3,v,_,h4⟩)
   ·dsimp only
    rw[eE (by simp),Option.bind_some,eE (by simp only[List.length_append,List.length_cons,List.length_nil]at lx ⊢;omega),Option.bind_some]
    exact wt hs
  | false=>
   simp only[Bool.false_eq_true,if_false]
   exact(xY hn1 t hlt hs2 (tx++x) (by omega) ht).weak (fun x q ⟨h3,v,h4⟩=>⟨h3,v,_,h4⟩)
 ·dsimp only
  rw[eE (by simp only[List.length_nil];omega),Option.bind_some,jV hs,Option.bind_some,if_neg (by simp)]
  exact wt hs
theorem yL {r:PR} {L:Cx} (h:Rok L r):Sim L r (fun x r'=>r.at_<r'.at_∧∃ t v s,x=cE t v∧rh t=true∧Z01.vparse t s=(v,0)∧s.length≤200000) (ce r)
  ((iX (St L r)).bind fun r7=>(aH r7.2 [40]).bind fun r8=>(fW r8 r7.1).bind fun r9=>(aH r9.2 [41]).bind fun r10=>some (cE r7.1 r9.1,r10)):=by
 unfold ce
 refine(BI h).bnd (fun t r1 hn1 ⟨ht,hlt⟩=> ?_) (fun y s hs=> ?_)
 ·refine((fT hn1.ok [40]).base hn1 (Q':=fun q=>r.at_<q.at_) (fun q hq e=>by rw[e];omega)).bnd (fun r2 hn2 q2=> ?_) (fun s hs=> ?_)
  ·dsimp only
   unfold fW
   have h2:=hn2.ok
   rw[j7 h2,ic h2 [45],Option.bind_some,Option.bind_some]
   cases c:ly r2 3 [45]with
   | true=>
    have hA:=Nx.adv h2 (h2.is_lt c)
    simp only[if_true]
    show Sim L r _ (cc t r2 [45] (adv r2)) (Option.bind (d7 t (St L r2) [45] (⟨L.L,ar (r2.at_+L.o+1),r2.deep+L.o,0,0⟩:RS)) _)
    rw[kL h2]
    exact(Aq (hn2.trans hA) t (hn2.trans hA).le h2.a0 [45] (by simp) ht).weak (fun x q ⟨h3,v,s,h4⟩=>⟨h3,t,v,s,h4⟩)
   | false=>
    simp only[Bool.false_eq_true,if_false]
    exact(Aq hn2 t hn2.le h2.a0 [] (by simp) ht).weak (fun x q ⟨h3,v,s,h4⟩=>⟨h3,t,v,s,h4⟩)
  ·dsimp only
   rw[sH hs,Option.bind_some]
   dsimp only
   rw[bF hs,Option.bind_some]
   exact Fl.mk hs
 ·dsimp only
  rw[bF hs,Option.bind_some,sH hs,Option.bind_some]
  dsimp only
  rw[bF hs,Option.bind_some]
  exact Fl.mk hs
end Go.Proofs.YtmhoikfoogemnaaGreatDoor
