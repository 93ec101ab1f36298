import Derived.Test.YtmhoikfoogemnaaGreatDoorKEd
import Derived.Test.YtmhoikfoogemnaaGreatDoorKEa
import Derived.Test.YtmhoikfoogemnaaGreatDoorKWi
namespace Go.Proofs.YtmhoikfoogemnaaGreatDoor
open Go Go.RowKit Go.Vc
set_option linter.unusedVariables false
set_option linter.unusedSimpArgs false
variable {L:Cx}
theorem vK (neg:Bool):gw [] neg=some (0,true):=by rw[rY [] neg (by simp) rfl];unfold rA;rw[if_pos (by unfold nD bN i8;simp)];cases neg<;>rfl
theorem BO (neg:Bool):rA [49] neg=(uz neg 1,true):=by cases neg<;>rfl
theorem zA {r:PR} {n:Nat} (h:Rok L r) (f:GLin) (neg:Bool) (hf:LinI f n) (hn0:n<99999):
  (∃ x y r',dQ r neg=some (.ret (x,r'))∧gY f x=some (y,0)∧ew (St L r) f neg=some (y,St L r')∧Nx L r r'∧r.at_<r'.at_∧LinI y (n+1))∨
  (∃ x z c r',dQ r neg=some (.ret (x,r'))∧gY f x=some (z,c)∧c≠0∧(L.o=0→Fl r.at_ 3 (ew (St L r) f neg)))∨
  (∃ a e,dQ r neg=some (.pan a e)∧0≤a∧(L.o=0→Fl a e (ew (St L r) f neg))):=by
 have h0:=h.a0
 have h1:=h.a1
 have h2:=h.ll
 have fin:∀ (s v:List UInt8) (r':PR) (x:GLin),s.all oW=true→s.length≤50000→Nx L r r'→r.at_<r'.at_→(gq x (rA s neg).1=some (tm v (rA s neg).1,0))→(v=[]∨fE v=true)→
   (∃ y,gY f (tm v (rA s neg).1)=some (y,0)∧LinI y (n+1)∧((rA s neg).2=true→bl neg f (St L r) s x (St L r')=some (y,St L r'))∧((rA s neg).2=false→L.o=0→Fl r.at_ 3 (bl neg f (St L r) s x (St L r'))))∨
   (gY f (tm v (rA s neg).1)=some (⟨0,[]⟩,3)∧(L.o=0→Fl r.at_ 3 (bl neg f (St L r) s x (St L r')))):=by
  intro s v r' x hs hl hn hlt hsc hv
  have hR:=zI s neg
  obtain⟨q,a1,a2,a3⟩:=ER hf (tm_I hv hR) hn0
  have ej:bl neg f (St L r) s x (St L r')=if((!(rA s neg).2)||(!decide (q.2=0)))=true then(bq (St L r') (St L r).At 3).bind fun r4=>some ((⟨0,[]⟩:GLin),r4)else some (q.1,St L r'):=by
   unfold bl
   rw[if_neg (by simp[sy]),rY s neg (by omega) hs,Option.bind_some,hsc,Option.bind_some,a2,Option.bind_some]
  have ef:L.o=0→Fl r.at_ 3 ((bq (St L r') (St L r).At 3).bind fun r4=>some ((⟨0,[]⟩:GLin),r4)):=fun ho=>by
   unfold bq
   rw[if_pos (by simp[sy])]
   exact⟨_,_,rfl,rfl,by show r.at_+(L.o:Int)=r.at_;omega,by omega⟩
  rcases a3 with⟨z1,z2⟩ | rfl
  ·left
   obtain⟨y,c⟩:=q
   dsimp only at z1 z2
   subst z1
   refine⟨y,a1,z2,fun ht=> ?_,fun ht=> ?_⟩
   ·rw[ej,if_neg (by simp[ht])]
   ·rw[ej,if_pos (by simp[ht])];exact ef
  ·right
   exact⟨a1,by rw[ej,if_pos (by simp)];exact ef⟩
 unfold dQ ew
 rw[vQ h,yp h,Option.bind_some,Option.bind_some]
 by_cases c:Ac r=true
 ·rw[if_pos c,if_pos c]
  rcases sQ h with⟨v,r',e1,e2,hn,hv,hlt⟩ | ⟨a,e,e1,h9,e2⟩
  ·have hone:=fin [49] v r' ⟨0,[⟨v,1⟩]⟩ rfl (by simp) hn hlt (tz hv (zI _ _)).2 (.inr hv)
   rw[e1,e2,Option.bind_some,(zh hv).2,Option.bind_some]
   show _ ∨ _ ∨(∃ a e,(mf v).bind _ =_ ∧ _)
   have ex:∀ {β:Type} (K:GLin→Option β),((mf v).bind fun r4=>if neg=true then(iY r4 (-1)).bind fun r5=>K r5.1 else K r4)=K (tm v (rA [49] neg).1):=fun K=>by
    rw[(zh hv).1,Option.bind_some,BO]
    cases neg with
    | true=>rw[if_pos rfl,(tz hv ⟨by omega,by omega⟩).1];rfl
    | false=>
     rw[if_neg (by simp)]
     have:tm v (uz false 1)=⟨0,[⟨v,1⟩]⟩:=by unfold tm uz;rw[if_neg (vZ hv)];rfl
     rw[this]
   have e3:(pb (some (bz.ret (v,r'))) fun(x:List UInt8×PR)=>match x with | (r3,s1)=>(mf r3).bind fun r4=>if neg=true then(iY r4 (-1)).bind fun r5=>some (bz.ret (r5.1,s1))else some (bz.ret (r4,s1)))=some (.ret (tm v (rA [49] neg).1,r')):=ex (fun q=>some (bz.ret (q,r')))
   rcases hone with⟨y,b1,b2,b3,_⟩ | ⟨b1,b2⟩
   ·exact .inl ⟨_,y,r',e3,b1,b3 (by rw[BO]),hn,hlt,b2⟩
   ·exact .inr (.inl ⟨_,_,_,r',e3,b1,by omega,b2⟩)
  ·right;right
   rw[e1]
   refine⟨a,e,rfl,h9,fun ho=> ?_⟩
   obtain⟨y,s,q1,q2,q3,q4⟩:=e2 ho
   rw[q1,Option.bind_some]
   have hz:∃ z,eK y=some z:=by unfold eK;rw[jZ];cases fE y<;>exact⟨_,rfl⟩
   obtain⟨z,hz⟩:=hz
   show Fl a e ((eK y).bind _)
   rw[hz,Option.bind_some]
   unfold bl
   rw[if_pos (by simp[q2,q4])]
   exact⟨_,_,rfl,q2,q3,q4⟩
 ·rw[if_neg c,if_neg c]
  rcases Bd h with⟨tx,r1,e1,e2,hn,⟨hd,hl,hlt⟩⟩ | ⟨a,e,e1,h9,e2⟩
  ·have hdig:tx.all oW=true:=by unfold so at hd;simp only[Bool.and_eq_true]at hd;exact hd.1
   rw[e1,e2,Option.bind_some]
   show(∃ x y r',((aw r1 [42]).bind fun q=>match q with | (r13,s3)=>if r13=true then pb (br s3) fun w=>match w with | (r14,s4)=>aY tx neg r r14 s4 else aY tx neg r [] s3)=some (.ret (x,r'))∧ _ ∧((aL (St L r1) 0 [42]).bind fun r9=>if r9=true then(ey (⟨L.L,ar (r1.at_+L.o+1),r1.deep+L.o,0,0⟩:RS)).bind fun r10=>(eK r10.1).bind fun r11=>bl neg f (St L r) tx r11 r10.2 else bl neg f (St L r) tx (⟨1,[]⟩:GLin) (St L r1))=some (y,St L r')∧ _)∨(∃ x z c r',((aw r1 [42]).bind fun q=>match q with | (r13,s3)=>if r13=true then pb (br s3) fun w=>match w with | (r14,s4)=>aY tx neg r r14 s4 else aY tx neg r [] s3)=some (.ret (x,r'))∧ _ ∧ _ ∧(L.o=0→Fl r.at_ 3 ((aL (St L r1) 0 [42]).bind fun r9=>if r9=true then(ey (⟨L.L,ar (r1.at_+L.o+1),r1.deep+L.o,0,0⟩:RS)).bind fun r10=>(eK r10.1).bind fun r11=>bl neg f (St L r) tx r11 r10.2 else bl neg f (St L r) tx (⟨1,[]⟩:GLin) (St L r1))))∨(∃ a e,((aw r1 [42]).bind fun q=>match q with | (r13,s3)=>if r13=true then pb (br s3) fun w=>match w with | (r14,s4)=>aY tx neg r r14 s4 else aY tx neg r [] s3)=some (.pan a e)∧0≤a∧(L.o=0→Fl a e ((aL (St L r1) 0 [42]).bind fun r9=>if r9=true then(ey (⟨L.L,ar (r1.at_+L.o+1),r1.deep+L.o,0,0⟩:RS)).bind fun r10=>(eK r10.1).bind fun r11=>bl neg f (St L r) tx r11 r10.2 else bl neg f (St L r) tx (⟨1,[]⟩:GLin) (St L r1))))
   have pj:∀ (v:List UInt8) (r':PR),(v=[]∨fE v=true)→aY tx neg r v r'=if(rA tx neg).2=true then some (.ret (tm v (rA tx neg).1,r'))else some (.pan r.at_ 3):=fun v r' hv=>by
    unfold aY
    rw[rL tx neg (by omega) hdig,Option.bind_some]
    have j2:dJ v (rA tx neg) r'=some (.ret (tm v (rA tx neg).1,r')):=by
     unfold dJ
     rcases hv with rfl | hv
     ·rfl
     ·rw[if_neg (by simp[vZ hv]),(zh hv).1,Option.bind_some,(tz hv (zI _ _)).1];rfl
    cases hb:(rA tx neg).2 with
    | true=>rw[if_neg (by simp),j2,if_pos rfl]
    | false=>rw[if_pos (by simp),if_neg (by simp)];rfl
   have done:∀ (v:List UInt8) (r':PR) (x:GLin) {M:Option (bz (GLin×PR))} {M':Option (GLin×RS)},(v=[]∨fE v=true)→Nx L r r'→r.at_<r'.at_→(gq x (rA tx neg).1=some (tm v (rA tx neg).1,0))→M=aY tx neg r v r'→M'=bl neg f (St L r) tx x (St L r')→
     (∃ x y r',M=some (.ret (x,r'))∧gY f x=some (y,0)∧M'=some (y,St L r')∧Nx L r r'∧r.at_<r'.at_∧LinI y (n+1))∨(∃ x z c r',M=some (.ret (x,r'))∧gY f x=some (z,c)∧c≠0∧(L.o=0→Fl r.at_ 3 M'))∨(∃ a e,M=some (.pan a e)∧0≤a∧(L.o=0→Fl a e M')):=by
    intro v r' x M M' hv hn' hlt' hsc eM eM'
    rw[eM,eM',pj v r' hv]
    rcases fin tx v r' x hdig hl hn' hlt' hsc hv with⟨y,b1,b2,b3,b4⟩ | ⟨b1,b2⟩
    ·cases hb:(rA tx neg).2 with
     | true=>exact .inl ⟨_,y,r',rfl,b1,b3 hb,hn',hlt',b2⟩
     | false=>exact .inr (.inr ⟨_,_,rfl,h.a0,b4 hb⟩)
    ·cases hb:(rA tx neg).2 with
     | true=>exact .inr (.inl ⟨_,_,_,r',rfl,b1,by omega,b2⟩)
     | false=>exact .inr (.inr ⟨_,_,rfl,h.a0,b2⟩)
   have h1':=hn.ok
   rw[j7 h1',ic h1' [42]]
   cases cs:ly r1 3 [42]with
   | true=>
    have hlt1:=h1'.is_lt cs
    have hA:=h1'.adv hlt1
    simp only[if_true,Option.bind_some]
    rw[kL h1']
    rcases sQ hA with⟨v,r2,f1,f2,hn2,hv,hlt2⟩ | ⟨a,e,f1,h9,f2⟩
    ·rw[f1,f2]
     have hlt3:r.at_<r2.at_:=by have:(adv r1).at_=r1.at_+1:=rfl;omega
     refine done v r2 ⟨0,[⟨v,1⟩]⟩ (.inr hv) ((hn.trans (Nx.adv h1' hlt1)).trans hn2) hlt3 (tz hv (zI _ _)).2 rfl ?_
     rw[Option.bind_some,(zh hv).2];rfl
    ·right;right
     rw[f1]
     refine⟨a,e,rfl,h9,fun ho=> ?_⟩
     obtain⟨y,s,q1,q2,q3,q4⟩:=f2 ho
     rw[q1,Option.bind_some]
     have hz:∃ z,eK y=some z:=by unfold eK;rw[jZ];cases fE y<;>exact⟨_,rfl⟩
     obtain⟨z,hz⟩:=hz
     show Fl a e ((eK y).bind _)
     rw[hz,Option.bind_some]
     unfold bl
     rw[if_pos (by simp[q2,q4])]
     exact⟨_,_,rfl,q2,q3,q4⟩
   | false=>
    simp only[Bool.false_eq_true,if_false,Option.bind_some]
    exact done [] r1 ⟨1,[]⟩ (.inl rfl) hn hlt (AR (zI _ _)) rfl rfl
  ·right;right
   rw[e1]
   refine⟨a,e,rfl,h9,fun ho=> ?_⟩
   obtain⟨y,s,q1,q2,q3,q4⟩:=e2 ho
   have hs:s.E≠0:=by rw[q2];exact q4
   rw[q1,Option.bind_some]
   show Fl a e ((aL s 0 [42]).bind _)
   rw[jV hs,Option.bind_some,if_neg (by simp)]
   unfold bl
   rw[if_pos (by simp[q2,q4])]
   exact⟨_,_,rfl,q2,q3,q4⟩
theorem DS {p:RS} (he:p.E≠0) (f:GLin) (neg:Bool):ew p f neg=some (⟨0,[]⟩,p):=by
 unfold ew
 rw[tG he,Option.bind_some,if_neg (by simp),sb he,Option.bind_some]
 show((aL p 0 [42]).bind _)=_
 rw[jV he,Option.bind_some,if_neg (by simp)]
 unfold bl
 rw[if_pos (by simp[he])]
theorem oH {p:RS} (he:p.E≠0) (g:Nat) (f:GLin):dq (g+1) p f=some (f,p):=by
 simp only[dq]
 rw[jV he,jV he]
 simp[gd]
theorem Ge:∃ g,fu=g+1:=⟨fu - 1,by unfold fu;omega⟩
theorem zR {p:RS} (he:p.E≠0):fN p=some (⟨0,[]⟩,p):=by
 unfold fN ju
 rw[jV he,Option.bind_some,if_neg (by simp),DS he,Option.bind_some]
 obtain⟨g,hg⟩:=Ge
 rw[hg];exact oH he g _
theorem Ai:∀ (k:Nat) (F F':Nat) (a0:Int) (r:PR) (f:GLin) (neg:Bool),Rok L r→r.l.length - r.at_.toNat≤k→k<F→k<F'→0≤a0→a0≤r.at_→LinI f (r.at_ - a0).toNat→
  Sim L r (fun x r'=>r.at_<r'.at_∧LinI x (r'.at_ - a0).toNat) (aZ F neg r f) ((ew (St L r) f neg).bind fun r2=>dq F' r2.2 r2.1):=by
 intro k
 induction k with
 | zero=>
  intro F F' a0 r f neg h hk hF hF' ha0 ha1 hf
  obtain⟨F,rfl⟩:∃ g,F=g+1:=⟨F - 1,by omega⟩
  obtain⟨F',rfl⟩:∃ g,F'=g+1:=⟨F' - 1,by omega⟩
  have h0:=h.a0
  have h1:=h.a1
  simp only[aZ]
  have h2:=h.ll
  rcases zA h f neg hf (by omega)with⟨x,y,r',e1,e2,e3,hn,hlt,hy⟩ | ⟨x,z,c,r',e1,e2,hc,hq⟩ | ⟨a,e,e1,h9,hq⟩
  ·have q1:=hn.ok.a1;have q2:=hn.l;rw[q2]at q1;omega
  ·rw[e1]
   refine .inr ⟨r.at_,3,?_,h.a0,fun ho=> ?_⟩
   ·show((gY f x).bind _)=_
    rw[e2,Option.bind_some,if_pos (by simp[hc])];rfl
   ·obtain⟨y,s,q1,q2,q3,q4⟩:=hq ho
    rw[q1,Option.bind_some,oH (by show s.E≠0;rw[q2];exact q4)];exact⟨_,_,rfl,q2,q3,q4⟩
  ·rw[e1]
   refine .inr ⟨a,e,rfl,h9,fun ho=> ?_⟩
   obtain⟨y,s,q1,q2,q3,q4⟩:=hq ho
   rw[q1,Option.bind_some,oH (by show s.E≠0;rw[q2];exact q4)];exact⟨_,_,rfl,q2,q3,q4⟩
 | succ k ih=>
  intro F F' a0 r f neg h hk hF hF' ha0 ha1 hf
  obtain⟨F,rfl⟩:∃ g,F=g+1:=⟨F - 1,by omega⟩
  obtain⟨F',rfl⟩:∃ g,F'=g+1:=⟨F' - 1,by omega⟩
  have h0:=h.a0
  have h1:=h.a1
  simp only[aZ]
  have h2:=h.ll
  rcases zA h f neg hf (by omega)with⟨x,y,r',e1,e2,e3,hn,hlt,hy⟩ | ⟨x,z,c,r',e1,e2,hc,hq⟩ | ⟨a,e,e1,h9,hq⟩
  ·rw[e1,e3,Option.bind_some]
   show Sim L r _ ((gY f x).bind _) _
   rw[e2,Option.bind_some,if_neg (by simp)]
   have h':=hn.ok
   have hl':=hn.l
   unfold fm
   simp only[dq]
   rw[j7 h',ic h' [43],ic h' [45],Option.bind_some,Option.bind_some]
   cases c1:ly r' 3 [43]with
   | true=>
    have hlt1:=h'.is_lt c1
    have c2:ly r' 3 [45]=false:=by
     unfold ly isK at c1 ⊢
     cases ht:uZ r' 0 with
     | none=>rfl
     | some t=>rw[ht]at c1;simp only[Bool.and_eq_true,decide_eq_true_eq]at c1;simp[c1.2]
    rw[c2]
    simp only[gd,if_true,Option.bind_some,Bool.true_or,Bool.not_true,Bool.false_eq_true,if_false]
    show Sim L r _ (aZ F false (adv r') y) ((ew (⟨L.L,ar (r'.at_+L.o+1),r'.deep+L.o,0,0⟩:RS) y false).bind fun r6=>dq F' r6.2 r6.1)
    rw[kL h']
    have hnA:=Nx.adv h' hlt1
    have eA:(adv r').at_=r'.at_+1:=rfl
    refine(ih F F' a0 (adv r') y false hnA.ok (by rw[show(adv r').l=r.l from hl',eA];omega) (by omega) (by omega) ha0 (by omega) (hy.mono (by rw[eA];omega))).base (hn.trans hnA) (fun x q hq hx=>⟨?_,hx.2⟩)
    have:=hx.1;omega
   | false=>
    simp only[gd,if_true,Option.bind_some,Bool.false_or,Bool.not_false,Bool.false_eq_true,if_false]
    rw[j7 h',Option.bind_some]
    cases c2:ly r' 3 [45]with
    | true=>
     have hlt1:=h'.is_lt c2
     simp only[if_true,Option.bind_some]
     show Sim L r _ (aZ F true (adv r') y) ((ew (⟨L.L,ar (r'.at_+L.o+1),r'.deep+L.o,0,0⟩:RS) y true).bind fun r6=>dq F' r6.2 r6.1)
     rw[kL h']
     have hnA:=Nx.adv h' hlt1
     have eA:(adv r').at_=r'.at_+1:=rfl
     refine(ih F F' a0 (adv r') y true hnA.ok (by rw[show(adv r').l=r.l from hl',eA];omega) (by omega) (by omega) ha0 (by omega) (hy.mono (by rw[eA];omega))).base (hn.trans hnA) (fun x q hq hx=>⟨?_,hx.2⟩)
     have:=hx.1;omega
    | false=>
     simp only[Bool.false_eq_true,if_false]
     exact Sim.ret hn ⟨hlt,hy.mono (by omega)⟩
  ·rw[e1]
   refine .inr ⟨r.at_,3,?_,h.a0,fun ho=> ?_⟩
   ·show((gY f x).bind _)=_
    rw[e2,Option.bind_some,if_pos (by simp[hc])];rfl
   ·obtain⟨y,s,q1,q2,q3,q4⟩:=hq ho
    rw[q1,Option.bind_some,oH (by show s.E≠0;rw[q2];exact q4)];exact⟨_,_,rfl,q2,q3,q4⟩
  ·rw[e1]
   refine .inr ⟨a,e,rfl,h9,fun ho=> ?_⟩
   obtain⟨y,s,q1,q2,q3,q4⟩:=hq ho
   rw[q1,Option.bind_some,oH (by show s.E≠0;rw[q2];exact q4)];exact⟨_,_,rfl,q2,q3,q4⟩
theorem sV {r:PR} (h:Rok L r):Sim L r (fun x r'=>r.at_<r'.at_∧LinI x (r'.at_ - r.at_).toNat) (bH r) (fN (St L r)):=by
 unfold bH fN ju
 rw[j7 h,ic h [45],Option.bind_some,Option.bind_some]
 have h2:=h.ll
 cases c:ly r 3 [45]with
 | true=>
  have hlt:=h.is_lt c
  have hnA:=Nx.adv h hlt
  simp only[if_true]
  show Sim L r _ (aZ fu true (adv r) ⟨0,[]⟩) ((ew (⟨L.L,ar (r.at_+L.o+1),r.deep+L.o,0,0⟩:RS) ⟨0,[]⟩ true).bind fun r2=>dq fu r2.2 r2.1)
  rw[kL h]
  refine(Ai 50000 fu fu r.at_ (adv r) ⟨0,[]⟩ true hnA.ok (by show r.l.length - _ ≤ _;omega) (by unfold fu;omega) (by unfold fu;omega) h.a0 (by show r.at_≤r.at_+1;omega) (.const R0 _)).base hnA (fun x q hq hx=>⟨?_,hx.2⟩)
  have:=hx.1
  have eA:(adv r).at_=r.at_+1:=rfl
  omega
 | false=>
  simp only[Bool.false_eq_true,if_false]
  exact Ai 50000 fu fu r.at_ r ⟨0,[]⟩ false h (by omega) (by unfold fu;omega) (by unfold fu;omega) h.a0 (Int.le_refl _) (.const R0 _)
end Go.Proofs.YtmhoikfoogemnaaGreatDoor
namespace Go.Proofs.YtmhoikfoogemnaaGreatDoor
open Go Go.RowKit Go.Vc
set_option linter.unusedVariables false
set_option linter.unusedSimpArgs false
end Go.Proofs.YtmhoikfoogemnaaGreatDoor
namespace Go.Proofs.YtmhoikfoogemnaaGreatDoor
open Go Go.RowKit Go.Vc
set_option linter.unusedVariables false
set_option linter.unusedSimpArgs false
instance (l:GLin):Decidable (n9 l):=by unfold n9;infer_instance
theorem vh {l:GLin} (hl:l.L.length<4611686018427387904):ii l=some (if n9 l then 0 else 1)∧gM l=some (decide (n9 l)):=by
 obtain⟨b,h1,h2,h3⟩:=ml l hl
 by_cases h:n9 l
 ·have hb:=h1.2 h;subst hb;exact⟨by rw[h2,if_pos rfl,if_pos h],by rw[h3,decide_eq_true h]⟩
 ·have hb:b=false:=by cases b;rfl;exact absurd (h1.1 rfl) h
  subst hb;exact⟨by rw[h2,if_neg h];rfl,by rw[h3,decide_eq_false h]⟩
theorem tK {s:List UInt8} (h:fE s=true):s≠[]∧s.length≤16:=by
 unfold fE at h
 simp only[Bool.and_eq_true,decide_eq_true_eq]at h
 exact h.1.1.1
end Go.Proofs.YtmhoikfoogemnaaGreatDoor
namespace Go.Proofs.YtmhoikfoogemnaaGreatDoor
open Go Go.RowKit Go.Vc
set_option linter.unusedVariables false
set_option linter.unusedSimpArgs false
def wI (x:GIndex):Nat:=x.Lin.L.length+x.At.length+(x.At.map (·.L.length)).sum
def wE:GExpr→Nat
 | ⟨_,_,_,_,l,idx,args⟩=>1+l.L.length+idx.length+(idx.map wI).sum+go args
 where go:List GExpr→Nat
  | []=>0
  | x::xs=>wE x+go xs
theorem Dt:∀ (xs:List GExpr),wE.go xs=(xs.map wE).sum
 | []=>rfl
 | x::xs=>by rw[wE.go,Dt xs,List.map_cons,List.sum_cons]
theorem zw (x:GExpr):wE x=1+x.Lin.L.length+x.Idx.length+(x.Idx.map wI).sum+(x.Args.map wE).sum:=by
 cases x;rw[wE,Dt]
theorem zB {zs:List Nat} {i x:Nat} (h:zs[i]? =some x):(zs.take (i+1)).sum=(zs.take i).sum+x:=by rw[cO h,List.sum_append];simp
theorem yi (zs:List Nat) (i:Nat):(zs.take i).sum≤zs.sum:=by
 conv=>rhs;rw[← List.take_append_drop i zs,List.sum_append]
 omega
theorem Be {zs:List Nat} {x:Nat} (h:x∈zs):x≤zs.sum:=by
 induction zs with
 | nil=>cases h
 | cons a zs ih=>
  rw[List.sum_cons]
  rcases List.mem_cons.1 h with rfl | h
  ·omega
  ·have:=ih h;omega
theorem okGExpr.out {e:GExpr} (h:okGExpr e):okGLin e.Lin∧okW okGIndex e.Idx∧okW okGExpr e.Args:=by obtain⟨_,_,_,_,h1,h2,h3⟩:=okGExpr_iff.1 h;exact⟨h1,h2,h3⟩
theorem Iv {p:Int} (h: -4611686018427387904≤p∧p≤4611686018427387904):ar p=p:=yc (p:=p) ⟨by omega,by omega⟩
end Go.Proofs.YtmhoikfoogemnaaGreatDoor
namespace Go.Proofs.YtmhoikfoogemnaaGreatDoor
open Go Go.RowKit Go.Vc
set_option linter.unusedVariables false
set_option linter.unusedSimpArgs false
theorem wg (s:List UInt8):gB s=some (fE s):=by
 by_cases h:s.length≤16
 ·exact xU s (by omega)
 ·unfold gB fE
  have e:decide ((s.length:Int)≤16)=false:=by rw[decide_eq_false_iff_not];omega
  rw[e,decide_eq_false h]
  cases s with
  | nil=>simp at h
  | cons c t=>simp[gd]
end Go.Proofs.YtmhoikfoogemnaaGreatDoor
