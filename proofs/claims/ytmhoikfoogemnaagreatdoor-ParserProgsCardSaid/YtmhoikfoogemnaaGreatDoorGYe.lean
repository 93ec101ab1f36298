import Derived.Test.YtmhoikfoogemnaaGreatDoorGEd
import Derived.Test.YtmhoikfoogemnaaGreatDoorGEa
import Derived.Test.YtmhoikfoogemnaaGreatDoorGWi
namespace Go.Proofs.YtmhoikfoogemnaaGreatDoor
open Go Go.RowKit Go.Vc
set_option linter.unusedVariables false
set_option linter.unusedSimpArgs false
variable {L:Cx}
theorem x7 (neg:Bool):hT [] neg=some (0,true):=by rw[uI [] neg (by simp) rfl];unfold ue;rw[if_pos (by unfold oV cb jF;simp)];cases neg<;>rfl
theorem Et (neg:Bool):ue [49] neg=(xb neg 1,true):=by cases neg<;>rfl
theorem B7 {r:PR} {n:Nat} (h:Rok L r) (f:GLin) (neg:Bool) (hf:LinI f n) (hn0:n<99999):
  (∃ x y r',ey r neg=some (.ret (x,r'))∧iJ f x=some (y,0)∧ft (St L r) f neg=some (y,St L r')∧Nx L r r'∧r.at_<r'.at_∧LinI y (n+1))∨
  (∃ x z c r',ey r neg=some (.ret (x,r'))∧iJ f x=some (z,c)∧c≠0∧(L.o=0→Fl r.at_ 3 (ft (St L r) f neg)))∨
  (∃ a e,ey r neg=some (.pan a e)∧0≤a∧(L.o=0→Fl a e (ft (St L r) f neg))):=by
 have h0:=h.a0
 have h1:=h.a1
 have h2:=h.ll
 have fin:∀ (s v:List UInt8) (r':PR) (x:GLin),s.all qy=true→s.length≤50000→Nx L r r'→r.at_<r'.at_→(g9 x (ue s neg).1=some (tm v (ue s neg).1,0))→(v=[]∨gr v=true)→
   (∃ y,iJ f (tm v (ue s neg).1)=some (y,0)∧LinI y (n+1)∧((ue s neg).2=true→bC neg f (St L r) s x (St L r')=some (y,St L r'))∧((ue s neg).2=false→L.o=0→Fl r.at_ 3 (bC neg f (St L r) s x (St L r'))))∨
   (iJ f (tm v (ue s neg).1)=some (⟨0,[]⟩,3)∧(L.o=0→Fl r.at_ 3 (bC neg f (St L r) s x (St L r')))):=by
  intro s v r' x hs hl hn hlt hsc hv
  have hR:=Ch s neg
  obtain⟨q,a1,a2,a3⟩:=HL hf (tm_I hv hR) hn0
  have ej:bC neg f (St L r) s x (St L r')=if((!(ue s neg).2)||(!decide (q.2=0)))=true then(bJ (St L r') (St L r).At 3).bind λr4=>some ((⟨0,[]⟩:GLin),r4)else some (q.1,St L r'):=by
   unfold bC
   rw[if_neg (by simp[vW]),uI s neg (by omega) hs,Option.bind_some,hsc,Option.bind_some,a2,Option.bind_some]
  have ef:L.o=0→Fl r.at_ 3 ((bJ (St L r') (St L r).At 3).bind λr4=>some ((⟨0,[]⟩:GLin),r4)):=λho=>by
   unfold bJ
   rw[if_pos (by simp[vW])]
   exact⟨_,_,rfl,rfl,by show r.at_+(L.o:Int)=r.at_;omega,by omega⟩
  rcases a3 with⟨z1,z2⟩ | rfl
  ·left
   obtain⟨y,c⟩:=q
   dsimp only at z1 z2
   subst z1
   refine⟨y,a1,z2,λht=>?_,λht=>?_⟩
   ·rw[ej,if_neg (by simp[ht])]
   ·rw[ej,if_pos (by simp[ht])];exact ef
  ·right
   exact⟨a1,by rw[ej,if_pos (by simp)];exact ef⟩
 unfold ey ft
 rw[ye h,AM h,Option.bind_some,Option.bind_some]
 by_cases c:CC r=true
 ·rw[if_pos c,if_pos c]
  rcases oq h with⟨v,r',e1,e2,hn,hv,hlt⟩ | ⟨a,e,e1,h9,e2⟩
  ·have hone:=fin [49] v r' ⟨0,[⟨v,1⟩]⟩ rfl (by simp) hn hlt (vX hv (Ch _ _)).2 (.inr hv)
   rw[e1,e2,Option.bind_some,(BO hv).2,Option.bind_some]
   show _ ∨ _ ∨(∃ a e,(nh v).bind _ =_ ∧ _)
   have ex:∀ {β:Type} (K:GLin→Option β),((nh v).bind λr4=>if neg=true then(jB r4 (-1)).bind λr5=>K r5.1 else K r4)=K (tm v (ue [49] neg).1):=λK=>by
    rw[(BO hv).1,Option.bind_some,Et]
    cases neg with
    | true=>rw[if_pos rfl,(vX hv ⟨by omega,by omega⟩).1];rfl
    | false=>
     rw[if_neg (by simp)]
     have:tm v (xb false 1)=⟨0,[⟨v,1⟩]⟩:=by unfold tm xb;rw[if_neg (yh hv)];rfl
     rw[this]
   have e3:(pb (some (bL.ret (v,r'))) λ(x:List UInt8×PR)=>match x with | (r3,s1)=>(nh r3).bind λr4=>if neg=true then(jB r4 (-1)).bind λr5=>some (bL.ret (r5.1,s1))else some (bL.ret (r4,s1)))=some (.ret (tm v (ue [49] neg).1,r')):=ex (λq=>some (bL.ret (q,r')))
   rcases hone with⟨y,b1,b2,b3,_⟩ | ⟨b1,b2⟩
   ·exact .inl ⟨_,y,r',e3,b1,b3 (by rw[Et]),hn,hlt,b2⟩
   ·exact .inr (.inl ⟨_,_,_,r',e3,b1,by omega,b2⟩)
  ·right;right
   rw[e1]
   refine⟨a,e,rfl,h9,λho=>?_⟩
   obtain⟨y,s,q1,q2,q3,q4⟩:=e2 ho
   rw[q1,Option.bind_some]
   have hz:∃ z,fG y=some z:=by unfold fG;rw[kK];cases gr y<;>exact⟨_,rfl⟩
   obtain⟨z,hz⟩:=hz
   show Fl a e ((fG y).bind _)
   rw[hz,Option.bind_some]
   unfold bC
   rw[if_pos (by simp[q2,q4])]
   exact⟨_,_,rfl,q2,q3,q4⟩
 ·rw[if_neg c,if_neg c]
  rcases DJ h with⟨tx,r1,e1,e2,hn,hd,hl,hlt⟩ | ⟨a,e,e1,h9,e2⟩
  ·have hdig:tx.all qy=true:=by unfold uV at hd;simp only[Bool.and_eq_true]at hd;exact hd.1
   rw[e1,e2,Option.bind_some]
   show(∃ x y r',((aE r1 [42]).bind λq=>match q with | (r13,s3)=>if r13=true then pb (aV s3) λw=>match w with | (r14,s4)=>bo tx neg r r14 s4 else bo tx neg r [] s3)=some (.ret (x,r'))∧ _ ∧((aK (St L r1) 0 [42]).bind λr9=>if r9=true then(cy (⟨L.L,au (r1.at_+L.o+1),r1.deep+L.o,0,0⟩:RS)).bind λr10=>(fG r10.1).bind λr11=>bC neg f (St L r) tx r11 r10.2 else bC neg f (St L r) tx (⟨1,[]⟩:GLin) (St L r1))=some (y,St L r')∧ _)∨(∃ x z c r',((aE r1 [42]).bind λq=>match q with | (r13,s3)=>if r13=true then pb (aV s3) λw=>match w with | (r14,s4)=>bo tx neg r r14 s4 else bo tx neg r [] s3)=some (.ret (x,r'))∧ _ ∧ _ ∧(L.o=0→Fl r.at_ 3 ((aK (St L r1) 0 [42]).bind λr9=>if r9=true then(cy (⟨L.L,au (r1.at_+L.o+1),r1.deep+L.o,0,0⟩:RS)).bind λr10=>(fG r10.1).bind λr11=>bC neg f (St L r) tx r11 r10.2 else bC neg f (St L r) tx (⟨1,[]⟩:GLin) (St L r1))))∨(∃ a e,((aE r1 [42]).bind λq=>match q with | (r13,s3)=>if r13=true then pb (aV s3) λw=>match w with | (r14,s4)=>bo tx neg r r14 s4 else bo tx neg r [] s3)=some (.pan a e)∧0≤a∧(L.o=0→Fl a e ((aK (St L r1) 0 [42]).bind λr9=>if r9=true then(cy (⟨L.L,au (r1.at_+L.o+1),r1.deep+L.o,0,0⟩:RS)).bind λr10=>(fG r10.1).bind λr11=>bC neg f (St L r) tx r11 r10.2 else bC neg f (St L r) tx (⟨1,[]⟩:GLin) (St L r1))))
   have pj:∀ (v:List UInt8) (r':PR),(v=[]∨gr v=true)→bo tx neg r v r'=if(ue tx neg).2=true then some (.ret (tm v (ue tx neg).1,r'))else some (.pan r.at_ 3):=λv r' hv=>by
    unfold bo
    rw[uu tx neg (by omega) hdig,Option.bind_some]
    have j2:eh v (ue tx neg) r'=some (.ret (tm v (ue tx neg).1,r')):=by
     unfold eh
     rcases hv with rfl | hv
     ·rfl
     ·rw[if_neg (by simp[yh hv]),(BO hv).1,Option.bind_some,(vX hv (Ch _ _)).1];rfl
    cases hb:(ue tx neg).2 with
    | true=>rw[if_neg (by simp),j2,if_pos rfl]
    | false=>rw[if_pos (by simp),if_neg (by simp)];rfl
   have done:∀ (v:List UInt8) (r':PR) (x:GLin) {M:Option (bL (GLin×PR))} {M':Option (GLin×RS)},(v=[]∨gr v=true)→Nx L r r'→r.at_<r'.at_→(g9 x (ue tx neg).1=some (tm v (ue tx neg).1,0))→M=bo tx neg r v r'→M'=bC neg f (St L r) tx x (St L r')→
     (∃ x y r',M=some (.ret (x,r'))∧iJ f x=some (y,0)∧M'=some (y,St L r')∧Nx L r r'∧r.at_<r'.at_∧LinI y (n+1))∨(∃ x z c r',M=some (.ret (x,r'))∧iJ f x=some (z,c)∧c≠0∧(L.o=0→Fl r.at_ 3 M'))∨(∃ a e,M=some (.pan a e)∧0≤a∧(L.o=0→Fl a e M')):=by
    intro v r' x M M' hv hn' hlt' hsc eM eM'
    rw[eM,eM',pj v r' hv]
    rcases fin tx v r' x hdig hl hn' hlt' hsc hv with⟨y,b1,b2,b3,b4⟩ | ⟨b1,b2⟩
    ·cases hb:(ue tx neg).2 with
     | true=>exact .inl ⟨_,y,r',rfl,b1,b3 hb,hn',hlt',b2⟩
     | false=>exact .inr (.inr ⟨_,_,rfl,h.a0,b4 hb⟩)
    ·cases hb:(ue tx neg).2 with
     | true=>exact .inr (.inl ⟨_,_,_,r',rfl,b1,by omega,b2⟩)
     | false=>exact .inr (.inr ⟨_,_,rfl,h.a0,b2⟩)
   have h1':=hn.ok
   rw[iR h1',gX h1' [42]]
   cases cs:jd r1 3 [42]with
   | true=>
    have hlt1:=h1'.is_lt cs
    have hA:=h1'.adv hlt1
    simp only[if_true,Option.bind_some]
    rw[j4 h1']
    rcases oq hA with⟨v,r2,f1,f2,hn2,hv,hlt2⟩ | ⟨a,e,f1,h9,f2⟩
    ·rw[f1,f2]
     have hlt3:r.at_<r2.at_:=by have:(adv r1).at_=r1.at_+1:=rfl;omega
     refine done v r2 ⟨0,[⟨v,1⟩]⟩ (.inr hv) ((hn.trans (Nx.adv h1' hlt1)).trans hn2) hlt3 (vX hv (Ch _ _)).2 rfl ?_
     rw[Option.bind_some,(BO hv).2];rfl
    ·right;right
     rw[f1]
     refine⟨a,e,rfl,h9,λho=>?_⟩
     obtain⟨y,s,q1,q2,q3,q4⟩:=f2 ho
     rw[q1,Option.bind_some]
     have hz:∃ z,fG y=some z:=by unfold fG;rw[kK];cases gr y<;>exact⟨_,rfl⟩
     obtain⟨z,hz⟩:=hz
     show Fl a e ((fG y).bind _)
     rw[hz,Option.bind_some]
     unfold bC
     rw[if_pos (by simp[q2,q4])]
     exact⟨_,_,rfl,q2,q3,q4⟩
   | false=>
    simp only[Bool.false_eq_true,if_false,Option.bind_some]
    exact done [] r1 ⟨1,[]⟩ (.inl rfl) hn hlt (Du (Ch _ _)) rfl rfl
  ·right;right
   rw[e1]
   refine⟨a,e,rfl,h9,λho=>?_⟩
   obtain⟨y,s,q1,q2,q3,q4⟩:=e2 ho
   have hs:s.E≠0:=by rw[q2];exact q4
   rw[q1,Option.bind_some]
   show Fl a e ((aK s 0 [42]).bind _)
   rw[jh hs,Option.bind_some,if_neg (by simp)]
   unfold bC
   rw[if_pos (by simp[q2,q4])]
   exact⟨_,_,rfl,q2,q3,q4⟩
theorem GJ {p:RS} (he:p.E≠0) (f:GLin) (neg:Bool):ft p f neg=some (⟨0,[]⟩,p):=by
 unfold ft
 rw[wd he,Option.bind_some,if_neg (by simp),uK he,Option.bind_some]
 show((aK p 0 [42]).bind _)=_
 rw[jh he,Option.bind_some,if_neg (by simp)]
 unfold bC
 rw[if_pos (by simp[he])]
theorem qi {p:RS} (he:p.E≠0) (g:Nat) (f:GLin):dU (g+1) p f=some (f,p):=by
 simp only[dU]
 rw[jh he,jh he]
 simp[gd]
theorem HP:∃ g,fu=g+1:=⟨fu - 1,by unfold fu;omega⟩
theorem ri {p:RS} (he:p.E≠0):dR p=some (⟨0,[]⟩,p):=by
 unfold dR j5
 rw[jh he,Option.bind_some,if_neg (by simp),GJ he,Option.bind_some]
 obtain⟨g,hg⟩:=HP
 rw[hg];exact qi he g _
theorem CG:∀ (k:Nat) (F F':Nat) (a0:Int) (r:PR) (f:GLin) (neg:Bool),Rok L r→r.l.length - r.at_.toNat≤k→k<F→k<F'→0≤a0→a0≤r.at_→LinI f (r.at_ - a0).toNat→
  Sim L r (λx r'=>r.at_<r'.at_∧LinI x (r'.at_ - a0).toNat) (bp F neg r f) ((ft (St L r) f neg).bind λr2=>dU F' r2.2 r2.1):=by
 intro k
 induction k with
 | zero=>
  intro F F' a0 r f neg h hk hF hF' ha0 ha1 hf
  obtain⟨F,rfl⟩:∃ g,F=g+1:=⟨F - 1,by omega⟩
  obtain⟨F',rfl⟩:∃ g,F'=g+1:=⟨F' - 1,by omega⟩
  have h0:=h.a0
  have h1:=h.a1
  simp only[bp]
  have h2:=h.ll
  rcases B7 h f neg hf (by omega)with⟨x,y,r',e1,e2,e3,hn,hlt,hy⟩ | ⟨x,z,c,r',e1,e2,hc,hq⟩ | ⟨a,e,e1,h9,hq⟩
  ·have q1:=hn.ok.a1;have q2:=hn.l;rw[q2]at q1;omega
  ·rw[e1]
   refine .inr ⟨r.at_,3,?_,h.a0,λho=>?_⟩
   ·show((iJ f x).bind _)=_
    rw[e2,Option.bind_some,if_pos (by simp[hc])];rfl
   ·obtain⟨y,s,q1,q2,q3,q4⟩:=hq ho
    rw[q1,Option.bind_some,qi (by show s.E≠0;rw[q2];exact q4)];exact⟨_,_,rfl,q2,q3,q4⟩
  ·rw[e1]
   refine .inr ⟨a,e,rfl,h9,λho=>?_⟩
   obtain⟨y,s,q1,q2,q3,q4⟩:=hq ho
   rw[q1,Option.bind_some,qi (by show s.E≠0;rw[q2];exact q4)];exact⟨_,_,rfl,q2,q3,q4⟩
 | succ k ih=>
  intro F F' a0 r f neg h hk hF hF' ha0 ha1 hf
  obtain⟨F,rfl⟩:∃ g,F=g+1:=⟨F - 1,by omega⟩
  obtain⟨F',rfl⟩:∃ g,F'=g+1:=⟨F' - 1,by omega⟩
  have h0:=h.a0
  have h1:=h.a1
  simp only[bp]
  have h2:=h.ll
  rcases B7 h f neg hf (by omega)with⟨x,y,r',e1,e2,e3,hn,hlt,hy⟩ | ⟨x,z,c,r',e1,e2,hc,hq⟩ | ⟨a,e,e1,h9,hq⟩
  ·rw[e1,e3,Option.bind_some]
   show Sim L r _ ((iJ f x).bind _) _
   rw[e2,Option.bind_some,if_neg (by simp)]
   have h':=hn.ok
   have hl':=hn.l
   unfold gb
   simp only[dU]
   rw[iR h',gX h' [43],gX h' [45],Option.bind_some,Option.bind_some]
   cases c1:jd r' 3 [43]with
   | true=>
    have hlt1:=h'.is_lt c1
    have c2:jd r' 3 [45]=false:=by
     unfold jd isK at c1 ⊢
     cases ht:vY r' 0 with
     | none=>rfl
     | some t=>rw[ht]at c1;simp only[Bool.and_eq_true,decide_eq_true_eq]at c1;simp[c1.2]
    rw[c2]
    simp only[gd,if_true,Option.bind_some,Bool.true_or,Bool.not_true,Bool.false_eq_true,if_false]
    show Sim L r _ (bp F false (adv r') y) ((ft (⟨L.L,au (r'.at_+L.o+1),r'.deep+L.o,0,0⟩:RS) y false).bind λr6=>dU F' r6.2 r6.1)
    rw[j4 h']
    have hnA:=Nx.adv h' hlt1
    have eA:(adv r').at_=r'.at_+1:=rfl
    refine(ih F F' a0 (adv r') y false hnA.ok (by rw[show(adv r').l=r.l from hl',eA];omega) (by omega) (by omega) ha0 (by omega) (hy.mono (by rw[eA];omega))).base (hn.trans hnA) (λx q hq hx=>⟨?_,hx.2⟩)
    have:=hx.1;omega
   | false=>
    simp only[gd,if_true,Option.bind_some,Bool.false_or,Bool.not_false,Bool.false_eq_true,if_false]
    rw[iR h',Option.bind_some]
    cases c2:jd r' 3 [45]with
    | true=>
     have hlt1:=h'.is_lt c2
     simp only[if_true,Option.bind_some]
     show Sim L r _ (bp F true (adv r') y) ((ft (⟨L.L,au (r'.at_+L.o+1),r'.deep+L.o,0,0⟩:RS) y true).bind λr6=>dU F' r6.2 r6.1)
     rw[j4 h']
     have hnA:=Nx.adv h' hlt1
     have eA:(adv r').at_=r'.at_+1:=rfl
     refine(ih F F' a0 (adv r') y true hnA.ok (by rw[show(adv r').l=r.l from hl',eA];omega) (by omega) (by omega) ha0 (by omega) (hy.mono (by rw[eA];omega))).base (hn.trans hnA) (λx q hq hx=>⟨?_,hx.2⟩)
     have:=hx.1;omega
    | false=>
     simp only[Bool.false_eq_true,if_false]
     exact Sim.ret hn ⟨hlt,hy.mono (by omega)⟩
  ·rw[e1]
   refine .inr ⟨r.at_,3,?_,h.a0,λho=>?_⟩
   ·show((iJ f x).bind _)=_
    rw[e2,Option.bind_some,if_pos (by simp[hc])];rfl
   ·obtain⟨y,s,q1,q2,q3,q4⟩:=hq ho
    rw[q1,Option.bind_some,qi (by show s.E≠0;rw[q2];exact q4)];exact⟨_,_,rfl,q2,q3,q4⟩
  ·rw[e1]
   refine .inr ⟨a,e,rfl,h9,λho=>?_⟩
   obtain⟨y,s,q1,q2,q3,q4⟩:=hq ho
   rw[q1,Option.bind_some,qi (by show s.E≠0;rw[q2];exact q4)];exact⟨_,_,rfl,q2,q3,q4⟩
theorem rn {r:PR} (h:Rok L r):Sim L r (λx r'=>r.at_<r'.at_∧LinI x (r'.at_ - r.at_).toNat) (bG r) (dR (St L r)):=by
 unfold bG dR j5
 rw[iR h,gX h [45],Option.bind_some,Option.bind_some]
 have h2:=h.ll
 cases c:jd r 3 [45]with
 | true=>
  have hlt:=h.is_lt c
  have hnA:=Nx.adv h hlt
  simp only[if_true]
  show Sim L r _ (bp fu true (adv r) ⟨0,[]⟩) ((ft (⟨L.L,au (r.at_+L.o+1),r.deep+L.o,0,0⟩:RS) ⟨0,[]⟩ true).bind λr2=>dU fu r2.2 r2.1)
  rw[j4 h]
  refine(CG 50000 fu fu r.at_ (adv r) ⟨0,[]⟩ true hnA.ok (by show r.l.length - _ ≤ _;omega) (by unfold fu;omega) (by unfold fu;omega) h.a0 (by show r.at_≤r.at_+1;omega) (.const R0 _)).base hnA (λx q hq hx=>⟨?_,hx.2⟩)
  have:=hx.1
  have eA:(adv r).at_=r.at_+1:=rfl
  omega
 | false=>
  simp only[Bool.false_eq_true,if_false]
  exact CG 50000 fu fu r.at_ r ⟨0,[]⟩ false h (by omega) (by unfold fu;omega) (by unfold fu;omega) h.a0 (Int.le_refl _) (.const R0 _)
end Go.Proofs.YtmhoikfoogemnaaGreatDoor
namespace Go.Proofs.YtmhoikfoogemnaaGreatDoor
open Go Go.RowKit Go.Vc
set_option linter.unusedVariables false
set_option linter.unusedSimpArgs false
end Go.Proofs.YtmhoikfoogemnaaGreatDoor
namespace Go.Proofs.YtmhoikfoogemnaaGreatDoor
open Go Go.RowKit Go.Vc
set_option linter.unusedVariables false
set_option linter.unusedSimpArgs false
instance (l:GLin):Decidable (pC l):=by unfold pC;infer_instance
theorem xI {l:GLin} (hl:l.L.length<4611686018427387904):iT l=some (if pC l then 0 else 1)∧iw l=some (decide (pC l)):=by
 obtain⟨b,h1,h2,h3⟩:=np l hl
 by_cases h:pC l
 ·have hb:=h1.2 h;subst hb;exact⟨by rw[h2,if_pos rfl,if_pos h],by rw[h3,decide_eq_true h]⟩
 ·have hb:b=false:=by cases b;rfl;exact absurd (h1.1 rfl) h
  subst hb;exact⟨by rw[h2,if_neg h];rfl,by rw[h3,decide_eq_false h]⟩
theorem wl {s:List UInt8} (h:gr s=true):s≠[]∧s.length≤16:=by
 unfold gr at h
 simp only[Bool.and_eq_true,decide_eq_true_eq]at h
 exact h.1.1.1
end Go.Proofs.YtmhoikfoogemnaaGreatDoor
namespace Go.Proofs.YtmhoikfoogemnaaGreatDoor
open Go Go.RowKit Go.Vc
set_option linter.unusedVariables false
set_option linter.unusedSimpArgs false
def wI (x:GIndex):Nat:=x.Lin.L.length+x.At.length+(x.At.map (·.L.length)).sum
def wE:GExpr→Nat
 | ⟨_,_,_,_,l,idx,args⟩=>1+l.L.length+idx.length+(idx.map wI).sum+go args
 where go:List GExpr→Nat
  | []=>0
  | x::xs=>wE x+go xs
theorem Gj:∀ (xs:List GExpr),wE.go xs=(xs.map wE).sum
 | []=>rfl
 | x::xs=>by rw[wE.go,Gj xs,List.map_cons,List.sum_cons]
theorem B3 (x:GExpr):wE x=1+x.Lin.L.length+x.Idx.length+(x.Idx.map wI).sum+(x.Args.map wE).sum:=by
 cases x;rw[wE,Gj]
theorem B8 {zs:List Nat} {i x:Nat} (h:zs[i]? =some x):(zs.take (i+1)).sum=(zs.take i).sum+x:=by rw[dm h,List.sum_append];simp
theorem AB (zs:List Nat) (i:Nat):(zs.take i).sum≤zs.sum:=by
 conv=>rhs;rw[← List.take_append_drop i zs,List.sum_append]
 omega
theorem DN {zs:List Nat} {x:Nat} (h:x∈zs):x≤zs.sum:=by
 induction zs with
 | nil=>cases h
 | cons a zs ih=>
  rw[List.sum_cons]
  rcases List.mem_cons.1 h with rfl | h
  ·omega
  ·have:=ih h;omega
theorem okGExpr.out {e:GExpr} (h:okGExpr e):okGLin e.Lin∧okW okGIndex e.Idx∧okW okGExpr e.Args:=by obtain⟨_,_,_,_,h1,h2,h3⟩:=okGExpr_iff.1 h;exact⟨h1,h2,h3⟩
theorem LF {p:Int} (h: -4611686018427387904≤p∧p≤4611686018427387904):au p=p:=Av (p:=p) ⟨by omega,by omega⟩
end Go.Proofs.YtmhoikfoogemnaaGreatDoor
namespace Go.Proofs.YtmhoikfoogemnaaGreatDoor
open Go Go.RowKit Go.Vc
set_option linter.unusedVariables false
set_option linter.unusedSimpArgs false
theorem yq (s:List UInt8):ig s=some (gr s):=by
 by_cases h:s.length≤16
 ·exact Ac s (by omega)
 ·unfold ig gr
  have e:decide ((s.length:Int)≤16)=false:=by rw[decide_eq_false_iff_not];omega
  rw[e,decide_eq_false h]
  cases s with
  | nil=>simp at h
  | cons c t=>simp[gd]
end Go.Proofs.YtmhoikfoogemnaaGreatDoor
