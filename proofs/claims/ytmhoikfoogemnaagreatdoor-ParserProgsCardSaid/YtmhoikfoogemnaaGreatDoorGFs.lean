import Derived.Test.YtmhoikfoogemnaaGreatDoorGEf
import Derived.Lib.ItoaNum
import Derived.Test.YtmhoikfoogemnaaGreatDoorGVd
namespace Go.Proofs.YtmhoikfoogemnaaGreatDoor
open Go Go.RowKit Go.Vc
set_option linter.unusedVariables false
set_option linter.unusedSimpArgs false
variable {L:Cx}
def SimS (L:Cx) (r:PR) (Q:PR→Prop) (m:Option (bL (Unit×PR))) (m':Option RS):Prop:=
 (∃ r',m=some (.ret ((),r'))∧m'=some (St L r')∧Nx L r r'∧Q r')∨∃ a e,m=some (.pan a e)∧0≤a∧(L.o=0→∃ s,m'=some s∧s.E=e∧s.Pos=a∧e≠0)
theorem SimS.bnd {β:Type} {r:PR} {Q:PR→Prop} {Q2:β→PR→Prop} {m:Option (bL (Unit×PR))} {m':Option RS} {f:Unit×PR→Option (bL (β×PR))} {g:RS→Option (β×RS)} (h:SimS L r Q m m')
  (h1:∀ r',Nx L r r'→Q r'→Sim L r Q2 (f ((),r')) (g (St L r'))) (h2:∀ s,s.E≠0→Fl s.Pos s.E (g s)):Sim L r Q2 (pb m f) (m'.bind g):=by
 rcases h with⟨r',rfl,rfl,hn,hq⟩ | ⟨a,e,rfl,h0,h⟩
 ·exact h1 r' hn hq
 ·refine .inr ⟨_,_,rfl,h0,λho=>?_⟩
  obtain⟨s,rfl,rfl,rfl,he⟩:=h ho
  exact h2 s he
theorem SimS.base {r r':PR} {Q Q':PR→Prop} {m:Option (bL (Unit×PR))} {m':Option RS} (h:SimS L r' Q m m') (hn:Nx L r r') (hq:∀ q,Nx L r' q→Q q→Q' q):SimS L r Q' m m':=by
 rcases h with⟨q,h1,h2,h3,h4⟩ | h
 ·exact .inl ⟨q,h1,h2,hn.trans h3,hq q h3 h4⟩
 ·exact .inr h
theorem ss (r:PR):(adv r).at_=r.at_+1:=rfl
theorem be {p:RS} (he:p.E≠0) (s:List UInt8):az p s=some p:=by
 unfold az;rw[jh he,Option.bind_some,if_pos (by simp),tW he];rfl
theorem Hj {o:Option bm} {k:Int} {s:List UInt8} (h:isK o k s=true):∃ t,o=some t∧t.Kind=k∧t.Text=s:=by
 cases o with
 | none=>cases h
 | some t=>unfold isK at h;simp only[Bool.and_eq_true,decide_eq_true_eq]at h;exact⟨t,rfl,h.1,h.2⟩
theorem K4 {r:PR} (h:Rok L r) {s:List UInt8} (hs:s≠[]):aK (St L r) 0 s=some (isK L.L[(r.at_+L.o).toNat]? (zd s) s):=by
 have:=h.a0;have:=h.a1;have:=h.ll;have:=h.o1
 have e:=Jt (p:=St L r) (k:=0) hs rfl (by rw[tQ];omega) (by rw[tQ];omega)
 rw[IC,tQ,Nat.add_zero]at e;exact e
theorem cF {r:PR} (h:Rok L r) (s:List UInt8) (hs:(s≠[]∧zd s=3):=by exact⟨by simp,rfl⟩):SimS L r (λr'=>r'.at_=r.at_+1) (ar r s) (az (St L r) s):=by
 unfold ar az
 rw[iR h,K4 h hs.1,hs.2,Option.bind_some,Option.bind_some]
 cases c:jd r 3 s with
 | true=>
  have c2:isK L.L[(r.at_+L.o).toNat]? 3 s=true:=by
   obtain⟨t,h1,h2,h3⟩:=Hj c
   rcases h.getk 0 with e | ⟨_,e,_⟩
   ·rw[Nat.add_zero]at e;rw[DU e];exact c
   ·rw[h1]at e;cases e
  rw[c2]
  simp only[if_true,Bool.not_true,Bool.false_eq_true,if_false]
  show SimS L r _ (some (.ret ((),adv r))) (some (⟨L.L,au (r.at_+L.o+1),r.deep+L.o,0,0⟩:RS))
  rw[j4 h]
  exact .inl ⟨adv r,rfl,rfl,Nx.adv h (h.is_lt c),rfl⟩
 | false=>
  simp only[Bool.false_eq_true,if_false,Bool.not_false,if_true]
  rw[pX h]
  refine .inr ⟨_,_,rfl,uo h,λho=>?_⟩
  have c2:isK L.L[(r.at_+L.o).toNat]? 3 s=false:=by
   rcases h.getk 0 with e | ⟨e,_⟩
   ·rw[Nat.add_zero]at e;rw[DU e];exact c
   ·omega
  rw[c2,if_pos (by rfl),pW h ho]
  exact⟨_,rfl,rfl,rfl,qP r⟩
def lK {α:Type} (p:α→Bool):List α→Option Nat
 | []=>none
 | x::l=>if p x=true then some 0 else(lK p l).map (· +1)
theorem yt {α R:Type} {L:Nat→Int→Option R} {l:List α} {p:α→Bool} {k:Nat→Option R} {z:Option R} (hn:l.length<4611686018427387904)
  (rd:∀ (f i:Nat) x,l[i]? =some x→L (f+1) (i:Int)=if p x=true then k i else L f ((i+1:Nat):Int)) (ed:∀ f,L (f+1) (l.length:Int)=z):L fu 0=match lK p l with | some i=>k i | none=>z:=by
 refine kQ (L:=λf (_:Unit) i=>L f i) (n:=l.length) hn (λi _=>lK p l=(lK p (l.drop i)).map (· +i)) ?_ ?_ () ?_
 ·intro f i _ hi hI
  obtain⟨x,hx⟩:=cC hi
  rw[qJ hx,lK]at hI
  by_cases c:p x=true
  ·right
   rw[if_pos c]at hI
   show L (f+1) (i:Int)=_
   rw[rd f i x hx,if_pos c,hI];simp
  ·left
   rw[if_neg c,Option.map_map]at hI
   refine⟨(),?_,by show L (f+1) (i:Int)=_;rw[rd f i x hx,if_neg c]⟩
   rw[hI];congr 1;funext y;simp only[Function.comp];omega
 ·intro f _ hI
  rw[List.drop_length]at hI
  show L (f+1) (l.length:Int)=_
  rw[ed f,hI];rfl
 ·simp
theorem yd {r:PR} (h:Rok L r) (l:List (List UInt8)) (hl:l.length<1000):bF r l=match lK (jd r 1) l with | some i=>some ((i:Int),adv r) | none=>some (-1,r):=by
 refine yt (L:=λf i=>cG l r f i) (k:=λi=>some ((i:Int),adv r)) (z:=some (-1,r)) (by omega) (λf i x hx=>?_) (λf=>?_)
 ·have hi:=(List.getElem?_eq_some_iff.1 hx).1
  simp only[cG]
  rw[if_pos (bS hi),cD hx,Option.bind_some,uN h,Option.bind_some,h.wi1,nu (by omega)];rfl
 ·simp only[cG]
  rw[if_neg (by simp)]
theorem Ez {r:PR} (h:Rok L r) (l:List (List UInt8)) (hl:l.length<1000) (hk:∀ s∈l,s≠[]∧zd s=1∧s≠[41]):iS (St L r) l=some (lK (jd r 1) l).isSome:=by
 have:=yt (L:=λf i=>fF l (St L r) f i) (l:=l) (p:=jd r 1) (k:=λi=>some true) (z:=some false) (by omega) (λf i x hx=>by
  have hi:=(List.getElem?_eq_some_iff.1 hx).1
  obtain⟨k1,k2⟩:=hk x (List.mem_of_getElem? hx)
  simp only[fF]
  rw[if_pos (bS hi),cD hx,Option.bind_some,x6 h x ⟨k1,k2⟩,Option.bind_some,nu (by omega)]) (λf=>by
  simp only[fF]
  rw[if_neg (by simp)])
 unfold iS
 rw[this];cases lK (jd r 1) l<;>rfl
theorem AL {p:RS} (he:p.E≠0) (l:List (List UInt8)) (hl:l.length<1000):iS p l=some false:=by
 refine HD (n:=l.length) (by omega) (λf i=>fF l p f i) (λf i hi=>?_) (λf=>?_)
 ·obtain⟨x,hx⟩:=cC hi
  simp only[fF]
  rw[if_pos (bS hi),cD hx,Option.bind_some,jh he,Option.bind_some,if_neg (by simp),nu (by omega)]
 ·simp only[fF]
  rw[if_neg (by simp)]
theorem tf {r:PR} (h:Rok L r) (l:List (List UInt8)) (hl:l.length<1000) (hk:∀ s∈l,s≠[]∧s≠[41]):cK (St L r) l=match lK (λs=>jd r (zd s) s) l with | some i=>some (((i+1:Nat):Int),St L (adv r)) | none=>(cq (St L r)).bind λq=>some (0,q):=by
 refine yt (L:=λf i=>dy l (St L r) f i) (k:=λi=>some (((i+1:Nat):Int),St L (adv r))) (z:=(cq (St L r)).bind λq=>some (0,q)) (by omega) (λf i x hx=>?_) (λf=>?_)
 ·have hi:=(List.getElem?_eq_some_iff.1 hx).1
  simp only[dy]
  rw[if_pos (bS hi),cD hx,Option.bind_some,GL h (hk x (List.mem_of_getElem? hx)).1 (hk x (List.mem_of_getElem? hx)).2,Option.bind_some,nu (by omega)]
  show(if _ then some (((i+1:Nat):Int),(⟨L.L,au (r.at_+L.o+1),r.deep+L.o,0,0⟩:RS))else _)=_
  rw[j4 h]
 ·simp only[dy]
  rw[if_neg (by simp)]
theorem ge {p:RS} (he:p.E≠0) (l:List (List UInt8)) (hl:l.length<1000):cK p l=some (0,p):=by
 refine HD (n:=l.length) (by omega) (λf i=>dy l p f i) (λf i hi=>?_) (λf=>?_)
 ·obtain⟨x,hx⟩:=cC hi
  simp only[dy]
  rw[if_pos (bS hi),cD hx,Option.bind_some,jh he,Option.bind_some,if_neg (by simp),nu (by omega)]
 ·simp only[dy]
  rw[if_neg (by simp),tW he];rfl
theorem rV {α:Type} {p q:α→Bool} {l:List α} (h:∀ x∈l,p x=q x):lK p l=lK q l:=by
 induction l with
 | nil=>rfl
 | cons x l ih=>simp only[lK];rw[h x (by simp),ih (λy hy=>h y (by simp[hy]))]
theorem rl {α:Type} {p:α→Bool} {l:List α} {i:Nat} (h:lK p l=some i):i<l.length∧∃ x∈l,p x=true:=by
 induction l generalizing i with
 | nil=>cases h
 | cons x l ih=>
  simp only[lK]at h
  split at h
  ·next c=>injection h with h;subst h;exact⟨by simp,x,by simp,c⟩
  ·obtain⟨j,h1,h2⟩:=Option.map_eq_some_iff.1 h
   obtain⟨q1,y,hy,q2⟩:=ih h1
   exact⟨by simp only[List.length_cons];omega,y,by simp[hy],q2⟩
theorem B0 {β:Type} {r:PR} {Q2:β→PR→Prop} (h:Rok L r) (l:List (List UInt8)) {f:Int→PR→Option (bL (β×PR))} {g:Int×RS→Option (β×RS)} (hl:l.length<1000) (hk:∀ s∈l,s≠[]∧zd s=1∧s≠[41])
  (h1:∀ i:Nat,i<l.length→Nx L r (adv r)→Sim L r Q2 (f (i:Int) (adv r)) (g (((i+1:Nat):Int),St L (adv r)))) (h2:∀ s,s.E≠0→Fl s.Pos s.E (g (0,s))):
  Sim L r Q2 ((bF r l).bind λ(q:Int×PR)=>if decide (au (q.1+1)=0)=true then pb (aW q.2) λ(u:Unit×PR)=>f q.1 u.2 else f q.1 q.2) ((cK (St L r) l).bind g):=by
 have e:=rV (p:=λs=>jd r (zd s) s) (q:=jd r 1) (l:=l) (λs hs=>by rw[(hk s hs).2.1])
 rw[yd h l hl,tf h l hl (λs hs=>⟨(hk s hs).1,(hk s hs).2.2⟩),e]
 cases c:lK (jd r 1) l with
 | none=>
  dsimp only
  rw[Option.bind_some,if_pos (by rfl),pX h]
  exact .inr ⟨_,_,rfl,uo h,λho=>by rw[pW h ho];exact h2 _ (qP r)⟩
 | some i=>
  obtain⟨hi,x,hx,hp⟩:=rl c
  dsimp only
  rw[Option.bind_some,Option.bind_some,nu (by omega),if_neg (by simp;omega)]
  exact h1 i hi (Nx.adv h (h.is_lt hp))
theorem pB {p:RS} (he:p.E≠0):iq p=some (0,p):=by
 unfold iq
 rw[uK he,Option.bind_some]
 show(hT [] false).bind _ =_
 rw[x7,Option.bind_some,if_neg (by simp)]
theorem zZ {r:PR} (h:Rok L r):Sim L r (λx r'=>0≤x∧x≤2147483647∧r.at_<r'.at_) (fD r) (iq (St L r)):=by
 unfold fD iq
 refine(qF h).bnd (λx r' hn ⟨hd,hl,hlt⟩=>?_) (λs hs=>?_)
 ·have hdig:x.all qy=true:=by unfold uV at hd;simp only[Bool.and_eq_true]at hd;exact hd.1
  show Sim L r _ ((jk x false).bind _) ((hT x false).bind _)
  rw[uu x false (by omega) hdig,uI x false (by omega) hdig,Option.bind_some,Option.bind_some]
  by_cases c:((!(ue x false).2)||decide (2147483647<(ue x false).1))=true
  ·rw[if_pos c,if_pos c]
   refine .inr ⟨r.at_,3,rfl,h.a0,λho=>?_⟩
   show Fl r.at_ 3 ((bJ (St L r') (r.at_+L.o) 3).bind _)
   unfold bJ
   rw[if_pos (by simp[vW])]
   exact⟨_,_,rfl,rfl,by show r.at_+(L.o:Int)=r.at_;omega,by omega⟩
  ·rw[if_neg c,if_neg c]
   simp only[Bool.or_eq_true,Bool.not_eq_true',decide_eq_true_eq,not_or]at c
   refine Sim.ret hn ⟨?_,by omega,hlt⟩
   have c1:=c.1
   unfold ue at c1 ⊢
   split
   ·unfold xb;simp only[Bool.false_eq_true,if_false];omega
   ·next hh=>rw[if_neg hh]at c1;simp at c1
 ·show Fl s.Pos s.E ((hT [] false).bind _)
  rw[x7,Option.bind_some,if_neg (by simp)]
  exact Fl.mk hs
end Go.Proofs.YtmhoikfoogemnaaGreatDoor
namespace Go.Proofs.YtmhoikfoogemnaaGreatDoor.Z01
open Go Go.RowKit Go.Vc
set_option linter.unusedVariables false
set_option linter.unusedSimpArgs false
def qy (c:UInt8):Bool:=decide (48≤c.toNat)&&decide (c.toNat≤57)
def jF (n:Nat) (s:List UInt8):Nat:=s.foldl (λn c=>10 * n+(c.toNat - 48)) n
def cb (s:List UInt8):Nat:=jF 0 s
def oc (s:List UInt8):Bool:=s.all qy&&(decide (s=[48])||(!decide (s=[])&& !decide (s.head?=some 48)))
theorem lL (n:Nat) (c:UInt8) (s:List UInt8):jF n (c::s)=jF (10 * n+(c.toNat - 48)) s:=by unfold jF;rw[List.foldl_cons]
theorem DQ {s:List UInt8} (h:s≠[]):0<s.length:=List.length_pos_iff.2 h
theorem CN (s:List UInt8) (n:Nat):n≤jF n s:=by
  induction s generalizing n with
  | nil=>exact Nat.le_refl _
  | cons c s ih=>rw[lL];have:=ih (10 * n+(c.toNat - 48));omega
theorem wp (s:List UInt8) (n:Nat):n * 10 ^ s.length≤jF n s:=by
  induction s generalizing n with
  | nil=>simp[jF]
  | cons c s ih=>
    rw[lL]
    have h:=ih (10 * n+(c.toNat - 48))
    have:n * 10 ^ (c::s).length=(10 * n) * 10 ^ s.length:=by
      rw[List.length_cons,Nat.pow_succ,Nat.mul_comm (10 ^ s.length) 10, ← Nat.mul_assoc,Nat.mul_comm n 10]
    rw[this]
    exact Nat.le_trans (Nat.mul_le_mul_right _ (by omega)) h
theorem Hu (s:List UInt8) (n:Nat) (hd:s.all qy=true):jF n s<(n+1) * 10 ^ s.length:=by
  induction s generalizing n with
  | nil=>simp[jF]
  | cons c s ih=>
    simp only[List.all_cons,Bool.and_eq_true]at hd
    have hc:c.toNat≤57:=by have:=hd.1;simp[qy]at this;omega
    rw[lL]
    have h:=ih (10 * n+(c.toNat - 48)) hd.2
    have:(n+1) * 10 ^ (c::s).length=(10 * n+10) * 10 ^ s.length:=by
      rw[List.length_cons,Nat.pow_succ,Nat.mul_comm (10 ^ s.length) 10, ← Nat.mul_assoc];congr 1;omega
    rw[this]
    exact Nat.lt_of_lt_of_le h (Nat.mul_le_mul_right _ (by omega))
theorem gq {s:List UInt8} {i:Int} (h0:0≤i) (h1:i<(s.length:Int)):sat s i=some ((s[i.toNat]'(by omega)).toNat:Int):=by
  unfold sat
  rw[if_pos ⟨h0,h1⟩]
  have hi:i.toNat<s.length:=by omega
  simp[zb,List.getD_eq_getElem?_getD,hi]
theorem qJ {s:List UInt8} {i:Int} (h0:0≤i) (h1:i<(s.length:Int)):s.drop i.toNat=(s[i.toNat]'(by omega))::s.drop (i+1).toNat:=by
  have hi:i.toNat<s.length:=by omega
  rw[List.drop_eq_getElem_cons hi]
  congr 2;omega
theorem Lt (c:UInt8):(decide (((c.toNat:Nat):Int)<48)||decide (57<((c.toNat:Nat):Int)))= !qy c:=by
  unfold qy
  by_cases h1:c.toNat<48
  · have:¬ 48≤c.toNat:=by omega
    simp[h1,this];omega
  · by_cases h2:57<c.toNat
    · have:¬ c.toNat≤57:=by omega
      simp[this];omega
    · have h3:48≤c.toNat:=by omega
      have h4:c.toNat≤57:=by omega
      simp[h3,h4];omega
theorem Jn (s:List UInt8) (m:Nat→Int→Option Bool) (fin:Option Bool)
    (hm:∀ f i,m (f+1) i=if decide (i<(s.length:Int))=true then(sat s i).bind λb2=>(gd (!(decide (b2<48))) (sat s i)).bind λb3=>if((decide (b2<48))||(decide (57<b3)))=true then some false else m f (au (i+1))else fin)
    (hl:s.length≤4294967296):∀ (f:Nat) (i:Int),0≤i→i≤(s.length:Int)→(s.length - i.toNat)<f→m f i=cond ((s.drop i.toNat).all qy) fin (some false)
  | 0,_,_,_,h=>absurd h (by omega)
  | f+1,i,h0,h1,hf=>by
    rw[hm]
    by_cases h:i<(s.length:Int)
    · rw[gq h0 h,qJ h0 h,wi ⟨by omega,by omega⟩,List.all_cons]
      generalize (s[i.toNat]'(by omega))=c
      have ih:=Jn s m fin hm hl f (i+1) (by omega) (by omega) (by omega)
      have hd:=Lt c
      revert hd
      generalize qy c=dc
      intro hd
      by_cases hb:decide (((c.toNat:Nat):Int)<48)=true
      · simp only[hb,Bool.true_or]at hd
        cases dc
        · simp only[h,hb,decide_true,gd,Bool.not_true,Bool.false_eq_true,if_false,if_true,Option.bind_some,Bool.true_or,Bool.false_and,cond_false]
        · cases hd
      · have hb':decide (((c.toNat:Nat):Int)<48)=false:=by simpa using hb
        simp only[hb',Bool.false_or]at hd
        simp only[h,hb',decide_true,gd,Bool.not_false,if_true,Option.bind_some,Bool.false_or,hd]
        cases dc
        · rfl
        · simp only[Bool.not_true,Bool.false_eq_true,if_false,Bool.true_and];exact ih
    · have e:s.drop i.toNat=[]:=List.drop_eq_nil_of_le (by omega)
      simp[h,e]
theorem A9 (s:List UInt8) (h:s≠[]):decide ((((s[0]'(DQ h)).toNat:Nat):Int)=48)=decide (s.head?=some 48):=by
  cases s with
  | nil=>exact absurd rfl h
  | cons c s=>
    simp only[List.getElem_cons_zero,List.head?_cons,Option.some.injEq]
    congr 1
    apply propext
    constructor
    · intro h1;have:c.toNat=48:=by omega
      exact UInt8.toNat_inj.1 (by simpa using this)
    · intro h1;subst h1;rfl
theorem rW (s:List UInt8) (hl:s.length≤4294967296):k8 s=some (oc s):=by
  unfold k8
  rw[Jn s (jc s) (kA s) (λ_ _=>rfl) hl fu 0 (by omega) (by omega) (by unfold fu;omega)]
  unfold oc kA
  simp only[Int.toNat_zero,List.drop_zero]
  cases hd:s.all qy
  · rfl
  · simp only[cond_true,Bool.true_and]
    by_cases h0:s=[]
    · subst h0;rfl
    · have hlen:0<s.length:=DQ h0
      rw[gq (by omega) (by omega)]
      by_cases h1:s=[48]
      · subst h1;rfl
      · simp only[h0,h1,decide_false,Bool.not_false,Bool.and_self,gd,if_true,Option.bind_some,Bool.false_or,Bool.true_and,Int.toNat_zero]
        rw[A9 s h0]
def bj (s:List UInt8):Bool×List UInt8:=match s with
  | 45::t=>(true,t)
  | _=>(false,s)
def mg (s:List UInt8):Bool:=oc (bj s).2&& !((bj s).1&&decide ((bj s).2=[48]))
theorem vC {s:List UInt8} (h:s.all qy=true):bj s=(false,s):=by
  unfold bj
  split
  · simp[qy]at h
  · rfl
theorem wJ (s:List UInt8) (hl:s.length≤4294967296):l8 s=some (mg s):=by
  have key:∀ (from_:Int),0≤from_→from_≤(s.length:Int)→fV s from_=cond ((s.drop from_.toNat).all qy) (iI from_ s) (some false):=λfrom_ h0 h1=>by
    unfold fV
    exact Jn s (jJ s from_) (iI from_ s) (λ_ _=>rfl) hl fu from_ h0 h1 (by unfold fu;omega)
  unfold l8 mg
  by_cases hs:∃ t,s=45::t∧t≠[]
  · obtain⟨t,rfl,ht⟩:=hs
    have hlen:0<t.length:=DQ ht
    have h1:(1:Int)<((45::t).length:Int):=by simp;omega
    rw[gq (by omega) (by omega)]
    simp only[h1,decide_true,gd,if_true,Option.bind_some,Int.toNat_zero,List.getElem_cons_zero,Bool.true_and,show decide ((((45:UInt8).toNat:Nat):Int)=45)=true from rfl]
    rw[key 1 (by omega) (by omega)]
    unfold iI
    have hsp:bj (45::t)=(true,t):=rfl
    rw[gq (by omega) h1]
    simp only[hsp,h1,decide_true,gd,if_true,Option.bind_some,Bool.true_and,show(1:Int).toNat=1 from rfl,List.drop_one,List.tail_cons,List.getElem_cons_succ,show decide (((45::t).length:Int)=1)=false by simp;omega,Bool.or_false]
    rw[A9 t ht]
    unfold oc
    cases hd:t.all qy
    · simp
    · cases t with
      | nil=>exact absurd rfl ht
      | cons c t=>
        by_cases hc:c=48
        · subst hc;simp
        · simp[hc]
  · have h0:(gd (decide (1<(s.length:Int))) (sat s 0)).bind (λb4=>if(decide (1<(s.length:Int))&&decide (b4=45))=true then fV s 1 else fV s 0)=fV s 0:=by
      by_cases h1:(1:Int)<(s.length:Int)
      · rw[gq (by omega) (by omega)]
        simp only[h1,decide_true,gd,if_true,Option.bind_some,Bool.true_and,Int.toNat_zero]
        rw[if_neg]
        intro h2
        refine hs ⟨s.tail,?_,?_⟩
        · cases s with
          | nil=>simp at h1
          | cons c t=>
            simp only[List.getElem_cons_zero,decide_eq_true_eq]at h2
            have:c=45:=UInt8.toNat_inj.1 (by have:c.toNat=45:=by omega
                                             simpa using this)
            subst this;rfl
        · intro h3
          have:=congrArg List.length h3
          simp at this;omega
      · simp[h1,gd]
    rw[h0,key 0 (by omega) (by omega)]
    simp only[Int.toNat_zero,List.drop_zero]
    have hsp:s.all qy=true∨s.all qy=false:=by cases s.all qy<;>simp
    rcases hsp with hd | hd
    · rw[vC hd]
      unfold iI oc
      simp only[hd,cond_true,Bool.true_and,Bool.false_and,Bool.not_false,Bool.and_true]
      by_cases h0:s=[]
      · subst h0;rfl
      · have hlen:0<s.length:=DQ h0
        have hlt:(0:Int)<(s.length:Int):=by omega
        rw[gq (by omega) hlt]
        simp only[hlt,decide_true,gd,if_true,Option.bind_some,Bool.true_and,Int.toNat_zero,h0,decide_false,Bool.not_false]
        rw[A9 s h0]
        cases s with
        | nil=>exact absurd rfl h0
        | cons c t=>
          by_cases hc:c=48
          · subst hc
            cases t with
            | nil=>rfl
            | cons d t=>simp;omega
          · simp[hc]
    · rw[hd]
      simp only[cond_false]
      have:oc (bj s).2=false:=by
        unfold bj
        split
        · rename_i t
          cases t with
          | nil=>rfl
          | cons c t=>exact absurd ⟨c::t,rfl,by simp⟩ hs
        · unfold oc;rw[hd];rfl
      rw[this];rfl
end Go.Proofs.YtmhoikfoogemnaaGreatDoor.Z01
