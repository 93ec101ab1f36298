import Derived.Test.YtmhoikfoogemnaaGreatDoorJEf
import Derived.Lib.ItoaNum
import Derived.Test.YtmhoikfoogemnaaGreatDoorJVd
namespace Go.Proofs.YtmhoikfoogemnaaGreatDoor
open Go Go.RowKit Go.Vc
set_option linter.unusedVariables false
set_option linter.unusedSimpArgs false
variable {L:Cx}
def SimS (L:Cx) (r:PR) (Q:PR→Prop) (m:Option (bu (Unit×PR))) (m':Option RS):Prop:=
 (∃ r',m=some (.ret ((),r'))∧m'=some (St L r')∧Nx L r r'∧Q r')∨∃ a e,m=some (.pan a e)∧0≤a∧(L.o=0→∃ s,m'=some s∧s.E=e∧s.Pos=a∧e≠0)
theorem SimS.bnd {β:Type} {r:PR} {Q:PR→Prop} {Q2:β→PR→Prop} {m:Option (bu (Unit×PR))} {m':Option RS} {f:Unit×PR→Option (bu (β×PR))} {g:RS→Option (β×RS)} (h:SimS L r Q m m')
  (h1:∀ r',Nx L r r'→Q r'→Sim L r Q2 (f ((),r')) (g (St L r'))) (h2:∀ s,s.E≠0→Fl s.Pos s.E (g s)):Sim L r Q2 (pb m f) (m'.bind g):=by
 rcases h with⟨r',rfl,rfl,hn,hq⟩ | ⟨a,e,rfl,h0,h⟩
 ·exact h1 r' hn hq
 ·refine .inr ⟨_,_,rfl,h0,fun ho=> ?_⟩
  obtain⟨s,rfl,rfl,rfl,he⟩:=h ho
  exact h2 s he
theorem SimS.base {r r':PR} {Q Q':PR→Prop} {m:Option (bu (Unit×PR))} {m':Option RS} (h:SimS L r' Q m m') (hn:Nx L r r') (hq:∀ q,Nx L r' q→Q q→Q' q):SimS L r Q' m m':=by
 rcases h with⟨q,h1,h2,h3,h4⟩ | h
 ·exact .inl ⟨q,h1,h2,hn.trans h3,hq q h3 h4⟩
 ·exact .inr h
theorem p9 (r:PR):(adv r).at_=r.at_+1:=rfl
theorem bC {p:RS} (he:p.E≠0) (s:List UInt8):aE p s=some p:=by
 unfold aE;rw[jA he,Option.bind_some,if_pos (by simp),qZ he];rfl
theorem DH {o:Option GToken} {k:Int} {s:List UInt8} (h:isK o k s=true):∃ t,o=some t∧t.Kind=k∧t.Text=s:=by
 cases o with
 | none=>cases h
 | some t=>unfold isK at h;simp only[Bool.and_eq_true,decide_eq_true_eq]at h;exact⟨t,rfl,h.1,h.2⟩
theorem G8 {r:PR} (h:Rok L r) {s:List UInt8} (hs:s≠[]):aJ (St L r) 0 s=some (isK L.L[(r.at_+L.o).toNat]? (BB s) s):=by
 have:=h.a0;have:=h.a1;have:=h.ll;have:=h.o1
 have e:=FN (p:=St L r) (k:=0) hs rfl (by rw[ta];omega) (by rw[ta];omega)
 rw[GF,ta,Nat.add_zero]at e;exact e
theorem fF {r:PR} (h:Rok L r) (s:List UInt8) (hs:(s≠[]∧BB s=3):=by exact⟨by simp,rfl⟩):SimS L r (fun r'=>r'.at_=r.at_+1) (aF r s) (aE (St L r) s):=by
 unfold aF aE
 rw[jS h,G8 h hs.1,hs.2,Option.bind_some,Option.bind_some]
 cases c:lj r 3 s with
 | true=>
  have c2:isK L.L[(r.at_+L.o).toNat]? 3 s=true:=by
   obtain⟨t,h1,h2,h3⟩:=DH c
   rcases h.getk 0 with e | ⟨_,e,_⟩
   ·rw[Nat.add_zero]at e;rw[AK e];exact c
   ·rw[h1]at e;cases e
  rw[c2]
  simp only[if_true,Bool.not_true,Bool.false_eq_true,if_false]
  show SimS L r _ (some (.ret ((),adv r))) (some (⟨L.L,aq (r.at_+L.o+1),r.deep+L.o,0,0⟩:RS))
  rw[ky h]
  exact .inl ⟨adv r,rfl,rfl,Nx.adv h (h.is_lt c),rfl⟩
 | false=>
  simp only[Bool.false_eq_true,if_false,Bool.not_false,if_true]
  rw[ra h]
  refine .inr ⟨_,_,rfl,uW h,fun ho=> ?_⟩
  have c2:isK L.L[(r.at_+L.o).toNat]? 3 s=false:=by
   rcases h.getk 0 with e | ⟨e,_⟩
   ·rw[Nat.add_zero]at e;rw[AK e];exact c
   ·omega
  rw[c2,if_pos (by rfl),q8 h ho]
  exact⟨_,rfl,rfl,rfl,tg r⟩
def l7 {α:Type} (p:α→Bool):List α→Option Nat
 | []=>none
 | x::l=>if p x=true then some 0 else(l7 p l).map (· +1)
theorem vN {α R:Type} {L:Nat→Int→Option R} {l:List α} {p:α→Bool} {k:Nat→Option R} {z:Option R} (hn:l.length<4611686018427387904)
  (rd:∀ (f i:Nat) x,l[i]? =some x→L (f+1) (i:Int)=if p x=true then k i else L f ((i+1:Nat):Int)) (ed:∀ f,L (f+1) (l.length:Int)=z):L fu 0=match l7 p l with | some i=>k i | none=>z:=by
 refine kD (L:=fun f (_:Unit) i=>L f i) (n:=l.length) hn (fun i _=>l7 p l=(l7 p (l.drop i)).map (· +i)) ?_ ?_ () ?_
 ·intro f i _ hi hI
  obtain⟨x,hx⟩:=ct hi
  rw[oX hx,l7]at hI
  by_cases c:p x=true
  ·right
   rw[if_pos c]at hI
   show L (f+1) (i:Int)=_
   rw[rd f i x hx,if_pos c,hI];simp
  ·left
   rw[if_neg c,Option.map_map]at hI
   refine⟨(),?_,by show L (f+1) (i:Int)=_;rw[rd f i x hx,if_neg c]⟩
   rw[hI];congr 1;funext y;simp only[Function.comp];omega
 ·intro f _ hI
  rw[List.drop_length]at hI
  show L (f+1) (l.length:Int)=_
  rw[ed f,hI];rfl
 ·simp
theorem As {r:PR} (h:Rok L r) (l:List (List UInt8)) (hl:l.length<1000):cQ r l=match l7 (lj r 1) l with | some i=>some ((i:Int),adv r) | none=>some (-1,r):=by
 refine vN (L:=fun f i=>cn l r f i) (k:=fun i=>some ((i:Int),adv r)) (z:=some (-1,r)) (by omega) (fun f i x hx=> ?_) (fun f=> ?_)
 ·have hi:=(List.getElem?_eq_some_iff.1 hx).1
  simp only[cn]
  rw[if_pos (cz hi),cI hx,Option.bind_some,wG h,Option.bind_some,h.wi1,nq (by omega)];rfl
 ·simp only[cn]
  rw[if_neg (by simp)]
theorem E9 {r:PR} (h:Rok L r) (l:List (List UInt8)) (hl:l.length<1000) (hk:∀ s∈l,s≠[]∧BB s=1∧s≠[41]):lq (St L r) l=some (l7 (lj r 1) l).isSome:=by
 have:=vN (L:=fun f i=>ez l (St L r) f i) (l:=l) (p:=lj r 1) (k:=fun i=>some true) (z:=some false) (by omega) (fun f i x hx=>by
  have hi:=(List.getElem?_eq_some_iff.1 hx).1
  obtain⟨k1,k2⟩:=hk x (List.mem_of_getElem? hx)
  simp only[ez]
  rw[if_pos (cz hi),cI hx,Option.bind_some,vj h x ⟨k1,k2⟩,Option.bind_some,nq (by omega)]) (fun f=>by
  simp only[ez]
  rw[if_neg (by simp)])
 unfold lq
 rw[this];cases l7 (lj r 1) l<;>rfl
theorem Bq {p:RS} (he:p.E≠0) (l:List (List UInt8)) (hl:l.length<1000):lq p l=some false:=by
 refine DY (n:=l.length) (by omega) (fun f i=>ez l p f i) (fun f i hi=> ?_) (fun f=> ?_)
 ·obtain⟨x,hx⟩:=ct hi
  simp only[ez]
  rw[if_pos (cz hi),cI hx,Option.bind_some,jA he,Option.bind_some,if_neg (by simp),nq (by omega)]
 ·simp only[ez]
  rw[if_neg (by simp)]
theorem zp {r:PR} (h:Rok L r) (l:List (List UInt8)) (hl:l.length<1000) (hk:∀ s∈l,s≠[]∧s≠[41]):gS (St L r) l=match l7 (fun s=>lj r (BB s) s) l with | some i=>some (((i+1:Nat):Int),St L (adv r)) | none=>(cX (St L r)).bind fun q=>some (0,q):=by
 refine vN (L:=fun f i=>cP l (St L r) f i) (k:=fun i=>some (((i+1:Nat):Int),St L (adv r))) (z:=(cX (St L r)).bind fun q=>some (0,q)) (by omega) (fun f i x hx=> ?_) (fun f=> ?_)
 ·have hi:=(List.getElem?_eq_some_iff.1 hx).1
  simp only[cP]
  rw[if_pos (cz hi),cI hx,Option.bind_some,Di h (hk x (List.mem_of_getElem? hx)).1 (hk x (List.mem_of_getElem? hx)).2,Option.bind_some,nq (by omega)]
  show(if _ then some (((i+1:Nat):Int),(⟨L.L,aq (r.at_+L.o+1),r.deep+L.o,0,0⟩:RS))else _)=_
  rw[ky h]
 ·simp only[cP]
  rw[if_neg (by simp)]
theorem fc {p:RS} (he:p.E≠0) (l:List (List UInt8)) (hl:l.length<1000):gS p l=some (0,p):=by
 refine DY (n:=l.length) (by omega) (fun f i=>cP l p f i) (fun f i hi=> ?_) (fun f=> ?_)
 ·obtain⟨x,hx⟩:=ct hi
  simp only[cP]
  rw[if_pos (cz hi),cI hx,Option.bind_some,jA he,Option.bind_some,if_neg (by simp),nq (by omega)]
 ·simp only[cP]
  rw[if_neg (by simp),qZ he];rfl
theorem vO {α:Type} {p q:α→Bool} {l:List α} (h:∀ x∈l,p x=q x):l7 p l=l7 q l:=by
 induction l with
 | nil=>rfl
 | cons x l ih=>simp only[l7];rw[h x (by simp),ih (fun y hy=>h y (by simp[hy]))]
theorem tw {α:Type} {p:α→Bool} {l:List α} {i:Nat} (h:l7 p l=some i):i<l.length∧∃ x∈l,p x=true:=by
 induction l generalizing i with
 | nil=>cases h
 | cons x l ih=>
  simp only[l7]at h
  split at h
  ·next c=>injection h with h;subst h;exact⟨by simp,x,by simp,c⟩
  ·obtain⟨j,h1,h2⟩:=Option.map_eq_some_iff.1 h
   obtain⟨q1,y,hy,q2⟩:=ih h1
   exact⟨by simp only[List.length_cons];omega,y,by simp[hy],q2⟩
theorem yW {β:Type} {r:PR} {Q2:β→PR→Prop} (h:Rok L r) (l:List (List UInt8)) {f:Int→PR→Option (bu (β×PR))} {g:Int×RS→Option (β×RS)} (hl:l.length<1000) (hk:∀ s∈l,s≠[]∧BB s=1∧s≠[41])
  (h1:∀ i:Nat,i<l.length→Nx L r (adv r)→Sim L r Q2 (f (i:Int) (adv r)) (g (((i+1:Nat):Int),St L (adv r)))) (h2:∀ s,s.E≠0→Fl s.Pos s.E (g (0,s))):
  Sim L r Q2 ((cQ r l).bind fun(q:Int×PR)=>if decide (aq (q.1+1)=0)=true then pb (aY q.2) fun(u:Unit×PR)=>f q.1 u.2 else f q.1 q.2) ((gS (St L r) l).bind g):=by
 have e:=vO (p:=fun s=>lj r (BB s) s) (q:=lj r 1) (l:=l) (fun s hs=>by rw[(hk s hs).2.1])
 rw[As h l hl,zp h l hl (fun s hs=>⟨(hk s hs).1,(hk s hs).2.2⟩),e]
 cases c:l7 (lj r 1) l with
 | none=>
  dsimp only
  rw[Option.bind_some,if_pos (by rfl),ra h]
  exact .inr ⟨_,_,rfl,uW h,fun ho=>by rw[q8 h ho];exact h2 _ (tg r)⟩
 | some i=>
  obtain⟨hi,x,hx,hp⟩:=tw c
  dsimp only
  rw[Option.bind_some,Option.bind_some,nq (by omega),if_neg (by simp;omega)]
  exact h1 i hi (Nx.adv h (h.is_lt hp))
theorem nP {p:RS} (he:p.E≠0):gp p=some (0,p):=by
 unfold gp
 rw[rO he,Option.bind_some]
 show(gb [] false).bind _ =_
 rw[vk,Option.bind_some,if_neg (by simp)]
theorem xr {r:PR} (h:Rok L r):Sim L r (fun x r'=>0≤x∧x≤2147483647∧r.at_<r'.at_) (ey r) (gp (St L r)):=by
 unfold ey gp
 refine(oR h).bnd (fun x r' hn ⟨hd,hl,hlt⟩=> ?_) (fun s hs=> ?_)
 ·have hdig:x.all oJ=true:=by unfold rY at hd;simp only[Bool.and_eq_true]at hd;exact hd.1
  show Sim L r _ ((ie x false).bind _) ((gb x false).bind _)
  rw[rA x false (by omega) hdig,rM x false (by omega) hdig,Option.bind_some,Option.bind_some]
  by_cases c:((!(rp x false).2)||decide (2147483647<(rp x false).1))=true
  ·rw[if_pos c,if_pos c]
   refine .inr ⟨r.at_,3,rfl,h.a0,fun ho=> ?_⟩
   show Fl r.at_ 3 ((br (St L r') (r.at_+L.o) 3).bind _)
   unfold br
   rw[if_pos (by simp[tO])]
   exact⟨_,_,rfl,rfl,by show r.at_+(L.o:Int)=r.at_;omega,by omega⟩
  ·rw[if_neg c,if_neg c]
   simp only[Bool.or_eq_true,Bool.not_eq_true',decide_eq_true_eq,not_or]at c
   refine Sim.ret hn ⟨?_,by omega,hlt⟩
   have c1:=c.1
   unfold rp at c1 ⊢
   split
   ·unfold uk;simp only[Bool.false_eq_true,if_false];omega
   ·next hh=>rw[if_neg hh]at c1;simp at c1
 ·show Fl s.Pos s.E ((gb [] false).bind _)
  rw[vk,Option.bind_some,if_neg (by simp)]
  exact Fl.mk hs
end Go.Proofs.YtmhoikfoogemnaaGreatDoor
namespace Go.Proofs.YtmhoikfoogemnaaGreatDoor.Z01
open Go Go.RowKit Go.Vc
set_option linter.unusedVariables false
set_option linter.unusedSimpArgs false
def oJ (c:UInt8):Bool:=decide (48≤c.toNat)&&decide (c.toNat≤57)
def iH (n:Nat) (s:List UInt8):Nat:=s.foldl (fun n c=>10 * n+(c.toNat - 48)) n
def bL (s:List UInt8):Nat:=iH 0 s
def mE (s:List UInt8):Bool:=s.all oJ&&(decide (s=[48])||(!decide (s=[])&& !decide (s.head?=some 48)))
theorem kE (n:Nat) (c:UInt8) (s:List UInt8):iH n (c::s)=iH (10 * n+(c.toNat - 48)) s:=by unfold iH;rw[List.foldl_cons]
theorem AH {s:List UInt8} (h:s≠[]):0<s.length:=List.length_pos_iff.2 h
theorem zO (s:List UInt8) (n:Nat):n≤iH n s:=by
  induction s generalizing n with
  | nil=>exact Nat.le_refl _
  | cons c s ih=>rw[kE];have:=ih (10 * n+(c.toNat - 48));omega
theorem tz (s:List UInt8) (n:Nat):n * 10 ^ s.length≤iH n s:=by
  induction s generalizing n with
  | nil=>simp[iH]
  | cons c s ih=>
    rw[kE]
    have h:=ih (10 * n+(c.toNat - 48))
    have:n * 10 ^ (c::s).length=(10 * n) * 10 ^ s.length:=by
      rw[List.length_cons,Nat.pow_succ,Nat.mul_comm (10 ^ s.length) 10, ← Nat.mul_assoc,Nat.mul_comm n 10]
    rw[this]
    exact Nat.le_trans (Nat.mul_le_mul_right _ (by omega)) h
theorem DP (s:List UInt8) (n:Nat) (hd:s.all oJ=true):iH n s<(n+1) * 10 ^ s.length:=by
  induction s generalizing n with
  | nil=>simp[iH]
  | cons c s ih=>
    simp only[List.all_cons,Bool.and_eq_true]at hd
    have hc:c.toNat≤57:=by have:=hd.1;simp[oJ]at this;omega
    rw[kE]
    have h:=ih (10 * n+(c.toNat - 48)) hd.2
    have:(n+1) * 10 ^ (c::s).length=(10 * n+10) * 10 ^ s.length:=by
      rw[List.length_cons,Nat.pow_succ,Nat.mul_comm (10 ^ s.length) 10, ← Nat.mul_assoc];congr 1;omega
    rw[this]
    exact Nat.lt_of_lt_of_le h (Nat.mul_le_mul_right _ (by omega))
theorem ia {s:List UInt8} {i:Int} (h0:0≤i) (h1:i<(s.length:Int)):sat s i=some ((s[i.toNat]'(by omega)).toNat:Int):=by
  unfold sat
  rw[if_pos ⟨h0,h1⟩]
  have hi:i.toNat<s.length:=by omega
  simp[GM,List.getD_eq_getElem?_getD,hi]
theorem oX {s:List UInt8} {i:Int} (h0:0≤i) (h1:i<(s.length:Int)):s.drop i.toNat=(s[i.toNat]'(by omega))::s.drop (i+1).toNat:=by
  have hi:i.toNat<s.length:=by omega
  rw[List.drop_eq_getElem_cons hi]
  congr 2;omega
theorem Hq (c:UInt8):(decide (((c.toNat:Nat):Int)<48)||decide (57<((c.toNat:Nat):Int)))= !oJ c:=by
  unfold oJ
  by_cases h1:c.toNat<48
  · have:¬ 48≤c.toNat:=by omega
    simp[h1,this];omega
  · by_cases h2:57<c.toNat
    · have:¬ c.toNat≤57:=by omega
      simp[this];omega
    · have h3:48≤c.toNat:=by omega
      have h4:c.toNat≤57:=by omega
      simp[h3,h4];omega
theorem FJ (s:List UInt8) (m:Nat→Int→Option Bool) (fin:Option Bool)
    (hm:∀ f i,m (f+1) i=if decide (i<(s.length:Int))=true then(sat s i).bind fun b2=>(gd (!(decide (b2<48))) (sat s i)).bind fun b3=>if((decide (b2<48))||(decide (57<b3)))=true then some false else m f (aq (i+1))else fin)
    (hl:s.length≤4294967296):∀ (f:Nat) (i:Int),0≤i→i≤(s.length:Int)→(s.length - i.toNat)<f→m f i=cond ((s.drop i.toNat).all oJ) fin (some false)
  | 0,_,_,_,h=>absurd h (by omega)
  | f+1,i,h0,h1,hf=>by
    rw[hm]
    by_cases h:i<(s.length:Int)
    · rw[ia h0 h,oX h0 h,wi ⟨by omega,by omega⟩,List.all_cons]
      generalize (s[i.toNat]'(by omega))=c
      have ih:=FJ s m fin hm hl f (i+1) (by omega) (by omega) (by omega)
      have hd:=Hq c
      revert hd
      generalize oJ c=dc
      intro hd
      by_cases hb:decide (((c.toNat:Nat):Int)<48)=true
      · simp only[hb,Bool.true_or]at hd
        cases dc
        · simp only[h,hb,decide_true,gd,Bool.not_true,Bool.false_eq_true,if_false,if_true,Option.bind_some,Bool.true_or,Bool.false_and,cond_false]
        · cases hd
      · have hb':decide (((c.toNat:Nat):Int)<48)=false:=by simpa using hb
        simp only[hb',Bool.false_or]at hd
        simp only[h,hb',decide_true,gd,Bool.not_false,if_true,Option.bind_some,Bool.false_or,hd]
        cases dc
        · rfl
        · simp only[Bool.not_true,Bool.false_eq_true,if_false,Bool.true_and];exact ih
    · have e:s.drop i.toNat=[]:=List.drop_eq_nil_of_le (by omega)
      simp[h,e]
theorem ya (s:List UInt8) (h:s≠[]):decide ((((s[0]'(AH h)).toNat:Nat):Int)=48)=decide (s.head?=some 48):=by
  cases s with
  | nil=>exact absurd rfl h
  | cons c s=>
    simp only[List.getElem_cons_zero,List.head?_cons,Option.some.injEq]
    congr 1
    apply propext
    constructor
    · intro h1;have:c.toNat=48:=by omega
      exact UInt8.toNat_inj.1 (by simpa using this)
    · intro h1;subst h1;rfl
theorem pS (s:List UInt8) (hl:s.length≤4294967296):j1 s=some (mE s):=by
  unfold j1
  rw[FJ s (hT s) (jv s) (fun _ _=>rfl) hl fu 0 (by omega) (by omega) (by unfold fu;omega)]
  unfold mE jv
  simp only[Int.toNat_zero,List.drop_zero]
  cases hd:s.all oJ
  · rfl
  · simp only[cond_true,Bool.true_and]
    by_cases h0:s=[]
    · subst h0;rfl
    · have hlen:0<s.length:=AH h0
      rw[ia (by omega) (by omega)]
      by_cases h1:s=[48]
      · subst h1;rfl
      · simp only[h0,h1,decide_false,Bool.not_false,Bool.and_self,gd,if_true,Option.bind_some,Bool.false_or,Bool.true_and,Int.toNat_zero]
        rw[ya s h0]
def aS (s:List UInt8):Bool×List UInt8:=match s with
  | 45::t=>(true,t)
  | _=>(false,s)
def kX (s:List UInt8):Bool:=mE (aS s).2&& !((aS s).1&&decide ((aS s).2=[48]))
theorem sF {s:List UInt8} (h:s.all oJ=true):aS s=(false,s):=by
  unfold aS
  split
  · simp[oJ]at h
  · rfl
theorem tT (s:List UInt8) (hl:s.length≤4294967296):kQ s=some (kX s):=by
  have key:∀ (from_:Int),0≤from_→from_≤(s.length:Int)→eT s from_=cond ((s.drop from_.toNat).all oJ) (gE from_ s) (some false):=fun from_ h0 h1=>by
    unfold eT
    exact FJ s (iK s from_) (gE from_ s) (fun _ _=>rfl) hl fu from_ h0 h1 (by unfold fu;omega)
  unfold kQ kX
  by_cases hs:∃ t,s=45::t∧t≠[]
  · obtain⟨t,rfl,ht⟩:=hs
    have hlen:0<t.length:=AH ht
    have h1:(1:Int)<((45::t).length:Int):=by simp;omega
    rw[ia (by omega) (by omega)]
    simp only[h1,decide_true,gd,if_true,Option.bind_some,Int.toNat_zero,List.getElem_cons_zero,Bool.true_and,show decide ((((45:UInt8).toNat:Nat):Int)=45)=true from rfl]
    rw[key 1 (by omega) (by omega)]
    unfold gE
    have hsp:aS (45::t)=(true,t):=rfl
    rw[ia (by omega) h1]
    simp only[hsp,h1,decide_true,gd,if_true,Option.bind_some,Bool.true_and,show(1:Int).toNat=1 from rfl,List.drop_one,List.tail_cons,List.getElem_cons_succ,show decide (((45::t).length:Int)=1)=false by simp;omega,Bool.or_false]
    rw[ya t ht]
    unfold mE
    cases hd:t.all oJ
    · simp
    · cases t with
      | nil=>exact absurd rfl ht
      | cons c t=>
        by_cases hc:c=48
        · subst hc;simp
        · simp[hc]
  · have h0:(gd (decide (1<(s.length:Int))) (sat s 0)).bind (fun b4=>if(decide (1<(s.length:Int))&&decide (b4=45))=true then eT s 1 else eT s 0)=eT s 0:=by
      by_cases h1:(1:Int)<(s.length:Int)
      · rw[ia (by omega) (by omega)]
        simp only[h1,decide_true,gd,if_true,Option.bind_some,Bool.true_and,Int.toNat_zero]
        rw[if_neg]
        intro h2
        refine hs ⟨s.tail,?_,?_⟩
        · cases s with
          | nil=>simp at h1
          | cons c t=>
            simp only[List.getElem_cons_zero,decide_eq_true_eq]at h2
            have:c=45:=UInt8.toNat_inj.1 (by have:c.toNat=45:=by omega
                                             simpa using this)
            subst this;rfl
        · intro h3
          have:=congrArg List.length h3
          simp at this;omega
      · simp[h1,gd]
    rw[h0,key 0 (by omega) (by omega)]
    simp only[Int.toNat_zero,List.drop_zero]
    have hsp:s.all oJ=true∨s.all oJ=false:=by cases s.all oJ<;>simp
    rcases hsp with hd | hd
    · rw[sF hd]
      unfold gE mE
      simp only[hd,cond_true,Bool.true_and,Bool.false_and,Bool.not_false,Bool.and_true]
      by_cases h0:s=[]
      · subst h0;rfl
      · have hlen:0<s.length:=AH h0
        have hlt:(0:Int)<(s.length:Int):=by omega
        rw[ia (by omega) hlt]
        simp only[hlt,decide_true,gd,if_true,Option.bind_some,Bool.true_and,Int.toNat_zero,h0,decide_false,Bool.not_false]
        rw[ya s h0]
        cases s with
        | nil=>exact absurd rfl h0
        | cons c t=>
          by_cases hc:c=48
          · subst hc
            cases t with
            | nil=>rfl
            | cons d t=>simp;omega
          · simp[hc]
    · rw[hd]
      simp only[cond_false]
      have:mE (aS s).2=false:=by
        unfold aS
        split
        · rename_i t
          cases t with
          | nil=>rfl
          | cons c t=>exact absurd ⟨c::t,rfl,by simp⟩ hs
        · unfold mE;rw[hd];rfl
      rw[this];rfl
end Go.Proofs.YtmhoikfoogemnaaGreatDoor.Z01
