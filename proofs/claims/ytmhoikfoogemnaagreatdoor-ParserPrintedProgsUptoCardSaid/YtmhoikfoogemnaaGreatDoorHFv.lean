import Derived.Test.YtmhoikfoogemnaaGreatDoorHYq
import Derived.Test.YtmhoikfoogemnaaGreatDoorHYc
import Derived.Lib.ItoaNum
import Derived.Test.YtmhoikfoogemnaaGreatDoorHPj
namespace Go.Proofs.YtmhoikfoogemnaaGreatDoor
open Go Go.RowKit Go.Vc
set_option linter.unusedVariables false
set_option linter.unusedSimpArgs false
theorem MX (a b c:List (List UInt8)):List.filter iG (a++(b++c))=dg a++(dg b++dg c):=by rw[List.filter_append,List.filter_append]
theorem wp {α:Type} {L:Nat→Int→Option Bool} {a b:List α} (hn:a.length<4611686018427387904) (hl:a.length=b.length)
  (rd:∀ f (i:Nat) x y,a[i]? =some x→b[i]? =some y→∃ r:Bool,(r=true↔x=y)∧L (f+1) (i:Int)=if r=true then L f ((i+1:Nat):Int)else some false)
  (fin:∀ f,L (f+1) (a.length:Int)=some true):∃ r,L fu 0=some r∧(r=true↔a=b):=by
 refine qU (L:=λf (_:Unit) i=>L f i) (n:=a.length) hn (λi _=>a.take i=b.take i) (λr=>r=true↔a=b) ?_ ?_ () (by simp)
 ·intro f i _ hi hI
  obtain⟨x,hx⟩:=bY hi
  obtain⟨y,hy⟩:=bY (l:=b) (i:=i) (by omega)
  obtain⟨r,h1,h2⟩:=rd f i x y hx hy
  rw[h2]
  by_cases hr:r=true
  ·left
   refine⟨(),?_,by rw[if_pos hr]⟩
   rw[bE hx,bE hy,hI,h1.1 hr]
  ·right
   refine⟨false,by rw[if_neg hr],λh=>(by cases h),λh=>?_⟩
   subst h
   rw[hx]at hy
   injection hy with hy
   exact absurd (h1.2 hy) hr
 ·intro f _ hI
  refine⟨true,fin f,λ_=>?_,λ_=>rfl⟩
  rw[List.take_length,hl,List.take_length]at hI
  exact hI
theorem qX {a b:aC} (h:a.L.length<4611686018427387904):∃ r,jf a b=some r∧(r=true↔a=b):=by
 unfold jf
 by_cases hk:a.K=b.K
 ·by_cases hl:a.L.length=b.L.length
  ·rw[if_neg (by simp[hk,hl])]
   obtain⟨r,h1,h2⟩:=wp (L:=λf i=>iX a b f i) h hl (λf i x y hx hy=>by
    have hi:=eM hx
    refine⟨decide (x.Name=y.Name)&&decide (x.By=y.By),?_,?_⟩
    ·simp only[Bool.and_eq_true,decide_eq_true_eq]
     constructor
     ·rintro⟨q1,q2⟩;cases x;cases y;simp only at q1 q2;rw[q1,q2]
     ·rintro rfl;exact⟨rfl,rfl⟩
    ·simp only[iX]
     rw[if_pos (bs hi),bn hx,Option.bind_some,bn hy,Option.bind_some,mH (by omega)]
     cases (decide (x.Name=y.Name)&&decide (x.By=y.By))<;>rfl) (λf=>by
    simp only[iX]
    rw[if_neg (by simp)])
   refine⟨r,h1,h2.trans ?_⟩
   cases a;cases b
   simp only at hk
   simp[hk]
  ·rw[if_pos (by simp;omega)]
   exact⟨false,rfl,λh=>(by cases h),λh=>absurd (by rw[h]) hl⟩
 ·rw[if_pos (by simp[hk])]
  exact⟨false,rfl,λh=>(by cases h),λh=>absurd (by rw[h]) hk⟩
theorem Dq {a b:List aC} (h:a.length<4611686018427387904) (hh:∀ f∈a,f.L.length<4611686018427387904):∃ r,kG a b=some r∧(r=true↔a=b):=by
 unfold kG
 by_cases hl:a.length=b.length
 ·rw[if_neg (by simp[hl])]
  exact wp (L:=λf i=>fR a b f i) h hl (λf i x y hx hy=>by
   have hi:=eM hx
   obtain⟨r,h1,h2⟩:=qX (a:=x) (b:=y) (hh x (List.mem_of_getElem? hx))
   refine⟨r,h2,?_⟩
   simp only[fR]
   rw[if_pos (bs hi),bn hx,Option.bind_some,bn hy,Option.bind_some,h1,Option.bind_some,mH (by omega)]
   cases r<;>rfl) (λf=>by
   simp only[fR]
   rw[if_neg (by simp)])
 ·rw[if_pos (by simp;omega)]
  exact⟨false,rfl,λh=>(by cases h),λh=>absurd (by rw[h]) hl⟩
theorem AN {a b:aM} (h:nP a):∃ r,ol a b=some r∧(r=true↔a=b):=by
 obtain⟨o1,_,o2⟩:=h
 obtain⟨r1,p1,p2⟩:=qX (a:=a.Lin) (b:=b.Lin) (by have:=o1.2.2;omega)
 obtain⟨r2,q1,q2⟩:=Dq (a:=a.At) (b:=b.At) (by have:=o2.2;omega) (λf hf=>by have:=(o2.1 f hf).2.2;omega)
 unfold ol
 rw[p1,q1,ax,Option.bind_some,ax,Option.bind_some]
 refine⟨_,rfl,?_⟩
 by_cases hf:a.From=b.From
 ·simp only[hf,decide_true,if_true,Bool.true_and]
  cases r1
  ·simp only[Bool.false_and,Bool.false_eq_true,false_iff]
   intro h;subst h;simp at p2
  ·have:=p2.1 rfl
   simp only[if_true,Bool.true_and,q2]
   cases a;cases b
   simp only at hf this
   simp[hf,this]
 ·simp only[hf,decide_false,Bool.false_and,Bool.false_eq_true,false_iff]
  intro h;subst h;exact hf rfl
theorem yb {a b:List aM} (h:a.length<4611686018427387904) (hh:∀ f∈a,nP f):∃ r,mf a b=some r∧(r=true↔a=b):=by
 unfold mf
 by_cases hl:a.length=b.length
 ·rw[if_neg (by simp[hl])]
  exact wp (L:=λf i=>fF a b f i) h hl (λf i x y hx hy=>by
   have hi:=eM hx
   obtain⟨r,h1,h2⟩:=AN (a:=x) (b:=y) (hh x (List.mem_of_getElem? hx))
   refine⟨r,h2,?_⟩
   simp only[fF]
   rw[if_pos (bs hi),bn hx,Option.bind_some,bn hy,Option.bind_some,h1,Option.bind_some,mH (by omega)]
   cases r<;>rfl) (λf=>by
   simp only[fF]
   rw[if_neg (by simp)])
 ·rw[if_pos (by simp;omega)]
  exact⟨false,rfl,λh=>(by cases h),λh=>absurd (by rw[h]) hl⟩
theorem wF:∀ (f:Nat) (a b:ae),okGExpr a→wE a<f→∃ r,jX f a b=some r∧(r=true↔a=b)
 | 0,_,_,_,h=>absurd h (by omega)
 | f+1,a,b,ho,hf=>by
  obtain⟨o1,o2,o3⟩:=ho.out
  obtain⟨l1,l2,l3,l4⟩:=ho.len
  obtain⟨r1,p1,p2⟩:=qX (a:=a.Lin) (b:=b.Lin) l3
  obtain⟨r2,q1,q2⟩:=yb (a:=a.Idx) (b:=b.Idx) l1 o2.1
  have hargs:∃ r,om (jX f) a.Args b.Args=some r∧(r=true↔a.Args=b.Args):=by
   unfold om
   by_cases hl:a.Args.length=b.Args.length
   ·rw[if_neg (by simp[hl])]
    exact wp (L:=λg i=>gO a.Args b.Args (jX f) g i) l2 hl (λg i x y hx hy=>by
     have hi:=eM hx
     have hm:=List.mem_of_getElem? hx
     obtain⟨r,h1,h2⟩:=wF f x y (o3.1 x hm) (by have:=jN hm;omega)
     refine⟨r,h2,?_⟩
     simp only[gO]
     rw[if_pos (bs hi),bn hx,Option.bind_some,bn hy,Option.bind_some,h1,Option.bind_some,mH (by omega)]
     cases r<;>rfl) (λg=>by
     simp only[gO]
     rw[if_neg (by simp)])
   ·rw[if_pos (by simp;omega)]
    exact⟨false,rfl,λh=>(by cases h),λh=>absurd (by rw[h]) hl⟩
  obtain⟨r3,s1,s2⟩:=hargs
  show ∃ r,m6 (jX f) a b=some r∧ _
  unfold m6
  rw[p1,q1,s1,ax,Option.bind_some,ax,Option.bind_some,ax,Option.bind_some]
  generalize hc:(((decide (a.Op=b.Op)&&decide (a.Name=b.Name))&&(decide (a.Val.N=b.Val.N)&&decide (a.Val.D=b.Val.D)))&&((decide (a.Type_.Kind=b.Type_.Kind))&&(decide (a.Type_.Bits=b.Type_.Bits))&&(decide (a.Type_.Frac=b.Type_.Frac))&&(decide (a.Type_.Round=b.Type_.Round))&&(decide (a.Type_.Over=b.Type_.Over))))=c
  refine⟨_,rfl,?_⟩
  have hcc:c=true↔(a.Op=b.Op∧a.Name=b.Name∧a.Val=b.Val∧a.Type_=b.Type_):=by
   rw[← hc]
   simp only[Bool.and_eq_true,decide_eq_true_eq]
   constructor
   ·rintro⟨⟨⟨x1,x2⟩,x3,x4⟩,⟨⟨⟨y1,y2⟩,y3⟩,y4⟩,y5⟩
    refine⟨x1,x2,?_,?_⟩
    ·cases hv:a.Val;cases hw:b.Val;rw[hv,hw]at x3 x4;simp only at x3 x4;rw[x3,x4]
    ·cases hv:a.Type_;cases hw:b.Type_;rw[hv,hw]at y1 y2 y3 y4 y5;simp only at y1 y2 y3 y4 y5;rw[y1,y2,y3,y4,y5]
   ·rintro⟨x1,x2,x3,x4⟩
    rw[x1,x2,x3,x4];simp
  cases c
  ·simp only[Bool.false_and,Bool.false_eq_true,false_iff]
   intro h;subst h;simp at hcc
  ·obtain⟨x1,x2,x3,x4⟩:=hcc.1 rfl
   simp only[if_true,Bool.true_and]
   cases r1
   ·simp only[Bool.false_and,Bool.false_eq_true,false_iff]
    intro h;subst h;simp at p2
   ·have y1:=p2.1 rfl
    simp only[if_true,Bool.true_and]
    cases r2
    ·simp only[Bool.false_and,Bool.false_eq_true,false_iff]
     intro h;subst h;simp at q2
    ·have y2:=q2.1 rfl
     simp only[if_true,Bool.true_and,s2]
     exact⟨λh=>tM x1 x2 x3 x4 y1 y2 h,λh=>by rw[h]⟩
end Go.Proofs.YtmhoikfoogemnaaGreatDoor
namespace Go.Proofs.YtmhoikfoogemnaaGreatDoor
open Go Go.RowKit Go.Vc
set_option linter.unusedVariables false
set_option linter.unusedSimpArgs false
theorem rn (a:aC) (h:a.L.length<4611686018427387904):jf a a=some true:=by
 obtain⟨r,h1,h2⟩:=qX (a:=a) (b:=a) h
 rw[h1,h2.2 rfl]
end Go.Proofs.YtmhoikfoogemnaaGreatDoor
namespace Go.Proofs.YtmhoikfoogemnaaGreatDoor
open Go Go.RowKit Go.Vc
set_option linter.unusedVariables false
set_option linter.unusedSimpArgs false
variable {L:Cx}
def m7 {α:Type} (p:α→Bool):List α→Option Nat
 | []=>none
 | x::l=>if p x=true then some 0 else(m7 p l).map (· +1)
theorem J3 {α R:Type} {L:Nat→Int→Option R} {l:List α} {p:α→Bool} {k:Nat→Option R} {z:Option R} (hn:l.length<4611686018427387904)
  (rd:∀ (f i:Nat) x,l[i]? =some x→L (f+1) (i:Int)=if p x=true then k i else L f ((i+1:Nat):Int)) (ed:∀ f,L (f+1) (l.length:Int)=z):L fu 0=match m7 p l with | some i=>k i | none=>z:=by
 refine ib (L:=λf (_:Unit) i=>L f i) (n:=l.length) hn (λi _=>m7 p l=(m7 p (l.drop i)).map (· +i)) ?_ ?_ () ?_
 ·intro f i _ hi hI
  obtain⟨x,hx⟩:=bY hi
  rw[uv hx,m7]at hI
  by_cases c:p x=true
  ·right
   rw[if_pos c]at hI
   show L (f+1) (i:Int)=_
   rw[rd f i x hx,if_pos c,hI];simp
  ·left
   rw[if_neg c,Option.map_map]at hI
   refine⟨(),?_,by show L (f+1) (i:Int)=_;rw[rd f i x hx,if_neg c]⟩
   rw[hI];congr 1;funext y;simp only[Function.comp];omega
 ·intro f _ hI
  rw[List.drop_length]at hI
  show L (f+1) (l.length:Int)=_
  rw[ed f,hI];rfl
 ·simp
theorem Jt {r:PR} (h:Rok L r) (l:List (List UInt8)) (hl:l.length<1000):bh r l=match m7 (za r 1) l with | some i=>some ((i:Int),mI r) | none=>some (-1,r):=by
 refine J3 (L:=λf i=>cj l r f i) (k:=λi=>some ((i:Int),mI r)) (z:=some (-1,r)) (by omega) (λf i x hx=>?_) (λf=>?_)
 ·have hi:=(List.getElem?_eq_some_iff.1 hx).1
  simp only[cj]
  rw[if_pos (bs hi),bn hx,Option.bind_some,qd h,Option.bind_some,h.wi1,mH (by omega)];rfl
 ·simp only[cj]
  rw[if_neg (by simp)]
theorem ze {α:Type} {p q:α→Bool} {l:List α} (h:∀ x∈l,p x=q x):m7 p l=m7 q l:=by
 induction l with
 | nil=>rfl
 | cons x l ih=>simp only[m7];rw[h x (by simp),ih (λy hy=>h y (by simp[hy]))]
end Go.Proofs.YtmhoikfoogemnaaGreatDoor
namespace Go.Proofs.YtmhoikfoogemnaaGreatDoor.Z01
open Go Go.RowKit Go.Vc
set_option linter.unusedVariables false
set_option linter.unusedSimpArgs false
def rC (c:UInt8):Bool:=decide (48≤c.toNat)&&decide (c.toNat≤57)
def iY (n:Nat) (s:List UInt8):Nat:=s.foldl (λn c=>10 * n+(c.toNat - 48)) n
def cZ (s:List UInt8):Nat:=iY 0 s
def rE (s:List UInt8):Bool:=s.all rC&&(decide (s=[48])||(!decide (s=[])&& !decide (s.head?=some 48)))
theorem iF (n:Nat) (c:UInt8) (s:List UInt8):iY n (c::s)=iY (10 * n+(c.toNat - 48)) s:=by unfold iY;rw[List.foldl_cons]
theorem OK {s:List UInt8} (h:s≠[]):0<s.length:=List.length_pos_iff.2 h
theorem Kb (s:List UInt8) (n:Nat):n≤iY n s:=by
 induction s generalizing n with
 | nil=>exact Nat.le_refl _
 | cons c s ih=>rw[iF];have:=ih (10 * n+(c.toNat - 48));omega
theorem rA (s:List UInt8) (n:Nat):n * 10 ^ s.length≤iY n s:=by
 induction s generalizing n with
 | nil=>simp[iY]
 | cons c s ih=>
  rw[iF]
  have h:=ih (10 * n+(c.toNat - 48))
  have:n * 10 ^ (c::s).length=(10 * n) * 10 ^ s.length:=by
   rw[List.length_cons,Nat.pow_succ,Nat.mul_comm (10 ^ s.length) 10, ← Nat.mul_assoc,Nat.mul_comm n 10]
  rw[this]
  exact Nat.le_trans (Nat.mul_le_mul_right _ (by omega)) h
theorem Ka (s:List UInt8) (n:Nat) (hd:s.all rC=true):iY n s<(n+1) * 10 ^ s.length:=by
 induction s generalizing n with
 | nil=>simp[iY]
 | cons c s ih=>
  simp only[List.all_cons,Bool.and_eq_true]at hd
  have hc:c.toNat≤57:=by have:=hd.1;simp[rC]at this;omega
  rw[iF]
  have h:=ih (10 * n+(c.toNat - 48)) hd.2
  have:(n+1) * 10 ^ (c::s).length=(10 * n+10) * 10 ^ s.length:=by
   rw[List.length_cons,Nat.pow_succ,Nat.mul_comm (10 ^ s.length) 10, ← Nat.mul_assoc];congr 1;omega
  rw[this]
  exact Nat.lt_of_lt_of_le h (Nat.mul_le_mul_right _ (by omega))
theorem iC {s:List UInt8} {i:Int} (h0:0≤i) (h1:i<(s.length:Int)):sat s i=some ((s[i.toNat]'(by omega)).toNat:Int):=by
 unfold sat
 rw[if_pos ⟨h0,h1⟩]
 have hi:i.toNat<s.length:=by omega
 simp[Ge,List.getD_eq_getElem?_getD,hi]
theorem uv {s:List UInt8} {i:Int} (h0:0≤i) (h1:i<(s.length:Int)):s.drop i.toNat=(s[i.toNat]'(by omega))::s.drop (i+1).toNat:=by
 have hi:i.toNat<s.length:=by omega
 rw[List.drop_eq_getElem_cons hi]
 congr 2;omega
theorem QA (c:UInt8):(decide (((c.toNat:Nat):Int)<48)||decide (57<((c.toNat:Nat):Int)))= !rC c:=by
 unfold rC
 by_cases h1:c.toNat<48
 ·have:¬ 48≤c.toNat:=by omega
  simp[h1,this];omega
 ·by_cases h2:57<c.toNat
  ·have:¬ c.toNat≤57:=by omega
   simp[this];omega
  ·have h3:48≤c.toNat:=by omega
   have h4:c.toNat≤57:=by omega
   simp[h3,h4];omega
theorem P3 (s:List UInt8) (m:Nat→Int→Option Bool) (fin:Option Bool)
  (hm:∀ f i,m (f+1) i=if decide (i<(s.length:Int))=true then(sat s i).bind λb2=>(gd (!(decide (b2<48))) (sat s i)).bind λb3=>if((decide (b2<48))||(decide (57<b3)))=true then some false else m f (av (i+1))else fin)
  (hl:s.length≤4294967296):∀ (f:Nat) (i:Int),0≤i→i≤(s.length:Int)→(s.length - i.toNat)<f→m f i=cond ((s.drop i.toNat).all rC) fin (some false)
 | 0,_,_,_,h=>absurd h (by omega)
 | f+1,i,h0,h1,hf=>by
  rw[hm]
  by_cases h:i<(s.length:Int)
  ·rw[iC h0 h,uv h0 h,wi ⟨by omega,by omega⟩,List.all_cons]
   generalize (s[i.toNat]'(by omega))=c
   have ih:=P3 s m fin hm hl f (i+1) (by omega) (by omega) (by omega)
   have hd:=QA c
   revert hd
   generalize rC c=dc
   intro hd
   by_cases hb:decide (((c.toNat:Nat):Int)<48)=true
   ·simp only[hb,Bool.true_or]at hd
    cases dc
    ·simp only[h,hb,decide_true,gd,Bool.not_true,Bool.false_eq_true,if_false,if_true,Option.bind_some,Bool.true_or,Bool.false_and,cond_false]
    ·cases hd
   ·have hb':decide (((c.toNat:Nat):Int)<48)=false:=by simpa using hb
    simp only[hb',Bool.false_or]at hd
    simp only[h,hb',decide_true,gd,Bool.not_false,if_true,Option.bind_some,Bool.false_or,hd]
    cases dc
    ·rfl
    ·simp only[Bool.not_true,Bool.false_eq_true,if_false,Bool.true_and];exact ih
  ·have e:s.drop i.toNat=[]:=List.drop_eq_nil_of_le (by omega)
   simp[h,e]
theorem yo (s:List UInt8) (h:s≠[]):decide ((((s[0]'(OK h)).toNat:Nat):Int)=48)=decide (s.head?=some 48):=by
 cases s with
 | nil=>exact absurd rfl h
 | cons c s=>
  simp only[List.getElem_cons_zero,List.head?_cons,Option.some.injEq]
  congr 1
  apply propext
  constructor
  ·intro h1;have:c.toNat=48:=by omega
   exact UInt8.toNat_inj.1 (by simpa using this)
  ·intro h1;subst h1;rfl
theorem su (s:List UInt8) (hl:s.length≤4294967296):kr s=some (rE s):=by
 unfold kr
 rw[P3 s (iz s) (jG s) (λ_ _=>rfl) hl fu 0 (by omega) (by omega) (by unfold fu;omega)]
 unfold rE jG
 simp only[Int.toNat_zero,List.drop_zero]
 cases hd:s.all rC
 ·rfl
 ·simp only[cond_true,Bool.true_and]
  by_cases h0:s=[]
  ·subst h0;rfl
  ·have hlen:0<s.length:=OK h0
   rw[iC (by omega) (by omega)]
   by_cases h1:s=[48]
   ·subst h1;rfl
   ·simp only[h0,h1,decide_false,Bool.not_false,Bool.and_self,gd,if_true,Option.bind_some,Bool.false_or,Bool.true_and,Int.toNat_zero]
    rw[yo s h0]
def cc (s:List UInt8):Bool×List UInt8:=match s with
 | 45::t=>(true,t)
 | _=>(false,s)
def va (s:List UInt8):Bool:=rE (cc s).2&& !((cc s).1&&decide ((cc s).2=[48]))
theorem CH {s:List UInt8} (h:s.all rC=true):cc s=(false,s):=by
 unfold cc
 split
 ·simp[rC]at h
 ·rfl
end Go.Proofs.YtmhoikfoogemnaaGreatDoor.Z01
namespace Go.Proofs.YtmhoikfoogemnaaGreatDoor.Z01
open Go Go.RowKit Go.Vc
set_option linter.unusedVariables false
set_option linter.unusedSimpArgs false
theorem Jr (M:Nat) (hM:M=18446744073709551615):∀ (s:List UInt8) (acc:Nat),s.all rC=true→(acc+1) * 10 ^ s.length≤18446744073709551616→Lib.parseUintM M acc s= .ok (iY acc s)
 | [],acc,_,_=>rfl
 | c::s,acc,hd,hb=>by
  simp only[List.all_cons,Bool.and_eq_true]at hd
  have hc:=hd.1
  simp only[rC,Bool.and_eq_true,decide_eq_true_eq]at hc
  have hp:(acc+1) * 10 ^ (c::s).length=(acc+1) * 10 * 10 ^ s.length:=by rw[List.length_cons,Nat.pow_succ,Nat.mul_comm (10 ^ s.length) 10, ← Nat.mul_assoc]
  rw[hp]at hb
  have h1:1≤10 ^ s.length:=Nat.one_le_pow _ _ (by omega)
  have h2:(acc+1) * 10≤(acc+1) * 10 * 10 ^ s.length:=Nat.le_mul_of_pos_right _ h1
  unfold Lib.parseUintM
  rw[if_pos hc,if_neg (by omega),if_neg (by omega),iF,show acc * 10+(c.toNat - 48)=10 * acc+(c.toNat - 48)by omega]
  refine Jr M hM s _ hd.2 (Nat.le_trans (Nat.mul_le_mul_right _ ?_) hb)
  omega
theorem O2 (c:UInt8) (h:rC c=true):¬ (c.toNat=43∨c.toNat=45):=by
 simp only[rC,Bool.and_eq_true,decide_eq_true_eq]at h;omega
theorem NH (s:List UInt8) (h0:s≠[]) (hd:s.all rC=true) (hl:s.length≤10):Lib.parseIntB 64 s= .ok (cZ s:Int):=by
 have hv:=Ka s 0 hd
 have hp:10 ^ s.length≤10 ^ 10:=Nat.pow_le_pow_right (by omega) hl
 have hu:Lib.parseUintB 64 s= .ok (cZ s):=by
  unfold Lib.parseUintB
  rw[if_neg h0]
  exact Jr _ rfl s 0 hd (by omega)
 unfold Lib.parseIntB
 cases s with
 | nil=>exact absurd rfl h0
 | cons c r=>
  simp only[List.all_cons,Bool.and_eq_true]at hd
  have hc:=O2 c hd.1
  simp only[hc,if_false]
  rw[hu]
  have h45:¬ c.toNat=45:=λh=>hc (.inr h)
  have hlt:cZ (c::r)<2 ^ 63:=by unfold cZ;omega
  simp only[h45,not_false_eq_true,true_and,false_and,if_false]
  rw[if_neg (by omega)]
theorem rD {s:List UInt8} (h:rE s=true):s.all rC=true∧s≠[]∧(s=[48]∨s.head?≠some 48):=by
 unfold rE at h
 simp only[Bool.and_eq_true,Bool.or_eq_true,decide_eq_true_eq,Bool.not_eq_true',decide_eq_false_iff_not]at h
 refine⟨h.1,?_,?_⟩
 ·rcases h.2 with h | h
  ·rw[h];simp
  ·exact h.1
 ·exact h.2.imp id (·.2)
theorem Ki {s:List UInt8} (h:rE s=true) (hl:10<s.length):2147483647<cZ s:=by
 obtain⟨h1,h2,h3⟩:=rD h
 cases s with
 | nil=>simp at hl
 | cons c r=>
  rcases h3 with h3 | h3
  ·rw[h3]at hl;simp at hl
  ·simp only[List.all_cons,Bool.and_eq_true]at h1
   have hc:=h1.1
   simp only[rC,Bool.and_eq_true,decide_eq_true_eq]at hc
   have hne:c.toNat≠48:=λe=>h3 (by rw[List.head?_cons];congr 1;exact UInt8.toNat_inj.1 (by simpa using e))
   unfold cZ
   rw[iF]
   have hb:=rA r (10 * 0+(c.toNat - 48))
   have hp:10 ^ 10≤10 ^ r.length:=Nat.pow_le_pow_right (by omega) (by simp at hl;omega)
   have:1 * 10 ^ r.length≤(10 * 0+(c.toNat - 48)) * 10 ^ r.length:=Nat.mul_le_mul_right _ (by omega)
   omega
theorem wn {s:List UInt8} (h:rE s=true):∃ n,ku s=some (n,decide (cZ s≤2147483647))∧(cZ s≤2147483647→n=cZ s):=by
 obtain⟨h1,h2,h3⟩:=rD h
 unfold ku
 by_cases hl:10<s.length
 ·have:=Ki h hl
  rw[if_pos (by simp<;>omega)]
  exact⟨0,by rw[show decide (cZ s≤2147483647)=false by simp<;>omega],λh=>by omega⟩
 ·rw[if_neg (by simp<;>omega)]
  unfold kO
  rw[if_pos ⟨rfl,rfl,by omega⟩,NH s h2 h1 (by omega)]
  refine⟨cZ s,?_,λ_=>rfl⟩
  simp only[Option.bind_some]
  congr 3
  apply propext
  omega
def o8 (neg:Bool) (d b:List UInt8):co×Int:=
 if cZ d≤2147483647∧cZ b≤2147483647 then
  if mA ⟨if neg then -(cZ d:Int)else cZ d,cZ b⟩then(⟨if neg then -(cZ d:Int)else cZ d,cZ b⟩,0)else(⟨0,0⟩,5)
 else(⟨0,0⟩,3)
def qP (top:List UInt8) (bot:Option (List UInt8)):co×Int:=
 if va top then
  match bot with
  | none=>o8 (cc top).1 (cc top).2 [49]
  | some b=>if rE b&& !decide (b=[48])&& !decide (b=[49])then o8 (cc top).1 (cc top).2 b else(⟨0,0⟩,5)
 else(⟨0,0⟩,5)
def jl:List UInt8→Option Nat
 | []=>none
 | c::r=>if c=47 then some 0 else(jl r).map (· +1)
def parseS (s:List UInt8):co×Int:=match jl s with
 | none=>qP s none
 | some i=>qP (s.take i) (some (s.drop (i+1)))
theorem uj {s:List UInt8} {i:Nat} (h:jl s=some i):i<s.length:=by
 induction s generalizing i with
 | nil=>cases h
 | cons c r ih=>
  unfold jl at h
  split at h
  ·injection h with h;subst h;simp
  ·obtain⟨j,hj,rfl⟩:=Option.map_eq_some_iff.1 h
   have:=ih hj
   simp<;>omega
theorem Cu (s:List UInt8):Lib.indexByte s 47=match jl s with | none=> -1 | some i=>(i:Int):=by
 induction s with
 | nil=>rfl
 | cons c r ih=>
  unfold Lib.indexByte jl
  by_cases h:c=47
  ·simp[h]
  ·have:(c==47)=false:=by simpa using h
   simp only[this,Bool.false_eq_true,if_false,h,ih]
   cases jl r with
   | none=>rfl
   | some i=>simp<;>omega
theorem Lc {s:List UInt8} (hl:s.length≤4294967296):mN s [47]=some (match jl s with | none=>(s,[],false) | some i=>(s.take i,s.drop (i+1),true)):=by
 unfold mN gC fY
 simp only[Option.bind_some,Cu]
 cases h:jl s with
 | none=>simp
 | some i=>
  have hi:=uj h
  have e:av ((i:Int)+(([47]:List UInt8).length:Int))=(i:Int)+1:=wi ⟨by simp<;>omega,by simp<;>omega⟩
  rw[e]
  have h1:tF s (i:Int)=some (s.take i):=by unfold tF;rw[if_pos ⟨by omega,by omega⟩];simp
  have h2:iJ s ((i:Int)+1)=some (s.drop (i+1)):=by unfold iJ;rw[if_pos ⟨by omega,by omega⟩];rfl
  simp[h1,h2]
theorem uI {s:List UInt8} (hl:s.length≤4294967296):iH s [45]=some ((cc s).2,(cc s).1):=by
 unfold iH eK eJ
 cases s with
 | nil=>rfl
 | cons c r=>
  have h1:tF (c::r) (([45]:List UInt8).length:Int)=some [c]:=by unfold tF;rw[if_pos ⟨by simp,by simp<;>omega⟩];rfl
  have h2:iJ (c::r) (([45]:List UInt8).length:Int)=some r:=by unfold iJ;rw[if_pos ⟨by simp,by simp<;>omega⟩];rfl
  have h3:(([45]:List UInt8).length:Int)≤((c::r).length:Int):=by simp<;>omega
  simp only[h1,h2,h3,decide_true,gd,if_true,Option.bind_some,Bool.true_and]
  by_cases hc:c=45
  ·subst hc;rfl
  ·have:decide ([c]=([45]:List UInt8))=false:=by simpa using hc
   simp only[this,Bool.not_false,if_true,Option.bind_some]
   unfold cc
   split
   ·rename_i h;simp at h;exact absurd h.1 hc
   ·rfl
theorem tK {neg:Bool} {d b:List UInt8} (hd:rE d=true) (hb:rE b=true):ju (d,neg) b=some (o8 neg d b):=by
 obtain⟨n,h1,h2⟩:=wn hd
 obtain⟨k,h3,h4⟩:=wn hb
 unfold ju lg o8
 simp only[h1,h3,Option.bind_some]
 by_cases c1:cZ d≤2147483647
 ·by_cases c2:cZ b≤2147483647
  ·rw[h2 c1,h4 c2]
   simp only[c1,c2,decide_true,Bool.not_true,Bool.or_self,Bool.false_eq_true,if_false,and_self,if_true]
   rw[wi (p:= -((cZ d:Nat):Int)) ⟨by omega,by omega⟩]
   cases neg
   ·simp only[Bool.false_eq_true,if_false]
    rw[vn ⟨⟨by simp<;>omega,by simp<;>omega⟩,by simp<;>omega,by simp<;>omega⟩]
    cases mA ⟨(cZ d:Int),(cZ b:Int)⟩<;>simp
   ·simp only[if_true]
    rw[vn ⟨⟨by simp<;>omega,by simp<;>omega⟩,by simp<;>omega,by simp<;>omega⟩]
    cases mA ⟨-(cZ d:Int),(cZ b:Int)⟩<;>simp
  ·simp[c1,c2]
 ·simp[c1]
theorem FR {s:List UInt8} (hl:s.length≤4294967296):oc s=some (parseS s):=by
 unfold oc parseS
 rw[Lc hl]
 simp only[Option.bind_some]
 cases h:jl s with
 | none=>
  simp only[uI hl,Option.bind_some]
  have hl2:(cc s).2.length≤4294967296:=by unfold cc;split<;>simp_all;omega
  rw[su _ hl2]
  unfold qP va
  simp only[Option.bind_some]
  cases hd:rE (cc s).2
  ·simp
  ·cases hn:(cc s).1&&decide ((cc s).2=[48])
   ·simp[hn,tK hd (show rE [49]=true from rfl)]
   ·simp[hn]
 | some i=>
  have hi:=uj h
  have hl1:(s.take i).length≤4294967296:=by rw[List.length_take];omega
  have hl3:(s.drop (i+1)).length≤4294967296:=by rw[List.length_drop];omega
  simp only[uI hl1,Option.bind_some]
  have hl2:(cc (s.take i)).2.length≤4294967296:=by
   have:(cc (s.take i)).2.length≤(s.take i).length:=by unfold cc;split<;>simp_all
   omega
  rw[su _ hl2]
  unfold qP va
  simp only[Option.bind_some]
  obtain⟨b,hb0⟩:∃ b,s.drop (i+1)=b:=⟨_,rfl⟩
  simp only[hb0]at hl3 ⊢
  cases hd:rE (cc (s.take i)).2
  ·simp
  ·cases hn:(cc (s.take i)).1&&decide ((cc (s.take i)).2=[48])
   ·simp only[hn,Bool.not_true,Bool.or_self,Bool.false_eq_true,if_false,Bool.not_false,Bool.and_self,if_true,su _ hl3,Option.bind_some]
    cases hb:rE b
    ·simp
    ·cases h8:decide (b=[48])
     ·cases h9:decide (b=[49])
      ·simp[tK hd hb]
      ·simp
     ·simp
   ·simp[hn]
theorem wO {n:Int} (h:kX n):gx n=some (if n<0 then -n else n):=by
 obtain⟨h1,h2⟩:=h
 unfold gx
 by_cases hn:n<0
 ·simp only[hn,decide_true,if_true]
  rw[wi (p:=n+1) ⟨by omega,by omega⟩,wi (p:= -(n+1)) ⟨by omega,by omega⟩,wu (p:= -(n+1)) ⟨by omega,by omega⟩,wu ⟨by omega,by omega⟩]
  congr 1;omega
 ·simp only[hn,decide_false,Bool.false_eq_true,if_false]
  rw[wu ⟨by omega,by omega⟩]
theorem Ew {b:List UInt8} (hb:rE b=true) (h:b≠[48]):1≤cZ b:=by
 obtain⟨h1,h2,h3⟩:=rD hb
 cases b with
 | nil=>exact absurd rfl h2
 | cons c r=>
  have h3:=h3.resolve_left h
  simp only[List.all_cons,Bool.and_eq_true]at h1
  have hc:=h1.1
  simp only[rC,Bool.and_eq_true,decide_eq_true_eq]at hc
  have hne:c.toNat≠48:=λe=>h3 (by rw[List.head?_cons];congr 1;exact UInt8.toNat_inj.1 (by simpa using e))
  have:=Kb r (10 * 0+(c.toNat - 48))
  unfold cZ;rw[iF];omega
end Go.Proofs.YtmhoikfoogemnaaGreatDoor.Z01
