import Derived.Test.YtmhoikfoogemnaaGreatDoorMYq
import Derived.Test.YtmhoikfoogemnaaGreatDoorMYc
import Derived.Lib.ItoaNum
import Derived.Test.YtmhoikfoogemnaaGreatDoorMVd
namespace Go.Proofs.YtmhoikfoogemnaaGreatDoor
open Go Go.RowKit Go.Vc
set_option linter.unusedVariables false
set_option linter.unusedSimpArgs false
theorem HV (a b c:List (List UInt8)):List.filter jF (a++(b++c))=gI a++(gI b++gI c):=by rw[List.filter_append,List.filter_append]
theorem sQ {α:Type} {L:Nat→Int→Option Bool} {a b:List α} (hn:a.length<4611686018427387904) (hl:a.length=b.length)
  (rd:∀ f (i:Nat) x y,a[i]? =some x→b[i]? =some y→∃ r:Bool,(r=true↔x=y)∧L (f+1) (i:Int)=if r=true then L f ((i+1:Nat):Int)else some false)
  (fin:∀ f,L (f+1) (a.length:Int)=some true):∃ r,L fu 0=some r∧(r=true↔a=b):=by
 refine oC (L:=fun f (_:Unit) i=>L f i) (n:=a.length) hn (fun i _=>a.take i=b.take i) (fun r=>r=true↔a=b) ?_ ?_ () (by simp)
 ·intro f i _ hi hI
  obtain⟨x,hx⟩:=bZ hi
  obtain⟨y,hy⟩:=bZ (l:=b) (i:=i) (by omega)
  obtain⟨r,h1,h2⟩:=rd f i x y hx hy
  rw[h2]
  by_cases hr:r=true
  ·left
   refine⟨(),?_,by rw[if_pos hr]⟩
   rw[bT hx,bT hy,hI,h1.1 hr]
  ·right
   refine⟨false,by rw[if_neg hr],⟨fun h=>(by cases h),fun h=> ?_⟩⟩
   subst h
   rw[hx]at hy
   injection hy with hy
   exact absurd (h1.2 hy) hr
 ·intro f _ hI
  refine⟨true,fin f,⟨fun _=> ?_,fun _=>rfl⟩⟩
  rw[List.take_length,hl,List.take_length]at hI
  exact hI
theorem qO {a b:ay} (h:a.L.length<4611686018427387904):∃ r,kN a b=some r∧(r=true↔a=b):=by
 unfold kN
 by_cases hk:a.K=b.K
 ·by_cases hl:a.L.length=b.L.length
  ·rw[if_neg (by simp[hk,hl])]
   obtain⟨r,h1,h2⟩:=sQ (L:=fun f i=>ib a b f i) h hl (fun f i x y hx hy=>by
    have hi:=sw hx
    refine⟨decide (x.Name=y.Name)&&decide (x.By=y.By),?_,?_⟩
    ·simp only[Bool.and_eq_true,decide_eq_true_eq]
     constructor
     ·rintro⟨q1,q2⟩;cases x;cases y;simp only at q1 q2;rw[q1,q2]
     ·rintro rfl;exact⟨rfl,rfl⟩
    ·simp only[ib]
     rw[if_pos (bX hi),bS hx,Option.bind_some,bS hy,Option.bind_some,ni (by omega)]
     cases (decide (x.Name=y.Name)&&decide (x.By=y.By))<;>rfl) (fun f=>by
    simp only[ib]
    rw[if_neg (by simp)])
   refine⟨r,h1,h2.trans ?_⟩
   cases a;cases b
   simp only at hk
   simp[hk]
  ·rw[if_pos (by simp;omega)]
   exact⟨false,rfl,⟨fun h=>(by cases h),fun h=>absurd (by rw[h]) hl⟩⟩
 ·rw[if_pos (by simp[hk])]
  exact⟨false,rfl,⟨fun h=>(by cases h),fun h=>absurd (by rw[h]) hk⟩⟩
theorem zy {a b:List ay} (h:a.length<4611686018427387904) (hh:∀ f∈a,f.L.length<4611686018427387904):∃ r,m5 a b=some r∧(r=true↔a=b):=by
 unfold m5
 by_cases hl:a.length=b.length
 ·rw[if_neg (by simp[hl])]
  exact sQ (L:=fun f i=>gq a b f i) h hl (fun f i x y hx hy=>by
   have hi:=sw hx
   obtain⟨r,h1,h2⟩:=qO (a:=x) (b:=y) (hh x (List.mem_of_getElem? hx))
   refine⟨r,h2,?_⟩
   simp only[gq]
   rw[if_pos (bX hi),bS hx,Option.bind_some,bS hy,Option.bind_some,h1,Option.bind_some,ni (by omega)]
   cases r<;>rfl) (fun f=>by
   simp only[gq]
   rw[if_neg (by simp)])
 ·rw[if_pos (by simp;omega)]
  exact⟨false,rfl,⟨fun h=>(by cases h),fun h=>absurd (by rw[h]) hl⟩⟩
theorem xv {a b:av} (h:l5 a):∃ r,mp a b=some r∧(r=true↔a=b):=by
 obtain⟨o1,_,o2⟩:=h
 obtain⟨r1,p1,p2⟩:=qO (a:=a.Lin) (b:=b.Lin) (by have:=o1.2.2;omega)
 obtain⟨r2,q1,q2⟩:=zy (a:=a.At) (b:=b.At) (by have:=o2.2;omega) (fun f hf=>by have:=(o2.1 f hf).2.2;omega)
 unfold mp
 rw[p1,q1,aC,Option.bind_some,aC,Option.bind_some]
 refine⟨_,rfl,?_⟩
 by_cases hf:a.From=b.From
 ·simp only[hf,decide_true,if_true,Bool.true_and]
  cases r1
  ·simp only[Bool.false_and,Bool.false_eq_true,false_iff]
   intro h;subst h;simp at p2
  ·have:=p2.1 rfl
   simp only[if_true,Bool.true_and,q2]
   cases a;cases b
   simp only at hf this
   simp[hf,this]
 ·simp only[hf,decide_false,Bool.false_and,Bool.false_eq_true,false_iff]
  intro h;subst h;exact hf rfl
theorem uF {a b:List av} (h:a.length<4611686018427387904) (hh:∀ f∈a,l5 f):∃ r,kO a b=some r∧(r=true↔a=b):=by
 unfold kO
 by_cases hl:a.length=b.length
 ·rw[if_neg (by simp[hl])]
  exact sQ (L:=fun f i=>eH a b f i) h hl (fun f i x y hx hy=>by
   have hi:=sw hx
   obtain⟨r,h1,h2⟩:=xv (a:=x) (b:=y) (hh x (List.mem_of_getElem? hx))
   refine⟨r,h2,?_⟩
   simp only[eH]
   rw[if_pos (bX hi),bS hx,Option.bind_some,bS hy,Option.bind_some,h1,Option.bind_some,ni (by omega)]
   cases r<;>rfl) (fun f=>by
   simp only[eH]
   rw[if_neg (by simp)])
 ·rw[if_pos (by simp;omega)]
  exact⟨false,rfl,⟨fun h=>(by cases h),fun h=>absurd (by rw[h]) hl⟩⟩
theorem tg:∀ (f:Nat) (a b:ac),okGExpr a→wE a<f→∃ r,jf f a b=some r∧(r=true↔a=b)
 | 0,_,_,_,h=>absurd h (by omega)
 | f+1,a,b,ho,hf=>by
  obtain⟨o1,o2,o3⟩:=ho.out
  obtain⟨l1,l2,l3,l4⟩:=ho.len
  obtain⟨r1,p1,p2⟩:=qO (a:=a.Lin) (b:=b.Lin) l3
  obtain⟨r2,q1,q2⟩:=uF (a:=a.Idx) (b:=b.Idx) l1 o2.1
  have hargs:∃ r,mq (jf f) a.Args b.Args=some r∧(r=true↔a.Args=b.Args):=by
   unfold mq
   by_cases hl:a.Args.length=b.Args.length
   ·rw[if_neg (by simp[hl])]
    exact sQ (L:=fun g i=>fN a.Args b.Args (jf f) g i) l2 hl (fun g i x y hx hy=>by
     have hi:=sw hx
     have hm:=List.mem_of_getElem? hx
     obtain⟨r,h1,h2⟩:=tg f x y (o3.1 x hm) (by have:=jj hm;omega)
     refine⟨r,h2,?_⟩
     simp only[fN]
     rw[if_pos (bX hi),bS hx,Option.bind_some,bS hy,Option.bind_some,h1,Option.bind_some,ni (by omega)]
     cases r<;>rfl) (fun g=>by
     simp only[fN]
     rw[if_neg (by simp)])
   ·rw[if_pos (by simp;omega)]
    exact⟨false,rfl,⟨fun h=>(by cases h),fun h=>absurd (by rw[h]) hl⟩⟩
  obtain⟨r3,s1,s2⟩:=hargs
  show ∃ r,lC (jf f) a b=some r∧ _
  unfold lC
  rw[p1,q1,s1,aC,Option.bind_some,aC,Option.bind_some,aC,Option.bind_some]
  generalize hc:(((decide (a.Op=b.Op)&&decide (a.Name=b.Name))&&(decide (a.Val.N=b.Val.N)&&decide (a.Val.D=b.Val.D)))&&((decide (a.Type_.Kind=b.Type_.Kind))&&(decide (a.Type_.Bits=b.Type_.Bits))&&(decide (a.Type_.Frac=b.Type_.Frac))&&(decide (a.Type_.Round=b.Type_.Round))&&(decide (a.Type_.Over=b.Type_.Over))))=c
  refine⟨_,rfl,?_⟩
  have hcc:c=true↔(a.Op=b.Op∧a.Name=b.Name∧a.Val=b.Val∧a.Type_=b.Type_):=by
   rw[← hc]
   simp only[Bool.and_eq_true,decide_eq_true_eq]
   constructor
   ·rintro⟨⟨⟨x1,x2⟩,x3,x4⟩,⟨⟨⟨y1,y2⟩,y3⟩,y4⟩,y5⟩
    refine⟨x1,x2,?_,?_⟩
    ·cases hv:a.Val;cases hw:b.Val;rw[hv,hw]at x3 x4;simp only at x3 x4;rw[x3,x4]
    ·cases hv:a.Type_;cases hw:b.Type_;rw[hv,hw]at y1 y2 y3 y4 y5;simp only at y1 y2 y3 y4 y5;rw[y1,y2,y3,y4,y5]
   ·rintro⟨x1,x2,x3,x4⟩
    rw[x1,x2,x3,x4];simp
  cases c
  ·simp only[Bool.false_and,Bool.false_eq_true,false_iff]
   intro h;subst h;simp at hcc
  ·obtain⟨x1,x2,x3,x4⟩:=hcc.1 rfl
   simp only[if_true,Bool.true_and]
   cases r1
   ·simp only[Bool.false_and,Bool.false_eq_true,false_iff]
    intro h;subst h;simp at p2
   ·have y1:=p2.1 rfl
    simp only[if_true,Bool.true_and]
    cases r2
    ·simp only[Bool.false_and,Bool.false_eq_true,false_iff]
     intro h;subst h;simp at q2
    ·have y2:=q2.1 rfl
     simp only[if_true,Bool.true_and,s2]
     exact⟨fun h=>qt x1 x2 x3 x4 y1 y2 h,fun h=>by rw[h]⟩
end Go.Proofs.YtmhoikfoogemnaaGreatDoor
namespace Go.Proofs.YtmhoikfoogemnaaGreatDoor
open Go Go.RowKit Go.Vc
set_option linter.unusedVariables false
set_option linter.unusedSimpArgs false
end Go.Proofs.YtmhoikfoogemnaaGreatDoor
namespace Go.Proofs.YtmhoikfoogemnaaGreatDoor
open Go Go.RowKit Go.Vc
set_option linter.unusedVariables false
set_option linter.unusedSimpArgs false
variable {L:Cx}
def mu {α:Type} (p:α→Bool):List α→Option Nat
 | []=>none
 | x::l=>if p x=true then some 0 else(mu p l).map (· +1)
theorem FC {α R:Type} {L:Nat→Int→Option R} {l:List α} {p:α→Bool} {k:Nat→Option R} {z:Option R} (hn:l.length<4611686018427387904)
  (rd:∀ (f i:Nat) x,l[i]? =some x→L (f+1) (i:Int)=if p x=true then k i else L f ((i+1:Nat):Int)) (ed:∀ f,L (f+1) (l.length:Int)=z):L fu 0=match mu p l with | some i=>k i | none=>z:=by
 refine i7 (L:=fun f (_:Unit) i=>L f i) (n:=l.length) hn (fun i _=>mu p l=(mu p (l.drop i)).map (· +i)) ?_ ?_ () ?_
 ·intro f i _ hi hI
  obtain⟨x,hx⟩:=bZ hi
  rw[qY hx,mu]at hI
  by_cases c:p x=true
  ·right
   rw[if_pos c]at hI
   show L (f+1) (i:Int)=_
   rw[rd f i x hx,if_pos c,hI];simp
  ·left
   rw[if_neg c,Option.map_map]at hI
   refine⟨(),?_,by show L (f+1) (i:Int)=_;rw[rd f i x hx,if_neg c]⟩
   rw[hI];congr 1;funext y;simp only[Function.comp];omega
 ·intro f _ hI
  rw[List.drop_length]at hI
  show L (f+1) (l.length:Int)=_
  rw[ed f,hI];rfl
 ·simp
theorem E6 {r:PR} (h:Rok L r) (l:List (List UInt8)) (hl:l.length<1000):bD r l=match mu (wP r 1) l with | some i=>some ((i:Int),oh r) | none=>some (-1,r):=by
 refine FC (L:=fun f i=>bQ l r f i) (k:=fun i=>some ((i:Int),oh r)) (z:=some (-1,r)) (by omega) (fun f i x hx=> ?_) (fun f=> ?_)
 ·have hi:=(List.getElem?_eq_some_iff.1 hx).1
  simp only[bQ]
  rw[if_pos (bX hi),bS hx,Option.bind_some,qd h,Option.bind_some,h.wi1,ni (by omega)];rfl
 ·simp only[bQ]
  rw[if_neg (by simp)]
theorem vN {α:Type} {p q:α→Bool} {l:List α} (h:∀ x∈l,p x=q x):mu p l=mu q l:=by
 induction l with
 | nil=>rfl
 | cons x l ih=>simp only[mu];rw[h x (by simp),ih (fun y hy=>h y (by simp[hy]))]
end Go.Proofs.YtmhoikfoogemnaaGreatDoor
namespace Go.Proofs.YtmhoikfoogemnaaGreatDoor.Z01
open Go Go.RowKit Go.Vc
set_option linter.unusedVariables false
set_option linter.unusedSimpArgs false
def pd (c:UInt8):Bool:=decide (48≤c.toNat)&&decide (c.toNat≤57)
def ic (n:Nat) (s:List UInt8):Nat:=s.foldl (fun n c=>10 * n+(c.toNat - 48)) n
def cB (s:List UInt8):Nat:=ic 0 s
def pg (s:List UInt8):Bool:=s.all pd&&(decide (s=[48])||(!decide (s=[])&& !decide (s.head?=some 48)))
theorem gH (n:Nat) (c:UInt8) (s:List UInt8):ic n (c::s)=ic (10 * n+(c.toNat - 48)) s:=by unfold ic;rw[List.foldl_cons]
theorem Jj {s:List UInt8} (h:s≠[]):0<s.length:=List.length_pos_iff.2 h
theorem FJ (s:List UInt8) (n:Nat):n≤ic n s:=by
 induction s generalizing n with
 | nil=>exact Nat.le_refl _
 | cons c s ih=>rw[gH];have:=ih (10 * n+(c.toNat - 48));omega
theorem o9 (s:List UInt8) (n:Nat):n * 10 ^ s.length≤ic n s:=by
 induction s generalizing n with
 | nil=>simp[ic]
 | cons c s ih=>
  rw[gH]
  have h:=ih (10 * n+(c.toNat - 48))
  have:n * 10 ^ (c::s).length=(10 * n) * 10 ^ s.length:=by
   rw[List.length_cons,Nat.pow_succ,Nat.mul_comm (10 ^ s.length) 10, ← Nat.mul_assoc,Nat.mul_comm n 10]
  rw[this]
  exact Nat.le_trans (Nat.mul_le_mul_right _ (by omega)) h
theorem FI (s:List UInt8) (n:Nat) (hd:s.all pd=true):ic n s<(n+1) * 10 ^ s.length:=by
 induction s generalizing n with
 | nil=>simp[ic]
 | cons c s ih=>
  simp only[List.all_cons,Bool.and_eq_true]at hd
  have hc:c.toNat≤57:=by have:=hd.1;simp[pd]at this;omega
  rw[gH]
  have h:=ih (10 * n+(c.toNat - 48)) hd.2
  have:(n+1) * 10 ^ (c::s).length=(10 * n+10) * 10 ^ s.length:=by
   rw[List.length_cons,Nat.pow_succ,Nat.mul_comm (10 ^ s.length) 10, ← Nat.mul_assoc];congr 1;omega
  rw[this]
  exact Nat.lt_of_lt_of_le h (Nat.mul_le_mul_right _ (by omega))
theorem gD {s:List UInt8} {i:Int} (h0:0≤i) (h1:i<(s.length:Int)):sat s i=some ((s[i.toNat]'(by omega)).toNat:Int):=by
 unfold sat
 rw[if_pos ⟨h0,h1⟩]
 have hi:i.toNat<s.length:=by omega
 simp[Ge,List.getD_eq_getElem?_getD,hi]
theorem qY {s:List UInt8} {i:Int} (h0:0≤i) (h1:i<(s.length:Int)):s.drop i.toNat=(s[i.toNat]'(by omega))::s.drop (i+1).toNat:=by
 have hi:i.toNat<s.length:=by omega
 rw[List.drop_eq_getElem_cons hi]
 congr 2;omega
theorem KM (c:UInt8):(decide (((c.toNat:Nat):Int)<48)||decide (57<((c.toNat:Nat):Int)))= !pd c:=by
 unfold pd
 by_cases h1:c.toNat<48
 ·have:¬ 48≤c.toNat:=by omega
  simp[h1,this];omega
 ·by_cases h2:57<c.toNat
  ·have:¬ c.toNat≤57:=by omega
   simp[this];omega
  ·have h3:48≤c.toNat:=by omega
   have h4:c.toNat≤57:=by omega
   simp[h3,h4];omega
theorem Ki (s:List UInt8) (m:Nat→Int→Option Bool) (fin:Option Bool)
  (hm:∀ f i,m (f+1) i=if decide (i<(s.length:Int))=true then(sat s i).bind fun b2=>(gd (!(decide (b2<48))) (sat s i)).bind fun b3=>if((decide (b2<48))||(decide (57<b3)))=true then some false else m f (au (i+1))else fin)
  (hl:s.length≤4294967296):∀ (f:Nat) (i:Int),0≤i→i≤(s.length:Int)→(s.length - i.toNat)<f→m f i=cond ((s.drop i.toNat).all pd) fin (some false)
 | 0,_,_,_,h=>absurd h (by omega)
 | f+1,i,h0,h1,hf=>by
  rw[hm]
  by_cases h:i<(s.length:Int)
  ·rw[gD h0 h,qY h0 h,wi ⟨by omega,by omega⟩,List.all_cons]
   generalize (s[i.toNat]'(by omega))=c
   have ih:=Ki s m fin hm hl f (i+1) (by omega) (by omega) (by omega)
   have hd:=KM c
   revert hd
   generalize pd c=dc
   intro hd
   by_cases hb:decide (((c.toNat:Nat):Int)<48)=true
   ·simp only[hb,Bool.true_or]at hd
    cases dc
    ·simp only[h,hb,decide_true,gd,Bool.not_true,Bool.false_eq_true,if_false,if_true,Option.bind_some,Bool.true_or,Bool.false_and,cond_false]
    ·cases hd
   ·have hb':decide (((c.toNat:Nat):Int)<48)=false:=by simpa using hb
    simp only[hb',Bool.false_or]at hd
    simp only[h,hb',decide_true,gd,Bool.not_false,if_true,Option.bind_some,Bool.false_or,hd]
    cases dc
    ·rfl
    ·simp only[Bool.not_true,Bool.false_eq_true,if_false,Bool.true_and];exact ih
  ·have e:s.drop i.toNat=[]:=List.drop_eq_nil_of_le (by omega)
   simp[h,e]
theorem uR (s:List UInt8) (h:s≠[]):decide ((((s[0]'(Jj h)).toNat:Nat):Int)=48)=decide (s.head?=some 48):=by
 cases s with
 | nil=>exact absurd rfl h
 | cons c s=>
  simp only[List.getElem_cons_zero,List.head?_cons,Option.some.injEq]
  congr 1
  apply propext
  constructor
  ·intro h1;have:c.toNat=48:=by omega
   exact UInt8.toNat_inj.1 (by simpa using this)
  ·intro h1;subst h1;rfl
theorem pM (s:List UInt8) (hl:s.length≤4294967296):jw s=some (pg s):=by
 unfold jw
 rw[Ki s (gz s) (i6 s) (fun _ _=>rfl) hl fu 0 (by omega) (by omega) (by unfold fu;omega)]
 unfold pg i6
 simp only[Int.toNat_zero,List.drop_zero]
 cases hd:s.all pd
 ·rfl
 ·simp only[cond_true,Bool.true_and]
  by_cases h0:s=[]
  ·subst h0;rfl
  ·have hlen:0<s.length:=Jj h0
   rw[gD (by omega) (by omega)]
   by_cases h1:s=[48]
   ·subst h1;rfl
   ·simp only[h0,h1,decide_false,Bool.not_false,Bool.and_self,gd,if_true,Option.bind_some,Bool.false_or,Bool.true_and,Int.toNat_zero]
    rw[uR s h0]
def bK (s:List UInt8):Bool×List UInt8:=match s with
 | 45::t=>(true,t)
 | _=>(false,s)
def rz (s:List UInt8):Bool:=pg (bK s).2&& !((bK s).1&&decide ((bK s).2=[48]))
theorem yW {s:List UInt8} (h:s.all pd=true):bK s=(false,s):=by
 unfold bK
 split
 ·simp[pd]at h
 ·rfl
end Go.Proofs.YtmhoikfoogemnaaGreatDoor.Z01
