import Derived.Test.YtmhoikfoogemnaaGreatDoorHYc
namespace Go.Proofs.YtmhoikfoogemnaaGreatDoor
open Go Go.RowKit Go.Vc
set_option linter.unusedVariables false
set_option linter.unusedSimpArgs false
def wI (x:aM):Nat:=x.Lin.L.length+x.At.length+(x.At.map (·.L.length)).sum
def wE:ae→Nat
 | ⟨_,_,_,_,l,idx,args⟩=>1+l.L.length+idx.length+(idx.map wI).sum+go args
 where go:List ae→Nat
  | []=>0
  | x::xs=>wE x+go xs
theorem IJ:∀ (xs:List ae),wE.go xs=(xs.map wE).sum
 | []=>rfl
 | x::xs=>by rw[wE.go,IJ xs,List.map_cons,List.sum_cons]
theorem vH (x:ae):wE x=1+x.Lin.L.length+x.Idx.length+(x.Idx.map wI).sum+(x.Args.map wE).sum:=by
 cases x;rw[wE,IJ]
theorem tv {zs:List Nat} {i x:Nat} (h:zs[i]? =some x):(zs.take (i+1)).sum=(zs.take i).sum+x:=by rw[bE h,List.sum_append];simp
theorem rS (zs:List Nat) (i:Nat):(zs.take i).sum≤zs.sum:=by
 conv=>rhs;rw[← List.take_append_drop i zs,List.sum_append]
 omega
theorem yR {zs:List Nat} {x:Nat} (h:x∈zs):x≤zs.sum:=by
 induction zs with
 | nil=>cases h
 | cons a zs ih=>
  rw[List.sum_cons]
  rcases List.mem_cons.1 h with rfl | h
  ·omega
  ·have:=ih h;omega
theorem wM {R:Type} {L:Nat→Int→Int→Option R} {k:Int→Option R} (zs:List Nat) (hlen:zs.length<4611686018427387904) {most B:Int} (n0:Int)
  (rd:∀ (f i:Nat) (n:Int) (x:Nat),zs[i]? =some x→n0≤n→n≤most→∃ d:Int,0≤d∧n+d≤most+B∧((x:Int)≤most - n→d=x)∧(most - n<x→most - n<d)∧L (f+1) n (i:Int)=L f (n+d) ((i+1:Nat):Int))
  (ex:∀ (f i:Nat) (n:Int),i≤zs.length→(i=zs.length∨most<n)→L (f+1) n (i:Int)=k n) (h1:n0≤most+B):
  ∃ n:Int,L fu n0 0=k n∧n0≤n∧n≤most+B∧(n0+(zs.sum:Nat)≤most→n=n0+(zs.sum:Nat))∧(most<n0+(zs.sum:Nat)→most<n):=by
 have key:∀ (m f i:Nat) (n:Int),i+m=zs.length→m<f→n0≤n→n≤most+B→(n=n0+((zs.take i).sum:Nat)∨most<n∧most<n0+(zs.sum:Nat))→
   ∃ n':Int,L f n (i:Int)=k n'∧n0≤n'∧n'≤most+B∧(n0+(zs.sum:Nat)≤most→n'=n0+(zs.sum:Nat))∧(most<n0+(zs.sum:Nat)→most<n'):=by
  intro m
  induction m with
  | zero=>
   intro f i n h hf g0 g1 hI
   obtain⟨f,rfl⟩:∃ q,f=q+1:=⟨f - 1,by omega⟩
   refine⟨n,ex f i n (by omega) (.inl (by omega)),g0,g1,?_,?_⟩
   ·intro h3;rcases hI with h | ⟨h,h4⟩
    ·rw[h,show i=zs.length by omega,List.take_length]
    ·omega
   ·intro h3;rcases hI with h | ⟨h,h4⟩
    ·rw[h,show i=zs.length by omega,List.take_length];exact h3
    ·exact h
  | succ m ih=>
   intro f i n h hf g0 g1 hI
   obtain⟨f,rfl⟩:∃ q,f=q+1:=⟨f - 1,by omega⟩
   by_cases hn:n≤most
   ·have hI:n=n0+((zs.take i).sum:Nat):=hI.resolve_right λh=>by omega
    obtain⟨x,hx⟩:=bY (l:=zs) (i:=i) (by omega)
    obtain⟨d,d0,d1,d2,d3,d4⟩:=rd f i n x hx g0 hn
    rw[d4]
    have ht:=tv hx
    have hs:=rS zs (i+1)
    refine ih f (i+1) (n+d) (by omega) (by omega) (by omega) d1 ?_
    by_cases hx2:(x:Int)≤most - n
    ·left;rw[d2 hx2,ht,hI];omega
    ·right;have:=d3 (by omega);exact⟨by omega,by omega⟩
   ·refine⟨n,ex f i n (by omega) (.inr (by omega)),g0,g1,?_,λ_=>by omega⟩
    intro h3
    have hs:=rS zs i
    rcases hI with h | ⟨_,h4⟩<;>omega
 exact key zs.length fu 0 n0 (by omega) (by unfold fu;omega) (by omega) h1 (.inl (by simp))
theorem okGExpr.out {e:ae} (h:okGExpr e):okGLin e.Lin∧Cc nP e.Idx∧Cc okGExpr e.Args:=by obtain⟨_,_,_,_,h1,h2,h3⟩:=nC.1 h;exact⟨h1,h2,h3⟩
theorem FG {α β:Type} {f:α→β} {l:List α} {i:Nat} {y:β} (h:(l.map f)[i]? =some y):∃ x,l[i]? =some x∧f x=y:=by rw[List.getElem?_map,Option.map_eq_some_iff]at h;exact h
theorem IG {p:Int} (h: -4611686018427387904≤p∧p≤4611686018427387904):av p=p:=yv (p:=p) ⟨by omega,by omega⟩
theorem Gs:∀ (f:Nat) (e:ae) (most:Int),okGExpr e→0≤most→most≤300→most<(f:Int)→
  ∃ r,dO f e most=some r∧0≤r∧r≤most+562949953421312∧((wE e:Int)≤most→r=wE e)∧(most<(wE e:Int)→most<r)
 | 0,e,most,_,h0,_,hf=>by omega
 | f+1,e,most,he,h0,h3,hf=>by
  obtain⟨hL,hI,hA⟩:=he.out
  have l1:=hL.2.2
  have l2:=hI.2
  have l3:=hA.2
  show ∃ r,me (dO f) e most=some r∧ _
  unfold me
  rw[IG (p:=1+(e.Lin.L.length:Int)) (by omega),IG (p:=1+(e.Lin.L.length:Int)+(e.Idx.length:Int)) (by omega),Option.bind_some]
  have args:∀ n:Int,1≤n→n≤most+562949953421312→∃ r,jx e most (dO f) n=some r∧n≤r∧r≤most+562949953421312∧(n+(((e.Args.map wE).sum:Nat):Int)≤most→r=n+(((e.Args.map wE).sum:Nat):Int))∧(most<n+(((e.Args.map wE).sum:Nat):Int)→most<r):=by
   intro n hn1 hn2
   refine wM (L:=λf' n i=>gN e most (dO f) f' n i) (k:=some) (e.Args.map wE) (by rw[List.length_map];omega) n ?_ ?_ hn2
   ·intro f' i n' x hx g0 g1
    obtain⟨y,hy,rfl⟩:=FG hx
    have hi:=(List.getElem?_eq_some_iff.1 hy).1
    obtain⟨r,q1,q2,q3,q4,q5⟩:=Gs f y (most - n') (hA.1 y (List.mem_of_getElem? hy)) (by omega) (by omega) (by omega)
    refine⟨r,q2,by omega,q4,q5,?_⟩
    simp only[gN]
    rw[bs hi,decide_eq_true g1,Bool.and_self,if_pos rfl,bn hy,Option.bind_some,IG (p:=most - n') (by omega),q1,Option.bind_some,IG (p:=n'+r) (by omega),mH (by omega)]
   ·intro f' i n' hi hor
    rw[List.length_map]at hi hor
    simp only[gN]
    rw[if_neg]
    rcases hor with h | h
    ·simp[h]
    ·simp;omega
  have idx:∃ n,cT e most (dO f) fu (1+(e.Lin.L.length:Int)+(e.Idx.length:Int)) 0=jx e most (dO f) n∧1+(e.Lin.L.length:Int)+(e.Idx.length:Int)≤n∧n≤most+562949953421312∧
    (1+(e.Lin.L.length:Int)+(e.Idx.length:Int)+(((e.Idx.map wI).sum:Nat):Int)≤most→n=1+(e.Lin.L.length:Int)+(e.Idx.length:Int)+(((e.Idx.map wI).sum:Nat):Int))∧(most<1+(e.Lin.L.length:Int)+(e.Idx.length:Int)+(((e.Idx.map wI).sum:Nat):Int)→most<n):=by
   refine wM (L:=λf' n i=>cT e most (dO f) f' n i) (k:=jx e most (dO f)) (e.Idx.map wI) (by rw[List.length_map];omega) _ ?_ ?_ (by omega)
   ·intro f' i n x hx g0 g1
    obtain⟨y,hy,rfl⟩:=FG hx
    have hi:=(List.getElem?_eq_some_iff.1 hy).1
    obtain⟨o1,_,o2⟩:=hI.1 y (List.mem_of_getElem? hy)
    have p1:=o1.2.2
    have p2:=o2.2
    obtain⟨n',q1,q2,q3,q4,q5⟩:=wM (L:=λf'' n k=>gM e (i:Int) most (cT e most (dO f) f') f'' n k) (k:=λn=>cT e most (dO f) f' n ((i+1:Nat):Int)) (y.At.map (·.L.length)) (by rw[List.length_map];omega) (most:=most) (B:=562949953421312) (n+(y.Lin.L.length:Int)+(y.At.length:Int)) (by
     intro f'' k n'' x hx g2 g3
     obtain⟨z,hz,rfl⟩:=FG hx
     have hk:=(List.getElem?_eq_some_iff.1 hz).1
     have p3:=(o2.1 z (List.mem_of_getElem? hz)).2.2
     refine⟨(z.L.length:Int),by omega,by omega,λ_=>rfl,λh=>h,?_⟩
     simp only[gM]
     rw[bn hy,Option.bind_some,bs hk,decide_eq_true g3,Bool.and_self,if_pos rfl,Option.bind_some,bn hz,Option.bind_some,Option.bind_some,IG (p:=n''+(z.L.length:Int)) (by omega),mH (by omega)]) (by
     intro f'' k n'' hk hor
     rw[List.length_map]at hk hor
     simp only[gM]
     rw[bn hy,Option.bind_some,if_neg]
     ·unfold nc;rw[mH (by omega)]
     ·rcases hor with h | h
      ·simp[h]
      ·simp;omega) (by omega)
    refine⟨n' - n,by omega,by omega,λh=>?_,λh=>?_,?_⟩
    ·have:=q4 (by unfold wI at h;omega)
     unfold wI;omega
    ·have:=q5 (by unfold wI at h;omega)
     omega
    ·simp only[cT]
     rw[bs hi,decide_eq_true g1,Bool.and_self,if_pos rfl,bn hy,Option.bind_some,Option.bind_some,IG (p:=n+(y.Lin.L.length:Int)) (by omega),IG (p:=n+(y.Lin.L.length:Int)+(y.At.length:Int)) (by omega),q1,show n+(n' - n)=n' by omega]
   ·intro f' i n' hi hor
    rw[List.length_map]at hi hor
    simp only[cT]
    rw[if_neg]
    rcases hor with h | h
    ·simp[h]
    ·simp;omega
  obtain⟨n,i1,i2,i3,i4,i5⟩:=idx
  obtain⟨r,a1,a2,a3,a4,a5⟩:=args n (by omega) i3
  refine⟨r,by rw[i1,a1],by omega,a3,?_,?_⟩
  ·rw[vH]
   intro h
   have e1:=i4 (by omega)
   have e2:=a4 (by omega)
   omega
  ·rw[vH]
   intro h
   by_cases hc:1+(e.Lin.L.length:Int)+(e.Idx.length:Int)+(((e.Idx.map wI).sum:Nat):Int)≤most
   ·have e1:=i4 hc
    exact a5 (by omega)
   ·have:=i5 (by omega);omega
theorem Gd {e:ae} (he:okGExpr e) {most:Int} (h0:0≤most) (h:most≤300):∃ r,sj e most=some r∧((wE e:Int)≤most→r=wE e)∧(most<(wE e:Int)→most<r):=by
 obtain⟨r,h1,_,_,h4,h5⟩:=Gs fu e most he h0 h (by unfold fu;omega)
 exact⟨r,h1,h4,h5⟩
theorem D4 {e:ae} (he:okGExpr e):mP e=some (decide (wE e≤300)):=by
 obtain⟨r,h1,h2,h3⟩:=Gd he (most:=300) (by omega) (by omega)
 unfold mP
 rw[h1,Option.bind_some]
 refine congrArg some (decide_eq_decide.2 ?_)
 constructor
 ·intro h;by_cases hc:wE e≤300
  ·exact hc
  ·have:=h3 (by omega);omega
 ·intro h;have:=h2 (by omega);omega
end Go.Proofs.YtmhoikfoogemnaaGreatDoor
namespace Go.Proofs.YtmhoikfoogemnaaGreatDoor
open Go Go.RowKit Go.Vc
set_option linter.unusedVariables false
set_option linter.unusedSimpArgs false
def dP:List (List UInt8)→List UInt8
 | []=>[]
 | [a]=>a
 | a::b::r=>a++([44,32]++dP (b::r))
theorem so:∀ (ts:List (List UInt8)) (t:List UInt8),dP (ts++[t])=if ts=[]then t else dP ts++([44,32]++t)
 | [],t=>rfl
 | [a],t=>rfl
 | a::b::r,t=>by
  have:=so (b::r) t
  rw[if_neg (by simp)]at this ⊢
  simp only[List.cons_append]at this ⊢
  rw[dP,this];simp[dP]
def mx (ts:List (List UInt8)):Nat:=(ts.map λt=>t.length+2).sum
theorem fv:∀ (ts:List (List UInt8)),(dP ts).length≤mx ts
 | []=>by simp[dP,mx]
 | [a]=>by simp[dP,mx]
 | a::b::r=>by
  have:=fv (b::r)
  rw[dP]
  simp only[mx,List.map_cons,List.sum_cons,List.length_append,List.length_cons,List.length_nil]at *
  omega
theorem HY (ts:List (List UInt8)) (i:Nat):mx (ts.take i)≤mx ts:=by
 unfold mx;rw[List.map_take];exact rS _ _
theorem Cn {ts:List (List UInt8)} {i:Nat} {t:List UInt8} (h:ts[i]? =some t):mx (ts.take i)+t.length+2≤mx ts:=by
 have h1:=HY ts (i+1)
 rw[bE h]at h1
 unfold mx at *
 rw[List.map_append,List.sum_append]at h1
 simpa[Nat.add_assoc]using h1
theorem LJ {ts:List (List UInt8)} {c:Nat} (h:∀ t∈ts,t.length≤c):mx ts≤ts.length * (c+2):=by
 induction ts with
 | nil=>simp[mx]
 | cons a ts ih=>
  have h1:=ih λt ht=>h t (by simp[ht])
  have h2:=h a (by simp)
  unfold mx at *
  rw[List.map_cons,List.sum_cons,List.length_cons,Nat.add_mul];omega
theorem BR {α:Type} {l:List α} {i:Nat} (h:i+1<l.length):¬ l.take (i+1)=[]:=λh0=>by
 rcases List.take_eq_nil_iff.1 h0 with h0 | h0
 ·omega
 ·rw[h0]at h;simp at h
abbrev okR (l:aC):Prop:=(∀ m∈l.L,kX m.By)∧kX l.K
theorem okGLin.r {l:aC} (h:okGLin l):okR l:=⟨λm hm=>Ba (h.2.1 m hm).2,Ba h.1⟩
theorem pg {l:aC} (h:okR l):(mw l).length≤40 * l.L.length+24:=by
 unfold mw
 by_cases ho:cv l
 ·rw[if_pos ho];exact Ef ho h.1 h.2
 ·rw[if_neg ho];simp
def Cq (x:aM):List UInt8:=
 if cv x.Lin∧∀ f∈x.At,cv f then
  if x.From=[]then(if x.At=[]then FL x.Lin else[])
  else if bw x.From=true∧x.Lin.K=0∧x.Lin.L=[]then x.From++([91]++(dP (x.At.map mw)++[93]))else[]
 else[]
def smI (x:aM):Prop:=nP x∧wI x≤300
theorem smI.lens {x:aM} (h:smI x):x.Lin.L.length≤300∧x.At.length≤300∧(∀ f∈x.At,f.L.length≤300)∧mx (x.At.map mw)≤3700000:=by
 obtain⟨⟨_,_,ho⟩,h⟩:=h
 unfold wI at h
 have h3:∀ f∈x.At,f.L.length≤300:=λf hf=>by
  have:=yR (List.mem_map_of_mem (f:=λf:aC=>f.L.length) hf);omega
 refine⟨by omega,by omega,h3,?_⟩
 have:=LJ (ts:=x.At.map mw) (c:=12024) (λt ht=>by
  obtain⟨f,hf,rfl⟩:=List.mem_map.1 ht
  have:=pg (ho.1 f hf).r
  have:=h3 f hf
  omega)
 rw[List.length_map]at this
 have h4:x.At.length * (12024+2)≤300 * (12024+2):=Nat.mul_le_mul_right _ (by omega)
 omega
theorem y9 (s:List UInt8):gA s=some (bw s):=by
 by_cases h:s.length≤16
 ·exact Bl s (by omega)
 ·unfold gA bw
  have e:decide ((s.length:Int)≤16)=false:=by rw[decide_eq_false_iff_not];omega
  rw[e,decide_eq_false h]
  cases s with
  | nil=>simp at h
  | cons c t=>simp[gd]
end Go.Proofs.YtmhoikfoogemnaaGreatDoor
namespace Go.Proofs.YtmhoikfoogemnaaGreatDoor
open Go Go.RowKit Go.Vc
set_option linter.unusedVariables false
set_option linter.unusedSimpArgs false
theorem qC {α R:Type} {m:Nat→Int→Option R} {l:List α} {p:α→Bool} {k r0:Option R} (hn:l.length<4611686018427387904)
  (rd:∀ (f i:Nat) x,l[i]? =some x→m (f+1) (i:Int)=if p x=true then m f ((i+1:Nat):Int)else r0) (ed:∀ f,m (f+1) (l.length:Int)=k):m fu 0=if l.all p=true then k else r0:=by
 refine ib (L:=λf (_:Unit) i=>m f i) (n:=l.length) hn (λi _=>(l.take i).all p=true) ?_ ?_ () (by simp)
 ·intro f i _ hi hI
  obtain⟨x,hx⟩:=bY hi
  by_cases h:p x=true
  ·left;exact⟨(),by rw[bE hx,List.all_append,hI];simp[h],by rw[rd f i x hx,if_pos h]⟩
  ·right
   rw[show m (f+1) (i:Int)=r0 by rw[rd f i x hx,if_neg h],if_neg]
   intro h2;exact h (List.all_eq_true.1 h2 x (List.mem_of_getElem? hx))
 ·intro f _ hI
  rw[List.take_length]at hI
  rw[if_pos hI];exact ed f
def AP {α:Type} (p:Nat→α→Bool):Nat→List α→Bool
 | _,[]=>true
 | k,x::r=>p k x&&AP p (k+1) r
theorem Aa {α:Type} {p:Nat→α→Bool} :∀ {l:List α} {k:Nat},AP p k l=true↔∀ i x,l[i]? =some x→p (k+i) x=true
 | [],k=>by simp[AP]
 | a::l,k=>by
  rw[AP,Bool.and_eq_true,Aa (l:=l)]
  constructor
  ·rintro⟨h1,h2⟩ i x hx
   cases i with
   | zero=>injection hx with hx;subst hx;exact h1
   | succ i=>have:=h2 i x hx;rwa [Nat.add_assoc,Nat.add_comm 1]at this
  ·intro h
   refine⟨h 0 a rfl,λi x hx=>?_⟩
   have:=h (i+1) x hx
   rwa [← Nat.add_assoc,Nat.add_right_comm]at this
theorem Bz {α R:Type} {m:Nat→Int→Option R} {l:List α} {p:Nat→α→Bool} {k r0:Option R} (hn:l.length<4611686018427387904)
  (rd:∀ (f i:Nat) x,l[i]? =some x→m (f+1) (i:Int)=if p i x=true then m f ((i+1:Nat):Int)else r0) (ed:∀ f,m (f+1) (l.length:Int)=k):m fu 0=if AP p 0 l=true then k else r0:=by
 refine ib (L:=λf (_:Unit) i=>m f i) (n:=l.length) hn (λi _=>∀ j x,j<i→l[j]? =some x→p j x=true) ?_ ?_ () (λj x h=>absurd h (by omega))
 ·intro f i _ hi hI
  obtain⟨x,hx⟩:=bY hi
  by_cases h:p i x=true
  ·left;exact⟨(),λj y hj hy=>by
    by_cases e:j=i
    ·subst e;rw[hx]at hy;injection hy with hy;subst hy;exact h
    ·exact hI j y (by omega) hy,by rw[rd f i x hx,if_pos h]⟩
  ·right
   rw[show m (f+1) (i:Int)=r0 by rw[rd f i x hx,if_neg h],if_neg]
   intro h2;have:=Aa.1 h2 i x hx;rw[Nat.zero_add]at this;exact h this
 ·intro f _ hI
  rw[if_pos (Aa.2 λi x hx=>by rw[Nat.zero_add];exact hI i x (List.getElem?_eq_some_iff.1 hx).1 hx)];exact ed f
theorem tT {l:List aM} {f:aM→Option Bool} {g:aM→Bool} (hn:l.length<4611686018427387904) (h:∀ x∈l,f x=some (g x)):bb l f=some (!l.all λx=> !g x):=by
 obtain⟨r,h1,h2⟩:=qU (L:=λf' (_:Unit) i=>aN l f f' i) (n:=l.length) hn (λi _=>(l.take i).all (λx=> !g x)=true) (λr=>decide (0≤r)= !l.all λx=> !g x)
  (λf' i _ hi hI=>by
   obtain⟨x,hx⟩:=bY hi
   have hm:=List.mem_of_getElem? hx
   simp only[aN]
   rw[if_pos (bs hi),bn hx,Option.bind_some,h x hm,Option.bind_some]
   by_cases hv:g x=true
   ·right;refine⟨(i:Int),by rw[if_pos hv],?_⟩
    rw[decide_eq_true (by omega)];symm
    rw[Bool.not_eq_true',Bool.eq_false_iff];intro h2
    have:=List.all_eq_true.1 h2 x hm;rw[hv]at this;cases this
   ·left;refine⟨(),?_,by rw[if_neg hv,mH (by omega)]⟩
    rw[bE hx,List.all_append,hI];simp[hv])
  (λf' _ hI=>by
   rw[List.take_length]at hI
   simp only[aN]
   exact⟨-1,by rw[if_neg (by simp)],by rw[hI];rfl⟩) () (by simp)
 unfold bb cV
 rw[show aN l f fu 0=some r from h1,Option.bind_some,h2]
def BD (l:aC):Bool:=decide (l.K=0)&&decide ((l.L.length:Int)=0)
def KL (x:aM):Bool:=if x.From=[]then decide ((x.At.length:Int)=0)else BD x.Lin
def gb (l:aC):Bool:=decide (cv l)
def Pl (t:bu):Bool:=(decide (t.Kind=0))&&(decide (t.Bits=0))&&(decide (t.Frac=0))&&(decide (t.Round=0))&&(decide (t.Over=0))
def qc (e:ae):Bool:=decide (1≤e.Op)&&decide (e.Op≤18)&&(decide (e.Op=1)||(decide (e.Val.N=0)&&decide (e.Val.D=0)))&&(decide (e.Op=1)||decide (e.Op=12)||Pl e.Type_)&&
 (decide (e.Op=2)||BD e.Lin)&&(decide (e.Op=3)||(decide (e.Name=[])&&decide ((e.Idx.length:Int)=0)))&&e.Idx.all KL
def pt (e:ae):Bool:=(!decide (e.Op=3)||bw e.Name)&&e.Idx.all λx=>decide (x.From=[])||bw x.From
def nr (op:Int):Int:=if op=1∨op=2∨op=3 then 0 else if op=8∨op=12∨op=18 then 1 else if op=11 then 3 else 2
def sW (e:ae):Bool:=decide ((e.Args.length:Int)=nr e.Op)&& !decide (6<(e.Idx.length:Int))&&e.Idx.all λx=> !decide (6<(x.At.length:Int))
def tU (e:ae):Bool:=decide (13≤e.Op)&&decide (e.Op≤18)
def sV (op:Int) (i:Nat):Bool:=((decide (op=11)&&decide ((i:Int)=0))||decide (op=16)||decide (op=17))||decide (op=18)
def tr (e:ae):Bool:=(!(decide (e.Op=1)||decide (e.Op=12))||pF e.Type_)&&AP (λi a=>tU a==sV e.Op i) 0 e.Args
def xF (e:ae):Bool:=(!decide (e.Op=1)||wJ e.Type_ e.Val)&&gb e.Lin&&e.Idx.all λx=>gb x.Lin&&x.At.all gb
def jA (e:ae):Int:=if qc e=true then(if pt e=true then(if sW e=true then(if tr e=true then(if xF e=true then 0 else 1)else 10)else 11)else 7)else 5
abbrev yV (e:ae):Prop:=e.Idx.length<4611686018427387904∧e.Args.length<4611686018427387904∧e.Lin.L.length<4611686018427387904∧∀ x∈e.Idx,x.Lin.L.length<4611686018427387904∧x.At.length<4611686018427387904∧∀ f∈x.At,f.L.length<4611686018427387904
theorem okGExpr.len {e:ae} (h:okGExpr e):yV e:=by
 obtain⟨h1,h2,h3⟩:=h.out
 refine⟨by have:=h2.2;omega,by have:=h3.2;omega,by have:=h1.2.2;omega,λx hx=>?_⟩
 obtain⟨a,_,b⟩:=h2.1 x hx
 exact⟨by have:=a.2.2;omega,by have:=b.2;omega,λf hf=>by have:=(b.1 f hf).2.2;omega⟩
theorem Et {e:ae} (h:yV e):m4 e=some (qc e):=by
 have hc:=tT (l:=e.Idx) (f:=jv) (g:=λx=> !KL x) h.1 (λx _=>by
  unfold jv lH lr KL
  by_cases hx:x.From=[]<;>simp[hx,BD])
 unfold m4 qc
 rw[hc]
 simp only[lr,Bool.not_not]
 by_cases h1:e.Op<1
 ·simp[h1,show ¬ 1≤e.Op by omega]
 by_cases h2:18<e.Op
 ·simp[h2,show ¬ e.Op≤18 by omega]
 have g1:decide (1≤e.Op)=true:=decide_eq_true (by omega)
 have g2:decide (e.Op≤18)=true:=decide_eq_true (by omega)
 rw[g1,g2,decide_eq_false h1,decide_eq_false h2]
 cases a1:decide (e.Op=1)<;>cases a2:decide (e.Op=2)<;>cases a3:decide (e.Op=3)<;>cases a12:decide (e.Op=12)<;>
  cases b1:(decide (e.Val.N=0)&&decide (e.Val.D=0))<;>cases b2:Pl e.Type_<;>cases b3:BD e.Lin<;>cases b4:decide (e.Name=[])<;>cases b5:decide ((e.Idx.length:Int)=0)<;>
  simp_all [gd,Pl,BD]
theorem FX {e:ae} (h:yV e):oe e=some (pt e):=by
 have hc:=tT (l:=e.Idx) (f:=kw) (g:=λx=> !(decide (x.From=[])||bw x.From)) h.1 (λx _=>by
  unfold kw
  by_cases hx:x.From=[]<;>simp[hx,gd,y9])
 unfold oe pt
 rw[hc]
 simp only[y9,Bool.not_not]
 by_cases h3:e.Op=3
 ·cases bw e.Name<;>simp[h3,gd]
 ·simp[h3,gd]
theorem xv (op:Int):lh op=some (nr op)∧nV op=some (nr op):=by
 unfold lh hG g9 nV jq jp nr
 by_cases h1:op=1
 ·simp[h1]
 by_cases h2:op=2
 ·simp[h2]
 by_cases h3:op=3
 ·simp[h3]
 by_cases h8:op=8
 ·simp[h8]
 by_cases h12:op=12
 ·simp[h12]
 by_cases h18:op=18
 ·simp[h18]
 by_cases h11:op=11
 ·simp[h11]
 simp[h1,h2,h3,h8,h12,h18,h11]
theorem H9 {e:ae} (h:yV e):pc e=some (sW e):=by
 have hc:=tT (l:=e.Idx) (f:=m5) (g:=λx=>decide (6<(x.At.length:Int))) h.1 (λx _=>rfl)
 unfold pc sW
 rw[(xv _).1,hc]
 simp only[Option.bind_some,Bool.not_not]
 cases decide ((e.Args.length:Int)=nr e.Op)<;>cases decide (6<(e.Idx.length:Int))<;>simp
theorem DG (op:Int) (i:Nat):fQ op (i:Int)=some (sV op i)∧mR op (i:Int)=some (sV op i):=by
 unfold fQ mR sV
 by_cases h1:op=16
 ·simp[h1]
 by_cases h2:op=17
 ·simp[h2]
 by_cases h3:op=18
 ·simp[h3]
 simp[h1,h2,h3]
theorem yx {e:ae} (h:yV e):ga e fu 0=some (AP (λi a=>tU a==sV e.Op i) 0 e.Args)∧fj e fu 0=some (AP (λi a=>tU a==sV e.Op i) 0 e.Args):=by
 constructor
 ·rw[Bz (m:=λf i=>ga e f i) (l:=e.Args) (p:=λi a=>tU a==sV e.Op i) (k:=some true) (r0:=some false) h.2.1 ?_ ?_]
  ·cases AP (λi a=>tU a==sV e.Op i) 0 e.Args<;>rfl
  ·intro f i x hx
   have hi:=(List.getElem?_eq_some_iff.1 hx).1
   have:=h.2.1
   simp only[ga]
   rw[if_pos (bs hi),bn hx,Option.bind_some,show kR x=some (tU x)from rfl,(DG _ _).1,Option.bind_some,Option.bind_some,mH (by omega)]
   cases tU x<;>cases sV e.Op i<;>rfl
  ·intro f
   simp only[ga]
   rw[if_neg (by simp)]
 ·rw[Bz (m:=λf i=>fj e f i) (l:=e.Args) (p:=λi a=>tU a==sV e.Op i) (k:=some true) (r0:=some false) h.2.1 ?_ ?_]
  ·cases AP (λi a=>tU a==sV e.Op i) 0 e.Args<;>rfl
  ·intro f i x hx
   have hi:=(List.getElem?_eq_some_iff.1 hx).1
   have:=h.2.1
   simp only[fj]
   rw[if_pos (bs hi),bn hx,Option.bind_some,show j0 x=some (tU x)from rfl,(DG _ _).2,Option.bind_some,Option.bind_some,mH (by omega)]
   cases tU x<;>cases sV e.Op i<;>rfl
  ·intro f
   simp only[fj]
   rw[if_neg (by simp)]
theorem zm {e:ae} (h:yV e):od e=some (tr e)∧mS e=some (tr e):=by
 unfold od mS tr
 rw[(yx h).1,(yx h).2,kL,pY]
 cases (decide (e.Op=1)||decide (e.Op=12))<;>cases pF e.Type_<;>simp[gd]
theorem yh (n:Nat):decide (0<(n:Int))= !decide ((n:Int)=0):=by
 by_cases h:n=0
 ·subst h;rfl
 ·rw[decide_eq_true (by omega),decide_eq_false (by omega)];rfl
theorem D5 {e:ae} (h:yV e):mT e=some (qc e):=by
 have hl:fk e fu 0=some (e.Idx.all KL):=by
  rw[qC (m:=λf i=>fk e f i) (l:=e.Idx) (p:=KL) (k:=some true) (r0:=some false) h.1 ?_ ?_]
  ·cases e.Idx.all KL<;>rfl
  ·intro f i x hx
   have hi:=(List.getElem?_eq_some_iff.1 hx).1
   have:=h.1
   simp only[fk]
   rw[if_pos (bs hi),bn hx,Option.bind_some,mH (by omega)]
   have e1:(((decide (x.From=([]:List UInt8)))&&(decide (0<(x.At.length:Int))))||((!decide (x.From=([]:List UInt8)))&&((!decide (x.Lin.K=0))||(decide (0<(x.Lin.L.length:Int))))))= !KL x:=by
    unfold KL BD
    have c1:decide (0<(x.At.length:Int))= !decide ((x.At.length:Int)=0):=yh _
    have c2:decide (0<(x.Lin.L.length:Int))= !decide ((x.Lin.L.length:Int)=0):=yh _
    rw[c1,c2]
    by_cases hx:x.From=[]<;>simp[hx]
   rw[e1]
   cases KL x<;>rfl
  ·intro f
   simp only[fk]
   rw[if_neg (by simp)]
 unfold mT qc
 rw[hl]
 by_cases h1:e.Op<1
 ·simp[h1,show ¬ 1≤e.Op by omega]
 by_cases h2:18<e.Op
 ·simp[h2,show ¬ e.Op≤18 by omega]
 have g1:decide (1≤e.Op)=true:=decide_eq_true (by omega)
 have g2:decide (e.Op≤18)=true:=decide_eq_true (by omega)
 have c1:decide (0<(e.Lin.L.length:Int))= !decide ((e.Lin.L.length:Int)=0):=yh _
 have c2:decide (0<(e.Idx.length:Int))= !decide ((e.Idx.length:Int)=0):=yh _
 rw[g1,g2,decide_eq_false h1,decide_eq_false h2,c1,c2]
 have e3:((decide (e.Type_.Kind=0))&&(decide (e.Type_.Bits=0))&&(decide (e.Type_.Frac=0))&&(decide (e.Type_.Round=0))&&(decide (e.Type_.Over=0)))=Pl e.Type_:=rfl
 rw[e3]
 unfold BD
 generalize decide (e.Op=1)=a1,decide (e.Op=2)=a2,decide (e.Op=3)=a3,decide (e.Op=12)=a12,(decide (e.Val.N=0)&&decide (e.Val.D=0))=b1,Pl e.Type_=b2,decide (e.Lin.K=0)=b3,decide ((e.Lin.L.length:Int)=0)=b4,decide (e.Name=[])=b5,decide ((e.Idx.length:Int)=0)=b6
 cases a1<;>cases a2<;>cases a3<;>cases a12<;>cases b1<;>cases b2<;>cases b3<;>cases b4<;>cases b5<;>cases b6<;>simp
theorem D6 {e:ae} (h:yV e):mU e=some (pt e):=by
 have hl:fm e fu 0=some (e.Idx.all λx=>decide (x.From=[])||bw x.From):=by
  rw[qC (m:=λf i=>fm e f i) (l:=e.Idx) (p:=λx=>decide (x.From=[])||bw x.From) (k:=some true) (r0:=some false) h.1 ?_ ?_]
  ·cases e.Idx.all λx=>decide (x.From=[])||bw x.From<;>rfl
  ·intro f i x hx
   have hi:=(List.getElem?_eq_some_iff.1 hx).1
   have:=h.1
   simp only[fm]
   rw[if_pos (bs hi),bn hx,Option.bind_some,mH (by omega)]
   by_cases hf:x.From=[]
   ·simp[hf,gd]
   ·cases hn:bw x.From<;>simp[hf,gd,fh,hn]
  ·intro f
   simp only[fm]
   rw[if_neg (by simp)]
 unfold mU pt
 rw[hl,fh]
 by_cases h3:e.Op=3
 ·cases bw e.Name<;>simp[h3,gd]
 ·simp[h3,gd]
theorem B0 {e:ae} (h:yV e):lT e=some (sW e):=by
 have hl:eF e fu 0=some (e.Idx.all λx=> !decide (6<(x.At.length:Int))):=by
  rw[qC (m:=λf i=>eF e f i) (l:=e.Idx) (p:=λx=> !decide (6<(x.At.length:Int))) (k:=some true) (r0:=some false) h.1 ?_ ?_]
  ·cases e.Idx.all λx=> !decide (6<(x.At.length:Int))<;>rfl
  ·intro f i x hx
   have hi:=(List.getElem?_eq_some_iff.1 hx).1
   have:=h.1
   simp only[eF]
   rw[if_pos (bs hi),bn hx,Option.bind_some,mH (by omega)]
   cases decide (6<(x.At.length:Int))<;>rfl
  ·intro f
   simp only[eF]
   rw[if_neg (by simp)]
 unfold lT sW
 rw[(xv _).2,hl]
 simp only[Option.bind_some]
 cases decide ((e.Args.length:Int)=nr e.Op)<;>cases decide (6<(e.Idx.length:Int))<;>simp
theorem B1 {e:ae} (h:yV e) (hv:VaR e.Val) (ht:e.Op=1→pF e.Type_=true):lV e=some (xF e):=by
 have hl:bR e fu 0=some (e.Idx.all λx=>gb x.Lin&&x.At.all gb):=by
  rw[qC (m:=λf i=>bR e f i) (l:=e.Idx) (p:=λx=>gb x.Lin&&x.At.all gb) (k:=some true) (r0:=some false) h.1 ?_ ?_]
  ·cases e.Idx.all λx=>gb x.Lin&&x.At.all gb<;>rfl
  ·intro f i x hx
   have hi:=(List.getElem?_eq_some_iff.1 hx).1
   have h0:=h.1
   obtain⟨p1,p2,p3⟩:=h.2.2.2 x (List.mem_of_getElem? hx)
   simp only[bR]
   rw[if_pos (bs hi),bn hx,Option.bind_some,(oo p1).2,Option.bind_some]
   have hin:eG e (i:Int) (bR e f) fu 0=if x.At.all gb=true then bR e f ((i+1:Nat):Int)else some false:=by
    refine qC (m:=λf' k=>eG e (i:Int) (bR e f) f' k) (l:=x.At) (p:=gb) p2 ?_ ?_
    ·intro f' k y hy
     have hk:=(List.getElem?_eq_some_iff.1 hy).1
     simp only[eG]
     rw[bn hx,Option.bind_some,if_pos (bs hk),Option.bind_some,bn hy,Option.bind_some,(oo (p3 y (List.mem_of_getElem? hy))).2,Option.bind_some,mH (by omega)]
     unfold gb
     cases decide (cv y)<;>rfl
    ·intro f'
     simp only[eG]
     rw[bn hx,Option.bind_some,if_neg (by simp)]
     unfold lF;rw[mH (by omega)]
   rw[hin]
   unfold gb
   cases decide (cv x.Lin)<;>rfl
  ·intro f
   simp only[bR]
   rw[if_neg (by simp)]
 unfold lV xF
 rw[hl,(oo h.2.2.1).2]
 unfold gb
 by_cases h1:e.Op=1
 ·rw[zZ (ht h1) hv]
  cases wJ e.Type_ e.Val<;>cases decide (cv e.Lin)<;>simp[h1,gd]
 ·cases decide (cv e.Lin)<;>simp[h1,gd]
end Go.Proofs.YtmhoikfoogemnaaGreatDoor
