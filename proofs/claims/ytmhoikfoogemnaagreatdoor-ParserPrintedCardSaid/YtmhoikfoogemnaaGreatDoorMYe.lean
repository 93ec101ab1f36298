import Derived.Test.YtmhoikfoogemnaaGreatDoorMYc
namespace Go.Proofs.YtmhoikfoogemnaaGreatDoor
open Go Go.RowKit Go.Vc
set_option linter.unusedVariables false
set_option linter.unusedSimpArgs false
def wI (x:av):Nat:=x.Lin.L.length+x.At.length+(x.At.map (·.L.length)).sum
def wE:ac→Nat
 | ⟨_,_,_,_,l,idx,args⟩=>1+l.L.length+idx.length+(idx.map wI).sum+go args
 where go:List ac→Nat
  | []=>0
  | x::xs=>wE x+go xs
theorem Eo:∀ (xs:List ac),wE.go xs=(xs.map wE).sum
 | []=>rfl
 | x::xs=>by rw[wE.go,Eo xs,List.map_cons,List.sum_cons]
theorem rW (x:ac):wE x=1+x.Lin.L.length+x.Idx.length+(x.Idx.map wI).sum+(x.Args.map wE).sum:=by
 cases x;rw[wE,Eo]
theorem sb {zs:List Nat} {i x:Nat} (h:zs[i]? =some x):(zs.take (i+1)).sum=(zs.take i).sum+x:=by rw[bT h,List.sum_append];simp
theorem qQ (zs:List Nat) (i:Nat):(zs.take i).sum≤zs.sum:=by
 conv=>rhs;rw[← List.take_append_drop i zs,List.sum_append]
 omega
theorem vv {zs:List Nat} {x:Nat} (h:x∈zs):x≤zs.sum:=by
 induction zs with
 | nil=>cases h
 | cons a zs ih=>
  rw[List.sum_cons]
  rcases List.mem_cons.1 h with rfl | h
  ·omega
  ·have:=ih h;omega
theorem tq {R:Type} {L:Nat→Int→Int→Option R} {k:Int→Option R} (zs:List Nat) (hlen:zs.length<4611686018427387904) {most B:Int} (n0:Int)
  (rd:∀ (f i:Nat) (n:Int) (x:Nat),zs[i]? =some x→n0≤n→n≤most→∃ d:Int,0≤d∧n+d≤most+B∧((x:Int)≤most - n→d=x)∧(most - n<x→most - n<d)∧L (f+1) n (i:Int)=L f (n+d) ((i+1:Nat):Int))
  (ex:∀ (f i:Nat) (n:Int),i≤zs.length→(i=zs.length∨most<n)→L (f+1) n (i:Int)=k n) (h1:n0≤most+B):
  ∃ n:Int,L fu n0 0=k n∧n0≤n∧n≤most+B∧(n0+(zs.sum:Nat)≤most→n=n0+(zs.sum:Nat))∧(most<n0+(zs.sum:Nat)→most<n):=by
 have key:∀ (m f i:Nat) (n:Int),i+m=zs.length→m<f→n0≤n→n≤most+B→(n=n0+((zs.take i).sum:Nat)∨most<n∧most<n0+(zs.sum:Nat))→
   ∃ n':Int,L f n (i:Int)=k n'∧n0≤n'∧n'≤most+B∧(n0+(zs.sum:Nat)≤most→n'=n0+(zs.sum:Nat))∧(most<n0+(zs.sum:Nat)→most<n'):=by
  intro m
  induction m with
  | zero=>
   intro f i n h hf g0 g1 hI
   obtain⟨f,rfl⟩:∃ q,f=q+1:=⟨f - 1,by omega⟩
   refine⟨n,ex f i n (by omega) (.inl (by omega)),g0,g1,?_,?_⟩
   ·intro h3;rcases hI with h | ⟨h,h4⟩
    ·rw[h,show i=zs.length by omega,List.take_length]
    ·omega
   ·intro h3;rcases hI with h | ⟨h,h4⟩
    ·rw[h,show i=zs.length by omega,List.take_length];exact h3
    ·exact h
  | succ m ih=>
   intro f i n h hf g0 g1 hI
   obtain⟨f,rfl⟩:∃ q,f=q+1:=⟨f - 1,by omega⟩
   by_cases hn:n≤most
   ·have hI:n=n0+((zs.take i).sum:Nat):=hI.resolve_right fun h=>by omega
    obtain⟨x,hx⟩:=bZ (l:=zs) (i:=i) (by omega)
    obtain⟨d,d0,d1,d2,d3,d4⟩:=rd f i n x hx g0 hn
    rw[d4]
    have ht:=sb hx
    have hs:=qQ zs (i+1)
    refine ih f (i+1) (n+d) (by omega) (by omega) (by omega) d1 ?_
    by_cases hx2:(x:Int)≤most - n
    ·left;rw[d2 hx2,ht,hI];omega
    ·right;have:=d3 (by omega);exact⟨by omega,by omega⟩
   ·refine⟨n,ex f i n (by omega) (.inr (by omega)),g0,g1,?_,fun _=>by omega⟩
    intro h3
    have hs:=qQ zs i
    rcases hI with h | ⟨_,h4⟩<;>omega
 exact key zs.length fu 0 n0 (by omega) (by unfold fu;omega) (by omega) h1 (.inl (by simp))
theorem okGExpr.out {e:ac} (h:okGExpr e):okGLin e.Lin∧HH l5 e.Idx∧HH okGExpr e.Args:=by obtain⟨_,_,_,_,h1,h2,h3⟩:=lQ.1 h;exact⟨h1,h2,h3⟩
theorem BC {α β:Type} {f:α→β} {l:List α} {i:Nat} {y:β} (h:(l.map f)[i]? =some y):∃ x,l[i]? =some x∧f x=y:=by rw[List.getElem?_map,Option.map_eq_some_iff]at h;exact h
theorem El {p:Int} (h: -4611686018427387904≤p∧p≤4611686018427387904):au p=p:=uV (p:=p) ⟨by omega,by omega⟩
theorem Ck:∀ (f:Nat) (e:ac) (most:Int),okGExpr e→0≤most→most≤300→most<(f:Int)→
  ∃ r,dh f e most=some r∧0≤r∧r≤most+562949953421312∧((wE e:Int)≤most→r=wE e)∧(most<(wE e:Int)→most<r)
 | 0,e,most,_,h0,_,hf=>by omega
 | f+1,e,most,he,h0,h3,hf=>by
  obtain⟨hL,hI,hA⟩:=he.out
  have l1:=hL.2.2
  have l2:=hI.2
  have l3:=hA.2
  show ∃ r,kL (dh f) e most=some r∧ _
  unfold kL
  rw[El (p:=1+(e.Lin.L.length:Int)) (by omega),El (p:=1+(e.Lin.L.length:Int)+(e.Idx.length:Int)) (by omega),Option.bind_some]
  have args:∀ n:Int,1≤n→n≤most+562949953421312→∃ r,iO e most (dh f) n=some r∧n≤r∧r≤most+562949953421312∧(n+(((e.Args.map wE).sum:Nat):Int)≤most→r=n+(((e.Args.map wE).sum:Nat):Int))∧(most<n+(((e.Args.map wE).sum:Nat):Int)→most<r):=by
   intro n hn1 hn2
   refine tq (L:=fun f' n i=>fM e most (dh f) f' n i) (k:=some) (e.Args.map wE) (by rw[List.length_map];omega) n ?_ ?_ hn2
   ·intro f' i n' x hx g0 g1
    obtain⟨y,hy,rfl⟩:=BC hx
    have hi:=(List.getElem?_eq_some_iff.1 hy).1
    obtain⟨r,q1,q2,q3,q4,q5⟩:=Ck f y (most - n') (hA.1 y (List.mem_of_getElem? hy)) (by omega) (by omega) (by omega)
    refine⟨r,q2,by omega,q4,q5,?_⟩
    simp only[fM]
    rw[bX hi,decide_eq_true g1,Bool.and_self,if_pos rfl,bS hy,Option.bind_some,El (p:=most - n') (by omega),q1,Option.bind_some,El (p:=n'+r) (by omega),ni (by omega)]
   ·intro f' i n' hi hor
    rw[List.length_map]at hi hor
    simp only[fM]
    rw[if_neg]
    rcases hor with h | h
    ·simp[h]
    ·simp;omega
  have idx:∃ n,cx e most (dh f) fu (1+(e.Lin.L.length:Int)+(e.Idx.length:Int)) 0=iO e most (dh f) n∧1+(e.Lin.L.length:Int)+(e.Idx.length:Int)≤n∧n≤most+562949953421312∧
    (1+(e.Lin.L.length:Int)+(e.Idx.length:Int)+(((e.Idx.map wI).sum:Nat):Int)≤most→n=1+(e.Lin.L.length:Int)+(e.Idx.length:Int)+(((e.Idx.map wI).sum:Nat):Int))∧(most<1+(e.Lin.L.length:Int)+(e.Idx.length:Int)+(((e.Idx.map wI).sum:Nat):Int)→most<n):=by
   refine tq (L:=fun f' n i=>cx e most (dh f) f' n i) (k:=iO e most (dh f)) (e.Idx.map wI) (by rw[List.length_map];omega) _ ?_ ?_ (by omega)
   ·intro f' i n x hx g0 g1
    obtain⟨y,hy,rfl⟩:=BC hx
    have hi:=(List.getElem?_eq_some_iff.1 hy).1
    obtain⟨o1,_,o2⟩:=hI.1 y (List.mem_of_getElem? hy)
    have p1:=o1.2.2
    have p2:=o2.2
    obtain⟨n',q1,q2,q3,q4,q5⟩:=tq (L:=fun f'' n k=>fL e (i:Int) most (cx e most (dh f) f') f'' n k) (k:=fun n=>cx e most (dh f) f' n ((i+1:Nat):Int)) (y.At.map (·.L.length)) (by rw[List.length_map];omega) (most:=most) (B:=562949953421312) (n+(y.Lin.L.length:Int)+(y.At.length:Int)) (by
     intro f'' k n'' x hx g2 g3
     obtain⟨z,hz,rfl⟩:=BC hx
     have hk:=(List.getElem?_eq_some_iff.1 hz).1
     have p3:=(o2.1 z (List.mem_of_getElem? hz)).2.2
     refine⟨(z.L.length:Int),by omega,by omega,fun _=>rfl,fun h=>h,?_⟩
     simp only[fL]
     rw[bS hy,Option.bind_some,bX hk,decide_eq_true g3,Bool.and_self,if_pos rfl,Option.bind_some,bS hz,Option.bind_some,Option.bind_some,El (p:=n''+(z.L.length:Int)) (by omega),ni (by omega)]) (by
     intro f'' k n'' hk hor
     rw[List.length_map]at hk hor
     simp only[fL]
     rw[bS hy,Option.bind_some,if_neg]
     ·unfold lG;rw[ni (by omega)]
     ·rcases hor with h | h
      ·simp[h]
      ·simp;omega) (by omega)
    refine⟨n' - n,by omega,by omega,fun h=> ?_,fun h=> ?_,?_⟩
    ·have:=q4 (by unfold wI at h;omega)
     unfold wI;omega
    ·have:=q5 (by unfold wI at h;omega)
     omega
    ·simp only[cx]
     rw[bX hi,decide_eq_true g1,Bool.and_self,if_pos rfl,bS hy,Option.bind_some,Option.bind_some,El (p:=n+(y.Lin.L.length:Int)) (by omega),El (p:=n+(y.Lin.L.length:Int)+(y.At.length:Int)) (by omega),q1,show n+(n' - n)=n' by omega]
   ·intro f' i n' hi hor
    rw[List.length_map]at hi hor
    simp only[cx]
    rw[if_neg]
    rcases hor with h | h
    ·simp[h]
    ·simp;omega
  obtain⟨n,i1,i2,i3,i4,i5⟩:=idx
  obtain⟨r,a1,a2,a3,a4,a5⟩:=args n (by omega) i3
  refine⟨r,by rw[i1,a1],by omega,a3,?_,?_⟩
  ·rw[rW]
   intro h
   have e1:=i4 (by omega)
   have e2:=a4 (by omega)
   omega
  ·rw[rW]
   intro h
   by_cases hc:1+(e.Lin.L.length:Int)+(e.Idx.length:Int)+(((e.Idx.map wI).sum:Nat):Int)≤most
   ·have e1:=i4 hc
    exact a5 (by omega)
   ·have:=i5 (by omega);omega
theorem B4 {e:ac} (he:okGExpr e) {most:Int} (h0:0≤most) (h:most≤300):∃ r,pJ e most=some r∧((wE e:Int)≤most→r=wE e)∧(most<(wE e:Int)→most<r):=by
 obtain⟨r,h1,_,_,h4,h5⟩:=Ck fu e most he h0 h (by unfold fu;omega)
 exact⟨r,h1,h4,h5⟩
theorem Ae {e:ac} (he:okGExpr e):lk e=some (decide (wE e≤300)):=by
 obtain⟨r,h1,h2,h3⟩:=B4 he (most:=300) (by omega) (by omega)
 unfold lk
 rw[h1,Option.bind_some]
 refine congrArg some (decide_eq_decide.2 ?_)
 constructor
 ·intro h;by_cases hc:wE e≤300
  ·exact hc
  ·have:=h3 (by omega);omega
 ·intro h;have:=h2 (by omega);omega
end Go.Proofs.YtmhoikfoogemnaaGreatDoor
namespace Go.Proofs.YtmhoikfoogemnaaGreatDoor
open Go Go.RowKit Go.Vc
set_option linter.unusedVariables false
set_option linter.unusedSimpArgs false
def i8:List (List UInt8)→List UInt8
 | []=>[]
 | [a]=>a
 | a::b::r=>a++([44,32]++i8 (b::r))
theorem rG:∀ (ts:List (List UInt8)) (t:List UInt8),i8 (ts++[t])=if ts=[]then t else i8 ts++([44,32]++t)
 | [],t=>rfl
 | [a],t=>rfl
 | a::b::r,t=>by
  have:=rG (b::r) t
  rw[if_neg (by simp)]at this ⊢
  simp only[List.cons_append]at this ⊢
  rw[i8,this];simp[i8]
def mL (ts:List (List UInt8)):Nat:=(ts.map fun t=>t.length+2).sum
theorem j8:∀ (ts:List (List UInt8)),(i8 ts).length≤mL ts
 | []=>by simp[i8,mL]
 | [a]=>by simp[i8,mL]
 | a::b::r=>by
  have:=j8 (b::r)
  rw[i8]
  simp only[mL,List.map_cons,List.sum_cons,List.length_append,List.length_cons,List.length_nil]at *
  omega
theorem DH (ts:List (List UInt8)) (i:Nat):mL (ts.take i)≤mL ts:=by
 unfold mL;rw[List.map_take];exact qQ _ _
theorem CZ {ts:List (List UInt8)} {i:Nat} {t:List UInt8} (h:ts[i]? =some t):mL (ts.take i)+t.length+2≤mL ts:=by
 have h1:=DH ts (i+1)
 rw[bT h]at h1
 unfold mL at *
 rw[List.map_append,List.sum_append]at h1
 simpa[Nat.add_assoc]using h1
theorem GV {ts:List (List UInt8)} {c:Nat} (h:∀ t∈ts,t.length≤c):mL ts≤ts.length * (c+2):=by
 induction ts with
 | nil=>simp[mL]
 | cons a ts ih=>
  have h1:=ih fun t ht=>h t (by simp[ht])
  have h2:=h a (by simp)
  unfold mL at *
  rw[List.map_cons,List.sum_cons,List.length_cons,Nat.add_mul];omega
theorem Cy {α:Type} {l:List α} {i:Nat} (h:i+1<l.length):¬ l.take (i+1)=[]:=fun h0=>by
 rcases List.take_eq_nil_iff.1 h0 with h0 | h0
 ·omega
 ·rw[h0]at h;simp at h
abbrev okR (l:ay):Prop:=(∀ m∈l.L,jS m.By)∧jS l.K
theorem okGLin.r {l:ay} (h:okGLin l):okR l:=⟨fun m hm=>xH (h.2.1 m hm).2,xH h.1⟩
theorem sx {l:ay} (h:okR l):(nP l).length≤40 * l.L.length+24:=by
 unfold nP
 by_cases ho:d8 l
 ·rw[if_pos ho];exact Ap ho h.1 h.2
 ·rw[if_neg ho];simp
def yK (x:av):List UInt8:=
 if d8 x.Lin∧∀ f∈x.At,d8 f then
  if x.From=[]then(if x.At=[]then BG x.Lin else[])
  else if cp x.From=true∧x.Lin.K=0∧x.Lin.L=[]then x.From++([91]++(i8 (x.At.map nP)++[93]))else[]
 else[]
def smI (x:av):Prop:=l5 x∧wI x≤300
theorem smI.lens {x:av} (h:smI x):x.Lin.L.length≤300∧x.At.length≤300∧(∀ f∈x.At,f.L.length≤300)∧mL (x.At.map nP)≤3700000:=by
 obtain⟨⟨_,_,ho⟩,h⟩:=h
 unfold wI at h
 have h3:∀ f∈x.At,f.L.length≤300:=fun f hf=>by
  have:=vv (List.mem_map_of_mem (f:=fun f:ay=>f.L.length) hf);omega
 refine⟨by omega,by omega,h3,?_⟩
 have:=GV (ts:=x.At.map nP) (c:=12024) (fun t ht=>by
  obtain⟨f,hf,rfl⟩:=List.mem_map.1 ht
  have:=sx (ho.1 f hf).r
  have:=h3 f hf
  omega)
 rw[List.length_map]at this
 have h4:x.At.length * (12024+2)≤300 * (12024+2):=Nat.mul_le_mul_right _ (by omega)
 omega
theorem vH (s:List UInt8):fB s=some (cp s):=by
 by_cases h:s.length≤16
 ·exact xS s (by omega)
 ·unfold fB cp
  have e:decide ((s.length:Int)≤16)=false:=by rw[decide_eq_false_iff_not];omega
  rw[e,decide_eq_false h]
  cases s with
  | nil=>simp at h
  | cons c t=>simp[gd]
end Go.Proofs.YtmhoikfoogemnaaGreatDoor
