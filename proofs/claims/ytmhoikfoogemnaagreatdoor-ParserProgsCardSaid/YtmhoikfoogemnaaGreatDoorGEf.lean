import Derived.Test.YtmhoikfoogemnaaGreatDoorGYf
import Derived.Test.YtmhoikfoogemnaaGreatDoorGYe
namespace Go.Proofs.YtmhoikfoogemnaaGreatDoor
open Go Go.RowKit Go.Vc
set_option linter.unusedVariables false
set_option linter.unusedSimpArgs false
theorem yw {e:GExpr} (h:ym e) (hv:VaR e.Val):lc e=some (oo e):=by
 let Y:GLin→Nat×Int→Option (Bool×(Nat×Int)):=λk_0 q=>if q.1=0 then ff k_0 q.2 else none
 have hY:∀ (l:GLin),l.L.length<4611686018427387904→Y l (0,0)=some (if gY l=true then(true,(0,0))else(false,(1,1))):=λl hl=>by
  show(if(0:Nat)=0 then ff l 0 else none)=_
  rw[if_pos rfl]
  unfold ff gY
  rw[(xI hl).1,Option.bind_some]
  by_cases ho:pC l<;>simp[ho]
 have hl:bN e Y fu 0 (0,0)=if(e.Idx.all λx=>gY x.Lin&&x.At.all gY)=true then some ((),(0,0))else some ((),(1,1)):=by
  refine qx (m:=λf i=>bN e Y f i (0,0)) (l:=e.Idx) (p:=λx=>gY x.Lin&&x.At.all gY) h.1 ?_ ?_
  ·intro f i x hx
   have hi:=(List.getElem?_eq_some_iff.1 hx).1
   have h0:=h.1
   obtain⟨p1,p2,p3⟩:=h.2.2.2 x (List.mem_of_getElem? hx)
   simp only[bN]
   rw[if_pos (bS hi),cD hx,Option.bind_some,hY _ p1,Option.bind_some]
   have hin:dT x Y (bN e Y f) (i:Int) fu 0 (0,0)=if x.At.all gY=true then bN e Y f ((i+1:Nat):Int) (0,0)else some ((),(1,1)):=by
    refine qx (m:=λf' k=>dT x Y (bN e Y f) (i:Int) f' k (0,0)) (l:=x.At) (p:=gY) p2 ?_ ?_
    ·intro f' k y hy
     have hk:=(List.getElem?_eq_some_iff.1 hy).1
     simp only[dT]
     rw[if_pos (bS hk),cD hy,Option.bind_some,hY _ (p3 y (List.mem_of_getElem? hy)),Option.bind_some,nu (by omega)]
     cases gY y<;>rfl
    ·intro f'
     simp only[dT]
     rw[if_neg (by simp)]
     unfold kP;rw[nu (by omega)]
   cases gY x.Lin
   ·rfl
   ·simp only[if_true,Bool.true_and,Bool.not_true,Bool.false_eq_true,if_false];exact hin
  ·intro f
   simp only[bN]
   rw[if_neg (by simp)]
 unfold lc oo
 rw[CL h,DX h,FJ h,(yx h).1,B5 hv]
 cases uM e
 ·rfl
 cases uO e
 ·rfl
 cases x5 e
 ·rfl
 cases ht:wG e
 ·rfl
 simp only[Option.bind_some,Bool.not_true,Bool.false_eq_true,if_false,if_true]
 have ht1:e.Op=1→tR e.Type_=true:=λh1=>by unfold wG at ht;simp[h1]at ht;exact ht.1
 unfold CH
 have hform:(oG e).bind (λr6=>(lf Y r6 (0,0)).bind λ⟨u1,o1,v2⟩=>if o1=0 then some 0 else if o1=1 then some v2 else none)=some (if(gY e.Lin&&e.Idx.all λx=>gY x.Lin&&x.At.all gY)=true then(0:Int)else 1):=by
  unfold oG lf
  rw[Option.bind_some,hY _ h.2.2.1,Option.bind_some]
  cases gY e.Lin
  ·rfl
  ·simp only[if_true,Bool.true_and,Bool.not_true,Bool.false_eq_true,if_false]
   rw[hl]
   cases (e.Idx.all λx=>gY x.Lin&&x.At.all gY)<;>rfl
 by_cases h1:e.Op=1
 ·simp only[h1,ht1 h1,decide_true,gd,if_true,Bool.true_and,Option.bind_some,Bool.not_true,Bool.false_or]
  cases DH e.Type_ e.Val
  ·simp
  ·simp only[Bool.not_true,Bool.false_eq_true,if_false,Bool.true_and];exact hform
 ·simp only[h1,decide_false,gd,Bool.false_eq_true,if_false,Bool.false_and,Option.bind_some,Bool.not_false,Bool.true_or,Bool.true_and]
  exact hform
def xh {α:Type} (g:α→Int):List α→Int
 | []=>0
 | x::l=>if g x=0 then xh g l else g x
def rY:GExpr→Int
 | ⟨op,nm,v,t,l,ix,args⟩=>if oo ⟨op,nm,v,t,l,ix,args⟩=0 then go args else oo ⟨op,nm,v,t,l,ix,args⟩
 where go:List GExpr→Int
  | []=>0
  | x::xs=>if rY x=0 then go xs else rY x
theorem EW:∀ (l:List GExpr),rY.go l=xh rY l
 | []=>rfl
 | x::l=>by rw[rY.go,xh,EW l]
theorem EX (e:GExpr):rY e=if oo e=0 then xh rY e.Args else oo e:=by cases e;rw[rY,EW]
def nE:GExpr→Nat
 | ⟨_,_,_,_,_,_,args⟩=>1+go args
 where go:List GExpr→Nat
  | []=>0
  | x::xs=>nE x+go xs
theorem I1:∀ (l:List GExpr),nE.go l=(l.map nE).sum
 | []=>rfl
 | x::l=>by rw[nE.go,I1 l,List.map_cons,List.sum_cons]
theorem G7 (e:GExpr):nE e=1+(e.Args.map nE).sum:=by cases e;rw[nE,I1]
def sP:List Nat→Nat
 | []=>0
 | x::l=>max x (sP l)
def dE:GExpr→Nat
 | ⟨_,_,_,_,_,_,args⟩=>1+go args
 where go:List GExpr→Nat
  | []=>0
  | x::xs=>max (dE x) (go xs)
theorem I8:∀ (l:List GExpr),dE.go l=sP (l.map dE)
 | []=>rfl
 | x::l=>by rw[dE.go,I8 l,List.map_cons,sP]
theorem I9 (e:GExpr):dE e=1+sP (e.Args.map dE):=by cases e;rw[dE,I8]
theorem v8 {e a:GExpr} (h:a∈e.Args):wE a<wE e:=by
 rw[B3 e]
 have:=DN (List.mem_map_of_mem (f:=wE) h)
 omega
theorem I0:∀ (k:Nat) (e:GExpr),wE e<k→nE e≤wE e
 | 0,_,h=>absurd h (by omega)
 | k+1,e,h=>by
  rw[G7,B3]
  have:(e.Args.map nE).sum≤(e.Args.map wE).sum:=by
   have hall:∀ a∈e.Args,nE a≤wE a:=λa ha=>I0 k a (by have:=v8 ha;omega)
   generalize e.Args=l at hall
   induction l with
   | nil=>simp
   | cons x l ih=>
    rw[List.map_cons,List.map_cons,List.sum_cons,List.sum_cons]
    have h1:=hall x (by simp)
    have h2:=ih λa ha=>hall a (by simp[ha])
    omega
  omega
theorem Lj (e:GExpr):nE e≤wE e:=I0 (wE e+1) e (by omega)
theorem H0 {e:GExpr} :e.Args.length≤wE e:=by
 rw[B3]
 have:e.Args.length≤(e.Args.map wE).sum:=by
  generalize e.Args=l
  induction l with
  | nil=>simp
  | cons x l ih=>
   rw[List.map_cons,List.sum_cons,List.length_cons]
   have:1≤wE x:=by rw[B3];omega
   omega
 omega
theorem yv {α R:Type} {m:Nat→Int→Option R} {l:List α} {g:α→Int} {k:Option R} {r:Int→Option R} (hn:l.length<4611686018427387904)
  (rd:∀ (f i:Nat) x,l[i]? =some x→m (f+1) (i:Int)=if g x=0 then m f ((i+1:Nat):Int)else r (g x)) (ed:∀ f,m (f+1) (l.length:Int)=k):m fu 0=if xh g l=0 then k else r (xh g l):=by
 refine kQ (L:=λf (_:Unit) i=>m f i) (n:=l.length) hn (λi _=>xh g l=xh g (l.drop i)) ?_ ?_ () rfl
 ·intro f i _ hi hI
  obtain⟨x,hx⟩:=cC hi
  rw[qJ hx,xh]at hI
  by_cases h:g x=0
  ·left;rw[if_pos h]at hI;exact⟨(),hI,by rw[rd f i x hx,if_pos h]⟩
  ·right
   rw[if_neg h]at hI
   rw[show m (f+1) (i:Int)=r (g x)by rw[rd f i x hx,if_neg h],hI,if_neg h]
 ·intro f _ hI
  rw[List.drop_length]at hI
  rw[hI,show xh g ([]:List α)=0 from rfl,if_pos rfl];exact ed f
theorem Dv {f:Nat} :∀ {e:GExpr},okGExpr e→wE e<f→kS f e=some (rY e):=by
 induction f with
 | zero=>intro e _ h;omega
 | succ f ih=>
  intro e ho hw
  have hl:=ho.len
  have hv:VaR e.Val:=VaR.of (okGExpr_iff.1 ho).2.2.1
  show mK (kS f) e=_
  unfold mK
  rw[Cn hl,Co hl,AJ hl,(yx hl).2,EX]
  unfold oo
  cases uM e
  ·rfl
  cases uO e
  ·rfl
  cases x5 e
  ·rfl
  cases ht:wG e
  ·rfl
  have ht1:e.Op=1→tR e.Type_=true:=λh1=>by unfold wG at ht;simp[h1]at ht;exact ht.1
  rw[AK hl hv ht1]
  cases CH e
  ·rfl
  simp only[Option.bind_some,Bool.not_true,Bool.false_eq_true,if_false,if_true]
  rw[yv (m:=λf' i=>ir e (kS f) f' i) (l:=e.Args) (g:=rY) (k:=some 0) (r:=some) hl.2.1 ?_ ?_]
  ·by_cases h:xh rY e.Args=0
   ·rw[if_pos h,h]
   ·rw[if_neg h]
  ·intro f' i x hx
   have hi:=(List.getElem?_eq_some_iff.1 hx).1
   have hm:=List.mem_of_getElem? hx
   have:=hl.2.1
   have:=v8 hm
   simp only[ir]
   rw[if_pos (bS hi),cD hx,Option.bind_some,ih (ho.out.2.2.1 x hm) (by omega),Option.bind_some,nu (by omega)]
   by_cases h:rY x=0
   ·rw[if_neg (by simp[h]),if_pos h]
   ·rw[if_pos (by simp[h]),if_neg h]
  ·intro f'
   simp only[ir]
   rw[if_neg (by simp)]
theorem FH {f:Nat} :∀ {e:GExpr},okGExpr e→wE e<f→gI f e (λk_0 q=>if q.1=0 then eB k_0 q.2 else none) ((0,0):Nat×Int)=some (if rY e=0 then(true,(0,0))else(false,(1,rY e))):=by
 induction f with
 | zero=>intro e _ h;omega
 | succ f ih=>
  intro e ho hw
  have hl:=ho.len
  have hv:VaR e.Val:=VaR.of (okGExpr_iff.1 ho).2.2.1
  show jl (gI f) e _ _ =_
  unfold jl
  have h0:(λ(k_0:GExpr) (q:Nat×Int)=>if q.1=0 then eB k_0 q.2 else none) e (0,0)=some (if oo e=0 then(true,(0,0))else(false,(1,oo e))):=by
   show(if(0:Nat)=0 then eB e 0 else none)=_
   rw[if_pos rfl]
   unfold eB
   rw[yw hl hv,Option.bind_some]
   by_cases h:oo e=0<;>simp[h]
  rw[h0,Option.bind_some,EX]
  by_cases h:oo e=0
  rotate_left
  ·simp[h]
  simp only[h,if_true,Bool.not_true,Bool.false_eq_true,if_false]
  rw[yv (m:=λf' i=>d7 e (gI f) _ f' i ((0,0):Nat×Int)) (l:=e.Args) (g:=rY) (k:=some (true,(0,0))) (r:=λv=>some (false,(1,v))) hl.2.1 ?_ ?_]
  ·by_cases h:xh rY e.Args=0
   ·rw[if_pos h,if_pos h]
   ·rw[if_neg h,if_neg h]
  ·intro f' i x hx
   have hi:=(List.getElem?_eq_some_iff.1 hx).1
   have hm:=List.mem_of_getElem? hx
   have:=hl.2.1
   have:=v8 hm
   simp only[d7]
   rw[if_pos (bS hi),cD hx,Option.bind_some,ih (ho.out.2.2.1 x hm) (by omega),Option.bind_some,nu (by omega)]
   by_cases h:rY x=0
   ·simp[h]
   ·simp[h]
  ·intro f'
   simp only[d7]
   rw[if_neg (by simp)]
theorem Ha (a b:List Nat):sP (a++b)=max (sP a) (sP b):=by
 induction a with
 | nil=>simp[sP]
 | cons x a ih=>rw[List.cons_append,sP,sP,ih];omega
theorem Ko (e:GExpr):1≤dE e:=by rw[I9];omega
theorem Bf {f:Nat} :∀ {e:GExpr} {oV:Nat},okGExpr e→oV<f→1≤oV→oV≤41→lg f e (oV:Int)=some ((min (dE e) oV:Nat):Int)∧j6 f e (oV:Int)=some ((min (dE e) oV:Nat):Int):=by
 induction f with
 | zero=>intro e n _ h;omega
 | succ f ih=>
  intro e oV ho hw h1 hm
  have hl:=ho.len
  have hp:=Ko e
  show mU (lg f) e (oV:Int)=_ ∧lV (j6 f) e (oV:Int)=_
  unfold mU lV
  have step:∀ (i:Nat) x,e.Args[i]? =some x→1<oV→max ((1+min (sP ((e.Args.map dE).take i)) (oV - 1):Nat):Int) (au (1+((min (dE x) (oV - 1):Nat):Int)))=((1+min (sP ((e.Args.map dE).take (i+1))) (oV - 1):Nat):Int):=λi x hx h2=>by
   rw[LF (by omega),dm (x:=dE x) (by rw[List.getElem?_map,hx];rfl),Ha]
   simp only[sP]
   omega
  have last:1<oV→((1+min (sP ((e.Args.map dE).take e.Args.length)) (oV - 1):Nat):Int)=((min (dE e) oV:Nat):Int):=λh2=>by
   rw[I9,show e.Args.length=(e.Args.map dE).length by rw[List.length_map],List.take_length];omega
  by_cases hlim:1<oV
  ·constructor
   ·rw[if_neg (by simp;omega)]
    refine kQ (L:=λf' s i=>iv e (lg f) (oV:Int) f' s i) (n:=e.Args.length) hl.2.1 (λi s=>s=((1+min (sP ((e.Args.map dE).take i)) (oV - 1):Nat):Int)) ?_ ?_ _ (by simp[sP])
    ·rintro f' i s hi rfl
     obtain⟨x,hx⟩:=cC hi
     have hm:=List.mem_of_getElem? hx
     left
     refine⟨_,rfl,?_⟩
     simp only[iv]
     rw[if_pos (bS hi),cD hx,Option.bind_some,LF (by omega),show(oV:Int) - 1=((oV - 1:Nat):Int)by omega,(ih (ho.out.2.2.1 x hm) (by omega) (by omega) (by omega)).1,Option.bind_some,nu (by omega),step i x hx hlim]
    ·rintro f' s rfl
     simp only[iv]
     rw[if_neg (by simp),last hlim]
   ·refine kQ (L:=λf' s i=>fT e (oV:Int) (j6 f) f' s i) (n:=e.Args.length) hl.2.1 (λi s=>s=((1+min (sP ((e.Args.map dE).take i)) (oV - 1):Nat):Int)) ?_ ?_ _ (by simp[sP])
    ·rintro f' i s hi rfl
     obtain⟨x,hx⟩:=cC hi
     have hm:=List.mem_of_getElem? hx
     left
     refine⟨_,rfl,?_⟩
     simp only[fT]
     rw[bS hi,decide_eq_true (show(1:Int)<(oV:Int)by omega),Bool.and_self,if_pos rfl,cD hx,Option.bind_some,LF (by omega),show(oV:Int) - 1=((oV - 1:Nat):Int)by omega,(ih (ho.out.2.2.1 x hm) (by omega) (by omega) (by omega)).2,Option.bind_some,nu (by omega),step i x hx hlim]
    ·rintro f' s rfl
     simp only[fT]
     rw[if_neg (by simp),last hlim]
  ·have e1:oV=1:=by omega
   subst e1
   constructor
   ·rw[if_pos (by simp)];refine congrArg some ?_;omega
   ·obtain⟨g,hg⟩:∃ g,fu=g+1:=⟨fu - 1,by unfold fu;omega⟩
    rw[hg]
    simp only[fT]
    rw[if_neg (by simp)];refine congrArg some ?_;omega
end Go.Proofs.YtmhoikfoogemnaaGreatDoor
namespace Go.Proofs.YtmhoikfoogemnaaGreatDoor
open Go Go.RowKit Go.Vc
set_option linter.unusedVariables false
set_option linter.unusedSimpArgs false
end Go.Proofs.YtmhoikfoogemnaaGreatDoor
namespace Go.Proofs.YtmhoikfoogemnaaGreatDoor
open Go Go.RowKit Go.Vc
set_option linter.unusedVariables false
set_option linter.unusedSimpArgs false
end Go.Proofs.YtmhoikfoogemnaaGreatDoor
namespace Go.Proofs.YtmhoikfoogemnaaGreatDoor
open Go Go.RowKit Go.Vc
set_option linter.unusedVariables false
set_option linter.unusedSimpArgs false
theorem vt {α:Type} {l:List α} {i:Nat} {x:α} (h:l[i]? =some x):i<l.length:=(List.getElem?_eq_some_iff.1 h).1
def defF (d:eF):Prop:=(0≤d.Fold∧d.Fold≤5)∧((d.Fold=0∨d.Fold=5)→d.Red=[])
instance (d:eF):Decidable (defF d):=inferInstanceAs (Decidable (_ ∧ _))
theorem ay {α:Type} [Inhabited α] (g:Bool) (v:α):gd g (some v)=some (if g=true then v else default):=by unfold gd;cases g<;>rfl
end Go.Proofs.YtmhoikfoogemnaaGreatDoor
namespace Go.Proofs.YtmhoikfoogemnaaGreatDoor
open Go Go.RowKit Go.Vc
set_option linter.unusedVariables false
set_option linter.unusedSimpArgs false
end Go.Proofs.YtmhoikfoogemnaaGreatDoor
namespace Go.Proofs.YtmhoikfoogemnaaGreatDoor
open Go Go.RowKit Go.Vc
set_option linter.unusedVariables false
set_option linter.unusedSimpArgs false
def digB (c:UInt8):Bool:=decide (48≤(c.toNat:Int))&&decide ((c.toNat:Int)≤57)
def kR:List (List UInt8):=[[40],[41],[91],[93],[44],[43],[45],[42],[47],[60],[38],[124],[33],[58],[59],[60,61],[61,61]]
def Ln (t:List UInt8):Int:=if sQ (t.headD 0)=true then 1 else if digB (t.headD 0)=true then 2 else 3
end Go.Proofs.YtmhoikfoogemnaaGreatDoor
namespace Go.Proofs.YtmhoikfoogemnaaGreatDoor
open Go Go.RowKit Go.Vc
set_option linter.unusedVariables false
set_option linter.unusedSimpArgs false
def tkL:Nat→List (List UInt8)→List bm
 | _,[]=>[]
 | o,t::r=>if t=[32]then tkL (o+1) r else⟨Ln t,o,t⟩::tkL (o+t.length) r
end Go.Proofs.YtmhoikfoogemnaaGreatDoor
namespace Go.Proofs.YtmhoikfoogemnaaGreatDoor
open Go Go.RowKit Go.Vc
set_option linter.unusedVariables false
set_option linter.unusedSimpArgs false
end Go.Proofs.YtmhoikfoogemnaaGreatDoor
namespace Go.Proofs.YtmhoikfoogemnaaGreatDoor
open Go Go.RowKit Go.Vc
set_option linter.unusedVariables false
set_option linter.unusedSimpArgs false
end Go.Proofs.YtmhoikfoogemnaaGreatDoor
namespace Go.Proofs.YtmhoikfoogemnaaGreatDoor
open Go Go.RowKit Go.Vc
set_option linter.unusedVariables false
set_option linter.unusedSimpArgs false
end Go.Proofs.YtmhoikfoogemnaaGreatDoor
namespace Go.Proofs.YtmhoikfoogemnaaGreatDoor
open Go Go.RowKit Go.Vc
set_option linter.unusedVariables false
set_option linter.unusedSimpArgs false
def FR (op:Int) (a b:GExpr):GExpr:=⟨op,[],⟨0,0⟩,⟨0,0,0,0,0⟩,⟨0,[]⟩,[],[a,b]⟩
theorem Kk {e f:GExpr} (h1:e.Op=f.Op) (h2:e.Name=f.Name) (h3:e.Val=f.Val) (h4:e.Type_=f.Type_) (h5:e.Lin=f.Lin) (h6:e.Idx=f.Idx) (h7:e.Args=f.Args):e=f:=by
 cases e;cases f
 simp only at h1 h2 h3 h4 h5 h6 h7
 rw[h1,h2,h3,h4,h5,h6,h7]
def Jk (op:Int) (a:GExpr):GExpr:=⟨op,[],⟨0,0⟩,⟨0,0,0,0,0⟩,⟨0,[]⟩,[],[a]⟩
end Go.Proofs.YtmhoikfoogemnaaGreatDoor
namespace Go.Proofs.YtmhoikfoogemnaaGreatDoor
open Go Go.RowKit Go.Vc
set_option linter.unusedVariables false
set_option linter.unusedSimpArgs false
theorem vz {α:Type} {L:Nat→Int→Option Bool} {a b:List α} (hn:a.length<4611686018427387904) (hl:a.length=b.length)
  (rd:∀ f (i:Nat) x y,a[i]? =some x→b[i]? =some y→∃ r:Bool,(r=true↔x=y)∧L (f+1) (i:Int)=if r=true then L f ((i+1:Nat):Int)else some false)
  (fin:∀ f,L (f+1) (a.length:Int)=some true):∃ r,L fu 0=some r∧(r=true↔a=b):=by
 refine qe (L:=λf (_:Unit) i=>L f i) (n:=a.length) hn (λi _=>a.take i=b.take i) (λr=>r=true↔a=b) ?_ ?_ () (by simp)
 ·intro f i _ hi hI
  obtain⟨x,hx⟩:=cC hi
  obtain⟨y,hy⟩:=cC (l:=b) (i:=i) (by omega)
  obtain⟨r,h1,h2⟩:=rd f i x y hx hy
  rw[h2]
  by_cases hr:r=true
  ·left
   refine⟨(),?_,by rw[if_pos hr]⟩
   rw[dm hx,dm hy,hI,h1.1 hr]
  ·right
   refine⟨false,by rw[if_neg hr],λh=>(by cases h),λh=>?_⟩
   subst h
   rw[hx]at hy
   injection hy with hy
   exact absurd (h1.2 hy) hr
 ·intro f _ hI
  refine⟨true,fin f,λ_=>?_,λ_=>rfl⟩
  rw[List.take_length,hl,List.take_length]at hI
  exact hI
theorem qN {a b:GLin} (h:a.L.length<4611686018427387904):∃ r,jU a b=some r∧(r=true↔a=b):=by
 unfold jU
 by_cases hk:a.K=b.K
 ·by_cases hl:a.L.length=b.L.length
  ·rw[if_neg (by simp[hk,hl])]
   obtain⟨r,h1,h2⟩:=vz (L:=λf i=>jD a b f i) h hl (λf i x y hx hy=>by
    have hi:=vt hx
    refine⟨decide (x.Name=y.Name)&&decide (x.By=y.By),?_,?_⟩
    ·simp only[Bool.and_eq_true,decide_eq_true_eq]
     constructor
     ·rintro⟨q1,q2⟩;cases x;cases y;simp only at q1 q2;rw[q1,q2]
     ·rintro rfl;exact⟨rfl,rfl⟩
    ·simp only[jD]
     rw[if_pos (bS hi),cD hx,Option.bind_some,cD hy,Option.bind_some,nu (by omega)]
     cases (decide (x.Name=y.Name)&&decide (x.By=y.By))<;>rfl) (λf=>by
    simp only[jD]
    rw[if_neg (by simp)])
   refine⟨r,h1,h2.trans ?_⟩
   cases a;cases b
   simp only at hk
   simp[hk]
  ·rw[if_pos (by simp;omega)]
   exact⟨false,rfl,λh=>(by cases h),λh=>absurd (by rw[h]) hl⟩
 ·rw[if_pos (by simp[hk])]
  exact⟨false,rfl,λh=>(by cases h),λh=>absurd (by rw[h]) hk⟩
theorem BK {a b:List GLin} (h:a.length<4611686018427387904) (hh:∀ f∈a,f.L.length<4611686018427387904):∃ r,lv a b=some r∧(r=true↔a=b):=by
 unfold lv
 by_cases hl:a.length=b.length
 ·rw[if_neg (by simp[hl])]
  exact vz (L:=λf i=>gz a b f i) h hl (λf i x y hx hy=>by
   have hi:=vt hx
   obtain⟨r,h1,h2⟩:=qN (a:=x) (b:=y) (hh x (List.mem_of_getElem? hx))
   refine⟨r,h2,?_⟩
   simp only[gz]
   rw[if_pos (bS hi),cD hx,Option.bind_some,cD hy,Option.bind_some,h1,Option.bind_some,nu (by omega)]
   cases r<;>rfl) (λf=>by
   simp only[gz]
   rw[if_neg (by simp)])
 ·rw[if_pos (by simp;omega)]
  exact⟨false,rfl,λh=>(by cases h),λh=>absurd (by rw[h]) hl⟩
theorem zS {a b:GIndex} (h:okGIndex a):∃ r,oH a b=some r∧(r=true↔a=b):=by
 obtain⟨o1,_,o2⟩:=h
 obtain⟨r1,p1,p2⟩:=qN (a:=a.Lin) (b:=b.Lin) (by have:=o1.2.2;omega)
 obtain⟨r2,q1,q2⟩:=BK (a:=a.At) (b:=b.At) (by have:=o2.2;omega) (λf hf=>by have:=(o2.1 f hf).2.2;omega)
 unfold oH
 rw[p1,q1,ay,Option.bind_some,ay,Option.bind_some]
 refine⟨_,rfl,?_⟩
 by_cases hf:a.From=b.From
 ·simp only[hf,decide_true,if_true,Bool.true_and]
  cases r1
  ·simp only[Bool.false_and,Bool.false_eq_true,false_iff]
   intro h;subst h;simp at p2
  ·have:=p2.1 rfl
   simp only[if_true,Bool.true_and,q2]
   cases a;cases b
   simp only at hf this
   simp[hf,this]
 ·simp only[hf,decide_false,Bool.false_and,Bool.false_eq_true,false_iff]
  intro h;subst h;exact hf rfl
theorem xv {a b:List GIndex} (h:a.length<4611686018427387904) (hh:∀ f∈a,okGIndex f):∃ r,mX a b=some r∧(r=true↔a=b):=by
 unfold mX
 by_cases hl:a.length=b.length
 ·rw[if_neg (by simp[hl])]
  exact vz (L:=λf i=>gj a b f i) h hl (λf i x y hx hy=>by
   have hi:=vt hx
   obtain⟨r,h1,h2⟩:=zS (a:=x) (b:=y) (hh x (List.mem_of_getElem? hx))
   refine⟨r,h2,?_⟩
   simp only[gj]
   rw[if_pos (bS hi),cD hx,Option.bind_some,cD hy,Option.bind_some,h1,Option.bind_some,nu (by omega)]
   cases r<;>rfl) (λf=>by
   simp only[gj]
   rw[if_neg (by simp)])
 ·rw[if_pos (by simp;omega)]
  exact⟨false,rfl,λh=>(by cases h),λh=>absurd (by rw[h]) hl⟩
theorem vU:∀ (f:Nat) (a b:GExpr),okGExpr a→wE a<f→∃ r,kJ f a b=some r∧(r=true↔a=b)
 | 0,_,_,_,h=>absurd h (by omega)
 | f+1,a,b,ho,hf=>by
  obtain⟨o1,o2,o3⟩:=ho.out
  obtain⟨l1,l2,l3,l4⟩:=ho.len
  obtain⟨r1,p1,p2⟩:=qN (a:=a.Lin) (b:=b.Lin) l3
  obtain⟨r2,q1,q2⟩:=xv (a:=a.Idx) (b:=b.Idx) l1 o2.1
  have hargs:∃ r,oI (kJ f) a.Args b.Args=some r∧(r=true↔a.Args=b.Args):=by
   unfold oI
   by_cases hl:a.Args.length=b.Args.length
   ·rw[if_neg (by simp[hl])]
    exact vz (L:=λg i=>iy a.Args b.Args (kJ f) g i) l2 hl (λg i x y hx hy=>by
     have hi:=vt hx
     have hm:=List.mem_of_getElem? hx
     obtain⟨r,h1,h2⟩:=vU f x y (o3.1 x hm) (by have:=v8 hm;omega)
     refine⟨r,h2,?_⟩
     simp only[iy]
     rw[if_pos (bS hi),cD hx,Option.bind_some,cD hy,Option.bind_some,h1,Option.bind_some,nu (by omega)]
     cases r<;>rfl) (λg=>by
     simp only[iy]
     rw[if_neg (by simp)])
   ·rw[if_pos (by simp;omega)]
    exact⟨false,rfl,λh=>(by cases h),λh=>absurd (by rw[h]) hl⟩
  obtain⟨r3,s1,s2⟩:=hargs
  show ∃ r,nR (kJ f) a b=some r∧ _
  unfold nR
  rw[p1,q1,s1,ay,Option.bind_some,ay,Option.bind_some,ay,Option.bind_some]
  generalize hc:(((decide (a.Op=b.Op)&&decide (a.Name=b.Name))&&(decide (a.Val.N=b.Val.N)&&decide (a.Val.D=b.Val.D)))&&((decide (a.Type_.Kind=b.Type_.Kind))&&(decide (a.Type_.Bits=b.Type_.Bits))&&(decide (a.Type_.Frac=b.Type_.Frac))&&(decide (a.Type_.Round=b.Type_.Round))&&(decide (a.Type_.Over=b.Type_.Over))))=c
  refine⟨_,rfl,?_⟩
  have hcc:c=true↔(a.Op=b.Op∧a.Name=b.Name∧a.Val=b.Val∧a.Type_=b.Type_):=by
   rw[← hc]
   simp only[Bool.and_eq_true,decide_eq_true_eq]
   constructor
   ·rintro⟨⟨⟨x1,x2⟩,x3,x4⟩,⟨⟨⟨y1,y2⟩,y3⟩,y4⟩,y5⟩
    refine⟨x1,x2,?_,?_⟩
    ·cases hv:a.Val;cases hw:b.Val;rw[hv,hw]at x3 x4;simp only at x3 x4;rw[x3,x4]
    ·cases hv:a.Type_;cases hw:b.Type_;rw[hv,hw]at y1 y2 y3 y4 y5;simp only at y1 y2 y3 y4 y5;rw[y1,y2,y3,y4,y5]
   ·rintro⟨x1,x2,x3,x4⟩
    rw[x1,x2,x3,x4];simp
  cases c
  ·simp only[Bool.false_and,Bool.false_eq_true,false_iff]
   intro h;subst h;simp at hcc
  ·obtain⟨x1,x2,x3,x4⟩:=hcc.1 rfl
   simp only[if_true,Bool.true_and]
   cases r1
   ·simp only[Bool.false_and,Bool.false_eq_true,false_iff]
    intro h;subst h;simp at p2
   ·have y1:=p2.1 rfl
    simp only[if_true,Bool.true_and]
    cases r2
    ·simp only[Bool.false_and,Bool.false_eq_true,false_iff]
     intro h;subst h;simp at q2
    ·have y2:=q2.1 rfl
     simp only[if_true,Bool.true_and,s2]
     exact⟨λh=>Kk x1 x2 x3 x4 y1 y2 h,λh=>by rw[h]⟩
end Go.Proofs.YtmhoikfoogemnaaGreatDoor
namespace Go.Proofs.YtmhoikfoogemnaaGreatDoor
open Go Go.RowKit Go.Vc
set_option linter.unusedVariables false
set_option linter.unusedSimpArgs false
theorem rb (a:GLin) (h:a.L.length<4611686018427387904):jU a a=some true:=by
 obtain⟨r,h1,h2⟩:=qN (a:=a) (b:=a) h
 rw[h1,h2.2 rfl]
end Go.Proofs.YtmhoikfoogemnaaGreatDoor
