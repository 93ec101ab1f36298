import Derived.Test.YtmhoikfoogemnaaGreatDoorJYf
namespace Go.Proofs.YtmhoikfoogemnaaGreatDoor
open Go Go.RowKit Go.Vc
set_option linter.unusedVariables false
set_option linter.unusedSimpArgs false
theorem vR {e:GExpr} (h:vC e) (hv:VaR e.Val):j4 e=some (mL e):=by
 let Y:GLin→Nat×Int→Option (Bool×(Nat×Int)):=fun k_0 q=>if q.1=0 then dZ k_0 q.2 else none
 have hY:∀ (l:GLin),l.L.length<4611686018427387904→Y l (0,0)=some (if fX l=true then(true,(0,0))else(false,(1,1))):=fun l hl=>by
  show(if(0:Nat)=0 then dZ l 0 else none)=_
  rw[if_pos rfl]
  unfold dZ fX
  rw[(uQ hl).1,Option.bind_some]
  by_cases ho:nQ l<;>simp[ho]
 have hl:bt e Y fu 0 (0,0)=if(e.Idx.all fun x=>fX x.Lin&&x.At.all fX)=true then some ((),(0,0))else some ((),(1,1)):=by
  refine oH (m:=fun f i=>bt e Y f i (0,0)) (l:=e.Idx) (p:=fun x=>fX x.Lin&&x.At.all fX) h.1 ?_ ?_
  ·intro f i x hx
   have hi:=(List.getElem?_eq_some_iff.1 hx).1
   have h0:=h.1
   obtain⟨p1,p2,p3⟩:=h.2.2.2 x (List.mem_of_getElem? hx)
   simp only[bt]
   rw[if_pos (cz hi),cI hx,Option.bind_some,hY _ p1,Option.bind_some]
   have hin:dk x Y (bt e Y f) (i:Int) fu 0 (0,0)=if x.At.all fX=true then bt e Y f ((i+1:Nat):Int) (0,0)else some ((),(1,1)):=by
    refine oH (m:=fun f' k=>dk x Y (bt e Y f) (i:Int) f' k (0,0)) (l:=x.At) (p:=fX) p2 ?_ ?_
    ·intro f' k y hy
     have hk:=(List.getElem?_eq_some_iff.1 hy).1
     simp only[dk]
     rw[if_pos (cz hk),cI hy,Option.bind_some,hY _ (p3 y (List.mem_of_getElem? hy)),Option.bind_some,nq (by omega)]
     cases fX y<;>rfl
    ·intro f'
     simp only[dk]
     rw[if_neg (by simp)]
     unfold jQ;rw[nq (by omega)]
   cases fX x.Lin
   ·rfl
   ·simp only[if_true,Bool.true_and,Bool.not_true,Bool.false_eq_true,if_false];exact hin
  ·intro f
   simp only[bt]
   rw[if_neg (by simp)]
 unfold j4 mL
 rw[zM h,AN h,Cf h,(vT h).1,y6 hv]
 cases rQ e
 ·rfl
 cases rR e
 ·rfl
 cases vh e
 ·rfl
 cases ht:tR e
 ·rfl
 simp only[Option.bind_some,Bool.not_true,Bool.false_eq_true,if_false,if_true]
 have ht1:e.Op=1→qW e.Type_=true:=fun h1=>by unfold tR at ht;simp[h1]at ht;exact ht.1
 unfold zI
 have hform:(mW e).bind (fun r6=>(j6 Y r6 (0,0)).bind fun⟨u1,o1,v2⟩=>if o1=0 then some 0 else if o1=1 then some v2 else none)=some (if(fX e.Lin&&e.Idx.all fun x=>fX x.Lin&&x.At.all fX)=true then(0:Int)else 1):=by
  unfold mW j6
  rw[Option.bind_some,hY _ h.2.2.1,Option.bind_some]
  cases fX e.Lin
  ·rfl
  ·simp only[if_true,Bool.true_and,Bool.not_true,Bool.false_eq_true,if_false]
   rw[hl]
   cases (e.Idx.all fun x=>fX x.Lin&&x.At.all fX)<;>rfl
 by_cases h1:e.Op=1
 ·simp only[h1,ht1 h1,decide_true,gd,if_true,Bool.true_and,Option.bind_some,Bool.not_true,Bool.false_or]
  cases Az e.Type_ e.Val
  ·simp
  ·simp only[Bool.not_true,Bool.false_eq_true,if_false,Bool.true_and];exact hform
 ·simp only[h1,decide_false,gd,Bool.false_eq_true,if_false,Bool.false_and,Option.bind_some,Bool.not_false,Bool.true_or,Bool.true_and]
  exact hform
def uq {α:Type} (g:α→Int):List α→Int
 | []=>0
 | x::l=>if g x=0 then uq g l else g x
def pU:GExpr→Int
 | ⟨op,nm,v,t,l,ix,args⟩=>if mL ⟨op,nm,v,t,l,ix,args⟩=0 then go args else mL ⟨op,nm,v,t,l,ix,args⟩
 where go:List GExpr→Int
  | []=>0
  | x::xs=>if pU x=0 then go xs else pU x
theorem BI:∀ (l:List GExpr),pU.go l=uq pU l
 | []=>rfl
 | x::l=>by rw[pU.go,uq,BI l]
theorem BJ (e:GExpr):pU e=if mL e=0 then uq pU e.Args else mL e:=by cases e;rw[pU,BI]
def nE:GExpr→Nat
 | ⟨_,_,_,_,_,_,args⟩=>1+go args
 where go:List GExpr→Nat
  | []=>0
  | x::xs=>nE x+go xs
theorem Fi:∀ (l:List GExpr),nE.go l=(l.map nE).sum
 | []=>rfl
 | x::l=>by rw[nE.go,Fi l,List.map_cons,List.sum_cons]
theorem Dx (e:GExpr):nE e=1+(e.Args.map nE).sum:=by cases e;rw[nE,Fi]
def qo:List Nat→Nat
 | []=>0
 | x::l=>max x (qo l)
def dE:GExpr→Nat
 | ⟨_,_,_,_,_,_,args⟩=>1+go args
 where go:List GExpr→Nat
  | []=>0
  | x::xs=>max (dE x) (go xs)
theorem Fp:∀ (l:List GExpr),dE.go l=qo (l.map dE)
 | []=>rfl
 | x::l=>by rw[dE.go,Fp l,List.map_cons,qo]
theorem Fq (e:GExpr):dE e=1+qo (e.Args.map dE):=by cases e;rw[dE,Fp]
theorem th {e a:GExpr} (h:a∈e.Args):wE a<wE e:=by
 rw[yY e]
 have:=AE (List.mem_map_of_mem (f:=wE) h)
 omega
theorem Fh:∀ (k:Nat) (e:GExpr),wE e<k→nE e≤wE e
 | 0,_,h=>absurd h (by omega)
 | k+1,e,h=>by
  rw[Dx,yY]
  have:(e.Args.map nE).sum≤(e.Args.map wE).sum:=by
   have hall:∀ a∈e.Args,nE a≤wE a:=fun a ha=>Fh k a (by have:=th ha;omega)
   generalize e.Args=l at hall
   induction l with
   | nil=>simp
   | cons x l ih=>
    rw[List.map_cons,List.map_cons,List.sum_cons,List.sum_cons]
    have h1:=hall x (by simp)
    have h2:=ih fun a ha=>hall a (by simp[ha])
    omega
  omega
theorem Hj (e:GExpr):nE e≤wE e:=Fh (wE e+1) e (by omega)
theorem Eh {e:GExpr} :e.Args.length≤wE e:=by
 rw[yY]
 have:e.Args.length≤(e.Args.map wE).sum:=by
  generalize e.Args=l
  induction l with
  | nil=>simp
  | cons x l ih=>
   rw[List.map_cons,List.sum_cons,List.length_cons]
   have:1≤wE x:=by rw[yY];omega
   omega
 omega
theorem vQ {α R:Type} {m:Nat→Int→Option R} {l:List α} {g:α→Int} {k:Option R} {r:Int→Option R} (hn:l.length<4611686018427387904)
  (rd:∀ (f i:Nat) x,l[i]? =some x→m (f+1) (i:Int)=if g x=0 then m f ((i+1:Nat):Int)else r (g x)) (ed:∀ f,m (f+1) (l.length:Int)=k):m fu 0=if uq g l=0 then k else r (uq g l):=by
 refine kD (L:=fun f (_:Unit) i=>m f i) (n:=l.length) hn (fun i _=>uq g l=uq g (l.drop i)) ?_ ?_ () rfl
 ·intro f i _ hi hI
  obtain⟨x,hx⟩:=ct hi
  rw[oX hx,uq]at hI
  by_cases h:g x=0
  ·left;rw[if_pos h]at hI;exact⟨(),hI,by rw[rd f i x hx,if_pos h]⟩
  ·right
   rw[if_neg h]at hI
   rw[show m (f+1) (i:Int)=r (g x)by rw[rd f i x hx,if_neg h],hI,if_neg h]
 ·intro f _ hI
  rw[List.drop_length]at hI
  rw[hI,show uq g ([]:List α)=0 from rfl,if_pos rfl];exact ed f
theorem Ap {f:Nat} :∀ {e:GExpr},okGExpr e→wE e<f→jT f e=some (pU e):=by
 induction f with
 | zero=>intro e _ h;omega
 | succ f ih=>
  intro e ho hw
  have hl:=ho.len
  have hv:VaR e.Val:=VaR.of (okGExpr_iff.1 ho).2.2.1
  show lw (jT f) e=_
  unfold lw
  rw[zk hl,zl hl,xV hl,(vT hl).2,BJ]
  unfold mL
  cases rQ e
  ·rfl
  cases rR e
  ·rfl
  cases vh e
  ·rfl
  cases ht:tR e
  ·rfl
  have ht1:e.Op=1→qW e.Type_=true:=fun h1=>by unfold tR at ht;simp[h1]at ht;exact ht.1
  rw[xW hl hv ht1]
  cases zI e
  ·rfl
  simp only[Option.bind_some,Bool.not_true,Bool.false_eq_true,if_false,if_true]
  rw[vQ (m:=fun f' i=>gq e (jT f) f' i) (l:=e.Args) (g:=pU) (k:=some 0) (r:=some) hl.2.1 ?_ ?_]
  ·by_cases h:uq pU e.Args=0
   ·rw[if_pos h,h]
   ·rw[if_neg h]
  ·intro f' i x hx
   have hi:=(List.getElem?_eq_some_iff.1 hx).1
   have hm:=List.mem_of_getElem? hx
   have:=hl.2.1
   have:=th hm
   simp only[gq]
   rw[if_pos (cz hi),cI hx,Option.bind_some,ih (ho.out.2.2.1 x hm) (by omega),Option.bind_some,nq (by omega)]
   by_cases h:pU x=0
   ·rw[if_neg (by simp[h]),if_pos h]
   ·rw[if_pos (by simp[h]),if_neg h]
  ·intro f'
   simp only[gq]
   rw[if_neg (by simp)]
theorem Ce {f:Nat} :∀ {e:GExpr},okGExpr e→wE e<f→fC f e (fun k_0 q=>if q.1=0 then dJ k_0 q.2 else none) ((0,0):Nat×Int)=some (if pU e=0 then(true,(0,0))else(false,(1,pU e))):=by
 induction f with
 | zero=>intro e _ h;omega
 | succ f ih=>
  intro e ho hw
  have hl:=ho.len
  have hv:VaR e.Val:=VaR.of (okGExpr_iff.1 ho).2.2.1
  show ig (fC f) e _ _ =_
  unfold ig
  have h0:(fun(k_0:GExpr) (q:Nat×Int)=>if q.1=0 then dJ k_0 q.2 else none) e (0,0)=some (if mL e=0 then(true,(0,0))else(false,(1,mL e))):=by
   show(if(0:Nat)=0 then dJ e 0 else none)=_
   rw[if_pos rfl]
   unfold dJ
   rw[vR hl hv,Option.bind_some]
   by_cases h:mL e=0<;>simp[h]
  rw[h0,Option.bind_some,BJ]
  by_cases h:mL e=0
  rotate_left
  ·simp[h]
  simp only[h,if_true,Bool.not_true,Bool.false_eq_true,if_false]
  rw[vQ (m:=fun f' i=>du e (fC f) _ f' i ((0,0):Nat×Int)) (l:=e.Args) (g:=pU) (k:=some (true,(0,0))) (r:=fun v=>some (false,(1,v))) hl.2.1 ?_ ?_]
  ·by_cases h:uq pU e.Args=0
   ·rw[if_pos h,if_pos h]
   ·rw[if_neg h,if_neg h]
  ·intro f' i x hx
   have hi:=(List.getElem?_eq_some_iff.1 hx).1
   have hm:=List.mem_of_getElem? hx
   have:=hl.2.1
   have:=th hm
   simp only[du]
   rw[if_pos (cz hi),cI hx,Option.bind_some,ih (ho.out.2.2.1 x hm) (by omega),Option.bind_some,nq (by omega)]
   by_cases h:pU x=0
   ·simp[h]
   ·simp[h]
  ·intro f'
   simp only[du]
   rw[if_neg (by simp)]
theorem DA (a b:List Nat):qo (a++b)=max (qo a) (qo b):=by
 induction a with
 | nil=>simp[qo]
 | cons x a ih=>rw[List.cons_append,qo,qo,ih];omega
theorem Gy (e:GExpr):1≤dE e:=by rw[Fq];omega
theorem ye {f:Nat} :∀ {e:GExpr} {nb:Nat},okGExpr e→nb<f→1≤nb→nb≤41→j7 f e (nb:Int)=some ((min (dE e) nb:Nat):Int)∧i7 f e (nb:Int)=some ((min (dE e) nb:Nat):Int):=by
 induction f with
 | zero=>intro e n _ h;omega
 | succ f ih=>
  intro e nb ho hw h1 hm
  have hl:=ho.len
  have hp:=Gy e
  show lG (j7 f) e (nb:Int)=_ ∧kJ (i7 f) e (nb:Int)=_
  unfold lG kJ
  have step:∀ (i:Nat) x,e.Args[i]? =some x→1<nb→max ((1+min (qo ((e.Args.map dE).take i)) (nb - 1):Nat):Int) (aq (1+((min (dE x) (nb - 1):Nat):Int)))=((1+min (qo ((e.Args.map dE).take (i+1))) (nb - 1):Nat):Int):=fun i x hx h2=>by
   rw[Hz (by omega),cx (x:=dE x) (by rw[List.getElem?_map,hx];rfl),DA]
   simp only[qo]
   omega
  have last:1<nb→((1+min (qo ((e.Args.map dE).take e.Args.length)) (nb - 1):Nat):Int)=((min (dE e) nb:Nat):Int):=fun h2=>by
   rw[Fq,show e.Args.length=(e.Args.map dE).length by rw[List.length_map],List.take_length];omega
  by_cases hlim:1<nb
  ·constructor
   ·rw[if_neg (by simp;omega)]
    refine kD (L:=fun f' s i=>gt e (j7 f) (nb:Int) f' s i) (n:=e.Args.length) hl.2.1 (fun i s=>s=((1+min (qo ((e.Args.map dE).take i)) (nb - 1):Nat):Int)) ?_ ?_ _ (by simp[qo])
    ·rintro f' i s hi rfl
     obtain⟨x,hx⟩:=ct hi
     have hm:=List.mem_of_getElem? hx
     left
     refine⟨_,rfl,?_⟩
     simp only[gt]
     rw[if_pos (cz hi),cI hx,Option.bind_some,Hz (by omega),show(nb:Int) - 1=((nb - 1:Nat):Int)by omega,(ih (ho.out.2.2.1 x hm) (by omega) (by omega) (by omega)).1,Option.bind_some,nq (by omega),step i x hx hlim]
    ·rintro f' s rfl
     simp only[gt]
     rw[if_neg (by simp),last hlim]
   ·refine kD (L:=fun f' s i=>eQ e (nb:Int) (i7 f) f' s i) (n:=e.Args.length) hl.2.1 (fun i s=>s=((1+min (qo ((e.Args.map dE).take i)) (nb - 1):Nat):Int)) ?_ ?_ _ (by simp[qo])
    ·rintro f' i s hi rfl
     obtain⟨x,hx⟩:=ct hi
     have hm:=List.mem_of_getElem? hx
     left
     refine⟨_,rfl,?_⟩
     simp only[eQ]
     rw[cz hi,decide_eq_true (show(1:Int)<(nb:Int)by omega),Bool.and_self,if_pos rfl,cI hx,Option.bind_some,Hz (by omega),show(nb:Int) - 1=((nb - 1:Nat):Int)by omega,(ih (ho.out.2.2.1 x hm) (by omega) (by omega) (by omega)).2,Option.bind_some,nq (by omega),step i x hx hlim]
    ·rintro f' s rfl
     simp only[eQ]
     rw[if_neg (by simp),last hlim]
  ·have e1:nb=1:=by omega
   subst e1
   constructor
   ·rw[if_pos (by simp)];refine congrArg some ?_;omega
   ·obtain⟨g,hg⟩:∃ g,fu=g+1:=⟨fu - 1,by unfold fu;omega⟩
    rw[hg]
    simp only[eQ]
    rw[if_neg (by simp)];refine congrArg some ?_;omega
end Go.Proofs.YtmhoikfoogemnaaGreatDoor
