import Derived.Test.YtmhoikfoogemnaaGreatDoorMYf
namespace Go.Proofs.YtmhoikfoogemnaaGreatDoor
open Go Go.RowKit Go.Vc
set_option linter.unusedVariables false
set_option linter.unusedSimpArgs false
theorem vR {e:ac} (h:vy e) (hv:VaR e.Val):jy e=some (iU e):=by
 let Y:ay→Nat×Int→Option (Bool×(Nat×Int)):=fun k_0 q=>if q.1=0 then dH k_0 q.2 else none
 have hY:∀ (l:ay),l.L.length<4611686018427387904→Y l (0,0)=some (if eX l=true then(true,(0,0))else(false,(1,1))):=fun l hl=>by
  show(if(0:Nat)=0 then dH l 0 else none)=_
  rw[if_pos rfl]
  unfold dH eX
  rw[(pK hl).1,Option.bind_some]
  by_cases ho:d8 l<;>simp[ho]
 have hl:bl e Y fu 0 (0,0)=if(e.Idx.all fun x=>eX x.Lin&&x.At.all eX)=true then some ((),(0,0))else some ((),(1,1)):=by
  refine oe (m:=fun f i=>bl e Y f i (0,0)) (l:=e.Idx) (p:=fun x=>eX x.Lin&&x.At.all eX) h.1 ?_ ?_
  ·intro f i x hx
   have hi:=(List.getElem?_eq_some_iff.1 hx).1
   have h0:=h.1
   obtain⟨p1,p2,p3⟩:=h.2.2.2 x (List.mem_of_getElem? hx)
   simp only[bl]
   rw[if_pos (bX hi),bS hx,Option.bind_some,hY _ p1,Option.bind_some]
   have hin:cT x Y (bl e Y f) (i:Int) fu 0 (0,0)=if x.At.all eX=true then bl e Y f ((i+1:Nat):Int) (0,0)else some ((),(1,1)):=by
    refine oe (m:=fun f' k=>cT x Y (bl e Y f) (i:Int) f' k (0,0)) (l:=x.At) (p:=eX) p2 ?_ ?_
    ·intro f' k y hy
     have hk:=(List.getElem?_eq_some_iff.1 hy).1
     simp only[cT]
     rw[if_pos (bX hk),bS hy,Option.bind_some,hY _ (p3 y (List.mem_of_getElem? hy)),Option.bind_some,ni (by omega)]
     cases eX y<;>rfl
    ·intro f'
     simp only[cT]
     rw[if_neg (by simp)]
     unfold ji;rw[ni (by omega)]
   cases eX x.Lin
   ·rfl
   ·simp only[if_true,Bool.true_and,Bool.not_true,Bool.false_eq_true,if_false];exact hin
  ·intro f
   simp only[bl]
   rw[if_neg (by simp)]
 unfold jy iU
 rw[AB h,BR h,DU h,(vT h).1,zQ hv]
 cases nK e
 ·rfl
 cases nj e
 ·rfl
 cases pY e
 ·rfl
 cases ht:qj e
 ·rfl
 simp only[Option.bind_some,Bool.not_true,Bool.false_eq_true,if_false,if_true]
 have ht1:e.Op=1→ol e.Type_=true:=fun h1=>by unfold qj at ht;simp[h1]at ht;exact ht.1
 unfold uf
 have hform:(mm e).bind (fun r6=>(jA Y r6 (0,0)).bind fun⟨u1,o1,v2⟩=>if o1=0 then some 0 else if o1=1 then some v2 else none)=some (if(eX e.Lin&&e.Idx.all fun x=>eX x.Lin&&x.At.all eX)=true then(0:Int)else 1):=by
  unfold mm jA
  rw[Option.bind_some,hY _ h.2.2.1,Option.bind_some]
  cases eX e.Lin
  ·rfl
  ·simp only[if_true,Bool.true_and,Bool.not_true,Bool.false_eq_true,if_false]
   rw[hl]
   cases (e.Idx.all fun x=>eX x.Lin&&x.At.all eX)<;>rfl
 by_cases h1:e.Op=1
 ·simp only[h1,ht1 h1,decide_true,gd,if_true,Bool.true_and,Option.bind_some,Bool.not_true,Bool.false_or]
  cases tj e.Type_ e.Val
  ·simp
  ·simp only[Bool.not_true,Bool.false_eq_true,if_false,Bool.true_and];exact hform
 ·simp only[h1,decide_false,gd,Bool.false_eq_true,if_false,Bool.false_and,Option.bind_some,Bool.not_false,Bool.true_or,Bool.true_and]
  exact hform
def rI {α:Type} (g:α→Int):List α→Int
 | []=>0
 | x::l=>if g x=0 then rI g l else g x
theorem xU {α:Type} {g:α→Int} :∀ {l:List α},rI g l=0↔∀ x∈l,g x=0
 | []=>by simp[rI]
 | x::l=>by
  rw[rI]
  by_cases h:g x=0
  ·rw[if_pos h,xU];simp[h]
  ·rw[if_neg h];simp[h]
def mv:ac→Int
 | ⟨op,nm,v,t,l,ix,args⟩=>if iU ⟨op,nm,v,t,l,ix,args⟩=0 then go args else iU ⟨op,nm,v,t,l,ix,args⟩
 where go:List ac→Int
  | []=>0
  | x::xs=>if mv x=0 then go xs else mv x
theorem Dg:∀ (l:List ac),mv.go l=rI mv l
 | []=>rfl
 | x::l=>by rw[mv.go,rI,Dg l]
theorem yU (e:ac):mv e=if iU e=0 then rI mv e.Args else iU e:=by cases e;rw[mv,Dg]
def nE:ac→Nat
 | ⟨_,_,_,_,_,_,args⟩=>1+go args
 where go:List ac→Nat
  | []=>0
  | x::xs=>nE x+go xs
theorem HL:∀ (l:List ac),nE.go l=(l.map nE).sum
 | []=>rfl
 | x::l=>by rw[nE.go,HL l,List.map_cons,List.sum_cons]
theorem CT (e:ac):nE e=1+(e.Args.map nE).sum:=by cases e;rw[nE,HL]
def o7:List Nat→Nat
 | []=>0
 | x::l=>max x (o7 l)
def dE:ac→Nat
 | ⟨_,_,_,_,_,_,args⟩=>1+go args
 where go:List ac→Nat
  | []=>0
  | x::xs=>max (dE x) (go xs)
theorem HY:∀ (l:List ac),dE.go l=o7 (l.map dE)
 | []=>rfl
 | x::l=>by rw[dE.go,HY l,List.map_cons,o7]
theorem FP (e:ac):dE e=1+o7 (e.Args.map dE):=by cases e;rw[dE,HY]
theorem jj {e a:ac} (h:a∈e.Args):wE a<wE e:=by
 rw[rW e]
 have:=vv (List.mem_map_of_mem (f:=wE) h)
 omega
theorem HK:∀ (k:Nat) (e:ac),wE e<k→nE e≤wE e
 | 0,_,h=>absurd h (by omega)
 | k+1,e,h=>by
  rw[CT,rW]
  have:(e.Args.map nE).sum≤(e.Args.map wE).sum:=by
   have hall:∀ a∈e.Args,nE a≤wE a:=fun a ha=>HK k a (by have:=jj ha;omega)
   generalize e.Args=l at hall
   induction l with
   | nil=>simp
   | cons x l ih=>
    rw[List.map_cons,List.map_cons,List.sum_cons,List.sum_cons]
    have h1:=hall x (by simp)
    have h2:=ih fun a ha=>hall a (by simp[ha])
    omega
  omega
theorem Fe (e:ac):nE e≤wE e:=HK (wE e+1) e (by omega)
theorem vQ {α R:Type} {m:Nat→Int→Option R} {l:List α} {g:α→Int} {k:Option R} {r:Int→Option R} (hn:l.length<4611686018427387904)
  (rd:∀ (f i:Nat) x,l[i]? =some x→m (f+1) (i:Int)=if g x=0 then m f ((i+1:Nat):Int)else r (g x)) (ed:∀ f,m (f+1) (l.length:Int)=k):m fu 0=if rI g l=0 then k else r (rI g l):=by
 refine i7 (L:=fun f (_:Unit) i=>m f i) (n:=l.length) hn (fun i _=>rI g l=rI g (l.drop i)) ?_ ?_ () rfl
 ·intro f i _ hi hI
  obtain⟨x,hx⟩:=bZ hi
  rw[qY hx,rI]at hI
  by_cases h:g x=0
  ·left;rw[if_pos h]at hI;exact⟨(),hI,by rw[rd f i x hx,if_pos h]⟩
  ·right
   rw[if_neg h]at hI
   rw[show m (f+1) (i:Int)=r (g x)by rw[rd f i x hx,if_neg h],hI,if_neg h]
 ·intro f _ hI
  rw[List.drop_length]at hI
  rw[hI,show rI g ([]:List α)=0 from rfl,if_pos rfl];exact ed f
theorem Bn {f:Nat} :∀ {e:ac},okGExpr e→wE e<f→jp f e=some (mv e):=by
 induction f with
 | zero=>intro e _ h;omega
 | succ f ih=>
  intro e ho hw
  have hl:=ho.len
  have hv:VaR e.Val:=VaR.of (lQ.1 ho).2.2.1
  show kA (jp f) e=_
  unfold kA
  rw[Af hl,Ag hl,yu hl,(vT hl).2,yU]
  unfold iU
  cases nK e
  ·rfl
  cases nj e
  ·rfl
  cases pY e
  ·rfl
  cases ht:qj e
  ·rfl
  have ht1:e.Op=1→ol e.Type_=true:=fun h1=>by unfold qj at ht;simp[h1]at ht;exact ht.1
  rw[yv hl hv ht1]
  cases uf e
  ·rfl
  simp only[Option.bind_some,Bool.not_true,Bool.false_eq_true,if_false,if_true]
  rw[vQ (m:=fun f' i=>fJ e (jp f) f' i) (l:=e.Args) (g:=mv) (k:=some 0) (r:=some) hl.2.1 ?_ ?_]
  ·by_cases h:rI mv e.Args=0
   ·rw[if_pos h,h]
   ·rw[if_neg h]
  ·intro f' i x hx
   have hi:=(List.getElem?_eq_some_iff.1 hx).1
   have hm:=List.mem_of_getElem? hx
   have:=hl.2.1
   have:=jj hm
   simp only[fJ]
   rw[if_pos (bX hi),bS hx,Option.bind_some,ih (ho.out.2.2.1 x hm) (by omega),Option.bind_some,ni (by omega)]
   by_cases h:mv x=0
   ·rw[if_neg (by simp[h]),if_pos h]
   ·rw[if_pos (by simp[h]),if_neg h]
  ·intro f'
   simp only[fJ]
   rw[if_neg (by simp)]
theorem DS {f:Nat} :∀ {e:ac},okGExpr e→wE e<f→cW f e (fun k_0 q=>if q.1=0 then du k_0 q.2 else none) ((0,0):Nat×Int)=some (if mv e=0 then(true,(0,0))else(false,(1,mv e))):=by
 induction f with
 | zero=>intro e _ h;omega
 | succ f ih=>
  intro e ho hw
  have hl:=ho.len
  have hv:VaR e.Val:=VaR.of (lQ.1 ho).2.2.1
  show eV (cW f) e _ _ =_
  unfold eV
  have h0:(fun(k_0:ac) (q:Nat×Int)=>if q.1=0 then du k_0 q.2 else none) e (0,0)=some (if iU e=0 then(true,(0,0))else(false,(1,iU e))):=by
   show(if(0:Nat)=0 then du e 0 else none)=_
   rw[if_pos rfl]
   unfold du
   rw[vR hl hv,Option.bind_some]
   by_cases h:iU e=0<;>simp[h]
  rw[h0,Option.bind_some,yU]
  by_cases h:iU e=0
  rotate_left
  ·simp[h]
  simp only[h,if_true,Bool.not_true,Bool.false_eq_true,if_false]
  rw[vQ (m:=fun f' i=>bM e (cW f) _ f' i ((0,0):Nat×Int)) (l:=e.Args) (g:=mv) (k:=some (true,(0,0))) (r:=fun v=>some (false,(1,v))) hl.2.1 ?_ ?_]
  ·by_cases h:rI mv e.Args=0
   ·rw[if_pos h,if_pos h]
   ·rw[if_neg h,if_neg h]
  ·intro f' i x hx
   have hi:=(List.getElem?_eq_some_iff.1 hx).1
   have hm:=List.mem_of_getElem? hx
   have:=hl.2.1
   have:=jj hm
   simp only[bM]
   rw[if_pos (bX hi),bS hx,Option.bind_some,ih (ho.out.2.2.1 x hm) (by omega),Option.bind_some,ni (by omega)]
   by_cases h:mv x=0
   ·simp[h]
   ·simp[h]
  ·intro f'
   simp only[bM]
   rw[if_neg (by simp)]
theorem wQ {f:Nat} :∀ {e:ac} {n:Nat},okGExpr e→wE e<f→n+nE e≤2000→cW f e (fun k_0 q=>if q.1=0 then cc k_0 q.2 else none) ((0,(n:Int)):Nat×Int)=some (true,(0,((n+nE e:Nat):Int))):=by
 induction f with
 | zero=>intro e n _ h;omega
 | succ f ih=>
  intro e n ho hw hn
  have hl:=ho.len
  show eV (cW f) e _ _ =_
  unfold eV
  rw[CT]at hn ⊢
  have h0:(fun(k_0:ac) (q:Nat×Int)=>if q.1=0 then cc k_0 q.2 else none) e (0,(n:Int))=some (true,(0,((n+1:Nat):Int))):=by
   show(if(0:Nat)=0 then cc e (n:Int)else none)=_
   rw[if_pos rfl]
   unfold cc
   rw[ni (by omega),if_neg (by simp;omega)]
  rw[h0,Option.bind_some]
  simp only[Bool.not_true,Bool.false_eq_true,if_false]
  refine i7 (L:=fun f' s i=>bM e (cW f) (fun k_0 q=>if q.1=0 then cc k_0 q.2 else none) f' i s) (n:=e.Args.length) hl.2.1 (fun i s=>s=((0,((n+1+((e.Args.map nE).take i).sum:Nat):Int)):Nat×Int)) ?_ ?_ ((0,((n+1:Nat):Int)):Nat×Int) (by simp only[List.take_zero,List.sum_nil,Nat.add_zero])
  ·rintro f' i s hi rfl
   obtain⟨x,hx⟩:=bZ hi
   have hm:=List.mem_of_getElem? hx
   have hx2:(e.Args.map nE)[i]? =some (nE x):=by rw[List.getElem?_map,hx];rfl
   have h1:=sb hx2
   have h2:=qQ (e.Args.map nE) (i+1)
   have:=jj hm
   left
   refine⟨_,rfl,?_⟩
   simp only[bM]
   rw[if_pos (bX hi),bS hx,Option.bind_some,ih (ho.out.2.2.1 x hm) (by omega) (by omega),Option.bind_some,ni (by omega)]
   simp only[Bool.not_true,Bool.false_eq_true,if_false]
   rw[h1,Nat.add_assoc (n+1)]
  ·rintro f' s rfl
   simp only[bM]
   rw[if_neg (by simp),show e.Args.length=(e.Args.map nE).length by rw[List.length_map],List.take_length, ← Nat.add_assoc]
theorem DV {e:ac} (ho:okGExpr e) (hw:wE e≤300):kK e=some (nE e:Int):=by
 have:=Fe e
 unfold kK kJ gG ly
 rw[Option.bind_some]
 have h:=wQ (f:=fu) (n:=0) ho (by unfold fu;omega) (by omega)
 rw[show((0:Nat):Int)=0 from rfl]at h
 rw[h]
 simp
theorem yt {f:Nat} :∀ {e:ac} {most:Nat},okGExpr e→wE e<f→nE e≤most→most≤2000→jo f e (most:Int)=some (nE e:Int):=by
 induction f with
 | zero=>intro e n _ h;omega
 | succ f ih=>
  intro e most ho hw hn hm
  have hl:=ho.len
  show ky (jo f) e (most:Int)=_
  unfold ky
  rw[CT]at hn ⊢
  refine i7 (L:=fun f' s i=>fI e (most:Int) (jo f) f' s i) (n:=e.Args.length) hl.2.1 (fun i s=>s=((1+((e.Args.map nE).take i).sum:Nat):Int)) ?_ ?_ _ (by simp)
  ·rintro f' i s hi rfl
   obtain⟨x,hx⟩:=bZ hi
   have hm:=List.mem_of_getElem? hx
   have hx2:(e.Args.map nE)[i]? =some (nE x):=by rw[List.getElem?_map,hx];rfl
   have h1:=sb hx2
   have h2:=qQ (e.Args.map nE) (i+1)
   have:=jj hm
   left
   refine⟨_,rfl,?_⟩
   simp only[fI]
   rw[bX hi,decide_eq_true (by omega),Bool.and_self,if_pos rfl,bS hx,Option.bind_some,El (by omega),show(most:Int) - ((1+((e.Args.map nE).take i).sum:Nat):Int)=((most - (1+((e.Args.map nE).take i).sum):Nat):Int)by omega,ih (ho.out.2.2.1 x hm) (by omega) (by omega) (by omega),Option.bind_some,ni (by omega),JK (by omega),h1,Nat.add_assoc]
  ·rintro f' s rfl
   simp only[fI]
   rw[if_neg (by simp),show e.Args.length=(e.Args.map nE).length by rw[List.length_map],List.take_length]
theorem Bo {e:ac} (ho:okGExpr e) (hw:wE e≤300):mb e=some (nE e:Int):=by
 have:=Fe e
 unfold mb pD
 rw[show(2000:Int)=((2000:Nat):Int)from rfl,yt ho (by unfold fu;omega) (by omega) (by omega),Option.bind_some]
 refine congrArg some ?_
 omega
theorem Fj (a b:List Nat):o7 (a++b)=max (o7 a) (o7 b):=by
 induction a with
 | nil=>simp[o7]
 | cons x a ih=>rw[List.cons_append,o7,o7,ih];omega
theorem FO (e:ac):1≤dE e:=by rw[FP];omega
theorem yR {f:Nat} :∀ {e:ac} {np:Nat},okGExpr e→np<f→1≤np→np≤41→jB f e (np:Int)=some ((min (dE e) np:Nat):Int)∧iG f e (np:Int)=some ((min (dE e) np:Nat):Int):=by
 induction f with
 | zero=>intro e n _ h;omega
 | succ f ih=>
  intro e np ho hw h1 hm
  have hl:=ho.len
  have hp:=FO e
  show kI (jB f) e (np:Int)=_ ∧jU (iG f) e (np:Int)=_
  unfold kI jU
  have step:∀ (i:Nat) x,e.Args[i]? =some x→1<np→max ((1+min (o7 ((e.Args.map dE).take i)) (np - 1):Nat):Int) (au (1+((min (dE x) (np - 1):Nat):Int)))=((1+min (o7 ((e.Args.map dE).take (i+1))) (np - 1):Nat):Int):=fun i x hx h2=>by
   rw[El (by omega),bT (x:=dE x) (by rw[List.getElem?_map,hx];rfl),Fj]
   simp only[o7]
   omega
  have last:1<np→((1+min (o7 ((e.Args.map dE).take e.Args.length)) (np - 1):Nat):Int)=((min (dE e) np:Nat):Int):=fun h2=>by
   rw[FP,show e.Args.length=(e.Args.map dE).length by rw[List.length_map],List.take_length];omega
  by_cases hlim:1<np
  ·constructor
   ·rw[if_neg (by simp;omega)]
    refine i7 (L:=fun f' s i=>fK e (jB f) (np:Int) f' s i) (n:=e.Args.length) hl.2.1 (fun i s=>s=((1+min (o7 ((e.Args.map dE).take i)) (np - 1):Nat):Int)) ?_ ?_ _ (by simp[o7])
    ·rintro f' i s hi rfl
     obtain⟨x,hx⟩:=bZ hi
     have hm:=List.mem_of_getElem? hx
     left
     refine⟨_,rfl,?_⟩
     simp only[fK]
     rw[if_pos (bX hi),bS hx,Option.bind_some,El (by omega),show(np:Int) - 1=((np - 1:Nat):Int)by omega,(ih (ho.out.2.2.1 x hm) (by omega) (by omega) (by omega)).1,Option.bind_some,ni (by omega),step i x hx hlim]
    ·rintro f' s rfl
     simp only[fK]
     rw[if_neg (by simp),last hlim]
   ·refine i7 (L:=fun f' s i=>er e (np:Int) (iG f) f' s i) (n:=e.Args.length) hl.2.1 (fun i s=>s=((1+min (o7 ((e.Args.map dE).take i)) (np - 1):Nat):Int)) ?_ ?_ _ (by simp[o7])
    ·rintro f' i s hi rfl
     obtain⟨x,hx⟩:=bZ hi
     have hm:=List.mem_of_getElem? hx
     left
     refine⟨_,rfl,?_⟩
     simp only[er]
     rw[bX hi,decide_eq_true (show(1:Int)<(np:Int)by omega),Bool.and_self,if_pos rfl,bS hx,Option.bind_some,El (by omega),show(np:Int) - 1=((np - 1:Nat):Int)by omega,(ih (ho.out.2.2.1 x hm) (by omega) (by omega) (by omega)).2,Option.bind_some,ni (by omega),step i x hx hlim]
    ·rintro f' s rfl
     simp only[er]
     rw[if_neg (by simp),last hlim]
  ·have e1:np=1:=by omega
   subst e1
   constructor
   ·rw[if_pos (by simp)];refine congrArg some ?_;omega
   ·obtain⟨g,hg⟩:∃ g,fu=g+1:=⟨fu - 1,by unfold fu;omega⟩
    rw[hg]
    simp only[er]
    rw[if_neg (by simp)];refine congrArg some ?_;omega
def vE (e:ac):Int:=if 40<dE e then 13 else mv e
theorem tP {e:ac} (ho:okGExpr e) (hw:wE e≤300):iN e=some (vE e)∧jq e=some (vE e):=by
 have hn:=Fe e
 obtain⟨d1,d2⟩:=yR (f:=fu) (np:=41) ho (by unfold fu;omega) (by omega) (by omega)
 unfold iN jq nB mS pH oJ vE
 rw[show(41:Int)=((41:Nat):Int)from rfl,d1,d2,DV ho hw,Bo ho hw]
 simp only[Option.bind_some]
 by_cases hd:40<dE e
 ·rw[if_pos hd,if_pos (by simp;omega),if_pos (by simp;omega)];exact⟨rfl,rfl⟩
 ·rw[if_neg hd,if_neg (by simp;omega),if_neg (by simp;omega),if_neg (by simp;omega),if_neg (by simp;omega)]
  unfold pE
  rw[Bn ho (by unfold fu;omega)]
  refine⟨?_,rfl⟩
  unfold kJ gG ly
  rw[Option.bind_some,DS ho (by unfold fu;omega)]
  by_cases h:mv e=0
  ·simp[h]
  ·simp[h]
end Go.Proofs.YtmhoikfoogemnaaGreatDoor
