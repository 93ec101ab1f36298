import Derived.Test.YtmhoikfoogemnaaGreatDoorHYf
namespace Go.Proofs.YtmhoikfoogemnaaGreatDoor
open Go Go.RowKit Go.Vc
set_option linter.unusedVariables false
set_option linter.unusedSimpArgs false
theorem zl {e:ae} (h:yV e) (hv:VaR e.Val):kv e=some (jA e):=by
 let Y:aC→Nat×Int→Option (Bool×(Nat×Int)):=λk_0 q=>if q.1=0 then ew k_0 q.2 else none
 have hY:∀ (l:aC),l.L.length<4611686018427387904→Y l (0,0)=some (if gb l=true then(true,(0,0))else(false,(1,1))):=λl hl=>by
  show(if(0:Nat)=0 then ew l 0 else none)=_
  rw[if_pos rfl]
  unfold ew gb
  rw[(oo hl).1,Option.bind_some]
  by_cases ho:cv l<;>simp[ho]
 have hl:bA e Y fu 0 (0,0)=if(e.Idx.all λx=>gb x.Lin&&x.At.all gb)=true then some ((),(0,0))else some ((),(1,1)):=by
  refine qC (m:=λf i=>bA e Y f i (0,0)) (l:=e.Idx) (p:=λx=>gb x.Lin&&x.At.all gb) h.1 ?_ ?_
  ·intro f i x hx
   have hi:=(List.getElem?_eq_some_iff.1 hx).1
   have h0:=h.1
   obtain⟨p1,p2,p3⟩:=h.2.2.2 x (List.mem_of_getElem? hx)
   simp only[bA]
   rw[if_pos (bs hi),bn hx,Option.bind_some,hY _ p1,Option.bind_some]
   have hin:dB x Y (bA e Y f) (i:Int) fu 0 (0,0)=if x.At.all gb=true then bA e Y f ((i+1:Nat):Int) (0,0)else some ((),(1,1)):=by
    refine qC (m:=λf' k=>dB x Y (bA e Y f) (i:Int) f' k (0,0)) (l:=x.At) (p:=gb) p2 ?_ ?_
    ·intro f' k y hy
     have hk:=(List.getElem?_eq_some_iff.1 hy).1
     simp only[dB]
     rw[if_pos (bs hk),bn hy,Option.bind_some,hY _ (p3 y (List.mem_of_getElem? hy)),Option.bind_some,mH (by omega)]
     cases gb y<;>rfl
    ·intro f'
     simp only[dB]
     rw[if_neg (by simp)]
     unfold j6;rw[mH (by omega)]
   cases gb x.Lin
   ·rfl
   ·simp only[if_true,Bool.true_and,Bool.not_true,Bool.false_eq_true,if_false];exact hin
  ·intro f
   simp only[bA]
   rw[if_neg (by simp)]
 unfold kv jA
 rw[Et h,FX h,H9 h,(zm h).1,DJ hv]
 cases qc e
 ·rfl
 cases pt e
 ·rfl
 cases sW e
 ·rfl
 cases ht:tr e
 ·rfl
 simp only[Option.bind_some,Bool.not_true,Bool.false_eq_true,if_false,if_true]
 have ht1:e.Op=1→pF e.Type_=true:=λh1=>by unfold tr at ht;simp[h1]at ht;exact ht.1
 unfold xF
 have hform:(og e).bind (λr6=>(ky Y r6 (0,0)).bind λ⟨u1,o1,v2⟩=>if o1=0 then some 0 else if o1=1 then some v2 else none)=some (if(gb e.Lin&&e.Idx.all λx=>gb x.Lin&&x.At.all gb)=true then(0:Int)else 1):=by
  unfold og ky
  rw[Option.bind_some,hY _ h.2.2.1,Option.bind_some]
  cases gb e.Lin
  ·rfl
  ·simp only[if_true,Bool.true_and,Bool.not_true,Bool.false_eq_true,if_false]
   rw[hl]
   cases (e.Idx.all λx=>gb x.Lin&&x.At.all gb)<;>rfl
 by_cases h1:e.Op=1
 ·simp only[h1,ht1 h1,decide_true,gd,if_true,Bool.true_and,Option.bind_some,Bool.not_true,Bool.false_or]
  cases wJ e.Type_ e.Val
  ·simp
  ·simp only[Bool.not_true,Bool.false_eq_true,if_false,Bool.true_and];exact hform
 ·simp only[h1,decide_false,gd,Bool.false_eq_true,if_false,Bool.false_and,Option.bind_some,Bool.not_false,Bool.true_or,Bool.true_and]
  exact hform
def vm {α:Type} (g:α→Int):List α→Int
 | []=>0
 | x::l=>if g x=0 then vm g l else g x
theorem Bo {α:Type} {g:α→Int} :∀ {l:List α},vm g l=0↔∀ x∈l,g x=0
 | []=>by simp[vm]
 | x::l=>by
  rw[vm]
  by_cases h:g x=0
  ·rw[if_pos h,Bo];simp[h]
  ·rw[if_neg h];simp[h]
def ov:ae→Int
 | ⟨op,nm,v,t,l,ix,args⟩=>if jA ⟨op,nm,v,t,l,ix,args⟩=0 then go args else jA ⟨op,nm,v,t,l,ix,args⟩
 where go:List ae→Int
  | []=>0
  | x::xs=>if ov x=0 then go xs else ov x
theorem Hq:∀ (l:List ae),ov.go l=vm ov l
 | []=>rfl
 | x::l=>by rw[ov.go,vm,Hq l]
theorem CF (e:ae):ov e=if jA e=0 then vm ov e.Args else jA e:=by cases e;rw[ov,Hq]
def nE:ae→Nat
 | ⟨_,_,_,_,_,_,args⟩=>1+go args
 where go:List ae→Nat
  | []=>0
  | x::xs=>nE x+go xs
theorem MH:∀ (l:List ae),nE.go l=(l.map nE).sum
 | []=>rfl
 | x::l=>by rw[nE.go,MH l,List.map_cons,List.sum_cons]
theorem G5 (e:ae):nE e=1+(e.Args.map nE).sum:=by cases e;rw[nE,MH]
def ry:List Nat→Nat
 | []=>0
 | x::l=>max x (ry l)
def dE:ae→Nat
 | ⟨_,_,_,_,_,_,args⟩=>1+go args
 where go:List ae→Nat
  | []=>0
  | x::xs=>max (dE x) (go xs)
theorem M2:∀ (l:List ae),dE.go l=ry (l.map dE)
 | []=>rfl
 | x::l=>by rw[dE.go,M2 l,List.map_cons,ry]
theorem Kl (e:ae):dE e=1+ry (e.Args.map dE):=by cases e;rw[dE,M2]
theorem jN {e a:ae} (h:a∈e.Args):wE a<wE e:=by
 rw[vH e]
 have:=yR (List.mem_map_of_mem (f:=wE) h)
 omega
theorem MG:∀ (k:Nat) (e:ae),wE e<k→nE e≤wE e
 | 0,_,h=>absurd h (by omega)
 | k+1,e,h=>by
  rw[G5,vH]
  have:(e.Args.map nE).sum≤(e.Args.map wE).sum:=by
   have hall:∀ a∈e.Args,nE a≤wE a:=λa ha=>MG k a (by have:=jN ha;omega)
   generalize e.Args=l at hall
   induction l with
   | nil=>simp
   | cons x l ih=>
    rw[List.map_cons,List.map_cons,List.sum_cons,List.sum_cons]
    have h1:=hall x (by simp)
    have h2:=ih λa ha=>hall a (by simp[ha])
    omega
  omega
theorem JF (e:ae):nE e≤wE e:=MG (wE e+1) e (by omega)
theorem zj {α R:Type} {m:Nat→Int→Option R} {l:List α} {g:α→Int} {k:Option R} {r:Int→Option R} (hn:l.length<4611686018427387904)
  (rd:∀ (f i:Nat) x,l[i]? =some x→m (f+1) (i:Int)=if g x=0 then m f ((i+1:Nat):Int)else r (g x)) (ed:∀ f,m (f+1) (l.length:Int)=k):m fu 0=if vm g l=0 then k else r (vm g l):=by
 refine ib (L:=λf (_:Unit) i=>m f i) (n:=l.length) hn (λi _=>vm g l=vm g (l.drop i)) ?_ ?_ () rfl
 ·intro f i _ hi hI
  obtain⟨x,hx⟩:=bY hi
  rw[uv hx,vm]at hI
  by_cases h:g x=0
  ·left;rw[if_pos h]at hI;exact⟨(),hI,by rw[rd f i x hx,if_pos h]⟩
  ·right
   rw[if_neg h]at hI
   rw[show m (f+1) (i:Int)=r (g x)by rw[rd f i x hx,if_neg h],hI,if_neg h]
 ·intro f _ hI
  rw[List.drop_length]at hI
  rw[hI,show vm g ([]:List α)=0 from rfl,if_pos rfl];exact ed f
theorem Fq {f:Nat} :∀ {e:ae},okGExpr e→wE e<f→kg f e=some (ov e):=by
 induction f with
 | zero=>intro e _ h;omega
 | succ f ih=>
  intro e ho hw
  have hl:=ho.len
  have hv:VaR e.Val:=VaR.of (nC.1 ho).2.2.1
  show lU (kg f) e=_
  unfold lU
  rw[D5 hl,D6 hl,B0 hl,(zm hl).2,CF]
  unfold jA
  cases qc e
  ·rfl
  cases pt e
  ·rfl
  cases sW e
  ·rfl
  cases ht:tr e
  ·rfl
  have ht1:e.Op=1→pF e.Type_=true:=λh1=>by unfold tr at ht;simp[h1]at ht;exact ht.1
  rw[B1 hl hv ht1]
  cases xF e
  ·rfl
  simp only[Option.bind_some,Bool.not_true,Bool.false_eq_true,if_false,if_true]
  rw[zj (m:=λf' i=>gK e (kg f) f' i) (l:=e.Args) (g:=ov) (k:=some 0) (r:=some) hl.2.1 ?_ ?_]
  ·by_cases h:vm ov e.Args=0
   ·rw[if_pos h,h]
   ·rw[if_neg h]
  ·intro f' i x hx
   have hi:=(List.getElem?_eq_some_iff.1 hx).1
   have hm:=List.mem_of_getElem? hx
   have:=hl.2.1
   have:=jN hm
   simp only[gK]
   rw[if_pos (bs hi),bn hx,Option.bind_some,ih (ho.out.2.2.1 x hm) (by omega),Option.bind_some,mH (by omega)]
   by_cases h:ov x=0
   ·rw[if_neg (by simp[h]),if_pos h]
   ·rw[if_pos (by simp[h]),if_neg h]
  ·intro f'
   simp only[gK]
   rw[if_neg (by simp)]
theorem H8 {f:Nat} :∀ {e:ae},okGExpr e→wE e<f→dG f e (λk_0 q=>if q.1=0 then d5 k_0 q.2 else none) ((0,0):Nat×Int)=some (if ov e=0 then(true,(0,0))else(false,(1,ov e))):=by
 induction f with
 | zero=>intro e _ h;omega
 | succ f ih=>
  intro e ho hw
  have hl:=ho.len
  have hv:VaR e.Val:=VaR.of (nC.1 ho).2.2.1
  show fZ (dG f) e _ _ =_
  unfold fZ
  have h0:(λ(k_0:ae) (q:Nat×Int)=>if q.1=0 then d5 k_0 q.2 else none) e (0,0)=some (if jA e=0 then(true,(0,0))else(false,(1,jA e))):=by
   show(if(0:Nat)=0 then d5 e 0 else none)=_
   rw[if_pos rfl]
   unfold d5
   rw[zl hl hv,Option.bind_some]
   by_cases h:jA e=0<;>simp[h]
  rw[h0,Option.bind_some,CF]
  by_cases h:jA e=0
  rotate_left
  ·simp[h]
  simp only[h,if_true,Bool.not_true,Bool.false_eq_true,if_false]
  rw[zj (m:=λf' i=>ce e (dG f) _ f' i ((0,0):Nat×Int)) (l:=e.Args) (g:=ov) (k:=some (true,(0,0))) (r:=λv=>some (false,(1,v))) hl.2.1 ?_ ?_]
  ·by_cases h:vm ov e.Args=0
   ·rw[if_pos h,if_pos h]
   ·rw[if_neg h,if_neg h]
  ·intro f' i x hx
   have hi:=(List.getElem?_eq_some_iff.1 hx).1
   have hm:=List.mem_of_getElem? hx
   have:=hl.2.1
   have:=jN hm
   simp only[ce]
   rw[if_pos (bs hi),bn hx,Option.bind_some,ih (ho.out.2.2.1 x hm) (by omega),Option.bind_some,mH (by omega)]
   by_cases h:ov x=0
   ·simp[h]
   ·simp[h]
  ·intro f'
   simp only[ce]
   rw[if_neg (by simp)]
theorem Ah {f:Nat} :∀ {e:ae} {n:Nat},okGExpr e→wE e<f→n+nE e≤2000→dG f e (λk_0 q=>if q.1=0 then cA k_0 q.2 else none) ((0,(n:Int)):Nat×Int)=some (true,(0,((n+nE e:Nat):Int))):=by
 induction f with
 | zero=>intro e n _ h;omega
 | succ f ih=>
  intro e n ho hw hn
  have hl:=ho.len
  show fZ (dG f) e _ _ =_
  unfold fZ
  rw[G5]at hn ⊢
  have h0:(λ(k_0:ae) (q:Nat×Int)=>if q.1=0 then cA k_0 q.2 else none) e (0,(n:Int))=some (true,(0,((n+1:Nat):Int))):=by
   show(if(0:Nat)=0 then cA e (n:Int)else none)=_
   rw[if_pos rfl]
   unfold cA
   rw[mH (by omega),if_neg (by simp;omega)]
  rw[h0,Option.bind_some]
  simp only[Bool.not_true,Bool.false_eq_true,if_false]
  refine ib (L:=λf' s i=>ce e (dG f) (λk_0 q=>if q.1=0 then cA k_0 q.2 else none) f' i s) (n:=e.Args.length) hl.2.1 (λi s=>s=((0,((n+1+((e.Args.map nE).take i).sum:Nat):Int)):Nat×Int)) ?_ ?_ ((0,((n+1:Nat):Int)):Nat×Int) (by simp only[List.take_zero,List.sum_nil,Nat.add_zero])
  ·rintro f' i s hi rfl
   obtain⟨x,hx⟩:=bY hi
   have hm:=List.mem_of_getElem? hx
   have hx2:(e.Args.map nE)[i]? =some (nE x):=by rw[List.getElem?_map,hx];rfl
   have h1:=tv hx2
   have h2:=rS (e.Args.map nE) (i+1)
   have:=jN hm
   left
   refine⟨_,rfl,?_⟩
   simp only[ce]
   rw[if_pos (bs hi),bn hx,Option.bind_some,ih (ho.out.2.2.1 x hm) (by omega) (by omega),Option.bind_some,mH (by omega)]
   simp only[Bool.not_true,Bool.false_eq_true,if_false]
   rw[h1,Nat.add_assoc (n+1)]
  ·rintro f' s rfl
   simp only[ce]
   rw[if_neg (by simp),show e.Args.length=(e.Args.map nE).length by rw[List.length_map],List.take_length, ← Nat.add_assoc]
theorem Ia {e:ae} (ho:okGExpr e) (hw:wE e≤300):mc e=some (nE e:Int):=by
 have:=JF e
 unfold mc mb iE m3
 rw[Option.bind_some]
 have h:=Ah (f:=fu) (n:=0) ho (by unfold fu;omega) (by omega)
 rw[show((0:Nat):Int)=0 from rfl]at h
 rw[h]
 simp
theorem BZ {f:Nat} :∀ {e:ae} {most:Nat},okGExpr e→wE e<f→nE e≤most→most≤2000→ke f e (most:Int)=some (nE e:Int):=by
 induction f with
 | zero=>intro e n _ h;omega
 | succ f ih=>
  intro e most ho hw hn hm
  have hl:=ho.len
  show lR (ke f) e (most:Int)=_
  unfold lR
  rw[G5]at hn ⊢
  refine ib (L:=λf' s i=>gJ e (most:Int) (ke f) f' s i) (n:=e.Args.length) hl.2.1 (λi s=>s=((1+((e.Args.map nE).take i).sum:Nat):Int)) ?_ ?_ _ (by simp)
  ·rintro f' i s hi rfl
   obtain⟨x,hx⟩:=bY hi
   have hm:=List.mem_of_getElem? hx
   have hx2:(e.Args.map nE)[i]? =some (nE x):=by rw[List.getElem?_map,hx];rfl
   have h1:=tv hx2
   have h2:=rS (e.Args.map nE) (i+1)
   have:=jN hm
   left
   refine⟨_,rfl,?_⟩
   simp only[gJ]
   rw[bs hi,decide_eq_true (by omega),Bool.and_self,if_pos rfl,bn hx,Option.bind_some,IG (by omega),show(most:Int) - ((1+((e.Args.map nE).take i).sum:Nat):Int)=((most - (1+((e.Args.map nE).take i).sum):Nat):Int)by omega,ih (ho.out.2.2.1 x hm) (by omega) (by omega) (by omega),Option.bind_some,mH (by omega),Pm (by omega),h1,Nat.add_assoc]
  ·rintro f' s rfl
   simp only[gJ]
   rw[if_neg (by simp),show e.Args.length=(e.Args.map nE).length by rw[List.length_map],List.take_length]
theorem Fs {e:ae} (ho:okGExpr e) (hw:wE e≤300):nW e=some (nE e:Int):=by
 have:=JF e
 unfold nW sc
 rw[show(2000:Int)=((2000:Nat):Int)from rfl,BZ ho (by unfold fu;omega) (by omega) (by omega),Option.bind_some]
 refine congrArg some ?_
 omega
theorem JK (a b:List Nat):ry (a++b)=max (ry a) (ry b):=by
 induction a with
 | nil=>simp[ry]
 | cons x a ih=>rw[List.cons_append,ry,ry,ih];omega
theorem Kk (e:ae):1≤dE e:=by rw[Kl];omega
theorem Cz {f:Nat} :∀ {e:ae} {pz:Nat},okGExpr e→pz<f→1≤pz→pz≤41→kz f e (pz:Int)=some ((min (dE e) pz:Nat):Int)∧jo f e (pz:Int)=some ((min (dE e) pz:Nat):Int):=by
 induction f with
 | zero=>intro e n _ h;omega
 | succ f ih=>
  intro e pz ho hw h1 hm
  have hl:=ho.len
  have hp:=Kk e
  show ma (kz f) e (pz:Int)=_ ∧la (jo f) e (pz:Int)=_
  unfold ma la
  have step:∀ (i:Nat) x,e.Args[i]? =some x→1<pz→max ((1+min (ry ((e.Args.map dE).take i)) (pz - 1):Nat):Int) (av (1+((min (dE x) (pz - 1):Nat):Int)))=((1+min (ry ((e.Args.map dE).take (i+1))) (pz - 1):Nat):Int):=λi x hx h2=>by
   rw[IG (by omega),bE (x:=dE x) (by rw[List.getElem?_map,hx];rfl),JK]
   simp only[ry]
   omega
  have last:1<pz→((1+min (ry ((e.Args.map dE).take e.Args.length)) (pz - 1):Nat):Int)=((min (dE e) pz:Nat):Int):=λh2=>by
   rw[Kl,show e.Args.length=(e.Args.map dE).length by rw[List.length_map],List.take_length];omega
  by_cases hlim:1<pz
  ·constructor
   ·rw[if_neg (by simp;omega)]
    refine ib (L:=λf' s i=>gL e (kz f) (pz:Int) f' s i) (n:=e.Args.length) hl.2.1 (λi s=>s=((1+min (ry ((e.Args.map dE).take i)) (pz - 1):Nat):Int)) ?_ ?_ _ (by simp[ry])
    ·rintro f' i s hi rfl
     obtain⟨x,hx⟩:=bY hi
     have hm:=List.mem_of_getElem? hx
     left
     refine⟨_,rfl,?_⟩
     simp only[gL]
     rw[if_pos (bs hi),bn hx,Option.bind_some,IG (by omega),show(pz:Int) - 1=((pz - 1:Nat):Int)by omega,(ih (ho.out.2.2.1 x hm) (by omega) (by omega) (by omega)).1,Option.bind_some,mH (by omega),step i x hx hlim]
    ·rintro f' s rfl
     simp only[gL]
     rw[if_neg (by simp),last hlim]
   ·refine ib (L:=λf' s i=>fo e (pz:Int) (jo f) f' s i) (n:=e.Args.length) hl.2.1 (λi s=>s=((1+min (ry ((e.Args.map dE).take i)) (pz - 1):Nat):Int)) ?_ ?_ _ (by simp[ry])
    ·rintro f' i s hi rfl
     obtain⟨x,hx⟩:=bY hi
     have hm:=List.mem_of_getElem? hx
     left
     refine⟨_,rfl,?_⟩
     simp only[fo]
     rw[bs hi,decide_eq_true (show(1:Int)<(pz:Int)by omega),Bool.and_self,if_pos rfl,bn hx,Option.bind_some,IG (by omega),show(pz:Int) - 1=((pz - 1:Nat):Int)by omega,(ih (ho.out.2.2.1 x hm) (by omega) (by omega) (by omega)).2,Option.bind_some,mH (by omega),step i x hx hlim]
    ·rintro f' s rfl
     simp only[fo]
     rw[if_neg (by simp),last hlim]
  ·have e1:pz=1:=by omega
   subst e1
   constructor
   ·rw[if_pos (by simp)];refine congrArg some ?_;omega
   ·obtain⟨g,hg⟩:∃ g,fu=g+1:=⟨fu - 1,by unfold fu;omega⟩
    rw[hg]
    simp only[fo]
    rw[if_neg (by simp)];refine congrArg some ?_;omega
def vE (e:ae):Int:=if 40<dE e then 13 else ov e
theorem xl {e:ae} (ho:okGExpr e) (hw:wE e≤300):jw e=some (vE e)∧kh e=some (vE e):=by
 have hn:=JF e
 obtain⟨d1,d2⟩:=Cz (f:=fu) (pz:=41) ho (by unfold fu;omega) (by omega) (by omega)
 unfold jw kh pP oR sg q9 vE
 rw[show(41:Int)=((41:Nat):Int)from rfl,d1,d2,Ia ho hw,Fs ho hw]
 simp only[Option.bind_some]
 by_cases hd:40<dE e
 ·rw[if_pos hd,if_pos (by simp;omega),if_pos (by simp;omega)];exact⟨rfl,rfl⟩
 ·rw[if_neg hd,if_neg (by simp;omega),if_neg (by simp;omega),if_neg (by simp;omega),if_neg (by simp;omega)]
  unfold sd
  rw[Fq ho (by unfold fu;omega)]
  refine⟨?_,rfl⟩
  unfold mb iE m3
  rw[Option.bind_some,H8 ho (by unfold fu;omega)]
  by_cases h:ov e=0
  ·simp[h]
  ·simp[h]
end Go.Proofs.YtmhoikfoogemnaaGreatDoor
