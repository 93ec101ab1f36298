import Derived.Test.YtmhoikfoogemnaaGreatDoorKYf
import Derived.Test.YtmhoikfoogemnaaGreatDoorKYe
namespace Go.Proofs.YtmhoikfoogemnaaGreatDoor
open Go Go.RowKit Go.Vc
set_option linter.unusedVariables false
set_option linter.unusedSimpArgs false
theorem wo {e:GExpr} (h:v8 e) (hv:VaR e.Val):kq e=some (m5 e):=by
 let Y:GLin→Nat×Int→Option (Bool×(Nat×Int)):=fun k_0 q=>if q.1=0 then ee k_0 q.2 else none
 have hY:∀ (l:GLin),l.L.length<4611686018427387904→Y l (0,0)=some (if gm l=true then(true,(0,0))else(false,(1,1))):=fun l hl=>by
  show(if(0:Nat)=0 then ee l 0 else none)=_
  rw[if_pos rfl]
  unfold ee gm
  rw[(vh hl).1,Option.bind_some]
  by_cases ho:n9 l<;>simp[ho]
 have hl:bx e Y fu 0 (0,0)=if(e.Idx.all fun x=>gm x.Lin&&x.At.all gm)=true then some ((),(0,0))else some ((),(1,1)):=by
  refine oU (m:=fun f i=>bx e Y f i (0,0)) (l:=e.Idx) (p:=fun x=>gm x.Lin&&x.At.all gm) h.1 ?_ ?_
  ·intro f i x hx
   have hi:=(List.getElem?_eq_some_iff.1 hx).1
   have h0:=h.1
   obtain⟨p1,p2,p3⟩:=h.2.2.2 x (List.mem_of_getElem? hx)
   simp only[bx]
   rw[if_pos (cb hi),cQ hx,Option.bind_some,hY _ p1,Option.bind_some]
   have hin:dp x Y (bx e Y f) (i:Int) fu 0 (0,0)=if x.At.all gm=true then bx e Y f ((i+1:Nat):Int) (0,0)else some ((),(1,1)):=by
    refine oU (m:=fun f' k=>dp x Y (bx e Y f) (i:Int) f' k (0,0)) (l:=x.At) (p:=gm) p2 ?_ ?_
    ·intro f' k y hy
     have hk:=(List.getElem?_eq_some_iff.1 hy).1
     simp only[dp]
     rw[if_pos (cb hk),cQ hy,Option.bind_some,hY _ (p3 y (List.mem_of_getElem? hy)),Option.bind_some,mU (by omega)]
     cases gm y<;>rfl
    ·intro f'
     simp only[dp]
     rw[if_neg (by simp)]
     unfold j4;rw[mU (by omega)]
   cases gm x.Lin
   ·rfl
   ·simp only[if_true,Bool.true_and,Bool.not_true,Bool.false_eq_true,if_false];exact hin
  ·intro f
   simp only[bx]
   rw[if_neg (by simp)]
 unfold kq m5
 rw[Am h,Bm h,CT h,(wp h).1,zy hv]
 cases sd e
 ·rfl
 cases se e
 ·rfl
 cases vF e
 ·rfl
 cases ht:ue e
 ·rfl
 simp only[Option.bind_some,Bool.not_true,Bool.false_eq_true,if_false,if_true]
 have ht1:e.Op=1→rh e.Type_=true:=fun h1=>by unfold ue at ht;simp[h1]at ht;exact ht.1
 unfold Aj
 have hform:(nq e).bind (fun r6=>(ku Y r6 (0,0)).bind fun⟨u1,o1,v2⟩=>if o1=0 then some 0 else if o1=1 then some v2 else none)=some (if(gm e.Lin&&e.Idx.all fun x=>gm x.Lin&&x.At.all gm)=true then(0:Int)else 1):=by
  unfold nq ku
  rw[Option.bind_some,hY _ h.2.2.1,Option.bind_some]
  cases gm e.Lin
  ·rfl
  ·simp only[if_true,Bool.true_and,Bool.not_true,Bool.false_eq_true,if_false]
   rw[hl]
   cases (e.Idx.all fun x=>gm x.Lin&&x.At.all gm)<;>rfl
 by_cases h1:e.Op=1
 ·simp only[h1,ht1 h1,decide_true,gd,if_true,Bool.true_and,Option.bind_some,Bool.not_true,Bool.false_or]
  cases A9 e.Type_ e.Val
  ·simp
  ·simp only[Bool.not_true,Bool.false_eq_true,if_false,Bool.true_and];exact hform
 ·simp only[h1,decide_false,gd,Bool.false_eq_true,if_false,Bool.false_and,Option.bind_some,Bool.not_false,Bool.true_or,Bool.true_and]
  exact hform
def uF {α:Type} (g:α→Int):List α→Int
 | []=>0
 | x::l=>if g x=0 then uF g l else g x
def qe:GExpr→Int
 | ⟨op,nm,v,t,l,ix,args⟩=>if m5 ⟨op,nm,v,t,l,ix,args⟩=0 then go args else m5 ⟨op,nm,v,t,l,ix,args⟩
 where go:List GExpr→Int
  | []=>0
  | x::xs=>if qe x=0 then go xs else qe x
theorem Cc:∀ (l:List GExpr),qe.go l=uF qe l
 | []=>rfl
 | x::l=>by rw[qe.go,uF,Cc l]
theorem Cd (e:GExpr):qe e=if m5 e=0 then uF qe e.Args else m5 e:=by cases e;rw[qe,Cc]
def nE:GExpr→Nat
 | ⟨_,_,_,_,_,_,args⟩=>1+go args
 where go:List GExpr→Nat
  | []=>0
  | x::xs=>nE x+go xs
theorem Ga:∀ (l:List GExpr),nE.go l=(l.map nE).sum
 | []=>rfl
 | x::l=>by rw[nE.go,Ga l,List.map_cons,List.sum_cons]
theorem Ec (e:GExpr):nE e=1+(e.Args.map nE).sum:=by cases e;rw[nE,Ga]
def qB:List Nat→Nat
 | []=>0
 | x::l=>max x (qB l)
def dE:GExpr→Nat
 | ⟨_,_,_,_,_,_,args⟩=>1+go args
 where go:List GExpr→Nat
  | []=>0
  | x::xs=>max (dE x) (go xs)
theorem Gg:∀ (l:List GExpr),dE.go l=qB (l.map dE)
 | []=>rfl
 | x::l=>by rw[dE.go,Gg l,List.map_cons,qB]
theorem Gh (e:GExpr):dE e=1+qB (e.Args.map dE):=by cases e;rw[dE,Gg]
theorem tE {e a:GExpr} (h:a∈e.Args):wE a<wE e:=by
 rw[zw e]
 have:=Be (List.mem_map_of_mem (f:=wE) h)
 omega
theorem F9:∀ (k:Nat) (e:GExpr),wE e<k→nE e≤wE e
 | 0,_,h=>absurd h (by omega)
 | k+1,e,h=>by
  rw[Ec,zw]
  have:(e.Args.map nE).sum≤(e.Args.map wE).sum:=by
   have hall:∀ a∈e.Args,nE a≤wE a:=fun a ha=>F9 k a (by have:=tE ha;omega)
   generalize e.Args=l at hall
   induction l with
   | nil=>simp
   | cons x l ih=>
    rw[List.map_cons,List.map_cons,List.sum_cons,List.sum_cons]
    have h1:=hall x (by simp)
    have h2:=ih fun a ha=>hall a (by simp[ha])
    omega
  omega
theorem Ig (e:GExpr):nE e≤wE e:=F9 (wE e+1) e (by omega)
theorem E4 {e:GExpr} :e.Args.length≤wE e:=by
 rw[zw]
 have:e.Args.length≤(e.Args.map wE).sum:=by
  generalize e.Args=l
  induction l with
  | nil=>simp
  | cons x l ih=>
   rw[List.map_cons,List.sum_cons,List.length_cons]
   have:1≤wE x:=by rw[zw];omega
   omega
 omega
theorem wn {α R:Type} {m:Nat→Int→Option R} {l:List α} {g:α→Int} {k:Option R} {r:Int→Option R} (hn:l.length<4611686018427387904)
  (rd:∀ (f i:Nat) x,l[i]? =some x→m (f+1) (i:Int)=if g x=0 then m f ((i+1:Nat):Int)else r (g x)) (ed:∀ f,m (f+1) (l.length:Int)=k):m fu 0=if uF g l=0 then k else r (uF g l):=by
 refine kO (L:=fun f (_:Unit) i=>m f i) (n:=l.length) hn (fun i _=>uF g l=uF g (l.drop i)) ?_ ?_ () rfl
 ·intro f i _ hi hI
  obtain⟨x,hx⟩:=cx hi
  rw[pf hx,uF]at hI
  by_cases h:g x=0
  ·left;rw[if_pos h]at hI;exact⟨(),hI,by rw[rd f i x hx,if_pos h]⟩
  ·right
   rw[if_neg h]at hI
   rw[show m (f+1) (i:Int)=r (g x)by rw[rd f i x hx,if_neg h],hI,if_neg h]
 ·intro f _ hI
  rw[List.drop_length]at hI
  rw[hI,show uF g ([]:List α)=0 from rfl,if_pos rfl];exact ed f
theorem AU {f:Nat} :∀ {e:GExpr},okGExpr e→wE e<f→j8 f e=some (qe e):=by
 induction f with
 | zero=>intro e _ h;omega
 | succ f ih=>
  intro e ho hw
  have hl:=ho.len
  have hv:VaR e.Val:=VaR.of (okGExpr_iff.1 ho).2.2.1
  show lI (j8 f) e=_
  unfold lI
  rw[zO hl,zP hl,yn hl,(wp hl).2,Cd]
  unfold m5
  cases sd e
  ·rfl
  cases se e
  ·rfl
  cases vF e
  ·rfl
  cases ht:ue e
  ·rfl
  have ht1:e.Op=1→rh e.Type_=true:=fun h1=>by unfold ue at ht;simp[h1]at ht;exact ht.1
  rw[yo hl hv ht1]
  cases Aj e
  ·rfl
  simp only[Option.bind_some,Bool.not_true,Bool.false_eq_true,if_false,if_true]
  rw[wn (m:=fun f' i=>gJ e (j8 f) f' i) (l:=e.Args) (g:=qe) (k:=some 0) (r:=some) hl.2.1 ?_ ?_]
  ·by_cases h:uF qe e.Args=0
   ·rw[if_pos h,h]
   ·rw[if_neg h]
  ·intro f' i x hx
   have hi:=(List.getElem?_eq_some_iff.1 hx).1
   have hm:=List.mem_of_getElem? hx
   have:=hl.2.1
   have:=tE hm
   simp only[gJ]
   rw[if_pos (cb hi),cQ hx,Option.bind_some,ih (ho.out.2.2.1 x hm) (by omega),Option.bind_some,mU (by omega)]
   by_cases h:qe x=0
   ·rw[if_neg (by simp[h]),if_pos h]
   ·rw[if_pos (by simp[h]),if_neg h]
  ·intro f'
   simp only[gJ]
   rw[if_neg (by simp)]
theorem CS {f:Nat} :∀ {e:GExpr},okGExpr e→wE e<f→fQ f e (fun k_0 q=>if q.1=0 then dR k_0 q.2 else none) ((0,0):Nat×Int)=some (if qe e=0 then(true,(0,0))else(false,(1,qe e))):=by
 induction f with
 | zero=>intro e _ h;omega
 | succ f ih=>
  intro e ho hw
  have hl:=ho.len
  have hv:VaR e.Val:=VaR.of (okGExpr_iff.1 ho).2.2.1
  show iE (fQ f) e _ _ =_
  unfold iE
  have h0:(fun(k_0:GExpr) (q:Nat×Int)=>if q.1=0 then dR k_0 q.2 else none) e (0,0)=some (if m5 e=0 then(true,(0,0))else(false,(1,m5 e))):=by
   show(if(0:Nat)=0 then dR e 0 else none)=_
   rw[if_pos rfl]
   unfold dR
   rw[wo hl hv,Option.bind_some]
   by_cases h:m5 e=0<;>simp[h]
  rw[h0,Option.bind_some,Cd]
  by_cases h:m5 e=0
  rotate_left
  ·simp[h]
  simp only[h,if_true,Bool.not_true,Bool.false_eq_true,if_false]
  rw[wn (m:=fun f' i=>dz e (fQ f) _ f' i ((0,0):Nat×Int)) (l:=e.Args) (g:=qe) (k:=some (true,(0,0))) (r:=fun v=>some (false,(1,v))) hl.2.1 ?_ ?_]
  ·by_cases h:uF qe e.Args=0
   ·rw[if_pos h,if_pos h]
   ·rw[if_neg h,if_neg h]
  ·intro f' i x hx
   have hi:=(List.getElem?_eq_some_iff.1 hx).1
   have hm:=List.mem_of_getElem? hx
   have:=hl.2.1
   have:=tE hm
   simp only[dz]
   rw[if_pos (cb hi),cQ hx,Option.bind_some,ih (ho.out.2.2.1 x hm) (by omega),Option.bind_some,mU (by omega)]
   by_cases h:qe x=0
   ·simp[h]
   ·simp[h]
  ·intro f'
   simp only[dz]
   rw[if_neg (by simp)]
theorem Ef (a b:List Nat):qB (a++b)=max (qB a) (qB b):=by
 induction a with
 | nil=>simp[qB]
 | cons x a ih=>rw[List.cons_append,qB,qB,ih];omega
theorem Hr (e:GExpr):1≤dE e:=by rw[Gh];omega
theorem yE {f:Nat} :∀ {e:GExpr} {nD:Nat},okGExpr e→nD<f→1≤nD→nD≤41→kv f e (nD:Int)=some ((min (dE e) nD:Nat):Int)∧jv f e (nD:Int)=some ((min (dE e) nD:Nat):Int):=by
 induction f with
 | zero=>intro e n _ h;omega
 | succ f ih=>
  intro e nD ho hw h1 hm
  have hl:=ho.len
  have hp:=Hr e
  show lR (kv f) e (nD:Int)=_ ∧kU (jv f) e (nD:Int)=_
  unfold lR kU
  have step:∀ (i:Nat) x,e.Args[i]? =some x→1<nD→max ((1+min (qB ((e.Args.map dE).take i)) (nD - 1):Nat):Int) (ar (1+((min (dE x) (nD - 1):Nat):Int)))=((1+min (qB ((e.Args.map dE).take (i+1))) (nD - 1):Nat):Int):=fun i x hx h2=>by
   rw[Iv (by omega),cO (x:=dE x) (by rw[List.getElem?_map,hx];rfl),Ef]
   simp only[qB]
   omega
  have last:1<nD→((1+min (qB ((e.Args.map dE).take e.Args.length)) (nD - 1):Nat):Int)=((min (dE e) nD:Nat):Int):=fun h2=>by
   rw[Gh,show e.Args.length=(e.Args.map dE).length by rw[List.length_map],List.take_length];omega
  by_cases hlim:1<nD
  ·constructor
   ·rw[if_neg (by simp;omega)]
    refine kO (L:=fun f' s i=>gL e (kv f) (nD:Int) f' s i) (n:=e.Args.length) hl.2.1 (fun i s=>s=((1+min (qB ((e.Args.map dE).take i)) (nD - 1):Nat):Int)) ?_ ?_ _ (by simp[qB])
    ·rintro f' i s hi rfl
     obtain⟨x,hx⟩:=cx hi
     have hm:=List.mem_of_getElem? hx
     left
     refine⟨_,rfl,?_⟩
     simp only[gL]
     rw[if_pos (cb hi),cQ hx,Option.bind_some,Iv (by omega),show(nD:Int) - 1=((nD - 1:Nat):Int)by omega,(ih (ho.out.2.2.1 x hm) (by omega) (by omega) (by omega)).1,Option.bind_some,mU (by omega),step i x hx hlim]
    ·rintro f' s rfl
     simp only[gL]
     rw[if_neg (by simp),last hlim]
   ·refine kO (L:=fun f' s i=>fe e (nD:Int) (jv f) f' s i) (n:=e.Args.length) hl.2.1 (fun i s=>s=((1+min (qB ((e.Args.map dE).take i)) (nD - 1):Nat):Int)) ?_ ?_ _ (by simp[qB])
    ·rintro f' i s hi rfl
     obtain⟨x,hx⟩:=cx hi
     have hm:=List.mem_of_getElem? hx
     left
     refine⟨_,rfl,?_⟩
     simp only[fe]
     rw[cb hi,decide_eq_true (show(1:Int)<(nD:Int)by omega),Bool.and_self,if_pos rfl,cQ hx,Option.bind_some,Iv (by omega),show(nD:Int) - 1=((nD - 1:Nat):Int)by omega,(ih (ho.out.2.2.1 x hm) (by omega) (by omega) (by omega)).2,Option.bind_some,mU (by omega),step i x hx hlim]
    ·rintro f' s rfl
     simp only[fe]
     rw[if_neg (by simp),last hlim]
  ·have e1:nD=1:=by omega
   subst e1
   constructor
   ·rw[if_pos (by simp)];refine congrArg some ?_;omega
   ·obtain⟨g,hg⟩:∃ g,fu=g+1:=⟨fu - 1,by unfold fu;omega⟩
    rw[hg]
    simp only[fe]
    rw[if_neg (by simp)];refine congrArg some ?_;omega
end Go.Proofs.YtmhoikfoogemnaaGreatDoor
namespace Go.Proofs.YtmhoikfoogemnaaGreatDoor
open Go Go.RowKit Go.Vc
set_option linter.unusedVariables false
set_option linter.unusedSimpArgs false
end Go.Proofs.YtmhoikfoogemnaaGreatDoor
namespace Go.Proofs.YtmhoikfoogemnaaGreatDoor
open Go Go.RowKit Go.Vc
set_option linter.unusedVariables false
set_option linter.unusedSimpArgs false
end Go.Proofs.YtmhoikfoogemnaaGreatDoor
namespace Go.Proofs.YtmhoikfoogemnaaGreatDoor
open Go Go.RowKit Go.Vc
set_option linter.unusedVariables false
set_option linter.unusedSimpArgs false
theorem sR {α:Type} {l:List α} {i:Nat} {x:α} (h:l[i]? =some x):i<l.length:=(List.getElem?_eq_some_iff.1 h).1
def defF (d:Iu):Prop:=(0≤d.Fold∧d.Fold≤5)∧((d.Fold=0∨d.Fold=5)→d.Red=[])
instance (d:Iu):Decidable (defF d):=inferInstanceAs (Decidable (_ ∧ _))
theorem ay {α:Type} [Inhabited α] (g:Bool) (v:α):gd g (some v)=some (if g=true then v else default):=by unfold gd;cases g<;>rfl
end Go.Proofs.YtmhoikfoogemnaaGreatDoor
namespace Go.Proofs.YtmhoikfoogemnaaGreatDoor
open Go Go.RowKit Go.Vc
set_option linter.unusedVariables false
set_option linter.unusedSimpArgs false
end Go.Proofs.YtmhoikfoogemnaaGreatDoor
namespace Go.Proofs.YtmhoikfoogemnaaGreatDoor
open Go Go.RowKit Go.Vc
set_option linter.unusedVariables false
set_option linter.unusedSimpArgs false
def digB (c:UInt8):Bool:=decide (48≤(c.toNat:Int))&&decide ((c.toNat:Int)≤57)
def j6:List (List UInt8):=[[40],[41],[91],[93],[44],[43],[45],[42],[47],[60],[38],[124],[33],[58],[59],[60,61],[61,61]]
def Ij (t:List UInt8):Int:=if qC (t.headD 0)=true then 1 else if digB (t.headD 0)=true then 2 else 3
end Go.Proofs.YtmhoikfoogemnaaGreatDoor
namespace Go.Proofs.YtmhoikfoogemnaaGreatDoor
open Go Go.RowKit Go.Vc
set_option linter.unusedVariables false
set_option linter.unusedSimpArgs false
def tkL:Nat→List (List UInt8)→List aS
 | _,[]=>[]
 | o,t::r=>if t=[32]then tkL (o+1) r else⟨Ij t,o,t⟩::tkL (o+t.length) r
end Go.Proofs.YtmhoikfoogemnaaGreatDoor
namespace Go.Proofs.YtmhoikfoogemnaaGreatDoor
open Go Go.RowKit Go.Vc
set_option linter.unusedVariables false
set_option linter.unusedSimpArgs false
end Go.Proofs.YtmhoikfoogemnaaGreatDoor
namespace Go.Proofs.YtmhoikfoogemnaaGreatDoor
open Go Go.RowKit Go.Vc
set_option linter.unusedVariables false
set_option linter.unusedSimpArgs false
end Go.Proofs.YtmhoikfoogemnaaGreatDoor
namespace Go.Proofs.YtmhoikfoogemnaaGreatDoor
open Go Go.RowKit Go.Vc
set_option linter.unusedVariables false
set_option linter.unusedSimpArgs false
end Go.Proofs.YtmhoikfoogemnaaGreatDoor
namespace Go.Proofs.YtmhoikfoogemnaaGreatDoor
open Go Go.RowKit Go.Vc
set_option linter.unusedVariables false
set_option linter.unusedSimpArgs false
def C6 (op:Int) (a b:GExpr):GExpr:=⟨op,[],⟨0,0⟩,⟨0,0,0,0,0⟩,⟨0,[]⟩,[],[a,b]⟩
theorem Ho {e f:GExpr} (h1:e.Op=f.Op) (h2:e.Name=f.Name) (h3:e.Val=f.Val) (h4:e.Type_=f.Type_) (h5:e.Lin=f.Lin) (h6:e.Idx=f.Idx) (h7:e.Args=f.Args):e=f:=by
 cases e;cases f
 simp only at h1 h2 h3 h4 h5 h6 h7
 rw[h1,h2,h3,h4,h5,h6,h7]
def Gu (op:Int) (a:GExpr):GExpr:=⟨op,[],⟨0,0⟩,⟨0,0,0,0,0⟩,⟨0,[]⟩,[],[a]⟩
end Go.Proofs.YtmhoikfoogemnaaGreatDoor
namespace Go.Proofs.YtmhoikfoogemnaaGreatDoor
open Go Go.RowKit Go.Vc
set_option linter.unusedVariables false
set_option linter.unusedSimpArgs false
theorem sY {α:Type} {L:Nat→Int→Option Bool} {a b:List α} (hn:a.length<4611686018427387904) (hl:a.length=b.length)
  (rd:∀ f (i:Nat) x y,a[i]? =some x→b[i]? =some y→∃ r:Bool,(r=true↔x=y)∧L (f+1) (i:Int)=if r=true then L f ((i+1:Nat):Int)else some false)
  (fin:∀ f,L (f+1) (a.length:Int)=some true):∃ r,L fu 0=some r∧(r=true↔a=b):=by
 refine oA (L:=fun f (_:Unit) i=>L f i) (n:=a.length) hn (fun i _=>a.take i=b.take i) (fun r=>r=true↔a=b) ?_ ?_ () (by simp)
 ·intro f i _ hi hI
  obtain⟨x,hx⟩:=cx hi
  obtain⟨y,hy⟩:=cx (l:=b) (i:=i) (by omega)
  obtain⟨r,h1,h2⟩:=rd f i x y hx hy
  rw[h2]
  by_cases hr:r=true
  ·left
   refine⟨(),?_,by rw[if_pos hr]⟩
   rw[cO hx,cO hy,hI,h1.1 hr]
  ·right
   refine⟨false,by rw[if_neg hr],⟨fun h=>(by cases h),fun h=> ?_⟩⟩
   subst h
   rw[hx]at hy
   injection hy with hy
   exact absurd (h1.2 hy) hr
 ·intro f _ hI
  refine⟨true,fin f,⟨fun _=> ?_,fun _=>rfl⟩⟩
  rw[List.take_length,hl,List.take_length]at hI
  exact hI
theorem re {a b:GLin} (h:a.L.length<4611686018427387904):∃ r,lV a b=some r∧(r=true↔a=b):=by
 unfold lV
 by_cases hk:a.K=b.K
 ·by_cases hl:a.L.length=b.L.length
  ·rw[if_neg (by simp[hk,hl])]
   obtain⟨r,h1,h2⟩:=sY (L:=fun f i=>i6 a b f i) h hl (fun f i x y hx hy=>by
    have hi:=sR hx
    refine⟨decide (x.Name=y.Name)&&decide (x.By=y.By),?_,?_⟩
    ·simp only[Bool.and_eq_true,decide_eq_true_eq]
     constructor
     ·rintro⟨q1,q2⟩;cases x;cases y;simp only at q1 q2;rw[q1,q2]
     ·rintro rfl;exact⟨rfl,rfl⟩
    ·simp only[i6]
     rw[if_pos (cb hi),cQ hx,Option.bind_some,cQ hy,Option.bind_some,mU (by omega)]
     cases (decide (x.Name=y.Name)&&decide (x.By=y.By))<;>rfl) (fun f=>by
    simp only[i6]
    rw[if_neg (by simp)])
   refine⟨r,h1,h2.trans ?_⟩
   cases a;cases b
   simp only at hk
   simp[hk]
  ·rw[if_pos (by simp;omega)]
   exact⟨false,rfl,⟨fun h=>(by cases h),fun h=>absurd (by rw[h]) hl⟩⟩
 ·rw[if_pos (by simp[hk])]
  exact⟨false,rfl,⟨fun h=>(by cases h),fun h=>absurd (by rw[h]) hk⟩⟩
theorem zc {a b:List GLin} (h:a.length<4611686018427387904) (hh:∀ f∈a,f.L.length<4611686018427387904):∃ r,od a b=some r∧(r=true↔a=b):=by
 unfold od
 by_cases hl:a.length=b.length
 ·rw[if_neg (by simp[hl])]
  exact sY (L:=fun f i=>il a b f i) h hl (fun f i x y hx hy=>by
   have hi:=sR hx
   obtain⟨r,h1,h2⟩:=re (a:=x) (b:=y) (hh x (List.mem_of_getElem? hx))
   refine⟨r,h2,?_⟩
   simp only[il]
   rw[if_pos (cb hi),cQ hx,Option.bind_some,cQ hy,Option.bind_some,h1,Option.bind_some,mU (by omega)]
   cases r<;>rfl) (fun f=>by
   simp only[il]
   rw[if_neg (by simp)])
 ·rw[if_pos (by simp;omega)]
  exact⟨false,rfl,⟨fun h=>(by cases h),fun h=>absurd (by rw[h]) hl⟩⟩
theorem xJ {a b:GIndex} (h:okGIndex a):∃ r,nr a b=some r∧(r=true↔a=b):=by
 obtain⟨o1,_,o2⟩:=h
 obtain⟨r1,p1,p2⟩:=re (a:=a.Lin) (b:=b.Lin) (by have:=o1.2.2;omega)
 obtain⟨r2,q1,q2⟩:=zc (a:=a.At) (b:=b.At) (by have:=o2.2;omega) (fun f hf=>by have:=(o2.1 f hf).2.2;omega)
 unfold nr
 rw[p1,q1,ay,Option.bind_some,ay,Option.bind_some]
 refine⟨_,rfl,?_⟩
 by_cases hf:a.From=b.From
 ·simp only[hf,decide_true,if_true,Bool.true_and]
  cases r1
  ·simp only[Bool.false_and,Bool.false_eq_true,false_iff]
   intro h;subst h;simp at p2
  ·have:=p2.1 rfl
   simp only[if_true,Bool.true_and,q2]
   cases a;cases b
   simp only at hf this
   simp[hf,this]
 ·simp only[hf,decide_false,Bool.false_and,Bool.false_eq_true,false_iff]
  intro h;subst h;exact hf rfl
theorem uU {a b:List GIndex} (h:a.length<4611686018427387904) (hh:∀ f∈a,okGIndex f):∃ r,lW a b=some r∧(r=true↔a=b):=by
 unfold lW
 by_cases hl:a.length=b.length
 ·rw[if_neg (by simp[hl])]
  exact sY (L:=fun f i=>fB a b f i) h hl (fun f i x y hx hy=>by
   have hi:=sR hx
   obtain⟨r,h1,h2⟩:=xJ (a:=x) (b:=y) (hh x (List.mem_of_getElem? hx))
   refine⟨r,h2,?_⟩
   simp only[fB]
   rw[if_pos (cb hi),cQ hx,Option.bind_some,cQ hy,Option.bind_some,h1,Option.bind_some,mU (by omega)]
   cases r<;>rfl) (fun f=>by
   simp only[fB]
   rw[if_neg (by simp)])
 ·rw[if_pos (by simp;omega)]
  exact⟨false,rfl,⟨fun h=>(by cases h),fun h=>absurd (by rw[h]) hl⟩⟩
theorem tv:∀ (f:Nat) (a b:GExpr),okGExpr a→wE a<f→∃ r,jX f a b=some r∧(r=true↔a=b)
 | 0,_,_,_,h=>absurd h (by omega)
 | f+1,a,b,ho,hf=>by
  obtain⟨o1,o2,o3⟩:=ho.out
  obtain⟨l1,l2,l3,l4⟩:=ho.len
  obtain⟨r1,p1,p2⟩:=re (a:=a.Lin) (b:=b.Lin) l3
  obtain⟨r2,q1,q2⟩:=uU (a:=a.Idx) (b:=b.Idx) l1 o2.1
  have hargs:∃ r,nt (jX f) a.Args b.Args=some r∧(r=true↔a.Args=b.Args):=by
   unfold nt
   by_cases hl:a.Args.length=b.Args.length
   ·rw[if_neg (by simp[hl])]
    exact sY (L:=fun g i=>gN a.Args b.Args (jX f) g i) l2 hl (fun g i x y hx hy=>by
     have hi:=sR hx
     have hm:=List.mem_of_getElem? hx
     obtain⟨r,h1,h2⟩:=tv f x y (o3.1 x hm) (by have:=tE hm;omega)
     refine⟨r,h2,?_⟩
     simp only[gN]
     rw[if_pos (cb hi),cQ hx,Option.bind_some,cQ hy,Option.bind_some,h1,Option.bind_some,mU (by omega)]
     cases r<;>rfl) (fun g=>by
     simp only[gN]
     rw[if_neg (by simp)])
   ·rw[if_pos (by simp;omega)]
    exact⟨false,rfl,⟨fun h=>(by cases h),fun h=>absurd (by rw[h]) hl⟩⟩
  obtain⟨r3,s1,s2⟩:=hargs
  show ∃ r,mH (jX f) a b=some r∧ _
  unfold mH
  rw[p1,q1,s1,ay,Option.bind_some,ay,Option.bind_some,ay,Option.bind_some]
  generalize hc:(((decide (a.Op=b.Op)&&decide (a.Name=b.Name))&&(decide (a.Val.N=b.Val.N)&&decide (a.Val.D=b.Val.D)))&&((decide (a.Type_.Kind=b.Type_.Kind))&&(decide (a.Type_.Bits=b.Type_.Bits))&&(decide (a.Type_.Frac=b.Type_.Frac))&&(decide (a.Type_.Round=b.Type_.Round))&&(decide (a.Type_.Over=b.Type_.Over))))=c
  refine⟨_,rfl,?_⟩
  have hcc:c=true↔(a.Op=b.Op∧a.Name=b.Name∧a.Val=b.Val∧a.Type_=b.Type_):=by
   rw[← hc]
   simp only[Bool.and_eq_true,decide_eq_true_eq]
   constructor
   ·rintro⟨⟨⟨x1,x2⟩,x3,x4⟩,⟨⟨⟨y1,y2⟩,y3⟩,y4⟩,y5⟩
    refine⟨x1,x2,?_,?_⟩
    ·cases hv:a.Val;cases hw:b.Val;rw[hv,hw]at x3 x4;simp only at x3 x4;rw[x3,x4]
    ·cases hv:a.Type_;cases hw:b.Type_;rw[hv,hw]at y1 y2 y3 y4 y5;simp only at y1 y2 y3 y4 y5;rw[y1,y2,y3,y4,y5]
   ·rintro⟨x1,x2,x3,x4⟩
    rw[x1,x2,x3,x4];simp
  cases c
  ·simp only[Bool.false_and,Bool.false_eq_true,false_iff]
   intro h;subst h;simp at hcc
  ·obtain⟨x1,x2,x3,x4⟩:=hcc.1 rfl
   simp only[if_true,Bool.true_and]
   cases r1
   ·simp only[Bool.false_and,Bool.false_eq_true,false_iff]
    intro h;subst h;simp at p2
   ·have y1:=p2.1 rfl
    simp only[if_true,Bool.true_and]
    cases r2
    ·simp only[Bool.false_and,Bool.false_eq_true,false_iff]
     intro h;subst h;simp at q2
    ·have y2:=q2.1 rfl
     simp only[if_true,Bool.true_and,s2]
     exact⟨fun h=>Ho x1 x2 x3 x4 y1 y2 h,fun h=>by rw[h]⟩
end Go.Proofs.YtmhoikfoogemnaaGreatDoor
namespace Go.Proofs.YtmhoikfoogemnaaGreatDoor
open Go Go.RowKit Go.Vc
set_option linter.unusedVariables false
set_option linter.unusedSimpArgs false
end Go.Proofs.YtmhoikfoogemnaaGreatDoor
