import Derived.Test.YtmhoikfoogemnaaGreatDoorMYf
import Derived.Test.YtmhoikfoogemnaaGreatDoorMYe
namespace Go.Proofs.YtmhoikfoogemnaaGreatDoor
open Go Go.RowKit Go.Vc
set_option linter.unusedVariables false
set_option linter.unusedSimpArgs false
theorem uR {e:GExpr} (h:uH e) (hv:VaR e.Val):jJ e=some (lR e):=by
 let Y:GLin→Nat×Int→Option (Bool×(Nat×Int)):=fun k_0 q=>if q.1=0 then cX k_0 q.2 else none
 have hY:∀ (l:GLin),l.L.length<4611686018427387904→Y l (0,0)=some (if fG l=true then(true,(0,0))else(false,(1,1))):=fun l hl=>by
  show(if(0:Nat)=0 then cX l 0 else none)=_
  rw[if_pos rfl]
  unfold cX fG
  rw[(tW hl).1,Option.bind_some]
  by_cases ho:mL l<;>simp[ho]
 have hl:bp e Y fu 0 (0,0)=if(e.Idx.all fun x=>fG x.Lin&&x.At.all fG)=true then some ((),(0,0))else some ((),(1,1)):=by
  refine nJ (m:=fun f i=>bp e Y f i (0,0)) (l:=e.Idx) (p:=fun x=>fG x.Lin&&x.At.all fG) h.1 ?_ ?_
  ·intro f i x hx
   have hi:=(List.getElem?_eq_some_iff.1 hx).1
   have h0:=h.1
   obtain⟨p1,p2,p3⟩:=h.2.2.2 x (List.mem_of_getElem? hx)
   simp only[bp]
   rw[if_pos (bS hi),ck hx,Option.bind_some,hY _ p1,Option.bind_some]
   have hin:cY x Y (bp e Y f) (i:Int) fu 0 (0,0)=if x.At.all fG=true then bp e Y f ((i+1:Nat):Int) (0,0)else some ((),(1,1)):=by
    refine nJ (m:=fun f' k=>cY x Y (bp e Y f) (i:Int) f' k (0,0)) (l:=x.At) (p:=fG) p2 ?_ ?_
    ·intro f' k y hy
     have hk:=(List.getElem?_eq_some_iff.1 hy).1
     simp only[cY]
     rw[if_pos (bS hk),ck hy,Option.bind_some,hY _ (p3 y (List.mem_of_getElem? hy)),Option.bind_some,lB (by omega)]
     cases fG y<;>rfl
    ·intro f'
     simp only[cY]
     rw[if_neg (by simp)]
     unfold jx;rw[lB (by omega)]
   cases fG x.Lin
   ·rfl
   ·simp only[if_true,Bool.true_and,Bool.not_true,Bool.false_eq_true,if_false];exact hin
  ·intro f
   simp only[bp]
   rw[if_neg (by simp)]
 unfold jJ lR
 rw[yK h,zX h,BE h,(uS h).1,xZ hv]
 cases qL e
 ·rfl
 cases qN e
 ·rfl
 cases uq e
 ·rfl
 cases ht:sQ e
 ·rfl
 simp only[Option.bind_some,Bool.not_true,Bool.false_eq_true,if_false,if_true]
 have ht1:e.Op=1→pY e.Type_=true:=fun h1=>by unfold sQ at ht;simp[h1]at ht;exact ht.1
 unfold yH
 have hform:(l5 e).bind (fun r6=>(jK Y r6 (0,0)).bind fun⟨u1,o1,v2⟩=>if o1=0 then some 0 else if o1=1 then some v2 else none)=some (if(fG e.Lin&&e.Idx.all fun x=>fG x.Lin&&x.At.all fG)=true then(0:Int)else 1):=by
  unfold l5 jK
  rw[Option.bind_some,hY _ h.2.2.1,Option.bind_some]
  cases fG e.Lin
  ·rfl
  ·simp only[if_true,Bool.true_and,Bool.not_true,Bool.false_eq_true,if_false]
   rw[hl]
   cases (e.Idx.all fun x=>fG x.Lin&&x.At.all fG)<;>rfl
 by_cases h1:e.Op=1
 ·simp only[h1,ht1 h1,decide_true,gd,if_true,Bool.true_and,Option.bind_some,Bool.not_true,Bool.false_or]
  cases zC e.Type_ e.Val
  ·simp
  ·simp only[Bool.not_true,Bool.false_eq_true,if_false,Bool.true_and];exact hform
 ·simp only[h1,decide_false,gd,Bool.false_eq_true,if_false,Bool.false_and,Option.bind_some,Bool.not_false,Bool.true_or,Bool.true_and]
  exact hform
def tz {α:Type} (g:α→Int):List α→Int
 | []=>0
 | x::l=>if g x=0 then tz g l else g x
def o8:GExpr→Int
 | ⟨op,nm,v,t,l,ix,args⟩=>if lR ⟨op,nm,v,t,l,ix,args⟩=0 then go args else lR ⟨op,nm,v,t,l,ix,args⟩
 where go:List GExpr→Int
  | []=>0
  | x::xs=>if o8 x=0 then go xs else o8 x
theorem AV:∀ (l:List GExpr),o8.go l=tz o8 l
 | []=>rfl
 | x::l=>by rw[o8.go,tz,AV l]
theorem AW (e:GExpr):o8 e=if lR e=0 then tz o8 e.Args else lR e:=by cases e;rw[o8,AV]
def nE:GExpr→Nat
 | ⟨_,_,_,_,_,_,args⟩=>1+go args
 where go:List GExpr→Nat
  | []=>0
  | x::xs=>nE x+go xs
theorem E7:∀ (l:List GExpr),nE.go l=(l.map nE).sum
 | []=>rfl
 | x::l=>by rw[nE.go,E7 l,List.map_cons,List.sum_cons]
theorem Dc (e:GExpr):nE e=1+(e.Args.map nE).sum:=by cases e;rw[nE,E7]
def px:List Nat→Nat
 | []=>0
 | x::l=>max x (px l)
def dE:GExpr→Nat
 | ⟨_,_,_,_,_,_,args⟩=>1+go args
 where go:List GExpr→Nat
  | []=>0
  | x::xs=>max (dE x) (go xs)
theorem E9:∀ (l:List GExpr),dE.go l=px (l.map dE)
 | []=>rfl
 | x::l=>by rw[dE.go,E9 l,List.map_cons,px]
theorem Fa (e:GExpr):dE e=1+px (e.Args.map dE):=by cases e;rw[dE,E9]
theorem rY {e a:GExpr} (h:a∈e.Args):wE a<wE e:=by
 rw[xX e]
 have:=zJ (List.mem_map_of_mem (f:=wE) h)
 omega
theorem E6:∀ (k:Nat) (e:GExpr),wE e<k→nE e≤wE e
 | 0,_,h=>absurd h (by omega)
 | k+1,e,h=>by
  rw[Dc,xX]
  have:(e.Args.map nE).sum≤(e.Args.map wE).sum:=by
   have hall:∀ a∈e.Args,nE a≤wE a:=fun a ha=>E6 k a (by have:=rY ha;omega)
   generalize e.Args=l at hall
   induction l with
   | nil=>simp
   | cons x l ih=>
    rw[List.map_cons,List.map_cons,List.sum_cons,List.sum_cons]
    have h1:=hall x (by simp)
    have h2:=ih fun a ha=>hall a (by simp[ha])
    omega
  omega
theorem HP (e:GExpr):nE e≤wE e:=E6 (wE e+1) e (by omega)
theorem DV {e:GExpr} :e.Args.length≤wE e:=by
 rw[xX]
 have:e.Args.length≤(e.Args.map wE).sum:=by
  generalize e.Args=l
  induction l with
  | nil=>simp
  | cons x l ih=>
   rw[List.map_cons,List.sum_cons,List.length_cons]
   have:1≤wE x:=by rw[xX];omega
   omega
 omega
theorem uQ {α R:Type} {m:Nat→Int→Option R} {l:List α} {g:α→Int} {k:Option R} {r:Int→Option R} (hn:l.length<4611686018427387904)
  (rd:∀ (f i:Nat) x,l[i]? =some x→m (f+1) (i:Int)=if g x=0 then m f ((i+1:Nat):Int)else r (g x)) (ed:∀ f,m (f+1) (l.length:Int)=k):m fu 0=if tz g l=0 then k else r (tz g l):=by
 refine jy (L:=fun f (_:Unit) i=>m f i) (n:=l.length) hn (fun i _=>tz g l=tz g (l.drop i)) ?_ ?_ () rfl
 ·intro f i _ hi hI
  obtain⟨x,hx⟩:=bY hi
  rw[n0 hx,tz]at hI
  by_cases h:g x=0
  ·left;rw[if_pos h]at hI;exact⟨(),hI,by rw[rd f i x hx,if_pos h]⟩
  ·right
   rw[if_neg h]at hI
   rw[show m (f+1) (i:Int)=r (g x)by rw[rd f i x hx,if_neg h],hI,if_neg h]
 ·intro f _ hI
  rw[List.drop_length]at hI
  rw[hI,show tz g ([]:List α)=0 from rfl,if_pos rfl];exact ed f
theorem zh {f:Nat} :∀ {e:GExpr},okGExpr e→wE e<f→kE f e=some (o8 e):=by
 induction f with
 | zero=>intro e _ h;omega
 | succ f ih=>
  intro e ho hw
  have hl:=ho.len
  have hv:VaR e.Val:=VaR.of (okGExpr_iff.1 ho).2.2.1
  show nv (kE f) e=_
  unfold nv
  rw[yj hl,yk hl,wM hl,(uS hl).2,AW]
  unfold lR
  cases qL e
  ·rfl
  cases qN e
  ·rfl
  cases uq e
  ·rfl
  cases ht:sQ e
  ·rfl
  have ht1:e.Op=1→pY e.Type_=true:=fun h1=>by unfold sQ at ht;simp[h1]at ht;exact ht.1
  rw[wN hl hv ht1]
  cases yH e
  ·rfl
  simp only[Option.bind_some,Bool.not_true,Bool.false_eq_true,if_false,if_true]
  rw[uQ (m:=fun f' i=>j6 e (kE f) f' i) (l:=e.Args) (g:=o8) (k:=some 0) (r:=some) hl.2.1 ?_ ?_]
  ·by_cases h:tz o8 e.Args=0
   ·rw[if_pos h,h]
   ·rw[if_neg h]
  ·intro f' i x hx
   have hi:=(List.getElem?_eq_some_iff.1 hx).1
   have hm:=List.mem_of_getElem? hx
   have:=hl.2.1
   have:=rY hm
   simp only[j6]
   rw[if_pos (bS hi),ck hx,Option.bind_some,ih (ho.out.2.2.1 x hm) (by omega),Option.bind_some,lB (by omega)]
   by_cases h:o8 x=0
   ·rw[if_neg (by simp[h]),if_pos h]
   ·rw[if_pos (by simp[h]),if_neg h]
  ·intro f'
   simp only[j6]
   rw[if_neg (by simp)]
theorem BD {f:Nat} :∀ {e:GExpr},okGExpr e→wE e<f→el f e (fun k_0 q=>if q.1=0 then cN k_0 q.2 else none) ((0,0):Nat×Int)=some (if o8 e=0 then(true,(0,0))else(false,(1,o8 e))):=by
 induction f with
 | zero=>intro e _ h;omega
 | succ f ih=>
  intro e ho hw
  have hl:=ho.len
  have hv:VaR e.Val:=VaR.of (okGExpr_iff.1 ho).2.2.1
  show gZ (el f) e _ _ =_
  unfold gZ
  have h0:(fun(k_0:GExpr) (q:Nat×Int)=>if q.1=0 then cN k_0 q.2 else none) e (0,0)=some (if lR e=0 then(true,(0,0))else(false,(1,lR e))):=by
   show(if(0:Nat)=0 then cN e 0 else none)=_
   rw[if_pos rfl]
   unfold cN
   rw[uR hl hv,Option.bind_some]
   by_cases h:lR e=0<;>simp[h]
  rw[h0,Option.bind_some,AW]
  by_cases h:lR e=0
  rotate_left
  ·simp[h]
  simp only[h,if_true,Bool.not_true,Bool.false_eq_true,if_false]
  rw[uQ (m:=fun f' i=>db e (el f) _ f' i ((0,0):Nat×Int)) (l:=e.Args) (g:=o8) (k:=some (true,(0,0))) (r:=fun v=>some (false,(1,v))) hl.2.1 ?_ ?_]
  ·by_cases h:tz o8 e.Args=0
   ·rw[if_pos h,if_pos h]
   ·rw[if_neg h,if_neg h]
  ·intro f' i x hx
   have hi:=(List.getElem?_eq_some_iff.1 hx).1
   have hm:=List.mem_of_getElem? hx
   have:=hl.2.1
   have:=rY hm
   simp only[db]
   rw[if_pos (bS hi),ck hx,Option.bind_some,ih (ho.out.2.2.1 x hm) (by omega),Option.bind_some,lB (by omega)]
   by_cases h:o8 x=0
   ·simp[h]
   ·simp[h]
  ·intro f'
   simp only[db]
   rw[if_neg (by simp)]
theorem Df (a b:List Nat):px (a++b)=max (px a) (px b):=by
 induction a with
 | nil=>simp[px]
 | cons x a ih=>rw[List.cons_append,px,px,ih];omega
theorem GQ (e:GExpr):1≤dE e:=by rw[Fa];omega
theorem xi {f:Nat} :∀ {e:GExpr} {mf:Nat},okGExpr e→mf<f→1≤mf→mf≤41→iR f e (mf:Int)=some ((min (dE e) mf:Nat):Int)∧j7 f e (mf:Int)=some ((min (dE e) mf:Nat):Int):=by
 induction f with
 | zero=>intro e n _ h;omega
 | succ f ih=>
  intro e mf ho hw h1 hm
  have hl:=ho.len
  have hp:=GQ e
  show kM (iR f) e (mf:Int)=_ ∧m5 (j7 f) e (mf:Int)=_
  unfold kM m5
  have step:∀ (i:Nat) x,e.Args[i]? =some x→1<mf→max ((1+min (px ((e.Args.map dE).take i)) (mf - 1):Nat):Int) (az (1+((min (dE x) (mf - 1):Nat):Int)))=((1+min (px ((e.Args.map dE).take (i+1))) (mf - 1):Nat):Int):=fun i x hx h2=>by
   rw[H3 (by omega),cy (x:=dE x) (by rw[List.getElem?_map,hx];rfl),Df]
   simp only[px]
   omega
  have last:1<mf→((1+min (px ((e.Args.map dE).take e.Args.length)) (mf - 1):Nat):Int)=((min (dE e) mf:Nat):Int):=fun h2=>by
   rw[Fa,show e.Args.length=(e.Args.map dE).length by rw[List.length_map],List.take_length];omega
  by_cases hlim:1<mf
  ·constructor
   ·rw[if_neg (by simp;omega)]
    refine jy (L:=fun f' s i=>fZ e (iR f) (mf:Int) f' s i) (n:=e.Args.length) hl.2.1 (fun i s=>s=((1+min (px ((e.Args.map dE).take i)) (mf - 1):Nat):Int)) ?_ ?_ _ (by simp[px])
    ·rintro f' i s hi rfl
     obtain⟨x,hx⟩:=bY hi
     have hm:=List.mem_of_getElem? hx
     left
     refine⟨_,rfl,?_⟩
     simp only[fZ]
     rw[if_pos (bS hi),ck hx,Option.bind_some,H3 (by omega),show(mf:Int) - 1=((mf - 1:Nat):Int)by omega,(ih (ho.out.2.2.1 x hm) (by omega) (by omega) (by omega)).1,Option.bind_some,lB (by omega),step i x hx hlim]
    ·rintro f' s rfl
     simp only[fZ]
     rw[if_neg (by simp),last hlim]
   ·refine jy (L:=fun f' s i=>iG e (mf:Int) (j7 f) f' s i) (n:=e.Args.length) hl.2.1 (fun i s=>s=((1+min (px ((e.Args.map dE).take i)) (mf - 1):Nat):Int)) ?_ ?_ _ (by simp[px])
    ·rintro f' i s hi rfl
     obtain⟨x,hx⟩:=bY hi
     have hm:=List.mem_of_getElem? hx
     left
     refine⟨_,rfl,?_⟩
     simp only[iG]
     rw[bS hi,decide_eq_true (show(1:Int)<(mf:Int)by omega),Bool.and_self,if_pos rfl,ck hx,Option.bind_some,H3 (by omega),show(mf:Int) - 1=((mf - 1:Nat):Int)by omega,(ih (ho.out.2.2.1 x hm) (by omega) (by omega) (by omega)).2,Option.bind_some,lB (by omega),step i x hx hlim]
    ·rintro f' s rfl
     simp only[iG]
     rw[if_neg (by simp),last hlim]
  ·have e1:mf=1:=by omega
   subst e1
   constructor
   ·rw[if_pos (by simp)];refine congrArg some ?_;omega
   ·obtain⟨g,hg⟩:∃ g,fu=g+1:=⟨fu - 1,by unfold fu;omega⟩
    rw[hg]
    simp only[iG]
    rw[if_neg (by simp)];refine congrArg some ?_;omega
end Go.Proofs.YtmhoikfoogemnaaGreatDoor
namespace Go.Proofs.YtmhoikfoogemnaaGreatDoor
open Go Go.RowKit Go.Vc
set_option linter.unusedVariables false
set_option linter.unusedSimpArgs false
end Go.Proofs.YtmhoikfoogemnaaGreatDoor
namespace Go.Proofs.YtmhoikfoogemnaaGreatDoor
open Go Go.RowKit Go.Vc
set_option linter.unusedVariables false
set_option linter.unusedSimpArgs false
end Go.Proofs.YtmhoikfoogemnaaGreatDoor
namespace Go.Proofs.YtmhoikfoogemnaaGreatDoor
open Go Go.RowKit Go.Vc
set_option linter.unusedVariables false
set_option linter.unusedSimpArgs false
theorem rv {α:Type} {l:List α} {i:Nat} {x:α} (h:l[i]? =some x):i<l.length:=(List.getElem?_eq_some_iff.1 h).1
def defF (d:H2):Prop:=(0≤d.Fold∧d.Fold≤5)∧((d.Fold=0∨d.Fold=5)→d.Red=[])
instance (d:H2):Decidable (defF d):=inferInstanceAs (Decidable (_ ∧ _))
theorem aP {α:Type} [Inhabited α] (g:Bool) (v:α):gd g (some v)=some (if g=true then v else default):=by unfold gd;cases g<;>rfl
end Go.Proofs.YtmhoikfoogemnaaGreatDoor
namespace Go.Proofs.YtmhoikfoogemnaaGreatDoor
open Go Go.RowKit Go.Vc
set_option linter.unusedVariables false
set_option linter.unusedSimpArgs false
end Go.Proofs.YtmhoikfoogemnaaGreatDoor
namespace Go.Proofs.YtmhoikfoogemnaaGreatDoor
open Go Go.RowKit Go.Vc
set_option linter.unusedVariables false
set_option linter.unusedSimpArgs false
def digB (c:UInt8):Bool:=decide (48≤(c.toNat:Int))&&decide ((c.toNat:Int)≤57)
def jA:List (List UInt8):=[[40],[41],[91],[93],[44],[43],[45],[42],[47],[60],[38],[124],[33],[58],[59],[60,61],[61,61]]
def HS (t:List UInt8):Int:=if py (t.headD 0)=true then 1 else if digB (t.headD 0)=true then 2 else 3
end Go.Proofs.YtmhoikfoogemnaaGreatDoor
namespace Go.Proofs.YtmhoikfoogemnaaGreatDoor
open Go Go.RowKit Go.Vc
set_option linter.unusedVariables false
set_option linter.unusedSimpArgs false
def tkL:Nat→List (List UInt8)→List aG
 | _,[]=>[]
 | o,t::r=>if t=[32]then tkL (o+1) r else⟨HS t,o,t⟩::tkL (o+t.length) r
end Go.Proofs.YtmhoikfoogemnaaGreatDoor
namespace Go.Proofs.YtmhoikfoogemnaaGreatDoor
open Go Go.RowKit Go.Vc
set_option linter.unusedVariables false
set_option linter.unusedSimpArgs false
end Go.Proofs.YtmhoikfoogemnaaGreatDoor
namespace Go.Proofs.YtmhoikfoogemnaaGreatDoor
open Go Go.RowKit Go.Vc
set_option linter.unusedVariables false
set_option linter.unusedSimpArgs false
end Go.Proofs.YtmhoikfoogemnaaGreatDoor
namespace Go.Proofs.YtmhoikfoogemnaaGreatDoor
open Go Go.RowKit Go.Vc
set_option linter.unusedVariables false
set_option linter.unusedSimpArgs false
end Go.Proofs.YtmhoikfoogemnaaGreatDoor
namespace Go.Proofs.YtmhoikfoogemnaaGreatDoor
open Go Go.RowKit Go.Vc
set_option linter.unusedVariables false
set_option linter.unusedSimpArgs false
def BL (op:Int) (a b:GExpr):GExpr:=⟨op,[],⟨0,0⟩,⟨0,0,0,0,0⟩,⟨0,[]⟩,[],[a,b]⟩
theorem GM {e f:GExpr} (h1:e.Op=f.Op) (h2:e.Name=f.Name) (h3:e.Val=f.Val) (h4:e.Type_=f.Type_) (h5:e.Lin=f.Lin) (h6:e.Idx=f.Idx) (h7:e.Args=f.Args):e=f:=by
 cases e;cases f
 simp only at h1 h2 h3 h4 h5 h6 h7
 rw[h1,h2,h3,h4,h5,h6,h7]
def Ft (op:Int) (a:GExpr):GExpr:=⟨op,[],⟨0,0⟩,⟨0,0,0,0,0⟩,⟨0,[]⟩,[],[a]⟩
end Go.Proofs.YtmhoikfoogemnaaGreatDoor
namespace Go.Proofs.YtmhoikfoogemnaaGreatDoor
open Go Go.RowKit Go.Vc
set_option linter.unusedVariables false
set_option linter.unusedSimpArgs false
theorem rD {α:Type} {L:Nat→Int→Option Bool} {a b:List α} (hn:a.length<4611686018427387904) (hl:a.length=b.length)
  (rd:∀ f (i:Nat) x y,a[i]? =some x→b[i]? =some y→∃ r:Bool,(r=true↔x=y)∧L (f+1) (i:Int)=if r=true then L f ((i+1:Nat):Int)else some false)
  (fin:∀ f,L (f+1) (a.length:Int)=some true):∃ r,L fu 0=some r∧(r=true↔a=b):=by
 refine nj (L:=fun f (_:Unit) i=>L f i) (n:=a.length) hn (fun i _=>a.take i=b.take i) (fun r=>r=true↔a=b) ?_ ?_ () (by simp)
 ·intro f i _ hi hI
  obtain⟨x,hx⟩:=bY hi
  obtain⟨y,hy⟩:=bY (l:=b) (i:=i) (by omega)
  obtain⟨r,h1,h2⟩:=rd f i x y hx hy
  rw[h2]
  by_cases hr:r=true
  ·left
   refine⟨(),?_,by rw[if_pos hr]⟩
   rw[cy hx,cy hy,hI,h1.1 hr]
  ·right
   refine⟨false,by rw[if_neg hr],⟨fun h=>(by cases h),fun h=> ?_⟩⟩
   subst h
   rw[hx]at hy
   injection hy with hy
   exact absurd (h1.2 hy) hr
 ·intro f _ hI
  refine⟨true,fin f,⟨fun _=> ?_,fun _=>rfl⟩⟩
  rw[List.take_length,hl,List.take_length]at hI
  exact hI
theorem pX {a b:GLin} (h:a.L.length<4611686018427387904):∃ r,kN a b=some r∧(r=true↔a=b):=by
 unfold kN
 by_cases hk:a.K=b.K
 ·by_cases hl:a.L.length=b.L.length
  ·rw[if_neg (by simp[hk,hl])]
   obtain⟨r,h1,h2⟩:=rD (L:=fun f i=>iw a b f i) h hl (fun f i x y hx hy=>by
    have hi:=rv hx
    refine⟨decide (x.Name=y.Name)&&decide (x.By=y.By),?_,?_⟩
    ·simp only[Bool.and_eq_true,decide_eq_true_eq]
     constructor
     ·rintro⟨q1,q2⟩;cases x;cases y;simp only at q1 q2;rw[q1,q2]
     ·rintro rfl;exact⟨rfl,rfl⟩
    ·simp only[iw]
     rw[if_pos (bS hi),ck hx,Option.bind_some,ck hy,Option.bind_some,lB (by omega)]
     cases (decide (x.Name=y.Name)&&decide (x.By=y.By))<;>rfl) (fun f=>by
    simp only[iw]
    rw[if_neg (by simp)])
   refine⟨r,h1,h2.trans ?_⟩
   cases a;cases b
   simp only at hk
   simp[hk]
  ·rw[if_pos (by simp;omega)]
   exact⟨false,rfl,⟨fun h=>(by cases h),fun h=>absurd (by rw[h]) hl⟩⟩
 ·rw[if_pos (by simp[hk])]
  exact⟨false,rfl,⟨fun h=>(by cases h),fun h=>absurd (by rw[h]) hk⟩⟩
theorem xH {a b:List GLin} (h:a.length<4611686018427387904) (hh:∀ f∈a,f.L.length<4611686018427387904):∃ r,mS a b=some r∧(r=true↔a=b):=by
 unfold mS
 by_cases hl:a.length=b.length
 ·rw[if_neg (by simp[hl])]
  exact rD (L:=fun f i=>gL a b f i) h hl (fun f i x y hx hy=>by
   have hi:=rv hx
   obtain⟨r,h1,h2⟩:=pX (a:=x) (b:=y) (hh x (List.mem_of_getElem? hx))
   refine⟨r,h2,?_⟩
   simp only[gL]
   rw[if_pos (bS hi),ck hx,Option.bind_some,ck hy,Option.bind_some,h1,Option.bind_some,lB (by omega)]
   cases r<;>rfl) (fun f=>by
   simp only[gL]
   rw[if_neg (by simp)])
 ·rw[if_pos (by simp;omega)]
  exact⟨false,rfl,⟨fun h=>(by cases h),fun h=>absurd (by rw[h]) hl⟩⟩
theorem vV {a b:GIndex} (h:okGIndex a):∃ r,l6 a b=some r∧(r=true↔a=b):=by
 obtain⟨o1,_,o2⟩:=h
 obtain⟨r1,p1,p2⟩:=pX (a:=a.Lin) (b:=b.Lin) (by have:=o1.2.2;omega)
 obtain⟨r2,q1,q2⟩:=xH (a:=a.At) (b:=b.At) (by have:=o2.2;omega) (fun f hf=>by have:=(o2.1 f hf).2.2;omega)
 unfold l6
 rw[p1,q1,aP,Option.bind_some,aP,Option.bind_some]
 refine⟨_,rfl,?_⟩
 by_cases hf:a.From=b.From
 ·simp only[hf,decide_true,if_true,Bool.true_and]
  cases r1
  ·simp only[Bool.false_and,Bool.false_eq_true,false_iff]
   intro h;subst h;simp at p2
  ·have:=p2.1 rfl
   simp only[if_true,Bool.true_and,q2]
   cases a;cases b
   simp only at hf this
   simp[hf,this]
 ·simp only[hf,decide_false,Bool.false_and,Bool.false_eq_true,false_iff]
  intro h;subst h;exact hf rfl
theorem tJ {a b:List GIndex} (h:a.length<4611686018427387904) (hh:∀ f∈a,okGIndex f):∃ r,kO a b=some r∧(r=true↔a=b):=by
 unfold kO
 by_cases hl:a.length=b.length
 ·rw[if_neg (by simp[hl])]
  exact rD (L:=fun f i=>eK a b f i) h hl (fun f i x y hx hy=>by
   have hi:=rv hx
   obtain⟨r,h1,h2⟩:=vV (a:=x) (b:=y) (hh x (List.mem_of_getElem? hx))
   refine⟨r,h2,?_⟩
   simp only[eK]
   rw[if_pos (bS hi),ck hx,Option.bind_some,ck hy,Option.bind_some,h1,Option.bind_some,lB (by omega)]
   cases r<;>rfl) (fun f=>by
   simp only[eK]
   rw[if_neg (by simp)])
 ·rw[if_pos (by simp;omega)]
  exact⟨false,rfl,⟨fun h=>(by cases h),fun h=>absurd (by rw[h]) hl⟩⟩
theorem rQ:∀ (f:Nat) (a b:GExpr),okGExpr a→wE a<f→∃ r,iy f a b=some r∧(r=true↔a=b)
 | 0,_,_,_,h=>absurd h (by omega)
 | f+1,a,b,ho,hf=>by
  obtain⟨o1,o2,o3⟩:=ho.out
  obtain⟨l1,l2,l3,l4⟩:=ho.len
  obtain⟨r1,p1,p2⟩:=pX (a:=a.Lin) (b:=b.Lin) l3
  obtain⟨r2,q1,q2⟩:=tJ (a:=a.Idx) (b:=b.Idx) l1 o2.1
  have hargs:∃ r,l7 (iy f) a.Args b.Args=some r∧(r=true↔a.Args=b.Args):=by
   unfold l7
   by_cases hl:a.Args.length=b.Args.length
   ·rw[if_neg (by simp[hl])]
    exact rD (L:=fun g i=>ga a.Args b.Args (iy f) g i) l2 hl (fun g i x y hx hy=>by
     have hi:=rv hx
     have hm:=List.mem_of_getElem? hx
     obtain⟨r,h1,h2⟩:=rQ f x y (o3.1 x hm) (by have:=rY hm;omega)
     refine⟨r,h2,?_⟩
     simp only[ga]
     rw[if_pos (bS hi),ck hx,Option.bind_some,ck hy,Option.bind_some,h1,Option.bind_some,lB (by omega)]
     cases r<;>rfl) (fun g=>by
     simp only[ga]
     rw[if_neg (by simp)])
   ·rw[if_pos (by simp;omega)]
    exact⟨false,rfl,⟨fun h=>(by cases h),fun h=>absurd (by rw[h]) hl⟩⟩
  obtain⟨r3,s1,s2⟩:=hargs
  show ∃ r,lv (iy f) a b=some r∧ _
  unfold lv
  rw[p1,q1,s1,aP,Option.bind_some,aP,Option.bind_some,aP,Option.bind_some]
  generalize hc:(((decide (a.Op=b.Op)&&decide (a.Name=b.Name))&&(decide (a.Val.N=b.Val.N)&&decide (a.Val.D=b.Val.D)))&&((decide (a.Type_.Kind=b.Type_.Kind))&&(decide (a.Type_.Bits=b.Type_.Bits))&&(decide (a.Type_.Frac=b.Type_.Frac))&&(decide (a.Type_.Round=b.Type_.Round))&&(decide (a.Type_.Over=b.Type_.Over))))=c
  refine⟨_,rfl,?_⟩
  have hcc:c=true↔(a.Op=b.Op∧a.Name=b.Name∧a.Val=b.Val∧a.Type_=b.Type_):=by
   rw[← hc]
   simp only[Bool.and_eq_true,decide_eq_true_eq]
   constructor
   ·rintro⟨⟨⟨x1,x2⟩,x3,x4⟩,⟨⟨⟨y1,y2⟩,y3⟩,y4⟩,y5⟩
    refine⟨x1,x2,?_,?_⟩
    ·cases hv:a.Val;cases hw:b.Val;rw[hv,hw]at x3 x4;simp only at x3 x4;rw[x3,x4]
    ·cases hv:a.Type_;cases hw:b.Type_;rw[hv,hw]at y1 y2 y3 y4 y5;simp only at y1 y2 y3 y4 y5;rw[y1,y2,y3,y4,y5]
   ·rintro⟨x1,x2,x3,x4⟩
    rw[x1,x2,x3,x4];simp
  cases c
  ·simp only[Bool.false_and,Bool.false_eq_true,false_iff]
   intro h;subst h;simp at hcc
  ·obtain⟨x1,x2,x3,x4⟩:=hcc.1 rfl
   simp only[if_true,Bool.true_and]
   cases r1
   ·simp only[Bool.false_and,Bool.false_eq_true,false_iff]
    intro h;subst h;simp at p2
   ·have y1:=p2.1 rfl
    simp only[if_true,Bool.true_and]
    cases r2
    ·simp only[Bool.false_and,Bool.false_eq_true,false_iff]
     intro h;subst h;simp at q2
    ·have y2:=q2.1 rfl
     simp only[if_true,Bool.true_and,s2]
     exact⟨fun h=>GM x1 x2 x3 x4 y1 y2 h,fun h=>by rw[h]⟩
end Go.Proofs.YtmhoikfoogemnaaGreatDoor
namespace Go.Proofs.YtmhoikfoogemnaaGreatDoor
open Go Go.RowKit Go.Vc
set_option linter.unusedVariables false
set_option linter.unusedSimpArgs false
theorem Rok.start {l:List aG} {at_:Int} (h0:0≤at_) (h1:at_≤l.length) (hl:l.length≤50000) (ht:∀ t∈l,t.Text.length≤50000):Rok ⟨l,0⟩ ⟨l,at_,0⟩:=⟨.inl ⟨rfl,rfl⟩,h0,h1,hl,ht,by show(0:Int)≤0;omega,by show(0:Int)≤160;omega⟩
end Go.Proofs.YtmhoikfoogemnaaGreatDoor
