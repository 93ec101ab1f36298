import Derived.Test.YtmhoikfoogemnaaGreatDoorGEn
namespace Go.Proofs.YtmhoikfoogemnaaGreatDoor
open Go Go.RowKit Go.Vc
set_option linter.unusedVariables false
set_option linter.unusedSimpArgs false
theorem Gt {f:Nat} :∀ {e:GExpr} {n:Nat},okGExpr e→wE e<f→n≤2000→gI f e (λk_0 q=>if q.1=0 then gy k_0 q.2 else none) ((0,(n:Int)):Nat×Int)=some (if n+nE e≤2000 then(true,(0,((n+nE e:Nat):Int)))else(false,(1,2001))):=by
 induction f with
 | zero=>intro e n _ h;omega
 | succ f ih=>
  intro e n ho hw hn
  have hl:=ho.len
  show jl (gI f) e _ _ =_
  unfold jl
  rw[G7]
  have h0:(λ(k_0:GExpr) (q:Nat×Int)=>if q.1=0 then gy k_0 q.2 else none) e (0,(n:Int))=some (if n=2000 then(false,(1,2001))else(true,(0,((n+1:Nat):Int)))):=by
   show(if(0:Nat)=0 then gy e (n:Int)else none)=_
   rw[if_pos rfl]
   unfold gy
   rw[nu (by omega)]
   by_cases c:n=2000
   ·subst c;rfl
   ·rw[if_neg (by simp;omega),if_neg c]
  rw[h0,Option.bind_some]
  by_cases c:n=2000
  ·rw[if_pos c,if_neg (by omega)];rfl
  rw[if_neg c]
  simp only[Bool.not_true,Bool.false_eq_true,if_false]
  refine kQ (L:=λf' s i=>d7 e (gI f) (λk_0 q=>if q.1=0 then gy k_0 q.2 else none) f' i s) (n:=e.Args.length) hl.2.1 (λi s=>s=((0,((n+1+((e.Args.map nE).take i).sum:Nat):Int)):Nat×Int)∧n+1+((e.Args.map nE).take i).sum≤2000) ?_ ?_ ((0,((n+1:Nat):Int)):Nat×Int) ⟨by simp only[List.take_zero,List.sum_nil,Nat.add_zero],by simp only[List.take_zero,List.sum_nil];omega⟩
  ·rintro f' i s hi ⟨rfl,hb⟩
   obtain⟨x,hx⟩:=cC hi
   have hm:=List.mem_of_getElem? hx
   have hx2:(e.Args.map nE)[i]? =some (nE x):=by rw[List.getElem?_map,hx];rfl
   have h1:=B8 hx2
   have h2:=AB (e.Args.map nE) (i+1)
   have:=v8 hm
   simp only[d7]
   rw[if_pos (bS hi),cD hx,Option.bind_some,ih (ho.out.2.2.1 x hm) (by omega) hb,Option.bind_some,nu (by omega)]
   by_cases c2:n+1+((e.Args.map nE).take i).sum+nE x≤2000
   ·left
    rw[if_pos c2]
    refine⟨_,⟨rfl,by rw[h1];omega⟩,?_⟩
    simp only[Bool.not_true,Bool.false_eq_true,if_false]
    rw[h1,Nat.add_assoc (n+1)]
   ·right
    rw[if_neg c2,if_neg (show ¬ n+(1+(e.Args.map nE).sum)≤2000 by omega)]
    simp only[Bool.not_false,if_true]
  ·rintro f' s ⟨rfl,hb⟩
   have e1:(e.Args.map nE).take e.Args.length=e.Args.map nE:=by rw[show e.Args.length=(e.Args.map nE).length by rw[List.length_map],List.take_length]
   rw[e1]at hb
   simp only[d7]
   rw[if_neg (by simp),e1,if_pos (by omega), ← Nat.add_assoc]
theorem zj {e:GExpr} (ho:okGExpr e) (hw:wE e≤1000000):pF e=some ((min (nE e) 2001:Nat):Int):=by
 unfold pF n7 ke pu
 rw[Option.bind_some]
 have h:=Gt (f:=fu) (n:=0) ho (by unfold fu;omega) (by omega)
 rw[show((0:Nat):Int)=0 from rfl]at h
 rw[h]
 by_cases c:0+nE e≤2000
 ·rw[if_pos c,show min (nE e) 2001=nE e by omega,Nat.zero_add];rfl
 ·rw[if_neg c,show min (nE e) 2001=2001 by omega]
  rfl
theorem xY {f:Nat} :∀ {e:GExpr} {most:Nat},okGExpr e→wE e<f→most≤2000→wE e≤1000000→∃ r:Nat,gu f e (most:Int)=some (r:Int)∧(nE e≤most→r=nE e)∧(most<nE e→most<r∧r≤nE e):=by
 induction f with
 | zero=>intro e n _ h;omega
 | succ f ih=>
  intro e most ho hw hm hw2
  have hl:=ho.len
  have hnw:=Lj e
  show ∃ r:Nat,mI (gu f) e (most:Int)=_ ∧ _
  unfold mI
  have hne:=G7 e
  let I:Nat→Int→Prop:=λ(i:Nat) (s:Int)=>∃ m:Nat,s=(m:Int)∧(m=1+((e.Args.map nE).take i).sum∨(most<m∧m≤nE e))
  let Q:Int→Prop:=λ(r:Int)=>∃ m:Nat,r=(m:Int)∧((nE e≤most→m=nE e)∧(most<nE e→most<m∧m≤nE e))
  have rd:∀ (f' i:Nat) (s:Int),i<e.Args.length→I i s→(∃ s',I (i+1) s'∧dV e (most:Int) (gu f) (f'+1) s (i:Int)=dV e (most:Int) (gu f) f' s' ((i+1:Nat):Int))∨∃ r,dV e (most:Int) (gu f) (f'+1) s (i:Int)=some r∧Q r:=by
   rintro f' i s hi ⟨m,rfl,hmm⟩
   have h2:=AB (e.Args.map nE) i
   simp only[dV]
   by_cases c:m≤most
   ·left
    obtain⟨x,hx⟩:=cC hi
    have hmem:=List.mem_of_getElem? hx
    have hx2:(e.Args.map nE)[i]? =some (nE x):=by rw[List.getElem?_map,hx];rfl
    have h1:=B8 hx2
    have h3:=AB (e.Args.map nE) (i+1)
    have hxw:=v8 hmem
    have hmm:m=1+((e.Args.map nE).take i).sum:=by rcases hmm with h | h;exact h;omega
    have hlen:=H0 (e:=e)
    obtain⟨q,q1,q2,q3⟩:=ih (e:=x) (most:=most - m) (ho.out.2.2.1 x hmem) (by omega) (by omega) (by omega)
    have hq:q≤nE x:=by by_cases c3:nE x≤most - m;rw[q2 c3];exact Nat.le_refl _;exact(q3 (by omega)).2
    refine⟨((m+q:Nat):Int),⟨m+q,rfl,?_⟩,?_⟩
    ·by_cases c3:nE x≤most - m
     ·left;rw[h1,q2 c3];omega
     ·right;have:=q3 (by omega);omega
    ·rw[bS hi,decide_eq_true (show((m:Nat):Int)≤(most:Int)by omega),Bool.and_self,if_pos rfl,cD hx,Option.bind_some,LF (by omega),show(most:Int) - (m:Int)=((most - m:Nat):Int)by omega,q1,Option.bind_some,nu (by omega),KR (by omega)]
   ·right
    rw[decide_eq_false (show ¬ ((m:Nat):Int)≤(most:Int)by omega),Bool.and_false,if_neg (by simp)]
    refine⟨_,rfl,m,rfl,λh=>?_,λh=>?_⟩
    ·rcases hmm with h4 | h4<;>omega
    ·rcases hmm with h4 | h4<;>omega
  have fin:∀ (f':Nat) (s:Int),I e.Args.length s→∃ r,dV e (most:Int) (gu f) (f'+1) s (e.Args.length:Int)=some r∧Q r:=by
   rintro f' s ⟨m,rfl,hmm⟩
   have e1:(e.Args.map nE).take e.Args.length=e.Args.map nE:=by rw[show e.Args.length=(e.Args.map nE).length by rw[List.length_map],List.take_length]
   rw[e1]at hmm
   simp only[dV]
   rw[if_neg (by simp)]
   refine⟨_,rfl,m,rfl,λh=>?_,λh=>?_⟩
   ·rcases hmm with h4 | h4<;>omega
   ·rcases hmm with h4 | h4<;>omega
  obtain⟨r,e1,r',er,p⟩:=qe (L:=λf' s i=>dV e (most:Int) (gu f) f' s i) (n:=e.Args.length) hl.2.1 I Q rd fin (1:Int) ⟨1,rfl,.inl (by simp)⟩
  exact⟨r',by rw[← er];exact e1,p⟩
theorem xZ {e:GExpr} (ho:okGExpr e) (hw:wE e≤1000000):ox e=some ((min (nE e) 2001:Nat):Int):=by
 obtain⟨r,h1,h2,h3⟩:=xY (f:=fu) (most:=2000) ho (by unfold fu;omega) (by omega) hw
 unfold ox rN
 rw[show(2000:Int)=((2000:Nat):Int)from rfl,h1,Option.bind_some]
 refine congrArg some ?_
 by_cases c:nE e≤2000
 ·rw[h2 c];omega
 ·have:=h3 (by omega);omega
def vB (e:GExpr):Int:=if 40<dE e then 13 else if 2000<nE e then 2 else rY e
theorem E8 {e:GExpr} (ho:okGExpr e) (hw:wE e≤1000000):kh e=some (vB e)∧kT e=some (vB e):=by
 obtain⟨d1,d2⟩:=Bf (f:=fu) (oV:=41) ho (by unfold fu;omega) (by omega) (by omega)
 unfold kh kT qd pp rR qT vB
 rw[show(41:Int)=((41:Nat):Int)from rfl,d1,d2,zj ho hw,xZ ho hw]
 simp only[Option.bind_some]
 by_cases hd:40<dE e
 ·have e1:decide ((40:Int)<((min (dE e) 41:Nat):Int))=true:=decide_eq_true (by omega)
  rw[if_pos hd,if_pos e1,if_pos e1];exact⟨rfl,rfl⟩
 ·have e1:decide ((40:Int)<((min (dE e) 41:Nat):Int))=false:=decide_eq_false (by omega)
  have nf:¬ (false=true):=by simp
  rw[if_neg hd,e1,if_neg nf,if_neg nf]
  by_cases hs:2000<nE e
  ·have e2:decide ((((2000:Nat):Int))<((min (nE e) 2001:Nat):Int))=true:=decide_eq_true (by omega)
   rw[if_pos hs]
   have e3:decide ((2000:Int)<((min (nE e) 2001:Nat):Int))=true:=e2
   rw[if_pos e3,if_pos e3];exact⟨rfl,rfl⟩
  ·have e2:decide ((2000:Int)<((min (nE e) 2001:Nat):Int))=false:=decide_eq_false (by omega)
   rw[if_neg hs,e2,if_neg nf,if_neg nf]
   unfold rO
   rw[Dv ho (by unfold fu;omega)]
   refine⟨?_,rfl⟩
   unfold n7 ke pu
   rw[Option.bind_some,FH ho (by unfold fu;omega)]
   by_cases h:rY e=0
   ·simp[h]
   ·simp[h]
theorem y9 {a:GExpr} (ho:okGExpr a) (hw:wE a≤1000000):qH a a=some true:=by
 obtain⟨r,h1,h2⟩:=vU fu a a ho (by unfold fu;omega)
 unfold qH
 rw[h1,h2.2 rfl]
end Go.Proofs.YtmhoikfoogemnaaGreatDoor
namespace Go.Proofs.YtmhoikfoogemnaaGreatDoor.Z13
open Go Go.RowKit Go.Vc
set_option linter.unusedVariables false
set_option linter.unusedSimpArgs false
theorem rF (c:UInt8) (l:List UInt8):zb (c::l) 0=c.toNat:=rfl
def nq (r:Int):Bool:=decide (97≤r)&&decide (r≤122)
def mh (r:Int):Bool:=decide (48≤r)&&decide (r≤57)
def iZ (r:Int):Bool:=(nq r||mh r)||decide (r=95)
def rK (r:Int):Bool:=decide (r=9)||decide (r=10)||decide (r=13)||decide (r=32)
def zg (r:Int):Bool:=[40,41,91,93,123,125,44,59,58,43,45,42,47,60,61,38,124,33,46,64].contains r
def oX (r:Int):Bool:= !decide (r=10)
def jo (p:Int→Bool):List UInt8→Nat
 | []=>0
 | c::l=>match p (c.toNat:Int)with | true=>jo p l+1 | false=>0
theorem vd (p:Int→Bool) (l:List UInt8):jo p l≤l.length:=by
 induction l with
 | nil=>exact Nat.le_refl _
 | cons c l ih=>simp only[jo];cases p (c.toNat:Int)<;>simp<;>omega
def hH:Bool→List UInt8→Nat
 | _,[]=>0
 | true,c::l=>match oX (c.toNat:Int)with | true=>hH true l+1 | false=>hH false l+1
 | false,c::l=>match rK (c.toNat:Int)with
  | true=>hH false l+1
  | false=>match decide ((c.toNat:Int)=35)with | true=>hH true l+1 | false=>0
theorem rf (b:Bool) (l:List UInt8):hH b l≤l.length:=by
 induction l generalizing b with
 | nil=>cases b<;>exact Nat.le_refl _
 | cons c l ih=>
  have h1:=ih true
  have h2:=ih false
  cases b<;>simp only[hH]
  ·cases rK (c.toNat:Int)
   ·cases decide ((c.toNat:Int)=35)<;>simp<;>omega
   ·simp;omega
  ·cases oX (c.toNat:Int)<;>simp<;>omega
theorem zh (l:List UInt8):hH true l=jo oX l+hH false (l.drop (jo oX l)):=by
 induction l with
 | nil=>rfl
 | cons c l ih=>
  by_cases h:oX (c.toNat:Int)=true
  ·simp only[hH,jo,h,ih,List.drop_succ_cons];omega
  ·rw[Bool.not_eq_true]at h
   have h10:(c.toNat:Int)=10:=by simpa[oX]using h
   have hs:rK (c.toNat:Int)=true:=by rw[h10];rfl
   simp only[hH,jo,h,List.drop_zero,hs]
   omega
def hP (l:List UInt8):Nat×Nat:=
 let c:=zb l 0
 if nq c then(1,jo iZ l)
 else if mh c then(2,jo mh l)
 else if(decide (c=60)||decide (c=61))&&decide ((1:Int)<(l.length:Int))&&decide (zb l 1=61)then(3,2)
 else if zg c then(3,1)
 else(0,0)
theorem yg (l:List UInt8) (hl:0<l.length):(hP l).2≤l.length:=by
 unfold hP
 have h1:=vd iZ l
 have h2:=vd mh l
 dsimp only
 split
 ·exact h1
 ·split
  ·exact h2
  ·split
   ·rename_i h;simp at h;simp only;omega
   ·split<;>simp only<;>omega
theorem wj (l:List UInt8) (hl:0<l.length) (h:(hP l).1≠0):0<(hP l).2:=by
 obtain⟨c,l,rfl⟩:∃ c l',l=c::l':=by cases l with | nil=>simp at hl | cons c l=>exact⟨c,l,rfl⟩
 revert h
 unfold hP
 rw[rF]
 dsimp only
 split
 ·rename_i h;intro _;have hw:iZ (c.toNat:Int)=true:=by simp[iZ,h]
  simp[jo,hw]
 ·split
  ·rename_i h;intro _;simp[jo,h]
  ·split
   ·intro _;simp
   ·split<;>simp
def ES (s:List UInt8):Nat→Nat→List bm×Nat×Nat
 | 0,_=>([],0,0)
 | f+1,p=>
  if p<s.length then
   let k:=hP (s.drop p)
   if k.1=0 then([],p,5)
   else if k.1=1∧16<k.2 then([],p,2)
   else
    let r:=ES s f (p+k.2+hH false (s.drop (p+k.2)))
    (⟨k.1,p,(s.drop p).take k.2⟩::r.1,r.2)
  else([],0,0)
def tokens (s:List UInt8):List bm×Nat×Nat:=
 if 65536<s.length then([],0,2)
 else
  let r:=ES s (s.length+1) (hH false s)
  if r.2.2=0 then(r.1,0,0)else([],r.2.1,r.2.2)
def AF (s:List UInt8):Nat×Nat:=
 if nq (zb s 0)&&decide (0<s.length)then(jo iZ s,1)else if mh (zb s 0)&&decide (0<s.length)then(jo mh s,2)else(0,0)
def Jx:List UInt8:=[40,41,91,93,123,125,44,59,58,43,45,42,47,60,61,38,124,33,46,64]
def xa:List (List UInt8):=[[60,61],[61,61],[40],[41],[91],[93],[123],[125],[44],[59],[58],[43],[45],[42],[47],[60],[61],[38],[124],[33],[46],[64]]
def xi (s e:List UInt8):Bool:=decide ((e.length:Int)≤(s.length:Int))&&decide (s.take e.length=e)
def zf (s:List UInt8):List (List UInt8)→Nat
 | []=>0
 | e::l=>match xi s e with | true=>e.length | false=>zf s l
theorem Fc (c:UInt8) (t:List UInt8) (l:List UInt8):zf (c::t) (l.map λx=>[x])=if l.contains c then 1 else 0:=by
 induction l with
 | nil=>rfl
 | cons x l ih=>
  simp only[List.map_cons,zf]
  have hf:xi (c::t) [x]=decide (c=x):=by simp[xi];omega
  rw[hf]
  by_cases h:c=x
  ·subst h;simp
  ·rw[ih]
   have hne:(x==c)=false:=by simp;exact λe=>h e.symm
   simp[h]
theorem Fo:∀ n:Nat,n<256→Jx.contains (UInt8.ofNat n)=zg (n:Int):=by decide+kernel
theorem DF (c:UInt8):Jx.contains c=zg (c.toNat:Int):=by
 have:=Fo c.toNat c.toNat_lt
 simpa using this
theorem Fb (s:List UInt8) (h0:0<s.length):
  zf s xa=if(decide (zb s 0=60)||decide (zb s 0=61))&&decide ((1:Int)<(s.length:Int))&&decide (zb s 1=61)then 2 else if zg (zb s 0)then 1 else 0:=by
 obtain⟨c,t,rfl⟩:∃ c t,s=c::t:=by cases s with | nil=>simp at h0 | cons c t=>exact⟨c,t,rfl⟩
 have hs:xa=[60,61]::[61,61]::Jx.map λx=>[x]:=rfl
 have hu:∀ x y:UInt8,((x.toNat:Int)=(y.toNat:Int))↔x=y:=λx y=>⟨λh=>UInt8.toNat_inj.1 (by omega),λh=>by rw[h]⟩
 rw[hs,rF]
 simp only[zf,Fc,DF]
 cases t with
 | nil=>
  have h1:xi [c] [60,61]=false:=by simp[xi]
  have h2:xi [c] [61,61]=false:=by simp[xi]
  simp[h1,h2]
 | cons d t=>
  have h1:xi (c::d::t) [60,61]=(decide (c=60)&&decide (d=61)):=by simp[xi];omega
  have h2:xi (c::d::t) [61,61]=(decide (c=61)&&decide (d=61)):=by simp[xi];omega
  have e1:zb (c::d::t) 1=(d.toNat:Int):=rfl
  have k60:=hu c 60
  have k61:=hu c 61
  have kd:=hu d 61
  have l1:((60:UInt8).toNat:Int)=60:=rfl
  have l2:((61:UInt8).toNat:Int)=61:=rfl
  rw[l1]at k60
  rw[l2]at k61 kd
  have hlen:(1:Int)<((c::d::t).length:Int):=by simp;omega
  rw[h1,h2,e1]
  simp only[k60,k61,kd,hlen,decide_true,Bool.and_true]
  by_cases a:c=60<;>by_cases b:c=61<;>by_cases e:d=61<;>simp[a,b,e]
theorem G6 (s:List UInt8) (h0:0<s.length):
  (if(AF s).1=0 then(zf s xa,3)else AF s)=if(hP s).1=0 then(0,3)else((hP s).2,(hP s).1):=by
 obtain⟨c,t,rfl⟩:∃ c t,s=c::t:=by cases s with | nil=>simp at h0 | cons c t=>exact⟨c,t,rfl⟩
 unfold AF hP
 rw[Fb _ h0]
 dsimp only
 by_cases hl:nq (zb (c::t) 0)=true
 ·have hw:iZ (c.toNat:Int)=true:=by rw[rF]at hl;simp[iZ,hl]
  simp[hl,jo,hw]
 ·by_cases hd:mh (zb (c::t) 0)=true
  ·have hw:mh (c.toNat:Int)=true:=by rw[rF]at hd;exact hd
   simp[hl,hd,jo,hw]
  ·rw[Bool.not_eq_true]at hl hd
   simp only[hl,hd,Bool.false_and,Bool.false_eq_true,if_false]
   generalize ((decide (zb (c::t) 0=60)||decide (zb (c::t) 0=61))&&decide ((1:Int)<((c::t).length:Int))&&decide (zb (c::t) 1=61))=b1
   generalize zg (zb (c::t) 0)=b2
   cases b1<;>cases b2<;>rfl
def Chain (s:List UInt8):Nat→List bm→Prop
 | a,[]=>a≤s.length∧a+hH false (s.drop a)=s.length
 | a,t::ts=>a≤s.length∧t.At=((a+hH false (s.drop a):Nat):Int)∧0<t.Text.length∧a+hH false (s.drop a)+t.Text.length≤s.length∧
   (s.drop (a+hH false (s.drop a))).take t.Text.length=t.Text∧Chain s (a+hH false (s.drop a)+t.Text.length) ts
theorem FE (s:List UInt8) (f a:Nat) (ha:a≤s.length) (hf:s.length<a+hH false (s.drop a)+f) (he:(ES s f (a+hH false (s.drop a))).2.2=0):Chain s a (ES s f (a+hH false (s.drop a))).1:=by
 induction f generalizing a with
 | zero=>
  have:=rf false (s.drop a)
  simp at this;omega
 | succ f ih=>
  have hsk:=rf false (s.drop a)
  simp only[List.length_drop]at hsk
  generalize hp:a+hH false (s.drop a)=p at *
  simp only[ES]at he ⊢
  by_cases hlt:p<s.length
  ·rw[if_pos hlt]at he ⊢
   by_cases hk:(hP (s.drop p)).1=0
   ·rw[if_pos hk]at he;simp at he
   ·rw[if_neg hk]at he ⊢
    by_cases hb:(hP (s.drop p)).1=1∧16<(hP (s.drop p)).2
    ·rw[if_pos hb]at he;simp at he
    ·rw[if_neg hb]at he ⊢
     have hle:=yg (s.drop p) (by simp;omega)
     have hpos:=wj (s.drop p) (by simp;omega) hk
     have hlen:((s.drop p).take (hP (s.drop p)).2).length=(hP (s.drop p)).2:=by simp at hle ⊢;omega
     simp only[List.length_drop]at hle
     refine⟨ha,by rw[hp],by rw[hlen];exact hpos,by rw[hp,hlen];omega,by rw[hp,hlen],?_⟩
     rw[hp,hlen]
     exact ih (p+(hP (s.drop p)).2) (by omega) (by omega) he
  ·rw[if_neg hlt]
   exact⟨ha,by omega⟩
theorem tokens_chain (s:List UInt8) (hs:s.length≤65536) (he:(tokens s).2.2=0):Chain s 0 (tokens s).1:=by
 unfold tokens at he ⊢
 rw[if_neg (by omega)]at he ⊢
 have h:=FE s (s.length+1) 0 (by omega) (by omega)
 simp only[List.drop_zero,Nat.zero_add]at h
 dsimp only at he ⊢
 by_cases h0:(ES s (s.length+1) (hH false s)).2.2=0
 ·rw[if_pos h0];exact h h0
 ·rw[if_neg h0]at he;exact absurd he h0
theorem tokens_none (s:List UInt8) (he:(tokens s).2.2≠0):(tokens s).1=[]:=by
 unfold tokens at he ⊢
 split
 ·rfl
 ·rename_i h
  rw[if_neg h]at he
  dsimp only at he ⊢
  by_cases h0:(ES s (s.length+1) (hH false s)).2.2=0
  ·rw[if_pos h0]at he;exact absurd rfl he
  ·rw[if_neg h0]
theorem chain_le (s:List UInt8) (ts:List bm) (a:Nat) (h:Chain s a ts):ts.length+a≤s.length:=by
 induction ts generalizing a with
 | nil=>simpa using h.1
 | cons t ts ih=>
  obtain⟨h1,_,h2,_,_,h5⟩:=h
  have:=ih _ h5
  simp;omega
end Go.Proofs.YtmhoikfoogemnaaGreatDoor.Z13
