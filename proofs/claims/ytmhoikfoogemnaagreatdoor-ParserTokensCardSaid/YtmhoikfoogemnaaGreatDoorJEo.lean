import Derived.Test.YtmhoikfoogemnaaGreatDoorJEn
namespace Go.Proofs.YtmhoikfoogemnaaGreatDoor
open Go Go.RowKit Go.Vc
set_option linter.unusedVariables false
set_option linter.unusedSimpArgs false
theorem CX {f:Nat} :∀ {e:GExpr} {n:Nat},okGExpr e→wE e<f→n≤2000→fC f e (fun k_0 q=>if q.1=0 then fw k_0 q.2 else none) ((0,(n:Int)):Nat×Int)=some (if n+nE e≤2000 then(true,(0,((n+nE e:Nat):Int)))else(false,(1,2001))):=by
 induction f with
 | zero=>intro e n _ h;omega
 | succ f ih=>
  intro e n ho hw hn
  have hl:=ho.len
  show ig (fC f) e _ _ =_
  unfold ig
  rw[Dx]
  have h0:(fun(k_0:GExpr) (q:Nat×Int)=>if q.1=0 then fw k_0 q.2 else none) e (0,(n:Int))=some (if n=2000 then(false,(1,2001))else(true,(0,((n+1:Nat):Int)))):=by
   show(if(0:Nat)=0 then fw e (n:Int)else none)=_
   rw[if_pos rfl]
   unfold fw
   rw[nq (by omega)]
   by_cases c:n=2000
   ·subst c;rfl
   ·rw[if_neg (by simp;omega),if_neg c]
  rw[h0,Option.bind_some]
  by_cases c:n=2000
  ·rw[if_pos c,if_neg (by omega)];rfl
  rw[if_neg c]
  simp only[Bool.not_true,Bool.false_eq_true,if_false]
  refine kD (L:=fun f' s i=>du e (fC f) (fun k_0 q=>if q.1=0 then fw k_0 q.2 else none) f' i s) (n:=e.Args.length) hl.2.1 (fun i s=>s=((0,((n+1+((e.Args.map nE).take i).sum:Nat):Int)):Nat×Int)∧n+1+((e.Args.map nE).take i).sum≤2000) ?_ ?_ ((0,((n+1:Nat):Int)):Nat×Int) ⟨by simp only[List.take_zero,List.sum_nil,Nat.add_zero],by simp only[List.take_zero,List.sum_nil];omega⟩
  ·rintro f' i s hi ⟨rfl,hb⟩
   obtain⟨x,hx⟩:=ct hi
   have hm:=List.mem_of_getElem? hx
   have hx2:(e.Args.map nE)[i]? =some (nE x):=by rw[List.getElem?_map,hx];rfl
   have h1:=za hx2
   have h2:=xR (e.Args.map nE) (i+1)
   have:=th hm
   simp only[du]
   rw[if_pos (cz hi),cI hx,Option.bind_some,ih (ho.out.2.2.1 x hm) (by omega) hb,Option.bind_some,nq (by omega)]
   by_cases c2:n+1+((e.Args.map nE).take i).sum+nE x≤2000
   ·left
    rw[if_pos c2]
    refine⟨_,⟨rfl,by rw[h1];omega⟩,?_⟩
    simp only[Bool.not_true,Bool.false_eq_true,if_false]
    rw[h1,Nat.add_assoc (n+1)]
   ·right
    rw[if_neg c2,if_neg (show ¬ n+(1+(e.Args.map nE).sum)≤2000 by omega)]
    simp only[Bool.not_false,if_true]
  ·rintro f' s ⟨rfl,hb⟩
   have e1:(e.Args.map nE).take e.Args.length=e.Args.map nE:=by rw[show e.Args.length=(e.Args.map nE).length by rw[List.length_map],List.take_length]
   rw[e1]at hb
   simp only[du]
   rw[if_neg (by simp),e1,if_pos (by omega), ← Nat.add_assoc]
theorem wH {e:GExpr} (ho:okGExpr e) (hw:wE e≤1000000):nT e=some ((min (nE e) 2001:Nat):Int):=by
 unfold nT mA jg nL
 rw[Option.bind_some]
 have h:=CX (f:=fu) (n:=0) ho (by unfold fu;omega) (by omega)
 rw[show((0:Nat):Int)=0 from rfl]at h
 rw[h]
 by_cases c:0+nE e≤2000
 ·rw[if_pos c,show min (nE e) 2001=nE e by omega,Nat.zero_add];rfl
 ·rw[if_neg c,show min (nE e) 2001=2001 by omega]
  rfl
theorem vf {f:Nat} :∀ {e:GExpr} {most:Nat},okGExpr e→wE e<f→most≤2000→wE e≤1000000→∃ r:Nat,fo f e (most:Int)=some (r:Int)∧(nE e≤most→r=nE e)∧(most<nE e→most<r∧r≤nE e):=by
 induction f with
 | zero=>intro e n _ h;omega
 | succ f ih=>
  intro e most ho hw hm hw2
  have hl:=ho.len
  have hnw:=Hj e
  show ∃ r:Nat,lu (fo f) e (most:Int)=_ ∧ _
  unfold lu
  have hne:=Dx e
  let I:Nat→Int→Prop:=fun(i:Nat) (s:Int)=>∃ m:Nat,s=(m:Int)∧(m=1+((e.Args.map nE).take i).sum∨(most<m∧m≤nE e))
  let Q:Int→Prop:=fun(r:Int)=>∃ m:Nat,r=(m:Int)∧((nE e≤most→m=nE e)∧(most<nE e→most<m∧m≤nE e))
  have rd:∀ (f' i:Nat) (s:Int),i<e.Args.length→I i s→(∃ s',I (i+1) s'∧dm e (most:Int) (fo f) (f'+1) s (i:Int)=dm e (most:Int) (fo f) f' s' ((i+1:Nat):Int))∨∃ r,dm e (most:Int) (fo f) (f'+1) s (i:Int)=some r∧Q r:=by
   rintro f' i s hi ⟨m,rfl,hmm⟩
   have h2:=xR (e.Args.map nE) i
   simp only[dm]
   by_cases c:m≤most
   ·left
    obtain⟨x,hx⟩:=ct hi
    have hmem:=List.mem_of_getElem? hx
    have hx2:(e.Args.map nE)[i]? =some (nE x):=by rw[List.getElem?_map,hx];rfl
    have h1:=za hx2
    have h3:=xR (e.Args.map nE) (i+1)
    have hxw:=th hmem
    have hmm:m=1+((e.Args.map nE).take i).sum:=by rcases hmm with h | h;exact h;omega
    have hlen:=Eh (e:=e)
    obtain⟨q,q1,q2,q3⟩:=ih (e:=x) (most:=most - m) (ho.out.2.2.1 x hmem) (by omega) (by omega) (by omega)
    have hq:q≤nE x:=by by_cases c3:nE x≤most - m;rw[q2 c3];exact Nat.le_refl _;exact(q3 (by omega)).2
    refine⟨((m+q:Nat):Int),⟨m+q,rfl,?_⟩,?_⟩
    ·by_cases c3:nE x≤most - m
     ·left;rw[h1,q2 c3];omega
     ·right;have:=q3 (by omega);omega
    ·rw[cz hi,decide_eq_true (show((m:Nat):Int)≤(most:Int)by omega),Bool.and_self,if_pos rfl,cI hx,Option.bind_some,Hz (by omega),show(most:Int) - (m:Int)=((most - m:Nat):Int)by omega,q1,Option.bind_some,nq (by omega),wia (by omega)]
   ·right
    rw[decide_eq_false (show ¬ ((m:Nat):Int)≤(most:Int)by omega),Bool.and_false,if_neg (by simp)]
    refine⟨_,rfl,m,rfl,fun h=> ?_,fun h=> ?_⟩
    ·rcases hmm with h4 | h4<;>omega
    ·rcases hmm with h4 | h4<;>omega
  have fin:∀ (f':Nat) (s:Int),I e.Args.length s→∃ r,dm e (most:Int) (fo f) (f'+1) s (e.Args.length:Int)=some r∧Q r:=by
   rintro f' s ⟨m,rfl,hmm⟩
   have e1:(e.Args.map nE).take e.Args.length=e.Args.map nE:=by rw[show e.Args.length=(e.Args.map nE).length by rw[List.length_map],List.take_length]
   rw[e1]at hmm
   simp only[dm]
   rw[if_neg (by simp)]
   refine⟨_,rfl,m,rfl,fun h=> ?_,fun h=> ?_⟩
   ·rcases hmm with h4 | h4<;>omega
   ·rcases hmm with h4 | h4<;>omega
  obtain⟨r,e1,r',er,p⟩:=nM (L:=fun f' s i=>dm e (most:Int) (fo f) f' s i) (n:=e.Args.length) hl.2.1 I Q rd fin (1:Int) ⟨1,rfl,.inl (by simp)⟩
  exact⟨r',by rw[← er];exact e1,p⟩
theorem vg {e:GExpr} (ho:okGExpr e) (hw:wE e≤1000000):mO e=some ((min (nE e) 2001:Nat):Int):=by
 obtain⟨r,h1,h2,h3⟩:=vf (f:=fu) (most:=2000) ho (by unfold fu;omega) (by omega) hw
 unfold mO pJ
 rw[show(2000:Int)=((2000:Nat):Int)from rfl,h1,Option.bind_some]
 refine congrArg some ?_
 by_cases c:nE e≤2000
 ·rw[h2 c];omega
 ·have:=h3 (by omega);omega
def vB (e:GExpr):Int:=if 40<dE e then 13 else if 2000<nE e then 2 else pU e
theorem BP {e:GExpr} (ho:okGExpr e) (hw:wE e≤1000000):ii e=some (vB e)∧jU e=some (vB e):=by
 obtain⟨d1,d2⟩:=ye (f:=fu) (nb:=41) ho (by unfold fu;omega) (by omega) (by omega)
 unfold ii jU oe nI pO o5 vB
 rw[show(41:Int)=((41:Nat):Int)from rfl,d1,d2,wH ho hw,vg ho hw]
 simp only[Option.bind_some]
 by_cases hd:40<dE e
 ·have e1:decide ((40:Int)<((min (dE e) 41:Nat):Int))=true:=decide_eq_true (by omega)
  rw[if_pos hd,if_pos e1,if_pos e1];exact⟨rfl,rfl⟩
 ·have e1:decide ((40:Int)<((min (dE e) 41:Nat):Int))=false:=decide_eq_false (by omega)
  have nf:¬ (false=true):=by simp
  rw[if_neg hd,e1,if_neg nf,if_neg nf]
  by_cases hs:2000<nE e
  ·have e2:decide ((((2000:Nat):Int))<((min (nE e) 2001:Nat):Int))=true:=decide_eq_true (by omega)
   rw[if_pos hs]
   have e3:decide ((2000:Int)<((min (nE e) 2001:Nat):Int))=true:=e2
   rw[if_pos e3,if_pos e3];exact⟨rfl,rfl⟩
  ·have e2:decide ((2000:Int)<((min (nE e) 2001:Nat):Int))=false:=decide_eq_false (by omega)
   rw[if_neg hs,e2,if_neg nf,if_neg nf]
   unfold pK
   rw[Ap ho (by unfold fu;omega)]
   refine⟨?_,rfl⟩
   unfold mA jg nL
   rw[Option.bind_some,Ce ho (by unfold fu;omega)]
   by_cases h:pU e=0
   ·simp[h]
   ·simp[h]
def zE:GExpr:=⟨0,[],zV,zT,zL,[],[]⟩
theorem Cy:okGExpr zE:=Fg (by omega) AB Ay BX AC oQ oQ
theorem Fw:wE zE≤3:=by unfold zE;rw[qe];simp
theorem Ad {l:List GToken} {at_:Int} (hl:l.length≤50000) (ht:∀ t∈l,t.Text.length≤50000):∃ r,jb l at_=some r∧lr l at_=some r∧okGExpr r.1∧wE r.1≤1000000:=by
 unfold jb lr
 by_cases h:at_<0∨(l.length:Int)<at_
 ·rw[if_pos (by simpa using h),if_pos (by simpa using h)];exact⟨_,rfl,rfl,Cy,by have:=Fw;show wE zE≤ _;omega⟩
 ·have hb:(decide (at_<0)||decide ((l.length:Int)<at_))=false:=by
   rw[Bool.eq_false_iff];intro h2;exact h (by simpa using h2)
  rw[hb,if_neg (by simp),if_neg (by simp)]
  have hR:=Rok.start (l:=l) (at_:=at_) (by omega) (by omega) hl ht
  unfold jr kA
  rw[St0 l ⟨l,at_,0⟩]
  rcases FQ hR with⟨x,r',e1,e2,hn,_,hI⟩ | ⟨a,e,e1,_,hq⟩
  ·have e2:nH (St ⟨l,0⟩ ⟨l,at_,0⟩) 1=some (x,St ⟨l,0⟩ r'):=by rcases e2 with h | ⟨h,_⟩;exact h;cases h
   rw[e1,e2]
   have hw:=hI.w
   have:=hn.ok.a1;have:=hn.ok.ll
   have ha:(⟨l,at_,0⟩:PR).at_=at_:=rfl
   obtain⟨v1,v2⟩:=BP hI.ok (by omega)
   have eP:(xY (pb (some (bu.ret (x,r'))) fun(q:GExpr×PR)=>match q with | (r1,s1)=>some (bu.ret ((),s1,r1))) (fun(q:Unit×PR×GExpr)=>match q with | (r1,s1,s2)=>if(!decide ((0:Int)=0))=true then some (zE,(0:Int),(0:Int))else(ii s2).bind fun r2=>if(!decide (r2=0))=true then some (zE,at_,r2)else some (s2,s1.at_,(0:Int))) fun pa1 pn1=>some (zE,pa1,pn1))=((ii x).bind fun r2=>if(!decide (r2=0))=true then some (zE,at_,r2)else some (x,r'.at_,(0:Int))):=rfl
   refine⟨if vB x=0 then(x,r'.at_,0)else(zE,at_,vB x),?_,?_,?_⟩
   ·refine eP.trans ?_
    rw[v1,Option.bind_some]
    by_cases c:vB x=0<;>simp[c]
   ·rw[Option.bind_some]
    dsimp only
    rw[if_pos (by simp[tO]),v2,Option.bind_some]
    by_cases c:vB x=0
    ·rw[if_neg (by simp[c]),Option.bind_some,if_neg (by simp[tO]),if_pos c]
     show some (x,r'.at_+0,(0:Int))=_;rw[Int.add_zero]
    ·rw[if_pos (by simp[c]),if_neg c]
     unfold br
     rw[if_pos (by simp[tO]),Option.bind_some,Option.bind_some,if_pos (by simp[c])]
     show some (zE,at_+0,vB x)=_;rw[Int.add_zero]
   ·by_cases c:vB x=0
    ·rw[if_pos c];exact⟨hI.ok,by show wE x≤ _;omega⟩
    ·rw[if_neg c];exact⟨Cy,by have:=Fw;show wE zE≤ _;omega⟩
  ·obtain⟨y,s,e2,q1,q2,q3⟩:=hq rfl
   rw[e1,e2]
   refine⟨(zE,a,e),?_,?_,Cy,by have:=Fw;show wE zE≤ _;omega⟩
   ·show(if e≠0 then _ else none)=_
    rw[if_pos q3];rfl
   ·rw[Option.bind_some,if_neg (by simp[q1,q3]),Option.bind_some,if_pos (by simp[q1,q3]),q1,q2];rfl
theorem wB {a:GExpr} (ho:okGExpr a) (hw:wE a≤1000000):oU a a=some true:=by
 obtain⟨r,h1,h2⟩:=sZ fu a a ho (by unfold fu;omega)
 unfold oU
 rw[h1,h2.2 rfl]
theorem tu (l:List GToken) (at_:Int) (hl:okW okGToken l) (ha:okI .i64 at_):ju l at_=some true:=by
 unfold ju
 obtain⟨b,h1,h2⟩:=Gu l 600 (by have:=hl.2;omega) (by omega)
 rw[show(600:Int)=((600:Nat):Int)from rfl,h1,Option.bind_some,EQ]
 cases b with
 | false=>rfl
 | true=>
  obtain⟨h3,h4⟩:=h2 rfl
  obtain⟨r,e1,e2,e3,e4⟩:=Ad (at_:=at_) (l:=l) (by omega) (fun t ht=>by have:=h4 t ht;omega)
  rw[if_neg (by simp),e1,e2,Option.bind_some,Option.bind_some,wB e3 e4]
  simp[gd]
end Go.Proofs.YtmhoikfoogemnaaGreatDoor
