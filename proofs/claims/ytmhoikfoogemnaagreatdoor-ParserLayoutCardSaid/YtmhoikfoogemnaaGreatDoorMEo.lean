import Derived.Test.YtmhoikfoogemnaaGreatDoorMEm
namespace Go.Proofs.YtmhoikfoogemnaaGreatDoor
open Go Go.RowKit Go.Vc
set_option linter.unusedVariables false
set_option linter.unusedSimpArgs false
variable {L:Cx}
theorem pI (rec':RR) (p:RS):(aS rec' p 1=(rec' p 2).bind fun r6=>bm 1 rec' fu r6.1 r6.2)∧(aS rec' p 2=(rec' p 3).bind fun r6=>bm 2 rec' fu r6.1 r6.2)∧
  (aS rec' p 4=(rec' p 5).bind fun r6=>bm 4 rec' fu r6.1 r6.2)∧(aS rec' p 5=(rec' p 6).bind fun r6=>bm 5 rec' fu r6.1 r6.2)∧(aS rec' p 6=(rec' p 7).bind fun r6=>bm 6 rec' fu r6.1 r6.2):=by
 have w:∀ k:Int,-1000≤k∧k≤1000→az k=k:=fun k hk=>wi ⟨by omega,by omega⟩
 refine⟨?_,?_,?_,?_,?_⟩<;>unfold aS<;>simp[gd,w]
theorem zQ (rec':RR) (p:RS):aS rec' p 3=(aI p 0 [33]).bind fun r1=>if r1=true then(fK p).bind fun r3=>(rec' r3 3).bind fun r4=>some (Ft 18 r4.1,⟨r4.2.L,r4.2.At,p.Deep,r4.2.E,r4.2.Pos⟩)else(rec' p 4).bind fun r6=>bm 3 rec' fu r6.1 r6.2:=by
 have w:∀ k:Int,-1000≤k∧k≤1000→az k=k:=fun k hk=>wi ⟨by omega,by omega⟩
 unfold aS kR Ft
 cases e:aI p 0 [33]with
 | none=>rfl
 | some b=>cases b<;>simp[gd,w,e]
theorem zP (rec':RR) (p:RS):aS rec' p 7=(aI p 0 [45]).bind fun r1=>if r1=true then(fK p).bind fun r3=>(rec' r3 7).bind fun r4=>some (Ft 8 r4.1,⟨r4.2.L,r4.2.At,p.Deep,r4.2.E,r4.2.Pos⟩)else d8 rec' p:=by
 unfold aS kR Ft
 have pid:∀ (m:Option (GExpr×RS)),(m.bind fun r13=>some (r13.1,r13.2))=m:=fun m=>by cases m<;>rfl
 cases e:aI p 0 [45]with
 | none=>simp[gd,e]
 | some b=>cases b<;>simp[gd,e,pid]
theorem HQ:∀ (G:Nat) (n:Nat) (p:RS),p.E≠0→1≤n→n≤7→8≤G+n→∃ y,ax G p (n:Int)=some (y,p):=by
 intro G
 induction G with
 | zero=>intros;omega
 | succ G ih=>
  intro n p he h1 h7 hG
  show ∃ y,aS (ax G) p (n:Int)=_
  obtain⟨b1,b2,b4,b5,b6⟩:=pI (ax G) p
  have go:∀ k:Nat,1≤k→k≤6→8≤G+(k+1)→∃ y,((ax G p ((k+1:Nat):Int)).bind fun r6=>bm (k:Int) (ax G) fu r6.1 r6.2)=some (y,p):=fun k k1 k6 kg=>by
   obtain⟨y,hy⟩:=ih (k+1) p he (by omega) (by omega) kg
   obtain⟨g,hg⟩:=Ep
   rw[hy,Option.bind_some,hg]
   dsimp only
   rw[yx _ he];exact⟨_,rfl⟩
  match n,h1,h7 with
  | 1,_,_=>rw[show((1:Nat):Int)=1 from rfl,b1];exact go 1 (by omega) (by omega) (by omega)
  | 2,_,_=>rw[show((2:Nat):Int)=2 from rfl,b2];exact go 2 (by omega) (by omega) (by omega)
  | 3,_,_=>rw[show((3:Nat):Int)=3 from rfl,zQ,jl he,Option.bind_some,if_neg (by simp)];exact go 3 (by omega) (by omega) (by omega)
  | 4,_,_=>rw[show((4:Nat):Int)=4 from rfl,b4];exact go 4 (by omega) (by omega) (by omega)
  | 5,_,_=>rw[show((5:Nat):Int)=5 from rfl,b5];exact go 5 (by omega) (by omega) (by omega)
  | 6,_,_=>rw[show((6:Nat):Int)=6 from rfl,b6];exact go 6 (by omega) (by omega) (by omega)
  | 7,_,_=>rw[show((7:Nat):Int)=7 from rfl,zP,jl he,Option.bind_some,if_neg (by simp)];exact Bg he
theorem sY (G n:Nat) (h1:1≤n) (h7:n≤7) (h:8≤G+n):RF (ax G) (n:Int):=fun p he=>HQ G n p he h1 h7 h
abbrev SR (L:Cx) (r:PR) (m:Option (bk (GExpr×PR))) (m':Option (GExpr×RS)):Prop:=SimR L r (XI r) m m'
theorem Bq {rec':RR} {r:PR} {m:Option (bk (GExpr×PR))} (h:SR L r m (rec' (St L r) 4)):SR L r m ((rec' (St L r) 4).bind fun r6=>bm 3 rec' fu r6.1 r6.2):=by
 obtain⟨g,hg⟩:=Ep
 rcases h with⟨x,r',h1,h2,h3,h4⟩ | ⟨a,e,h1,h9,h2⟩
 ·rcases h2 with h2 | ⟨ho,y,s,h2,hs⟩
  ·refine .inl ⟨x,r',h1,.inl ?_,h3,h4⟩
   rw[h2,Option.bind_some,hg]
   simp only[bm]
   rw[se h3.ok 3 (by omega),Option.bind_some]
   show(if(!decide ((0:Int)=0))=true then _ else _)=_
   rw[if_neg (by simp)]
  ·refine .inl ⟨x,r',h1,.inr ⟨ho,y,s,?_,hs⟩,h3,h4⟩
   rw[h2,Option.bind_some,hg]
   exact yx rec' (by rw[hs];decide) g y 3
 ·refine .inr ⟨a,e,h1,h9,fun ho=> ?_⟩
  obtain⟨y,s,q1,q2,q3,q4⟩:=h2 ho
  rw[q1,Option.bind_some,hg]
  dsimp only
  rw[yx rec' (by rw[q2];exact q4)]
  exact⟨_,_,rfl,q2,q3,q4⟩
theorem Dk:∀ (k:Nat) (r:PR),Rok L r→(160 - r.deep).toNat≤k→∀ F G f,k≤F→8 * k+8≤G→k<f→k<1000→
  SR L r (br (ap F) f r) (ax (G+1) (St L r) 7)∧SR L r (bJ (ap F) f r) (ax (G+5) (St L r) 3)∧SR L r (ap (F+1) r) (ax (G+7) (St L r) 1):=by
 have main:∀ (k:Nat),(∀ (k':Nat) (r:PR),k'+1=k→Rok L r→(160 - r.deep).toNat≤k'→∀ F G f,k'≤F→8 * k'+8≤G→k'<f→
   SR L r (br (ap F) f r) (ax (G+1) (St L r) 7)∧SR L r (bJ (ap F) f r) (ax (G+5) (St L r) 3)∧SR L r (ap (F+1) r) (ax (G+7) (St L r) 1))→
   ∀ (r:PR),Rok L r→(160 - r.deep).toNat≤k→∀ F G f,k≤F→8 * k+8≤G→k<f→k<1000→
   SR L r (br (ap F) f r) (ax (G+1) (St L r) 7)∧SR L r (bJ (ap F) f r) (ax (G+5) (St L r) 3)∧SR L r (ap (F+1) r) (ax (G+7) (St L r) 1):=by
  intro k ih r h hk F G f hF hG hf hk1
  have deep:∀ q q2:PR,(160 - q.deep).toNat≤k→Rok L q2→q2.deep=q.deep+1→∃ k',k=k'+1∧(160 - q2.deep).toNat≤k':=fun q q2 h1 h2 h3=>by
   have:=h2.d1
   exact⟨k - 1,by omega,by omega⟩
  have prim:∀ q,Rok L q→(160 - q.deep).toNat≤k→SR L q (dl (ap F) q) (d8 (ax G) (St L q)):=fun q hq hqk=>
   yp hq (fun q2 h2 _ hd=>by
    obtain⟨k',rfl,hk'⟩:=deep q q2 hqk h2 hd
    obtain⟨F,rfl⟩:∃ g,F=g+1:=⟨F - 1,by omega⟩
    obtain⟨G,rfl⟩:∃ g,G=g+7:=⟨G - 7,by omega⟩
    exact(ih k' q2 rfl h2 hk' F G (k'+1) (by omega) (by omega) (by omega)).2.2) (sY G 1 (by omega) (by omega) (by omega))
  have u7:∀ f,k<f→∀ q,Rok L q→(160 - q.deep).toNat≤k→SR L q (br (ap F) f q) (ax (G+1) (St L q) 7):=fun f hf q hq hqk=>by
   obtain⟨f,rfl⟩:∃ g,f=g+1:=⟨f - 1,by omega⟩
   show SR L q (eu (ap F) (br (ap F) f) q) (aS (ax G) (St L q) 7)
   rw[zP]
   unfold eu
   rw[vw hq,fI hq [45],Option.bind_some,Option.bind_some]
   cases c:ko q 3 [45]with
   | true=>
    simp only[Bool.not_true,Bool.false_eq_true,if_false,if_true]
    exact B2 (recs_:=br (ap F) f) hq (hq.is_lt c) (by omega) (fun q2 h2 _ hd=>by
     obtain⟨k',rfl,hk'⟩:=deep q q2 hqk h2 hd
     obtain⟨G,rfl⟩:∃ g,G=g+1:=⟨G - 1,by omega⟩
     exact(ih k' q2 rfl h2 hk' F G f (by omega) (by omega) (by omega)).1) (sY G 7 (by omega) (by omega) (by omega))
   | false=>
    simp only[Bool.not_false,Bool.false_eq_true,if_false,if_true]
    rw[qt]
    exact prim q hq hqk
  have u6:∀ q,Rok L q→(160 - q.deep).toNat≤k→SR L q (cz (ap F) q) (ax (G+2) (St L q) 6):=fun q hq hqk=>by
   show SR L q _ (aS (ax (G+1)) (St L q) 6)
   rw[(pI (ax (G+1)) (St L q)).2.2.2.2]
   unfold cz
   rw[qt]
   unfold gB
   exact oE (n:=6) (nx:=gQ (ap F)) (l1:=bt [[42],[47]] [6,7] (ap F)) (l2:=fun e self=>bN [[42],[47]] [6,7] e (ap F) self) hq (fun _ _ _=>rfl) (fun _ _ _ _ _ _=>rfl) (by simp) (by simp) (by intro o ho;simp at ho;omega) (by omega)
    (fun q2 h2=>se h2 6 (by omega)) (fun q2 h2 _ hd=>u7 fu (by unfold fu;omega) q2 h2 (by rw[hd];exact hqk)) (sY (G+1) 7 (by omega) (by omega) (by omega))
  have u5:∀ q,Rok L q→(160 - q.deep).toNat≤k→SR L q (dL (ap F) q) (ax (G+3) (St L q) 5):=fun q hq hqk=>by
   show SR L q _ (aS (ax (G+2)) (St L q) 5)
   rw[(pI (ax (G+2)) (St L q)).2.2.2.1]
   unfold dL
   rw[qt]
   unfold gC
   exact oE (n:=5) (nx:=cz (ap F)) (l1:=bu [[43],[45]] [4,5] (ap F)) (l2:=fun e self=>bO [[43],[45]] [4,5] e (ap F) self) hq (fun _ _ _=>rfl) (fun _ _ _ _ _ _=>rfl) (by simp) (by simp) (by intro o ho;simp at ho;omega) (by omega)
    (fun q2 h2=>se h2 5 (by omega)) (fun q2 h2 _ hd=>u6 q2 h2 (by rw[hd];exact hqk)) (sY (G+2) 6 (by omega) (by omega) (by omega))
  have u4:∀ q,Rok L q→(160 - q.deep).toNat≤k→SR L q (eW (ap F) q [[60],[60,61],[61,61]] [13,14,15]) (ax (G+4) (St L q) 4):=fun q hq hqk=>by
   show SR L q _ (aS (ax (G+3)) (St L q) 4)
   rw[(pI (ax (G+3)) (St L q)).2.2.1]
   unfold eW
   exact oE (n:=4) (nx:=dL (ap F)) (l1:=bv [[60],[60,61],[61,61]] [13,14,15] (ap F)) (l2:=fun e self=>bP [[60],[60,61],[61,61]] [13,14,15] e (ap F) self) hq (fun _ _ _=>rfl) (fun _ _ _ _ _ _=>rfl) (by simp) (by simp) (by intro o ho;simp at ho;omega) (by omega)
    (fun q2 h2=>se h2 4 (by omega)) (fun q2 h2 _ hd=>u5 q2 h2 (by rw[hd];exact hqk)) (sY (G+3) 5 (by omega) (by omega) (by omega))
  have u3:∀ f,k<f→∀ q,Rok L q→(160 - q.deep).toNat≤k→SR L q (bJ (ap F) f q) (ax (G+5) (St L q) 3):=fun f hf q hq hqk=>by
   obtain⟨f,rfl⟩:∃ g,f=g+1:=⟨f - 1,by omega⟩
   show SR L q (ft (ap F) (bJ (ap F) f) q) (aS (ax (G+4)) (St L q) 3)
   rw[zQ]
   unfold ft
   rw[vw hq,fI hq [33],Option.bind_some,Option.bind_some]
   cases c:ko q 3 [33]with
   | true=>
    simp only[Bool.not_true,Bool.false_eq_true,if_false,if_true]
    exact B2 (recs_:=bJ (ap F) f) hq (hq.is_lt c) (by omega) (fun q2 h2 _ hd=>by
     obtain⟨k',rfl,hk'⟩:=deep q q2 hqk h2 hd
     obtain⟨G,rfl⟩:∃ g,G=g+1:=⟨G - 1,by omega⟩
     exact(ih k' q2 rfl h2 hk' F G f (by omega) (by omega) (by omega)).2.1) (sY (G+4) 3 (by omega) (by omega) (by omega))
   | false=>
    simp only[Bool.not_false,Bool.false_eq_true,if_false,if_true]
    rw[qt]
    exact Bq (u4 q hq hqk)
  have u2:∀ q,Rok L q→(160 - q.deep).toNat≤k→SR L q (dM (ap F) q) (ax (G+6) (St L q) 2):=fun q hq hqk=>by
   show SR L q _ (aS (ax (G+5)) (St L q) 2)
   rw[(pI (ax (G+5)) (St L q)).2.1]
   unfold dM
   rw[qt]
   unfold gD
   exact oE (n:=2) (nx:=iV (ap F)) (l1:=bw [[38]] [16] (ap F)) (l2:=fun e self=>bQ [[38]] [16] e (ap F) self) hq (fun _ _ _=>rfl) (fun _ _ _ _ _ _=>rfl) (by simp) (by simp) (by intro o ho;simp at ho;omega) (by omega)
    (fun q2 h2=>se h2 2 (by omega)) (fun q2 h2 _ hd=>u3 fu (by unfold fu;omega) q2 h2 (by rw[hd];exact hqk)) (sY (G+5) 3 (by omega) (by omega) (by omega))
  have u1:∀ q,Rok L q→(160 - q.deep).toNat≤k→SR L q (ap (F+1) q) (ax (G+7) (St L q) 1):=fun q hq hqk=>by
   show SR L q (fO (ap F) q) (aS (ax (G+6)) (St L q) 1)
   rw[(pI (ax (G+6)) (St L q)).1]
   unfold fO
   rw[qt]
   unfold gR
   exact oE (n:=1) (nx:=dM (ap F)) (l1:=bD [[124]] [17] (ap F)) (l2:=fun e self=>bW [[124]] [17] e (ap F) self) hq (fun _ _ _=>rfl) (fun _ _ _ _ _ _=>rfl) (by simp) (by simp) (by intro o ho;simp at ho;omega) (by omega)
    (fun q2 h2=>se h2 1 (by omega)) (fun q2 h2 _ hd=>u2 q2 h2 (by rw[hd];exact hqk)) (sY (G+6) 2 (by omega) (by omega) (by omega))
  exact⟨u7 f hf r h hk,u3 f hf r h hk,u1 r h hk⟩
 intro k
 induction k with
 | zero=>exact main 0 (fun k' r h=>by omega)
 | succ k ih=>
  intro r h hk F G f h3 h4 h5 h6
  refine main (k+1) (fun k' r e h1 h2 F G f a b c=> ?_) r h hk F G f h3 h4 h5 h6
  obtain rfl:k'=k:=by omega
  exact ih r h1 h2 F G f a b c (by omega)
theorem CC {r:PR} (h:Rok L r):SR L r (fr r) (jm (St L r) 1):=by
 have hd:=h.d0
 have k:=(Dk 160 r h (by omega) (fu - 1) (fu - 7) 161 (by unfold fu;omega) (by unfold fu;omega) (by omega) (by omega)).2.2
 rw[show fu - 1+1=fu by unfold fu;omega,show fu - 7+7=fu by unfold fu;omega]at k
 exact k
end Go.Proofs.YtmhoikfoogemnaaGreatDoor
namespace Go.Proofs.YtmhoikfoogemnaaGreatDoor
open Go Go.RowKit Go.Vc
set_option linter.unusedVariables false
set_option linter.unusedSimpArgs false
theorem Ce {f:Nat} :∀ {e:GExpr} {n:Nat},okGExpr e→wE e<f→n≤2000→el f e (fun k_0 q=>if q.1=0 then d7 k_0 q.2 else none) ((0,(n:Int)):Nat×Int)=some (if n+nE e≤2000 then(true,(0,((n+nE e:Nat):Int)))else(false,(1,2001))):=by
 induction f with
 | zero=>intro e n _ h;omega
 | succ f ih=>
  intro e n ho hw hn
  have hl:=ho.len
  show gZ (el f) e _ _ =_
  unfold gZ
  rw[Dc]
  have h0:(fun(k_0:GExpr) (q:Nat×Int)=>if q.1=0 then d7 k_0 q.2 else none) e (0,(n:Int))=some (if n=2000 then(false,(1,2001))else(true,(0,((n+1:Nat):Int)))):=by
   show(if(0:Nat)=0 then d7 e (n:Int)else none)=_
   rw[if_pos rfl]
   unfold d7
   rw[lB (by omega)]
   by_cases c:n=2000
   ·subst c;rfl
   ·rw[if_neg (by simp;omega),if_neg c]
  rw[h0,Option.bind_some]
  by_cases c:n=2000
  ·rw[if_pos c,if_neg (by omega)];rfl
  rw[if_neg c]
  simp only[Bool.not_true,Bool.false_eq_true,if_false]
  refine jy (L:=fun f' s i=>db e (el f) (fun k_0 q=>if q.1=0 then d7 k_0 q.2 else none) f' i s) (n:=e.Args.length) hl.2.1 (fun i s=>s=((0,((n+1+((e.Args.map nE).take i).sum:Nat):Int)):Nat×Int)∧n+1+((e.Args.map nE).take i).sum≤2000) ?_ ?_ ((0,((n+1:Nat):Int)):Nat×Int) ⟨by simp only[List.take_zero,List.sum_nil,Nat.add_zero],by simp only[List.take_zero,List.sum_nil];omega⟩
  ·rintro f' i s hi ⟨rfl,hb⟩
   obtain⟨x,hx⟩:=bY hi
   have hm:=List.mem_of_getElem? hx
   have hx2:(e.Args.map nE)[i]? =some (nE x):=by rw[List.getElem?_map,hx];rfl
   have h1:=x8 hx2
   have h2:=wF (e.Args.map nE) (i+1)
   have:=rY hm
   simp only[db]
   rw[if_pos (bS hi),ck hx,Option.bind_some,ih (ho.out.2.2.1 x hm) (by omega) hb,Option.bind_some,lB (by omega)]
   by_cases c2:n+1+((e.Args.map nE).take i).sum+nE x≤2000
   ·left
    rw[if_pos c2]
    refine⟨_,⟨rfl,by rw[h1];omega⟩,?_⟩
    simp only[Bool.not_true,Bool.false_eq_true,if_false]
    rw[h1,Nat.add_assoc (n+1)]
   ·right
    rw[if_neg c2,if_neg (show ¬ n+(1+(e.Args.map nE).sum)≤2000 by omega)]
    simp only[Bool.not_false,if_true]
  ·rintro f' s ⟨rfl,hb⟩
   have e1:(e.Args.map nE).take e.Args.length=e.Args.map nE:=by rw[show e.Args.length=(e.Args.map nE).length by rw[List.length_map],List.take_length]
   rw[e1]at hb
   simp only[db]
   rw[if_neg (by simp),e1,if_pos (by omega), ← Nat.add_assoc]
theorem vy {e:GExpr} (ho:okGExpr e) (hw:wE e≤1000000):mP e=some ((min (nE e) 2001:Nat):Int):=by
 unfold mP lG i8 mH
 rw[Option.bind_some]
 have h:=Ce (f:=fu) (n:=0) ho (by unfold fu;omega) (by omega)
 rw[show((0:Nat):Int)=0 from rfl]at h
 rw[h]
 by_cases c:0+nE e≤2000
 ·rw[if_pos c,show min (nE e) 2001=nE e by omega,Nat.zero_add];rfl
 ·rw[if_neg c,show min (nE e) 2001=2001 by omega]
  rfl
theorem un {f:Nat} :∀ {e:GExpr} {most:Nat},okGExpr e→wE e<f→most≤2000→wE e≤1000000→∃ r:Nat,fL f e (most:Int)=some (r:Int)∧(nE e≤most→r=nE e)∧(most<nE e→most<r∧r≤nE e):=by
 induction f with
 | zero=>intro e n _ h;omega
 | succ f ih=>
  intro e most ho hw hm hw2
  have hl:=ho.len
  have hnw:=HP e
  show ∃ r:Nat,nt (fL f) e (most:Int)=_ ∧ _
  unfold nt
  have hne:=Dc e
  let I:Nat→Int→Prop:=fun(i:Nat) (s:Int)=>∃ m:Nat,s=(m:Int)∧(m=1+((e.Args.map nE).take i).sum∨(most<m∧m≤nE e))
  let Q:Int→Prop:=fun(r:Int)=>∃ m:Nat,r=(m:Int)∧((nE e≤most→m=nE e)∧(most<nE e→most<m∧m≤nE e))
  have rd:∀ (f' i:Nat) (s:Int),i<e.Args.length→I i s→(∃ s',I (i+1) s'∧fc e (most:Int) (fL f) (f'+1) s (i:Int)=fc e (most:Int) (fL f) f' s' ((i+1:Nat):Int))∨∃ r,fc e (most:Int) (fL f) (f'+1) s (i:Int)=some r∧Q r:=by
   rintro f' i s hi ⟨m,rfl,hmm⟩
   have h2:=wF (e.Args.map nE) i
   simp only[fc]
   by_cases c:m≤most
   ·left
    obtain⟨x,hx⟩:=bY hi
    have hmem:=List.mem_of_getElem? hx
    have hx2:(e.Args.map nE)[i]? =some (nE x):=by rw[List.getElem?_map,hx];rfl
    have h1:=x8 hx2
    have h3:=wF (e.Args.map nE) (i+1)
    have hxw:=rY hmem
    have hmm:m=1+((e.Args.map nE).take i).sum:=by rcases hmm with h | h;exact h;omega
    have hlen:=DV (e:=e)
    obtain⟨q,q1,q2,q3⟩:=ih (e:=x) (most:=most - m) (ho.out.2.2.1 x hmem) (by omega) (by omega) (by omega)
    have hq:q≤nE x:=by by_cases c3:nE x≤most - m;rw[q2 c3];exact Nat.le_refl _;exact(q3 (by omega)).2
    refine⟨((m+q:Nat):Int),⟨m+q,rfl,?_⟩,?_⟩
    ·by_cases c3:nE x≤most - m
     ·left;rw[h1,q2 c3];omega
     ·right;have:=q3 (by omega);omega
    ·rw[bS hi,decide_eq_true (show((m:Nat):Int)≤(most:Int)by omega),Bool.and_self,if_pos rfl,ck hx,Option.bind_some,H3 (by omega),show(most:Int) - (m:Int)=((most - m:Nat):Int)by omega,q1,Option.bind_some,lB (by omega),He (by omega)]
   ·right
    rw[decide_eq_false (show ¬ ((m:Nat):Int)≤(most:Int)by omega),Bool.and_false,if_neg (by simp)]
    refine⟨_,rfl,m,rfl,fun h=> ?_,fun h=> ?_⟩
    ·rcases hmm with h4 | h4<;>omega
    ·rcases hmm with h4 | h4<;>omega
  have fin:∀ (f':Nat) (s:Int),I e.Args.length s→∃ r,fc e (most:Int) (fL f) (f'+1) s (e.Args.length:Int)=some r∧Q r:=by
   rintro f' s ⟨m,rfl,hmm⟩
   have e1:(e.Args.map nE).take e.Args.length=e.Args.map nE:=by rw[show e.Args.length=(e.Args.map nE).length by rw[List.length_map],List.take_length]
   rw[e1]at hmm
   simp only[fc]
   rw[if_neg (by simp)]
   refine⟨_,rfl,m,rfl,fun h=> ?_,fun h=> ?_⟩
   ·rcases hmm with h4 | h4<;>omega
   ·rcases hmm with h4 | h4<;>omega
  obtain⟨r,e1,r',er,p⟩:=nj (L:=fun f' s i=>fc e (most:Int) (fL f) f' s i) (n:=e.Args.length) hl.2.1 I Q rd fin (1:Int) ⟨1,rfl,.inl (by simp)⟩
  exact⟨r',by rw[← er];exact e1,p⟩
theorem uo {e:GExpr} (ho:okGExpr e) (hw:wE e≤1000000):oT e=some ((min (nE e) 2001:Nat):Int):=by
 obtain⟨r,h1,h2,h3⟩:=un (f:=fu) (most:=2000) ho (by unfold fu;omega) (by omega) hw
 unfold oT rq
 rw[show(2000:Int)=((2000:Nat):Int)from rfl,h1,Option.bind_some]
 refine congrArg some ?_
 by_cases c:nE e≤2000
 ·rw[h2 c];omega
 ·have:=h3 (by omega);omega
def vB (e:GExpr):Int:=if 40<dE e then 13 else if 2000<nE e then 2 else o8 e
theorem v6 {e:GExpr} (ho:okGExpr e) (hw:wE e≤1000000):hH e=some (vB e)∧mq e=some (vB e):=by
 obtain⟨d1,d2⟩:=xi (f:=fu) (mf:=41) ho (by unfold fu;omega) (by omega) (by omega)
 unfold hH mq nh qz oX qy vB
 rw[show(41:Int)=((41:Nat):Int)from rfl,d1,d2,vy ho hw,uo ho hw]
 simp only[Option.bind_some]
 by_cases hd:40<dE e
 ·have e1:decide ((40:Int)<((min (dE e) 41:Nat):Int))=true:=decide_eq_true (by omega)
  rw[if_pos hd,if_pos e1,if_pos e1];exact⟨rfl,rfl⟩
 ·have e1:decide ((40:Int)<((min (dE e) 41:Nat):Int))=false:=decide_eq_false (by omega)
  have nf:¬ (false=true):=by simp
  rw[if_neg hd,e1,if_neg nf,if_neg nf]
  by_cases hs:2000<nE e
  ·have e2:decide ((((2000:Nat):Int))<((min (nE e) 2001:Nat):Int))=true:=decide_eq_true (by omega)
   rw[if_pos hs]
   have e3:decide ((2000:Int)<((min (nE e) 2001:Nat):Int))=true:=e2
   rw[if_pos e3,if_pos e3];exact⟨rfl,rfl⟩
  ·have e2:decide ((2000:Int)<((min (nE e) 2001:Nat):Int))=false:=decide_eq_false (by omega)
   rw[if_neg hs,e2,if_neg nf,if_neg nf]
   unfold rr
   rw[zh ho (by unfold fu;omega)]
   refine⟨?_,rfl⟩
   unfold lG i8 mH
   rw[Option.bind_some,BD ho (by unfold fu;omega)]
   by_cases h:o8 e=0
   ·simp[h]
   ·simp[h]
def zE:GExpr:=⟨0,[],zV,zT,zL,[],[]⟩
theorem G7:okGExpr zE:=E5 (by omega) zF zB Bm zG nT nT
theorem zE_w:wE zE≤3:=by unfold zE;rw[pl];simp
theorem nH {a:GExpr} (ho:okGExpr a) (hw:wE a≤1000000):mT a a=some true:=by
 obtain⟨r,h1,h2⟩:=rQ fu a a ho (by unfold fu;omega)
 unfold mT
 rw[h1,h2.2 rfl]
end Go.Proofs.YtmhoikfoogemnaaGreatDoor
