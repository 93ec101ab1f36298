import Derived.Test.YtmhoikfoogemnaaGreatDoorKEm
namespace Go.Proofs.YtmhoikfoogemnaaGreatDoor
open Go Go.RowKit Go.Vc
set_option linter.unusedVariables false
set_option linter.unusedSimpArgs false
variable {L:Cx}
theorem xS (rec':RR) (p:RS):(bm rec' p 1=(rec' p 2).bind fun r6=>bp 1 rec' fu r6.1 r6.2)∧(bm rec' p 2=(rec' p 3).bind fun r6=>bp 2 rec' fu r6.1 r6.2)∧
  (bm rec' p 4=(rec' p 5).bind fun r6=>bp 4 rec' fu r6.1 r6.2)∧(bm rec' p 5=(rec' p 6).bind fun r6=>bp 5 rec' fu r6.1 r6.2)∧(bm rec' p 6=(rec' p 7).bind fun r6=>bp 6 rec' fu r6.1 r6.2):=by
 have w:∀ k:Int,-1000≤k∧k≤1000→ar k=k:=fun k hk=>wi ⟨by omega,by omega⟩
 refine⟨?_,?_,?_,?_,?_⟩<;>unfold bm<;>simp[gd,w]
theorem Ek (rec':RR) (p:RS):bm rec' p 3=(aL p 0 [33]).bind fun r1=>if r1=true then(fF p).bind fun r3=>(rec' r3 3).bind fun r4=>some (Gu 18 r4.1,⟨r4.2.L,r4.2.At,p.Deep,r4.2.E,r4.2.Pos⟩)else(rec' p 4).bind fun r6=>bp 3 rec' fu r6.1 r6.2:=by
 have w:∀ k:Int,-1000≤k∧k≤1000→ar k=k:=fun k hk=>wi ⟨by omega,by omega⟩
 unfold bm ja Gu
 cases e:aL p 0 [33]with
 | none=>rfl
 | some b=>cases b<;>simp[gd,w,e]
theorem Ej (rec':RR) (p:RS):bm rec' p 7=(aL p 0 [45]).bind fun r1=>if r1=true then(fF p).bind fun r3=>(rec' r3 7).bind fun r4=>some (Gu 8 r4.1,⟨r4.2.L,r4.2.At,p.Deep,r4.2.E,r4.2.Pos⟩)else fM rec' p:=by
 unfold bm ja Gu
 have pid:∀ (m:Option (GExpr×RS)),(m.bind fun r13=>some (r13.1,r13.2))=m:=fun m=>by cases m<;>rfl
 cases e:aL p 0 [45]with
 | none=>simp[gd,e]
 | some b=>cases b<;>simp[gd,e,pid]
theorem Ih:∀ (G:Nat) (n:Nat) (p:RS),p.E≠0→1≤n→n≤7→8≤G+n→∃ y,aD G p (n:Int)=some (y,p):=by
 intro G
 induction G with
 | zero=>intros;omega
 | succ G ih=>
  intro n p he h1 h7 hG
  show ∃ y,bm (aD G) p (n:Int)=_
  obtain⟨b1,b2,b4,b5,b6⟩:=xS (aD G) p
  have go:∀ k:Nat,1≤k→k≤6→8≤G+(k+1)→∃ y,((aD G p ((k+1:Nat):Int)).bind fun r6=>bp (k:Int) (aD G) fu r6.1 r6.2)=some (y,p):=fun k k1 k6 kg=>by
   obtain⟨y,hy⟩:=ih (k+1) p he (by omega) (by omega) kg
   obtain⟨g,hg⟩:=Ge
   rw[hy,Option.bind_some,hg]
   dsimp only
   rw[Aa _ he];exact⟨_,rfl⟩
  match n,h1,h7 with
  | 1,_,_=>rw[show((1:Nat):Int)=1 from rfl,b1];exact go 1 (by omega) (by omega) (by omega)
  | 2,_,_=>rw[show((2:Nat):Int)=2 from rfl,b2];exact go 2 (by omega) (by omega) (by omega)
  | 3,_,_=>rw[show((3:Nat):Int)=3 from rfl,Ek,jV he,Option.bind_some,if_neg (by simp)];exact go 3 (by omega) (by omega) (by omega)
  | 4,_,_=>rw[show((4:Nat):Int)=4 from rfl,b4];exact go 4 (by omega) (by omega) (by omega)
  | 5,_,_=>rw[show((5:Nat):Int)=5 from rfl,b5];exact go 5 (by omega) (by omega) (by omega)
  | 6,_,_=>rw[show((6:Nat):Int)=6 from rfl,b6];exact go 6 (by omega) (by omega) (by omega)
  | 7,_,_=>rw[show((7:Nat):Int)=7 from rfl,Ej,jV he,Option.bind_some,if_neg (by simp)];exact Cu he
theorem ul (G n:Nat) (h1:1≤n) (h7:n≤7) (h:8≤G+n):RF (aD G) (n:Int):=fun p he=>Ih G n p he h1 h7 h
abbrev SR (L:Cx) (r:PR) (m:Option (bz (GExpr×PR))) (m':Option (GExpr×RS)):Prop:=SimR L r (XI r) m m'
theorem CF {rec':RR} {r:PR} {m:Option (bz (GExpr×PR))} (h:SR L r m (rec' (St L r) 4)):SR L r m ((rec' (St L r) 4).bind fun r6=>bp 3 rec' fu r6.1 r6.2):=by
 obtain⟨g,hg⟩:=Ge
 rcases h with⟨x,r',h1,h2,h3,h4⟩ | ⟨a,e,h1,h9,h2⟩
 ·rcases h2 with h2 | ⟨ho,y,s,h2,hs⟩
  ·refine .inl ⟨x,r',h1,.inl ?_,h3,h4⟩
   rw[h2,Option.bind_some,hg]
   simp only[bp]
   rw[tH h3.ok 3 (by omega),Option.bind_some]
   show(if(!decide ((0:Int)=0))=true then _ else _)=_
   rw[if_neg (by simp)]
  ·refine .inl ⟨x,r',h1,.inr ⟨ho,y,s,?_,hs⟩,h3,h4⟩
   rw[h2,Option.bind_some,hg]
   exact Aa rec' (by rw[hs];decide) g y 3
 ·refine .inr ⟨a,e,h1,h9,fun ho=> ?_⟩
  obtain⟨y,s,q1,q2,q3,q4⟩:=h2 ho
  rw[q1,Option.bind_some,hg]
  dsimp only
  rw[Aa rec' (by rw[q2];exact q4)]
  exact⟨_,_,rfl,q2,q3,q4⟩
theorem Hi:∀ (k:Nat) (r:PR),Rok L r→(160 - r.deep).toNat≤k→∀ F G f,k≤F→8 * k+8≤G→k<f→k<1000→
  SR L r (bP (ap F) f r) (aD (G+1) (St L r) 7)∧SR L r (cn (ap F) f r) (aD (G+5) (St L r) 3)∧SR L r (ap (F+1) r) (aD (G+7) (St L r) 1):=by
 have main:∀ (k:Nat),(∀ (k':Nat) (r:PR),k'+1=k→Rok L r→(160 - r.deep).toNat≤k'→∀ F G f,k'≤F→8 * k'+8≤G→k'<f→
   SR L r (bP (ap F) f r) (aD (G+1) (St L r) 7)∧SR L r (cn (ap F) f r) (aD (G+5) (St L r) 3)∧SR L r (ap (F+1) r) (aD (G+7) (St L r) 1))→
   ∀ (r:PR),Rok L r→(160 - r.deep).toNat≤k→∀ F G f,k≤F→8 * k+8≤G→k<f→k<1000→
   SR L r (bP (ap F) f r) (aD (G+1) (St L r) 7)∧SR L r (cn (ap F) f r) (aD (G+5) (St L r) 3)∧SR L r (ap (F+1) r) (aD (G+7) (St L r) 1):=by
  intro k ih r h hk F G f hF hG hf hk1
  have deep:∀ q q2:PR,(160 - q.deep).toNat≤k→Rok L q2→q2.deep=q.deep+1→∃ k',k=k'+1∧(160 - q2.deep).toNat≤k':=fun q q2 h1 h2 h3=>by
   have:=h2.d1
   exact⟨k - 1,by omega,by omega⟩
  have prim:∀ q,Rok L q→(160 - q.deep).toNat≤k→SR L q (dK (ap F) q) (fM (aD G) (St L q)):=fun q hq hqk=>
   zW hq (fun q2 h2 _ hd=>by
    obtain⟨k',rfl,hk'⟩:=deep q q2 hqk h2 hd
    obtain⟨F,rfl⟩:∃ g,F=g+1:=⟨F - 1,by omega⟩
    obtain⟨G,rfl⟩:∃ g,G=g+7:=⟨G - 7,by omega⟩
    exact(ih k' q2 rfl h2 hk' F G (k'+1) (by omega) (by omega) (by omega)).2.2) (ul G 1 (by omega) (by omega) (by omega))
  have u7:∀ f,k<f→∀ q,Rok L q→(160 - q.deep).toNat≤k→SR L q (bP (ap F) f q) (aD (G+1) (St L q) 7):=fun f hf q hq hqk=>by
   obtain⟨f,rfl⟩:∃ g,f=g+1:=⟨f - 1,by omega⟩
   show SR L q (fj (ap F) (bP (ap F) f) q) (bm (aD G) (St L q) 7)
   rw[Ej]
   unfold fj
   rw[xe hq,ic hq [45],Option.bind_some,Option.bind_some]
   cases c:ly q 3 [45]with
   | true=>
    simp only[Bool.not_true,Bool.false_eq_true,if_false,if_true]
    exact Dw (recs_:=bP (ap F) f) hq (hq.is_lt c) (by omega) (fun q2 h2 _ hd=>by
     obtain⟨k',rfl,hk'⟩:=deep q q2 hqk h2 hd
     obtain⟨G,rfl⟩:∃ g,G=g+1:=⟨G - 1,by omega⟩
     exact(ih k' q2 rfl h2 hk' F G f (by omega) (by omega) (by omega)).1) (ul G 7 (by omega) (by omega) (by omega))
   | false=>
    simp only[Bool.not_false,Bool.false_eq_true,if_false,if_true]
    rw[rK]
    exact prim q hq hqk
  have u6:∀ q,Rok L q→(160 - q.deep).toNat≤k→SR L q (cP (ap F) q) (aD (G+2) (St L q) 6):=fun q hq hqk=>by
   show SR L q _ (bm (aD (G+1)) (St L q) 6)
   rw[(xS (aD (G+1)) (St L q)).2.2.2.2]
   unfold cP
   rw[rK]
   unfold hT
   exact pD (n:=6) (nx:=iu (ap F)) (l1:=bB [[42],[47]] [6,7] (ap F)) (l2:=fun e self=>bU [[42],[47]] [6,7] e (ap F) self) hq (fun _ _ _=>rfl) (fun _ _ _ _ _ _=>rfl) (by simp) (by simp) (by intro o ho;simp at ho;omega) (by omega)
    (fun q2 h2=>tH h2 6 (by omega)) (fun q2 h2 _ hd=>u7 fu (by unfold fu;omega) q2 h2 (by rw[hd];exact hqk)) (ul (G+1) 7 (by omega) (by omega) (by omega))
  have u5:∀ q,Rok L q→(160 - q.deep).toNat≤k→SR L q (eg (ap F) q) (aD (G+3) (St L q) 5):=fun q hq hqk=>by
   show SR L q _ (bm (aD (G+2)) (St L q) 5)
   rw[(xS (aD (G+2)) (St L q)).2.2.2.1]
   unfold eg
   rw[rK]
   unfold hU
   exact pD (n:=5) (nx:=cP (ap F)) (l1:=bC [[43],[45]] [4,5] (ap F)) (l2:=fun e self=>bV [[43],[45]] [4,5] e (ap F) self) hq (fun _ _ _=>rfl) (fun _ _ _ _ _ _=>rfl) (by simp) (by simp) (by intro o ho;simp at ho;omega) (by omega)
    (fun q2 h2=>tH h2 5 (by omega)) (fun q2 h2 _ hd=>u6 q2 h2 (by rw[hd];exact hqk)) (ul (G+2) 6 (by omega) (by omega) (by omega))
  have u4:∀ q,Rok L q→(160 - q.deep).toNat≤k→SR L q (fI (ap F) q [[60],[60,61],[61,61]] [13,14,15]) (aD (G+4) (St L q) 4):=fun q hq hqk=>by
   show SR L q _ (bm (aD (G+3)) (St L q) 4)
   rw[(xS (aD (G+3)) (St L q)).2.2.1]
   unfold fI
   exact pD (n:=4) (nx:=eg (ap F)) (l1:=bD [[60],[60,61],[61,61]] [13,14,15] (ap F)) (l2:=fun e self=>bW [[60],[60,61],[61,61]] [13,14,15] e (ap F) self) hq (fun _ _ _=>rfl) (fun _ _ _ _ _ _=>rfl) (by simp) (by simp) (by intro o ho;simp at ho;omega) (by omega)
    (fun q2 h2=>tH h2 4 (by omega)) (fun q2 h2 _ hd=>u5 q2 h2 (by rw[hd];exact hqk)) (ul (G+3) 5 (by omega) (by omega) (by omega))
  have u3:∀ f,k<f→∀ q,Rok L q→(160 - q.deep).toNat≤k→SR L q (cn (ap F) f q) (aD (G+5) (St L q) 3):=fun f hf q hq hqk=>by
   obtain⟨f,rfl⟩:∃ g,f=g+1:=⟨f - 1,by omega⟩
   show SR L q (fY (ap F) (cn (ap F) f) q) (bm (aD (G+4)) (St L q) 3)
   rw[Ek]
   unfold fY
   rw[xe hq,ic hq [33],Option.bind_some,Option.bind_some]
   cases c:ly q 3 [33]with
   | true=>
    simp only[Bool.not_true,Bool.false_eq_true,if_false,if_true]
    exact Dw (recs_:=cn (ap F) f) hq (hq.is_lt c) (by omega) (fun q2 h2 _ hd=>by
     obtain⟨k',rfl,hk'⟩:=deep q q2 hqk h2 hd
     obtain⟨G,rfl⟩:∃ g,G=g+1:=⟨G - 1,by omega⟩
     exact(ih k' q2 rfl h2 hk' F G f (by omega) (by omega) (by omega)).2.1) (ul (G+4) 3 (by omega) (by omega) (by omega))
   | false=>
    simp only[Bool.not_false,Bool.false_eq_true,if_false,if_true]
    rw[rK]
    exact CF (u4 q hq hqk)
  have u2:∀ q,Rok L q→(160 - q.deep).toNat≤k→SR L q (eh (ap F) q) (aD (G+6) (St L q) 2):=fun q hq hqk=>by
   show SR L q _ (bm (aD (G+5)) (St L q) 2)
   rw[(xS (aD (G+5)) (St L q)).2.1]
   unfold eh
   rw[rK]
   unfold hV
   exact pD (n:=2) (nx:=jq (ap F)) (l1:=bE [[38]] [16] (ap F)) (l2:=fun e self=>bX [[38]] [16] e (ap F) self) hq (fun _ _ _=>rfl) (fun _ _ _ _ _ _=>rfl) (by simp) (by simp) (by intro o ho;simp at ho;omega) (by omega)
    (fun q2 h2=>tH h2 2 (by omega)) (fun q2 h2 _ hd=>u3 fu (by unfold fu;omega) q2 h2 (by rw[hd];exact hqk)) (ul (G+5) 3 (by omega) (by omega) (by omega))
  have u1:∀ q,Rok L q→(160 - q.deep).toNat≤k→SR L q (ap (F+1) q) (aD (G+7) (St L q) 1):=fun q hq hqk=>by
   show SR L q (gy (ap F) q) (bm (aD (G+6)) (St L q) 1)
   rw[(xS (aD (G+6)) (St L q)).1]
   unfold gy
   rw[rK]
   unfold iv
   exact pD (n:=1) (nx:=eh (ap F)) (l1:=bI [[124]] [17] (ap F)) (l2:=fun e self=>cg [[124]] [17] e (ap F) self) hq (fun _ _ _=>rfl) (fun _ _ _ _ _ _=>rfl) (by simp) (by simp) (by intro o ho;simp at ho;omega) (by omega)
    (fun q2 h2=>tH h2 1 (by omega)) (fun q2 h2 _ hd=>u2 q2 h2 (by rw[hd];exact hqk)) (ul (G+6) 2 (by omega) (by omega) (by omega))
  exact⟨u7 f hf r h hk,u3 f hf r h hk,u1 r h hk⟩
 intro k
 induction k with
 | zero=>exact main 0 (fun k' r h=>by omega)
 | succ k ih=>
  intro r h hk F G f h3 h4 h5 h6
  refine main (k+1) (fun k' r e h1 h2 F G f a b c=> ?_) r h hk F G f h3 h4 h5 h6
  obtain rfl:k'=k:=by omega
  exact ih r h1 h2 F G f a b c (by omega)
theorem GH {r:PR} (h:Rok L r):SR L r (ig r) (nX (St L r) 1):=by
 have hd:=h.d0
 have k:=(Hi 160 r h (by omega) (fu - 1) (fu - 7) 161 (by unfold fu;omega) (by unfold fu;omega) (by omega) (by omega)).2.2
 rw[show fu - 1+1=fu by unfold fu;omega,show fu - 7+7=fu by unfold fu;omega]at k
 exact k
end Go.Proofs.YtmhoikfoogemnaaGreatDoor
