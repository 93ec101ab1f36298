import Derived.Test.YtmhoikfoogemnaaGreatDoorJEm
namespace Go.Proofs.YtmhoikfoogemnaaGreatDoor
open Go Go.RowKit Go.Vc
set_option linter.unusedVariables false
set_option linter.unusedSimpArgs false
variable {L:Cx}
theorem xw (rec':RR) (p:RS):(bl rec' p 1=(rec' p 2).bind fun r6=>bm 1 rec' fu r6.1 r6.2)∧(bl rec' p 2=(rec' p 3).bind fun r6=>bm 2 rec' fu r6.1 r6.2)∧
  (bl rec' p 4=(rec' p 5).bind fun r6=>bm 4 rec' fu r6.1 r6.2)∧(bl rec' p 5=(rec' p 6).bind fun r6=>bm 5 rec' fu r6.1 r6.2)∧(bl rec' p 6=(rec' p 7).bind fun r6=>bm 6 rec' fu r6.1 r6.2):=by
 have w:∀ k:Int,-1000≤k∧k≤1000→aq k=k:=fun k hk=>wi ⟨by omega,by omega⟩
 refine⟨?_,?_,?_,?_,?_⟩<;>unfold bl<;>simp[gd,w]
theorem DF (rec':RR) (p:RS):bl rec' p 3=(aJ p 0 [33]).bind fun r1=>if r1=true then(fm p).bind fun r3=>(rec' r3 3).bind fun r4=>some (FD 18 r4.1,⟨r4.2.L,r4.2.At,p.Deep,r4.2.E,r4.2.Pos⟩)else(rec' p 4).bind fun r6=>bm 3 rec' fu r6.1 r6.2:=by
 have w:∀ k:Int,-1000≤k∧k≤1000→aq k=k:=fun k hk=>wi ⟨by omega,by omega⟩
 unfold bl iI FD
 cases e:aJ p 0 [33]with
 | none=>rfl
 | some b=>cases b<;>simp[gd,w,e]
theorem DE (rec':RR) (p:RS):bl rec' p 7=(aJ p 0 [45]).bind fun r1=>if r1=true then(fm p).bind fun r3=>(rec' r3 7).bind fun r4=>some (FD 8 r4.1,⟨r4.2.L,r4.2.At,p.Deep,r4.2.E,r4.2.Pos⟩)else fz rec' p:=by
 unfold bl iI FD
 have pid:∀ (m:Option (GExpr×RS)),(m.bind fun r13=>some (r13.1,r13.2))=m:=fun m=>by cases m<;>rfl
 cases e:aJ p 0 [45]with
 | none=>simp[gd,e]
 | some b=>cases b<;>simp[gd,e,pid]
theorem Hl:∀ (G:Nat) (n:Nat) (p:RS),p.E≠0→1≤n→n≤7→8≤G+n→∃ y,aB G p (n:Int)=some (y,p):=by
 intro G
 induction G with
 | zero=>intros;omega
 | succ G ih=>
  intro n p he h1 h7 hG
  show ∃ y,bl (aB G) p (n:Int)=_
  obtain⟨b1,b2,b4,b5,b6⟩:=xw (aB G) p
  have go:∀ k:Nat,1≤k→k≤6→8≤G+(k+1)→∃ y,((aB G p ((k+1:Nat):Int)).bind fun r6=>bm (k:Int) (aB G) fu r6.1 r6.2)=some (y,p):=fun k k1 k6 kg=>by
   obtain⟨y,hy⟩:=ih (k+1) p he (by omega) (by omega) kg
   obtain⟨g,hg⟩:=Fm
   rw[hy,Option.bind_some,hg]
   dsimp only
   rw[zy _ he];exact⟨_,rfl⟩
  match n,h1,h7 with
  | 1,_,_=>rw[show((1:Nat):Int)=1 from rfl,b1];exact go 1 (by omega) (by omega) (by omega)
  | 2,_,_=>rw[show((2:Nat):Int)=2 from rfl,b2];exact go 2 (by omega) (by omega) (by omega)
  | 3,_,_=>rw[show((3:Nat):Int)=3 from rfl,DF,jA he,Option.bind_some,if_neg (by simp)];exact go 3 (by omega) (by omega) (by omega)
  | 4,_,_=>rw[show((4:Nat):Int)=4 from rfl,b4];exact go 4 (by omega) (by omega) (by omega)
  | 5,_,_=>rw[show((5:Nat):Int)=5 from rfl,b5];exact go 5 (by omega) (by omega) (by omega)
  | 6,_,_=>rw[show((6:Nat):Int)=6 from rfl,b6];exact go 6 (by omega) (by omega) (by omega)
  | 7,_,_=>rw[show((7:Nat):Int)=7 from rfl,DE,jA he,Option.bind_some,if_neg (by simp)];exact BT he
theorem tY (G n:Nat) (h1:1≤n) (h7:n≤7) (h:8≤G+n):RF (aB G) (n:Int):=fun p he=>Hl G n p he h1 h7 h
abbrev SR (L:Cx) (r:PR) (m:Option (bu (GExpr×PR))) (m':Option (GExpr×RS)):Prop:=SimR L r (XI r) m m'
theorem B2 {rec':RR} {r:PR} {m:Option (bu (GExpr×PR))} (h:SR L r m (rec' (St L r) 4)):SR L r m ((rec' (St L r) 4).bind fun r6=>bm 3 rec' fu r6.1 r6.2):=by
 obtain⟨g,hg⟩:=Fm
 rcases h with⟨x,r',h1,h2,h3,h4⟩ | ⟨a,e,h1,h9,h2⟩
 ·rcases h2 with h2 | ⟨ho,y,s,h2,hs⟩
  ·refine .inl ⟨x,r',h1,.inl ?_,h3,h4⟩
   rw[h2,Option.bind_some,hg]
   simp only[bm]
   rw[tq h3.ok 3 (by omega),Option.bind_some]
   show(if(!decide ((0:Int)=0))=true then _ else _)=_
   rw[if_neg (by simp)]
  ·refine .inl ⟨x,r',h1,.inr ⟨ho,y,s,?_,hs⟩,h3,h4⟩
   rw[h2,Option.bind_some,hg]
   exact zy rec' (by rw[hs];decide) g y 3
 ·refine .inr ⟨a,e,h1,h9,fun ho=> ?_⟩
  obtain⟨y,s,q1,q2,q3,q4⟩:=h2 ho
  rw[q1,Option.bind_some,hg]
  dsimp only
  rw[zy rec' (by rw[q2];exact q4)]
  exact⟨_,_,rfl,q2,q3,q4⟩
theorem Gq:∀ (k:Nat) (r:PR),Rok L r→(160 - r.deep).toNat≤k→∀ F G f,k≤F→8 * k+8≤G→k<f→k<1000→
  SR L r (bN (ao F) f r) (aB (G+1) (St L r) 7)∧SR L r (cj (ao F) f r) (aB (G+5) (St L r) 3)∧SR L r (ao (F+1) r) (aB (G+7) (St L r) 1):=by
 have main:∀ (k:Nat),(∀ (k':Nat) (r:PR),k'+1=k→Rok L r→(160 - r.deep).toNat≤k'→∀ F G f,k'≤F→8 * k'+8≤G→k'<f→
   SR L r (bN (ao F) f r) (aB (G+1) (St L r) 7)∧SR L r (cj (ao F) f r) (aB (G+5) (St L r) 3)∧SR L r (ao (F+1) r) (aB (G+7) (St L r) 1))→
   ∀ (r:PR),Rok L r→(160 - r.deep).toNat≤k→∀ F G f,k≤F→8 * k+8≤G→k<f→k<1000→
   SR L r (bN (ao F) f r) (aB (G+1) (St L r) 7)∧SR L r (cj (ao F) f r) (aB (G+5) (St L r) 3)∧SR L r (ao (F+1) r) (aB (G+7) (St L r) 1):=by
  intro k ih r h hk F G f hF hG hf hk1
  have deep:∀ q q2:PR,(160 - q.deep).toNat≤k→Rok L q2→q2.deep=q.deep+1→∃ k',k=k'+1∧(160 - q2.deep).toNat≤k':=fun q q2 h1 h2 h3=>by
   have:=h2.d1
   exact⟨k - 1,by omega,by omega⟩
  have prim:∀ q,Rok L q→(160 - q.deep).toNat≤k→SR L q (dC (ao F) q) (fz (aB G) (St L q)):=fun q hq hqk=>
   zq hq (fun q2 h2 _ hd=>by
    obtain⟨k',rfl,hk'⟩:=deep q q2 hqk h2 hd
    obtain⟨F,rfl⟩:∃ g,F=g+1:=⟨F - 1,by omega⟩
    obtain⟨G,rfl⟩:∃ g,G=g+7:=⟨G - 7,by omega⟩
    exact(ih k' q2 rfl h2 hk' F G (k'+1) (by omega) (by omega) (by omega)).2.2) (tY G 1 (by omega) (by omega) (by omega))
  have u7:∀ f,k<f→∀ q,Rok L q→(160 - q.deep).toNat≤k→SR L q (bN (ao F) f q) (aB (G+1) (St L q) 7):=fun f hf q hq hqk=>by
   obtain⟨f,rfl⟩:∃ g,f=g+1:=⟨f - 1,by omega⟩
   show SR L q (eW (ao F) (bN (ao F) f) q) (bl (aB G) (St L q) 7)
   rw[DE]
   unfold eW
   rw[wG hq,gR hq [45],Option.bind_some,Option.bind_some]
   cases c:lj q 3 [45]with
   | true=>
    simp only[Bool.not_true,Bool.false_eq_true,if_false,if_true]
    exact CN (recs_:=bN (ao F) f) hq (hq.is_lt c) (by omega) (fun q2 h2 _ hd=>by
     obtain⟨k',rfl,hk'⟩:=deep q q2 hqk h2 hd
     obtain⟨G,rfl⟩:∃ g,G=g+1:=⟨G - 1,by omega⟩
     exact(ih k' q2 rfl h2 hk' F G f (by omega) (by omega) (by omega)).1) (tY G 7 (by omega) (by omega) (by omega))
   | false=>
    simp only[Bool.not_false,Bool.false_eq_true,if_false,if_true]
    rw[rz]
    exact prim q hq hqk
  have u6:∀ q,Rok L q→(160 - q.deep).toNat≤k→SR L q (cL (ao F) q) (aB (G+2) (St L q) 6):=fun q hq hqk=>by
   show SR L q _ (bl (aB (G+1)) (St L q) 6)
   rw[(xw (aB (G+1)) (St L q)).2.2.2.2]
   unfold cL
   rw[rz]
   unfold gM
   exact pr (n:=6) (nx:=hO (ao F)) (l1:=bx [[42],[47]] [6,7] (ao F)) (l2:=fun e self=>bT [[42],[47]] [6,7] e (ao F) self) hq (fun _ _ _=>rfl) (fun _ _ _ _ _ _=>rfl) (by simp) (by simp) (by intro o ho;simp at ho;omega) (by omega)
    (fun q2 h2=>tq h2 6 (by omega)) (fun q2 h2 _ hd=>u7 fu (by unfold fu;omega) q2 h2 (by rw[hd];exact hqk)) (tY (G+1) 7 (by omega) (by omega) (by omega))
  have u5:∀ q,Rok L q→(160 - q.deep).toNat≤k→SR L q (d4 (ao F) q) (aB (G+3) (St L q) 5):=fun q hq hqk=>by
   show SR L q _ (bl (aB (G+2)) (St L q) 5)
   rw[(xw (aB (G+2)) (St L q)).2.2.2.1]
   unfold d4
   rw[rz]
   unfold gN
   exact pr (n:=5) (nx:=cL (ao F)) (l1:=bz [[43],[45]] [4,5] (ao F)) (l2:=fun e self=>bU [[43],[45]] [4,5] e (ao F) self) hq (fun _ _ _=>rfl) (fun _ _ _ _ _ _=>rfl) (by simp) (by simp) (by intro o ho;simp at ho;omega) (by omega)
    (fun q2 h2=>tq h2 5 (by omega)) (fun q2 h2 _ hd=>u6 q2 h2 (by rw[hd];exact hqk)) (tY (G+2) 6 (by omega) (by omega) (by omega))
  have u4:∀ q,Rok L q→(160 - q.deep).toNat≤k→SR L q (fr (ao F) q [[60],[60,61],[61,61]] [13,14,15]) (aB (G+4) (St L q) 4):=fun q hq hqk=>by
   show SR L q _ (bl (aB (G+3)) (St L q) 4)
   rw[(xw (aB (G+3)) (St L q)).2.2.1]
   unfold fr
   exact pr (n:=4) (nx:=d4 (ao F)) (l1:=bA [[60],[60,61],[61,61]] [13,14,15] (ao F)) (l2:=fun e self=>bV [[60],[60,61],[61,61]] [13,14,15] e (ao F) self) hq (fun _ _ _=>rfl) (fun _ _ _ _ _ _=>rfl) (by simp) (by simp) (by intro o ho;simp at ho;omega) (by omega)
    (fun q2 h2=>tq h2 4 (by omega)) (fun q2 h2 _ hd=>u5 q2 h2 (by rw[hd];exact hqk)) (tY (G+3) 5 (by omega) (by omega) (by omega))
  have u3:∀ f,k<f→∀ q,Rok L q→(160 - q.deep).toNat≤k→SR L q (cj (ao F) f q) (aB (G+5) (St L q) 3):=fun f hf q hq hqk=>by
   obtain⟨f,rfl⟩:∃ g,f=g+1:=⟨f - 1,by omega⟩
   show SR L q (fK (ao F) (cj (ao F) f) q) (bl (aB (G+4)) (St L q) 3)
   rw[DF]
   unfold fK
   rw[wG hq,gR hq [33],Option.bind_some,Option.bind_some]
   cases c:lj q 3 [33]with
   | true=>
    simp only[Bool.not_true,Bool.false_eq_true,if_false,if_true]
    exact CN (recs_:=cj (ao F) f) hq (hq.is_lt c) (by omega) (fun q2 h2 _ hd=>by
     obtain⟨k',rfl,hk'⟩:=deep q q2 hqk h2 hd
     obtain⟨G,rfl⟩:∃ g,G=g+1:=⟨G - 1,by omega⟩
     exact(ih k' q2 rfl h2 hk' F G f (by omega) (by omega) (by omega)).2.1) (tY (G+4) 3 (by omega) (by omega) (by omega))
   | false=>
    simp only[Bool.not_false,Bool.false_eq_true,if_false,if_true]
    rw[rz]
    exact B2 (u4 q hq hqk)
  have u2:∀ q,Rok L q→(160 - q.deep).toNat≤k→SR L q (d5 (ao F) q) (aB (G+6) (St L q) 2):=fun q hq hqk=>by
   show SR L q _ (bl (aB (G+5)) (St L q) 2)
   rw[(xw (aB (G+5)) (St L q)).2.1]
   unfold d5
   rw[rz]
   unfold gO
   exact pr (n:=2) (nx:=iX (ao F)) (l1:=bB [[38]] [16] (ao F)) (l2:=fun e self=>bW [[38]] [16] e (ao F) self) hq (fun _ _ _=>rfl) (fun _ _ _ _ _ _=>rfl) (by simp) (by simp) (by intro o ho;simp at ho;omega) (by omega)
    (fun q2 h2=>tq h2 2 (by omega)) (fun q2 h2 _ hd=>u3 fu (by unfold fu;omega) q2 h2 (by rw[hd];exact hqk)) (tY (G+5) 3 (by omega) (by omega) (by omega))
  have u1:∀ q,Rok L q→(160 - q.deep).toNat≤k→SR L q (ao (F+1) q) (aB (G+7) (St L q) 1):=fun q hq hqk=>by
   show SR L q (gc (ao F) q) (bl (aB (G+6)) (St L q) 1)
   rw[(xw (aB (G+6)) (St L q)).1]
   unfold gc
   rw[rz]
   unfold hP
   exact pr (n:=1) (nx:=d5 (ao F)) (l1:=bG [[124]] [17] (ao F)) (l2:=fun e self=>ce [[124]] [17] e (ao F) self) hq (fun _ _ _=>rfl) (fun _ _ _ _ _ _=>rfl) (by simp) (by simp) (by intro o ho;simp at ho;omega) (by omega)
    (fun q2 h2=>tq h2 1 (by omega)) (fun q2 h2 _ hd=>u2 q2 h2 (by rw[hd];exact hqk)) (tY (G+6) 2 (by omega) (by omega) (by omega))
  exact⟨u7 f hf r h hk,u3 f hf r h hk,u1 r h hk⟩
 intro k
 induction k with
 | zero=>exact main 0 (fun k' r h=>by omega)
 | succ k ih=>
  intro r h hk F G f h3 h4 h5 h6
  refine main (k+1) (fun k' r e h1 h2 F G f a b c=> ?_) r h hk F G f h3 h4 h5 h6
  obtain rfl:k'=k:=by omega
  exact ih r h1 h2 F G f a b c (by omega)
theorem FQ {r:PR} (h:Rok L r):SR L r (lC r) (nH (St L r) 1):=by
 have hd:=h.d0
 have k:=(Gq 160 r h (by omega) (fu - 1) (fu - 7) 161 (by unfold fu;omega) (by unfold fu;omega) (by omega) (by omega)).2.2
 rw[show fu - 1+1=fu by unfold fu;omega,show fu - 7+7=fu by unfold fu;omega]at k
 exact k
end Go.Proofs.YtmhoikfoogemnaaGreatDoor
