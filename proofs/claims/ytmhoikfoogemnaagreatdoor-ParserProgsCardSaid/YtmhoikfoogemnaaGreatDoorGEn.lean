import Derived.Test.YtmhoikfoogemnaaGreatDoorGEm
namespace Go.Proofs.YtmhoikfoogemnaaGreatDoor
open Go Go.RowKit Go.Vc
set_option linter.unusedVariables false
set_option linter.unusedSimpArgs false
variable {L:Cx}
theorem Aa (rec':RR) (p:RS):(bD rec' p 1=(rec' p 2).bind λr6=>bE 1 rec' fu r6.1 r6.2)∧(bD rec' p 2=(rec' p 3).bind λr6=>bE 2 rec' fu r6.1 r6.2)∧
  (bD rec' p 4=(rec' p 5).bind λr6=>bE 4 rec' fu r6.1 r6.2)∧(bD rec' p 5=(rec' p 6).bind λr6=>bE 5 rec' fu r6.1 r6.2)∧(bD rec' p 6=(rec' p 7).bind λr6=>bE 6 rec' fu r6.1 r6.2):=by
 have w:∀ k:Int,-1000≤k∧k≤1000→au k=k:=λk hk=>wi ⟨by omega,by omega⟩
 refine⟨?_,?_,?_,?_,?_⟩<;>unfold bD<;>simp[gd,w]
theorem Hf (rec':RR) (p:RS):bD rec' p 3=(aK p 0 [33]).bind λr1=>if r1=true then(gt p).bind λr3=>(rec' r3 3).bind λr4=>some (Jk 18 r4.1,⟨r4.2.L,r4.2.At,p.Deep,r4.2.E,r4.2.Pos⟩)else(rec' p 4).bind λr6=>bE 3 rec' fu r6.1 r6.2:=by
 have w:∀ k:Int,-1000≤k∧k≤1000→au k=k:=λk hk=>wi ⟨by omega,by omega⟩
 unfold bD jG Jk
 cases e:aK p 0 [33]with
 | none=>rfl
 | some b=>cases b<;>simp[gd,w,e]
theorem He (rec':RR) (p:RS):bD rec' p 7=(aK p 0 [45]).bind λr1=>if r1=true then(gt p).bind λr3=>(rec' r3 7).bind λr4=>some (Jk 8 r4.1,⟨r4.2.L,r4.2.At,p.Deep,r4.2.E,r4.2.Pos⟩)else gC rec' p:=by
 unfold bD jG Jk
 have pid:∀ (m:Option (GExpr×RS)),(m.bind λr13=>some (r13.1,r13.2))=m:=λm=>by cases m<;>rfl
 cases e:aK p 0 [45]with
 | none=>simp[gd,e]
 | some b=>cases b<;>simp[gd,e,pid]
theorem Lk:∀ (G:Nat) (n:Nat) (p:RS),p.E≠0→1≤n→n≤7→8≤G+n→∃ y,aL G p (n:Int)=some (y,p):=by
 intro G
 induction G with
 | zero=>intros;omega
 | succ G ih=>
  intro n p he h1 h7 hG
  show ∃ y,bD (aL G) p (n:Int)=_
  obtain⟨b1,b2,b4,b5,b6⟩:=Aa (aL G) p
  have go:∀ k:Nat,1≤k→k≤6→8≤G+(k+1)→∃ y,((aL G p ((k+1:Nat):Int)).bind λr6=>bE (k:Int) (aL G) fu r6.1 r6.2)=some (y,p):=λk k1 k6 kg=>by
   obtain⟨y,hy⟩:=ih (k+1) p he (by omega) (by omega) kg
   obtain⟨g,hg⟩:=HP
   rw[hy,Option.bind_some,hg]
   dsimp only
   rw[Cy _ he];exact⟨_,rfl⟩
  match n,h1,h7 with
  | 1,_,_=>rw[show((1:Nat):Int)=1 from rfl,b1];exact go 1 (by omega) (by omega) (by omega)
  | 2,_,_=>rw[show((2:Nat):Int)=2 from rfl,b2];exact go 2 (by omega) (by omega) (by omega)
  | 3,_,_=>rw[show((3:Nat):Int)=3 from rfl,Hf,jh he,Option.bind_some,if_neg (by simp)];exact go 3 (by omega) (by omega) (by omega)
  | 4,_,_=>rw[show((4:Nat):Int)=4 from rfl,b4];exact go 4 (by omega) (by omega) (by omega)
  | 5,_,_=>rw[show((5:Nat):Int)=5 from rfl,b5];exact go 5 (by omega) (by omega) (by omega)
  | 6,_,_=>rw[show((6:Nat):Int)=6 from rfl,b6];exact go 6 (by omega) (by omega) (by omega)
  | 7,_,_=>rw[show((7:Nat):Int)=7 from rfl,He,jh he,Option.bind_some,if_neg (by simp)];exact Fh he
theorem vr (G n:Nat) (h1:1≤n) (h7:n≤7) (h:8≤G+n):RF (aL G) (n:Int):=λp he=>Lk G n p he h1 h7 h
abbrev SR (L:Cx) (r:PR) (m:Option (bL (GExpr×PR))) (m':Option (GExpr×RS)):Prop:=SimR L r (XI r) m m'
theorem Fw {rec':RR} {r:PR} {m:Option (bL (GExpr×PR))} (h:SR L r m (rec' (St L r) 4)):SR L r m ((rec' (St L r) 4).bind λr6=>bE 3 rec' fu r6.1 r6.2):=by
 obtain⟨g,hg⟩:=HP
 rcases h with⟨x,r',h1,h2,h3,h4⟩ | ⟨a,e,h1,h9,h2⟩
 ·rcases h2 with h2 | ⟨ho,y,s,h2,hs⟩
  ·refine .inl ⟨x,r',h1,.inl ?_,h3,h4⟩
   rw[h2,Option.bind_some,hg]
   simp only[bE]
   rw[we h3.ok 3 (by omega),Option.bind_some]
   show(if(!decide ((0:Int)=0))=true then _ else _)=_
   rw[if_neg (by simp)]
  ·refine .inl ⟨x,r',h1,.inr ⟨ho,y,s,?_,hs⟩,h3,h4⟩
   rw[h2,Option.bind_some,hg]
   exact Cy rec' (by rw[hs];decide) g y 3
 ·refine .inr ⟨a,e,h1,h9,λho=>?_⟩
  obtain⟨y,s,q1,q2,q3,q4⟩:=h2 ho
  rw[q1,Option.bind_some,hg]
  dsimp only
  rw[Cy rec' (by rw[q2];exact q4)]
  exact⟨_,_,rfl,q2,q3,q4⟩
theorem Kf:∀ (k:Nat) (r:PR),Rok L r→(160 - r.deep).toNat≤k→∀ F G f,k≤F→8 * k+8≤G→k<f→k<1000→
  SR L r (cg (aq F) f r) (aL (G+1) (St L r) 7)∧SR L r (cA (aq F) f r) (aL (G+5) (St L r) 3)∧SR L r (aq (F+1) r) (aL (G+7) (St L r) 1):=by
 have main:∀ (k:Nat),(∀ (k':Nat) (r:PR),k'+1=k→Rok L r→(160 - r.deep).toNat≤k'→∀ F G f,k'≤F→8 * k'+8≤G→k'<f→
   SR L r (cg (aq F) f r) (aL (G+1) (St L r) 7)∧SR L r (cA (aq F) f r) (aL (G+5) (St L r) 3)∧SR L r (aq (F+1) r) (aL (G+7) (St L r) 1))→
   ∀ (r:PR),Rok L r→(160 - r.deep).toNat≤k→∀ F G f,k≤F→8 * k+8≤G→k<f→k<1000→
   SR L r (cg (aq F) f r) (aL (G+1) (St L r) 7)∧SR L r (cA (aq F) f r) (aL (G+5) (St L r) 3)∧SR L r (aq (F+1) r) (aL (G+7) (St L r) 1):=by
  intro k ih r h hk F G f hF hG hf hk1
  have deep:∀ q q2:PR,(160 - q.deep).toNat≤k→Rok L q2→q2.deep=q.deep+1→∃ k',k=k'+1∧(160 - q2.deep).toNat≤k':=λq q2 h1 h2 h3=>by
   have:=h2.d1
   exact⟨k - 1,by omega,by omega⟩
  have prim:∀ q,Rok L q→(160 - q.deep).toNat≤k→SR L q (en (aq F) q) (gC (aL G) (St L q)):=λq hq hqk=>
   Cs hq (λq2 h2 _ hd=>by
    obtain⟨k',rfl,hk'⟩:=deep q q2 hqk h2 hd
    obtain⟨F,rfl⟩:∃ g,F=g+1:=⟨F - 1,by omega⟩
    obtain⟨G,rfl⟩:∃ g,G=g+7:=⟨G - 7,by omega⟩
    exact(ih k' q2 rfl h2 hk' F G (k'+1) (by omega) (by omega) (by omega)).2.2) (vr G 1 (by omega) (by omega) (by omega))
  have u7:∀ f,k<f→∀ q,Rok L q→(160 - q.deep).toNat≤k→SR L q (cg (aq F) f q) (aL (G+1) (St L q) 7):=λf hf q hq hqk=>by
   obtain⟨f,rfl⟩:∃ g,f=g+1:=⟨f - 1,by omega⟩
   show SR L q (fZ (aq F) (cg (aq F) f) q) (bD (aL G) (St L q) 7)
   rw[He]
   unfold fZ
   rw[uN hq,gX hq [45],Option.bind_some,Option.bind_some]
   cases c:jd q 3 [45]with
   | true=>
    simp only[Bool.not_true,Bool.false_eq_true,if_false,if_true]
    exact Gl (recs_:=cg (aq F) f) hq (hq.is_lt c) (by omega) (λq2 h2 _ hd=>by
     obtain⟨k',rfl,hk'⟩:=deep q q2 hqk h2 hd
     obtain⟨G,rfl⟩:∃ g,G=g+1:=⟨G - 1,by omega⟩
     exact(ih k' q2 rfl h2 hk' F G f (by omega) (by omega) (by omega)).1) (vr G 7 (by omega) (by omega) (by omega))
   | false=>
    simp only[Bool.not_false,Bool.false_eq_true,if_false,if_true]
    rw[ut]
    exact prim q hq hqk
  have u6:∀ q,Rok L q→(160 - q.deep).toNat≤k→SR L q (cH (aq F) q) (aL (G+2) (St L q) 6):=λq hq hqk=>by
   show SR L q _ (bD (aL (G+1)) (St L q) 6)
   rw[(Aa (aL (G+1)) (St L q)).2.2.2.2]
   unfold cH
   rw[ut]
   unfold kG
   exact rr (n:=6) (nx:=gO (aq F)) (l1:=mx [[42],[47]] [6,7] (aq F)) (l2:=λe self=>pY [[42],[47]] [6,7] e (aq F) self) hq (λ_ _ _=>rfl) (λ_ _ _ _ _ _=>rfl) (by simp) (by simp) (by intro o ho;simp at ho;omega) (by omega)
    (λq2 h2=>we h2 6 (by omega)) (λq2 h2 _ hd=>u7 fu (by unfold fu;omega) q2 h2 (by rw[hd];exact hqk)) (vr (G+1) 7 (by omega) (by omega) (by omega))
  have u5:∀ q,Rok L q→(160 - q.deep).toNat≤k→SR L q (dO (aq F) q) (aL (G+3) (St L q) 5):=λq hq hqk=>by
   show SR L q _ (bD (aL (G+2)) (St L q) 5)
   rw[(Aa (aL (G+2)) (St L q)).2.2.2.1]
   unfold dO
   rw[ut]
   unfold kH
   exact rr (n:=5) (nx:=cH (aq F)) (l1:=my [[43],[45]] [4,5] (aq F)) (l2:=λe self=>pZ [[43],[45]] [4,5] e (aq F) self) hq (λ_ _ _=>rfl) (λ_ _ _ _ _ _=>rfl) (by simp) (by simp) (by intro o ho;simp at ho;omega) (by omega)
    (λq2 h2=>we h2 5 (by omega)) (λq2 h2 _ hd=>u6 q2 h2 (by rw[hd];exact hqk)) (vr (G+2) 6 (by omega) (by omega) (by omega))
  have u4:∀ q,Rok L q→(160 - q.deep).toNat≤k→SR L q (iO (aq F) q [[60],[60,61],[61,61]] [13,14,15]) (aL (G+4) (St L q) 4):=λq hq hqk=>by
   show SR L q _ (bD (aL (G+3)) (St L q) 4)
   rw[(Aa (aL (G+3)) (St L q)).2.2.1]
   unfold iO
   exact rr (n:=4) (nx:=dO (aq F)) (l1:=mz [[60],[60,61],[61,61]] [13,14,15] (aq F)) (l2:=λe self=>qb [[60],[60,61],[61,61]] [13,14,15] e (aq F) self) hq (λ_ _ _=>rfl) (λ_ _ _ _ _ _=>rfl) (by simp) (by simp) (by intro o ho;simp at ho;omega) (by omega)
    (λq2 h2=>we h2 4 (by omega)) (λq2 h2 _ hd=>u5 q2 h2 (by rw[hd];exact hqk)) (vr (G+3) 5 (by omega) (by omega) (by omega))
  have u3:∀ f,k<f→∀ q,Rok L q→(160 - q.deep).toNat≤k→SR L q (cA (aq F) f q) (aL (G+5) (St L q) 3):=λf hf q hq hqk=>by
   obtain⟨f,rfl⟩:∃ g,f=g+1:=⟨f - 1,by omega⟩
   show SR L q (gP (aq F) (cA (aq F) f) q) (bD (aL (G+4)) (St L q) 3)
   rw[Hf]
   unfold gP
   rw[uN hq,gX hq [33],Option.bind_some,Option.bind_some]
   cases c:jd q 3 [33]with
   | true=>
    simp only[Bool.not_true,Bool.false_eq_true,if_false,if_true]
    exact Gl (recs_:=cA (aq F) f) hq (hq.is_lt c) (by omega) (λq2 h2 _ hd=>by
     obtain⟨k',rfl,hk'⟩:=deep q q2 hqk h2 hd
     obtain⟨G,rfl⟩:∃ g,G=g+1:=⟨G - 1,by omega⟩
     exact(ih k' q2 rfl h2 hk' F G f (by omega) (by omega) (by omega)).2.1) (vr (G+4) 3 (by omega) (by omega) (by omega))
   | false=>
    simp only[Bool.not_false,Bool.false_eq_true,if_false,if_true]
    rw[ut]
    exact Fw (u4 q hq hqk)
  have u2:∀ q,Rok L q→(160 - q.deep).toNat≤k→SR L q (dP (aq F) q) (aL (G+6) (St L q) 2):=λq hq hqk=>by
   show SR L q _ (bD (aL (G+5)) (St L q) 2)
   rw[(Aa (aL (G+5)) (St L q)).2.1]
   unfold dP
   rw[ut]
   unfold kI
   exact rr (n:=2) (nx:=iB (aq F)) (l1:=mA [[38]] [16] (aq F)) (l2:=λe self=>qc [[38]] [16] e (aq F) self) hq (λ_ _ _=>rfl) (λ_ _ _ _ _ _=>rfl) (by simp) (by simp) (by intro o ho;simp at ho;omega) (by omega)
    (λq2 h2=>we h2 2 (by omega)) (λq2 h2 _ hd=>u3 fu (by unfold fu;omega) q2 h2 (by rw[hd];exact hqk)) (vr (G+5) 3 (by omega) (by omega) (by omega))
  have u1:∀ q,Rok L q→(160 - q.deep).toNat≤k→SR L q (aq (F+1) q) (aL (G+7) (St L q) 1):=λq hq hqk=>by
   show SR L q (ic (aq F) q) (bD (aL (G+6)) (St L q) 1)
   rw[(Aa (aL (G+6)) (St L q)).1]
   unfold ic
   rw[ut]
   unfold kZ
   exact rr (n:=1) (nx:=dP (aq F)) (l1:=mO [[124]] [17] (aq F)) (l2:=λe self=>qj [[124]] [17] e (aq F) self) hq (λ_ _ _=>rfl) (λ_ _ _ _ _ _=>rfl) (by simp) (by simp) (by intro o ho;simp at ho;omega) (by omega)
    (λq2 h2=>we h2 1 (by omega)) (λq2 h2 _ hd=>u2 q2 h2 (by rw[hd];exact hqk)) (vr (G+6) 2 (by omega) (by omega) (by omega))
  exact⟨u7 f hf r h hk,u3 f hf r h hk,u1 r h hk⟩
 intro k
 induction k with
 | zero=>exact main 0 (λk' r h=>by omega)
 | succ k ih=>
  intro r h hk F G f h3 h4 h5 h6
  refine main (k+1) (λk' r e h1 h2 F G f a b c=>?_) r h hk F G f h3 h4 h5 h6
  obtain rfl:k'=k:=by omega
  exact ih r h1 h2 F G f a b c (by omega)
theorem Jw {r:PR} (h:Rok L r):SR L r (ky r) (po (St L r) 1):=by
 have hd:=h.d0
 have k:=(Kf 160 r h (by omega) (fu - 1) (fu - 7) 161 (by unfold fu;omega) (by unfold fu;omega) (by omega) (by omega)).2.2
 rw[show fu - 1+1=fu by unfold fu;omega,show fu - 7+7=fu by unfold fu;omega]at k
 exact k
end Go.Proofs.YtmhoikfoogemnaaGreatDoor
