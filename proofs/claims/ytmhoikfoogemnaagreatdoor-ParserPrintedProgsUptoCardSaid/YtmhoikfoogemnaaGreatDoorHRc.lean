import Derived.Test.YtmhoikfoogemnaaGreatDoorHRb
namespace Go.Proofs.YtmhoikfoogemnaaGreatDoor
open Go Go.RowKit Go.Vc
set_option linter.unusedVariables false
set_option linter.unusedSimpArgs false
theorem Fo (n:Int):nS n=some (qh n):=by
  unfold nS qh
  by_cases h1:n=1<;>by_cases h2:n=2<;>by_cases h3:n=3<;>simp[h1,h2,h3]<;>omega
theorem Ms {t:bu} {o:List UInt8} (ht:pF t=true) (h2:t.Kind=2) (ho:o.length≤4):jn t o=some ([102,105,120,40]++(Lib.itoa t.Bits++([44,32]++(Lib.itoa t.Frac++([44,32]++(qh t.Round++([44,32]++(o++[41])))))))):=by
  obtain⟨q1,q2,q3,q4,q5⟩:=qN ht h2
  have b1: -2147483647≤t.Bits∧t.Bits≤2147483647:=⟨by omega,by omega⟩
  have b2: -2147483647≤t.Frac∧t.Frac≤2147483647:=⟨by omega,by omega⟩
  have l1:=lj b1
  have l2:=lj b2
  have l3:=Bd t.Round
  unfold jn
  rw[Fo,kN b1,kN b2]
  simp only[Option.bind_some]
  all_goals (iterate 8 (refine H2 (by simp only[List.length_append,List.length_cons,List.length_nil];omega) _ ?_))
  all_goals simp
theorem BM (t:bu):jB t=some (Dx t):=by
  unfold jB Dx
  rw[pY]
  cases ht:pF t
  · rfl
  · simp only[if_true,Option.bind_some,Bool.not_true,Bool.false_eq_true,if_false]
    by_cases h1:t.Kind=1
    · simp[h1]
    by_cases h3:t.Kind=3
    · simp[h3]
    have h2:t.Kind=2:=by rcases tt ht with k | k | k;exact absurd k h1;exact k;exact absurd k h3
    simp only[h1,h3,decide_false,Bool.false_eq_true,if_false]
    unfold rt
    by_cases ho:t.Over=2
    · simp only[ho,decide_true,if_true];exact Ms ht h2 (by simp)
    · simp only[ho,decide_false,Bool.false_eq_true,if_false];exact Ms ht h2 (by simp)
theorem xD {l:List aC} (hn:l.length<4611686018427387904) (h:∀ f∈l,f.L.length<4611686018427387904):lm l=some (decide (∀ f∈l,cv f)):=by
  have bad:∀ {i:Nat} {x:aC},l[i]? =some x→¬ cv x→decide (∀ f∈l,cv f)=false:=λhx ho=>decide_eq_false λh=>ho (h _ (List.mem_of_getElem? hx))
  have good:(∀ f∈l.take l.length,cv f)→decide (∀ f∈l,cv f)=true:=λh=>decide_eq_true (by rwa [List.take_length]at h)
  have nxt:∀ {i:Nat} {x:aC},l[i]? =some x→cv x→(∀ f∈l.take i,cv f)→∀ f∈l.take (i+1),cv f:=λhx ho h f hf=>by
    rw[bE hx,List.mem_append,List.mem_singleton]at hf
    rcases hf with hf | rfl
    · exact h f hf
    · exact ho
  refine ib (L:=λf (_:Unit) i=>ge l f i) (n:=l.length) hn (λi _=>∀ f∈l.take i,cv f) ?_ ?_ () (by simp)
  · intro f i _ hi hI
    obtain⟨x,hx⟩:=bY hi
    simp only[ge]
    rw[if_pos (bs hi),bn hx,Option.bind_some,(oo (h x (List.mem_of_getElem? hx))).2,Option.bind_some]
    by_cases ho:cv x
    · left;exact⟨(),nxt hx ho hI,by rw[decide_eq_true ho,if_neg (by simp),mH (by omega)]⟩
    · right;rw[decide_eq_false ho,if_pos (by simp),bad hx ho]
  · intro f _ hI
    simp only[ge]
    rw[if_neg (by simp),good hI]
theorem zg {l:List aC} (hn:l.length<4611686018427387904) (h:∀ f∈l,okR f∧f.L.length<90000000) (hl:mx (l.map mw)≤4294967296):jS l=some (dP (l.map mw)):=by
  unfold jS
  refine ib (L:=λf s i=>ep l f s i) (n:=l.length) hn (λi s=>s=dP ((l.map mw).take i)) ?_ ?_ [] rfl
  · rintro f i s hi rfl
    obtain⟨x,hx⟩:=bY hi
    have ht:(l.map mw)[i]? =some (mw x):=by rw[List.getElem?_map,hx];rfl
    obtain⟨⟨h1,h2⟩,h3⟩:=h x (List.mem_of_getElem? hx)
    have h4:=fv ((l.map mw).take i)
    have h5:=Cn ht
    left
    refine⟨_,rfl,?_⟩
    rw[bE ht,so]
    simp only[ep]
    rw[if_pos (bs hi)]
    cases i with
    | zero=>
      rw[if_neg (by simp),if_pos (by simp)]
      unfold iZ
      rw[show lat l ((0:Nat):Int)=some x from bn hx,Option.bind_some,ml h1 h2 h3,Option.bind_some]
      simp only[List.take_zero,dP]
      rw[JS (by omega),Option.bind_some];rfl
    | succ i=>
      rw[if_pos (by simp),if_neg (BR (by rw[List.length_map];exact hi)),aR (by simp only[List.length_cons,List.length_nil];omega),Option.bind_some]
      unfold iZ
      rw[bn hx,Option.bind_some,ml h1 h2 h3,Option.bind_some,aR (by simp only[List.length_append,List.length_cons,List.length_nil];omega),Option.bind_some,mH (by omega),List.append_assoc]
  · rintro f s rfl
    simp only[ep]
    rw[if_neg (by simp),show l.length=(l.map mw).length by rw[List.length_map],List.take_length]
theorem xt {x:aM} (h:smI x):mQ x=some (Cq x):=by
  obtain⟨l1,l2,l3,l4⟩:=h.lens
  obtain⟨⟨o1,_,o2⟩,_⟩:=h
  have hv:=xD (l:=x.At) (by omega) λf hf=>by have:=l3 f hf;omega
  have hf:=zg (l:=x.At) (by omega) (λf hf=>⟨(o2.1 f hf).r,by have:=l3 f hf;omega⟩) (by omega)
  have hj:=fv (x.At.map mw)
  have hL:=oo (l:=x.Lin) (by omega)
  have hR:=ml o1.r.1 o1.r.2 (by omega)
  unfold mQ Cq
  rw[hL.2]
  by_cases ho:cv x.Lin
  rotate_left
  · simp[ho,gd]
  simp only[if_pos ho,decide_eq_true ho,Option.bind_some,decide_true,Bool.not_true,Bool.not_false,gd,if_true,hv]
  by_cases hA:∀ f∈x.At,cv f
  rotate_left
  · simp[hA]
  simp only[decide_eq_true hA,Bool.not_true,Bool.or_self,Bool.false_eq_true,if_false,if_pos (And.intro ho hA)]
  by_cases h0:x.From=[]
  · by_cases h1:x.At=[]
    · simp[h0,h1,hR,mw,ho]
    · have:0<(x.At.length:Int):=by have:=List.length_pos_iff.2 h1;omega
      simp[h0,h1]
  · simp only[h0,decide_false,Bool.false_and,Bool.false_eq_true,if_false,fh,Option.bind_some]
    by_cases hc:bw x.From=true∧x.Lin.K=0∧x.Lin.L=[]
    · obtain⟨c1,c2,c3⟩:=hc
      have h16:=(oD c1).2
      simp only[c1,c2,c3,and_self,decide_true,Bool.not_true,Bool.or_self,Bool.false_eq_true,if_false,if_true,List.length_nil,Int.natCast_zero,show ¬ ((0:Int)<0)by decide,decide_false,hf]
      rw[aR (by simp only[List.length_cons,List.length_nil];omega),Option.bind_some,Option.bind_some,aR (by simp only[List.length_append,List.length_cons,List.length_nil];omega),Option.bind_some,aR (by simp only[List.length_append,List.length_cons,List.length_nil];omega)]
      simp
    · rw[if_neg hc]
      have:((!bw x.From|| !decide (x.Lin.K=0))||decide (0<(x.Lin.L.length:Int)))=true:=by
        by_cases c1:bw x.From=true
        · by_cases c2:x.Lin.K=0
          · have c3:x.Lin.L≠[]:=λc3=>hc ⟨c1,c2,c3⟩
            have:=List.length_pos_iff.2 c3
            simp;omega
          · simp[c2]
        · simp[c1]
      rw[this];rfl
theorem GS (op:Int):iU op=some (kH op):=by
  have h:iU op=some (kH op):=by
    unfold iU i6 kb ka kH
    by_cases h17:op=17
    · simp[h17]
    by_cases h16:op=16
    · simp[h16]
    by_cases h18:op=18
    · simp[h18]
    by_cases h13:op=13
    · simp[h13]
    by_cases h14:op=14
    · simp[h14]
    by_cases h15:op=15
    · simp[h15]
    by_cases h4:op=4
    · simp[h4]
    by_cases h5:op=5
    · simp[h5]
    by_cases h6:op=6
    · simp[h6]
    by_cases h7:op=7
    · simp[h7]
    by_cases h8:op=8
    · simp[h8]
    simp[h17,h16,h18,h13,h14,h15,h4,h5,h6,h7,h8]
  exact h
def HD (t:bu) (v:co):List UInt8:=if pF t&&wJ t v then qH (Hi t v)else[]
theorem Gw (t:bu) {v:co} (hv:VaR v):l5 t v=some (HD t v)∧(HD t v).length≤30:=by
  unfold l5 HD
  rw[D8 hv]
  cases ht:pF t
  · exact⟨rfl,by simp⟩
  cases ho:wJ t v
  · exact⟨rfl,by simp⟩
  obtain⟨h1,h2,_⟩:=FT ht ho
  have:=Hn h2
  refine⟨?_,by simpa using this⟩
  simp[h1,vX (Qx h2)]
theorem K0 {t:bu} {v:co} (ht:pF t=true) (ho:wJ t v=true):HD t v=qH (Hi t v):=by
  unfold HD;rw[ht,ho];rfl
def Pw (e:ae) (ts:List (List UInt8)):List UInt8:=
  if e.Op=1 then Dx e.Type_++([40]++(HD e.Type_ e.Val++[41]))
  else if e.Op=2 then[91]++(mw e.Lin++[93])
  else if e.Op=3 then e.Name++([91]++(dP (e.Idx.map Cq)++[93]))
  else if e.Op=8 then[45]++opd (e.Args.getD 0 default) (ts.getD 0 []) 7
  else if e.Op=18 then[33]++opd (e.Args.getD 0 default) (ts.getD 0 []) 3
  else if e.Op=9 then[109,105,110]++([40]++(dP ts++[41]))
  else if e.Op=10 then[109,97,120]++([40]++(dP ts++[41]))
  else if e.Op=11 then[105,102]++([40]++(dP ts++[41]))
  else if e.Op=12 then[99,97,115,116]++([40]++(dP (Dx e.Type_::ts)++[41]))
  else opd (e.Args.getD 0 default) (ts.getD 0 []) (kH e.Op)++(([32]++(mE e.Op++[32]))++opd (e.Args.getD 1 default) (ts.getD 1 []) (kH e.Op+1))
def sY:ae→List UInt8
  | ⟨op,nm,v,t,l,ix,args⟩=>Pw ⟨op,nm,v,t,l,ix,args⟩ (go args)
  where go:List ae→List (List UInt8)
    | []=>[]
    | x::xs=>sY x::go xs
theorem J8:∀ (l:List ae),sY.go l=l.map sY
  | []=>rfl
  | x::l=>by rw[sY.go,J8 l,List.map_cons]
theorem CB (e:ae):sY e=Pw e (e.Args.map sY):=by cases e;rw[sY,J8]
theorem HZ {l:List ae} (h:∀ a∈l,(sY a).length≤100 * wE a):mx (l.map sY)≤100 * (l.map wE).sum+2 * l.length:=by
  unfold mx
  rw[List.map_map, ← oP]
  exact lK λa ha=>by have:=h a ha;simp only[Function.comp];omega
theorem J2 (l:List ae) (i:Nat) (h:i<l.length):(l.map sY).getD i []=sY (l.getD i default)∧l.getD i default∈l:=by
  rw[List.getD_eq_getElem?_getD,List.getD_eq_getElem?_getD,List.getElem?_map,List.getElem?_eq_getElem h]
  exact⟨rfl,List.getElem_mem h⟩
theorem yp:∀ (k:Nat) (e:ae),wE e<k→okGExpr e→ov e=0→(sY e).length≤100 * wE e
  | 0,_,h,_,_=>absurd h (by omega)
  | k+1,e,hk,ho,he=>by
    obtain⟨hn,ha⟩:=pX he
    obtain⟨p1,p2,p3,p4,p5⟩:=pI hn
    obtain⟨o1,o2,o3⟩:=ho.out
    have hv:=(Gw e.Type_ (VaR.of (nC.1 ho).2.2.1)).2
    have ht:=uh e.Type_
    have hl:=pg o1.r
    have hargs:∀ a∈e.Args,(sY a).length≤100 * wE a:=λa hm=>yp k a (by have:=jN hm;omega) (o3.1 a hm) (ha a hm)
    have hjj:=HZ hargs
    have hj:=fv (e.Args.map sY)
    have hj2:=fv (Dx e.Type_::e.Args.map sY)
    have hj3:mx (Dx e.Type_::e.Args.map sY)=(Dx e.Type_).length+2+mx (e.Args.map sY):=by unfold mx;rw[List.map_cons,List.sum_cons]
    have hx:=fv (e.Idx.map Cq)
    have hxx:mx (e.Idx.map Cq)≤60 * (e.Idx.map wI).sum+62 * e.Idx.length:=by
      unfold mx
      rw[List.map_map, ← oP]
      exact lK λx hx=>by have:=Ej (o2.1 x hx);simp only[Function.comp];omega
    have hal:e.Args.length≤3:=by
      unfold sW at p3
      simp only[Bool.and_eq_true,decide_eq_true_eq]at p3
      have:=p3.1.1;unfold nr at this
      split at this
      · omega
      · split at this
        · omega
        · split at this<;>omega
    have hnm:e.Op=3→e.Name.length≤16:=λh3=>by
      unfold pt at p2
      simp only[h3,decide_true,Bool.not_true,Bool.false_or,Bool.and_eq_true]at p2
      exact(oD p2.1).2
    have hop:∀ (i:Nat) (c:Int),i<e.Args.length→(opd (e.Args.getD i default) ((e.Args.map sY).getD i []) c).length≤100 * wE (e.Args.getD i default)+2:=λi c hi=>by
      obtain⟨q1,q2⟩:=J2 e.Args i hi
      have:=we (e.Args.getD i default) ((e.Args.map sY).getD i []) c
      rw[q1]at this ⊢
      have:=hargs _ q2
      omega
    have hsy:=DN e.Op
    rw[CB,vH]
    have hlen:(e.Args.length:Int)=nr e.Op:=by
      unfold sW at p3
      simp only[Bool.and_eq_true,decide_eq_true_eq]at p3
      exact p3.1.1
    unfold Pw
    by_cases h1:e.Op=1
    · rw[if_pos h1];simp only[List.length_append,List.length_cons,List.length_nil];omega
    rw[if_neg h1]
    by_cases h2:e.Op=2
    · rw[if_pos h2];simp only[List.length_append,List.length_cons,List.length_nil];omega
    rw[if_neg h2]
    by_cases h3:e.Op=3
    · rw[if_pos h3];have:=hnm h3;simp only[List.length_append,List.length_cons,List.length_nil];omega
    rw[if_neg h3]
    by_cases h8:e.Op=8
    · rw[if_pos h8]
      have hl1:e.Args.length=1:=by rw[h8]at hlen;have:nr 8=1:=rfl;omega
      have:=hop 0 7 (by omega)
      obtain⟨a,ha1⟩:=List.length_eq_one_iff.1 hl1
      rw[ha1]at this ⊢
      simp at this ⊢;omega
    rw[if_neg h8]
    by_cases h18:e.Op=18
    · rw[if_pos h18]
      have hl1:e.Args.length=1:=by rw[h18]at hlen;have:nr 18=1:=rfl;omega
      have:=hop 0 3 (by omega)
      obtain⟨a,ha1⟩:=List.length_eq_one_iff.1 hl1
      rw[ha1]at this ⊢
      simp at this ⊢;omega
    rw[if_neg h18]
    by_cases h9:e.Op=9
    · rw[if_pos h9];simp only[List.length_append,List.length_cons,List.length_nil];omega
    rw[if_neg h9]
    by_cases h10:e.Op=10
    · rw[if_pos h10];simp only[List.length_append,List.length_cons,List.length_nil];omega
    rw[if_neg h10]
    by_cases h11:e.Op=11
    · rw[if_pos h11];simp only[List.length_append,List.length_cons,List.length_nil];omega
    rw[if_neg h11]
    by_cases h12:e.Op=12
    · rw[if_pos h12];simp only[List.length_append,List.length_cons,List.length_nil];omega
    rw[if_neg h12]
    have hl2:e.Args.length=2:=by
      unfold nr at hlen
      rw[if_neg (by simp[h1,h2,h3]),if_neg (by simp[h8,h12,h18]),if_neg h11]at hlen;omega
    have q0:=hop 0 (kH e.Op) (by omega)
    have q1:=hop 1 (kH e.Op+1) (by omega)
    obtain⟨a,b,ha1⟩:=H0 hl2
    rw[ha1]at q0 q1 ⊢
    simp at q0 q1 ⊢;omega
theorem um {rc:ae→Option (List UInt8)} {a:ae} (ph:Int) (h:rc a=some (sY a)) (hl:(sY a).length≤100 * wE a) (hw:wE a≤300):gI rc a ph=some (opd a (sY a) ph):=by
  unfold gI opd
  rw[GS _,Option.bind_some,h]
  by_cases hc:kH a.Op<ph
  · rw[if_pos (by simpa using hc),if_pos hc,Option.bind_some,aR (by simp only[List.length_cons,List.length_nil];omega),Option.bind_some,aR (by simp only[List.length_append,List.length_cons,List.length_nil];omega),Option.bind_some]
    simp
  · rw[if_neg (by simpa using hc),if_neg hc];rfl
theorem K8 {e:ae} {s0:List UInt8} (hi:∀ x∈e.Idx,smI x) (hn:e.Idx.length≤300) (hl:mx (e.Idx.map Cq)≤3000000) (hs:s0.length≤100):ef e fu s0 0=some (s0++(dP (e.Idx.map Cq)++[93])):=by
  refine ib (L:=λf s i=>ef e f s i) (n:=e.Idx.length) (by omega) (λi s=>s=s0++dP ((e.Idx.map Cq).take i)) ?_ ?_ _ (by simp[dP])
  · rintro f i s h rfl
    obtain⟨x,hx⟩:=bY h
    have ht:(e.Idx.map Cq)[i]? =some (Cq x):=by rw[List.getElem?_map,hx];rfl
    have h1:=fv ((e.Idx.map Cq).take i)
    have h2:=Cn ht
    have hsm:=hi x (List.mem_of_getElem? hx)
    left
    refine⟨_,rfl,?_⟩
    rw[bE ht,so]
    simp only[ef]
    rw[if_pos (bs h)]
    cases i with
    | zero=>
      rw[if_neg (by simp),if_pos (by simp)]
      unfold jm
      rw[show lat e.Idx ((0:Nat):Int)=some x from bn hx,Option.bind_some,xt hsm,Option.bind_some]
      simp only[List.take_zero,dP,List.append_nil]
      rw[aR (by omega),Option.bind_some];rfl
    | succ i=>
      rw[if_pos (by simp),if_neg (BR (by rw[List.length_map];exact h)),aR (by simp only[List.length_append,List.length_cons,List.length_nil];omega),Option.bind_some]
      unfold jm
      rw[bn hx,Option.bind_some,xt hsm,Option.bind_some,aR (by simp only[List.length_append,List.length_cons,List.length_nil];omega),Option.bind_some,mH (by omega)]
      simp only[List.append_assoc]
  · rintro f s rfl
    have h1:=fv (e.Idx.map Cq)
    simp only[ef]
    rw[if_neg (by simp),show e.Idx.length=(e.Idx.map Cq).length by rw[List.length_map],List.take_length,aR (by simp only[List.length_append,List.length_cons,List.length_nil];omega),Option.bind_some]
    simp
set_option maxHeartbeats 1000000 in
theorem K7 {f:Nat} :∀ {e:ae},okGExpr e→ov e=0→wE e≤300→wE e<f→
    j7 f e=some (sY e):=by
  induction f with
  | zero=>intro e _ _ _ h;omega
  | succ f ih=>
    intro e ho he h300 hf
    obtain⟨hn,hz⟩:=pX he
    obtain⟨p1,p2,p3,p4,p5⟩:=pI hn
    obtain⟨o1,o2,o3⟩:=ho.out
    obtain⟨hv2,hv3⟩:=Gw e.Type_ (VaR.of (nC.1 ho).2.2.1)
    have hwe:=vH e
    have ht:=uh e.Type_
    have hLn:=pg o1.r
    have hrec:∀ a∈e.Args,j7 f a=some (sY a)∧(sY a).length≤100 * wE a∧wE a≤300:=λa hm=>by
      have:=jN hm
      have q2:=ih (o3.1 a hm) (hz a hm) (by omega) (by omega)
      exact⟨q2,yp (wE a+1) a (by omega) (o3.1 a hm) (hz a hm),by omega⟩
    have hT:=BM e.Type_
    have hR:=ml o1.r.1 o1.r.2 (by omega)
    have hlen:(e.Args.length:Int)=nr e.Op:=by
      unfold sW at p3
      simp only[Bool.and_eq_true,decide_eq_true_eq]at p3
      exact p3.1.1
    have hal:e.Args.length≤3:=by
      unfold nr at hlen
      split at hlen
      · omega
      · split at hlen
        · omega
        · split at hlen<;>omega
    have hop:1≤e.Op∧e.Op≤18:=by
      unfold qc at p1
      simp only[Bool.and_eq_true,decide_eq_true_eq]at p1
      exact⟨p1.1.1.1.1.1.1,p1.1.1.1.1.1.2⟩
    have hlv:=GS e.Op
    show lQ (j7 f) e=some (sY e)
    unfold lQ
    rw[hlv,Li,CB]
    simp only[Option.bind_some]
    unfold Pw
    have hsn:∀ n:Int,e.Op=n→mE n=[]→mE e.Op=[]:=λn h1 h2=>by rw[h1];exact h2
    have hidx:60 * (e.Idx.map wI).sum+62 * e.Idx.length≥mx (e.Idx.map Cq):=by
      unfold mx
      rw[List.map_map, ← oP]
      exact lK λx hx=>by have:=Ej (o2.1 x hx);simp only[Function.comp];omega
    have hsmI:∀ x∈e.Idx,smI x:=λx hx=>⟨o2.1 x hx,by have:=us (List.mem_map_of_mem (f:=wI) hx);omega⟩
    by_cases h1:e.Op=1
    · have hs:mE e.Op=[]:=by rw[h1];rfl
      rw[hs]
      simp only[h1,decide_true,if_true,hT,hv2,Option.bind_some,Bool.not_true,Bool.false_eq_true,if_false]
      rw[aR (by simp only[List.length_cons,List.length_nil];omega),Option.bind_some,aR (by simp only[List.length_append,List.length_cons,List.length_nil];omega),Option.bind_some,aR (by simp only[List.length_append,List.length_cons,List.length_nil];omega),Option.bind_some]
      simp
    simp only[h1,decide_false,Bool.false_eq_true,if_false]
    by_cases h2:e.Op=2
    · have hs:mE e.Op=[]:=by rw[h2];rfl
      rw[hs]
      simp only[h2,decide_true,if_true,hR,Option.bind_some,Bool.not_true,Bool.false_eq_true,if_false]
      rw[aR (by simp only[List.length_cons,List.length_nil];omega),Option.bind_some,aR (by simp only[List.length_append,List.length_cons,List.length_nil];omega),Option.bind_some]
      simp
    simp only[h2,decide_false,Bool.false_eq_true,if_false]
    by_cases h3:e.Op=3
    · have hs:mE e.Op=[]:=by rw[h3];rfl
      have hnm:e.Name.length≤16:=by
        unfold pt at p2
        simp only[h3,decide_true,Bool.not_true,Bool.false_or,Bool.and_eq_true]at p2
        exact(oD p2.1).2
      have hjx:=fv (e.Idx.map Cq)
      rw[hs]
      simp only[h3,decide_true,if_true,Bool.not_true,Bool.false_eq_true,if_false]
      simp(disch:=(simp only[List.length_append,List.length_cons,List.length_nil];omega)) only[aR,Option.bind_some]
      rw[K8 hsmI (by omega) (by omega) (by simp only[List.length_append,List.length_cons,List.length_nil];omega)]
      simp
    simp only[h3,decide_false,Bool.false_eq_true,if_false]
    by_cases h8:e.Op=8
    · have hs:mE e.Op=[]:=by rw[h8];rfl
      have hl1:e.Args.length=1:=by rw[h8]at hlen;have:nr 8=1:=rfl;omega
      obtain⟨a,ha⟩:=List.length_eq_one_iff.1 hl1
      obtain⟨q2,q3,q4⟩:=hrec a (by rw[ha];simp)
      have hwa:=jN (e:=e) (a:=a) (by rw[ha];simp)
      have hol:=we a (sY a) 7
      have hlv8:kH 8=7:=rfl
      rw[hs,ha]
      simp only[h8,hlv8,decide_true,if_true,Bool.not_true,Bool.false_eq_true,if_false,show lat [a] 0=some a from rfl,Option.bind_some]
      rw[um 7 q2 q3 (by omega),Option.bind_some]
      simp(disch:=(simp only[List.length_append,List.length_cons,List.length_nil];omega)) only[aR,Option.bind_some]
      simp
    simp only[h8,decide_false,Bool.false_eq_true,if_false]
    by_cases h18:e.Op=18
    · have hs:mE e.Op=[]:=by rw[h18];rfl
      have hl1:e.Args.length=1:=by rw[h18]at hlen;have:nr 18=1:=rfl;omega
      obtain⟨a,ha⟩:=List.length_eq_one_iff.1 hl1
      obtain⟨q2,q3,q4⟩:=hrec a (by rw[ha];simp)
      have hwa:=jN (e:=e) (a:=a) (by rw[ha];simp)
      have hol:=we a (sY a) 3
      have hlv8:kH 18=3:=rfl
      rw[hs,ha]
      simp only[h18,hlv8,decide_true,if_true,Bool.not_true,Bool.false_eq_true,if_false,show lat [a] 0=some a from rfl,Option.bind_some]
      rw[um 3 q2 q3 (by omega),Option.bind_some]
      simp(disch:=(simp only[List.length_append,List.length_cons,List.length_nil];omega)) only[aR,Option.bind_some]
      simp
    simp only[h18,decide_false,Bool.false_eq_true,if_false]
    by_cases h9:e.Op=9
    · have hs:mE e.Op=[]:=by rw[h9];rfl
      have hl:e.Args.length=2:=by rw[h9]at hlen;have:nr 9=2:=rfl;omega
      rw[hs]
      simp only[h9,decide_true,if_true,Bool.not_true,Bool.false_eq_true,if_false]
      obtain⟨a,b,ha⟩:=H0 hl
      obtain⟨q0,l0,m0⟩:=hrec a (by rw[ha];simp)
      obtain⟨q1,l1,m1⟩:=hrec b (by rw[ha];simp)
      rw[ha]
      simp only[show lat [a,b] 0=some a from rfl,show lat [a,b] 1=some b from rfl,Option.bind_some]
      rw[q0,Option.bind_some]
      simp(disch:=(simp only[List.length_append,List.length_cons,List.length_nil];omega)) only[aR,Option.bind_some]
      rw[q1,Option.bind_some]
      simp(disch:=(simp only[List.length_append,List.length_cons,List.length_nil];omega)) only[aR,Option.bind_some]
      simp[dP]
    simp only[h9,decide_false,Bool.false_eq_true,if_false]
    by_cases h10:e.Op=10
    · have hs:mE e.Op=[]:=by rw[h10];rfl
      have hl:e.Args.length=2:=by rw[h10]at hlen;have:nr 10=2:=rfl;omega
      rw[hs]
      simp only[h10,decide_true,if_true,Bool.not_true,Bool.false_eq_true,if_false]
      obtain⟨a,b,ha⟩:=H0 hl
      obtain⟨q0,l0,m0⟩:=hrec a (by rw[ha];simp)
      obtain⟨q1,l1,m1⟩:=hrec b (by rw[ha];simp)
      rw[ha]
      simp only[show lat [a,b] 0=some a from rfl,show lat [a,b] 1=some b from rfl,Option.bind_some]
      rw[q0,Option.bind_some]
      simp(disch:=(simp only[List.length_append,List.length_cons,List.length_nil];omega)) only[aR,Option.bind_some]
      rw[q1,Option.bind_some]
      simp(disch:=(simp only[List.length_append,List.length_cons,List.length_nil];omega)) only[aR,Option.bind_some]
      simp[dP]
    simp only[h10,decide_false,Bool.false_eq_true,if_false]
    by_cases h11:e.Op=11
    · have hs:mE e.Op=[]:=by rw[h11];rfl
      have hl:e.Args.length=3:=by rw[h11]at hlen;have:nr 11=3:=rfl;omega
      rw[hs]
      simp only[h11,decide_true,if_true,Bool.not_true,Bool.false_eq_true,if_false]
      obtain⟨a,b,c,ha⟩:=len3 hl
      obtain⟨q0,l0,m0⟩:=hrec a (by rw[ha];simp)
      obtain⟨q1,l1,m1⟩:=hrec b (by rw[ha];simp)
      obtain⟨q2,l2,m2⟩:=hrec c (by rw[ha];simp)
      rw[ha]
      simp only[show lat [a,b,c] 0=some a from rfl,show lat [a,b,c] 1=some b from rfl,show lat [a,b,c] 2=some c from rfl,Option.bind_some]
      rw[q0,Option.bind_some]
      simp(disch:=(simp only[List.length_append,List.length_cons,List.length_nil];omega)) only[aR,Option.bind_some]
      rw[q1,Option.bind_some]
      simp(disch:=(simp only[List.length_append,List.length_cons,List.length_nil];omega)) only[aR,Option.bind_some]
      rw[q2,Option.bind_some]
      simp(disch:=(simp only[List.length_append,List.length_cons,List.length_nil];omega)) only[aR,Option.bind_some]
      simp[dP]
    simp only[h11,decide_false,Bool.false_eq_true,if_false]
    by_cases h12:e.Op=12
    · have hs:mE e.Op=[]:=by rw[h12];rfl
      have hl:e.Args.length=1:=by rw[h12]at hlen;have:nr 12=1:=rfl;omega
      have htn:Dx e.Type_≠[]:=by
        unfold tr at p4
        rw[Bool.and_eq_true]at p4
        have hty:pF e.Type_=true:=by simpa[h12]using p4.1
        unfold Dx
        rw[if_pos hty]
        repeat' split
        all_goals simp
      rw[hs]
      simp only[h12,decide_true,if_true,Bool.not_true,Bool.false_eq_true,if_false,Option.bind_some,if_neg htn]
      obtain⟨a,ha⟩:=List.length_eq_one_iff.1 hl
      obtain⟨q0,l0,m0⟩:=hrec a (by rw[ha];simp)
      unfold m9
      rw[ha]
      simp only[show lat [a] 0=some a from rfl,Option.bind_some,hT]
      simp(disch:=(simp only[List.length_append,List.length_cons,List.length_nil];omega)) only[aR,Option.bind_some]
      rw[q0,Option.bind_some]
      simp(disch:=(simp only[List.length_append,List.length_cons,List.length_nil];omega)) only[aR,Option.bind_some]
      simp[dP]
    simp only[h12,decide_false,Bool.false_eq_true,if_false]
    have hs:mE e.Op≠[]:=by
      unfold mE
      repeat' split
      all_goals first | simp | skip
      exfalso;omega
    have hl2:e.Args.length=2:=by
      unfold nr at hlen
      rw[if_neg (by simp[h1,h2,h3]),if_neg (by simp[h8,h12,h18]),if_neg h11]at hlen;omega
    obtain⟨a,b,ha⟩:=H0 hl2
    obtain⟨q2,q3,q4⟩:=hrec a (by rw[ha];simp)
    obtain⟨t2,t3,t4⟩:=hrec b (by rw[ha];simp)
    have hsl:=DN e.Op
    have hwa:wE e≥1+wE a+wE b:=by rw[hwe,ha,List.map_cons,List.map_cons,List.sum_cons,List.sum_cons];omega
    have hlb:1≤kH e.Op∧kH e.Op≤8:=by unfold kH;repeat' split
                                     all_goals omega
    have ho1:=we a (sY a) (kH e.Op)
    have ho2:=we b (sY b) (kH e.Op+1)
    rw[ha,if_neg hs]
    simp only[show lat [a,b] 0=some a from rfl,show lat [a,b] 1=some b from rfl,Option.bind_some,show av (kH e.Op+1)=kH e.Op+1 from yv ⟨by omega,by omega⟩]
    rw[if_pos (by simp),um (kH e.Op) q2 q3 (by omega),Option.bind_some]
    simp(disch:=(simp only[List.length_append,List.length_cons,List.length_nil];omega)) only[aR,Option.bind_some]
    rw[um (kH e.Op+1) t2 t3 (by omega),Option.bind_some]
    simp(disch:=(simp only[List.length_append,List.length_cons,List.length_nil];omega)) only[aR,Option.bind_some]
    simp
theorem J5 {e:ae} (ho:okGExpr e) (h300:wE e≤300):nU e=some (if vE e=0 then sY e else[]):=by
  obtain⟨v1,v2⟩:=xl ho h300
  unfold nU
  rw[v2,Option.bind_some]
  by_cases hv:vE e=0
  · have q2:=K7 (f:=fu) ho (ug hv) h300 (by unfold fu;omega)
    simp only[hv,decide_true,Bool.not_true,Bool.false_eq_true,if_false,if_true]
    unfold sb
    rw[q2];rfl
  · simp[hv]
end Go.Proofs.YtmhoikfoogemnaaGreatDoor
