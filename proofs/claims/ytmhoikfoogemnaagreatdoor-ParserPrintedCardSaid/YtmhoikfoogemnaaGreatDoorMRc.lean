import Derived.Test.YtmhoikfoogemnaaGreatDoorMRb
namespace Go.Proofs.YtmhoikfoogemnaaGreatDoor
open Go Go.RowKit Go.Vc
set_option linter.unusedVariables false
set_option linter.unusedSimpArgs false
theorem Bm (n:Int):l8 n=some (nM n):=by
  unfold l8 nM
  by_cases h1:n=1<;>by_cases h2:n=2<;>by_cases h3:n=3<;>simp[h1,h2,h3]<;>omega
theorem Hy {t:aM} {o:List UInt8} (ht:ol t=true) (h2:t.Kind=2) (ho:o.length≤4):iF t o=some ([102,105,120,40]++(Lib.itoa t.Bits++([44,32]++(Lib.itoa t.Frac++([44,32]++(nM t.Round++([44,32]++(o++[41])))))))):=by
  obtain⟨q1,q2,q3,q4,q5⟩:=ou ht h2
  have b1: -2147483647≤t.Bits∧t.Bits≤2147483647:=⟨by omega,by omega⟩
  have b2: -2147483647≤t.Frac∧t.Frac≤2147483647:=⟨by omega,by omega⟩
  have l1:=j0 b1
  have l2:=j0 b2
  have l3:=xL t.Round
  unfold iF
  rw[Bm,jJ b1,jJ b2]
  simp only[Option.bind_some]
  all_goals (iterate 8 (refine DL (by simp only[List.length_append,List.length_cons,List.length_nil];omega) _ ?_))
  all_goals simp
theorem Gp (t:aM):kT t=some (Cu t):=by
  unfold kT Cu
  rw[tM]
  cases ht:ol t
  · rfl
  · simp only[if_true,Option.bind_some,Bool.not_true,Bool.false_eq_true,if_false]
    by_cases h1:t.Kind=1
    · simp[h1]
    by_cases h3:t.Kind=3
    · simp[h3]
    have h2:t.Kind=2:=by rcases qk ht with k | k | k;exact absurd k h1;exact k;exact absurd k h3
    simp only[h1,h3,decide_false,Bool.false_eq_true,if_false]
    unfold o4
    by_cases ho:t.Over=2
    · simp only[ho,decide_true,if_true];exact Hy ht h2 (by simp)
    · simp only[ho,decide_false,Bool.false_eq_true,if_false];exact Hy ht h2 (by simp)
theorem Ay {l:List ay} (hn:l.length<4611686018427387904) (h:∀ f∈l,f.L.length<4611686018427387904):mR l=some (decide (∀ f∈l,d8 f)):=by
  have bad:∀ {i:Nat} {x:ay},l[i]? =some x→¬ d8 x→decide (∀ f∈l,d8 f)=false:=fun hx ho=>decide_eq_false fun h=>ho (h _ (List.mem_of_getElem? hx))
  have good:(∀ f∈l.take l.length,d8 f)→decide (∀ f∈l,d8 f)=true:=fun h=>decide_eq_true (by rwa [List.take_length]at h)
  have nxt:∀ {i:Nat} {x:ay},l[i]? =some x→d8 x→(∀ f∈l.take i,d8 f)→∀ f∈l.take (i+1),d8 f:=fun hx ho h f hf=>by
    rw[bT hx,List.mem_append,List.mem_singleton]at hf
    rcases hf with hf | rfl
    · exact h f hf
    · exact ho
  refine i7 (L:=fun f (_:Unit) i=>fa l f i) (n:=l.length) hn (fun i _=>∀ f∈l.take i,d8 f) ?_ ?_ () (by simp)
  · intro f i _ hi hI
    obtain⟨x,hx⟩:=bZ hi
    simp only[fa]
    rw[if_pos (bX hi),bS hx,Option.bind_some,(pK (h x (List.mem_of_getElem? hx))).2,Option.bind_some]
    by_cases ho:d8 x
    · left;exact⟨(),nxt hx ho hI,by rw[decide_eq_true ho,if_neg (by simp),ni (by omega)]⟩
    · right;rw[decide_eq_false ho,if_pos (by simp),bad hx ho]
  · intro f _ hI
    simp only[fa]
    rw[if_neg (by simp),good hI]
theorem BP {l:List ay} (hn:l.length<4611686018427387904) (h:∀ f∈l,okR f∧f.L.length<90000000) (hl:mL (l.map nP)≤4294967296):lj l=some (i8 (l.map nP)):=by
  unfold lj
  refine i7 (L:=fun f s i=>dD l f s i) (n:=l.length) hn (fun i s=>s=i8 ((l.map nP).take i)) ?_ ?_ [] rfl
  · rintro f i s hi rfl
    obtain⟨x,hx⟩:=bZ hi
    have ht:(l.map nP)[i]? =some (nP x):=by rw[List.getElem?_map,hx];rfl
    obtain⟨⟨h1,h2⟩,h3⟩:=h x (List.mem_of_getElem? hx)
    have h4:=j8 ((l.map nP).take i)
    have h5:=CZ ht
    left
    refine⟨_,rfl,?_⟩
    rw[bT ht,rG]
    simp only[dD]
    rw[if_pos (bX hi)]
    cases i with
    | zero=>
      rw[if_neg (by simp),if_pos (by simp)]
      unfold ie
      rw[show lat l ((0:Nat):Int)=some x from bS hx,Option.bind_some,nv h1 h2 h3,Option.bind_some]
      simp only[List.take_zero,i8]
      rw[Ft (by omega),Option.bind_some];rfl
    | succ i=>
      rw[if_pos (by simp),if_neg (Cy (by rw[List.length_map];exact hi)),bf (by simp only[List.length_cons,List.length_nil];omega),Option.bind_some]
      unfold ie
      rw[bS hx,Option.bind_some,nv h1 h2 h3,Option.bind_some,bf (by simp only[List.length_append,List.length_cons,List.length_nil];omega),Option.bind_some,ni (by omega),List.append_assoc]
  · rintro f s rfl
    simp only[dD]
    rw[if_neg (by simp),show l.length=(l.map nP).length by rw[List.length_map],List.take_length]
theorem tU {x:av} (h:smI x):lm x=some (yK x):=by
  obtain⟨l1,l2,l3,l4⟩:=h.lens
  obtain⟨⟨o1,_,o2⟩,_⟩:=h
  have hv:=Ay (l:=x.At) (by omega) fun f hf=>by have:=l3 f hf;omega
  have hf:=BP (l:=x.At) (by omega) (fun f hf=>⟨(o2.1 f hf).r,by have:=l3 f hf;omega⟩) (by omega)
  have hj:=j8 (x.At.map nP)
  have hL:=pK (l:=x.Lin) (by omega)
  have hR:=nv o1.r.1 o1.r.2 (by omega)
  unfold lm yK
  rw[hL.2]
  by_cases ho:d8 x.Lin
  rotate_left
  · simp[ho,gd]
  simp only[if_pos ho,decide_eq_true ho,Option.bind_some,decide_true,Bool.not_true,Bool.not_false,gd,if_true,hv]
  by_cases hA:∀ f∈x.At,d8 f
  rotate_left
  · simp[hA]
  simp only[decide_eq_true hA,Bool.not_true,Bool.or_self,Bool.false_eq_true,if_false,if_pos (And.intro ho hA)]
  by_cases h0:x.From=[]
  · by_cases h1:x.At=[]
    · simp[h0,h1,hR,nP,ho]
    · have:0<(x.At.length:Int):=by have:=List.length_pos_iff.2 h1;omega
      simp[h0,h1]
  · simp only[h0,decide_false,Bool.false_and,Bool.false_eq_true,if_false,lE,Option.bind_some]
    by_cases hc:cp x.From=true∧x.Lin.K=0∧x.Lin.L=[]
    · obtain⟨c1,c2,c3⟩:=hc
      have h16:=(mG c1).2
      simp only[c1,c2,c3,and_self,decide_true,Bool.not_true,Bool.or_self,Bool.false_eq_true,if_false,if_true,List.length_nil,Int.natCast_zero,show ¬ ((0:Int)<0)by decide,decide_false,hf]
      rw[bf (by simp only[List.length_cons,List.length_nil];omega),Option.bind_some,Option.bind_some,bf (by simp only[List.length_append,List.length_cons,List.length_nil];omega),Option.bind_some,bf (by simp only[List.length_append,List.length_cons,List.length_nil];omega)]
      simp
    · rw[if_neg hc]
      have:((!cp x.From|| !decide (x.Lin.K=0))||decide (0<(x.Lin.L.length:Int)))=true:=by
        by_cases c1:cp x.From=true
        · by_cases c2:x.Lin.K=0
          · have c3:x.Lin.L≠[]:=fun c3=>hc ⟨c1,c2,c3⟩
            have:=List.length_pos_iff.2 c3
            simp;omega
          · simp[c2]
        · simp[c1]
      rw[this];rfl
theorem CK (op:Int):hP op=some (jR op):=by
  have h:hP op=some (jR op):=by
    unfold hP ig jn jm jR
    by_cases h17:op=17
    · simp[h17]
    by_cases h16:op=16
    · simp[h16]
    by_cases h18:op=18
    · simp[h18]
    by_cases h13:op=13
    · simp[h13]
    by_cases h14:op=14
    · simp[h14]
    by_cases h15:op=15
    · simp[h15]
    by_cases h4:op=4
    · simp[h4]
    by_cases h5:op=5
    · simp[h5]
    by_cases h6:op=6
    · simp[h6]
    by_cases h7:op=7
    · simp[h7]
    by_cases h8:op=8
    · simp[h8]
    simp[h17,h16,h18,h13,h14,h15,h4,h5,h6,h7,h8]
  exact h
def Du (t:aM) (v:bj):List UInt8:=if ol t&&tj t v then om (Da t v)else[]
theorem Cp (t:aM) {v:bj} (hv:VaR v):kE t v=some (Du t v)∧(Du t v).length≤30:=by
  unfold kE Du
  rw[Ah hv]
  cases ht:ol t
  · exact⟨rfl,by simp⟩
  cases ho:tj t v
  · exact⟨rfl,by simp⟩
  obtain⟨h1,h2,_⟩:=BO ht ho
  have:=Dc h2
  refine⟨?_,by simpa using this⟩
  simp[h1,sj (KI h2)]
theorem Gn {t:aM} {v:bj} (ht:ol t=true) (ho:tj t v=true):Du t v=om (Da t v):=by
  unfold Du;rw[ht,ho];rfl
def KJ (e:ac) (ts:List (List UInt8)):List UInt8:=
  if e.Op=1 then Cu e.Type_++([40]++(Du e.Type_ e.Val++[41]))
  else if e.Op=2 then[91]++(nP e.Lin++[93])
  else if e.Op=3 then e.Name++([91]++(i8 (e.Idx.map yK)++[93]))
  else if e.Op=8 then[45]++opd (e.Args.getD 0 default) (ts.getD 0 []) 7
  else if e.Op=18 then[33]++opd (e.Args.getD 0 default) (ts.getD 0 []) 3
  else if e.Op=9 then[109,105,110]++([40]++(i8 ts++[41]))
  else if e.Op=10 then[109,97,120]++([40]++(i8 ts++[41]))
  else if e.Op=11 then[105,102]++([40]++(i8 ts++[41]))
  else if e.Op=12 then[99,97,115,116]++([40]++(i8 (Cu e.Type_::ts)++[41]))
  else opd (e.Args.getD 0 default) (ts.getD 0 []) (jR e.Op)++(([32]++(lc e.Op++[32]))++opd (e.Args.getD 1 default) (ts.getD 1 []) (jR e.Op+1))
def oO:ac→List UInt8
  | ⟨op,nm,v,t,l,ix,args⟩=>KJ ⟨op,nm,v,t,l,ix,args⟩ (go args)
  where go:List ac→List (List UInt8)
    | []=>[]
    | x::xs=>oO x::go xs
theorem FG:∀ (l:List ac),oO.go l=l.map oO
  | []=>rfl
  | x::l=>by rw[oO.go,FG l,List.map_cons]
theorem BS (e:ac):oO e=KJ e (e.Args.map oO):=by cases e;rw[oO,FG]
theorem DI {l:List ac} (h:∀ a∈l,(oO a).length≤100 * wE a):mL (l.map oO)≤100 * (l.map wE).sum+2 * l.length:=by
  unfold mL
  rw[List.map_map, ← uJ]
  exact pv fun a ha=>by have:=h a ha;simp only[Function.comp];omega
theorem FB (l:List ac) (i:Nat) (h:i<l.length):(l.map oO).getD i []=oO (l.getD i default)∧l.getD i default∈l:=by
  rw[List.getD_eq_getElem?_getD,List.getD_eq_getElem?_getD,List.getElem?_map,List.getElem?_eq_getElem h]
  exact⟨rfl,List.getElem_mem h⟩
theorem Dd:∀ (k:Nat) (e:ac),wE e<k→okGExpr e→mv e=0→(oO e).length≤100 * wE e
  | 0,_,h,_,_=>absurd h (by omega)
  | k+1,e,hk,ho,he=>by
    obtain⟨hn,ha⟩:=nI he
    obtain⟨p1,p2,p3,p4,p5⟩:=ny hn
    obtain⟨o1,o2,o3⟩:=ho.out
    have hv:=(Cp e.Type_ (VaR.of (lQ.1 ho).2.2.1)).2
    have ht:=Ct e.Type_
    have hl:=sx o1.r
    have hargs:∀ a∈e.Args,(oO a).length≤100 * wE a:=fun a hm=>Dd k a (by have:=jj hm;omega) (o3.1 a hm) (ha a hm)
    have hjj:=DI hargs
    have hj:=j8 (e.Args.map oO)
    have hj2:=j8 (Cu e.Type_::e.Args.map oO)
    have hj3:mL (Cu e.Type_::e.Args.map oO)=(Cu e.Type_).length+2+mL (e.Args.map oO):=by unfold mL;rw[List.map_cons,List.sum_cons]
    have hx:=j8 (e.Idx.map yK)
    have hxx:mL (e.Idx.map yK)≤60 * (e.Idx.map wI).sum+62 * e.Idx.length:=by
      unfold mL
      rw[List.map_map, ← uJ]
      exact pv fun x hx=>by have:=As (o2.1 x hx);simp only[Function.comp];omega
    have hal:e.Args.length≤3:=by
      unfold pY at p3
      simp only[Bool.and_eq_true,decide_eq_true_eq]at p3
      have:=p3.1.1;unfold lJ at this
      split at this
      · omega
      · split at this
        · omega
        · split at this<;>omega
    have hnm:e.Op=3→e.Name.length≤16:=fun h3=>by
      unfold nj at p2
      simp only[h3,decide_true,Bool.not_true,Bool.false_or,Bool.and_eq_true]at p2
      exact(mG p2.1).2
    have hop:∀ (i:Nat) (c:Int),i<e.Args.length→(opd (e.Args.getD i default) ((e.Args.map oO).getD i []) c).length≤100 * wE (e.Args.getD i default)+2:=fun i c hi=>by
      obtain⟨q1,q2⟩:=FB e.Args i hi
      have:=ss (e.Args.getD i default) ((e.Args.map oO).getD i []) c
      rw[q1]at this ⊢
      have:=hargs _ q2
      omega
    have hsy:=zU e.Op
    rw[BS,rW]
    have hlen:(e.Args.length:Int)=lJ e.Op:=by
      unfold pY at p3
      simp only[Bool.and_eq_true,decide_eq_true_eq]at p3
      exact p3.1.1
    unfold KJ
    by_cases h1:e.Op=1
    · rw[if_pos h1];simp only[List.length_append,List.length_cons,List.length_nil];omega
    rw[if_neg h1]
    by_cases h2:e.Op=2
    · rw[if_pos h2];simp only[List.length_append,List.length_cons,List.length_nil];omega
    rw[if_neg h2]
    by_cases h3:e.Op=3
    · rw[if_pos h3];have:=hnm h3;simp only[List.length_append,List.length_cons,List.length_nil];omega
    rw[if_neg h3]
    by_cases h8:e.Op=8
    · rw[if_pos h8]
      have hl1:e.Args.length=1:=by rw[h8]at hlen;have:lJ 8=1:=rfl;omega
      have:=hop 0 7 (by omega)
      obtain⟨a,ha1⟩:=List.length_eq_one_iff.1 hl1
      rw[ha1]at this ⊢
      simp at this ⊢;omega
    rw[if_neg h8]
    by_cases h18:e.Op=18
    · rw[if_pos h18]
      have hl1:e.Args.length=1:=by rw[h18]at hlen;have:lJ 18=1:=rfl;omega
      have:=hop 0 3 (by omega)
      obtain⟨a,ha1⟩:=List.length_eq_one_iff.1 hl1
      rw[ha1]at this ⊢
      simp at this ⊢;omega
    rw[if_neg h18]
    by_cases h9:e.Op=9
    · rw[if_pos h9];simp only[List.length_append,List.length_cons,List.length_nil];omega
    rw[if_neg h9]
    by_cases h10:e.Op=10
    · rw[if_pos h10];simp only[List.length_append,List.length_cons,List.length_nil];omega
    rw[if_neg h10]
    by_cases h11:e.Op=11
    · rw[if_pos h11];simp only[List.length_append,List.length_cons,List.length_nil];omega
    rw[if_neg h11]
    by_cases h12:e.Op=12
    · rw[if_pos h12];simp only[List.length_append,List.length_cons,List.length_nil];omega
    rw[if_neg h12]
    have hl2:e.Args.length=2:=by
      unfold lJ at hlen
      rw[if_neg (by simp[h1,h2,h3]),if_neg (by simp[h8,h12,h18]),if_neg h11]at hlen;omega
    have q0:=hop 0 (jR e.Op) (by omega)
    have q1:=hop 1 (jR e.Op+1) (by omega)
    obtain⟨a,b,ha1⟩:=DJ hl2
    rw[ha1]at q0 q1 ⊢
    simp at q0 q1 ⊢;omega
theorem qU {rc:ac→Option (List UInt8)} {a:ac} (m6:Int) (h:rc a=some (oO a)) (hl:(oO a).length≤100 * wE a) (hw:wE a≤300):fH rc a m6=some (opd a (oO a) m6):=by
  unfold fH opd
  rw[CK _,Option.bind_some,h]
  by_cases hc:jR a.Op<m6
  · rw[if_pos (by simpa using hc),if_pos hc,Option.bind_some,bf (by simp only[List.length_cons,List.length_nil];omega),Option.bind_some,bf (by simp only[List.length_append,List.length_cons,List.length_nil];omega),Option.bind_some]
    simp
  · rw[if_neg (by simpa using hc),if_neg hc];rfl
theorem Gv {e:ac} {s0:List UInt8} (hi:∀ x∈e.Idx,smI x) (hn:e.Idx.length≤300) (hl:mL (e.Idx.map yK)≤3000000) (hs:s0.length≤100):dy e fu s0 0=some (s0++(i8 (e.Idx.map yK)++[93])):=by
  refine i7 (L:=fun f s i=>dy e f s i) (n:=e.Idx.length) (by omega) (fun i s=>s=s0++i8 ((e.Idx.map yK).take i)) ?_ ?_ _ (by simp[i8])
  · rintro f i s h rfl
    obtain⟨x,hx⟩:=bZ h
    have ht:(e.Idx.map yK)[i]? =some (yK x):=by rw[List.getElem?_map,hx];rfl
    have h1:=j8 ((e.Idx.map yK).take i)
    have h2:=CZ ht
    have hsm:=hi x (List.mem_of_getElem? hx)
    left
    refine⟨_,rfl,?_⟩
    rw[bT ht,rG]
    simp only[dy]
    rw[if_pos (bX h)]
    cases i with
    | zero=>
      rw[if_neg (by simp),if_pos (by simp)]
      unfold iE
      rw[show lat e.Idx ((0:Nat):Int)=some x from bS hx,Option.bind_some,tU hsm,Option.bind_some]
      simp only[List.take_zero,i8,List.append_nil]
      rw[bf (by omega),Option.bind_some];rfl
    | succ i=>
      rw[if_pos (by simp),if_neg (Cy (by rw[List.length_map];exact h)),bf (by simp only[List.length_append,List.length_cons,List.length_nil];omega),Option.bind_some]
      unfold iE
      rw[bS hx,Option.bind_some,tU hsm,Option.bind_some,bf (by simp only[List.length_append,List.length_cons,List.length_nil];omega),Option.bind_some,ni (by omega)]
      simp only[List.append_assoc]
  · rintro f s rfl
    have h1:=j8 (e.Idx.map yK)
    simp only[dy]
    rw[if_neg (by simp),show e.Idx.length=(e.Idx.map yK).length by rw[List.length_map],List.take_length,bf (by simp only[List.length_append,List.length_cons,List.length_nil];omega),Option.bind_some]
    simp
set_option maxHeartbeats 1000000 in
theorem Gu {f:Nat} :∀ {e:ac},okGExpr e→mv e=0→wE e≤300→wE e<f→
    jl f e=some (oO e):=by
  induction f with
  | zero=>intro e _ _ _ h;omega
  | succ f ih=>
    intro e ho he h300 hf
    obtain⟨hn,hz⟩:=nI he
    obtain⟨p1,p2,p3,p4,p5⟩:=ny hn
    obtain⟨o1,o2,o3⟩:=ho.out
    obtain⟨hv2,hv3⟩:=Cp e.Type_ (VaR.of (lQ.1 ho).2.2.1)
    have hwe:=rW e
    have ht:=Ct e.Type_
    have hLn:=sx o1.r
    have hrec:∀ a∈e.Args,jl f a=some (oO a)∧(oO a).length≤100 * wE a∧wE a≤300:=fun a hm=>by
      have:=jj hm
      have q2:=ih (o3.1 a hm) (hz a hm) (by omega) (by omega)
      exact⟨q2,Dd (wE a+1) a (by omega) (o3.1 a hm) (hz a hm),by omega⟩
    have hT:=Gp e.Type_
    have hR:=nv o1.r.1 o1.r.2 (by omega)
    have hlen:(e.Args.length:Int)=lJ e.Op:=by
      unfold pY at p3
      simp only[Bool.and_eq_true,decide_eq_true_eq]at p3
      exact p3.1.1
    have hal:e.Args.length≤3:=by
      unfold lJ at hlen
      split at hlen
      · omega
      · split at hlen
        · omega
        · split at hlen<;>omega
    have hop:1≤e.Op∧e.Op≤18:=by
      unfold nK at p1
      simp only[Bool.and_eq_true,decide_eq_true_eq]at p1
      exact⟨p1.1.1.1.1.1.1,p1.1.1.1.1.1.2⟩
    have hlv:=CK e.Op
    show kx (jl f) e=some (oO e)
    unfold kx
    rw[hlv,GC,BS]
    simp only[Option.bind_some]
    unfold KJ
    have hsn:∀ n:Int,e.Op=n→lc n=[]→lc e.Op=[]:=fun n h1 h2=>by rw[h1];exact h2
    have hidx:60 * (e.Idx.map wI).sum+62 * e.Idx.length≥mL (e.Idx.map yK):=by
      unfold mL
      rw[List.map_map, ← uJ]
      exact pv fun x hx=>by have:=As (o2.1 x hx);simp only[Function.comp];omega
    have hsmI:∀ x∈e.Idx,smI x:=fun x hx=>⟨o2.1 x hx,by have:=tv (List.mem_map_of_mem (f:=wI) hx);omega⟩
    by_cases h1:e.Op=1
    · have hs:lc e.Op=[]:=by rw[h1];rfl
      rw[hs]
      simp only[h1,decide_true,if_true,hT,hv2,Option.bind_some,Bool.not_true,Bool.false_eq_true,if_false]
      rw[bf (by simp only[List.length_cons,List.length_nil];omega),Option.bind_some,bf (by simp only[List.length_append,List.length_cons,List.length_nil];omega),Option.bind_some,bf (by simp only[List.length_append,List.length_cons,List.length_nil];omega),Option.bind_some]
      simp
    simp only[h1,decide_false,Bool.false_eq_true,if_false]
    by_cases h2:e.Op=2
    · have hs:lc e.Op=[]:=by rw[h2];rfl
      rw[hs]
      simp only[h2,decide_true,if_true,hR,Option.bind_some,Bool.not_true,Bool.false_eq_true,if_false]
      rw[bf (by simp only[List.length_cons,List.length_nil];omega),Option.bind_some,bf (by simp only[List.length_append,List.length_cons,List.length_nil];omega),Option.bind_some]
      simp
    simp only[h2,decide_false,Bool.false_eq_true,if_false]
    by_cases h3:e.Op=3
    · have hs:lc e.Op=[]:=by rw[h3];rfl
      have hnm:e.Name.length≤16:=by
        unfold nj at p2
        simp only[h3,decide_true,Bool.not_true,Bool.false_or,Bool.and_eq_true]at p2
        exact(mG p2.1).2
      have hjx:=j8 (e.Idx.map yK)
      rw[hs]
      simp only[h3,decide_true,if_true,Bool.not_true,Bool.false_eq_true,if_false]
      simp(disch:=(simp only[List.length_append,List.length_cons,List.length_nil];omega)) only[bf,Option.bind_some]
      rw[Gv hsmI (by omega) (by omega) (by simp only[List.length_append,List.length_cons,List.length_nil];omega)]
      simp
    simp only[h3,decide_false,Bool.false_eq_true,if_false]
    by_cases h8:e.Op=8
    · have hs:lc e.Op=[]:=by rw[h8];rfl
      have hl1:e.Args.length=1:=by rw[h8]at hlen;have:lJ 8=1:=rfl;omega
      obtain⟨a,ha⟩:=List.length_eq_one_iff.1 hl1
      obtain⟨q2,q3,q4⟩:=hrec a (by rw[ha];simp)
      have hwa:=jj (e:=e) (a:=a) (by rw[ha];simp)
      have hol:=ss a (oO a) 7
      have hlv8:jR 8=7:=rfl
      rw[hs,ha]
      simp only[h8,hlv8,decide_true,if_true,Bool.not_true,Bool.false_eq_true,if_false,show lat [a] 0=some a from rfl,Option.bind_some]
      rw[qU 7 q2 q3 (by omega),Option.bind_some]
      simp(disch:=(simp only[List.length_append,List.length_cons,List.length_nil];omega)) only[bf,Option.bind_some]
      simp
    simp only[h8,decide_false,Bool.false_eq_true,if_false]
    by_cases h18:e.Op=18
    · have hs:lc e.Op=[]:=by rw[h18];rfl
      have hl1:e.Args.length=1:=by rw[h18]at hlen;have:lJ 18=1:=rfl;omega
      obtain⟨a,ha⟩:=List.length_eq_one_iff.1 hl1
      obtain⟨q2,q3,q4⟩:=hrec a (by rw[ha];simp)
      have hwa:=jj (e:=e) (a:=a) (by rw[ha];simp)
      have hol:=ss a (oO a) 3
      have hlv8:jR 18=3:=rfl
      rw[hs,ha]
      simp only[h18,hlv8,decide_true,if_true,Bool.not_true,Bool.false_eq_true,if_false,show lat [a] 0=some a from rfl,Option.bind_some]
      rw[qU 3 q2 q3 (by omega),Option.bind_some]
      simp(disch:=(simp only[List.length_append,List.length_cons,List.length_nil];omega)) only[bf,Option.bind_some]
      simp
    simp only[h18,decide_false,Bool.false_eq_true,if_false]
    by_cases h9:e.Op=9
    · have hs:lc e.Op=[]:=by rw[h9];rfl
      have hl:e.Args.length=2:=by rw[h9]at hlen;have:lJ 9=2:=rfl;omega
      rw[hs]
      simp only[h9,decide_true,if_true,Bool.not_true,Bool.false_eq_true,if_false]
      obtain⟨a,b,ha⟩:=DJ hl
      obtain⟨q0,l0,m0⟩:=hrec a (by rw[ha];simp)
      obtain⟨q1,l1,m1⟩:=hrec b (by rw[ha];simp)
      rw[ha]
      simp only[show lat [a,b] 0=some a from rfl,show lat [a,b] 1=some b from rfl,Option.bind_some]
      rw[q0,Option.bind_some]
      simp(disch:=(simp only[List.length_append,List.length_cons,List.length_nil];omega)) only[bf,Option.bind_some]
      rw[q1,Option.bind_some]
      simp(disch:=(simp only[List.length_append,List.length_cons,List.length_nil];omega)) only[bf,Option.bind_some]
      simp[i8]
    simp only[h9,decide_false,Bool.false_eq_true,if_false]
    by_cases h10:e.Op=10
    · have hs:lc e.Op=[]:=by rw[h10];rfl
      have hl:e.Args.length=2:=by rw[h10]at hlen;have:lJ 10=2:=rfl;omega
      rw[hs]
      simp only[h10,decide_true,if_true,Bool.not_true,Bool.false_eq_true,if_false]
      obtain⟨a,b,ha⟩:=DJ hl
      obtain⟨q0,l0,m0⟩:=hrec a (by rw[ha];simp)
      obtain⟨q1,l1,m1⟩:=hrec b (by rw[ha];simp)
      rw[ha]
      simp only[show lat [a,b] 0=some a from rfl,show lat [a,b] 1=some b from rfl,Option.bind_some]
      rw[q0,Option.bind_some]
      simp(disch:=(simp only[List.length_append,List.length_cons,List.length_nil];omega)) only[bf,Option.bind_some]
      rw[q1,Option.bind_some]
      simp(disch:=(simp only[List.length_append,List.length_cons,List.length_nil];omega)) only[bf,Option.bind_some]
      simp[i8]
    simp only[h10,decide_false,Bool.false_eq_true,if_false]
    by_cases h11:e.Op=11
    · have hs:lc e.Op=[]:=by rw[h11];rfl
      have hl:e.Args.length=3:=by rw[h11]at hlen;have:lJ 11=3:=rfl;omega
      rw[hs]
      simp only[h11,decide_true,if_true,Bool.not_true,Bool.false_eq_true,if_false]
      obtain⟨a,b,c,ha⟩:=len3 hl
      obtain⟨q0,l0,m0⟩:=hrec a (by rw[ha];simp)
      obtain⟨q1,l1,m1⟩:=hrec b (by rw[ha];simp)
      obtain⟨q2,l2,m2⟩:=hrec c (by rw[ha];simp)
      rw[ha]
      simp only[show lat [a,b,c] 0=some a from rfl,show lat [a,b,c] 1=some b from rfl,show lat [a,b,c] 2=some c from rfl,Option.bind_some]
      rw[q0,Option.bind_some]
      simp(disch:=(simp only[List.length_append,List.length_cons,List.length_nil];omega)) only[bf,Option.bind_some]
      rw[q1,Option.bind_some]
      simp(disch:=(simp only[List.length_append,List.length_cons,List.length_nil];omega)) only[bf,Option.bind_some]
      rw[q2,Option.bind_some]
      simp(disch:=(simp only[List.length_append,List.length_cons,List.length_nil];omega)) only[bf,Option.bind_some]
      simp[i8]
    simp only[h11,decide_false,Bool.false_eq_true,if_false]
    by_cases h12:e.Op=12
    · have hs:lc e.Op=[]:=by rw[h12];rfl
      have hl:e.Args.length=1:=by rw[h12]at hlen;have:lJ 12=1:=rfl;omega
      have htn:Cu e.Type_≠[]:=by
        unfold qj at p4
        rw[Bool.and_eq_true]at p4
        have hty:ol e.Type_=true:=by simpa[h12]using p4.1
        unfold Cu
        rw[if_pos hty]
        repeat' split
        all_goals simp
      rw[hs]
      simp only[h12,decide_true,if_true,Bool.not_true,Bool.false_eq_true,if_false,Option.bind_some,if_neg htn]
      obtain⟨a,ha⟩:=List.length_eq_one_iff.1 hl
      obtain⟨q0,l0,m0⟩:=hrec a (by rw[ha];simp)
      unfold lF
      rw[ha]
      simp only[show lat [a] 0=some a from rfl,Option.bind_some,hT]
      simp(disch:=(simp only[List.length_append,List.length_cons,List.length_nil];omega)) only[bf,Option.bind_some]
      rw[q0,Option.bind_some]
      simp(disch:=(simp only[List.length_append,List.length_cons,List.length_nil];omega)) only[bf,Option.bind_some]
      simp[i8]
    simp only[h12,decide_false,Bool.false_eq_true,if_false]
    have hs:lc e.Op≠[]:=by
      unfold lc
      repeat' split
      all_goals first | simp | skip
      exfalso;omega
    have hl2:e.Args.length=2:=by
      unfold lJ at hlen
      rw[if_neg (by simp[h1,h2,h3]),if_neg (by simp[h8,h12,h18]),if_neg h11]at hlen;omega
    obtain⟨a,b,ha⟩:=DJ hl2
    obtain⟨q2,q3,q4⟩:=hrec a (by rw[ha];simp)
    obtain⟨t2,t3,t4⟩:=hrec b (by rw[ha];simp)
    have hsl:=zU e.Op
    have hwa:wE e≥1+wE a+wE b:=by rw[hwe,ha,List.map_cons,List.map_cons,List.sum_cons,List.sum_cons];omega
    have hlb:1≤jR e.Op∧jR e.Op≤8:=by unfold jR;repeat' split
                                     all_goals omega
    have ho1:=ss a (oO a) (jR e.Op)
    have ho2:=ss b (oO b) (jR e.Op+1)
    rw[ha,if_neg hs]
    simp only[show lat [a,b] 0=some a from rfl,show lat [a,b] 1=some b from rfl,Option.bind_some,show au (jR e.Op+1)=jR e.Op+1 from uV ⟨by omega,by omega⟩]
    rw[if_pos (by simp),qU (jR e.Op) q2 q3 (by omega),Option.bind_some]
    simp(disch:=(simp only[List.length_append,List.length_cons,List.length_nil];omega)) only[bf,Option.bind_some]
    rw[qU (jR e.Op+1) t2 t3 (by omega),Option.bind_some]
    simp(disch:=(simp only[List.length_append,List.length_cons,List.length_nil];omega)) only[bf,Option.bind_some]
    simp
theorem FE {e:ac} (ho:okGExpr e) (h300:wE e≤300):l9 e=some (if vE e=0 then oO e else[]):=by
  obtain⟨v1,v2⟩:=tP ho h300
  unfold l9
  rw[v2,Option.bind_some]
  by_cases hv:vE e=0
  · have q2:=Gu (f:=fu) ho (Cq hv) h300 (by unfold fu;omega)
    simp only[hv,decide_true,Bool.not_true,Bool.false_eq_true,if_false,if_true]
    unfold pC
    rw[q2];rfl
  · simp[hv]
end Go.Proofs.YtmhoikfoogemnaaGreatDoor
