import Derived.Test.YtmhoikfoogemnaaGreatDoorMEt
namespace Go.Proofs.YtmhoikfoogemnaaGreatDoor
open Go Go.RowKit Go.Vc
set_option linter.unusedVariables false
set_option linter.unusedSimpArgs false
theorem qc {pe:RS} (hop:∀ n,cC pe n=some 0) (rec':RR) (x:GExpr) (n:Int):bm n rec' fu x pe=some (x,pe):=by
 obtain⟨g,hg⟩:=Ep
 rw[hg]
 simp only[bm]
 rw[hop,Option.bind_some,if_neg (by simp)]
theorem Dl {p0 pe:RS} {x:GExpr} {G:Nat} (h33:aI p0 0 [33]=some false) (h45:aI p0 0 [45]=some false) (hop:∀ n,cC pe n=some 0) (hp:d8 (ax G) p0=some (x,pe)):ax (G+7) p0 1=some (x,pe):=by
 have e7:ax (G+1) p0 7=some (x,pe):=by
  show aS (ax G) p0 7=_
  rw[zP,h45,Option.bind_some,if_neg (by simp),hp]
 have e6:ax (G+2) p0 6=some (x,pe):=by
  show aS (ax (G+1)) p0 6=_
  rw[(pI (ax (G+1)) p0).2.2.2.2,e7,Option.bind_some]
  exact qc hop _ x 6
 have e5:ax (G+3) p0 5=some (x,pe):=by
  show aS (ax (G+2)) p0 5=_
  rw[(pI (ax (G+2)) p0).2.2.2.1,e6,Option.bind_some]
  exact qc hop _ x 5
 have e4:ax (G+4) p0 4=some (x,pe):=by
  show aS (ax (G+3)) p0 4=_
  rw[(pI (ax (G+3)) p0).2.2.1,e5,Option.bind_some]
  exact qc hop _ x 4
 have e3:ax (G+5) p0 3=some (x,pe):=by
  show aS (ax (G+4)) p0 3=_
  rw[zQ,h33,Option.bind_some,if_neg (by simp),e4,Option.bind_some]
  exact qc hop _ x 3
 have e2:ax (G+6) p0 2=some (x,pe):=by
  show aS (ax (G+5)) p0 2=_
  rw[(pI (ax (G+5)) p0).2.1,e3,Option.bind_some]
  exact qc hop _ x 2
 show aS (ax (G+6)) p0 1=_
 rw[(pI (ax (G+6)) p0).1,e2,Option.bind_some]
 exact qc hop _ x 1
theorem GK {p:RS} (h0:0≤p.At) (h1:(p.L.length:Int)≤p.At) (h2:p.At≤1000000) (s:List UInt8):aI p 0 s=some false:=by
 unfold aI
 rw[wi (p:=p.At+0) ⟨by omega,by omega⟩,if_pos (by simp;omega)]
theorem FJ {p:RS} (h0:0≤p.At) (h1:(p.L.length:Int)≤p.At) (h2:p.At≤1000000) (n:Int):cC p n=some 0:=by
 unfold cC
 have e:∀ (b:Bool),gd b (some false)=some false:=fun b=>by cases b<;>rfl
 simp only[GK h0 h1 h2,e,Option.bind_some,Bool.and_false,Bool.false_eq_true,if_false]
theorem Bi {l lc:List aG} {x:GExpr} {r':PR} (h:lc.map tk=(3,[40])::(l.map tk++[(3,[41])])) (hl:l.length≤40000) (ht:∀ t∈l,t.Text.length≤50000) (htc:∀ t∈lc,t.Text.length≤50000)
  (hx:fr ⟨l,0,0⟩=some (.ret (x,r'))) (hend:r'.at_=l.length):
  (∃ q,jm ⟨lc,0,0,0,0⟩ 1=some (x,q)∧q.E=0∧q.At=lc.length)∨(∃ y q,jm ⟨lc,0,0,0,0⟩ 1=some (y,q)∧q.E=13):=by
 have hlen:lc.length=l.length+2:=by have:=congrArg List.length h;simp at this;omega
 have hR0:Rok ⟨lc,0⟩ ⟨lc,0,0⟩:=Rok.start (by omega) (by omega) (by omega) htc
 have hR1:Rok ⟨lc,1⟩ ⟨l,0,0⟩:=⟨.inr ⟨rfl,h⟩,by show(0:Int)≤0;omega,by show(0:Int)≤l.length;omega,by show l.length≤ _;omega,ht,by show(0:Int)≤0;omega,by show(0:Int)≤160;omega⟩
 have c40:ko ⟨lc,0,0⟩ 3 [40]=true:=by
  cases lc with
  | nil=>simp at h
  | cons t lc=>
   rw[List.map_cons]at h
   injection h with h _
   have h1:t.Kind=3:=congrArg Prod.fst h
   have h2:t.Text=[40]:=congrArg Prod.snd h
   show(decide (t.Kind=3)&&decide (t.Text=[40]))=true
   simp[h1,h2]
 have no:∀ s:List UInt8,s≠[40]→ko ⟨lc,0,0⟩ 3 s=false:=fun s hs=>by
  obtain⟨t,h1,h2,h3⟩:=yA c40
  unfold ko
  rw[h1]
  simp[isK,h3,hs.symm]
 have hp0:(⟨lc,0,0,0,0⟩:RS)=St ⟨lc,0⟩ ⟨lc,0,0⟩:=H0 lc 0 lc
 have hp1:(⟨lc,1,1,0,0⟩:RS)=St ⟨lc,1⟩ ⟨l,0,0⟩:=rfl
 have k:=(Dk 160 ⟨l,0,0⟩ hR1 (by show((160:Int) - 0).toNat≤160;omega) (fu - 1) (fu - 14) 161 (by unfold fu;omega) (by unfold fu;omega) (by omega) (by omega)).2.2
 rw[show fu - 1+1=fu by unfold fu;omega,show fu - 14+7=fu - 7 by unfold fu;omega]at k
 have hx':ap fu ⟨l,0,0⟩=some (.ret (x,r')):=hx
 have e33:aI (⟨lc,0,0,0,0⟩:RS) 0 [33]=some false:=by rw[hp0,fI hR0 [33],no [33] (by simp)]
 have e45:aI (⟨lc,0,0,0,0⟩:RS) 0 [45]=some false:=by rw[hp0,fI hR0 [45],no [45] (by simp)]
 have e40:aI (⟨lc,0,0,0,0⟩:RS) 0 [40]=some true:=by rw[hp0,fI hR0 [40],c40]
 have edp:fK (⟨lc,0,0,0,0⟩:RS)=some ⟨lc,1,1,0,0⟩:=rfl
 have prim:d8 (ax (fu - 7)) ⟨lc,0,0,0,0⟩=(ax (fu - 7) ⟨lc,1,1,0,0⟩ 1).bind fun r5=>(aH r5.2 [41]).bind fun r4=>if(!decide (r4.E=0))=true then some (zE,(⟨r4.L,r4.At,0,r4.E,r4.Pos⟩:RS))else some (r5.1,(⟨r4.L,r4.At,0,r4.E,r4.Pos⟩:RS)):=by
  unfold d8 dU ee
  rw[e40,Option.bind_some,if_pos rfl,Option.bind_some,if_neg (by simp),edp,Option.bind_some]
  obtain⟨g,hg⟩:=fu2
  generalize ax (fu - 7)=R
  rw[hg]
  simp only[ci,d9,iX]
  simp only[Bool.false_eq_true,if_false]
  rw[if_pos (by rfl),if_neg (by simp)]
  cases R ⟨lc,1,1,0,0⟩ 1 with
  | none=>rfl
  | some p=>
   simp only[Option.bind_some]
   rw[cK (by simp),Option.bind_some,if_neg (by decide)]
   cases aH p.2 [41]with
   | none=>rfl
   | some q=>rfl
 have efu:jm (⟨lc,0,0,0,0⟩:RS) 1=ax (fu - 7+7) ⟨lc,0,0,0,0⟩ 1:=by
  unfold jm;rw[show fu - 7+7=fu by unfold fu;omega]
 rw[efu]
 rcases k with⟨x2,r2,k1,k2,hn,_⟩ | ⟨a,e,k1,_⟩
 rotate_left
 ·rw[hx']at k1;cases k1
 rw[hx']at k1
 injection k1 with k1;injection k1 with k1;injection k1 with k3 k4
 subst k3;subst k4
 rcases k2 with k2 | ⟨_,y,s,k2,hs⟩
 ·left
  have hR':=hn.ok
  have hl':r'.l=l:=hn.l
  have hnone:tn r' 0=none:=List.getElem?_eq_none (by rw[hl',hend];omega)
  obtain⟨t,q1,q2,q3⟩:=hR'.endL rfl hnone
  have eis:aI (St ⟨lc,1⟩ r') 0 [41]=some true:=by
   rw[ER hR' (by simp)]
   have q1':lc[(r'.at_+((1:Nat):Int)).toNat]? =some t:=by unfold lat at q1;rw[if_pos (by omega)]at q1;exact q1
   show some (isK lc[(r'.at_+((1:Nat):Int)).toNat]? 3 [41])=_
   rw[q1']
   simp[isK,q2,q3]
  have eex:aH (St ⟨lc,1⟩ r') [41]=some ⟨lc,lc.length,r'.deep+1,0,0⟩:=by
   unfold aH
   rw[eis,Option.bind_some,if_neg (by simp)]
   show some (⟨lc,az (r'.at_+((1:Nat):Int)+1),r'.deep+((1:Nat):Int),0,0⟩:RS)=_
   rw[wi (p:=r'.at_+((1:Nat):Int)+1) ⟨by omega,by omega⟩,hend,show(l.length:Int)+((1:Nat):Int)+1=(lc.length:Int)by omega]
   rfl
  refine⟨⟨lc,lc.length,0,0,0⟩,Dl e33 e45 (fun n=>FJ (by show(0:Int)≤lc.length;omega) (by show(lc.length:Int)≤lc.length;omega) (by show(lc.length:Int)≤ _;omega) n) ?_,rfl,rfl⟩
  rw[prim,hp1,k2,Option.bind_some]
  dsimp only
  rw[eex,Option.bind_some,if_neg (by simp)]
 ·right
  have hs':s.E≠0:=by rw[hs];decide
  refine⟨zE,⟨s.L,s.At,0,s.E,s.Pos⟩,Dl e33 e45 (fun n=>Hw (by exact hs') n) ?_,hs⟩
  rw[prim,hp1,k2,Option.bind_some]
  dsimp only
  rw[bo hs',Option.bind_some,if_pos (by simp[hs])]
theorem Bt {s:List UInt8} (h:s.length≤65536):(Z13.joinS (Z13.tokens s).1).length≤2 * s.length:=by
 by_cases he:(Z13.tokens s).2.2=0
 ·have hc:=Z13.chain_join s _ 0 (Z13.tokens_chain s h he)
  rw[Z13.joinS_rest];omega
 ·rw[Z13.tokens_none s he];simp[Z13.joinS,Z13.joinT]
theorem sn (s:List UInt8) (hs:okS s):jh s=some true:=by
 unfold jh
 rw[Et]
 by_cases h:(2000:Int)<(s.length:Int)
 ·rw[if_pos (by simpa using h)];rfl
 rw[if_neg (by simpa using h)]
 have hl:s.length≤2000:=by omega
 have htok:=Z13.lexer_Tokenize s (by omega)
 obtain⟨k1,k2⟩:=wD (s:=s) (by omega)
 have hJ:=Bt (s:=s) (by omega)
 have hgood:=Z13.tokens_good s
 rw[Z13.ref13_Tokenize s (by omega)]
 by_cases c:(Z13.tokens s).2.2=0
 rotate_left
 ·have et:(Z13.tokI s).2.2=((Z13.tokens s).2.2:Int):=rfl
  have e1:bT s=some (zE,(Z13.tokI s).2.1,(Z13.tokI s).2.2):=by
   unfold bT
   rw[htok,Option.bind_some,if_pos (by rw[et];simp[c])];rfl
  rw[e1,Option.bind_some,Option.bind_some,if_pos (by rw[et];simp[c])]
  simp[gd]
 have et:Z13.tokI s=((Z13.tokens s).1,((Z13.tokens s).2.1:Int),0):=by unfold Z13.tokI;rw[c];rfl
 obtain⟨j1,j2⟩:=Z13.tokens_join (Z13.tokens s).1 hgood (by omega)
 have hpar:=fun hne=>wC (ts:=(Z13.tokens s).1) hgood hne (by omega)
 have hjoin:=zi (ts:=(Z13.tokens s).1) (by omega) (by omega)
 have jtok:=Z13.lexer_Tokenize (Z13.joinS (Z13.tokens s).1) (by omega)
 have ptok:=Z13.lexer_Tokenize (pv++Z13.joinS (Z13.tokens s).1++[9,41]) (by simp[pv];omega)
 obtain⟨m1,m2⟩:=wD (s:=Z13.joinS (Z13.tokens s).1) (by omega)
 obtain⟨n1,n2⟩:=wD (s:=pv++Z13.joinS (Z13.tokens s).1++[9,41]) (by simp[pv];omega)
 have hplen:(pv++Z13.joinS (Z13.tokens s).1++[9,41]).length≤4100:=by simp[pv];omega
 have ej:Z13.tokI (Z13.joinS (Z13.tokens s).1)=((Z13.tokens (Z13.joinS (Z13.tokens s).1)).1,0,0):=by
  unfold Z13.tokI;rw[j2];rfl
 have hsame:=yf j1
 rw[et]at htok ⊢
 rw[ej]at jtok
 generalize (Z13.tokens (Z13.joinS (Z13.tokens s).1)).1=lj at *
 generalize ((Z13.tokens s).2.1:Int)=pz at *
 generalize (Z13.tokens s).1=l at *
 have hjl:(Z13.joinS l).length≤4000:=by omega
 generalize hJJ:Z13.joinS l=J at *
 have elj:lj.length=l.length:=by have:=congrArg List.length hsame;simpa using this
 rw[Option.bind_some]
 have A:=xO htok hsame (by omega) (fun t ht=>by have:=k2 t ht;omega)
 have B:=xO jtok (rfl:lj.map tk=lj.map tk) (by omega) (fun t ht=>by have:=m2 t ht;omega)
 rcases A with⟨x,r',a1,a2,a3,ao,aw,av,ar,an⟩ | ⟨a,e,v,ha,he,a1,a2,y,q,a3,aq⟩
 ·have b1:bT J=some (x,0,0):=by
   rcases B with⟨x2,r2,b1,b2,_⟩ | ⟨a,e,v,ha,he,b1,b2,y,q,b3,bq⟩
   ·rw[a2]at b2;injection b2 with b2;injection b2 with b2 _;rw[b1,b2]
   ·rw[a2]at b3;injection b3 with b3;injection b3 with _ b3
    rcases bq with⟨q1,_⟩ | ⟨_,q2,_,q3,_⟩
    ·rw[← b3]at q1;exact absurd q1.symm he
    ·rw[← b3]at q2
     have:(St ⟨lj,0⟩ r').At=r'.at_:=by show r'.at_+0=_;omega
     omega
  have hne:l≠[]:=by
   rintro rfl
   have h1:=CC (Rok.start (l:=[]) (at_:=0) (by omega) (by simp) (by simp) (fun t ht=>(by cases ht)))
   rcases h1 with⟨x3,r3,g1,_,_,g4⟩ | ⟨a,e,g1,_⟩
   ·rw[ar]at g1;injection g1 with g1;injection g1 with g1;injection g1 with _ g1;subst g1
    have:=g4.1
    have h0:(⟨[],0,0⟩:PR).at_=0:=rfl
    simp only[List.length_nil]at a3
    omega
   ·rw[ar]at g1;cases g1
  obtain⟨ts',q0,q,p1,p2⟩:=hpar hne
  have p0:bT (pv++J++[9,41])=some (x,0,0)∨∃ y v,bT (pv++J++[9,41])=some (y,v,13):=by
   have ep:Z13.tokI (pv++J++[9,41])=(⟨3,q0,[40]⟩::(ts'++[⟨3,q,[41]⟩]),0,0):=by unfold Z13.tokI;rw[p1];rfl
   rw[ep]at ptok
   rw[p1]at n1 n2
   dsimp only at n1 n2
   generalize hlc:(⟨3,q0,[40]⟩::(ts'++[⟨3,q,[41]⟩]):List aG)=lc at *
   have hm:lc.map tk=(3,[40])::(l.map tk++[(3,[41])]):=by rw[← hlc,List.map_cons,List.map_append,p2];rfl
   have htc:∀ t∈lc,t.Text.length≤50000:=fun t ht=>by have:=n2 t ht;omega
   have C:=xO ptok (rfl:lc.map tk=lc.map tk) (by omega) htc
   rcases Bi hm (by omega) (fun t ht=>by have:=k2 t ht;omega) htc ar a3 with⟨w,w1,w2,w3⟩ | ⟨y,w,w1,w2⟩
   ·left
    have ex:dn ⟨lc,0,0,0,0⟩=some (x,w):=by
     unfold dn
     rw[w1,Option.bind_some]
     dsimp only
     rw[if_pos (by simp[w2]),(v6 ao aw).2,Option.bind_some,if_neg (by simp[av])]
    rcases C with⟨x2,r2,c1,c2,_⟩ | ⟨a,e,v,ha,he,c1,c2,y,q,c3,cq⟩
    ·rw[ex]at c2;injection c2 with c2;injection c2 with c2 _;rw[c1,c2]
    ·rw[ex]at c3;injection c3 with c3;injection c3 with _ c3
     rcases cq with⟨q1,_⟩ | ⟨_,q2,_,q3,_⟩
     ·rw[← c3,w2]at q1;exact absurd q1.symm he
     ·rw[← c3,w3]at q2;omega
   ·right
    have ex:dn ⟨lc,0,0,0,0⟩=some (y,w):=by
     unfold dn
     rw[w1,Option.bind_some]
     dsimp only
     rw[if_neg (by simp[w2])]
    rcases C with⟨x2,r2,c1,c2,_⟩ | ⟨a,e,v,ha,he,c1,c2,y2,q,c3,cq⟩
    ·rw[ex]at c2;injection c2 with c2;injection c2 with _ c2
     rw[c2]at w2;cases w2
    ·rw[ex]at c3;injection c3 with c3;injection c3 with _ c3
     rcases cq with⟨q1,_⟩ | ⟨q1,_⟩
     ·rw[← c3,w2]at q1;exact⟨zE,v,by rw[c1,q1]⟩
     ·rw[← c3,w2]at q1;cases q1
  rw[a1,Option.bind_some,Option.bind_some,if_neg (by simp),hjoin,Option.bind_some,b1,Option.bind_some,nH ao aw]
  simp only[gd,decide_true,Bool.not_true,Bool.not_false,if_true,Option.bind_some,Bool.or_self,Bool.false_eq_true,if_false]
  rw[cK (by simp only[List.length_cons,List.length_nil];omega),Option.bind_some,cK (by simp only[List.length_append,List.length_cons,List.length_nil];omega),Option.bind_some]
  show((bT (pv++J++[9,41])).bind _)=_
  rcases p0 with p0 | ⟨y,v,p0⟩
  ·rw[p0,Option.bind_some,nH ao aw];rfl
  ·rw[p0,Option.bind_some];rfl
 ·have b1:∃ v',bT J=some (zE,v',e):=by
   rcases B with⟨x2,r2,b1,b2,b3,_⟩ | ⟨a',e',v',ha',he',b1,b2,y',q',b3,bq⟩
   ·rw[a3]at b2;injection b2 with b2;injection b2 with _ b2
    rcases aq with⟨q1,_⟩ | ⟨_,q2,_,q3,_⟩
    ·rw[b2]at q1;exact absurd q1.symm he
    ·rw[b2]at q2
     have:(St ⟨lj,0⟩ r2).At=r2.at_:=by show r2.at_+0=_;omega
     omega
   ·rw[a3]at b3;injection b3 with b3;injection b3 with _ b3
    subst b3
    refine⟨v',?_⟩
    rcases aq with⟨q1,_⟩ | ⟨q1,_,q2,_⟩<;>rcases bq with⟨q3,_⟩ | ⟨q3,_,q4,_⟩
    ·rw[b1, ← q3,q1]
    ·rw[q1]at q3;exact absurd q3 he
    ·rw[q1]at q3;exact absurd q3.symm he'
    ·rw[b1,q4,q2]
  obtain⟨v',b1⟩:=b1
  rw[a1,Option.bind_some,Option.bind_some,if_neg (by simp),hjoin,Option.bind_some,b1,Option.bind_some,nH G7 (by have:=zE_w;omega)]
  simp only[gd,decide_true,Bool.not_true,Bool.not_false,if_true,Option.bind_some,Bool.or_self,Bool.false_eq_true,if_false]
  rw[if_pos (by simp[he])]
end Go.Proofs.YtmhoikfoogemnaaGreatDoor
