import Derived.Test.YtmhoikfoogemnaaGreatDoorMEr
namespace Go.Proofs.YtmhoikfoogemnaaGreatDoor
open Go Go.RowKit Go.Vc
set_option linter.unusedVariables false
set_option linter.unusedSimpArgs false
theorem Rok.start2 {l l2:List aG} {at_:Int} (h:l2.map tk=l.map tk) (h0:0≤at_) (h1:at_≤l.length) (hl:l.length≤50000) (ht:∀ t∈l,t.Text.length≤50000):Rok ⟨l2,0⟩ ⟨l,at_,0⟩:=⟨.inl ⟨rfl,h⟩,h0,h1,hl,ht,by show(0:Int)≤0;omega,by show(0:Int)≤160;omega⟩
theorem H0 (l:List aG) (at_:Int) (l2:List aG):(⟨l2,at_,0,0,0⟩:RS)=St ⟨l2,0⟩ ⟨l,at_,0⟩:=by
 unfold St
 show _ =(⟨l2,at_+0,0+0,0,0⟩:RS)
 rw[Int.add_zero,Int.add_zero]
theorem DK {l l2:List aG} {at_:Int} (h:l2.map tk=l.map tk) (h0:0≤at_) (h1:at_≤l.length) (hl:l.length≤50000) (ht:∀ t∈l,t.Text.length≤50000):
  (∃ x r',iZ l at_=some (x,r'.at_,0)∧dn ⟨l2,at_,0,0,0⟩=some (x,St ⟨l2,0⟩ r')∧Nx ⟨l2,0⟩ ⟨l,at_,0⟩ r'∧okGExpr x∧wE x≤1000000∧vB x=0∧fr ⟨l,at_,0⟩=some (.ret (x,r')))∨
  (∃ a e,0≤a∧e≠0∧iZ l at_=some (zE,a,e)∧∃ y s,dn ⟨l2,at_,0,0,0⟩=some (y,s)∧s.E=e∧s.Pos=a):=by
 unfold iZ dn
 have hb:(decide (at_<0)||decide ((l.length:Int)<at_))=false:=by
  rw[Bool.eq_false_iff];intro h2;simp at h2;omega
 rw[hb,if_neg (by simp)]
 have hR:=Rok.start2 h h0 h1 hl ht
 unfold jf
 rw[H0 l at_ l2]
 rcases CC hR with⟨x,r',e1,e2,hn,_,hI⟩ | ⟨a,e,e1,ha,hq⟩
 ·have e2:jm (St ⟨l2,0⟩ ⟨l,at_,0⟩) 1=some (x,St ⟨l2,0⟩ r'):=by rcases e2 with h | ⟨h,_⟩;exact h;cases h
  rw[e1,e2]
  have hw:=hI.w
  have:=hn.ok.a1;have:=hn.ok.ll
  have ha:(⟨l,at_,0⟩:PR).at_=at_:=rfl
  obtain⟨v1,v2⟩:=v6 hI.ok (by omega)
  have eP:(wP (pb (some (bk.ret (x,r'))) fun(q:GExpr×PR)=>match q with | (r1,s1)=>some (bk.ret ((),s1,r1))) (fun(q:Unit×PR×GExpr)=>match q with | (r1,s1,s2)=>if(!decide ((0:Int)=0))=true then some (zE,(0:Int),(0:Int))else(hH s2).bind fun r2=>if(!decide (r2=0))=true then some (zE,at_,r2)else some (s2,s1.at_,(0:Int))) fun pa1 pn1=>some (zE,pa1,pn1))=((hH x).bind fun r2=>if(!decide (r2=0))=true then some (zE,at_,r2)else some (x,r'.at_,(0:Int))):=rfl
  by_cases c:vB x=0
  ·left
   refine⟨x,r',eP.trans ?_,?_,hn,hI.ok,by omega,c,rfl⟩
   ·rw[v1,Option.bind_some,if_neg (by simp[c])]
   ·rw[Option.bind_some]
    dsimp only
    rw[if_pos (by simp[sK]),v2,Option.bind_some,if_neg (by simp[c])]
  ·right
   refine⟨at_,vB x,h0,c,eP.trans ?_,?_⟩
   ·rw[v1,Option.bind_some,if_pos (by simp[c])]
   ·rw[Option.bind_some]
    dsimp only
    rw[if_pos (by simp[sK]),v2,Option.bind_some,if_pos (by simp[c])]
    unfold bs
    rw[if_pos (by simp[sK]),Option.bind_some]
    exact⟨_,_,rfl,rfl,by show at_+0=at_;omega⟩
 ·obtain⟨y,s,e2,q1,q2,q3⟩:=hq rfl
  rw[e1,e2]
  right
  refine⟨a,e,ha,q3,?_,y,s,?_,q1,q2⟩
  ·show(if e≠0 then _ else none)=_
   rw[if_pos q3];rfl
  ·rw[Option.bind_some,if_neg (by simp[q1,q3])]
theorem wh (s:List UInt8) (l:List aG) {a:Int} (h:0≤a):∃ v,iY s l a=some v∧pE s l a=some v:=by
 unfold iY pE
 by_cases c:a<l.length
 ·obtain⟨t,ht⟩:=bY (l:=l) (i:=a.toNat) (by omega)
  have e:lat l a=some t:=by unfold lat;rw[if_pos h];exact ht
  rw[if_neg (by simp;omega),if_pos (by simpa using c),e]
  exact⟨_,rfl,rfl⟩
 ·rw[if_pos (by simp;omega),if_neg (by simpa using c)]
  exact⟨_,rfl,rfl⟩
theorem xO {s:List UInt8} {l l2:List aG} {p:Int} (hs:iJ s=some (l,p,0)) (h:l2.map tk=l.map tk) (hl:l.length≤50000) (ht:∀ t∈l,t.Text.length≤50000):
  (∃ x r',bT s=some (x,0,0)∧dn ⟨l2,0,0,0,0⟩=some (x,St ⟨l2,0⟩ r')∧r'.at_=l.length∧okGExpr x∧wE x≤1000000∧vB x=0∧fr ⟨l,0,0⟩=some (.ret (x,r'))∧Nx ⟨l2,0⟩ ⟨l,0,0⟩ r')∨
  (∃ a e v,0≤a∧e≠0∧bT s=some (zE,v,e)∧iY s l a=some v∧∃ y q,dn ⟨l2,0,0,0,0⟩=some (y,q)∧((q.E=e∧q.Pos=a)∨(q.E=0∧q.At=a∧e=5∧a<l.length∧∃ r',q=St ⟨l2,0⟩ r'))):=by
 unfold bT
 rw[hs,Option.bind_some,if_neg (by simp)]
 rcases DK (at_:=0) h (by omega) (by omega) hl ht with⟨x,r',e1,e2,hn,ho,hw,hv,hr⟩ | ⟨a,e,ha,he,e1,y,q,e2,q1,q2⟩
 ·have h0:=hn.ok.a0
  have h1:=hn.ok.a1
  rw[hn.l]at h1
  have hh:(⟨l,0,0⟩:PR).l=l:=rfl
  rw[hh]at h1
  dsimp only
  rw[e1,Option.bind_some]
  by_cases c:r'.at_<l.length
  ·right
   obtain⟨v,v1,v2⟩:=wh s l h0
   refine⟨r'.at_,5,v,h0,by omega,?_,v1,x,_,e2,.inr ⟨rfl,by show r'.at_+0=_;omega,rfl,c,r',rfl⟩⟩
   rw[if_pos (by simp[c])]
   unfold gq
   rw[if_pos (by simp)]
   dsimp only
   rw[v1];rfl
  ·left
   refine⟨x,r',?_,e2,by omega,ho,hw,hv,hr,hn⟩
   rw[if_neg (by simp;omega)]
   unfold gq
   rw[if_neg (by simp)]
 ·right
  obtain⟨v,v1,v2⟩:=wh s l ha
  refine⟨a,e,v,ha,he,?_,v1,y,q,e2,.inl ⟨q1,q2⟩⟩
  dsimp only
  rw[e1,Option.bind_some,if_neg (by simp[he])]
  unfold gq
  rw[if_pos (by simp[he])]
  dsimp only
  rw[v1];rfl
theorem wD {s:List UInt8} (h:s.length≤65536):(Z13.tokens s).1.length≤s.length∧∀ t∈(Z13.tokens s).1,t.Text.length≤s.length:=by
 by_cases he:(Z13.tokens s).2.2=0
 ·have hc:=Z13.tokens_chain s h he
  refine⟨by have:=Z13.chain_le _ _ _ hc;omega,?_⟩
  have go:∀ (ts:List aG) (a:Nat),Z13.Chain s a ts→∀ t∈ts,t.Text.length≤s.length:=by
   intro ts
   induction ts with
   | nil=>intro a _ t ht;cases ht
   | cons u ts ih=>
    intro a ⟨_,_,_,h4,_,h6⟩ t ht
    rcases List.mem_cons.1 ht with rfl | ht
    ·omega
    ·exact ih _ h6 t ht
  exact go _ 0 hc
 ·rw[Z13.tokens_none s he];exact⟨by simp,by intro t ht;cases ht⟩
end Go.Proofs.YtmhoikfoogemnaaGreatDoor
namespace Go.Proofs.YtmhoikfoogemnaaGreatDoor
open Go Go.RowKit Go.Vc
set_option linter.unusedVariables false
set_option linter.unusedSimpArgs false
theorem yf:∀ {l m:List aG},Z13.sameT false l m=true→m.map tk=l.map tk
 | [],[],_=>rfl
 | x::l,y::m,h=>by
  simp only[Z13.sameT,Bool.not_false,Bool.true_or,Bool.and_true,Bool.and_eq_true,decide_eq_true_eq]at h
  rw[List.map_cons,List.map_cons,yf h.2]
  unfold tk;rw[h.1.1,h.1.2]
 | [],_ :: _,h=>by simp[Z13.sameT]at h
 | _ :: _,[],h=>by simp[Z13.sameT]at h
theorem zi {ts:List aG} (hl:ts.length≤100000) (hb:(Z13.joinS ts).length≤1000000):kT ts=some (Z13.joinS ts):=by
 unfold kT Z13.joinS
 have hm:(ts.map aG.Text).length=ts.length:=by simp
 refine jy (L:=fun f s i=>eg ts f s i) (n:=ts.length) (by omega) (fun i s=>s=Z13.joinT (ts.map aG.Text) i) ?_ ?_ [] rfl
 ·rintro f i s hi rfl
  left
  obtain⟨t,ht⟩:=bY hi
  have hg:(ts.map aG.Text).getD i []=t.Text:=by rw[List.getD_eq_getElem?_getD,List.getElem?_map,ht];rfl
  have hmo:=Z13.joinT_mono (ts.map aG.Text) (i+1) ts.length (by omega)
  have hst:=Z13.joinT_step (ts.map aG.Text) i
  unfold Z13.joinS at hb
  have hT:t.Text.length≤(Z13.joinT (ts.map aG.Text) (i+1)).length:=by rw[hst,hg];exact Nat.le_add_left _ _
  refine⟨_,rfl,?_⟩
  simp only[eg]
  rw[if_pos (bS hi)]
  unfold j8
  simp only[Z13.joinT]
  rw[hg]at hst ⊢
  by_cases c:i=0
  ·subst c
   rw[if_neg (by simp),ck ht,Option.bind_some,cK (by show 0+t.Text.length≤ _;omega),Option.bind_some,lB (by omega)]
   rfl
  ·rw[if_neg c]at hst ⊢
   rw[if_pos (by simp;omega),cK (by simp only[List.length_cons,List.length_nil];omega),Option.bind_some,ck ht,Option.bind_some,cK (by simp only[List.length_append,List.length_cons,List.length_nil];omega),Option.bind_some,lB (by omega)]
 ·rintro f s rfl
  simp only[eg]
  rw[if_neg (by simp)]
theorem wo (S:List UInt8):∀ (ts:List aG),(∀ t∈ts,Z13.Good t)→ts≠[]→∀ (f p:Nat),p≤S.length→S.length<p+f→S.drop p=Z13.restT (ts.map aG.Text)++[9,41]→
  ∃ ts' q,Z13.goT S f p=(ts'++[⟨3,q,[41]⟩],0,0)∧ts'.map tk=ts.map tk
 | [],_,h,_,_,_,_,_=>absurd rfl h
 | t::ts,h,_,f,p,hp,hf,hd=>by
  have ht:=h t (by simp)
  obtain⟨r,hr,hr2,hr3⟩:∃ r,(r=[]∨Z13.spH r)∧Z13.restT ((t::ts).map aG.Text)++[9,41]=t.Text++r∧(ts=[]∧r=[9,41]∨ts≠[]∧r=32::(Z13.restT (ts.map aG.Text)++[9,41])):=by
   cases ts with
   | nil=>exact⟨[9,41],.inr (.inr rfl),by simp[Z13.restT],.inl ⟨rfl,rfl⟩⟩
   | cons u ts=>exact⟨32::(Z13.restT ((u::ts).map aG.Text)++[9,41]),.inr (.inl rfl),by simp[Z13.restT],.inr ⟨by simp,rfl⟩⟩
  rw[hr2]at hd
  obtain⟨g1,g2,g3,g4,g5⟩:=Z13.good_next t ht r hr
  rw[← hd]at g1 g2 g3 g4
  have hlen:S.length=p+t.Text.length+r.length:=by have:=congrArg List.length hd;simp at this;omega
  obtain⟨f,rfl⟩:∃ f',f=f'+1:=⟨f - 1,by omega⟩
  have hdr:S.drop (p+t.Text.length)=r:=by rw[← List.drop_drop,hd,List.drop_left]
  have hgo:Z13.goT S (f+1) p=(⟨(Z13.nextL (S.drop p)).1,p,(S.drop p).take (Z13.nextL (S.drop p)).2⟩::(Z13.goT S f (p+t.Text.length+Z13.skipL false r)).1,(Z13.goT S f (p+t.Text.length+Z13.skipL false r)).2):=by
   simp only[Z13.goT]
   rw[if_pos (by omega),if_neg g3,if_neg g4,g2,hdr]
  have htk:(S.drop p).take t.Text.length=t.Text:=by rw[hd,List.take_left]
  have fin:∀ ts' q,Z13.goT S f (p+t.Text.length+Z13.skipL false r)=(ts'++[⟨3,q,[41]⟩],0,0)→ts'.map tk=ts.map tk→∃ ts' q,Z13.goT S (f+1) p=(ts'++[⟨3,q,[41]⟩],0,0)∧ts'.map tk=(t::ts).map tk:=fun ts' q e1 e2=>by
   rw[hgo,e1,g1,g2,htk]
   refine⟨⟨t.Kind,p,t.Text⟩::ts',q,rfl,?_⟩
   rw[List.map_cons,List.map_cons,e2];rfl
  rcases hr3 with⟨rfl,rfl⟩ | ⟨hne,rfl⟩
  ·have hsk:Z13.skipL false [9,41]=1:=rfl
   rw[hsk]at fin hgo
   simp only[List.length_cons,List.length_nil]at hlen
   have hd2:S.drop (p+t.Text.length+1)=[41]:=by rw[← List.drop_drop,hdr];rfl
   have hn:Z13.nextL [41]=(3,1):=rfl
   obtain⟨f,rfl⟩:∃ f',f=f'+1:=⟨f - 1,by omega⟩
   refine fin [] ((p+t.Text.length+1:Nat):Int) ?_ rfl
   have hd3:S.drop (p+t.Text.length+1+1)=[]:=List.drop_of_length_le (by omega)
   simp only[Z13.goT]
   rw[if_pos (by omega),hd2,hn,if_neg (by simp),if_neg (by simp),hd3]
   show((⟨3,_,[41]⟩:aG)::(Z13.goT S f (p+t.Text.length+1+1+0)).1,(Z13.goT S f (p+t.Text.length+1+1+0)).2)=_
   have e:Z13.goT S f (p+t.Text.length+1+1+0)=([],0,0):=by
    cases f with
    | zero=>rfl
    | succ f=>simp only[Z13.goT];rw[if_neg (by omega)]
   rw[e];rfl
  ·have hsk:Z13.skipL false (32::(Z13.restT (ts.map aG.Text)++[9,41]))=1:=by
    show Z13.skipL false (Z13.restT (ts.map aG.Text)++[9,41])+1=1
    have e:Z13.skipL false (Z13.restT (ts.map aG.Text)++[9,41])=0:=by
     cases ts with
     | nil=>exact absurd rfl hne
     | cons u ts=>
      have hu:=h u (by simp)
      have key:∀ r:List UInt8,(r=[]∨Z13.spH r)→Z13.skipL false (u.Text++r)=0:=fun r hr=>by
       obtain⟨_,_,hk,_,hp⟩:=Z13.good_next u hu r hr
       exact Z13.nextL_skip _ hk (by simp;omega)
      cases ts with
      | nil=>exact key [9,41] (.inr (.inr rfl))
      | cons v ts=>
       have:=key (32::(Z13.restT ((v::ts).map aG.Text)++[9,41])) (.inr (.inl rfl))
       simpa[Z13.restT]using this
    rw[e]
   rw[hsk]at fin
   simp only[List.length_cons]at hlen
   obtain⟨ts',q,e1,e2⟩:=wo S ts (fun t ht=>h t (by simp[ht])) hne f (p+t.Text.length+1) (by omega) (by omega) (by rw[← List.drop_drop,hdr];rfl)
   exact fin ts' q e1 e2
abbrev pv:List UInt8:=[32,40,32,35,32,99,111,109,109,101,110,116,10]
theorem wC {ts:List aG} (h:∀ t∈ts,Z13.Good t) (hne:ts≠[]) (hl:(Z13.joinS ts).length≤60000):∃ ts' q0 q,Z13.tokens (pv++Z13.joinS ts++[9,41])=(⟨3,q0,[40]⟩::(ts'++[⟨3,q,[41]⟩]),0,0)∧ts'.map tk=ts.map tk:=by
 have hj:=Z13.joinS_rest ts
 have hS:∀ S:List UInt8,S=pv++Z13.joinS ts++[9,41]→∃ ts' q0 q,Z13.tokens S=(⟨3,q0,[40]⟩::(ts'++[⟨3,q,[41]⟩]),0,0)∧ts'.map tk=ts.map tk:=fun S e=>by
  have hlen:S.length=(Z13.joinS ts).length+15:=by rw[e];simp[pv]
  have hs0:Z13.skipL false S=1:=by rw[e];rfl
  have hd1:S.drop 1=40::(pv.drop 2++(Z13.joinS ts++[9,41])):=by rw[e];simp[pv]
  have hd2:S.drop 2=pv.drop 2++(Z13.joinS ts++[9,41]):=by rw[e];simp[pv]
  have hd13:S.drop 13=Z13.joinS ts++[9,41]:=by rw[e];simp[pv]
  have hsk:Z13.skipL false (Z13.joinS ts++[9,41])=0:=by
   rw[hj]
   cases ts with
   | nil=>exact absurd rfl hne
   | cons u ts=>
    have hu:=h u (by simp)
    have key:∀ r:List UInt8,(r=[]∨Z13.spH r)→Z13.skipL false (u.Text++r)=0:=fun r hr=>by
     obtain⟨_,_,hk,_,hp⟩:=Z13.good_next u hu r hr
     exact Z13.nextL_skip _ hk (by simp;omega)
    cases ts with
    | nil=>exact key [9,41] (.inr (.inr rfl))
    | cons v ts=>
     have:=key (32::(Z13.restT ((v::ts).map aG.Text)++[9,41])) (.inr (.inl rfl))
     simpa[Z13.restT]using this
  have hs2:Z13.skipL false (S.drop 2)=11:=by
   rw[hd2]
   show Z13.skipL false (Z13.joinS ts++[9,41])+11=11
   rw[hsk]
  obtain⟨ts',q,e1,e2⟩:=wo S ts h hne S.length 13 (by omega) (by omega) (by rw[hd13,hj])
  have hn:Z13.nextL (S.drop 1)=(3,1):=by rw[hd1];rfl
  have hg:Z13.goT S (S.length+1) 1=(⟨3,1,[40]⟩::(ts'++[⟨3,q,[41]⟩]),0,0):=by
   simp only[Z13.goT]
   rw[if_pos (by omega),hn,if_neg (by simp),if_neg (by simp)]
   dsimp only
   rw[show 1+1=2 from rfl,hs2,show 2+11=13 from rfl,e1,hd1]
   rfl
  refine⟨ts',1,q,?_,e2⟩
  unfold Z13.tokens
  rw[if_neg (by omega),hs0,hg]
  rfl
 exact hS _ rfl
end Go.Proofs.YtmhoikfoogemnaaGreatDoor
