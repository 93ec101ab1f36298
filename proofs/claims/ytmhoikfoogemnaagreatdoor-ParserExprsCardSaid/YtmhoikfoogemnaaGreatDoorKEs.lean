import Derived.Test.YtmhoikfoogemnaaGreatDoorKEr
namespace Go.Proofs.YtmhoikfoogemnaaGreatDoor
open Go Go.RowKit Go.Vc
set_option linter.unusedVariables false
set_option linter.unusedSimpArgs false
theorem Rok.start2 {l l2:List aS} {at_:Int} (h:l2.map tk=l.map tk) (h0:0≤at_) (h1:at_≤l.length) (hl:l.length≤50000) (ht:∀ t∈l,t.Text.length≤50000):Rok ⟨l2,0⟩ ⟨l,at_,0⟩:=⟨.inl ⟨rfl,h⟩,h0,h1,hl,ht,by show(0:Int)≤0;omega,by show(0:Int)≤160;omega⟩
theorem St0' (l:List aS) (at_:Int) (l2:List aS):(⟨l2,at_,0,0,0⟩:RS)=St ⟨l2,0⟩ ⟨l,at_,0⟩:=by
 unfold St
 show _ =(⟨l2,at_+0,0+0,0,0⟩:RS)
 rw[Int.add_zero,Int.add_zero]
theorem EP {l l2:List aS} {at_:Int} (h:l2.map tk=l.map tk) (h0:0≤at_) (h1:at_≤l.length) (hl:l.length≤50000) (ht:∀ t∈l,t.Text.length≤50000):
  (∃ x r',jz l at_=some (x,r'.at_,0)∧eJ ⟨l2,at_,0,0,0⟩=some (x,St ⟨l2,0⟩ r')∧Nx ⟨l2,0⟩ ⟨l,at_,0⟩ r'∧okGExpr x∧wE x≤1000000∧vB x=0∧ig ⟨l,at_,0⟩=some (.ret (x,r')))∨
  (∃ a e,0≤a∧e≠0∧jz l at_=some (zE,a,e)∧∃ y s,eJ ⟨l2,at_,0,0,0⟩=some (y,s)∧s.E=e∧s.Pos=a):=by
 unfold jz eJ
 have hb:(decide (at_<0)||decide ((l.length:Int)<at_))=false:=by
  rw[Bool.eq_false_iff];intro h2;simp at h2;omega
 rw[hb,if_neg (by simp)]
 have hR:=Rok.start2 h h0 h1 hl ht
 unfold jO
 rw[St0' l at_ l2]
 rcases GH hR with⟨x,r',e1,e2,hn,_,hI⟩ | ⟨a,e,e1,ha,hq⟩
 ·have e2:nX (St ⟨l2,0⟩ ⟨l,at_,0⟩) 1=some (x,St ⟨l2,0⟩ r'):=by rcases e2 with h | ⟨h,_⟩;exact h;cases h
  rw[e1,e2]
  have hw:=hI.w
  have:=hn.ok.a1;have:=hn.ok.ll
  have ha:(⟨l,at_,0⟩:PR).at_=at_:=rfl
  obtain⟨v1,v2⟩:=Cm hI.ok (by omega)
  have eP:(yq (pb (some (bz.ret (x,r'))) fun(q:GExpr×PR)=>match q with | (r1,s1)=>some (bz.ret ((),s1,r1))) (fun(q:Unit×PR×GExpr)=>match q with | (r1,s1,s2)=>if(!decide ((0:Int)=0))=true then some (zE,(0:Int),(0:Int))else(iF s2).bind fun r2=>if(!decide (r2=0))=true then some (zE,at_,r2)else some (s2,s1.at_,(0:Int))) fun pa1 pn1=>some (zE,pa1,pn1))=((iF x).bind fun r2=>if(!decide (r2=0))=true then some (zE,at_,r2)else some (x,r'.at_,(0:Int))):=rfl
  by_cases c:vB x=0
  ·left
   refine⟨x,r',eP.trans ?_,?_,hn,hI.ok,by omega,c,rfl⟩
   ·rw[v1,Option.bind_some,if_neg (by simp[c])]
   ·rw[Option.bind_some]
    dsimp only
    rw[if_pos (by simp[sy]),v2,Option.bind_some,if_neg (by simp[c])]
  ·right
   refine⟨at_,vB x,h0,c,eP.trans ?_,?_⟩
   ·rw[v1,Option.bind_some,if_pos (by simp[c])]
   ·rw[Option.bind_some]
    dsimp only
    rw[if_pos (by simp[sy]),v2,Option.bind_some,if_pos (by simp[c])]
    unfold bq
    rw[if_pos (by simp[sy]),Option.bind_some]
    exact⟨_,_,rfl,rfl,by show at_+0=at_;omega⟩
 ·obtain⟨y,s,e2,q1,q2,q3⟩:=hq rfl
  rw[e1,e2]
  right
  refine⟨a,e,ha,q3,?_,y,s,?_,q1,q2⟩
  ·show(if e≠0 then _ else none)=_
   rw[if_pos q3];rfl
  ·rw[Option.bind_some,if_neg (by simp[q1,q3])]
theorem tI (s:List UInt8) (l:List aS) {a:Int} (h:0≤a):∃ v,jy s l a=some v∧lF s l a=some v:=by
 unfold jy lF
 by_cases c:a<l.length
 ·obtain⟨t,ht⟩:=cx (l:=l) (i:=a.toNat) (by omega)
  have e:lat l a=some t:=by unfold lat;rw[if_pos h];exact ht
  rw[if_neg (by simp;omega),if_pos (by simpa using c),e]
  exact⟨_,rfl,rfl⟩
 ·rw[if_pos (by simp;omega),if_neg (by simpa using c)]
  exact⟨_,rfl,rfl⟩
theorem FK {s:List UInt8} {l l2:List aS} {p:Int} (hs:jh s=some (l,p,0)) (h:l2.map tk=l.map tk) (hl:l.length≤50000) (ht:∀ t∈l,t.Text.length≤50000):
  (∃ x r',eQ s=some (x,0,0)∧eJ ⟨l2,0,0,0,0⟩=some (x,St ⟨l2,0⟩ r')∧r'.at_=l.length∧okGExpr x∧wE x≤1000000∧vB x=0∧ig ⟨l,0,0⟩=some (.ret (x,r'))∧Nx ⟨l2,0⟩ ⟨l,0,0⟩ r')∨
  (∃ a e v,0≤a∧e≠0∧eQ s=some (zE,v,e)∧jy s l a=some v∧∃ y q,eJ ⟨l2,0,0,0,0⟩=some (y,q)∧((q.E=e∧q.Pos=a)∨(q.E=0∧q.At=a∧e=5∧a<l.length∧∃ r',q=St ⟨l2,0⟩ r'))):=by
 unfold eQ
 rw[hs,Option.bind_some,if_neg (by simp)]
 rcases EP (at_:=0) h (by omega) (by omega) hl ht with⟨x,r',e1,e2,hn,ho,hw,hv,hr⟩ | ⟨a,e,ha,he,e1,y,q,e2,q1,q2⟩
 ·have h0:=hn.ok.a0
  have h1:=hn.ok.a1
  rw[hn.l]at h1
  have hh:(⟨l,0,0⟩:PR).l=l:=rfl
  rw[hh]at h1
  dsimp only
  rw[e1,Option.bind_some]
  by_cases c:r'.at_<l.length
  ·right
   obtain⟨v,v1,v2⟩:=tI s l h0
   refine⟨r'.at_,5,v,h0,by omega,?_,v1,x,_,e2,.inr ⟨rfl,by show r'.at_+0=_;omega,rfl,c,r',rfl⟩⟩
   rw[if_pos (by simp[c])]
   unfold gX
   rw[if_pos (by simp)]
   dsimp only
   rw[v1];rfl
  ·left
   refine⟨x,r',?_,e2,by omega,ho,hw,hv,hr,hn⟩
   rw[if_neg (by simp;omega)]
   unfold gX
   rw[if_neg (by simp)]
 ·right
  obtain⟨v,v1,v2⟩:=tI s l ha
  refine⟨a,e,v,ha,he,?_,v1,y,q,e2,.inl ⟨q1,q2⟩⟩
  dsimp only
  rw[e1,Option.bind_some,if_neg (by simp[he])]
  unfold gX
  rw[if_pos (by simp[he])]
  dsimp only
  rw[v1];rfl
theorem E5 {s:List UInt8} (h:s.length≤65536):(Z13.tokens s).1.length≤s.length∧∀ t∈(Z13.tokens s).1,t.Text.length≤s.length:=by
 by_cases he:(Z13.tokens s).2.2=0
 ·have hc:=Z13.tokens_chain s h he
  refine⟨by have:=Z13.chain_le _ _ _ hc;omega,?_⟩
  have go:∀ (ts:List aS) (a:Nat),Z13.Chain s a ts→∀ t∈ts,t.Text.length≤s.length:=by
   intro ts
   induction ts with
   | nil=>intro a _ t ht;cases ht
   | cons u ts ih=>
    intro a ⟨_,_,_,h4,_,h6⟩ t ht
    rcases List.mem_cons.1 ht with rfl | ht
    ·omega
    ·exact ih _ h6 t ht
  exact go _ 0 hc
 ·rw[Z13.tokens_none s he];exact⟨by simp,by intro t ht;cases ht⟩
theorem C8 {s:List UInt8} (hl:s.length≤50000):∃ r,eQ s=some r∧m7 s=some r∧okGExpr r.1∧wE r.1≤1000000:=by
 have htok:=Z13.lexer_Tokenize s (by omega)
 have hrtok:=Z13.ref13_Tokenize s (by omega)
 obtain⟨k1,k2⟩:=E5 (s:=s) (by omega)
 unfold m7
 rw[hrtok,Option.bind_some]
 by_cases c:(Z13.tokens s).2.2=0
 ·have et:Z13.tokI s=((Z13.tokens s).1,((Z13.tokens s).2.1:Int),0):=by unfold Z13.tokI;rw[c];rfl
  rw[et]at htok ⊢
  generalize (Z13.tokens s).1=l at *
  generalize ((Z13.tokens s).2.1:Int)=pz at *
  rw[if_neg (by simp)]
  rcases FK htok rfl (by omega) (fun t ht=>by have:=k2 t ht;omega)with⟨x,r',e1,e2,e3,ho,hw,_⟩ | ⟨a,e,v,ha,he,e1,e2,y,q,e3,hq⟩
  ·refine⟨_,e1,?_,ho,hw⟩
   rw[e2,Option.bind_some,if_neg (by simp[sy,rW,e3])]
   unfold iB
   rw[if_neg (by simp[sy])]
  ·refine⟨_,e1,?_,FP,by have:=HG;show wE zE≤ _;omega⟩
   obtain⟨v',v1,v2⟩:=tI s l ha
   obtain rfl:v=v':=Option.some.inj (e2.symm.trans v1)
   rw[e3,Option.bind_some]
   rcases hq with⟨q1,q2⟩ | ⟨q1,q2,rfl,q3,r',rfl⟩
   ·rw[if_neg (by simp[q1,he])]
    unfold iB
    rw[if_pos (by simp[q1,he]),q2]
    dsimp only
    rw[v2,q1];rfl
   ·have hlen:(l.length:Int)≤(St ⟨l,0⟩ r').At↔False:=by rw[q2];exact⟨fun h=>by omega,fun h=>h.elim⟩
    rw[if_pos (by rw[q1,q2];simp[q3])]
    unfold cz bq
    rw[FG,if_neg (by simp only[decide_eq_true_eq];rw[hlen];exact id),q1,if_pos (by simp),Option.bind_some,Option.bind_some]
    unfold iB
    rw[if_pos (by simp)]
    dsimp only
    rw[q2,v2];rfl
 ·have hn:=Z13.tokens_none s c
  have et:(Z13.tokI s).2.2=((Z13.tokens s).2.2:Int):=rfl
  have c':¬ ((Z13.tokens s).2.2:Int)=0:=by omega
  unfold eQ
  rw[htok,Option.bind_some,if_pos (by rw[et];simp[c]),if_pos (by rw[et];simp[c])]
  exact⟨_,rfl,rfl,FP,by have:=HG;show wE zE≤ _;omega⟩
theorem uE (s:List UInt8) (hs:okS s):j3 s=some true:=by
 unfold j3
 rw[FC]
 by_cases h:(2000:Int)<(s.length:Int)
 ·rw[if_pos (by simpa using h)];rfl
 ·rw[if_neg (by simpa using h)]
  obtain⟨r,e1,e2,e3,e4⟩:=C8 (s:=s) (by omega)
  rw[e1,e2,Option.bind_some,Option.bind_some,wX e3 e4]
  simp[gd]
end Go.Proofs.YtmhoikfoogemnaaGreatDoor
