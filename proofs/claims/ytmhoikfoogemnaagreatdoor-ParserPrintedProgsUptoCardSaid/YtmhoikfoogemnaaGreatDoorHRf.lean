import Derived.Test.YtmhoikfoogemnaaGreatDoorHRc
namespace Go.Proofs.YtmhoikfoogemnaaGreatDoor
open Go Go.RowKit Go.Vc
set_option linter.unusedVariables false
set_option linter.unusedSimpArgs false
def CC (e:ae) (ts:List (List (List UInt8))):List (List UInt8):=
 if e.Op=1 then wK e.Type_++([[40]]++(zi (Hi e.Type_ e.Val)++[[41]]))
 else if e.Op=2 then[[91]]++(jY e.Lin++[[93]])
 else if e.Op=3 then[e.Name]++([[91]]++(cp (e.Idx.map Dz)++[[93]]))
 else if e.Op=8 then[[45]]++KJ (e.Args.getD 0 default) (ts.getD 0 []) 7
 else if e.Op=18 then[[33]]++KJ (e.Args.getD 0 default) (ts.getD 0 []) 3
 else if e.Op=9 then[[109,105,110]]++([[40]]++(cp ts++[[41]]))
 else if e.Op=10 then[[109,97,120]]++([[40]]++(cp ts++[[41]]))
 else if e.Op=11 then[[105,102]]++([[40]]++(cp ts++[[41]]))
 else if e.Op=12 then[[99,97,115,116]]++([[40]]++(cp (wK e.Type_::ts)++[[41]]))
 else KJ (e.Args.getD 0 default) (ts.getD 0 []) (kH e.Op)++(([[32]]++([mE e.Op]++[[32]]))++KJ (e.Args.getD 1 default) (ts.getD 1 []) (kH e.Op+1))
def nv:ae→List (List UInt8)
 | ⟨op,nm,v,t,l,ix,args⟩=>CC ⟨op,nm,v,t,l,ix,args⟩ (go args)
 where go:List ae→List (List (List UInt8))
  | []=>[]
  | x::xs=>nv x::go xs
theorem J9:∀ (l:List ae),nv.go l=l.map nv
 | []=>rfl
 | x::l=>by rw[nv.go,J9 l,List.map_cons]
theorem vq (e:ae):nv e=CC e (e.Args.map nv):=by cases e;rw[nv,J9]
theorem Eh:∀ (k:Nat) (e:ae),wE e<k→okGExpr e→ov e=0→Lex (nv e) (sY e) true
 | 0,_,h,_,_=>absurd h (by omega)
 | k+1,e,hk,ho,he=>by
  obtain⟨hn,ha⟩:=pX he
  have nf:=JA hn
  obtain⟨o1,o2,o3⟩:=ho.out
  have hargs:∀ a∈e.Args,Lex (nv a) (sY a) true:=λa hm=>Eh k a (by have:=jN hm;omega) (o3.1 a hm) (ha a hm)
  have hget:∀ i,i<e.Args.length→Lex ((e.Args.map nv).getD i []) ((e.Args.map sY).getD i []) true:=λi hi=>by
   rw[List.getD_eq_getElem?_getD,List.getD_eq_getElem?_getD,List.getElem?_map,List.getElem?_map,List.getElem?_eq_getElem hi]
   exact hargs _ (List.getElem_mem hi)
  have hlen:=nf.len
  have wd:∀ t∈[[109,105,110],[109,97,120],[105,102],[99,97,115,116]],td t:=by
   intro t ht
   simp only[List.mem_cons,List.not_mem_nil,or_false]at ht
   rcases ht with rfl | rfl | rfl | rfl<;>exact⟨by decide,by decide,by decide,by decide⟩
  rw[vq,CB]
  unfold CC Pw
  by_cases h1:e.Op=1
  ·rw[if_pos h1,if_pos h1]
   have v3:=K0 (nf.ty (Or.inl h1)) (nf.val h1);have v2:=(FT (nf.ty (Or.inl h1)) (nf.val h1)).2.1
   rw[v3]
   exact(Lex.type (nf.ty (Or.inl h1))).app2 (Lex.fmt v2).paren ⟨40,_,rfl,by decide⟩
  rw[if_neg h1,if_neg h1]
  by_cases h2:e.Op=2
  ·rw[if_pos h2,if_pos h2];exact(Lex.lin nf.lin).brack
  rw[if_neg h2,if_neg h2]
  by_cases h3:e.Op=3
  ·rw[if_pos h3,if_pos h3]
   exact(Q8 (fw (nf.nam h3))).app2 (Rh λx hx=>Lex.index (nf.ix x hx)).brack ⟨91,_,rfl,by decide⟩
  rw[if_neg h3,if_neg h3]
  by_cases h8:e.Op=8
  ·rw[if_pos h8,if_pos h8]
   have:e.Args.length=1:=by rw[h8]at hlen;have:nr 8=1:=rfl;omega
   exact(Re (t:=[45]) (by decide) (by decide) (by decide)).app (Lex.opd 7 (hget 0 (by omega)))
  rw[if_neg h8,if_neg h8]
  by_cases h18:e.Op=18
  ·rw[if_pos h18,if_pos h18]
   have:e.Args.length=1:=by rw[h18]at hlen;have:nr 18=1:=rfl;omega
   exact(Re (t:=[33]) (by decide) (by decide) (by decide)).app (Lex.opd 3 (hget 0 (by omega)))
  rw[if_neg h18,if_neg h18]
  by_cases h9:e.Op=9
  ·rw[if_pos h9,if_pos h9]
   exact(Q8 (wd _ (by simp))).app2 (Rh hargs).paren ⟨40,_,rfl,by decide⟩
  rw[if_neg h9,if_neg h9]
  by_cases h10:e.Op=10
  ·rw[if_pos h10,if_pos h10]
   exact(Q8 (wd _ (by simp))).app2 (Rh hargs).paren ⟨40,_,rfl,by decide⟩
  rw[if_neg h10,if_neg h10]
  by_cases h11:e.Op=11
  ·rw[if_pos h11,if_pos h11]
   exact(Q8 (wd _ (by simp))).app2 (Rh hargs).paren ⟨40,_,rfl,by decide⟩
  rw[if_neg h11,if_neg h11]
  by_cases h12:e.Op=12
  ·rw[if_pos h12,if_pos h12]
   have hj:=Rh (l:=(wK e.Type_,Dx e.Type_)::e.Args.map λa=>(nv a,sY a)) (f:=Prod.fst) (g:=Prod.snd) (z:=false) (λx hx=>by
    rcases List.mem_cons.1 hx with rfl | hx
    ·exact Lex.type (nf.ty (Or.inr h12))
    ·obtain⟨a,hm,rfl⟩:=List.mem_map.1 hx
     exact(hargs a hm).weak2)
   rw[List.map_cons,List.map_cons,List.map_map,List.map_map]at hj
   exact(Q8 (wd _ (by simp))).app2 hj.paren ⟨40,_,rfl,by decide⟩
  rw[if_neg h12,if_neg h12]
  have hl2:e.Args.length=2:=by
   unfold nr at hlen
   rw[if_neg (by simp[h1,h2,h3]),if_neg (by simp[h8,h12,h18]),if_neg h11]at hlen;omega
  have hsy:mE e.Op∈gt∧El (mE e.Op)=false:=by
   have e1:=nf.op1;have e2:=nf.op2
   unfold mE
   repeat' split
   all_goals first | exact⟨by decide,by decide⟩ | (exfalso;omega)
  exact(Lex.opd _ (hget 0 (by omega))).app ((Lex.oper hsy.1 hsy.2).app (Lex.opd _ (hget 1 (by omega))))
theorem J7 {e:ae} (ho:okGExpr e) (he:ov e=0):∃ t r,nv e=t::r∧t≠[32]:=by
 have key:∀ (k:Nat) (e:ae),wE e<k→okGExpr e→ov e=0→∃ t r,nv e=t::r∧t≠[32]:=by
  intro k
  induction k with
  | zero=>intro e h;omega
  | succ k ih=>
   intro e hk ho he
   obtain⟨hn,ha⟩:=pX he
   have nf:=JA hn
   obtain⟨o1,o2,o3⟩:=ho.out
   have hlen:=nf.len
   rw[vq]
   unfold CC
   by_cases h1:e.Op=1
   ·rw[if_pos h1]
    unfold wK
    split
    ·exact⟨_,_,rfl,by decide⟩
    split
    ·exact⟨_,_,rfl,by decide⟩
    ·exact⟨_,_,rfl,by decide⟩
   rw[if_neg h1]
   by_cases h2:e.Op=2
   ·rw[if_pos h2];exact⟨_,_,rfl,by decide⟩
   rw[if_neg h2]
   by_cases h3:e.Op=3
   ·rw[if_pos h3]
    refine⟨_,_,rfl,λhh=>?_⟩
    have:=(fw (nf.nam h3)).1
    rw[hh]at this;revert this;decide
   rw[if_neg h3]
   by_cases h8:e.Op=8
   ·rw[if_pos h8];exact⟨_,_,rfl,by decide⟩
   rw[if_neg h8]
   by_cases h18:e.Op=18
   ·rw[if_pos h18];exact⟨_,_,rfl,by decide⟩
   rw[if_neg h18]
   by_cases h9:e.Op=9
   ·rw[if_pos h9];exact⟨_,_,rfl,by decide⟩
   rw[if_neg h9]
   by_cases h10:e.Op=10
   ·rw[if_pos h10];exact⟨_,_,rfl,by decide⟩
   rw[if_neg h10]
   by_cases h11:e.Op=11
   ·rw[if_pos h11];exact⟨_,_,rfl,by decide⟩
   rw[if_neg h11]
   by_cases h12:e.Op=12
   ·rw[if_pos h12];exact⟨_,_,rfl,by decide⟩
   rw[if_neg h12]
   have hl2:e.Args.length=2:=by
    unfold nr at hlen
    rw[if_neg (by simp[h1,h2,h3]),if_neg (by simp[h8,h12,h18]),if_neg h11]at hlen;omega
   obtain⟨a,b,hab⟩:=H0 hl2
   rw[hab]
   obtain⟨t,r,htr,hne⟩:=ih a (by have:=jN (e:=e) (a:=a) (by rw[hab];simp);omega) (o3.1 a (by rw[hab];simp)) (ha a (by rw[hab];simp))
   unfold KJ
   simp only[List.map_cons,List.getD_cons_zero]
   split
   ·exact⟨_,_,rfl,by decide⟩
   ·rw[htr];exact⟨_,_,rfl,hne⟩
 exact key (wE e+1) e (by omega) ho he
def Ad (e:ae) (L:Int):List (List UInt8):=dg (KJ e (nv e) L)
theorem wL {e:ae} {L:Int} (h:kH e.Op<L):Ad e L=[40]::(dg (nv e)++[[41]]):=by
 unfold Ad KJ
 rw[if_pos h]
 show List.filter iG _ =_
 rw[List.filter_append,List.filter_append];rfl
theorem q8 {e:ae} {L:Int} (h:¬ kH e.Op<L):Ad e L=dg (nv e):=by unfold Ad KJ;rw[if_neg h]
theorem yy {e:ae} {L:Int} (h:kH e.Op≠L):Ad e L=Ad e (L+1):=by
 by_cases c:kH e.Op<L
 ·rw[wL c,wL (by omega)]
 ·rw[q8 c,q8 (by omega)]
theorem BQ (e:ae):Ad e 1=dg (nv e):=q8 (by have:=FH e.Op;omega)
theorem zX {e:ae} (h:VE e) (hb:qp e.Op):∃ a b,e=EY e.Op a b∧a∈e.Args∧b∈e.Args∧dg (nv e)=Ad a (kH e.Op)++(mE e.Op::Ad b (kH e.Op+1)):=by
 have nf:=h.node
 have hlen:=nf.len
 unfold qp at hb
 have hl2:e.Args.length=2:=by
  unfold nr at hlen
  rw[if_neg (by omega),if_neg (by omega),if_neg (by omega)]at hlen;omega
 obtain⟨a,b,hab⟩:=H0 hl2
 have hn:=nf.nnam (by omega)
 refine⟨a,b,tM rfl hn.1 (nf.nval (by omega)) (nf.nty (by omega) (by omega)) (nf.nlin (by omega)) hn.2 hab,by rw[hab];simp,by rw[hab];simp,?_⟩
 rw[vq]
 unfold CC
 rw[if_neg (by omega),if_neg (by omega),if_neg (by omega),if_neg (by omega),if_neg (by omega),if_neg (by omega),if_neg (by omega),if_neg (by omega),if_neg (by omega),hab]
 simp only[List.map_cons,List.map_nil,List.getD_cons_zero,List.getD_cons_succ]
 unfold Ad
 show List.filter iG _ =_
 rw[List.filter_append,List.filter_append,List.filter_append,List.filter_append]
 have hs:=(Kq (op:=e.Op) (by unfold qp;exact hb)).2
 rw[show List.filter iG [mE e.Op]=[mE e.Op]by rw[List.filter_cons_of_pos (JD (Or.inr (Or.inr hs)))];rfl]
 rfl
theorem Bt:∀ (k:Nat) (e:ae),wE e<k→VE e→∃ t s,dg (nv e)=t::s∧t≠[41]∧t≠[93]∧t≠[44]∧(4≤kH e.Op→t≠[33])∧(kH e.Op=8→t≠[40]∧t≠[45])
 | 0,_,h,_=>absurd h (by omega)
 | k+1,e,hk,h=>by
  have nf:=h.node
  have o1:=nf.op1
  have o2:=nf.op2
  by_cases hb:qp e.Op
  ·obtain⟨a,b,_,ha,_,ht⟩:=zX h hb
   obtain⟨t,s,h1,h2,h3,h4,h5,h6⟩:=Bt k a (by have:=jN ha;omega) (h.arg ha)
   rw[ht]
   have h8:kH e.Op≠8:=by unfold qp at hb;rcases hb with h | h | h | h | h | h | h | h | h<;>rw[h]<;>decide
   by_cases c:kH a.Op<kH e.Op
   ·rw[wL c];exact⟨_,_,rfl,by decide,by decide,by decide,λ_=>by decide,λhh=>absurd hh h8⟩
   ·rw[q8 c,h1];exact⟨_,_,rfl,h2,h3,h4,λhh=>h5 (by omega),λhh=>absurd hh h8⟩
  unfold qp at hb
  rw[vq]
  unfold CC
  by_cases h1:e.Op=1
  ·rw[if_pos h1]
   have e1:=BP (nf.ty (Or.inl h1))
   show ∃ t s,List.filter iG _ =t::s∧ _
   rw[List.filter_append,show List.filter iG (wK e.Type_)=_ from e1]
   split
   ·exact⟨_,_,rfl,by decide,by decide,by decide,λ_=>by decide,λ_=>by decide⟩
   split
   ·exact⟨_,_,rfl,by decide,by decide,by decide,λ_=>by decide,λ_=>by decide⟩
   ·exact⟨_,_,rfl,by decide,by decide,by decide,λ_=>by decide,λ_=>by decide⟩
  rw[if_neg h1]
  by_cases h2:e.Op=2
  ·rw[if_pos h2];exact⟨_,_,rfl,by decide,by decide,by decide,λ_=>by decide,λ_=>by decide⟩
  rw[if_neg h2]
  by_cases h3:e.Op=3
  ·rw[if_pos h3]
   have hw:=fw (nf.nam h3)
   show ∃ t s,List.filter iG _ =t::s∧ _
   rw[List.filter_append,List.filter_cons_of_pos (uQ hw)]
   exact⟨_,_,rfl,lJ hw (by decide),lJ hw (by decide),lJ hw (by decide),λ_=>lJ hw (by decide),λ_=>⟨lJ hw (by decide),lJ hw (by decide)⟩⟩
  rw[if_neg h3]
  by_cases h8:e.Op=8
  ·rw[if_pos h8];exact⟨_,_,rfl,by decide,by decide,by decide,λ_=>by decide,λhh=>absurd hh (by rw[h8];decide)⟩
  rw[if_neg h8]
  by_cases h18:e.Op=18
  ·rw[if_pos h18];exact⟨_,_,rfl,by decide,by decide,by decide,λhh=>absurd hh (by rw[h18];decide),λhh=>absurd hh (by rw[h18];decide)⟩
  rw[if_neg h18]
  by_cases h9:e.Op=9
  ·rw[if_pos h9];exact⟨_,_,rfl,by decide,by decide,by decide,λ_=>by decide,λ_=>by decide⟩
  rw[if_neg h9]
  by_cases h10:e.Op=10
  ·rw[if_pos h10];exact⟨_,_,rfl,by decide,by decide,by decide,λ_=>by decide,λ_=>by decide⟩
  rw[if_neg h10]
  by_cases h11:e.Op=11
  ·rw[if_pos h11];exact⟨_,_,rfl,by decide,by decide,by decide,λ_=>by decide,λ_=>by decide⟩
  rw[if_neg h11]
  by_cases h12:e.Op=12
  ·rw[if_pos h12];exact⟨_,_,rfl,by decide,by decide,by decide,λ_=>by decide,λ_=>by decide⟩
  exfalso;omega
theorem first {e:ae} (h:VE e):∃ t s,dg (nv e)=t::s∧t≠[41]∧t≠[93]∧t≠[44]∧(4≤kH e.Op→t≠[33])∧(kH e.Op=8→t≠[40]∧t≠[45]):=Bt (wE e+1) e (by omega) h
theorem Gx {e:ae} {s:List UInt8} {L:Int} (h:VE e) (hc:(e.Op=8∧s=[45]∧L=7)∨(e.Op=18∧s=[33]∧L=3)):∃ a,e=unE e.Op a∧a∈e.Args∧dg (nv e)=s::Ad a L:=by
 have nf:=h.node
 have hlen:=nf.len
 have hl1:e.Args.length=1:=by
  rcases hc with⟨h,_⟩ | ⟨h,_⟩<;>rw[h]at hlen
  ·have:nr 8=1:=rfl;omega
  ·have:nr 18=1:=rfl;omega
 obtain⟨a,ha⟩:=List.length_eq_one_iff.1 hl1
 have hn:=nf.nnam (by omega)
 refine⟨a,tM rfl hn.1 (nf.nval (by omega)) (nf.nty (by omega) (by omega)) (nf.nlin (by omega)) hn.2 ha,by rw[ha];simp,?_⟩
 rw[vq]
 unfold CC
 rcases hc with⟨h,rfl,rfl⟩ | ⟨h,rfl,rfl⟩
 ·rw[if_neg (by omega),if_neg (by omega),if_neg (by omega),if_pos h,ha];rfl
 ·rw[if_neg (by omega),if_neg (by omega),if_neg (by omega),if_neg (by omega),if_pos h,ha];rfl
def Jp (e:ae):List (List UInt8):=
 if e.Op=1 then dg (wK e.Type_)++([40]::(dg (zi (Hi e.Type_ e.Val))++[[41]]))
 else if e.Op=2 then[91]::(dg (jY e.Lin)++[[93]])
 else if e.Op=3 then e.Name::[91]::(dg (cp (e.Idx.map Dz))++[[93]])
 else if e.Op=9 then[109,105,110]::[40]::(dg (cp (e.Args.map nv))++[[41]])
 else if e.Op=10 then[109,97,120]::[40]::(dg (cp (e.Args.map nv))++[[41]])
 else if e.Op=11 then[105,102]::[40]::(dg (cp (e.Args.map nv))++[[41]])
 else[99,97,115,116]::[40]::(dg (wK e.Type_)++([44]::(dg (cp (e.Args.map nv))++[[41]])))
theorem Ea {e:ae} (h:VE e) (h8:kH e.Op=8):e.Op=1∨e.Op=2∨e.Op=3∨e.Op=9∨e.Op=10∨e.Op=11∨e.Op=12:=by
 have o1:=h.node.op1
 have o2:=h.node.op2
 unfold kH at h8
 repeat' split at h8
 all_goals first | omega | (exfalso;omega)
theorem Lp {e:ae} (h:VE e) (h8:kH e.Op=8):dg (nv e)=Jp e:=by
 have nf:=h.node
 have ho:=Ea h h8
 rw[vq]
 unfold CC Jp
 by_cases h1:e.Op=1
 ·rw[if_pos h1,if_pos h1]
  show List.filter iG _ =_
  rw[List.filter_append,MX];rfl
 rw[if_neg h1,if_neg h1]
 by_cases h2:e.Op=2
 ·rw[if_pos h2,if_pos h2]
  show List.filter iG _ =_
  rw[MX];rfl
 rw[if_neg h2,if_neg h2]
 by_cases h3:e.Op=3
 ·rw[if_pos h3,if_pos h3]
  show List.filter iG _ =_
  rw[List.filter_append,MX,List.filter_cons_of_pos (uQ (fw (nf.nam h3)))];rfl
 rw[if_neg h3,if_neg h3,if_neg (by omega),if_neg (by omega)]
 by_cases h9:e.Op=9
 ·rw[if_pos h9,if_pos h9]
  show List.filter iG _ =_
  rw[List.filter_append,MX];rfl
 rw[if_neg h9,if_neg h9]
 by_cases h10:e.Op=10
 ·rw[if_pos h10,if_pos h10]
  show List.filter iG _ =_
  rw[List.filter_append,MX];rfl
 rw[if_neg h10,if_neg h10]
 by_cases h11:e.Op=11
 ·rw[if_pos h11,if_pos h11]
  show List.filter iG _ =_
  rw[List.filter_append,MX];rfl
 rw[if_neg h11,if_neg h11,if_pos (by omega)]
 have h12:e.Op=12:=by omega
 have hl1:e.Args.length=1:=by have hlen:=nf.len;rw[h12]at hlen;have:nr 12=1:=rfl;omega
 obtain⟨a,ha⟩:=List.length_eq_one_iff.1 hl1
 rw[ha]
 show List.filter iG _ =_
 rw[List.filter_append,MX]
 simp only[List.map_cons,List.map_nil,cp]
 rw[show dg (wK e.Type_++([[44],[32]]++nv a))=dg (wK e.Type_)++([44]::dg (nv a))by
  show List.filter iG _ =_
  rw[MX];rfl]
 simp only[List.append_assoc]
 rfl
end Go.Proofs.YtmhoikfoogemnaaGreatDoor
namespace Go.Proofs.YtmhoikfoogemnaaGreatDoor
open Go Go.RowKit Go.Vc
set_option linter.unusedVariables false
set_option linter.unusedSimpArgs false
theorem FD {f:aC} (h:okGLin f) (ho:cv f) (hl:f.L.length≤300):MD f:=⟨ho,Ba h.1,λm hm=>Ba (h.2.1 m hm).2,by omega⟩
theorem Lw {x:aM} (h:nP x) (ho:FC x) (hw:wI x≤300):Jy x:=by
 obtain⟨l1,l2,l3,_⟩:=smI.lens ⟨h,hw⟩
 exact⟨ho,FD h.1 ho.1 l1,λf hf=>FD (h.2.2.1 f hf) (ho.2.1 f hf) (l3 f hf),by omega⟩
structure Nd (r r':PR) (rest:Tx):Prop where
 ok:Ry r'
 l:r'.l=r.l
 d:r'.deep=r.deep - 1
 rs:fH r'=rest
theorem MQ {r:PR} {t:List UInt8} {rest:Tx} (h:Ry r) (e:fH r=t::rest) (hd:r.deep≤159):bM r=some (.ret ((),KM r))∧Ry (KM r)∧fH (KM r)=rest:=by
 obtain⟨_,_,_,_,_,hw⟩:=aU h e
 have d0:=h.d0
 refine⟨?_,⟨hw.ok.a0,hw.ok.a1,h.ll,h.tl,h.kd,by show 0≤r.deep+1;omega,by show r.deep+1≤160;omega⟩,hw.rs⟩
 unfold bM eX
 rw[if_neg (by simp;omega),h.rok.wi1,wi (p:=r.deep+1) ⟨by omega,by omega⟩];rfl
theorem B3 {r:PR} {rest:Tx} (h:Ry r) (e:fH r=[40]::rest) (hd:r.deep≤159):cW r=some (.ret ((),KM r))∧Ry (KM r)∧fH (KM r)=rest:=by
 obtain⟨h1,h2,h3⟩:=MQ h e hd
 rw[NS h.rok (sX h e (by decide))]
 exact⟨h1,h2,h3⟩
theorem CM {q:PR} {rest:Tx} (h:Ry q) (e:fH q=[41]::rest) (hd:1≤q.deep):∃ r',dN q=some (.ret ((),r'))∧Nd q r' rest:=by
 obtain⟨_,_,_,_,_,hw⟩:=aU h e
 have d1:=h.d1
 unfold dN
 rw[kI h e (by decide),aW]
 refine⟨⟨q.l,q.at_+1,q.deep - 1⟩,?_,⟨hw.ok.a0,hw.ok.a1,h.ll,h.tl,h.kd,by show 0≤q.deep - 1;omega,by show q.deep - 1≤160;omega⟩,rfl,rfl,hw.rs⟩
 have:av ((mI q).deep - 1)=q.deep - 1:=wi ⟨by show -9223372036854775808≤q.deep - 1;omega,by show q.deep - 1≤ _;omega⟩
 dsimp only
 rw[this];rfl
def Pq (l:List ae):Tx:=match l with | []=>[] | x::l=>[44]::dg (cp ((x::l).map nv))
theorem y7 (x:ae) (l:List ae):dg (cp ((x::l).map nv))=dg (nv x)++Pq l:=by
 cases l with
 | nil=>simp[Pq,cp]
 | cons y l=>exact vK nv x y l
theorem Fh (rest:Tx):stopE 1 ([41]::rest):=stopF.e ⟨_,_,rfl,.inr (.inl rfl)⟩
theorem I1 (l:List ae) (rest:Tx):stopE 1 (Pq l++[41]::rest):=by
 cases l with
 | nil=>exact Fh rest
 | cons x l=>exact stopF.e ⟨_,_,rfl,.inr (.inr rfl)⟩
abbrev Q4 (R:RP) (a:ae) (c:Int):Prop:=∀ (r:PR) (rest:Tx),Ry r→r.deep+c≤160→fH r=dg (nv a)++rest→stopE 1 rest→∃ r',R r=some (.ret (a,r'))∧Nw r r' rest
theorem zt {R:RP} {c:Int} :∀ (l:List ae) (F i many:Nat) (q:PR) (e:ae) (rest:Tx),many=i+l.length→l.length<F→many≤10→e.Args.length≤i→Ry q→1≤q.deep→q.deep+c≤160→(∀ a∈l,Q4 R a c)→fH q=(if i=0 then dg (cp (l.map nv))else Pq l)++[41]::rest→
  ∃ r',br (many:Int) R F (i:Int) q e=some (.ret (⟨e.Op,e.Name,e.Val,e.Type_,e.Lin,e.Idx,e.Args++l⟩,r'))∧Nd q r' rest
 | _,0,_,_,_,_,_,_,h,_,_,_,_,_,_,_=>absurd h (by omega)
 | [],F+1,i,many,q,e,rest,hm,hF,h10,ha,hq,hd,hc,hR,hr=>by
  have hr':fH q=[41]::rest:=by rw[hr];split<;>rfl
  obtain⟨r',e1,hw⟩:=CM hq hr' hd
  simp only[List.length_nil]at hm
  simp only[br]
  rw[if_neg (by simp;omega),e1,aW,List.append_nil]
  exact⟨r',by cases e;rfl,hw⟩
 | x::l,F+1,i,many,q,e,rest,hm,hF,h10,ha,hq,hd,hc,hR,hr=>by
  simp only[List.length_cons]at hm hF
  simp only[br]
  rw[if_pos (bs (by omega))]
  have step:∀ (q2:PR),Nw q q2 (dg (nv x)++(Pq l++[41]::rest))→∃ r',dX R e (br (many:Int) R F) (i:Int) q2=some (.ret (⟨e.Op,e.Name,e.Val,e.Type_,e.Lin,e.Idx,e.Args++x::l⟩,r'))∧Nd q r' rest:=λq2 h2=>by
   obtain⟨q3,e3,h3⟩:=hR x (by simp) q2 _ h2.ok (by rw[h2.d];exact hc) h2.rs (I1 l rest)
   unfold dX
   rw[e3,aW]
   dsimp only
   rw[aR (by simp only[List.length_cons,List.length_nil];omega),Option.bind_some,mH (by omega)]
   obtain⟨r',e4,h4⟩:=zt l F (i+1) many q3 ⟨e.Op,e.Name,e.Val,e.Type_,e.Lin,e.Idx,e.Args++[x]⟩ rest (by omega) (by omega) h10 (by
    show(e.Args++[x]).length≤i+1
    rw[List.length_append,List.length_cons,List.length_nil];omega) h3.ok (by rw[h3.d,h2.d];exact hd) (by rw[h3.d,h2.d];exact hc) (λa ha=>hR a (by simp[ha])) (by rw[h3.rs,if_neg (by omega)])
   rw[e4]
   refine⟨r',by simp,h4.ok,h4.l.trans (h3.l.trans h2.l),?_,h4.rs⟩
   rw[h4.d,h3.d,h2.d]
  by_cases c0:i=0
  ·subst c0
   rw[if_pos rfl,y7,List.append_assoc]at hr
   rw[if_neg (by simp)]
   exact step q ⟨hq,rfl,rfl,hr⟩
  ·rw[if_neg c0]at hr
   have hr':fH q=[44]::(dg (nv x)++(Pq l++[41]::rest)):=by rw[hr];show[44]::(dg (cp ((x::l).map nv))++[41]::rest)=_;rw[y7,List.append_assoc]
   obtain⟨_,_,_,_,_,hw⟩:=aU hq hr'
   rw[if_pos (by simp;omega),kI hq hr' (by decide),aW]
   exact step (mI q) hw
end Go.Proofs.YtmhoikfoogemnaaGreatDoor
namespace Go.Proofs.YtmhoikfoogemnaaGreatDoor
open Go Go.RowKit Go.Vc
set_option linter.unusedVariables false
set_option linter.unusedSimpArgs false
abbrev DH:List UInt8:=[102,114,97,99]
abbrev IH:List UInt8:=[105,110,116]
abbrev II:List UInt8:=[102,105,120]
theorem FE {e:ae} (nf:KA e) (h:e.Op=1∨e.Op=2∨e.Op=3):e.Args=[]:=by
 have:=nf.len
 unfold nr at this
 rw[if_pos h]at this
 exact List.length_eq_zero_iff.1 (by omega)
def yi (R:RP) (s4:PR):Option (bZ (ae×PR)):=
 (bh s4 [KY,KZ,QQ,Gu]).bind λ⟨r15,s10⟩=>
 if decide (r15=0)then
  pb (bo R s10 9 2) λ⟨r16,s11⟩=>
  some (.ret (r16,s11))
 else
  if decide (r15=1)then
   pb (bo R s10 10 2) λ⟨r17,s12⟩=>
   some (.ret (r17,s12))
  else
   if decide (r15=2)then
    pb (bo R s10 11 3) λ⟨r18,s13⟩=>
    some (.ret (r18,s13))
   else
    if decide (r15=3)then
     pb (ft R s10) λ⟨r19,s14⟩=>
     some (.ret (r19,s14))
    else Fy s10
theorem vd {R:RP} {r:PR} {t:List UInt8} {q:Tx} (h:Ry r) (e:fH r=t::q) (h1:t≠[40]) (h2:t≠[91]) (h3:t≠DH) (h4:t≠IH) (h5:t≠II):aX R r=yi R r:=by
 unfold aX
 rw[qd h.rok,pi h (gX e h1),Option.bind_some,if_neg (by simp),pG h (gX e h2),Option.bind_some]
 dsimp only
 rw[if_neg (by simp),qd h.rok,pi h (gX e h3),Option.bind_some,if_neg (by simp),qd h.rok,pi h (gX e h4),Option.bind_some,if_neg (by simp),qd h.rok,pi h (gX e h5),Option.bind_some,if_neg (by simp)]
 rfl
theorem Fv {R:RP} {r:PR} {t:List UInt8} {q:Tx} (h:Ry r) (e:fH r=t::q) (ht:t=DH∨t=IH∨t=II):aX R r=bX r:=by
 have k3:∀ s,s≠t→za r 3 s=false:=λs hs=>pi h (gX e hs.symm) 3
 have n40:t≠[40]:=by rcases ht with rfl | rfl | rfl<;>decide
 have n91:t≠[91]:=by rcases ht with rfl | rfl | rfl<;>decide
 have hk:im t=1:=by rcases ht with rfl | rfl | rfl<;>decide
 unfold aX
 rw[qd h.rok,pi h (gX e n40),Option.bind_some,if_neg (by simp),pG h (gX e n91),Option.bind_some]
 dsimp only
 rw[if_neg (by simp),qd h.rok,Option.bind_some]
 rcases ht with rfl | rfl | rfl
 ·rw[sX h e hk,if_pos rfl];exact uL _
 ·rw[pi h (gX e (by decide)),if_neg (by simp),qd h.rok,Option.bind_some,sX h e hk,if_pos rfl];exact uL _
 ·rw[pi h (gX e (by decide)),if_neg (by simp),qd h.rok,Option.bind_some,pi h (gX e (by decide)),if_neg (by simp),qd h.rok,Option.bind_some,sX h e hk,if_pos rfl];exact uL _
def Po (l:List aM):Tx:=match l with | []=>[] | x::l=>[44]::dg (cp ((x::l).map Dz))
theorem yZ (x:aM) (l:List aM):dg (cp ((x::l).map Dz))=dg (Dz x)++Po l:=by
 cases l with
 | nil=>simp[Po,cp]
 | cons y l=>exact vK Dz x y l
theorem AW (l:List aM) (rest:Tx):stopF (Po l++[93]::rest):=by
 cases l with
 | nil=>exact⟨_,_,rfl,.inl rfl⟩
 | cons x l=>exact⟨_,_,rfl,.inr (.inr rfl)⟩
theorem yI:∀ (l:List aM) (F:Nat) (r:PR) (s:List UInt8) (ix:List aM) (rest:Tx),Ry r→fH r=Po l++[93]::rest→(∀ x∈l,Jy x)→l.length<F→ix.length+l.length≤1000000→
  ∃ r',bx F r ⟨3,s,zV,zT,zL,ix,[]⟩=some (.ret (⟨3,s,zV,zT,zL,ix++l,[]⟩,r'))∧Nw r r' rest
 | _,0,_,_,_,_,_,_,_,h,_=>absurd h (by omega)
 | [],F+1,r,s,ix,rest,h,e,ho,_,_=>by
  have e':fH r=[93]::rest:=e
  obtain⟨_,_,_,_,_,hw⟩:=aU h e'
  simp only[bx]
  rw[pG h (gX e' (by decide)),Option.bind_some]
  dsimp only
  rw[if_neg (by simp),kI h e' (by decide),aW,List.append_nil]
  exact⟨_,rfl,hw⟩
 | x::l,F+1,r,s,ix,rest,h,e,ho,hF,hl=>by
  have e':fH r=[44]::(dg (Dz x)++(Po l++[93]::rest)):=by rw[e];show[44]::(dg (cp ((x::l).map Dz))++[93]::rest)=_;rw[yZ,List.append_assoc]
  obtain⟨_,_,_,_,_,hw⟩:=aU h e'
  simp only[List.length_cons]at hF hl
  obtain⟨r1,e1,hw1⟩:=Hg hw.ok hw.rs (ho x (by simp)) (AW l rest)
  simp only[bx]
  rw[qE h e' (by decide),Option.bind_some]
  dsimp only
  rw[if_pos rfl,e1,aW]
  dsimp only
  rw[aR (by simp only[List.length_cons,List.length_nil];omega),Option.bind_some]
  obtain⟨r2,e2,hw2⟩:=yI l F r1 s (ix++[x]) rest hw1.ok hw1.rs (λf hf=>ho f (by simp[hf])) (by omega) (by simp only[List.length_append,List.length_cons,List.length_nil];omega)
  rw[e2]
  exact⟨r2,by simp,(hw.trans hw1).trans hw2⟩
theorem ND {r:PR} {s:List UInt8} {l:List aM} {rest:Tx} (h:Ry r) (e:fH r=s::[91]::(dg (cp (l.map Dz))++[93]::rest)) (hs:bw s=true) (ho:∀ x∈l,Jy x) (hl:l.length≤100000):
  ∃ r',Fy r=some (.ret (⟨3,s,zV,zT,zL,l,[]⟩,r'))∧Nw r r' rest:=by
 obtain⟨_,_,_,_,_,h1⟩:=aU h e
 obtain⟨_,_,_,_,_,h2⟩:=aU h1.ok h1.rs
 unfold Fy
 rw[rZ h e hs,aW]
 dsimp only
 rw[kI h1.ok h1.rs (by decide),aW]
 dsimp only
 cases l with
 | nil=>
  have e3:fH (mI (mI r))=[93]::rest:=h2.rs
  obtain⟨_,_,_,_,_,h3⟩:=aU h2.ok e3
  rw[qE h2.ok e3 (by decide),Option.bind_some]
  exact⟨_,rfl,(h1.trans h2).trans h3⟩
 | cons x l=>
  have e3:=h2.rs
  rw[yZ,List.append_assoc]at e3
  obtain⟨t,q,hb,ht,_⟩:=Qt (ho x (by simp)).ok (Po l++[93]::rest)
  obtain⟨r1,e1,hw1⟩:=Hg h2.ok e3 (ho x (by simp)) (AW l rest)
  rw[pG h2.ok (gX (by rw[e3];exact hb) ht),Option.bind_some]
  dsimp only
  rw[if_neg (by simp),e1,aW]
  simp only[List.length_cons]at hl
  obtain⟨r2,e2,hw2⟩:=yI l fu r1 s [x] rest hw1.ok hw1.rs (λf hf=>ho f (by simp[hf])) (by unfold fu;omega) (by simp;omega)
  exact⟨r2,e2,((h1.trans h2).trans hw1).trans hw2⟩
theorem Nd.nw {r q r':PR} {rest:Tx} (h:Nd q r' rest) (hl:q.l=r.l) (hd:q.deep=r.deep+1):Nw r r' rest:=⟨h.ok,h.l.trans hl,by rw[h.d,hd];omega,h.rs⟩
theorem JE {s:List UInt8} (hs:bw s=true):s≠KY∧s≠KZ∧s≠QQ∧s≠Gu∧s≠DH∧s≠IH∧s≠II:=by
 refine⟨?_,?_,?_,?_,?_,?_,?_⟩<;>rintro rfl<;>revert hs<;>decide
theorem Pe {R:RP} {c:Int} (op:Int) (l:List ae) (many:Nat) (hm:many=l.length) (h10:many≤10) {r:PR} {rest:Tx} (h:Ry r) (hc:0≤c) (hd:r.deep+(c+1)≤160) (e:fH r=[40]::(dg (cp (l.map nv))++[41]::rest)) (hR:∀ a∈l,Q4 R a c):
  ∃ r',bo R r op (many:Int)=some (.ret (⟨op,[],zV,zT,zL,[],l⟩,r'))∧Nw r r' rest:=by
 obtain⟨o1,o2,o3⟩:=B3 h e (by omega)
 have d0:=h.d0
 obtain⟨r',e1,hw⟩:=zt (R:=R) (c:=c) l fu 0 many (KM r) ⟨op,[],zV,zT,zL,[],[]⟩ rest (by omega) (by unfold fu;omega) h10 (by simp) o2 (by show 1≤r.deep+1;omega) (by show r.deep+1+c≤160;omega) hR (by rw[o3,if_pos rfl])
 unfold bo
 rw[o1,aW]
 exact⟨r',e1,hw.nw rfl rfl⟩
theorem Pd {R:RP} {c:Int} {t:bu} {a:ae} (ht:pF t=true) {r:PR} {rest:Tx} (h:Ry r) (hc:0≤c) (hd:r.deep+(c+1)≤160) (e:fH r=[40]::(dg (wK t)++([44]::(dg (nv a)++[41]::rest)))) (hR:Q4 R a c):
  ∃ r',ft R r=some (.ret (⟨12,[],zV,t,zL,[],[a]⟩,r'))∧Nw r r' rest:=by
 obtain⟨o1,o2,o3⟩:=B3 h e (by omega)
 have d0:=h.d0
 obtain⟨r1,e1,h1⟩:=Gz o2 o3 ht
 obtain⟨_,_,_,_,_,h2⟩:=aU h1.ok h1.rs
 have dd:(mI r1).deep=r.deep+1:=h1.d
 obtain⟨r3,e3,h3⟩:=hR (mI r1) _ h2.ok (by omega) h2.rs (Fh rest)
 obtain⟨r4,e4,h4⟩:=CM h3.ok h3.rs (by rw[h3.d];omega)
 unfold ft
 rw[o1,aW]
 dsimp only
 rw[e1,aW]
 dsimp only
 rw[kI h1.ok h1.rs (by decide),aW]
 dsimp only
 rw[e3,aW]
 dsimp only
 rw[e4,aW]
 exact⟨r4,rfl,h4.nw (h3.l.trans (h2.l.trans h1.l)) (h3.d.trans dd)⟩
theorem NG {R:RP} {e:ae} {c:Int} (hv:VE e) (h8:kH e.Op=8) (hw:wE e≤300) (hc:0≤c) (hR:∀ a∈e.Args,Q4 R a c) {r:PR} {rest:Tx} (h:Ry r) (hd:r.deep+(c+1)≤160) (he:fH r=dg (nv e)++rest):
  ∃ r',aX R r=some (.ret (e,r'))∧Nw r r' rest:=by
 have nf:=hv.node
 have ho:=Ea hv h8
 obtain⟨o1,o2,o3⟩:=hv.1.out
 have hwe:=vH e
 rw[Lp hv h8]at he
 unfold Jp at he
 have fn:e.Op≠3→e.Name=[]∧e.Idx=[]:=nf.nnam
 by_cases k1:e.Op=1
 ·rw[if_pos k1]at he
  have ha:=FE nf (.inl k1)
  have ht:=nf.ty (.inl k1)
  have hr:fH r=dg (wK e.Type_)++([40]::(dg (zi (Hi e.Type_ e.Val))++([41]::rest))):=by rw[he];simp
  obtain⟨r',e1,hw1⟩:=L3 h ht (nf.val k1) hr
  have hh:∃ t q,fH r=t::q∧(t=DH∨t=IH∨t=II):=by
   rw[hr,BP ht]
   by_cases q1:e.Type_.Kind=1
   ·rw[if_pos q1];exact⟨_,_,rfl,.inl rfl⟩
   ·by_cases q3:e.Type_.Kind=3
    ·rw[if_neg q1,if_pos q3];exact⟨_,_,rfl,.inr (.inl rfl)⟩
    ·rw[if_neg q1,if_neg q3];exact⟨_,_,rfl,.inr (.inr rfl)⟩
  obtain⟨t,q,hq,hw⟩:=hh
  rw[Fv h hq hw,e1]
  refine⟨r',?_,hw1⟩
  have:cE e.Type_ e.Val=e:=by symm;exact tM k1 (fn (by omega)).1 rfl rfl (nf.nlin (by omega)) (fn (by omega)).2 ha
  rw[this]
 rw[if_neg k1]at he
 by_cases k2:e.Op=2
 ·rw[if_pos k2]at he
  have ha:=FE nf (.inr (.inl k2))
  have hr:fH r=[91]::(dg (jY e.Lin)++[93]::rest):=by rw[he];simp
  obtain⟨_,_,_,_,_,hA⟩:=aU h hr
  obtain⟨r1,e1,h1⟩:=zh hA.ok hA.rs (FD o1 nf.lin (by omega)) (I2 rest)
  obtain⟨_,_,_,_,_,h2⟩:=aU h1.ok h1.rs
  unfold aX
  rw[qd h.rok,pi h (gX hr (by decide)),Option.bind_some,if_neg (by simp),qE h hr (by decide),Option.bind_some]
  dsimp only
  rw[if_pos rfl,e1,aW]
  dsimp only
  rw[kI h1.ok h1.rs (by decide),aW]
  refine⟨mI r1,?_,(hA.trans h1).trans h2⟩
  have:(⟨2,[],zV,zT,e.Lin,[],[]⟩:ae)=e:=by symm;exact tM k2 (fn (by omega)).1 (nf.nval (by omega)) (nf.nty (by omega) (by omega)) rfl (fn (by omega)).2 ha
  dsimp only
  rw[this]
 rw[if_neg k2]at he
 by_cases k3:e.Op=3
 ·rw[if_pos k3]at he
  have ha:=FE nf (.inr (.inr k3))
  have hN:=nf.nam k3
  obtain⟨n1,n2,n3,n4,n5,n6,n7⟩:=JE hN
  have hr:fH r=e.Name::[91]::(dg (cp (e.Idx.map Dz))++[93]::rest):=by rw[he];simp
  have hix:∀ x∈e.Idx,Jy x:=λx hx=>Lw (o2.1 x hx) (nf.ix x hx) (by have:=us (List.mem_map_of_mem (f:=wI) hx);omega)
  obtain⟨r',e1,hw1⟩:=ND h hr hN hix (by omega)
  have hs:∀ s∈gt,e.Name≠s:=λs hs=>lJ (fw hN) hs
  rw[vd h hr (hs [40] (by decide)) (hs [91] (by decide)) n5 n6 n7]
  unfold yi
  rw[IF h hr _ (by simp) (by simp[m7,n1,n2,n3,n4]),Option.bind_some]
  dsimp only
  rw[if_neg (by decide),if_neg (by decide),if_neg (by decide),if_neg (by decide),e1]
  refine⟨r',?_,hw1⟩
  have:(⟨3,e.Name,zV,zT,zL,e.Idx,[]⟩:ae)=e:=by symm;exact tM k3 rfl (nf.nval (by omega)) (nf.nty (by omega) (by omega)) (nf.nlin (by omega)) rfl ha
  rw[this]
 rw[if_neg k3]at he
 have call:∀ (w:List UInt8) (op:Int) (many i:Nat),e.Op=op→e.Op≠12→(e.Args.length:Int)=many→many≤3→w≠[40]→w≠[91]→w≠DH→w≠IH→w≠II→m7 (λs=>decide (im w=1)&&decide (w=s)) [KY,KZ,QQ,Gu]=some i→((op=9∧many=2∧i=0)∨(op=10∧many=2∧i=1)∨(op=11∧many=3∧i=2))→
   fH r=w::[40]::(dg (cp (e.Args.map nv))++[41]::rest)→∃ r',aX R r=some (.ret (e,r'))∧Nw r r' rest:=λw op many i hop h12 hm h3 w1 w2 w3 w4 w5 hi hk hr=>by
  obtain⟨_,_,_,_,_,hA⟩:=aU h hr
  obtain⟨r',e1,hw1⟩:=Pe (R:=R) (c:=c) op e.Args many (by omega) (by omega) hA.ok hc (by rw[hA.d];exact hd) hA.rs hR
  have:(⟨op,[],zV,zT,zL,[],e.Args⟩:ae)=e:=by symm;exact tM hop (fn k3).1 (nf.nval k1) (nf.nty k1 h12) (nf.nlin k2) (fn k3).2 rfl
  rw[this]at e1
  rw[vd h hr w1 w2 w3 w4 w5]
  unfold yi
  rw[qY h hr _ (by simp) hi,Option.bind_some]
  dsimp only
  rcases hk with⟨rfl,rfl,rfl⟩ | ⟨rfl,rfl,rfl⟩ | ⟨rfl,rfl,rfl⟩
  ·rw[if_pos (by decide)]
   show ∃ r',pb (bo R (mI r) 9 ((2:Nat):Int)) _ =_ ∧ _
   rw[e1];exact⟨r',rfl,hA.trans hw1⟩
  ·rw[if_neg (by decide),if_pos (by decide)]
   show ∃ r',pb (bo R (mI r) 10 ((2:Nat):Int)) _ =_ ∧ _
   rw[e1];exact⟨r',rfl,hA.trans hw1⟩
  ·rw[if_neg (by decide),if_neg (by decide),if_pos (by decide)]
   show ∃ r',pb (bo R (mI r) 11 ((3:Nat):Int)) _ =_ ∧ _
   rw[e1];exact⟨r',rfl,hA.trans hw1⟩
 have hlen:=nf.len
 by_cases k9:e.Op=9
 ·rw[if_pos k9]at he
  exact call KY 9 2 0 k9 (by omega) (by rw[hlen,k9];rfl) (by omega) (by decide) (by decide) (by decide) (by decide) (by decide) (by decide) (.inl ⟨rfl,rfl,rfl⟩) (by rw[he];simp)
 rw[if_neg k9]at he
 by_cases k10:e.Op=10
 ·rw[if_pos k10]at he
  exact call KZ 10 2 1 k10 (by omega) (by rw[hlen,k10];rfl) (by omega) (by decide) (by decide) (by decide) (by decide) (by decide) (by decide) (.inr (.inl ⟨rfl,rfl,rfl⟩)) (by rw[he];simp)
 rw[if_neg k10]at he
 by_cases k11:e.Op=11
 ·rw[if_pos k11]at he
  exact call QQ 11 3 2 k11 (by omega) (by rw[hlen,k11];rfl) (by omega) (by decide) (by decide) (by decide) (by decide) (by decide) (by decide) (.inr (.inr ⟨rfl,rfl,rfl⟩)) (by rw[he];simp)
 rw[if_neg k11]at he
 have k12:e.Op=12:=by omega
 have ht:=nf.ty (.inr k12)
 have hl1:e.Args.length=1:=by rw[k12]at hlen;have:nr 12=1:=rfl;omega
 obtain⟨a,ha⟩:=List.length_eq_one_iff.1 hl1
 rw[ha]at he
 have hr:fH r=Gu::[40]::(dg (wK e.Type_)++([44]::(dg (nv a)++[41]::rest))):=by rw[he];simp[cp]
 obtain⟨_,_,_,_,_,hA⟩:=aU h hr
 obtain⟨r',e1,hw1⟩:=Pd ht hA.ok hc (by rw[hA.d];exact hd) hA.rs (hR a (by rw[ha];simp))
 have:(⟨12,[],zV,e.Type_,zL,[],[a]⟩:ae)=e:=by symm;exact tM k12 (fn k3).1 (nf.nval k1) rfl (nf.nlin k2) (fn k3).2 ha
 rw[this]at e1
 rw[vd h hr (by decide) (by decide) (by decide) (by decide) (by decide)]
 unfold yi
 rw[qY h hr _ (by simp) (i:=3) (by decide),Option.bind_some]
 dsimp only
 rw[if_neg (by decide),if_neg (by decide),if_neg (by decide),if_pos (by decide),e1]
 exact⟨r',rfl,hA.trans hw1⟩
end Go.Proofs.YtmhoikfoogemnaaGreatDoor
