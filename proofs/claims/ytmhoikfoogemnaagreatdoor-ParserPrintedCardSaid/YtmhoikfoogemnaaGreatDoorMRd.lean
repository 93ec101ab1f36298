import Derived.Test.YtmhoikfoogemnaaGreatDoorMRc
namespace Go.Proofs.YtmhoikfoogemnaaGreatDoor
open Go Go.RowKit Go.Vc
set_option linter.unusedVariables false
set_option linter.unusedSimpArgs false
def AC (e:ac) (ts:List (List (List UInt8))):List (List UInt8):=
 if e.Op=1 then zD e.Type_++([[40]]++(vP (Da e.Type_ e.Val)++[[41]]))
 else if e.Op=2 then[[91]]++(oM e.Lin++[[93]])
 else if e.Op=3 then[e.Name]++([[91]]++(fO (e.Idx.map zF)++[[93]]))
 else if e.Op=8 then[[45]]++F9 (e.Args.getD 0 default) (ts.getD 0 []) 7
 else if e.Op=18 then[[33]]++F9 (e.Args.getD 0 default) (ts.getD 0 []) 3
 else if e.Op=9 then[[109,105,110]]++([[40]]++(fO ts++[[41]]))
 else if e.Op=10 then[[109,97,120]]++([[40]]++(fO ts++[[41]]))
 else if e.Op=11 then[[105,102]]++([[40]]++(fO ts++[[41]]))
 else if e.Op=12 then[[99,97,115,116]]++([[40]]++(fO (zD e.Type_::ts)++[[41]]))
 else F9 (e.Args.getD 0 default) (ts.getD 0 []) (jR e.Op)++(([[32]]++([lc e.Op]++[[32]]))++F9 (e.Args.getD 1 default) (ts.getD 1 []) (jR e.Op+1))
def nh:ac→List (List UInt8)
 | ⟨op,nm,v,t,l,ix,args⟩=>AC ⟨op,nm,v,t,l,ix,args⟩ (go args)
 where go:List ac→List (List (List UInt8))
  | []=>[]
  | x::xs=>nh x::go xs
theorem FH:∀ (l:List ac),nh.go l=l.map nh
 | []=>rfl
 | x::l=>by rw[nh.go,FH l,List.map_cons]
theorem tA (e:ac):nh e=AC e (e.Args.map nh):=by cases e;rw[nh,FH]
theorem Ar:∀ (k:Nat) (e:ac),wE e<k→okGExpr e→mv e=0→Lex (nh e) (oO e) true
 | 0,_,h,_,_=>absurd h (by omega)
 | k+1,e,hk,ho,he=>by
  obtain⟨hn,ha⟩:=nI he
  have nf:=Fb hn
  obtain⟨o1,o2,o3⟩:=ho.out
  have hargs:∀ a∈e.Args,Lex (nh a) (oO a) true:=fun a hm=>Ar k a (by have:=jj hm;omega) (o3.1 a hm) (ha a hm)
  have hget:∀ i,i<e.Args.length→Lex ((e.Args.map nh).getD i []) ((e.Args.map oO).getD i []) true:=fun i hi=>by
   rw[List.getD_eq_getElem?_getD,List.getD_eq_getElem?_getD,List.getElem?_map,List.getElem?_map,List.getElem?_eq_getElem hi]
   exact hargs _ (List.getElem_mem hi)
  have hlen:=nf.len
  have wd:∀ t∈[[109,105,110],[109,97,120],[105,102],[99,97,115,116]],uu t:=by
   intro t ht
   simp only[List.mem_cons,List.not_mem_nil,or_false]at ht
   rcases ht with rfl | rfl | rfl | rfl<;>exact⟨by decide,by decide,by decide,by decide⟩
  rw[tA,BS]
  unfold AC KJ
  by_cases h1:e.Op=1
  ·rw[if_pos h1,if_pos h1]
   have v3:=Gn (nf.ty (Or.inl h1)) (nf.val h1);have v2:=(BO (nf.ty (Or.inl h1)) (nf.val h1)).2.1
   rw[v3]
   exact(Lex.type (nf.ty (Or.inl h1))).app2 (Lex.fmt v2).paren ⟨40,_,rfl,by decide⟩
  rw[if_neg h1,if_neg h1]
  by_cases h2:e.Op=2
  ·rw[if_pos h2,if_pos h2];exact(Lex.lin nf.lin).brack
  rw[if_neg h2,if_neg h2]
  by_cases h3:e.Op=3
  ·rw[if_pos h3,if_pos h3]
   exact(Lex.word (gA (nf.nam h3))).app2 (Lex.join fun x hx=>Lex.index (nf.ix x hx)).brack ⟨91,_,rfl,by decide⟩
  rw[if_neg h3,if_neg h3]
  by_cases h8:e.Op=8
  ·rw[if_pos h8,if_pos h8]
   have:e.Args.length=1:=by rw[h8]at hlen;have:lJ 8=1:=rfl;omega
   exact(Lex.sign (t:=[45]) (by decide) (by decide) (by decide)).app (Lex.opd 7 (hget 0 (by omega)))
  rw[if_neg h8,if_neg h8]
  by_cases h18:e.Op=18
  ·rw[if_pos h18,if_pos h18]
   have:e.Args.length=1:=by rw[h18]at hlen;have:lJ 18=1:=rfl;omega
   exact(Lex.sign (t:=[33]) (by decide) (by decide) (by decide)).app (Lex.opd 3 (hget 0 (by omega)))
  rw[if_neg h18,if_neg h18]
  by_cases h9:e.Op=9
  ·rw[if_pos h9,if_pos h9]
   exact(Lex.word (wd _ (by simp))).app2 (Lex.join hargs).paren ⟨40,_,rfl,by decide⟩
  rw[if_neg h9,if_neg h9]
  by_cases h10:e.Op=10
  ·rw[if_pos h10,if_pos h10]
   exact(Lex.word (wd _ (by simp))).app2 (Lex.join hargs).paren ⟨40,_,rfl,by decide⟩
  rw[if_neg h10,if_neg h10]
  by_cases h11:e.Op=11
  ·rw[if_pos h11,if_pos h11]
   exact(Lex.word (wd _ (by simp))).app2 (Lex.join hargs).paren ⟨40,_,rfl,by decide⟩
  rw[if_neg h11,if_neg h11]
  by_cases h12:e.Op=12
  ·rw[if_pos h12,if_pos h12]
   have hj:=Lex.join (l:=(zD e.Type_,Cu e.Type_)::e.Args.map fun a=>(nh a,oO a)) (f:=Prod.fst) (g:=Prod.snd) (z:=false) (fun x hx=>by
    rcases List.mem_cons.1 hx with rfl | hx
    ·exact Lex.type (nf.ty (Or.inr h12))
    ·obtain⟨a,hm,rfl⟩:=List.mem_map.1 hx
     exact(hargs a hm).weak2)
   rw[List.map_cons,List.map_cons,List.map_map,List.map_map]at hj
   exact(Lex.word (wd _ (by simp))).app2 hj.paren ⟨40,_,rfl,by decide⟩
  rw[if_neg h12,if_neg h12]
  have hl2:e.Args.length=2:=by
   unfold lJ at hlen
   rw[if_neg (by simp[h1,h2,h3]),if_neg (by simp[h8,h12,h18]),if_neg h11]at hlen;omega
  have hsy:lc e.Op∈fR∧BK (lc e.Op)=false:=by
   have e1:=nf.op1;have e2:=nf.op2
   unfold lc
   repeat' split
   all_goals first | exact⟨by decide,by decide⟩ | (exfalso;omega)
  exact(Lex.opd _ (hget 0 (by omega))).app ((Lex.oper hsy.1 hsy.2).app (Lex.opd _ (hget 1 (by omega))))
theorem FF {e:ac} (ho:okGExpr e) (he:mv e=0):∃ t r,nh e=t::r∧t≠[32]:=by
 have key:∀ (k:Nat) (e:ac),wE e<k→okGExpr e→mv e=0→∃ t r,nh e=t::r∧t≠[32]:=by
  intro k
  induction k with
  | zero=>intro e h;omega
  | succ k ih=>
   intro e hk ho he
   obtain⟨hn,ha⟩:=nI he
   have nf:=Fb hn
   obtain⟨o1,o2,o3⟩:=ho.out
   have hlen:=nf.len
   rw[tA]
   unfold AC
   by_cases h1:e.Op=1
   ·rw[if_pos h1]
    unfold zD
    split
    ·exact⟨_,_,rfl,by decide⟩
    split
    ·exact⟨_,_,rfl,by decide⟩
    ·exact⟨_,_,rfl,by decide⟩
   rw[if_neg h1]
   by_cases h2:e.Op=2
   ·rw[if_pos h2];exact⟨_,_,rfl,by decide⟩
   rw[if_neg h2]
   by_cases h3:e.Op=3
   ·rw[if_pos h3]
    refine⟨_,_,rfl,fun hh=> ?_⟩
    have:=(gA (nf.nam h3)).1
    rw[hh]at this;revert this;decide
   rw[if_neg h3]
   by_cases h8:e.Op=8
   ·rw[if_pos h8];exact⟨_,_,rfl,by decide⟩
   rw[if_neg h8]
   by_cases h18:e.Op=18
   ·rw[if_pos h18];exact⟨_,_,rfl,by decide⟩
   rw[if_neg h18]
   by_cases h9:e.Op=9
   ·rw[if_pos h9];exact⟨_,_,rfl,by decide⟩
   rw[if_neg h9]
   by_cases h10:e.Op=10
   ·rw[if_pos h10];exact⟨_,_,rfl,by decide⟩
   rw[if_neg h10]
   by_cases h11:e.Op=11
   ·rw[if_pos h11];exact⟨_,_,rfl,by decide⟩
   rw[if_neg h11]
   by_cases h12:e.Op=12
   ·rw[if_pos h12];exact⟨_,_,rfl,by decide⟩
   rw[if_neg h12]
   have hl2:e.Args.length=2:=by
    unfold lJ at hlen
    rw[if_neg (by simp[h1,h2,h3]),if_neg (by simp[h8,h12,h18]),if_neg h11]at hlen;omega
   obtain⟨a,b,hab⟩:=DJ hl2
   rw[hab]
   obtain⟨t,r,htr,hne⟩:=ih a (by have:=jj (e:=e) (a:=a) (by rw[hab];simp);omega) (o3.1 a (by rw[hab];simp)) (ha a (by rw[hab];simp))
   unfold F9
   simp only[List.map_cons,List.getD_cons_zero]
   split
   ·exact⟨_,_,rfl,by decide⟩
   ·rw[htr];exact⟨_,_,rfl,hne⟩
 exact key (wE e+1) e (by omega) ho he
theorem DT {e:ac} (ho:okGExpr e) (he:mv e=0) (hl:(oO e).length≤65536):fc (oO e)=some (va 0 (nh e),0,0):=by
 have lx:=Ar (wE e+1) e (by omega) ho he
 obtain⟨t,r,htr,hne⟩:=FF ho he
 have hok:=lx.ok none (Or.inl rfl)
 have hll:=CY hok
 have:=Ic hok (Or.inr ⟨t,r,htr,hne⟩) (by rw[lx.flat];exact hl) (by rw[lx.flat]at hll;omega)
 rwa [lx.flat]at this
def wL (e:ac) (L:Int):List (List UInt8):=gI (F9 e (nh e) L)
theorem u0 {e:ac} {L:Int} (h:jR e.Op<L):wL e L=[40]::(gI (nh e)++[[41]]):=by
 unfold wL F9
 rw[if_pos h]
 show List.filter jF _ =_
 rw[List.filter_append,List.filter_append];rfl
theorem pt {e:ac} {L:Int} (h:¬ jR e.Op<L):wL e L=gI (nh e):=by unfold wL F9;rw[if_neg h]
theorem uZ {e:ac} {L:Int} (h:jR e.Op≠L):wL e L=wL e (L+1):=by
 by_cases c:jR e.Op<L
 ·rw[u0 c,u0 (by omega)]
 ·rw[pt c,pt (by omega)]
theorem ym (e:ac):wL e 1=gI (nh e):=pt (by have:=BD e.Op;omega)
theorem AW {e:ac} (h:VE e) (hb:o8 e.Op):∃ a b,e=AX e.Op a b∧a∈e.Args∧b∈e.Args∧gI (nh e)=wL a (jR e.Op)++(lc e.Op::wL b (jR e.Op+1)):=by
 have nf:=h.node
 have hlen:=nf.len
 unfold o8 at hb
 have hl2:e.Args.length=2:=by
  unfold lJ at hlen
  rw[if_neg (by omega),if_neg (by omega),if_neg (by omega)]at hlen;omega
 obtain⟨a,b,hab⟩:=DJ hl2
 have hn:=nf.nnam (by omega)
 refine⟨a,b,qt rfl hn.1 (nf.nval (by omega)) (nf.nty (by omega) (by omega)) (nf.nlin (by omega)) hn.2 hab,by rw[hab];simp,by rw[hab];simp,?_⟩
 rw[tA]
 unfold AC
 rw[if_neg (by omega),if_neg (by omega),if_neg (by omega),if_neg (by omega),if_neg (by omega),if_neg (by omega),if_neg (by omega),if_neg (by omega),if_neg (by omega),hab]
 simp only[List.map_cons,List.map_nil,List.getD_cons_zero,List.getD_cons_succ]
 unfold wL
 show List.filter jF _ =_
 rw[List.filter_append,List.filter_append,List.filter_append,List.filter_append]
 have hs:=(FT (op:=e.Op) (by unfold o8;exact hb)).2
 rw[show List.filter jF [lc e.Op]=[lc e.Op]by rw[List.filter_cons_of_pos (Fc (Or.inr (Or.inr hs)))];rfl]
 rfl
theorem xX:∀ (k:Nat) (e:ac),wE e<k→VE e→∃ t s,gI (nh e)=t::s∧t≠[41]∧t≠[93]∧t≠[44]∧(4≤jR e.Op→t≠[33])∧(jR e.Op=8→t≠[40]∧t≠[45])
 | 0,_,h,_=>absurd h (by omega)
 | k+1,e,hk,h=>by
  have nf:=h.node
  have o1:=nf.op1
  have o2:=nf.op2
  by_cases hb:o8 e.Op
  ·obtain⟨a,b,_,ha,_,ht⟩:=AW h hb
   obtain⟨t,s,h1,h2,h3,h4,h5,h6⟩:=xX k a (by have:=jj ha;omega) (h.arg ha)
   rw[ht]
   have h8:jR e.Op≠8:=by unfold o8 at hb;rcases hb with h | h | h | h | h | h | h | h | h<;>rw[h]<;>decide
   by_cases c:jR a.Op<jR e.Op
   ·rw[u0 c];exact⟨_,_,rfl,by decide,by decide,by decide,fun _=>by decide,fun hh=>absurd hh h8⟩
   ·rw[pt c,h1];exact⟨_,_,rfl,h2,h3,h4,fun hh=>h5 (by omega),fun hh=>absurd hh h8⟩
  unfold o8 at hb
  rw[tA]
  unfold AC
  by_cases h1:e.Op=1
  ·rw[if_pos h1]
   have e1:=Bf (nf.ty (Or.inl h1))
   show ∃ t s,List.filter jF _ =t::s∧ _
   rw[List.filter_append,show List.filter jF (zD e.Type_)=_ from e1]
   split
   ·exact⟨_,_,rfl,by decide,by decide,by decide,fun _=>by decide,fun _=>by decide⟩
   split
   ·exact⟨_,_,rfl,by decide,by decide,by decide,fun _=>by decide,fun _=>by decide⟩
   ·exact⟨_,_,rfl,by decide,by decide,by decide,fun _=>by decide,fun _=>by decide⟩
  rw[if_neg h1]
  by_cases h2:e.Op=2
  ·rw[if_pos h2];exact⟨_,_,rfl,by decide,by decide,by decide,fun _=>by decide,fun _=>by decide⟩
  rw[if_neg h2]
  by_cases h3:e.Op=3
  ·rw[if_pos h3]
   have hw:=gA (nf.nam h3)
   show ∃ t s,List.filter jF _ =t::s∧ _
   rw[List.filter_append,List.filter_cons_of_pos (xK hw)]
   exact⟨_,_,rfl,kq hw (by decide),kq hw (by decide),kq hw (by decide),fun _=>kq hw (by decide),fun _=>⟨kq hw (by decide),kq hw (by decide)⟩⟩
  rw[if_neg h3]
  by_cases h8:e.Op=8
  ·rw[if_pos h8];exact⟨_,_,rfl,by decide,by decide,by decide,fun _=>by decide,fun hh=>absurd hh (by rw[h8];decide)⟩
  rw[if_neg h8]
  by_cases h18:e.Op=18
  ·rw[if_pos h18];exact⟨_,_,rfl,by decide,by decide,by decide,fun hh=>absurd hh (by rw[h18];decide),fun hh=>absurd hh (by rw[h18];decide)⟩
  rw[if_neg h18]
  by_cases h9:e.Op=9
  ·rw[if_pos h9];exact⟨_,_,rfl,by decide,by decide,by decide,fun _=>by decide,fun _=>by decide⟩
  rw[if_neg h9]
  by_cases h10:e.Op=10
  ·rw[if_pos h10];exact⟨_,_,rfl,by decide,by decide,by decide,fun _=>by decide,fun _=>by decide⟩
  rw[if_neg h10]
  by_cases h11:e.Op=11
  ·rw[if_pos h11];exact⟨_,_,rfl,by decide,by decide,by decide,fun _=>by decide,fun _=>by decide⟩
  rw[if_neg h11]
  by_cases h12:e.Op=12
  ·rw[if_pos h12];exact⟨_,_,rfl,by decide,by decide,by decide,fun _=>by decide,fun _=>by decide⟩
  exfalso;omega
theorem first {e:ac} (h:VE e):∃ t s,gI (nh e)=t::s∧t≠[41]∧t≠[93]∧t≠[44]∧(4≤jR e.Op→t≠[33])∧(jR e.Op=8→t≠[40]∧t≠[45]):=xX (wE e+1) e (by omega) h
theorem Cr {e:ac} {s:List UInt8} {L:Int} (h:VE e) (hc:(e.Op=8∧s=[45]∧L=7)∨(e.Op=18∧s=[33]∧L=3)):∃ a,e=unE e.Op a∧a∈e.Args∧gI (nh e)=s::wL a L:=by
 have nf:=h.node
 have hlen:=nf.len
 have hl1:e.Args.length=1:=by
  rcases hc with⟨h,_⟩ | ⟨h,_⟩<;>rw[h]at hlen
  ·have:lJ 8=1:=rfl;omega
  ·have:lJ 18=1:=rfl;omega
 obtain⟨a,ha⟩:=List.length_eq_one_iff.1 hl1
 have hn:=nf.nnam (by omega)
 refine⟨a,qt rfl hn.1 (nf.nval (by omega)) (nf.nty (by omega) (by omega)) (nf.nlin (by omega)) hn.2 ha,by rw[ha];simp,?_⟩
 rw[tA]
 unfold AC
 rcases hc with⟨h,rfl,rfl⟩ | ⟨h,rfl,rfl⟩
 ·rw[if_neg (by omega),if_neg (by omega),if_neg (by omega),if_pos h,ha];rfl
 ·rw[if_neg (by omega),if_neg (by omega),if_neg (by omega),if_neg (by omega),if_pos h,ha];rfl
def E3 (e:ac):List (List UInt8):=
 if e.Op=1 then gI (zD e.Type_)++([40]::(gI (vP (Da e.Type_ e.Val))++[[41]]))
 else if e.Op=2 then[91]::(gI (oM e.Lin)++[[93]])
 else if e.Op=3 then e.Name::[91]::(gI (fO (e.Idx.map zF))++[[93]])
 else if e.Op=9 then[109,105,110]::[40]::(gI (fO (e.Args.map nh))++[[41]])
 else if e.Op=10 then[109,97,120]::[40]::(gI (fO (e.Args.map nh))++[[41]])
 else if e.Op=11 then[105,102]::[40]::(gI (fO (e.Args.map nh))++[[41]])
 else[99,97,115,116]::[40]::(gI (zD e.Type_)++([44]::(gI (fO (e.Args.map nh))++[[41]])))
theorem Ai {e:ac} (h:VE e) (h8:jR e.Op=8):e.Op=1∨e.Op=2∨e.Op=3∨e.Op=9∨e.Op=10∨e.Op=11∨e.Op=12:=by
 have o1:=h.node.op1
 have o2:=h.node.op2
 unfold jR at h8
 repeat' split at h8
 all_goals first | omega | (exfalso;omega)
theorem GK {e:ac} (h:VE e) (h8:jR e.Op=8):gI (nh e)=E3 e:=by
 have nf:=h.node
 have ho:=Ai h h8
 rw[tA]
 unfold AC E3
 by_cases h1:e.Op=1
 ·rw[if_pos h1,if_pos h1]
  show List.filter jF _ =_
  rw[List.filter_append,HV];rfl
 rw[if_neg h1,if_neg h1]
 by_cases h2:e.Op=2
 ·rw[if_pos h2,if_pos h2]
  show List.filter jF _ =_
  rw[HV];rfl
 rw[if_neg h2,if_neg h2]
 by_cases h3:e.Op=3
 ·rw[if_pos h3,if_pos h3]
  show List.filter jF _ =_
  rw[List.filter_append,HV,List.filter_cons_of_pos (xK (gA (nf.nam h3)))];rfl
 rw[if_neg h3,if_neg h3,if_neg (by omega),if_neg (by omega)]
 by_cases h9:e.Op=9
 ·rw[if_pos h9,if_pos h9]
  show List.filter jF _ =_
  rw[List.filter_append,HV];rfl
 rw[if_neg h9,if_neg h9]
 by_cases h10:e.Op=10
 ·rw[if_pos h10,if_pos h10]
  show List.filter jF _ =_
  rw[List.filter_append,HV];rfl
 rw[if_neg h10,if_neg h10]
 by_cases h11:e.Op=11
 ·rw[if_pos h11,if_pos h11]
  show List.filter jF _ =_
  rw[List.filter_append,HV];rfl
 rw[if_neg h11,if_neg h11,if_pos (by omega)]
 have h12:e.Op=12:=by omega
 have hl1:e.Args.length=1:=by have hlen:=nf.len;rw[h12]at hlen;have:lJ 12=1:=rfl;omega
 obtain⟨a,ha⟩:=List.length_eq_one_iff.1 hl1
 rw[ha]
 show List.filter jF _ =_
 rw[List.filter_append,HV]
 simp only[List.map_cons,List.map_nil,fO]
 rw[show gI (zD e.Type_++([[44],[32]]++nh a))=gI (zD e.Type_)++([44]::gI (nh a))by
  show List.filter jF _ =_
  rw[HV];rfl]
 simp only[List.append_assoc]
 rfl
end Go.Proofs.YtmhoikfoogemnaaGreatDoor
