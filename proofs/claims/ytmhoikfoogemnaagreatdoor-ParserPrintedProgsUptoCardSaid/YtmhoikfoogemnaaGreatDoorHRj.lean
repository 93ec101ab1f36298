import Derived.Test.YtmhoikfoogemnaaGreatDoorHRg
namespace Go.Proofs.YtmhoikfoogemnaaGreatDoor
open Go Go.RowKit Go.Vc
set_option linter.unusedVariables false
set_option linter.unusedSimpArgs false
def wY (d:cU):List UInt8:=[100,101,102,32]++(d.Name++([58,32]++(Dx d.Type_++([91]++(dP (d.Dims.map E8)++([93,32,61,32]++(xH d++(sY d.Body++[59]))))))))
def EF (d:cU):List UInt8:=if sy d=true then wY d else[]
theorem J6 (e:ae):sY e≠[]:=by
 rw[CB]
 unfold Pw
 repeat' split
 all_goals simp
theorem AZ {d:cU} (h:Pr d):o9 d=some (EF d):=by
 have hfl:=Bp h
 obtain⟨⟨o1,o2,o3,o4,o5,o6⟩,h300,hz⟩:=id h
 have hs:=Hs d
 have hj3:=rO o3
 have hl3:=fv (d.Dims.map E8)
 have hj4:=rO o4
 have hl4:=fv (d.Red.map E8)
 have hT:=uh d.Type_
 unfold o9 EF sy
 rw[yG o3 (show oz gp d.Dims≤1048576 by omega),yG o4 (show oz gp d.Red≤1048576 by omega),J5 o6 h300]
 simp only[Option.bind_some,fh,pY,ax]
 by_cases hA:Kh d=true∧vE d.Body=0
 ·have hA':=hA.1
  unfold Kh at hA'
  simp only[Bool.and_eq_true]at hA'
  obtain⟨⟨⟨a1,a2⟩,a3⟩,a4⟩:=hA'
  have hen:=J6 d.Body
  have hel:=yp (wE d.Body+1) d.Body (by omega) o6 (ug hA.2)
  simp only[a1,a2,a3,a4,hA.1,hA.2,hen,Bool.not_true,Bool.not_false,Bool.false_eq_true,if_true,if_false,Bool.or_false,Bool.false_or,Bool.true_and,decide_true,decide_false,Bool.and_true]
  by_cases hF:F3 d
  ·have hF':=hF
   unfold F3 at hF'
   simp only[hF,decide_true,if_true]
   rw[if_neg (by simp;omega)]
   have c:(decide (0<(d.Red.length:Int))&&(decide (d.Fold=0)||decide (d.Fold=5)))=false:=by
    rw[Bool.eq_false_iff]
    simp only[ne_eq,Bool.or_eq_true,Bool.and_eq_true,decide_eq_true_eq]
    rintro⟨c2,c1⟩
    rw[hF'.2 c1]at c2;simp at c2
   rw[c,if_neg (by simp)]
   simp only[BM d.Type_,Option.bind_some]
   simp(disch:=(first | omega | (simp only[List.length_append,List.length_cons,List.length_nil];omega))) only[aR,Option.bind_some]
   unfold xH at hfl
   unfold wY xH
   by_cases h0:d.Fold=0
   ·simp only[h0,decide_true,Bool.not_true,Bool.false_eq_true,if_false,if_true]
    simp only[List.append_assoc,List.nil_append]
   ·have hw:=Hh d.Fold
    simp only[h0,decide_false,Bool.not_false,if_true,if_false,KV,Option.bind_some]at hfl ⊢
    rw[aR (by simp only[List.length_append,List.length_cons,List.length_nil];omega),Option.bind_some]
    by_cases hr:d.Red=[]
    ·simp only[hr,List.length_nil,if_true]at hfl ⊢
     rw[if_neg (by simp)]
     simp(disch:=(first | omega | (simp only[List.length_append,List.length_cons,List.length_nil];omega))) only[aR,Option.bind_some]
     simp only[List.append_assoc]
    ·have hp:decide (0<(d.Red.length:Int))=true:=by simpa using List.length_pos_iff.2 hr
     simp only[hp,hr,if_true,if_false]
     simp(disch:=(first | omega | (simp only[List.length_append,List.length_cons,List.length_nil];omega))) only[aR,Option.bind_some]
     simp only[List.append_assoc]
  ·simp only[hF,decide_false,Bool.false_eq_true,if_false]
   by_cases c:(decide (d.Fold<0)||decide (5<d.Fold))=true
   ·rw[if_pos c]
   ·rw[if_neg c,if_pos]
    unfold F3 at hF
    simp only[Bool.or_eq_true,decide_eq_true_eq]at c
    simp only[Bool.or_eq_true,Bool.and_eq_true,decide_eq_true_eq]
    by_cases c3:d.Fold=0∨d.Fold=5
    ·refine⟨?_,c3⟩
     have:d.Red≠[]:=λhr=>hF ⟨⟨by omega,by omega⟩,λ_=>hr⟩
     have:=List.length_pos_iff.2 this
     omega
    ·exact absurd ⟨⟨by omega,by omega⟩,λc=>absurd c c3⟩ hF
 ·rw[if_pos]
  ·rw[if_neg]
   simp only[Bool.and_eq_true,decide_eq_true_eq]
   exact λ⟨⟨q1,_⟩,q2⟩=>hA ⟨q1,q2⟩
  ·unfold Kh at hA
   have hen:=J6 d.Body
   revert hA
   by_cases hv:vE d.Body=0<;>cases bw d.Name<;>cases d.Dims.all Dr<;>cases d.Red.all Dr<;>cases pF d.Type_<;>simp[hv,hen]
theorem Ko {c:aD} (h:mJ c) (hl:c.Lin.L.length≤1048576):gY c=some (if cv c.Lin then 0 else 1)∧lZ c=some (Ii c):=by
 obtain⟨v1,v2⟩:=oo (l:=c.Lin) (by omega)
 have hr:=h.1.r
 have hL:=pg hr
 have q2:gY c=some (if cv c.Lin then 0 else 1):=by
  unfold gY;rw[v2,Option.bind_some]
  by_cases ho:cv c.Lin<;>simp[ho]
 refine⟨q2,?_⟩
 ·unfold lZ Ii
  rw[q2,Option.bind_some]
  by_cases ho:cv c.Lin
  ·simp only[ho,if_true,decide_true,Bool.not_true,Bool.false_eq_true,if_false,ml hr.1 hr.2 (show c.Lin.L.length<90000000 by omega),Option.bind_some]
   split<;>simp(disch:=(first | omega | (simp only[List.length_append,List.length_cons,List.length_nil];omega))) only[aR,Option.bind_some]
  ·simp[ho]
theorem Eb {x:fE} (h:qf x) (hz:ie x≤1048576):lm x.Dims=some (decide (∀ f∈x.Dims,cv f))∧jS x.Dims=some (dP (x.Dims.map mw)):=by
 obtain⟨z1,z2⟩:=Fw hz
 have hn:=iv jP x.Dims
 have hj:=wS h.2.2
 exact⟨xD (l:=x.Dims) (by omega) λf hf=>by have:=FK z1 hf;omega,zg (l:=x.Dims) (by omega) (λf hf=>⟨(h.2.2.1 f hf).r,by have:=FK z1 hf;omega⟩) (by omega)⟩
theorem Kg {d:cU} (h:Pr d) (hv:vE d.Body=0):(wY d).length≤40 * nq d+30200:=by
 have hs:=Hs d
 have hfl:=Bp h
 obtain⟨⟨o1,o2,o3,o4,o5,o6⟩,h300,hz⟩:=h
 have hj3:=rO o3
 have hl3:=fv (d.Dims.map E8)
 have hT:=uh d.Type_
 have hel:=yp (wE d.Body+1) d.Body (by omega) o6 (ug hv)
 unfold wY
 simp only[List.length_append,List.length_cons,List.length_nil];omega
theorem ED {d:cU} (h:Pr d):(EF d).length≤40 * nq d+30200:=by
 unfold EF
 split
 ·rename_i hb
  unfold sy at hb
  simp only[Bool.and_eq_true,decide_eq_true_eq]at hb
  exact Kg h hb.2
 ·simp
theorem EC (d:cU):decide (EF d=[])= !sy d:=by
 unfold EF wY
 cases sy d<;>simp
def MZ (d:cU):List UInt8:=EF d++[10]
def mC (p:aV):List UInt8:=if uK p=true then wP [115,105,122,101] p.Sizes++(p.Where.map KG).flatten++(p.Params.map yM).flatten++(p.Defs.map MZ).flatten++wP uC p.Outs else[]
theorem NB {p:aV} (h:smP p) {s:List UInt8} (hs:s.length≤300000000):eh p (dP p.Outs,true) fu s 0=some (if p.Defs.all sy=true then s++(p.Defs.map MZ).flatten++wP uC p.Outs else[]):=by
 have hq:=h.sums
 have hsz:=tB p
 have h2:=h.2.1
 have hn:=iv nq p.Defs
 have key:=wW (L:=eh p (dP p.Outs,true)) (l:=p.Defs) (ok:=sy) (tx:=MZ) (c:=λd=>40 * nq d+30201) (bad:=some []) (k:=λs=>some (s++wP uC p.Outs)) (s0:=s) (B:=400000000) (by omega)
  (λd hd=>by have:=ED (h.d hd);unfold MZ;simp only[List.length_append,List.length_cons,List.length_nil];omega) (by omega)
  (λf i s x hx ho hl=>by
   have hi:=eM hx
   have hd:=h.d (List.mem_of_getElem? hx)
   have hdl:=ED hd
   simp only[eh]
   rw[if_pos (bs hi),bn hx,Option.bind_some,AZ hd,Option.bind_some,EC,ho,if_neg (by simp),mH (by omega)]
   simp(disch:=(first | omega | (simp only[List.length_append,List.length_cons,List.length_nil];omega))) only[aR,Option.bind_some]
   rw[List.append_assoc]
   rfl)
  (λf i s x hx ho=>by
   have hi:=eM hx
   have hd:=h.d (List.mem_of_getElem? hx)
   simp only[eh]
   rw[if_pos (bs hi),bn hx,Option.bind_some,AZ hd,Option.bind_some,EC,ho,if_pos (by simp)])
  (λf s hl=>by
   simp only[eh]
   rw[if_neg (by simp),NC h (by omega)])
 rw[key]
 split<;>rfl
theorem NA {p:aV} (h:smP p) {s:List UInt8} (hs:s.length≤100000000):eg p (dP p.Outs,true) fu s 0=some (if p.Params.all wc=true∧p.Defs.all sy=true then s++(p.Params.map yM).flatten++(p.Defs.map MZ).flatten++wP uC p.Outs else[]):=by
 have hq:=h.sums
 have hsz:=tB p
 have h2:=h.2.1
 have hn:=iv ie p.Params
 have hp:∀ x∈p.Params,qf x∧ie x≤1048576:=λx hx=>⟨h.1.2.2.1.1 x hx,by have:=rU (f:=ie) hx;omega⟩
 have key:=wW (L:=eg p (dP p.Outs,true)) (l:=p.Params) (ok:=wc) (tx:=yM) (c:=λx=>40 * ie x+70) (bad:=some []) (k:=λs=>eh p (dP p.Outs,true) fu s 0) (s0:=s) (B:=300000000) (by omega)
  (λx hx=>yL (hp x hx).1) (by omega)
  (λf i s x hx ho hl=>by
   have hi:=eM hx
   obtain⟨o,z⟩:=hp x (List.mem_of_getElem? hx)
   obtain⟨d2,d4⟩:=Eb o z
   have hdl:=yL o
   have hT:=uh x.Type_
   have h1:=wS o.2.2
   have h2:=fv (x.Dims.map mw)
   have h3:=Fw z
   unfold wc at ho
   simp only[Bool.and_eq_true]at ho
   simp only[eg]
   rw[if_pos (bs hi)]
   simp only[bn hx,Option.bind_some,fh,pY,ax,d2,d4,ho.1.1,ho.1.2,ho.2,BM x.Type_,Bool.not_true,Bool.not_false,Bool.false_eq_true,if_true,if_false,Bool.or_false,decide_true,mH (show i<4611686018427387904 by omega)]
   simp(disch:=(first | omega | (simp only[List.length_append,List.length_cons,List.length_nil];omega))) only[aR,Option.bind_some]
   unfold yM
   simp only[List.append_assoc])
  (λf i s x hx ho=>by
   have hi:=eM hx
   obtain⟨o,z⟩:=hp x (List.mem_of_getElem? hx)
   obtain⟨d2,d4⟩:=Eb o z
   simp only[eg]
   rw[if_pos (bs hi)]
   simp only[bn hx,Option.bind_some,fh,pY,ax,d2]
   rw[if_pos]
   unfold wc at ho
   revert ho
   cases bw x.Name<;>cases pF x.Type_<;>cases decide (∀ f∈x.Dims,cv f)<;>simp)
  (λf s hl=>by
   simp only[eg]
   rw[if_neg (by simp)]
   rfl)
 rw[key]
 by_cases hc:p.Params.all wc=true
 ·have hb:(s++(p.Params.map yM).flatten).length≤300000000:=by
   rw[List.length_append,List.length_flatten,List.map_map]
   have:(p.Params.map (List.length∘yM)).sum≤(p.Params.map λx=>40 * ie x+70).sum:=lK λx hx=>yL (hp x hx).1
   omega
  rw[if_pos hc,NB h hb]
  simp only[hc,true_and]
 ·rw[if_neg hc];simp[hc]
theorem Jm {p:aV} (h:smP p) {s:List UInt8} (hs:s.length≤10000000):fe p (dP p.Outs,true) fu s 0=some (if p.Where.all CL=true∧p.Params.all wc=true∧p.Defs.all sy=true then s++(p.Where.map KG).flatten++(p.Params.map yM).flatten++(p.Defs.map MZ).flatten++wP uC p.Outs else[]):=by
 have hq:=h.sums
 have hsz:=tB p
 have h2:=h.2.1
 have hn:=iv cr p.Where
 have hp:∀ x∈p.Where,mJ x∧x.Lin.L.length≤1048576∧cr x≤1048576:=λx hx=>⟨h.1.2.1.1 x hx,Km (by omega) hx,by have:=rU (f:=cr) hx;omega⟩
 have hwl:∀ x∈p.Where,(KG x).length≤40 * cr x+40:=λx hx=>by
  have:=EI (hp x hx).1
  unfold KG;simp only[List.length_append,List.length_cons,List.length_nil];omega
 have key:=wW (L:=fe p (dP p.Outs,true)) (l:=p.Where) (ok:=CL) (tx:=KG) (c:=λx=>40 * cr x+40) (bad:=some []) (k:=λs=>eg p (dP p.Outs,true) fu s 0) (s0:=s) (B:=100000000) (by omega) hwl (by omega)
  (λf i s x hx ho hl=>by
   have hi:=eM hx
   obtain⟨o,z,z2⟩:=hp x (List.mem_of_getElem? hx)
   obtain⟨d2,d4⟩:=Ko o z
   have hdl:=EI o
   unfold CL at ho
   simp only[fe]
   rw[if_pos (bs hi)]
   simp only[bn hx,Option.bind_some,d2,d4,if_pos (of_decide_eq_true ho),decide_true,Bool.not_true,Bool.false_eq_true,if_false,mH (show i<4611686018427387904 by omega)]
   simp(disch:=(first | omega | (simp only[List.length_append,List.length_cons,List.length_nil];omega))) only[aR,Option.bind_some]
   unfold KG
   simp only[List.append_assoc])
  (λf i s x hx ho=>by
   have hi:=eM hx
   obtain⟨o,z,z2⟩:=hp x (List.mem_of_getElem? hx)
   obtain⟨d2,d4⟩:=Ko o z
   unfold CL at ho
   simp only[fe]
   rw[if_pos (bs hi),bn hx,Option.bind_some,d2,if_neg (of_decide_eq_false ho),Option.bind_some,if_pos (by simp)])
  (λf s hl=>by
   simp only[fe]
   rw[if_neg (by simp)]
   rfl)
 rw[key]
 by_cases hc:p.Where.all CL=true
 ·have hb:(s++(p.Where.map KG).flatten).length≤100000000:=by
   rw[List.length_append,List.length_flatten,List.map_map]
   have:(p.Where.map (List.length∘KG)).sum≤(p.Where.map λx=>40 * cr x+40).sum:=lK λx hx=>hwl x hx
   omega
  rw[if_pos hc,NA h hb]
  simp only[hc,true_and]
 ·rw[if_neg hc];simp[hc]
theorem Fp {p:aV} (h:smP p):nT p=some (mC p):=by
 have hsz:=tB p
 have h2:=h.2.1
 unfold nT mC uK
 simp only[xr (show oz List.length p.Sizes≤1048576 by omega),xr (show oz List.length p.Outs≤1048576 by omega),Option.bind_some]
 by_cases hc:p.Sizes.all bw=true∧p.Outs.all bw=true
 ·simp only[hc.1,hc.2,Bool.not_true,Bool.not_false,if_true,Bool.or_false,Bool.false_eq_true,if_false,Bool.true_and,Bool.and_self]
  have hj:=vg (l:=p.Sizes)
  have h1:=fv p.Sizes
  unfold k8
  by_cases he:p.Sizes=[]
  ·rw[if_neg (by simp[he]),Jm h (by simp)]
   simp only[he,wP,if_true,List.nil_append,Bool.and_eq_true]
  ·have hp:decide (0<(p.Sizes.length:Int))=true:=by simpa using List.length_pos_iff.2 he
   simp only[hp,if_true]
   simp(disch:=(first | omega | (simp only[List.length_append,List.length_cons,List.length_nil];omega))) only[aR,Option.bind_some]
   rw[Jm h (by simp only[List.length_append,List.length_cons,List.length_nil];omega)]
   have e:wP [115,105,122,101] p.Sizes=[115,105,122,101,32]++dP p.Sizes++[59,10]:=by simp[wP,he]
   rw[e]
   simp only[Bool.and_eq_true]
 ·rw[if_pos,if_neg]
  ·simp only[Bool.and_eq_true];exact λq=>hc q.1
  ·revert hc;cases p.Sizes.all bw<;>cases p.Outs.all bw<;>simp
end Go.Proofs.YtmhoikfoogemnaaGreatDoor
namespace Go.Proofs.YtmhoikfoogemnaaGreatDoor.Z13
open Go Go.RowKit Go.Vc
set_option linter.unusedVariables false
set_option linter.unusedSimpArgs false
def kt (l:List bp):List (Int×List UInt8):=l.map λt=>(t.Kind,t.Text)
theorem Ep (s:List UInt8):∀ (f g p:Nat),s.length<p+f→s.length<p+g→uS s f p=uS s g p
 | 0,g,p,h,_=>by
  have h1:¬ p<s.length:=by omega
  cases g with
  | zero=>rfl
  | succ g=>simp only[uS,if_neg h1]
 | f+1,0,p,_,h=>by
  have h1:¬ p<s.length:=by omega
  simp only[uS,if_neg h1]
 | f+1,g+1,p,h,k=>by
  simp only[uS]
  by_cases h1:p<s.length
  ·rw[if_pos h1,if_pos h1]
   by_cases hk:(gr (s.drop p)).1=0
   ·rw[if_pos hk,if_pos hk]
   ·rw[if_neg hk,if_neg hk]
    have hpos:=uq (s.drop p) (by simp;omega) hk
    rw[Ep s f g _ (by omega) (by omega)]
  ·rw[if_neg h1,if_neg h1]
theorem DQ {p:Int→Bool} {x:UInt8} (hp:p (x.toNat:Int)=false) (l b:List UInt8):lD p (l++x::b)=lD p l:=by
 induction l with
 | nil=>simp only[List.nil_append,lD];rw[hp]
 | cons c l ih=>simp only[List.cons_append,lD,ih]
theorem I7 (l b:List UInt8):∀ c:Bool,bK c (l++10::b)=if bK c l=l.length then l.length+1+bK false b else bK c l:=by
 induction l with
 | nil=>intro c;cases c<;>(simp only[List.nil_append,bK,List.length_nil,if_true];simp[pZ,qg];omega)
 | cons x l ih=>
  intro c
  have h0:=ih false
  have h1:=ih true
  have key:∀ k:Bool,(bK k (l++10::b))+1=if bK k l+1=l.length+1 then l.length+1+1+bK false b else bK k l+1:=λk=>by
   rw[ih k];by_cases e:bK k l=l.length
   ·rw[if_pos e,if_pos (by omega)];omega
   ·rw[if_neg e,if_neg (by omega)]
  cases c
  ·simp only[List.cons_append,bK,List.length_cons]
   by_cases hs:pZ (x.toNat:Int)=true
   ·simp only[hs];exact key false
   ·rw[Bool.not_eq_true]at hs
    simp only[hs]
    by_cases hc:decide ((x.toNat:Int)=35)=true
    ·simp only[hc];exact key true
    ·rw[Bool.not_eq_true]at hc
     simp only[hc];rw[if_neg (by omega)]
  ·simp only[List.cons_append,bK,List.length_cons]
   by_cases hs:qg (x.toNat:Int)=true
   ·simp only[hs];exact key true
   ·rw[Bool.not_eq_true]at hs
    simp only[hs];exact key false
def Sp (x:UInt8) (a:List UInt8):Prop:=x=10∨(x=32∧∀ c∈a,c≠35)
theorem Sp.drop {x:UInt8} {a:List UInt8} (h:Sp x a) (k:Nat):Sp x (a.drop k):=h.imp id λh=>⟨h.1,λc hc=>h.2 c (List.mem_of_mem_drop hc)⟩
theorem DU (b:List UInt8):∀ l:List UInt8,(∀ c∈l,c≠35)→bK false (l++32::b)=if bK false l=l.length then l.length+1+bK false b else bK false l
 | [],_=>by simp only[List.nil_append,bK,List.length_nil,if_true];simp[pZ];omega
 | x::l,h=>by
  have ih:=DU b l λc hc=>h c (by simp[hc])
  have hx:decide ((x.toNat:Int)=35)=false:=decide_eq_false λhh=>h x (by simp) (UInt8.toNat_inj.1 (by show x.toNat=35;omega))
  simp only[List.cons_append,bK,List.length_cons]
  by_cases hs:pZ (x.toNat:Int)=true
  ·simp only[hs]
   rw[ih]
   by_cases e:bK false l=l.length
   ·rw[if_pos e,if_pos (by omega)];omega
   ·rw[if_neg e,if_neg (by omega)]
  ·rw[Bool.not_eq_true]at hs
   simp only[hs,hx];rw[if_neg (by omega)]
theorem DT {x:UInt8} {l:List UInt8} (h:Sp x l) (b:List UInt8):bK false (l++x::b)=if bK false l=l.length then l.length+1+bK false b else bK false l:=by
 rcases h with rfl | ⟨rfl,h⟩
 ·exact I7 l b false
 ·exact DU b l h
theorem JC {x:UInt8} {l:List UInt8} (hx:Sp x l) (b:List UInt8) (h0:0<l.length):gr (l++x::b)=gr l:=by
 have hx:x=10∨x=32:=hx.imp id And.left
 have p1:hO (x.toNat:Int)=false:=by rcases hx with rfl | rfl<;>decide
 have p2:sx (x.toNat:Int)=false:=by rcases hx with rfl | rfl<;>decide
 have p3:(x.toNat:Int)≠61:=by rcases hx with rfl | rfl<;>decide
 obtain⟨c,l,rfl⟩:∃ c l',l=c::l':=by cases l with | nil=>simp at h0 | cons c l=>exact⟨c,l,rfl⟩
 unfold gr
 rw[List.cons_append,wG,wG, ← List.cons_append,DQ p1,DQ p2]
 have h2:(decide ((1:Int)<((c::l++x::b).length:Int))&&decide (Ge (c::l++x::b) 1=61))=(decide ((1:Int)<((c::l).length:Int))&&decide (Ge (c::l) 1=61)):=by
  cases l with
  | nil=>
   have e1:Ge (c::[]++x::b) 1=(x.toNat:Int):=rfl
   rw[e1,decide_eq_false p3,Bool.and_false];rfl
  | cons d l=>
   have e1:Ge (c::d::l++x::b) 1=Ge (c::d::l) 1:=rfl
   rw[e1,decide_eq_true (show(1:Int)<((c::d::l++x::b).length:Int)by simp only[List.length_append,List.length_cons];omega),decide_eq_true (show(1:Int)<((c::d::l).length:Int)by simp only[List.length_cons];omega)]
 simp only[Bool.and_assoc]
 rw[h2]
theorem Bn (c b:List UInt8):∀ (f q:Nat),kt (uS (c++b) f (c.length+q)).1=kt (uS b f q).1∧((uS (c++b) f (c.length+q)).2.2=(uS b f q).2.2)
 | 0,q=>⟨rfl,rfl⟩
 | f+1,q=>by
  have hd:(c++b).drop (c.length+q)=b.drop q:=by rw[List.drop_append];simp
  have hd2:(c++b).drop (c.length+q+(gr (b.drop q)).2)=b.drop (q+(gr (b.drop q)).2):=by rw[Nat.add_assoc,List.drop_append];simp
  simp only[uS,hd]
  by_cases h1:q<b.length
  ·rw[if_pos (by simp;omega),if_pos h1]
   by_cases hk:(gr (b.drop q)).1=0
   ·rw[if_pos hk,if_pos hk];exact⟨rfl,rfl⟩
   rw[if_neg hk,if_neg hk]
   by_cases hb:(gr (b.drop q)).1=1∧16<(gr (b.drop q)).2
   ·rw[if_pos hb,if_pos hb];exact⟨rfl,rfl⟩
   rw[if_neg hb,if_neg hb,hd2]
   obtain⟨i1,i2⟩:=Bn c b f (q+(gr (b.drop q)).2+bK false (b.drop (q+(gr (b.drop q)).2)))
   have e:c.length+q+(gr (b.drop q)).2+bK false (b.drop (q+(gr (b.drop q)).2))=c.length+(q+(gr (b.drop q)).2+bK false (b.drop (q+(gr (b.drop q)).2))):=by omega
   rw[e]
   refine⟨?_,i2⟩
   show(_ ::kt _)=(_ ::kt _)
   rw[i1]
  ·rw[if_neg (by simp;omega),if_neg h1];exact⟨rfl,rfl⟩
theorem Eo {x:UInt8} (a b:List UInt8) (hx:Sp x a):∀ (f p:Nat),p≤a.length→a.length<p+f→(uS a f p).2.2=0→∀ g,(a++x::b).length<p+g→
  kt (uS (a++x::b) g (if p=a.length then a.length+1+bK false b else p)).1=kt (uS a f p).1++kt (uS b (b.length+1) (bK false b)).1∧
  (uS (a++x::b) g (if p=a.length then a.length+1+bK false b else p)).2.2=(uS b (b.length+1) (bK false b)).2.2
 | 0,p,hp,hf,_,g,hg=>by omega
 | f+1,p,hp,hf,he,g,hg=>by
  by_cases hlt:p<a.length
  ·rw[if_neg (by omega)]
   obtain⟨g,rfl⟩:∃ k,g=k+1:=⟨g - 1,by simp at hg;omega⟩
   have hd:(a++x::b).drop p=a.drop p++x::b:=by rw[List.drop_append_of_le_length (by omega)]
   have hn:gr ((a++x::b).drop p)=gr (a.drop p):=by rw[hd];exact JC (hx.drop p) _ (by simp;omega)
   have hle:=yP (a.drop p) (by simp;omega)
   simp only[List.length_drop]at hle
   simp only[uS,hn]at he ⊢
   rw[if_pos hlt]at he ⊢
   rw[if_pos (by simp;omega)]
   by_cases hk:(gr (a.drop p)).1=0
   ·rw[if_pos hk]at he;simp at he
   rw[if_neg hk]at he ⊢
   rw[if_neg hk]
   by_cases hb:(gr (a.drop p)).1=1∧16<(gr (a.drop p)).2
   ·rw[if_pos hb]at he;simp at he
   rw[if_neg hb]at he ⊢
   rw[if_neg hb]
   have hpos:=uq (a.drop p) (by simp;omega) hk
   generalize hkk:(gr (a.drop p)).2=k at *
   have hd2:(a++x::b).drop (p+k)=a.drop (p+k)++x::b:=by rw[List.drop_append_of_le_length (by omega)]
   have hs:=DT (hx.drop (p+k)) b
   have hsl:=qb false (a.drop (p+k))
   have hal:(a.drop (p+k)).length=a.length - (p+k):=by simp
   have ih:=Eo a b hx f (p+k+bK false (a.drop (p+k))) (by omega) (by omega) he g (by simp only[List.length_append,List.length_cons]at hg ⊢;omega)
   have e:p+k+bK false ((a++x::b).drop (p+k))=if p+k+bK false (a.drop (p+k))=a.length then a.length+1+bK false b else p+k+bK false (a.drop (p+k)):=by
    rw[hd2,hs,hal]
    by_cases c:bK false (a.drop (p+k))=a.length - (p+k)
    ·rw[if_pos c,if_pos (by omega)];omega
    ·rw[if_neg c,if_neg (by omega)]
   rw[e]
   refine⟨?_,ih.2⟩
   have ht:((a++x::b).drop p).take k=(a.drop p).take k:=by rw[hd,List.take_append_of_le_length (by simp;omega)]
   rw[ht]
   show(_ ::kt _)=(_ ::kt _)++ _
   rw[ih.1];rfl
  ·obtain rfl:p=a.length:=by omega
   rw[if_pos rfl]
   have hx:uS a (f+1) a.length=([],0,0):=by simp only[uS];rw[if_neg (by omega)]
   rw[hx]
   have e:a++x::b=(a++[x])++b:=by simp
   have hl:a.length+1+bK false b=(a++[x]).length+bK false b:=by simp
   have hsk:=qb false b
   obtain⟨i1,i2⟩:=Bn (a++[x]) b g (bK false b)
   rw[e,hl]
   simp only[List.length_append,List.length_cons]at hg
   rw[Ep b g (b.length+1) (bK false b) (by omega) (by omega)]at i1 i2
   exact⟨i1,i2⟩
theorem tokens_sep {x:UInt8} {a b:List UInt8} (hx:Sp x a) (hl:(a++x::b).length≤65536) (ha:(tokens a).2.2=0) (hb:(tokens b).2.2=0):(tokens (a++x::b)).2=(0,0)∧kt (tokens (a++x::b)).1=kt (tokens a).1++kt (tokens b).1:=by
 have hl':=hl
 simp only[List.length_append,List.length_cons]at hl'
 have un:∀ s:List UInt8,s.length≤65536→(tokens s).2.2=0→(uS s (s.length+1) (bK false s)).2.2=0∧(tokens s).1=(uS s (s.length+1) (bK false s)).1:=λs hs h=>by
  unfold tokens at h ⊢
  rw[if_neg (by omega)]at h ⊢
  dsimp only at h ⊢
  by_cases h0:(uS s (s.length+1) (bK false s)).2.2=0
  ·rw[if_pos h0];exact⟨h0,rfl⟩
  ·rw[if_neg h0]at h;exact absurd h h0
 obtain⟨a1,a2⟩:=un a (by omega) ha
 obtain⟨b1,b2⟩:=un b (by omega) hb
 have hsl:=qb false a
 have hs:=DT hx b
 obtain⟨k1,k2⟩:=Eo a b hx (a.length+1) (bK false a) hsl (by omega) a1 ((a++x::b).length+1) (by omega)
 rw[← hs]at k1 k2
 unfold tokens
 rw[if_neg (by omega)]
 dsimp only
 rw[if_pos (by rw[k2];exact b1)]
 refine⟨rfl,?_⟩
 have e1:=a2;have e2:=b2
 unfold tokens at e1 e2
 rw[k1]
 show _ =kt (tokens a).1++kt (tokens b).1
 rw[a2,b2]
theorem tokens_lines:∀ (ls:List (List UInt8)),(ls.map (· ++[10])).flatten.length≤65536→(∀ a∈ls,(tokens a).2.2=0)→(tokens (ls.map (· ++[10])).flatten).2=(0,0)∧kt (tokens (ls.map (· ++[10])).flatten).1=(ls.map λa=>kt (tokens a).1).flatten
 | [],_,_=>⟨rfl,rfl⟩
 | a::ls,hl,h=>by
  have e:((a::ls).map (· ++[10])).flatten=a++10::(ls.map (· ++[10])).flatten:=by simp
  rw[e]at hl ⊢
  obtain⟨i1,i2⟩:=tokens_lines ls (by simp only[List.length_append,List.length_cons]at hl;omega) λx hx=>h x (by simp[hx])
  obtain⟨j1,j2⟩:=tokens_sep (.inl rfl) hl (h a (by simp)) (by rw[i1])
  exact⟨j1,by rw[j2,i2];rfl⟩
end Go.Proofs.YtmhoikfoogemnaaGreatDoor.Z13
namespace Go.Proofs.YtmhoikfoogemnaaGreatDoor
open Go Go.RowKit Go.Vc
set_option linter.unusedVariables false
set_option linter.unusedSimpArgs false
abbrev JB (n:List UInt8):Tx:=[n]
def yE (w:List UInt8) (l:List (List UInt8)):List UInt8:=w++([32]++(dP l++[59]))
def Nz (w:List UInt8) (l:List (List UInt8)):Tx:=[w]++([[32]]++(cp (l.map JB)++[[59]]))
def LW (b:Bool):List UInt8:=if b=true then[61,61]else[60,61]
def PF (c:aD):List UInt8:=[119,104,101,114,101]++([32]++([48]++(([32]++(LW c.Eq++[32]))++(mw c.Lin++[59]))))
def whL (c:aD):Tx:=[[119,104,101,114,101]]++([[32]]++([[48]]++(([[32]]++([LW c.Eq]++[[32]]))++(jY c.Lin++[[59]]))))
def Js (x:fE):List UInt8:=[105,110]++([32]++(x.Name++([58]++([32]++(Dx x.Type_++(([91]++(dP (x.Dims.map mw)++[93]))++[59]))))))
def NJ (x:fE):Tx:=[[105,110]]++([[32]]++([x.Name]++([[58]]++([[32]]++(wK x.Type_++(([[91]]++(cp (x.Dims.map jY)++[[93]]))++[[59]]))))))
def AO (a:fG):Tx:=[a.Name]++(([[32]]++([[60]]++[[32]]))++jY a.Size)
def QX (d:cU):List UInt8:=[100,101,102]++([32]++(d.Name++([58]++([32]++(Dx d.Type_++([91]++(dP (d.Dims.map E8)++[93])))))))
def dAL (d:cU):Tx:=[[100,101,102]]++([[32]]++([d.Name]++([[58]]++([[32]]++(wK d.Type_++([[91]]++(cp (d.Dims.map AO)++[[93]])))))))
def Br (d:cU):Tx:=if d.Fold=0 then[]else[Is d.Fold]++((if d.Red=[]then[]else[[32]]++cp (d.Red.map AO))++([[58]]++[[32]]))
def QW (d:cU):List UInt8:=xH d++(sY d.Body++[59])
def QD (d:cU):Tx:=Br d++(nv d.Body++[[59]])
theorem Mq:∀ t∈[[115,105,122,101],[111,117,116],[119,104,101,114,101],[105,110],[100,101,102],[115,117,109],[112,114,111,100],[109,105,110],[109,97,120],[115,99,97,110]],td t:=by
 intro t ht
 simp only[List.mem_cons,List.not_mem_nil,or_false]at ht
 rcases ht with rfl | rfl | rfl | rfl | rfl | rfl | rfl | rfl | rfl | rfl<;>exact⟨by decide,by decide,by decide,by decide⟩
theorem Lex.end_ {a:Tx} {A:List UInt8} {z:Bool} (h:Lex a A z):Lex (a++[[59]]) (A++[59]) true:=h.app2 (Re (t:=[59]) (by decide) (by decide) (by decide)) ⟨59,[],rfl,by decide⟩
theorem Lex.sp {t:List UInt8} {a:Tx} {A:List UInt8} {z:Bool} (h:td t) (k:Lex a A z):Lex ([t]++([[32]]++a)) (t++([32]++A)) z:=(Q8 h).app2 (Lex.blank.app k) ⟨32,A,rfl,by decide⟩
theorem LH {w:List UInt8} {l:List (List UInt8)} (hw:td w) (hl:l.all bw=true):Lex (Nz w l) (yE w l) true:=by
 have hj:=Rh (l:=l) (f:=JB) (g:=id) (z:=false) λn hn=>Q8 (fw (List.all_eq_true.1 hl n hn))
 rw[List.map_id]at hj
 exact Lex.sp hw hj.end_
theorem MY (b:Bool):LW b∈gt∧El (LW b)=false:=by cases b<;>exact⟨by decide,by decide⟩
theorem OM {c:aD} (h:cv c.Lin):Lex (whL c) (PF c) true:=by
 have h0:Lex [[48]] [48] false:=Lex.num ⟨by decide,by decide⟩
 exact Lex.sp (Mq _ (by simp)) (h0.app2 ((Lex.oper (MY c.Eq).1 (MY c.Eq).2).app (Lex.lin h).end_) ⟨32,_,rfl,by decide⟩)
theorem OP {a:fG} (h:Dr a=true):Lex (AO a) (E8 a) false:=by
 unfold Dr at h
 rw[Bool.and_eq_true,decide_eq_true_eq]at h
 exact(Q8 (fw h.1)).app2 ((Lex.oper (t:=[60]) (by decide) (by decide)).app (Lex.lin h.2)) ⟨32,_,rfl,by decide⟩
theorem Hd {l:List fG} (h:l.all Dr=true):Lex (cp (l.map AO)) (dP (l.map E8)) false:=Rh λa ha=>OP (List.all_eq_true.1 h a ha)
theorem Hc {n:List UInt8} {a:Tx} {A:List UInt8} {z:Bool} (hn:bw n=true) (k:Lex a A z):Lex ([n]++([[58]]++([[32]]++a))) (n++([58]++([32]++A))) z:=
 (Q8 (fw hn)).app2 ((Re (t:=[58]) (by decide) (by decide) (by decide)).app (Lex.blank.app k)) ⟨58,_,rfl,by decide⟩
theorem LI {x:fE} (h:wc x=true):Lex (NJ x) (Js x) true:=by
 unfold wc at h
 simp only[Bool.and_eq_true,decide_eq_true_eq]at h
 obtain⟨⟨h1,h2⟩,h3⟩:=h
 exact Lex.sp (Mq _ (by simp)) (Hc h1 ((Lex.type h2).app2 ((Rh λf hf=>Lex.lin (h3 f hf)).brack.end_) ⟨91,_,rfl,by decide⟩))
theorem tR {d:cU} (h:sy d=true):bw d.Name=true∧d.Dims.all Dr=true∧d.Red.all Dr=true∧pF d.Type_=true∧F3 d∧vE d.Body=0:=by
 unfold sy Kh at h
 simp only[Bool.and_eq_true,decide_eq_true_eq]at h
 obtain⟨⟨⟨⟨⟨a,b⟩,c⟩,d⟩,e⟩,f⟩:=h
 exact⟨a,b,c,d,e,f⟩
theorem OO {d:cU} (h:sy d=true):Lex (dAL d) (QX d) true:=by
 obtain⟨h1,h2,h3,h4,h5,h6⟩:=tR h
 exact Lex.sp (Mq _ (by simp)) (Hc h1 ((Lex.type h4).app2 (Hd h2).brack ⟨91,_,rfl,by decide⟩))
theorem Cw (n:Int):td (Is n):=by
 unfold Is
 repeat' split
 all_goals exact Mq _ (by simp)
theorem JR {d:cU} (h:d.Red.all Dr=true):Lex (Br d) (xH d) true:=by
 unfold Br xH
 by_cases h0:d.Fold=0
 ·rw[if_pos h0,if_pos h0];exact Lex.nil
 rw[if_neg h0,if_neg h0]
 have hc:Lex ([[58]]++[[32]]) ([58]++[32]) true:=(Re (by decide) (by decide) (by decide)).app Lex.blank
 by_cases hr:d.Red=[]
 ·rw[if_pos hr,if_pos hr]
  exact(Q8 (Cw _)).app2 hc ⟨58,_,rfl,by decide⟩
 ·rw[if_neg hr,if_neg hr,List.append_assoc]
  have:=Lex.sp (Cw d.Fold) ((Hd h).app2 hc ⟨58,_,rfl,by decide⟩)
  simpa using this
theorem ON {d:cU} (h:sy d=true) (ho:okGExpr d.Body):Lex (QD d) (QW d) true:=by
 obtain⟨h1,h2,h3,h4,h5,h6⟩:=tR h
 exact(JR h3).app (Eh (wE d.Body+1) d.Body (by omega) ho (ug h6)).end_
theorem F2 (d:cU):wY d=QX d++32::([61]++32::QW d):=by unfold wY QX QW;simp
def kx (l:Tx):List (Int×List UInt8):=l.map λt=>(im t,t)
theorem FM (a b:Tx):kx (a++b)=kx a++kx b:=List.map_append
theorem FN:∀ (o:Nat) (ls:Tx),Z13.kt (HF o ls)=kx (dg ls)
 | _,[]=>rfl
 | o,t::r=>by
  rw[HF]
  by_cases h:t=[32]
  ·rw[if_pos h,FN (o+1) r]
   show _ =kx (List.filter iG (t::r))
   rw[List.filter_cons_of_neg (by simp[iG,h])]
  ·rw[if_neg h]
   show _ =kx (List.filter iG (t::r))
   rw[List.filter_cons_of_pos (by simp[iG,h])]
   show(_ ::Z13.kt (HF (o+t.length) r))=_
   rw[FN (o+t.length) r];rfl
theorem tG {ls:Tx} {T:List UInt8} {z:Bool} (lx:Lex ls T z) (h0:∃ t r,ls=t::r∧t≠[32]) (hl:T.length≤65536):(Z13.tokens T).2=(0,0)∧Z13.kt (Z13.tokens T).1=kx (dg ls):=by
 have hok:=lx.ok none (.inr λc hc=>by cases hc)
 have hll:=Hb hok
 have h1:=Nk hok (.inr h0) (by rw[lx.flat];exact hl) (by rw[lx.flat]at hll;omega)
 rw[lx.flat]at h1
 have hZ:=Z13.lexer_Tokenize T (by omega)
 rw[h1]at hZ
 have hZ1:HF 0 ls=(Z13.tokens T).1∧(0:Int)=((Z13.tokens T).2.1:Int)∧(0:Int)=((Z13.tokens T).2.2:Int):=by
  injection hZ with hZ;injection hZ with a hZ;injection hZ with b c;exact⟨a,b,c⟩
 obtain⟨a,b,c⟩:=hZ1
 refine⟨Prod.ext ?_ ?_,by rw[← a];exact FN 0 ls⟩
 ·show(Z13.tokens T).2.1=0;omega
 ·show(Z13.tokens T).2.2=0;omega
theorem Qk:∀ {ls:Tx} {n:Option UInt8},ve ls n→∀ c∈ls.flatten,c≠35
 | [],_,_,c,hc=>by cases hc
 | t::r,n,h,c,hc=>by
  rw[List.flatten_cons]at hc
  rcases List.mem_append.1 hc with hc | hc
  ·rcases h.1 with rfl | ⟨h1,_⟩
   ·rw[List.mem_singleton.1 hc];decide
   ·rcases h1 with⟨_,h2,_⟩ | ⟨h2,_⟩ | h2
    ·have:=List.all_eq_true.1 h2 c hc
     intro hh;subst hh;revert this;decide
    ·have:=List.all_eq_true.1 h2 c hc
     intro hh;subst hh;revert this;decide
    ·unfold gt at h2
     simp only[List.mem_cons,List.not_mem_nil,or_false]at h2
     rcases h2 with rfl | rfl | rfl | rfl | rfl | rfl | rfl | rfl | rfl | rfl | rfl | rfl | rfl | rfl | rfl | rfl | rfl<;>(simp only[List.mem_cons,List.not_mem_nil,or_false]at hc;rcases hc with rfl | rfl<;>decide)
  ·exact Qk h.2 c hc
theorem Lex.sepB {ls:Tx} {T:List UInt8} {z:Bool} (lx:Lex ls T z):Z13.Sp 32 T:= .inr ⟨rfl,by rw[← lx.flat];exact Qk (lx.ok none (.inr λc hc=>by cases hc))⟩
abbrev BV (w:List UInt8) (l:List (List UInt8)):Tx:=dg (Nz w l)
abbrev Nf (c:aD):Tx:=dg (whL c)
abbrev Fx (x:fE):Tx:=dg (NJ x)
def CI (d:cU):Tx:=dg (dAL d)++([61]::dg (QD d))
theorem OZ {e:ae} (ho:okGExpr e) (he:ov e=0) (q:Tx):∃ t r,nv e++q=t::r∧t≠[32]:=by
 obtain⟨t,r,h1,h2⟩:=J7 ho he
 exact⟨t,r++q,by rw[h1];rfl,h2⟩
theorem O5 {d:cU} (h:sy d=true) (ho:okGExpr d.Body):∃ t r,QD d=t::r∧t≠[32]:=by
 obtain⟨h1,h2,h3,h4,h5,h6⟩:=tR h
 unfold QD Br
 by_cases h0:d.Fold=0
 ·rw[if_pos h0];exact OZ ho (ug h6) _
 ·rw[if_neg h0]
  exact⟨_,_,rfl,λhh=>by have:=(Cw d.Fold).1;rw[hh]at this;revert this;decide⟩
theorem LZ {d:cU} (h:sy d=true) (ho:okGExpr d.Body) (hl:(wY d).length≤65536):(Z13.tokens (wY d)).2=(0,0)∧Z13.kt (Z13.tokens (wY d)).1=kx (CI d):=by
 have hA:=OO h
 have hB:=ON h ho
 rw[F2]at hl ⊢
 have hl2:=hl
 simp only[List.length_append,List.length_cons]at hl2
 obtain⟨a1,a2⟩:=tG hA ⟨_,_,rfl,by decide⟩ (by omega)
 obtain⟨b1,b2⟩:=tG hB (O5 h ho) (by omega)
 have e1:(Z13.tokens [61]).2=(0,0)∧Z13.kt (Z13.tokens [61]).1=kx [[61]]:=by decide+kernel
 obtain⟨c1,c2⟩:=Z13.tokens_sep (x:=32) (a:=[61]) (b:=QW d) (.inr ⟨rfl,by decide⟩) (by simp only[List.length_append,List.length_cons];omega) (by rw[e1.1]) (by rw[b1])
 obtain⟨d1,d2⟩:=Z13.tokens_sep (x:=32) (a:=QX d) hA.sepB hl (by rw[a1]) (by rw[c1])
 refine⟨d1,?_⟩
 rw[d2,a2,c2,e1.2,b2]
 unfold CI
 rw[FM];rfl
end Go.Proofs.YtmhoikfoogemnaaGreatDoor
