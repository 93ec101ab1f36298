import Derived.Test.YtmhoikfoogemnaaGreatDoorHRf
namespace Go.Proofs.YtmhoikfoogemnaaGreatDoor
open Go Go.RowKit Go.Vc
set_option linter.unusedVariables false
set_option linter.unusedSimpArgs false
def tj (R:RP) (f:Nat) (L:Int):RP:=
  if L=1 then fr R else if L=2 then dy R else if L=3 then dJ R f
  else if L=4 then(λr=>fN R r [[60],[60,61],[61,61]] [13,14,15])else if L=5 then dx R else if L=6 then ck R
  else if L=7 then cI R f else aX R
abbrev Hx (L:Int):Prop:=L=1∨L=2∨L=4∨L=5∨L=6
def tV (R:RP) (L:Int):Nat→PR→ae→Option (bZ (ae×PR)):=
  if L=1 then jd [[124]] [17] R else if L=2 then iP [[38]] [16] R else if L=4 then iO [[60],[60,61],[61,61]] [13,14,15] R
  else if L=5 then iN [[43],[45]] [4,5] R else iM [[42],[47]] [6,7] R
def QH (R:RP) (L:Int) (e:ae) (self:PR→ae→Option (bZ (ae×PR))):Nat→Int→Int→PR→Option (bZ (ae×PR)):=
  if L=1 then qj [[124]] [17] e R self else if L=2 then pO [[38]] [16] e R self else if L=4 then pN [[60],[60,61],[61,61]] [13,14,15] e R self
  else if L=5 then pM [[43],[45]] [4,5] e R self else pL [[42],[47]] [6,7] e R self
theorem Qq (R:RP) (f:Nat):tj R f 1=fr R:=by unfold tj;rw[if_pos rfl]
theorem ML (R:RP) (f:Nat):tj R f 2=dy R:=by unfold tj;rw[if_neg (by decide),if_pos rfl]
theorem Qp (R:RP) (f:Nat):tj R f 3=dJ R f:=by unfold tj;rw[if_neg (by decide),if_neg (by decide),if_pos rfl]
theorem Qo (R:RP) (f:Nat):tj R f 4= λr=>fN R r [[60],[60,61],[61,61]] [13,14,15]:=by unfold tj;rw[if_neg (by decide),if_neg (by decide),if_neg (by decide),if_pos rfl]
theorem MK (R:RP) (f:Nat):tj R f 5=dx R:=by unfold tj;rw[if_neg (by decide),if_neg (by decide),if_neg (by decide),if_neg (by decide),if_pos rfl]
theorem MJ (R:RP) (f:Nat):tj R f 6=ck R:=by unfold tj;rw[if_neg (by decide),if_neg (by decide),if_neg (by decide),if_neg (by decide),if_neg (by decide),if_pos rfl]
theorem Qn (R:RP) (f:Nat):tj R f 7=cI R f:=by unfold tj;rw[if_neg (by decide),if_neg (by decide),if_neg (by decide),if_neg (by decide),if_neg (by decide),if_neg (by decide),if_pos rfl]
theorem Pb (R:RP):tV R 1=jd [[124]] [17] R:=by unfold tV;rw[if_pos rfl]
theorem Pa (R:RP):tV R 2=iP [[38]] [16] R:=by unfold tV;rw[if_neg (by decide),if_pos rfl]
theorem O9 (R:RP):tV R 4=iO [[60],[60,61],[61,61]] [13,14,15] R:=by unfold tV;rw[if_neg (by decide),if_neg (by decide),if_pos rfl]
theorem O8 (R:RP):tV R 5=iN [[43],[45]] [4,5] R:=by unfold tV;rw[if_neg (by decide),if_neg (by decide),if_neg (by decide),if_pos rfl]
theorem O7 (R:RP):tV R 6=iM [[42],[47]] [6,7] R:=by unfold tV;rw[if_neg (by decide),if_neg (by decide),if_neg (by decide),if_neg (by decide)]
theorem Pc (R:RP) (f:Nat) {L:Int} (h:Hx L) (r:PR):tj R f L r=pb (tj R fu (L+1) r) λ(x:ae×PR)=>tV R L fu x.2 x.1:=by
  rcases h with rfl | rfl | rfl | rfl | rfl
  · rw[Qq,show(1:Int)+1=2 from rfl,ML,Pb]
    unfold fr ko;rw[uL]
  · rw[ML,show(2:Int)+1=3 from rfl,Qp,Pa]
    unfold dy jW gS;rw[uL]
  · rw[Qo,show(4:Int)+1=5 from rfl,MK,O9]
    unfold fN;rfl
  · rw[MK,show(5:Int)+1=6 from rfl,MJ,O8]
    unfold dx jV;rw[uL]
  · rw[MJ,show(6:Int)+1=7 from rfl,Qn,O7]
    unfold ck jU gi;rw[uL]
theorem QJ (R:RP) {L:Int} (h:Hx L) (f:Nat) (r:PR) (e:ae):tV R L (f+1) r e=QH R L e (tV R L f) fu 0 0 r:=by
  rcases h with rfl | rfl | rfl | rfl | rfl<;>rfl
theorem QI (R:RP) {L:Int} (h:Hx L):Ch2 (tj R fu (L+1)) (Jc L) (Ju L) (QH R L):=by
  rcases h with rfl | rfl | rfl | rfl | rfl<;>exact λ_ _ _ _ _ _=>rfl
theorem Hw (R:RP) {L:Int} (hL:Hx L) {r:PR} (h:Ry r) (g:Nat) (e:ae):tV R L (g+1) r e=match m7 (za r 3) (Jc L)with | some j=>pb (tj R fu (L+1) (mI r)) λ(y:ae×PR)=>tV R L g y.2 (EY ((Ju L).getD j 0) e y.1) | none=>some (.ret (e,r)):=by
  have hs:(Jc L).length<1000∧(Ju L).length=(Jc L).length∧∀ o∈Ju L,o≠0:=by
    rcases hL with rfl | rfl | rfl | rfl | rfl<;>exact⟨by decide,by decide,by decide⟩
  have k:=OS (QI R hL) hs.1 hs.2.1 hs.2.2 e (tV R L g) h.rok (Jc L).length fu 0 (by omega) (by have:=hs.1;unfold fu;omega)
  rw[show((0:Nat):Int)=0 from rfl,List.drop_zero]at k
  rw[QJ R hL,k]
  cases m7 (za r 3) (Jc L)with
  | none=>rfl
  | some j=>show pb _ _ =pb _ _;rw[Nat.zero_add]
theorem H6 {α:Type} {p:α→Bool} {l:List α} (h:∀ x∈l,p x=false):m7 p l=none:=by
  induction l with
  | nil=>rfl
  | cons x l ih=>simp only[m7];rw[h x (by simp),ih λy hy=>h y (by simp[hy])];rfl
theorem Ns {L:Int} (hL:Hx L):∀ s∈Jc L,NU s=L:=by rcases hL with rfl | rfl | rfl | rfl | rfl<;>decide
theorem I0 {L:Int} (hL:Hx L) {r:PR} {rest:Tx} (h:Ry r) (e:fH r=rest) (hs:stopE L rest):m7 (za r 3) (Jc L)=none:=H6 λs hs'=>pi h (λt q e'=>by
  rw[e]at e'
  have h1:=hs t q e'
  have h2:=Ns hL s hs'
  intro h3;rw[h3]at h1;omega) 3
theorem NT {op L:Int} (hb:qp op) (hl:kH op=L) {r:PR} {q:Tx} (h:Ry r) (e:fH r=mE op::q):∃ j,m7 (za r 3) (Jc L)=some j∧(Ju L).getD j 0=op:=by
  have hc:m7 (za r 3) (Jc L)=m7 (λs=>decide (im (mE op)=3)&&decide (mE op=s)) (Jc L):=ze λs _=>rz h e 3 s
  rw[hc, ← hl]
  unfold qp at hb
  rcases hb with rfl | rfl | rfl | rfl | rfl | rfl | rfl | rfl | rfl
  · exact⟨0,by decide,by decide⟩
  · exact⟨1,by decide,by decide⟩
  · exact⟨0,by decide,by decide⟩
  · exact⟨1,by decide,by decide⟩
  · exact⟨0,by decide,by decide⟩
  · exact⟨1,by decide,by decide⟩
  · exact⟨2,by decide,by decide⟩
  · exact⟨0,by decide,by decide⟩
  · exact⟨0,by decide,by decide⟩
abbrev Rdl (fn:RP) (e:ae) (L c:Int):Prop:=∀ (r:PR) (rest:Tx),Ry r→r.deep+c≤160→fH r=Ad e L++rest→stopE L rest→∃ r',fn r=some (.ret (e,r'))∧Nw r r' rest
theorem Rdl.mono {fn:RP} {e:ae} {L c c':Int} (h:Rdl fn e L c) (hc:c≤c'):Rdl fn e L c':=λr rest h1 h2=>h r rest h1 (by omega)
abbrev ChC (R:RP) (e:ae) (L c:Int):Prop:=∀ (r:PR) (rest:Tx),Ry r→r.deep+c≤160→fH r=Ad e L++rest→stopE (L+1) rest→∃ r' n,fu≤n+wE e∧(∀ f,tj R f L r=tV R L n r' e)∧Nw r r' rest
theorem ChC.mono {R:RP} {e:ae} {L c c':Int} (h:ChC R e L c) (hc:c≤c'):ChC R e L c':=λr rest h1 h2=>h r rest h1 (by omega)
theorem rG {R:RP} {e:ae} {L c:Int} (hL:Hx L) (hl:kH e.Op≠L) (h:Rdl (tj R fu (L+1)) e (L+1) c):ChC R e L c:=λr rest h1 h2 h3 h4=>by
  rw[yy hl]at h3
  obtain⟨r',e1,hw⟩:=h r rest h1 h2 h3 h4
  refine⟨r',fu,by omega,λf=>?_,hw⟩
  rw[Pc R f hL,e1,aW]
theorem Nh (op:Int) (a b:ae):wE (EY op a b)=1+wE a+wE b:=by unfold EY;rw[PH];simp;omega
theorem L4 {R:RP} {e a b:ae} {L c:Int} (hL:Hx L) (he:e=EY e.Op a b) (hb:qp e.Op) (hl:kH e.Op=L) (hw:wE e≤300) (ht:dg (nv e)=Ad a L++(mE e.Op::Ad b (L+1))) (ha:ChC R a L c) (hB:Rdl (tj R fu (L+1)) b (L+1) c):ChC R e L c:=λr rest h1 h2 h3 h4=>by
  have hwe:wE e=1+wE a+wE b:=by rw[he];exact Nh _ _ _
  rw[q8 (by omega),ht]at h3
  have h3':fH r=Ad a L++(mE e.Op::(Ad b (L+1)++rest)):=by rw[h3];simp
  obtain⟨r1,n,q1,q2,q3⟩:=ha r _ h1 h2 h3' (λt s ee=>by
    injection ee with ee _
    rw[← ee,(Kq hb).1,hl];omega)
  obtain⟨_,_,_,_,_,hA⟩:=aU q3.ok q3.rs
  obtain⟨r2,e2,hw2⟩:=hB (mI r1) rest hA.ok (by rw[hA.d,q3.d];exact h2) hA.rs h4
  obtain⟨g,rfl⟩:∃ g,n=g+1:=⟨n - 1,by unfold fu at q1;omega⟩
  obtain⟨j,j1,j2⟩:=NT hb hl q3.ok q3.rs
  refine⟨r2,g,by omega,λf=>?_,(q3.trans hA).trans hw2⟩
  rw[q2 f,Hw R hL q3.ok,j1]
  dsimp only
  rw[e2,aW,j2]
  dsimp only
  rw[← he]
theorem uz {R:RP} {e:ae} {L c:Int} (hL:Hx L) (hw:wE e≤300) (h:ChC R e L c) (f:Nat):Rdl (tj R f L) e L c:=λr rest h1 h2 h3 h4=>by
  obtain⟨r',n,q1,q2,q3⟩:=h r rest h1 h2 h3 (h4.mono (by omega))
  obtain⟨g,rfl⟩:∃ g,n=g+1:=⟨n - 1,by unfold fu at q1;omega⟩
  refine⟨r',?_,q3⟩
  rw[q2 f,Hw R hL q3.ok,I0 hL q3.ok q3.rs h4]
theorem yo {e:ae} (hv:VE e) {L:Int} {s:List UInt8} (hs:s≠[40]) (hc:¬ kH e.Op<L→∀ t q,dg (nv e)=t::q→t≠s):∃ t q,Ad e L=t::q∧t≠s:=by
  by_cases c:kH e.Op<L
  · rw[wL c];exact⟨_,_,rfl,hs.symm⟩
  · rw[q8 c]
    obtain⟨t,q,h1,_⟩:=first hv
    exact⟨t,q,h1,hc c t q h1⟩
theorem Np {R:RP} {e:ae} {c:Int} (hv:VE e) (hl:kH e.Op≠3) (h:Rdl (tj R fu 4) e 4 c) (f:Nat) (hf:0<f):Rdl (tj R f 3) e 3 c:=λr rest h1 h2 h3 h4=>by
  obtain⟨f,rfl⟩:∃ g,f=g+1:=⟨f - 1,by omega⟩
  obtain⟨t,q,ht,hne⟩:=yo hv (L:=3) (s:=[33]) (by decide) (λc t q e1=>by
    obtain⟨t',q',e2,_,_,_,k,_⟩:=first hv
    rw[e1]at e2;injection e2 with e2 _
    rw[e2];exact k (by omega))
  have hno:OE r [33]:=gX (t:=t) (rest:=q++rest) (by rw[h3,ht];rfl) hne
  rw[yy hl]at h3
  obtain⟨r',e1,hw⟩:=h r rest h1 h2 h3 (h4.mono (by omega))
  refine⟨r',?_,hw⟩
  show dK R (dJ R f) r=_
  unfold dK
  rw[qd h1.rok,pi h1 hno,Option.bind_some,if_pos (by rfl),uL]
  exact e1
theorem Nn {R:RP} {e:ae} {c:Int} (hv:VE e) (hl:kH e.Op≠7) (h:Rdl (tj R fu 8) e 8 c) (f:Nat) (hf:0<f):Rdl (tj R f 7) e 7 c:=λr rest h1 h2 h3 h4=>by
  obtain⟨f,rfl⟩:∃ g,f=g+1:=⟨f - 1,by omega⟩
  have hb:=FH e.Op
  obtain⟨t,q,ht,hne⟩:=yo hv (L:=7) (s:=[45]) (by decide) (λc t q e1=>by
    obtain⟨t',q',e2,_,_,_,_,k⟩:=first hv
    rw[e1]at e2;injection e2 with e2 _
    rw[e2];exact(k (by omega)).2)
  have hno:OE r [45]:=gX (t:=t) (rest:=q++rest) (by rw[h3,ht];rfl) hne
  rw[yy hl]at h3
  obtain⟨r',e1,hw⟩:=h r rest h1 h2 h3 (h4.mono (by omega))
  refine⟨r',?_,hw⟩
  show cJ R (cI R f) r=_
  unfold cJ
  rw[qd h1.rok,pi h1 hno,Option.bind_some,if_pos (by rfl),uL]
  exact e1
theorem I5 {R:RP} {e:ae} {c L:Int} (hv:VE e) (hw:wE e≤300) (h1:1≤L) (h7:L≤7) (hl:kH e.Op≠L) (h:Rdl (tj R fu (L+1)) e (L+1) c) (f:Nat) (hf:0<f):Rdl (tj R f L) e L c:=by
  have:L=1∨L=2∨L=3∨L=4∨L=5∨L=6∨L=7:=by omega
  rcases this with rfl | rfl | rfl | rfl | rfl | rfl | rfl
  · exact uz (by omega) hw (rG (by omega) hl h) f
  · exact uz (by omega) hw (rG (by omega) hl h) f
  · exact Np hv hl h f hf
  · exact uz (by omega) hw (rG (by omega) hl h) f
  · exact uz (by omega) hw (rG (by omega) hl h) f
  · exact uz (by omega) hw (rG (by omega) hl h) f
  · exact Nn hv hl h f hf
theorem PJ {recs:RP} {op:Int} {a:ae} {L c:Int} {s:List UInt8} (h:Rdl recs a L c) {r:PR} {rest:Tx} (hr:Ry r) (hd:r.deep+(c+1)≤160) (hc:0≤c) (e:fH r=s::(Ad a L++rest)) (hs:stopE L rest):
    ∃ r',(pb (bM r) λ(x:Unit×PR)=>pb (recs x.2) λ(y:ae×PR)=>some (bZ.ret (unE op y.1,(⟨y.2.l,y.2.at_,av (y.2.deep - 1)⟩:PR))))=some (.ret (unE op a,r'))∧Nw r r' rest:=by
  obtain⟨o1,o2,o3⟩:=MQ hr e (by omega)
  have d0:=hr.d0
  obtain⟨q,e1,hw⟩:=h (KM r) rest o2 (by show r.deep+1+c≤160;omega) o3 hs
  rw[o1,aW]
  dsimp only
  rw[e1,aW]
  have hd2:q.deep=r.deep+1:=hw.d
  have:av (q.deep - 1)=r.deep:=by rw[hd2,show r.deep+1 - 1=r.deep by omega];exact wi ⟨by omega,by omega⟩
  refine⟨⟨q.l,q.at_,r.deep⟩,by dsimp only;rw[this],⟨hw.ok.a0,hw.ok.a1,hw.ok.ll,hw.ok.tl,hw.ok.kd,hr.d0,hr.d1⟩,hw.l,rfl,hw.rs⟩
theorem JJ {l:List Nat} {x:Nat} (h:x∈l):x≤ry l:=by
  induction l with
  | nil=>cases h
  | cons y l ih=>
    simp only[ry]
    rcases List.mem_cons.1 h with rfl | h
    · omega
    · have:=ih h;omega
theorem zo {e a:ae} (h:a∈e.Args):dE a+1≤dE e:=by
  rw[Kl e]
  have:=JJ (List.mem_map_of_mem (f:=dE) h)
  omega
theorem JM {op:Int} (h1:1≤op) (h2:op≤18) (h:kH op=1∨kH op=2∨kH op=4∨kH op=5∨kH op=6):qp op:=by
  unfold kH at h
  unfold qp
  repeat' split at h
  all_goals omega
theorem Jn:∀ (k:Nat) (e:ae),wE e≤k→VE e→wE e≤300→∀ F:Nat,2 * dE e+1≤F→
    (∀ L:Int,1≤L→L≤8→∀ f,wE e<f→Rdl (tj (aB F) f L) e L (2 * dE e+1))∧(∀ L:Int,Hx L→ChC (aB F) e L (2 * dE e+1))
  | 0,e,h,_,_,_,_=>by rw[vH]at h;omega
  | k+1,e,hk,hv,hw,F,hF=>by
    have nf:=hv.node
    have hb:=FH e.Op
    have hdp:=Kk e
    have w0:wE e<fu:=by unfold fu;omega
    have arg:∀ a∈e.Args,∀ F':Nat,2 * dE a+1≤F'→(∀ L:Int,1≤L→L≤8→∀ f,wE a<f→Rdl (tj (aB F') f L) a L (2 * dE a+1))∧(∀ L:Int,Hx L→ChC (aB F') a L (2 * dE a+1)):=λa ha F' hF'=>
      Jn k a (by have:=jN ha;omega) (hv.arg ha) (by have:=jN ha;omega) F' hF'
    have own:∀ F:Nat,2 * dE e≤F→(∀ f,wE e<f→Rdl (tj (aB F) f (kH e.Op)) e (kH e.Op) (2 * dE e))∧(Hx (kH e.Op)→ChC (aB F) e (kH e.Op) (2 * dE e)):=λF hF=>by
      have chc:Hx (kH e.Op)→ChC (aB F) e (kH e.Op) (2 * dE e):=λhL=>by
        obtain⟨a,b,he,ha,hbm,ht⟩:=zX hv (JM nf.op1 nf.op2 hL)
        have da:=zo ha
        have db:=zo hbm
        have wb:=jN hbm
        exact L4 hL he (JM nf.op1 nf.op2 hL) rfl hw ht (((arg a ha F (by omega)).2 _ hL).mono (by omega)) (((arg b hbm F (by omega)).1 _ (by omega) (by omega) fu (by omega)).mono (by omega))
      refine⟨λf hf=>?_,chc⟩
      by_cases hL:Hx (kH e.Op)
      · exact uz hL hw (chc hL) f
      have hc:kH e.Op=3∨kH e.Op=7∨kH e.Op=8:=by omega
      obtain⟨f,rfl⟩:∃ g,f=g+1:=⟨f - 1,by omega⟩
      rcases hc with hc | hc | hc
      · have hop:e.Op=18:=by have:=nf.op1;have:=nf.op2;unfold kH at hc;repeat' split at hc
                             all_goals omega
        obtain⟨a,he,ha,ht⟩:=Gx (s:=[33]) (L:=3) hv (.inr ⟨hop,rfl,rfl⟩)
        have da:=zo ha
        have wa:=jN ha
        have hR:=((arg a ha F (by omega)).1 3 (by omega) (by omega) f (by omega))
        intro r rest h1 h2 h3 h4
        rw[hc]at h3 h4
        rw[q8 (by omega),ht]at h3
        have h3':fH r=[33]::(Ad a 3++rest):=h3
        obtain⟨r',e1,hw1⟩:=PJ (op:=18) hR h1 (by omega) (by omega) h3' h4
        refine⟨r',?_,hw1⟩
        rw[hc]
        show dK (aB F) (dJ (aB F) f) r=_
        unfold dK
        rw[qd h1.rok,sX h1 h3' (by decide),Option.bind_some,if_neg (by simp)]
        rw[hop]at he
        rw[he];exact e1
      · have hop:e.Op=8:=by have:=nf.op1;have:=nf.op2;unfold kH at hc;repeat' split at hc
                            all_goals omega
        obtain⟨a,he,ha,ht⟩:=Gx (s:=[45]) (L:=7) hv (.inl ⟨hop,rfl,rfl⟩)
        have da:=zo ha
        have wa:=jN ha
        have hR:=((arg a ha F (by omega)).1 7 (by omega) (by omega) f (by omega))
        intro r rest h1 h2 h3 h4
        rw[hc]at h3 h4
        rw[q8 (by omega),ht]at h3
        have h3':fH r=[45]::(Ad a 7++rest):=h3
        obtain⟨r',e1,hw1⟩:=PJ (op:=8) hR h1 (by omega) (by omega) h3' h4
        refine⟨r',?_,hw1⟩
        rw[hc]
        show cJ (aB F) (cI (aB F) f) r=_
        unfold cJ
        rw[qd h1.rok,sX h1 h3' (by decide),Option.bind_some,if_neg (by simp)]
        rw[hop]at he
        rw[he];exact e1
      · obtain⟨F,rfl⟩:∃ g,F=g+1:=⟨F - 1,by omega⟩
        intro r rest h1 h2 h3 h4
        rw[hc]at h3
        rw[q8 (by omega)]at h3
        obtain⟨r',e1,hw1⟩:=NG (R:=aB (F+1)) (c:=2 * dE e - 1) hv hc hw (by omega) (λa ha q rest' q1 q2 q3 q4=>by
          have da:=zo ha
          have wa:=jN ha
          exact((arg a ha F (by omega)).1 1 (by omega) (by omega) fu (by omega)) q rest' q1 (by omega) (by rw[BQ];exact q3) q4) h1 (by omega) h3
        refine⟨r',?_,hw1⟩
        rw[hc]
        exact e1
    have low:∀ F:Nat,2 * dE e≤F→∀ (n:Nat) (L:Int),1≤L→L+n=kH e.Op→∀ f,wE e<f→Rdl (tj (aB F) f L) e L (2 * dE e):=λF hF n=>by
      induction n with
      | zero=>
        intro L h1 hn f hf
        obtain rfl:L=kH e.Op:=by omega
        exact(own F hF).1 f hf
      | succ n ih=>
        intro L h1 hn f hf
        exact I5 hv hw h1 (by omega) (by omega) (ih (L+1) (by omega) (by omega) fu w0) f (by omega)
    have par:kH e.Op<8→∀ f,Rdl (tj (aB F) f 8) e 8 (2 * dE e+1):=λh8 f r rest h1 h2 h3 h4=>by
      obtain⟨F,rfl⟩:∃ g,F=g+1:=⟨F - 1,by omega⟩
      rw[wL h8]at h3
      have h3':fH r=[40]::(dg (nv e)++([41]::rest)):=by rw[h3];simp
      have d0:=h1.d0
      obtain⟨o1,o2,o3⟩:=B3 h1 h3' (by omega)
      obtain⟨q,e1,hw1⟩:=low F (by omega) (kH e.Op - 1).toNat 1 (by omega) (by omega) fu w0 (KM r) ([41]::rest) o2 (by show r.deep+1+(2 * (dE e:Int))≤160;omega) (by rw[BQ];exact o3) (Fh rest)
      have dq:q.deep=r.deep+1:=hw1.d
      obtain⟨r',e2,h5⟩:=CM hw1.ok hw1.rs (by omega)
      refine⟨r',?_,h5.nw hw1.l dq⟩
      show aX (aB (F+1)) r=_
      unfold aX
      rw[qd h1.rok,sX h1 h3' (by decide),Option.bind_some,if_pos rfl,o1,aW]
      have e1':aB (F+1) (KM r)=some (.ret (e,q)):=e1
      dsimp only
      rw[e1',aW]
      dsimp only
      rw[e2,aW]
    have high:∀ (n:Nat) (L:Int),kH e.Op<L→L+n=8→∀ f,wE e<f→Rdl (tj (aB F) f L) e L (2 * dE e+1):=λn=>by
      induction n with
      | zero=>
        intro L h1 hn f hf
        obtain rfl:L=8:=by omega
        exact par h1 f
      | succ n ih=>
        intro L h1 hn f hf
        exact I5 hv hw (by omega) (by omega) (by omega) (ih (L+1) (by omega) (by omega) fu w0) f (by omega)
    have all:∀ L:Int,1≤L→L≤8→∀ f,wE e<f→Rdl (tj (aB F) f L) e L (2 * dE e+1):=λL h1 h8 f hf=>by
      by_cases c:L≤kH e.Op
      · exact(low F (by omega) (kH e.Op - L).toNat L h1 (by omega) f hf).mono (by omega)
      · exact high (8 - L).toNat L (by omega) (by omega) f hf
    refine⟨all,λL hL=>?_⟩
    by_cases c:kH e.Op=L
    · subst c;exact((own F (by omega)).2 hL).mono (by omega)
    · exact rG hL c (all (L+1) (by omega) (by omega) fu w0)
theorem or_t {e:ae} (hv:VE e) (hw:wE e≤300) {r:PR} {rest:Tx} (h:Ry r) (hd:r.deep+(2 * dE e+1)≤160) (hr:fH r=dg (nv e)++rest) (hs:stopE 1 rest):∃ r',ii r=some (.ret (e,r'))∧Nw r r' rest:=by
  have d0:=h.d0
  have k:=(Jn (wE e) e (Nat.le_refl _) hv hw (fu - 1) (by unfold fu;omega)).1 1 (by omega) (by omega) fu (by unfold fu;omega) r rest h hd (by rw[BQ];exact hr) hs
  unfold ii
  have:aB fu r=tj (aB (fu - 1)) fu 1 r:=by
    conv=>lhs;rw[show fu=fu - 1+1 by unfold fu;omega]
    rfl
  rw[this];exact k
end Go.Proofs.YtmhoikfoogemnaaGreatDoor
