import Derived.Test.YtmhoikfoogemnaaGreatDoorMRf
namespace Go.Proofs.YtmhoikfoogemnaaGreatDoor
open Go Go.RowKit Go.Vc
set_option linter.unusedVariables false
set_option linter.unusedSimpArgs false
def qg (R:RP) (f:Nat) (L:Int):RP:=
  if L=1 then eu R else if L=2 then dK R else if L=3 then cY R f
  else if L=4 then(fun r=>dF R r [[60],[60,61],[61,61]] [13,14,15])else if L=5 then dJ R else if L=6 then ct R
  else if L=7 then cq R f else aQ R
abbrev Do (L:Int):Prop:=L=1∨L=2∨L=4∨L=5∨L=6
def qD (R:RP) (L:Int):Nat→PR→ac→Option (bC (ac×PR)):=
  if L=1 then bg [[124]] [17] R else if L=2 then be [[38]] [16] R else if L=4 then bc [[60],[60,61],[61,61]] [13,14,15] R
  else if L=5 then bb [[43],[45]] [4,5] R else ba [[42],[47]] [6,7] R
def KP (R:RP) (L:Int) (e:ac) (self:PR→ac→Option (bC (ac×PR))):Nat→Int→Int→PR→Option (bC (ac×PR)):=
  if L=1 then bI [[124]] [17] e R self else if L=2 then bA [[38]] [16] e R self else if L=4 then bz [[60],[60,61],[61,61]] [13,14,15] e R self
  else if L=5 then bx [[43],[45]] [4,5] e R self else bw [[42],[47]] [6,7] e R self
theorem KE (R:RP) (f:Nat):qg R f 1=eu R:=by unfold qg;rw[if_pos rfl]
theorem HP (R:RP) (f:Nat):qg R f 2=dK R:=by unfold qg;rw[if_neg (by decide),if_pos rfl]
theorem KD (R:RP) (f:Nat):qg R f 3=cY R f:=by unfold qg;rw[if_neg (by decide),if_neg (by decide),if_pos rfl]
theorem KB (R:RP) (f:Nat):qg R f 4=fun r=>dF R r [[60],[60,61],[61,61]] [13,14,15]:=by unfold qg;rw[if_neg (by decide),if_neg (by decide),if_neg (by decide),if_pos rfl]
theorem HO (R:RP) (f:Nat):qg R f 5=dJ R:=by unfold qg;rw[if_neg (by decide),if_neg (by decide),if_neg (by decide),if_neg (by decide),if_pos rfl]
theorem HM (R:RP) (f:Nat):qg R f 6=ct R:=by unfold qg;rw[if_neg (by decide),if_neg (by decide),if_neg (by decide),if_neg (by decide),if_neg (by decide),if_pos rfl]
theorem KA (R:RP) (f:Nat):qg R f 7=cq R f:=by unfold qg;rw[if_neg (by decide),if_neg (by decide),if_neg (by decide),if_neg (by decide),if_neg (by decide),if_neg (by decide),if_pos rfl]
theorem JA (R:RP):qD R 1=bg [[124]] [17] R:=by unfold qD;rw[if_pos rfl]
theorem Jz (R:RP):qD R 2=be [[38]] [16] R:=by unfold qD;rw[if_neg (by decide),if_pos rfl]
theorem Jy (R:RP):qD R 4=bc [[60],[60,61],[61,61]] [13,14,15] R:=by unfold qD;rw[if_neg (by decide),if_neg (by decide),if_pos rfl]
theorem Jx (R:RP):qD R 5=bb [[43],[45]] [4,5] R:=by unfold qD;rw[if_neg (by decide),if_neg (by decide),if_neg (by decide),if_pos rfl]
theorem Jw (R:RP):qD R 6=ba [[42],[47]] [6,7] R:=by unfold qD;rw[if_neg (by decide),if_neg (by decide),if_neg (by decide),if_neg (by decide)]
theorem JB (R:RP) (f:Nat) {L:Int} (h:Do L) (r:PR):qg R f L r=pb (qg R fu (L+1) r) fun(x:ac×PR)=>qD R L fu x.2 x.1:=by
  rcases h with rfl | rfl | rfl | rfl | rfl
  · rw[KE,show(1:Int)+1=2 from rfl,HP,JA]
    unfold eu gy;rw[rj]
  · rw[HP,show(2:Int)+1=3 from rfl,KD,Jz]
    unfold dK gg iz;rw[rj]
  · rw[KB,show(4:Int)+1=5 from rfl,HO,Jy]
    unfold dF;rfl
  · rw[HO,show(5:Int)+1=6 from rfl,HM,Jx]
    unfold dJ ge;rw[rj]
  · rw[HM,show(6:Int)+1=7 from rfl,KA,Jw]
    unfold ct gc gx;rw[rj]
theorem KR (R:RP) {L:Int} (h:Do L) (f:Nat) (r:PR) (e:ac):qD R L (f+1) r e=KP R L e (qD R L f) fu 0 0 r:=by
  rcases h with rfl | rfl | rfl | rfl | rfl<;>rfl
theorem KQ (R:RP) {L:Int} (h:Do L):Ch2 (qg R fu (L+1)) (EQ L) (E7 L) (KP R L):=by
  rcases h with rfl | rfl | rfl | rfl | rfl<;>exact fun _ _ _ _ _ _=>rfl
theorem Dm (R:RP) {L:Int} (hL:Do L) {r:PR} (h:Ry r) (g:Nat) (e:ac):qD R L (g+1) r e=match mu (wP r 3) (EQ L)with | some j=>pb (qg R fu (L+1) (oh r)) fun(y:ac×PR)=>qD R L g y.2 (AX ((E7 L).getD j 0) e y.1) | none=>some (.ret (e,r)):=by
  have hs:(EQ L).length<1000∧(E7 L).length=(EQ L).length∧∀ o∈E7 L,o≠0:=by
    rcases hL with rfl | rfl | rfl | rfl | rfl<;>exact⟨by decide,by decide,by decide⟩
  have k:=Jm (KQ R hL) hs.1 hs.2.1 hs.2.2 e (qD R L g) h.rok (EQ L).length fu 0 (by omega) (by have:=hs.1;unfold fu;omega)
  rw[show((0:Nat):Int)=0 from rfl,List.drop_zero]at k
  rw[KR R hL,k]
  cases mu (wP r 3) (EQ L)with
  | none=>rfl
  | some j=>show pb _ _ =pb _ _;rw[Nat.zero_add]
theorem DQ {α:Type} {p:α→Bool} {l:List α} (h:∀ x∈l,p x=false):mu p l=none:=by
  induction l with
  | nil=>rfl
  | cons x l ih=>simp only[mu];rw[h x (by simp),ih fun y hy=>h y (by simp[hy])];rfl
theorem Ij {L:Int} (hL:Do L):∀ s∈EQ L,IB s=L:=by rcases hL with rfl | rfl | rfl | rfl | rfl<;>decide
theorem EF {L:Int} (hL:Do L) {r:PR} {rest:Tx} (h:Ry r) (e:iT r=rest) (hs:stopE L rest):mu (wP r 3) (EQ L)=none:=DQ fun s hs'=>nS h (fun t q e'=>by
  rw[e]at e'
  have h1:=hs t q e'
  have h2:=Ij hL s hs'
  intro h3;rw[h3]at h1;omega) 3
theorem IA {op L:Int} (hb:o8 op) (hl:jR op=L) {r:PR} {q:Tx} (h:Ry r) (e:iT r=lc op::q):∃ j,mu (wP r 3) (EQ L)=some j∧(E7 L).getD j 0=op:=by
  have hc:mu (wP r 3) (EQ L)=mu (fun s=>decide (iu (lc op)=3)&&decide (lc op=s)) (EQ L):=vN fun s _=>sD h e 3 s
  rw[hc, ← hl]
  unfold o8 at hb
  rcases hb with rfl | rfl | rfl | rfl | rfl | rfl | rfl | rfl | rfl
  · exact⟨0,by decide,by decide⟩
  · exact⟨1,by decide,by decide⟩
  · exact⟨0,by decide,by decide⟩
  · exact⟨1,by decide,by decide⟩
  · exact⟨0,by decide,by decide⟩
  · exact⟨1,by decide,by decide⟩
  · exact⟨2,by decide,by decide⟩
  · exact⟨0,by decide,by decide⟩
  · exact⟨0,by decide,by decide⟩
abbrev Rdl (fn:RP) (e:ac) (L c:Int):Prop:=∀ (r:PR) (rest:Tx),Ry r→r.deep+c≤160→iT r=wL e L++rest→stopE L rest→∃ r',fn r=some (.ret (e,r'))∧Nw r r' rest
theorem Rdl.mono {fn:RP} {e:ac} {L c c':Int} (h:Rdl fn e L c) (hc:c≤c'):Rdl fn e L c':=fun r rest h1 h2=>h r rest h1 (by omega)
abbrev ChC (R:RP) (e:ac) (L c:Int):Prop:=∀ (r:PR) (rest:Tx),Ry r→r.deep+c≤160→iT r=wL e L++rest→stopE (L+1) rest→∃ r' n,fu≤n+wE e∧(∀ f,qg R f L r=qD R L n r' e)∧Nw r r' rest
theorem ChC.mono {R:RP} {e:ac} {L c c':Int} (h:ChC R e L c) (hc:c≤c'):ChC R e L c':=fun r rest h1 h2=>h r rest h1 (by omega)
theorem pi {R:RP} {e:ac} {L c:Int} (hL:Do L) (hl:jR e.Op≠L) (h:Rdl (qg R fu (L+1)) e (L+1) c):ChC R e L c:=fun r rest h1 h2 h3 h4=>by
  rw[uZ hl]at h3
  obtain⟨r',e1,hw⟩:=h r rest h1 h2 h3 h4
  refine⟨r',fu,by omega,fun f=> ?_,hw⟩
  rw[JB R f hL,e1,bR]
theorem Ib (op:Int) (a b:ac):wE (AX op a b)=1+wE a+wE b:=by unfold AX;rw[J3];simp;omega
theorem Hd {R:RP} {e a b:ac} {L c:Int} (hL:Do L) (he:e=AX e.Op a b) (hb:o8 e.Op) (hl:jR e.Op=L) (hw:wE e≤300) (ht:gI (nh e)=wL a L++(lc e.Op::wL b (L+1))) (ha:ChC R a L c) (hB:Rdl (qg R fu (L+1)) b (L+1) c):ChC R e L c:=fun r rest h1 h2 h3 h4=>by
  have hwe:wE e=1+wE a+wE b:=by rw[he];exact Ib _ _ _
  rw[pt (by omega),ht]at h3
  have h3':iT r=wL a L++(lc e.Op::(wL b (L+1)++rest)):=by rw[h3];simp
  obtain⟨r1,n,q1,q2,q3⟩:=ha r _ h1 h2 h3' (fun t s ee=>by
    injection ee with ee _
    rw[← ee,(FT hb).1,hl];omega)
  obtain⟨_,_,_,_,_,hA⟩:=bO q3.ok q3.rs
  obtain⟨r2,e2,hw2⟩:=hB (oh r1) rest hA.ok (by rw[hA.d,q3.d];exact h2) hA.rs h4
  obtain⟨g,rfl⟩:∃ g,n=g+1:=⟨n - 1,by unfold fu at q1;omega⟩
  obtain⟨j,j1,j2⟩:=IA hb hl q3.ok q3.rs
  refine⟨r2,g,by omega,fun f=> ?_,(q3.trans hA).trans hw2⟩
  rw[q2 f,Dm R hL q3.ok,j1]
  dsimp only
  rw[e2,bR,j2]
  dsimp only
  rw[← he]
theorem ra {R:RP} {e:ac} {L c:Int} (hL:Do L) (hw:wE e≤300) (h:ChC R e L c) (f:Nat):Rdl (qg R f L) e L c:=fun r rest h1 h2 h3 h4=>by
  obtain⟨r',n,q1,q2,q3⟩:=h r rest h1 h2 h3 (h4.mono (by omega))
  obtain⟨g,rfl⟩:∃ g,n=g+1:=⟨n - 1,by unfold fu at q1;omega⟩
  refine⟨r',?_,q3⟩
  rw[q2 f,Dm R hL q3.ok,EF hL q3.ok q3.rs h4]
theorem uR {e:ac} (hv:VE e) {L:Int} {s:List UInt8} (hs:s≠[40]) (hc:¬ jR e.Op<L→∀ t q,gI (nh e)=t::q→t≠s):∃ t q,wL e L=t::q∧t≠s:=by
  by_cases c:jR e.Op<L
  · rw[u0 c];exact⟨_,_,rfl,hs.symm⟩
  · rw[pt c]
    obtain⟨t,q,h1,_⟩:=first hv
    exact⟨t,q,h1,hc c t q h1⟩
theorem Ih {R:RP} {e:ac} {c:Int} (hv:VE e) (hl:jR e.Op≠3) (h:Rdl (qg R fu 4) e 4 c) (f:Nat) (hf:0<f):Rdl (qg R f 3) e 3 c:=fun r rest h1 h2 h3 h4=>by
  obtain⟨f,rfl⟩:∃ g,f=g+1:=⟨f - 1,by omega⟩
  obtain⟨t,q,ht,hne⟩:=uR hv (L:=3) (s:=[33]) (by decide) (fun c t q e1=>by
    obtain⟨t',q',e2,_,_,_,k,_⟩:=first hv
    rw[e1]at e2;injection e2 with e2 _
    rw[e2];exact k (by omega))
  have hno:Je r [33]:=iD (t:=t) (rest:=q++rest) (by rw[h3,ht];rfl) hne
  rw[uZ hl]at h3
  obtain⟨r',e1,hw⟩:=h r rest h1 h2 h3 (h4.mono (by omega))
  refine⟨r',?_,hw⟩
  show cZ R (cY R f) r=_
  unfold cZ
  rw[qd h1.rok,nS h1 hno,Option.bind_some,if_pos (by rfl),rj]
  exact e1
theorem Ig {R:RP} {e:ac} {c:Int} (hv:VE e) (hl:jR e.Op≠7) (h:Rdl (qg R fu 8) e 8 c) (f:Nat) (hf:0<f):Rdl (qg R f 7) e 7 c:=fun r rest h1 h2 h3 h4=>by
  obtain⟨f,rfl⟩:∃ g,f=g+1:=⟨f - 1,by omega⟩
  have hb:=BD e.Op
  obtain⟨t,q,ht,hne⟩:=uR hv (L:=7) (s:=[45]) (by decide) (fun c t q e1=>by
    obtain⟨t',q',e2,_,_,_,_,k⟩:=first hv
    rw[e1]at e2;injection e2 with e2 _
    rw[e2];exact(k (by omega)).2)
  have hno:Je r [45]:=iD (t:=t) (rest:=q++rest) (by rw[h3,ht];rfl) hne
  rw[uZ hl]at h3
  obtain⟨r',e1,hw⟩:=h r rest h1 h2 h3 (h4.mono (by omega))
  refine⟨r',?_,hw⟩
  show cr R (cq R f) r=_
  unfold cr
  rw[qd h1.rok,nS h1 hno,Option.bind_some,if_pos (by rfl),rj]
  exact e1
theorem EK {R:RP} {e:ac} {c L:Int} (hv:VE e) (hw:wE e≤300) (h1:1≤L) (h7:L≤7) (hl:jR e.Op≠L) (h:Rdl (qg R fu (L+1)) e (L+1) c) (f:Nat) (hf:0<f):Rdl (qg R f L) e L c:=by
  have:L=1∨L=2∨L=3∨L=4∨L=5∨L=6∨L=7:=by omega
  rcases this with rfl | rfl | rfl | rfl | rfl | rfl | rfl
  · exact ra (by omega) hw (pi (by omega) hl h) f
  · exact ra (by omega) hw (pi (by omega) hl h) f
  · exact Ih hv hl h f hf
  · exact ra (by omega) hw (pi (by omega) hl h) f
  · exact ra (by omega) hw (pi (by omega) hl h) f
  · exact ra (by omega) hw (pi (by omega) hl h) f
  · exact Ig hv hl h f hf
theorem J6 {recs:RP} {op:Int} {a:ac} {L c:Int} {s:List UInt8} (h:Rdl recs a L c) {r:PR} {rest:Tx} (hr:Ry r) (hd:r.deep+(c+1)≤160) (hc:0≤c) (e:iT r=s::(wL a L++rest)) (hs:stopE L rest):
    ∃ r',(pb (bs r) fun(x:Unit×PR)=>pb (recs x.2) fun(y:ac×PR)=>some (bC.ret (unE op y.1,(⟨y.2.l,y.2.at_,au (y.2.deep - 1)⟩:PR))))=some (.ret (unE op a,r'))∧Nw r r' rest:=by
  obtain⟨o1,o2,o3⟩:=HT hr e (by omega)
  have d0:=hr.d0
  obtain⟨q,e1,hw⟩:=h (Gb r) rest o2 (by show r.deep+1+c≤160;omega) o3 hs
  rw[o1,bR]
  dsimp only
  rw[e1,bR]
  have hd2:q.deep=r.deep+1:=hw.d
  have:au (q.deep - 1)=r.deep:=by rw[hd2,show r.deep+1 - 1=r.deep by omega];exact wi ⟨by omega,by omega⟩
  refine⟨⟨q.l,q.at_,r.deep⟩,by dsimp only;rw[this],⟨⟨hw.ok.a0,hw.ok.a1,hw.ok.ll,hw.ok.tl,hw.ok.kd,hr.d0,hr.d1⟩,hw.l,rfl,hw.rs⟩⟩
theorem Fi {l:List Nat} {x:Nat} (h:x∈l):x≤o7 l:=by
  induction l with
  | nil=>cases h
  | cons y l ih=>
    simp only[o7]
    rcases List.mem_cons.1 h with rfl | h
    · omega
    · have:=ih h;omega
theorem vV {e a:ac} (h:a∈e.Args):dE a+1≤dE e:=by
  rw[FP e]
  have:=Fi (List.mem_map_of_mem (f:=dE) h)
  omega
theorem Fm {op:Int} (h1:1≤op) (h2:op≤18) (h:jR op=1∨jR op=2∨jR op=4∨jR op=5∨jR op=6):o8 op:=by
  unfold jR at h
  unfold o8
  repeat' split at h
  all_goals omega
theorem EZ:∀ (k:Nat) (e:ac),wE e≤k→VE e→wE e≤300→∀ F:Nat,2 * dE e+1≤F→
    (∀ L:Int,1≤L→L≤8→∀ f,wE e<f→Rdl (qg (az F) f L) e L (2 * dE e+1))∧(∀ L:Int,Do L→ChC (az F) e L (2 * dE e+1))
  | 0,e,h,_,_,_,_=>by rw[rW]at h;omega
  | k+1,e,hk,hv,hw,F,hF=>by
    have nf:=hv.node
    have hb:=BD e.Op
    have hdp:=FO e
    have w0:wE e<fu:=by unfold fu;omega
    have arg:∀ a∈e.Args,∀ F':Nat,2 * dE a+1≤F'→(∀ L:Int,1≤L→L≤8→∀ f,wE a<f→Rdl (qg (az F') f L) a L (2 * dE a+1))∧(∀ L:Int,Do L→ChC (az F') a L (2 * dE a+1)):=fun a ha F' hF'=>
      EZ k a (by have:=jj ha;omega) (hv.arg ha) (by have:=jj ha;omega) F' hF'
    have own:∀ F:Nat,2 * dE e≤F→(∀ f,wE e<f→Rdl (qg (az F) f (jR e.Op)) e (jR e.Op) (2 * dE e))∧(Do (jR e.Op)→ChC (az F) e (jR e.Op) (2 * dE e)):=fun F hF=>by
      have chc:Do (jR e.Op)→ChC (az F) e (jR e.Op) (2 * dE e):=fun hL=>by
        obtain⟨a,b,he,ha,hbm,ht⟩:=AW hv (Fm nf.op1 nf.op2 hL)
        have da:=vV ha
        have db:=vV hbm
        have wb:=jj hbm
        exact Hd hL he (Fm nf.op1 nf.op2 hL) rfl hw ht (((arg a ha F (by omega)).2 _ hL).mono (by omega)) (((arg b hbm F (by omega)).1 _ (by omega) (by omega) fu (by omega)).mono (by omega))
      refine⟨fun f hf=> ?_,chc⟩
      by_cases hL:Do (jR e.Op)
      · exact ra hL hw (chc hL) f
      have hc:jR e.Op=3∨jR e.Op=7∨jR e.Op=8:=by omega
      obtain⟨f,rfl⟩:∃ g,f=g+1:=⟨f - 1,by omega⟩
      rcases hc with hc | hc | hc
      · have hop:e.Op=18:=by have:=nf.op1;have:=nf.op2;unfold jR at hc;repeat' split at hc
                             all_goals omega
        obtain⟨a,he,ha,ht⟩:=Cr (s:=[33]) (L:=3) hv (.inr ⟨hop,rfl,rfl⟩)
        have da:=vV ha
        have wa:=jj ha
        have hR:=((arg a ha F (by omega)).1 3 (by omega) (by omega) f (by omega))
        intro r rest h1 h2 h3 h4
        rw[hc]at h3 h4
        rw[pt (by omega),ht]at h3
        have h3':iT r=[33]::(wL a 3++rest):=h3
        obtain⟨r',e1,hw1⟩:=J6 (op:=18) hR h1 (by omega) (by omega) h3' h4
        refine⟨r',?_,hw1⟩
        rw[hc]
        show cZ (az F) (cY (az F) f) r=_
        unfold cZ
        rw[qd h1.rok,sC h1 h3' (by decide),Option.bind_some,if_neg (by simp)]
        rw[hop]at he
        rw[he];exact e1
      · have hop:e.Op=8:=by have:=nf.op1;have:=nf.op2;unfold jR at hc;repeat' split at hc
                            all_goals omega
        obtain⟨a,he,ha,ht⟩:=Cr (s:=[45]) (L:=7) hv (.inl ⟨hop,rfl,rfl⟩)
        have da:=vV ha
        have wa:=jj ha
        have hR:=((arg a ha F (by omega)).1 7 (by omega) (by omega) f (by omega))
        intro r rest h1 h2 h3 h4
        rw[hc]at h3 h4
        rw[pt (by omega),ht]at h3
        have h3':iT r=[45]::(wL a 7++rest):=h3
        obtain⟨r',e1,hw1⟩:=J6 (op:=8) hR h1 (by omega) (by omega) h3' h4
        refine⟨r',?_,hw1⟩
        rw[hc]
        show cr (az F) (cq (az F) f) r=_
        unfold cr
        rw[qd h1.rok,sC h1 h3' (by decide),Option.bind_some,if_neg (by simp)]
        rw[hop]at he
        rw[he];exact e1
      · obtain⟨F,rfl⟩:∃ g,F=g+1:=⟨F - 1,by omega⟩
        intro r rest h1 h2 h3 h4
        rw[hc]at h3
        rw[pt (by omega)]at h3
        obtain⟨r',e1,hw1⟩:=Is (R:=az (F+1)) (c:=2 * dE e - 1) hv hc hw (by omega) (fun a ha q rest' q1 q2 q3 q4=>by
          have da:=vV ha
          have wa:=jj ha
          exact((arg a ha F (by omega)).1 1 (by omega) (by omega) fu (by omega)) q rest' q1 (by omega) (by rw[ym];exact q3) q4) h1 (by omega) h3
        refine⟨r',?_,hw1⟩
        rw[hc]
        exact e1
    have low:∀ F:Nat,2 * dE e≤F→∀ (n:Nat) (L:Int),1≤L→L+n=jR e.Op→∀ f,wE e<f→Rdl (qg (az F) f L) e L (2 * dE e):=fun F hF n=>by
      induction n with
      | zero=>
        intro L h1 hn f hf
        obtain rfl:L=jR e.Op:=by omega
        exact(own F hF).1 f hf
      | succ n ih=>
        intro L h1 hn f hf
        exact EK hv hw h1 (by omega) (by omega) (ih (L+1) (by omega) (by omega) fu w0) f (by omega)
    have par:jR e.Op<8→∀ f,Rdl (qg (az F) f 8) e 8 (2 * dE e+1):=fun h8 f r rest h1 h2 h3 h4=>by
      obtain⟨F,rfl⟩:∃ g,F=g+1:=⟨F - 1,by omega⟩
      rw[u0 h8]at h3
      have h3':iT r=[40]::(gI (nh e)++([41]::rest)):=by rw[h3];simp
      have d0:=h1.d0
      obtain⟨o1,o2,o3⟩:=yw h1 h3' (by omega)
      obtain⟨q,e1,hw1⟩:=low F (by omega) (jR e.Op - 1).toNat 1 (by omega) (by omega) fu w0 (Gb r) ([41]::rest) o2 (by show r.deep+1+(2 * (dE e:Int))≤160;omega) (by rw[ym];exact o3) (Bi rest)
      have dq:q.deep=r.deep+1:=hw1.d
      obtain⟨r',e2,h5⟩:=yZ hw1.ok hw1.rs (by omega)
      refine⟨r',?_,h5.nw hw1.l dq⟩
      show aQ (az (F+1)) r=_
      unfold aQ
      rw[qd h1.rok,sC h1 h3' (by decide),Option.bind_some,if_pos rfl,o1,bR]
      have e1':az (F+1) (Gb r)=some (.ret (e,q)):=e1
      dsimp only
      rw[e1',bR]
      dsimp only
      rw[e2,bR]
    have high:∀ (n:Nat) (L:Int),jR e.Op<L→L+n=8→∀ f,wE e<f→Rdl (qg (az F) f L) e L (2 * dE e+1):=fun n=>by
      induction n with
      | zero=>
        intro L h1 hn f hf
        obtain rfl:L=8:=by omega
        exact par h1 f
      | succ n ih=>
        intro L h1 hn f hf
        exact EK hv hw (by omega) (by omega) (by omega) (ih (L+1) (by omega) (by omega) fu w0) f (by omega)
    have all:∀ L:Int,1≤L→L≤8→∀ f,wE e<f→Rdl (qg (az F) f L) e L (2 * dE e+1):=fun L h1 h8 f hf=>by
      by_cases c:L≤jR e.Op
      · exact(low F (by omega) (jR e.Op - L).toNat L h1 (by omega) f hf).mono (by omega)
      · exact high (8 - L).toNat L (by omega) (by omega) f hf
    refine⟨all,fun L hL=> ?_⟩
    by_cases c:jR e.Op=L
    · subst c;exact((own F (by omega)).2 hL).mono (by omega)
    · exact pi hL c (all (L+1) (by omega) (by omega) fu w0)
theorem Ry.start {ls:Tx} (hl:(va 0 ls).length≤50000) (ht:∀ t∈va 0 ls,t.Text.length≤50000):Ry ⟨va 0 ls,0,0⟩∧iT ⟨va 0 ls,0,0⟩=gI ls:=by
  have kd:∀ (ls:Tx) (o:Nat),∀ t∈va o ls,t.Kind=iu t.Text:=by
    intro ls
    induction ls with
    | nil=>intro o t ht;cases ht
    | cons x ls ih=>
      intro o t ht
      unfold va at ht
      split at ht
      · exact ih _ t ht
      · rcases List.mem_cons.1 ht with rfl | ht
        · rfl
        · exact ih _ t ht
  refine⟨⟨by show(0:Int)≤0;omega,by show(0:Int)≤ _;omega,hl,ht,kd ls 0,by show(0:Int)≤0;omega,by show(0:Int)≤160;omega⟩,?_⟩
  unfold iT
  show((va 0 ls).drop 0).map (·.Text)=_
  rw[List.drop_zero];exact u6 0 ls
theorem or_t {e:ac} (hv:VE e) (hw:wE e≤300) {r:PR} {rest:Tx} (h:Ry r) (hd:r.deep+(2 * dE e+1)≤160) (hr:iT r=gI (nh e)++rest) (hs:stopE 1 rest):∃ r',iW r=some (.ret (e,r'))∧Nw r r' rest:=by
  have d0:=h.d0
  have k:=(EZ (wE e) e (Nat.le_refl _) hv hw (fu - 1) (by unfold fu;omega)).1 1 (by omega) (by omega) fu (by unfold fu;omega) r rest h hd (by rw[ym];exact hr) hs
  unfold iW
  have:az fu r=qg (az (fu - 1)) fu 1 r:=by
    conv=>lhs;rw[show fu=fu - 1+1 by unfold fu;omega]
    rfl
  rw[this];exact k
theorem sA (e:ac) (ho:okGExpr e):iA e=some true:=by
  unfold iA
  rw[Ae ho,Option.bind_some,Hg]
  by_cases h:wE e≤300
  rotate_left
  · simp[h]
  rw[decide_eq_true h,if_neg (by simp),FE ho h,Option.bind_some]
  by_cases hv:vE e=0
  rotate_left
  · simp[hv]
  rw[if_pos hv]
  by_cases hl:(20000:Int)<((oO e).length:Int)
  · simp[hl]
  rw[decide_eq_false hl,Bool.or_false]
  by_cases hne:oO e=[]
  · simp[hne]
  rw[decide_eq_false hne,if_neg (by simp)]
  have he:=Cq hv
  have hV:VE e:=⟨ho,he⟩
  have hd40:dE e≤40:=by
    unfold vE at hv
    split at hv
    · cases hv
    · omega
  have htok:=DT ho he (by omega)
  have htl:=Gq (s:=oO e) (by omega)
  have hZ:=Z13.lexer_Tokenize (oO e) (by omega)
  rw[htok]at hZ
  have hZ1:va 0 (nh e)=(Z13.tokens (oO e)).1:=by injection hZ with hZ;injection hZ
  rw[← hZ1]at htl
  obtain⟨hR,hrs⟩:=Ry.start (ls:=nh e) (by omega) (fun t ht=>by have:=htl.2 t ht;omega)
  obtain⟨r',e1,hw⟩:=or_t hV h (rest:=[]) hR (by show(0:Int)+ _ ≤160;omega) (by rw[hrs,List.append_nil]) (fun t s ee=>by cases ee)
  have hend:r'.at_=((va 0 (nh e)).length:Int):=by
    have h1:=hw.ok.a1
    have h0:=hw.ok.a0
    have h2:=hw.rs
    unfold iT at h2
    have h3:=List.map_eq_nil_iff.1 h2
    rw[List.drop_eq_nil_iff]at h3
    have hl':r'.l=va 0 (nh e):=hw.l
    rw[hl']at h1 h3
    omega
  have hp:gh (oO e)=some (e,0,0):=by
    unfold gh
    rw[htok,Option.bind_some,if_neg (by simp)]
    have hA:jW (va 0 (nh e)) 0=some (e,r'.at_,0):=by
      unfold jW iX
      rw[if_neg (by simp),e1]
      show((iN e).bind fun r2=>if(!decide (r2=0))=true then some (zE,0,r2)else some (e,r'.at_,(0:Int)))=_
      rw[(tP ho h).1,hv,Option.bind_some,if_neg (by simp)]
    dsimp only
    rw[hA,Option.bind_some,if_neg (by simp;omega)]
    unfold ju
    rw[if_neg (by simp)]
  rw[hp,Option.bind_some]
  dsimp only
  rw[wG ho (by omega)]
  simp[gd]
end Go.Proofs.YtmhoikfoogemnaaGreatDoor
