import Derived.Test.YtmhoikfoogemnaaGreatDoorHRj
namespace Go.Proofs.YtmhoikfoogemnaaGreatDoor
open Go Go.RowKit Go.Vc
set_option linter.unusedVariables false
set_option linter.unusedSimpArgs false
theorem m8 (a b:Tx):dg (a++b)=dg a++dg b:=List.filter_append ..
theorem lB {t:List UInt8} (h:iG t=true) (q:Tx):dg ([t]++q)=t::dg q:=by show List.filter iG (t::q)=_;rw[List.filter_cons_of_pos h]
theorem rR (q:Tx):dg ([[32]]++q)=dg q:=by show List.filter iG ([32]::q)=_;rw[List.filter_cons_of_neg (by decide)]
theorem yl {n:List UInt8} (h:bw n=true):iG n=true:=uQ (fw h)
def KI {α:Type} (f:α→Tx) (l:List α):Tx:=match l with | []=>[] | x::l=>[44]::dg (cp ((x::l).map f))
theorem nu {α:Type} (f:α→Tx) (x:α) (l:List α):dg (cp ((x::l).map f))=dg (f x)++KI f l:=by
 cases l with
 | nil=>simp[KI,cp]
 | cons y l=>exact vK f x y l
theorem He {r:PR} (h:Ry r):(fH r).length≤50000:=by
 unfold fH
 rw[List.length_map,List.length_drop]
 have:=h.ll;omega
theorem GC:∀ (ts:List (Int×List UInt8)) (b:Bool),(∀ x∈ts,x.2=[]∨bw x.2=true)→ts.length≤(dg (qG b ts)).length
 | [],b,_=>by simp
 | x::ts,b,h=>by
  obtain⟨t,s,hb,_⟩:=Dm (c:=x.1) (h x (by simp))
  have:=GC ts false λy hy=>h y (by simp[hy])
  rw[ui (h x (by simp)),hb]
  simp only[List.length_append,List.length_cons];omega
theorem G9 {f:aC} (h:cv f):f.L.length≤(dg (jY f)).length:=by
 have h1:=GC (iu f) true (tu h)
 have h2:f.L.length≤(iu f).length:=by unfold iu;rw[List.length_append,List.length_map];omega
 exact Nat.le_trans h2 h1
theorem MC {f:aC} (h:cv f) (ho:okGLin f) (hl:f.L.length≤90000):MD f:=⟨h,ho.r.2,ho.r.1,hl⟩
theorem MT {r:PR} {f:aC} {rest:Tx} (h:Ry r) (e:fH r=dg (jY f)++rest) (hf:cv f) (ho:okGLin f) (hs:vQ rest):∃ r',bz r=some (.ret (f,r'))∧Nw r r' rest:=by
 have h1:=G9 hf
 have h2:=He h
 rw[e,List.length_append]at h2
 exact zh h e (MC hf ho (by omega)) hs
theorem MF (x:List UInt8) (h:bw x=true):dg (JB x)=[x]:=by show List.filter iG [x]=_;rw[List.filter_cons_of_pos (yl h)];rfl
theorem Bc:∀ (l:List (List UInt8)) (F:Nat) (out:List (List UInt8)) (r:PR) (rest:Tx),Ry r→fH r=KI JB l++[59]::rest→(∀ n∈l,bw n=true)→l.length<F→out.length+l.length≤1000000→∃ r',bV F out r=some (.ret (out++l,r'))∧Nw r r' ([59]::rest)
 | _,0,_,_,_,_,_,_,h,_=>absurd h (by omega)
 | [],F+1,out,r,rest,h,e,ho,_,_=>by
  have e':fH r=[59]::rest:=e
  simp only[bV]
  rw[pG h (gX e' (by decide)),Option.bind_some]
  dsimp only
  rw[if_neg (by simp),List.append_nil]
  exact⟨r,rfl,h,rfl,rfl,e'⟩
 | x::l,F+1,out,r,rest,h,e,ho,hF,hl=>by
  have hx:=ho x (by simp)
  have e':fH r=[44]::x::(KI JB l++[59]::rest):=by rw[e];show[44]::(dg (cp ((x::l).map JB))++[59]::rest)=_;rw[nu,MF x hx];simp
  obtain⟨_,_,_,_,_,hw⟩:=aU h e'
  obtain⟨_,_,_,_,_,hw1⟩:=aU hw.ok hw.rs
  simp only[List.length_cons]at hF hl
  simp only[bV]
  rw[qE h e' (by decide),Option.bind_some]
  dsimp only
  rw[if_pos rfl,rZ hw.ok hw.rs hx,aW]
  dsimp only
  rw[aR (by simp only[List.length_cons,List.length_nil];omega),Option.bind_some]
  obtain⟨r2,e2,hw2⟩:=Bc l F (out++[x]) (mI (mI r)) rest hw1.ok hw1.rs (λf hf=>ho f (by simp[hf])) (by omega) (by simp only[List.length_append,List.length_cons,List.length_nil];omega)
  rw[e2]
  exact⟨r2,by simp,(hw.trans hw1).trans hw2⟩
theorem G4 {l:List (List UInt8)} {r:PR} {rest:Tx} (h:Ry r) (e:fH r=dg (cp (l.map JB))++[59]::rest) (ho:∀ n∈l,bw n=true) (h0:l≠[]) (hl:l.length≤100000):∃ r',eS r=some (.ret (l,r'))∧Nw r r' ([59]::rest):=by
 cases l with
 | nil=>exact absurd rfl h0
 | cons x l=>
  have hx:=ho x (by simp)
  rw[nu,MF x hx]at e
  have e':fH r=x::(KI JB l++[59]::rest):=by rw[e];simp
  obtain⟨_,_,_,_,_,hw⟩:=aU h e'
  simp only[List.length_cons]at hl
  unfold eS
  rw[rZ h e' hx,aW]
  obtain⟨r2,e2,hw2⟩:=Bc l fu [x] (mI r) rest hw.ok hw.rs (λf hf=>ho f (by simp[hf])) (by unfold fu;omega) (by simp;omega)
  exact⟨r2,e2,hw.trans hw2⟩
theorem Hy {a:fG} (h:Dr a=true):dg (AO a)=a.Name::[60]::dg (jY a.Size):=by
 unfold Dr at h
 rw[Bool.and_eq_true]at h
 unfold AO
 rw[lB (yl h.1),m8,rR];rfl
abbrev Jz (a:fG):Prop:=Dr a=true∧okGLin a.Size
abbrev O0 (s:List UInt8):Prop:=s=[93]∨s=[58]
theorem PZ {s:List UInt8} (hs:O0 s) (l:List fG) (rest:Tx):vQ (KI AO l++s::rest):=by
 cases l with
 | nil=>intro t q e;injection e with e _;subst e;rcases hs with rfl | rfl<;>decide
 | cons x l=>exact I3 _
theorem EZ {s:List UInt8} (hs:O0 s):∀ (l:List fG) (F:Nat) (out:List fG) (r:PR) (rest:Tx),Ry r→l≠[]→fH r=dg (cp (l.map AO))++s::rest→(∀ a∈l,Jz a)→l.length≤F→out.length+l.length≤1000000→∃ r',cK F out r=some (.ret (out++l,r'))∧Nw r r' (s::rest)
 | [],_,_,_,_,_,h,_,_,_,_=>absurd rfl h
 | x::l,0,_,_,_,_,_,_,_,h,_=>absurd h (by simp)
 | x::l,F+1,out,r,rest,h,_,e,ho,hF,hl=>by
  obtain⟨hx,hg⟩:=ho x (by simp)
  have hx':=hx
  unfold Dr at hx'
  rw[Bool.and_eq_true,decide_eq_true_eq]at hx'
  have e':fH r=x.Name::[60]::(dg (jY x.Size)++(KI AO l++s::rest)):=by rw[e,nu,Hy hx];simp
  obtain⟨_,_,_,_,_,hw⟩:=aU h e'
  obtain⟨_,_,_,_,_,hw1⟩:=aU hw.ok hw.rs
  obtain⟨r1,e1,hw2⟩:=MT hw1.ok hw1.rs hx'.2 hg (PZ hs l rest)
  simp only[List.length_cons]at hF hl
  simp only[cK]
  rw[rZ h e' hx'.1,aW]
  dsimp only
  rw[kI hw.ok hw.rs (by decide),aW]
  dsimp only
  rw[e1,aW]
  dsimp only
  rw[aR (by simp only[List.length_cons,List.length_nil];omega),Option.bind_some]
  have ex:(⟨x.Name,x.Size⟩:fG)=x:=by cases x;rfl
  rw[ex]
  cases l with
  | nil=>
   have e3:fH r1=s::rest:=hw2.rs
   rw[pG hw2.ok (gX e3 (by rcases hs with rfl | rfl<;>decide)),Option.bind_some]
   exact⟨r1,rfl,(hw.trans hw1).trans hw2⟩
  | cons y l=>
   have e3:fH r1=[44]::(dg (cp ((y::l).map AO))++s::rest):=hw2.rs
   obtain⟨_,_,_,_,_,hw3⟩:=aU hw2.ok e3
   rw[qE hw2.ok e3 (by decide),Option.bind_some]
   obtain⟨r2,e4,hw4⟩:=EZ hs (y::l) F (out++[x]) (mI r1) rest hw3.ok (by simp) hw3.rs (λf hf=>ho f (by simp[List.mem_cons.1 hf])) (by omega) (by simp only[List.length_append,List.length_cons,List.length_nil]at hl ⊢;omega)
   dsimp only
   rw[if_neg (by simp),e4]
   exact⟨r2,by simp,(((hw.trans hw1).trans hw2).trans hw3).trans hw4⟩
theorem Kt {s:List UInt8} (hs:O0 s) {l:List fG} {r:PR} {rest:Tx} (h:Ry r) (e:fH r=dg (cp (l.map AO))++s::rest) (ho:∀ a∈l,Jz a) (h0:l≠[]) (hl:l.length≤100000):∃ r',dZ r=some (.ret (l,r'))∧Nw r r' (s::rest):=by
 unfold dZ
 exact EZ hs l fu [] r rest h h0 e ho (by unfold fu;omega) (by simp;omega)
theorem PE (c:aD):Nf c=[119,104,101,114,101]::[48]::LW c.Eq::(dg (jY c.Lin)++[[59]]):=by
 have he:iG (LW c.Eq)=true:=by cases c.Eq<;>decide
 unfold Nf whL
 rw[lB (by decide),rR,lB (by decide),m8,rR,lB he,m8];rfl
theorem Nm (rest:Tx):vQ ([59]::rest):=λt s e=>by injection e with e _;subst e;decide
theorem EH {c:aD} {r:PR} {rest:Tx} (h:Ry r) (e:fH r=[48]::LW c.Eq::(dg (jY c.Lin)++[59]::rest)) (hf:cv c.Lin) (ho:okGLin c.Lin):∃ r',eI r=some (.ret (c,r'))∧Nw r r' ([59]::rest):=by
 obtain⟨_,_,_,_,_,hw⟩:=aU h e
 obtain⟨_,_,_,_,_,hw1⟩:=aU hw.ok hw.rs
 obtain⟨r1,e1,hw2⟩:=MT hw1.ok hw1.rs hf ho (Nm rest)
 have ha:(⟨r.l,av (r.at_+1),r.deep⟩:PR)=mI r:=by rw[h.rok.wi1];rfl
 unfold eI
 rw[qd h.rok,sX h e (by decide),Option.bind_some,if_neg (by simp)]
 unfold dM
 rw[ha]
 cases hq:c.Eq with
 | true=>
  have e2:fH (mI r)=[61,61]::(dg (jY c.Lin)++[59]::rest):=by rw[hw.rs,hq];rfl
  rw[qE hw.ok e2 (by decide),Option.bind_some]
  dsimp only
  rw[if_neg (by simp)]
  unfold cu
  rw[e1,aW]
  exact⟨r1,by dsimp only;rw[← hq],(hw.trans hw1).trans hw2⟩
 | false=>
  have e2:fH (mI r)=[60,61]::(dg (jY c.Lin)++[59]::rest):=by rw[hw.rs,hq];rfl
  rw[pG hw.ok (gX e2 (by decide)),Option.bind_some]
  dsimp only
  rw[if_pos (by rfl),kI hw.ok e2 (by decide),aW]
  dsimp only
  unfold cu
  rw[e1,aW]
  exact⟨r1,by dsimp only;rw[← hq],(hw.trans hw1).trans hw2⟩
theorem NI {x:fE} (h:wc x=true):Fx x=[105,110]::x.Name::[58]::(dg (wK x.Type_)++([91]::(dg (cp (x.Dims.map jY))++([93]::[[59]])))):=by
 unfold wc at h
 simp only[Bool.and_eq_true]at h
 unfold Fx NJ
 rw[lB (by decide),rR,lB (yl h.1.1),lB (by decide),rR,m8,m8,lB (by decide),m8]
 simp only[List.cons_append,List.append_assoc,List.nil_append];rfl
theorem Lq {x:fE} {r:PR} {rest:Tx} (h:Ry r) (e:fH r=x.Name::[58]::(dg (wK x.Type_)++([91]::(dg (cp (x.Dims.map jY))++([93]::[59]::rest))))) (hp:wc x=true) (ho:qf x) (hl:x.Dims.length≤100000):∃ r',gj r=some (.ret (x,r'))∧Nw r r' ([59]::rest):=by
 unfold wc at hp
 simp only[Bool.and_eq_true,decide_eq_true_eq]at hp
 obtain⟨⟨h1,h2⟩,h3⟩:=hp
 obtain⟨_,_,_,_,_,hw⟩:=aU h e
 obtain⟨_,_,_,_,_,hw1⟩:=aU hw.ok hw.rs
 obtain⟨r2,e2,hw2⟩:=Gz hw1.ok hw1.rs h2
 obtain⟨_,_,_,_,_,hw3⟩:=aU hw2.ok hw2.rs
 have hln:=He hw3.ok
 rw[hw3.rs]at hln
 have hfl:∀ f∈x.Dims,f.L.length≤50000:=λf hf=>by
  have h4:=G9 (h3 f hf)
  have h5:∀ (l:List aC),f∈l→(dg (jY f)).length≤(dg (cp (l.map jY))).length:=λl=>by
   induction l with
   | nil=>intro h;cases h
   | cons y l ih=>
    intro hm
    rw[nu]
    rcases List.mem_cons.1 hm with rfl | hm
    ·simp
    ·have:=ih hm
     cases l with
     | nil=>cases hm
     | cons z l=>
      show _ ≤(dg (jY y)++[44]::dg (cp ((z::l).map jY))).length
      simp only[List.length_append,List.length_cons];omega
  have h6:=h5 x.Dims hf
  simp only[List.length_append]at hln;omega
 obtain⟨r4,e4,hw4⟩:=Hl hw3.ok hw3.rs (λf hf=>MC (h3 f hf) (ho.2.2.1 f hf) (by have:=hfl f hf;omega)) hl
 unfold gj
 rw[rZ h e h1,aW]
 dsimp only
 rw[kI hw.ok hw.rs (by decide),aW]
 dsimp only
 rw[e2,aW]
 dsimp only
 rw[kI hw2.ok hw2.rs (by decide),aW]
 dsimp only
 rw[e4,aW]
 exact⟨r4,rfl,(((hw.trans hw1).trans hw2).trans hw3).trans hw4⟩
end Go.Proofs.YtmhoikfoogemnaaGreatDoor
namespace Go.Proofs.YtmhoikfoogemnaaGreatDoor
open Go Go.RowKit Go.Vc
set_option linter.unusedVariables false
set_option linter.unusedSimpArgs false
abbrev LF:List UInt8:=[109,105,110]
abbrev LC:List UInt8:=[109,97,120]
def noFold (t:List UInt8) (s:Tx):Prop:=((t=LF∨t=LC)→s.head?=some [40])∧t≠[115,117,109]∧t≠[112,114,111,100]∧t≠[115,99,97,110]
theorem noFold.app {t:List UInt8} {s q:Tx} (h:noFold t s):noFold t (s++q):=⟨λht=>by
  have:=h.1 ht
  cases s with
  | nil=>cases this
  | cons x s=>exact this,h.2⟩
theorem uP {t:List UInt8} {s:Tx} (h:t≠LF∧t≠LC∧t≠[115,117,109]∧t≠[112,114,111,100]∧t≠[115,99,97,110]):noFold t s:=⟨λht=>ht.elim (λe=>absurd e h.1) (λe=>absurd e h.2.1),h.2.2⟩
theorem Lz {t:List UInt8} {s:Tx} (h:bw t=true):noFold t s:=uP ⟨λe=>by rw[e]at h;revert h;decide,λe=>by rw[e]at h;revert h;decide,λe=>by rw[e]at h;revert h;decide,λe=>by rw[e]at h;revert h;decide,λe=>by rw[e]at h;revert h;decide⟩
theorem zk:∀ (k:Nat) (e:ae),wE e<k→VE e→∃ t s,dg (nv e)=t::s∧noFold t s
  | 0,_,h,_=>absurd h (by omega)
  | k+1,e,hk,h=>by
    have nf:=h.node
    have o1:=nf.op1
    have o2:=nf.op2
    by_cases hb:qp e.Op
    · obtain⟨a,b,_,ha,_,ht⟩:=zX h hb
      obtain⟨t,s,h1,h2⟩:=zk k a (by have:=jN ha;omega) (h.arg ha)
      rw[ht]
      by_cases c:kH a.Op<kH e.Op
      · rw[wL c];exact⟨_,_,rfl,uP (by decide)⟩
      · rw[q8 c,h1];exact⟨_,_,rfl,h2.app⟩
    unfold qp at hb
    rw[vq]
    unfold CC
    by_cases h1:e.Op=1
    · rw[if_pos h1]
      have e1:=BP (nf.ty (Or.inl h1))
      show ∃ t s,List.filter iG _ =t::s∧ _
      rw[List.filter_append,show List.filter iG (wK e.Type_)=_ from e1]
      split
      · exact⟨_,_,rfl,uP (by decide)⟩
      split
      · exact⟨_,_,rfl,uP (by decide)⟩
      · exact⟨_,_,rfl,uP (by decide)⟩
    rw[if_neg h1]
    by_cases h2:e.Op=2
    · rw[if_pos h2];exact⟨_,_,rfl,uP (by decide)⟩
    rw[if_neg h2]
    by_cases h3:e.Op=3
    · rw[if_pos h3]
      have hn:=nf.nam h3
      show ∃ t s,List.filter iG _ =t::s∧ _
      rw[List.filter_append,List.filter_cons_of_pos (uQ (fw hn))]
      exact⟨_,_,rfl,Lz hn⟩
    rw[if_neg h3]
    by_cases h8:e.Op=8
    · rw[if_pos h8];exact⟨_,_,rfl,uP (by decide)⟩
    rw[if_neg h8]
    by_cases h18:e.Op=18
    · rw[if_pos h18];exact⟨_,_,rfl,uP (by decide)⟩
    rw[if_neg h18]
    by_cases h9:e.Op=9
    · rw[if_pos h9];exact⟨_,_,rfl,λ_=>rfl,by decide⟩
    rw[if_neg h9]
    by_cases h10:e.Op=10
    · rw[if_pos h10];exact⟨_,_,rfl,λ_=>rfl,by decide⟩
    rw[if_neg h10]
    by_cases h11:e.Op=11
    · rw[if_pos h11];exact⟨_,_,rfl,uP (by decide)⟩
    rw[if_neg h11]
    by_cases h12:e.Op=12
    · rw[if_pos h12];exact⟨_,_,rfl,uP (by decide)⟩
    exfalso;omega
def uT (d:cU):Tx:=if d.Fold=0 then[]else Is d.Fold::((if d.Red=[]then[]else dg (cp (d.Red.map AO)))++[[58]])
theorem IR (d:cU):dg (Br d)=uT d:=by
  unfold Br uT
  by_cases h0:d.Fold=0
  · rw[if_pos h0,if_pos h0];rfl
  rw[if_neg h0,if_neg h0,lB (uQ (Cw _)),m8]
  by_cases hr:d.Red=[]
  · rw[if_pos hr,if_pos hr];rfl
  · rw[if_neg hr,if_neg hr,rR];rfl
theorem Hm {r:PR} {t:List UInt8} {q:Tx} (h:Ry r) (e:fH r=t::q) (d1:cU):eU r d1=if decide (q.head?=some [40])&&(decide (t=LF)||decide (t=LC))=true then some (.ret ((),r,d1))else
    (bh r ([([115,117,109]:List UInt8),([112,114,111,100]:List UInt8),([109,105,110]:List UInt8),([109,97,120]:List UInt8),([115,99,97,110]:List UInt8)]:List (List UInt8))).bind λ⟨r4,s1⟩=>
    if decide (av (r4+1)=0)then
      some (.ret ((),s1,(⟨d1.Name,d1.Type_,d1.Dims,d1.Red,av (r4+1),d1.Body⟩:cU)))
    else
      (aY s1 3 ([58]:List UInt8)).bind λr5=>
      if !r5 then
        pb (dZ s1) λ⟨r6,s2⟩=>
        pb (ao s2 ([58]:List UInt8)) λ⟨r7,s3⟩=>
        some (.ret ((),s3,(⟨d1.Name,d1.Type_,d1.Dims,r6,av (r4+1),d1.Body⟩:cU)))
      else
        pb (ao s1 ([58]:List UInt8)) λ⟨r8,s4⟩=>
        some (.ret ((),s4,(⟨d1.Name,d1.Type_,d1.Dims,d1.Red,av (r4+1),d1.Body⟩:cU))):=by
  obtain⟨k0,k1,k2,k3,k4,hw⟩:=aU h e
  have a0:=h.a0
  have hmn:za r 1 LF=decide (t=LF):=by
    rw[rz h e]
    by_cases c:t=LF
    · subst c;decide
    · rw[decide_eq_false c,Bool.and_false]
  have hmx:za r 1 LC=decide (t=LC):=by
    rw[rz h e]
    by_cases c:t=LC
    · subst c;decide
    · rw[decide_eq_false c,Bool.and_false]
  unfold eU
  rw[h.rok.wi1]
  cases hq:q with
  | nil=>
    have hn:=vV hw.ok (by rw[hw.rs,hq])
    have hd:decide (r.at_+1<(r.l.length:Int))=false:=by
      unfold Dy mI at hn
      have:=List.getElem?_eq_none_iff.1 hn
      dsimp only at this
      exact decide_eq_false (by omega)
    simp only[hd,gd,Bool.false_and,Bool.false_eq_true,if_false,Option.bind_some,List.head?_nil,decide_false,reduceCtorEq]
  | cons y q'=>
    obtain⟨j,j1,j2,j3,j4,_⟩:=aU hw.ok (t:=y) (rest:=q') (by rw[hw.rs,hq])
    have hd:decide (r.at_+1<(r.l.length:Int))=true:=decide_eq_true j4
    have hlat:lat r.l (r.at_+1)=some j:=by have:=hw.ok.rok.lat_;rw[j1]at this;exact this
    have hy:(decide (j.Kind=3)&&decide (j.Text=[40]))=decide ((y::q').head?=some [40]):=by
      rw[j2,j3]
      by_cases c:y=[40]
      · subst c;simp;decide
      · rw[decide_eq_false c,Bool.and_false]
        exact(decide_eq_false λhh=>c (by simpa using hh)).symm
    simp only[hd,hlat,gd,Bool.true_and,if_true,Option.bind_some,qd h.rok,hmn,hmx]
    rw[← hy]
    by_cases c1:j.Kind=3<;>by_cases c2:j.Text=[40]<;>by_cases c3:t=LF<;>simp[c1,c2,c3]<;>(try (by_cases c4:t=LC<;>simp[c4]))
theorem OY {d d1:cU} {r:PR} {rest:Tx} (h:Ry r) (e:fH r=uT d++(dg (nv d.Body)++rest)) (hv:VE d.Body) (hF:F3 d) (hA:∀ a∈d.Red,Jz a) (hl:d.Red.length≤100000) (z1:d1.Red=[]) (z2:d1.Fold=0):
    ∃ r',eU r d1=some (.ret ((),r',(⟨d1.Name,d1.Type_,d1.Dims,d.Red,d.Fold,d1.Body⟩:cU)))∧Nw r r' (dg (nv d.Body)++rest):=by
  unfold uT at e
  obtain⟨⟨f1,f2⟩,f3⟩:=hF
  by_cases h0:d.Fold=0
  · rw[if_pos h0]at e
    have hr:d.Red=[]:=f3 (.inl h0)
    have ed:(⟨d1.Name,d1.Type_,d1.Dims,d.Red,d.Fold,d1.Body⟩:cU)=d1:=by cases d1;simp only at *;subst z1;subst z2;rw[hr,h0]
    obtain⟨t,s,h1,h2⟩:=zk _ d.Body (Nat.lt_succ_self _) hv
    have e':fH r=t::(s++rest):=by rw[e,h1];rfl
    have h2':=h2.app (q:=rest)
    rw[Hm h e',ed]
    refine⟨r,?_,h,rfl,rfl,e⟩
    by_cases c:t=LF∨t=LC
    · have hh:=h2'.1 c
      rw[hh,if_pos]
      rcases c with rfl | rfl<;>decide
    · have c1:t≠LF:=λhh=>c (.inl hh)
      have c2:t≠LC:=λhh=>c (.inr hh)
      obtain⟨_,c3,c4,c5⟩:=h2'
      rw[if_neg (by simp[c1,c2]),IF h e' _ (by simp) (by simp[m7,c1,c2,c3,c4,c5]),Option.bind_some]
      have ed2:(⟨d1.Name,d1.Type_,d1.Dims,d1.Red,av (-1+1),d1.Body⟩:cU)=d1:=by cases d1;simp only at *;subst z2;rfl
      dsimp only
      rw[if_pos (by decide),ed2]
  · rw[if_neg h0]at e
    have e0:fH r=Is d.Fold::((if d.Red=[]then[]else dg (cp (d.Red.map AO)))++([58]::(dg (nv d.Body)++rest))):=by rw[e];simp
    obtain⟨_,_,_,_,_,hw⟩:=aU h e0
    have hi:∃ i:Nat,m7 (λs=>decide (im (Is d.Fold)=1)&&decide (Is d.Fold=s)) [[115,117,109],[112,114,111,100],[109,105,110],[109,97,120],[115,99,97,110]]=some i∧av ((i:Int)+1)=d.Fold:=by
      have:d.Fold=1∨d.Fold=2∨d.Fold=3∨d.Fold=4∨d.Fold=5:=by omega
      rcases this with k | k | k | k | k<;>rw[k]
      · exact⟨0,by decide,by decide⟩
      · exact⟨1,by decide,by decide⟩
      · exact⟨2,by decide,by decide⟩
      · exact⟨3,by decide,by decide⟩
      · exact⟨4,by decide,by decide⟩
    obtain⟨i,i1,i2⟩:=hi
    have hne:decide (av ((i:Int)+1)=0)=false:=by rw[i2];exact decide_eq_false h0
    rw[Hm h e0]
    by_cases hr:d.Red=[]
    · have e1:fH (mI r)=[58]::(dg (nv d.Body)++rest):=by rw[hw.rs,if_pos hr];rfl
      obtain⟨_,_,_,_,_,hw1⟩:=aU hw.ok e1
      rw[if_neg (by rw[if_pos hr];simp),qY h e0 _ (by simp) i1,Option.bind_some]
      dsimp only
      rw[hne,if_neg (by simp),qd hw.ok.rok,sX hw.ok e1 (by decide),Option.bind_some,if_neg (by simp),kI hw.ok e1 (by decide),aW,i2]
      exact⟨_,by dsimp only;rw[z1,hr],hw.trans hw1⟩
    · have e1:fH (mI r)=dg (cp (d.Red.map AO))++[58]::(dg (nv d.Body)++rest):=by rw[hw.rs,if_neg hr]
      cases hR:d.Red with
      | nil=>exact absurd hR hr
      | cons a l=>
        have ha:=(hA a (by rw[hR];simp)).1
        have hn:bw a.Name=true:=by unfold Dr at ha;rw[Bool.and_eq_true]at ha;exact ha.1
        have e2:fH (mI r)=a.Name::(([60]::dg (jY a.Size))++(KI AO l++[58]::(dg (nv d.Body)++rest))):=by rw[e1,hR,nu,Hy ha];simp
        have hnm:∀ s:List UInt8,bw s=false→a.Name≠s:=λs hs hh=>by rw[hh,hs]at hn;cases hn
        have e3:(if a::l=[]then[]else dg (cp ((a::l).map AO)))++([58]::(dg (nv d.Body)++rest))=a.Name::(([60]::dg (jY a.Size))++(KI AO l++[58]::(dg (nv d.Body)++rest))):=by rw[if_neg (by simp),nu,Hy ha];simp
        obtain⟨r2,q1,hw2⟩:=Kt (s:=[58]) (.inr rfl) hw.ok e1 hA hr hl
        obtain⟨_,_,_,_,_,hw3⟩:=aU hw2.ok hw2.rs
        rw[if_neg (by rw[e3];simp[hnm [40] (by decide)]),qY h e0 _ (by simp) i1,Option.bind_some]
        dsimp only
        rw[hne,if_neg (by simp),qd hw.ok.rok,pi hw.ok (gX e2 (hnm [58] (by decide))),Option.bind_some,if_pos (by rfl),q1,aW]
        dsimp only
        rw[kI hw2.ok hw2.rs (by decide),aW,i2]
        exact⟨_,by dsimp only;rw[← hR],(hw.trans hw2).trans hw3⟩
theorem Ld (rest:Tx):stopE 1 ([59]::rest):=λt s e=>by injection e with e _;subst e;decide
theorem O3 {d:cU} (h:sy d=true):CI d=[100,101,102]::d.Name::[58]::(dg (wK d.Type_)++([91]::(dg (cp (d.Dims.map AO))++([93]::[61]::(uT d++(dg (nv d.Body)++[[59]])))))):=by
  obtain⟨h1,h2,h3,h4,h5,h6⟩:=tR h
  unfold CI dAL QD
  rw[lB (by decide),rR,lB (yl h1),lB (by decide),rR,m8,lB (by decide),m8,m8,m8,IR]
  simp only[List.cons_append,List.append_assoc,List.nil_append];rfl
theorem QB {d:cU} {r:PR} {rest:Tx} (h:Ry r) (hd:r.deep=0) (e:fH r=d.Name::[58]::(dg (wK d.Type_)++([91]::(dg (cp (d.Dims.map AO))++([93]::[61]::(uT d++(dg (nv d.Body)++[59]::rest))))))) (hb:sy d=true) (ho:wR d) (hw3:wE d.Body≤300) (l1:d.Dims.length≤100000) (l2:d.Red.length≤100000):
    ∃ r',gU r=some (.ret (d,r'))∧Nw r r' ([59]::rest):=by
  obtain⟨h1,h2,h3,h4,h5,h6⟩:=tR hb
  obtain⟨o1,o2,o3,o4,o5,o6⟩:=ho
  have hV:VE d.Body:=⟨o6,ug h6⟩
  have hd40:dE d.Body≤40:=by
    unfold vE at h6
    split at h6
    · cases h6
    · omega
  have a1:∀ a∈d.Dims,Jz a:=λa ha=>⟨List.all_eq_true.1 h2 a ha,(o3.1 a ha).2⟩
  have a2:∀ a∈d.Red,Jz a:=λa ha=>⟨List.all_eq_true.1 h3 a ha,(o4.1 a ha).2⟩
  obtain⟨_,_,_,_,_,w1⟩:=aU h e
  obtain⟨_,_,_,_,_,w2⟩:=aU w1.ok w1.rs
  obtain⟨r3,e3,w3⟩:=Gz w2.ok w2.rs h4
  obtain⟨_,_,_,_,_,w4⟩:=aU w3.ok w3.rs
  have fin:∀ (q:PR) (d1:cU),Nw r q ([93]::[61]::(uT d++(dg (nv d.Body)++[59]::rest)))→d1.Red=[]→d1.Fold=0→d1.Name=d.Name→d1.Type_=d.Type_→d1.Dims=d.Dims→∃ r',er q d1=some (.ret (d,r'))∧Nw r r' ([59]::rest):=λq d1 hq z1 z2 z3 z4 z5=>by
    obtain⟨_,_,_,_,_,w5⟩:=aU hq.ok hq.rs
    obtain⟨_,_,_,_,_,w6⟩:=aU w5.ok w5.rs
    obtain⟨r7,e7,w7⟩:=OY (d1:=d1) w6.ok w6.rs hV h5 a2 l2 z1 z2
    have hN:=((hq.trans w5).trans w6).trans w7
    obtain⟨r8,e8,w8⟩:=or_t hV hw3 w7.ok (by have hdd:r7.deep=0:=by rw[hN.d,hd]
                                            omega) w7.rs (Ld rest)
    unfold er
    rw[kI hq.ok hq.rs (by decide),aW]
    dsimp only
    rw[kI w5.ok w5.rs (by decide),aW]
    dsimp only
    rw[e7,aW]
    dsimp only
    rw[e8,aW]
    dsimp only
    rw[(xl o6 hw3).1,h6,Option.bind_some,if_neg (by simp),z3,z4,z5]
    exact⟨r8,by cases d;rfl,hN.trans w8⟩
  have w:=((w1.trans w2).trans w3).trans w4
  unfold gU
  rw[rZ h e h1,aW]
  dsimp only
  rw[kI w1.ok w1.rs (by decide),aW]
  dsimp only
  rw[e3,aW]
  dsimp only
  rw[kI w3.ok w3.rs (by decide),aW]
  dsimp only
  rw[qd w4.ok.rok]
  cases hD:d.Dims with
  | nil=>
    have e5:fH (mI r3)=[93]::[61]::(uT d++(dg (nv d.Body)++[59]::rest)):=by rw[w4.rs,hD];rfl
    rw[sX w4.ok e5 (by decide),Option.bind_some,if_neg (by simp)]
    exact fin _ _ ⟨w.ok,w.l,w.d,e5⟩ rfl rfl rfl rfl hD.symm
  | cons a l=>
    have ha:=(a1 a (by rw[hD];simp)).1
    have hn:bw a.Name=true:=by unfold Dr at ha;rw[Bool.and_eq_true]at ha;exact ha.1
    have e5:fH (mI r3)=a.Name::(([60]::dg (jY a.Size))++(KI AO l++[93]::[61]::(uT d++(dg (nv d.Body)++[59]::rest)))):=by rw[w4.rs,hD,nu,Hy ha];simp
    have hnm:a.Name≠[93]:=λhh=>by rw[hh]at hn;revert hn;decide
    obtain⟨r6,e6,w6⟩:=Kt (s:=[93]) (.inl rfl) w4.ok w4.rs a1 (by rw[hD];simp) l1
    rw[pi w4.ok (gX e5 hnm),Option.bind_some,if_pos (by rfl),e6,aW]
    exact fin r6 _ (w.trans w6) rfl rfl rfl rfl rfl
end Go.Proofs.YtmhoikfoogemnaaGreatDoor
