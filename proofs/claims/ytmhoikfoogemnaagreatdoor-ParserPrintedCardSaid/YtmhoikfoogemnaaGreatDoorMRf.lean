import Derived.Test.YtmhoikfoogemnaaGreatDoorMRd
namespace Go.Proofs.YtmhoikfoogemnaaGreatDoor
open Go Go.RowKit Go.Vc
set_option linter.unusedVariables false
set_option linter.unusedSimpArgs false
theorem Bz {f:ay} (h:okGLin f) (ho:d8 f) (hl:f.L.length≤300):Jd f:=⟨ho,xH h.1,fun m hm=>xH (h.2.1 m hm).2,by omega⟩
theorem GP {x:av} (h:l5 x) (ho:Bx x) (hw:wI x≤300):Fa x:=by
 obtain⟨l1,l2,l3,_⟩:=smI.lens ⟨h,hw⟩
 exact⟨ho,Bz h.1 ho.1 l1,fun f hf=>Bz (h.2.2.1 f hf) (ho.2.1 f hf) (l3 f hf),by omega⟩
structure Nd (r r':PR) (rest:Tx):Prop where
 ok:Ry r'
 l:r'.l=r.l
 d:r'.deep=r.deep - 1
 rs:iT r'=rest
theorem HT {r:PR} {t:List UInt8} {rest:Tx} (h:Ry r) (e:iT r=t::rest) (hd:r.deep≤159):bs r=some (.ret ((),Gb r))∧Ry (Gb r)∧iT (Gb r)=rest:=by
 obtain⟨_,_,_,_,_,hw⟩:=bO h e
 have d0:=h.d0
 refine⟨?_,⟨hw.ok.a0,hw.ok.a1,h.ll,h.tl,h.kd,by show 0≤r.deep+1;omega,by show r.deep+1≤160;omega⟩,hw.rs⟩
 unfold bs ec
 rw[if_neg (by simp;omega),h.rok.wi1,wi (p:=r.deep+1) ⟨by omega,by omega⟩];rfl
theorem yw {r:PR} {rest:Tx} (h:Ry r) (e:iT r=[40]::rest) (hd:r.deep≤159):cz r=some (.ret ((),Gb r))∧Ry (Gb r)∧iT (Gb r)=rest:=by
 obtain⟨h1,h2,h3⟩:=HT h e hd
 rw[Iz h.rok (sC h e (by decide))]
 exact⟨h1,h2,h3⟩
theorem yZ {q:PR} {rest:Tx} (h:Ry q) (e:iT q=[41]::rest) (hd:1≤q.deep):∃ r',dg q=some (.ret ((),r'))∧Nd q r' rest:=by
 obtain⟨_,_,_,_,_,hw⟩:=bO h e
 have d1:=h.d1
 unfold dg
 rw[nV h e (by decide),bR]
 refine⟨⟨q.l,q.at_+1,q.deep - 1⟩,?_,⟨⟨hw.ok.a0,hw.ok.a1,h.ll,h.tl,h.kd,by show 0≤q.deep - 1;omega,by show q.deep - 1≤160;omega⟩,rfl,rfl,hw.rs⟩⟩
 have:au ((oh q).deep - 1)=q.deep - 1:=wi ⟨by show -9223372036854775808≤q.deep - 1;omega,by show q.deep - 1≤ _;omega⟩
 dsimp only
 rw[this];rfl
def JP (l:List ac):Tx:=match l with | []=>[] | x::l=>[44]::gI (fO ((x::l).map nh))
theorem vD (x:ac) (l:List ac):gI (fO ((x::l).map nh))=gI (nh x)++JP l:=by
 cases l with
 | nil=>simp[JP,fO]
 | cons y l=>exact uY nh x y l
theorem Bi (rest:Tx):stopE 1 ([41]::rest):=stopF.e ⟨_,_,rfl,.inr (.inl rfl)⟩
theorem EH (l:List ac) (rest:Tx):stopE 1 (JP l++[41]::rest):=by
 cases l with
 | nil=>exact Bi rest
 | cons x l=>exact stopF.e ⟨_,_,rfl,.inr (.inr rfl)⟩
abbrev K7 (R:RP) (a:ac) (c:Int):Prop:=∀ (r:PR) (rest:Tx),Ry r→r.deep+c≤160→iT r=gI (nh a)++rest→stopE 1 rest→∃ r',R r=some (.ret (a,r'))∧Nw r r' rest
theorem vZ {R:RP} {c:Int} :∀ (l:List ac) (F i many:Nat) (q:PR) (e:ac) (rest:Tx),many=i+l.length→l.length<F→many≤10→e.Args.length≤i→Ry q→1≤q.deep→q.deep+c≤160→(∀ a∈l,K7 R a c)→iT q=(if i=0 then gI (fO (l.map nh))else JP l)++[41]::rest→
  ∃ r',aZ (many:Int) R F (i:Int) q e=some (.ret (⟨e.Op,e.Name,e.Val,e.Type_,e.Lin,e.Idx,e.Args++l⟩,r'))∧Nd q r' rest
 | _,0,_,_,_,_,_,_,h,_,_,_,_,_,_,_=>absurd h (by omega)
 | [],F+1,i,many,q,e,rest,hm,hF,h10,ha,hq,hd,hc,hR,hr=>by
  have hr':iT q=[41]::rest:=by rw[hr];split<;>rfl
  obtain⟨r',e1,hw⟩:=yZ hq hr' hd
  simp only[List.length_nil]at hm
  simp only[aZ]
  rw[if_neg (by simp;omega),e1,bR,List.append_nil]
  exact⟨r',by cases e;rfl,hw⟩
 | x::l,F+1,i,many,q,e,rest,hm,hF,h10,ha,hq,hd,hc,hR,hr=>by
  simp only[List.length_cons]at hm hF
  simp only[aZ]
  rw[if_pos (bX (by omega))]
  have step:∀ (q2:PR),Nw q q2 (gI (nh x)++(JP l++[41]::rest))→∃ r',dr R e (aZ (many:Int) R F) (i:Int) q2=some (.ret (⟨e.Op,e.Name,e.Val,e.Type_,e.Lin,e.Idx,e.Args++x::l⟩,r'))∧Nd q r' rest:=fun q2 h2=>by
   obtain⟨q3,e3,h3⟩:=hR x (by simp) q2 _ h2.ok (by rw[h2.d];exact hc) h2.rs (EH l rest)
   unfold dr
   rw[e3,bR]
   dsimp only
   rw[bf (by simp only[List.length_cons,List.length_nil];omega),Option.bind_some,ni (by omega)]
   obtain⟨r',e4,h4⟩:=vZ l F (i+1) many q3 ⟨e.Op,e.Name,e.Val,e.Type_,e.Lin,e.Idx,e.Args++[x]⟩ rest (by omega) (by omega) h10 (by
    show(e.Args++[x]).length≤i+1
    rw[List.length_append,List.length_cons,List.length_nil];omega) h3.ok (by rw[h3.d,h2.d];exact hd) (by rw[h3.d,h2.d];exact hc) (fun a ha=>hR a (by simp[ha])) (by rw[h3.rs,if_neg (by omega)])
   rw[e4]
   refine⟨r',by simp,⟨h4.ok,h4.l.trans (h3.l.trans h2.l),?_,h4.rs⟩⟩
   rw[h4.d,h3.d,h2.d]
  by_cases c0:i=0
  ·subst c0
   rw[if_pos rfl,vD,List.append_assoc]at hr
   rw[if_neg (by simp)]
   exact step q ⟨hq,rfl,rfl,hr⟩
  ·rw[if_neg c0]at hr
   have hr':iT q=[44]::(gI (nh x)++(JP l++[41]::rest)):=by rw[hr];show[44]::(gI (fO ((x::l).map nh))++[41]::rest)=_;rw[vD,List.append_assoc]
   obtain⟨_,_,_,_,_,hw⟩:=bO hq hr'
   rw[if_pos (by simp;omega),nV hq hr' (by decide),bR]
   exact step (oh q) hw
end Go.Proofs.YtmhoikfoogemnaaGreatDoor
namespace Go.Proofs.YtmhoikfoogemnaaGreatDoor
open Go Go.RowKit Go.Vc
set_option linter.unusedVariables false
set_option linter.unusedSimpArgs false
abbrev zO:List UInt8:=[102,114,97,99]
abbrev Em:List UInt8:=[105,110,116]
abbrev En:List UInt8:=[102,105,120]
theorem BA {e:ac} (nf:F2 e) (h:e.Op=1∨e.Op=2∨e.Op=3):e.Args=[]:=by
 have:=nf.len
 unfold lJ at this
 rw[if_pos h]at this
 exact List.length_eq_zero_iff.1 (by omega)
def uN (R:RP) (s4:PR):Option (bC (ac×PR)):=
 (bD s4 [Gl,Gm,K0,Cn]).bind fun⟨r15,s10⟩=>
 if decide (r15=0)then
  pb (aX R s10 9 2) fun⟨r16,s11⟩=>
  some (.ret (r16,s11))
 else
  if decide (r15=1)then
   pb (aX R s10 10 2) fun⟨r17,s12⟩=>
   some (.ret (r17,s12))
  else
   if decide (r15=2)then
    pb (aX R s10 11 3) fun⟨r18,s13⟩=>
    some (.ret (r18,s13))
   else
    if decide (r15=3)then
     pb (ew R s10) fun⟨r19,s14⟩=>
     some (.ret (r19,s14))
    else Bt s10
theorem rC {R:RP} {r:PR} {t:List UInt8} {q:Tx} (h:Ry r) (e:iT r=t::q) (h1:t≠[40]) (h2:t≠[91]) (h3:t≠zO) (h4:t≠Em) (h5:t≠En):aQ R r=uN R r:=by
 unfold aQ
 rw[qd h.rok,nS h (iD e h1),Option.bind_some,if_neg (by simp),pp h (iD e h2),Option.bind_some]
 dsimp only
 rw[if_neg (by simp),qd h.rok,nS h (iD e h3),Option.bind_some,if_neg (by simp),qd h.rok,nS h (iD e h4),Option.bind_some,if_neg (by simp),qd h.rok,nS h (iD e h5),Option.bind_some,if_neg (by simp)]
 rfl
theorem Br {R:RP} {r:PR} {t:List UInt8} {q:Tx} (h:Ry r) (e:iT r=t::q) (ht:t=zO∨t=Em∨t=En):aQ R r=bH r:=by
 have k3:∀ s,s≠t→wP r 3 s=false:=fun s hs=>nS h (iD e hs.symm) 3
 have n40:t≠[40]:=by rcases ht with rfl | rfl | rfl<;>decide
 have n91:t≠[91]:=by rcases ht with rfl | rfl | rfl<;>decide
 have hk:iu t=1:=by rcases ht with rfl | rfl | rfl<;>decide
 unfold aQ
 rw[qd h.rok,nS h (iD e n40),Option.bind_some,if_neg (by simp),pp h (iD e n91),Option.bind_some]
 dsimp only
 rw[if_neg (by simp),qd h.rok,Option.bind_some]
 rcases ht with rfl | rfl | rfl
 ·rw[sC h e hk,if_pos rfl];exact rj _
 ·rw[nS h (iD e (by decide)),if_neg (by simp),qd h.rok,Option.bind_some,sC h e hk,if_pos rfl];exact rj _
 ·rw[nS h (iD e (by decide)),if_neg (by simp),qd h.rok,Option.bind_some,nS h (iD e (by decide)),if_neg (by simp),qd h.rok,Option.bind_some,sC h e hk,if_pos rfl];exact rj _
def JN (l:List av):Tx:=match l with | []=>[] | x::l=>[44]::gI (fO ((x::l).map zF))
theorem vC (x:av) (l:List av):gI (fO ((x::l).map zF))=gI (zF x)++JN l:=by
 cases l with
 | nil=>simp[JN,fO]
 | cons y l=>exact uY zF x y l
theorem xC (l:List av) (rest:Tx):stopF (JN l++[93]::rest):=by
 cases l with
 | nil=>exact⟨_,_,rfl,.inl rfl⟩
 | cons x l=>exact⟨_,_,rfl,.inr (.inr rfl)⟩
theorem vh:∀ (l:List av) (F:Nat) (r:PR) (s:List UInt8) (ix:List av) (rest:Tx),Ry r→iT r=JN l++[93]::rest→(∀ x∈l,Fa x)→l.length<F→ix.length+l.length≤1000000→
  ∃ r',bi F r ⟨3,s,zV,zT,zL,ix,[]⟩=some (.ret (⟨3,s,zV,zT,zL,ix++l,[]⟩,r'))∧Nw r r' rest
 | _,0,_,_,_,_,_,_,_,h,_=>absurd h (by omega)
 | [],F+1,r,s,ix,rest,h,e,ho,_,_=>by
  have e':iT r=[93]::rest:=e
  obtain⟨_,_,_,_,_,hw⟩:=bO h e'
  simp only[bi]
  rw[pp h (iD e' (by decide)),Option.bind_some]
  dsimp only
  rw[if_neg (by simp),nV h e' (by decide),bR,List.append_nil]
  exact⟨_,rfl,hw⟩
 | x::l,F+1,r,s,ix,rest,h,e,ho,hF,hl=>by
  have e':iT r=[44]::(gI (zF x)++(JN l++[93]::rest)):=by rw[e];show[44]::(gI (fO ((x::l).map zF))++[93]::rest)=_;rw[vC,List.append_assoc]
  obtain⟨_,_,_,_,_,hw⟩:=bO h e'
  simp only[List.length_cons]at hF hl
  obtain⟨r1,e1,hw1⟩:=C8 hw.ok hw.rs (ho x (by simp)) (xC l rest)
  simp only[bi]
  rw[qb h e' (by decide),Option.bind_some]
  dsimp only
  rw[if_pos rfl,e1,bR]
  dsimp only
  rw[bf (by simp only[List.length_cons,List.length_nil];omega),Option.bind_some]
  obtain⟨r2,e2,hw2⟩:=vh l F r1 s (ix++[x]) rest hw1.ok hw1.rs (fun f hf=>ho f (by simp[hf])) (by omega) (by simp only[List.length_append,List.length_cons,List.length_nil];omega)
  rw[e2]
  exact⟨r2,by simp,(hw.trans hw1).trans hw2⟩
theorem Iq {r:PR} {s:List UInt8} {l:List av} {rest:Tx} (h:Ry r) (e:iT r=s::[91]::(gI (fO (l.map zF))++[93]::rest)) (hs:cp s=true) (ho:∀ x∈l,Fa x) (hl:l.length≤100000):
  ∃ r',Bt r=some (.ret (⟨3,s,zV,zT,zL,l,[]⟩,r'))∧Nw r r' rest:=by
 obtain⟨_,_,_,_,_,h1⟩:=bO h e
 obtain⟨_,_,_,_,_,h2⟩:=bO h1.ok h1.rs
 unfold Bt
 rw[yF h e hs,bR]
 dsimp only
 rw[nV h1.ok h1.rs (by decide),bR]
 dsimp only
 cases l with
 | nil=>
  have e3:iT (oh (oh r))=[93]::rest:=h2.rs
  obtain⟨_,_,_,_,_,h3⟩:=bO h2.ok e3
  rw[qb h2.ok e3 (by decide),Option.bind_some]
  exact⟨_,rfl,(h1.trans h2).trans h3⟩
 | cons x l=>
  have e3:=h2.rs
  rw[vC,List.append_assoc]at e3
  obtain⟨t,q,hb,ht,_⟩:=KG (ho x (by simp)).ok (JN l++[93]::rest)
  obtain⟨r1,e1,hw1⟩:=C8 h2.ok e3 (ho x (by simp)) (xC l rest)
  rw[pp h2.ok (iD (by rw[e3];exact hb) ht),Option.bind_some]
  dsimp only
  rw[if_neg (by simp),e1,bR]
  simp only[List.length_cons]at hl
  obtain⟨r2,e2,hw2⟩:=vh l fu r1 s [x] rest hw1.ok hw1.rs (fun f hf=>ho f (by simp[hf])) (by unfold fu;omega) (by simp;omega)
  exact⟨r2,e2,((h1.trans h2).trans hw1).trans hw2⟩
theorem Nd.nw {r q r':PR} {rest:Tx} (h:Nd q r' rest) (hl:q.l=r.l) (hd:q.deep=r.deep+1):Nw r r' rest:=⟨h.ok,h.l.trans hl,by rw[h.d,hd];omega,h.rs⟩
theorem Fd {s:List UInt8} (hs:cp s=true):s≠Gl∧s≠Gm∧s≠K0∧s≠Cn∧s≠zO∧s≠Em∧s≠En:=by
 refine⟨?_,?_,?_,?_,?_,?_,?_⟩<;>rintro rfl<;>revert hs<;>decide
theorem JD {R:RP} {c:Int} (op:Int) (l:List ac) (many:Nat) (hm:many=l.length) (h10:many≤10) {r:PR} {rest:Tx} (h:Ry r) (hc:0≤c) (hd:r.deep+(c+1)≤160) (e:iT r=[40]::(gI (fO (l.map nh))++[41]::rest)) (hR:∀ a∈l,K7 R a c):
  ∃ r',aX R r op (many:Int)=some (.ret (⟨op,[],zV,zT,zL,[],l⟩,r'))∧Nw r r' rest:=by
 obtain⟨o1,o2,o3⟩:=yw h e (by omega)
 have d0:=h.d0
 obtain⟨r',e1,hw⟩:=vZ (R:=R) (c:=c) l fu 0 many (Gb r) ⟨op,[],zV,zT,zL,[],[]⟩ rest (by omega) (by unfold fu;omega) h10 (by simp) o2 (by show 1≤r.deep+1;omega) (by show r.deep+1+c≤160;omega) hR (by rw[o3,if_pos rfl])
 unfold aX
 rw[o1,bR]
 exact⟨r',e1,hw.nw rfl rfl⟩
theorem JC {R:RP} {c:Int} {t:aM} {a:ac} (ht:ol t=true) {r:PR} {rest:Tx} (h:Ry r) (hc:0≤c) (hd:r.deep+(c+1)≤160) (e:iT r=[40]::(gI (zD t)++([44]::(gI (nh a)++[41]::rest)))) (hR:K7 R a c):
  ∃ r',ew R r=some (.ret (⟨12,[],zV,t,zL,[],[a]⟩,r'))∧Nw r r' rest:=by
 obtain⟨o1,o2,o3⟩:=yw h e (by omega)
 have d0:=h.d0
 obtain⟨r1,e1,h1⟩:=Hx o2 o3 ht
 obtain⟨_,_,_,_,_,h2⟩:=bO h1.ok h1.rs
 have dd:(oh r1).deep=r.deep+1:=h1.d
 obtain⟨r3,e3,h3⟩:=hR (oh r1) _ h2.ok (by omega) h2.rs (Bi rest)
 obtain⟨r4,e4,h4⟩:=yZ h3.ok h3.rs (by rw[h3.d];omega)
 unfold ew
 rw[o1,bR]
 dsimp only
 rw[e1,bR]
 dsimp only
 rw[nV h1.ok h1.rs (by decide),bR]
 dsimp only
 rw[e3,bR]
 dsimp only
 rw[e4,bR]
 exact⟨r4,rfl,h4.nw (h3.l.trans (h2.l.trans h1.l)) (h3.d.trans dd)⟩
theorem Is {R:RP} {e:ac} {c:Int} (hv:VE e) (h8:jR e.Op=8) (hw:wE e≤300) (hc:0≤c) (hR:∀ a∈e.Args,K7 R a c) {r:PR} {rest:Tx} (h:Ry r) (hd:r.deep+(c+1)≤160) (he:iT r=gI (nh e)++rest):
  ∃ r',aQ R r=some (.ret (e,r'))∧Nw r r' rest:=by
 have nf:=hv.node
 have ho:=Ai hv h8
 obtain⟨o1,o2,o3⟩:=hv.1.out
 have hwe:=rW e
 rw[GK hv h8]at he
 unfold E3 at he
 have fn:e.Op≠3→e.Name=[]∧e.Idx=[]:=nf.nnam
 by_cases k1:e.Op=1
 ·rw[if_pos k1]at he
  have ha:=BA nf (.inl k1)
  have ht:=nf.ty (.inl k1)
  have hr:iT r=gI (zD e.Type_)++([40]::(gI (vP (Da e.Type_ e.Val))++([41]::rest))):=by rw[he];simp
  obtain⟨r',e1,hw1⟩:=Hc h ht (nf.val k1) hr
  have hh:∃ t q,iT r=t::q∧(t=zO∨t=Em∨t=En):=by
   rw[hr,Bf ht]
   by_cases q1:e.Type_.Kind=1
   ·rw[if_pos q1];exact⟨_,_,rfl,.inl rfl⟩
   ·by_cases q3:e.Type_.Kind=3
    ·rw[if_neg q1,if_pos q3];exact⟨_,_,rfl,.inr (.inl rfl)⟩
    ·rw[if_neg q1,if_neg q3];exact⟨_,_,rfl,.inr (.inr rfl)⟩
  obtain⟨t,q,hq,hw⟩:=hh
  rw[Br h hq hw,e1]
  refine⟨r',?_,hw1⟩
  have:cE e.Type_ e.Val=e:=by symm;exact qt k1 (fn (by omega)).1 rfl rfl (nf.nlin (by omega)) (fn (by omega)).2 ha
  rw[this]
 rw[if_neg k1]at he
 by_cases k2:e.Op=2
 ·rw[if_pos k2]at he
  have ha:=BA nf (.inr (.inl k2))
  have hr:iT r=[91]::(gI (oM e.Lin)++[93]::rest):=by rw[he];simp
  obtain⟨_,_,_,_,_,hA⟩:=bO h hr
  obtain⟨r1,e1,h1⟩:=yP hA.ok hA.rs (Bz o1 nf.lin (by omega)) (EI rest)
  obtain⟨_,_,_,_,_,h2⟩:=bO h1.ok h1.rs
  unfold aQ
  rw[qd h.rok,nS h (iD hr (by decide)),Option.bind_some,if_neg (by simp),qb h hr (by decide),Option.bind_some]
  dsimp only
  rw[if_pos rfl,e1,bR]
  dsimp only
  rw[nV h1.ok h1.rs (by decide),bR]
  refine⟨oh r1,?_,(hA.trans h1).trans h2⟩
  have:(⟨2,[],zV,zT,e.Lin,[],[]⟩:ac)=e:=by symm;exact qt k2 (fn (by omega)).1 (nf.nval (by omega)) (nf.nty (by omega) (by omega)) rfl (fn (by omega)).2 ha
  dsimp only
  rw[this]
 rw[if_neg k2]at he
 by_cases k3:e.Op=3
 ·rw[if_pos k3]at he
  have ha:=BA nf (.inr (.inr k3))
  have hN:=nf.nam k3
  obtain⟨n1,n2,n3,n4,n5,n6,n7⟩:=Fd hN
  have hr:iT r=e.Name::[91]::(gI (fO (e.Idx.map zF))++[93]::rest):=by rw[he];simp
  have hix:∀ x∈e.Idx,Fa x:=fun x hx=>GP (o2.1 x hx) (nf.ix x hx) (by have:=tv (List.mem_map_of_mem (f:=wI) hx);omega)
  obtain⟨r',e1,hw1⟩:=Iq h hr hN hix (by omega)
  have hs:∀ s∈fR,e.Name≠s:=fun s hs=>kq (gA hN) hs
  rw[rC h hr (hs [40] (by decide)) (hs [91] (by decide)) n5 n6 n7]
  unfold uN
  rw[H8 h hr _ (by simp) (by simp[mu,n1,n2,n3,n4]),Option.bind_some]
  dsimp only
  rw[if_neg (by decide),if_neg (by decide),if_neg (by decide),if_neg (by decide),e1]
  refine⟨r',?_,hw1⟩
  have:(⟨3,e.Name,zV,zT,zL,e.Idx,[]⟩:ac)=e:=by symm;exact qt k3 rfl (nf.nval (by omega)) (nf.nty (by omega) (by omega)) (nf.nlin (by omega)) rfl ha
  rw[this]
 rw[if_neg k3]at he
 have call:∀ (w:List UInt8) (op:Int) (many i:Nat),e.Op=op→e.Op≠12→(e.Args.length:Int)=many→many≤3→w≠[40]→w≠[91]→w≠zO→w≠Em→w≠En→mu (fun s=>decide (iu w=1)&&decide (w=s)) [Gl,Gm,K0,Cn]=some i→((op=9∧many=2∧i=0)∨(op=10∧many=2∧i=1)∨(op=11∧many=3∧i=2))→
   iT r=w::[40]::(gI (fO (e.Args.map nh))++[41]::rest)→∃ r',aQ R r=some (.ret (e,r'))∧Nw r r' rest:=fun w op many i hop h12 hm h3 w1 w2 w3 w4 w5 hi hk hr=>by
  obtain⟨_,_,_,_,_,hA⟩:=bO h hr
  obtain⟨r',e1,hw1⟩:=JD (R:=R) (c:=c) op e.Args many (by omega) (by omega) hA.ok hc (by rw[hA.d];exact hd) hA.rs hR
  have:(⟨op,[],zV,zT,zL,[],e.Args⟩:ac)=e:=by symm;exact qt hop (fn k3).1 (nf.nval k1) (nf.nty k1 h12) (nf.nlin k2) (fn k3).2 rfl
  rw[this]at e1
  rw[rC h hr w1 w2 w3 w4 w5]
  unfold uN
  rw[ry h hr _ (by simp) hi,Option.bind_some]
  dsimp only
  rcases hk with⟨rfl,rfl,rfl⟩ | ⟨rfl,rfl,rfl⟩ | ⟨rfl,rfl,rfl⟩
  ·rw[if_pos (by decide)]
   show ∃ r',pb (aX R (oh r) 9 ((2:Nat):Int)) _ =_ ∧ _
   rw[e1];exact⟨r',rfl,hA.trans hw1⟩
  ·rw[if_neg (by decide),if_pos (by decide)]
   show ∃ r',pb (aX R (oh r) 10 ((2:Nat):Int)) _ =_ ∧ _
   rw[e1];exact⟨r',rfl,hA.trans hw1⟩
  ·rw[if_neg (by decide),if_neg (by decide),if_pos (by decide)]
   show ∃ r',pb (aX R (oh r) 11 ((3:Nat):Int)) _ =_ ∧ _
   rw[e1];exact⟨r',rfl,hA.trans hw1⟩
 have hlen:=nf.len
 by_cases k9:e.Op=9
 ·rw[if_pos k9]at he
  exact call Gl 9 2 0 k9 (by omega) (by rw[hlen,k9];rfl) (by omega) (by decide) (by decide) (by decide) (by decide) (by decide) (by decide) (.inl ⟨rfl,rfl,rfl⟩) (by rw[he];simp)
 rw[if_neg k9]at he
 by_cases k10:e.Op=10
 ·rw[if_pos k10]at he
  exact call Gm 10 2 1 k10 (by omega) (by rw[hlen,k10];rfl) (by omega) (by decide) (by decide) (by decide) (by decide) (by decide) (by decide) (.inr (.inl ⟨rfl,rfl,rfl⟩)) (by rw[he];simp)
 rw[if_neg k10]at he
 by_cases k11:e.Op=11
 ·rw[if_pos k11]at he
  exact call K0 11 3 2 k11 (by omega) (by rw[hlen,k11];rfl) (by omega) (by decide) (by decide) (by decide) (by decide) (by decide) (by decide) (.inr (.inr ⟨rfl,rfl,rfl⟩)) (by rw[he];simp)
 rw[if_neg k11]at he
 have k12:e.Op=12:=by omega
 have ht:=nf.ty (.inr k12)
 have hl1:e.Args.length=1:=by rw[k12]at hlen;have:lJ 12=1:=rfl;omega
 obtain⟨a,ha⟩:=List.length_eq_one_iff.1 hl1
 rw[ha]at he
 have hr:iT r=Cn::[40]::(gI (zD e.Type_)++([44]::(gI (nh a)++[41]::rest))):=by rw[he];simp[fO]
 obtain⟨_,_,_,_,_,hA⟩:=bO h hr
 obtain⟨r',e1,hw1⟩:=JC ht hA.ok hc (by rw[hA.d];exact hd) hA.rs (hR a (by rw[ha];simp))
 have:(⟨12,[],zV,e.Type_,zL,[],[a]⟩:ac)=e:=by symm;exact qt k12 (fn k3).1 (nf.nval k1) rfl (nf.nlin k2) (fn k3).2 ha
 rw[this]at e1
 rw[rC h hr (by decide) (by decide) (by decide) (by decide) (by decide)]
 unfold uN
 rw[ry h hr _ (by simp) (i:=3) (by decide),Option.bind_some]
 dsimp only
 rw[if_neg (by decide),if_neg (by decide),if_neg (by decide),if_pos (by decide),e1]
 exact⟨r',rfl,hA.trans hw1⟩
end Go.Proofs.YtmhoikfoogemnaaGreatDoor
