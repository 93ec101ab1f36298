import Derived.Test.YtmhoikfoogemnaaGreatDoorGEr
namespace Go.Proofs.YtmhoikfoogemnaaGreatDoor
open Go Go.RowKit Go.Vc
set_option linter.unusedVariables false
set_option linter.unusedSimpArgs false
theorem Rok.start2 {l l2:List bm} {at_:Int} (h:l2.map tk=l.map tk) (h0:0≤at_) (h1:at_≤l.length) (hl:l.length≤50000) (ht:∀ t∈l,t.Text.length≤50000):Rok ⟨l2,0⟩ ⟨l,at_,0⟩:=⟨.inl ⟨rfl,h⟩,h0,h1,hl,ht,by show(0:Int)≤0;omega,by show(0:Int)≤160;omega⟩
theorem St0' (l:List bm) (at_:Int) (l2:List bm):(⟨l2,at_,0,0,0⟩:RS)=St ⟨l2,0⟩ ⟨l,at_,0⟩:=by
 unfold St
 show _ =(⟨l2,at_+0,0+0,0,0⟩:RS)
 rw[Int.add_zero,Int.add_zero]
theorem Ft (s:List UInt8) (l:List bm) {a:Int} (h:0≤a):∃ v,fL s l a=some v∧jR s l a=some v:=by
 unfold fL jR
 by_cases c:a<l.length
 ·obtain⟨t,ht⟩:=cC (l:=l) (i:=a.toNat) (by omega)
  have e:lat l a=some t:=by unfold lat;rw[if_pos h];exact ht
  rw[if_neg (by simp;omega),if_pos (by simpa using c),e]
  exact⟨_,rfl,rfl⟩
 ·rw[if_pos (by simp;omega),if_neg (by simpa using c)]
  exact⟨_,rfl,rfl⟩
theorem H1 {s:List UInt8} (h:s.length≤65536):(Z13.tokens s).1.length≤s.length∧∀ t∈(Z13.tokens s).1,t.Text.length≤s.length:=by
 by_cases he:(Z13.tokens s).2.2=0
 ·have hc:=Z13.tokens_chain s h he
  refine⟨by have:=Z13.chain_le _ _ _ hc;omega,?_⟩
  have go:∀ (ts:List bm) (a:Nat),Z13.Chain s a ts→∀ t∈ts,t.Text.length≤s.length:=by
   intro ts
   induction ts with
   | nil=>intro a _ t ht;cases ht
   | cons u ts ih=>
    intro a ⟨_,_,_,h4,_,h6⟩ t ht
    rcases List.mem_cons.1 ht with rfl | ht
    ·omega
    ·exact ih _ h6 t ht
  exact go _ 0 hc
 ·rw[Z13.tokens_none s he];exact⟨by simp,by intro t ht;cases ht⟩
end Go.Proofs.YtmhoikfoogemnaaGreatDoor
namespace Go.Proofs.YtmhoikfoogemnaaGreatDoor
open Go Go.RowKit Go.Vc
set_option linter.unusedVariables false
set_option linter.unusedSimpArgs false
variable {L:Cx}
theorem SimR.sim {α:Type} {r:PR} {Q:α→PR→Prop} {m:Option (bL (α×PR))} {m':Option (α×RS)} (h:SimR L r Q m m') (ho:L.o=0):Sim L r Q m m':=by
 rcases h with⟨x,r',h1,h2 | ⟨h2,_⟩,h3,h4⟩ | h
 ·exact .inl ⟨x,r',h1,h2,h3,h4⟩
 ·omega
 ·exact .inr h
def Sim2 {α β:Type} (L:Cx) (r:PR) (Q:α→β→PR→Prop) (m:Option (bL (α×PR))) (m':Option (β×RS)):Prop:=
 (∃ x y r',m=some (.ret (x,r'))∧m'=some (y,St L r')∧Nx L r r'∧Q x y r')∨∃ a e,m=some (.pan a e)∧0≤a∧(L.o=0→Fl a e m')
theorem Sim.bnd2 {α β γ:Type} {r:PR} {Q:α→PR→Prop} {Q2:β→γ→PR→Prop} {m:Option (bL (α×PR))} {m':Option (α×RS)} {f:α×PR→Option (bL (β×PR))} {g:α×RS→Option (γ×RS)} (h:Sim L r Q m m')
  (h1:∀ x r',Nx L r r'→Q x r'→Sim2 L r Q2 (f (x,r')) (g (x,St L r'))) (h2:∀ y s,s.E≠0→Fl s.Pos s.E (g (y,s))):Sim2 L r Q2 (pb m f) (m'.bind g):=by
 rcases h with⟨x,r',rfl,rfl,hn,hq⟩ | ⟨a,e,rfl,h0,h⟩
 ·exact h1 x r' hn hq
 ·refine .inr ⟨_,_,rfl,h0,λho=>?_⟩
  obtain⟨y,s,rfl,rfl,rfl,he⟩:=h ho
  exact h2 y s he
theorem Sim2.base {α β:Type} {r r':PR} {Q Q':α→β→PR→Prop} {m:Option (bL (α×PR))} {m':Option (β×RS)} (h:Sim2 L r' Q m m') (hn:Nx L r r') (hq:∀ x y q,Nx L r' q→Q x y q→Q' x y q):Sim2 L r Q' m m':=by
 rcases h with⟨x,y,q,h1,h2,h3,h4⟩ | h
 ·exact .inl ⟨x,y,q,h1,h2,hn.trans h3,hq x y q h3 h4⟩
 ·exact .inr h
theorem wK {p:RS} (he:p.E≠0) (g:Nat) (l:List (List UInt8)):es (g+1) l p=some (l,p):=by
 simp only[es]
 rw[jh he,Option.bind_some,if_neg (by simp)]
theorem DL (l0:List (List UInt8)) (hl0:l0.length≤1000000):∀ (F F':Nat) (a0:Int) (r:PR) (out:List (List UInt8)),Rok L r→r.l.length - r.at_.toNat<F→r.l.length - r.at_.toNat<F'→0≤a0→a0≤r.at_→out.length≤(r.at_ - a0).toNat→
  Sim2 L r (λx y r'=>y=l0++x∧x.length≤(r'.at_ - a0).toNat) (cY F out r) (es F' (l0++out) (St L r)):=by
 intro F
 induction F with
 | zero=>intros;omega
 | succ F ih=>
  intro F' a0 r out h hF hF' ha0 ha1 ho
  obtain⟨F',rfl⟩:∃ g,F'=g+1:=⟨F' - 1,by omega⟩
  have h0:=h.a0
  have h1:=h.a1
  have h2:=h.ll
  simp only[cY,es]
  rw[iR h,gX h [44],Option.bind_some,Option.bind_some]
  cases c:jd r 3 [44]with
  | true=>
   have hlt:=h.is_lt c
   have hA:=Nx.adv h hlt
   simp only[if_true]
   show Sim2 L r _ (pb (aV (adv r)) _) ((cy (⟨L.L,au (r.at_+L.o+1),r.deep+L.o,0,0⟩:RS)).bind _)
   rw[j4 h]
   refine((oq hA.ok).base hA (Q':=λx q=>r.at_+1<q.at_) (λx q hq hx=>hx.2)).bnd2 (λx r1 hn hlt1=>?_) (λy s hs=>?_)
   ·have hl1:=hn.ok.a1
    have hll:=hn.l
    rw[hll]at hl1
    dsimp only
    rw[cJ (by simp only[List.length_cons,List.length_nil];omega),Option.bind_some,cJ (by simp only[List.length_cons,List.length_nil,List.length_append];omega),Option.bind_some,List.append_assoc]
    exact(ih F' a0 r1 (out++[x]) hn.ok (by rw[hll];omega) (by rw[hll];omega) ha0 (by omega) (by simp only[List.length_append,List.length_cons,List.length_nil];omega)).base hn (λx y q hq hx=>hx)
   ·dsimp only
    obtain⟨G,rfl⟩:∃ g,F'=g+1:=⟨F' - 1,by omega⟩
    rw[cJ (by simp only[List.length_cons,List.length_nil,List.length_append];omega),Option.bind_some,wK hs]
    exact Fl.mk hs
  | false=>
   simp only[Bool.false_eq_true,if_false]
   exact .inl ⟨out,l0++out,r,rfl,rfl,Nx.refl h,rfl,ho⟩
theorem DK {r:PR} (h:Rok L r) (l0:List (List UInt8)) (hl0:l0.length≤1000000):Sim2 L r (λx y r'=>y=l0++x∧x.length≤(r'.at_ - r.at_).toNat∧r.at_<r'.at_) (bO r) (gD (St L r) l0):=by
 have h0:=h.a0
 have h1:=h.a1
 have h2:=h.ll
 unfold bO gD
 refine(oq h).bnd2 (λx r1 hn ⟨_,hlt⟩=>?_) (λy s hs=>?_)
 ·have hl1:=hn.ok.a1
  have hll:=hn.l
  rw[hll]at hl1
  dsimp only
  rw[cJ (by simp only[List.length_cons,List.length_nil];omega),Option.bind_some]
  exact(DL l0 hl0 fu fu r.at_ r1 [x] hn.ok (by rw[hll];unfold fu;omega) (by rw[hll];unfold fu;omega) h0 (by omega) (by simp only[List.length_cons,List.length_nil];omega)).base hn (λx y q hq hx=>⟨hx.1,hx.2,by have:=hq.le;omega⟩)
 ·dsimp only
  rw[cJ (by simp only[List.length_cons,List.length_nil];omega),Option.bind_some]
  obtain⟨g,hg⟩:=HP
  rw[hg,wK hs]
  exact Fl.mk hs
def axO (l:List gl) (n:Nat):Prop:=l.length≤n∧∀ a∈l,a.Size.L.length≤100000
theorem axO.snoc {l:List gl} {a:gl} {n:Nat} (h:axO l n) (ha:a.Size.L.length≤100000):axO (l++[a]) (n+1):=⟨by simp only[List.length_append,List.length_cons,List.length_nil];have:=h.1;omega,λb hb=>by
 rcases List.mem_append.1 hb with hb | hb
 ·exact h.2 b hb
 ·rw[List.mem_singleton.1 hb];exact ha⟩
theorem axO.mono {l:List gl} {n m:Nat} (h:axO l n) (hm:n≤m):axO l m:=⟨Nat.le_trans h.1 hm,h.2⟩
theorem Dy {p:RS} (he:p.E≠0) (g:Nat) (out:List gl) (hl:out.length≤1000000):∃ y,eQ (g+1) out p=some (y,p):=by
 simp only[eQ]
 rw[Cq he,Option.bind_some]
 dsimp only
 rw[be he,Option.bind_some,ri he,Option.bind_some]
 dsimp only
 rw[cJ (by simp only[List.length_cons,List.length_nil];omega),Option.bind_some,jh he,Option.bind_some,if_pos (by simp)]
 exact⟨_,rfl⟩
theorem FT:∀ (F F':Nat) (a0:Int) (r:PR) (out:List gl),Rok L r→r.l.length - r.at_.toNat<F→r.l.length - r.at_.toNat<F'→0≤a0→a0≤r.at_→axO out (r.at_ - a0).toNat→
  Sim L r (λx r'=>r.at_<r'.at_∧axO x (r'.at_ - a0).toNat) (cI F out r) (eQ F' out (St L r)):=by
 intro F
 induction F with
 | zero=>intros;omega
 | succ F ih=>
  intro F' a0 r out h hF hF' ha0 ha1 ho
  obtain⟨F',rfl⟩:∃ g,F'=g+1:=⟨F' - 1,by omega⟩
  have h0:=h.a0
  have h1:=h.a1
  have h2:=h.ll
  have hol:=ho.1
  simp only[cI,eQ]
  have fl:∀ (s:List UInt8) (f:GLin) (p:RS),p.E≠0→Fl p.Pos p.E ((gm out ([⟨s,f⟩]:List gl)).bind λzs1=>(aK p 0 [44]).bind λr4=>if(!r4)=true then some (zs1,p)else eQ F' zs1 ⟨p.L,au (p.At+1),p.Deep,p.E,p.Pos⟩):=λs f p hp=>by
   rw[cJ (by simp only[List.length_cons,List.length_nil];omega),Option.bind_some,jh hp,Option.bind_some,if_pos (by simp)]
   exact Fl.mk hp
  refine(oq h).bnd (λs r1 hn1 ⟨hs,q1⟩=>?_) (λy p hp=>?_)
  ·dsimp only
   refine((cF hn1.ok [60]).base hn1 (Q':=λq=>r.at_+1<q.at_) (λq hq e=>by omega)).bnd (λr2 hn2 q2=>?_) (λp hp=>?_)
   ·refine((rn hn2.ok).base hn2 (Q':=λx q=>r.at_+2≤q.at_∧x.L.length≤100000) (λx q hq hx=>⟨by omega,by have:=hx.2.len;have:=hq.ok.a1;have:=hq.ok.ll;have:=hn2.ok.a0;omega⟩)).bnd (λf r3 hn3 ⟨q3,hx⟩=>?_) (λy p hp=>?_)
    ·have hll:r3.l.length=r.l.length:=by rw[hn3.l]
     have hl1:=hn3.ok.a1
     dsimp only
     rw[cJ (by simp only[List.length_cons,List.length_nil];omega),Option.bind_some,Option.bind_some,iR hn3.ok,gX hn3.ok [44],Option.bind_some,Option.bind_some]
     cases c:jd r3 3 [44]with
     | true=>
      have hlt:=hn3.ok.is_lt c
      have hA:=Nx.adv hn3.ok hlt
      simp only[if_true,Bool.not_true,Bool.false_eq_true,if_false]
      show Sim L r _ (cI F (out++[(⟨s,f⟩:gl)]) (adv r3)) (eQ F' (out++[(⟨s,f⟩:gl)]) (⟨L.L,au (r3.at_+L.o+1),r3.deep+L.o,0,0⟩:RS))
      rw[j4 hn3.ok]
      have ea:(adv r3).at_=r3.at_+1:=rfl
      have el:(adv r3).l=r3.l:=rfl
      exact(ih F' a0 (adv r3) (out++[(⟨s,f⟩:gl)]) hA.ok (by rw[el,ea,hll];omega) (by rw[el,ea,hll];omega) ha0 (by omega) ((ho.snoc hx).mono (by omega))).base (hn3.trans hA) (λx q hq hx=>⟨by omega,hx.2⟩)
     | false=>
      simp only[Bool.not_false,Bool.false_eq_true,if_false,if_true]
      exact Sim.ret hn3 ⟨by omega,(ho.snoc hx).mono (by omega)⟩
    ·exact fl _ _ _ hp
   ·rw[ri hp,Option.bind_some]
    exact fl _ _ _ hp
  ·dsimp only
   rw[be hp,Option.bind_some,ri hp,Option.bind_some]
   exact fl _ _ _ hp
theorem Al {r:PR} (h:Rok L r):Sim L r (λx r'=>r.at_<r'.at_∧axO x 100000) (ez r) (ia (St L r)):=by
 have h0:=h.a0
 have h1:=h.a1
 have h2:=h.ll
 unfold ez ia
 exact(FT fu fu r.at_ r [] h (by unfold fu;omega) (by unfold fu;omega) h0 (by omega) ⟨by simp,λa ha=>by cases ha⟩).base (Nx.refl h) (λx q hq hx=>⟨hx.1,hx.2.mono (by have:=hq.ok.a1;have:=hq.ok.ll;omega)⟩)
theorem GM {p:RS} (he:p.E≠0):∃ y,ia p=some (y,p):=by
 unfold ia
 obtain⟨g,hg⟩:=HP
 rw[hg];exact Dy he g [] (by simp)
theorem Ct {r:PR} (h:Rok L r) (s:List UInt8):ar r s=if jd r 3 s=true then some (.ret ((),adv r))else some (.pan (sw r).1 (sw r).2):=by
 unfold ar
 rw[iR h,Option.bind_some]
 cases c:jd r 3 s with
 | true=>rfl
 | false=>
  simp only[Bool.false_eq_true,if_false,Bool.not_false,if_true]
  rw[pX h];rfl
theorem Dx {r:PR} (h:Rok L r) (ho:L.o=0):kF (St L r)=if jd r 2 [48]=true then(cK (⟨L.L,au (r.at_+L.o+1),r.deep+L.o,0,0⟩:RS) [[61,61],[60,61]]).bind λr2=>(dR r2.2).bind λr3=>some ((⟨r3.1,decide (r2.1=1)⟩:aX),r3.2)else(cq (St L r)).bind λr1=>some ((⟨⟨0,[]⟩,false⟩:aX),r1):=by
 unfold kF
 have e0:(St L r).E=0:=rfl
 have hl:=h.lenL
 have h0:=h.a0
 rw[e0,IC,tQ]
 rcases h.end_ with⟨e,e1,_⟩ | ⟨t,e,e1,_⟩
 ·have eb:jd r 2 [48]=false:=by unfold jd isK;rw[e]
  rw[eb,decide_eq_true (p:=(L.L.length:Int)≤r.at_+(L.o:Int)) (by omega)]
  simp[gd]
 ·obtain⟨t',e',k1,k2⟩:=h.tkL e
  have eb:jd r 2 [48]=(decide (t.Kind=2)&&decide (t.Text=[48])):=by unfold jd isK;rw[e]
  rw[eb,e',decide_eq_false (p:=(L.L.length:Int)≤r.at_+(L.o:Int)) (by omega)]
  by_cases c:t.Kind=2
  ·by_cases d:t.Text=[48]
   ·simp[gd,k1,k2,c,d];rfl
   ·simp[gd,k1,k2,c,d]
  ·simp[gd,k1,k2,c]
abbrev LJ (c:aX):Prop:=c.Lin.L.length≤100000
theorem E6 {r:PR} (h:Rok L r) (ho:L.o=0):Sim L r (λc r'=>r.at_<r'.at_∧LJ c) (cO r) (kF (St L r)):=by
 rw[Dx h ho]
 unfold cO
 rw[uN h,Option.bind_some]
 cases c:jd r 2 [48]with
 | false=>
  rw[if_pos (by simp),if_neg (by simp),pX h]
  exact .inr ⟨_,_,rfl,uo h,λho=>by rw[pW h ho];exact⟨_,_,rfl,rfl,rfl,qP r⟩⟩
 | true=>
  have hA:=Nx.adv h (h.is_lt c)
  rw[if_neg (by simp),if_pos rfl,j4 h]
  unfold d5
  rw[h.wi1]
  show Sim L r _ ((aE (adv r) [61,61]).bind _) _
  rw[iR hA.ok,tf hA.ok _ (by simp) (by intro s hs;simp at hs;rcases hs with rfl | rfl<;>exact⟨by simp,by simp⟩),Option.bind_some]
  have k1:zd [61,61]=3:=rfl
  have k2:zd [60,61]=3:=rfl
  simp only[lK,k1,k2]
  have fin:∀ (q:PR) (b:Bool) (n:Int),Nx L r q→decide (n=1)=b→r.at_<q.at_→Sim L r (λc r'=>r.at_<r'.at_∧LJ c) (cR b q) ((dR (St L q)).bind λr3=>some ((⟨r3.1,decide (n=1)⟩:aX),r3.2)):=λq b n hq hb hlt=>by
   unfold cR
   refine((rn hq.ok).base hq (Q':=λx q=>r.at_<q.at_∧x.L.length≤100000) (λx q2 hq2 hx=>⟨by omega,by have:=hx.2.len;have:=hq2.ok.a1;have:=hq2.ok.ll;have:=hq.ok.a0;omega⟩)).bnd (λf r3 hn ⟨q3,hx⟩=>?_) (λy s hs=>Fl.mk hs)
   dsimp only
   rw[hb]
   exact Sim.ret hn ⟨q3,hx⟩
  have ea:(adv r).at_=r.at_+1:=rfl
  have ea2:(adv (adv r)).at_=r.at_+1+1:=rfl
  cases c1:jd (adv r) 3 [61,61]with
  | true=>
   have hB:=Nx.adv hA.ok (hA.ok.is_lt c1)
   exact fin (adv (adv r)) true 1 (hA.trans hB) rfl (by omega)
  | false=>
   cases c2:jd (adv r) 3 [60,61]with
   | true=>
    have hB:=Nx.adv hA.ok (hA.ok.is_lt c2)
    have k:=fin (adv (adv r)) false 2 (hA.trans hB) rfl (by omega)
    show Sim L r _ (pb (ar (adv r) [60,61]) _) _
    rw[Ct hA.ok,c2]
    exact k
   | false=>
    show Sim L r _ (pb (ar (adv r) [60,61]) _) (Option.bind (Option.bind (cq (St L (adv r))) _) _)
    rw[Ct hA.ok,c2,if_neg (by simp)]
    refine .inr ⟨_,_,rfl,uo hA.ok,λho=>?_⟩
    rw[pW hA.ok ho,Option.bind_some,Option.bind_some]
    dsimp only
    rw[ri (by exact qP (adv r))]
    exact⟨_,_,rfl,rfl,rfl,qP _⟩
abbrev pmO (x:iz):Prop:=x.Dims.length≤100000∧∀ f∈x.Dims,f.L.length≤100000
theorem Fj {r:PR} (h:Rok L r):Sim L r (λx r'=>r.at_<r'.at_∧pmO x) (d4 r) (l6 (St L r)):=by
 unfold d4 l6
 refine(oq h).bnd (λs r1 hn1 ⟨hs,q1⟩=>?_) (λy p hp=>?_)
 ·dsimp only
  refine((cF hn1.ok [58]).base hn1 (Q':=λq=>r.at_<q.at_) (λq hq e=>by omega)).bnd (λr2 hn2 q2=>?_) (λp hp=>?_)
  ·dsimp only
   refine((xz hn2.ok).base hn2 (Q':=λx q=>r.at_<q.at_) (λx q hq e=>by have:=e.2;omega)).bnd (λt r3 hn3 q3=>?_) (λy p hp=>?_)
   ·dsimp only
    refine((cF hn3.ok [91]).base hn3 (Q':=λq=>r.at_<q.at_) (λq hq e=>by omega)).bnd (λr4 hn4 q4=>?_) (λp hp=>?_)
    ·dsimp only
     refine((Ae hn4.ok).base hn4 (Q':=λx q=>r.at_<q.at_∧x.length≤100000∧∀ f∈x,f.L.length≤100000) (λx q hq hx=>⟨by omega,?_,λf hf=>(hx.2.ok f hf).len⟩)).bnd (λl r5 hn5 ⟨q5,hx⟩=>?_) (λy p hp=>Fl.mk hp)
     ·have:=AC x;have:=hx.2.w;have:=hq.ok.a1;have:=hq.ok.ll;have:=hn4.ok.a0;omega
     ·exact Sim.ret hn5 ⟨q5,hx⟩
    ·rw[qg hp];exact Fl.mk hp
   ·dsimp only
    rw[be hp,Option.bind_some,qg hp];exact Fl.mk hp
  ·rw[vj hp,Option.bind_some]
   dsimp only
   rw[be hp,Option.bind_some,qg hp];exact Fl.mk hp
 ·dsimp only
  rw[be hp,Option.bind_some,vj hp,Option.bind_some]
  dsimp only
  rw[be hp,Option.bind_some,qg hp];exact Fl.mk hp
end Go.Proofs.YtmhoikfoogemnaaGreatDoor
namespace Go.Proofs.YtmhoikfoogemnaaGreatDoor
open Go Go.RowKit Go.Vc
set_option linter.unusedVariables false
set_option linter.unusedSimpArgs false
variable {L:Cx}
abbrev B2:List (List UInt8):=[[115,117,109],[112,114,111,100],[109,105,110],[109,97,120],[115,99,97,110]]
def CJ {β:Type} (d:eF) (p:RS) (K:RS→eF→Option (β×RS)):Option (β×RS):=
 (iS p B2).bind λr8=>
 (gd r8 (iS p [[109,105,110],[109,97,120]])).bind λr9=>
 (gd (r8&&r9) (aK p 1 [40])).bind λr10=>
 if(r8&&(!(r9&&r10)))=true then
  (cK p B2).bind λr11=>
  (aK r11.2 0 [58]).bind λr12=>
  if(!r12)=true then
   (ia r11.2).bind λr13=>
   (az r13.2 [58]).bind λr14=>
   K r14 ⟨d.Name,d.Type_,d.Dims,r13.1,r11.1,d.Body⟩
  else
   (az r11.2 [58]).bind λr15=>
   K r15 ⟨d.Name,d.Type_,d.Dims,d.Red,r11.1,d.Body⟩
 else K p d
theorem Ah (d:eF) (p:RS):hV d p=(az p [93]).bind λr5=>(az r5 [61]).bind λr6=>CJ d r6 hU:=rfl
theorem Bc {β:Type} {K:RS→eF→Option (β×RS)} {s:RS} (hs:s.E≠0) (d:eF) (h:Fl s.Pos s.E (K s d)):Fl s.Pos s.E (CJ d s K):=by
 unfold CJ
 rw[AL hs _ (by simp),Option.bind_some]
 exact h
theorem Ih {r:PR} (h:Rok L r) {β:Type} (A B:Option β):((gd (decide (au (r.at_+1)<(r.l.length:Int))) (lat r.l (au (r.at_+1)))).bind λe1=>
 (gd ((decide (au (r.at_+1)<(r.l.length:Int)))&&(decide (e1.Kind=3))) (lat r.l (au (r.at_+1)))).bind λe2=>
 (gd (((decide (au (r.at_+1)<(r.l.length:Int)))&&(decide (e1.Kind=3)))&&(decide (e2.Text=([40]:List UInt8)))) (bi r 1 ([109,105,110]:List UInt8))).bind λr2=>
 (gd ((((decide (au (r.at_+1)<(r.l.length:Int)))&&(decide (e1.Kind=3)))&&(decide (e2.Text=([40]:List UInt8))))&& !r2) (bi r 1 ([109,97,120]:List UInt8))).bind λr3=>
 if(((decide (au (r.at_+1)<(r.l.length:Int)))&&(decide (e1.Kind=3)))&&(decide (e2.Text=([40]:List UInt8))))&&(r2||r3)then A else B)=if(isK (vY r 1) 3 [40]&&(jd r 1 [109,105,110]||jd r 1 [109,97,120]))=true then A else B:=by
 have h0:=h.a0
 rw[h.wi1,uN h,uN h]
 by_cases c:r.at_+1<r.l.length
 ·obtain⟨t,ht⟩:=cC (l:=r.l) (i:=r.at_.toNat+1) (by omega)
  have e1:lat r.l (r.at_+1)=some t:=by unfold lat;rw[if_pos (by omega),show(r.at_+1).toNat=r.at_.toNat+1 by omega];exact ht
  have e2:vY r 1=some t:=ht
  rw[e1,e2,decide_eq_true c]
  by_cases k:t.Kind=3
  ·by_cases k2:t.Text=[40]
   ·cases jd r 1 [109,105,110]<;>cases jd r 1 [109,97,120]<;>simp[gd,k,k2,isK]
   ·simp[gd,k,k2,isK]
  ·simp[gd,k,isK]
 ·have e2:vY r 1=none:=List.getElem?_eq_none (by omega)
  rw[e2,decide_eq_false c]
  simp[gd,isK]
def Lr (d d':eF):Prop:=d'.Dims=d.Dims∧d'.Body=d.Body∧axO d'.Red 100000
theorem Hs {β:Type} {r:PR} {Q:β→PR→Prop} (h:Rok L r) (d:eF) (hf:d.Fold=0) (hd:axO d.Red 100000) {f:Unit×PR×eF→Option (bL (β×PR))} {K:RS→eF→Option (β×RS)}
  (h1:∀ r' d',Nx L r r'→Lr d d'→Sim L r Q (f ((),r',d')) (K (St L r') d')) (h2:∀ s d',s.E≠0→Fl s.Pos s.E (K s d')):Sim L r Q (pb (gQ r d) f) (CJ d (St L r) K):=by
 have ek:∀ s∈B2,s≠[]∧zd s=1∧s≠[41]:=by intro s hs;simp at hs;rcases hs with rfl | rfl | rfl | rfl | rfl<;>exact⟨by simp,rfl,by simp⟩
 have ek2:∀ s∈([[109,105,110],[109,97,120]]:List (List UInt8)),s≠[]∧zd s=1∧s≠[41]:=by intro s hs;simp at hs;rcases hs with rfl | rfl<;>exact⟨by simp,rfl,by simp⟩
 have ec:=rV (p:=λs=>jd r (zd s) s) (q:=jd r 1) (l:=B2) (λs hs=>by rw[(ek s hs).2.1])
 have em:(lK (jd r 1) [[109,105,110],[109,97,120]]).isSome=(jd r 1 [109,105,110]||jd r 1 [109,97,120]):=by simp only[lK];cases jd r 1 [109,105,110]<;>cases jd r 1 [109,97,120]<;>rfl
 have kk:zd [40]=3:=rfl
 unfold gQ CJ
 rw[Ih h,yd h _ (by simp),Ez h _ (by simp) ek,Ez h _ (by simp) ek2,em,IR h (by simp) (by simp),tf h _ (by simp) (λs hs=>⟨(ek s hs).1,(ek s hs).2.2⟩),ec,kk]
 have ed:(⟨d.Name,d.Type_,d.Dims,d.Red,0,d.Body⟩:eF)=d:=by cases d;dsimp only at hf;subst hf;rfl
 have skip:Sim L r Q (f ((),r,d)) (K (St L r) d):=h1 r d (Nx.refl h) ⟨rfl,rfl,hd⟩
 have e0:au ((-1:Int)+1)=0:=rfl
 generalize isK (vY r 1) 3 [40]=ca
 generalize (jd r 1 [109,105,110]||jd r 1 [109,97,120])=mm
 cases cw:lK (jd r 1) B2 with
 | none=>
  simp only[Option.isSome_none,gd,Bool.false_and,Bool.false_eq_true,if_false,Option.bind_some,e0,decide_true,if_true,ed]
  split
  ·exact skip
  ·exact skip
 | some i=>
  obtain⟨hi,x,hx,hp⟩:=rl cw
  have hA:=Nx.adv h (h.is_lt hp)
  have ei:au ((i:Int)+1)=((i+1:Nat):Int):=nu (by simp at hi;omega)
  have ne:decide (((i+1:Nat):Int)=0)=false:=decide_eq_false (by omega)
  have go:Sim L r Q (pb ((bi (adv r) 3 [58]).bind λr5=>if(!r5)=true then pb (ez (adv r)) λ(x:List gl×PR)=>pb (ar x.2 [58]) λ(y:Unit×PR)=>some (.ret ((),y.2,(⟨d.Name,d.Type_,d.Dims,x.1,((i+1:Nat):Int),d.Body⟩:eF)))else pb (ar (adv r) [58]) λ(y:Unit×PR)=>some (.ret ((),y.2,(⟨d.Name,d.Type_,d.Dims,d.Red,((i+1:Nat):Int),d.Body⟩:eF)))) f)
    ((aK (St L (adv r)) 0 [58]).bind λr12=>if(!r12)=true then(ia (St L (adv r))).bind λr13=>(az r13.2 [58]).bind λr14=>K r14 ⟨d.Name,d.Type_,d.Dims,r13.1,((i+1:Nat):Int),d.Body⟩else(az (St L (adv r)) [58]).bind λr15=>K r15 ⟨d.Name,d.Type_,d.Dims,d.Red,((i+1:Nat):Int),d.Body⟩):=by
   rw[uN hA.ok,gX hA.ok [58],Option.bind_some,Option.bind_some]
   cases c:jd (adv r) 3 [58]with
   | true=>
    simp only[Bool.not_true,Bool.false_eq_true,if_false]
    rw[vm]
    refine((cF hA.ok [58]).base hA (Q':=λ_=>True) (λ_ _ _=>trivial)).bnd (λr2 hn2 _=>?_) (λs hs=>h2 s _ hs)
    exact h1 r2 _ hn2 ⟨rfl,rfl,hd⟩
   | false=>
    simp only[Bool.not_false,if_true]
    rw[vm]
    refine((Al hA.ok).base hA (Q':=λx q=>axO x 100000) (λx q _ hx=>hx.2)).bnd (λx r2 hn2 hx=>?_) (λy s hs=>?_)
    ·dsimp only
     rw[vm]
     refine((cF hn2.ok [58]).base hn2 (Q':=λ_=>True) (λ_ _ _=>trivial)).bnd (λr3 hn3 _=>?_) (λs hs=>h2 s _ hs)
     exact h1 r3 _ hn3 ⟨rfl,rfl,hx⟩
    ·dsimp only
     rw[be hs,Option.bind_some]
     exact h2 s _ hs
  dsimp only[Option.bind_some,Option.isSome]
  simp only[ei,ne,Bool.false_eq_true,if_false]
  cases mm with
  | false=>cases ca<;>exact go
  | true=>
   cases ca with
   | true=>exact skip
   | false=>exact go
abbrev Lu (d:eF):Prop:=axO d.Dims 100000∧axO d.Red 100000∧okGExpr d.Body∧wE d.Body≤1000000
theorem x8 {s:RS} (hs:s.E≠0):∃ y,iF s=some (y,s):=by
 obtain⟨y,hy⟩:=vr fu 1 (by omega) (by omega) (by unfold fu;omega) s hs
 have hy:po s 1=some (y,s):=hy
 unfold iF
 rw[hy,Option.bind_some,if_neg (by simp[hs])]
 exact⟨_,rfl⟩
theorem vD {s:RS} (d:eF) (hs:s.E≠0):Fl s.Pos s.E (hU s d):=by
 unfold hU
 obtain⟨y,hy⟩:=x8 hs
 rw[hy];exact Fl.mk hs
theorem CQ {s:RS} (d:eF) (hs:s.E≠0):Fl s.Pos s.E (hV d s):=by
 rw[Ah,be hs,Option.bind_some,be hs,Option.bind_some]
 exact Bc hs d (vD d hs)
theorem yA (ho:L.o=0) {r:PR} (h:Rok L r) (d:eF) (hf:d.Fold=0) (h1:axO d.Dims 100000) (h2:axO d.Red 100000):Sim L r (λx r'=>r.at_<r'.at_∧Lu x) (fa r d) (hV d (St L r)):=by
 rw[Ah]
 unfold fa
 refine((cF h [93]).base (Nx.refl h) (Q':=λq=>r.at_<q.at_) (λq _ e=>by omega)).bnd (λr1 hn1 q1=>?_) (λs hs=>?_)
 ·refine((cF hn1.ok [61]).base hn1 (Q':=λq=>r.at_<q.at_) (λq hq e=>by omega)).bnd (λr2 hn2 q2=>?_) (λs hs=>Bc hs d (vD d hs))
  refine(Hs hn2.ok d hf h2 (Q:=λx q=>r2.at_≤q.at_∧Lu x) (λr3 d3 hn3 hq=>?_) (λs d hs=>vD d hs)).base hn2 (λx q _ k=>⟨by omega,k.2⟩)
  unfold hU iF
  rw[Option.bind_assoc]
  refine(((Jw hn3.ok).sim ho).base hn3 (Q':=λx q=>okGExpr x∧wE x≤1000000) (λx q hq k=>⟨k.2.ok,by have:=k.2.w;have:=hq.ok.a1;have:=hq.ok.ll;have:=hn3.ok.a0;omega⟩)).bnd (λx r4 hn4 ⟨o1,o2⟩=>?_) (λy s hs=>?_)
  ·dsimp only
   obtain⟨v1,v2⟩:=E8 o1 o2
   rw[if_pos (by simp[vW]),v1,v2,Option.bind_some,Option.bind_some]
   by_cases c:vB x=0
   ·rw[if_neg (by simp[c]),if_neg (by simp[c])]
    exact Sim.ret hn4 ⟨hn4.le,by rw[hq.1];exact h1,hq.2.2,o1,o2⟩
   ·rw[if_pos (by simp[c]),if_pos (by simp[c])]
    refine .inr ⟨r3.at_,vB x,rfl,hn3.ok.a0,λho=>?_⟩
    unfold bJ
    rw[if_pos (by simp[vW])]
    exact⟨_,_,rfl,rfl,by show r3.at_+(L.o:Int)=r3.at_;omega,c⟩
  ·dsimp only
   rw[if_neg (by simp[hs])];exact Fl.mk hs
 ·rw[be hs,Option.bind_some]
  exact Bc hs d (vD d hs)
abbrev zD (n:List UInt8) (t:GType) (l:List gl):eF:=⟨n,t,l,[],0,(⟨0,[],(⟨0,0⟩:GVal),(⟨0,0,0,0,0⟩:GType),(⟨0,[]⟩:GLin),[],[]⟩:GExpr)⟩
theorem rZ {s:RS} (n:List UInt8) (t:GType) (hs:s.E≠0):Fl s.Pos s.E ((aK s 0 [93]).bind λr16=>if(!r16)=true then(ia s).bind λr17=>hV (zD n t r17.1) r17.2 else hV (zD n t []) s):=by
 rw[jh hs,Option.bind_some,if_pos (by simp)]
 obtain⟨y,hy⟩:=GM hs
 rw[hy,Option.bind_some]
 exact CQ _ hs
theorem Iw (ho:L.o=0) {r:PR} (h:Rok L r):Sim L r (λx r'=>r.at_<r'.at_∧Lu x) (fh r) (nZ (St L r)):=by
 have a0:axO [] 100000:=⟨by simp,λa ha=>by cases ha⟩
 unfold fh nZ
 refine(oq h).bnd (λs r1 hn1 ⟨hs,q1⟩=>?_) (λy p hp=>?_)
 ·dsimp only
  refine((cF hn1.ok [58]).base hn1 (Q':=λq=>r.at_<q.at_) (λq hq e=>by omega)).bnd (λr2 hn2 q2=>?_) (λp hp=>?_)
  ·refine((xz hn2.ok).base hn2 (Q':=λx q=>r.at_<q.at_) (λx q hq e=>by have:=e.2;omega)).bnd (λt r3 hn3 q3=>?_) (λy p hp=>?_)
   ·dsimp only
    refine((cF hn3.ok [91]).base hn3 (Q':=λq=>r.at_<q.at_) (λq hq e=>by omega)).bnd (λr4 hn4 q4=>?_) (λp hp=>rZ s t hp)
    dsimp only
    rw[uN hn4.ok,Option.bind_some]
    have e93:aK (St L r4) 0 [93]=some (jd r4 3 [93]):=gX hn4.ok [93]
    rw[e93,Option.bind_some]
    cases c:jd r4 3 [93]with
    | true=>
     simp only[Bool.not_true,Bool.false_eq_true,if_false]
     exact(yA ho hn4.ok (zD s t []) rfl a0 a0).base hn4 (λx q _ k=>⟨by omega,k.2⟩)
    | false=>
     simp only[Bool.not_false,if_true]
     refine((Al hn4.ok).base hn4 (Q':=λx q=>r.at_<q.at_∧axO x 100000) (λx q _ k=>⟨by omega,k.2⟩)).bnd (λl r5 hn5 ⟨q5,hl⟩=>?_) (λy p hp=>CQ _ hp)
     exact(yA ho hn5.ok (zD s t l) rfl hl a0).base hn5 (λx q _ k=>⟨by omega,k.2⟩)
   ·dsimp only
    rw[be hp,Option.bind_some];exact rZ s _ hp
  ·rw[vj hp,Option.bind_some]
   dsimp only
   rw[be hp,Option.bind_some];exact rZ s _ hp
 ·dsimp only
  rw[be hp,Option.bind_some,vj hp,Option.bind_some]
  dsimp only
  rw[be hp,Option.bind_some];exact rZ y _ hp
end Go.Proofs.YtmhoikfoogemnaaGreatDoor
