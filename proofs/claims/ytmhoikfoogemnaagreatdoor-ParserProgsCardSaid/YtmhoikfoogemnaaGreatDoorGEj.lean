import Derived.Test.YtmhoikfoogemnaaGreatDoorGEh
namespace Go.Proofs.YtmhoikfoogemnaaGreatDoor
open Go Go.RowKit Go.Vc
set_option linter.unusedVariables false
set_option linter.unusedSimpArgs false
variable {L:Cx}
theorem jQ {n:Int} (h:lq n):okI .i64 n:=by
 obtain⟨h1,h2⟩:=h
 simp[okI,Lit.wf,IntKind.min,IntKind.max,IntKind.signed,IntKind.bits]
 omega
theorem yf {s:List UInt8} (h:s.length≤1000000):okS s:=by unfold okS maxLen;omega
theorem LinI.g {l:GLin} {n:Nat} (h:LinI l n) (hn:n≤1000000):okGLin l:=⟨jQ h.wf.k,λm hm=>⟨yf (by have:=(wl (h.ok.1 m hm).1).2;omega),jQ (h.wf.b m hm)⟩,by have:=h.len;omega⟩
def H4 (l:List GLin):Nat:=(l.map λf=>1+f.L.length).sum
theorem Gp (l:List GLin) (f:GLin):H4 (l++[f])=H4 l+(1+f.L.length):=by unfold H4;rw[List.map_append,List.sum_append];simp
theorem AC (l:List GLin):l.length≤H4 l:=by
 induction l with
 | nil=>simp
 | cons x l ih=>unfold H4 at ih ⊢;simp only[List.map_cons,List.sum_cons,List.length_cons];omega
theorem Jl (l:List GLin):H4 l=l.length+(l.map (·.L.length)).sum:=by
 induction l with
 | nil=>rfl
 | cons x l ih=>unfold H4 at ih ⊢;simp only[List.map_cons,List.sum_cons,List.length_cons];omega
structure FI (l:List GLin) (n:Nat):Prop where
 ok:∀ f∈l,LinI f 100000
 w:H4 l≤2 * n
theorem FI.nil (n:Nat):FI [] n:=⟨λf h=>(by cases h),by simp[H4]⟩
theorem FI.snoc {l:List GLin} {f:GLin} {n m:Nat} (h:FI l n) (hf:LinI f m) (hm:1≤m) (hm2:m≤100000):FI (l++[f]) (n+m):=⟨λg hg=>by
 rcases List.mem_append.1 hg with hg | hg
 ·exact h.ok g hg
 ·rw[List.mem_singleton.1 hg];exact hf.mono hm2,by rw[Gp];have:=h.w;have:=hf.len;omega⟩
theorem FI.mono {l:List GLin} {n m:Nat} (h:FI l n) (hm:n≤m):FI l m:=⟨h.ok,by have:=h.w;omega⟩
theorem td {p:RS} (he:p.E≠0) (g:Nat) (out:List GLin) (f:GLin):fP (g+1) out p f=some (out,p):=by
 simp only[fP]
 rw[jh he,Option.bind_some,if_neg (by simp),be he];rfl
theorem FF:∀ (F F':Nat) (a0:Int) (r:PR) (out:List GLin) (f:GLin),Rok L r→r.l.length - r.at_.toNat<F→r.l.length - r.at_.toNat<F'→0≤a0→a0≤r.at_→FI out (r.at_ - a0).toNat→
  Sim L r (λx r'=>r.at_<r'.at_∧FI x (r'.at_ - a0).toNat) (cZ F out r) (fP F' out (St L r) f):=by
 intro F
 induction F with
 | zero=>intros;omega
 | succ F ih=>
  intro F' a0 r out f h hF hF' ha0 ha1 ho
  obtain⟨F',rfl⟩:∃ g,F'=g+1:=⟨F' - 1,by omega⟩
  have h0:=h.a0
  have h1:=h.a1
  have h2:=h.ll
  have hw:=ho.w
  have hlen:=AC out
  simp only[cZ,fP]
  rw[iR h,gX h [44],Option.bind_some,Option.bind_some]
  cases c:jd r 3 [44]with
  | true=>
   have hlt:=h.is_lt c
   have hA:=Nx.adv h hlt
   simp only[if_true]
   show Sim L r _ (pb (bG (adv r)) _) ((dR (⟨L.L,au (r.at_+L.o+1),r.deep+L.o,0,0⟩:RS)).bind _)
   rw[j4 h]
   refine((rn hA.ok).base hA (Q':=λx q=>r.at_+1<q.at_∧LinI x (q.at_ - (r.at_+1)).toNat) (λx q hq hx=>hx)).bnd (λx r1 hn ⟨hlt1,hx⟩=>?_) (λy s hs=>?_)
   ·have hl1:=hn.ok.a1
    have hll:=hn.l
    rw[hll]at hl1
    dsimp only
    rw[cJ (by simp only[List.length_cons,List.length_nil];omega),Option.bind_some,Option.bind_some]
    refine(ih F' a0 r1 (out++[x]) x hn.ok (by rw[hll];omega) (by rw[hll];omega) ha0 (by omega) ((ho.snoc hx (by omega) (by omega)).mono (by omega))).base hn (λx q hq hx=>⟨by omega,hx.2⟩)
   ·dsimp only
    obtain⟨G,rfl⟩:∃ g,F'=g+1:=⟨F' - 1,by omega⟩
    rw[cJ (by simp only[List.length_cons,List.length_nil];omega),Option.bind_some,td hs]
    exact Fl.mk hs
  | false=>
   simp only[Bool.false_eq_true,if_false]
   refine((cF h [93]).base (Nx.refl h) (Q':=λq=>q.at_=r.at_+1) (λq hq e=>e)).bnd (λr1 hn e=>?_) (λs hs=>Fl.mk hs)
   dsimp only at e ⊢
   exact Sim.ret hn ⟨by omega,ho.mono (by omega)⟩
theorem qg {p:RS} (he:p.E≠0):jA p=some ([⟨0,[]⟩],p):=by
 unfold jA
 rw[jh he,Option.bind_some,if_neg (by simp),ri he,Option.bind_some,cJ (by simp),Option.bind_some]
 obtain⟨g,hg⟩:=HP
 rw[hg];exact td he g _ _
theorem Ae {r:PR} (h:Rok L r):Sim L r (λx r'=>r.at_<r'.at_∧FI x (r'.at_ - r.at_).toNat) (fE r) (jA (St L r)):=by
 unfold fE jA
 rw[iR h,gX h [93],Option.bind_some,Option.bind_some]
 have h1:=h.a1
 have h2:=h.ll
 have h0:=h.a0
 cases c:jd r 3 [93]with
 | true=>
  have hA:=Nx.adv h (h.is_lt c)
  simp only[if_true]
  show Sim L r _ (some (.ret (([]:List GLin),adv r))) (some (([]:List GLin),(⟨L.L,au (r.at_+L.o+1),r.deep+L.o,0,0⟩:RS)))
  rw[j4 h]
  exact Sim.ret hA ⟨by rw[ss];omega,FI.nil _⟩
 | false=>
  simp only[Bool.false_eq_true,if_false]
  refine(rn h).bnd (λx r1 hn ⟨hlt1,hx⟩=>?_) (λy s hs=>?_)
  ·have hl1:=hn.ok.a1
   have hll:=hn.l
   rw[hll]at hl1
   dsimp only
   rw[cJ (by simp),Option.bind_some]
   exact(FF fu fu r.at_ r1 [x] x hn.ok (by rw[hll];unfold fu;omega) (by rw[hll];unfold fu;omega) h0 (by omega) (((FI.nil 0).snoc hx (by omega) (by omega)).mono (by omega))).base hn (λx q hq hx=>⟨by omega,hx.2⟩)
  ·dsimp only
   rw[cJ (by simp),Option.bind_some]
   obtain⟨g,hg⟩:=HP
   rw[hg,td hs]
   exact Fl.mk hs
structure IxI (x:GIndex) (n:Nat):Prop where
 ok:okGIndex x
 w:wI x≤2 * n
theorem IxI.lin {f:GLin} {n:Nat} (h:LinI f n) (hn:n≤100000):IxI ⟨f,[],[]⟩ n:=⟨⟨h.g (by omega),yf (by simp),λf hf=>by(have hf':f∈([]:List GLin):=hf;cases hf'),by simp⟩,by
 have:=h.len;unfold wI;simp only[List.length_nil,List.map_nil,List.sum_nil];omega⟩
theorem IxI.gat {s:List UInt8} {l:List GLin} {n:Nat} (hs:gr s=true) (h:FI l n) (hn:n≤100000):IxI ⟨⟨0,[]⟩,s,l⟩ n:=⟨⟨(LinI.const R0 0).g (by omega),yf (s:=s) (by have:=(wl hs).2;omega),λf hf=>(h.ok f hf).g (by omega),by have:=AC l;have:=h.w;show l.length≤ _;omega⟩,by
 have:=Jl l;have:=h.w;unfold wI;simp only[List.length_nil];omega⟩
def Hq (r:PR):Bool:=CC r&&isK (vY r 1) 3 [91]
theorem Jv {r:PR} (h:Rok L r) {β:Type} (A B:Option β):((dz r).bind λr2=>
 (gd (r2&&(decide (au (r.at_+1)<(r.l.length:Int)))) (lat r.l (au (r.at_+1)))).bind λe1=>
 (gd ((r2&&(decide (au (r.at_+1)<(r.l.length:Int))))&&(decide (e1.Kind=3))) (lat r.l (au (r.at_+1)))).bind λe2=>
 if !(((r2&&(decide (au (r.at_+1)<(r.l.length:Int))))&&(decide (e1.Kind=3)))&&(decide (e2.Text=([91]:List UInt8))))then A else B)=if Hq r=true then B else A:=by
 have h0:=h.a0
 rw[ye h,Option.bind_some,h.wi1]
 unfold Hq
 cases CC r with
 | false=>simp[gd]
 | true=>
  by_cases c:r.at_+1<r.l.length
  ·obtain⟨t,ht⟩:=cC (l:=r.l) (i:=r.at_.toNat+1) (by omega)
   have e1:lat r.l (r.at_+1)=some t:=by unfold lat;rw[if_pos (by omega),show(r.at_+1).toNat=r.at_.toNat+1 by omega];exact ht
   have e2:vY r 1=some t:=ht
   rw[e1,e2,decide_eq_true c]
   by_cases k:t.Kind=3
   ·by_cases k2:t.Text=[91]<;>simp[gd,k,k2,isK]
   ·simp[gd,k,isK]
  ·have e2:vY r 1=none:=List.getElem?_eq_none (by omega)
   rw[e2,decide_eq_false c]
   simp[gd,isK]
theorem Ad {r:PR} (h:Rok L r):Sim L r (λx r'=>r.at_<r'.at_∧IxI x (r'.at_ - r.at_).toNat) (db r) (gZ (St L r)):=by
 have h1:=h.a1
 have h2:=h.ll
 have h0:=h.a0
 unfold db gZ
 rw[Jv h,AM h,Option.bind_some]
 have e1:gd (CC r) (aK (St L r) 1 [91])=some (if CC r=true then isK (vY r 1) 3 [91]else false):=by
  rw[IR h (by simp) (by simp)]
  show gd (CC r) (some (isK (vY r 1) 3 [91]))=_
  unfold gd;cases CC r<;>rfl
 rw[e1,Option.bind_some]
 have e2:(CC r&&if CC r=true then isK (vY r 1) 3 [91]else false)=Hq r:=by unfold Hq;cases CC r<;>rfl
 rw[e2]
 cases c:Hq r with
 | true=>
  simp only[if_true]
  refine(oq h).bnd (λs r1 hn1 ⟨hs,q1⟩=>?_) (λy s hs=>?_)
  ·dsimp only
   refine((cF hn1.ok [91]).base hn1 (Q':=λq=>r.at_<q.at_) (λq hq e=>by omega)).bnd (λr2 hn2 q2=>?_) (λs hs=>?_)
   ·refine((Ae hn2.ok).base hn2 (Q':=λx q=>r.at_<q.at_∧FI x (q.at_ - r.at_).toNat) (λx q hq hx=>⟨by omega,hx.2.mono (by omega)⟩)).bnd (λl r3 hn3 ⟨q3,hx⟩=>?_) (λy s hs=>Fl.mk hs)
    have hl1:=hn3.ok.a1
    rw[hn3.l]at hl1
    dsimp only
    exact Sim.ret hn3 ⟨q3,IxI.gat hs hx (by omega)⟩
   ·rw[qg hs];exact Fl.mk hs
  ·dsimp only
   rw[be hs,Option.bind_some,qg hs];exact Fl.mk hs
 | false=>
  simp only[Bool.false_eq_true,if_false]
  refine(rn h).bnd (λx r1 hn ⟨hlt1,hx⟩=>?_) (λy s hs=>Fl.mk hs)
  have hl1:=hn.ok.a1
  rw[hn.l]at hl1
  dsimp only
  exact Sim.ret hn ⟨hlt1,IxI.lin hx (by omega)⟩
theorem Ff {p:RS} (he:p.E≠0):∃ y,gZ p=some (y,p):=by
 unfold gZ
 rw[wd he,Option.bind_some]
 show ∃ y,(some false).bind _ =_
 rw[Option.bind_some,if_neg (by simp),ri he,Option.bind_some];exact⟨_,rfl⟩
end Go.Proofs.YtmhoikfoogemnaaGreatDoor
namespace Go.Proofs.YtmhoikfoogemnaaGreatDoor
open Go Go.RowKit Go.Vc
set_option linter.unusedVariables false
set_option linter.unusedSimpArgs false
variable {L:Cx}
def SimR {α:Type} (L:Cx) (r:PR) (Q:α→PR→Prop) (m:Option (bL (α×PR))) (m':Option (α×RS)):Prop:=
 (∃ x r',m=some (.ret (x,r'))∧(m'=some (x,St L r')∨(L.o=1∧∃ y s,m'=some (y,s)∧s.E=13))∧Nx L r r'∧Q x r')∨∃ a e,m=some (.pan a e)∧0≤a∧(L.o=0→Fl a e m')
theorem Sim.r {α:Type} {r:PR} {Q:α→PR→Prop} {m:Option (bL (α×PR))} {m':Option (α×RS)} (h:Sim L r Q m m'):SimR L r Q m m':=by
 rcases h with⟨x,r',h1,h2,h3,h4⟩ | h
 ·exact .inl ⟨x,r',h1,.inl h2,h3,h4⟩
 ·exact .inr h
theorem SimR.ret {α:Type} {r r':PR} {Q:α→PR→Prop} {x:α} (h:Nx L r r') (hq:Q x r'):SimR L r Q (some (.ret (x,r'))) (some (x,St L r')):= .inl ⟨x,r',rfl,.inl rfl,h,hq⟩
theorem SimR.bnd {α β:Type} {r1 r:PR} {Q:α→PR→Prop} {Q2:β→PR→Prop} {m:Option (bL (α×PR))} {m':Option (α×RS)} {f:α×PR→Option (bL (β×PR))} {g:α×RS→Option (β×RS)} (h:SimR L r1 Q m m')
  (h1:∀ x r',Nx L r1 r'→Q x r'→SimR L r Q2 (f (x,r')) (g (x,St L r'))) (h2:∀ y s,s.E≠0→Fl s.Pos s.E (g (y,s))):SimR L r Q2 (pb m f) (m'.bind g):=by
 rcases h with⟨x,r',rfl,hm,hn,hq⟩ | ⟨a,e,rfl,h0,h⟩
 ·have k:=h1 x r' hn hq
  rcases hm with rfl | ⟨ho,y,s,rfl,hs⟩
  ·exact k
  ·rcases k with⟨z,q,e1,_,e3,e4⟩ | ⟨a,e,e1,h9,_⟩
   ·obtain⟨y',s',g1,g2,_⟩:=h2 y s (by rw[hs];decide)
    exact .inl ⟨z,q,e1,.inr ⟨ho,y',s',g1,g2.trans hs⟩,e3,e4⟩
   ·exact .inr ⟨a,e,e1,h9,λh=>by omega⟩
 ·refine .inr ⟨_,_,rfl,h0,λho=>?_⟩
  obtain⟨y,s,rfl,rfl,rfl,he⟩:=h ho
  exact h2 y s he
theorem SimR.base {α:Type} {r r':PR} {Q Q':α→PR→Prop} {m:Option (bL (α×PR))} {m':Option (α×RS)} (h:SimR L r' Q m m') (hn:Nx L r r') (hq:∀ x q,Nx L r' q→Q x q→Q' x q):SimR L r Q' m m':=by
 rcases h with⟨x,q,h1,h2,h3,h4⟩ | h
 ·exact .inl ⟨x,q,h1,h2,hn.trans h3,hq x q h3 h4⟩
 ·exact .inr h
theorem SimR.weak {α:Type} {r:PR} {Q Q':α→PR→Prop} {m:Option (bL (α×PR))} {m':Option (α×RS)} (h:SimR L r Q m m') (hq:∀ x q,Q x q→Q' x q):SimR L r Q' m m':=by
 rcases h with⟨x,q,h1,h2,h3,h4⟩ | h
 ·exact .inl ⟨x,q,h1,h2,h3,hq x q h4⟩
 ·exact .inr h
def SimP (L:Cx) (Q:PR→Prop) (m:Option (bL (Unit×PR))) (m':Option RS):Prop:=
 (∃ r',m=some (.ret ((),r'))∧(m'=some (St L r')∨(L.o=1∧∃ s,m'=some s∧s.E=13))∧Rok L r'∧Q r')∨∃ a e,m=some (.pan a e)∧0≤a∧(L.o=0→∃ s,m'=some s∧s.E=e∧s.Pos=a∧e≠0)
theorem SimS.p {r:PR} {Q:PR→Prop} {m:Option (bL (Unit×PR))} {m':Option RS} (h:SimS L r Q m m'):SimP L (λq=>Nx L r q∧Q q) m m':=by
 rcases h with⟨r',h1,h2,h3,h4⟩ | h
 ·exact .inl ⟨r',h1,.inl h2,h3.ok,h3,h4⟩
 ·exact .inr h
theorem SimP.bnd {β:Type} {r:PR} {Q:PR→Prop} {Q2:β→PR→Prop} {m:Option (bL (Unit×PR))} {m':Option RS} {f:Unit×PR→Option (bL (β×PR))} {g:RS→Option (β×RS)} (h:SimP L Q m m')
  (h1:∀ r',Rok L r'→Q r'→SimR L r Q2 (f ((),r')) (g (St L r'))) (h2:∀ s,s.E≠0→Fl s.Pos s.E (g s)):SimR L r Q2 (pb m f) (m'.bind g):=by
 rcases h with⟨r',rfl,hm,hn,hq⟩ | ⟨a,e,rfl,h0,h⟩
 ·have k:=h1 r' hn hq
  rcases hm with rfl | ⟨ho,s,rfl,hs⟩
  ·exact k
  ·rcases k with⟨z,q,e1,_,e3,e4⟩ | ⟨a,e,e1,h9,_⟩
   ·obtain⟨y',s',g1,g2,_⟩:=h2 s (by rw[hs];decide)
    exact .inl ⟨z,q,e1,.inr ⟨ho,y',s',g1,g2.trans hs⟩,e3,e4⟩
   ·exact .inr ⟨a,e,e1,h9,λh=>by omega⟩
 ·refine .inr ⟨_,_,rfl,h0,λho=>?_⟩
  obtain⟨s,rfl,rfl,rfl,he⟩:=h ho
  exact h2 s he
theorem vm {α β γ:Type} (m:Option (bL α)) (f:α→Option (bL β)) (g:β→Option (bL γ)):pb (pb m f) g=pb m λx=>pb (f x) g:=by
 cases m with
 | none=>rfl
 | some p=>cases p<;>rfl
theorem ut {α:Type} (m:Option (bL (α×PR))):(pb m λ(x:α×PR)=>match x with | (a,s)=>some (.ret (a,s)))=m:=by
 cases m with
 | none=>rfl
 | some p=>cases p<;>rfl
def inn (r:PR):PR:=⟨r.l,r.at_+1,r.deep+1⟩
def aN (r:PR):PR:=⟨r.l,r.at_,r.deep - 1⟩
theorem Rok.inn {r:PR} (h:Rok L r) (hl:r.at_<r.l.length) (hd:r.deep≤159):Rok L (inn r):=⟨h.sm,by show 0≤r.at_+1;have:=h.a0;omega,by show r.at_+1≤ _;exact hl,h.ll,h.tl,by show 0≤r.deep+1;have:=h.d0;omega,by show r.deep+1≤160;omega⟩
theorem tY {r:PR} (h:Rok L r) (hl:r.at_<r.l.length):SimP L (λq=>q=inn r∧r.deep≤159) (ce r) (gt (St L r)):=by
 have h0:=h.a0;have h1:=h.a1;have h2:=h.ll;have d0:=h.d0;have d1:=h.d1;have ho:=h.o1
 unfold ce fH gt
 have eb:(decide ((St L r).E=0)&&decide (160≤(St L r).Deep))=decide (160≤r.deep+(L.o:Int)):=by rw[vW,ID];simp
 rw[eb]
 by_cases c:159<r.deep
 ·rw[if_pos (by simpa using c)]
  refine .inr ⟨r.at_,13,rfl,h.a0,λo0=>?_⟩
  rw[if_pos (decide_eq_true (by omega))]
  unfold bJ
  rw[if_pos (by simp[vW])]
  exact⟨_,rfl,rfl,by show r.at_+(L.o:Int)=r.at_;omega,by omega⟩
 ·rw[if_neg (by simpa using c),h.wi1,wi (p:=r.deep+1) ⟨by omega,by omega⟩]
  refine .inl ⟨inn r,rfl,?_,h.inn hl (by omega),rfl,by omega⟩
  by_cases c2:160≤r.deep+(L.o:Int)
  ·right
   refine⟨by omega,?_⟩
   rw[if_pos (decide_eq_true c2)]
   unfold bJ
   rw[if_pos (by simp[vW])]
   exact⟨_,rfl,rfl⟩
  ·left
   rw[if_neg (by simpa using c2)]
   show some (⟨L.L,au (r.at_+L.o+1),au (r.deep+L.o+1),0,0⟩:RS)=some ⟨L.L,r.at_+1+L.o,r.deep+1+L.o,0,0⟩
   rw[wi ⟨by omega,by omega⟩,wi ⟨by omega,by omega⟩,show r.at_+(L.o:Int)+1=r.at_+1+L.o by omega,show r.deep+(L.o:Int)+1=r.deep+1+L.o by omega]
theorem CT {q:PR} (h:Rok L q):au (q.deep - 1)=q.deep - 1:=by have:=h.d0;have:=h.d1;exact wi ⟨by omega,by omega⟩
theorem wr {β:Type} {r q:PR} {Q2:β→PR→Prop} {f:Unit×PR→Option (bL (β×PR))} {g:RS→Option (β×RS)} (h:Rok L r) (hq:Rok L q) (hl:q.l=r.l) (hd:q.deep=r.deep+1) (ha:r.at_≤q.at_)
  (h1:Nx L r ⟨q.l,q.at_+1,r.deep⟩→SimR L r Q2 (f ((),⟨q.l,q.at_+1,r.deep⟩)) (g (St L ⟨q.l,q.at_+1,r.deep+1⟩))) (h2:∀ s,s.E≠0→Fl s.Pos s.E (g s)):SimR L r Q2 (pb (d6 q) f) ((az (St L q) [41]).bind g):=by
 unfold d6
 rw[vm]
 refine(cF hq [41]).p.bnd (λr' hr ⟨hn,e⟩=>?_) h2
 have e1:(⟨r'.l,r'.at_,au (r'.deep - 1)⟩:PR)=⟨q.l,q.at_+1,r.deep⟩:=by
  rw[CT hr,hn.l,e,hn.d,hd,show r.deep+1 - 1=r.deep by omega]
 have e2:r'=⟨q.l,q.at_+1,r.deep+1⟩:=by
  have:=hn.l;have:=hn.d
  cases r';simp only[aa.mk.injEq]at *;exact⟨by assumption,e,by omega⟩
 have k:=h1 ⟨⟨by rw[hl];exact h.sm,by show 0≤q.at_+1;have:=h.a0;omega,by have:=hr.a1;rw[e,hn.l]at this;exact this,by rw[hl];exact h.ll,by rw[hl];exact h.tl,h.d0,h.d1⟩,hl,rfl,by show r.at_≤q.at_+1;omega⟩
 show SimR L r Q2 (f ((),⟨r'.l,r'.at_,au (r'.deep - 1)⟩)) (g (St L r'))
 rw[e1,e2];exact k
theorem Fl.mk' {β:Type} {y:β} {s s':RS} (h:s.E≠0) (h1:s'.E=s.E) (h2:s'.Pos=s.Pos):Fl s.Pos s.E (some (y,s')):=⟨y,s',rfl,h1,h2,h⟩
structure XW (x:GExpr) (n:Nat):Prop where
 ok:okGExpr x
 w:wE x≤3 * n
theorem XW.mono {x:GExpr} {n m:Nat} (h:XW x n) (hm:n≤m):XW x m:=⟨h.ok,by have:=h.w;omega⟩
abbrev XI (r:PR) (x:GExpr) (r':PR):Prop:=r.at_<r'.at_∧XW x (r'.at_ - r.at_).toNat
abbrev zV:GVal:=⟨0,0⟩
abbrev zT:GType:=⟨0,0,0,0,0⟩
abbrev zL:GLin:=⟨0,[]⟩
theorem Fp:okGVal zV:=⟨jQ R0,jQ R0⟩
theorem G4:okGType zT:=⟨jQ R0,jQ R0,jQ R0,jQ R0,jQ R0⟩
theorem Fs:okGLin zL:=(LinI.const R0 0).g (by omega)
theorem Fq:okS []:=yf (by simp)
theorem sC {α:Type} {ok:α→Prop} :okW ok []:=⟨λx h=>(by cases h),by simp⟩
theorem G3 {t:GType} (h:tR t=true):okGType t:=by
 have hb:(0≤t.Kind∧t.Kind≤3)∧(0≤t.Bits∧t.Bits≤31)∧(0≤t.Frac∧t.Frac≤30)∧(0≤t.Round∧t.Round≤4)∧(0≤t.Over∧t.Over≤2):=by
  unfold tR at h
  split at h<;>simp only[decide_eq_true_eq]at h<;>omega
 refine⟨jQ ?_,jQ ?_,jQ ?_,jQ ?_,jQ ?_⟩<;>constructor<;>omega
theorem J9 {op:Int} {s:List UInt8} {v:GVal} {t:GType} {f:GLin} {ix:List GIndex} {args:List GExpr} (h0:0≤op∧op≤1000) (h1:okS s) (h2:okGVal v) (h3:okGType t) (h4:okGLin f) (h5:okW okGIndex ix) (h6:okW okGExpr args):okGExpr ⟨op,s,v,t,f,ix,args⟩:=
 okGExpr_iff.2 ⟨jQ (n:=op) ⟨by omega,by omega⟩,h1,h2,h3,h4,h5,h6⟩
theorem sZ (op:Int) (s:List UInt8) (v:GVal) (t:GType) (f:GLin) (ix:List GIndex) (args:List GExpr):wE ⟨op,s,v,t,f,ix,args⟩=1+f.L.length+ix.length+(ix.map wI).sum+(args.map wE).sum:=B3 _
end Go.Proofs.YtmhoikfoogemnaaGreatDoor
