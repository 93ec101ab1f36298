import Derived.Test.YtmhoikfoogemnaaGreatDoorKEh
namespace Go.Proofs.YtmhoikfoogemnaaGreatDoor
open Go Go.RowKit Go.Vc
set_option linter.unusedVariables false
set_option linter.unusedSimpArgs false
variable {L:Cx}
theorem jj {n:Int} (h:kB n):okI .i64 n:=by
 obtain⟨h1,h2⟩:=h
 simp[okI,Lit.wf,IntKind.min,IntKind.max,IntKind.signed,IntKind.bits]
 omega
theorem vX {s:List UInt8} (h:s.length≤1000000):okS s:=by unfold okS maxLen;omega
theorem LinI.g {l:GLin} {n:Nat} (h:LinI l n) (hn:n≤1000000):okGLin l:=⟨jj h.wf.k,fun m hm=>⟨vX (by have:=(tK (h.ok.1 m hm).1).2;omega),jj (h.wf.b m hm)⟩,by have:=h.len;omega⟩
def E8 (l:List GLin):Nat:=(l.map fun f=>1+f.L.length).sum
theorem Dz (l:List GLin) (f:GLin):E8 (l++[f])=E8 l+(1+f.L.length):=by unfold E8;rw[List.map_append,List.sum_append];simp
theorem BK (l:List GLin):l.length≤E8 l:=by
 induction l with
 | nil=>simp
 | cons x l ih=>unfold E8 at ih ⊢;simp only[List.map_cons,List.sum_cons,List.length_cons];omega
theorem Gv (l:List GLin):E8 l=l.length+(l.map (·.L.length)).sum:=by
 induction l with
 | nil=>rfl
 | cons x l ih=>unfold E8 at ih ⊢;simp only[List.map_cons,List.sum_cons,List.length_cons];omega
structure FI (l:List GLin) (n:Nat):Prop where
 ok:∀ f∈l,LinI f 100000
 w:E8 l≤2 * n
theorem FI.nil (n:Nat):FI [] n:=⟨fun f h=>(by cases h),by simp[E8]⟩
theorem FI.snoc {l:List GLin} {f:GLin} {n m:Nat} (h:FI l n) (hf:LinI f m) (hm:1≤m) (hm2:m≤100000):FI (l++[f]) (n+m):=⟨fun g hg=>by
 rcases List.mem_append.1 hg with hg | hg
 ·exact h.ok g hg
 ·rw[List.mem_singleton.1 hg];exact hf.mono hm2,by rw[Dz];have:=h.w;have:=hf.len;omega⟩
theorem FI.mono {l:List GLin} {n m:Nat} (h:FI l n) (hm:n≤m):FI l m:=⟨h.ok,by have:=h.w;omega⟩
theorem qI {p:RS} (he:p.E≠0) (g:Nat) (out:List GLin) (f:GLin):eZ (g+1) out p f=some (out,p):=by
 simp only[eZ]
 rw[jV he,Option.bind_some,if_neg (by simp),bF he];rfl
theorem CO:∀ (F F':Nat) (a0:Int) (r:PR) (out:List GLin) (f:GLin),Rok L r→r.l.length - r.at_.toNat<F→r.l.length - r.at_.toNat<F'→0≤a0→a0≤r.at_→FI out (r.at_ - a0).toNat→
  Sim L r (fun x r'=>r.at_<r'.at_∧FI x (r'.at_ - a0).toNat) (cC F out r) (eZ F' out (St L r) f):=by
 intro F
 induction F with
 | zero=>intros;omega
 | succ F ih=>
  intro F' a0 r out f h hF hF' ha0 ha1 ho
  obtain⟨F',rfl⟩:∃ g,F'=g+1:=⟨F' - 1,by omega⟩
  have h0:=h.a0
  have h1:=h.a1
  have h2:=h.ll
  have hw:=ho.w
  have hlen:=BK out
  simp only[cC,eZ]
  rw[j7 h,ic h [44],Option.bind_some,Option.bind_some]
  cases c:ly r 3 [44]with
  | true=>
   have hlt:=h.is_lt c
   have hA:=Nx.adv h hlt
   simp only[if_true]
   show Sim L r _ (pb (bH (adv r)) _) ((fN (⟨L.L,ar (r.at_+L.o+1),r.deep+L.o,0,0⟩:RS)).bind _)
   rw[kL h]
   refine((sV hA.ok).base hA (Q':=fun x q=>r.at_+1<q.at_∧LinI x (q.at_ - (r.at_+1)).toNat) (fun x q hq hx=>hx)).bnd (fun x r1 hn ⟨hlt1,hx⟩=> ?_) (fun y s hs=> ?_)
   ·have hl1:=hn.ok.a1
    have hll:=hn.l
    rw[hll]at hl1
    dsimp only
    rw[eE (by simp only[List.length_cons,List.length_nil];omega),Option.bind_some,Option.bind_some]
    refine(ih F' a0 r1 (out++[x]) x hn.ok (by rw[hll];omega) (by rw[hll];omega) ha0 (by omega) ((ho.snoc hx (by omega) (by omega)).mono (by omega))).base hn (fun x q hq hx=>⟨by omega,hx.2⟩)
   ·dsimp only
    obtain⟨G,rfl⟩:∃ g,F'=g+1:=⟨F' - 1,by omega⟩
    rw[eE (by simp only[List.length_cons,List.length_nil];omega),Option.bind_some,qI hs]
    exact Fl.mk hs
  | false=>
   simp only[Bool.false_eq_true,if_false]
   refine((fT h [93]).base (Nx.refl h) (Q':=fun q=>q.at_=r.at_+1) (fun q hq e=>e)).bnd (fun r1 hn e=> ?_) (fun s hs=>Fl.mk hs)
   dsimp only at e ⊢
   exact Sim.ret hn ⟨by omega,ho.mono (by omega)⟩
theorem xR {p:RS} (he:p.E≠0):jW p=some ([⟨0,[]⟩],p):=by
 unfold jW
 rw[jV he,Option.bind_some,if_neg (by simp),zR he,Option.bind_some,eE (by simp),Option.bind_some]
 obtain⟨g,hg⟩:=Ge
 rw[hg];exact qI he g _ _
theorem CN {r:PR} (h:Rok L r):Sim L r (fun x r'=>r.at_<r'.at_∧FI x (r'.at_ - r.at_).toNat) (fZ r) (jW (St L r)):=by
 unfold fZ jW
 rw[j7 h,ic h [93],Option.bind_some,Option.bind_some]
 have h1:=h.a1
 have h2:=h.ll
 have h0:=h.a0
 cases c:ly r 3 [93]with
 | true=>
  have hA:=Nx.adv h (h.is_lt c)
  simp only[if_true]
  show Sim L r _ (some (.ret (([]:List GLin),adv r))) (some (([]:List GLin),(⟨L.L,ar (r.at_+L.o+1),r.deep+L.o,0,0⟩:RS)))
  rw[kL h]
  exact Sim.ret hA ⟨by rw[qm];omega,FI.nil _⟩
 | false=>
  simp only[Bool.false_eq_true,if_false]
  refine(sV h).bnd (fun x r1 hn ⟨hlt1,hx⟩=> ?_) (fun y s hs=> ?_)
  ·have hl1:=hn.ok.a1
   have hll:=hn.l
   rw[hll]at hl1
   dsimp only
   rw[eE (by simp),Option.bind_some]
   exact(CO fu fu r.at_ r1 [x] x hn.ok (by rw[hll];unfold fu;omega) (by rw[hll];unfold fu;omega) h0 (by omega) (((FI.nil 0).snoc hx (by omega) (by omega)).mono (by omega))).base hn (fun x q hq hx=>⟨by omega,hx.2⟩)
  ·dsimp only
   rw[eE (by simp),Option.bind_some]
   obtain⟨g,hg⟩:=Ge
   rw[hg,qI hs]
   exact Fl.mk hs
structure IxI (x:GIndex) (n:Nat):Prop where
 ok:okGIndex x
 w:wI x≤2 * n
theorem IxI.lin {f:GLin} {n:Nat} (h:LinI f n) (hn:n≤100000):IxI ⟨f,[],[]⟩ n:=⟨⟨h.g (by omega),vX (by simp),fun f hf=>by(have hf':f∈([]:List GLin):=hf;cases hf'),by simp⟩,by
 have:=h.len;unfold wI;simp only[List.length_nil,List.map_nil,List.sum_nil];omega⟩
theorem IxI.gat {s:List UInt8} {l:List GLin} {n:Nat} (hs:fE s=true) (h:FI l n) (hn:n≤100000):IxI ⟨⟨0,[]⟩,s,l⟩ n:=⟨⟨(LinI.const R0 0).g (by omega),vX (s:=s) (by have:=(tK hs).2;omega),fun f hf=>(h.ok f hf).g (by omega),by have:=BK l;have:=h.w;show l.length≤ _;omega⟩,by
 have:=Gv l;have:=h.w;unfold wI;simp only[List.length_nil];omega⟩
def Er (r:PR):Bool:=Ac r&&isK (uZ r 1) 3 [91]
theorem GG {r:PR} (h:Rok L r) {β:Type} (A B:Option β):((cX r).bind fun r2=>
 (gd (r2&&(decide (ar (r.at_+1)<(r.l.length:Int)))) (lat r.l (ar (r.at_+1)))).bind fun e1=>
 (gd ((r2&&(decide (ar (r.at_+1)<(r.l.length:Int))))&&(decide (e1.Kind=3))) (lat r.l (ar (r.at_+1)))).bind fun e2=>
 if !(((r2&&(decide (ar (r.at_+1)<(r.l.length:Int))))&&(decide (e1.Kind=3)))&&(decide (e2.Text=([91]:List UInt8))))then A else B)=if Er r=true then B else A:=by
 have h0:=h.a0
 rw[vQ h,Option.bind_some,h.wi1]
 unfold Er
 cases Ac r with
 | false=>simp[gd]
 | true=>
  by_cases c:r.at_+1<r.l.length
  ·obtain⟨t,ht⟩:=cx (l:=r.l) (i:=r.at_.toNat+1) (by omega)
   have e1:lat r.l (r.at_+1)=some t:=by unfold lat;rw[if_pos (by omega),show(r.at_+1).toNat=r.at_.toNat+1 by omega];exact ht
   have e2:uZ r 1=some t:=ht
   rw[e1,e2,decide_eq_true c]
   by_cases k:t.Kind=3
   ·by_cases k2:t.Text=[91]<;>simp[gd,k,k2,isK]
   ·simp[gd,k,isK]
  ·have e2:uZ r 1=none:=List.getElem?_eq_none (by omega)
   rw[e2,decide_eq_false c]
   simp[gd,isK]
theorem xV {r:PR} (h:Rok L r):Sim L r (fun x r'=>r.at_<r'.at_∧IxI x (r'.at_ - r.at_).toNat) (cK r) (gp (St L r)):=by
 have h1:=h.a1
 have h2:=h.ll
 have h0:=h.a0
 unfold cK gp
 rw[GG h,yp h,Option.bind_some]
 have e1:gd (Ac r) (aL (St L r) 1 [91])=some (if Ac r=true then isK (uZ r 1) 3 [91]else false):=by
  rw[H2 h (by simp) (by simp)]
  show gd (Ac r) (some (isK (uZ r 1) 3 [91]))=_
  unfold gd;cases Ac r<;>rfl
 rw[e1,Option.bind_some]
 have e2:(Ac r&&if Ac r=true then isK (uZ r 1) 3 [91]else false)=Er r:=by unfold Er;cases Ac r<;>rfl
 rw[e2]
 cases c:Er r with
 | true=>
  simp only[if_true]
  refine(sQ h).bnd (fun s r1 hn1 ⟨hs,q1⟩=> ?_) (fun y s hs=> ?_)
  ·dsimp only
   refine((fT hn1.ok [91]).base hn1 (Q':=fun q=>r.at_<q.at_) (fun q hq e=>by omega)).bnd (fun r2 hn2 q2=> ?_) (fun s hs=> ?_)
   ·refine((CN hn2.ok).base hn2 (Q':=fun x q=>r.at_<q.at_∧FI x (q.at_ - r.at_).toNat) (fun x q hq hx=>⟨by omega,hx.2.mono (by omega)⟩)).bnd (fun l r3 hn3 ⟨q3,hx⟩=> ?_) (fun y s hs=>Fl.mk hs)
    have hl1:=hn3.ok.a1
    rw[hn3.l]at hl1
    dsimp only
    exact Sim.ret hn3 ⟨q3,IxI.gat hs hx (by omega)⟩
   ·rw[xR hs];exact Fl.mk hs
  ·dsimp only
   rw[bF hs,Option.bind_some,xR hs];exact Fl.mk hs
 | false=>
  simp only[Bool.false_eq_true,if_false]
  refine(sV h).bnd (fun x r1 hn ⟨hlt1,hx⟩=> ?_) (fun y s hs=>Fl.mk hs)
  have hl1:=hn.ok.a1
  rw[hn.l]at hl1
  dsimp only
  exact Sim.ret hn ⟨hlt1,IxI.lin hx (by omega)⟩
theorem Ct {p:RS} (he:p.E≠0):∃ y,gp p=some (y,p):=by
 unfold gp
 rw[tG he,Option.bind_some]
 show ∃ y,(some false).bind _ =_
 rw[Option.bind_some,if_neg (by simp),zR he,Option.bind_some];exact⟨_,rfl⟩
end Go.Proofs.YtmhoikfoogemnaaGreatDoor
namespace Go.Proofs.YtmhoikfoogemnaaGreatDoor
open Go Go.RowKit Go.Vc
set_option linter.unusedVariables false
set_option linter.unusedSimpArgs false
variable {L:Cx}
def SimR {α:Type} (L:Cx) (r:PR) (Q:α→PR→Prop) (m:Option (bz (α×PR))) (m':Option (α×RS)):Prop:=
 (∃ x r',m=some (.ret (x,r'))∧(m'=some (x,St L r')∨(L.o=1∧∃ y s,m'=some (y,s)∧s.E=13))∧Nx L r r'∧Q x r')∨∃ a e,m=some (.pan a e)∧0≤a∧(L.o=0→Fl a e m')
theorem Sim.r {α:Type} {r:PR} {Q:α→PR→Prop} {m:Option (bz (α×PR))} {m':Option (α×RS)} (h:Sim L r Q m m'):SimR L r Q m m':=by
 rcases h with⟨x,r',h1,h2,h3,h4⟩ | h
 ·exact .inl ⟨x,r',h1,.inl h2,h3,h4⟩
 ·exact .inr h
theorem SimR.ret {α:Type} {r r':PR} {Q:α→PR→Prop} {x:α} (h:Nx L r r') (hq:Q x r'):SimR L r Q (some (.ret (x,r'))) (some (x,St L r')):= .inl ⟨x,r',rfl,.inl rfl,h,hq⟩
theorem SimR.bnd {α β:Type} {r1 r:PR} {Q:α→PR→Prop} {Q2:β→PR→Prop} {m:Option (bz (α×PR))} {m':Option (α×RS)} {f:α×PR→Option (bz (β×PR))} {g:α×RS→Option (β×RS)} (h:SimR L r1 Q m m')
  (h1:∀ x r',Nx L r1 r'→Q x r'→SimR L r Q2 (f (x,r')) (g (x,St L r'))) (h2:∀ y s,s.E≠0→Fl s.Pos s.E (g (y,s))):SimR L r Q2 (pb m f) (m'.bind g):=by
 rcases h with⟨x,r',rfl,hm,hn,hq⟩ | ⟨a,e,rfl,h0,h⟩
 ·have k:=h1 x r' hn hq
  rcases hm with rfl | ⟨ho,y,s,rfl,hs⟩
  ·exact k
  ·rcases k with⟨z,q,e1,_,e3,e4⟩ | ⟨a,e,e1,h9,_⟩
   ·obtain⟨y',s',g1,g2,_⟩:=h2 y s (by rw[hs];decide)
    exact .inl ⟨z,q,e1,.inr ⟨ho,y',s',g1,g2.trans hs⟩,e3,e4⟩
   ·exact .inr ⟨a,e,e1,h9,fun h=>by omega⟩
 ·refine .inr ⟨_,_,rfl,h0,fun ho=> ?_⟩
  obtain⟨y,s,rfl,rfl,rfl,he⟩:=h ho
  exact h2 y s he
theorem SimR.base {α:Type} {r r':PR} {Q Q':α→PR→Prop} {m:Option (bz (α×PR))} {m':Option (α×RS)} (h:SimR L r' Q m m') (hn:Nx L r r') (hq:∀ x q,Nx L r' q→Q x q→Q' x q):SimR L r Q' m m':=by
 rcases h with⟨x,q,h1,h2,h3,h4⟩ | h
 ·exact .inl ⟨x,q,h1,h2,hn.trans h3,hq x q h3 h4⟩
 ·exact .inr h
theorem SimR.weak {α:Type} {r:PR} {Q Q':α→PR→Prop} {m:Option (bz (α×PR))} {m':Option (α×RS)} (h:SimR L r Q m m') (hq:∀ x q,Q x q→Q' x q):SimR L r Q' m m':=by
 rcases h with⟨x,q,h1,h2,h3,h4⟩ | h
 ·exact .inl ⟨x,q,h1,h2,h3,hq x q h4⟩
 ·exact .inr h
def SimP (L:Cx) (Q:PR→Prop) (m:Option (bz (Unit×PR))) (m':Option RS):Prop:=
 (∃ r',m=some (.ret ((),r'))∧(m'=some (St L r')∨(L.o=1∧∃ s,m'=some s∧s.E=13))∧Rok L r'∧Q r')∨∃ a e,m=some (.pan a e)∧0≤a∧(L.o=0→∃ s,m'=some s∧s.E=e∧s.Pos=a∧e≠0)
theorem SimS.p {r:PR} {Q:PR→Prop} {m:Option (bz (Unit×PR))} {m':Option RS} (h:SimS L r Q m m'):SimP L (fun q=>Nx L r q∧Q q) m m':=by
 rcases h with⟨r',h1,h2,h3,h4⟩ | h
 ·exact .inl ⟨r',h1,.inl h2,h3.ok,h3,h4⟩
 ·exact .inr h
theorem SimP.bnd {β:Type} {r:PR} {Q:PR→Prop} {Q2:β→PR→Prop} {m:Option (bz (Unit×PR))} {m':Option RS} {f:Unit×PR→Option (bz (β×PR))} {g:RS→Option (β×RS)} (h:SimP L Q m m')
  (h1:∀ r',Rok L r'→Q r'→SimR L r Q2 (f ((),r')) (g (St L r'))) (h2:∀ s,s.E≠0→Fl s.Pos s.E (g s)):SimR L r Q2 (pb m f) (m'.bind g):=by
 rcases h with⟨r',rfl,hm,hn,hq⟩ | ⟨a,e,rfl,h0,h⟩
 ·have k:=h1 r' hn hq
  rcases hm with rfl | ⟨ho,s,rfl,hs⟩
  ·exact k
  ·rcases k with⟨z,q,e1,_,e3,e4⟩ | ⟨a,e,e1,h9,_⟩
   ·obtain⟨y',s',g1,g2,_⟩:=h2 s (by rw[hs];decide)
    exact .inl ⟨z,q,e1,.inr ⟨ho,y',s',g1,g2.trans hs⟩,e3,e4⟩
   ·exact .inr ⟨a,e,e1,h9,fun h=>by omega⟩
 ·refine .inr ⟨_,_,rfl,h0,fun ho=> ?_⟩
  obtain⟨s,rfl,rfl,rfl,he⟩:=h ho
  exact h2 s he
theorem DY {α β γ:Type} (m:Option (bz α)) (f:α→Option (bz β)) (g:β→Option (bz γ)):pb (pb m f) g=pb m fun x=>pb (f x) g:=by
 cases m with
 | none=>rfl
 | some p=>cases p<;>rfl
theorem rK {α:Type} (m:Option (bz (α×PR))):(pb m fun(x:α×PR)=>match x with | (a,s)=>some (.ret (a,s)))=m:=by
 cases m with
 | none=>rfl
 | some p=>cases p<;>rfl
def inn (r:PR):PR:=⟨r.l,r.at_+1,r.deep+1⟩
def bg (r:PR):PR:=⟨r.l,r.at_,r.deep - 1⟩
theorem Rok.inn {r:PR} (h:Rok L r) (hl:r.at_<r.l.length) (hd:r.deep≤159):Rok L (inn r):=⟨h.sm,by show 0≤r.at_+1;have:=h.a0;omega,by show r.at_+1≤ _;exact hl,h.ll,h.tl,by show 0≤r.deep+1;have:=h.d0;omega,by show r.deep+1≤160;omega⟩
theorem rr {r:PR} (h:Rok L r) (hl:r.at_<r.l.length):SimP L (fun q=>q=inn r∧r.deep≤159) (bO r) (fF (St L r)):=by
 have h0:=h.a0;have h1:=h.a1;have h2:=h.ll;have d0:=h.d0;have d1:=h.d1;have ho:=h.o1
 unfold bO eN fF
 have eb:(decide ((St L r).E=0)&&decide (160≤(St L r).Deep))=decide (160≤r.deep+(L.o:Int)):=by rw[sy,FH];simp
 rw[eb]
 by_cases c:159<r.deep
 ·rw[if_pos (by simpa using c)]
  refine .inr ⟨r.at_,13,rfl,h.a0,fun o0=> ?_⟩
  rw[if_pos (decide_eq_true (by omega))]
  unfold bq
  rw[if_pos (by simp[sy])]
  exact⟨_,rfl,rfl,by show r.at_+(L.o:Int)=r.at_;omega,by omega⟩
 ·rw[if_neg (by simpa using c),h.wi1,wi (p:=r.deep+1) ⟨by omega,by omega⟩]
  refine .inl ⟨inn r,rfl,?_,h.inn hl (by omega),rfl,by omega⟩
  by_cases c2:160≤r.deep+(L.o:Int)
  ·right
   refine⟨by omega,?_⟩
   rw[if_pos (decide_eq_true c2)]
   unfold bq
   rw[if_pos (by simp[sy])]
   exact⟨_,rfl,rfl⟩
  ·left
   rw[if_neg (by simpa using c2)]
   show some (⟨L.L,ar (r.at_+L.o+1),ar (r.deep+L.o+1),0,0⟩:RS)=some ⟨L.L,r.at_+1+L.o,r.deep+1+L.o,0,0⟩
   rw[wi ⟨by omega,by omega⟩,wi ⟨by omega,by omega⟩,show r.at_+(L.o:Int)+1=r.at_+1+L.o by omega,show r.deep+(L.o:Int)+1=r.deep+1+L.o by omega]
theorem Ar {q:PR} (h:Rok L q):ar (q.deep - 1)=q.deep - 1:=by have:=h.d0;have:=h.d1;exact wi ⟨by omega,by omega⟩
theorem tQ {β:Type} {r q:PR} {Q2:β→PR→Prop} {f:Unit×PR→Option (bz (β×PR))} {g:RS→Option (β×RS)} (h:Rok L r) (hq:Rok L q) (hl:q.l=r.l) (hd:q.deep=r.deep+1) (ha:r.at_≤q.at_)
  (h1:Nx L r ⟨q.l,q.at_+1,r.deep⟩→SimR L r Q2 (f ((),⟨q.l,q.at_+1,r.deep⟩)) (g (St L ⟨q.l,q.at_+1,r.deep+1⟩))) (h2:∀ s,s.E≠0→Fl s.Pos s.E (g s)):SimR L r Q2 (pb (dy q) f) ((aH (St L q) [41]).bind g):=by
 unfold dy
 rw[DY]
 refine(fT hq [41]).p.bnd (fun r' hr ⟨hn,e⟩=> ?_) h2
 have e1:(⟨r'.l,r'.at_,ar (r'.deep - 1)⟩:PR)=⟨q.l,q.at_+1,r.deep⟩:=by
  rw[Ar hr,hn.l,e,hn.d,hd,show r.deep+1 - 1=r.deep by omega]
 have e2:r'=⟨q.l,q.at_+1,r.deep+1⟩:=by
  have:=hn.l;have:=hn.d
  cases r';simp only[aa.mk.injEq]at *;exact⟨by assumption,e,by omega⟩
 have k:=h1 ⟨⟨by rw[hl];exact h.sm,by show 0≤q.at_+1;have:=h.a0;omega,by have:=hr.a1;rw[e,hn.l]at this;exact this,by rw[hl];exact h.ll,by rw[hl];exact h.tl,h.d0,h.d1⟩,hl,rfl,by show r.at_≤q.at_+1;omega⟩
 show SimR L r Q2 (f ((),⟨r'.l,r'.at_,ar (r'.deep - 1)⟩)) (g (St L r'))
 rw[e1,e2];exact k
theorem Fl.mk' {β:Type} {y:β} {s s':RS} (h:s.E≠0) (h1:s'.E=s.E) (h2:s'.Pos=s.Pos):Fl s.Pos s.E (some (y,s')):=⟨y,s',rfl,h1,h2,h⟩
structure XW (x:GExpr) (n:Nat):Prop where
 ok:okGExpr x
 w:wE x≤3 * n
theorem XW.mono {x:GExpr} {n m:Nat} (h:XW x n) (hm:n≤m):XW x m:=⟨h.ok,by have:=h.w;omega⟩
abbrev XI (r:PR) (x:GExpr) (r':PR):Prop:=r.at_<r'.at_∧XW x (r'.at_ - r.at_).toNat
abbrev zV:GVal:=⟨0,0⟩
abbrev zT:GType:=⟨0,0,0,0,0⟩
abbrev zL:GLin:=⟨0,[]⟩
theorem A8:okGVal zV:=⟨jj R0,jj R0⟩
theorem CB:okGType zT:=⟨jj R0,jj R0,jj R0,jj R0,jj R0⟩
theorem Bc:okGLin zL:=(LinI.const R0 0).g (by omega)
theorem Bb:okS []:=vX (by simp)
theorem o7 {α:Type} {ok:α→Prop} :okW ok []:=⟨fun x h=>(by cases h),by simp⟩
theorem D9 {t:GType} (h:rh t=true):okGType t:=by
 have hb:(0≤t.Kind∧t.Kind≤3)∧(0≤t.Bits∧t.Bits≤31)∧(0≤t.Frac∧t.Frac≤30)∧(0≤t.Round∧t.Round≤4)∧(0≤t.Over∧t.Over≤2):=by
  unfold rh at h
  split at h<;>simp only[decide_eq_true_eq]at h<;>omega
 refine⟨jj ?_,jj ?_,jj ?_,jj ?_,jj ?_⟩<;>constructor<;>omega
theorem F8 {op:Int} {s:List UInt8} {v:GVal} {t:GType} {f:GLin} {ix:List GIndex} {args:List GExpr} (h0:0≤op∧op≤1000) (h1:okS s) (h2:okGVal v) (h3:okGType t) (h4:okGLin f) (h5:okW okGIndex ix) (h6:okW okGExpr args):okGExpr ⟨op,s,v,t,f,ix,args⟩:=
 okGExpr_iff.2 ⟨jj (n:=op) ⟨by omega,by omega⟩,h1,h2,h3,h4,h5,h6⟩
theorem qq (op:Int) (s:List UInt8) (v:GVal) (t:GType) (f:GLin) (ix:List GIndex) (args:List GExpr):wE ⟨op,s,v,t,f,ix,args⟩=1+f.L.length+ix.length+(ix.map wI).sum+(args.map wE).sum:=zw _
end Go.Proofs.YtmhoikfoogemnaaGreatDoor
