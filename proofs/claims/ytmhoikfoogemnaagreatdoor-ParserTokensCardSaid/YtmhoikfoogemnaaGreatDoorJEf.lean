import Derived.Test.YtmhoikfoogemnaaGreatDoorJYg
import Derived.Test.YtmhoikfoogemnaaGreatDoorJYe
namespace Go.Proofs.YtmhoikfoogemnaaGreatDoor
open Go Go.RowKit Go.Vc
set_option linter.unusedVariables false
set_option linter.unusedSimpArgs false
end Go.Proofs.YtmhoikfoogemnaaGreatDoor
namespace Go.Proofs.YtmhoikfoogemnaaGreatDoor
open Go Go.RowKit Go.Vc
set_option linter.unusedVariables false
set_option linter.unusedSimpArgs false
end Go.Proofs.YtmhoikfoogemnaaGreatDoor
namespace Go.Proofs.YtmhoikfoogemnaaGreatDoor
open Go Go.RowKit Go.Vc
set_option linter.unusedVariables false
set_option linter.unusedSimpArgs false
theorem sw {α:Type} {l:List α} {i:Nat} {x:α} (h:l[i]? =some x):i<l.length:=(List.getElem?_eq_some_iff.1 h).1
def defF (d:Hy):Prop:=(0≤d.Fold∧d.Fold≤5)∧((d.Fold=0∨d.Fold=5)→d.Red=[])
instance (d:Hy):Decidable (defF d):=inferInstanceAs (Decidable (_ ∧ _))
theorem ax {α:Type} [Inhabited α] (g:Bool) (v:α):gd g (some v)=some (if g=true then v else default):=by unfold gd;cases g<;>rfl
end Go.Proofs.YtmhoikfoogemnaaGreatDoor
namespace Go.Proofs.YtmhoikfoogemnaaGreatDoor
open Go Go.RowKit Go.Vc
set_option linter.unusedVariables false
set_option linter.unusedSimpArgs false
end Go.Proofs.YtmhoikfoogemnaaGreatDoor
namespace Go.Proofs.YtmhoikfoogemnaaGreatDoor
open Go Go.RowKit Go.Vc
set_option linter.unusedVariables false
set_option linter.unusedSimpArgs false
def digB (c:UInt8):Bool:=decide (48≤(c.toNat:Int))&&decide ((c.toNat:Int)≤57)
def jR:List (List UInt8):=[[40],[41],[91],[93],[44],[43],[45],[42],[47],[60],[38],[124],[33],[58],[59],[60,61],[61,61]]
def Hn (t:List UInt8):Int:=if qp (t.headD 0)=true then 1 else if digB (t.headD 0)=true then 2 else 3
end Go.Proofs.YtmhoikfoogemnaaGreatDoor
namespace Go.Proofs.YtmhoikfoogemnaaGreatDoor
open Go Go.RowKit Go.Vc
set_option linter.unusedVariables false
set_option linter.unusedSimpArgs false
def tkL:Nat→List (List UInt8)→List GToken
 | _,[]=>[]
 | o,t::r=>if t=[32]then tkL (o+1) r else⟨Hn t,o,t⟩::tkL (o+t.length) r
end Go.Proofs.YtmhoikfoogemnaaGreatDoor
namespace Go.Proofs.YtmhoikfoogemnaaGreatDoor
open Go Go.RowKit Go.Vc
set_option linter.unusedVariables false
set_option linter.unusedSimpArgs false
end Go.Proofs.YtmhoikfoogemnaaGreatDoor
namespace Go.Proofs.YtmhoikfoogemnaaGreatDoor
open Go Go.RowKit Go.Vc
set_option linter.unusedVariables false
set_option linter.unusedSimpArgs false
end Go.Proofs.YtmhoikfoogemnaaGreatDoor
namespace Go.Proofs.YtmhoikfoogemnaaGreatDoor
open Go Go.RowKit Go.Vc
set_option linter.unusedVariables false
set_option linter.unusedSimpArgs false
end Go.Proofs.YtmhoikfoogemnaaGreatDoor
namespace Go.Proofs.YtmhoikfoogemnaaGreatDoor
open Go Go.RowKit Go.Vc
set_option linter.unusedVariables false
set_option linter.unusedSimpArgs false
def Co (op:Int) (a b:GExpr):GExpr:=⟨op,[],⟨0,0⟩,⟨0,0,0,0,0⟩,⟨0,[]⟩,[],[a,b]⟩
theorem Gv {e f:GExpr} (h1:e.Op=f.Op) (h2:e.Name=f.Name) (h3:e.Val=f.Val) (h4:e.Type_=f.Type_) (h5:e.Lin=f.Lin) (h6:e.Idx=f.Idx) (h7:e.Args=f.Args):e=f:=by
 cases e;cases f
 simp only at h1 h2 h3 h4 h5 h6 h7
 rw[h1,h2,h3,h4,h5,h6,h7]
def FD (op:Int) (a:GExpr):GExpr:=⟨op,[],⟨0,0⟩,⟨0,0,0,0,0⟩,⟨0,[]⟩,[],[a]⟩
end Go.Proofs.YtmhoikfoogemnaaGreatDoor
namespace Go.Proofs.YtmhoikfoogemnaaGreatDoor
open Go Go.RowKit Go.Vc
set_option linter.unusedVariables false
set_option linter.unusedSimpArgs false
theorem sE {α:Type} {L:Nat→Int→Option Bool} {a b:List α} (hn:a.length<4611686018427387904) (hl:a.length=b.length)
  (rd:∀ f (i:Nat) x y,a[i]? =some x→b[i]? =some y→∃ r:Bool,(r=true↔x=y)∧L (f+1) (i:Int)=if r=true then L f ((i+1:Nat):Int)else some false)
  (fin:∀ f,L (f+1) (a.length:Int)=some true):∃ r,L fu 0=some r∧(r=true↔a=b):=by
 refine nM (L:=fun f (_:Unit) i=>L f i) (n:=a.length) hn (fun i _=>a.take i=b.take i) (fun r=>r=true↔a=b) ?_ ?_ () (by simp)
 ·intro f i _ hi hI
  obtain⟨x,hx⟩:=ct hi
  obtain⟨y,hy⟩:=ct (l:=b) (i:=i) (by omega)
  obtain⟨r,h1,h2⟩:=rd f i x y hx hy
  rw[h2]
  by_cases hr:r=true
  ·left
   refine⟨(),?_,by rw[if_pos hr]⟩
   rw[cx hx,cx hy,hI,h1.1 hr]
  ·right
   refine⟨false,by rw[if_neg hr],⟨fun h=>(by cases h),fun h=> ?_⟩⟩
   subst h
   rw[hx]at hy
   injection hy with hy
   exact absurd (h1.2 hy) hr
 ·intro f _ hI
  refine⟨true,fin f,⟨fun _=> ?_,fun _=>rfl⟩⟩
  rw[List.take_length,hl,List.take_length]at hI
  exact hI
theorem qT {a b:GLin} (h:a.L.length<4611686018427387904):∃ r,lJ a b=some r∧(r=true↔a=b):=by
 unfold lJ
 by_cases hk:a.K=b.K
 ·by_cases hl:a.L.length=b.L.length
  ·rw[if_neg (by simp[hk,hl])]
   obtain⟨r,h1,h2⟩:=sE (L:=fun f i=>iG a b f i) h hl (fun f i x y hx hy=>by
    have hi:=sw hx
    refine⟨decide (x.Name=y.Name)&&decide (x.By=y.By),?_,?_⟩
    ·simp only[Bool.and_eq_true,decide_eq_true_eq]
     constructor
     ·rintro⟨q1,q2⟩;cases x;cases y;simp only at q1 q2;rw[q1,q2]
     ·rintro rfl;exact⟨rfl,rfl⟩
    ·simp only[iG]
     rw[if_pos (cz hi),cI hx,Option.bind_some,cI hy,Option.bind_some,nq (by omega)]
     cases (decide (x.Name=y.Name)&&decide (x.By=y.By))<;>rfl) (fun f=>by
    simp only[iG]
    rw[if_neg (by simp)])
   refine⟨r,h1,h2.trans ?_⟩
   cases a;cases b
   simp only at hk
   simp[hk]
  ·rw[if_pos (by simp;omega)]
   exact⟨false,rfl,⟨fun h=>(by cases h),fun h=>absurd (by rw[h]) hl⟩⟩
 ·rw[if_pos (by simp[hk])]
  exact⟨false,rfl,⟨fun h=>(by cases h),fun h=>absurd (by rw[h]) hk⟩⟩
theorem yH {a b:List GLin} (h:a.length<4611686018427387904) (hh:∀ f∈a,f.L.length<4611686018427387904):∃ r,nU a b=some r∧(r=true↔a=b):=by
 unfold nU
 by_cases hl:a.length=b.length
 ·rw[if_neg (by simp[hl])]
  exact sE (L:=fun f i=>gX a b f i) h hl (fun f i x y hx hy=>by
   have hi:=sw hx
   obtain⟨r,h1,h2⟩:=qT (a:=x) (b:=y) (hh x (List.mem_of_getElem? hx))
   refine⟨r,h2,?_⟩
   simp only[gX]
   rw[if_pos (cz hi),cI hx,Option.bind_some,cI hy,Option.bind_some,h1,Option.bind_some,nq (by omega)]
   cases r<;>rfl) (fun f=>by
   simp only[gX]
   rw[if_neg (by simp)])
 ·rw[if_pos (by simp;omega)]
  exact⟨false,rfl,⟨fun h=>(by cases h),fun h=>absurd (by rw[h]) hl⟩⟩
theorem xl {a b:GIndex} (h:okGIndex a):∃ r,mX a b=some r∧(r=true↔a=b):=by
 obtain⟨o1,_,o2⟩:=h
 obtain⟨r1,p1,p2⟩:=qT (a:=a.Lin) (b:=b.Lin) (by have:=o1.2.2;omega)
 obtain⟨r2,q1,q2⟩:=yH (a:=a.At) (b:=b.At) (by have:=o2.2;omega) (fun f hf=>by have:=(o2.1 f hf).2.2;omega)
 unfold mX
 rw[p1,q1,ax,Option.bind_some,ax,Option.bind_some]
 refine⟨_,rfl,?_⟩
 by_cases hf:a.From=b.From
 ·simp only[hf,decide_true,if_true,Bool.true_and]
  cases r1
  ·simp only[Bool.false_and,Bool.false_eq_true,false_iff]
   intro h;subst h;simp at p2
  ·have:=p2.1 rfl
   simp only[if_true,Bool.true_and,q2]
   cases a;cases b
   simp only at hf this
   simp[hf,this]
 ·simp only[hf,decide_false,Bool.false_and,Bool.false_eq_true,false_iff]
  intro h;subst h;exact hf rfl
theorem uD {a b:List GIndex} (h:a.length<4611686018427387904) (hh:∀ f∈a,okGIndex f):∃ r,lK a b=some r∧(r=true↔a=b):=by
 unfold lK
 by_cases hl:a.length=b.length
 ·rw[if_neg (by simp[hl])]
  exact sE (L:=fun f i=>fh a b f i) h hl (fun f i x y hx hy=>by
   have hi:=sw hx
   obtain⟨r,h1,h2⟩:=xl (a:=x) (b:=y) (hh x (List.mem_of_getElem? hx))
   refine⟨r,h2,?_⟩
   simp only[fh]
   rw[if_pos (cz hi),cI hx,Option.bind_some,cI hy,Option.bind_some,h1,Option.bind_some,nq (by omega)]
   cases r<;>rfl) (fun f=>by
   simp only[fh]
   rw[if_neg (by simp)])
 ·rw[if_pos (by simp;omega)]
  exact⟨false,rfl,⟨fun h=>(by cases h),fun h=>absurd (by rw[h]) hl⟩⟩
theorem sZ:∀ (f:Nat) (a b:GExpr),okGExpr a→wE a<f→∃ r,jD f a b=some r∧(r=true↔a=b)
 | 0,_,_,_,h=>absurd h (by omega)
 | f+1,a,b,ho,hf=>by
  obtain⟨o1,o2,o3⟩:=ho.out
  obtain⟨l1,l2,l3,l4⟩:=ho.len
  obtain⟨r1,p1,p2⟩:=qT (a:=a.Lin) (b:=b.Lin) l3
  obtain⟨r2,q1,q2⟩:=uD (a:=a.Idx) (b:=b.Idx) l1 o2.1
  have hargs:∃ r,mY (jD f) a.Args b.Args=some r∧(r=true↔a.Args=b.Args):=by
   unfold mY
   by_cases hl:a.Args.length=b.Args.length
   ·rw[if_neg (by simp[hl])]
    exact sE (L:=fun g i=>gw a.Args b.Args (jD f) g i) l2 hl (fun g i x y hx hy=>by
     have hi:=sw hx
     have hm:=List.mem_of_getElem? hx
     obtain⟨r,h1,h2⟩:=sZ f x y (o3.1 x hm) (by have:=th hm;omega)
     refine⟨r,h2,?_⟩
     simp only[gw]
     rw[if_pos (cz hi),cI hx,Option.bind_some,cI hy,Option.bind_some,h1,Option.bind_some,nq (by omega)]
     cases r<;>rfl) (fun g=>by
     simp only[gw]
     rw[if_neg (by simp)])
   ·rw[if_pos (by simp;omega)]
    exact⟨false,rfl,⟨fun h=>(by cases h),fun h=>absurd (by rw[h]) hl⟩⟩
  obtain⟨r3,s1,s2⟩:=hargs
  show ∃ r,mr (jD f) a b=some r∧ _
  unfold mr
  rw[p1,q1,s1,ax,Option.bind_some,ax,Option.bind_some,ax,Option.bind_some]
  generalize hc:(((decide (a.Op=b.Op)&&decide (a.Name=b.Name))&&(decide (a.Val.N=b.Val.N)&&decide (a.Val.D=b.Val.D)))&&((decide (a.Type_.Kind=b.Type_.Kind))&&(decide (a.Type_.Bits=b.Type_.Bits))&&(decide (a.Type_.Frac=b.Type_.Frac))&&(decide (a.Type_.Round=b.Type_.Round))&&(decide (a.Type_.Over=b.Type_.Over))))=c
  refine⟨_,rfl,?_⟩
  have hcc:c=true↔(a.Op=b.Op∧a.Name=b.Name∧a.Val=b.Val∧a.Type_=b.Type_):=by
   rw[← hc]
   simp only[Bool.and_eq_true,decide_eq_true_eq]
   constructor
   ·rintro⟨⟨⟨x1,x2⟩,x3,x4⟩,⟨⟨⟨y1,y2⟩,y3⟩,y4⟩,y5⟩
    refine⟨x1,x2,?_,?_⟩
    ·cases hv:a.Val;cases hw:b.Val;rw[hv,hw]at x3 x4;simp only at x3 x4;rw[x3,x4]
    ·cases hv:a.Type_;cases hw:b.Type_;rw[hv,hw]at y1 y2 y3 y4 y5;simp only at y1 y2 y3 y4 y5;rw[y1,y2,y3,y4,y5]
   ·rintro⟨x1,x2,x3,x4⟩
    rw[x1,x2,x3,x4];simp
  cases c
  ·simp only[Bool.false_and,Bool.false_eq_true,false_iff]
   intro h;subst h;simp at hcc
  ·obtain⟨x1,x2,x3,x4⟩:=hcc.1 rfl
   simp only[if_true,Bool.true_and]
   cases r1
   ·simp only[Bool.false_and,Bool.false_eq_true,false_iff]
    intro h;subst h;simp at p2
   ·have y1:=p2.1 rfl
    simp only[if_true,Bool.true_and]
    cases r2
    ·simp only[Bool.false_and,Bool.false_eq_true,false_iff]
     intro h;subst h;simp at q2
    ·have y2:=q2.1 rfl
     simp only[if_true,Bool.true_and,s2]
     exact⟨fun h=>Gv x1 x2 x3 x4 y1 y2 h,fun h=>by rw[h]⟩
end Go.Proofs.YtmhoikfoogemnaaGreatDoor
namespace Go.Proofs.YtmhoikfoogemnaaGreatDoor
open Go Go.RowKit Go.Vc
set_option linter.unusedVariables false
set_option linter.unusedSimpArgs false
theorem Gu (l:List GToken) (n:Nat) (hl:l.length<4611686018427387904) (hn:n≤50000):∃ b,nR l (n:Int)=some b∧(b=true→l.length≤n∧∀ t∈l,t.Text.length≤100):=by
 unfold nR
 by_cases h:(n:Int)<(l.length:Int)
 ·rw[if_pos (by simpa using h)];exact⟨false,rfl,fun h=>by cases h⟩
 ·rw[if_neg (by simpa using h)]
  obtain⟨r,h1,h2⟩:=nM (L:=fun f (_:Unit) i=>gV l f i) (n:=l.length) hl (fun i _=>∀ t∈l.take i,t.Text.length≤100) (fun r=>r=true→∀ t∈l,t.Text.length≤100)
   (fun f i _ hi hI=>by
    obtain⟨t,ht⟩:=ct hi
    simp only[gV]
    rw[if_pos (cz hi),cI ht,Option.bind_some]
    by_cases c:100<(t.Text.length:Int)
    ·right;exact⟨false,by rw[if_pos (by simpa using c)],fun h=>by cases h⟩
    ·left
     refine⟨(),?_,by rw[if_neg (by simpa using c),nq (by omega)]⟩
     rw[cx ht];intro x hx
     rcases List.mem_append.1 hx with hx | hx
     ·exact hI x hx
     ·rw[List.mem_singleton.1 hx];omega)
   (fun f _ hI=>by
    rw[List.take_length]at hI
    simp only[gV]
    exact⟨true,by rw[if_neg (by simp)],fun _=>hI⟩) () (by simp)
  exact⟨r,h1,fun h=>⟨by omega,h2 h⟩⟩
theorem Rok.start {l:List GToken} {at_:Int} (h0:0≤at_) (h1:at_≤l.length) (hl:l.length≤50000) (ht:∀ t∈l,t.Text.length≤50000):Rok ⟨l,0⟩ ⟨l,at_,0⟩:=⟨.inl ⟨rfl,rfl⟩,h0,h1,hl,ht,by show(0:Int)≤0;omega,by show(0:Int)≤160;omega⟩
theorem St0 (l:List GToken) (r:PR):(⟨l,r.at_,r.deep,0,0⟩:RS)=St ⟨l,0⟩ r:=by
 unfold St
 show _ =(⟨l,r.at_+0,r.deep+0,0,0⟩:RS)
 rw[Int.add_zero,Int.add_zero]
end Go.Proofs.YtmhoikfoogemnaaGreatDoor
