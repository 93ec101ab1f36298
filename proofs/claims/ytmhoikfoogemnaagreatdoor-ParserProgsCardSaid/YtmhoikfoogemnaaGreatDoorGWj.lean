import Derived.Test.YtmhoikfoogemnaaGreatDoorGWi
namespace Go.Proofs.YtmhoikfoogemnaaGreatDoor
open Go Go.RowKit Go.Vc
set_option linter.unusedVariables false
set_option linter.unusedSimpArgs false
def qS:List GMono→List GMono→List GMono
 | [],b=>b
 | x::a,[]=>x::a
 | x::a,y::b=>
  if Op.bytesLess x.Name y.Name=true then x::qS a (y::b)
  else if Op.bytesLess y.Name x.Name=true then y::qS (x::a) b
  else if x.By+y.By=0 then qS a b else⟨x.Name,x.By+y.By⟩::qS a b
termination_by a b=>a.length+b.length
def vZ:List GMono→List GMono→Prop
 | [],_=>True
 | _ :: _,[]=>True
 | x::a,y::b=>
  if Op.bytesLess x.Name y.Name=true then vZ a (y::b)
  else if Op.bytesLess y.Name x.Name=true then vZ (x::a) b
  else lq (x.By+y.By)∧vZ a b
termination_by a b=>a.length+b.length
theorem xF (a:List GMono):qS a []=a:=by cases a<;>simp[qS]
theorem vo (a:List GMono):vZ a []:=by cases a<;>simp[vZ]
theorem nw (x y:GMono) (a b:List GMono):qS (x::a) (y::b)=if Op.bytesLess x.Name y.Name=true then x::qS a (y::b)else if Op.bytesLess y.Name x.Name=true then y::qS (x::a) b else if x.By+y.By=0 then qS a b else⟨x.Name,x.By+y.By⟩::qS a b:=by rw[qS]
theorem qR (x y:GMono) (a b:List GMono):vZ (x::a) (y::b)↔if Op.bytesLess x.Name y.Name=true then vZ a (y::b)else if Op.bytesLess y.Name x.Name=true then vZ (x::a) b else lq (x.By+y.By)∧vZ a b:=by rw[vZ]
theorem xG {P:List GMono→List GMono→Prop} (h1:∀ b,P [] b) (h2:∀ x a,P (x::a) []) (h3:∀ x a y b,Op.bytesLess x.Name y.Name=true→P a (y::b)→P (x::a) (y::b))
  (h4:∀ x a y b,¬ Op.bytesLess x.Name y.Name=true→Op.bytesLess y.Name x.Name=true→P (x::a) b→P (x::a) (y::b)) (h5:∀ x a y b,¬ Op.bytesLess x.Name y.Name=true→¬ Op.bytesLess y.Name x.Name=true→P a b→P (x::a) (y::b)):∀ a b,P a b:=by
 have key:∀ (n:Nat) (a b:List GMono),a.length+b.length≤n→P a b:=by
  intro n
  induction n with
  | zero=>intro a b h;cases a with | nil=>exact h1 b | cons x a=>simp at h
  | succ n ih=>
   intro a b h
   cases a with
   | nil=>exact h1 b
   | cons x a=>
    cases b with
    | nil=>exact h2 x a
    | cons y b=>
     simp only[List.length_cons]at h
     by_cases c1:Op.bytesLess x.Name y.Name=true
     ·exact h3 x a y b c1 (ih a (y::b) (by simp only[List.length_cons];omega))
     ·by_cases c2:Op.bytesLess y.Name x.Name=true
      ·exact h4 x a y b c1 c2 (ih (x::a) b (by simp only[List.length_cons];omega))
      ·exact h5 x a y b c1 c2 (ih a b (by omega))
 intro a b
 exact key _ a b (Nat.le_refl _)
theorem Il (a b:List GMono):(qS a b).length≤a.length+b.length:=by
 refine xG (P:=λa b=>(qS a b).length≤a.length+b.length) ?_ ?_ ?_ ?_ ?_ a b
 ·intro b;simp[qS]
 ·intro x a;simp[qS]
 ·intro x a y b c1 ih;rw[nw,if_pos c1];simp only[List.length_cons]at *;omega
 ·intro x a y b c1 c2 ih;rw[nw,if_neg c1,if_pos c2];simp only[List.length_cons]at *;omega
 ·intro x a y b c1 c2 ih;rw[nw,if_neg c1,if_neg c2];split<;>simp only[List.length_cons]at * <;>omega
theorem wm (a b:List GMono):∀ m∈qS a b,(∃ x∈a,x.Name=m.Name)∨(∃ y∈b,y.Name=m.Name):=by
 refine xG (P:=λa b=>∀ m∈qS a b,(∃ x∈a,x.Name=m.Name)∨(∃ y∈b,y.Name=m.Name)) ?_ ?_ ?_ ?_ ?_ a b
 ·intro b m hm;rw[qS]at hm;exact .inr ⟨m,hm,rfl⟩
 ·intro x a m hm;rw[qS]at hm;exact .inl ⟨m,hm,rfl⟩
 ·intro x a y b c1 ih m hm
  rw[nw,if_pos c1]at hm
  rcases List.mem_cons.1 hm with rfl | hm
  ·exact .inl ⟨m,by simp,rfl⟩
  ·exact(ih m hm).imp (λ⟨q,h,e⟩=>⟨q,by simp[h],e⟩) id
 ·intro x a y b c1 c2 ih m hm
  rw[nw,if_neg c1,if_pos c2]at hm
  rcases List.mem_cons.1 hm with rfl | hm
  ·exact .inr ⟨m,by simp,rfl⟩
  ·exact(ih m hm).imp id (λ⟨q,h,e⟩=>⟨q,by simp[h],e⟩)
 ·intro x a y b c1 c2 ih m hm
  rw[nw,if_neg c1,if_neg c2]at hm
  have rest:m∈qS a b→(∃ q∈x::a,q.Name=m.Name)∨(∃ q∈y::b,q.Name=m.Name):=λhm=>(ih m hm).imp (λ⟨q,h,e⟩=>⟨q,by simp[h],e⟩) (λ⟨q,h,e⟩=>⟨q,by simp[h],e⟩)
  split at hm
  ·exact rest hm
  ·rcases List.mem_cons.1 hm with rfl | hm
   ·exact .inl ⟨x,by simp,rfl⟩
   ·exact rest hm
abbrev HK (l:List GMono):Prop:=l.Pairwise (λa b=>Op.bytesLess a.Name b.Name=true)
theorem Im (a b:List GMono):HK a→HK b→HK (qS a b):=by
 refine xG (P:=λa b=>HK a→HK b→HK (qS a b)) ?_ ?_ ?_ ?_ ?_ a b
 ·intro b _ hb;rw[qS];exact hb
 ·intro x a ha _;rw[qS];exact ha
 ·intro x a y b c1 ih ha hb
  obtain⟨a1,a2⟩:=List.pairwise_cons.1 ha
  obtain⟨b1,b2⟩:=List.pairwise_cons.1 hb
  rw[nw,if_pos c1]
  refine List.pairwise_cons.2 ⟨λm hm=>?_,ih a2 hb⟩
  rcases wm _ _ m hm with⟨q,h,e⟩ | ⟨q,h,e⟩
  ·rw[← e];exact a1 q h
  ·rw[← e];rcases List.mem_cons.1 h with rfl | h
   ·exact c1
   ·exact pN _ _ _ c1 (b1 q h)
 ·intro x a y b c1 c2 ih ha hb
  obtain⟨a1,a2⟩:=List.pairwise_cons.1 ha
  obtain⟨b1,b2⟩:=List.pairwise_cons.1 hb
  rw[nw,if_neg c1,if_pos c2]
  refine List.pairwise_cons.2 ⟨λm hm=>?_,ih ha b2⟩
  rcases wm _ _ m hm with⟨q,h,e⟩ | ⟨q,h,e⟩
  ·rw[← e];rcases List.mem_cons.1 h with rfl | h
   ·exact c2
   ·exact pN _ _ _ c2 (a1 q h)
  ·rw[← e];exact b1 q h
 ·intro x a y b c1 c2 ih ha hb
  obtain⟨a1,a2⟩:=List.pairwise_cons.1 ha
  obtain⟨b1,b2⟩:=List.pairwise_cons.1 hb
  have e0:x.Name=y.Name:=BG _ _ (by simpa using c1) (by simpa using c2)
  rw[nw,if_neg c1,if_neg c2]
  split
  ·exact ih a2 b2
  ·refine List.pairwise_cons.2 ⟨λm hm=>?_,ih a2 b2⟩
   rcases wm _ _ m hm with⟨q,h,e⟩ | ⟨q,h,e⟩
   ·rw[← e];exact a1 q h
   ·rw[← e];show Op.bytesLess x.Name q.Name=true;rw[e0];exact b1 q h
theorem Io {P:GMono→Prop} (hs:∀ x y:GMono,P x→P y→¬ Op.bytesLess x.Name y.Name=true→¬ Op.bytesLess y.Name x.Name=true→lq (x.By+y.By)→¬ x.By+y.By=0→P ⟨x.Name,x.By+y.By⟩) (a b:List GMono):vZ a b→(∀ m∈a,P m)→(∀ m∈b,P m)→∀ m∈qS a b,P m:=by
 refine xG (P:=λa b=>vZ a b→(∀ m∈a,P m)→(∀ m∈b,P m)→∀ m∈qS a b,P m) ?_ ?_ ?_ ?_ ?_ a b
 ·intro b _ _ hb m hm;rw[qS]at hm;exact hb m hm
 ·intro x a _ ha _ m hm;rw[qS]at hm;exact ha m hm
 ·intro x a y b c1 ih ho ha hb m hm
  rw[qR,if_pos c1]at ho
  rw[nw,if_pos c1]at hm
  rcases List.mem_cons.1 hm with rfl | hm
  ·exact ha m (by simp)
  ·exact ih ho (λq hq=>ha q (by simp[hq])) hb m hm
 ·intro x a y b c1 c2 ih ho ha hb m hm
  rw[qR,if_neg c1,if_pos c2]at ho
  rw[nw,if_neg c1,if_pos c2]at hm
  rcases List.mem_cons.1 hm with rfl | hm
  ·exact hb m (by simp)
  ·exact ih ho ha (λq hq=>hb q (by simp[hq])) m hm
 ·intro x a y b c1 c2 ih ho ha hb m hm
  rw[qR,if_neg c1,if_neg c2]at ho
  rw[nw,if_neg c1,if_neg c2]at hm
  have rest:=ih ho.2 (λq hq=>ha q (by simp[hq])) (λq hq=>hb q (by simp[hq]))
  split at hm
  ·exact rest m hm
  ·next hz=>
   rcases List.mem_cons.1 hm with rfl | hm
   ·exact hs x y (ha x (by simp)) (hb y (by simp)) c1 c2 ho.1 hz
   ·exact rest m hm
def LI (by_:Int) (l:List GMono):List GMono:=l.map λm=>⟨m.Name,m.By * by_⟩
def J8 (by_:Int) (l:List GMono):Prop:=∀ m∈l,lq (m.By * by_)
theorem HH (a:GLin) (by_:Int) (ha:pC a) (hw:Wf a) (hb:lq by_) (h0:by_≠0) (hl:a.L.length≤100000):
  ∃ r,jB a by_=some r∧((r=(⟨a.K * by_,LI by_ a.L⟩,0)∧lq (a.K * by_)∧J8 by_ a.L)∨(r=(⟨0,[]⟩,3)∧¬ (lq (a.K * by_)∧J8 by_ a.L))):=by
 obtain⟨b,b0,b1,_⟩:=np a (by omega)
 unfold jB
 rw[b1,if_pos (b0.2 ha),Option.bind_some,if_neg (by simp),if_neg (by simpa using h0),xQ hw.k hb,Option.bind_some]
 obtain⟨kk,kf,ek,e1,e2⟩:∃ (kk:Int) (kf:Bool),(if lq (a.K * by_)then(a.K * by_,true)else(0,false))=(kk,kf)∧(kf=true↔lq (a.K * by_))∧(lq (a.K * by_)→kk=a.K * by_):=by
  by_cases c:lq (a.K * by_)
  ·exact⟨_,_,if_pos c,⟨λ_=>c,λ_=>rfl⟩,λ_=>rfl⟩
  ·exact⟨_,_,if_neg c,⟨λh=>(by cases h),λh=>absurd h c⟩,λh=>absurd h c⟩
 rw[ek]
 refine qe (L:=λf (s:Bool×GLin) i=>ie a by_ f s.1 i s.2) (n:=a.L.length) (by omega)
  (λi s=>(s.1=true↔lq (a.K * by_)∧J8 by_ (a.L.take i))∧s.2.L.length=i∧(s.1=true→s.2=⟨a.K * by_,LI by_ (a.L.take i)⟩)) _ ?_ ?_ (kf,⟨kk,[]⟩) ⟨by rw[e1];simp[J8],rfl,λh=>by rw[e2 (e1.1 h)];rfl⟩
 ·rintro f i ⟨fl,out⟩ hi ⟨h1,h2,h3⟩
  obtain⟨x,hx⟩:=cC hi
  have hxm:=List.mem_of_getElem? hx
  dsimp only at h1 h2 h3
  left
  have okt:J8 by_ (a.L.take (i+1))↔J8 by_ (a.L.take i)∧lq (x.By * by_):=by
   rw[dm hx];unfold J8
   exact⟨λh=>⟨λm hm=>h m (List.mem_append_left _ hm),h x (by simp)⟩,λ⟨k1,k2⟩ m hm=>by
    rcases List.mem_append.1 hm with hm | hm
    ·exact k1 m hm
    ·rw[List.mem_singleton.1 hm];exact k2⟩
  by_cases c:lq (x.By * by_)
  ·refine⟨(fl&&true,⟨out.K,out.L++[⟨x.Name,x.By * by_⟩]⟩),⟨?_,by simp[h2],?_⟩,?_⟩
   ·rw[Bool.and_true,h1,okt];exact⟨λ⟨p,q⟩=>⟨p,q,c⟩,λ⟨p,q,_⟩=>⟨p,q⟩⟩
   ·intro hf
    have:=h3 (by simpa using hf)
    rw[this,dm hx];simp[LI]
   ·simp only[ie]
    rw[if_pos (bS hi),cD hx,Option.bind_some,xQ (hw.b x hxm) hb,if_pos c,Option.bind_some,cJ (by simp;omega),Option.bind_some,nu (by omega)]
  ·refine⟨(fl&&false,⟨out.K,out.L++[⟨x.Name,0⟩]⟩),⟨?_,by simp[h2],?_⟩,?_⟩
   ·rw[Bool.and_false];exact⟨λh=>(by cases h),λ⟨_,h⟩=>absurd (okt.1 h).2 c⟩
   ·intro hf;simp at hf
   ·simp only[ie]
    rw[if_pos (bS hi),cD hx,Option.bind_some,xQ (hw.b x hxm) hb,if_neg c,Option.bind_some,cJ (by simp;omega),Option.bind_some,nu (by omega)]
 ·rintro f ⟨fl,out⟩ ⟨h1,h2,h3⟩
  rw[List.take_length]at h1 h3
  dsimp only at h1 h3
  simp only[ie]
  rw[if_neg (by simp),oA]
  cases fl with
  | true=>exact⟨_,by rw[if_neg (by simp)],.inl ⟨by rw[h3 rfl],h1.1 rfl⟩⟩
  | false=>exact⟨_,by rw[if_pos (by simp)],.inr ⟨rfl,λh=>by have:=h1.2 h;cases this⟩⟩
theorem Kg {α:Type} (x:α) (l:List α):lat (x::l) 0=some x:=rfl
theorem AV {α:Type} (x:α) (l:List α):jE (x::l) 1=some l:=by unfold jE;rw[if_pos ⟨by omega,by simp;omega⟩];rfl
theorem Bh (name:List UInt8) (x y:Int) (fl:Bool) (out:GLin) (hx:lq x) (hy:lq y) (ho:out.L.length<1000000):
  ∃ s',fM name x y fl out=some ((),s')∧s'.1=(fl&&decide (lq (x+y)))∧s'.2.L.length≤out.L.length+1∧s'.2.K=out.K∧(lq (x+y)→s'.2.L=out.L++if x+y=0 then[]else[⟨name,x+y⟩]):=by
 unfold fM
 rw[EC hx hy,Option.bind_some]
 dsimp only
 by_cases c:au (x+y)=0
 ·refine⟨_,by rw[if_neg (by simpa using c)],rfl,by dsimp only;omega,rfl,λh=>?_⟩
  rw[wi h]at c;rw[if_pos c];simp
 ·refine⟨_,by rw[if_pos (by simpa using c),cJ (by simp;omega)];rfl,rfl,by simp,rfl,λh=>?_⟩
  rw[wi h]at c ⊢;rw[if_neg c]
theorem G9:∀ (n f:Nat) (a b:List GMono) (fl:Bool) (out:GLin),a.length+b.length≤n→n<f→(∀ m∈a,m.By≠0∧lq m.By)→(∀ m∈b,m.By≠0∧lq m.By)→out.L.length+n<1000000→
  ∃ s',dv (λx_1 x_2 x_3 (s:Bool×GLin)=>fM x_1 x_2 x_3 (s.1) (s.2)) f a b (fl,out)=some ((),s')∧(s'.1=true↔fl=true∧vZ a b)∧(vZ a b→s'.2=⟨out.K,out.L++qS a b⟩):=by
 intro n
 induction n with
 | zero=>
  intro f a b fl out hn hf ha hb ho
  obtain⟨f,rfl⟩:∃ g,f=g+1:=⟨f - 1,by omega⟩
  obtain rfl:a=[]:=List.length_eq_zero_iff.1 (by omega)
  obtain rfl:b=[]:=List.length_eq_zero_iff.1 (by omega)
  exact⟨(fl,out),by simp only[dv];rw[if_neg (by simp)],by simp[vZ],λ_=>by simp[qS]⟩
 | succ n ih=>
  intro f a b fl out hn hf ha hb ho
  obtain⟨f,rfl⟩:∃ g,f=g+1:=⟨f - 1,by omega⟩
  simp only[dv]
  have r0:lq 0:=by decide
  have takeA:∀ x a',a=x::a'→∃ s',((fM x.Name x.By 0 fl out).bind λx_1=>match x_1 with | (r1,s3)=>(jE a 1).bind λzs1=>dv (λx_1 x_2 x_3 (s:Bool×GLin)=>fM x_1 x_2 x_3 (s.1) (s.2)) f zs1 b s3)=some ((),s')∧(s'.1=true↔fl=true∧vZ a' b)∧(vZ a' b→s'.2=⟨out.K,out.L++x::qS a' b⟩):=by
   rintro x a' rfl
   obtain⟨h1,h2⟩:=ha x (by simp)
   obtain⟨⟨fl',out'⟩,e1,e2,e3,e4,e5⟩:=Bh x.Name x.By 0 fl out h2 r0 (by omega)
   rw[Int.add_zero]at e2 e5
   simp only[List.length_cons]at hn
   obtain⟨s',g1,g2,g3⟩:=ih f a' b fl' out' (by omega) (by omega) (λm hm=>ha m (by simp[hm])) hb (by dsimp only at e3;omega)
   refine⟨s',by rw[e1,Option.bind_some];dsimp only;rw[AV,Option.bind_some];exact g1,?_,λh=>?_⟩
   ·dsimp only at e2;rw[g2,e2];simp[h2]
   ·dsimp only at e4 e5;rw[g3 h,e4,e5 h2,if_neg h1];simp
  have takeB:∀ y b',b=y::b'→∃ s',((fM y.Name 0 y.By fl out).bind λx_1=>match x_1 with | (r1,s3)=>(jE b 1).bind λzs1=>dv (λx_1 x_2 x_3 (s:Bool×GLin)=>fM x_1 x_2 x_3 (s.1) (s.2)) f a zs1 s3)=some ((),s')∧(s'.1=true↔fl=true∧vZ a b')∧(vZ a b'→s'.2=⟨out.K,out.L++y::qS a b'⟩):=by
   rintro y b' rfl
   obtain⟨h1,h2⟩:=hb y (by simp)
   obtain⟨⟨fl',out'⟩,e1,e2,e3,e4,e5⟩:=Bh y.Name 0 y.By fl out r0 h2 (by omega)
   rw[Int.zero_add]at e2 e5
   simp only[List.length_cons]at hn
   obtain⟨s',g1,g2,g3⟩:=ih f a b' fl' out' (by omega) (by omega) ha (λm hm=>hb m (by simp[hm])) (by dsimp only at e3;omega)
   refine⟨s',by rw[e1,Option.bind_some];dsimp only;rw[AV,Option.bind_some];exact g1,?_,λh=>?_⟩
   ·dsimp only at e2;rw[g2,e2];simp[h2]
   ·dsimp only at e4 e5;rw[g3 h,e4,e5 h2,if_neg h1];simp
  cases a with
  | nil=>
   cases b with
   | nil=>exact⟨(fl,out),by rw[if_neg (by simp)],by simp[vZ],λ_=>by simp[qS]⟩
   | cons y b=>
    obtain⟨s',g1,g2,g3⟩:=takeB y b rfl
    refine⟨s',?_,?_,λ_=>?_⟩
    ·rw[if_pos (by simp)]
     have d1:decide (((y::b).length:Int)=0)=false:=by rw[decide_eq_false_iff_not];simp;omega
     have d2:decide (0<(([]:List GMono).length:Int))=false:=rfl
     have d3:decide ((([]:List GMono).length:Int)=0)=true:=rfl
     simp only[d1,d2,d3,gd,Bool.not_false,Bool.not_true,Bool.and_false,Bool.false_and,Bool.false_or,Bool.true_or,Bool.false_eq_true,if_false,if_true,Option.bind_some,Kg]
     exact g1
    ·rw[g2];simp[vZ]
    ·rw[g3 (by simp[vZ])];simp[qS]
  | cons x a=>
   cases b with
   | nil=>
    obtain⟨s',g1,g2,g3⟩:=takeA x a rfl
    refine⟨s',?_,?_,λ_=>?_⟩
    ·rw[if_pos (by simp)]
     have d3:decide ((([]:List GMono).length:Int)=0)=true:=rfl
     simp only[d3,gd,Bool.not_true,Bool.false_and,Bool.true_or,Bool.false_eq_true,if_false,if_true,Option.bind_some,Kg]
     exact g1
    ·rw[g2];simp[vZ,vo]
    ·rw[g3 (vo a),xF];simp[qS]
   | cons y b=>
    rw[if_pos (by simp)]
    have d1:decide (((y::b).length:Int)=0)=false:=by rw[decide_eq_false_iff_not];simp;omega
    have d2:decide (0<((x::a).length:Int))=true:=by rw[decide_eq_true_iff];simp<;>omega
    have d3:decide (((x::a).length:Int)=0)=false:=by rw[decide_eq_false_iff_not];simp;omega
    simp only[d1,d2,d3,gd,Bool.not_false,Bool.and_true,Bool.true_and,Bool.false_or,if_true,Option.bind_some,Kg]
    by_cases c1:Op.bytesLess x.Name y.Name=true
    ·obtain⟨s',g1,g2,g3⟩:=takeA x a rfl
     refine⟨s',by rw[if_pos c1];exact g1,?_,λh=>?_⟩
     ·rw[g2,qR,if_pos c1]
     ·rw[qR,if_pos c1]at h;rw[g3 h,nw,if_pos c1]
    rw[if_neg c1]
    by_cases c2:Op.bytesLess y.Name x.Name=true
    ·obtain⟨s',g1,g2,g3⟩:=takeB y b rfl
     refine⟨s',by rw[if_pos c2];exact g1,?_,λh=>?_⟩
     ·rw[g2,qR,if_neg c1,if_pos c2]
     ·rw[qR,if_neg c1,if_pos c2]at h;rw[g3 h,nw,if_neg c1,if_pos c2]
    rw[if_neg c2]
    obtain⟨h1,h2⟩:=ha x (by simp)
    obtain⟨h3,h4⟩:=hb y (by simp)
    obtain⟨⟨fl',out'⟩,e1,e2,e3,e4,e5⟩:=Bh x.Name x.By y.By fl out h2 h4 (by omega)
    simp only[List.length_cons]at hn
    obtain⟨s',g1,g2,g3⟩:=ih f a b fl' out' (by omega) (by omega) (λm hm=>ha m (by simp[hm])) (λm hm=>hb m (by simp[hm])) (by dsimp only at e3;omega)
    refine⟨s',by rw[e1,Option.bind_some];dsimp only;rw[AV,Option.bind_some,AV,Option.bind_some];exact g1,?_,λh=>?_⟩
    ·dsimp only at e2;rw[g2,e2,qR,if_neg c1,if_neg c2,Bool.and_eq_true,decide_eq_true_iff]
     exact⟨λ⟨⟨p,q⟩,r⟩=>⟨p,q,r⟩,λ⟨p,q,r⟩=>⟨⟨p,q⟩,r⟩⟩
    ·rw[qR,if_neg c1,if_neg c2]at h
     dsimp only at e4 e5
     rw[g3 h.2,e4,e5 h.1,nw,if_neg c1,if_neg c2]
     split<;>simp
theorem Kx (a b:GLin) (ha:pC a) (hb:pC b) (wa:Wf a) (wb:Wf b) (hl:a.L.length+b.L.length≤100000):
  ∃ r,iJ a b=some r∧((r=(⟨a.K+b.K,qS a.L b.L⟩,0)∧lq (a.K+b.K)∧vZ a.L b.L)∨(r=(⟨0,[]⟩,3)∧¬ (lq (a.K+b.K)∧vZ a.L b.L))):=by
 obtain⟨q,q0,q1,_⟩:=np a (by omega)
 obtain⟨p,p0,p1,_⟩:=np b (by omega)
 unfold iJ
 rw[q1,if_pos (q0.2 ha),Option.bind_some,p1,if_pos (p0.2 hb)]
 simp only[gd,decide_true,Bool.not_true,Bool.not_false,if_true,Option.bind_some,Bool.or_false,Bool.false_eq_true,if_false]
 rw[EC wa.k wb.k,Option.bind_some]
 obtain⟨⟨fl,out⟩,e1,e2,e3⟩:=G9 (a.L.length+b.L.length) fu a.L b.L (decide (lq (a.K+b.K))) ⟨au (a.K+b.K),[]⟩ (Nat.le_refl _) (by unfold fu;omega) (λm hm=>⟨(ha.1 m hm).2,wa.b m hm⟩) (λm hm=>⟨(hb.1 m hm).2,wb.b m hm⟩) (by simp;omega)
 unfold pt
 rw[e1,Option.bind_some]
 dsimp only at e2 e3 ⊢
 rw[decide_eq_true_iff]at e2
 cases fl with
 | true=>
  obtain⟨h1,h2⟩:=e2.1 rfl
  exact⟨_,by rw[if_neg (by simp)],.inl ⟨by rw[e3 h2,wi h1];simp,h1,h2⟩⟩
 | false=>exact⟨_,by rw[if_pos (by simp)],.inr ⟨rfl,λh=>by have:=e2.2 h;cases this⟩⟩
end Go.Proofs.YtmhoikfoogemnaaGreatDoor
