import Derived.Test.YtmhoikfoogemnaaGreatDoorMWi
namespace Go.Proofs.YtmhoikfoogemnaaGreatDoor
open Go Go.RowKit Go.Vc
set_option linter.unusedVariables false
set_option linter.unusedSimpArgs false
def n7:List GMono→List GMono→List GMono
 | [],b=>b
 | x::a,[]=>x::a
 | x::a,y::b=>
  if Op.bytesLess x.Name y.Name=true then x::n7 a (y::b)
  else if Op.bytesLess y.Name x.Name=true then y::n7 (x::a) b
  else if x.By+y.By=0 then n7 a b else⟨x.Name,x.By+y.By⟩::n7 a b
termination_by a b=>a.length+b.length
def rU:List GMono→List GMono→Prop
 | [],_=>True
 | _ :: _,[]=>True
 | x::a,y::b=>
  if Op.bytesLess x.Name y.Name=true then rU a (y::b)
  else if Op.bytesLess y.Name x.Name=true then rU (x::a) b
  else jO (x.By+y.By)∧rU a b
termination_by a b=>a.length+b.length
theorem tT (a:List GMono):n7 a []=a:=by cases a<;>simp[n7]
theorem rl (a:List GMono):rU a []:=by cases a<;>simp[rU]
theorem lh (x y:GMono) (a b:List GMono):n7 (x::a) (y::b)=if Op.bytesLess x.Name y.Name=true then x::n7 a (y::b)else if Op.bytesLess y.Name x.Name=true then y::n7 (x::a) b else if x.By+y.By=0 then n7 a b else⟨x.Name,x.By+y.By⟩::n7 a b:=by rw[n7]
theorem n6 (x y:GMono) (a b:List GMono):rU (x::a) (y::b)↔if Op.bytesLess x.Name y.Name=true then rU a (y::b)else if Op.bytesLess y.Name x.Name=true then rU (x::a) b else jO (x.By+y.By)∧rU a b:=by rw[rU]
theorem tU {P:List GMono→List GMono→Prop} (h1:∀ b,P [] b) (h2:∀ x a,P (x::a) []) (h3:∀ x a y b,Op.bytesLess x.Name y.Name=true→P a (y::b)→P (x::a) (y::b))
  (h4:∀ x a y b,¬ Op.bytesLess x.Name y.Name=true→Op.bytesLess y.Name x.Name=true→P (x::a) b→P (x::a) (y::b)) (h5:∀ x a y b,¬ Op.bytesLess x.Name y.Name=true→¬ Op.bytesLess y.Name x.Name=true→P a b→P (x::a) (y::b)):∀ a b,P a b:=by
 have key:∀ (n:Nat) (a b:List GMono),a.length+b.length≤n→P a b:=by
  intro n
  induction n with
  | zero=>intro a b h;cases a with | nil=>exact h1 b | cons x a=>simp at h
  | succ n ih=>
   intro a b h
   cases a with
   | nil=>exact h1 b
   | cons x a=>
    cases b with
    | nil=>exact h2 x a
    | cons y b=>
     simp only[List.length_cons]at h
     by_cases c1:Op.bytesLess x.Name y.Name=true
     ·exact h3 x a y b c1 (ih a (y::b) (by simp only[List.length_cons];omega))
     ·by_cases c2:Op.bytesLess y.Name x.Name=true
      ·exact h4 x a y b c1 c2 (ih (x::a) b (by simp only[List.length_cons];omega))
      ·exact h5 x a y b c1 c2 (ih a b (by omega))
 intro a b
 exact key _ a b (Nat.le_refl _)
theorem Ef (a b:List GMono):(n7 a b).length≤a.length+b.length:=by
 refine tU (P:=fun a b=>(n7 a b).length≤a.length+b.length) ?_ ?_ ?_ ?_ ?_ a b
 ·intro b;simp[n7]
 ·intro x a;simp[n7]
 ·intro x a y b c1 ih;rw[lh,if_pos c1];simp only[List.length_cons]at *;omega
 ·intro x a y b c1 c2 ih;rw[lh,if_neg c1,if_pos c2];simp only[List.length_cons]at *;omega
 ·intro x a y b c1 c2 ih;rw[lh,if_neg c1,if_neg c2];split<;>simp only[List.length_cons]at * <;>omega
theorem sj (a b:List GMono):∀ m∈n7 a b,(∃ x∈a,x.Name=m.Name)∨(∃ y∈b,y.Name=m.Name):=by
 refine tU (P:=fun a b=>∀ m∈n7 a b,(∃ x∈a,x.Name=m.Name)∨(∃ y∈b,y.Name=m.Name)) ?_ ?_ ?_ ?_ ?_ a b
 ·intro b m hm;rw[n7]at hm;exact .inr ⟨m,hm,rfl⟩
 ·intro x a m hm;rw[n7]at hm;exact .inl ⟨m,hm,rfl⟩
 ·intro x a y b c1 ih m hm
  rw[lh,if_pos c1]at hm
  rcases List.mem_cons.1 hm with rfl | hm
  ·exact .inl ⟨m,by simp,rfl⟩
  ·exact(ih m hm).imp (fun⟨q,h,e⟩=>⟨q,by simp[h],e⟩) id
 ·intro x a y b c1 c2 ih m hm
  rw[lh,if_neg c1,if_pos c2]at hm
  rcases List.mem_cons.1 hm with rfl | hm
  ·exact .inr ⟨m,by simp,rfl⟩
  ·exact(ih m hm).imp id (fun⟨q,h,e⟩=>⟨q,by simp[h],e⟩)
 ·intro x a y b c1 c2 ih m hm
  rw[lh,if_neg c1,if_neg c2]at hm
  have rest:m∈n7 a b→(∃ q∈x::a,q.Name=m.Name)∨(∃ q∈y::b,q.Name=m.Name):=fun hm=>(ih m hm).imp (fun⟨q,h,e⟩=>⟨q,by simp[h],e⟩) (fun⟨q,h,e⟩=>⟨q,by simp[h],e⟩)
  split at hm
  ·exact rest hm
  ·rcases List.mem_cons.1 hm with rfl | hm
   ·exact .inl ⟨x,by simp,rfl⟩
   ·exact rest hm
abbrev DL (l:List GMono):Prop:=l.Pairwise (fun a b=>Op.bytesLess a.Name b.Name=true)
theorem Eg (a b:List GMono):DL a→DL b→DL (n7 a b):=by
 refine tU (P:=fun a b=>DL a→DL b→DL (n7 a b)) ?_ ?_ ?_ ?_ ?_ a b
 ·intro b _ hb;rw[n7];exact hb
 ·intro x a ha _;rw[n7];exact ha
 ·intro x a y b c1 ih ha hb
  obtain⟨a1,a2⟩:=List.pairwise_cons.1 ha
  obtain⟨b1,b2⟩:=List.pairwise_cons.1 hb
  rw[lh,if_pos c1]
  refine List.pairwise_cons.2 ⟨fun m hm=> ?_,ih a2 hb⟩
  rcases sj _ _ m hm with⟨q,h,e⟩ | ⟨q,h,e⟩
  ·rw[← e];exact a1 q h
  ·rw[← e];rcases List.mem_cons.1 h with rfl | h
   ·exact c1
   ·exact mZ _ _ _ c1 (b1 q h)
 ·intro x a y b c1 c2 ih ha hb
  obtain⟨a1,a2⟩:=List.pairwise_cons.1 ha
  obtain⟨b1,b2⟩:=List.pairwise_cons.1 hb
  rw[lh,if_neg c1,if_pos c2]
  refine List.pairwise_cons.2 ⟨fun m hm=> ?_,ih ha b2⟩
  rcases sj _ _ m hm with⟨q,h,e⟩ | ⟨q,h,e⟩
  ·rw[← e];rcases List.mem_cons.1 h with rfl | h
   ·exact c2
   ·exact mZ _ _ _ c2 (a1 q h)
  ·rw[← e];exact b1 q h
 ·intro x a y b c1 c2 ih ha hb
  obtain⟨a1,a2⟩:=List.pairwise_cons.1 ha
  obtain⟨b1,b2⟩:=List.pairwise_cons.1 hb
  have e0:x.Name=y.Name:=xE _ _ (by simpa using c1) (by simpa using c2)
  rw[lh,if_neg c1,if_neg c2]
  split
  ·exact ih a2 b2
  ·refine List.pairwise_cons.2 ⟨fun m hm=> ?_,ih a2 b2⟩
   rcases sj _ _ m hm with⟨q,h,e⟩ | ⟨q,h,e⟩
   ·rw[← e];exact a1 q h
   ·rw[← e];show Op.bytesLess x.Name q.Name=true;rw[e0];exact b1 q h
theorem Eh {P:GMono→Prop} (hs:∀ x y:GMono,P x→P y→¬ Op.bytesLess x.Name y.Name=true→¬ Op.bytesLess y.Name x.Name=true→jO (x.By+y.By)→¬ x.By+y.By=0→P ⟨x.Name,x.By+y.By⟩) (a b:List GMono):rU a b→(∀ m∈a,P m)→(∀ m∈b,P m)→∀ m∈n7 a b,P m:=by
 refine tU (P:=fun a b=>rU a b→(∀ m∈a,P m)→(∀ m∈b,P m)→∀ m∈n7 a b,P m) ?_ ?_ ?_ ?_ ?_ a b
 ·intro b _ _ hb m hm;rw[n7]at hm;exact hb m hm
 ·intro x a _ ha _ m hm;rw[n7]at hm;exact ha m hm
 ·intro x a y b c1 ih ho ha hb m hm
  rw[n6,if_pos c1]at ho
  rw[lh,if_pos c1]at hm
  rcases List.mem_cons.1 hm with rfl | hm
  ·exact ha m (by simp)
  ·exact ih ho (fun q hq=>ha q (by simp[hq])) hb m hm
 ·intro x a y b c1 c2 ih ho ha hb m hm
  rw[n6,if_neg c1,if_pos c2]at ho
  rw[lh,if_neg c1,if_pos c2]at hm
  rcases List.mem_cons.1 hm with rfl | hm
  ·exact hb m (by simp)
  ·exact ih ho ha (fun q hq=>hb q (by simp[hq])) m hm
 ·intro x a y b c1 c2 ih ho ha hb m hm
  rw[n6,if_neg c1,if_neg c2]at ho
  rw[lh,if_neg c1,if_neg c2]at hm
  have rest:=ih ho.2 (fun q hq=>ha q (by simp[hq])) (fun q hq=>hb q (by simp[hq]))
  split at hm
  ·exact rest m hm
  ·next hz=>
   rcases List.mem_cons.1 hm with rfl | hm
   ·exact hs x y (ha x (by simp)) (hb y (by simp)) c1 c2 ho.1 hz
   ·exact rest m hm
def H7 (by_:Int) (l:List GMono):List GMono:=l.map fun m=>⟨m.Name,m.By * by_⟩
def GC (by_:Int) (l:List GMono):Prop:=∀ m∈l,jO (m.By * by_)
theorem DJ (a:GLin) (by_:Int) (ha:mL a) (hw:Wf a) (hb:jO by_) (h0:by_≠0) (hl:a.L.length≤100000):
  ∃ r,iv a by_=some r∧((r=(⟨a.K * by_,H7 by_ a.L⟩,0)∧jO (a.K * by_)∧GC by_ a.L)∨(r=(⟨0,[]⟩,3)∧¬ (jO (a.K * by_)∧GC by_ a.L))):=by
 obtain⟨b,b0,b1,_⟩:=ld a (by omega)
 unfold iv
 rw[b1,if_pos (b0.2 ha),Option.bind_some,if_neg (by simp),if_neg (by simpa using h0),uf hw.k hb,Option.bind_some]
 obtain⟨kk,kf,ek,e1,e2⟩:∃ (kk:Int) (kf:Bool),(if jO (a.K * by_)then(a.K * by_,true)else(0,false))=(kk,kf)∧(kf=true↔jO (a.K * by_))∧(jO (a.K * by_)→kk=a.K * by_):=by
  by_cases c:jO (a.K * by_)
  ·exact⟨_,_,if_pos c,⟨fun _=>c,fun _=>rfl⟩,fun _=>rfl⟩
  ·exact⟨_,_,if_neg c,⟨fun h=>(by cases h),fun h=>absurd h c⟩,fun h=>absurd h c⟩
 rw[ek]
 refine nj (L:=fun f (s:Bool×GLin) i=>fQ a by_ f s.1 i s.2) (n:=a.L.length) (by omega)
  (fun i s=>(s.1=true↔jO (a.K * by_)∧GC by_ (a.L.take i))∧s.2.L.length=i∧(s.1=true→s.2=⟨a.K * by_,H7 by_ (a.L.take i)⟩)) _ ?_ ?_ (kf,⟨kk,[]⟩) ⟨by rw[e1];simp[GC],rfl,fun h=>by rw[e2 (e1.1 h)];rfl⟩
 ·rintro f i ⟨fl,out⟩ hi ⟨h1,h2,h3⟩
  obtain⟨x,hx⟩:=bY hi
  have hxm:=List.mem_of_getElem? hx
  dsimp only at h1 h2 h3
  left
  have okt:GC by_ (a.L.take (i+1))↔GC by_ (a.L.take i)∧jO (x.By * by_):=by
   rw[cy hx];unfold GC
   exact⟨fun h=>⟨fun m hm=>h m (List.mem_append_left _ hm),h x (by simp)⟩,fun⟨k1,k2⟩ m hm=>by
    rcases List.mem_append.1 hm with hm | hm
    ·exact k1 m hm
    ·rw[List.mem_singleton.1 hm];exact k2⟩
  by_cases c:jO (x.By * by_)
  ·refine⟨(fl&&true,⟨out.K,out.L++[⟨x.Name,x.By * by_⟩]⟩),⟨?_,by simp[h2],?_⟩,?_⟩
   ·rw[Bool.and_true,h1,okt];exact⟨fun⟨p,q⟩=>⟨p,q,c⟩,fun⟨p,q,_⟩=>⟨p,q⟩⟩
   ·intro hf
    have:=h3 (by simpa using hf)
    rw[this,cy hx];simp[H7]
   ·simp only[fQ]
    rw[if_pos (bS hi),ck hx,Option.bind_some,uf (hw.b x hxm) hb,if_pos c,Option.bind_some,cK (by simp;omega),Option.bind_some,lB (by omega)]
  ·refine⟨(fl&&false,⟨out.K,out.L++[⟨x.Name,0⟩]⟩),⟨?_,by simp[h2],?_⟩,?_⟩
   ·rw[Bool.and_false];exact⟨fun h=>(by cases h),fun⟨_,h⟩=>absurd (okt.1 h).2 c⟩
   ·intro hf;simp at hf
   ·simp only[fQ]
    rw[if_pos (bS hi),ck hx,Option.bind_some,uf (hw.b x hxm) hb,if_neg c,Option.bind_some,cK (by simp;omega),Option.bind_some,lB (by omega)]
 ·rintro f ⟨fl,out⟩ ⟨h1,h2,h3⟩
  rw[List.take_length]at h1 h3
  dsimp only at h1 h3
  simp only[fQ]
  rw[if_neg (by simp),lW]
  cases fl with
  | true=>exact⟨_,by rw[if_neg (by simp)],.inl ⟨by rw[h3 rfl],h1.1 rfl⟩⟩
  | false=>exact⟨_,by rw[if_pos (by simp)],.inr ⟨rfl,fun h=>by have:=h1.2 h;cases this⟩⟩
theorem GI {α:Type} (x:α) (l:List α):lat (x::l) 0=some x:=rfl
theorem wX {α:Type} (x:α) (l:List α):iz (x::l) 1=some l:=by unfold iz;rw[if_pos ⟨by omega,by simp;omega⟩];rfl
theorem xm (name:List UInt8) (x y:Int) (fl:Bool) (out:GLin) (hx:jO x) (hy:jO y) (ho:out.L.length<1000000):
  ∃ s',dG name x y fl out=some ((),s')∧s'.1=(fl&&decide (jO (x+y)))∧s'.2.L.length≤out.L.length+1∧s'.2.K=out.K∧(jO (x+y)→s'.2.L=out.L++if x+y=0 then[]else[⟨name,x+y⟩]):=by
 unfold dG
 rw[AE hx hy,Option.bind_some]
 dsimp only
 by_cases c:az (x+y)=0
 ·refine⟨_,by rw[if_neg (by simpa using c)],rfl,by dsimp only;omega,rfl,fun h=> ?_⟩
  rw[wi h]at c;rw[if_pos c];simp
 ·refine⟨_,by rw[if_pos (by simpa using c),cK (by simp;omega)];rfl,rfl,by simp,rfl,fun h=> ?_⟩
  rw[wi h]at c ⊢;rw[if_neg c]
theorem De:∀ (n f:Nat) (a b:List GMono) (fl:Bool) (out:GLin),a.length+b.length≤n→n<f→(∀ m∈a,m.By≠0∧jO m.By)→(∀ m∈b,m.By≠0∧jO m.By)→out.L.length+n<1000000→
  ∃ s',cD (fun x_1 x_2 x_3 (s:Bool×GLin)=>dG x_1 x_2 x_3 (s.1) (s.2)) f a b (fl,out)=some ((),s')∧(s'.1=true↔fl=true∧rU a b)∧(rU a b→s'.2=⟨out.K,out.L++n7 a b⟩):=by
 intro n
 induction n with
 | zero=>
  intro f a b fl out hn hf ha hb ho
  obtain⟨f,rfl⟩:∃ g,f=g+1:=⟨f - 1,by omega⟩
  obtain rfl:a=[]:=List.length_eq_zero_iff.1 (by omega)
  obtain rfl:b=[]:=List.length_eq_zero_iff.1 (by omega)
  exact⟨(fl,out),by simp only[cD];rw[if_neg (by simp)],by simp[rU],fun _=>by simp[n7]⟩
 | succ n ih=>
  intro f a b fl out hn hf ha hb ho
  obtain⟨f,rfl⟩:∃ g,f=g+1:=⟨f - 1,by omega⟩
  simp only[cD]
  have r0:jO 0:=by decide
  have takeA:∀ x a',a=x::a'→∃ s',((dG x.Name x.By 0 fl out).bind fun x_1=>match x_1 with | (r1,s3)=>(iz a 1).bind fun zs1=>cD (fun x_1 x_2 x_3 (s:Bool×GLin)=>dG x_1 x_2 x_3 (s.1) (s.2)) f zs1 b s3)=some ((),s')∧(s'.1=true↔fl=true∧rU a' b)∧(rU a' b→s'.2=⟨out.K,out.L++x::n7 a' b⟩):=by
   rintro x a' rfl
   obtain⟨h1,h2⟩:=ha x (by simp)
   obtain⟨⟨fl',out'⟩,e1,e2,e3,e4,e5⟩:=xm x.Name x.By 0 fl out h2 r0 (by omega)
   rw[Int.add_zero]at e2 e5
   simp only[List.length_cons]at hn
   obtain⟨s',g1,g2,g3⟩:=ih f a' b fl' out' (by omega) (by omega) (fun m hm=>ha m (by simp[hm])) hb (by dsimp only at e3;omega)
   refine⟨s',by rw[e1,Option.bind_some];dsimp only;rw[wX,Option.bind_some];exact g1,?_,fun h=> ?_⟩
   ·dsimp only at e2;rw[g2,e2];simp[h2]
   ·dsimp only at e4 e5;rw[g3 h,e4,e5 h2,if_neg h1];simp
  have takeB:∀ y b',b=y::b'→∃ s',((dG y.Name 0 y.By fl out).bind fun x_1=>match x_1 with | (r1,s3)=>(iz b 1).bind fun zs1=>cD (fun x_1 x_2 x_3 (s:Bool×GLin)=>dG x_1 x_2 x_3 (s.1) (s.2)) f a zs1 s3)=some ((),s')∧(s'.1=true↔fl=true∧rU a b')∧(rU a b'→s'.2=⟨out.K,out.L++y::n7 a b'⟩):=by
   rintro y b' rfl
   obtain⟨h1,h2⟩:=hb y (by simp)
   obtain⟨⟨fl',out'⟩,e1,e2,e3,e4,e5⟩:=xm y.Name 0 y.By fl out r0 h2 (by omega)
   rw[Int.zero_add]at e2 e5
   simp only[List.length_cons]at hn
   obtain⟨s',g1,g2,g3⟩:=ih f a b' fl' out' (by omega) (by omega) ha (fun m hm=>hb m (by simp[hm])) (by dsimp only at e3;omega)
   refine⟨s',by rw[e1,Option.bind_some];dsimp only;rw[wX,Option.bind_some];exact g1,?_,fun h=> ?_⟩
   ·dsimp only at e2;rw[g2,e2];simp[h2]
   ·dsimp only at e4 e5;rw[g3 h,e4,e5 h2,if_neg h1];simp
  cases a with
  | nil=>
   cases b with
   | nil=>exact⟨(fl,out),by rw[if_neg (by simp)],by simp[rU],fun _=>by simp[n7]⟩
   | cons y b=>
    obtain⟨s',g1,g2,g3⟩:=takeB y b rfl
    refine⟨s',?_,?_,fun _=> ?_⟩
    ·rw[if_pos (by simp)]
     have d1:decide (((y::b).length:Int)=0)=false:=by rw[decide_eq_false_iff_not];simp;omega
     have d2:decide (0<(([]:List GMono).length:Int))=false:=rfl
     have d3:decide ((([]:List GMono).length:Int)=0)=true:=rfl
     simp only[d1,d2,d3,gd,Bool.not_false,Bool.not_true,Bool.and_false,Bool.false_and,Bool.false_or,Bool.true_or,Bool.false_eq_true,if_false,if_true,Option.bind_some,GI]
     exact g1
    ·rw[g2];simp[rU]
    ·rw[g3 (by simp[rU])];simp[n7]
  | cons x a=>
   cases b with
   | nil=>
    obtain⟨s',g1,g2,g3⟩:=takeA x a rfl
    refine⟨s',?_,?_,fun _=> ?_⟩
    ·rw[if_pos (by simp)]
     have d3:decide ((([]:List GMono).length:Int)=0)=true:=rfl
     simp only[d3,gd,Bool.not_true,Bool.false_and,Bool.true_or,Bool.false_eq_true,if_false,if_true,Option.bind_some,GI]
     exact g1
    ·rw[g2];simp[rU,rl]
    ·rw[g3 (rl a),tT];simp[n7]
   | cons y b=>
    rw[if_pos (by simp)]
    have d1:decide (((y::b).length:Int)=0)=false:=by rw[decide_eq_false_iff_not];simp;omega
    have d2:decide (0<((x::a).length:Int))=true:=by rw[decide_eq_true_iff];simp<;>omega
    have d3:decide (((x::a).length:Int)=0)=false:=by rw[decide_eq_false_iff_not];simp;omega
    simp only[d1,d2,d3,gd,Bool.not_false,Bool.and_true,Bool.true_and,Bool.false_or,if_true,Option.bind_some,GI]
    by_cases c1:Op.bytesLess x.Name y.Name=true
    ·obtain⟨s',g1,g2,g3⟩:=takeA x a rfl
     refine⟨s',by rw[if_pos c1];exact g1,?_,fun h=> ?_⟩
     ·rw[g2,n6,if_pos c1]
     ·rw[n6,if_pos c1]at h;rw[g3 h,lh,if_pos c1]
    rw[if_neg c1]
    by_cases c2:Op.bytesLess y.Name x.Name=true
    ·obtain⟨s',g1,g2,g3⟩:=takeB y b rfl
     refine⟨s',by rw[if_pos c2];exact g1,?_,fun h=> ?_⟩
     ·rw[g2,n6,if_neg c1,if_pos c2]
     ·rw[n6,if_neg c1,if_pos c2]at h;rw[g3 h,lh,if_neg c1,if_pos c2]
    rw[if_neg c2]
    obtain⟨h1,h2⟩:=ha x (by simp)
    obtain⟨h3,h4⟩:=hb y (by simp)
    obtain⟨⟨fl',out'⟩,e1,e2,e3,e4,e5⟩:=xm x.Name x.By y.By fl out h2 h4 (by omega)
    simp only[List.length_cons]at hn
    obtain⟨s',g1,g2,g3⟩:=ih f a b fl' out' (by omega) (by omega) (fun m hm=>ha m (by simp[hm])) (fun m hm=>hb m (by simp[hm])) (by dsimp only at e3;omega)
    refine⟨s',by rw[e1,Option.bind_some];dsimp only;rw[wX,Option.bind_some,wX,Option.bind_some];exact g1,?_,fun h=> ?_⟩
    ·dsimp only at e2;rw[g2,e2,n6,if_neg c1,if_neg c2,Bool.and_eq_true,decide_eq_true_iff]
     exact⟨fun⟨⟨p,q⟩,r⟩=>⟨p,q,r⟩,fun⟨p,q,r⟩=>⟨⟨p,q⟩,r⟩⟩
    ·rw[n6,if_neg c1,if_neg c2]at h
     dsimp only at e4 e5
     rw[g3 h.2,e4,e5 h.1,lh,if_neg c1,if_neg c2]
     split<;>simp
theorem GX (a b:GLin) (ha:mL a) (hb:mL b) (wa:Wf a) (wb:Wf b) (hl:a.L.length+b.L.length≤100000):
  ∃ r,gr a b=some r∧((r=(⟨a.K+b.K,n7 a.L b.L⟩,0)∧jO (a.K+b.K)∧rU a.L b.L)∨(r=(⟨0,[]⟩,3)∧¬ (jO (a.K+b.K)∧rU a.L b.L))):=by
 obtain⟨q,q0,q1,_⟩:=ld a (by omega)
 obtain⟨p,p0,p1,_⟩:=ld b (by omega)
 unfold gr
 rw[q1,if_pos (q0.2 ha),Option.bind_some,p1,if_pos (p0.2 hb)]
 simp only[gd,decide_true,Bool.not_true,Bool.not_false,if_true,Option.bind_some,Bool.or_false,Bool.false_eq_true,if_false]
 rw[AE wa.k wb.k,Option.bind_some]
 obtain⟨⟨fl,out⟩,e1,e2,e3⟩:=De (a.L.length+b.L.length) fu a.L b.L (decide (jO (a.K+b.K))) ⟨az (a.K+b.K),[]⟩ (Nat.le_refl _) (by unfold fu;omega) (fun m hm=>⟨(ha.1 m hm).2,wa.b m hm⟩) (fun m hm=>⟨(hb.1 m hm).2,wb.b m hm⟩) (by simp;omega)
 unfold mG
 rw[e1,Option.bind_some]
 dsimp only at e2 e3 ⊢
 rw[decide_eq_true_iff]at e2
 cases fl with
 | true=>
  obtain⟨h1,h2⟩:=e2.1 rfl
  exact⟨_,by rw[if_neg (by simp)],.inl ⟨by rw[e3 h2,wi h1];simp,h1,h2⟩⟩
 | false=>exact⟨_,by rw[if_pos (by simp)],.inr ⟨rfl,fun h=>by have:=e2.2 h;cases this⟩⟩
end Go.Proofs.YtmhoikfoogemnaaGreatDoor
