import Derived.Test.YtmhoikfoogemnaaGreatDoorKEa
namespace Go.Proofs.YtmhoikfoogemnaaGreatDoor
open Go Go.RowKit Go.Vc
set_option linter.unusedVariables false
set_option linter.unusedSimpArgs false
def kD:List (List UInt8)→List UInt8→List (List UInt8)
 | [],s=>[s]
 | x::l,s=>if Op.bytesLess x s=true then x::kD l s else if Op.bytesLess s x=true then s::x::l else x::l
theorem CK {s x:List UInt8} (h:Op.bytesLess s x=true) (p:List (List UInt8)):kD (p++[x]) s=kD p s++[x]:=by
 induction p with
 | nil=>simp only[List.nil_append,kD];rw[if_neg (by rw[Hu h];simp),if_pos h];rfl
 | cons y p ih=>
  simp only[List.cons_append,kD]
  split
  ·rw[ih];rfl
  ·split<;>rfl
theorem Ad {s:List UInt8} (p:List (List UInt8)) (h:∀ y∈p,Op.bytesLess y s=true):kD p s=p++[s]:=by
 induction p with
 | nil=>rfl
 | cons y p ih=>simp only[kD];rw[if_pos (h y (by simp)),ih (fun z hz=>h z (by simp[hz]))];rfl
abbrev uW (l:List (List UInt8)):Prop:=l.Pairwise (fun a b=>Op.bytesLess a b=true)
theorem Eo {s:List UInt8} (p:List (List UInt8)) (h:uW p) (hs:s∈p):kD p s=p:=by
 induction p with
 | nil=>cases hs
 | cons y p ih=>
  obtain⟨h1,h2⟩:=List.pairwise_cons.1 h
  simp only[kD]
  rcases List.mem_cons.1 hs with rfl | hs
  ·rw[if_neg (by rw[wV];simp),if_neg (by rw[wV];simp)]
  ·rw[if_pos (h1 s hs),ih h2 hs]
theorem yw {α:Type} (p:List α) (x:α) (q:List α):lat (p++x::q) (p.length:Int)=some x:=by rw[Ii];simp
theorem BP {α:Type} (p:List α) (x y:α) (q:List α):(p++x::q).set p.length y=p++y::q:=by simp
theorem B5 (s:List UInt8):∀ (n f:Nat) (p q:List (List UInt8)),p.length=n→n<f→n<1000000→uW p→s∉p→d8 f (p++s::q) (n:Int)=some (kD p s++q)
 | 0,f+1,p,q,hp,hf,hn,ha,hm=>by
  obtain rfl:=List.length_eq_zero_iff.1 hp
  simp only[d8]
  rfl
 | n+1,f+1,p,q,hp,hf,hn,ha,hm=>by
  obtain⟨p',x,rfl⟩:∃ p' x,p=p'++[x]:=⟨p.dropLast,p.getLast (by intro h;subst h;simp at hp),(List.dropLast_concat_getLast _).symm⟩
  have hp':p'.length=n:=by simpa using hp
  have a1:uW p':=(List.pairwise_append.1 ha).1
  have a2:∀ y∈p',Op.bytesLess y x=true:=fun y hy=>(List.pairwise_append.1 ha).2.2 y hy x (by simp)
  have e1:ar (((n+1:Nat):Int) - 1)=(n:Int):=wid (by omega)
  have e2:lat (p'++[x]++s::q) (n:Int)=some x:=by rw[List.append_assoc, ← hp'];exact yw p' x (s::q)
  have e3:lat (p'++[x]++s::q) ((n+1:Nat):Int)=some s:=by rw[← hp];exact yw (p'++[x]) s q
  have e4:decide ((0:Int)<((n+1:Nat):Int))=true:=decide_eq_true (by omega)
  have hne:¬ x=s:=fun h=>hm (by simp[h])
  simp only[d8]
  rw[e4,e1,e2,e3]
  simp only[gd,if_true,Option.bind_some,Bool.true_and]
  by_cases c:Op.bytesLess x s=true
  ·rw[if_neg (by rw[c];simp)]
   rw[Ad (p'++[x]) (fun y hy=> ?_)]
   ·simp
   ·rcases List.mem_append.1 hy with hy | hy
    ·exact oo _ _ _ (a2 y hy) c
    ·rw[List.mem_singleton.1 hy];exact c
  ·have c2:Op.bytesLess s x=true:=by
    rw[Bool.not_eq_true]at c
    cases h:Op.bytesLess s x with
    | true=>rfl
    | false=>exact absurd (y9 _ _ c h) hne
   rw[if_pos (by rw[Bool.not_eq_true]at c;rw[c];simp[hne])]
   have l1:((p'++[x]++s::q).length:Int)=(n:Int)+2+q.length:=by simp only[List.length_append,List.length_cons,List.length_nil];omega
   rw[if_pos ⟨by omega,by rw[l1];omega⟩,if_pos ⟨by omega,by rw[List.length_set,l1];omega⟩]
   rw[show Int.toNat ((n+1:Nat):Int)=(p'++[x]).length by simp[hp'],BP,show Int.toNat (n:Int)=p'.length by omega,List.append_assoc,List.cons_append,List.nil_append,BP]
   rw[B5 s n f p' (x::q) hp' (by omega) (by omega) a1 (fun h=>hm (by simp[h])),CK c2]
   simp
theorem CJ {l:List (List UInt8)} {s:List UInt8} (ha:uW l) (hl:l.length<1000000):ka l s=some (kD l s):=by
 unfold ka
 rw[B6 l s (by omega),Option.bind_some]
 by_cases h:s∈l
 ·rw[if_pos (by simpa using h),Eo l ha h]
 ·rw[if_neg (by simpa using h),eE (by simp only[List.length_cons,List.length_nil];omega),Option.bind_some,Option.bind_some]
  rw[show ar (((l++[s]).length:Int) - 1)=(l.length:Int)by simp only[List.length_append,List.length_cons,List.length_nil];exact wid (by omega)]
  have:=B5 s l.length fu l [] rfl (by unfold fu;omega) hl ha h
  rw[this];simp
def oX (l:List GMono):List (List UInt8):=l.map (·.Name)
theorem vd {l:List GMono} (h:EQ l):uW (oX l):=by unfold uW oX;rw[List.pairwise_map];exact h
theorem z6 {ls:List GLin} {i:Int} {a:GLin} {self:List (List UInt8)→Int→Option (List (List UInt8))} {o:List (List UInt8)} (h:lat ls i=some a) (hl:o.length+a.L.length<1000000)
  (ha:∀ k≤a.L.length,uW ((oX (a.L.take k)).foldl kD o)∧((oX (a.L.take k)).foldl kD o).length≤o.length+k):
  dv ls i self fu o 0=self ((oX a.L).foldl kD o) (ar (i+1)):=by
 refine kO (L:=fun f (o:List (List UInt8)) k=>dv ls i self f o k) (n:=a.L.length) (by omega) (fun k x=>x=(oX (a.L.take k)).foldl kD o) (fun f k x hk hI=> ?_) (fun f x hI=> ?_) o (by simp[oX])
 ·left
  obtain⟨m,hm⟩:=cx hk
  obtain⟨h1,h2⟩:=ha k (by omega)
  simp only[dv]
  rw[h,Option.bind_some,if_pos (cb hk),Option.bind_some,cQ hm,Option.bind_some,hI,CJ h1 (by omega),Option.bind_some,mU (show k<4611686018427387904 by omega)]
  exact⟨_,by rw[cO hm];simp[oX],rfl⟩
 ·rw[List.take_length]at hI
  simp only[dv]
  rw[h,Option.bind_some,if_neg (by simp),hI];rfl
theorem Ak {l:List GMono} (h:EQ l) (k:Nat):(oX (l.take k)).foldl kD []=oX (l.take k):=by
 have key:∀ (l:List (List UInt8)) (o:List (List UInt8)),uW (o++l)→l.foldl kD o=o++l:=by
  intro l
  induction l with
  | nil=>intro o _;simp
  | cons x l ih=>
   intro o h
   rw[List.foldl_cons,Ad o (fun y hy=>(List.pairwise_append.1 h).2.2 y hy x (by simp)),ih (o++[x]) (by simpa using h)]
   simp
 exact key _ [] (by simpa using vd (l:=l.take k) (List.Pairwise.sublist (List.take_sublist _ _) h))
theorem AD {a b:GLin} (ha:EQ a.L) (hb:b.L.length≤1) (hl:a.L.length≤100000):mz [a,b]=some ((oX b.L).foldl kD (oX a.L)):=by
 unfold mz
 have e0:=Ak ha a.L.length
 rw[List.take_length]at e0
 obtain⟨g,hg⟩:∃ g,fu=g+1+1+1:=⟨fu - 3,by unfold fu;omega⟩
 have s1:bY [a,b] (g+1+1+1) [] 0=dv [a,b] 0 (bY [a,b] (g+1+1)) fu [] 0:=by
  simp only[bY];rw[if_pos (by simp)]
 have s2:∀ o,bY [a,b] (g+1+1) o 1=dv [a,b] 1 (bY [a,b] (g+1)) fu o 0:=fun o=>by
  simp only[bY];rw[if_pos (by simp)]
 have s3:∀ o,bY [a,b] (g+1) o 2=some o:=fun o=>by
  simp only[bY];rw[if_neg (by simp)]
 have hA:∀ k≤a.L.length,uW ((oX (a.L.take k)).foldl kD [])∧((oX (a.L.take k)).foldl kD []).length≤([]:List (List UInt8)).length+k:=fun k hk=>by
  rw[Ak ha k]
  refine⟨vd (List.Pairwise.sublist (List.take_sublist _ _) ha),?_⟩
  simp only[oX,List.length_map,List.length_take,List.length_nil];omega
 conv=>lhs;arg 2;rw[hg]
 rw[s1,z6 (a:=a) rfl (by simp only[List.length_nil];omega) hA,e0,show ar (0+1)=1 from rfl,s2,z6 (a:=b) rfl (by simp only[oX,List.length_map];omega) (fun k hk=> ?_),show ar (1+1)=2 from rfl,s3]
 ·by_cases h0:k=0
  ·subst h0;simp only[List.take_zero];exact⟨vd ha,by simp[oX]⟩
  ·match hbl:b.L,hb with
   | [],_=>rw[hbl]at hk;simp at hk;omega
   | [m],_=>
    rw[hbl]at hk;simp at hk
    obtain rfl:k=1:=by omega
    simp only[List.take_succ_cons,List.take_zero,oX,List.map_cons,List.map_nil,List.foldl_cons,List.foldl_nil]
    have asc:∀ (l:List (List UInt8)) (s:List UInt8),uW l→uW (kD l s)∧(kD l s).length≤l.length+1∧∀ y∈kD l s,y=s∨y∈l:=by
     intro l s
     induction l with
     | nil=>intro _;exact⟨by simp[kD,uW],by simp[kD],fun y hy=> .inl (by simpa[kD]using hy)⟩
     | cons x l ih=>
      intro h
      obtain⟨h1,h2⟩:=List.pairwise_cons.1 h
      obtain⟨i1,i2,i3⟩:=ih h2
      simp only[kD]
      split
      ·next c=>
       refine⟨List.pairwise_cons.2 ⟨fun y hy=> ?_,i1⟩,by simp only[List.length_cons];omega,fun y hy=> ?_⟩
       ·rcases i3 y hy with rfl | hy
        ·exact c
        ·exact h1 y hy
       ·rcases List.mem_cons.1 hy with rfl | hy
        ·exact .inr (by simp)
        ·exact(i3 y hy).imp id (fun h=>by simp[h])
      ·split
       ·next c2=>
        refine⟨List.pairwise_cons.2 ⟨fun y hy=> ?_,h⟩,by simp,fun y hy=>(List.mem_cons.1 hy).imp id id⟩
        rcases List.mem_cons.1 hy with rfl | hy
        ·exact c2
        ·exact oo _ _ _ c2 (h1 y hy)
       ·exact⟨h,by simp,fun y hy=> .inr hy⟩
    have:=asc (oX a.L) m.Name (vd ha)
    exact⟨this.1,this.2.1⟩
def j0:List GMono→List UInt8→Int
 | [],_=>0
 | x::l,s=>if x.Name=s then x.By else j0 l s
theorem AE (a:GLin) (s:List UInt8) (hl:a.L.length<1000000):mA a s=some (j0 a.L s):=by
 refine kO (L:=fun f (_:Unit) i=>fX a s f i) (n:=a.L.length) (by omega) (fun i _=>j0 a.L s=j0 (a.L.drop i) s) (fun f i _ hi hI=> ?_) (fun f _ hI=> ?_) () (by simp)
 ·obtain⟨m,hm⟩:=cx hi
  rw[pf hm]at hI
  simp only[j0]at hI
  simp only[fX]
  rw[if_pos (cb hi),cQ hm,Option.bind_some]
  by_cases c:m.Name=s
  ·right;rw[if_pos (by simpa using c),Option.bind_some,hI,if_pos c]
  ·left;rw[if_neg c]at hI;exact⟨(),hI,by rw[if_neg (by simpa using c),mU (show i<4611686018427387904 by omega)]⟩
 ·rw[List.drop_length]at hI
  simp only[fX]
  rw[if_neg (by simp),hI];rfl
theorem CX {l:List GMono} {s:List UInt8} (h:s∉oX l):j0 l s=0:=by
 induction l with
 | nil=>rfl
 | cons x l ih=>simp only[oX,List.map_cons,List.mem_cons,not_or]at h;simp only[j0];rw[if_neg (fun e=>h.1 e.symm)];exact ih h.2
theorem Ez {l:List GMono} (h:∀ m∈l,kB m.By) (s:List UInt8):kB (j0 l s):=by
 induction l with
 | nil=>exact⟨by simp[j0],by simp[j0]⟩
 | cons x l ih=>simp only[j0];split;exact h x (by simp);exact ih (fun m hm=>h m (by simp[hm]))
def yj (c:List UInt8→Int) (l:List (List UInt8)):List GMono:=l.filterMap fun n=>if c n=0 then none else some ⟨n,c n⟩
def Ea (c:List UInt8→Int) (l:List (List UInt8)):Prop:=∀ n∈l,kB (c n)
theorem DB (c:List UInt8→Int) (l:List (List UInt8)) (n:List UInt8):yj c (l++[n])=if c n=0 then yj c l else yj c l++[⟨n,c n⟩]:=by
 unfold yj;rw[List.filterMap_append];simp only[List.filterMap_cons,List.filterMap_nil];split<;>simp_all
theorem Fc (c:List UInt8→Int) (l:List (List UInt8)):(yj c l).length≤l.length:=List.length_filterMap_le _ _
theorem FM (ns:List (List UInt8)) (a b:GLin) (K:Int) (ha:∀ m∈a.L,kB m.By) (hb:∀ m∈b.L,kB m.By) (la:a.L.length<1000000) (lb:b.L.length<1000000) (hn:ns.length<1000000):
  (Ea (fun n=>j0 a.L n+j0 b.L n) ns→dw ns a b fu 0 ⟨K,[]⟩=some (⟨K,yj (fun n=>j0 a.L n+j0 b.L n) ns⟩,0))∧
  (¬ Ea (fun n=>j0 a.L n+j0 b.L n) ns→dw ns a b fu 0 ⟨K,[]⟩=some (⟨0,[]⟩,3)):=by
 let c:List UInt8→Int:=fun n=>j0 a.L n+j0 b.L n
 have run:∀ (r0:Option (GLin×Int)),(Ea c ns→r0=some (⟨K,yj c ns⟩,0))→(¬ Ea c ns→r0=some (⟨0,[]⟩,3))→dw ns a b fu 0 ⟨K,[]⟩=r0:=by
  intro r0 h1 h2
  refine kO (L:=fun f (o:GLin) i=>dw ns a b f i o) (n:=ns.length) (by omega) (fun i o=>Ea c (ns.take i)∧o=⟨K,yj c (ns.take i)⟩) (fun f i o hi hI=> ?_) (fun f o hI=> ?_) ⟨K,[]⟩ (by simp[Ea,yj])
  ·obtain⟨n,hn'⟩:=cx hi
   obtain⟨i1,rfl⟩:=hI
   simp only[dw]
   rw[if_pos (cb hi),cQ hn',Option.bind_some,Option.bind_some,AE a n la,Option.bind_some,AE b n lb,Option.bind_some,rz (Ez ha n) (Ez hb n),Option.bind_some]
   by_cases q:kB (j0 a.L n+j0 b.L n)
   ·left
    rw[if_pos q]
    have q':Ea c (ns.take (i+1)):=by
     rw[cO hn'];intro x hx
     rcases List.mem_append.1 hx with hx | hx
     ·exact i1 x hx
     ·rw[List.mem_singleton.1 hx];exact q
    refine⟨⟨K,yj c (ns.take (i+1))⟩,⟨q',rfl⟩,?_⟩
    have hsl:=Fc c (ns.take i)
    rw[List.length_take]at hsl
    rw[if_neg (by simp),cO hn',DB]
    show(if(!decide (c n=0))=true then _ else _)=_
    by_cases z:c n=0
    ·rw[if_neg (by simp[z]),if_pos z];unfold kb;rw[mU (show i<4611686018427387904 by omega)]
    ·rw[if_pos (by simp[z]),if_neg z,Option.bind_some,eE (by simp only[List.length_cons,List.length_nil];omega),Option.bind_some];unfold kb;rw[mU (show i<4611686018427387904 by omega)]
   ·right
    rw[if_neg q,if_pos (by simp),h2 (fun h=>q (h n (List.mem_of_getElem? hn')))]
  ·rw[List.take_length]at hI
   simp only[dw]
   rw[if_neg (by simp),h1 hI.1,hI.2]
 exact⟨fun h=>run _ (fun _=>rfl) (fun h'=>absurd h h'),fun h=>run _ (fun h'=>absurd h' h) (fun _=>rfl)⟩
theorem AP {c:List UInt8→Int} {l:List GMono} (h:∀ m∈l,c m.Name=m.By∧m.By≠0):yj c (oX l)=l:=by
 induction l with
 | nil=>rfl
 | cons x l ih=>
  obtain⟨h1,h2⟩:=h x (by simp)
  have:=ih (fun m hm=>h m (by simp[hm]))
  unfold yj oX at this ⊢
  rw[List.map_cons,List.filterMap_cons,h1,if_neg h2,this]
theorem Ba {c:List UInt8→Int} {l:List GMono} (h:∀ m∈l,c m.Name=m.By∧kB m.By):Ea c (oX l):=by
 intro n hn
 obtain⟨m,hm,rfl⟩:=List.mem_map.1 hn
 show kB (c m.Name)
 rw[(h m hm).1];exact(h m hm).2
theorem D4 (m:GMono) (c:List UInt8→Int) (hm:m.By≠0) (hR:kB m.By):∀ (a:List GMono),EQ a→(∀ x∈a,x.By≠0∧kB x.By)→(∀ x∈a,c x.Name=x.By+if x.Name=m.Name then m.By else 0)→(m.Name∉oX a→c m.Name=m.By)→
  yj c (kD (oX a) m.Name)=pi a [m]∧(Ea c (kD (oX a) m.Name)↔tA a [m])
 | [],_,_,_,h4=>by
  have e:=h4 (by simp[oX])
  simp only[oX,List.map_nil,kD,pi,tA]
  refine⟨by unfold yj;rw[List.filterMap_cons,e,if_neg hm];rfl,fun _=>trivial,fun _ n hn=> ?_⟩
  rw[List.mem_singleton.1 hn,e];exact hR
 | x::a,h1,h2,h3,h4=>by
  obtain⟨p1,p2⟩:=List.pairwise_cons.1 h1
  have hx:=h2 x (by simp)
  have hcx:=h3 x (by simp)
  have ih:=D4 m c hm hR a p2 (fun y hy=>h2 y (by simp[hy])) (fun y hy=>h3 y (by simp[hy]))
  rw[mp,ph]
  show yj c (kD (x.Name::oX a) m.Name)=_ ∧(Ea c (kD (x.Name::oX a) m.Name)↔ _)
  simp only[kD]
  by_cases c1:Op.bytesLess x.Name m.Name=true
  ·rw[if_pos c1,if_pos c1,if_pos c1]
   have hne:=AB c1
   rw[if_neg hne,Int.add_zero]at hcx
   obtain⟨i1,i2⟩:=ih (fun h=>h4 (by
    show m.Name∉x.Name::oX a
    simp only[List.mem_cons,not_or]
    exact⟨fun e=>hne e.symm,h⟩))
   refine⟨?_,?_⟩
   ·unfold yj at i1 ⊢;rw[List.filterMap_cons,hcx,if_neg hx.1,i1]
   ·rw[← i2];exact⟨fun h n hn=>h n (by simp[hn]),fun h n hn=>by
     rcases List.mem_cons.1 hn with rfl | hn
     ·rw[hcx];exact hx.2
     ·exact h n hn⟩
  ·rw[if_neg c1,if_neg c1,if_neg c1]
   by_cases c2:Op.bytesLess m.Name x.Name=true
   ·rw[if_pos c2,if_pos c2,if_pos c2,ve]
    have lt:∀ y∈x::a,Op.bytesLess m.Name y.Name=true:=fun y hy=>by
     rcases List.mem_cons.1 hy with rfl | hy
     ·exact c2
     ·exact oo _ _ _ c2 (p1 y hy)
    have hni:m.Name∉oX (x::a):=fun h=>by
     obtain⟨y,hy,e⟩:=List.mem_map.1 h
     have:=AB (lt y hy)
     exact this e.symm
    have e:=h4 hni
    have hc:∀ y∈x::a,c y.Name=y.By:=fun y hy=>by
     rw[h3 y hy,if_neg (fun e=>AB (lt y hy) e.symm),Int.add_zero]
    refine⟨?_,?_⟩
    ·have:=AP (c:=c) (l:=x::a) (fun y hy=>⟨hc y hy,(h2 y hy).1⟩)
     unfold yj oX at this ⊢
     rw[List.map_cons]at this
     rw[List.filterMap_cons,e,if_neg hm,this]
    ·have:=Ba (c:=c) (l:=x::a) (fun y hy=>⟨hc y hy,(h2 y hy).2⟩)
     refine⟨fun _=>by exact sP _,fun _ n hn=> ?_⟩
     rcases List.mem_cons.1 hn with rfl | hn
     ·rw[e];exact hR
     ·exact this n hn
   ·rw[if_neg c2,if_neg c2,if_neg c2,ve]
    have he:x.Name=m.Name:=y9 _ _ (by simpa using c1) (by simpa using c2)
    rw[if_pos he]at hcx
    have hc:∀ y∈a,c y.Name=y.By:=fun y hy=>by
     rw[h3 y (by simp[hy]),if_neg (fun e=>AB (p1 y hy) (he.trans e.symm)),Int.add_zero]
    have i1:=AP (c:=c) (l:=a) (fun y hy=>⟨hc y hy,(h2 y (by simp[hy])).1⟩)
    have i2:=Ba (c:=c) (l:=a) (fun y hy=>⟨hc y hy,(h2 y (by simp[hy])).2⟩)
    refine⟨?_,?_⟩
    ·unfold yj at i1 ⊢
     rw[List.filterMap_cons,hcx]
     by_cases z:x.By+m.By=0
     ·rw[if_pos z,if_pos z];exact i1
     ·rw[if_neg z,if_neg z];exact congrArg _ i1
    ·refine⟨fun h=>⟨by have:=h x.Name (by simp);rw[hcx]at this;exact this,by exact sP _⟩,fun h n hn=> ?_⟩
     rcases List.mem_cons.1 hn with rfl | hn
     ·rw[hcx];exact h.1
     ·exact i2 n hn
end Go.Proofs.YtmhoikfoogemnaaGreatDoor
namespace Go.Proofs.YtmhoikfoogemnaaGreatDoor
open Go Go.RowKit Go.Vc
set_option linter.unusedVariables false
set_option linter.unusedSimpArgs false
def tm (s:List UInt8) (c:Int):GLin:=if s=[]then⟨c,[]⟩else if c=0 then⟨0,[]⟩else⟨0,[⟨s,c⟩]⟩
structure LinI (l:GLin) (n:Nat):Prop where
 ok:n9 l
 wf:Wf l
 len:l.L.length≤n
theorem LinI.mono {l:GLin} {n m:Nat} (h:LinI l n) (hm:n≤m):LinI l m:=⟨h.ok,h.wf,Nat.le_trans h.len hm⟩
theorem R0:kB 0:=⟨by omega,by omega⟩
theorem LinI.const {k:Int} (h:kB k) (n:Nat):LinI ⟨k,[]⟩ n:=⟨⟨by intro m hm;simp at hm,List.Pairwise.nil⟩,⟨h,by intro m hm;simp at hm,by simp⟩,by simp⟩
theorem vZ {s:List UInt8} (h:fE s=true):s≠[]:=by rintro rfl;simp[fE]at h
theorem LinI.one {s:List UInt8} {c:Int} (h:fE s=true) (hc:kB c) (h0:c≠0):LinI ⟨0,[⟨s,c⟩]⟩ 1:=
 ⟨⟨by intro m hm;rw[List.mem_singleton.1 hm];exact⟨h,h0⟩,List.pairwise_singleton _ _⟩,⟨R0,by intro m hm;rw[List.mem_singleton.1 hm];exact hc,by simp⟩,by simp⟩
theorem tm_I {s:List UInt8} {c:Int} (h:s=[]∨fE s=true) (hc:kB c):LinI (tm s c) 1:=by
 unfold tm
 split
 ·exact .const hc 1
 ·next h1=>
  split
  ·exact .const R0 1
  ·next h2=>exact .one (h.resolve_left h1) hc h2
theorem zh {s:List UInt8} (h:fE s=true):mf s=some ⟨0,[⟨s,1⟩]⟩∧eK s=some ⟨0,[⟨s,1⟩]⟩:=by
 unfold mf eK
 rw[rN,jZ,h];exact⟨rfl,rfl⟩
theorem m0 {l:GLin} {n:Nat} (h:LinI l n) (hn:n≤1000000):gU l=some 0:=by
 obtain⟨b,b0,_,b2⟩:=ml l (by have:=h.len;omega)
 unfold gU
 rw[b2,b0.2 h.ok];rfl
theorem tz {s:List UInt8} {c:Int} (h:fE s=true) (hc:kB c):iY ⟨0,[⟨s,1⟩]⟩ c=some (tm s c,0)∧gq ⟨0,[⟨s,1⟩]⟩ c=some (tm s c,0):=by
 have hI:=LinI.one (c:=1) h ⟨by omega,by omega⟩ (by omega)
 have hne:=vZ h
 by_cases h0:c=0
 ·subst h0
  obtain⟨b,b0,b1,b2⟩:=ml ⟨0,[⟨s,1⟩]⟩ (by simp)
  unfold iY gq tm
  rw[b1,if_pos (b0.2 hI.ok),m0 hI (by omega),if_neg hne]
  exact⟨rfl,rfl⟩
 ·have et:tm s c=⟨0,[⟨s,c⟩]⟩:=by unfold tm;rw[if_neg hne,if_neg h0]
  refine⟨?_,?_⟩
  ·obtain⟨r,h1,h2⟩:=EL _ c hI.ok hI.wf hc h0 (by simp)
   rw[h1,et]
   rcases h2 with⟨rfl,_,_⟩ | ⟨_,h2⟩
   ·simp[Iz]
   ·exact absurd ⟨by simpa using R0,by intro m hm;rw[List.mem_singleton.1 hm];simpa using hc⟩ h2
  ·unfold gq
   rw[m0 hI (by omega),Option.bind_some,if_neg (by simp),if_neg (by simpa using h0),ql R0 hc,Int.zero_mul,if_pos R0,Option.bind_some,if_neg (by simp)]
   obtain⟨g,hg⟩:∃ g,fu=g+1+1:=⟨fu - 2,by unfold fu;omega⟩
   rw[hg]
   simp only[gV]
   rw[if_pos (by simp)]
   show(some (⟨s,1⟩:GMono)).bind _ =_
   rw[Option.bind_some]
   show(iT 1 c).bind _ =_
   rw[ql ⟨by omega,by omega⟩ hc,Int.one_mul,if_pos hc,Option.bind_some,if_neg (by simp)]
   show(some (⟨s,1⟩:GMono)).bind _ =_
   rw[Option.bind_some,eE (by simp),Option.bind_some,show ar (0+1)=1 from rfl,if_neg (by simp),et]
   rfl
theorem AR {c:Int} (hc:kB c):gq ⟨1,[]⟩ c=some (tm [] c,0):=by
 have hI:=LinI.const (k:=1) ⟨by omega,by omega⟩ 1
 unfold gq tm
 rw[m0 hI (by omega),Option.bind_some,if_neg (by simp),if_pos rfl]
 by_cases h0:c=0
 ·subst h0;rfl
 ·rw[if_neg (by simpa using h0)]
  show(iT 1 c).bind _ =_
  rw[ql ⟨by omega,by omega⟩ hc,Int.one_mul,if_pos hc,Option.bind_some,if_neg (by simp)]
  obtain⟨g,hg⟩:∃ g,fu=g+1:=⟨fu - 1,by unfold fu;omega⟩
  rw[hg]
  simp only[gV]
  rw[if_neg (by simp)]
theorem ER {f x:GLin} {n:Nat} (hf:LinI f n) (hx:LinI x 1) (hn:n<99999):
  ∃ r,gY f x=some r∧mP f x=some r∧((r.2=0∧LinI r.1 (n+1))∨r=(⟨0,[]⟩,3)):=by
 have h1:=hf.len
 have h2:=hx.len
 obtain⟨r,e1,e2⟩:=Hy f x hf.ok hx.ok hf.wf hx.wf (by omega)
 have hsame:∀ nm,j0 x.L nm=match x.L with | []=>0 | m:: _=>if m.Name=nm then m.By else 0:=fun nm=>by
  match hxl:x.L,h2 with
  | [],_=>rfl
  | [m],_=>simp only[j0]
 have key:yj (fun n=>j0 f.L n+j0 x.L n) ((oX x.L).foldl kD (oX f.L))=pi f.L x.L∧(Ea (fun n=>j0 f.L n+j0 x.L n) ((oX x.L).foldl kD (oX f.L))↔tA f.L x.L):=by
  have hfc:∀ y∈f.L,j0 f.L y.Name=y.By:=by
   have go:∀ (l:List GMono),EQ l→∀ y∈l,j0 l y.Name=y.By:=by
    intro l
    induction l with
    | nil=>intro _ y hy;cases hy
    | cons z l ih=>
     intro h y hy
     obtain⟨p1,p2⟩:=List.pairwise_cons.1 h
     simp only[j0]
     rcases List.mem_cons.1 hy with rfl | hy
     ·rw[if_pos rfl]
     ·rw[if_neg (AB (p1 y hy))];exact ih p2 y hy
   exact go f.L hf.ok.2
  match hxl:x.L,h2 with
  | [],_=>
   simp only[oX,List.map_nil,List.foldl_nil,ve]
   refine⟨AP fun y hy=>⟨by show j0 f.L y.Name+j0 [] y.Name=_;rw[hfc y hy];simp[j0],(hf.ok.1 y hy).2⟩,fun _=>sP _,fun _=>Ba fun y hy=>⟨by show j0 f.L y.Name+j0 [] y.Name=_;rw[hfc y hy];simp[j0],hf.wf.b y hy⟩⟩
  | [m],_=>
   have hm:m∈x.L:=by rw[hxl];simp
   refine D4 m _ (hx.ok.1 m hm).2 (hx.wf.b m hm) f.L hf.ok.2 (fun y hy=>⟨(hf.ok.1 y hy).2,hf.wf.b y hy⟩) (fun y hy=> ?_) (fun hni=> ?_)
   ·show j0 f.L y.Name+j0 [m] y.Name=_
    rw[hfc y hy];simp only[j0];congr 1;by_cases c:m.Name=y.Name
    ·rw[if_pos c,if_pos c.symm]
    ·rw[if_neg c,if_neg (fun e=>c e.symm)]
   ·show j0 f.L m.Name+j0 [m] m.Name=_
    rw[CX hni];simp[j0]
 have hK:=rz hf.wf.k hx.wf.k
 have hns:((oX x.L).foldl kD (oX f.L)).length<1000000:=by
  have len:∀ (l:List (List UInt8)) (s:List UInt8),(kD l s).length≤l.length+1:=by
   intro l s
   induction l with
   | nil=>simp[kD]
   | cons y l ih=>
    simp only[kD]
    split
    ·simp only[List.length_cons];omega
    ·split<;>simp
  match hxl:x.L,h2 with
  | [],_=>simp only[oX,List.map_nil,List.foldl_nil,List.length_map];omega
  | [m],_=>simp only[oX,List.map_cons,List.map_nil,List.foldl_cons,List.foldl_nil];have:=len (f.L.map (·.Name)) m.Name;rw[List.length_map]at this;omega
 obtain⟨r1,r2⟩:=FM ((oX x.L).foldl kD (oX f.L)) f x (f.K+x.K) hf.wf.b hx.wf.b (by omega) (by omega) hns
 have eR:mP f x=some r:=by
  unfold mP
  rw[m0 hf (by omega),m0 hx (by omega)]
  simp only[gd,decide_true,Bool.not_true,Bool.not_false,if_true,Option.bind_some,Bool.or_false,Bool.false_eq_true,if_false]
  rw[hK,Option.bind_some]
  rcases e2 with⟨rfl,q1,q2⟩ | ⟨rfl,q⟩
  ·rw[if_pos q1,if_neg (by simp),AD hf.ok.2 h2 (by omega),Option.bind_some]
   dsimp only
   rw[r1 (key.2.2 q2),key.1]
  ·by_cases q1:kB (f.K+x.K)
   ·rw[if_pos q1,if_neg (by simp),AD hf.ok.2 h2 (by omega),Option.bind_some]
    dsimp only
    rw[r2 (fun h=>q ⟨q1,key.2.1 h⟩)]
   ·rw[if_neg q1,if_pos (by simp)]
 refine⟨r,e1,eR,?_⟩
 rcases e2 with⟨rfl,q1,q2⟩ | ⟨rfl,q⟩
 ·left
  have all:∀ m∈pi f.L x.L,(fE m.Name=true∧m.By≠0)∧kB m.By:=Fs (P:=fun m=>(fE m.Name=true∧m.By≠0)∧kB m.By) (fun y z h1 h2 _ _ hr h0=>⟨⟨h1.1.1,h0⟩,hr⟩) f.L x.L q2 (fun m hm=>⟨hf.ok.1 m hm,hf.wf.b m hm⟩) (fun m hm=>⟨hx.ok.1 m hm,hx.wf.b m hm⟩)
  have hle:=Fp f.L x.L
  exact⟨rfl,⟨⟨fun m hm=>(all m hm).1,Fq _ _ hf.ok.2 hx.ok.2⟩,⟨q1,fun m hm=>(all m hm).2,by show(pi f.L x.L).length≤ _;omega⟩,by show(pi f.L x.L).length≤ _;omega⟩⟩
 ·exact .inr rfl
end Go.Proofs.YtmhoikfoogemnaaGreatDoor
