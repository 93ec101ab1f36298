import Derived.Test.YtmhoikfoogemnaaGreatDoorJEa
namespace Go.Proofs.YtmhoikfoogemnaaGreatDoor
open Go Go.RowKit Go.Vc
set_option linter.unusedVariables false
set_option linter.unusedSimpArgs false
def kn:List (List UInt8)→List UInt8→List (List UInt8)
 | [],s=>[s]
 | x::l,s=>if Op.bytesLess x s=true then x::kn l s else if Op.bytesLess s x=true then s::x::l else x::l
theorem B7 {s x:List UInt8} (h:Op.bytesLess s x=true) (p:List (List UInt8)):kn (p++[x]) s=kn p s++[x]:=by
 induction p with
 | nil=>simp only[List.nil_append,kn];rw[if_neg (by rw[GB h];simp),if_pos h];rfl
 | cons y p ih=>
  simp only[List.cons_append,kn]
  split
  ·rw[ih];rfl
  ·split<;>rfl
theorem zB {s:List UInt8} (p:List (List UInt8)) (h:∀ y∈p,Op.bytesLess y s=true):kn p s=p++[s]:=by
 induction p with
 | nil=>rfl
 | cons y p ih=>simp only[kn];rw[if_pos (h y (by simp)),ih (fun z hz=>h z (by simp[hz]))];rfl
abbrev uF (l:List (List UInt8)):Prop:=l.Pairwise (fun a b=>Op.bytesLess a b=true)
theorem DJ {s:List UInt8} (p:List (List UInt8)) (h:uF p) (hs:s∈p):kn p s=p:=by
 induction p with
 | nil=>cases hs
 | cons y p ih=>
  obtain⟨h1,h2⟩:=List.pairwise_cons.1 h
  simp only[kn]
  rcases List.mem_cons.1 hs with rfl | hs
  ·rw[if_neg (by rw[wz];simp),if_neg (by rw[wz];simp)]
  ·rw[if_pos (h1 s hs),ih h2 hs]
theorem BA {α:Type} (p:List α) (x:α) (q:List α):lat (p++x::q) (p.length:Int)=some x:=by rw[Hm];simp
theorem Bn {α:Type} (p:List α) (x y:α) (q:List α):(p++x::q).set p.length y=p++y::q:=by simp
theorem BD (s:List UInt8):∀ (n f:Nat) (p q:List (List UInt8)),p.length=n→n<f→n<1000000→uF p→s∉p→dX f (p++s::q) (n:Int)=some (kn p s++q)
 | 0,f+1,p,q,hp,hf,hn,ha,hm=>by
  obtain rfl:=List.length_eq_zero_iff.1 hp
  simp only[dX]
  rfl
 | n+1,f+1,p,q,hp,hf,hn,ha,hm=>by
  obtain⟨p',x,rfl⟩:∃ p' x,p=p'++[x]:=⟨p.dropLast,p.getLast (by intro h;subst h;simp at hp),(List.dropLast_concat_getLast _).symm⟩
  have hp':p'.length=n:=by simpa using hp
  have a1:uF p':=(List.pairwise_append.1 ha).1
  have a2:∀ y∈p',Op.bytesLess y x=true:=fun y hy=>(List.pairwise_append.1 ha).2.2 y hy x (by simp)
  have e1:aq (((n+1:Nat):Int) - 1)=(n:Int):=wid (by omega)
  have e2:lat (p'++[x]++s::q) (n:Int)=some x:=by rw[List.append_assoc, ← hp'];exact BA p' x (s::q)
  have e3:lat (p'++[x]++s::q) ((n+1:Nat):Int)=some s:=by rw[← hp];exact BA (p'++[x]) s q
  have e4:decide ((0:Int)<((n+1:Nat):Int))=true:=decide_eq_true (by omega)
  have hne:¬ x=s:=fun h=>hm (by simp[h])
  simp only[dX]
  rw[e4,e1,e2,e3]
  simp only[gd,if_true,Option.bind_some,Bool.true_and]
  by_cases c:Op.bytesLess x s=true
  ·rw[if_neg (by rw[c];simp)]
   rw[zB (p'++[x]) (fun y hy=> ?_)]
   ·simp
   ·rcases List.mem_append.1 hy with hy | hy
    ·exact n5 _ _ _ (a2 y hy) c
    ·rw[List.mem_singleton.1 hy];exact c
  ·have c2:Op.bytesLess s x=true:=by
    rw[Bool.not_eq_true]at c
    cases h:Op.bytesLess s x with
    | true=>rfl
    | false=>exact absurd (yE _ _ c h) hne
   rw[if_pos (by rw[Bool.not_eq_true]at c;rw[c];simp[hne])]
   have l1:((p'++[x]++s::q).length:Int)=(n:Int)+2+q.length:=by simp only[List.length_append,List.length_cons,List.length_nil];omega
   rw[if_pos ⟨by omega,by rw[l1];omega⟩,if_pos ⟨by omega,by rw[List.length_set,l1];omega⟩]
   rw[show Int.toNat ((n+1:Nat):Int)=(p'++[x]).length by simp[hp'],Bn,show Int.toNat (n:Int)=p'.length by omega,List.append_assoc,List.cons_append,List.nil_append,Bn]
   rw[BD s n f p' (x::q) hp' (by omega) (by omega) a1 (fun h=>hm (by simp[h])),B7 c2]
   simp
theorem B6 {l:List (List UInt8)} {s:List UInt8} (ha:uF l) (hl:l.length<1000000):jV l s=some (kn l s):=by
 unfold jV
 rw[BE l s (by omega),Option.bind_some]
 by_cases h:s∈l
 ·rw[if_pos (by simpa using h),DJ l ha h]
 ·rw[if_neg (by simpa using h),eV (by simp only[List.length_cons,List.length_nil];omega),Option.bind_some,Option.bind_some]
  rw[show aq (((l++[s]).length:Int) - 1)=(l.length:Int)by simp only[List.length_append,List.length_cons,List.length_nil];exact wid (by omega)]
  have:=BD s l.length fu l [] rfl (by unfold fu;omega) hl ha h
  rw[this];simp
def oK (l:List GMono):List (List UInt8):=l.map (·.Name)
theorem uM {l:List GMono} (h:D7 l):uF (oK l):=by unfold uF oK;rw[List.pairwise_map];exact h
theorem zu {ls:List GLin} {i:Int} {a:GLin} {self:List (List UInt8)→Int→Option (List (List UInt8))} {o:List (List UInt8)} (h:lat ls i=some a) (hl:o.length+a.L.length<1000000)
  (ha:∀ k≤a.L.length,uF ((oK (a.L.take k)).foldl kn o)∧((oK (a.L.take k)).foldl kn o).length≤o.length+k):
  dp ls i self fu o 0=self ((oK a.L).foldl kn o) (aq (i+1)):=by
 refine kD (L:=fun f (o:List (List UInt8)) k=>dp ls i self f o k) (n:=a.L.length) (by omega) (fun k x=>x=(oK (a.L.take k)).foldl kn o) (fun f k x hk hI=> ?_) (fun f x hI=> ?_) o (by simp[oK])
 ·left
  obtain⟨m,hm⟩:=ct hk
  obtain⟨h1,h2⟩:=ha k (by omega)
  simp only[dp]
  rw[h,Option.bind_some,if_pos (cz hk),Option.bind_some,cI hm,Option.bind_some,hI,B6 h1 (by omega),Option.bind_some,nq (show k<4611686018427387904 by omega)]
  exact⟨_,by rw[cx hm];simp[oK],rfl⟩
 ·rw[List.take_length]at hI
  simp only[dp]
  rw[h,Option.bind_some,if_neg (by simp),hI];rfl
theorem zJ {l:List GMono} (h:D7 l) (k:Nat):(oK (l.take k)).foldl kn []=oK (l.take k):=by
 have key:∀ (l:List (List UInt8)) (o:List (List UInt8)),uF (o++l)→l.foldl kn o=o++l:=by
  intro l
  induction l with
  | nil=>intro o _;simp
  | cons x l ih=>
   intro o h
   rw[List.foldl_cons,zB o (fun y hy=>(List.pairwise_append.1 h).2.2 y hy x (by simp)),ih (o++[x]) (by simpa using h)]
   simp
 exact key _ [] (by simpa using uM (l:=l.take k) (List.Pairwise.sublist (List.take_sublist _ _) h))
theorem Ac {a b:GLin} (ha:D7 a.L) (hb:b.L.length≤1) (hl:a.L.length≤100000):mi [a,b]=some ((oK b.L).foldl kn (oK a.L)):=by
 unfold mi
 have e0:=zJ ha a.L.length
 rw[List.take_length]at e0
 obtain⟨g,hg⟩:∃ g,fu=g+1+1+1:=⟨fu - 3,by unfold fu;omega⟩
 have s1:bY [a,b] (g+1+1+1) [] 0=dp [a,b] 0 (bY [a,b] (g+1+1)) fu [] 0:=by
  simp only[bY];rw[if_pos (by simp)]
 have s2:∀ o,bY [a,b] (g+1+1) o 1=dp [a,b] 1 (bY [a,b] (g+1)) fu o 0:=fun o=>by
  simp only[bY];rw[if_pos (by simp)]
 have s3:∀ o,bY [a,b] (g+1) o 2=some o:=fun o=>by
  simp only[bY];rw[if_neg (by simp)]
 have hA:∀ k≤a.L.length,uF ((oK (a.L.take k)).foldl kn [])∧((oK (a.L.take k)).foldl kn []).length≤([]:List (List UInt8)).length+k:=fun k hk=>by
  rw[zJ ha k]
  refine⟨uM (List.Pairwise.sublist (List.take_sublist _ _) ha),?_⟩
  simp only[oK,List.length_map,List.length_take,List.length_nil];omega
 conv=>lhs;arg 2;rw[hg]
 rw[s1,zu (a:=a) rfl (by simp only[List.length_nil];omega) hA,e0,show aq (0+1)=1 from rfl,s2,zu (a:=b) rfl (by simp only[oK,List.length_map];omega) (fun k hk=> ?_),show aq (1+1)=2 from rfl,s3]
 ·by_cases h0:k=0
  ·subst h0;simp only[List.take_zero];exact⟨uM ha,by simp[oK]⟩
  ·match hbl:b.L,hb with
   | [],_=>rw[hbl]at hk;simp at hk;omega
   | [m],_=>
    rw[hbl]at hk;simp at hk
    obtain rfl:k=1:=by omega
    simp only[List.take_succ_cons,List.take_zero,oK,List.map_cons,List.map_nil,List.foldl_cons,List.foldl_nil]
    have asc:∀ (l:List (List UInt8)) (s:List UInt8),uF l→uF (kn l s)∧(kn l s).length≤l.length+1∧∀ y∈kn l s,y=s∨y∈l:=by
     intro l s
     induction l with
     | nil=>intro _;exact⟨by simp[kn,uF],by simp[kn],fun y hy=> .inl (by simpa[kn]using hy)⟩
     | cons x l ih=>
      intro h
      obtain⟨h1,h2⟩:=List.pairwise_cons.1 h
      obtain⟨i1,i2,i3⟩:=ih h2
      simp only[kn]
      split
      ·next c=>
       refine⟨List.pairwise_cons.2 ⟨fun y hy=> ?_,i1⟩,by simp only[List.length_cons];omega,fun y hy=> ?_⟩
       ·rcases i3 y hy with rfl | hy
        ·exact c
        ·exact h1 y hy
       ·rcases List.mem_cons.1 hy with rfl | hy
        ·exact .inr (by simp)
        ·exact(i3 y hy).imp id (fun h=>by simp[h])
      ·split
       ·next c2=>
        refine⟨List.pairwise_cons.2 ⟨fun y hy=> ?_,h⟩,by simp,fun y hy=>(List.mem_cons.1 hy).imp id id⟩
        rcases List.mem_cons.1 hy with rfl | hy
        ·exact c2
        ·exact n5 _ _ _ c2 (h1 y hy)
       ·exact⟨h,by simp,fun y hy=> .inr hy⟩
    have:=asc (oK a.L) m.Name (uM ha)
    exact⟨this.1,this.2.1⟩
def jI:List GMono→List UInt8→Int
 | [],_=>0
 | x::l,s=>if x.Name=s then x.By else jI l s
theorem Ae (a:GLin) (s:List UInt8) (hl:a.L.length<1000000):mj a s=some (jI a.L s):=by
 refine kD (L:=fun f (_:Unit) i=>fJ a s f i) (n:=a.L.length) (by omega) (fun i _=>jI a.L s=jI (a.L.drop i) s) (fun f i _ hi hI=> ?_) (fun f _ hI=> ?_) () (by simp)
 ·obtain⟨m,hm⟩:=ct hi
  rw[oX hm]at hI
  simp only[jI]at hI
  simp only[fJ]
  rw[if_pos (cz hi),cI hm,Option.bind_some]
  by_cases c:m.Name=s
  ·right;rw[if_pos (by simpa using c),Option.bind_some,hI,if_pos c]
  ·left;rw[if_neg c]at hI;exact⟨(),hI,by rw[if_neg (by simpa using c),nq (show i<4611686018427387904 by omega)]⟩
 ·rw[List.drop_length]at hI
  simp only[fJ]
  rw[if_neg (by simp),hI];rfl
theorem Ck {l:List GMono} {s:List UInt8} (h:s∉oK l):jI l s=0:=by
 induction l with
 | nil=>rfl
 | cons x l ih=>simp only[oK,List.map_cons,List.mem_cons,not_or]at h;simp only[jI];rw[if_neg (fun e=>h.1 e.symm)];exact ih h.2
theorem DT {l:List GMono} (h:∀ m∈l,kh m.By) (s:List UInt8):kh (jI l s):=by
 induction l with
 | nil=>exact⟨by simp[jI],by simp[jI]⟩
 | cons x l ih=>simp only[jI];split;exact h x (by simp);exact ih (fun m hm=>h m (by simp[hm]))
def xS (c:List UInt8→Int) (l:List (List UInt8)):List GMono:=l.filterMap fun n=>if c n=0 then none else some ⟨n,c n⟩
def Dw (c:List UInt8→Int) (l:List (List UInt8)):Prop:=∀ n∈l,kh (c n)
theorem CW (c:List UInt8→Int) (l:List (List UInt8)) (n:List UInt8):xS c (l++[n])=if c n=0 then xS c l else xS c l++[⟨n,c n⟩]:=by
 unfold xS;rw[List.filterMap_append];simp only[List.filterMap_cons,List.filterMap_nil];split<;>simp_all
theorem En (c:List UInt8→Int) (l:List (List UInt8)):(xS c l).length≤l.length:=List.length_filterMap_le _ _
theorem EZ (ns:List (List UInt8)) (a b:GLin) (K:Int) (ha:∀ m∈a.L,kh m.By) (hb:∀ m∈b.L,kh m.By) (la:a.L.length<1000000) (lb:b.L.length<1000000) (hn:ns.length<1000000):
  (Dw (fun n=>jI a.L n+jI b.L n) ns→dq ns a b fu 0 ⟨K,[]⟩=some (⟨K,xS (fun n=>jI a.L n+jI b.L n) ns⟩,0))∧
  (¬ Dw (fun n=>jI a.L n+jI b.L n) ns→dq ns a b fu 0 ⟨K,[]⟩=some (⟨0,[]⟩,3)):=by
 let c:List UInt8→Int:=fun n=>jI a.L n+jI b.L n
 have run:∀ (r0:Option (GLin×Int)),(Dw c ns→r0=some (⟨K,xS c ns⟩,0))→(¬ Dw c ns→r0=some (⟨0,[]⟩,3))→dq ns a b fu 0 ⟨K,[]⟩=r0:=by
  intro r0 h1 h2
  refine kD (L:=fun f (o:GLin) i=>dq ns a b f i o) (n:=ns.length) (by omega) (fun i o=>Dw c (ns.take i)∧o=⟨K,xS c (ns.take i)⟩) (fun f i o hi hI=> ?_) (fun f o hI=> ?_) ⟨K,[]⟩ (by simp[Dw,xS])
  ·obtain⟨n,hn'⟩:=ct hi
   obtain⟨i1,rfl⟩:=hI
   simp only[dq]
   rw[if_pos (cz hi),cI hn',Option.bind_some,Option.bind_some,Ae a n la,Option.bind_some,Ae b n lb,Option.bind_some,rk (DT ha n) (DT hb n),Option.bind_some]
   by_cases q:kh (jI a.L n+jI b.L n)
   ·left
    rw[if_pos q]
    have q':Dw c (ns.take (i+1)):=by
     rw[cx hn'];intro x hx
     rcases List.mem_append.1 hx with hx | hx
     ·exact i1 x hx
     ·rw[List.mem_singleton.1 hx];exact q
    refine⟨⟨K,xS c (ns.take (i+1))⟩,⟨q',rfl⟩,?_⟩
    have hsl:=En c (ns.take i)
    rw[List.length_take]at hsl
    rw[if_neg (by simp),cx hn',CW]
    show(if(!decide (c n=0))=true then _ else _)=_
    by_cases z:c n=0
    ·rw[if_neg (by simp[z]),if_pos z];unfold jW;rw[nq (show i<4611686018427387904 by omega)]
    ·rw[if_pos (by simp[z]),if_neg z,Option.bind_some,eV (by simp only[List.length_cons,List.length_nil];omega),Option.bind_some];unfold jW;rw[nq (show i<4611686018427387904 by omega)]
   ·right
    rw[if_neg q,if_pos (by simp),h2 (fun h=>q (h n (List.mem_of_getElem? hn')))]
  ·rw[List.take_length]at hI
   simp only[dq]
   rw[if_neg (by simp),h1 hI.1,hI.2]
 exact⟨fun h=>run _ (fun _=>rfl) (fun h'=>absurd h h'),fun h=>run _ (fun h'=>absurd h' h) (fun _=>rfl)⟩
theorem Am {c:List UInt8→Int} {l:List GMono} (h:∀ m∈l,c m.Name=m.By∧m.By≠0):xS c (oK l)=l:=by
 induction l with
 | nil=>rfl
 | cons x l ih=>
  obtain⟨h1,h2⟩:=h x (by simp)
  have:=ih (fun m hm=>h m (by simp[hm]))
  unfold xS oK at this ⊢
  rw[List.map_cons,List.filterMap_cons,h1,if_neg h2,this]
theorem AA {c:List UInt8→Int} {l:List GMono} (h:∀ m∈l,c m.Name=m.By∧kh m.By):Dw c (oK l):=by
 intro n hn
 obtain⟨m,hm,rfl⟩:=List.mem_map.1 hn
 show kh (c m.Name)
 rw[(h m hm).1];exact(h m hm).2
theorem Dq (m:GMono) (c:List UInt8→Int) (hm:m.By≠0) (hR:kh m.By):∀ (a:List GMono),D7 a→(∀ x∈a,x.By≠0∧kh x.By)→(∀ x∈a,c x.Name=x.By+if x.Name=m.Name then m.By else 0)→(m.Name∉oK a→c m.Name=m.By)→
  xS c (kn (oK a) m.Name)=o4 a [m]∧(Dw c (kn (oK a) m.Name)↔td a [m])
 | [],_,_,_,h4=>by
  have e:=h4 (by simp[oK])
  simp only[oK,List.map_nil,kn,o4,td]
  refine⟨by unfold xS;rw[List.filterMap_cons,e,if_neg hm];rfl,fun _=>trivial,fun _ n hn=> ?_⟩
  rw[List.mem_singleton.1 hn,e];exact hR
 | x::a,h1,h2,h3,h4=>by
  obtain⟨p1,p2⟩:=List.pairwise_cons.1 h1
  have hx:=h2 x (by simp)
  have hcx:=h3 x (by simp)
  have ih:=Dq m c hm hR a p2 (fun y hy=>h2 y (by simp[hy])) (fun y hy=>h3 y (by simp[hy]))
  rw[l8,oZ]
  show xS c (kn (x.Name::oK a) m.Name)=_ ∧(Dw c (kn (x.Name::oK a) m.Name)↔ _)
  simp only[kn]
  by_cases c1:Op.bytesLess x.Name m.Name=true
  ·rw[if_pos c1,if_pos c1,if_pos c1]
   have hne:=Aa c1
   rw[if_neg hne,Int.add_zero]at hcx
   obtain⟨i1,i2⟩:=ih (fun h=>h4 (by
    show m.Name∉x.Name::oK a
    simp only[List.mem_cons,not_or]
    exact⟨fun e=>hne e.symm,h⟩))
   refine⟨?_,?_⟩
   ·unfold xS at i1 ⊢;rw[List.filterMap_cons,hcx,if_neg hx.1,i1]
   ·rw[← i2];exact⟨fun h n hn=>h n (by simp[hn]),fun h n hn=>by
     rcases List.mem_cons.1 hn with rfl | hn
     ·rw[hcx];exact hx.2
     ·exact h n hn⟩
  ·rw[if_neg c1,if_neg c1,if_neg c1]
   by_cases c2:Op.bytesLess m.Name x.Name=true
   ·rw[if_pos c2,if_pos c2,if_pos c2,uN]
    have lt:∀ y∈x::a,Op.bytesLess m.Name y.Name=true:=fun y hy=>by
     rcases List.mem_cons.1 hy with rfl | hy
     ·exact c2
     ·exact n5 _ _ _ c2 (p1 y hy)
    have hni:m.Name∉oK (x::a):=fun h=>by
     obtain⟨y,hy,e⟩:=List.mem_map.1 h
     have:=Aa (lt y hy)
     exact this e.symm
    have e:=h4 hni
    have hc:∀ y∈x::a,c y.Name=y.By:=fun y hy=>by
     rw[h3 y hy,if_neg (fun e=>Aa (lt y hy) e.symm),Int.add_zero]
    refine⟨?_,?_⟩
    ·have:=Am (c:=c) (l:=x::a) (fun y hy=>⟨hc y hy,(h2 y hy).1⟩)
     unfold xS oK at this ⊢
     rw[List.map_cons]at this
     rw[List.filterMap_cons,e,if_neg hm,this]
    ·have:=AA (c:=c) (l:=x::a) (fun y hy=>⟨hc y hy,(h2 y hy).2⟩)
     refine⟨fun _=>by exact su _,fun _ n hn=> ?_⟩
     rcases List.mem_cons.1 hn with rfl | hn
     ·rw[e];exact hR
     ·exact this n hn
   ·rw[if_neg c2,if_neg c2,if_neg c2,uN]
    have he:x.Name=m.Name:=yE _ _ (by simpa using c1) (by simpa using c2)
    rw[if_pos he]at hcx
    have hc:∀ y∈a,c y.Name=y.By:=fun y hy=>by
     rw[h3 y (by simp[hy]),if_neg (fun e=>Aa (p1 y hy) (he.trans e.symm)),Int.add_zero]
    have i1:=Am (c:=c) (l:=a) (fun y hy=>⟨hc y hy,(h2 y (by simp[hy])).1⟩)
    have i2:=AA (c:=c) (l:=a) (fun y hy=>⟨hc y hy,(h2 y (by simp[hy])).2⟩)
    refine⟨?_,?_⟩
    ·unfold xS at i1 ⊢
     rw[List.filterMap_cons,hcx]
     by_cases z:x.By+m.By=0
     ·rw[if_pos z,if_pos z];exact i1
     ·rw[if_neg z,if_neg z];exact congrArg _ i1
    ·refine⟨fun h=>⟨by have:=h x.Name (by simp);rw[hcx]at this;exact this,by exact su _⟩,fun h n hn=> ?_⟩
     rcases List.mem_cons.1 hn with rfl | hn
     ·rw[hcx];exact h.1
     ·exact i2 n hn
end Go.Proofs.YtmhoikfoogemnaaGreatDoor
namespace Go.Proofs.YtmhoikfoogemnaaGreatDoor
open Go Go.RowKit Go.Vc
set_option linter.unusedVariables false
set_option linter.unusedSimpArgs false
def tm (s:List UInt8) (c:Int):GLin:=if s=[]then⟨c,[]⟩else if c=0 then⟨0,[]⟩else⟨0,[⟨s,c⟩]⟩
structure LinI (l:GLin) (n:Nat):Prop where
 ok:nQ l
 wf:Wf l
 len:l.L.length≤n
theorem LinI.mono {l:GLin} {n m:Nat} (h:LinI l n) (hm:n≤m):LinI l m:=⟨h.ok,h.wf,Nat.le_trans h.len hm⟩
theorem R0:kh 0:=⟨by omega,by omega⟩
theorem LinI.const {k:Int} (h:kh k) (n:Nat):LinI ⟨k,[]⟩ n:=⟨⟨by intro m hm;simp at hm,List.Pairwise.nil⟩,⟨h,by intro m hm;simp at hm,by simp⟩,by simp⟩
theorem vy {s:List UInt8} (h:fk s=true):s≠[]:=by rintro rfl;simp[fk]at h
theorem LinI.one {s:List UInt8} {c:Int} (h:fk s=true) (hc:kh c) (h0:c≠0):LinI ⟨0,[⟨s,c⟩]⟩ 1:=
 ⟨⟨by intro m hm;rw[List.mem_singleton.1 hm];exact⟨h,h0⟩,List.pairwise_singleton _ _⟩,⟨R0,by intro m hm;rw[List.mem_singleton.1 hm];exact hc,by simp⟩,by simp⟩
theorem tm_I {s:List UInt8} {c:Int} (h:s=[]∨fk s=true) (hc:kh c):LinI (tm s c) 1:=by
 unfold tm
 split
 ·exact .const hc 1
 ·next h1=>
  split
  ·exact .const R0 1
  ·next h2=>exact .one (h.resolve_left h1) hc h2
theorem yM {s:List UInt8} (h:fk s=true):lY s=some ⟨0,[⟨s,1⟩]⟩∧eB s=some ⟨0,[⟨s,1⟩]⟩:=by
 unfold lY eB
 rw[rC,jF,h];exact⟨rfl,rfl⟩
theorem mI {l:GLin} {n:Nat} (h:LinI l n) (hn:n≤1000000):gC l=some 0:=by
 obtain⟨b,b0,_,b2⟩:=l6 l (by have:=h.len;omega)
 unfold gC
 rw[b2,b0.2 h.ok];rfl
theorem tc {s:List UInt8} {c:Int} (h:fk s=true) (hc:kh c):iF ⟨0,[⟨s,1⟩]⟩ c=some (tm s c,0)∧fZ ⟨0,[⟨s,1⟩]⟩ c=some (tm s c,0):=by
 have hI:=LinI.one (c:=1) h ⟨by omega,by omega⟩ (by omega)
 have hne:=vy h
 by_cases h0:c=0
 ·subst h0
  obtain⟨b,b0,b1,b2⟩:=l6 ⟨0,[⟨s,1⟩]⟩ (by simp)
  unfold iF fZ tm
  rw[b1,if_pos (b0.2 hI.ok),mI hI (by omega),if_neg hne]
  exact⟨rfl,rfl⟩
 ·have et:tm s c=⟨0,[⟨s,c⟩]⟩:=by unfold tm;rw[if_neg hne,if_neg h0]
  refine⟨?_,?_⟩
  ·obtain⟨r,h1,h2⟩:=D4 _ c hI.ok hI.wf hc h0 (by simp)
   rw[h1,et]
   rcases h2 with⟨rfl,_,_⟩ | ⟨_,h2⟩
   ·simp[HE]
   ·exact absurd ⟨by simpa using R0,by intro m hm;rw[List.mem_singleton.1 hm];simpa using hc⟩ h2
  ·unfold fZ
   rw[mI hI (by omega),Option.bind_some,if_neg (by simp),if_neg (by simpa using h0),p8 R0 hc,Int.zero_mul,if_pos R0,Option.bind_some,if_neg (by simp)]
   obtain⟨g,hg⟩:∃ g,fu=g+1+1:=⟨fu - 2,by unfold fu;omega⟩
   rw[hg]
   simp only[gD]
   rw[if_pos (by simp)]
   show(some (⟨s,1⟩:GMono)).bind _ =_
   rw[Option.bind_some]
   show(iA 1 c).bind _ =_
   rw[p8 ⟨by omega,by omega⟩ hc,Int.one_mul,if_pos hc,Option.bind_some,if_neg (by simp)]
   show(some (⟨s,1⟩:GMono)).bind _ =_
   rw[Option.bind_some,eV (by simp),Option.bind_some,show aq (0+1)=1 from rfl,if_neg (by simp),et]
   rfl
theorem Ao {c:Int} (hc:kh c):fZ ⟨1,[]⟩ c=some (tm [] c,0):=by
 have hI:=LinI.const (k:=1) ⟨by omega,by omega⟩ 1
 unfold fZ tm
 rw[mI hI (by omega),Option.bind_some,if_neg (by simp),if_pos rfl]
 by_cases h0:c=0
 ·subst h0;rfl
 ·rw[if_neg (by simpa using h0)]
  show(iA 1 c).bind _ =_
  rw[p8 ⟨by omega,by omega⟩ hc,Int.one_mul,if_pos hc,Option.bind_some,if_neg (by simp)]
  obtain⟨g,hg⟩:∃ g,fu=g+1:=⟨fu - 1,by unfold fu;omega⟩
  rw[hg]
  simp only[gD]
  rw[if_neg (by simp)]
theorem D8 {f x:GLin} {n:Nat} (hf:LinI f n) (hx:LinI x 1) (hn:n<99999):
  ∃ r,gG f x=some r∧my f x=some r∧((r.2=0∧LinI r.1 (n+1))∨r=(⟨0,[]⟩,3)):=by
 have h1:=hf.len
 have h2:=hx.len
 obtain⟨r,e1,e2⟩:=GI f x hf.ok hx.ok hf.wf hx.wf (by omega)
 have hsame:∀ nm,jI x.L nm=match x.L with | []=>0 | m:: _=>if m.Name=nm then m.By else 0:=fun nm=>by
  match hxl:x.L,h2 with
  | [],_=>rfl
  | [m],_=>simp only[jI]
 have key:xS (fun n=>jI f.L n+jI x.L n) ((oK x.L).foldl kn (oK f.L))=o4 f.L x.L∧(Dw (fun n=>jI f.L n+jI x.L n) ((oK x.L).foldl kn (oK f.L))↔td f.L x.L):=by
  have hfc:∀ y∈f.L,jI f.L y.Name=y.By:=by
   have go:∀ (l:List GMono),D7 l→∀ y∈l,jI l y.Name=y.By:=by
    intro l
    induction l with
    | nil=>intro _ y hy;cases hy
    | cons z l ih=>
     intro h y hy
     obtain⟨p1,p2⟩:=List.pairwise_cons.1 h
     simp only[jI]
     rcases List.mem_cons.1 hy with rfl | hy
     ·rw[if_pos rfl]
     ·rw[if_neg (Aa (p1 y hy))];exact ih p2 y hy
   exact go f.L hf.ok.2
  match hxl:x.L,h2 with
  | [],_=>
   simp only[oK,List.map_nil,List.foldl_nil,uN]
   refine⟨Am fun y hy=>⟨by show jI f.L y.Name+jI [] y.Name=_;rw[hfc y hy];simp[jI],(hf.ok.1 y hy).2⟩,fun _=>su _,fun _=>AA fun y hy=>⟨by show jI f.L y.Name+jI [] y.Name=_;rw[hfc y hy];simp[jI],hf.wf.b y hy⟩⟩
  | [m],_=>
   have hm:m∈x.L:=by rw[hxl];simp
   refine Dq m _ (hx.ok.1 m hm).2 (hx.wf.b m hm) f.L hf.ok.2 (fun y hy=>⟨(hf.ok.1 y hy).2,hf.wf.b y hy⟩) (fun y hy=> ?_) (fun hni=> ?_)
   ·show jI f.L y.Name+jI [m] y.Name=_
    rw[hfc y hy];simp only[jI];congr 1;by_cases c:m.Name=y.Name
    ·rw[if_pos c,if_pos c.symm]
    ·rw[if_neg c,if_neg (fun e=>c e.symm)]
   ·show jI f.L m.Name+jI [m] m.Name=_
    rw[Ck hni];simp[jI]
 have hK:=rk hf.wf.k hx.wf.k
 have hns:((oK x.L).foldl kn (oK f.L)).length<1000000:=by
  have len:∀ (l:List (List UInt8)) (s:List UInt8),(kn l s).length≤l.length+1:=by
   intro l s
   induction l with
   | nil=>simp[kn]
   | cons y l ih=>
    simp only[kn]
    split
    ·simp only[List.length_cons];omega
    ·split<;>simp
  match hxl:x.L,h2 with
  | [],_=>simp only[oK,List.map_nil,List.foldl_nil,List.length_map];omega
  | [m],_=>simp only[oK,List.map_cons,List.map_nil,List.foldl_cons,List.foldl_nil];have:=len (f.L.map (·.Name)) m.Name;rw[List.length_map]at this;omega
 obtain⟨r1,r2⟩:=EZ ((oK x.L).foldl kn (oK f.L)) f x (f.K+x.K) hf.wf.b hx.wf.b (by omega) (by omega) hns
 have eR:my f x=some r:=by
  unfold my
  rw[mI hf (by omega),mI hx (by omega)]
  simp only[gd,decide_true,Bool.not_true,Bool.not_false,if_true,Option.bind_some,Bool.or_false,Bool.false_eq_true,if_false]
  rw[hK,Option.bind_some]
  rcases e2 with⟨rfl,q1,q2⟩ | ⟨rfl,q⟩
  ·rw[if_pos q1,if_neg (by simp),Ac hf.ok.2 h2 (by omega),Option.bind_some]
   dsimp only
   rw[r1 (key.2.2 q2),key.1]
  ·by_cases q1:kh (f.K+x.K)
   ·rw[if_pos q1,if_neg (by simp),Ac hf.ok.2 h2 (by omega),Option.bind_some]
    dsimp only
    rw[r2 (fun h=>q ⟨q1,key.2.1 h⟩)]
   ·rw[if_neg q1,if_pos (by simp)]
 refine⟨r,e1,eR,?_⟩
 rcases e2 with⟨rfl,q1,q2⟩ | ⟨rfl,q⟩
 ·left
  have all:∀ m∈o4 f.L x.L,(fk m.Name=true∧m.By≠0)∧kh m.By:=EC (P:=fun m=>(fk m.Name=true∧m.By≠0)∧kh m.By) (fun y z h1 h2 _ _ hr h0=>⟨⟨h1.1.1,h0⟩,hr⟩) f.L x.L q2 (fun m hm=>⟨hf.ok.1 m hm,hf.wf.b m hm⟩) (fun m hm=>⟨hx.ok.1 m hm,hx.wf.b m hm⟩)
  have hle:=Ez f.L x.L
  exact⟨rfl,⟨⟨fun m hm=>(all m hm).1,EB _ _ hf.ok.2 hx.ok.2⟩,⟨q1,fun m hm=>(all m hm).2,by show(o4 f.L x.L).length≤ _;omega⟩,by show(o4 f.L x.L).length≤ _;omega⟩⟩
 ·exact .inr rfl
end Go.Proofs.YtmhoikfoogemnaaGreatDoor
