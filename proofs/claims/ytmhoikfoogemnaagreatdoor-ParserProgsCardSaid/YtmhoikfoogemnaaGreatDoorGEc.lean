import Derived.Test.YtmhoikfoogemnaaGreatDoorGEa
namespace Go.Proofs.YtmhoikfoogemnaaGreatDoor
open Go Go.RowKit Go.Vc
set_option linter.unusedVariables false
set_option linter.unusedSimpArgs false
def lu:List (List UInt8)→List UInt8→List (List UInt8)
 | [],s=>[s]
 | x::l,s=>if Op.bytesLess x s=true then x::lu l s else if Op.bytesLess s x=true then s::x::l else x::l
theorem FC {s x:List UInt8} (h:Op.bytesLess s x=true) (p:List (List UInt8)):lu (p++[x]) s=lu p s++[x]:=by
 induction p with
 | nil=>simp only[List.nil_append,lu];rw[if_neg (by rw[Ks h];simp),if_pos h];rfl
 | cons y p ih=>
  simp only[List.cons_append,lu]
  split
  ·rw[ih];rfl
  ·split<;>rfl
theorem CD {s:List UInt8} (p:List (List UInt8)) (h:∀ y∈p,Op.bytesLess y s=true):lu p s=p++[s]:=by
 induction p with
 | nil=>rfl
 | cons y p ih=>simp only[lu];rw[if_pos (h y (by simp)),ih (λz hz=>h z (by simp[hz]))];rfl
abbrev xx (l:List (List UInt8)):Prop:=l.Pairwise (λa b=>Op.bytesLess a b=true)
theorem Hm {s:List UInt8} (p:List (List UInt8)) (h:xx p) (hs:s∈p):lu p s=p:=by
 induction p with
 | nil=>cases hs
 | cons y p ih=>
  obtain⟨h1,h2⟩:=List.pairwise_cons.1 h
  simp only[lu]
  rcases List.mem_cons.1 hs with rfl | hs
  ·rw[if_neg (by rw[y7];simp),if_neg (by rw[y7];simp)]
  ·rw[if_pos (h1 s hs),ih h2 hs]
theorem AX {α:Type} (p:List α) (x:α) (q:List α):lat (p++x::q) (p.length:Int)=some x:=by rw[Ll];simp
theorem Eu {α:Type} (p:List α) (x y:α) (q:List α):(p++x::q).set p.length y=p++y::q:=by simp
theorem EQ (s:List UInt8):∀ (n f:Nat) (p q:List (List UInt8)),p.length=n→n<f→n<1000000→xx p→s∉p→fc f (p++s::q) (n:Int)=some (lu p s++q)
 | 0,f+1,p,q,hp,hf,hn,ha,hm=>by
  obtain rfl:=List.length_eq_zero_iff.1 hp
  simp only[fc]
  rfl
 | n+1,f+1,p,q,hp,hf,hn,ha,hm=>by
  obtain⟨p',x,rfl⟩:∃ p' x,p=p'++[x]:=⟨p.dropLast,p.getLast (by intro h;subst h;simp at hp),(List.dropLast_concat_getLast _).symm⟩
  have hp':p'.length=n:=by simpa using hp
  have a1:xx p':=(List.pairwise_append.1 ha).1
  have a2:∀ y∈p',Op.bytesLess y x=true:=λy hy=>(List.pairwise_append.1 ha).2.2 y hy x (by simp)
  have e1:au (((n+1:Nat):Int) - 1)=(n:Int):=wid (by omega)
  have e2:lat (p'++[x]++s::q) (n:Int)=some x:=by rw[List.append_assoc, ← hp'];exact AX p' x (s::q)
  have e3:lat (p'++[x]++s::q) ((n+1:Nat):Int)=some s:=by rw[← hp];exact AX (p'++[x]) s q
  have e4:decide ((0:Int)<((n+1:Nat):Int))=true:=decide_eq_true (by omega)
  have hne:¬ x=s:=λh=>hm (by simp[h])
  simp only[fc]
  rw[e4,e1,e2,e3]
  simp only[gd,if_true,Option.bind_some,Bool.true_and]
  by_cases c:Op.bytesLess x s=true
  ·rw[if_neg (by rw[c];simp)]
   rw[CD (p'++[x]) (λy hy=>?_)]
   ·simp
   ·rcases List.mem_append.1 hy with hy | hy
    ·exact pN _ _ _ (a2 y hy) c
    ·rw[List.mem_singleton.1 hy];exact c
  ·have c2:Op.bytesLess s x=true:=by
    rw[Bool.not_eq_true]at c
    cases h:Op.bytesLess s x with
    | true=>rfl
    | false=>exact absurd (BG _ _ c h) hne
   rw[if_pos (by rw[Bool.not_eq_true]at c;rw[c];simp[hne])]
   have l1:((p'++[x]++s::q).length:Int)=(n:Int)+2+q.length:=by simp only[List.length_append,List.length_cons,List.length_nil];omega
   rw[if_pos ⟨by omega,by rw[l1];omega⟩,if_pos ⟨by omega,by rw[List.length_set,l1];omega⟩]
   rw[show Int.toNat ((n+1:Nat):Int)=(p'++[x]).length by simp[hp'],Eu,show Int.toNat (n:Int)=p'.length by omega,List.append_assoc,List.cons_append,List.nil_append,Eu]
   rw[EQ s n f p' (x::q) hp' (by omega) (by omega) a1 (λh=>hm (by simp[h])),FC c2]
   simp
theorem FB {l:List (List UInt8)} {s:List UInt8} (ha:xx l) (hl:l.length<1000000):kU l s=some (lu l s):=by
 unfold kU
 rw[ER l s (by omega),Option.bind_some]
 by_cases h:s∈l
 ·rw[if_pos (by simpa using h),Hm l ha h]
 ·rw[if_neg (by simpa using h),cJ (by simp only[List.length_cons,List.length_nil];omega),Option.bind_some,Option.bind_some]
  rw[show au (((l++[s]).length:Int) - 1)=(l.length:Int)by simp only[List.length_append,List.length_cons,List.length_nil];exact wid (by omega)]
  have:=EQ s l.length fu l [] rfl (by unfold fu;omega) hl ha h
  rw[this];simp
def qz (l:List GMono):List (List UInt8):=l.map (·.Name)
theorem xE {l:List GMono} (h:HK l):xx (qz l):=by unfold xx qz;rw[List.pairwise_map];exact h
theorem Cu {ls:List GLin} {i:Int} {a:GLin} {self:List (List UInt8)→Int→Option (List (List UInt8))} {o:List (List UInt8)} (h:lat ls i=some a) (hl:o.length+a.L.length<1000000)
  (ha:∀ k≤a.L.length,xx ((qz (a.L.take k)).foldl lu o)∧((qz (a.L.take k)).foldl lu o).length≤o.length+k):
  dX ls i self fu o 0=self ((qz a.L).foldl lu o) (au (i+1)):=by
 refine kQ (L:=λf (o:List (List UInt8)) k=>dX ls i self f o k) (n:=a.L.length) (by omega) (λk x=>x=(qz (a.L.take k)).foldl lu o) (λf k x hk hI=>?_) (λf x hI=>?_) o (by simp[qz])
 ·left
  obtain⟨m,hm⟩:=cC hk
  obtain⟨h1,h2⟩:=ha k (by omega)
  simp only[dX]
  rw[h,Option.bind_some,if_pos (bS hk),Option.bind_some,cD hm,Option.bind_some,hI,FB h1 (by omega),Option.bind_some,nu (show k<4611686018427387904 by omega)]
  exact⟨_,by rw[dm hm];simp[qz],rfl⟩
 ·rw[List.take_length]at hI
  simp only[dX]
  rw[h,Option.bind_some,if_neg (by simp),hI];rfl
theorem CI {l:List GMono} (h:HK l) (k:Nat):(qz (l.take k)).foldl lu []=qz (l.take k):=by
 have key:∀ (l:List (List UInt8)) (o:List (List UInt8)),xx (o++l)→l.foldl lu o=o++l:=by
  intro l
  induction l with
  | nil=>intro o _;simp
  | cons x l ih=>
   intro o h
   rw[List.foldl_cons,CD o (λy hy=>(List.pairwise_append.1 h).2.2 y hy x (by simp)),ih (o++[x]) (by simpa using h)]
   simp
 exact key _ [] (by simpa using xE (l:=l.take k) (List.Pairwise.sublist (List.take_sublist _ _) h))
theorem Df {a b:GLin} (ha:HK a.L) (hb:b.L.length≤1) (hl:a.L.length≤100000):nI [a,b]=some ((qz b.L).foldl lu (qz a.L)):=by
 unfold nI
 have e0:=CI ha a.L.length
 rw[List.take_length]at e0
 obtain⟨g,hg⟩:∃ g,fu=g+1+1+1:=⟨fu - 3,by unfold fu;omega⟩
 have s1:co [a,b] (g+1+1+1) [] 0=dX [a,b] 0 (co [a,b] (g+1+1)) fu [] 0:=by
  simp only[co];rw[if_pos (by simp)]
 have s2:∀ o,co [a,b] (g+1+1) o 1=dX [a,b] 1 (co [a,b] (g+1)) fu o 0:=λo=>by
  simp only[co];rw[if_pos (by simp)]
 have s3:∀ o,co [a,b] (g+1) o 2=some o:=λo=>by
  simp only[co];rw[if_neg (by simp)]
 have hA:∀ k≤a.L.length,xx ((qz (a.L.take k)).foldl lu [])∧((qz (a.L.take k)).foldl lu []).length≤([]:List (List UInt8)).length+k:=λk hk=>by
  rw[CI ha k]
  refine⟨xE (List.Pairwise.sublist (List.take_sublist _ _) ha),?_⟩
  simp only[qz,List.length_map,List.length_take,List.length_nil];omega
 conv=>lhs;arg 2;rw[hg]
 rw[s1,Cu (a:=a) rfl (by simp only[List.length_nil];omega) hA,e0,show au (0+1)=1 from rfl,s2,Cu (a:=b) rfl (by simp only[qz,List.length_map];omega) (λk hk=>?_),show au (1+1)=2 from rfl,s3]
 ·by_cases h0:k=0
  ·subst h0;simp only[List.take_zero];exact⟨xE ha,by simp[qz]⟩
  ·match hbl:b.L,hb with
   | [],_=>rw[hbl]at hk;simp at hk;omega
   | [m],_=>
    rw[hbl]at hk;simp at hk
    obtain rfl:k=1:=by omega
    simp only[List.take_succ_cons,List.take_zero,qz,List.map_cons,List.map_nil,List.foldl_cons,List.foldl_nil]
    have asc:∀ (l:List (List UInt8)) (s:List UInt8),xx l→xx (lu l s)∧(lu l s).length≤l.length+1∧∀ y∈lu l s,y=s∨y∈l:=by
     intro l s
     induction l with
     | nil=>intro _;exact⟨by simp[lu,xx],by simp[lu],λy hy=> .inl (by simpa[lu]using hy)⟩
     | cons x l ih=>
      intro h
      obtain⟨h1,h2⟩:=List.pairwise_cons.1 h
      obtain⟨i1,i2,i3⟩:=ih h2
      simp only[lu]
      split
      ·next c=>
       refine⟨List.pairwise_cons.2 ⟨λy hy=>?_,i1⟩,by simp only[List.length_cons];omega,λy hy=>?_⟩
       ·rcases i3 y hy with rfl | hy
        ·exact c
        ·exact h1 y hy
       ·rcases List.mem_cons.1 hy with rfl | hy
        ·exact .inr (by simp)
        ·exact(i3 y hy).imp id (λh=>by simp[h])
      ·split
       ·next c2=>
        refine⟨List.pairwise_cons.2 ⟨λy hy=>?_,h⟩,by simp,λy hy=>(List.mem_cons.1 hy).imp id id⟩
        rcases List.mem_cons.1 hy with rfl | hy
        ·exact c2
        ·exact pN _ _ _ c2 (h1 y hy)
       ·exact⟨h,by simp,λy hy=> .inr hy⟩
    have:=asc (qz a.L) m.Name (xE ha)
    exact⟨this.1,this.2.1⟩
def kM:List GMono→List UInt8→Int
 | [],_=>0
 | x::l,s=>if x.Name=s then x.By else kM l s
theorem Dg (a:GLin) (s:List UInt8) (hl:a.L.length<1000000):nJ a s=some (kM a.L s):=by
 refine kQ (L:=λf (_:Unit) i=>gN a s f i) (n:=a.L.length) (by omega) (λi _=>kM a.L s=kM (a.L.drop i) s) (λf i _ hi hI=>?_) (λf _ hI=>?_) () (by simp)
 ·obtain⟨m,hm⟩:=cC hi
  rw[qJ hm]at hI
  simp only[kM]at hI
  simp only[gN]
  rw[if_pos (bS hi),cD hm,Option.bind_some]
  by_cases c:m.Name=s
  ·right;rw[if_pos (by simpa using c),Option.bind_some,hI,if_pos c]
  ·left;rw[if_neg c]at hI;exact⟨(),hI,by rw[if_neg (by simpa using c),nu (show i<4611686018427387904 by omega)]⟩
 ·rw[List.drop_length]at hI
  simp only[gN]
  rw[if_neg (by simp),hI];rfl
theorem FO {l:List GMono} {s:List UInt8} (h:s∉qz l):kM l s=0:=by
 induction l with
 | nil=>rfl
 | cons x l ih=>simp only[qz,List.map_cons,List.mem_cons,not_or]at h;simp only[kM];rw[if_neg (λe=>h.1 e.symm)];exact ih h.2
theorem Hy {l:List GMono} (h:∀ m∈l,lq m.By) (s:List UInt8):lq (kM l s):=by
 induction l with
 | nil=>exact⟨by simp[kM],by simp[kM]⟩
 | cons x l ih=>simp only[kM];split;exact h x (by simp);exact ih (λm hm=>h m (by simp[hm]))
def AD (c:List UInt8→Int) (l:List (List UInt8)):List GMono:=l.filterMap λn=>if c n=0 then none else some ⟨n,c n⟩
def G5 (c:List UInt8→Int) (l:List (List UInt8)):Prop:=∀ n∈l,lq (c n)
theorem Gr (c:List UInt8→Int) (l:List (List UInt8)) (n:List UInt8):AD c (l++[n])=if c n=0 then AD c l else AD c l++[⟨n,c n⟩]:=by
 unfold AD;rw[List.filterMap_append];simp only[List.filterMap_cons,List.filterMap_nil];split<;>simp_all
theorem H8 (c:List UInt8→Int) (l:List (List UInt8)):(AD c l).length≤l.length:=List.length_filterMap_le _ _
theorem IG (ns:List (List UInt8)) (a b:GLin) (K:Int) (ha:∀ m∈a.L,lq m.By) (hb:∀ m∈b.L,lq m.By) (la:a.L.length<1000000) (lb:b.L.length<1000000) (hn:ns.length<1000000):
  (G5 (λn=>kM a.L n+kM b.L n) ns→dY ns a b fu 0 ⟨K,[]⟩=some (⟨K,AD (λn=>kM a.L n+kM b.L n) ns⟩,0))∧
  (¬ G5 (λn=>kM a.L n+kM b.L n) ns→dY ns a b fu 0 ⟨K,[]⟩=some (⟨0,[]⟩,3)):=by
 let c:List UInt8→Int:=λn=>kM a.L n+kM b.L n
 have run:∀ (r0:Option (GLin×Int)),(G5 c ns→r0=some (⟨K,AD c ns⟩,0))→(¬ G5 c ns→r0=some (⟨0,[]⟩,3))→dY ns a b fu 0 ⟨K,[]⟩=r0:=by
  intro r0 h1 h2
  refine kQ (L:=λf (o:GLin) i=>dY ns a b f i o) (n:=ns.length) (by omega) (λi o=>G5 c (ns.take i)∧o=⟨K,AD c (ns.take i)⟩) (λf i o hi hI=>?_) (λf o hI=>?_) ⟨K,[]⟩ (by simp[G5,AD])
  ·obtain⟨n,hn'⟩:=cC hi
   obtain⟨i1,rfl⟩:=hI
   simp only[dY]
   rw[if_pos (bS hi),cD hn',Option.bind_some,Option.bind_some,Dg a n la,Option.bind_some,Dg b n lb,Option.bind_some,ud (Hy ha n) (Hy hb n),Option.bind_some]
   by_cases q:lq (kM a.L n+kM b.L n)
   ·left
    rw[if_pos q]
    have q':G5 c (ns.take (i+1)):=by
     rw[dm hn'];intro x hx
     rcases List.mem_append.1 hx with hx | hx
     ·exact i1 x hx
     ·rw[List.mem_singleton.1 hx];exact q
    refine⟨⟨K,AD c (ns.take (i+1))⟩,⟨q',rfl⟩,?_⟩
    have hsl:=H8 c (ns.take i)
    rw[List.length_take]at hsl
    rw[if_neg (by simp),dm hn',Gr]
    show(if(!decide (c n=0))=true then _ else _)=_
    by_cases z:c n=0
    ·rw[if_neg (by simp[z]),if_pos z];unfold kV;rw[nu (show i<4611686018427387904 by omega)]
    ·rw[if_pos (by simp[z]),if_neg z,Option.bind_some,cJ (by simp only[List.length_cons,List.length_nil];omega),Option.bind_some];unfold kV;rw[nu (show i<4611686018427387904 by omega)]
   ·right
    rw[if_neg q,if_pos (by simp),h2 (λh=>q (h n (List.mem_of_getElem? hn')))]
  ·rw[List.take_length]at hI
   simp only[dY]
   rw[if_neg (by simp),h1 hI.1,hI.2]
 exact⟨λh=>run _ (λ_=>rfl) (λh'=>absurd h h'),λh=>run _ (λh'=>absurd h' h) (λ_=>rfl)⟩
theorem Ds {c:List UInt8→Int} {l:List GMono} (h:∀ m∈l,c m.Name=m.By∧m.By≠0):AD c (qz l)=l:=by
 induction l with
 | nil=>rfl
 | cons x l ih=>
  obtain⟨h1,h2⟩:=h x (by simp)
  have:=ih (λm hm=>h m (by simp[hm]))
  unfold AD qz at this ⊢
  rw[List.map_cons,List.filterMap_cons,h1,if_neg h2,this]
theorem DI {c:List UInt8→Int} {l:List GMono} (h:∀ m∈l,c m.Name=m.By∧lq m.By):G5 c (qz l):=by
 intro n hn
 obtain⟨m,hm,rfl⟩:=List.mem_map.1 hn
 show lq (c m.Name)
 rw[(h m hm).1];exact(h m hm).2
theorem GT (m:GMono) (c:List UInt8→Int) (hm:m.By≠0) (hR:lq m.By):∀ (a:List GMono),HK a→(∀ x∈a,x.By≠0∧lq x.By)→(∀ x∈a,c x.Name=x.By+if x.Name=m.Name then m.By else 0)→(m.Name∉qz a→c m.Name=m.By)→
  AD c (lu (qz a) m.Name)=qS a [m]∧(G5 c (lu (qz a) m.Name)↔vZ a [m])
 | [],_,_,_,h4=>by
  have e:=h4 (by simp[qz])
  simp only[qz,List.map_nil,lu,qS,vZ]
  refine⟨by unfold AD;rw[List.filterMap_cons,e,if_neg hm];rfl,λ_=>trivial,λ_ n hn=>?_⟩
  rw[List.mem_singleton.1 hn,e];exact hR
 | x::a,h1,h2,h3,h4=>by
  obtain⟨p1,p2⟩:=List.pairwise_cons.1 h1
  have hx:=h2 x (by simp)
  have hcx:=h3 x (by simp)
  have ih:=GT m c hm hR a p2 (λy hy=>h2 y (by simp[hy])) (λy hy=>h3 y (by simp[hy]))
  rw[nw,qR]
  show AD c (lu (x.Name::qz a) m.Name)=_ ∧(G5 c (lu (x.Name::qz a) m.Name)↔ _)
  simp only[lu]
  by_cases c1:Op.bytesLess x.Name m.Name=true
  ·rw[if_pos c1,if_pos c1,if_pos c1]
   have hne:=Dd c1
   rw[if_neg hne,Int.add_zero]at hcx
   obtain⟨i1,i2⟩:=ih (λh=>h4 (by
    show m.Name∉x.Name::qz a
    simp only[List.mem_cons,not_or]
    exact⟨λe=>hne e.symm,h⟩))
   refine⟨?_,?_⟩
   ·unfold AD at i1 ⊢;rw[List.filterMap_cons,hcx,if_neg hx.1,i1]
   ·rw[← i2];exact⟨λh n hn=>h n (by simp[hn]),λh n hn=>by
     rcases List.mem_cons.1 hn with rfl | hn
     ·rw[hcx];exact hx.2
     ·exact h n hn⟩
  ·rw[if_neg c1,if_neg c1,if_neg c1]
   by_cases c2:Op.bytesLess m.Name x.Name=true
   ·rw[if_pos c2,if_pos c2,if_pos c2,xF]
    have lt:∀ y∈x::a,Op.bytesLess m.Name y.Name=true:=λy hy=>by
     rcases List.mem_cons.1 hy with rfl | hy
     ·exact c2
     ·exact pN _ _ _ c2 (p1 y hy)
    have hni:m.Name∉qz (x::a):=λh=>by
     obtain⟨y,hy,e⟩:=List.mem_map.1 h
     have:=Dd (lt y hy)
     exact this e.symm
    have e:=h4 hni
    have hc:∀ y∈x::a,c y.Name=y.By:=λy hy=>by
     rw[h3 y hy,if_neg (λe=>Dd (lt y hy) e.symm),Int.add_zero]
    refine⟨?_,?_⟩
    ·have:=Ds (c:=c) (l:=x::a) (λy hy=>⟨hc y hy,(h2 y hy).1⟩)
     unfold AD qz at this ⊢
     rw[List.map_cons]at this
     rw[List.filterMap_cons,e,if_neg hm,this]
    ·have:=DI (c:=c) (l:=x::a) (λy hy=>⟨hc y hy,(h2 y hy).2⟩)
     refine⟨λ_=>by exact vo _,λ_ n hn=>?_⟩
     rcases List.mem_cons.1 hn with rfl | hn
     ·rw[e];exact hR
     ·exact this n hn
   ·rw[if_neg c2,if_neg c2,if_neg c2,xF]
    have he:x.Name=m.Name:=BG _ _ (by simpa using c1) (by simpa using c2)
    rw[if_pos he]at hcx
    have hc:∀ y∈a,c y.Name=y.By:=λy hy=>by
     rw[h3 y (by simp[hy]),if_neg (λe=>Dd (p1 y hy) (he.trans e.symm)),Int.add_zero]
    have i1:=Ds (c:=c) (l:=a) (λy hy=>⟨hc y hy,(h2 y (by simp[hy])).1⟩)
    have i2:=DI (c:=c) (l:=a) (λy hy=>⟨hc y hy,(h2 y (by simp[hy])).2⟩)
    refine⟨?_,?_⟩
    ·unfold AD at i1 ⊢
     rw[List.filterMap_cons,hcx]
     by_cases z:x.By+m.By=0
     ·rw[if_pos z,if_pos z];exact i1
     ·rw[if_neg z,if_neg z];exact congrArg _ i1
    ·refine⟨λh=>⟨by have:=h x.Name (by simp);rw[hcx]at this;exact this,by exact vo _⟩,λh n hn=>?_⟩
     rcases List.mem_cons.1 hn with rfl | hn
     ·rw[hcx];exact h.1
     ·exact i2 n hn
end Go.Proofs.YtmhoikfoogemnaaGreatDoor
namespace Go.Proofs.YtmhoikfoogemnaaGreatDoor
open Go Go.RowKit Go.Vc
set_option linter.unusedVariables false
set_option linter.unusedSimpArgs false
def tm (s:List UInt8) (c:Int):GLin:=if s=[]then⟨c,[]⟩else if c=0 then⟨0,[]⟩else⟨0,[⟨s,c⟩]⟩
structure LinI (l:GLin) (n:Nat):Prop where
 ok:pC l
 wf:Wf l
 len:l.L.length≤n
theorem LinI.mono {l:GLin} {n m:Nat} (h:LinI l n) (hm:n≤m):LinI l m:=⟨h.ok,h.wf,Nat.le_trans h.len hm⟩
theorem R0:lq 0:=⟨by omega,by omega⟩
theorem LinI.const {k:Int} (h:lq k) (n:Nat):LinI ⟨k,[]⟩ n:=⟨⟨by intro m hm;simp at hm,List.Pairwise.nil⟩,⟨h,by intro m hm;simp at hm,by simp⟩,by simp⟩
theorem yh {s:List UInt8} (h:gr s=true):s≠[]:=by rintro rfl;simp[gr]at h
theorem LinI.one {s:List UInt8} {c:Int} (h:gr s=true) (hc:lq c) (h0:c≠0):LinI ⟨0,[⟨s,c⟩]⟩ 1:=
 ⟨⟨by intro m hm;rw[List.mem_singleton.1 hm];exact⟨h,h0⟩,List.pairwise_singleton _ _⟩,⟨R0,by intro m hm;rw[List.mem_singleton.1 hm];exact hc,by simp⟩,by simp⟩
theorem tm_I {s:List UInt8} {c:Int} (h:s=[]∨gr s=true) (hc:lq c):LinI (tm s c) 1:=by
 unfold tm
 split
 ·exact .const hc 1
 ·next h1=>
  split
  ·exact .const R0 1
  ·next h2=>exact .one (h.resolve_left h1) hc h2
theorem BO {s:List UInt8} (h:gr s=true):nh s=some ⟨0,[⟨s,1⟩]⟩∧fG s=some ⟨0,[⟨s,1⟩]⟩:=by
 unfold nh fG
 rw[ux,kK,h];exact⟨rfl,rfl⟩
theorem oh {l:GLin} {n:Nat} (h:LinI l n) (hn:n≤1000000):iG l=some 0:=by
 obtain⟨b,b0,_,b2⟩:=np l (by have:=h.len;omega)
 unfold iG
 rw[b2,b0.2 h.ok];rfl
theorem vX {s:List UInt8} {c:Int} (h:gr s=true) (hc:lq c):jB ⟨0,[⟨s,1⟩]⟩ c=some (tm s c,0)∧g9 ⟨0,[⟨s,1⟩]⟩ c=some (tm s c,0):=by
 have hI:=LinI.one (c:=1) h ⟨by omega,by omega⟩ (by omega)
 have hne:=yh h
 by_cases h0:c=0
 ·subst h0
  obtain⟨b,b0,b1,b2⟩:=np ⟨0,[⟨s,1⟩]⟩ (by simp)
  unfold jB g9 tm
  rw[b1,if_pos (b0.2 hI.ok),oh hI (by omega),if_neg hne]
  exact⟨rfl,rfl⟩
 ·have et:tm s c=⟨0,[⟨s,c⟩]⟩:=by unfold tm;rw[if_neg hne,if_neg h0]
  refine⟨?_,?_⟩
  ·obtain⟨r,h1,h2⟩:=HH _ c hI.ok hI.wf hc h0 (by simp)
   rw[h1,et]
   rcases h2 with⟨rfl,_,_⟩ | ⟨_,h2⟩
   ·simp[LI]
   ·exact absurd ⟨by simpa using R0,by intro m hm;rw[List.mem_singleton.1 hm];simpa using hc⟩ h2
  ·unfold g9
   rw[oh hI (by omega),Option.bind_some,if_neg (by simp),if_neg (by simpa using h0),so R0 hc,Int.zero_mul,if_pos R0,Option.bind_some,if_neg (by simp)]
   obtain⟨g,hg⟩:∃ g,fu=g+1+1:=⟨fu - 2,by unfold fu;omega⟩
   rw[hg]
   simp only[iH]
   rw[if_pos (by simp)]
   show(some (⟨s,1⟩:GMono)).bind _ =_
   rw[Option.bind_some]
   show(jw 1 c).bind _ =_
   rw[so ⟨by omega,by omega⟩ hc,Int.one_mul,if_pos hc,Option.bind_some,if_neg (by simp)]
   show(some (⟨s,1⟩:GMono)).bind _ =_
   rw[Option.bind_some,cJ (by simp),Option.bind_some,show au (0+1)=1 from rfl,if_neg (by simp),et]
   rfl
theorem Du {c:Int} (hc:lq c):g9 ⟨1,[]⟩ c=some (tm [] c,0):=by
 have hI:=LinI.const (k:=1) ⟨by omega,by omega⟩ 1
 unfold g9 tm
 rw[oh hI (by omega),Option.bind_some,if_neg (by simp),if_pos rfl]
 by_cases h0:c=0
 ·subst h0;rfl
 ·rw[if_neg (by simpa using h0)]
  show(jw 1 c).bind _ =_
  rw[so ⟨by omega,by omega⟩ hc,Int.one_mul,if_pos hc,Option.bind_some,if_neg (by simp)]
  obtain⟨g,hg⟩:∃ g,fu=g+1:=⟨fu - 1,by unfold fu;omega⟩
  rw[hg]
  simp only[iH]
  rw[if_neg (by simp)]
theorem HL {f x:GLin} {n:Nat} (hf:LinI f n) (hx:LinI x 1) (hn:n<99999):
  ∃ r,iJ f x=some r∧n0 f x=some r∧((r.2=0∧LinI r.1 (n+1))∨r=(⟨0,[]⟩,3)):=by
 have h1:=hf.len
 have h2:=hx.len
 obtain⟨r,e1,e2⟩:=Kx f x hf.ok hx.ok hf.wf hx.wf (by omega)
 have hsame:∀ nm,kM x.L nm=match x.L with | []=>0 | m:: _=>if m.Name=nm then m.By else 0:=λnm=>by
  match hxl:x.L,h2 with
  | [],_=>rfl
  | [m],_=>simp only[kM]
 have key:AD (λn=>kM f.L n+kM x.L n) ((qz x.L).foldl lu (qz f.L))=qS f.L x.L∧(G5 (λn=>kM f.L n+kM x.L n) ((qz x.L).foldl lu (qz f.L))↔vZ f.L x.L):=by
  have hfc:∀ y∈f.L,kM f.L y.Name=y.By:=by
   have go:∀ (l:List GMono),HK l→∀ y∈l,kM l y.Name=y.By:=by
    intro l
    induction l with
    | nil=>intro _ y hy;cases hy
    | cons z l ih=>
     intro h y hy
     obtain⟨p1,p2⟩:=List.pairwise_cons.1 h
     simp only[kM]
     rcases List.mem_cons.1 hy with rfl | hy
     ·rw[if_pos rfl]
     ·rw[if_neg (Dd (p1 y hy))];exact ih p2 y hy
   exact go f.L hf.ok.2
  match hxl:x.L,h2 with
  | [],_=>
   simp only[qz,List.map_nil,List.foldl_nil,xF]
   refine⟨Ds λy hy=>⟨by show kM f.L y.Name+kM [] y.Name=_;rw[hfc y hy];simp[kM],(hf.ok.1 y hy).2⟩,λ_=>vo _,λ_=>DI λy hy=>⟨by show kM f.L y.Name+kM [] y.Name=_;rw[hfc y hy];simp[kM],hf.wf.b y hy⟩⟩
  | [m],_=>
   have hm:m∈x.L:=by rw[hxl];simp
   refine GT m _ (hx.ok.1 m hm).2 (hx.wf.b m hm) f.L hf.ok.2 (λy hy=>⟨(hf.ok.1 y hy).2,hf.wf.b y hy⟩) (λy hy=>?_) (λhni=>?_)
   ·show kM f.L y.Name+kM [m] y.Name=_
    rw[hfc y hy];simp only[kM];congr 1;by_cases c:m.Name=y.Name
    ·rw[if_pos c,if_pos c.symm]
    ·rw[if_neg c,if_neg (λe=>c e.symm)]
   ·show kM f.L m.Name+kM [m] m.Name=_
    rw[FO hni];simp[kM]
 have hK:=ud hf.wf.k hx.wf.k
 have hns:((qz x.L).foldl lu (qz f.L)).length<1000000:=by
  have len:∀ (l:List (List UInt8)) (s:List UInt8),(lu l s).length≤l.length+1:=by
   intro l s
   induction l with
   | nil=>simp[lu]
   | cons y l ih=>
    simp only[lu]
    split
    ·simp only[List.length_cons];omega
    ·split<;>simp
  match hxl:x.L,h2 with
  | [],_=>simp only[qz,List.map_nil,List.foldl_nil,List.length_map];omega
  | [m],_=>simp only[qz,List.map_cons,List.map_nil,List.foldl_cons,List.foldl_nil];have:=len (f.L.map (·.Name)) m.Name;rw[List.length_map]at this;omega
 obtain⟨r1,r2⟩:=IG ((qz x.L).foldl lu (qz f.L)) f x (f.K+x.K) hf.wf.b hx.wf.b (by omega) (by omega) hns
 have eR:n0 f x=some r:=by
  unfold n0
  rw[oh hf (by omega),oh hx (by omega)]
  simp only[gd,decide_true,Bool.not_true,Bool.not_false,if_true,Option.bind_some,Bool.or_false,Bool.false_eq_true,if_false]
  rw[hK,Option.bind_some]
  rcases e2 with⟨rfl,q1,q2⟩ | ⟨rfl,q⟩
  ·rw[if_pos q1,if_neg (by simp),Df hf.ok.2 h2 (by omega),Option.bind_some]
   dsimp only
   rw[r1 (key.2.2 q2),key.1]
  ·by_cases q1:lq (f.K+x.K)
   ·rw[if_pos q1,if_neg (by simp),Df hf.ok.2 h2 (by omega),Option.bind_some]
    dsimp only
    rw[r2 (λh=>q ⟨q1,key.2.1 h⟩)]
   ·rw[if_neg q1,if_pos (by simp)]
 refine⟨r,e1,eR,?_⟩
 rcases e2 with⟨rfl,q1,q2⟩ | ⟨rfl,q⟩
 ·left
  have all:∀ m∈qS f.L x.L,(gr m.Name=true∧m.By≠0)∧lq m.By:=Io (P:=λm=>(gr m.Name=true∧m.By≠0)∧lq m.By) (λy z h1 h2 _ _ hr h0=>⟨⟨h1.1.1,h0⟩,hr⟩) f.L x.L q2 (λm hm=>⟨hf.ok.1 m hm,hf.wf.b m hm⟩) (λm hm=>⟨hx.ok.1 m hm,hx.wf.b m hm⟩)
  have hle:=Il f.L x.L
  exact⟨rfl,⟨λm hm=>(all m hm).1,Im _ _ hf.ok.2 hx.ok.2⟩,⟨q1,λm hm=>(all m hm).2,by show(qS f.L x.L).length≤ _;omega⟩,by show(qS f.L x.L).length≤ _;omega⟩
 ·exact .inr rfl
end Go.Proofs.YtmhoikfoogemnaaGreatDoor
