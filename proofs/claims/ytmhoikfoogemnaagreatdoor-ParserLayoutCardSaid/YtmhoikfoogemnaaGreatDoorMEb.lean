import Derived.Test.YtmhoikfoogemnaaGreatDoorMEa
namespace Go.Proofs.YtmhoikfoogemnaaGreatDoor
open Go Go.RowKit Go.Vc
set_option linter.unusedVariables false
set_option linter.unusedSimpArgs false
def jP:List (List UInt8)→List UInt8→List (List UInt8)
 | [],s=>[s]
 | x::l,s=>if Op.bytesLess x s=true then x::jP l s else if Op.bytesLess s x=true then s::x::l else x::l
theorem Bw {s x:List UInt8} (h:Op.bytesLess s x=true) (p:List (List UInt8)):jP (p++[x]) s=jP p s++[x]:=by
 induction p with
 | nil=>simp only[List.nil_append,jP];rw[if_neg (by rw[GT h];simp),if_pos h];rfl
 | cons y p ih=>
  simp only[List.cons_append,jP]
  split
  ·rw[ih];rfl
  ·split<;>rfl
theorem yB {s:List UInt8} (p:List (List UInt8)) (h:∀ y∈p,Op.bytesLess y s=true):jP p s=p++[s]:=by
 induction p with
 | nil=>rfl
 | cons y p ih=>simp only[jP];rw[if_pos (h y (by simp)),ih (fun z hz=>h z (by simp[hz]))];rfl
abbrev tK (l:List (List UInt8)):Prop:=l.Pairwise (fun a b=>Op.bytesLess a b=true)
theorem Do {s:List UInt8} (p:List (List UInt8)) (h:tK p) (hs:s∈p):jP p s=p:=by
 induction p with
 | nil=>cases hs
 | cons y p ih=>
  obtain⟨h1,h2⟩:=List.pairwise_cons.1 h
  simp only[jP]
  rcases List.mem_cons.1 hs with rfl | hs
  ·rw[if_neg (by rw[vo];simp),if_neg (by rw[vo];simp)]
  ·rw[if_pos (h1 s hs),ih h2 hs]
theorem wZ {α:Type} (p:List α) (x:α) (q:List α):lat (p++x::q) (p.length:Int)=some x:=by rw[HR];simp
theorem Ay {α:Type} (p:List α) (x y:α) (q:List α):(p++x::q).set p.length y=p++y::q:=by simp
theorem AQ (s:List UInt8):∀ (n f:Nat) (p q:List (List UInt8)),p.length=n→n<f→n<1000000→tK p→s∉p→hU f (p++s::q) (n:Int)=some (jP p s++q)
 | 0,f+1,p,q,hp,hf,hn,ha,hm=>by
  obtain rfl:=List.length_eq_zero_iff.1 hp
  simp only[hU]
  rfl
 | n+1,f+1,p,q,hp,hf,hn,ha,hm=>by
  obtain⟨p',x,rfl⟩:∃ p' x,p=p'++[x]:=⟨p.dropLast,p.getLast (by intro h;subst h;simp at hp),(List.dropLast_concat_getLast _).symm⟩
  have hp':p'.length=n:=by simpa using hp
  have a1:tK p':=(List.pairwise_append.1 ha).1
  have a2:∀ y∈p',Op.bytesLess y x=true:=fun y hy=>(List.pairwise_append.1 ha).2.2 y hy x (by simp)
  have e1:az (((n+1:Nat):Int) - 1)=(n:Int):=wid (by omega)
  have e2:lat (p'++[x]++s::q) (n:Int)=some x:=by rw[List.append_assoc, ← hp'];exact wZ p' x (s::q)
  have e3:lat (p'++[x]++s::q) ((n+1:Nat):Int)=some s:=by rw[← hp];exact wZ (p'++[x]) s q
  have e4:decide ((0:Int)<((n+1:Nat):Int))=true:=decide_eq_true (by omega)
  have hne:¬ x=s:=fun h=>hm (by simp[h])
  simp only[hU]
  rw[e4,e1,e2,e3]
  simp only[gd,if_true,Option.bind_some,Bool.true_and]
  by_cases c:Op.bytesLess x s=true
  ·rw[if_neg (by rw[c];simp)]
   rw[yB (p'++[x]) (fun y hy=> ?_)]
   ·simp
   ·rcases List.mem_append.1 hy with hy | hy
    ·exact mZ _ _ _ (a2 y hy) c
    ·rw[List.mem_singleton.1 hy];exact c
  ·have c2:Op.bytesLess s x=true:=by
    rw[Bool.not_eq_true]at c
    cases h:Op.bytesLess s x with
    | true=>rfl
    | false=>exact absurd (xE _ _ c h) hne
   rw[if_pos (by rw[Bool.not_eq_true]at c;rw[c];simp[hne])]
   have l1:((p'++[x]++s::q).length:Int)=(n:Int)+2+q.length:=by simp only[List.length_append,List.length_cons,List.length_nil];omega
   rw[if_pos ⟨by omega,by rw[l1];omega⟩,if_pos ⟨by omega,by rw[List.length_set,l1];omega⟩]
   rw[show Int.toNat ((n+1:Nat):Int)=(p'++[x]).length by simp[hp'],Ay,show Int.toNat (n:Int)=p'.length by omega,List.append_assoc,List.cons_append,List.nil_append,Ay]
   rw[AQ s n f p' (x::q) hp' (by omega) (by omega) a1 (fun h=>hm (by simp[h])),Bw c2]
   simp
theorem Bv {l:List (List UInt8)} {s:List UInt8} (ha:tK l) (hl:l.length<1000000):mr l s=some (jP l s):=by
 unfold mr
 rw[AR l s (by omega),Option.bind_some]
 by_cases h:s∈l
 ·rw[if_pos (by simpa using h),Do l ha h]
 ·rw[if_neg (by simpa using h),cK (by simp only[List.length_cons,List.length_nil];omega),Option.bind_some,Option.bind_some]
  rw[show az (((l++[s]).length:Int) - 1)=(l.length:Int)by simp only[List.length_append,List.length_cons,List.length_nil];exact wid (by omega)]
  have:=AQ s l.length fu l [] rfl (by unfold fu;omega) hl ha h
  rw[this];simp
def nM (l:List GMono):List (List UInt8):=l.map (·.Name)
theorem tS {l:List GMono} (h:DL l):tK (nM l):=by unfold tK nM;rw[List.pairwise_map];exact h
theorem yu {ls:List GLin} {i:Int} {a:GLin} {self:List (List UInt8)→Int→Option (List (List UInt8))} {o:List (List UInt8)} (h:lat ls i=some a) (hl:o.length+a.L.length<1000000)
  (ha:∀ k≤a.L.length,tK ((nM (a.L.take k)).foldl jP o)∧((nM (a.L.take k)).foldl jP o).length≤o.length+k):
  fp ls i self fu o 0=self ((nM a.L).foldl jP o) (az (i+1)):=by
 refine jy (L:=fun f (o:List (List UInt8)) k=>fp ls i self f o k) (n:=a.L.length) (by omega) (fun k x=>x=(nM (a.L.take k)).foldl jP o) (fun f k x hk hI=> ?_) (fun f x hI=> ?_) o (by simp[nM])
 ·left
  obtain⟨m,hm⟩:=bY hk
  obtain⟨h1,h2⟩:=ha k (by omega)
  simp only[fp]
  rw[h,Option.bind_some,if_pos (bS hk),Option.bind_some,ck hm,Option.bind_some,hI,Bv h1 (by omega),Option.bind_some,lB (show k<4611686018427387904 by omega)]
  exact⟨_,by rw[cy hm];simp[nM],rfl⟩
 ·rw[List.take_length]at hI
  simp only[fp]
  rw[h,Option.bind_some,if_neg (by simp),hI];rfl
theorem yI {l:List GMono} (h:DL l) (k:Nat):(nM (l.take k)).foldl jP []=nM (l.take k):=by
 have key:∀ (l:List (List UInt8)) (o:List (List UInt8)),tK (o++l)→l.foldl jP o=o++l:=by
  intro l
  induction l with
  | nil=>intro o _;simp
  | cons x l ih=>
   intro o h
   rw[List.foldl_cons,yB o (fun y hy=>(List.pairwise_append.1 h).2.2 y hy x (by simp)),ih (o++[x]) (by simpa using h)]
   simp
 exact key _ [] (by simpa using tS (l:=l.take k) (List.Pairwise.sublist (List.take_sublist _ _) h))
theorem yY {a b:GLin} (ha:DL a.L) (hb:b.L.length≤1) (hl:a.L.length≤100000):oc [a,b]=some ((nM b.L).foldl jP (nM a.L)):=by
 unfold oc
 have e0:=yI ha a.L.length
 rw[List.take_length]at e0
 obtain⟨g,hg⟩:∃ g,fu=g+1+1+1:=⟨fu - 3,by unfold fu;omega⟩
 have s1:dA [a,b] (g+1+1+1) [] 0=fp [a,b] 0 (dA [a,b] (g+1+1)) fu [] 0:=by
  simp only[dA];rw[if_pos (by simp)]
 have s2:∀ o,dA [a,b] (g+1+1) o 1=fp [a,b] 1 (dA [a,b] (g+1)) fu o 0:=fun o=>by
  simp only[dA];rw[if_pos (by simp)]
 have s3:∀ o,dA [a,b] (g+1) o 2=some o:=fun o=>by
  simp only[dA];rw[if_neg (by simp)]
 have hA:∀ k≤a.L.length,tK ((nM (a.L.take k)).foldl jP [])∧((nM (a.L.take k)).foldl jP []).length≤([]:List (List UInt8)).length+k:=fun k hk=>by
  rw[yI ha k]
  refine⟨tS (List.Pairwise.sublist (List.take_sublist _ _) ha),?_⟩
  simp only[nM,List.length_map,List.length_take,List.length_nil];omega
 conv=>lhs;arg 2;rw[hg]
 rw[s1,yu (a:=a) rfl (by simp only[List.length_nil];omega) hA,e0,show az (0+1)=1 from rfl,s2,yu (a:=b) rfl (by simp only[nM,List.length_map];omega) (fun k hk=> ?_),show az (1+1)=2 from rfl,s3]
 ·by_cases h0:k=0
  ·subst h0;simp only[List.take_zero];exact⟨tS ha,by simp[nM]⟩
  ·match hbl:b.L,hb with
   | [],_=>rw[hbl]at hk;simp at hk;omega
   | [m],_=>
    rw[hbl]at hk;simp at hk
    obtain rfl:k=1:=by omega
    simp only[List.take_succ_cons,List.take_zero,nM,List.map_cons,List.map_nil,List.foldl_cons,List.foldl_nil]
    have asc:∀ (l:List (List UInt8)) (s:List UInt8),tK l→tK (jP l s)∧(jP l s).length≤l.length+1∧∀ y∈jP l s,y=s∨y∈l:=by
     intro l s
     induction l with
     | nil=>intro _;exact⟨by simp[jP,tK],by simp[jP],fun y hy=> .inl (by simpa[jP]using hy)⟩
     | cons x l ih=>
      intro h
      obtain⟨h1,h2⟩:=List.pairwise_cons.1 h
      obtain⟨i1,i2,i3⟩:=ih h2
      simp only[jP]
      split
      ·next c=>
       refine⟨List.pairwise_cons.2 ⟨fun y hy=> ?_,i1⟩,by simp only[List.length_cons];omega,fun y hy=> ?_⟩
       ·rcases i3 y hy with rfl | hy
        ·exact c
        ·exact h1 y hy
       ·rcases List.mem_cons.1 hy with rfl | hy
        ·exact .inr (by simp)
        ·exact(i3 y hy).imp id (fun h=>by simp[h])
      ·split
       ·next c2=>
        refine⟨List.pairwise_cons.2 ⟨fun y hy=> ?_,h⟩,by simp,fun y hy=>(List.mem_cons.1 hy).imp id id⟩
        rcases List.mem_cons.1 hy with rfl | hy
        ·exact c2
        ·exact mZ _ _ _ c2 (h1 y hy)
       ·exact⟨h,by simp,fun y hy=> .inr hy⟩
    have:=asc (nM a.L) m.Name (tS ha)
    exact⟨this.1,this.2.1⟩
def jw:List GMono→List UInt8→Int
 | [],_=>0
 | x::l,s=>if x.Name=s then x.By else jw l s
theorem yZ (a:GLin) (s:List UInt8) (hl:a.L.length<1000000):od a s=some (jw a.L s):=by
 refine jy (L:=fun f (_:Unit) i=>jE a s f i) (n:=a.L.length) (by omega) (fun i _=>jw a.L s=jw (a.L.drop i) s) (fun f i _ hi hI=> ?_) (fun f _ hI=> ?_) () (by simp)
 ·obtain⟨m,hm⟩:=bY hi
  rw[n0 hm]at hI
  simp only[jw]at hI
  simp only[jE]
  rw[if_pos (bS hi),ck hm,Option.bind_some]
  by_cases c:m.Name=s
  ·right;rw[if_pos (by simpa using c),Option.bind_some,hI,if_pos c]
  ·left;rw[if_neg c]at hI;exact⟨(),hI,by rw[if_neg (by simpa using c),lB (show i<4611686018427387904 by omega)]⟩
 ·rw[List.drop_length]at hI
  simp only[jE]
  rw[if_neg (by simp),hI];rfl
theorem BI {l:List GMono} {s:List UInt8} (h:s∉nM l):jw l s=0:=by
 induction l with
 | nil=>rfl
 | cons x l ih=>simp only[nM,List.map_cons,List.mem_cons,not_or]at h;simp only[jw];rw[if_neg (fun e=>h.1 e.symm)];exact ih h.2
theorem DA {l:List GMono} (h:∀ m∈l,jO m.By) (s:List UInt8):jO (jw l s):=by
 induction l with
 | nil=>exact⟨by simp[jw],by simp[jw]⟩
 | cons x l ih=>simp only[jw];split;exact h x (by simp);exact ih (fun m hm=>h m (by simp[hm]))
def wG (c:List UInt8→Int) (l:List (List UInt8)):List GMono:=l.filterMap fun n=>if c n=0 then none else some ⟨n,c n⟩
def Da (c:List UInt8→Int) (l:List (List UInt8)):Prop:=∀ n∈l,jO (c n)
theorem Cc (c:List UInt8→Int) (l:List (List UInt8)) (n:List UInt8):wG c (l++[n])=if c n=0 then wG c l else wG c l++[⟨n,c n⟩]:=by
 unfold wG;rw[List.filterMap_append];simp only[List.filterMap_cons,List.filterMap_nil];split<;>simp_all
theorem D4 (c:List UInt8→Int) (l:List (List UInt8)):(wG c l).length≤l.length:=List.length_filterMap_le _ _
theorem EA (ns:List (List UInt8)) (a b:GLin) (K:Int) (ha:∀ m∈a.L,jO m.By) (hb:∀ m∈b.L,jO m.By) (la:a.L.length<1000000) (lb:b.L.length<1000000) (hn:ns.length<1000000):
  (Da (fun n=>jw a.L n+jw b.L n) ns→fN ns a b fu 0 ⟨K,[]⟩=some (⟨K,wG (fun n=>jw a.L n+jw b.L n) ns⟩,0))∧
  (¬ Da (fun n=>jw a.L n+jw b.L n) ns→fN ns a b fu 0 ⟨K,[]⟩=some (⟨0,[]⟩,3)):=by
 let c:List UInt8→Int:=fun n=>jw a.L n+jw b.L n
 have run:∀ (r0:Option (GLin×Int)),(Da c ns→r0=some (⟨K,wG c ns⟩,0))→(¬ Da c ns→r0=some (⟨0,[]⟩,3))→fN ns a b fu 0 ⟨K,[]⟩=r0:=by
  intro r0 h1 h2
  refine jy (L:=fun f (o:GLin) i=>fN ns a b f i o) (n:=ns.length) (by omega) (fun i o=>Da c (ns.take i)∧o=⟨K,wG c (ns.take i)⟩) (fun f i o hi hI=> ?_) (fun f o hI=> ?_) ⟨K,[]⟩ (by simp[Da,wG])
  ·obtain⟨n,hn'⟩:=bY hi
   obtain⟨i1,rfl⟩:=hI
   simp only[fN]
   rw[if_pos (bS hi),ck hn',Option.bind_some,Option.bind_some,yZ a n la,Option.bind_some,yZ b n lb,Option.bind_some,ql (DA ha n) (DA hb n),Option.bind_some]
   by_cases q:jO (jw a.L n+jw b.L n)
   ·left
    rw[if_pos q]
    have q':Da c (ns.take (i+1)):=by
     rw[cy hn'];intro x hx
     rcases List.mem_append.1 hx with hx | hx
     ·exact i1 x hx
     ·rw[List.mem_singleton.1 hx];exact q
    refine⟨⟨K,wG c (ns.take (i+1))⟩,⟨q',rfl⟩,?_⟩
    have hsl:=D4 c (ns.take i)
    rw[List.length_take]at hsl
    rw[if_neg (by simp),cy hn',Cc]
    show(if(!decide (c n=0))=true then _ else _)=_
    by_cases z:c n=0
    ·rw[if_neg (by simp[z]),if_pos z];unfold lU;rw[lB (show i<4611686018427387904 by omega)]
    ·rw[if_pos (by simp[z]),if_neg z,Option.bind_some,cK (by simp only[List.length_cons,List.length_nil];omega),Option.bind_some];unfold lU;rw[lB (show i<4611686018427387904 by omega)]
   ·right
    rw[if_neg q,if_pos (by simp),h2 (fun h=>q (h n (List.mem_of_getElem? hn')))]
  ·rw[List.take_length]at hI
   simp only[fN]
   rw[if_neg (by simp),h1 hI.1,hI.2]
 exact⟨fun h=>run _ (fun _=>rfl) (fun h'=>absurd h h'),fun h=>run _ (fun h'=>absurd h' h) (fun _=>rfl)⟩
theorem zd {c:List UInt8→Int} {l:List GMono} (h:∀ m∈l,c m.Name=m.By∧m.By≠0):wG c (nM l)=l:=by
 induction l with
 | nil=>rfl
 | cons x l ih=>
  obtain⟨h1,h2⟩:=h x (by simp)
  have:=ih (fun m hm=>h m (by simp[hm]))
  unfold wG nM at this ⊢
  rw[List.map_cons,List.filterMap_cons,h1,if_neg h2,this]
theorem zD {c:List UInt8→Int} {l:List GMono} (h:∀ m∈l,c m.Name=m.By∧jO m.By):Da c (nM l):=by
 intro n hn
 obtain⟨m,hm,rfl⟩:=List.mem_map.1 hn
 show jO (c m.Name)
 rw[(h m hm).1];exact(h m hm).2
theorem CF (m:GMono) (c:List UInt8→Int) (hm:m.By≠0) (hR:jO m.By):∀ (a:List GMono),DL a→(∀ x∈a,x.By≠0∧jO x.By)→(∀ x∈a,c x.Name=x.By+if x.Name=m.Name then m.By else 0)→(m.Name∉nM a→c m.Name=m.By)→
  wG c (jP (nM a) m.Name)=n7 a [m]∧(Da c (jP (nM a) m.Name)↔rU a [m])
 | [],_,_,_,h4=>by
  have e:=h4 (by simp[nM])
  simp only[nM,List.map_nil,jP,n7,rU]
  refine⟨by unfold wG;rw[List.filterMap_cons,e,if_neg hm];rfl,fun _=>trivial,fun _ n hn=> ?_⟩
  rw[List.mem_singleton.1 hn,e];exact hR
 | x::a,h1,h2,h3,h4=>by
  obtain⟨p1,p2⟩:=List.pairwise_cons.1 h1
  have hx:=h2 x (by simp)
  have hcx:=h3 x (by simp)
  have ih:=CF m c hm hR a p2 (fun y hy=>h2 y (by simp[hy])) (fun y hy=>h3 y (by simp[hy]))
  rw[lh,n6]
  show wG c (jP (x.Name::nM a) m.Name)=_ ∧(Da c (jP (x.Name::nM a) m.Name)↔ _)
  simp only[jP]
  by_cases c1:Op.bytesLess x.Name m.Name=true
  ·rw[if_pos c1,if_pos c1,if_pos c1]
   have hne:=yW c1
   rw[if_neg hne,Int.add_zero]at hcx
   obtain⟨i1,i2⟩:=ih (fun h=>h4 (by
    show m.Name∉x.Name::nM a
    simp only[List.mem_cons,not_or]
    exact⟨fun e=>hne e.symm,h⟩))
   refine⟨?_,?_⟩
   ·unfold wG at i1 ⊢;rw[List.filterMap_cons,hcx,if_neg hx.1,i1]
   ·rw[← i2];exact⟨fun h n hn=>h n (by simp[hn]),fun h n hn=>by
     rcases List.mem_cons.1 hn with rfl | hn
     ·rw[hcx];exact hx.2
     ·exact h n hn⟩
  ·rw[if_neg c1,if_neg c1,if_neg c1]
   by_cases c2:Op.bytesLess m.Name x.Name=true
   ·rw[if_pos c2,if_pos c2,if_pos c2,tT]
    have lt:∀ y∈x::a,Op.bytesLess m.Name y.Name=true:=fun y hy=>by
     rcases List.mem_cons.1 hy with rfl | hy
     ·exact c2
     ·exact mZ _ _ _ c2 (p1 y hy)
    have hni:m.Name∉nM (x::a):=fun h=>by
     obtain⟨y,hy,e⟩:=List.mem_map.1 h
     have:=yW (lt y hy)
     exact this e.symm
    have e:=h4 hni
    have hc:∀ y∈x::a,c y.Name=y.By:=fun y hy=>by
     rw[h3 y hy,if_neg (fun e=>yW (lt y hy) e.symm),Int.add_zero]
    refine⟨?_,?_⟩
    ·have:=zd (c:=c) (l:=x::a) (fun y hy=>⟨hc y hy,(h2 y hy).1⟩)
     unfold wG nM at this ⊢
     rw[List.map_cons]at this
     rw[List.filterMap_cons,e,if_neg hm,this]
    ·have:=zD (c:=c) (l:=x::a) (fun y hy=>⟨hc y hy,(h2 y hy).2⟩)
     refine⟨fun _=>by exact rl _,fun _ n hn=> ?_⟩
     rcases List.mem_cons.1 hn with rfl | hn
     ·rw[e];exact hR
     ·exact this n hn
   ·rw[if_neg c2,if_neg c2,if_neg c2,tT]
    have he:x.Name=m.Name:=xE _ _ (by simpa using c1) (by simpa using c2)
    rw[if_pos he]at hcx
    have hc:∀ y∈a,c y.Name=y.By:=fun y hy=>by
     rw[h3 y (by simp[hy]),if_neg (fun e=>yW (p1 y hy) (he.trans e.symm)),Int.add_zero]
    have i1:=zd (c:=c) (l:=a) (fun y hy=>⟨hc y hy,(h2 y (by simp[hy])).1⟩)
    have i2:=zD (c:=c) (l:=a) (fun y hy=>⟨hc y hy,(h2 y (by simp[hy])).2⟩)
    refine⟨?_,?_⟩
    ·unfold wG at i1 ⊢
     rw[List.filterMap_cons,hcx]
     by_cases z:x.By+m.By=0
     ·rw[if_pos z,if_pos z];exact i1
     ·rw[if_neg z,if_neg z];exact congrArg _ i1
    ·refine⟨fun h=>⟨by have:=h x.Name (by simp);rw[hcx]at this;exact this,by exact rl _⟩,fun h n hn=> ?_⟩
     rcases List.mem_cons.1 hn with rfl | hn
     ·rw[hcx];exact h.1
     ·exact i2 n hn
end Go.Proofs.YtmhoikfoogemnaaGreatDoor
