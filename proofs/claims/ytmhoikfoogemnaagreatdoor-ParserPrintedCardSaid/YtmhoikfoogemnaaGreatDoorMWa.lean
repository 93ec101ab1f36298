import Derived.Test.YtmhoikfoogemnaaGreatDoorMVd
namespace Go.Proofs.YtmhoikfoogemnaaGreatDoor
open Go Go.RowKit Go.Vc
set_option linter.unusedVariables false
set_option linter.unusedSimpArgs false
theorem DG {σ τ R S:Type} {L:Nat→σ→Int→Option R} {M:Nat→τ→Int→Option S} {n:Nat} (hn:n<4611686018427387904) (I:Nat→σ→τ→Prop) (Q:R→S→Prop)
  (rd:∀ i s t,i<n→I i s t→(∃ s' t',I (i+1) s' t'∧(∀ f,L (f+1) s (i:Int)=L f s' ((i+1:Nat):Int))∧∀ f,M (f+1) t (i:Int)=M f t' ((i+1:Nat):Int))∨∃ r q,Q r q∧(∀ f,L (f+1) s (i:Int)=some r)∧∀ f,M (f+1) t (i:Int)=some q)
  (fin:∀ s t,I n s t→∃ r q,Q r q∧(∀ f,L (f+1) s (n:Int)=some r)∧∀ f,M (f+1) t (n:Int)=some q) (s:σ) (t:τ) (h0:I 0 s t):∃ r q,Q r q∧L fu s 0=some r∧M fu t 0=some q:=by
 have key:∀ (k f g i:Nat) (s:σ) (t:τ),i+k=n→k<f→k<g→I i s t→∃ r q,Q r q∧L f s (i:Int)=some r∧M g t (i:Int)=some q:=by
  intro k
  induction k with
  | zero=>
   intro f g i s t h hf hg hI
   obtain⟨f,rfl⟩:∃ q,f=q+1:=⟨f - 1,by omega⟩
   obtain⟨g,rfl⟩:∃ q,g=q+1:=⟨g - 1,by omega⟩
   obtain rfl:i=n:=by omega
   obtain⟨r,q,h0,h1,h2⟩:=fin s t hI
   exact⟨r,q,h0,h1 f,h2 g⟩
  | succ k ih=>
   intro f g i s t h hf hg hI
   obtain⟨f,rfl⟩:∃ q,f=q+1:=⟨f - 1,by omega⟩
   obtain⟨g,rfl⟩:∃ q,g=q+1:=⟨g - 1,by omega⟩
   rcases rd i s t (by omega) hI with⟨s',t',h1,h2,h3⟩ | ⟨r,q,h0,h1,h2⟩
   ·rw[h2,h3];exact ih f g (i+1) s' t' (by omega) (by omega) (by omega) h1
   ·exact⟨r,q,h0,h1 f,h2 g⟩
 exact key n fu fu 0 s t (by omega) (by unfold fu;omega) (by unfold fu;omega) h0
theorem AV:∀ (x y z:List UInt8),Op.bytesLess x y=true→Op.bytesLess y z=true→Op.bytesLess x z=true
 | _,[],_,h,_=>by cases ‹List UInt8› <;>simp[Op.bytesLess]at h
 | [],b::y,[],_,h=>by simp[Op.bytesLess]at h
 | [],b::y,c::z,_,_=>by simp[Op.bytesLess]
 | a::x,b::y,[],_,h=>by simp[Op.bytesLess]at h
 | a::x,b::y,c::z,h,k=>by
  simp only[Op.bytesLess,Bool.or_eq_true,decide_eq_true_eq,Bool.and_eq_true,beq_iff_eq]at h k ⊢
  rcases h with h | ⟨rfl,h⟩<;>rcases k with k | ⟨rfl,k⟩
  ·exact .inl (UInt8.lt_trans h k)
  ·exact .inl h
  ·exact .inl k
  ·exact .inr ⟨rfl,AV x y z h k⟩
theorem lE (s:List UInt8):gp s=some (cp s):=by
 by_cases h:s.length<4611686018427387904
 ·exact zx s h
 ·unfold gp cp
  rw[decide_eq_false (p:=s.length≤16) (by omega),show(decide ((s.length:Int)<1)||decide (16<(s.length:Int)))=true by simp;omega]
  simp[gd]
theorem Ab (s:List UInt8):kG s=some (decide (s∈GZ)):=by
 have e:GZ=[[115,105,122,101],[119,104,101,114,101],[105,110],[100,101,102],[111,117,116],[115,117,109],[112,114,111,100],[109,105,110],[109,97,120],[115,99,97,110],[111,118,101,114],[105,102],[99,97,115,116],[102,114,97,99],[105,110,116],[102,105,120],[99,101,105,108],[102,108,111,111,114],[122,101,114,111],[101,118,101,110],[115,97,116],[119,114,97,112]]:=rfl
 by_cases h:s∈GZ
 ·rw[decide_eq_true h]
  rw[e]at h
  simp only[List.mem_cons,List.not_mem_nil,or_false]at h
  rcases h with rfl | rfl | rfl | rfl | rfl | rfl | rfl | rfl | rfl | rfl | rfl | rfl | rfl | rfl | rfl | rfl | rfl | rfl | rfl | rfl | rfl | rfl<;>rfl
 ·rw[decide_eq_false h]
  rw[e]at h
  simp only[List.mem_cons,List.not_mem_nil,or_false,not_or]at h
  obtain⟨h1,h2,h3,h4,h5,h6,h7,h8,h9,h10,h11,h12,h13,h14,h15,h16,h17,h18,h19,h20,h21,h22⟩:=h
  unfold kG
  simp only[h1,h2,h3,h4,h5,h6,h7,h8,h9,h10,h11,h12,h13,h14,h15,h16,h17,h18,h19,h20,h21,h22,decide_false,Bool.false_eq_true,if_false]
theorem rn (s:List UInt8):ii s=some (cp s):=by
 unfold ii cp
 by_cases h:s.length<1∨16<s.length
 ·have e:(decide ((s.length:Int)<1)||decide (16<(s.length:Int)))=true:=by simp;omega
  rw[e]
  have e2:(decide (s≠[])&&decide (s.length≤16))=false:=by
   rcases h with h | h
   ·rw[List.length_eq_zero_iff.1 (show s.length=0 by omega)];rfl
   ·rw[decide_eq_false (show ¬ s.length≤16 by omega)];simp
  rw[e2];simp[gd]
 have e:(decide ((s.length:Int)<1)||decide (16<(s.length:Int)))=false:=by simp;omega
 have e2:(decide (s≠[])&&decide (s.length≤16))=true:=by
  have:s≠[]:=fun h'=>by subst h';simp at h
  simp[this];omega
 rw[e,e2]
 simp only[gd,Bool.not_false,if_true,Ab,Option.bind_some,Bool.false_or,Bool.true_and]
 by_cases hk:s∈GZ
 ·simp[hk]
 rw[decide_eq_false hk]
 obtain⟨c,hc⟩:=bZ (l:=s) (i:=0) (by omega)
 have hg:s.getD 0 0=c:=by rw[List.getD_eq_getElem?_getD,hc];rfl
 have ha:sat s 0=some (c.toNat:Int):=gD (i:=0) hc
 simp only[Bool.not_false,if_true,ha,Option.bind_some,Bool.and_true,Bool.false_or]
 have lb:ld c= !(decide ((c.toNat:Int)<97)||decide (122<(c.toNat:Int))):=by
  unfold ld;rw[Bool.eq_iff_iff];simp<;>omega
 have e3:(if(!decide ((c.toNat:Int)<97))=true then some (c.toNat:Int)else some default)=some (if(!decide ((c.toNat:Int)<97))=true then(c.toNat:Int)else default):=by split<;>rfl
 rw[e3,Option.bind_some]
 by_cases hl:ld c=true
 ·have h0:=hl
  unfold ld at h0;simp only[Bool.and_eq_true,decide_eq_true_eq]at h0
  rw[decide_eq_false (p:=(c.toNat:Int)<97) (by omega)]
  simp only[Bool.not_false,if_true,Bool.false_or]
  rw[if_neg (by simp;omega),hg,hl,Bool.true_and]
  obtain⟨r,h1,h2⟩:=oC (L:=fun f (_:Unit) i=>cR s f i) (n:=s.length) (by omega) (fun i _=>(s.take i).all gl=true) (fun r=>r=s.all gl)
   (fun f i _ hi hI=>by
    obtain⟨d,hd⟩:=bZ hi
    simp only[cR]
    rw[if_pos (bX hi),gD hd,Option.bind_some]
    have wb:((((decide ((d.toNat:Int)<97))||(decide (122<(d.toNat:Int))))&&((decide ((d.toNat:Int)<48))||(decide (57<(d.toNat:Int)))))&&(!decide ((d.toNat:Int)=95)))= !gl d:=by
     unfold gl ld;rw[Bool.eq_iff_iff];simp<;>omega
    rw[wb]
    cases hw:gl d
    ·right;refine⟨false,by rw[if_pos (by rfl)],?_⟩
     symm;rw[Bool.eq_false_iff];intro h'
     have:=List.all_eq_true.1 h' d (List.mem_of_getElem? hd);rw[hw]at this;cases this
    ·left;refine⟨(),?_,by rw[if_neg (by simp),ni (by omega)]⟩
     rw[bT hd,List.all_append,hI];simp[hw])
   (fun f _ hI=>by
    rw[List.take_length]at hI
    simp only[cR]
    exact⟨true,by rw[if_neg (by simp)],hI.symm⟩) () (by simp)
  rw[show cR s fu 0=some r from h1,h2]
 ·rw[Bool.not_eq_true]at hl
  rw[hg,hl,Bool.false_and,if_pos]
  rw[hl]at lb
  by_cases h97:(c.toNat:Int)<97
  ·simp[h97]
  ·simp only[h97,decide_false,Bool.false_or,Bool.not_false,if_true]
   simpa[h97]using lb.symm
def d8 (l:ay):Prop:=(∀ m∈l.L,cp m.Name=true∧m.By≠0)∧l.L.Pairwise (fun a b=>Op.bytesLess a.Name b.Name=true)
theorem Gy {α:Type} {R:α→α→Prop} {l:List α} {i:Nat} {x:α} (hR:∀ a b c,R a b→R b c→R a c) (h:(l.take i).Pairwise R) (hx:l[i]? =some x) (h1:∀ y,0<i→l[i - 1]? =some y→R y x):(l.take (i+1)).Pairwise R:=by
 rw[bT hx,List.pairwise_append]
 refine⟨h,List.pairwise_singleton _ _,fun a ha b hb=> ?_⟩
 rw[List.mem_singleton.1 hb]
 obtain⟨j,hj⟩:=List.mem_iff_getElem?.1 ha
 rw[List.getElem?_take]at hj
 split at hj
 ·next hji=>
  obtain⟨y,hy⟩:=bZ (l:=l) (i:=i - 1) (by have:=(List.getElem?_eq_some_iff.1 hx).1;omega)
  have h2:=h1 y (by omega) hy
  by_cases e:j=i - 1
  ·rw[e,hy]at hj;injection hj with hj;exact hj▸h2
  ·have hl:=(List.getElem?_eq_some_iff.1 hx).1
   have q1:(l.take i)[j]? =some a:=by rw[List.getElem?_take,if_pos hji];exact hj
   have q2:(l.take i)[i - 1]? =some y:=by rw[List.getElem?_take,if_pos (by omega)];exact hy
   obtain⟨k1,rfl⟩:=List.getElem?_eq_some_iff.1 q1
   obtain⟨k2,rfl⟩:=List.getElem?_eq_some_iff.1 q2
   exact hR _ _ _ (List.pairwise_iff_getElem.1 h j (i - 1) k1 k2 (by omega)) h2
 ·cases hj
def CB (l:ay) (i:Nat) (x:aw):Prop:=cp x.Name=true∧x.By≠0∧∀ y,0<i→l.L[i - 1]? =some y→Op.bytesLess y.Name x.Name=true
theorem kZ (l:ay) (hl:l.L.length<4611686018427387904):∃ b:Bool,(b=true↔d8 l)∧gm l=some (if b=true then 0 else 1)∧eg l=some b:=by
 classical
 obtain⟨r,q,hQ,h1,h2⟩:=DG (L:=fun f (_:Unit) i=>dk l f i) (M:=fun f (_:Unit) i=>cI l f i) (n:=l.L.length) hl
  (fun i _ _=>(∀ m∈l.L.take i,cp m.Name=true∧m.By≠0)∧(l.L.take i).Pairwise (fun a b=>Op.bytesLess a.Name b.Name=true)) (fun r q=>(q=true↔d8 l)∧r=if q=true then 0 else 1)
  (by
   rintro i ⟨⟩ ⟨⟩ hi ⟨hI,hJ⟩
   obtain⟨x,hx⟩:=bZ hi
   have hxm:=List.mem_of_getElem? hx
   have eL:∀ f,dk l (f+1) (i:Int)=if CB l i x then dk l f ((i+1:Nat):Int)else some 1:=fun f=>by
    simp only[dk]
    rw[if_pos (bX hi),bS hx,Option.bind_some,rn,Option.bind_some,ni (by omega)]
    by_cases c1:cp x.Name=true
    rotate_left
    ·rw[if_neg (fun h:CB l i x=>c1 h.1)];rw[Bool.not_eq_true]at c1;rw[c1];simp[gd]
    by_cases c2:x.By=0
    ·rw[if_neg (fun h:CB l i x=>h.2.1 c2),c1,c2];simp[gd]
    rw[c1,decide_eq_false c2]
    by_cases c3:0<i
    ·obtain⟨y,hy⟩:=bZ (l:=l.L) (i:=i - 1) (by omega)
     have hw:au ((i:Int) - 1)=((i - 1:Nat):Int):=by rw[show(i:Int) - 1=((i - 1:Nat):Int)by omega];exact wiN (by omega)
     rw[hw,bS hy,decide_eq_true (p:=0<(i:Int)) (by omega)]
     simp only[gd,Bool.not_true,Bool.not_false,Bool.or_false,Bool.and_true,if_true,Option.bind_some,Bool.false_or,Bool.true_and]
     by_cases c4:Op.bytesLess y.Name x.Name=true
     ·rw[if_neg (by simp[c4]),if_pos (show CB l i x from⟨c1,c2,fun z _ hz=>by rw[hy]at hz;injection hz with hz;exact hz▸c4⟩)]
     ·rw[if_pos (by simpa using c4),if_neg (fun h:CB l i x=>c4 (h.2.2 y c3 hy))]
    ·rw[decide_eq_false (p:=0<(i:Int)) (by omega),if_pos (show CB l i x from⟨c1,c2,fun y h=>absurd h c3⟩)];simp[gd]
   have eR:∀ f,cI l (f+1) (i:Int)=if CB l i x then cI l f ((i+1:Nat):Int)else some false:=fun f=>by
    simp only[cI]
    rw[if_pos (bX hi),bS hx,Option.bind_some,lE,Option.bind_some,ni (by omega)]
    by_cases c1:cp x.Name=true
    rotate_left
    ·rw[if_neg (fun h:CB l i x=>c1 h.1)];rw[Bool.not_eq_true]at c1;rw[c1];simp[gd]
    rw[c1]
    simp only[gd,Bool.not_true,Bool.not_false,if_true,Option.bind_some,Bool.false_or]
    by_cases c2:x.By=0
    ·rw[if_neg (fun h:CB l i x=>h.2.1 c2),c2];simp
    rw[decide_eq_false c2]
    by_cases c3:0<i
    ·obtain⟨y,hy⟩:=bZ (l:=l.L) (i:=i - 1) (by omega)
     have hw:au ((i:Int) - 1)=((i - 1:Nat):Int):=by rw[show(i:Int) - 1=((i - 1:Nat):Int)by omega];exact wiN (by omega)
     rw[hw,bS hy,decide_eq_true (p:=0<(i:Int)) (by omega)]
     simp only[Bool.not_false,Bool.and_true,if_true,Option.bind_some,Bool.false_or,Bool.true_and]
     by_cases c4:Op.bytesLess y.Name x.Name=true
     ·rw[if_neg (by simp[c4]),if_pos (show CB l i x from⟨c1,c2,fun z _ hz=>by rw[hy]at hz;injection hz with hz;exact hz▸c4⟩)]
     ·rw[if_pos (by simpa using c4),if_neg (fun h:CB l i x=>c4 (h.2.2 y c3 hy))]
    ·rw[decide_eq_false (p:=0<(i:Int)) (by omega),if_pos (show CB l i x from⟨c1,c2,fun y h=>absurd h c3⟩)];simp
   by_cases c:CB l i x
   ·left;refine⟨(),(),⟨?_,?_⟩,fun f=>by rw[eL,if_pos c],fun f=>by rw[eR,if_pos c]⟩
    ·rw[bT hx];intro y hy;rcases List.mem_append.1 hy with hy | hy
     ·exact hI y hy
     ·rw[List.mem_singleton.1 hy];exact⟨c.1,c.2.1⟩
    ·exact Gy (fun a b c=>AV _ _ _) hJ hx c.2.2
   ·right;refine⟨1,false,⟨⟨fun h=>(by cases h),fun⟨k1,k2⟩=>absurd (show CB l i x from⟨(k1 x hxm).1,(k1 x hxm).2,fun y h0 hy=> ?_⟩) c⟩,by simp⟩,fun f=>by rw[eL,if_neg c],fun f=>by rw[eR,if_neg c]⟩
    obtain⟨g1,rfl⟩:=List.getElem?_eq_some_iff.1 hy
    obtain⟨g2,rfl⟩:=List.getElem?_eq_some_iff.1 hx
    exact List.pairwise_iff_getElem.1 k2 (i - 1) i g1 g2 (by omega))
  (by
   rintro⟨⟩ ⟨⟩ hI
   rw[List.take_length]at hI
   refine⟨0,true,⟨⟨fun _=>hI,fun _=>rfl⟩,by simp⟩,fun f=> ?_,fun f=> ?_⟩
   ·simp only[dk];rw[if_neg (by simp)]
   ·simp only[cI];rw[if_neg (by simp)]) () () ⟨by simp,by simp⟩
 exact⟨q,hQ.1,by rw[← hQ.2];exact h1,h2⟩
end Go.Proofs.YtmhoikfoogemnaaGreatDoor
