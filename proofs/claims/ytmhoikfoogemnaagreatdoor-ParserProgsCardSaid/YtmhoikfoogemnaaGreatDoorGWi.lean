import Derived.Test.YtmhoikfoogemnaaGreatDoorGVd
namespace Go.Proofs.YtmhoikfoogemnaaGreatDoor
open Go Go.RowKit Go.Vc
set_option linter.unusedVariables false
set_option linter.unusedSimpArgs false
theorem Fv {σ τ R S:Type} {L:Nat→σ→Int→Option R} {M:Nat→τ→Int→Option S} {n:Nat} (hn:n<4611686018427387904) (I:Nat→σ→τ→Prop) (Q:R→S→Prop)
  (rd:∀ i s t,i<n→I i s t→(∃ s' t',I (i+1) s' t'∧(∀ f,L (f+1) s (i:Int)=L f s' ((i+1:Nat):Int))∧∀ f,M (f+1) t (i:Int)=M f t' ((i+1:Nat):Int))∨∃ r q,Q r q∧(∀ f,L (f+1) s (i:Int)=some r)∧∀ f,M (f+1) t (i:Int)=some q)
  (fin:∀ s t,I n s t→∃ r q,Q r q∧(∀ f,L (f+1) s (n:Int)=some r)∧∀ f,M (f+1) t (n:Int)=some q) (s:σ) (t:τ) (h0:I 0 s t):∃ r q,Q r q∧L fu s 0=some r∧M fu t 0=some q:=by
 have key:∀ (k f g i:Nat) (s:σ) (t:τ),i+k=n→k<f→k<g→I i s t→∃ r q,Q r q∧L f s (i:Int)=some r∧M g t (i:Int)=some q:=by
  intro k
  induction k with
  | zero=>
   intro f g i s t h hf hg hI
   obtain⟨f,rfl⟩:∃ q,f=q+1:=⟨f - 1,by omega⟩
   obtain⟨g,rfl⟩:∃ q,g=q+1:=⟨g - 1,by omega⟩
   obtain rfl:i=n:=by omega
   obtain⟨r,q,h0,h1,h2⟩:=fin s t hI
   exact⟨r,q,h0,h1 f,h2 g⟩
  | succ k ih=>
   intro f g i s t h hf hg hI
   obtain⟨f,rfl⟩:∃ q,f=q+1:=⟨f - 1,by omega⟩
   obtain⟨g,rfl⟩:∃ q,g=q+1:=⟨g - 1,by omega⟩
   rcases rd i s t (by omega) hI with⟨s',t',h1,h2,h3⟩ | ⟨r,q,h0,h1,h2⟩
   ·rw[h2,h3];exact ih f g (i+1) s' t' (by omega) (by omega) (by omega) h1
   ·exact⟨r,q,h0,h1 f,h2 g⟩
 exact key n fu fu 0 s t (by omega) (by unfold fu;omega) (by unfold fu;omega) h0
theorem y7:∀ (x:List UInt8),Op.bytesLess x x=false
 | []=>rfl
 | a::x=>by simp[Op.bytesLess,y7 x]
theorem pN:∀ (x y z:List UInt8),Op.bytesLess x y=true→Op.bytesLess y z=true→Op.bytesLess x z=true
 | _,[],_,h,_=>by cases ‹List UInt8› <;>simp[Op.bytesLess]at h
 | [],b::y,[],_,h=>by simp[Op.bytesLess]at h
 | [],b::y,c::z,_,_=>by simp[Op.bytesLess]
 | a::x,b::y,[],_,h=>by simp[Op.bytesLess]at h
 | a::x,b::y,c::z,h,k=>by
  simp only[Op.bytesLess,Bool.or_eq_true,decide_eq_true_eq,Bool.and_eq_true,beq_iff_eq]at h k ⊢
  rcases h with h | ⟨rfl,h⟩<;>rcases k with k | ⟨rfl,k⟩
  ·exact .inl (UInt8.lt_trans h k)
  ·exact .inl h
  ·exact .inl k
  ·exact .inr ⟨rfl,pN x y z h k⟩
theorem BG:∀ (x y:List UInt8),Op.bytesLess x y=false→Op.bytesLess y x=false→x=y
 | [],[],_,_=>rfl
 | [],b::y,h,_=>by simp[Op.bytesLess]at h
 | a::x,[],_,h=>by simp[Op.bytesLess]at h
 | a::x,b::y,h,k=>by
  simp only[Op.bytesLess,Bool.or_eq_false_iff,decide_eq_false_iff_not,Bool.and_eq_false_iff,beq_eq_false_iff_ne]at h k
  have e:a=b:=UInt8.le_antisymm (UInt8.not_lt.1 k.1) (UInt8.not_lt.1 h.1)
  subst e
  rw[BG x y (h.2.resolve_left (by simp)) (k.2.resolve_left (by simp))]
theorem Dd {x y:List UInt8} (h:Op.bytesLess x y=true):x≠y:=by rintro rfl;rw[y7]at h;cases h
theorem Ks {x y:List UInt8} (h:Op.bytesLess x y=true):Op.bytesLess y x=false:=by
 rw[Bool.eq_false_iff];intro k;have:=pN _ _ _ h k;rw[y7]at this;cases this
theorem kK (s:List UInt8):iX s=some (gr s):=by
 by_cases h:s.length<4611686018427387904
 ·exact BJ s h
 ·unfold iX gr
  rw[decide_eq_false (p:=s.length≤16) (by omega),show(decide ((s.length:Int)<1)||decide (16<(s.length:Int)))=true by simp;omega]
  simp[gd]
theorem Ck (s:List UInt8):mR s=some (decide (s∈Ir)):=by
 have e:Ir=[[115,105,122,101],[119,104,101,114,101],[105,110],[100,101,102],[111,117,116],[115,117,109],[112,114,111,100],[109,105,110],[109,97,120],[115,99,97,110],[111,118,101,114],[105,102],[99,97,115,116],[102,114,97,99],[105,110,116],[102,105,120],[99,101,105,108],[102,108,111,111,114],[122,101,114,111],[101,118,101,110],[115,97,116],[119,114,97,112]]:=rfl
 by_cases h:s∈Ir
 ·rw[decide_eq_true h]
  rw[e]at h
  simp only[List.mem_cons,List.not_mem_nil,or_false]at h
  rcases h with rfl | rfl | rfl | rfl | rfl | rfl | rfl | rfl | rfl | rfl | rfl | rfl | rfl | rfl | rfl | rfl | rfl | rfl | rfl | rfl | rfl | rfl<;>rfl
 ·rw[decide_eq_false h]
  rw[e]at h
  simp only[List.mem_cons,List.not_mem_nil,or_false,not_or]at h
  obtain⟨h1,h2,h3,h4,h5,h6,h7,h8,h9,h10,h11,h12,h13,h14,h15,h16,h17,h18,h19,h20,h21,h22⟩:=h
  unfold mR
  simp only[h1,h2,h3,h4,h5,h6,h7,h8,h9,h10,h11,h12,h13,h14,h15,h16,h17,h18,h19,h20,h21,h22,decide_false,Bool.false_eq_true,if_false]
theorem ux (s:List UInt8):jM s=some (gr s):=by
 unfold jM gr
 by_cases h:s.length<1∨16<s.length
 ·have e:(decide ((s.length:Int)<1)||decide (16<(s.length:Int)))=true:=by simp;omega
  rw[e]
  have e2:(decide (s≠[])&&decide (s.length≤16))=false:=by
   rcases h with h | h
   ·rw[List.length_eq_zero_iff.1 (show s.length=0 by omega)];rfl
   ·rw[decide_eq_false (show ¬ s.length≤16 by omega)];simp
  rw[e2];simp[gd]
 have e:(decide ((s.length:Int)<1)||decide (16<(s.length:Int)))=false:=by simp;omega
 have e2:(decide (s≠[])&&decide (s.length≤16))=true:=by
  have:s≠[]:=λh'=>by subst h';simp at h
  simp[this];omega
 rw[e,e2]
 simp only[gd,Bool.not_false,if_true,Ck,Option.bind_some,Bool.false_or,Bool.true_and]
 by_cases hk:s∈Ir
 ·simp[hk]
 rw[decide_eq_false hk]
 obtain⟨c,hc⟩:=cC (l:=s) (i:=0) (by omega)
 have hg:s.getD 0 0=c:=by rw[List.getD_eq_getElem?_getD,hc];rfl
 have ha:sat s 0=some (c.toNat:Int):=gq (i:=0) hc
 simp only[Bool.not_false,if_true,ha,Option.bind_some,Bool.and_true,Bool.false_or]
 have lb:sQ c= !(decide ((c.toNat:Int)<97)||decide (122<(c.toNat:Int))):=by
  unfold sQ;rw[Bool.eq_iff_iff];simp<;>omega
 have e3:(if(!decide ((c.toNat:Int)<97))=true then some (c.toNat:Int)else some default)=some (if(!decide ((c.toNat:Int)<97))=true then(c.toNat:Int)else default):=by split<;>rfl
 rw[e3,Option.bind_some]
 by_cases hl:sQ c=true
 ·have h0:=hl
  unfold sQ at h0;simp only[Bool.and_eq_true,decide_eq_true_eq]at h0
  rw[decide_eq_false (p:=(c.toNat:Int)<97) (by omega)]
  simp only[Bool.not_false,if_true,Bool.false_or]
  rw[if_neg (by simp;omega),hg,hl,Bool.true_and]
  obtain⟨r,h1,h2⟩:=qe (L:=λf (_:Unit) i=>dS s f i) (n:=s.length) (by omega) (λi _=>(s.take i).all iZ=true) (λr=>r=s.all iZ)
   (λf i _ hi hI=>by
    obtain⟨d,hd⟩:=cC hi
    simp only[dS]
    rw[if_pos (bS hi),gq hd,Option.bind_some]
    have wb:((((decide ((d.toNat:Int)<97))||(decide (122<(d.toNat:Int))))&&((decide ((d.toNat:Int)<48))||(decide (57<(d.toNat:Int)))))&&(!decide ((d.toNat:Int)=95)))= !iZ d:=by
     unfold iZ sQ;rw[Bool.eq_iff_iff];simp<;>omega
    rw[wb]
    cases hw:iZ d
    ·right;refine⟨false,by rw[if_pos (by rfl)],?_⟩
     symm;rw[Bool.eq_false_iff];intro h'
     have:=List.all_eq_true.1 h' d (List.mem_of_getElem? hd);rw[hw]at this;cases this
    ·left;refine⟨(),?_,by rw[if_neg (by simp),nu (by omega)]⟩
     rw[dm hd,List.all_append,hI];simp[hw])
   (λf _ hI=>by
    rw[List.take_length]at hI
    simp only[dS]
    exact⟨true,by rw[if_neg (by simp)],hI.symm⟩) () (by simp)
  rw[show dS s fu 0=some r from h1,h2]
 ·rw[Bool.not_eq_true]at hl
  rw[hg,hl,Bool.false_and,if_pos]
  rw[hl]at lb
  by_cases h97:(c.toNat:Int)<97
  ·simp[h97]
  ·simp only[h97,decide_false,Bool.false_or,Bool.not_false,if_true]
   simpa[h97]using lb.symm
def pC (l:GLin):Prop:=(∀ m∈l.L,gr m.Name=true∧m.By≠0)∧l.L.Pairwise (λa b=>Op.bytesLess a.Name b.Name=true)
theorem H3 {α:Type} {R:α→α→Prop} {l:List α} {i:Nat} {x:α} (hR:∀ a b c,R a b→R b c→R a c) (h:(l.take i).Pairwise R) (hx:l[i]? =some x) (h1:∀ y,0<i→l[i - 1]? =some y→R y x):(l.take (i+1)).Pairwise R:=by
 rw[dm hx,List.pairwise_append]
 refine⟨h,List.pairwise_singleton _ _,λa ha b hb=>?_⟩
 rw[List.mem_singleton.1 hb]
 obtain⟨j,hj⟩:=List.mem_iff_getElem?.1 ha
 rw[List.getElem?_take]at hj
 split at hj
 ·next hji=>
  obtain⟨y,hy⟩:=cC (l:=l) (i:=i - 1) (by have:=(List.getElem?_eq_some_iff.1 hx).1;omega)
  have h2:=h1 y (by omega) hy
  by_cases e:j=i - 1
  ·rw[e,hy]at hj;injection hj with hj;exact hj▸h2
  ·have hl:=(List.getElem?_eq_some_iff.1 hx).1
   have q1:(l.take i)[j]? =some a:=by rw[List.getElem?_take,if_pos hji];exact hj
   have q2:(l.take i)[i - 1]? =some y:=by rw[List.getElem?_take,if_pos (by omega)];exact hy
   obtain⟨k1,rfl⟩:=List.getElem?_eq_some_iff.1 q1
   obtain⟨k2,rfl⟩:=List.getElem?_eq_some_iff.1 q2
   exact hR _ _ _ (List.pairwise_iff_getElem.1 h j (i - 1) k1 k2 (by omega)) h2
 ·cases hj
def Eo (l:GLin) (i:Nat) (x:GMono):Prop:=gr x.Name=true∧x.By≠0∧∀ y,0<i→l.L[i - 1]? =some y→Op.bytesLess y.Name x.Name=true
theorem np (l:GLin) (hl:l.L.length<4611686018427387904):∃ b:Bool,(b=true↔pC l)∧iT l=some (if b=true then 0 else 1)∧iw l=some b:=by
 classical
 obtain⟨r,q,hQ,h1,h2⟩:=Fv (L:=λf (_:Unit) i=>d8 l f i) (M:=λf (_:Unit) i=>dD l f i) (n:=l.L.length) hl
  (λi _ _=>(∀ m∈l.L.take i,gr m.Name=true∧m.By≠0)∧(l.L.take i).Pairwise (λa b=>Op.bytesLess a.Name b.Name=true)) (λr q=>(q=true↔pC l)∧r=if q=true then 0 else 1)
  (by
   rintro i ⟨⟩ ⟨⟩ hi ⟨hI,hJ⟩
   obtain⟨x,hx⟩:=cC hi
   have hxm:=List.mem_of_getElem? hx
   have eL:∀ f,d8 l (f+1) (i:Int)=if Eo l i x then d8 l f ((i+1:Nat):Int)else some 1:=λf=>by
    simp only[d8]
    rw[if_pos (bS hi),cD hx,Option.bind_some,ux,Option.bind_some,nu (by omega)]
    by_cases c1:gr x.Name=true
    rotate_left
    ·rw[if_neg (λh:Eo l i x=>c1 h.1)];rw[Bool.not_eq_true]at c1;rw[c1];simp[gd]
    by_cases c2:x.By=0
    ·rw[if_neg (λh:Eo l i x=>h.2.1 c2),c1,c2];simp[gd]
    rw[c1,decide_eq_false c2]
    by_cases c3:0<i
    ·obtain⟨y,hy⟩:=cC (l:=l.L) (i:=i - 1) (by omega)
     have hw:au ((i:Int) - 1)=((i - 1:Nat):Int):=by rw[show(i:Int) - 1=((i - 1:Nat):Int)by omega];exact LG (by omega)
     rw[hw,cD hy,decide_eq_true (p:=0<(i:Int)) (by omega)]
     simp only[gd,Bool.not_true,Bool.not_false,Bool.or_false,Bool.and_true,if_true,Option.bind_some,Bool.false_or,Bool.true_and]
     by_cases c4:Op.bytesLess y.Name x.Name=true
     ·rw[if_neg (by simp[c4]),if_pos (show Eo l i x from⟨c1,c2,λz _ hz=>by rw[hy]at hz;injection hz with hz;exact hz▸c4⟩)]
     ·rw[if_pos (by simpa using c4),if_neg (λh:Eo l i x=>c4 (h.2.2 y c3 hy))]
    ·rw[decide_eq_false (p:=0<(i:Int)) (by omega),if_pos (show Eo l i x from⟨c1,c2,λy h=>absurd h c3⟩)];simp[gd]
   have eR:∀ f,dD l (f+1) (i:Int)=if Eo l i x then dD l f ((i+1:Nat):Int)else some false:=λf=>by
    simp only[dD]
    rw[if_pos (bS hi),cD hx,Option.bind_some,kK,Option.bind_some,nu (by omega)]
    by_cases c1:gr x.Name=true
    rotate_left
    ·rw[if_neg (λh:Eo l i x=>c1 h.1)];rw[Bool.not_eq_true]at c1;rw[c1];simp[gd]
    rw[c1]
    simp only[gd,Bool.not_true,Bool.not_false,if_true,Option.bind_some,Bool.false_or]
    by_cases c2:x.By=0
    ·rw[if_neg (λh:Eo l i x=>h.2.1 c2),c2];simp
    rw[decide_eq_false c2]
    by_cases c3:0<i
    ·obtain⟨y,hy⟩:=cC (l:=l.L) (i:=i - 1) (by omega)
     have hw:au ((i:Int) - 1)=((i - 1:Nat):Int):=by rw[show(i:Int) - 1=((i - 1:Nat):Int)by omega];exact LG (by omega)
     rw[hw,cD hy,decide_eq_true (p:=0<(i:Int)) (by omega)]
     simp only[Bool.not_false,Bool.and_true,if_true,Option.bind_some,Bool.false_or,Bool.true_and]
     by_cases c4:Op.bytesLess y.Name x.Name=true
     ·rw[if_neg (by simp[c4]),if_pos (show Eo l i x from⟨c1,c2,λz _ hz=>by rw[hy]at hz;injection hz with hz;exact hz▸c4⟩)]
     ·rw[if_pos (by simpa using c4),if_neg (λh:Eo l i x=>c4 (h.2.2 y c3 hy))]
    ·rw[decide_eq_false (p:=0<(i:Int)) (by omega),if_pos (show Eo l i x from⟨c1,c2,λy h=>absurd h c3⟩)];simp
   by_cases c:Eo l i x
   ·left;refine⟨(),(),⟨?_,?_⟩,λf=>by rw[eL,if_pos c],λf=>by rw[eR,if_pos c]⟩
    ·rw[dm hx];intro y hy;rcases List.mem_append.1 hy with hy | hy
     ·exact hI y hy
     ·rw[List.mem_singleton.1 hy];exact⟨c.1,c.2.1⟩
    ·exact H3 (λa b c=>pN _ _ _) hJ hx c.2.2
   ·right;refine⟨1,false,⟨⟨λh=>(by cases h),λ⟨k1,k2⟩=>absurd (show Eo l i x from⟨(k1 x hxm).1,(k1 x hxm).2,λy h0 hy=>?_⟩) c⟩,by simp⟩,λf=>by rw[eL,if_neg c],λf=>by rw[eR,if_neg c]⟩
    obtain⟨g1,rfl⟩:=List.getElem?_eq_some_iff.1 hy
    obtain⟨g2,rfl⟩:=List.getElem?_eq_some_iff.1 hx
    exact List.pairwise_iff_getElem.1 k2 (i - 1) i g1 g2 (by omega))
  (by
   rintro⟨⟩ ⟨⟩ hI
   rw[List.take_length]at hI
   refine⟨0,true,⟨⟨λ_=>hI,λ_=>rfl⟩,by simp⟩,λf=>?_,λf=>?_⟩
   ·simp only[d8];rw[if_neg (by simp)]
   ·simp only[dD];rw[if_neg (by simp)]) () () ⟨by simp,by simp⟩
 exact⟨q,hQ.1,by rw[← hQ.2];exact h1,h2⟩
end Go.Proofs.YtmhoikfoogemnaaGreatDoor
namespace Go.Proofs.YtmhoikfoogemnaaGreatDoor
open Go Go.RowKit Go.Vc
set_option linter.unusedVariables false
set_option linter.unusedSimpArgs false
end Go.Proofs.YtmhoikfoogemnaaGreatDoor
namespace Go.Proofs.YtmhoikfoogemnaaGreatDoor
open Go Go.RowKit Go.Vc
set_option linter.unusedVariables false
set_option linter.unusedSimpArgs false
theorem FU (x:Int):((BitVec.ofInt 64 x)&&& (BitVec.ofInt 64 4294967295)).toNat=(x % 4294967296).toNat:=by
 rw[BitVec.toNat_and,BitVec.toNat_ofInt,BitVec.toNat_ofInt]
 rw[show((4294967295:Int) % ((2 ^ 64:Nat):Int)).toNat=2 ^ 32 - 1 by decide,Nat.and_two_pow_sub_one_eq_mod]
 omega
theorem Ed (x:Int):bits .and .u64 x 4294967295=x % 4294967296:=by
 unfold bits
 simp only[]
 show IntKind.u64.wrap (((BitVec.ofInt 64 x)&&& (BitVec.ofInt 64 4294967295)).toNat:Int)=_
 rw[FU,Int.toNat_of_nonneg (by omega)]
 exact wu ⟨by omega,by omega⟩
abbrev LP (x:Int):Prop:=0≤x∧x<18446744073709551616
theorem Au (x:Int):lr x=x % 18446744073709551616:=by simp[lr,IntKind.wrap,IntKind.signed,IntKind.bits]
theorem Hb {n:Int} (h:lq n):j9 n=some (n.natAbs:Int):=by
 obtain⟨h1,h2⟩:=h
 unfold j9
 by_cases c:n<0
 ·rw[if_pos (by simpa using c),Au,Au]
  refine congrArg some ?_
  omega
 ·rw[if_neg (by simpa using c),Au]
  refine congrArg some ?_
  omega
theorem DB {a b:Int} (ha:LP a) (hb:LP b):∃ hi lo,nN a b=some (hi,lo)∧LP hi∧LP lo∧hi * 18446744073709551616+lo=a * b:=by
 obtain⟨a0,a1,ea,q1,q2,q3,q4⟩:∃ a0 a1,a=a1 * 4294967296+a0∧0≤a0∧a0<4294967296∧0≤a1∧a1<4294967296:=⟨a % 4294967296,a / 4294967296,by omega,by omega,by omega,by omega,by omega⟩
 obtain⟨b0,b1,eb,r1,r2,r3,r4⟩:∃ b0 b1,b=b1 * 4294967296+b0∧0≤b0∧b0<4294967296∧0≤b1∧b1<4294967296:=⟨b % 4294967296,b / 4294967296,by omega,by omega,by omega,by omega,by omega⟩
 have f1:Int.fdiv a (2 ^ 32)=a1:=by rw[Int.fdiv_eq_ediv_of_nonneg _ (by decide),show(2:Int) ^ 32=4294967296 from rfl];omega
 have f2:Int.fdiv b (2 ^ 32)=b1:=by rw[Int.fdiv_eq_ediv_of_nonneg _ (by decide),show(2:Int) ^ 32=4294967296 from rfl];omega
 have bd:∀ {x y:Int},0≤x→x<4294967296→0≤y→y<4294967296→0≤x * y∧x * y≤18446744065119617025:=λ{x y} hx hx' hy hy'=>by
  refine⟨Int.mul_nonneg hx hy,?_⟩
  have:=Int.mul_le_mul (show x≤4294967295 by omega) (show y≤4294967295 by omega) hy (by omega)
  omega
 obtain⟨p00,e00⟩:∃ p,p=a0 * b0:=⟨_,rfl⟩
 obtain⟨p01,e01⟩:∃ p,p=a0 * b1:=⟨_,rfl⟩
 obtain⟨p10,e10⟩:∃ p,p=a1 * b0:=⟨_,rfl⟩
 obtain⟨p11,e11⟩:∃ p,p=a1 * b1:=⟨_,rfl⟩
 obtain⟨g1,g2⟩:=bd q1 q2 r1 r2
 obtain⟨g3,g4⟩:=bd q1 q2 r3 r4
 obtain⟨g5,g6⟩:=bd q3 q4 r1 r2
 obtain⟨g7,g8⟩:=bd q3 q4 r3 r4
 rw[← e00]at g1 g2
 rw[← e01]at g3 g4
 rw[← e10]at g5 g6
 rw[← e11]at g7 g8
 have eab:a * b=p11 * 18446744073709551616+(p10+p01) * 4294967296+p00:=by rw[ea,eb,e00,e01,e10,e11];grind
 have fd:∀ x:Int,Int.fdiv x (2 ^ 32)=x / 4294967296:=λx=>by rw[Int.fdiv_eq_ediv_of_nonneg _ (by decide)];rfl
 unfold nN
 rw[Ed,Ed,show a % 4294967296=a0 by omega,show b % 4294967296=b0 by omega,f1,f2, ← e00, ← e01, ← e10, ← e11]
 simp only[Option.bind_some,Au,fd,Ed]
 refine⟨_,_,rfl,⟨by omega,by omega⟩,⟨by omega,by omega⟩,?_⟩
 rw[eab]
 omega
end Go.Proofs.YtmhoikfoogemnaaGreatDoor
namespace Go.Proofs.YtmhoikfoogemnaaGreatDoor
open Go Go.RowKit Go.Vc
set_option linter.unusedVariables false
set_option linter.unusedSimpArgs false
def vl:List (List UInt8)→List Int→List UInt8→Int
 | n::ns,x::p,s=>if n=s then x else vl ns p s
 | _,_,_=>0
def Iv (v:List UInt8→Int):List GMono→Int
 | []=>0
 | m::l=>m.By * v m.Name+Iv v l
def ev (v:List UInt8→Int) (l:GLin):Int:=l.K+Iv v l.L
structure Wf (l:GLin):Prop where
 k:lq l.K
 b:∀ m∈l.L,lq m.By
 len:l.L.length≤4294967296
theorem Ik {x y:Int} (hx:lq x) (hy:lq y): -85070591730234615865843651857942052864≤x * y∧x * y≤85070591730234615865843651857942052864∧(x.natAbs:Int) * (y.natAbs:Int)≤85070591730234615865843651857942052864:=by
 have h1:x.natAbs≤9223372036854775808:=by have:=hx.1;have:=hx.2;omega
 have h2:y.natAbs≤9223372036854775808:=by have:=hy.1;have:=hy.2;omega
 have h3:=Nat.mul_le_mul h1 h2
 have h4:(x * y).natAbs=x.natAbs * y.natAbs:=Int.natAbs_mul x y
 have h5:((x.natAbs:Int) * (y.natAbs:Int))=((x.natAbs * y.natAbs:Nat):Int):=(Int.natCast_mul _ _).symm
 rw[h5]
 generalize x.natAbs * y.natAbs=q at *
 omega
theorem Ib (x y:Int):x * y=if(decide (x<0) != decide (y<0))=true then -((x.natAbs:Int) * (y.natAbs:Int))else(x.natAbs:Int) * (y.natAbs:Int):=by
 by_cases h1:x<0<;>by_cases h2:y<0
 ·rw[if_neg (by simp[h1,h2]),show(x.natAbs:Int)= -x by omega,show(y.natAbs:Int)= -y by omega,Int.neg_mul_neg]
 ·rw[if_pos (by simp[h1,h2]),show(x.natAbs:Int)= -x by omega,show(y.natAbs:Int)=y by omega,Int.neg_mul,Int.neg_neg]
 ·rw[if_pos (by simp[h1,h2]),show(x.natAbs:Int)=x by omega,show(y.natAbs:Int)= -y by omega,Int.mul_neg,Int.neg_neg]
 ·rw[if_neg (by simp[h1,h2]),show(x.natAbs:Int)=x by omega,show(y.natAbs:Int)=y by omega]
end Go.Proofs.YtmhoikfoogemnaaGreatDoor
namespace Go.Proofs.YtmhoikfoogemnaaGreatDoor
open Go Go.RowKit Go.Vc
set_option linter.unusedVariables false
set_option linter.unusedSimpArgs false
end Go.Proofs.YtmhoikfoogemnaaGreatDoor
namespace Go.Proofs.YtmhoikfoogemnaaGreatDoor
open Go Go.RowKit Go.Vc
set_option linter.unusedVariables false
set_option linter.unusedSimpArgs false
theorem xQ {a b:Int} (ha:lq a) (hb:lq b):n6 a b=some (if lq (a * b)then(a * b,true)else(0,false)):=by
 unfold n6
 rw[Hb ha,Hb hb,Option.bind_some,Option.bind_some]
 obtain⟨hi,lo,p1,⟨p2,p3⟩,⟨p4,p5⟩,p6⟩:=DB (a:=(a.natAbs:Int)) (b:=(b.natAbs:Int)) ⟨by omega,by have:=ha.1;have:=ha.2;omega⟩ ⟨by omega,by have:=hb.1;have:=hb.2;omega⟩
 have hs:=Ib a b
 rw[← p6]at hs
 rw[p1,Option.bind_some,Option.bind_some]
 dsimp only
 generalize (decide (a<0) != decide (b<0))=ng at *
 generalize a * b=q at *
 by_cases c:(((!decide (hi=0))||(decide (9223372036854775808<lo)))||((decide (lo=9223372036854775808))&&(!ng)))=true
 ·rw[if_pos c,if_neg]
  intro ⟨r1,r2⟩
  simp only[Bool.or_eq_true,Bool.not_eq_true',decide_eq_false_iff_not,decide_eq_true_eq,Bool.and_eq_true]at c
  cases ng with
  | true=>simp at hs c;omega
  | false=>simp at hs c;omega
 ·rw[if_neg c]
  simp only[Bool.or_eq_true,Bool.not_eq_true',decide_eq_false_iff_not,decide_eq_true_eq,Bool.and_eq_true,not_or,Classical.not_not]at c
  cases ng with
  | true=>
   simp at hs c
   rw[if_pos rfl,if_pos ⟨by omega,by omega⟩]
   have e:au (lr (-lo))= -lo:=wiwu ⟨by omega,by omega⟩
   rw[e,hs]
   refine congrArg some (Prod.ext ?_ rfl)
   dsimp only;omega
  | false=>
   simp at hs c
   rw[if_neg (by simp),if_pos ⟨by omega,by omega⟩,wi ⟨by omega,by omega⟩,hs]
   refine congrArg some (Prod.ext ?_ rfl)
   dsimp only;omega
theorem Jg {x:Int} (h: -18446744073709551616≤x∧x≤18446744073709551614):au x=if x< -9223372036854775808 then x+18446744073709551616 else if 9223372036854775807<x then x - 18446744073709551616 else x:=by
 split
 ·exact IP (y:=x+18446744073709551616) (c:= -1) ⟨by omega,by omega⟩ (by omega)
 ·split
  ·exact IP (y:=x - 18446744073709551616) (c:=1) ⟨by omega,by omega⟩ (by omega)
  ·exact wi ⟨by omega,by omega⟩
theorem EC {a b:Int} (ha:lq a) (hb:lq b):o7 a b=some (au (a+b),decide (lq (a+b))):=by
 obtain⟨a1,a2⟩:=ha
 obtain⟨b1,b2⟩:=hb
 unfold o7
 refine congrArg some (Prod.ext rfl ?_)
 dsimp only
 rw[Jg ⟨by omega,by omega⟩]
 by_cases c1:a+b< -9223372036854775808
 ·rw[if_pos c1,decide_eq_false (p:=lq (a+b)) (λh=>by have:=h.1;omega),decide_eq_true (by omega),decide_eq_false (by omega)];rfl
 rw[if_neg c1]
 by_cases c2:9223372036854775807<a+b
 ·rw[if_pos c2,decide_eq_false (p:=lq (a+b)) (λh=>by have:=h.2;omega),decide_eq_false (by omega),decide_eq_true (by omega)];rfl
 rw[if_neg c2,decide_eq_true (p:=lq (a+b)) ⟨by omega,by omega⟩]
 by_cases c3:0<b
 ·rw[decide_eq_true (by omega),decide_eq_true c3];rfl
 ·rw[decide_eq_false (by omega),decide_eq_false c3];rfl
theorem ud {a b:Int} (ha:lq a) (hb:lq b):mW a b=some (if lq (a+b)then(a+b,true)else(0,false)):=by
 obtain⟨a1,a2⟩:=ha
 obtain⟨b1,b2⟩:=hb
 unfold mW
 by_cases c:lq (a+b)
 ·obtain⟨c1,c2⟩:=c
  rw[if_pos (show lq (a+b)from⟨c1,c2⟩),if_neg,wi ⟨c1,c2⟩]
  simp only[Bool.or_eq_true,Bool.and_eq_true,decide_eq_true_eq,not_or,not_and]
  refine⟨λh=>?_,λh=>?_⟩
  ·rw[wi ⟨by omega,by omega⟩];omega
  ·rw[wi ⟨by omega,by omega⟩];omega
 ·rw[if_neg c,if_pos]
  simp only[Bool.or_eq_true,Bool.and_eq_true,decide_eq_true_eq]
  by_cases h:0<b
  ·left;refine⟨h,?_⟩
   rw[wi ⟨by omega,by omega⟩]
   exact Classical.byContradiction λh2=>c ⟨by omega,by omega⟩
  ·by_cases h0:b<0
   ·right;refine⟨h0,?_⟩
    rw[wi ⟨by omega,by omega⟩]
    exact Classical.byContradiction λh2=>c ⟨by omega,by omega⟩
   ·exact absurd ⟨by omega,by omega⟩ c
theorem HZ (x:Int):(-9223372036854775808≤au x)∧(au x≤9223372036854775807)∧(au x - x) % 18446744073709551616=0:=by
 simp only[au,IntKind.wrap,IntKind.signed,IntKind.bits]
 simp
 omega
theorem so {a b:Int} (ha:lq a) (hb:lq b):jw a b=some (if lq (a * b)then(a * b,true)else(0,false)):=by
 unfold jw
 by_cases c0:a=0∨b=0
 ·have e:a * b=0:=by rcases c0 with rfl | rfl<;>simp
  rw[if_pos (by simpa using c0),e,if_pos (by decide)]
 rw[if_neg (by simpa using c0)]
 have hb0:b≠0:=λh=>c0 (.inr h)
 rw[if_pos (λ_=>hb0)]
 obtain⟨a1,a2⟩:=ha
 obtain⟨b1,b2⟩:=hb
 obtain⟨m1,m2,_⟩:=Ik ⟨a1,a2⟩ ⟨b1,b2⟩
 by_cases cm:(a= -1∧b= -9223372036854775808)∨(b= -1∧a= -9223372036854775808)
 ·have e:a * b=9223372036854775808:=by rcases cm with⟨rfl,rfl⟩ | ⟨rfl,rfl⟩<;>rfl
  rw[if_pos,e,if_neg (by decide)]
  rcases cm with⟨rfl,rfl⟩ | ⟨rfl,rfl⟩<;>simp
 have ecm:(((decide (a=(-1)))&&(decide (b=(-9223372036854775808))))||((decide (b=(-1)))&&(decide (a=(-9223372036854775808)))))=false:=by
  rw[Bool.eq_false_iff];intro h;exact cm (by simpa using h)
 rw[ecm,Bool.false_or]
 by_cases c:lq (a * b)
 ·rw[wi c,Int.mul_tdiv_cancel _ hb0,wi ⟨a1,a2⟩,if_pos c];simp
 ·rw[if_neg c,if_pos]
  simp only[Bool.not_eq_true',decide_eq_false_iff_not]
  intro he
  obtain⟨w1,w2,w3⟩:=HZ (a * b)
  generalize au (a * b)=w at *
  have t1:=Int.mul_tdiv_add_tmod w b
  have t2:(Int.tmod w b).natAbs<b.natAbs:=by rw[Int.natAbs_tmod];exact Nat.mod_lt _ (by omega)
  have t3:(Int.tdiv w b).natAbs≤w.natAbs:=by rw[Int.natAbs_tdiv];exact Nat.div_le_self _ _
  have t4:Int.tdiv w b=a:=by
   by_cases c2:lq (Int.tdiv w b)
   ·rw[wi c2]at he;exact he
   ·have t5:Int.tdiv w b=9223372036854775808:=by
     generalize Int.tdiv w b=u at *
     exact Classical.byContradiction λh=>c2 ⟨by omega,by omega⟩
    rw[t5]at he t1
    rw[show au 9223372036854775808= -9223372036854775808 from rfl]at he
    exact absurd (.inr ⟨by omega,he.symm⟩) cm
  rw[t4,Int.mul_comm]at t1
  generalize a * b=q at *
  exact c (by omega)
end Go.Proofs.YtmhoikfoogemnaaGreatDoor
