import Derived.Test.YtmhoikfoogemnaaGreatDoorMEo
namespace Go.Proofs.YtmhoikfoogemnaaGreatDoor.Z13
open Go Go.RowKit Go.Vc
set_option linter.unusedVariables false
set_option linter.unusedSimpArgs false
theorem nI (c:UInt8) (l:List UInt8):oy (c::l) 0=c.toNat:=rfl
def jz (r:Int):Bool:=decide (97≤r)&&decide (r≤122)
def iT (r:Int):Bool:=decide (48≤r)&&decide (r≤57)
def gy (r:Int):Bool:=(jz r||iT r)||decide (r=95)
def lL (r:Int):Bool:=decide (r=9)||decide (r=10)||decide (r=13)||decide (r=32)
def sb (r:Int):Bool:=[40,41,91,93,123,125,44,59,58,43,45,42,47,60,61,38,124,33,46,64].contains r
def mi (r:Int):Bool:= !decide (r=10)
def fk (p:Int→Bool):List UInt8→Nat
 | []=>0
 | c::l=>match p (c.toNat:Int)with | true=>fk p l+1 | false=>0
theorem rg (p:Int→Bool) (l:List UInt8):fk p l≤l.length:=by
 induction l with
 | nil=>exact Nat.le_refl _
 | cons c l ih=>simp only[fk];cases p (c.toNat:Int)<;>simp<;>omega
def skipL:Bool→List UInt8→Nat
 | _,[]=>0
 | true,c::l=>match mi (c.toNat:Int)with | true=>skipL true l+1 | false=>skipL false l+1
 | false,c::l=>match lL (c.toNat:Int)with
  | true=>skipL false l+1
  | false=>match decide ((c.toNat:Int)=35)with | true=>skipL true l+1 | false=>0
theorem oz (b:Bool) (l:List UInt8):skipL b l≤l.length:=by
 induction l generalizing b with
 | nil=>cases b<;>exact Nat.le_refl _
 | cons c l ih=>
  have h1:=ih true
  have h2:=ih false
  cases b<;>simp only[skipL]
  ·cases lL (c.toNat:Int)
   ·cases decide ((c.toNat:Int)=35)<;>simp<;>omega
   ·simp;omega
  ·cases mi (c.toNat:Int)<;>simp<;>omega
theorem vv (l:List UInt8):skipL true l=fk mi l+skipL false (l.drop (fk mi l)):=by
 induction l with
 | nil=>rfl
 | cons c l ih=>
  by_cases h:mi (c.toNat:Int)=true
  ·simp only[skipL,fk,h,ih,List.drop_succ_cons];omega
  ·rw[Bool.not_eq_true]at h
   have h10:(c.toNat:Int)=10:=by simpa[mi]using h
   have hs:lL (c.toNat:Int)=true:=by rw[h10];rfl
   simp only[skipL,fk,h,List.drop_zero,hs]
   omega
def nextL (l:List UInt8):Nat×Nat:=
 let c:=oy l 0
 if jz c then(1,fk gy l)
 else if iT c then(2,fk iT l)
 else if(decide (c=60)||decide (c=61))&&decide ((1:Int)<(l.length:Int))&&decide (oy l 1=61)then(3,2)
 else if sb c then(3,1)
 else(0,0)
theorem rn (l:List UInt8) (hl:0<l.length):(nextL l).2≤l.length:=by
 unfold nextL
 have h1:=rg gy l
 have h2:=rg iT l
 dsimp only
 split
 ·exact h1
 ·split
  ·exact h2
  ·split
   ·rename_i h;simp at h;simp only;omega
   ·split<;>simp only<;>omega
theorem oC (l:List UInt8) (hl:0<l.length) (h:(nextL l).1≠0):0<(nextL l).2:=by
 obtain⟨c,l,rfl⟩:∃ c l',l=c::l':=by cases l with | nil=>simp at hl | cons c l=>exact⟨c,l,rfl⟩
 revert h
 unfold nextL
 rw[nI]
 dsimp only
 split
 ·rename_i h;intro _;have hw:gy (c.toNat:Int)=true:=by simp[gy,h]
  simp[fk,hw]
 ·split
  ·rename_i h;intro _;simp[fk,h]
  ·split
   ·intro _;simp
   ·split<;>simp
def goT (s:List UInt8):Nat→Nat→List aG×Nat×Nat
 | 0,_=>([],0,0)
 | f+1,p=>
  if p<s.length then
   let k:=nextL (s.drop p)
   if k.1=0 then([],p,5)
   else if k.1=1∧16<k.2 then([],p,2)
   else
    let r:=goT s f (p+k.2+skipL false (s.drop (p+k.2)))
    (⟨k.1,p,(s.drop p).take k.2⟩::r.1,r.2)
  else([],0,0)
def tokens (s:List UInt8):List aG×Nat×Nat:=
 if 65536<s.length then([],0,2)
 else
  let r:=goT s (s.length+1) (skipL false s)
  if r.2.2=0 then(r.1,0,0)else([],r.2.1,r.2.2)
def wJ (s:List UInt8):Nat×Nat:=
 if jz (oy s 0)&&decide (0<s.length)then(fk gy s,1)else if iT (oy s 0)&&decide (0<s.length)then(fk iT s,2)else(0,0)
def FK:List UInt8:=[40,41,91,93,123,125,44,59,58,43,45,42,47,60,61,38,124,33,46,64]
def tq:List (List UInt8):=[[60,61],[61,61],[40],[41],[91],[93],[123],[125],[44],[59],[58],[43],[45],[42],[47],[60],[61],[38],[124],[33],[46],[64]]
def tA (s e:List UInt8):Bool:=decide ((e.length:Int)≤(s.length:Int))&&decide (s.take e.length=e)
def vu (s:List UInt8):List (List UInt8)→Nat
 | []=>0
 | e::l=>match tA s e with | true=>e.length | false=>vu s l
theorem Bc (c:UInt8) (t:List UInt8) (l:List UInt8):vu (c::t) (l.map fun x=>[x])=if l.contains c then 1 else 0:=by
 induction l with
 | nil=>rfl
 | cons x l ih=>
  simp only[List.map_cons,vu]
  have hf:tA (c::t) [x]=decide (c=x):=by simp[tA];omega
  rw[hf]
  by_cases h:c=x
  ·subst h;simp
  ·rw[ih]
   have hne:(x==c)=false:=by simp;exact fun e=>h e.symm
   simp[h]
theorem Bl:∀ n:Nat,n<256→FK.contains (UInt8.ofNat n)=sb (n:Int):=by decide+kernel
theorem zp (c:UInt8):FK.contains c=sb (c.toNat:Int):=by
 have:=Bl c.toNat c.toNat_lt
 simpa using this
theorem Bb (s:List UInt8) (h0:0<s.length):
  vu s tq=if(decide (oy s 0=60)||decide (oy s 0=61))&&decide ((1:Int)<(s.length:Int))&&decide (oy s 1=61)then 2 else if sb (oy s 0)then 1 else 0:=by
 obtain⟨c,t,rfl⟩:∃ c t,s=c::t:=by cases s with | nil=>simp at h0 | cons c t=>exact⟨c,t,rfl⟩
 have hs:tq=[60,61]::[61,61]::FK.map fun x=>[x]:=rfl
 have hu:∀ x y:UInt8,((x.toNat:Int)=(y.toNat:Int))↔x=y:=fun x y=>⟨fun h=>UInt8.toNat_inj.1 (by omega),fun h=>by rw[h]⟩
 rw[hs,nI]
 simp only[vu,Bc,zp]
 cases t with
 | nil=>
  have h1:tA [c] [60,61]=false:=by simp[tA]
  have h2:tA [c] [61,61]=false:=by simp[tA]
  simp[h1,h2]
 | cons d t=>
  have h1:tA (c::d::t) [60,61]=(decide (c=60)&&decide (d=61)):=by simp[tA];omega
  have h2:tA (c::d::t) [61,61]=(decide (c=61)&&decide (d=61)):=by simp[tA];omega
  have e1:oy (c::d::t) 1=(d.toNat:Int):=rfl
  have k60:=hu c 60
  have k61:=hu c 61
  have kd:=hu d 61
  have l1:((60:UInt8).toNat:Int)=60:=rfl
  have l2:((61:UInt8).toNat:Int)=61:=rfl
  rw[l1]at k60
  rw[l2]at k61 kd
  have hlen:(1:Int)<((c::d::t).length:Int):=by simp;omega
  rw[h1,h2,e1]
  simp only[k60,k61,kd,hlen,decide_true,Bool.and_true]
  by_cases a:c=60<;>by_cases b:c=61<;>by_cases e:d=61<;>simp[a,b,e]
theorem Db (s:List UInt8) (h0:0<s.length):
  (if(wJ s).1=0 then(vu s tq,3)else wJ s)=if(nextL s).1=0 then(0,3)else((nextL s).2,(nextL s).1):=by
 obtain⟨c,t,rfl⟩:∃ c t,s=c::t:=by cases s with | nil=>simp at h0 | cons c t=>exact⟨c,t,rfl⟩
 unfold wJ nextL
 rw[Bb _ h0]
 dsimp only
 by_cases hl:jz (oy (c::t) 0)=true
 ·have hw:gy (c.toNat:Int)=true:=by rw[nI]at hl;simp[gy,hl]
  simp[hl,fk,hw]
 ·by_cases hd:iT (oy (c::t) 0)=true
  ·have hw:iT (c.toNat:Int)=true:=by rw[nI]at hd;exact hd
   simp[hl,hd,fk,hw]
  ·rw[Bool.not_eq_true]at hl hd
   simp only[hl,hd,Bool.false_and,Bool.false_eq_true,if_false]
   generalize ((decide (oy (c::t) 0=60)||decide (oy (c::t) 0=61))&&decide ((1:Int)<((c::t).length:Int))&&decide (oy (c::t) 1=61))=b1
   generalize sb (oy (c::t) 0)=b2
   cases b1<;>cases b2<;>rfl
def sameT:Bool→List aG→List aG→Bool
 | _,[],[]=>true
 | b,x::l,y::m=>(decide (x.Kind=y.Kind)&&decide (x.Text=y.Text)&&(!b||decide (x.At=y.At)))&&sameT b l m
 | _,_,_=>false
def Chain (s:List UInt8):Nat→List aG→Prop
 | a,[]=>a≤s.length∧a+skipL false (s.drop a)=s.length
 | a,t::ts=>a≤s.length∧t.At=((a+skipL false (s.drop a):Nat):Int)∧0<t.Text.length∧a+skipL false (s.drop a)+t.Text.length≤s.length∧
   (s.drop (a+skipL false (s.drop a))).take t.Text.length=t.Text∧Chain s (a+skipL false (s.drop a)+t.Text.length) ts
theorem Bz (s:List UInt8) (f a:Nat) (ha:a≤s.length) (hf:s.length<a+skipL false (s.drop a)+f) (he:(goT s f (a+skipL false (s.drop a))).2.2=0):Chain s a (goT s f (a+skipL false (s.drop a))).1:=by
 induction f generalizing a with
 | zero=>
  have:=oz false (s.drop a)
  simp at this;omega
 | succ f ih=>
  have hsk:=oz false (s.drop a)
  simp only[List.length_drop]at hsk
  generalize hp:a+skipL false (s.drop a)=p at *
  simp only[goT]at he ⊢
  by_cases hlt:p<s.length
  ·rw[if_pos hlt]at he ⊢
   by_cases hk:(nextL (s.drop p)).1=0
   ·rw[if_pos hk]at he;simp at he
   ·rw[if_neg hk]at he ⊢
    by_cases hb:(nextL (s.drop p)).1=1∧16<(nextL (s.drop p)).2
    ·rw[if_pos hb]at he;simp at he
    ·rw[if_neg hb]at he ⊢
     have hle:=rn (s.drop p) (by simp;omega)
     have hpos:=oC (s.drop p) (by simp;omega) hk
     have hlen:((s.drop p).take (nextL (s.drop p)).2).length=(nextL (s.drop p)).2:=by simp at hle ⊢;omega
     simp only[List.length_drop]at hle
     refine⟨ha,by rw[hp],by rw[hlen];exact hpos,by rw[hp,hlen];omega,by rw[hp,hlen],?_⟩
     rw[hp,hlen]
     exact ih (p+(nextL (s.drop p)).2) (by omega) (by omega) he
  ·rw[if_neg hlt]
   exact⟨ha,by omega⟩
theorem tokens_chain (s:List UInt8) (hs:s.length≤65536) (he:(tokens s).2.2=0):Chain s 0 (tokens s).1:=by
 unfold tokens at he ⊢
 rw[if_neg (by omega)]at he ⊢
 have h:=Bz s (s.length+1) 0 (by omega) (by omega)
 simp only[List.drop_zero,Nat.zero_add]at h
 dsimp only at he ⊢
 by_cases h0:(goT s (s.length+1) (skipL false s)).2.2=0
 ·rw[if_pos h0];exact h h0
 ·rw[if_neg h0]at he;exact absurd he h0
theorem tokens_none (s:List UInt8) (he:(tokens s).2.2≠0):(tokens s).1=[]:=by
 unfold tokens at he ⊢
 split
 ·rfl
 ·rename_i h
  rw[if_neg h]at he
  dsimp only at he ⊢
  by_cases h0:(goT s (s.length+1) (skipL false s)).2.2=0
  ·rw[if_pos h0]at he;exact absurd rfl he
  ·rw[if_neg h0]
theorem chain_le (s:List UInt8) (ts:List aG) (a:Nat) (h:Chain s a ts):ts.length+a≤s.length:=by
 induction ts generalizing a with
 | nil=>simpa using h.1
 | cons t ts ih=>
  obtain⟨h1,_,h2,_,_,h5⟩:=h
  have:=ih _ h5
  simp;omega
def joinT (l:List (List UInt8)):Nat→List UInt8
 | 0=>[]
 | k+1=>(if k=0 then[]else joinT l k++[32])++l.getD k []
theorem joinT_step (l:List (List UInt8)) (k:Nat):(joinT l (k+1)).length=(if k=0 then 0 else(joinT l k).length+1)+(l.getD k []).length:=by
 simp only[joinT]
 split
 ·simp
 ·simp;omega
theorem joinT_mono (l:List (List UInt8)) (k n:Nat) (h:k≤n):(joinT l k).length≤(joinT l n).length:=by
 induction n with
 | zero=>have:k=0:=by omega
         subst this;exact Nat.le_refl _
 | succ n ih=>
  rcases Nat.lt_or_ge k (n+1)with h' | h'
  ·refine Nat.le_trans (ih (by omega)) ?_
   rw[joinT_step]
   split
   ·rename_i h0;subst h0;simp[joinT]
   ·omega
  ·have:k=n+1:=by omega
   subst this;exact Nat.le_refl _
def joinS (ts:List aG):List UInt8:=joinT (ts.map aG.Text) ts.length
theorem ui (p:Int→Bool) (l:List UInt8):∀ m:Nat,m≤fk p l→∀ r:List UInt8,(r=[]∨p (oy r 0)=false)→fk p (l.take m++r)=m:=by
 induction l with
 | nil=>
  intro m hm r hr
  have:m=0:=by simpa[fk]using hm
  subst this
  cases r with
  | nil=>rfl
  | cons c r=>
   have hc:p (c.toNat:Int)=false:=by
    rcases hr with h | h
    ·cases h
    ·exact h
   simp[fk,hc]
 | cons c l ih=>
  intro m hm r hr
  cases m with
  | zero=>
   cases r with
   | nil=>rfl
   | cons c r=>
    have hc:p (c.toNat:Int)=false:=by
     rcases hr with h | h
     ·cases h
     ·exact h
    simp[fk,hc]
  | succ m=>
   have hc:p (c.toNat:Int)=true:=by
    cases h:p (c.toNat:Int)with
    | true=>rfl
    | false=>simp[fk,h]at hm
   simp only[fk,hc]at hm
   simp only[List.take_succ_cons,List.cons_append,fk,hc]
   rw[ih m (by omega) r hr]
abbrev spH (r:List UInt8):Prop:=oy r 0=32∨oy r 0=9
theorem zI (l:List UInt8) (h0:0<l.length) (hk:(nextL l).1≠0) (r:List UInt8) (hr:r=[]∨spH r):nextL (l.take (nextL l).2++r)=nextL l:=by
 obtain⟨c,t,rfl⟩:∃ c t,l=c::t:=by cases l with | nil=>simp at h0 | cons c t=>exact⟨c,t,rfl⟩
 have hpos:=oC (c::t) (by simp) hk
 have hw:r=[]∨gy (oy r 0)=false:=hr.imp id fun h=>by rcases h with h | h<;>rw[h]<;>rfl
 have hd:r=[]∨iT (oy r 0)=false:=hr.imp id fun h=>by rcases h with h | h<;>rw[h]<;>rfl
 generalize hN:nextL (c::t)=N at *
 obtain⟨m,hm⟩:∃ m,N.2=m+1:=⟨N.2 - 1,by omega⟩
 have hhead:∀ q:List UInt8,oy ((c::t).take N.2++q) 0=oy (c::t) 0:=fun q=>by rw[hm];rfl
 unfold nextL at hN ⊢
 dsimp only at hN ⊢
 rw[hhead]
 by_cases h1:jz (oy (c::t) 0)=true
 ·rw[if_pos h1]at hN ⊢
  subst hN
  rw[ui gy _ _ (Nat.le_refl _) r hw]
 ·rw[if_neg h1]at hN ⊢
  by_cases h2:iT (oy (c::t) 0)=true
  ·rw[if_pos h2]at hN ⊢
   subst hN
   rw[ui iT _ _ (Nat.le_refl _) r hd]
  ·rw[if_neg h2]at hN ⊢
   by_cases h3:((decide (oy (c::t) 0=60)||decide (oy (c::t) 0=61))&&decide ((1:Int)<((c::t).length:Int))&&decide (oy (c::t) 1=61))=true
   ·rw[if_pos h3]at hN
    subst hN
    simp only[Bool.and_eq_true,decide_eq_true_eq]at h3
    obtain⟨d,t,rfl⟩:∃ d t',t=d::t':=by
     cases t with
     | nil=>simp at h3
     | cons d t=>exact⟨d,t,rfl⟩
    have e1:oy ((c::d::t).take 2++r) 1=oy (c::d::t) 1:=rfl
    have e2:(1:Int)<(((c::d::t).take 2++r).length:Int):=by simp;omega
    rw[if_pos]
    simp only[e1,e2,Bool.and_eq_true,decide_eq_true_eq]
    exact⟨⟨h3.1.1,trivial⟩,h3.2⟩
   ·rw[if_neg h3]at hN
    by_cases h4:sb (oy (c::t) 0)=true
    ·rw[if_pos h4]at hN
     subst hN
     rw[if_neg,if_pos h4]
     have e1:(c::t).take 1++r=c::r:=rfl
     show ¬ (_ &&decide ((1:Int)<(((c::t).take 1++r).length:Int))&&decide (oy ((c::t).take 1++r) 1=61))=true
     rw[e1]
     have e2:oy (c::r) 1=oy r 0:=rfl
     rw[e2]
     rcases hr with rfl | h | h
     ·simp
     ·simp[h]
     ·simp[h]
    ·rw[if_neg h4]at hN
     subst hN
     exact absurd rfl hk
theorem nextL_skip (l:List UInt8) (hk:(nextL l).1≠0) (h0:0<l.length):skipL false l=0:=by
 obtain⟨c,t,rfl⟩:∃ c t,l=c::t:=by cases l with | nil=>simp at h0 | cons c t=>exact⟨c,t,rfl⟩
 have hc:lL (c.toNat:Int)=false∧decide ((c.toNat:Int)=35)=false:=by
  unfold nextL at hk
  dsimp only at hk
  rw[nI]at hk
  by_cases h1:jz (c.toNat:Int)=true
  ·simp[jz]at h1;simp[lL];omega
  ·rw[if_neg h1]at hk
   by_cases h2:iT (c.toNat:Int)=true
   ·simp[iT]at h2;simp[lL];omega
   ·rw[if_neg h2]at hk
    by_cases h3:((decide ((c.toNat:Int)=60)||decide ((c.toNat:Int)=61))&&decide ((1:Int)<((c::t).length:Int))&&decide (oy (c::t) 1=61))=true
    ·simp at h3;simp[lL];omega
    ·rw[if_neg h3]at hk
     by_cases h4:sb (c.toNat:Int)=true
     ·simp[sb]at h4;simp[lL];omega
     ·rw[if_neg h4]at hk;exact absurd rfl hk
 simp only[skipL,hc.1,hc.2]
def Good (t:aG):Prop:=∃ l:List UInt8,0<l.length∧(nextL l).1≠0∧¬ ((nextL l).1=1∧16<(nextL l).2)∧t.Kind=((nextL l).1:Int)∧t.Text=l.take (nextL l).2
theorem Ds (s:List UInt8) (f p:Nat):∀ t∈(goT s f p).1,Good t:=by
 induction f generalizing p with
 | zero=>intro t ht;cases ht
 | succ f ih=>
  intro t ht
  simp only[goT]at ht
  by_cases hlt:p<s.length
  ·rw[if_pos hlt]at ht
   by_cases hk:(nextL (s.drop p)).1=0
   ·rw[if_pos hk]at ht;cases ht
   ·rw[if_neg hk]at ht
    by_cases hb:(nextL (s.drop p)).1=1∧16<(nextL (s.drop p)).2
    ·rw[if_pos hb]at ht;cases ht
    ·rw[if_neg hb]at ht
     rcases List.mem_cons.1 ht with rfl | ht
     ·exact⟨s.drop p,by simp;omega,hk,hb,rfl,rfl⟩
     ·exact ih _ t ht
  ·rw[if_neg hlt]at ht;cases ht
theorem tokens_good (s:List UInt8):∀ t∈(tokens s).1,Good t:=by
 unfold tokens
 split
 ·intro t ht;cases ht
 ·dsimp only
  split
  ·exact Ds s _ _
  ·intro t ht;cases ht
def restT:List (List UInt8)→List UInt8
 | []=>[]
 | [t]=>t
 | t::u::ts=>t++32::restT (u::ts)
theorem zf (l:List (List UInt8)) (x:List UInt8):restT (l++[x])=(if l=[]then[]else restT l++[32])++x:=by
 induction l with
 | nil=>rfl
 | cons y l ih=>
  cases l with
  | nil=>simp[restT]
  | cons z l=>
   have e1:restT (y::z::l++[x])=y++32::restT (z::l++[x]):=rfl
   have e2:restT (y::z::l)=y++32::restT (z::l):=rfl
   rw[e1,ih,e2]
   simp
theorem zR (l:List (List UInt8)) (k:Nat) (hk:k≤l.length):joinT l k=restT (l.take k):=by
 induction k with
 | zero=>rfl
 | succ k ih=>
  have hlt:k<l.length:=by omega
  have hg:l.getD k []=l[k]:=by simp[List.getD_eq_getElem?_getD,hlt]
  rw[List.take_succ_eq_append_getElem hlt,zf]
  simp only[joinT,hg,ih (by omega)]
  congr 1
  by_cases h:k=0
  ·subst h;rfl
  ·rw[if_neg h,if_neg]
   intro he
   have:=congrArg List.length he
   rw[List.length_take,List.length_nil]at this;omega
theorem joinS_rest (ts:List aG):joinS ts=restT (ts.map aG.Text):=by
 unfold joinS
 rw[zR _ _ (by simp),List.take_of_length_le (by simp)]
theorem chain_join (s:List UInt8) (ts:List aG) (a:Nat) (h:Chain s a ts):(restT (ts.map aG.Text)).length+2 * a≤2 * s.length:=by
 induction ts generalizing a with
 | nil=>have:=h.1;simp[restT];omega
 | cons t ts ih=>
  obtain⟨_,_,h2,_,_,h5⟩:=h
  have h6:=ih _ h5
  have h7:(restT ((t::ts).map aG.Text)).length≤t.Text.length+1+(restT (ts.map aG.Text)).length:=by
   cases ts with
   | nil=>simp[restT]
   | cons u ts=>simp[restT];omega
  omega
theorem good_next (t:aG) (h:Good t) (r:List UInt8) (hr:r=[]∨spH r):((nextL (t.Text++r)).1:Int)=t.Kind∧(nextL (t.Text++r)).2=t.Text.length∧(nextL (t.Text++r)).1≠0∧¬ ((nextL (t.Text++r)).1=1∧16<(nextL (t.Text++r)).2)∧0<t.Text.length:=by
 obtain⟨l,h0,hk,hb,e1,e2⟩:=h
 have hle:=rn l h0
 have hpos:=oC l h0 hk
 rw[e2,zI l h0 hk r hr]
 have:(l.take (nextL l).2).length=(nextL l).2:=by simp;omega
 exact⟨e1.symm,this.symm,hk,hb,by rw[this];exact hpos⟩
theorem wd (ts:List aG) (h:∀ t∈ts,Good t):skipL false (restT (ts.map aG.Text))=0:=by
 have key:∀ (t:aG) (r:List UInt8),Good t→(r=[]∨spH r)→skipL false (t.Text++r)=0:=fun t r ht hr=>by
  obtain⟨_,_,hk,_,hp⟩:=good_next t ht r hr
  exact nextL_skip _ hk (by simp;omega)
 cases ts with
 | nil=>rfl
 | cons t ts=>
  have ht:=h t (by simp)
  cases ts with
  | nil=>have:=key t [] ht (.inl rfl);rwa [List.append_nil]at this
  | cons u ts=>exact key t (32::restT ((u::ts).map aG.Text)) ht (.inr (.inl rfl))
theorem Dr (S:List UInt8) (ts:List aG) (h:∀ t∈ts,Good t):∀ (f p:Nat),p≤S.length→S.length<p+f→S.drop p=restT (ts.map aG.Text)→
  sameT false ts (goT S f p).1=true∧(goT S f p).2=(0,0):=by
 induction ts with
 | nil=>
  intro f p hp hf hd
  have hge:S.length≤p:=by have:=congrArg List.length hd;simp[restT]at this;omega
  have e:goT S f p=([],0,0):=by
   cases f with
   | zero=>rfl
   | succ f=>simp only[goT];rw[if_neg (by omega)]
  rw[e];exact⟨rfl,rfl⟩
 | cons t ts ih=>
  intro f p hp hf hd
  have ht:=h t (by simp)
  obtain⟨r,hr,hr2,hr3⟩:∃ r,(r=[]∨spH r)∧restT ((t::ts).map aG.Text)=t.Text++r∧(ts=[]∧r=[]∨ts≠[]∧r=32::restT (ts.map aG.Text)):=by
   cases ts with
   | nil=>exact⟨[],.inl rfl,by simp[restT],.inl ⟨rfl,rfl⟩⟩
   | cons u ts=>exact⟨32::restT ((u::ts).map aG.Text),.inr (.inl rfl),rfl,.inr ⟨by simp,rfl⟩⟩
  rw[hr2]at hd
  obtain⟨g1,g2,g3,g4,g5⟩:=good_next t ht r hr
  rw[← hd]at g1 g2 g3 g4
  have hlen:S.length=p+t.Text.length+r.length:=by have:=congrArg List.length hd;simp at this;omega
  obtain⟨f,rfl⟩:∃ f',f=f'+1:=⟨f - 1,by omega⟩
  have hdr:S.drop (p+t.Text.length)=r:=by rw[← List.drop_drop,hd,List.drop_left]
  have hgo:goT S (f+1) p=(⟨(nextL (S.drop p)).1,p,(S.drop p).take (nextL (S.drop p)).2⟩::(goT S f (p+t.Text.length+skipL false r)).1,(goT S f (p+t.Text.length+skipL false r)).2):=by
   simp only[goT]
   rw[if_pos (by omega),if_neg g3,if_neg g4,g2,hdr]
  have htk:(S.drop p).take t.Text.length=t.Text:=by rw[hd,List.take_left]
  obtain⟨h1,h2⟩:sameT false ts (goT S f (p+t.Text.length+skipL false r)).1=true∧(goT S f (p+t.Text.length+skipL false r)).2=(0,0):=by
   rcases hr3 with⟨rfl,rfl⟩ | ⟨hne,rfl⟩
   ·refine ih (fun t ht=>by cases ht) f _ (by simp[skipL];omega) (by simp[skipL];omega) ?_
    rw[List.drop_eq_nil_of_le (by simp at hlen;omega)];rfl
   ·have hsk:skipL false (32::restT (ts.map aG.Text))=1:=by
     have e:=wd ts (fun t ht=>h t (by simp[ht]))
     show skipL false (restT (ts.map aG.Text))+1=1
     rw[e]
    rw[hsk]
    simp only[List.length_cons]at hlen
    refine ih (fun t ht=>h t (by simp[ht])) f _ (by omega) (by omega) ?_
    rw[← List.drop_drop,hdr];rfl
  rw[hgo]
  refine⟨?_,h2⟩
  simp only[sameT,h1,g1,g2,htk]
  simp
theorem tokens_join (ts:List aG) (h:∀ t∈ts,Good t) (hl:(joinS ts).length≤65536):sameT false ts (tokens (joinS ts)).1=true∧(tokens (joinS ts)).2=(0,0):=by
 have hsk:skipL false (joinS ts)=0:=by rw[joinS_rest];exact wd ts h
 obtain⟨h1,h2⟩:=Dr (joinS ts) ts h ((joinS ts).length+1) 0 (by omega) (by omega) (by rw[List.drop_zero,joinS_rest])
 unfold tokens
 rw[if_neg (by omega),hsk]
 dsimp only
 rw[h2]
 exact⟨h1,rfl⟩
end Go.Proofs.YtmhoikfoogemnaaGreatDoor.Z13
