import Derived.Test.YtmhoikfoogemnaaGreatDoorHEl
namespace Go.Proofs.YtmhoikfoogemnaaGreatDoor
open Go Go.RowKit Go.Vc
set_option linter.unusedVariables false
set_option linter.unusedSimpArgs false
variable {L:Cx}
def Jc (n:Int):List (List UInt8):=if n=1 then[[124]]else if n=2 then[[38]]else if n=4 then[[60],[60,61],[61,61]]else if n=5 then[[43],[45]]else if n=6 then[[42],[47]]else[]
def Ju (n:Int):List Int:=if n=1 then[17]else if n=2 then[16]else if n=4 then[13,14,15]else if n=5 then[4,5]else if n=6 then[6,7]else[]
abbrev opAt (r:PR) (gt:List (List UInt8)) (ops:List Int):Int:=match m7 (za r 3) gt with | some i=>ops.getD i 0 | none=>0
section
variable {nx:RP} {rec':RR} {n:Int} {gt:List (List UInt8)} {ops:List Int} {l1:Nat→PR→ae→Option (bZ (ae×PR))} {l2:ae→(PR→ae→Option (bZ (ae×PR)))→Nat→Int→Int→PR→Option (bZ (ae×PR))}
abbrev Ch2 (nx:RP) (gt:List (List UInt8)) (ops:List Int) (l2:ae→(PR→ae→Option (bZ (ae×PR)))→Nat→Int→Int→PR→Option (bZ (ae×PR))):Prop:=
 ∀ e self f op i r,l2 e self (f+1) op i r=if decide (i<(gt.length:Int))=true then(lat gt i).bind λe2=>(MR (decide (op=0)) (ay r e2) (default,r)).bind λ(x:Bool×PR)=>if(decide (op=0)&&x.1)=true then(lat ops i).bind λe3=>l2 e self f e3 (av (i+1)) x.2 else l2 e self f op (av (i+1)) x.2
  else if decide (op=0)=true then some (.ret (e,r))else pb (nx r) λ(y:ae×PR)=>self y.2 (EY op e y.1)
theorem LO (h2:Ch2 nx gt ops l2) (hs:gt.length<1000) (e:ae) (self:PR→ae→Option (bZ (ae×PR))) {op:Int} (ho:op≠0) (r:PR):∀ (m f i:Nat),i+m=gt.length→m<f→l2 e self f op (i:Int) r=pb (nx r) λ(y:ae×PR)=>self y.2 (EY op e y.1):=by
 intro m
 induction m with
 | zero=>
  intro f i hi hf
  obtain⟨f,rfl⟩:∃ g,f=g+1:=⟨f - 1,by omega⟩
  rw[h2,if_neg (by simp;omega),if_neg (by simpa using ho)]
 | succ m ih=>
  intro f i hi hf
  obtain⟨f,rfl⟩:∃ g,f=g+1:=⟨f - 1,by omega⟩
  obtain⟨x,hx⟩:=bY (l:=gt) (i:=i) (by omega)
  rw[h2,if_pos (bs (by omega)),bn hx,Option.bind_some,decide_eq_false ho]
  have e0:∀ (m:Option (Bool×PR)),MR false m (default,r)=some (default,r):=λm=>rfl
  rw[e0,Option.bind_some,Bool.false_and,if_neg (by simp),mH (by omega)]
  exact ih f (i+1) (by omega) (by omega)
theorem OS (h2:Ch2 nx gt ops l2) (hs:gt.length<1000) (hl:ops.length=gt.length) (h0:∀ o∈ops,o≠0) (e:ae) (self:PR→ae→Option (bZ (ae×PR))) {r:PR} (hr:Rok L r):∀ (m f i:Nat),i+m=gt.length→m<f→
  l2 e self f 0 (i:Int) r=match m7 (za r 3) (gt.drop i)with | some j=>pb (nx (mI r)) λ(y:ae×PR)=>self y.2 (EY (ops.getD (i+j) 0) e y.1) | none=>some (.ret (e,r)):=by
 intro m
 induction m with
 | zero=>
  intro f i hi hf
  obtain⟨f,rfl⟩:∃ g,f=g+1:=⟨f - 1,by omega⟩
  rw[h2,if_neg (by simp;omega),if_pos (by simp),List.drop_of_length_le (by omega)];rfl
 | succ m ih=>
  intro f i hi hf
  obtain⟨f,rfl⟩:∃ g,f=g+1:=⟨f - 1,by omega⟩
  obtain⟨x,hx⟩:=bY (l:=gt) (i:=i) (by omega)
  rw[h2,if_pos (bs (by omega)),bn hx,Option.bind_some,yO hr,uv hx,m7]
  have e0:∀ (m:Option (Bool×PR)),MR (decide ((0:Int)=0)) m (default,r)=m:=λm=>rfl
  rw[e0,Option.bind_some]
  cases c:za r 3 x with
  | true=>
   obtain⟨o,ho⟩:=bY (l:=ops) (i:=i) (by omega)
   rw[if_pos rfl,if_pos rfl]
   show(if(true&&true)=true then _ else _)=_
   rw[Bool.and_self,if_pos rfl,bn ho,Option.bind_some,mH (by omega)]
   have hd:ops.getD (i+0) 0=o:=by rw[Nat.add_zero,List.getD_eq_getElem?_getD,ho];rfl
   dsimp only
   rw[hd]
   exact LO h2 hs e self (h0 o (List.mem_of_getElem? ho)) (mI r) m f (i+1) (by omega) (by omega)
  | false=>
   rw[if_neg (by simp),if_neg (by simp)]
   simp only[Bool.and_false,Bool.false_eq_true,if_false]
   rw[mH (by omega)]
   refine(ih f (i+1) (by omega) (by omega)).trans ?_
   cases m7 (za r 3) (gt.drop (i+1))with
   | none=>rfl
   | some j=>show pb _ _ =pb _ _;rw[show i+1+j=i+(j+1)by omega]
end
end Go.Proofs.YtmhoikfoogemnaaGreatDoor
namespace Go.Proofs.YtmhoikfoogemnaaGreatDoor
open Go Go.RowKit Go.Vc
set_option linter.unusedVariables false
set_option linter.unusedSimpArgs false
variable {L:Cx}
end Go.Proofs.YtmhoikfoogemnaaGreatDoor
namespace Go.Proofs.YtmhoikfoogemnaaGreatDoor
open Go Go.RowKit Go.Vc
set_option linter.unusedVariables false
set_option linter.unusedSimpArgs false
theorem I8 {f:Nat} :∀ {e:ae} {n:Nat},okGExpr e→wE e<f→n≤2000→dG f e (λk_0 q=>if q.1=0 then cA k_0 q.2 else none) ((0,(n:Int)):Nat×Int)=some (if n+nE e≤2000 then(true,(0,((n+nE e:Nat):Int)))else(false,(1,2001))):=by
 induction f with
 | zero=>intro e n _ h;omega
 | succ f ih=>
  intro e n ho hw hn
  have hl:=ho.len
  show fZ (dG f) e _ _ =_
  unfold fZ
  rw[G5]
  have h0:(λ(k_0:ae) (q:Nat×Int)=>if q.1=0 then cA k_0 q.2 else none) e (0,(n:Int))=some (if n=2000 then(false,(1,2001))else(true,(0,((n+1:Nat):Int)))):=by
   show(if(0:Nat)=0 then cA e (n:Int)else none)=_
   rw[if_pos rfl]
   unfold cA
   rw[mH (by omega)]
   by_cases c:n=2000
   ·subst c;rfl
   ·rw[if_neg (by simp;omega),if_neg c]
  rw[h0,Option.bind_some]
  by_cases c:n=2000
  ·rw[if_pos c,if_neg (by omega)];rfl
  rw[if_neg c]
  simp only[Bool.not_true,Bool.false_eq_true,if_false]
  refine ib (L:=λf' s i=>ce e (dG f) (λk_0 q=>if q.1=0 then cA k_0 q.2 else none) f' i s) (n:=e.Args.length) hl.2.1 (λi s=>s=((0,((n+1+((e.Args.map nE).take i).sum:Nat):Int)):Nat×Int)∧n+1+((e.Args.map nE).take i).sum≤2000) ?_ ?_ ((0,((n+1:Nat):Int)):Nat×Int) ⟨by simp only[List.take_zero,List.sum_nil,Nat.add_zero],by simp only[List.take_zero,List.sum_nil];omega⟩
  ·rintro f' i s hi ⟨rfl,hb⟩
   obtain⟨x,hx⟩:=bY hi
   have hm:=List.mem_of_getElem? hx
   have hx2:(e.Args.map nE)[i]? =some (nE x):=by rw[List.getElem?_map,hx];rfl
   have h1:=tv hx2
   have h2:=rS (e.Args.map nE) (i+1)
   have:=jN hm
   simp only[ce]
   rw[if_pos (bs hi),bn hx,Option.bind_some,ih (ho.out.2.2.1 x hm) (by omega) hb,Option.bind_some,mH (by omega)]
   by_cases c2:n+1+((e.Args.map nE).take i).sum+nE x≤2000
   ·left
    rw[if_pos c2]
    refine⟨_,⟨rfl,by rw[h1];omega⟩,?_⟩
    simp only[Bool.not_true,Bool.false_eq_true,if_false]
    rw[h1,Nat.add_assoc (n+1)]
   ·right
    rw[if_neg c2,if_neg (show ¬ n+(1+(e.Args.map nE).sum)≤2000 by omega)]
    simp only[Bool.not_false,if_true]
  ·rintro f' s ⟨rfl,hb⟩
   have e1:(e.Args.map nE).take e.Args.length=e.Args.map nE:=by rw[show e.Args.length=(e.Args.map nE).length by rw[List.length_map],List.take_length]
   rw[e1]at hb
   simp only[ce]
   rw[if_neg (by simp),e1,if_pos (by omega), ← Nat.add_assoc]
theorem KN {e:ae} (ho:okGExpr e) (hw:wE e≤1000000):mc e=some ((min (nE e) 2001:Nat):Int):=by
 unfold mc mb iE m3
 rw[Option.bind_some]
 have h:=I8 (f:=fu) (n:=0) ho (by unfold fu;omega) (by omega)
 rw[show((0:Nat):Int)=0 from rfl]at h
 rw[h]
 by_cases c:0+nE e≤2000
 ·rw[if_pos c,show min (nE e) 2001=nE e by omega,Nat.zero_add];rfl
 ·rw[if_neg c,show min (nE e) 2001=2001 by omega]
  rfl
theorem z8 {a:ae} (ho:okGExpr a) (hw:wE a≤1000000):qT a a=some true:=by
 obtain⟨r,h1,h2⟩:=wF fu a a ho (by unfold fu;omega)
 unfold qT
 rw[h1,h2.2 rfl]
end Go.Proofs.YtmhoikfoogemnaaGreatDoor
namespace Go.Proofs.YtmhoikfoogemnaaGreatDoor.Z13
open Go Go.RowKit Go.Vc
set_option linter.unusedVariables false
set_option linter.unusedSimpArgs false
theorem wG (c:UInt8) (l:List UInt8):Ge (c::l) 0=c.toNat:=rfl
def wj (r:Int):Bool:=decide (97≤r)&&decide (r≤122)
def sx (r:Int):Bool:=decide (48≤r)&&decide (r≤57)
def hO (r:Int):Bool:=(wj r||sx r)||decide (r=95)
def pZ (r:Int):Bool:=decide (r=9)||decide (r=10)||decide (r=13)||decide (r=32)
def HG (r:Int):Bool:=[40,41,91,93,123,125,44,59,58,43,45,42,47,60,61,38,124,33,46,64].contains r
def qg (r:Int):Bool:= !decide (r=10)
def lD (p:Int→Bool):List UInt8→Nat
 | []=>0
 | c::l=>match p (c.toNat:Int)with | true=>lD p l+1 | false=>0
theorem yC (p:Int→Bool) (l:List UInt8):lD p l≤l.length:=by
 induction l with
 | nil=>exact Nat.le_refl _
 | cons c l ih=>simp only[lD];cases p (c.toNat:Int)<;>simp<;>omega
def bK:Bool→List UInt8→Nat
 | _,[]=>0
 | true,c::l=>match qg (c.toNat:Int)with | true=>bK true l+1 | false=>bK false l+1
 | false,c::l=>match pZ (c.toNat:Int)with
  | true=>bK false l+1
  | false=>match decide ((c.toNat:Int)=35)with | true=>bK true l+1 | false=>0
theorem qb (b:Bool) (l:List UInt8):bK b l≤l.length:=by
 induction l generalizing b with
 | nil=>cases b<;>exact Nat.le_refl _
 | cons c l ih=>
  have h1:=ih true
  have h2:=ih false
  cases b<;>simp only[bK]
  ·cases pZ (c.toNat:Int)
   ·cases decide ((c.toNat:Int)=35)<;>simp<;>omega
   ·simp;omega
  ·cases qg (c.toNat:Int)<;>simp<;>omega
theorem Ag (l:List UInt8):bK true l=lD qg l+bK false (l.drop (lD qg l)):=by
 induction l with
 | nil=>rfl
 | cons c l ih=>
  by_cases h:qg (c.toNat:Int)=true
  ·simp only[bK,lD,h,ih,List.drop_succ_cons];omega
  ·rw[Bool.not_eq_true]at h
   have h10:(c.toNat:Int)=10:=by simpa[qg]using h
   have hs:pZ (c.toNat:Int)=true:=by rw[h10];rfl
   simp only[bK,lD,h,List.drop_zero,hs]
   omega
def gr (l:List UInt8):Nat×Nat:=
 let c:=Ge l 0
 if wj c then(1,lD hO l)
 else if sx c then(2,lD sx l)
 else if(decide (c=60)||decide (c=61))&&decide ((1:Int)<(l.length:Int))&&decide (Ge l 1=61)then(3,2)
 else if HG c then(3,1)
 else(0,0)
theorem yP (l:List UInt8) (hl:0<l.length):(gr l).2≤l.length:=by
 unfold gr
 have h1:=yC hO l
 have h2:=yC sx l
 dsimp only
 split
 ·exact h1
 ·split
  ·exact h2
  ·split
   ·rename_i h;simp at h;simp only;omega
   ·split<;>simp only<;>omega
theorem uq (l:List UInt8) (hl:0<l.length) (h:(gr l).1≠0):0<(gr l).2:=by
 obtain⟨c,l,rfl⟩:∃ c l',l=c::l':=by cases l with | nil=>simp at hl | cons c l=>exact⟨c,l,rfl⟩
 revert h
 unfold gr
 rw[wG]
 dsimp only
 split
 ·rename_i h;intro _;have hw:hO (c.toNat:Int)=true:=by simp[hO,h]
  simp[lD,hw]
 ·split
  ·rename_i h;intro _;simp[lD,h]
  ·split
   ·intro _;simp
   ·split<;>simp
def uS (s:List UInt8):Nat→Nat→List bp×Nat×Nat
 | 0,_=>([],0,0)
 | f+1,p=>
  if p<s.length then
   let k:=gr (s.drop p)
   if k.1=0 then([],p,5)
   else if k.1=1∧16<k.2 then([],p,2)
   else
    let r:=uS s f (p+k.2+bK false (s.drop (p+k.2)))
    (⟨k.1,p,(s.drop p).take k.2⟩::r.1,r.2)
  else([],0,0)
def tokens (s:List UInt8):List bp×Nat×Nat:=
 if 65536<s.length then([],0,2)
 else
  let r:=uS s (s.length+1) (bK false s)
  if r.2.2=0 then(r.1,0,0)else([],r.2.1,r.2.2)
def Chain (s:List UInt8):Nat→List bp→Prop
 | a,[]=>a≤s.length∧a+bK false (s.drop a)=s.length
 | a,t::ts=>a≤s.length∧t.At=((a+bK false (s.drop a):Nat):Int)∧0<t.Text.length∧a+bK false (s.drop a)+t.Text.length≤s.length∧
   (s.drop (a+bK false (s.drop a))).take t.Text.length=t.Text∧Chain s (a+bK false (s.drop a)+t.Text.length) ts
theorem H5 (s:List UInt8) (f a:Nat) (ha:a≤s.length) (hf:s.length<a+bK false (s.drop a)+f) (he:(uS s f (a+bK false (s.drop a))).2.2=0):Chain s a (uS s f (a+bK false (s.drop a))).1:=by
 induction f generalizing a with
 | zero=>
  have:=qb false (s.drop a)
  simp at this;omega
 | succ f ih=>
  have hsk:=qb false (s.drop a)
  simp only[List.length_drop]at hsk
  generalize hp:a+bK false (s.drop a)=p at *
  simp only[uS]at he ⊢
  by_cases hlt:p<s.length
  ·rw[if_pos hlt]at he ⊢
   by_cases hk:(gr (s.drop p)).1=0
   ·rw[if_pos hk]at he;simp at he
   ·rw[if_neg hk]at he ⊢
    by_cases hb:(gr (s.drop p)).1=1∧16<(gr (s.drop p)).2
    ·rw[if_pos hb]at he;simp at he
    ·rw[if_neg hb]at he ⊢
     have hle:=yP (s.drop p) (by simp;omega)
     have hpos:=uq (s.drop p) (by simp;omega) hk
     have hlen:((s.drop p).take (gr (s.drop p)).2).length=(gr (s.drop p)).2:=by simp at hle ⊢;omega
     simp only[List.length_drop]at hle
     refine⟨ha,by rw[hp],by rw[hlen];exact hpos,by rw[hp,hlen];omega,by rw[hp,hlen],?_⟩
     rw[hp,hlen]
     exact ih (p+(gr (s.drop p)).2) (by omega) (by omega) he
  ·rw[if_neg hlt]
   exact⟨ha,by omega⟩
theorem tokens_chain (s:List UInt8) (hs:s.length≤65536) (he:(tokens s).2.2=0):Chain s 0 (tokens s).1:=by
 unfold tokens at he ⊢
 rw[if_neg (by omega)]at he ⊢
 have h:=H5 s (s.length+1) 0 (by omega) (by omega)
 simp only[List.drop_zero,Nat.zero_add]at h
 dsimp only at he ⊢
 by_cases h0:(uS s (s.length+1) (bK false s)).2.2=0
 ·rw[if_pos h0];exact h h0
 ·rw[if_neg h0]at he;exact absurd he h0
theorem tokens_none (s:List UInt8) (he:(tokens s).2.2≠0):(tokens s).1=[]:=by
 unfold tokens at he ⊢
 split
 ·rfl
 ·rename_i h
  rw[if_neg h]at he
  dsimp only at he ⊢
  by_cases h0:(uS s (s.length+1) (bK false s)).2.2=0
  ·rw[if_pos h0]at he;exact absurd rfl he
  ·rw[if_neg h0]
theorem chain_le (s:List UInt8) (ts:List bp) (a:Nat) (h:Chain s a ts):ts.length+a≤s.length:=by
 induction ts generalizing a with
 | nil=>simpa using h.1
 | cons t ts ih=>
  obtain⟨h1,_,h2,_,_,h5⟩:=h
  have:=ih _ h5
  simp;omega
def dP (l:List (List UInt8)):Nat→List UInt8
 | 0=>[]
 | k+1=>(if k=0 then[]else dP l k++[32])++l.getD k []
end Go.Proofs.YtmhoikfoogemnaaGreatDoor.Z13
namespace Go.Proofs.YtmhoikfoogemnaaGreatDoor.Z13
open Go Go.RowKit Go.Vc
set_option linter.unusedVariables false
set_option linter.unusedSimpArgs false
theorem Kc (l:List UInt8) (i:Nat) (h:i<l.length):∃ c,l[i]? =some c∧l.drop i=c::l.drop (i+1):=⟨l[i],by simp[h],List.drop_eq_getElem_cons h⟩
theorem Ni (c:UInt8):qZ (c.toNat:Int)=(c.toNat:Int):=rq c
theorem Fi {s:List UInt8} {f:Int→Option Bool} {p:Int→Bool} (hs:s.length<4611686018427387904) (hf:∀ c:UInt8,f (c.toNat:Int)=some (p (c.toNat:Int))):hU s f=some (lD p s:Int):=by
 unfold hU
 have key:∀ (g i:Nat),i≤s.length→s.length - i<g→cR s f g (i:Int)=some ((i+lD p (s.drop i):Nat):Int):=by
  intro g
  induction g with
  | zero=>intros;omega
  | succ g ih=>
   intro i hi hg
   simp only[cR]
   by_cases h:i<s.length
   ·obtain⟨c,hc,hd⟩:=Kc s i h
    rw[bs h]
    simp only[gd,if_true,iC hc,Option.bind_some,Ni,hf,Bool.true_and]
    rw[hd]
    simp only[lD]
    cases hp:p (c.toNat:Int)with
    | true=>
     rw[if_pos rfl,mH (by omega),ih (i+1) (by omega) (by omega)]
     dsimp only
     rw[Nat.add_right_comm,Nat.add_assoc]
    | false=>rw[if_neg (by simp)];rfl
   ·rw[List.drop_of_length_le (by omega),decide_eq_false (by omega)]
    simp[gd,lD]
 have:=key fu 0 (by omega) (by unfold fu;omega)
 rw[List.drop_zero,Nat.zero_add]at this
 exact this
theorem DR:∀ n:Nat,n<256→iW (n:Int)=some (pZ (n:Int))∧je (n:Int)=some (HG (n:Int)):=by decide+kernel
theorem Lf (c:UInt8):iW (c.toNat:Int)=some (pZ (c.toNat:Int)):=(DR c.toNat c.toNat_lt).1
theorem yB (c:UInt8):je (c.toNat:Int)=some (HG (c.toNat:Int)):=(DR c.toNat c.toNat_lt).2
theorem Ql:qg 35=true:=rfl
theorem HK {c:UInt8} {l:List UInt8} (hs:pZ (c.toNat:Int)=false) (hc:(c.toNat:Int)=35):bK false (c::l)=lD qg (c::l)+bK false ((c::l).drop (lD qg (c::l)))∧1≤lD qg (c::l):=by
 have e:bK false (c::l)=bK true (c::l):=by
  simp only[bK]
  rw[hs,hc]
  simp only[Ql,decide_true]
 refine⟨by rw[e];exact Ag _,?_⟩
 simp only[lD,hc,Ql];omega
theorem I6 {s:List UInt8} (hl:s.length≤1000000):iQ s=some (bK false s:Int):=by
 unfold iQ
 have key:∀ (g i:Nat),i≤s.length→s.length - i<g→ei s g (i:Int)=some ((i+bK false (s.drop i):Nat):Int):=by
  intro g
  induction g with
  | zero=>intros;omega
  | succ g ih=>
   intro i hi hg
   simp only[ei]
   by_cases h:i<s.length
   ·obtain⟨c,hc,hd⟩:=Kc s i h
    rw[if_pos (bs h),iC hc,Option.bind_some,Ni,Lf,Option.bind_some]
    cases hsp:pZ (c.toNat:Int)with
    | true=>
     rw[if_pos rfl,mH (by omega),ih (i+1) (by omega) (by omega),hd]
     simp only[bK,hsp]
     rw[Nat.add_right_comm,Nat.add_assoc]
    | false=>
     rw[if_neg (by simp)]
     by_cases h35:(c.toNat:Int)=35
     ·obtain⟨q1,q2⟩:=HK (l:=s.drop (i+1)) hsp h35
      rw[← hd]at q1 q2
      have hle:=yC qg (s.drop i)
      rw[List.length_drop]at hle
      have e1:iJ s (i:Int)=some (s.drop i):=by unfold iJ;rw[if_pos (by omega)];simp
      rw[if_pos (by simpa using h35),e1,Option.bind_some,Fi (p:=qg) (by rw[List.length_drop];omega) (λc=>rfl),Option.bind_some,Pm (by omega),ih (i+lD qg (s.drop i)) (by omega) (by omega),q1, ← List.drop_drop,Nat.add_assoc]
     ·rw[if_neg (by simpa using h35),hd]
      simp only[bK,hsp,decide_eq_false h35]
      rfl
   ·rw[List.drop_of_length_le (by omega),if_neg (by simp;omega)];rfl
 have:=key fu 0 (by omega) (by unfold fu;omega)
 rw[List.drop_zero,Nat.zero_add]at this
 exact this
theorem L7 (c:UInt8) (l:List UInt8):sat (c::l) 0=some (c.toNat:Int):=iC (i:=0) rfl
theorem JY (c:UInt8):ej (c.toNat:Int)=some (hO (c.toNat:Int)):=by
 unfold ej fO fP hO wj sx
 rw[Option.bind_some]
 cases (decide (97≤(c.toNat:Int))&&decide ((c.toNat:Int)≤122))<;>simp[gd]
theorem OG {s:List UInt8} (h0:0<s.length) (hl:s.length≤1000000):jE s=some (((gr s).1:Int),((gr s).2:Int)):=by
 obtain⟨c,l,rfl⟩:∃ c l,s=c::l:=by cases s with | nil=>simp at h0 | cons c l=>exact⟨c,l,rfl⟩
 unfold jE gr
 rw[L7,Option.bind_some,Ni,wG]
 dsimp only
 show((some (wj (c.toNat:Int))).bind _)=_
 rw[Option.bind_some]
 cases h1:wj (c.toNat:Int)with
 | true=>rw[if_pos rfl,if_pos rfl,Fi (p:=hO) (by omega) JY];rfl
 | false=>
  rw[if_neg (by simp),if_neg (by simp)]
  show((some (sx (c.toNat:Int))).bind _)=_
  rw[Option.bind_some]
  cases h2:sx (c.toNat:Int)with
  | true=>rw[if_pos rfl,if_pos rfl,Fi (p:=sx) (by omega) (λc=>rfl)];rfl
  | false=>
   rw[if_neg (by simp),if_neg (by simp)]
   cases l with
   | nil=>
    have e:decide ((1:Int)<((([c]:List UInt8).length:Nat):Int))=false:=by simp
    rw[e]
    simp only[gd,Bool.and_false,Bool.false_and,Bool.false_eq_true,if_false,Option.bind_some]
    rw[yB,Option.bind_some]
    cases HG (c.toNat:Int)<;>rfl
   | cons d l=>
    have e:decide ((1:Int)<(((c::d::l).length:Nat):Int))=true:=decide_eq_true (by simp only[List.length_cons];omega)
    have e1:sat (c::d::l) 1=some (d.toNat:Int):=iC (i:=1) rfl
    have e2:Ge (c::d::l) 1=(d.toNat:Int):=rfl
    rw[e,e1,e2,Bool.and_true]
    cases hb:(decide ((c.toNat:Int)=60)||decide ((c.toNat:Int)=61))with
    | true=>
     simp only[gd,if_true,Option.bind_some,Bool.true_and]
     cases hd:decide ((d.toNat:Int)=61)with
     | true=>rfl
     | false=>
      simp only[Bool.false_eq_true,if_false]
      rw[yB,Option.bind_some]
      cases HG (c.toNat:Int)<;>rfl
    | false=>
     simp only[gd,Bool.false_and,Bool.false_eq_true,if_false,Option.bind_some]
     rw[yB,Option.bind_some]
     cases HG (c.toNat:Int)<;>rfl
def FA (out:List bp) (r:List bp×Nat×Nat):List bp×Int×Int:=if r.2.2=0 then(out++r.1,0,0)else([],(r.2.1:Int),(r.2.2:Int))
theorem OJ {s:List UInt8} {p n:Nat} (h:p+n≤s.length):vh s (p:Int) ((p+n:Nat):Int)=some ((s.drop p).take n):=by
 unfold vh;rw[if_pos (by omega),Int.toNat_natCast,Int.toNat_natCast,show p+n - p=n by omega]
theorem Ha {s:List UInt8} {p:Nat} (h:p≤s.length):iJ s (p:Int)=some (s.drop p):=by unfold iJ;rw[if_pos (by omega)];simp
theorem Lr {out:List bp} {t:bp} {r:List bp×Nat×Nat} :FA (out++[t]) r=FA out (t::r.1,r.2):=by
 unfold FA;dsimp only;split
 ·rw[List.append_assoc];rfl
 ·rfl
theorem PW {s:List UInt8} (hl:s.length≤65536):∀ (g f p:Nat) (out:List bp),s.length<p+g→s.length<p+f→p≤s.length→out.length≤p→cG s g out (p:Int)=some (FA out (uS s f p)):=by
 intro g
 induction g with
 | zero=>intros;omega
 | succ g ih=>
  intro f p out hg hf hp ho
  obtain⟨f,rfl⟩:∃ k,f=k+1:=⟨f - 1,by omega⟩
  simp only[cG,uS]
  by_cases h:p<s.length
  ·have h0:0<(s.drop p).length:=by rw[List.length_drop];omega
   have hle:=yP (s.drop p) h0
   have hpos:=uq (s.drop p) h0
   rw[List.length_drop]at hle
   rw[if_pos (bs h),Ha hp,Option.bind_some,OG h0 (by rw[List.length_drop];omega),Option.bind_some,if_pos h]
   by_cases hk:(gr (s.drop p)).1=0
   ·rw[if_pos (by simpa using hk),if_pos hk];rfl
   ·have hpos:=hpos hk
    rw[if_neg (by simpa using hk),if_neg hk]
    by_cases hw:(gr (s.drop p)).1=1∧16<(gr (s.drop p)).2
    ·rw[if_pos hw,if_pos (by simp;omega)];rfl
    ·have hsk:=qb false (s.drop (p+(gr (s.drop p)).2))
     rw[List.length_drop]at hsk
     rw[if_neg hw,if_neg (by simp;omega),Pm (by omega),OJ (by omega),Option.bind_some,aR (by simp only[List.length_cons,List.length_nil];omega),Option.bind_some,Ha (by omega),Option.bind_some,I6 (by rw[List.length_drop];omega),Option.bind_some,Option.bind_some,Pm (by omega)]
     rw[ih f _ _ (by omega) (by omega) (by omega) (by simp only[List.length_append,List.length_cons,List.length_nil];omega),Lr]
  ·rw[if_neg h,if_neg (by simp;omega)]
   unfold FA;simp
def K5 (s:List UInt8):List bp×Int×Int:=((tokens s).1,((tokens s).2.1:Int),((tokens s).2.2:Int))
theorem K4 {s:List UInt8} (h:¬ 65536<s.length):K5 s=FA [] (uS s (s.length+1) (bK false s)):=by
 unfold K5 tokens FA
 rw[if_neg h]
 dsimp only
 split<;>simp
theorem lexer_Tokenize (s:List UInt8) (hl:s.length<4611686018427387904):es s=some (K5 s):=by
 unfold es
 by_cases h:65536<s.length
 ·rw[if_pos (by simp;omega)]
  unfold K5 tokens
  rw[if_pos h];rfl
 ·have hsk:=qb false s
  rw[if_neg (by simp;omega),I6 (by omega),Option.bind_some,K4 h]
  exact PW (by omega) fu _ _ [] (by unfold fu;omega) (by omega) hsk (by simp)
end Go.Proofs.YtmhoikfoogemnaaGreatDoor.Z13
namespace Go.Proofs.YtmhoikfoogemnaaGreatDoor
open Go Go.RowKit Go.Vc
set_option linter.unusedVariables false
set_option linter.unusedSimpArgs false
theorem K3 {s:List UInt8} (h:s.length≤65536):(Z13.tokens s).1.length≤s.length∧∀ t∈(Z13.tokens s).1,t.Text.length≤s.length:=by
 by_cases he:(Z13.tokens s).2.2=0
 ·have hc:=Z13.tokens_chain s h he
  refine⟨by have:=Z13.chain_le _ _ _ hc;omega,?_⟩
  have go:∀ (ts:List bp) (a:Nat),Z13.Chain s a ts→∀ t∈ts,t.Text.length≤s.length:=by
   intro ts
   induction ts with
   | nil=>intro a _ t ht;cases ht
   | cons u ts ih=>
    intro a ⟨_,_,_,h4,_,h6⟩ t ht
    rcases List.mem_cons.1 ht with rfl | ht
    ·omega
    ·exact ih _ h6 t ht
  exact go _ 0 hc
 ·rw[Z13.tokens_none s he];exact⟨by simp,by intro t ht;cases ht⟩
end Go.Proofs.YtmhoikfoogemnaaGreatDoor
namespace Go.Proofs.YtmhoikfoogemnaaGreatDoor
open Go Go.RowKit Go.Vc
set_option linter.unusedVariables false
set_option linter.unusedSimpArgs false
end Go.Proofs.YtmhoikfoogemnaaGreatDoor
namespace Go.Proofs.YtmhoikfoogemnaaGreatDoor
open Go Go.RowKit Go.Vc
set_option linter.unusedVariables false
set_option linter.unusedSimpArgs false
end Go.Proofs.YtmhoikfoogemnaaGreatDoor
