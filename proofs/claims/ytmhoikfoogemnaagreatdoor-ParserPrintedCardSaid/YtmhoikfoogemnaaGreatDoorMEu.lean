import Derived.Test.YtmhoikfoogemnaaGreatDoorMEl
namespace Go.Proofs.YtmhoikfoogemnaaGreatDoor
open Go Go.RowKit Go.Vc
set_option linter.unusedVariables false
set_option linter.unusedSimpArgs false
variable {L:Cx}
def EQ (n:Int):List (List UInt8):=if n=1 then[[124]]else if n=2 then[[38]]else if n=4 then[[60],[60,61],[61,61]]else if n=5 then[[43],[45]]else if n=6 then[[42],[47]]else[]
def E7 (n:Int):List Int:=if n=1 then[17]else if n=2 then[16]else if n=4 then[13,14,15]else if n=5 then[4,5]else if n=6 then[6,7]else[]
abbrev opAt (r:PR) (fR:List (List UInt8)) (ops:List Int):Int:=match mu (wP r 3) fR with | some i=>ops.getD i 0 | none=>0
section
variable {nx:RP} {rec':RR} {n:Int} {fR:List (List UInt8)} {ops:List Int} {l1:Nat→PR→ac→Option (bC (ac×PR))} {l2:ac→(PR→ac→Option (bC (ac×PR)))→Nat→Int→Int→PR→Option (bC (ac×PR))}
abbrev Ch2 (nx:RP) (fR:List (List UInt8)) (ops:List Int) (l2:ac→(PR→ac→Option (bC (ac×PR)))→Nat→Int→Int→PR→Option (bC (ac×PR))):Prop:=
 ∀ e self f op i r,l2 e self (f+1) op i r=if decide (i<(fR.length:Int))=true then(lat fR i).bind fun e2=>(Ea (decide (op=0)) (aq r e2) (default,r)).bind fun(x:Bool×PR)=>if(decide (op=0)&&x.1)=true then(lat ops i).bind fun e3=>l2 e self f e3 (au (i+1)) x.2 else l2 e self f op (au (i+1)) x.2
  else if decide (op=0)=true then some (.ret (e,r))else pb (nx r) fun(y:ac×PR)=>self y.2 (AX op e y.1)
theorem GY (h2:Ch2 nx fR ops l2) (hs:fR.length<1000) (e:ac) (self:PR→ac→Option (bC (ac×PR))) {op:Int} (ho:op≠0) (r:PR):∀ (m f i:Nat),i+m=fR.length→m<f→l2 e self f op (i:Int) r=pb (nx r) fun(y:ac×PR)=>self y.2 (AX op e y.1):=by
 intro m
 induction m with
 | zero=>
  intro f i hi hf
  obtain⟨f,rfl⟩:∃ g,f=g+1:=⟨f - 1,by omega⟩
  rw[h2,if_neg (by simp;omega),if_neg (by simpa using ho)]
 | succ m ih=>
  intro f i hi hf
  obtain⟨f,rfl⟩:∃ g,f=g+1:=⟨f - 1,by omega⟩
  obtain⟨x,hx⟩:=bZ (l:=fR) (i:=i) (by omega)
  rw[h2,if_pos (bX (by omega)),bS hx,Option.bind_some,decide_eq_false ho]
  have e0:∀ (m:Option (Bool×PR)),Ea false m (default,r)=some (default,r):=fun m=>rfl
  rw[e0,Option.bind_some,Bool.false_and,if_neg (by simp),ni (by omega)]
  exact ih f (i+1) (by omega) (by omega)
theorem Jm (h2:Ch2 nx fR ops l2) (hs:fR.length<1000) (hl:ops.length=fR.length) (h0:∀ o∈ops,o≠0) (e:ac) (self:PR→ac→Option (bC (ac×PR))) {r:PR} (hr:Rok L r):∀ (m f i:Nat),i+m=fR.length→m<f→
  l2 e self f 0 (i:Int) r=match mu (wP r 3) (fR.drop i)with | some j=>pb (nx (oh r)) fun(y:ac×PR)=>self y.2 (AX (ops.getD (i+j) 0) e y.1) | none=>some (.ret (e,r)):=by
 intro m
 induction m with
 | zero=>
  intro f i hi hf
  obtain⟨f,rfl⟩:∃ g,f=g+1:=⟨f - 1,by omega⟩
  rw[h2,if_neg (by simp;omega),if_pos (by simp),List.drop_of_length_le (by omega)];rfl
 | succ m ih=>
  intro f i hi hf
  obtain⟨f,rfl⟩:∃ g,f=g+1:=⟨f - 1,by omega⟩
  obtain⟨x,hx⟩:=bZ (l:=fR) (i:=i) (by omega)
  rw[h2,if_pos (bX (by omega)),bS hx,Option.bind_some,vn hr,qY hx,mu]
  have e0:∀ (m:Option (Bool×PR)),Ea (decide ((0:Int)=0)) m (default,r)=m:=fun m=>rfl
  rw[e0,Option.bind_some]
  cases c:wP r 3 x with
  | true=>
   obtain⟨o,ho⟩:=bZ (l:=ops) (i:=i) (by omega)
   rw[if_pos rfl,if_pos rfl]
   show(if(true&&true)=true then _ else _)=_
   rw[Bool.and_self,if_pos rfl,bS ho,Option.bind_some,ni (by omega)]
   have hd:ops.getD (i+0) 0=o:=by rw[Nat.add_zero,List.getD_eq_getElem?_getD,ho];rfl
   dsimp only
   rw[hd]
   exact GY h2 hs e self (h0 o (List.mem_of_getElem? ho)) (oh r) m f (i+1) (by omega) (by omega)
  | false=>
   rw[if_neg (by simp),if_neg (by simp)]
   simp only[Bool.and_false,Bool.false_eq_true,if_false]
   rw[ni (by omega)]
   refine(ih f (i+1) (by omega) (by omega)).trans ?_
   cases mu (wP r 3) (fR.drop (i+1))with
   | none=>rfl
   | some j=>show pb _ _ =pb _ _;rw[show i+1+j=i+(j+1)by omega]
end
end Go.Proofs.YtmhoikfoogemnaaGreatDoor
namespace Go.Proofs.YtmhoikfoogemnaaGreatDoor
open Go Go.RowKit Go.Vc
set_option linter.unusedVariables false
set_option linter.unusedSimpArgs false
variable {L:Cx}
end Go.Proofs.YtmhoikfoogemnaaGreatDoor
namespace Go.Proofs.YtmhoikfoogemnaaGreatDoor
open Go Go.RowKit Go.Vc
set_option linter.unusedVariables false
set_option linter.unusedSimpArgs false
theorem EM {f:Nat} :∀ {e:ac} {n:Nat},okGExpr e→wE e<f→n≤2000→cW f e (fun k_0 q=>if q.1=0 then cc k_0 q.2 else none) ((0,(n:Int)):Nat×Int)=some (if n+nE e≤2000 then(true,(0,((n+nE e:Nat):Int)))else(false,(1,2001))):=by
 induction f with
 | zero=>intro e n _ h;omega
 | succ f ih=>
  intro e n ho hw hn
  have hl:=ho.len
  show eV (cW f) e _ _ =_
  unfold eV
  rw[CT]
  have h0:(fun(k_0:ac) (q:Nat×Int)=>if q.1=0 then cc k_0 q.2 else none) e (0,(n:Int))=some (if n=2000 then(false,(1,2001))else(true,(0,((n+1:Nat):Int)))):=by
   show(if(0:Nat)=0 then cc e (n:Int)else none)=_
   rw[if_pos rfl]
   unfold cc
   rw[ni (by omega)]
   by_cases c:n=2000
   ·subst c;rfl
   ·rw[if_neg (by simp;omega),if_neg c]
  rw[h0,Option.bind_some]
  by_cases c:n=2000
  ·rw[if_pos c,if_neg (by omega)];rfl
  rw[if_neg c]
  simp only[Bool.not_true,Bool.false_eq_true,if_false]
  refine i7 (L:=fun f' s i=>bM e (cW f) (fun k_0 q=>if q.1=0 then cc k_0 q.2 else none) f' i s) (n:=e.Args.length) hl.2.1 (fun i s=>s=((0,((n+1+((e.Args.map nE).take i).sum:Nat):Int)):Nat×Int)∧n+1+((e.Args.map nE).take i).sum≤2000) ?_ ?_ ((0,((n+1:Nat):Int)):Nat×Int) ⟨by simp only[List.take_zero,List.sum_nil,Nat.add_zero],by simp only[List.take_zero,List.sum_nil];omega⟩
  ·rintro f' i s hi ⟨rfl,hb⟩
   obtain⟨x,hx⟩:=bZ hi
   have hm:=List.mem_of_getElem? hx
   have hx2:(e.Args.map nE)[i]? =some (nE x):=by rw[List.getElem?_map,hx];rfl
   have h1:=sb hx2
   have h2:=qQ (e.Args.map nE) (i+1)
   have:=jj hm
   simp only[bM]
   rw[if_pos (bX hi),bS hx,Option.bind_some,ih (ho.out.2.2.1 x hm) (by omega) hb,Option.bind_some,ni (by omega)]
   by_cases c2:n+1+((e.Args.map nE).take i).sum+nE x≤2000
   ·left
    rw[if_pos c2]
    refine⟨_,⟨rfl,by rw[h1];omega⟩,?_⟩
    simp only[Bool.not_true,Bool.false_eq_true,if_false]
    rw[h1,Nat.add_assoc (n+1)]
   ·right
    rw[if_neg c2,if_neg (show ¬ n+(1+(e.Args.map nE).sum)≤2000 by omega)]
    simp only[Bool.not_false,if_true]
  ·rintro f' s ⟨rfl,hb⟩
   have e1:(e.Args.map nE).take e.Args.length=e.Args.map nE:=by rw[show e.Args.length=(e.Args.map nE).length by rw[List.length_map],List.take_length]
   rw[e1]at hb
   simp only[bM]
   rw[if_neg (by simp),e1,if_pos (by omega), ← Nat.add_assoc]
theorem Gd {e:ac} (ho:okGExpr e) (hw:wE e≤1000000):kK e=some ((min (nE e) 2001:Nat):Int):=by
 unfold kK kJ gG ly
 rw[Option.bind_some]
 have h:=EM (f:=fu) (n:=0) ho (by unfold fu;omega) (by omega)
 rw[show((0:Nat):Int)=0 from rfl]at h
 rw[h]
 by_cases c:0+nE e≤2000
 ·rw[if_pos c,show min (nE e) 2001=nE e by omega,Nat.zero_add];rfl
 ·rw[if_neg c,show min (nE e) 2001=2001 by omega]
  rfl
def zE:ac:=⟨0,[],zV,zT,zL,[],[]⟩
theorem wG {a:ac} (ho:okGExpr a) (hw:wE a≤1000000):oB a a=some true:=by
 obtain⟨r,h1,h2⟩:=tg fu a a ho (by unfold fu;omega)
 unfold oB
 rw[h1,h2.2 rfl]
end Go.Proofs.YtmhoikfoogemnaaGreatDoor
namespace Go.Proofs.YtmhoikfoogemnaaGreatDoor.Z13
open Go Go.RowKit Go.Vc
set_option linter.unusedVariables false
set_option linter.unusedSimpArgs false
theorem AY (c:UInt8) (l:List UInt8):Ge (c::l) 0=c.toNat:=rfl
def sy (r:Int):Bool:=decide (97≤r)&&decide (r≤122)
def qy (r:Int):Bool:=decide (48≤r)&&decide (r≤57)
def gl (r:Int):Bool:=(sy r||qy r)||decide (r=95)
def rA (r:Int):Bool:=decide (r=9)||decide (r=10)||decide (r=13)||decide (r=32)
def Dw (r:Int):Bool:=[40,41,91,93,123,125,44,59,58,43,45,42,47,60,61,38,124,33,46,64].contains r
def o6 (r:Int):Bool:= !decide (r=10)
def lP (p:Int→Bool):List UInt8→Nat
 | []=>0
 | c::l=>match p (c.toNat:Int)with | true=>lP p l+1 | false=>0
theorem ve (p:Int→Bool) (l:List UInt8):lP p l≤l.length:=by
 induction l with
 | nil=>exact Nat.le_refl _
 | cons c l ih=>simp only[lP];cases p (c.toNat:Int)<;>simp<;>omega
def gJ:Bool→List UInt8→Nat
 | _,[]=>0
 | true,c::l=>match o6 (c.toNat:Int)with | true=>gJ true l+1 | false=>gJ false l+1
 | false,c::l=>match rA (c.toNat:Int)with
  | true=>gJ false l+1
  | false=>match decide ((c.toNat:Int)=35)with | true=>gJ true l+1 | false=>0
theorem sd (b:Bool) (l:List UInt8):gJ b l≤l.length:=by
 induction l generalizing b with
 | nil=>cases b<;>exact Nat.le_refl _
 | cons c l ih=>
  have h1:=ih true
  have h2:=ih false
  cases b<;>simp only[gJ]
  ·cases rA (c.toNat:Int)
   ·cases decide ((c.toNat:Int)=35)<;>simp<;>omega
   ·simp;omega
  ·cases o6 (c.toNat:Int)<;>simp<;>omega
theorem wO (l:List UInt8):gJ true l=lP o6 l+gJ false (l.drop (lP o6 l)):=by
 induction l with
 | nil=>rfl
 | cons c l ih=>
  by_cases h:o6 (c.toNat:Int)=true
  ·simp only[gJ,lP,h,ih,List.drop_succ_cons];omega
  ·rw[Bool.not_eq_true]at h
   have h10:(c.toNat:Int)=10:=by simpa[o6]using h
   have hs:rA (c.toNat:Int)=true:=by rw[h10];rfl
   simp only[gJ,lP,h,List.drop_zero,hs]
   omega
def l6 (l:List UInt8):Nat×Nat:=
 let c:=Ge l 0
 if sy c then(1,lP gl l)
 else if qy c then(2,lP qy l)
 else if(decide (c=60)||decide (c=61))&&decide ((1:Int)<(l.length:Int))&&decide (Ge l 1=61)then(3,2)
 else if Dw c then(3,1)
 else(0,0)
theorem Al (l:List UInt8) (hl:0<l.length):(l6 l).2≤l.length:=by
 unfold l6
 have h1:=ve gl l
 have h2:=ve qy l
 dsimp only
 split
 ·exact h1
 ·split
  ·exact h2
  ·split
   ·rename_i h;simp at h;simp only;omega
   ·split<;>simp only<;>omega
theorem xJ (l:List UInt8) (hl:0<l.length) (h:(l6 l).1≠0):0<(l6 l).2:=by
 obtain⟨c,l,rfl⟩:∃ c l',l=c::l':=by cases l with | nil=>simp at hl | cons c l=>exact⟨c,l,rfl⟩
 revert h
 unfold l6
 rw[AY]
 dsimp only
 split
 ·rename_i h;intro _;have hw:gl (c.toNat:Int)=true:=by simp[gl,h]
  simp[lP,hw]
 ·split
  ·rename_i h;intro _;simp[lP,h]
  ·split
   ·intro _;simp
   ·split<;>simp
def Gc (s:List UInt8):Nat→Nat→List aU×Nat×Nat
 | 0,_=>([],0,0)
 | f+1,p=>
  if p<s.length then
   let k:=l6 (s.drop p)
   if k.1=0 then([],p,5)
   else if k.1=1∧16<k.2 then([],p,2)
   else
    let r:=Gc s f (p+k.2+gJ false (s.drop (p+k.2)))
    (⟨k.1,p,(s.drop p).take k.2⟩::r.1,r.2)
  else([],0,0)
def tokens (s:List UInt8):List aU×Nat×Nat:=
 if 65536<s.length then([],0,2)
 else
  let r:=Gc s (s.length+1) (gJ false s)
  if r.2.2=0 then(r.1,0,0)else([],r.2.1,r.2.2)
def Chain (s:List UInt8):Nat→List aU→Prop
 | a,[]=>a≤s.length∧a+gJ false (s.drop a)=s.length
 | a,t::ts=>a≤s.length∧t.At=((a+gJ false (s.drop a):Nat):Int)∧0<t.Text.length∧a+gJ false (s.drop a)+t.Text.length≤s.length∧
   (s.drop (a+gJ false (s.drop a))).take t.Text.length=t.Text∧Chain s (a+gJ false (s.drop a)+t.Text.length) ts
theorem DP (s:List UInt8) (f a:Nat) (ha:a≤s.length) (hf:s.length<a+gJ false (s.drop a)+f) (he:(Gc s f (a+gJ false (s.drop a))).2.2=0):Chain s a (Gc s f (a+gJ false (s.drop a))).1:=by
 induction f generalizing a with
 | zero=>
  have:=sd false (s.drop a)
  simp at this;omega
 | succ f ih=>
  have hsk:=sd false (s.drop a)
  simp only[List.length_drop]at hsk
  generalize hp:a+gJ false (s.drop a)=p at *
  simp only[Gc]at he ⊢
  by_cases hlt:p<s.length
  ·rw[if_pos hlt]at he ⊢
   by_cases hk:(l6 (s.drop p)).1=0
   ·rw[if_pos hk]at he;simp at he
   ·rw[if_neg hk]at he ⊢
    by_cases hb:(l6 (s.drop p)).1=1∧16<(l6 (s.drop p)).2
    ·rw[if_pos hb]at he;simp at he
    ·rw[if_neg hb]at he ⊢
     have hle:=Al (s.drop p) (by simp;omega)
     have hpos:=xJ (s.drop p) (by simp;omega) hk
     have hlen:((s.drop p).take (l6 (s.drop p)).2).length=(l6 (s.drop p)).2:=by simp at hle ⊢;omega
     simp only[List.length_drop]at hle
     refine⟨ha,by rw[hp],by rw[hlen];exact hpos,by rw[hp,hlen];omega,by rw[hp,hlen],?_⟩
     rw[hp,hlen]
     exact ih (p+(l6 (s.drop p)).2) (by omega) (by omega) he
  ·rw[if_neg hlt]
   exact⟨ha,by omega⟩
theorem tokens_chain (s:List UInt8) (hs:s.length≤65536) (he:(tokens s).2.2=0):Chain s 0 (tokens s).1:=by
 unfold tokens at he ⊢
 rw[if_neg (by omega)]at he ⊢
 have h:=DP s (s.length+1) 0 (by omega) (by omega)
 simp only[List.drop_zero,Nat.zero_add]at h
 dsimp only at he ⊢
 by_cases h0:(Gc s (s.length+1) (gJ false s)).2.2=0
 ·rw[if_pos h0];exact h h0
 ·rw[if_neg h0]at he;exact absurd he h0
theorem tokens_none (s:List UInt8) (he:(tokens s).2.2≠0):(tokens s).1=[]:=by
 unfold tokens at he ⊢
 split
 ·rfl
 ·rename_i h
  rw[if_neg h]at he
  dsimp only at he ⊢
  by_cases h0:(Gc s (s.length+1) (gJ false s)).2.2=0
  ·rw[if_pos h0]at he;exact absurd rfl he
  ·rw[if_neg h0]
theorem chain_le (s:List UInt8) (ts:List aU) (a:Nat) (h:Chain s a ts):ts.length+a≤s.length:=by
 induction ts generalizing a with
 | nil=>simpa using h.1
 | cons t ts ih=>
  obtain⟨h1,_,h2,_,_,h5⟩:=h
  have:=ih _ h5
  simp;omega
def i8 (l:List (List UInt8)):Nat→List UInt8
 | 0=>[]
 | k+1=>(if k=0 then[]else i8 l k++[32])++l.getD k []
end Go.Proofs.YtmhoikfoogemnaaGreatDoor.Z13
namespace Go.Proofs.YtmhoikfoogemnaaGreatDoor.Z13
open Go Go.RowKit Go.Vc
set_option linter.unusedVariables false
set_option linter.unusedSimpArgs false
theorem FK (l:List UInt8) (i:Nat) (h:i<l.length):∃ c,l[i]? =some c∧l.drop i=c::l.drop (i+1):=⟨l[i],by simp[h],List.drop_eq_getElem_cons h⟩
theorem J4 (c:UInt8):oG (c.toNat:Int)=(c.toNat:Int):=oZ c
theorem Bj {s:List UInt8} {f:Int→Option Bool} {p:Int→Bool} (hs:s.length<4611686018427387904) (hf:∀ c:UInt8,f (c.toNat:Int)=some (p (c.toNat:Int))):gi s f=some (lP p s:Int):=by
 unfold gi
 have key:∀ (g i:Nat),i≤s.length→s.length - i<g→cw s f g (i:Int)=some ((i+lP p (s.drop i):Nat):Int):=by
  intro g
  induction g with
  | zero=>intros;omega
  | succ g ih=>
   intro i hi hg
   simp only[cw]
   by_cases h:i<s.length
   ·obtain⟨c,hc,hd⟩:=FK s i h
    rw[bX h]
    simp only[gd,if_true,gD hc,Option.bind_some,J4,hf,Bool.true_and]
    rw[hd]
    simp only[lP]
    cases hp:p (c.toNat:Int)with
    | true=>
     rw[if_pos rfl,ni (by omega),ih (i+1) (by omega) (by omega)]
     dsimp only
     rw[Nat.add_right_comm,Nat.add_assoc]
    | false=>rw[if_neg (by simp)];rfl
   ·rw[List.drop_of_length_le (by omega),decide_eq_false (by omega)]
    simp[gd,lP]
 have:=key fu 0 (by omega) (by unfold fu;omega)
 rw[List.drop_zero,Nat.zero_add]at this
 exact this
theorem zY:∀ n:Nat,n<256→ia (n:Int)=some (rA (n:Int))∧iq (n:Int)=some (Dw (n:Int)):=by decide+kernel
theorem GB (c:UInt8):ia (c.toNat:Int)=some (rA (c.toNat:Int)):=(zY c.toNat c.toNat_lt).1
theorem vd (c:UInt8):iq (c.toNat:Int)=some (Dw (c.toNat:Int)):=(zY c.toNat c.toNat_lt).2
theorem Ky:o6 35=true:=rfl
theorem Dz {c:UInt8} {l:List UInt8} (hs:rA (c.toNat:Int)=false) (hc:(c.toNat:Int)=35):gJ false (c::l)=lP o6 (c::l)+gJ false ((c::l).drop (lP o6 (c::l)))∧1≤lP o6 (c::l):=by
 have e:gJ false (c::l)=gJ true (c::l):=by
  simp only[gJ]
  rw[hs,hc]
  simp only[Ky,decide_true]
 refine⟨by rw[e];exact wO _,?_⟩
 simp only[lP,hc,Ky];omega
theorem EL {s:List UInt8} (hl:s.length≤1000000):gX s=some (gJ false s:Int):=by
 unfold gX
 have key:∀ (g i:Nat),i≤s.length→s.length - i<g→dz s g (i:Int)=some ((i+gJ false (s.drop i):Nat):Int):=by
  intro g
  induction g with
  | zero=>intros;omega
  | succ g ih=>
   intro i hi hg
   simp only[dz]
   by_cases h:i<s.length
   ·obtain⟨c,hc,hd⟩:=FK s i h
    rw[if_pos (bX h),gD hc,Option.bind_some,J4,GB,Option.bind_some]
    cases hsp:rA (c.toNat:Int)with
    | true=>
     rw[if_pos rfl,ni (by omega),ih (i+1) (by omega) (by omega),hd]
     simp only[gJ,hsp]
     rw[Nat.add_right_comm,Nat.add_assoc]
    | false=>
     rw[if_neg (by simp)]
     by_cases h35:(c.toNat:Int)=35
     ·obtain⟨q1,q2⟩:=Dz (l:=s.drop (i+1)) hsp h35
      rw[← hd]at q1 q2
      have hle:=ve o6 (s.drop i)
      rw[List.length_drop]at hle
      have e1:gN s (i:Int)=some (s.drop i):=by unfold gN;rw[if_pos (by omega)];simp
      rw[if_pos (by simpa using h35),e1,Option.bind_some,Bj (p:=o6) (by rw[List.length_drop];omega) (fun c=>rfl),Option.bind_some,JK (by omega),ih (i+lP o6 (s.drop i)) (by omega) (by omega),q1, ← List.drop_drop,Nat.add_assoc]
     ·rw[if_neg (by simpa using h35),hd]
      simp only[gJ,hsp,decide_eq_false h35]
      rfl
   ·rw[List.drop_of_length_le (by omega),if_neg (by simp;omega)];rfl
 have:=key fu 0 (by omega) (by unfold fu;omega)
 rw[List.drop_zero,Nat.zero_add]at this
 exact this
theorem Hf (c:UInt8) (l:List UInt8):sat (c::l) 0=some (c.toNat:Int):=gD (i:=0) rfl
theorem Fy (c:UInt8):dA (c.toNat:Int)=some (gl (c.toNat:Int)):=by
 unfold dA eO eP gl sy qy
 rw[Option.bind_some]
 cases (decide (97≤(c.toNat:Int))&&decide ((c.toNat:Int)≤122))<;>simp[gd]
theorem Jf {s:List UInt8} (h0:0<s.length) (hl:s.length≤1000000):iY s=some (((l6 s).1:Int),((l6 s).2:Int)):=by
 obtain⟨c,l,rfl⟩:∃ c l,s=c::l:=by cases s with | nil=>simp at h0 | cons c l=>exact⟨c,l,rfl⟩
 unfold iY l6
 rw[Hf,Option.bind_some,J4,AY]
 dsimp only
 show((some (sy (c.toNat:Int))).bind _)=_
 rw[Option.bind_some]
 cases h1:sy (c.toNat:Int)with
 | true=>rw[if_pos rfl,if_pos rfl,Bj (p:=gl) (by omega) Fy];rfl
 | false=>
  rw[if_neg (by simp),if_neg (by simp)]
  show((some (qy (c.toNat:Int))).bind _)=_
  rw[Option.bind_some]
  cases h2:qy (c.toNat:Int)with
  | true=>rw[if_pos rfl,if_pos rfl,Bj (p:=qy) (by omega) (fun c=>rfl)];rfl
  | false=>
   rw[if_neg (by simp),if_neg (by simp)]
   cases l with
   | nil=>
    have e:decide ((1:Int)<((([c]:List UInt8).length:Nat):Int))=false:=by simp
    rw[e]
    simp only[gd,Bool.and_false,Bool.false_and,Bool.false_eq_true,if_false,Option.bind_some]
    rw[vd,Option.bind_some]
    cases Dw (c.toNat:Int)<;>rfl
   | cons d l=>
    have e:decide ((1:Int)<(((c::d::l).length:Nat):Int))=true:=decide_eq_true (by simp only[List.length_cons];omega)
    have e1:sat (c::d::l) 1=some (d.toNat:Int):=gD (i:=1) rfl
    have e2:Ge (c::d::l) 1=(d.toNat:Int):=rfl
    rw[e,e1,e2,Bool.and_true]
    cases hb:(decide ((c.toNat:Int)=60)||decide ((c.toNat:Int)=61))with
    | true=>
     simp only[gd,if_true,Option.bind_some,Bool.true_and]
     cases hd:decide ((d.toNat:Int)=61)with
     | true=>rfl
     | false=>
      simp only[Bool.false_eq_true,if_false]
      rw[vd,Option.bind_some]
      cases Dw (c.toNat:Int)<;>rfl
    | false=>
     simp only[gd,Bool.false_and,Bool.false_eq_true,if_false,Option.bind_some]
     rw[vd,Option.bind_some]
     cases Dw (c.toNat:Int)<;>rfl
def Bv (out:List aU) (r:List aU×Nat×Nat):List aU×Int×Int:=if r.2.2=0 then(out++r.1,0,0)else([],(r.2.1:Int),(r.2.2:Int))
theorem Ji {s:List UInt8} {p n:Nat} (h:p+n≤s.length):rE s (p:Int) ((p+n:Nat):Int)=some ((s.drop p).take n):=by
 unfold rE;rw[if_pos (by omega),Int.toNat_natCast,Int.toNat_natCast,show p+n - p=n by omega]
theorem CX {s:List UInt8} {p:Nat} (h:p≤s.length):gN s (p:Int)=some (s.drop p):=by unfold gN;rw[if_pos (by omega)];simp
theorem GL {out:List aU} {t:aU} {r:List aU×Nat×Nat} :Bv (out++[t]) r=Bv out (t::r.1,r.2):=by
 unfold Bv;dsimp only;split
 ·rw[List.append_assoc];rfl
 ·rfl
theorem Kc {s:List UInt8} (hl:s.length≤65536):∀ (g f p:Nat) (out:List aU),s.length<p+g→s.length<p+f→p≤s.length→out.length≤p→co s g out (p:Int)=some (Bv out (Gc s f p)):=by
 intro g
 induction g with
 | zero=>intros;omega
 | succ g ih=>
  intro f p out hg hf hp ho
  obtain⟨f,rfl⟩:∃ k,f=k+1:=⟨f - 1,by omega⟩
  simp only[co,Gc]
  by_cases h:p<s.length
  ·have h0:0<(s.drop p).length:=by rw[List.length_drop];omega
   have hle:=Al (s.drop p) h0
   have hpos:=xJ (s.drop p) h0
   rw[List.length_drop]at hle
   rw[if_pos (bX h),CX hp,Option.bind_some,Jf h0 (by rw[List.length_drop];omega),Option.bind_some,if_pos h]
   by_cases hk:(l6 (s.drop p)).1=0
   ·rw[if_pos (by simpa using hk),if_pos hk];rfl
   ·have hpos:=hpos hk
    rw[if_neg (by simpa using hk),if_neg hk]
    by_cases hw:(l6 (s.drop p)).1=1∧16<(l6 (s.drop p)).2
    ·rw[if_pos hw,if_pos (by simp;omega)];rfl
    ·have hsk:=sd false (s.drop (p+(l6 (s.drop p)).2))
     rw[List.length_drop]at hsk
     rw[if_neg hw,if_neg (by simp;omega),JK (by omega),Ji (by omega),Option.bind_some,bf (by simp only[List.length_cons,List.length_nil];omega),Option.bind_some,CX (by omega),Option.bind_some,EL (by rw[List.length_drop];omega),Option.bind_some,Option.bind_some,JK (by omega)]
     rw[ih f _ _ (by omega) (by omega) (by omega) (by simp only[List.length_append,List.length_cons,List.length_nil];omega),GL]
  ·rw[if_neg h,if_neg (by simp;omega)]
   unfold Bv;simp
def Gs (s:List UInt8):List aU×Int×Int:=((tokens s).1,((tokens s).2.1:Int),((tokens s).2.2:Int))
theorem Gr {s:List UInt8} (h:¬ 65536<s.length):Gs s=Bv [] (Gc s (s.length+1) (gJ false s)):=by
 unfold Gs tokens Bv
 rw[if_neg h]
 dsimp only
 split<;>simp
theorem lexer_Tokenize (s:List UInt8) (hl:s.length<4611686018427387904):fc s=some (Gs s):=by
 unfold fc
 by_cases h:65536<s.length
 ·rw[if_pos (by simp;omega)]
  unfold Gs tokens
  rw[if_pos h];rfl
 ·have hsk:=sd false s
  rw[if_neg (by simp;omega),EL (by omega),Option.bind_some,Gr h]
  exact Kc (by omega) fu _ _ [] (by unfold fu;omega) (by omega) hsk (by simp)
end Go.Proofs.YtmhoikfoogemnaaGreatDoor.Z13
namespace Go.Proofs.YtmhoikfoogemnaaGreatDoor
open Go Go.RowKit Go.Vc
set_option linter.unusedVariables false
set_option linter.unusedSimpArgs false
theorem Gq {s:List UInt8} (h:s.length≤65536):(Z13.tokens s).1.length≤s.length∧∀ t∈(Z13.tokens s).1,t.Text.length≤s.length:=by
 by_cases he:(Z13.tokens s).2.2=0
 ·have hc:=Z13.tokens_chain s h he
  refine⟨by have:=Z13.chain_le _ _ _ hc;omega,?_⟩
  have go:∀ (ts:List aU) (a:Nat),Z13.Chain s a ts→∀ t∈ts,t.Text.length≤s.length:=by
   intro ts
   induction ts with
   | nil=>intro a _ t ht;cases ht
   | cons u ts ih=>
    intro a ⟨_,_,_,h4,_,h6⟩ t ht
    rcases List.mem_cons.1 ht with rfl | ht
    ·omega
    ·exact ih _ h6 t ht
  exact go _ 0 hc
 ·rw[Z13.tokens_none s he];exact⟨by simp,by intro t ht;cases ht⟩
end Go.Proofs.YtmhoikfoogemnaaGreatDoor
namespace Go.Proofs.YtmhoikfoogemnaaGreatDoor
open Go Go.RowKit Go.Vc
set_option linter.unusedVariables false
set_option linter.unusedSimpArgs false
end Go.Proofs.YtmhoikfoogemnaaGreatDoor
namespace Go.Proofs.YtmhoikfoogemnaaGreatDoor
open Go Go.RowKit Go.Vc
set_option linter.unusedVariables false
set_option linter.unusedSimpArgs false
end Go.Proofs.YtmhoikfoogemnaaGreatDoor
