import Derived.Test.YtmhoikfoogemnaaGreatDoorGEk
namespace Go.Proofs.YtmhoikfoogemnaaGreatDoor
open Go Go.RowKit Go.Vc
set_option linter.unusedVariables false
set_option linter.unusedSimpArgs false
variable {L:Cx}
theorem J7 {t:GType} {v:GVal} (ht:tR t=true) (h:DH t v=true):okGVal v:=by
 unfold DH at h
 split at h
 ·next k=>
  simp only[decide_eq_true_eq]at h
  have hb:2≤t.Bits∧t.Bits≤31:=by
   unfold tR at ht
   split at ht<;>simp only[decide_eq_true_eq]at ht<;>omega
  have h2:pw (t.Bits - 1)≤1073741824:=by
   unfold pw
   have:(2:Int) ^ (t.Bits - 1).toNat≤2 ^ 30:=by exact_mod_cast Nat.pow_le_pow_right (by omega) (show(t.Bits - 1).toNat≤30 by omega)
   simpa using this
  exact⟨jQ ⟨by omega,by omega⟩,jQ ⟨by omega,by omega⟩⟩
 ·split at h
  ·simp only[decide_eq_true_eq]at h
   exact⟨jQ ⟨by omega,by omega⟩,jQ ⟨by omega,by omega⟩⟩
  ·unfold qA at h
   simp only[decide_eq_true_eq]at h
   exact⟨jQ ⟨by omega,by omega⟩,jQ ⟨by omega,by omega⟩⟩
theorem E7 {t:GType} {s:List UInt8} {v:GVal} (ht:tR t=true) (h:Z01.vparse t s=(v,0)):okGVal v:=by
 unfold Z01.vparse at h
 rw[if_pos ht]at h
 by_cases h0:(Z01.parseS s).2=0
 ·rw[if_neg (by simpa using h0)]at h
  obtain⟨hv,_⟩:=Z01.parse_ok h0
  have hv':okGVal (Z01.parseS s).1:=by
   unfold qA at hv
   simp only[decide_eq_true_eq]at hv
   exact⟨jQ ⟨by omega,by omega⟩,jQ ⟨by omega,by omega⟩⟩
  split at h
  ·injection h with h _;subst h;exact hv'
  split at h
  ·split at h
   ·injection h with h _;subst h;exact hv'
   ·injection h with _ h;cases h
  split at h
  ·split at h
   ·next ho=>injection h with h _;subst h;exact J7 ht ho
   ·injection h with _ h;cases h
  ·injection h with _ h;cases h
 ·rw[if_pos (by simpa using h0)]at h
  injection h with _ h
  exact absurd h h0
theorem fst3 {r:PR} {a b c:List UInt8} :(lK (jd r 1) [a,b,c]).isSome=(jd r 1 a||(jd r 1 b||jd r 1 c)):=by
 simp only[lK]
 cases jd r 1 a<;>cases jd r 1 b<;>cases jd r 1 c<;>rfl
abbrev Ji:List UInt8:=[109,105,110]
abbrev Jj:List UInt8:=[109,97,120]
abbrev wIf:List UInt8:=[105,102]
abbrev Gk:List UInt8:=[99,97,115,116]
theorem Cs {rec_:RP} {rec':RR} {r:PR} (h:Rok L r) (hrec:RK L rec_ rec' r 1) (hf:RF rec' 1):SimR L r (XI r) (en rec_ r) (gC rec' (St L r)):=by
 have h0:=h.a0;have h1:=h.a1;have h2:=h.ll
 unfold en gC
 rw[uN h,gX h [40],Option.bind_some,Option.bind_some]
 cases c:jd r 3 [40]with
 | true=>
  rw[if_pos rfl,if_pos rfl,DE h c]
  have run:∀ (p:RS),eO 1 false rec' (St L r) ⟨4,[],zV,zT,zL,[],[]⟩ p=(rec' p 1).bind λr5=>(az r5.2 [41]).bind λr4=>some (⟨4,[],zV,zT,zL,[],[r5.1]⟩,⟨r4.L,r4.At,(St L r).Deep,r4.E,r4.Pos⟩):=λp=>by
   unfold eO
   obtain⟨g,hg⟩:=fu2
   rw[hg]
   simp only[bY,eN,ji]
   rfl
  have e:eu rec' (St L r) 4 1 false=(gt (St L r)).bind λr3=>(rec' r3 1).bind λr5=>(az r5.2 [41]).bind λr4=>some (⟨4,[],zV,zT,zL,[],[r5.1]⟩,⟨r4.L,r4.At,(St L r).Deep,r4.E,r4.Pos⟩):=by
   unfold eu
   rw[gX h [40],Option.bind_some,c,if_neg (by simp)]
   simp only[Bool.false_eq_true,if_false,run]
  rw[e]
  simp only[Option.bind_assoc,Option.bind_some]
  have fin:∀ (x:GExpr) (s:RS),s.E≠0→Fl s.Pos s.E ((az s [41]).bind λr4=>if(!decide (r4.E=0))=true then some ((⟨0,[],zV,zT,zL,[],[]⟩:GExpr),(⟨r4.L,r4.At,(St L r).Deep,r4.E,r4.Pos⟩:RS))else(lat [x] 0).bind λe1=>some (e1,(⟨r4.L,r4.At,(St L r).Deep,r4.E,r4.Pos⟩:RS))):=λx s hs=>by
   rw[be hs,Option.bind_some,if_pos (by simp[hs])]
   exact Fl.mk' hs rfl rfl
  refine(tY h (h.is_lt c)).bnd (λr' hr' ⟨e,hd⟩=>?_) (λs hs=>?_)
  ·subst e
   refine(hrec (inn r) hr' rfl rfl).bnd (λx q hn ⟨g1,g2⟩=>?_) (λy s hs=>fin y s hs)
   have e0:(inn r).at_=r.at_+1:=rfl
   dsimp only
   refine wr h hn.ok hn.l hn.d (by omega) (λhn2=>?_) (λs hs=>?_)
   ·exact SimR.ret hn2 ⟨by show r.at_<q.at_+1;omega,g2.mono (by show _ ≤(q.at_+1 - r.at_).toNat;omega)⟩
   ·rw[if_pos (by simp[hs])];exact Fl.mk' hs rfl rfl
  ·obtain⟨y,hy⟩:=hf s hs
   rw[hy,Option.bind_some]
   exact fin y s hs
 | false=>
  simp only[Bool.false_eq_true,if_false]
  rw[iR h,gX h [91],Option.bind_some,Option.bind_some]
  cases c2:jd r 3 [91]with
  | true=>
   have hA:=Nx.adv h (h.is_lt c2)
   have e0:(adv r).at_=r.at_+1:=rfl
   simp only[if_true]
   show SimR L r _ (pb (bG (adv r)) _) ((dR (⟨L.L,au (r.at_+L.o+1),r.deep+L.o,0,0⟩:RS)).bind _)
   rw[j4 h]
   refine(rn hA.ok).r.bnd (λf q hn ⟨g1,g2⟩=>?_) (λy s hs=>?_)
   ·dsimp only
    refine(cF hn.ok [93]).p.bnd (λq2 hq2 ⟨hn2,e2⟩=>?_) (λs hs=>Fl.mk hs)
    have hl:=hq2.a1
    rw[hn2.l,hn.l]at hl
    have hl2:(adv r).l=r.l:=rfl
    rw[hl2]at hl
    dsimp only at e2 ⊢
    refine SimR.ret ((hA.trans hn).trans hn2) ⟨by omega,?_,?_⟩
    ·exact J9 (by omega) Fq Fp G4 (g2.g (by omega)) sC sC
    ·rw[sZ];have:=g2.len;simp only[List.length_nil,List.map_nil,List.sum_nil];omega
   ·dsimp only
    rw[be hs,Option.bind_some];exact Fl.mk hs
  | false=>
   simp only[Bool.false_eq_true,if_false]
   rw[Ez h _ (by simp) (by intro s hs;simp at hs;rcases hs with rfl | rfl | rfl<;>exact⟨by simp,rfl,by simp⟩),fst3,uN h,Option.bind_some,Option.bind_some]
   have con:∀ {A:Option (GExpr×RS)},SimR L r (XI r) (pb (cu r) λx=>match x with | (r10,s7)=>some (.ret (r10,s7))) ((ip (St L r)).bind λr7=>(az r7.2 [40]).bind λr8=>(gM r8 r7.1).bind λr9=>(az r9.2 [41]).bind λr10=>some (cE r7.1 r9.1,r10)):=by
    intro A
    rw[ut]
    refine(Bm h).r.weak (λx q ⟨g1,t,v,s,ex,g2,g3,g4⟩=>?_)
    subst ex
    refine⟨g1,?_,?_⟩
    ·exact J9 (by omega) Fq (E7 g2 g3) (G3 g2) Fs sC sC
    ·rw[sZ];simp;omega
   cases c3:jd r 1 [102,114,97,99]with
   | true=>simp only[Bool.true_or,if_true];exact con (A:=none)
   | false=>
    simp only[Bool.false_or,Bool.false_eq_true,if_false]
    rw[uN h,Option.bind_some]
    cases c4:jd r 1 [105,110,116]with
    | true=>simp only[Bool.true_or,if_true];exact con (A:=none)
    | false=>
     simp only[Bool.false_or,Bool.false_eq_true,if_false]
     rw[uN h,Option.bind_some]
     cases c5:jd r 1 [102,105,120]with
     | true=>simp only[if_true];exact con (A:=none)
     | false=>
      simp only[Bool.false_eq_true,if_false]
      have ek:∀ s∈[Ji,Jj,wIf,Gk],s≠[]∧zd s=1∧s≠[41]:=by intro s hs;simp at hs;rcases hs with rfl | rfl | rfl | rfl<;>exact⟨by simp,rfl,by simp⟩
      have ec:=rV (p:=λs=>jd r (zd s) s) (q:=jd r 1) (l:=[Ji,Jj,wIf,Gk]) (λs hs=>by rw[(ek s hs).2.1])
      rw[yd h _ (by simp),Ez h _ (by simp) ek,tf h _ (by simp) (λs hs=>⟨(ek s hs).1,(ek s hs).2.2⟩),ec]
      cases cw:lK (jd r 1) [Ji,Jj,wIf,Gk]with
      | none=>
       dsimp only[Option.bind_some,Option.isSome]
       exact(GH h).r.weak (λx q h=>h) |> λk=>by
        show SimR L r (XI r) (DC r) ((jt (St L r)).bind λr17=>some (r17.1,r17.2))
        cases e:jt (St L r)with
        | none=>rw[e]at k;exact k
        | some p=>rw[e]at k;exact k
      | some i=>
       obtain⟨hi,x,hx,hp⟩:=rl cw
       have hA:=Nx.adv h (h.is_lt hp)
       have e0:(adv r).at_=r.at_+1:=rfl
       have hrecA:RK L rec_ rec' (adv r) 1:=λq q1 q2 q3=>hrec q q1 q2 q3
       have wk:∀ x q,XI (adv r) x q→XI r x q:=λx q ⟨k1,k2⟩=>⟨by omega,k2.mono (by omega)⟩
       dsimp only[Option.bind_some,Option.isSome]
       rw[if_pos rfl]
       have pid:∀ (m:Option (GExpr×RS)),(m.bind λr13=>some (r13.1,r13.2))=m:=λm=>by cases m<;>rfl
       have cl:∀ (many:Nat) (op:Int),many≤10→0≤op∧op≤1000→SimR L r (XI r) (pb (dA rec_ (adv r) op (many:Int)) λx=>match x with | (a,s)=>some (.ret (a,s))) ((eu rec' (St L (adv r)) op (many:Int) false).bind λr13=>some (r13.1,r13.2)):=λmany op hm ho=>by
        rw[ut,pid]
        exact(HA hA.ok hrecA hf many hm op ho).base hA (λx q _ k=>wk x q k)
       match i,hi with
       | 0,_=>exact cl 2 9 (by omega) (by omega)
       | 1,_=>exact cl 2 10 (by omega) (by omega)
       | 2,_=>exact cl 3 11 (by omega) (by omega)
       | 3,_=>
        show SimR L r (XI r) (pb (fW rec_ (adv r)) λx=>match x with | (a,s)=>some (.ret (a,s))) ((eu rec' (St L (adv r)) 12 1 true).bind λr13=>some (r13.1,r13.2))
        rw[ut,pid]
        exact(Hz hA.ok hrecA hf).base hA (λx q _ k=>wk x q k)
theorem Fh {rec':RR} {p:RS} (he:p.E≠0):∃ y,gC rec' p=some (y,p):=by
 obtain⟨y,hy⟩:=GK he
 unfold gC
 rw[jh he,Option.bind_some,if_neg (by simp),jh he,Option.bind_some,if_neg (by simp),AL he _ (by simp),Option.bind_some,if_neg (by simp),AL he _ (by simp),Option.bind_some,if_neg (by simp),hy]
 exact⟨_,rfl⟩
end Go.Proofs.YtmhoikfoogemnaaGreatDoor
namespace Go.Proofs.YtmhoikfoogemnaaGreatDoor
open Go Go.RowKit Go.Vc
set_option linter.unusedVariables false
set_option linter.unusedSimpArgs false
variable {L:Cx}
def sgs (n:Int):List (List UInt8):=if n=1 then[[124]]else if n=2 then[[38]]else if n=4 then[[60],[60,61],[61,61]]else if n=5 then[[43],[45]]else if n=6 then[[42],[47]]else[]
def ops_ (n:Int):List Int:=if n=1 then[17]else if n=2 then[16]else if n=4 then[13,14,15]else if n=5 then[4,5]else if n=6 then[6,7]else[]
abbrev GS (r:PR) (kR:List (List UInt8)) (ops:List Int):Int:=match lK (jd r 3) kR with | some i=>ops.getD i 0 | none=>0
theorem we {r:PR} (h:Rok L r) (n:Int) (hn:n=1∨n=2∨n=3∨n=4∨n=5∨n=6):eV (St L r) n=some (GS r (sgs n) (ops_ n)):=by
 unfold eV
 simp only[gX h [124],gX h [38],gX h [60],gX h [60,61],gX h [61,61],gX h [43],gX h [45],gX h [42],gX h [47]]
 unfold GS
 rcases hn with rfl | rfl | rfl | rfl | rfl | rfl
 ·show _ =some (match lK (jd r 3) [[124]]with | some i=>([17]:List Int).getD i 0 | none=>0)
  simp only[lK]
  cases jd r 3 [124]<;>rfl
 ·show _ =some (match lK (jd r 3) [[38]]with | some i=>([16]:List Int).getD i 0 | none=>0)
  simp only[lK]
  cases jd r 3 [38]<;>rfl
 ·rfl
 ·show _ =some (match lK (jd r 3) [[60],[60,61],[61,61]]with | some i=>([13,14,15]:List Int).getD i 0 | none=>0)
  simp only[lK]
  cases jd r 3 [60]<;>cases jd r 3 [60,61]<;>cases jd r 3 [61,61]<;>rfl
 ·show _ =some (match lK (jd r 3) [[43],[45]]with | some i=>([4,5]:List Int).getD i 0 | none=>0)
  simp only[lK]
  cases jd r 3 [43]<;>cases jd r 3 [45]<;>rfl
 ·show _ =some (match lK (jd r 3) [[42],[47]]with | some i=>([6,7]:List Int).getD i 0 | none=>0)
  simp only[lK]
  cases jd r 3 [42]<;>cases jd r 3 [47]<;>rfl
theorem op_f {p:RS} (he:p.E≠0) (n:Int):eV p n=some 0:=by
 unfold eV
 have e:∀ (b:Bool),gd b (some false)=some false:=λb=>by cases b<;>rfl
 simp only[jh he,e,Option.bind_some,Bool.and_false,Bool.false_eq_true,if_false]
section
variable {nx:RP} {rec':RR} {n:Int} {kR:List (List UInt8)} {ops:List Int} {l1:Nat→PR→GExpr→Option (bL (GExpr×PR))} {l2:GExpr→(PR→GExpr→Option (bL (GExpr×PR)))→Nat→Int→Int→PR→Option (bL (GExpr×PR))}
abbrev LS (nx:RP) (kR:List (List UInt8)) (ops:List Int) (l2:GExpr→(PR→GExpr→Option (bL (GExpr×PR)))→Nat→Int→Int→PR→Option (bL (GExpr×PR))):Prop:=
 ∀ e self f op i r,l2 e self (f+1) op i r=if decide (i<(kR.length:Int))=true then(lat kR i).bind λe2=>(I6 (decide (op=0)) (aE r e2) (default,r)).bind λ(x:Bool×PR)=>if(decide (op=0)&&x.1)=true then(lat ops i).bind λe3=>l2 e self f e3 (au (i+1)) x.2 else l2 e self f op (au (i+1)) x.2
  else if decide (op=0)=true then some (.ret (e,r))else pb (nx r) λ(y:GExpr×PR)=>self y.2 (FR op e y.1)
theorem Iq (h2:LS nx kR ops l2) (hs:kR.length<1000) (e:GExpr) (self:PR→GExpr→Option (bL (GExpr×PR))) {op:Int} (ho:op≠0) (r:PR):∀ (m f i:Nat),i+m=kR.length→m<f→l2 e self f op (i:Int) r=pb (nx r) λ(y:GExpr×PR)=>self y.2 (FR op e y.1):=by
 intro m
 induction m with
 | zero=>
  intro f i hi hf
  obtain⟨f,rfl⟩:∃ g,f=g+1:=⟨f - 1,by omega⟩
  rw[h2,if_neg (by simp;omega),if_neg (by simpa using ho)]
 | succ m ih=>
  intro f i hi hf
  obtain⟨f,rfl⟩:∃ g,f=g+1:=⟨f - 1,by omega⟩
  obtain⟨x,hx⟩:=cC (l:=kR) (i:=i) (by omega)
  rw[h2,if_pos (bS (by omega)),cD hx,Option.bind_some,decide_eq_false ho]
  have e0:∀ (m:Option (Bool×PR)),I6 false m (default,r)=some (default,r):=λm=>rfl
  rw[e0,Option.bind_some,Bool.false_and,if_neg (by simp),nu (by omega)]
  exact ih f (i+1) (by omega) (by omega)
theorem Ki (h2:LS nx kR ops l2) (hs:kR.length<1000) (hl:ops.length=kR.length) (h0:∀ o∈ops,o≠0) (e:GExpr) (self:PR→GExpr→Option (bL (GExpr×PR))) {r:PR} (hr:Rok L r):∀ (m f i:Nat),i+m=kR.length→m<f→
  l2 e self f 0 (i:Int) r=match lK (jd r 3) (kR.drop i)with | some j=>pb (nx (adv r)) λ(y:GExpr×PR)=>self y.2 (FR (ops.getD (i+j) 0) e y.1) | none=>some (.ret (e,r)):=by
 intro m
 induction m with
 | zero=>
  intro f i hi hf
  obtain⟨f,rfl⟩:∃ g,f=g+1:=⟨f - 1,by omega⟩
  rw[h2,if_neg (by simp;omega),if_pos (by simp),List.drop_of_length_le (by omega)];rfl
 | succ m ih=>
  intro f i hi hf
  obtain⟨f,rfl⟩:∃ g,f=g+1:=⟨f - 1,by omega⟩
  obtain⟨x,hx⟩:=cC (l:=kR) (i:=i) (by omega)
  rw[h2,if_pos (bS (by omega)),cD hx,Option.bind_some,iR hr,qJ hx,lK]
  have e0:∀ (m:Option (Bool×PR)),I6 (decide ((0:Int)=0)) m (default,r)=m:=λm=>rfl
  rw[e0,Option.bind_some]
  cases c:jd r 3 x with
  | true=>
   obtain⟨o,ho⟩:=cC (l:=ops) (i:=i) (by omega)
   rw[if_pos rfl,if_pos rfl]
   show(if(true&&true)=true then _ else _)=_
   rw[Bool.and_self,if_pos rfl,cD ho,Option.bind_some,nu (by omega)]
   have hd:ops.getD (i+0) 0=o:=by rw[Nat.add_zero,List.getD_eq_getElem?_getD,ho];rfl
   dsimp only
   rw[hd]
   exact Iq h2 hs e self (h0 o (List.mem_of_getElem? ho)) (adv r) m f (i+1) (by omega) (by omega)
  | false=>
   rw[if_neg (by simp),if_neg (by simp)]
   simp only[Bool.and_false,Bool.false_eq_true,if_false]
   rw[nu (by omega)]
   refine(ih f (i+1) (by omega) (by omega)).trans ?_
   cases lK (jd r 3) (kR.drop (i+1))with
   | none=>rfl
   | some j=>show pb _ _ =pb _ _;rw[show i+1+j=i+(j+1)by omega]
theorem XW.bin {a b:GExpr} {op:Int} {n m:Nat} (ho:0≤op∧op≤1000) (ha:XW a n) (hb:XW b m):XW (FR op a b) (n+1+m):=by
 have h1:=ha.w
 have h2:=hb.w
 unfold FR
 refine⟨J9 ho Fq Fp G4 Fs sC ⟨λy hy=>?_,by simp⟩,?_⟩
 ·simp only[List.mem_cons,List.not_mem_nil,or_false]at hy
  rcases hy with rfl | rfl
  ·exact ha.ok
  ·exact hb.ok
 ·rw[sZ];simp;omega
theorem Cy (rec':RR) {s:RS} (he:s.E≠0) (g:Nat) (x:GExpr) (n:Int):bE n rec' (g+1) x s=some (x,s):=by
 simp only[bE]
 rw[op_f he,Option.bind_some,if_neg (by simp)]
theorem FP {r:PR} (h1:∀ f r e,l1 (f+1) r e=l2 e (l1 f) fu 0 0 r) (h2:LS nx kR ops l2) (hs:kR.length<1000) (hl:ops.length=kR.length) (h0:∀ o∈ops,o≠0∧0≤o∧o≤1000) (hn:1≤n∧n≤6)
  (hop:∀ q,Rok L q→eV (St L q) n=some (GS q kR ops)) (hnx:∀ q,Rok L q→q.l=r.l→q.deep=r.deep→SimR L q (XI q) (nx q) (rec' (St L q) (n+1))) (hf:RF rec' (n+1)):
  ∀ (F F':Nat) (q:PR) (x:GExpr),Nx L r q→q.l.length - q.at_.toNat<F→q.l.length - q.at_.toNat<F'→r.at_<q.at_→XW x (q.at_ - r.at_).toNat→SimR L r (XI r) (l1 F q x) (bE n rec' F' x (St L q)):=by
 intro F
 induction F with
 | zero=>intros;omega
 | succ F ih=>
  intro F' q x hq hF hF' ha hx
  obtain⟨F',rfl⟩:∃ g,F'=g+1:=⟨F' - 1,by omega⟩
  have q0:=hq.ok.a0
  have q1:=hq.ok.a1
  have er:=Ki h2 hs hl (λo ho=>(h0 o ho).1) x (l1 F) hq.ok kR.length fu 0 (by omega) (by unfold fu;omega)
  rw[show((0:Nat):Int)=0 from rfl,List.drop_zero]at er
  rw[h1,er]
  simp only[bE]
  rw[hop q hq.ok,Option.bind_some,Option.bind_some]
  unfold GS
  cases c:lK (jd q 3) kR with
  | none=>exact SimR.ret hq ⟨ha,hx⟩
  | some j=>
   obtain⟨hj,y,hy,hb⟩:=rl c
   have hlt:=hq.ok.is_lt hb
   have hA:=Nx.adv hq.ok hlt
   obtain⟨o,ho⟩:=cC (l:=ops) (i:=j) (by omega)
   have hom:=h0 o (List.mem_of_getElem? ho)
   have hd:ops.getD j 0=o:=by rw[List.getD_eq_getElem?_getD,ho];rfl
   dsimp only
   simp only[Nat.zero_add,hd]
   rw[if_pos (by simp[hom.1])]
   show SimR L r (XI r) (pb (nx (adv q)) _) ((rec' (⟨L.L,au (q.at_+L.o+1),q.deep+L.o,0,0⟩:RS) (au (n+1))).bind _)
   rw[j4 hq.ok,wi (p:=n+1) ⟨by omega,by omega⟩]
   have e0:(adv q).at_=q.at_+1:=rfl
   have e1:(adv q).l=q.l:=rfl
   refine(hnx (adv q) hA.ok hq.l hq.d).bnd (λy q2 hn2 ⟨g1,g2⟩=>?_) (λy s hs=>?_)
   ·have hl2:=hn2.l
    rw[e1]at hl2
    have ha1:=hn2.ok.a1
    rw[hl2]at ha1
    exact ih F' q2 (FR o x y) ((hq.trans hA).trans hn2) (by rw[hl2];omega) (by rw[hl2];omega) (by omega) ((XW.bin hom.2 hx g2).mono (by omega))
   ·obtain⟨g,rfl⟩:∃ g,F'=g+1:=⟨F' - 1,by omega⟩
    dsimp only
    rw[Cy rec' hs];exact Fl.mk hs
theorem rr {r:PR} (h:Rok L r) (h1:∀ f r e,l1 (f+1) r e=l2 e (l1 f) fu 0 0 r) (h2:LS nx kR ops l2) (hs:kR.length<1000) (hl:ops.length=kR.length) (h0:∀ o∈ops,o≠0∧0≤o∧o≤1000) (hn:1≤n∧n≤6)
  (hop:∀ q,Rok L q→eV (St L q) n=some (GS q kR ops)) (hnx:∀ q,Rok L q→q.l=r.l→q.deep=r.deep→SimR L q (XI q) (nx q) (rec' (St L q) (n+1))) (hf:RF rec' (n+1)):
  SimR L r (XI r) (pb (nx r) λ(x:GExpr×PR)=>l1 fu x.2 x.1) ((rec' (St L r) (n+1)).bind λr6=>bE n rec' fu r6.1 r6.2):=by
 have hll:=h.ll
 refine(hnx r h rfl rfl).bnd (λx q hn2 ⟨g1,g2⟩=>?_) (λy s hs'=>?_)
 ·have hl2:=hn2.l
  exact FP h1 h2 hs hl h0 hn hop hnx hf fu fu q x hn2 (by rw[hl2];unfold fu;omega) (by rw[hl2];unfold fu;omega) g1 g2
 ·obtain⟨g,hg⟩:=HP
  dsimp only
  rw[hg,Cy rec' hs'];exact Fl.mk hs'
end
theorem Gl {recs_:RP} {rec':RR} {r:PR} {n op:Int} (hr:Rok L r) (hlt:r.at_<r.l.length) (hop:0≤op∧op≤1000) (hrec:RK L recs_ rec' r n) (hf:RF rec' n):
  SimR L r (XI r) (pb (ce r) λ(x:Unit×PR)=>pb (recs_ x.2) λ(y:GExpr×PR)=>some (.ret (Jk op y.1,⟨y.2.l,y.2.at_,au (y.2.deep - 1)⟩)))
   ((gt (St L r)).bind λr3=>(rec' r3 n).bind λr4=>some (Jk op r4.1,⟨r4.2.L,r4.2.At,(St L r).Deep,r4.2.E,r4.2.Pos⟩)):=by
 refine(tY hr hlt).bnd (λr' hr' ⟨e,hd⟩=>?_) (λs hs=>?_)
 ·subst e
  have e0:(inn r).at_=r.at_+1:=rfl
  refine(hrec (inn r) hr' rfl rfl).bnd (λx q hn ⟨g1,g2⟩=>?_) (λy s hs=>Fl.mk' hs rfl rfl)
  have hd2:q.deep=r.deep+1:=hn.d
  have hl2:q.l=r.l:=hn.l
  dsimp only
  rw[CT hn.ok,hd2,show r.deep+1 - 1=r.deep by omega]
  have hN:Nx L r ⟨q.l,q.at_,r.deep⟩:=⟨⟨by rw[hl2];exact hr.sm,hn.ok.a0,hn.ok.a1,hn.ok.ll,hn.ok.tl,hr.d0,hr.d1⟩,hl2,rfl,by show r.at_≤q.at_;omega⟩
  refine SimR.ret hN ⟨by show r.at_<q.at_;omega,?_⟩
  have hw:=g2.w
  unfold Jk
  refine⟨J9 hop Fq Fp G4 Fs sC ⟨λy hy=>?_,by simp⟩,?_⟩
  ·rw[List.mem_singleton.1 hy];exact g2.ok
  ·rw[sZ]
   show _ ≤3 * (q.at_ - r.at_).toNat
   simp only[List.length_nil,List.map_nil,List.sum_nil,List.map_cons,List.sum_cons]
   omega
 ·obtain⟨y,hy⟩:=hf s hs
  rw[hy,Option.bind_some]
  exact Fl.mk' hs rfl rfl
end Go.Proofs.YtmhoikfoogemnaaGreatDoor
