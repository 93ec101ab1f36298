import Derived.Test.YtmhoikfoogemnaaGreatDoorMEk
namespace Go.Proofs.YtmhoikfoogemnaaGreatDoor
open Go Go.RowKit Go.Vc
set_option linter.unusedVariables false
set_option linter.unusedSimpArgs false
variable {L:Cx}
theorem GB {t:GType} {v:GVal} (ht:pY t=true) (h:zC t v=true):okGVal v:=by
 unfold zC at h
 split at h
 ·next k=>
  simp only[decide_eq_true_eq]at h
  have hb:2≤t.Bits∧t.Bits≤31:=by
   unfold pY at ht
   split at ht<;>simp only[decide_eq_true_eq]at ht<;>omega
  have h2:pw (t.Bits - 1)≤1073741824:=by
   unfold pw
   have:(2:Int) ^ (t.Bits - 1).toNat≤2 ^ 30:=by exact_mod_cast Nat.pow_le_pow_right (by omega) (show(t.Bits - 1).toNat≤30 by omega)
   simpa using this
  exact⟨iL ⟨by omega,by omega⟩,iL ⟨by omega,by omega⟩⟩
 ·split at h
  ·simp only[decide_eq_true_eq]at h
   exact⟨iL ⟨by omega,by omega⟩,iL ⟨by omega,by omega⟩⟩
  ·unfold nN at h
   simp only[decide_eq_true_eq]at h
   exact⟨iL ⟨by omega,by omega⟩,iL ⟨by omega,by omega⟩⟩
theorem A8 {t:GType} {s:List UInt8} {v:GVal} (ht:pY t=true) (h:Z01.vparse t s=(v,0)):okGVal v:=by
 unfold Z01.vparse at h
 rw[if_pos ht]at h
 by_cases h0:(Z01.parseS s).2=0
 ·rw[if_neg (by simpa using h0)]at h
  obtain⟨hv,_⟩:=Z01.parse_ok h0
  have hv':okGVal (Z01.parseS s).1:=by
   unfold nN at hv
   simp only[decide_eq_true_eq]at hv
   exact⟨iL ⟨by omega,by omega⟩,iL ⟨by omega,by omega⟩⟩
  split at h
  ·injection h with h _;subst h;exact hv'
  split at h
  ·split at h
   ·injection h with h _;subst h;exact hv'
   ·injection h with _ h;cases h
  split at h
  ·split at h
   ·next ho=>injection h with h _;subst h;exact GB ht ho
   ·injection h with _ h;cases h
  ·injection h with _ h;cases h
 ·rw[if_pos (by simpa using h0)]at h
  injection h with _ h
  exact absurd h h0
theorem fst3 {r:PR} {a b c:List UInt8} :(lf (ko r 1) [a,b,c]).isSome=(ko r 1 a||(ko r 1 b||ko r 1 c)):=by
 simp only[lf]
 cases ko r 1 a<;>cases ko r 1 b<;>cases ko r 1 c<;>rfl
abbrev Fq:List UInt8:=[109,105,110]
abbrev Fs:List UInt8:=[109,97,120]
abbrev wIf:List UInt8:=[105,102]
abbrev B1:List UInt8:=[99,97,115,116]
theorem yp {rec_:RP} {rec':RR} {r:PR} (h:Rok L r) (hrec:RK L rec_ rec' r 1) (hf:RF rec' 1):SimR L r (XI r) (dl rec_ r) (d8 rec' (St L r)):=by
 have h0:=h.a0;have h1:=h.a1;have h2:=h.ll
 unfold dl d8
 rw[vw h,fI h [40],Option.bind_some,Option.bind_some]
 cases c:ko r 3 [40]with
 | true=>
  rw[if_pos rfl,if_pos rfl,zo h c]
  have run:∀ (p:RS),ee 1 false rec' (St L r) ⟨4,[],zV,zT,zL,[],[]⟩ p=(rec' p 1).bind fun r5=>(aH r5.2 [41]).bind fun r4=>some (⟨4,[],zV,zT,zL,[],[r5.1]⟩,⟨r4.L,r4.At,(St L r).Deep,r4.E,r4.Pos⟩):=fun p=>by
   unfold ee
   obtain⟨g,hg⟩:=fu2
   rw[hg]
   simp only[ci,d9,iX]
   rfl
  have e:dU rec' (St L r) 4 1 false=(fK (St L r)).bind fun r3=>(rec' r3 1).bind fun r5=>(aH r5.2 [41]).bind fun r4=>some (⟨4,[],zV,zT,zL,[],[r5.1]⟩,⟨r4.L,r4.At,(St L r).Deep,r4.E,r4.Pos⟩):=by
   unfold dU
   rw[fI h [40],Option.bind_some,c,if_neg (by simp)]
   simp only[Bool.false_eq_true,if_false,run]
  rw[e]
  simp only[Option.bind_assoc,Option.bind_some]
  have fin:∀ (x:GExpr) (s:RS),s.E≠0→Fl s.Pos s.E ((aH s [41]).bind fun r4=>if(!decide (r4.E=0))=true then some ((⟨0,[],zV,zT,zL,[],[]⟩:GExpr),(⟨r4.L,r4.At,(St L r).Deep,r4.E,r4.Pos⟩:RS))else(lat [x] 0).bind fun e1=>some (e1,(⟨r4.L,r4.At,(St L r).Deep,r4.E,r4.Pos⟩:RS))):=fun x s hs=>by
   rw[bo hs,Option.bind_some,if_pos (by simp[hs])]
   exact Fl.mk' hs rfl rfl
  refine(qg h (h.is_lt c)).bnd (fun r' hr' ⟨e,hd⟩=> ?_) (fun s hs=> ?_)
  ·subst e
   refine(hrec (inn r) hr' rfl rfl).bnd (fun x q hn ⟨g1,g2⟩=> ?_) (fun y s hs=>fin y s hs)
   have e0:(inn r).at_=r.at_+1:=rfl
   dsimp only
   refine sw h hn.ok hn.l hn.d (by omega) (fun hn2=> ?_) (fun s hs=> ?_)
   ·exact SimR.ret hn2 ⟨by show r.at_<q.at_+1;omega,g2.mono (by show _ ≤(q.at_+1 - r.at_).toNat;omega)⟩
   ·rw[if_pos (by simp[hs])];exact Fl.mk' hs rfl rfl
  ·obtain⟨y,hy⟩:=hf s hs
   rw[hy,Option.bind_some]
   exact fin y s hs
 | false=>
  simp only[Bool.false_eq_true,if_false]
  rw[jB h,fI h [91],Option.bind_some,Option.bind_some]
  cases c2:ko r 3 [91]with
  | true=>
   have hA:=Nx.adv h (h.is_lt c2)
   have e0:(adv r).at_=r.at_+1:=rfl
   simp only[if_true]
   show SimR L r _ (pb (bC (adv r)) _) ((gA (⟨L.L,az (r.at_+L.o+1),r.deep+L.o,0,0⟩:RS)).bind _)
   rw[jV h]
   refine(rC hA.ok).r.bnd (fun f q hn ⟨g1,g2⟩=> ?_) (fun y s hs=> ?_)
   ·dsimp only
    refine(fi hn.ok [93]).p.bnd (fun q2 hq2 ⟨hn2,e2⟩=> ?_) (fun s hs=>Fl.mk hs)
    have hl:=hq2.a1
    rw[hn2.l,hn.l]at hl
    have hl2:(adv r).l=r.l:=rfl
    rw[hl2]at hl
    dsimp only at e2 ⊢
    refine SimR.ret ((hA.trans hn).trans hn2) ⟨by omega,?_,?_⟩
    ·exact E5 (by omega) zF zB Bm (g2.g (by omega)) nT nT
    ·rw[pl];have:=g2.len;simp only[List.length_nil,List.map_nil,List.sum_nil];omega
   ·dsimp only
    rw[bo hs,Option.bind_some];exact Fl.mk hs
  | false=>
   simp only[Bool.false_eq_true,if_false]
   rw[EQ h _ (by simp) (by intro s hs;simp at hs;rcases hs with rfl | rfl | rfl<;>exact⟨by simp,rfl,by simp⟩),fst3,vw h,Option.bind_some,Option.bind_some]
   have con:∀ {A:Option (GExpr×RS)},SimR L r (XI r) (pb (bV r) fun x=>match x with | (r10,s7)=>some (.ret (r10,s7))) ((jQ (St L r)).bind fun r7=>(aH r7.2 [40]).bind fun r8=>(iC r8 r7.1).bind fun r9=>(aH r9.2 [41]).bind fun r10=>some (cE r7.1 r9.1,r10)):=by
    intro A
    rw[qt]
    refine(xr h).r.weak (fun x q ⟨g1,t,v,s,ex,g2,g3,g4⟩=> ?_)
    subst ex
    refine⟨g1,?_,?_⟩
    ·exact E5 (by omega) zF (A8 g2 g3) (C8 g2) zG nT nT
    ·rw[pl];simp;omega
   cases c3:ko r 1 [102,114,97,99]with
   | true=>simp only[Bool.true_or,if_true];exact con (A:=none)
   | false=>
    simp only[Bool.false_or,Bool.false_eq_true,if_false]
    rw[vw h,Option.bind_some]
    cases c4:ko r 1 [105,110,116]with
    | true=>simp only[Bool.true_or,if_true];exact con (A:=none)
    | false=>
     simp only[Bool.false_or,Bool.false_eq_true,if_false]
     rw[vw h,Option.bind_some]
     cases c5:ko r 1 [102,105,120]with
     | true=>simp only[if_true];exact con (A:=none)
     | false=>
      simp only[Bool.false_eq_true,if_false]
      have ek:∀ s∈[Fq,Fs,wIf,B1],s≠[]∧AO s=1∧s≠[41]:=by intro s hs;simp at hs;rcases hs with rfl | rfl | rfl | rfl<;>exact⟨by simp,rfl,by simp⟩
      have ec:=uO (p:=fun s=>ko r (AO s) s) (q:=ko r 1) (l:=[Fq,Fs,wIf,B1]) (fun s hs=>by rw[(ek s hs).2.1])
      rw[zl h _ (by simp),EQ h _ (by simp) ek,yo h _ (by simp) (fun s hs=>⟨(ek s hs).1,(ek s hs).2.2⟩),ec]
      cases cw:lf (ko r 1) [Fq,Fs,wIf,B1]with
      | none=>
       dsimp only[Option.bind_some,Option.isSome]
       exact(Cq h).r.weak (fun x q h=>h) |> fun k=>by
        show SimR L r (XI r) (zm r) ((jX (St L r)).bind fun r17=>some (r17.1,r17.2))
        cases e:jX (St L r)with
        | none=>rw[e]at k;exact k
        | some p=>rw[e]at k;exact k
      | some i=>
       obtain⟨hi,x,hx,hp⟩:=ss cw
       have hA:=Nx.adv h (h.is_lt hp)
       have e0:(adv r).at_=r.at_+1:=rfl
       have hrecA:RK L rec_ rec' (adv r) 1:=fun q q1 q2 q3=>hrec q q1 q2 q3
       have wk:∀ x q,XI (adv r) x q→XI r x q:=fun x q ⟨k1,k2⟩=>⟨by omega,k2.mono (by omega)⟩
       dsimp only[Option.bind_some,Option.isSome]
       rw[if_pos rfl]
       have pid:∀ (m:Option (GExpr×RS)),(m.bind fun r13=>some (r13.1,r13.2))=m:=fun m=>by cases m<;>rfl
       have cl:∀ (many:Nat) (op:Int),many≤10→0≤op∧op≤1000→SimR L r (XI r) (pb (cI rec_ (adv r) op (many:Int)) fun x=>match x with | (a,s)=>some (.ret (a,s))) ((dU rec' (St L (adv r)) op (many:Int) false).bind fun r13=>some (r13.1,r13.2)):=fun many op hm ho=>by
        rw[qt,pid]
        exact(DC hA.ok hrecA hf many hm op ho).base hA (fun x q _ k=>wk x q k)
       match i,hi with
       | 0,_=>exact cl 2 9 (by omega) (by omega)
       | 1,_=>exact cl 2 10 (by omega) (by omega)
       | 2,_=>exact cl 3 11 (by omega) (by omega)
       | 3,_=>
        show SimR L r (XI r) (pb (es rec_ (adv r)) fun x=>match x with | (a,s)=>some (.ret (a,s))) ((dU rec' (St L (adv r)) 12 1 true).bind fun r13=>some (r13.1,r13.2))
        rw[qt,pid]
        exact(DB hA.ok hrecA hf).base hA (fun x q _ k=>wk x q k)
theorem Bg {rec':RR} {p:RS} (he:p.E≠0):∃ y,d8 rec' p=some (y,p):=by
 obtain⟨y,hy⟩:=Ct he
 unfold d8
 rw[jl he,Option.bind_some,if_neg (by simp),jl he,Option.bind_some,if_neg (by simp),AC he _ (by simp),Option.bind_some,if_neg (by simp),AC he _ (by simp),Option.bind_some,if_neg (by simp),hy]
 exact⟨_,rfl⟩
end Go.Proofs.YtmhoikfoogemnaaGreatDoor
namespace Go.Proofs.YtmhoikfoogemnaaGreatDoor
open Go Go.RowKit Go.Vc
set_option linter.unusedVariables false
set_option linter.unusedSimpArgs false
variable {L:Cx}
def sgs (n:Int):List (List UInt8):=if n=1 then[[124]]else if n=2 then[[38]]else if n=4 then[[60],[60,61],[61,61]]else if n=5 then[[43],[45]]else if n=6 then[[42],[47]]else[]
def ops_ (n:Int):List Int:=if n=1 then[17]else if n=2 then[16]else if n=4 then[13,14,15]else if n=5 then[4,5]else if n=6 then[6,7]else[]
abbrev CE (r:PR) (jA:List (List UInt8)) (ops:List Int):Int:=match lf (ko r 3) jA with | some i=>ops.getD i 0 | none=>0
theorem se {r:PR} (h:Rok L r) (n:Int) (hn:n=1∨n=2∨n=3∨n=4∨n=5∨n=6):cC (St L r) n=some (CE r (sgs n) (ops_ n)):=by
 unfold cC
 simp only[fI h [124],fI h [38],fI h [60],fI h [60,61],fI h [61,61],fI h [43],fI h [45],fI h [42],fI h [47]]
 unfold CE
 rcases hn with rfl | rfl | rfl | rfl | rfl | rfl
 ·show _ =some (match lf (ko r 3) [[124]]with | some i=>([17]:List Int).getD i 0 | none=>0)
  simp only[lf]
  cases ko r 3 [124]<;>rfl
 ·show _ =some (match lf (ko r 3) [[38]]with | some i=>([16]:List Int).getD i 0 | none=>0)
  simp only[lf]
  cases ko r 3 [38]<;>rfl
 ·rfl
 ·show _ =some (match lf (ko r 3) [[60],[60,61],[61,61]]with | some i=>([13,14,15]:List Int).getD i 0 | none=>0)
  simp only[lf]
  cases ko r 3 [60]<;>cases ko r 3 [60,61]<;>cases ko r 3 [61,61]<;>rfl
 ·show _ =some (match lf (ko r 3) [[43],[45]]with | some i=>([4,5]:List Int).getD i 0 | none=>0)
  simp only[lf]
  cases ko r 3 [43]<;>cases ko r 3 [45]<;>rfl
 ·show _ =some (match lf (ko r 3) [[42],[47]]with | some i=>([6,7]:List Int).getD i 0 | none=>0)
  simp only[lf]
  cases ko r 3 [42]<;>cases ko r 3 [47]<;>rfl
theorem Hw {p:RS} (he:p.E≠0) (n:Int):cC p n=some 0:=by
 unfold cC
 have e:∀ (b:Bool),gd b (some false)=some false:=fun b=>by cases b<;>rfl
 simp only[jl he,e,Option.bind_some,Bool.and_false,Bool.false_eq_true,if_false]
section
variable {nx:RP} {rec':RR} {n:Int} {jA:List (List UInt8)} {ops:List Int} {l1:Nat→PR→GExpr→Option (bk (GExpr×PR))} {l2:GExpr→(PR→GExpr→Option (bk (GExpr×PR)))→Nat→Int→Int→PR→Option (bk (GExpr×PR))}
abbrev Ia (nx:RP) (jA:List (List UInt8)) (ops:List Int) (l2:GExpr→(PR→GExpr→Option (bk (GExpr×PR)))→Nat→Int→Int→PR→Option (bk (GExpr×PR))):Prop:=
 ∀ e self f op i r,l2 e self (f+1) op i r=if decide (i<(jA.length:Int))=true then(lat jA i).bind fun e2=>(BO (decide (op=0)) (aD r e2) (default,r)).bind fun(x:Bool×PR)=>if(decide (op=0)&&x.1)=true then(lat ops i).bind fun e3=>l2 e self f e3 (az (i+1)) x.2 else l2 e self f op (az (i+1)) x.2
  else if decide (op=0)=true then some (.ret (e,r))else pb (nx r) fun(y:GExpr×PR)=>self y.2 (BL op e y.1)
theorem Ek (h2:Ia nx jA ops l2) (hs:jA.length<1000) (e:GExpr) (self:PR→GExpr→Option (bk (GExpr×PR))) {op:Int} (ho:op≠0) (r:PR):∀ (m f i:Nat),i+m=jA.length→m<f→l2 e self f op (i:Int) r=pb (nx r) fun(y:GExpr×PR)=>self y.2 (BL op e y.1):=by
 intro m
 induction m with
 | zero=>
  intro f i hi hf
  obtain⟨f,rfl⟩:∃ g,f=g+1:=⟨f - 1,by omega⟩
  rw[h2,if_neg (by simp;omega),if_neg (by simpa using ho)]
 | succ m ih=>
  intro f i hi hf
  obtain⟨f,rfl⟩:∃ g,f=g+1:=⟨f - 1,by omega⟩
  obtain⟨x,hx⟩:=bY (l:=jA) (i:=i) (by omega)
  rw[h2,if_pos (bS (by omega)),ck hx,Option.bind_some,decide_eq_false ho]
  have e0:∀ (m:Option (Bool×PR)),BO false m (default,r)=some (default,r):=fun m=>rfl
  rw[e0,Option.bind_some,Bool.false_and,if_neg (by simp),lB (by omega)]
  exact ih f (i+1) (by omega) (by omega)
theorem GJ (h2:Ia nx jA ops l2) (hs:jA.length<1000) (hl:ops.length=jA.length) (h0:∀ o∈ops,o≠0) (e:GExpr) (self:PR→GExpr→Option (bk (GExpr×PR))) {r:PR} (hr:Rok L r):∀ (m f i:Nat),i+m=jA.length→m<f→
  l2 e self f 0 (i:Int) r=match lf (ko r 3) (jA.drop i)with | some j=>pb (nx (adv r)) fun(y:GExpr×PR)=>self y.2 (BL (ops.getD (i+j) 0) e y.1) | none=>some (.ret (e,r)):=by
 intro m
 induction m with
 | zero=>
  intro f i hi hf
  obtain⟨f,rfl⟩:∃ g,f=g+1:=⟨f - 1,by omega⟩
  rw[h2,if_neg (by simp;omega),if_pos (by simp),List.drop_of_length_le (by omega)];rfl
 | succ m ih=>
  intro f i hi hf
  obtain⟨f,rfl⟩:∃ g,f=g+1:=⟨f - 1,by omega⟩
  obtain⟨x,hx⟩:=bY (l:=jA) (i:=i) (by omega)
  rw[h2,if_pos (bS (by omega)),ck hx,Option.bind_some,jB hr,n0 hx,lf]
  have e0:∀ (m:Option (Bool×PR)),BO (decide ((0:Int)=0)) m (default,r)=m:=fun m=>rfl
  rw[e0,Option.bind_some]
  cases c:ko r 3 x with
  | true=>
   obtain⟨o,ho⟩:=bY (l:=ops) (i:=i) (by omega)
   rw[if_pos rfl,if_pos rfl]
   show(if(true&&true)=true then _ else _)=_
   rw[Bool.and_self,if_pos rfl,ck ho,Option.bind_some,lB (by omega)]
   have hd:ops.getD (i+0) 0=o:=by rw[Nat.add_zero,List.getD_eq_getElem?_getD,ho];rfl
   dsimp only
   rw[hd]
   exact Ek h2 hs e self (h0 o (List.mem_of_getElem? ho)) (adv r) m f (i+1) (by omega) (by omega)
  | false=>
   rw[if_neg (by simp),if_neg (by simp)]
   simp only[Bool.and_false,Bool.false_eq_true,if_false]
   rw[lB (by omega)]
   refine(ih f (i+1) (by omega) (by omega)).trans ?_
   cases lf (ko r 3) (jA.drop (i+1))with
   | none=>rfl
   | some j=>show pb _ _ =pb _ _;rw[show i+1+j=i+(j+1)by omega]
theorem XW.bin {a b:GExpr} {op:Int} {n m:Nat} (ho:0≤op∧op≤1000) (ha:XW a n) (hb:XW b m):XW (BL op a b) (n+1+m):=by
 have h1:=ha.w
 have h2:=hb.w
 unfold BL
 refine⟨E5 ho zF zB Bm zG nT ⟨fun y hy=> ?_,by simp⟩,?_⟩
 ·simp only[List.mem_cons,List.not_mem_nil,or_false]at hy
  rcases hy with rfl | rfl
  ·exact ha.ok
  ·exact hb.ok
 ·rw[pl];simp;omega
theorem yx (rec':RR) {s:RS} (he:s.E≠0) (g:Nat) (x:GExpr) (n:Int):bm n rec' (g+1) x s=some (x,s):=by
 simp only[bm]
 rw[Hw he,Option.bind_some,if_neg (by simp)]
theorem BJ {r:PR} (h1:∀ f r e,l1 (f+1) r e=l2 e (l1 f) fu 0 0 r) (h2:Ia nx jA ops l2) (hs:jA.length<1000) (hl:ops.length=jA.length) (h0:∀ o∈ops,o≠0∧0≤o∧o≤1000) (hn:1≤n∧n≤6)
  (hop:∀ q,Rok L q→cC (St L q) n=some (CE q jA ops)) (hnx:∀ q,Rok L q→q.l=r.l→q.deep=r.deep→SimR L q (XI q) (nx q) (rec' (St L q) (n+1))) (hf:RF rec' (n+1)):
  ∀ (F F':Nat) (q:PR) (x:GExpr),Nx L r q→q.l.length - q.at_.toNat<F→q.l.length - q.at_.toNat<F'→r.at_<q.at_→XW x (q.at_ - r.at_).toNat→SimR L r (XI r) (l1 F q x) (bm n rec' F' x (St L q)):=by
 intro F
 induction F with
 | zero=>intros;omega
 | succ F ih=>
  intro F' q x hq hF hF' ha hx
  obtain⟨F',rfl⟩:∃ g,F'=g+1:=⟨F' - 1,by omega⟩
  have q0:=hq.ok.a0
  have q1:=hq.ok.a1
  have er:=GJ h2 hs hl (fun o ho=>(h0 o ho).1) x (l1 F) hq.ok jA.length fu 0 (by omega) (by unfold fu;omega)
  rw[show((0:Nat):Int)=0 from rfl,List.drop_zero]at er
  rw[h1,er]
  simp only[bm]
  rw[hop q hq.ok,Option.bind_some,Option.bind_some]
  unfold CE
  cases c:lf (ko q 3) jA with
  | none=>exact SimR.ret hq ⟨ha,hx⟩
  | some j=>
   obtain⟨hj,y,hy,hb⟩:=ss c
   have hlt:=hq.ok.is_lt hb
   have hA:=Nx.adv hq.ok hlt
   obtain⟨o,ho⟩:=bY (l:=ops) (i:=j) (by omega)
   have hom:=h0 o (List.mem_of_getElem? ho)
   have hd:ops.getD j 0=o:=by rw[List.getD_eq_getElem?_getD,ho];rfl
   dsimp only
   simp only[Nat.zero_add,hd]
   rw[if_pos (by simp[hom.1])]
   show SimR L r (XI r) (pb (nx (adv q)) _) ((rec' (⟨L.L,az (q.at_+L.o+1),q.deep+L.o,0,0⟩:RS) (az (n+1))).bind _)
   rw[jV hq.ok,wi (p:=n+1) ⟨by omega,by omega⟩]
   have e0:(adv q).at_=q.at_+1:=rfl
   have e1:(adv q).l=q.l:=rfl
   refine(hnx (adv q) hA.ok hq.l hq.d).bnd (fun y q2 hn2 ⟨g1,g2⟩=> ?_) (fun y s hs=> ?_)
   ·have hl2:=hn2.l
    rw[e1]at hl2
    have ha1:=hn2.ok.a1
    rw[hl2]at ha1
    exact ih F' q2 (BL o x y) ((hq.trans hA).trans hn2) (by rw[hl2];omega) (by rw[hl2];omega) (by omega) ((XW.bin hom.2 hx g2).mono (by omega))
   ·obtain⟨g,rfl⟩:∃ g,F'=g+1:=⟨F' - 1,by omega⟩
    dsimp only
    rw[yx rec' hs];exact Fl.mk hs
theorem oE {r:PR} (h:Rok L r) (h1:∀ f r e,l1 (f+1) r e=l2 e (l1 f) fu 0 0 r) (h2:Ia nx jA ops l2) (hs:jA.length<1000) (hl:ops.length=jA.length) (h0:∀ o∈ops,o≠0∧0≤o∧o≤1000) (hn:1≤n∧n≤6)
  (hop:∀ q,Rok L q→cC (St L q) n=some (CE q jA ops)) (hnx:∀ q,Rok L q→q.l=r.l→q.deep=r.deep→SimR L q (XI q) (nx q) (rec' (St L q) (n+1))) (hf:RF rec' (n+1)):
  SimR L r (XI r) (pb (nx r) fun(x:GExpr×PR)=>l1 fu x.2 x.1) ((rec' (St L r) (n+1)).bind fun r6=>bm n rec' fu r6.1 r6.2):=by
 have hll:=h.ll
 refine(hnx r h rfl rfl).bnd (fun x q hn2 ⟨g1,g2⟩=> ?_) (fun y s hs'=> ?_)
 ·have hl2:=hn2.l
  exact BJ h1 h2 hs hl h0 hn hop hnx hf fu fu q x hn2 (by rw[hl2];unfold fu;omega) (by rw[hl2];unfold fu;omega) g1 g2
 ·obtain⟨g,hg⟩:=Ep
  dsimp only
  rw[hg,yx rec' hs'];exact Fl.mk hs'
end
theorem B2 {recs_:RP} {rec':RR} {r:PR} {n op:Int} (hr:Rok L r) (hlt:r.at_<r.l.length) (hop:0≤op∧op≤1000) (hrec:RK L recs_ rec' r n) (hf:RF rec' n):
  SimR L r (XI r) (pb (bK r) fun(x:Unit×PR)=>pb (recs_ x.2) fun(y:GExpr×PR)=>some (.ret (Ft op y.1,⟨y.2.l,y.2.at_,az (y.2.deep - 1)⟩)))
   ((fK (St L r)).bind fun r3=>(rec' r3 n).bind fun r4=>some (Ft op r4.1,⟨r4.2.L,r4.2.At,(St L r).Deep,r4.2.E,r4.2.Pos⟩)):=by
 refine(qg hr hlt).bnd (fun r' hr' ⟨e,hd⟩=> ?_) (fun s hs=> ?_)
 ·subst e
  have e0:(inn r).at_=r.at_+1:=rfl
  refine(hrec (inn r) hr' rfl rfl).bnd (fun x q hn ⟨g1,g2⟩=> ?_) (fun y s hs=>Fl.mk' hs rfl rfl)
  have hd2:q.deep=r.deep+1:=hn.d
  have hl2:q.l=r.l:=hn.l
  dsimp only
  rw[yP hn.ok,hd2,show r.deep+1 - 1=r.deep by omega]
  have hN:Nx L r ⟨q.l,q.at_,r.deep⟩:=⟨⟨by rw[hl2];exact hr.sm,hn.ok.a0,hn.ok.a1,hn.ok.ll,hn.ok.tl,hr.d0,hr.d1⟩,hl2,rfl,by show r.at_≤q.at_;omega⟩
  refine SimR.ret hN ⟨by show r.at_<q.at_;omega,?_⟩
  have hw:=g2.w
  unfold Ft
  refine⟨E5 hop zF zB Bm zG nT ⟨fun y hy=> ?_,by simp⟩,?_⟩
  ·rw[List.mem_singleton.1 hy];exact g2.ok
  ·rw[pl]
   show _ ≤3 * (q.at_ - r.at_).toNat
   simp only[List.length_nil,List.map_nil,List.sum_nil,List.map_cons,List.sum_cons]
   omega
 ·obtain⟨y,hy⟩:=hf s hs
  rw[hy,Option.bind_some]
  exact Fl.mk' hs rfl rfl
end Go.Proofs.YtmhoikfoogemnaaGreatDoor
