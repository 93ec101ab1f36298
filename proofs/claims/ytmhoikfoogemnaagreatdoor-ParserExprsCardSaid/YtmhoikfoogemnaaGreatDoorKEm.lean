import Derived.Test.YtmhoikfoogemnaaGreatDoorKEk
namespace Go.Proofs.YtmhoikfoogemnaaGreatDoor
open Go Go.RowKit Go.Vc
set_option linter.unusedVariables false
set_option linter.unusedSimpArgs false
variable {L:Cx}
theorem Hc {t:GType} {v:GVal} (ht:rh t=true) (h:A9 t v=true):okGVal v:=by
 unfold A9 at h
 split at h
 ·next k=>
  simp only[decide_eq_true_eq]at h
  have hb:2≤t.Bits∧t.Bits≤31:=by
   unfold rh at ht
   split at ht<;>simp only[decide_eq_true_eq]at ht<;>omega
  have h2:pw (t.Bits - 1)≤1073741824:=by
   unfold pw
   have:(2:Int) ^ (t.Bits - 1).toNat≤2 ^ 30:=by exact_mod_cast Nat.pow_le_pow_right (by omega) (show(t.Bits - 1).toNat≤30 by omega)
   simpa using this
  exact⟨jj ⟨by omega,by omega⟩,jj ⟨by omega,by omega⟩⟩
 ·split at h
  ·simp only[decide_eq_true_eq]at h
   exact⟨jj ⟨by omega,by omega⟩,jj ⟨by omega,by omega⟩⟩
  ·unfold oY at h
   simp only[decide_eq_true_eq]at h
   exact⟨jj ⟨by omega,by omega⟩,jj ⟨by omega,by omega⟩⟩
theorem Ck {t:GType} {s:List UInt8} {v:GVal} (ht:rh t=true) (h:Z01.vparse t s=(v,0)):okGVal v:=by
 unfold Z01.vparse at h
 rw[if_pos ht]at h
 by_cases h0:(Z01.parseS s).2=0
 ·rw[if_neg (by simpa using h0)]at h
  obtain⟨hv,_⟩:=Z01.parse_ok h0
  have hv':okGVal (Z01.parseS s).1:=by
   unfold oY at hv
   simp only[decide_eq_true_eq]at hv
   exact⟨jj ⟨by omega,by omega⟩,jj ⟨by omega,by omega⟩⟩
  split at h
  ·injection h with h _;subst h;exact hv'
  split at h
  ·split at h
   ·injection h with h _;subst h;exact hv'
   ·injection h with _ h;cases h
  split at h
  ·split at h
   ·next ho=>injection h with h _;subst h;exact Hc ht ho
   ·injection h with _ h;cases h
  ·injection h with _ h;cases h
 ·rw[if_pos (by simpa using h0)]at h
  injection h with _ h
  exact absurd h h0
theorem fst3 {r:PR} {a b c:List UInt8} :(mn (ly r 1) [a,b,c]).isSome=(ly r 1 a||(ly r 1 b||ly r 1 c)):=by
 simp only[mn]
 cases ly r 1 a<;>cases ly r 1 b<;>cases ly r 1 c<;>rfl
abbrev Gs:List UInt8:=[109,105,110]
abbrev Gt:List UInt8:=[109,97,120]
abbrev wIf:List UInt8:=[105,102]
abbrev Du:List UInt8:=[99,97,115,116]
theorem zW {rec_:RP} {rec':RR} {r:PR} (h:Rok L r) (hrec:RK L rec_ rec' r 1) (hf:RF rec' 1):SimR L r (XI r) (dK rec_ r) (fM rec' (St L r)):=by
 have h0:=h.a0;have h1:=h.a1;have h2:=h.ll
 unfold dK fM
 rw[xe h,ic h [40],Option.bind_some,Option.bind_some]
 cases c:ly r 3 [40]with
 | true=>
  rw[if_pos rfl,if_pos rfl,A5 h c]
  have run:∀ (p:RS),dW 1 false rec' (St L r) ⟨4,[],zV,zT,zL,[],[]⟩ p=(rec' p 1).bind fun r5=>(aH r5.2 [41]).bind fun r4=>some (⟨4,[],zV,zT,zL,[],[r5.1]⟩,⟨r4.L,r4.At,(St L r).Deep,r4.E,r4.Pos⟩):=fun p=>by
   unfold dW
   obtain⟨g,hg⟩:=fu2
   rw[hg]
   simp only[bK,dV,iA]
   rfl
  have e:dO rec' (St L r) 4 1 false=(fF (St L r)).bind fun r3=>(rec' r3 1).bind fun r5=>(aH r5.2 [41]).bind fun r4=>some (⟨4,[],zV,zT,zL,[],[r5.1]⟩,⟨r4.L,r4.At,(St L r).Deep,r4.E,r4.Pos⟩):=by
   unfold dO
   rw[ic h [40],Option.bind_some,c,if_neg (by simp)]
   simp only[Bool.false_eq_true,if_false,run]
  rw[e]
  simp only[Option.bind_assoc,Option.bind_some]
  have fin:∀ (x:GExpr) (s:RS),s.E≠0→Fl s.Pos s.E ((aH s [41]).bind fun r4=>if(!decide (r4.E=0))=true then some ((⟨0,[],zV,zT,zL,[],[]⟩:GExpr),(⟨r4.L,r4.At,(St L r).Deep,r4.E,r4.Pos⟩:RS))else(lat [x] 0).bind fun e1=>some (e1,(⟨r4.L,r4.At,(St L r).Deep,r4.E,r4.Pos⟩:RS))):=fun x s hs=>by
   rw[bF hs,Option.bind_some,if_pos (by simp[hs])]
   exact Fl.mk' hs rfl rfl
  refine(rr h (h.is_lt c)).bnd (fun r' hr' ⟨e,hd⟩=> ?_) (fun s hs=> ?_)
  ·subst e
   refine(hrec (inn r) hr' rfl rfl).bnd (fun x q hn ⟨g1,g2⟩=> ?_) (fun y s hs=>fin y s hs)
   have e0:(inn r).at_=r.at_+1:=rfl
   dsimp only
   refine tQ h hn.ok hn.l hn.d (by omega) (fun hn2=> ?_) (fun s hs=> ?_)
   ·exact SimR.ret hn2 ⟨by show r.at_<q.at_+1;omega,g2.mono (by show _ ≤(q.at_+1 - r.at_).toNat;omega)⟩
   ·rw[if_pos (by simp[hs])];exact Fl.mk' hs rfl rfl
  ·obtain⟨y,hy⟩:=hf s hs
   rw[hy,Option.bind_some]
   exact fin y s hs
 | false=>
  simp only[Bool.false_eq_true,if_false]
  rw[j7 h,ic h [91],Option.bind_some,Option.bind_some]
  cases c2:ly r 3 [91]with
  | true=>
   have hA:=Nx.adv h (h.is_lt c2)
   have e0:(adv r).at_=r.at_+1:=rfl
   simp only[if_true]
   show SimR L r _ (pb (bH (adv r)) _) ((fN (⟨L.L,ar (r.at_+L.o+1),r.deep+L.o,0,0⟩:RS)).bind _)
   rw[kL h]
   refine(sV hA.ok).r.bnd (fun f q hn ⟨g1,g2⟩=> ?_) (fun y s hs=> ?_)
   ·dsimp only
    refine(fT hn.ok [93]).p.bnd (fun q2 hq2 ⟨hn2,e2⟩=> ?_) (fun s hs=>Fl.mk hs)
    have hl:=hq2.a1
    rw[hn2.l,hn.l]at hl
    have hl2:(adv r).l=r.l:=rfl
    rw[hl2]at hl
    dsimp only at e2 ⊢
    refine SimR.ret ((hA.trans hn).trans hn2) ⟨by omega,?_,?_⟩
    ·exact F8 (by omega) Bb A8 CB (g2.g (by omega)) o7 o7
    ·rw[qq];have:=g2.len;simp only[List.length_nil,List.map_nil,List.sum_nil];omega
   ·dsimp only
    rw[bF hs,Option.bind_some];exact Fl.mk hs
  | false=>
   simp only[Bool.false_eq_true,if_false]
   rw[FX h _ (by simp) (by intro s hs;simp at hs;rcases hs with rfl | rfl | rfl<;>exact⟨by simp,rfl,by simp⟩),fst3,xe h,Option.bind_some,Option.bind_some]
   have con:∀ {A:Option (GExpr×RS)},SimR L r (XI r) (pb (ce r) fun x=>match x with | (r10,s7)=>some (.ret (r10,s7))) ((iX (St L r)).bind fun r7=>(aH r7.2 [40]).bind fun r8=>(fW r8 r7.1).bind fun r9=>(aH r9.2 [41]).bind fun r10=>some (cE r7.1 r9.1,r10)):=by
    intro A
    rw[rK]
    refine(yL h).r.weak (fun x q ⟨g1,t,v,s,ex,g2,g3,g4⟩=> ?_)
    subst ex
    refine⟨g1,?_,?_⟩
    ·exact F8 (by omega) Bb (Ck g2 g3) (D9 g2) Bc o7 o7
    ·rw[qq];simp;omega
   cases c3:ly r 1 [102,114,97,99]with
   | true=>simp only[Bool.true_or,if_true];exact con (A:=none)
   | false=>
    simp only[Bool.false_or,Bool.false_eq_true,if_false]
    rw[xe h,Option.bind_some]
    cases c4:ly r 1 [105,110,116]with
    | true=>simp only[Bool.true_or,if_true];exact con (A:=none)
    | false=>
     simp only[Bool.false_or,Bool.false_eq_true,if_false]
     rw[xe h,Option.bind_some]
     cases c5:ly r 1 [102,105,120]with
     | true=>simp only[if_true];exact con (A:=none)
     | false=>
      simp only[Bool.false_eq_true,if_false]
      have ek:∀ s∈[Gs,Gt,wIf,Du],s≠[]∧B3 s=1∧s≠[41]:=by intro s hs;simp at hs;rcases hs with rfl | rfl | rfl | rfl<;>exact⟨by simp,rfl,by simp⟩
      have ec:=wl (p:=fun s=>ly r (B3 s) s) (q:=ly r 1) (l:=[Gs,Gt,wIf,Du]) (fun s hs=>by rw[(ek s hs).2.1])
      rw[AX h _ (by simp),FX h _ (by simp) ek,zU h _ (by simp) (fun s hs=>⟨(ek s hs).1,(ek s hs).2.2⟩),ec]
      cases cw:mn (ly r 1) [Gs,Gt,wIf,Du]with
      | none=>
       dsimp only[Option.bind_some,Option.isSome]
       exact(DQ h).r.weak (fun x q h=>h) |> fun k=>by
        show SimR L r (XI r) (AY r) ((iN (St L r)).bind fun r17=>some (r17.1,r17.2))
        cases e:iN (St L r)with
        | none=>rw[e]at k;exact k
        | some p=>rw[e]at k;exact k
      | some i=>
       obtain⟨hi,x,hx,hp⟩:=tN cw
       have hA:=Nx.adv h (h.is_lt hp)
       have e0:(adv r).at_=r.at_+1:=rfl
       have hrecA:RK L rec_ rec' (adv r) 1:=fun q q1 q2 q3=>hrec q q1 q2 q3
       have wk:∀ x q,XI (adv r) x q→XI r x q:=fun x q ⟨k1,k2⟩=>⟨by omega,k2.mono (by omega)⟩
       dsimp only[Option.bind_some,Option.isSome]
       rw[if_pos rfl]
       have pid:∀ (m:Option (GExpr×RS)),(m.bind fun r13=>some (r13.1,r13.2))=m:=fun m=>by cases m<;>rfl
       have cl:∀ (many:Nat) (op:Int),many≤10→0≤op∧op≤1000→SimR L r (XI r) (pb (cY rec_ (adv r) op (many:Int)) fun x=>match x with | (a,s)=>some (.ret (a,s))) ((dO rec' (St L (adv r)) op (many:Int) false).bind fun r13=>some (r13.1,r13.2)):=fun many op hm ho=>by
        rw[rK,pid]
        exact(EC hA.ok hrecA hf many hm op ho).base hA (fun x q _ k=>wk x q k)
       match i,hi with
       | 0,_=>exact cl 2 9 (by omega) (by omega)
       | 1,_=>exact cl 2 10 (by omega) (by omega)
       | 2,_=>exact cl 3 11 (by omega) (by omega)
       | 3,_=>
        show SimR L r (XI r) (pb (fi rec_ (adv r)) fun x=>match x with | (a,s)=>some (.ret (a,s))) ((dO rec' (St L (adv r)) 12 1 true).bind fun r13=>some (r13.1,r13.2))
        rw[rK,pid]
        exact(EB hA.ok hrecA hf).base hA (fun x q _ k=>wk x q k)
theorem Cu {rec':RR} {p:RS} (he:p.E≠0):∃ y,fM rec' p=some (y,p):=by
 obtain⟨y,hy⟩:=DT he
 unfold fM
 rw[jV he,Option.bind_some,if_neg (by simp),jV he,Option.bind_some,if_neg (by simp),BT he _ (by simp),Option.bind_some,if_neg (by simp),BT he _ (by simp),Option.bind_some,if_neg (by simp),hy]
 exact⟨_,rfl⟩
end Go.Proofs.YtmhoikfoogemnaaGreatDoor
namespace Go.Proofs.YtmhoikfoogemnaaGreatDoor
open Go Go.RowKit Go.Vc
set_option linter.unusedVariables false
set_option linter.unusedSimpArgs false
variable {L:Cx}
def sgs (n:Int):List (List UInt8):=if n=1 then[[124]]else if n=2 then[[38]]else if n=4 then[[60],[60,61],[61,61]]else if n=5 then[[43],[45]]else if n=6 then[[42],[47]]else[]
def ops_ (n:Int):List Int:=if n=1 then[17]else if n=2 then[16]else if n=4 then[13,14,15]else if n=5 then[4,5]else if n=6 then[6,7]else[]
abbrev D3 (r:PR) (j6:List (List UInt8)) (ops:List Int):Int:=match mn (ly r 3) j6 with | some i=>ops.getD i 0 | none=>0
theorem tH {r:PR} (h:Rok L r) (n:Int) (hn:n=1∨n=2∨n=3∨n=4∨n=5∨n=6):dZ (St L r) n=some (D3 r (sgs n) (ops_ n)):=by
 unfold dZ
 simp only[ic h [124],ic h [38],ic h [60],ic h [60,61],ic h [61,61],ic h [43],ic h [45],ic h [42],ic h [47]]
 unfold D3
 rcases hn with rfl | rfl | rfl | rfl | rfl | rfl
 ·show _ =some (match mn (ly r 3) [[124]]with | some i=>([17]:List Int).getD i 0 | none=>0)
  simp only[mn]
  cases ly r 3 [124]<;>rfl
 ·show _ =some (match mn (ly r 3) [[38]]with | some i=>([16]:List Int).getD i 0 | none=>0)
  simp only[mn]
  cases ly r 3 [38]<;>rfl
 ·rfl
 ·show _ =some (match mn (ly r 3) [[60],[60,61],[61,61]]with | some i=>([13,14,15]:List Int).getD i 0 | none=>0)
  simp only[mn]
  cases ly r 3 [60]<;>cases ly r 3 [60,61]<;>cases ly r 3 [61,61]<;>rfl
 ·show _ =some (match mn (ly r 3) [[43],[45]]with | some i=>([4,5]:List Int).getD i 0 | none=>0)
  simp only[mn]
  cases ly r 3 [43]<;>cases ly r 3 [45]<;>rfl
 ·show _ =some (match mn (ly r 3) [[42],[47]]with | some i=>([6,7]:List Int).getD i 0 | none=>0)
  simp only[mn]
  cases ly r 3 [42]<;>cases ly r 3 [47]<;>rfl
theorem op_f {p:RS} (he:p.E≠0) (n:Int):dZ p n=some 0:=by
 unfold dZ
 have e:∀ (b:Bool),gd b (some false)=some false:=fun b=>by cases b<;>rfl
 simp only[jV he,e,Option.bind_some,Bool.and_false,Bool.false_eq_true,if_false]
section
variable {nx:RP} {rec':RR} {n:Int} {j6:List (List UInt8)} {ops:List Int} {l1:Nat→PR→GExpr→Option (bz (GExpr×PR))} {l2:GExpr→(PR→GExpr→Option (bz (GExpr×PR)))→Nat→Int→Int→PR→Option (bz (GExpr×PR))}
abbrev IC (nx:RP) (j6:List (List UInt8)) (ops:List Int) (l2:GExpr→(PR→GExpr→Option (bz (GExpr×PR)))→Nat→Int→Int→PR→Option (bz (GExpr×PR))):Prop:=
 ∀ e self f op i r,l2 e self (f+1) op i r=if decide (i<(j6.length:Int))=true then(lat j6 i).bind fun e2=>(Dd (decide (op=0)) (aw r e2) (default,r)).bind fun(x:Bool×PR)=>if(decide (op=0)&&x.1)=true then(lat ops i).bind fun e3=>l2 e self f e3 (ar (i+1)) x.2 else l2 e self f op (ar (i+1)) x.2
  else if decide (op=0)=true then some (.ret (e,r))else pb (nx r) fun(y:GExpr×PR)=>self y.2 (C6 op e y.1)
theorem Fu (h2:IC nx j6 ops l2) (hs:j6.length<1000) (e:GExpr) (self:PR→GExpr→Option (bz (GExpr×PR))) {op:Int} (ho:op≠0) (r:PR):∀ (m f i:Nat),i+m=j6.length→m<f→l2 e self f op (i:Int) r=pb (nx r) fun(y:GExpr×PR)=>self y.2 (C6 op e y.1):=by
 intro m
 induction m with
 | zero=>
  intro f i hi hf
  obtain⟨f,rfl⟩:∃ g,f=g+1:=⟨f - 1,by omega⟩
  rw[h2,if_neg (by simp;omega),if_neg (by simpa using ho)]
 | succ m ih=>
  intro f i hi hf
  obtain⟨f,rfl⟩:∃ g,f=g+1:=⟨f - 1,by omega⟩
  obtain⟨x,hx⟩:=cx (l:=j6) (i:=i) (by omega)
  rw[h2,if_pos (cb (by omega)),cQ hx,Option.bind_some,decide_eq_false ho]
  have e0:∀ (m:Option (Bool×PR)),Dd false m (default,r)=some (default,r):=fun m=>rfl
  rw[e0,Option.bind_some,Bool.false_and,if_neg (by simp),mU (by omega)]
  exact ih f (i+1) (by omega) (by omega)
theorem Hm (h2:IC nx j6 ops l2) (hs:j6.length<1000) (hl:ops.length=j6.length) (h0:∀ o∈ops,o≠0) (e:GExpr) (self:PR→GExpr→Option (bz (GExpr×PR))) {r:PR} (hr:Rok L r):∀ (m f i:Nat),i+m=j6.length→m<f→
  l2 e self f 0 (i:Int) r=match mn (ly r 3) (j6.drop i)with | some j=>pb (nx (adv r)) fun(y:GExpr×PR)=>self y.2 (C6 (ops.getD (i+j) 0) e y.1) | none=>some (.ret (e,r)):=by
 intro m
 induction m with
 | zero=>
  intro f i hi hf
  obtain⟨f,rfl⟩:∃ g,f=g+1:=⟨f - 1,by omega⟩
  rw[h2,if_neg (by simp;omega),if_pos (by simp),List.drop_of_length_le (by omega)];rfl
 | succ m ih=>
  intro f i hi hf
  obtain⟨f,rfl⟩:∃ g,f=g+1:=⟨f - 1,by omega⟩
  obtain⟨x,hx⟩:=cx (l:=j6) (i:=i) (by omega)
  rw[h2,if_pos (cb (by omega)),cQ hx,Option.bind_some,j7 hr,pf hx,mn]
  have e0:∀ (m:Option (Bool×PR)),Dd (decide ((0:Int)=0)) m (default,r)=m:=fun m=>rfl
  rw[e0,Option.bind_some]
  cases c:ly r 3 x with
  | true=>
   obtain⟨o,ho⟩:=cx (l:=ops) (i:=i) (by omega)
   rw[if_pos rfl,if_pos rfl]
   show(if(true&&true)=true then _ else _)=_
   rw[Bool.and_self,if_pos rfl,cQ ho,Option.bind_some,mU (by omega)]
   have hd:ops.getD (i+0) 0=o:=by rw[Nat.add_zero,List.getD_eq_getElem?_getD,ho];rfl
   dsimp only
   rw[hd]
   exact Fu h2 hs e self (h0 o (List.mem_of_getElem? ho)) (adv r) m f (i+1) (by omega) (by omega)
  | false=>
   rw[if_neg (by simp),if_neg (by simp)]
   simp only[Bool.and_false,Bool.false_eq_true,if_false]
   rw[mU (by omega)]
   refine(ih f (i+1) (by omega) (by omega)).trans ?_
   cases mn (ly r 3) (j6.drop (i+1))with
   | none=>rfl
   | some j=>show pb _ _ =pb _ _;rw[show i+1+j=i+(j+1)by omega]
theorem XW.bin {a b:GExpr} {op:Int} {n m:Nat} (ho:0≤op∧op≤1000) (ha:XW a n) (hb:XW b m):XW (C6 op a b) (n+1+m):=by
 have h1:=ha.w
 have h2:=hb.w
 unfold C6
 refine⟨F8 ho Bb A8 CB Bc o7 ⟨fun y hy=> ?_,by simp⟩,?_⟩
 ·simp only[List.mem_cons,List.not_mem_nil,or_false]at hy
  rcases hy with rfl | rfl
  ·exact ha.ok
  ·exact hb.ok
 ·rw[qq];simp;omega
theorem Aa (rec':RR) {s:RS} (he:s.E≠0) (g:Nat) (x:GExpr) (n:Int):bp n rec' (g+1) x s=some (x,s):=by
 simp only[bp]
 rw[op_f he,Option.bind_some,if_neg (by simp)]
theorem CY {r:PR} (h1:∀ f r e,l1 (f+1) r e=l2 e (l1 f) fu 0 0 r) (h2:IC nx j6 ops l2) (hs:j6.length<1000) (hl:ops.length=j6.length) (h0:∀ o∈ops,o≠0∧0≤o∧o≤1000) (hn:1≤n∧n≤6)
  (hop:∀ q,Rok L q→dZ (St L q) n=some (D3 q j6 ops)) (hnx:∀ q,Rok L q→q.l=r.l→q.deep=r.deep→SimR L q (XI q) (nx q) (rec' (St L q) (n+1))) (hf:RF rec' (n+1)):
  ∀ (F F':Nat) (q:PR) (x:GExpr),Nx L r q→q.l.length - q.at_.toNat<F→q.l.length - q.at_.toNat<F'→r.at_<q.at_→XW x (q.at_ - r.at_).toNat→SimR L r (XI r) (l1 F q x) (bp n rec' F' x (St L q)):=by
 intro F
 induction F with
 | zero=>intros;omega
 | succ F ih=>
  intro F' q x hq hF hF' ha hx
  obtain⟨F',rfl⟩:∃ g,F'=g+1:=⟨F' - 1,by omega⟩
  have q0:=hq.ok.a0
  have q1:=hq.ok.a1
  have er:=Hm h2 hs hl (fun o ho=>(h0 o ho).1) x (l1 F) hq.ok j6.length fu 0 (by omega) (by unfold fu;omega)
  rw[show((0:Nat):Int)=0 from rfl,List.drop_zero]at er
  rw[h1,er]
  simp only[bp]
  rw[hop q hq.ok,Option.bind_some,Option.bind_some]
  unfold D3
  cases c:mn (ly q 3) j6 with
  | none=>exact SimR.ret hq ⟨ha,hx⟩
  | some j=>
   obtain⟨hj,y,hy,hb⟩:=tN c
   have hlt:=hq.ok.is_lt hb
   have hA:=Nx.adv hq.ok hlt
   obtain⟨o,ho⟩:=cx (l:=ops) (i:=j) (by omega)
   have hom:=h0 o (List.mem_of_getElem? ho)
   have hd:ops.getD j 0=o:=by rw[List.getD_eq_getElem?_getD,ho];rfl
   dsimp only
   simp only[Nat.zero_add,hd]
   rw[if_pos (by simp[hom.1])]
   show SimR L r (XI r) (pb (nx (adv q)) _) ((rec' (⟨L.L,ar (q.at_+L.o+1),q.deep+L.o,0,0⟩:RS) (ar (n+1))).bind _)
   rw[kL hq.ok,wi (p:=n+1) ⟨by omega,by omega⟩]
   have e0:(adv q).at_=q.at_+1:=rfl
   have e1:(adv q).l=q.l:=rfl
   refine(hnx (adv q) hA.ok hq.l hq.d).bnd (fun y q2 hn2 ⟨g1,g2⟩=> ?_) (fun y s hs=> ?_)
   ·have hl2:=hn2.l
    rw[e1]at hl2
    have ha1:=hn2.ok.a1
    rw[hl2]at ha1
    exact ih F' q2 (C6 o x y) ((hq.trans hA).trans hn2) (by rw[hl2];omega) (by rw[hl2];omega) (by omega) ((XW.bin hom.2 hx g2).mono (by omega))
   ·obtain⟨g,rfl⟩:∃ g,F'=g+1:=⟨F' - 1,by omega⟩
    dsimp only
    rw[Aa rec' hs];exact Fl.mk hs
theorem pD {r:PR} (h:Rok L r) (h1:∀ f r e,l1 (f+1) r e=l2 e (l1 f) fu 0 0 r) (h2:IC nx j6 ops l2) (hs:j6.length<1000) (hl:ops.length=j6.length) (h0:∀ o∈ops,o≠0∧0≤o∧o≤1000) (hn:1≤n∧n≤6)
  (hop:∀ q,Rok L q→dZ (St L q) n=some (D3 q j6 ops)) (hnx:∀ q,Rok L q→q.l=r.l→q.deep=r.deep→SimR L q (XI q) (nx q) (rec' (St L q) (n+1))) (hf:RF rec' (n+1)):
  SimR L r (XI r) (pb (nx r) fun(x:GExpr×PR)=>l1 fu x.2 x.1) ((rec' (St L r) (n+1)).bind fun r6=>bp n rec' fu r6.1 r6.2):=by
 have hll:=h.ll
 refine(hnx r h rfl rfl).bnd (fun x q hn2 ⟨g1,g2⟩=> ?_) (fun y s hs'=> ?_)
 ·have hl2:=hn2.l
  exact CY h1 h2 hs hl h0 hn hop hnx hf fu fu q x hn2 (by rw[hl2];unfold fu;omega) (by rw[hl2];unfold fu;omega) g1 g2
 ·obtain⟨g,hg⟩:=Ge
  dsimp only
  rw[hg,Aa rec' hs'];exact Fl.mk hs'
end
theorem Dw {recs_:RP} {rec':RR} {r:PR} {n op:Int} (hr:Rok L r) (hlt:r.at_<r.l.length) (hop:0≤op∧op≤1000) (hrec:RK L recs_ rec' r n) (hf:RF rec' n):
  SimR L r (XI r) (pb (bO r) fun(x:Unit×PR)=>pb (recs_ x.2) fun(y:GExpr×PR)=>some (.ret (Gu op y.1,⟨y.2.l,y.2.at_,ar (y.2.deep - 1)⟩)))
   ((fF (St L r)).bind fun r3=>(rec' r3 n).bind fun r4=>some (Gu op r4.1,⟨r4.2.L,r4.2.At,(St L r).Deep,r4.2.E,r4.2.Pos⟩)):=by
 refine(rr hr hlt).bnd (fun r' hr' ⟨e,hd⟩=> ?_) (fun s hs=> ?_)
 ·subst e
  have e0:(inn r).at_=r.at_+1:=rfl
  refine(hrec (inn r) hr' rfl rfl).bnd (fun x q hn ⟨g1,g2⟩=> ?_) (fun y s hs=>Fl.mk' hs rfl rfl)
  have hd2:q.deep=r.deep+1:=hn.d
  have hl2:q.l=r.l:=hn.l
  dsimp only
  rw[Ar hn.ok,hd2,show r.deep+1 - 1=r.deep by omega]
  have hN:Nx L r ⟨q.l,q.at_,r.deep⟩:=⟨⟨by rw[hl2];exact hr.sm,hn.ok.a0,hn.ok.a1,hn.ok.ll,hn.ok.tl,hr.d0,hr.d1⟩,hl2,rfl,by show r.at_≤q.at_;omega⟩
  refine SimR.ret hN ⟨by show r.at_<q.at_;omega,?_⟩
  have hw:=g2.w
  unfold Gu
  refine⟨F8 hop Bb A8 CB Bc o7 ⟨fun y hy=> ?_,by simp⟩,?_⟩
  ·rw[List.mem_singleton.1 hy];exact g2.ok
  ·rw[qq]
   show _ ≤3 * (q.at_ - r.at_).toNat
   simp only[List.length_nil,List.map_nil,List.sum_nil,List.map_cons,List.sum_cons]
   omega
 ·obtain⟨y,hy⟩:=hf s hs
  rw[hy,Option.bind_some]
  exact Fl.mk' hs rfl rfl
end Go.Proofs.YtmhoikfoogemnaaGreatDoor
