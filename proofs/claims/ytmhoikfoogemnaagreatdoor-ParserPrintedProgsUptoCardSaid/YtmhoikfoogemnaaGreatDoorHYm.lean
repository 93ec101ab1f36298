import Derived.Test.YtmhoikfoogemnaaGreatDoorHYk
namespace Go.Proofs.YtmhoikfoogemnaaGreatDoor
open Go Go.RowKit Go.Vc
set_option linter.unusedVariables false
set_option linter.unusedSimpArgs false
theorem Mt {p:UInt8→Bool} {s:List UInt8} {i:Nat} (h:(s.take i).all p=true) (hs:∀ c,s[i]? =some c→p c=false) (hi:i≤s.length):(s.takeWhile p).length=i:=by
  induction s generalizing i with
  | nil=>simp at hi ⊢;omega
  | cons c s ih=>
    cases i with
    | zero=>rw[List.takeWhile_cons,hs c rfl];simp
    | succ i=>
      rw[List.take_succ_cons,List.all_cons,Bool.and_eq_true]at h
      rw[List.takeWhile_cons,h.1]
      simp only[if_true,List.length_cons]
      rw[ih h.2 (λd hd=>hs d (by simpa using hd)) (by simpa using hi)]
theorem GH {s:List UInt8} {f:Int→Option Bool} {p:UInt8→Bool} (hs:s.length<4611686018427387904) (hf:∀ c:UInt8,f (qZ (c.toNat:Int))=some (p c)):hU s f=some ((s.takeWhile p).length:Int):=by
  refine ib (L:=λg (_:Unit) i=>cR s f g i) (n:=s.length) hs (λi _=>(s.take i).all p=true) ?_ ?_ () (by simp)
  · intro g i _ hi hI
    obtain⟨c,hc⟩:=bY hi
    simp only[cR]
    rw[bs hi]
    simp only[gd,if_true,iC hc,Option.bind_some,hf,Bool.true_and]
    by_cases hw:p c=true
    · left;refine⟨(),?_,by rw[if_pos hw,mH (by omega)]⟩
      rw[bE hc,List.all_append,hI];simp[hw]
    · right
      rw[if_neg hw,Mt hI (λd hd=>by rw[hc]at hd;injection hd with hd;rw[← hd];simpa using hw) (by omega)]
  · intro g _ hI
    rw[Mt (i:=s.length) hI (λd hd=>by simp at hd) (Nat.le_refl _)]
    simp only[cR]
    simp[gd]
theorem IL {p:UInt8→Bool} {t r:List UInt8} (ht:t.all p=true) (hr:∀ c,r.head?=some c→p c=false):(t++r).takeWhile p=t:=by
  induction t with
  | nil=>
    cases r with
    | nil=>rfl
    | cons c r=>rw[List.nil_append,List.takeWhile_cons,hr c rfl];rfl
  | cons c t ih=>
    rw[List.all_cons,Bool.and_eq_true]at ht
    rw[List.cons_append,List.takeWhile_cons,ht.1,ih ht.2];rfl
def tQ (c:UInt8):Bool:=decide (48≤(c.toNat:Int))&&decide ((c.toNat:Int)≤57)
theorem Ey (c:UInt8):fP (qZ (c.toNat:Int))=some (tQ c):=by rw[rq];rfl
def gt:List (List UInt8):=[[40],[41],[91],[93],[44],[43],[45],[42],[47],[60],[38],[124],[33],[58],[59],[60,61],[61,61]]
def td (t:List UInt8):Prop:=mG (t.headD 0)=true∧t.all hO=true∧t.length≤16∧t≠[]
def FO (t:List UInt8):Prop:=t.all tQ=true∧t≠[]
def A7 (t:List UInt8):Prop:=td t∨FO t∨t∈gt
def im (t:List UInt8):Int:=if mG (t.headD 0)=true then 1 else if tQ (t.headD 0)=true then 2 else 3
def Nt (t:List UInt8) (n:Option UInt8):Prop:=(mG (t.headD 0)=true→∀ c,n=some c→hO c=false)∧(tQ (t.headD 0)=true→∀ c,n=some c→tQ c=false)∧(t=[60]→n≠some 61)
theorem ur {c:UInt8} (h:mG c=true):tQ c=false:=by
  unfold mG at h;unfold tQ
  simp only[Bool.and_eq_true,decide_eq_true_eq]at h
  rw[Bool.eq_false_iff]
  simp only[ne_eq,Bool.and_eq_true,decide_eq_true_eq];omega
theorem JQ {t r:List UInt8} (h:A7 t) (hs:Nt t r.head?) (hl:(t++r).length<4611686018427387904):jE (t++r)=some (im t,(t.length:Int)):=by
  unfold jE
  rcases h with⟨h1,h2,h3,h4⟩ | ⟨h1,h2⟩ | h
  · cases t with
    | nil=>exact absurd rfl h4
    | cons c t=>
      have hc:mG c=true:=h1
      rw[show sat (c::t++r) 0=some (c.toNat:Int)from iC (i:=0) rfl,Option.bind_some,wT,Option.bind_some,hc,if_pos rfl,GH hl Bm,IL h2 (hs.1 h1)]
      unfold im
      rw[if_pos h1];rfl
  · cases t with
    | nil=>exact absurd rfl h2
    | cons c t=>
      have hc:tQ c=true:=by rw[List.all_cons,Bool.and_eq_true]at h1;exact h1.1
      have hn:mG c=false:=by
        cases hh:mG c
        · rfl
        · rw[ur hh]at hc;cases hc
      rw[show sat (c::t++r) 0=some (c.toNat:Int)from iC (i:=0) rfl,Option.bind_some,wT,Option.bind_some,hn,if_neg (by simp),Ey,Option.bind_some,hc,if_pos rfl,GH hl Ey,IL h1 (hs.2.1 hc)]
      unfold im
      rw[show(c::t).headD 0=c from rfl,hn,hc];rfl
  · by_cases h60:t=[60]
    · subst h60
      cases r with
      | nil=>rfl
      | cons c r=>
        have hc:c≠61:=λhh=>hs.2.2 rfl (by rw[hh];rfl)
        have hcn:(c.toNat:Int)≠61:=λhh=>hc (by apply UInt8.toNat_inj.1;show c.toNat=61;omega)
        have hl2:decide ((1:Int)<(([60]++c::r).length:Int))=true:=by simp;omega
        rw[show sat ([60]++c::r) 0=some 60 from iC (i:=0) (c:=60) rfl,show sat ([60]++c::r) 1=some (c.toNat:Int)from iC (i:=1) rfl,hl2]
        simp[gd,hcn,fO,fP,je,im,mG,tQ,qZ,IntKind.wrap,IntKind.signed,IntKind.bits]
    by_cases h2:t=[60,61]∨t=[61,61]
    · have hl2:decide ((1:Int)<((t++r).length:Int))=true:=by rcases h2 with rfl | rfl<;>simp<;>omega
      have hs1:sat (t++r) 1=some 61:=by rcases h2 with rfl | rfl<;>exact iC (i:=1) (c:=61) rfl
      rcases h2 with rfl | rfl
      · rw[show sat ([60,61]++r) 0=some 60 from iC (i:=0) (c:=60) rfl,hs1,hl2]
        rfl
      · rw[show sat ([61,61]++r) 0=some 61 from iC (i:=0) (c:=61) rfl,hs1,hl2]
        rfl
    unfold gt at h
    simp only[List.mem_cons,List.not_mem_nil,or_false]at h
    rcases h with rfl | rfl | rfl | rfl | rfl | rfl | rfl | rfl | rfl | rfl | rfl | rfl | rfl | rfl | rfl | rfl | rfl
    all_goals first
      | exact absurd rfl h60
      | exact absurd (Or.inl rfl) h2
      | exact absurd (Or.inr rfl) h2
      | (rw[show ∀ (x:UInt8) q,sat ([x]++q) 0=some (x.toNat:Int)from λx q=>iC (i:=0) rfl]
         simp[gd,fO,fP,je,im,mG,tQ,qZ,IntKind.wrap,IntKind.signed,IntKind.bits];done)
def HI (c:UInt8):Bool:=decide (c=9)||decide (c=10)||decide (c=13)||decide (c=32)||decide (c=35)
theorem GJ {n:Nat} {r:List UInt8} (hr:∀ c,r.head?=some c→HI c=false) (hl:(List.replicate n 32++r).length<4611686018427387904):iQ (List.replicate n 32++r)=some (n:Int):=by
  refine ib (L:=λg (_:Unit) i=>ei (List.replicate n 32++r) g i) (n:=(List.replicate n 32++r).length) hl (λi _=>i≤n) ?_ ?_ () (by simp)
  · intro g i _ hi hI
    obtain⟨c,hc⟩:=bY hi
    simp only[ei]
    rw[if_pos (bs hi),iC hc,Option.bind_some,rq]
    by_cases hin:i<n
    · left;refine⟨(),by omega,?_⟩
      have:c=32:=by
        rw[List.getElem?_append_left (by simpa using hin),List.getElem?_replicate,if_pos hin]at hc
        injection hc with hc;exact hc.symm
      subst this
      rw[show iW (((32:UInt8).toNat:Nat):Int)=some true from rfl,Option.bind_some,if_pos rfl,mH (by omega)]
    · right
      obtain rfl:i=n:=by omega
      have hh:r.head?=some c:=by
        rw[List.getElem?_append_right (by simp)]at hc
        simpa[List.head?_eq_getElem?]using hc
      have hs:=hr c hh
      unfold HI at hs
      simp only[Bool.or_eq_false_iff,decide_eq_false_iff_not]at hs
      obtain⟨⟨⟨⟨s1,s2⟩,s3⟩,s4⟩,s5⟩:=hs
      have inj:∀ k:UInt8,c≠k→(c.toNat:Int)≠(k.toNat:Int):=λk hk hh=>hk (UInt8.toNat_inj.1 (by omega))
      have t1:=inj 9 s1;have t2:=inj 10 s2;have t3:=inj 13 s3;have t4:=inj 32 s4;have t5:=inj 35 s5
      simp at t1 t2 t3 t4 t5
      have hsp:iW (c.toNat:Int)=some false:=by
        unfold iW
        rw[if_neg (by simpa using t1),if_neg (by simpa using t2),if_neg (by simpa using t3),if_neg (by simpa using t4)]
      rw[hsp,Option.bind_some,if_neg (by simp),if_neg (by simpa using t5)]
  · intro g _ hI
    simp only[ei]
    have:(List.replicate n (32:UInt8)++r).length=n:=by
      rw[List.length_append,List.length_replicate]at hI ⊢;omega
    rw[if_neg (by simp),this]
end Go.Proofs.YtmhoikfoogemnaaGreatDoor
namespace Go.Proofs.YtmhoikfoogemnaaGreatDoor
open Go Go.RowKit Go.Vc
set_option linter.unusedVariables false
set_option linter.unusedSimpArgs false
def Pv (s:List UInt8) (n:Option UInt8):Option UInt8:=match s with | []=>n | c:: _=>some c
theorem LQ (a b:List UInt8) (n:Option UInt8):Pv (a++b) n=Pv a (Pv b n):=by cases a<;>rfl
theorem JZ (s:List UInt8):Pv s none=s.head?:=by cases s<;>rfl
def ve:List (List UInt8)→Option UInt8→Prop
 | [],_=>True
 | t::r,n=>(t=[32]∨(A7 t∧Nt t (Pv r.flatten n)))∧ve r n
theorem qe:∀ {a b:List (List UInt8)} {n:Option UInt8},ve a (Pv b.flatten n)→ve b n→ve (a++b) n
 | [],_,_,_,h=>h
 | t::a,b,n,h1,h2=>by
  refine⟨?_,qe h1.2 h2⟩
  rw[show(a.append b).flatten=a.flatten++b.flatten from List.flatten_append,LQ]
  exact h1.1
theorem A9:∀ {a b:List (List UInt8)} {n:Option UInt8},ve (a++b) n→ve b n
 | [],_,_,h=>h
 | _ ::a,_,_,h=>A9 (a:=a) h.2
def HF:Nat→List (List UInt8)→List bp
 | _,[]=>[]
 | o,t::r=>if t=[32]then HF (o+1) r else⟨im t,o,t⟩::HF (o+t.length) r
def iG (t:List UInt8):Bool:=decide (t≠[32])
theorem yz:∀ (n o:Nat) (r:List (List UInt8)),HF o (List.replicate n [32]++r)=HF (o+n) r
 | 0,o,r=>rfl
 | n+1,o,r=>by
  rw[List.replicate_succ,List.cons_append,HF,if_pos rfl,yz n,show o+1+n=o+(n+1)by omega]
theorem wD:∀ (ls:List (List UInt8)),∃ n r,ls=List.replicate n [32]++r∧(r=[]∨∃ t q,r=t::q∧t≠[32])
 | []=>⟨0,[],rfl,Or.inl rfl⟩
 | t::ls=>by
  by_cases h:t=[32]
  ·obtain⟨n,r,h1,h2⟩:=wD ls
   exact⟨n+1,r,by rw[h1,h,List.replicate_succ];rfl,h2⟩
  ·exact⟨0,t::ls,rfl,Or.inr ⟨t,ls,rfl,h⟩⟩
theorem EW (n:Nat):(List.replicate n ([32]:List UInt8)).flatten=List.replicate n 32:=by
 induction n with
 | zero=>rfl
 | succ n ih=>rw[List.replicate_succ,List.flatten_cons,ih,List.replicate_succ];rfl
theorem rX {t:List UInt8} (h:A7 t):∃ c q,t=c::q∧HI c=false:=by
 have key:∀ c:UInt8,(∀ k:UInt8,k=9∨k=10∨k=13∨k=32∨k=35→c≠k)→HI c=false:=λc hc=>by
  unfold HI
  simp only[Bool.or_eq_false_iff,decide_eq_false_iff_not]
  exact⟨⟨⟨⟨hc 9 (by simp),hc 10 (by simp)⟩,hc 13 (by simp)⟩,hc 32 (by simp)⟩,hc 35 (by simp)⟩
 rcases h with⟨h1,_,_,h4⟩ | ⟨h1,h2⟩ | h
 ·cases t with
  | nil=>exact absurd rfl h4
  | cons c t=>
   refine⟨c,t,rfl,key c λk hk hh=>?_⟩
   subst hh
   have h1':mG c=true:=h1
   rcases hk with rfl | rfl | rfl | rfl | rfl<;>revert h1'<;>decide
 ·cases t with
  | nil=>exact absurd rfl h2
  | cons c t=>
   refine⟨c,t,rfl,key c λk hk hh=>?_⟩
   subst hh
   rw[List.all_cons,Bool.and_eq_true]at h1
   have h1':=h1.1
   rcases hk with rfl | rfl | rfl | rfl | rfl<;>revert h1'<;>decide
 ·unfold gt at h
  simp only[List.mem_cons,List.not_mem_nil,or_false]at h
  rcases h with rfl | rfl | rfl | rfl | rfl | rfl | rfl | rfl | rfl | rfl | rfl | rfl | rfl | rfl | rfl | rfl | rfl<;>exact⟨_,_,rfl,by decide⟩
theorem Bs {r:List (List UInt8)} (ho:ve r none) (hr:r=[]∨∃ t q,r=t::q∧t≠[32]):∀ c,r.flatten.head?=some c→HI c=false:=by
 rcases hr with rfl | ⟨t,q,rfl,ht⟩
 ·intro c h;simp at h
 ·rcases ho.1 with h | ⟨h,_⟩
  ·exact absurd h ht
  ·obtain⟨c,q',rfl,hc⟩:=rX h
   intro d hd
   simp at hd;rw[← hd];exact hc
theorem JT {t:List UInt8} :im t≠0:=by unfold im;split<;>(try split)<;>simp
theorem H3 {t:List UInt8} (h:A7 t) (hk:im t=1):t.length≤16:=by
 rcases h with⟨_,_,h3,_⟩ | ⟨h1,h2⟩ | h
 ·exact h3
 ·exfalso
  cases t with
  | nil=>exact absurd rfl h2
  | cons c t=>
   rw[List.all_cons,Bool.and_eq_true]at h1
   unfold im at hk
   rw[show(c::t).headD 0=c from rfl]at hk
   by_cases hl:mG c=true
   ·rw[ur hl]at h1;exact absurd h1.1 (by simp)
   ·rw[if_neg hl,if_pos h1.1]at hk;cases hk
 ·unfold gt at h
  simp only[List.mem_cons,List.not_mem_nil,or_false]at h
  rcases h with rfl | rfl | rfl | rfl | rfl | rfl | rfl | rfl | rfl | rfl | rfl | rfl | rfl | rfl | rfl | rfl | rfl<;>simp
theorem Eg {α:Type} (a b:List α):iJ (a++b) (a.length:Int)=some b:=by unfold iJ;rw[if_pos (by simp;omega)];simp
theorem GA:∀ (k:Nat) (ls:List (List UInt8)) (pre s:List UInt8) (out:List bp) (f:Nat),ls.length≤k→ve ls none→(ls=[]∨∃ t r,ls=t::r∧t≠[32])→s=pre++ls.flatten→s.length≤65536→out.length≤pre.length→k<f→
  cG s f out (pre.length:Int)=some (out++HF pre.length ls,0,0)
 | k,[],pre,s,out,f,hk,ho,hne,hs,hl,hout,hf=>by
  obtain⟨f,rfl⟩:∃ g,f=g+1:=⟨f - 1,by omega⟩
  subst hs
  simp only[cG]
  rw[if_neg (by simp),HF,List.append_nil]
 | 0,t::r,pre,s,out,f,hk,ho,hne,hs,hl,hout,hf=>by simp at hk
 | k+1,t::r,pre,s,out,f,hk,ho,hne,hs,hl,hout,hf=>by
  obtain⟨f,rfl⟩:∃ g,f=g+1:=⟨f - 1,by omega⟩
  have ht:t≠[32]:=by
   rcases hne with h | ⟨t',r',h,h'⟩
   ·cases h
   ·injection h with h1 h2;rw[h1];exact h'
  rcases ho.1 with h | ⟨h1,h2⟩
  ·exact absurd h ht
  rw[JZ]at h2
  obtain⟨n,r',hr,hr'⟩:=wD r
  obtain⟨c,q,htc,_⟩:=rX h1
  have htl:1≤t.length:=by rw[htc];simp
  have ho':ve r' none:=A9 (a:=List.replicate n [32]) (by rw[← hr];exact ho.2)
  have hfl:r.flatten=List.replicate n 32++r'.flatten:=by rw[hr,List.flatten_append,EW]
  have hlen:s.length=pre.length+t.length+(n+r'.flatten.length):=by rw[hs,List.flatten_cons,hfl];simp only[List.length_append,List.length_replicate];omega
  have hs2:s=(pre++t)++r.flatten:=by rw[hs,List.flatten_cons,List.append_assoc]
  have hnext:jE (t++r.flatten)=some (im t,(t.length:Int)):=JQ h1 h2 (by rw[hfl];simp only[List.length_append,List.length_replicate];omega)
  have hskip:iQ r.flatten=some (n:Int):=by rw[hfl];exact GJ (Bs ho' hr') (by simp only[List.length_append,List.length_replicate];omega)
  have hpt:((pre++t).length:Int)=(pre.length:Int)+(t.length:Int):=by simp
  have hrl:r'.length≤k:=by
   have:r.length=n+r'.length:=by rw[hr];simp
   simp at hk;omega
  simp only[cG]
  rw[if_pos (by simp;omega),show iJ s (pre.length:Int)=some (t++r.flatten)by rw[hs,List.flatten_cons];exact Eg _ _,Option.bind_some,hnext,Option.bind_some]
  simp only[]
  rw[if_neg (by simpa using JT),if_neg (by
   simp only[Bool.and_eq_true,decide_eq_true_eq]
   rintro⟨a1,a2⟩
   have:=H3 h1 a1;omega),Pm (by omega)]
  rw[show vh s (pre.length:Int) ((pre.length+t.length:Nat):Int)=some t by
   unfold vh
   rw[if_pos (by omega),hs2,show((pre.length:Int)).toNat=pre.length by omega,show(((pre.length+t.length:Nat):Int)).toNat - pre.length=t.length by omega]
   simp,Option.bind_some,aR (by simp only[List.length_cons,List.length_nil];omega),Option.bind_some]
  rw[show iJ s ((pre.length+t.length:Nat):Int)=some r.flatten by rw[hs2,show((pre.length+t.length:Nat):Int)=((pre++t).length:Int)by simp];exact Eg _ _,Option.bind_some,hskip,Option.bind_some,Option.bind_some,Pm (by omega)]
  have ih:=GA k r' ((pre++t)++List.replicate n 32) s (out++[⟨im t,(pre.length:Int),t⟩]) f hrl ho' hr' (by rw[hs2,hfl];simp only[List.append_assoc]) hl (by simp;omega) (by omega)
  rw[show((pre.length+t.length+n:Nat):Int)=(((pre++t)++List.replicate n 32).length:Int)by simp only[List.length_append,List.length_replicate],ih,List.append_assoc,HF,if_neg ht]
  congr 2
  rw[hr,yz]
  simp[Nat.add_assoc]
theorem Nk {ls:List (List UInt8)} (ho:ve ls none) (hne:ls=[]∨∃ t r,ls=t::r∧t≠[32]) (hl:ls.flatten.length≤65536) (hk:ls.length≤4294967296):es ls.flatten=some (HF 0 ls,0,0):=by
 unfold es
 rw[if_neg (by simp only[decide_eq_true_eq];omega)]
 have h0:iQ ls.flatten=some ((0:Nat):Int):=by
  have:=GJ (n:=0) (r:=ls.flatten) (Bs ho hne) (by simp only[List.replicate_zero,List.nil_append];omega)
  simpa using this
 rw[h0,Option.bind_some]
 have:=GA ls.length ls [] ls.flatten [] fu (Nat.le_refl _) ho hne rfl hl (by simp) (by unfold fu;omega)
 simpa using this
end Go.Proofs.YtmhoikfoogemnaaGreatDoor
