import Derived.Lib.ItoaNum
import Derived.Test.YtmhoikfoogemnaaGreatDoorJFs
namespace Go.Proofs.YtmhoikfoogemnaaGreatDoor.Z01
open Go Go.RowKit Go.Vc
set_option linter.unusedVariables false
set_option linter.unusedSimpArgs false
theorem Dn (M:Nat) (hM:M=18446744073709551615):∀ (s:List UInt8) (acc:Nat),s.all oJ=true→(acc+1) * 10 ^ s.length≤18446744073709551616→Lib.parseUintM M acc s= .ok (iH acc s)
  | [],acc,_,_=>rfl
  | c::s,acc,hd,hb=>by
    simp only[List.all_cons,Bool.and_eq_true]at hd
    have hc:=hd.1
    simp only[oJ,Bool.and_eq_true,decide_eq_true_eq]at hc
    have hp:(acc+1) * 10 ^ (c::s).length=(acc+1) * 10 * 10 ^ s.length:=by rw[List.length_cons,Nat.pow_succ,Nat.mul_comm (10 ^ s.length) 10, ← Nat.mul_assoc]
    rw[hp]at hb
    have h1:1≤10 ^ s.length:=Nat.one_le_pow _ _ (by omega)
    have h2:(acc+1) * 10≤(acc+1) * 10 * 10 ^ s.length:=Nat.le_mul_of_pos_right _ h1
    unfold Lib.parseUintM
    rw[if_pos hc,if_neg (by omega),if_neg (by omega),kE,show acc * 10+(c.toNat - 48)=10 * acc+(c.toNat - 48)by omega]
    refine Dn M hM s _ hd.2 (Nat.le_trans (Nat.mul_le_mul_right _ ?_) hb)
    omega
theorem AQ (c:UInt8) (h:oJ c=true):¬ (c.toNat=43∨c.toNat=45):=by
  simp only[oJ,Bool.and_eq_true,decide_eq_true_eq]at h;omega
theorem FO (s:List UInt8) (h0:s≠[]) (hd:s.all oJ=true) (hl:s.length≤10):Lib.parseIntB 64 s= .ok (bL s:Int):=by
  have hv:=DP s 0 hd
  have hp:10 ^ s.length≤10 ^ 10:=Nat.pow_le_pow_right (by omega) hl
  have hu:Lib.parseUintB 64 s= .ok (bL s):=by
    unfold Lib.parseUintB
    rw[if_neg h0]
    exact Dn _ rfl s 0 hd (by omega)
  unfold Lib.parseIntB
  cases s with
  | nil=>exact absurd rfl h0
  | cons c r=>
    simp only[List.all_cons,Bool.and_eq_true]at hd
    have hc:=AQ c hd.1
    simp only[hc,if_false]
    rw[hu]
    have h45:¬ c.toNat=45:=fun h=>hc (.inr h)
    have hlt:bL (c::r)<2 ^ 63:=by unfold bL;omega
    simp only[h45,not_false_eq_true,true_and,false_and,if_false]
    rw[if_neg (by omega)]
theorem m3 {s:List UInt8} (h:mE s=true):s.all oJ=true∧s≠[]∧(s=[48]∨s.head?≠some 48):=by
  unfold mE at h
  simp only[Bool.and_eq_true,Bool.or_eq_true,decide_eq_true_eq,Bool.not_eq_true',decide_eq_false_iff_not]at h
  refine⟨h.1,?_,?_⟩
  · rcases h.2 with h | h
    · rw[h];simp
    · exact h.1
  · exact h.2.imp id (·.2)
theorem DQ {s:List UInt8} (h:mE s=true) (hl:10<s.length):2147483647<bL s:=by
  obtain⟨h1,h2,h3⟩:=m3 h
  cases s with
  | nil=>simp at hl
  | cons c r=>
    rcases h3 with h3 | h3
    · rw[h3]at hl;simp at hl
    · simp only[List.all_cons,Bool.and_eq_true]at h1
      have hc:=h1.1
      simp only[oJ,Bool.and_eq_true,decide_eq_true_eq]at hc
      have hne:c.toNat≠48:=fun e=>h3 (by rw[List.head?_cons];congr 1;exact UInt8.toNat_inj.1 (by simpa using e))
      unfold bL
      rw[kE]
      have hb:=tz r (10 * 0+(c.toNat - 48))
      have hp:10 ^ 10≤10 ^ r.length:=Nat.pow_le_pow_right (by omega) (by simp at hl;omega)
      have:1 * 10 ^ r.length≤(10 * 0+(c.toNat - 48)) * 10 ^ r.length:=Nat.mul_le_mul_right _ (by omega)
      omega
theorem sy {s:List UInt8} (h:mE s=true):∃ n,j3 s=some (n,decide (bL s≤2147483647))∧(bL s≤2147483647→n=bL s):=by
  obtain⟨h1,h2,h3⟩:=m3 h
  unfold j3
  by_cases hl:10<s.length
  · have:=DQ h hl
    rw[if_pos (by simp<;>omega)]
    exact⟨0,by rw[show decide (bL s≤2147483647)=false by simp<;>omega],fun h=>by omega⟩
  · rw[if_neg (by simp<;>omega)]
    unfold kz
    rw[if_pos ⟨rfl,rfl,by omega⟩,FO s h2 h1 (by omega)]
    refine⟨bL s,?_,fun _=>rfl⟩
    simp only[Option.bind_some]
    congr 3
    apply propext
    omega
theorem n6 (s:List UInt8) (hl:s.length≤4294967296):∀ (f:Nat) (n:Nat) (i:Int),0≤i→i≤(s.length:Int)→s.length - i.toNat<f→n≤2147483647→(s.drop i.toNat).all oJ=true→
    ci s f n i=if iH n (s.drop i.toNat)≤2147483647 then eS s (iH n (s.drop i.toNat):Nat)else some (0,false)
  | 0,_,_,_,_,h,_,_=>absurd h (by omega)
  | f+1,n,i,h0,h1,hf,hn,hd=>by
    unfold ci iJ
    by_cases h:i<(s.length:Int)
    · have ih:=n6 s hl f
      rw[ia h0 h]
      rw[oX h0 h]at hd ⊢
      revert hd
      generalize (s[i.toNat]'(by omega))=c
      intro hd
      simp only[List.all_cons,Bool.and_eq_true]at hd
      have hc:=hd.1
      simp only[oJ,Bool.and_eq_true,decide_eq_true_eq]at hc
      have h45:decide (((c.toNat:Nat):Int)=45)=false:=by simp<;>omega
      simp only[h,h45,decide_true,if_true,Option.bind_some,Bool.false_eq_true,if_false]
      have e1:Ef ((c.toNat:Int) - 48)=(c.toNat:Int) - 48:=by
        simp only[Ef,IntKind.wrap,IntKind.signed,IntKind.bits]
        have:=c.toNat_lt
        simp<;>omega
      rw[e1,wi (p:=(n:Int) * 10) ⟨by omega,by omega⟩,wi (p:=(c.toNat:Int) - 48) ⟨by omega,by omega⟩,wi (p:=(n:Int) * 10+((c.toNat:Int) - 48)) ⟨by omega,by omega⟩,wi (p:=i+1) ⟨by omega,by omega⟩]
      have e2:(n:Int) * 10+((c.toNat:Int) - 48)=((10 * n+(c.toNat - 48):Nat):Int):=by omega
      rw[e2,kE]
      by_cases hb:10 * n+(c.toNat - 48)≤2147483647
      · rw[if_neg (by simp<;>omega)]
        exact ih (10 * n+(c.toNat - 48)) (i+1) (by omega) (by omega) (by omega) hb hd.2
      · have:=zO (s.drop (i+1).toNat) (10 * n+(c.toNat - 48))
        rw[if_pos (by simp<;>omega),if_neg (by omega)]
    · have e:s.drop i.toNat=[]:=List.drop_eq_nil_of_le (by omega)
      simp[h,e,iH,hn]
theorem uY {s:List UInt8} (hd:s.all oJ=true) (n:Int):eS s n=some (n,true):=by
  unfold eS
  cases s with
  | nil=>rfl
  | cons c r=>
    simp only[List.all_cons,Bool.and_eq_true]at hd
    have hc:=AQ c hd.1
    have hlt:(0:Int)<((c::r).length:Int):=by simp<;>omega
    rw[ia (by omega) hlt]
    simp only[hlt,decide_true,gd,if_true,Option.bind_some,Bool.true_and,Int.toNat_zero,List.getElem_cons_zero]
    rw[if_neg (by simp<;>omega)]
theorem po {s:List UInt8} (hl:s.length≤4294967296) (hd:s.all oJ=true):gL s=some (if bL s≤2147483647 then((bL s:Int),true)else(0,false)):=by
  unfold gL
  have:=n6 s hl fu 0 0 (by omega) (by omega) (by unfold fu;omega) (by omega) (by simpa using hd)
  rw[show((0:Nat):Int)=0 from rfl]at this
  rw[this]
  simp only[Int.toNat_zero,List.drop_zero]
  show(if bL s≤2147483647 then eS s (bL s:Nat)else some (0,false))=_
  split
  · rw[uY hd]
  · rfl
theorem un {t:List UInt8} (hl:(45::t).length≤4294967296) (hd:t.all oJ=true):gL (45::t)=some (if bL t≤2147483647 then(-(bL t:Int),true)else(0,false)):=by
  unfold gL
  have h0:(0:Int)<((45::t).length:Int):=by simp<;>omega
  have e:ci (45::t) fu 0 0=ci (45::t) (fu - 1) 0 1:=by
    show ci (45::t) (18446744073709551615+1) 0 0=ci (45::t) 18446744073709551615 0 1
    rw[ci,ia (by omega) h0]
    simp only[h0,decide_true,if_true,Option.bind_some,Int.toNat_zero,List.getElem_cons_zero,show decide ((((45:UInt8).toNat:Nat):Int)=45)=true from rfl]
    unfold iJ
    rw[wi ⟨by omega,by omega⟩]
    rfl
  rw[e]
  have:=n6 (45::t) hl (fu - 1) 0 1 (by omega) (by simp<;>omega) (by unfold fu;omega) (by omega) (by simpa using hd)
  rw[show((0:Nat):Int)=0 from rfl]at this
  rw[this]
  simp only[show(1:Int).toNat=1 from rfl,List.drop_one,List.tail_cons]
  show(if bL t≤2147483647 then eS (45::t) (bL t:Nat)else some (0,false))=_
  split
  · unfold eS
    rw[ia (by omega) h0]
    simp only[h0,decide_true,gd,if_true,Option.bind_some,Bool.true_and,Int.toNat_zero,List.getElem_cons_zero,show decide ((((45:UInt8).toNat:Nat):Int)=45)=true from rfl]
    rw[wi ⟨by omega,by omega⟩]
  · rfl
def jn (neg:Bool) (d b:List UInt8):GVal×Int:=
  if bL d≤2147483647∧bL b≤2147483647 then
    if oL ⟨if neg then -(bL d:Int)else bL d,bL b⟩then(⟨if neg then -(bL d:Int)else bL d,bL b⟩,0)else(⟨0,0⟩,5)
  else(⟨0,0⟩,3)
def nF (top:List UInt8) (bot:Option (List UInt8)):GVal×Int:=
  if kX top then
    match bot with
    | none=>jn (aS top).1 (aS top).2 [49]
    | some b=>if mE b&& !decide (b=[48])&& !decide (b=[49])then jn (aS top).1 (aS top).2 b else(⟨0,0⟩,5)
  else(⟨0,0⟩,5)
def lk:List UInt8→Option Nat
  | []=>none
  | c::r=>if c=47 then some 0 else(lk r).map (· +1)
def parseS (s:List UInt8):GVal×Int:=match lk s with
  | none=>nF s none
  | some i=>nF (s.take i) (some (s.drop (i+1)))
theorem qX {s:List UInt8} {i:Nat} (h:lk s=some i):i<s.length:=by
  induction s generalizing i with
  | nil=>cases h
  | cons c r ih=>
    unfold lk at h
    split at h
    · injection h with h;subst h;simp
    · obtain⟨j,hj,rfl⟩:=Option.map_eq_some_iff.1 h
      have:=ih hj
      simp<;>omega
theorem x9 (s:List UInt8):Lib.indexByte s 47=match lk s with | none=> -1 | some i=>(i:Int):=by
  induction s with
  | nil=>rfl
  | cons c r ih=>
    unfold Lib.indexByte lk
    by_cases h:c=47
    · simp[h]
    · have:(c==47)=false:=by simpa using h
      simp only[this,Bool.false_eq_true,if_false,h,ih]
      cases lk r with
      | none=>rfl
      | some i=>simp<;>omega
theorem El {s:List UInt8} (hl:s.length≤4294967296):mc s [47]=some (match lk s with | none=>(s,[],false) | some i=>(s.take i,s.drop (i+1),true)):=by
  unfold mc gi fB
  simp only[Option.bind_some,x9]
  cases h:lk s with
  | none=>simp
  | some i=>
    have hi:=qX h
    have e:aq ((i:Int)+(([47]:List UInt8).length:Int))=(i:Int)+1:=wi ⟨by simp<;>omega,by simp<;>omega⟩
    rw[e]
    have h1:oV s (i:Int)=some (s.take i):=by unfold oV;rw[if_pos ⟨by omega,by omega⟩];simp
    have h2:jH s ((i:Int)+1)=some (s.drop (i+1)):=by unfold jH;rw[if_pos ⟨by omega,by omega⟩];rfl
    simp[h1,h2]
theorem rv {s:List UInt8} (hl:s.length≤4294967296):il s [45]=some ((aS s).2,(aS s).1):=by
  unfold il es ep
  cases s with
  | nil=>rfl
  | cons c r=>
    have h1:oV (c::r) (([45]:List UInt8).length:Int)=some [c]:=by unfold oV;rw[if_pos ⟨by simp,by simp<;>omega⟩];rfl
    have h2:jH (c::r) (([45]:List UInt8).length:Int)=some r:=by unfold jH;rw[if_pos ⟨by simp,by simp<;>omega⟩];rfl
    have h3:(([45]:List UInt8).length:Int)≤((c::r).length:Int):=by simp<;>omega
    simp only[h1,h2,h3,decide_true,gd,if_true,Option.bind_some,Bool.true_and]
    by_cases hc:c=45
    · subst hc;rfl
    · have:decide ([c]=([45]:List UInt8))=false:=by simpa using hc
      simp only[this,Bool.not_false,if_true,Option.bind_some]
      unfold aS
      split
      · rename_i h;simp at h;exact absurd h.1 hc
      · rfl
theorem qB {neg:Bool} {d b:List UInt8} (hd:mE d=true) (hb:mE b=true):je (d,neg) b=some (jn neg d b):=by
  obtain⟨n,h1,h2⟩:=sy hd
  obtain⟨k,h3,h4⟩:=sy hb
  unfold je kL jn
  simp only[h1,h3,Option.bind_some]
  by_cases c1:bL d≤2147483647
  · by_cases c2:bL b≤2147483647
    · rw[h2 c1,h4 c2]
      simp only[c1,c2,decide_true,Bool.not_true,Bool.or_self,Bool.false_eq_true,if_false,and_self,if_true]
      rw[wi (p:= -((bL d:Nat):Int)) ⟨by omega,by omega⟩]
      cases neg
      · simp only[Bool.false_eq_true,if_false]
        rw[rU ⟨⟨by simp<;>omega,by simp<;>omega⟩,⟨by simp<;>omega,by simp<;>omega⟩⟩]
        cases oL ⟨(bL d:Int),(bL b:Int)⟩<;>simp
      · simp only[if_true]
        rw[rU ⟨⟨by simp<;>omega,by simp<;>omega⟩,⟨by simp<;>omega,by simp<;>omega⟩⟩]
        cases oL ⟨-(bL d:Int),(bL b:Int)⟩<;>simp
    · simp[c1,c2]
  · simp[c1]
theorem AM {s:List UInt8} (hl:s.length≤4294967296):mT s=some (parseS s):=by
  unfold mT parseS
  rw[El hl]
  simp only[Option.bind_some]
  cases h:lk s with
  | none=>
    simp only[rv hl,Option.bind_some]
    have hl2:(aS s).2.length≤4294967296:=by unfold aS;split<;>simp_all;omega
    rw[pS _ hl2]
    unfold nF kX
    simp only[Option.bind_some]
    cases hd:mE (aS s).2
    · simp
    · cases hn:(aS s).1&&decide ((aS s).2=[48])
      · simp[hn,qB hd (show mE [49]=true from rfl)]
      · simp[hn]
  | some i=>
    have hi:=qX h
    have hl1:(s.take i).length≤4294967296:=by rw[List.length_take];omega
    have hl3:(s.drop (i+1)).length≤4294967296:=by rw[List.length_drop];omega
    simp only[rv hl1,Option.bind_some]
    have hl2:(aS (s.take i)).2.length≤4294967296:=by
      have:(aS (s.take i)).2.length≤(s.take i).length:=by unfold aS;split<;>simp_all
      omega
    rw[pS _ hl2]
    unfold nF kX
    simp only[Option.bind_some]
    obtain⟨b,hb0⟩:∃ b,s.drop (i+1)=b:=⟨_,rfl⟩
    simp only[hb0]at hl3 ⊢
    cases hd:mE (aS (s.take i)).2
    · simp
    · cases hn:(aS (s.take i)).1&&decide ((aS (s.take i)).2=[48])
      · simp only[hn,Bool.not_true,Bool.or_self,Bool.false_eq_true,if_false,Bool.not_false,Bool.and_self,if_true,pS _ hl3,Option.bind_some]
        cases hb:mE b
        · simp
        · cases h8:decide (b=[48])
          · cases h9:decide (b=[49])
            · simp[qB hd hb]
            · simp
          · simp
      · simp[hn]
theorem An {n:Int} (h:kh n):jq n=some (if n<0 then -n else n):=by
  obtain⟨h1,h2⟩:=h
  unfold jq
  by_cases hn:n<0
  · simp only[hn,decide_true,if_true]
    rw[wi (p:=n+1) ⟨by omega,by omega⟩,wi (p:= -(n+1)) ⟨by omega,by omega⟩,wu (p:= -(n+1)) ⟨by omega,by omega⟩,wu ⟨by omega,by omega⟩]
    congr 1;omega
  · simp only[hn,decide_false,Bool.false_eq_true,if_false]
    rw[wu ⟨by omega,by omega⟩]
theorem vU {b:List UInt8} (hb:mE b=true) (h:b≠[48]):1≤bL b:=by
  obtain⟨h1,h2,h3⟩:=m3 hb
  cases b with
  | nil=>exact absurd rfl h2
  | cons c r=>
    have h3:=h3.resolve_left h
    simp only[List.all_cons,Bool.and_eq_true]at h1
    have hc:=h1.1
    simp only[oJ,Bool.and_eq_true,decide_eq_true_eq]at hc
    have hne:c.toNat≠48:=fun e=>h3 (by rw[List.head?_cons];congr 1;exact UInt8.toNat_inj.1 (by simpa using e))
    have:=zO r (10 * 0+(c.toNat - 48))
    unfold bL;rw[kE];omega
theorem qh {top b:List UInt8} (hl:top.length≤4294967296) (hl2:b.length≤4294967296) (hw:kX top=true) (hb:mE b=true) (h8:b≠[48]):iM top b=some (jn (aS top).1 (aS top).2 b):=by
  have hwd:mE (aS top).2=true:=by unfold kX at hw;simp only[Bool.and_eq_true]at hw;exact hw.1
  have hv:gL top=some (if bL (aS top).2≤2147483647 then(if(aS top).1 then -(bL (aS top).2:Int)else bL (aS top).2,true)else(0,false)):=by
    have hdg:=(m3 hwd).1
    unfold aS at hdg ⊢
    split at hdg
    · rename_i t
      rw[un hl hdg]
      simp
    · rw[po hl hdg]
      split<;>simp_all
  have hp:=vU hb h8
  unfold iM jn
  rw[hv,po hl2 (m3 hb).1]
  generalize (aS top).1=neg
  generalize bL (aS top).2=p
  by_cases c1:p≤2147483647
  · by_cases c2:bL b≤2147483647
    · simp only[c1,c2,if_true,Option.bind_some,Bool.not_true,Bool.or_self,Bool.false_eq_true,if_false,and_self]
      rw[An (n:=if neg=true then -(p:Int)else p) (by cases neg<;>exact⟨by simp<;>omega,by simp<;>omega⟩),An (n:=(bL b:Int)) ⟨by omega,by omega⟩]
      simp only[Option.bind_some]
      rw[BR (by split<;>omega) (by split<;>omega) (by split<;>omega),Option.bind_some]
      have e1:(if((bL b:Nat):Int)<0 then -((bL b:Nat):Int)else(bL b:Nat))=(bL b:Int):=by rw[if_neg (by omega)]
      rw[e1,yK]
      have e2:oL ⟨if neg=true then -(p:Int)else p,bL b⟩=decide (((Int.gcd (if neg=true then -(p:Int)else p) (bL b):Nat):Int)=1):=by
        unfold oL
        congr 1
        apply propext
        constructor
        · intro h;have:=h.2.2.2.2;simp only at this;omega
        · intro h;refine⟨by simp<;>omega,by simp<;>omega,?_,?_,?_⟩
          · cases neg<;>simp<;>omega
          · cases neg<;>simp<;>omega
          · simp only;omega
      rw[e2]
      cases decide (((Int.gcd (if neg=true then -(p:Int)else p) (bL b):Nat):Int)=1)<;>simp
    · simp[c1,c2]
  · simp[c1]
theorem qw {top:List UInt8} {down:List UInt8} (hl:top.length≤4294967296) (hl2:down.length≤4294967296) (hd:down=[]∨(mE down=true∧down≠[48])):jY top down=some (if kX top then jn (aS top).1 (aS top).2 (if down=[]then[49]else down)else(⟨0,0⟩,5)):=by
  unfold jY
  rw[tT _ hl]
  cases hw:kX top
  · rfl
  · simp only[Option.bind_some,Bool.not_true,Bool.false_eq_true,if_false,if_true]
    by_cases h:down=[]
    · simp only[h,decide_true,if_true]
      exact qh hl (by simp) hw rfl (by decide)
    · simp only[h,decide_false,Bool.false_eq_true,if_false]
      obtain⟨h1,h2⟩:=hd.resolve_left h
      exact qh hl hl2 hw h1 h2
theorem zb (s:List UInt8) (i:Nat) (h:∀ j<i,s[j]? ≠some 47):lk s=(lk (s.drop i)).map (· +i):=by
  induction i generalizing s with
  | zero=>simp
  | succ i ih=>
    cases s with
    | nil=>rfl
    | cons c r=>
      have hc:c≠47:=fun e=>h 0 (by omega) (by simp[e])
      rw[lk,if_neg hc,ih r (fun j hj=>by have:=h (j+1) (by omega);simpa using this),List.drop_succ_cons]
      cases lk (r.drop i)<;>simp<;>omega
theorem qg (s:List UInt8) (hl:s.length≤4294967296):∀ (f:Nat) (i:Int),0≤i→i≤(s.length:Int)→s.length - i.toNat<f→(∀ j<i.toNat,s[j]? ≠some 47)→dr s (f+1) s [] i=some (parseS s)
  | f,i,h0,h1,hf,hno=>by
    have hst:=zb s i.toNat hno
    rw[dr]
    by_cases h:i<(s.length:Int)
    · simp only[h,decide_true,Bool.and_self,if_true]
      rw[ia h0 h]
      rw[oX h0 h]at hst
      have hget:s[i.toNat]? =some (s[i.toNat]'(by omega)):=by simp
      revert hst hget
      generalize (s[i.toNat]'(by omega))=c
      intro hst hget
      simp only[Option.bind_some]
      by_cases hc:c=47
      · subst hc
        have hs:lk s=some i.toNat:=by rw[hst];simp[lk]
        have e1:oV s i=some (s.take i.toNat):=by unfold oV;rw[if_pos ⟨by omega,by omega⟩]
        have e2:jH s (aq (i+1))=some (s.drop (i.toNat+1)):=by
          rw[wi ⟨by omega,by omega⟩];unfold jH;rw[if_pos ⟨by omega,by omega⟩];congr 2;omega
        rw[e1,e2]
        unfold parseS
        rw[hs]
        simp only[show decide ((((47:UInt8).toNat:Nat):Int)=47)=true from rfl,if_true,Option.bind_some]
        have hl3:(s.drop (i.toNat+1)).length≤4294967296:=by rw[List.length_drop];omega
        have hl4:(s.take i.toNat).length≤4294967296:=by rw[List.length_take];omega
        generalize s.drop (i.toNat+1)=b at hl3
        generalize s.take i.toNat=t at hl4
        rw[tT b hl3]
        simp only[Option.bind_some]
        unfold nF
        by_cases hb:mE b=true
        · have hdg:=m3 hb
          have hsp:=sF hdg.1
          have hw:kX b=true:=by unfold kX;rw[hsp];simp[hb]
          have hlen:(0:Int)<(b.length:Int):=by have:=AH hdg.2.1;omega
          have h45:decide ((((b[(0:Int).toNat]'(by simpa using AH hdg.2.1)).toNat:Nat):Int)=45)=false:=by
            cases b with
            | nil=>exact absurd rfl hdg.2.1
            | cons c r=>
              have:=hdg.1
              simp only[List.all_cons,Bool.and_eq_true]at this
              have:=AQ c this.1
              simp<;>omega
          rw[hw,ia (by omega) hlen]
          simp only[Bool.not_true,Bool.not_false,gd,if_true,Option.bind_some,h45,Bool.or_self,Bool.false_or,hb,Bool.true_and]
          by_cases h8:b=[48]
          · subst h8;simp
          · by_cases h9:b=[49]
            · subst h9;simp
            · simp only[h8,h9,decide_false,Bool.or_self,Bool.false_eq_true,if_false,Bool.not_false,Bool.and_self,if_true]
              unfold iL
              rw[wi ⟨by omega,by omega⟩]
              obtain⟨f',rfl⟩:∃ f',f=f'+1:=⟨f - 1,by omega⟩
              rw[dr]
              have hne:b≠[]:=hdg.2.1
              rw[if_neg (by simp[hne])]
              rw[qw hl4 hl3 (.inr ⟨hb,h8⟩),if_neg hne]
        · have hb':mE b=false:=by simpa using hb
          have e3:(if kX t=true then(if(mE b&& !decide (b=[48])&& !decide (b=[49]))=true then jn (aS t).1 (aS t).2 b else(⟨0,0⟩,5))else((⟨0,0⟩,5):GVal×Int))=(⟨0,0⟩,5):=by
            rw[hb'];simp
          show _ =some (if kX t=true then(if(mE b&& !decide (b=[48])&& !decide (b=[49]))=true then jn (aS t).1 (aS t).2 b else(⟨0,0⟩,5))else((⟨0,0⟩,5):GVal×Int))
          rw[e3]
          cases hw:kX b
          · simp[gd]
          ·
            have hsg:∃ t,b=45::t:=by
              unfold kX aS at hw
              split at hw
              · exact⟨_,rfl⟩
              · simp[hb']at hw
            obtain⟨t',rfl⟩:=hsg
            have hlen:(0:Int)<((45::t').length:Int):=by simp<;>omega
            rw[ia (by omega) hlen]
            simp[gd]
      · have hcn:decide (((c.toNat:Nat):Int)=47)=false:=by
          simp only[decide_eq_false_iff_not]
          intro h;exact hc (UInt8.toNat_inj.1 (by have:c.toNat=47:=by omega
                                                  simpa using this))
        simp only[hcn,Bool.false_eq_true,if_false]
        unfold iL
        rw[wi ⟨by omega,by omega⟩]
        obtain⟨f',rfl⟩:∃ f',f=f'+1:=⟨f - 1,by omega⟩
        refine qg s hl f' (i+1) (by omega) (by omega) (by omega) fun j hj=> ?_
        rcases Nat.lt_or_ge j i.toNat with h2 | h2
        · exact hno j h2
        · have:j=i.toNat:=by omega
          subst this
          rw[hget];simpa using hc
    · have e:s.drop i.toNat=[]:=List.drop_eq_nil_of_le (by omega)
      rw[e]at hst
      simp only[h,decide_false,Bool.false_and,Bool.false_eq_true,if_false]
      rw[qw hl (by simp) (.inl rfl)]
      unfold parseS
      rw[hst]
      rfl
theorem zm {s:List UInt8} (hl:s.length≤4294967296):mm s=some (parseS s):=by
  unfold mm
  show dr s (18446744073709551615+1) s [] 0=_
  exact qg s hl _ 0 (by omega) (by omega) (by omega) (fun j hj=>by simp at hj)
end Go.Proofs.YtmhoikfoogemnaaGreatDoor.Z01
