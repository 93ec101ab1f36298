import Derived.Lib.ItoaNum
import Derived.Test.YtmhoikfoogemnaaGreatDoorKFs
namespace Go.Proofs.YtmhoikfoogemnaaGreatDoor.Z01
open Go Go.RowKit Go.Vc
set_option linter.unusedVariables false
set_option linter.unusedSimpArgs false
theorem DZ (M:Nat) (hM:M=18446744073709551615):∀ (s:List UInt8) (acc:Nat),s.all oW=true→(acc+1) * 10 ^ s.length≤18446744073709551616→Lib.parseUintM M acc s= .ok (i8 acc s)
  | [],acc,_,_=>rfl
  | c::s,acc,hd,hb=>by
    simp only[List.all_cons,Bool.and_eq_true]at hd
    have hc:=hd.1
    simp only[oW,Bool.and_eq_true,decide_eq_true_eq]at hc
    have hp:(acc+1) * 10 ^ (c::s).length=(acc+1) * 10 * 10 ^ s.length:=by rw[List.length_cons,Nat.pow_succ,Nat.mul_comm (10 ^ s.length) 10, ← Nat.mul_assoc]
    rw[hp]at hb
    have h1:1≤10 ^ s.length:=Nat.one_le_pow _ _ (by omega)
    have h2:(acc+1) * 10≤(acc+1) * 10 * 10 ^ s.length:=Nat.le_mul_of_pos_right _ h1
    unfold Lib.parseUintM
    rw[if_pos hc,if_neg (by omega),if_neg (by omega),kP,show acc * 10+(c.toNat - 48)=10 * acc+(c.toNat - 48)by omega]
    refine DZ M hM s _ hd.2 (Nat.le_trans (Nat.mul_le_mul_right _ ?_) hb)
    omega
theorem Bp (c:UInt8) (h:oW c=true):¬ (c.toNat=43∨c.toNat=45):=by
  simp only[oW,Bool.and_eq_true,decide_eq_true_eq]at h;omega
theorem GF (s:List UInt8) (h0:s≠[]) (hd:s.all oW=true) (hl:s.length≤10):Lib.parseIntB 64 s= .ok (bN s:Int):=by
  have hv:=Eu s 0 hd
  have hp:10 ^ s.length≤10 ^ 10:=Nat.pow_le_pow_right (by omega) hl
  have hu:Lib.parseUintB 64 s= .ok (bN s):=by
    unfold Lib.parseUintB
    rw[if_neg h0]
    exact DZ _ rfl s 0 hd (by omega)
  unfold Lib.parseIntB
  cases s with
  | nil=>exact absurd rfl h0
  | cons c r=>
    simp only[List.all_cons,Bool.and_eq_true]at hd
    have hc:=Bp c hd.1
    simp only[hc,if_false]
    rw[hu]
    have h45:¬ c.toNat=45:=fun h=>hc (.inr h)
    have hlt:bN (c::r)<2 ^ 63:=by unfold bN;omega
    simp only[h45,not_false_eq_true,true_and,false_and,if_false]
    rw[if_neg (by omega)]
theorem nv {s:List UInt8} (h:mW s=true):s.all oW=true∧s≠[]∧(s=[48]∨s.head?≠some 48):=by
  unfold mW at h
  simp only[Bool.and_eq_true,Bool.or_eq_true,decide_eq_true_eq,Bool.not_eq_true',decide_eq_false_iff_not]at h
  refine⟨h.1,?_,?_⟩
  · rcases h.2 with h | h
    · rw[h];simp
    · exact h.1
  · exact h.2.imp id (·.2)
theorem Ew {s:List UInt8} (h:mW s=true) (hl:10<s.length):2147483647<bN s:=by
  obtain⟨h1,h2,h3⟩:=nv h
  cases s with
  | nil=>simp at hl
  | cons c r=>
    rcases h3 with h3 | h3
    · rw[h3]at hl;simp at hl
    · simp only[List.all_cons,Bool.and_eq_true]at h1
      have hc:=h1.1
      simp only[oW,Bool.and_eq_true,decide_eq_true_eq]at hc
      have hne:c.toNat≠48:=fun e=>h3 (by rw[List.head?_cons];congr 1;exact UInt8.toNat_inj.1 (by simpa using e))
      unfold bN
      rw[kP]
      have hb:=tO r (10 * 0+(c.toNat - 48))
      have hp:10 ^ 10≤10 ^ r.length:=Nat.pow_le_pow_right (by omega) (by simp at hl;omega)
      have:1 * 10 ^ r.length≤(10 * 0+(c.toNat - 48)) * 10 ^ r.length:=Nat.mul_le_mul_right _ (by omega)
      omega
theorem sT {s:List UInt8} (h:mW s=true):∃ n,ko s=some (n,decide (bN s≤2147483647))∧(bN s≤2147483647→n=bN s):=by
  obtain⟨h1,h2,h3⟩:=nv h
  unfold ko
  by_cases hl:10<s.length
  · have:=Ew h hl
    rw[if_pos (by simp<;>omega)]
    exact⟨0,by rw[show decide (bN s≤2147483647)=false by simp<;>omega],fun h=>by omega⟩
  · rw[if_neg (by simp<;>omega)]
    unfold kM
    rw[if_pos ⟨rfl,rfl,by omega⟩,GF s h2 h1 (by omega)]
    refine⟨bN s,?_,fun _=>rfl⟩
    simp only[Option.bind_some]
    congr 3
    apply propext
    omega
theorem ot (s:List UInt8) (hl:s.length≤4294967296):∀ (f:Nat) (n:Nat) (i:Int),0≤i→i≤(s.length:Int)→s.length - i.toNat<f→n≤2147483647→(s.drop i.toNat).all oW=true→
    ck s f n i=if i8 n (s.drop i.toNat)≤2147483647 then ff s (i8 n (s.drop i.toNat):Nat)else some (0,false)
  | 0,_,_,_,_,h,_,_=>absurd h (by omega)
  | f+1,n,i,h0,h1,hf,hn,hd=>by
    unfold ck jc
    by_cases h:i<(s.length:Int)
    · have ih:=ot s hl f
      rw[fD h0 h]
      rw[pf h0 h]at hd ⊢
      revert hd
      generalize (s[i.toNat]'(by omega))=c
      intro hd
      simp only[List.all_cons,Bool.and_eq_true]at hd
      have hc:=hd.1
      simp only[oW,Bool.and_eq_true,decide_eq_true_eq]at hc
      have h45:decide (((c.toNat:Nat):Int)=45)=false:=by simp<;>omega
      simp only[h,h45,decide_true,if_true,Option.bind_some,Bool.false_eq_true,if_false]
      have e1:E0 ((c.toNat:Int) - 48)=(c.toNat:Int) - 48:=by
        simp only[E0,IntKind.wrap,IntKind.signed,IntKind.bits]
        have:=c.toNat_lt
        simp<;>omega
      rw[e1,wi (p:=(n:Int) * 10) ⟨by omega,by omega⟩,wi (p:=(c.toNat:Int) - 48) ⟨by omega,by omega⟩,wi (p:=(n:Int) * 10+((c.toNat:Int) - 48)) ⟨by omega,by omega⟩,wi (p:=i+1) ⟨by omega,by omega⟩]
      have e2:(n:Int) * 10+((c.toNat:Int) - 48)=((10 * n+(c.toNat - 48):Nat):Int):=by omega
      rw[e2,kP]
      by_cases hb:10 * n+(c.toNat - 48)≤2147483647
      · rw[if_neg (by simp<;>omega)]
        exact ih (10 * n+(c.toNat - 48)) (i+1) (by omega) (by omega) (by omega) hb hd.2
      · have:=Ao (s.drop (i+1).toNat) (10 * n+(c.toNat - 48))
        rw[if_pos (by simp<;>omega),if_neg (by omega)]
    · have e:s.drop i.toNat=[]:=List.drop_eq_nil_of_le (by omega)
      simp[h,e,i8,hn]
theorem vt {s:List UInt8} (hd:s.all oW=true) (n:Int):ff s n=some (n,true):=by
  unfold ff
  cases s with
  | nil=>rfl
  | cons c r=>
    simp only[List.all_cons,Bool.and_eq_true]at hd
    have hc:=Bp c hd.1
    have hlt:(0:Int)<((c::r).length:Int):=by simp<;>omega
    rw[fD (by omega) hlt]
    simp only[hlt,decide_true,gd,if_true,Option.bind_some,Bool.true_and,Int.toNat_zero,List.getElem_cons_zero]
    rw[if_neg (by simp<;>omega)]
theorem pA {s:List UInt8} (hl:s.length≤4294967296) (hd:s.all oW=true):hP s=some (if bN s≤2147483647 then((bN s:Int),true)else(0,false)):=by
  unfold hP
  have:=ot s hl fu 0 0 (by omega) (by omega) (by unfold fu;omega) (by omega) (by simpa using hd)
  rw[show((0:Nat):Int)=0 from rfl]at this
  rw[this]
  simp only[Int.toNat_zero,List.drop_zero]
  show(if bN s≤2147483647 then ff s (bN s:Nat)else some (0,false))=_
  split
  · rw[vt hd]
  · rfl
theorem uC {t:List UInt8} (hl:(45::t).length≤4294967296) (hd:t.all oW=true):hP (45::t)=some (if bN t≤2147483647 then(-(bN t:Int),true)else(0,false)):=by
  unfold hP
  have h0:(0:Int)<((45::t).length:Int):=by simp<;>omega
  have e:ck (45::t) fu 0 0=ck (45::t) (fu - 1) 0 1:=by
    show ck (45::t) (18446744073709551615+1) 0 0=ck (45::t) 18446744073709551615 0 1
    rw[ck,fD (by omega) h0]
    simp only[h0,decide_true,if_true,Option.bind_some,Int.toNat_zero,List.getElem_cons_zero,show decide ((((45:UInt8).toNat:Nat):Int)=45)=true from rfl]
    unfold jc
    rw[wi ⟨by omega,by omega⟩]
    rfl
  rw[e]
  have:=ot (45::t) hl (fu - 1) 0 1 (by omega) (by simp<;>omega) (by unfold fu;omega) (by omega) (by simpa using hd)
  rw[show((0:Nat):Int)=0 from rfl]at this
  rw[this]
  simp only[show(1:Int).toNat=1 from rfl,List.drop_one,List.tail_cons]
  show(if bN t≤2147483647 then ff (45::t) (bN t:Nat)else some (0,false))=_
  split
  · unfold ff
    rw[fD (by omega) h0]
    simp only[h0,decide_true,gd,if_true,Option.bind_some,Bool.true_and,Int.toNat_zero,List.getElem_cons_zero,show decide ((((45:UInt8).toNat:Nat):Int)=45)=true from rfl]
    rw[wi ⟨by omega,by omega⟩]
  · rfl
def jL (neg:Bool) (d b:List UInt8):GVal×Int:=
  if bN d≤2147483647∧bN b≤2147483647 then
    if oY ⟨if neg then -(bN d:Int)else bN d,bN b⟩then(⟨if neg then -(bN d:Int)else bN d,bN b⟩,0)else(⟨0,0⟩,5)
  else(⟨0,0⟩,3)
def nV (top:List UInt8) (bot:Option (List UInt8)):GVal×Int:=
  if ld top then
    match bot with
    | none=>jL (aV top).1 (aV top).2 [49]
    | some b=>if mW b&& !decide (b=[48])&& !decide (b=[49])then jL (aV top).1 (aV top).2 b else(⟨0,0⟩,5)
  else(⟨0,0⟩,5)
def lz:List UInt8→Option Nat
  | []=>none
  | c::r=>if c=47 then some 0 else(lz r).map (· +1)
def parseS (s:List UInt8):GVal×Int:=match lz s with
  | none=>nV s none
  | some i=>nV (s.take i) (some (s.drop (i+1)))
theorem ri {s:List UInt8} {i:Nat} (h:lz s=some i):i<s.length:=by
  induction s generalizing i with
  | nil=>cases h
  | cons c r ih=>
    unfold lz at h
    split at h
    · injection h with h;subst h;simp
    · obtain⟨j,hj,rfl⟩:=Option.map_eq_some_iff.1 h
      have:=ih hj
      simp<;>omega
theorem yz (s:List UInt8):Lib.indexByte s 47=match lz s with | none=> -1 | some i=>(i:Int):=by
  induction s with
  | nil=>rfl
  | cons c r ih=>
    unfold Lib.indexByte lz
    by_cases h:c=47
    · simp[h]
    · have:(c==47)=false:=by simpa using h
      simp only[this,Bool.false_eq_true,if_false,h,ih]
      cases lz r with
      | none=>rfl
      | some i=>simp<;>omega
theorem E9 {s:List UInt8} (hl:s.length≤4294967296):mu s [47]=some (match lz s with | none=>(s,[],false) | some i=>(s.take i,s.drop (i+1),true)):=by
  unfold mu gC fP
  simp only[Option.bind_some,yz]
  cases h:lz s with
  | none=>simp
  | some i=>
    have hi:=ri h
    have e:ar ((i:Int)+(([47]:List UInt8).length:Int))=(i:Int)+1:=wi ⟨by simp<;>omega,by simp<;>omega⟩
    rw[e]
    have h1:ox s (i:Int)=some (s.take i):=by unfold ox;rw[if_pos ⟨by omega,by omega⟩];simp
    have h2:i7 s ((i:Int)+1)=some (s.drop (i+1)):=by unfold i7;rw[if_pos ⟨by omega,by omega⟩];rfl
    simp[h1,h2]
theorem rI {s:List UInt8} (hl:s.length≤4294967296):iI s [45]=some ((aV s).2,(aV s).1):=by
  unfold iI eD eC
  cases s with
  | nil=>rfl
  | cons c r=>
    have h1:ox (c::r) (([45]:List UInt8).length:Int)=some [c]:=by unfold ox;rw[if_pos ⟨by simp,by simp<;>omega⟩];rfl
    have h2:i7 (c::r) (([45]:List UInt8).length:Int)=some r:=by unfold i7;rw[if_pos ⟨by simp,by simp<;>omega⟩];rfl
    have h3:(([45]:List UInt8).length:Int)≤((c::r).length:Int):=by simp<;>omega
    simp only[h1,h2,h3,decide_true,gd,if_true,Option.bind_some,Bool.true_and]
    by_cases hc:c=45
    · subst hc;rfl
    · have:decide ([c]=([45]:List UInt8))=false:=by simpa using hc
      simp only[this,Bool.not_false,if_true,Option.bind_some]
      unfold aV
      split
      · rename_i h;simp at h;exact absurd h.1 hc
      · rfl
theorem qL {neg:Bool} {d b:List UInt8} (hd:mW d=true) (hb:mW b=true):jB (d,neg) b=some (jL neg d b):=by
  obtain⟨n,h1,h2⟩:=sT hd
  obtain⟨k,h3,h4⟩:=sT hb
  unfold jB kV jL
  simp only[h1,h3,Option.bind_some]
  by_cases c1:bN d≤2147483647
  · by_cases c2:bN b≤2147483647
    · rw[h2 c1,h4 c2]
      simp only[c1,c2,decide_true,Bool.not_true,Bool.or_self,Bool.false_eq_true,if_false,and_self,if_true]
      rw[wi (p:= -((bN d:Nat):Int)) ⟨by omega,by omega⟩]
      cases neg
      · simp only[Bool.false_eq_true,if_false]
        rw[si ⟨⟨by simp<;>omega,by simp<;>omega⟩,⟨by simp<;>omega,by simp<;>omega⟩⟩]
        cases oY ⟨(bN d:Int),(bN b:Int)⟩<;>simp
      · simp only[if_true]
        rw[si ⟨⟨by simp<;>omega,by simp<;>omega⟩,⟨by simp<;>omega,by simp<;>omega⟩⟩]
        cases oY ⟨-(bN d:Int),(bN b:Int)⟩<;>simp
    · simp[c1,c2]
  · simp[c1]
theorem Bl {s:List UInt8} (hl:s.length≤4294967296):nn s=some (parseS s):=by
  unfold nn parseS
  rw[E9 hl]
  simp only[Option.bind_some]
  cases h:lz s with
  | none=>
    simp only[rI hl,Option.bind_some]
    have hl2:(aV s).2.length≤4294967296:=by unfold aV;split<;>simp_all;omega
    rw[qc _ hl2]
    unfold nV ld
    simp only[Option.bind_some]
    cases hd:mW (aV s).2
    · simp
    · cases hn:(aV s).1&&decide ((aV s).2=[48])
      · simp[hn,qL hd (show mW [49]=true from rfl)]
      · simp[hn]
  | some i=>
    have hi:=ri h
    have hl1:(s.take i).length≤4294967296:=by rw[List.length_take];omega
    have hl3:(s.drop (i+1)).length≤4294967296:=by rw[List.length_drop];omega
    simp only[rI hl1,Option.bind_some]
    have hl2:(aV (s.take i)).2.length≤4294967296:=by
      have:(aV (s.take i)).2.length≤(s.take i).length:=by unfold aV;split<;>simp_all
      omega
    rw[qc _ hl2]
    unfold nV ld
    simp only[Option.bind_some]
    obtain⟨b,hb0⟩:∃ b,s.drop (i+1)=b:=⟨_,rfl⟩
    simp only[hb0]at hl3 ⊢
    cases hd:mW (aV (s.take i)).2
    · simp
    · cases hn:(aV (s.take i)).1&&decide ((aV (s.take i)).2=[48])
      · simp only[hn,Bool.not_true,Bool.or_self,Bool.false_eq_true,if_false,Bool.not_false,Bool.and_self,if_true,qc _ hl3,Option.bind_some]
        cases hb:mW b
        · simp
        · cases h8:decide (b=[48])
          · cases h9:decide (b=[49])
            · simp[qL hd hb]
            · simp
          · simp
      · simp[hn]
theorem AQ {n:Int} (h:kB n):jN n=some (if n<0 then -n else n):=by
  obtain⟨h1,h2⟩:=h
  unfold jN
  by_cases hn:n<0
  · simp only[hn,decide_true,if_true]
    rw[wi (p:=n+1) ⟨by omega,by omega⟩,wi (p:= -(n+1)) ⟨by omega,by omega⟩,wu (p:= -(n+1)) ⟨by omega,by omega⟩,wu ⟨by omega,by omega⟩]
    congr 1;omega
  · simp only[hn,decide_false,Bool.false_eq_true,if_false]
    rw[wu ⟨by omega,by omega⟩]
theorem wq {b:List UInt8} (hb:mW b=true) (h:b≠[48]):1≤bN b:=by
  obtain⟨h1,h2,h3⟩:=nv hb
  cases b with
  | nil=>exact absurd rfl h2
  | cons c r=>
    have h3:=h3.resolve_left h
    simp only[List.all_cons,Bool.and_eq_true]at h1
    have hc:=h1.1
    simp only[oW,Bool.and_eq_true,decide_eq_true_eq]at hc
    have hne:c.toNat≠48:=fun e=>h3 (by rw[List.head?_cons];congr 1;exact UInt8.toNat_inj.1 (by simpa using e))
    have:=Ao r (10 * 0+(c.toNat - 48))
    unfold bN;rw[kP];omega
theorem qt {top b:List UInt8} (hl:top.length≤4294967296) (hl2:b.length≤4294967296) (hw:ld top=true) (hb:mW b=true) (h8:b≠[48]):jf top b=some (jL (aV top).1 (aV top).2 b):=by
  have hwd:mW (aV top).2=true:=by unfold ld at hw;simp only[Bool.and_eq_true]at hw;exact hw.1
  have hv:hP top=some (if bN (aV top).2≤2147483647 then(if(aV top).1 then -(bN (aV top).2:Int)else bN (aV top).2,true)else(0,false)):=by
    have hdg:=(nv hwd).1
    unfold aV at hdg ⊢
    split at hdg
    · rename_i t
      rw[uC hl hdg]
      simp
    · rw[pA hl hdg]
      split<;>simp_all
  have hp:=wq hb h8
  unfold jf jL
  rw[hv,pA hl2 (nv hb).1]
  generalize (aV top).1=neg
  generalize bN (aV top).2=p
  by_cases c1:p≤2147483647
  · by_cases c2:bN b≤2147483647
    · simp only[c1,c2,if_true,Option.bind_some,Bool.not_true,Bool.or_self,Bool.false_eq_true,if_false,and_self]
      rw[AQ (n:=if neg=true then -(p:Int)else p) (by cases neg<;>exact⟨by simp<;>omega,by simp<;>omega⟩),AQ (n:=(bN b:Int)) ⟨by omega,by omega⟩]
      simp only[Option.bind_some]
      rw[Cs (by split<;>omega) (by split<;>omega) (by split<;>omega),Option.bind_some]
      have e1:(if((bN b:Nat):Int)<0 then -((bN b:Nat):Int)else(bN b:Nat))=(bN b:Int):=by rw[if_neg (by omega)]
      rw[e1,zf]
      have e2:oY ⟨if neg=true then -(p:Int)else p,bN b⟩=decide (((Int.gcd (if neg=true then -(p:Int)else p) (bN b):Nat):Int)=1):=by
        unfold oY
        congr 1
        apply propext
        constructor
        · intro h;have:=h.2.2.2.2;simp only at this;omega
        · intro h;refine⟨by simp<;>omega,by simp<;>omega,?_,?_,?_⟩
          · cases neg<;>simp<;>omega
          · cases neg<;>simp<;>omega
          · simp only;omega
      rw[e2]
      cases decide (((Int.gcd (if neg=true then -(p:Int)else p) (bN b):Nat):Int)=1)<;>simp
    · simp[c1,c2]
  · simp[c1]
theorem qH {top:List UInt8} {down:List UInt8} (hl:top.length≤4294967296) (hl2:down.length≤4294967296) (hd:down=[]∨(mW down=true∧down≠[48])):kh top down=some (if ld top then jL (aV top).1 (aV top).2 (if down=[]then[49]else down)else(⟨0,0⟩,5)):=by
  unfold kh
  rw[ug _ hl]
  cases hw:ld top
  · rfl
  · simp only[Option.bind_some,Bool.not_true,Bool.false_eq_true,if_false,if_true]
    by_cases h:down=[]
    · simp only[h,decide_true,if_true]
      exact qt hl (by simp) hw rfl (by decide)
    · simp only[h,decide_false,Bool.false_eq_true,if_false]
      obtain⟨h1,h2⟩:=hd.resolve_left h
      exact qt hl hl2 hw h1 h2
theorem zC (s:List UInt8) (i:Nat) (h:∀ j<i,s[j]? ≠some 47):lz s=(lz (s.drop i)).map (· +i):=by
  induction i generalizing s with
  | zero=>simp
  | succ i ih=>
    cases s with
    | nil=>rfl
    | cons c r=>
      have hc:c≠47:=fun e=>h 0 (by omega) (by simp[e])
      rw[lz,if_neg hc,ih r (fun j hj=>by have:=h (j+1) (by omega);simpa using this),List.drop_succ_cons]
      cases lz (r.drop i)<;>simp<;>omega
theorem qs (s:List UInt8) (hl:s.length≤4294967296):∀ (f:Nat) (i:Int),0≤i→i≤(s.length:Int)→s.length - i.toNat<f→(∀ j<i.toNat,s[j]? ≠some 47)→dx s (f+1) s [] i=some (parseS s)
  | f,i,h0,h1,hf,hno=>by
    have hst:=zC s i.toNat hno
    rw[dx]
    by_cases h:i<(s.length:Int)
    · simp only[h,decide_true,Bool.and_self,if_true]
      rw[fD h0 h]
      rw[pf h0 h]at hst
      have hget:s[i.toNat]? =some (s[i.toNat]'(by omega)):=by simp
      revert hst hget
      generalize (s[i.toNat]'(by omega))=c
      intro hst hget
      simp only[Option.bind_some]
      by_cases hc:c=47
      · subst hc
        have hs:lz s=some i.toNat:=by rw[hst];simp[lz]
        have e1:ox s i=some (s.take i.toNat):=by unfold ox;rw[if_pos ⟨by omega,by omega⟩]
        have e2:i7 s (ar (i+1))=some (s.drop (i.toNat+1)):=by
          rw[wi ⟨by omega,by omega⟩];unfold i7;rw[if_pos ⟨by omega,by omega⟩];congr 2;omega
        rw[e1,e2]
        unfold parseS
        rw[hs]
        simp only[show decide ((((47:UInt8).toNat:Nat):Int)=47)=true from rfl,if_true,Option.bind_some]
        have hl3:(s.drop (i.toNat+1)).length≤4294967296:=by rw[List.length_drop];omega
        have hl4:(s.take i.toNat).length≤4294967296:=by rw[List.length_take];omega
        generalize s.drop (i.toNat+1)=b at hl3
        generalize s.take i.toNat=t at hl4
        rw[ug b hl3]
        simp only[Option.bind_some]
        unfold nV
        by_cases hb:mW b=true
        · have hdg:=nv hb
          have hsp:=sZ hdg.1
          have hw:ld b=true:=by unfold ld;rw[hsp];simp[hb]
          have hlen:(0:Int)<(b.length:Int):=by have:=Bi hdg.2.1;omega
          have h45:decide ((((b[(0:Int).toNat]'(by simpa using Bi hdg.2.1)).toNat:Nat):Int)=45)=false:=by
            cases b with
            | nil=>exact absurd rfl hdg.2.1
            | cons c r=>
              have:=hdg.1
              simp only[List.all_cons,Bool.and_eq_true]at this
              have:=Bp c this.1
              simp<;>omega
          rw[hw,fD (by omega) hlen]
          simp only[Bool.not_true,Bool.not_false,gd,if_true,Option.bind_some,h45,Bool.or_self,Bool.false_or,hb,Bool.true_and]
          by_cases h8:b=[48]
          · subst h8;simp
          · by_cases h9:b=[49]
            · subst h9;simp
            · simp only[h8,h9,decide_false,Bool.or_self,Bool.false_eq_true,if_false,Bool.not_false,Bool.and_self,if_true]
              unfold je
              rw[wi ⟨by omega,by omega⟩]
              obtain⟨f',rfl⟩:∃ f',f=f'+1:=⟨f - 1,by omega⟩
              rw[dx]
              have hne:b≠[]:=hdg.2.1
              rw[if_neg (by simp[hne])]
              rw[qH hl4 hl3 (.inr ⟨hb,h8⟩),if_neg hne]
        · have hb':mW b=false:=by simpa using hb
          have e3:(if ld t=true then(if(mW b&& !decide (b=[48])&& !decide (b=[49]))=true then jL (aV t).1 (aV t).2 b else(⟨0,0⟩,5))else((⟨0,0⟩,5):GVal×Int))=(⟨0,0⟩,5):=by
            rw[hb'];simp
          show _ =some (if ld t=true then(if(mW b&& !decide (b=[48])&& !decide (b=[49]))=true then jL (aV t).1 (aV t).2 b else(⟨0,0⟩,5))else((⟨0,0⟩,5):GVal×Int))
          rw[e3]
          cases hw:ld b
          · simp[gd]
          ·
            have hsg:∃ t,b=45::t:=by
              unfold ld aV at hw
              split at hw
              · exact⟨_,rfl⟩
              · simp[hb']at hw
            obtain⟨t',rfl⟩:=hsg
            have hlen:(0:Int)<((45::t').length:Int):=by simp<;>omega
            rw[fD (by omega) hlen]
            simp[gd]
      · have hcn:decide (((c.toNat:Nat):Int)=47)=false:=by
          simp only[decide_eq_false_iff_not]
          intro h;exact hc (UInt8.toNat_inj.1 (by have:c.toNat=47:=by omega
                                                  simpa using this))
        simp only[hcn,Bool.false_eq_true,if_false]
        unfold je
        rw[wi ⟨by omega,by omega⟩]
        obtain⟨f',rfl⟩:∃ f',f=f'+1:=⟨f - 1,by omega⟩
        refine qs s hl f' (i+1) (by omega) (by omega) (by omega) fun j hj=> ?_
        rcases Nat.lt_or_ge j i.toNat with h2 | h2
        · exact hno j h2
        · have:j=i.toNat:=by omega
          subst this
          rw[hget];simpa using hc
    · have e:s.drop i.toNat=[]:=List.drop_eq_nil_of_le (by omega)
      rw[e]at hst
      simp only[h,decide_false,Bool.false_and,Bool.false_eq_true,if_false]
      rw[qH hl (by simp) (.inl rfl)]
      unfold parseS
      rw[hst]
      rfl
theorem zQ {s:List UInt8} (hl:s.length≤4294967296):mC s=some (parseS s):=by
  unfold mC
  show dx s (18446744073709551615+1) s [] 0=_
  exact qs s hl _ 0 (by omega) (by omega) (by omega) (fun j hj=>by simp at hj)
end Go.Proofs.YtmhoikfoogemnaaGreatDoor.Z01
