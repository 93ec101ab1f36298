import Derived.Lib.ItoaNum
import Derived.Test.YtmhoikfoogemnaaGreatDoorGFs
namespace Go.Proofs.YtmhoikfoogemnaaGreatDoor.Z01
open Go Go.RowKit Go.Vc
set_option linter.unusedVariables false
set_option linter.unusedSimpArgs false
theorem GQ (M:Nat) (hM:M=18446744073709551615):∀ (s:List UInt8) (acc:Nat),s.all qy=true→(acc+1) * 10 ^ s.length≤18446744073709551616→Lib.parseUintM M acc s= .ok (jF acc s)
  | [],acc,_,_=>rfl
  | c::s,acc,hd,hb=>by
    simp only[List.all_cons,Bool.and_eq_true]at hd
    have hc:=hd.1
    simp only[qy,Bool.and_eq_true,decide_eq_true_eq]at hc
    have hp:(acc+1) * 10 ^ (c::s).length=(acc+1) * 10 * 10 ^ s.length:=by rw[List.length_cons,Nat.pow_succ,Nat.mul_comm (10 ^ s.length) 10, ← Nat.mul_assoc]
    rw[hp]at hb
    have h1:1≤10 ^ s.length:=Nat.one_le_pow _ _ (by omega)
    have h2:(acc+1) * 10≤(acc+1) * 10 * 10 ^ s.length:=Nat.le_mul_of_pos_right _ h1
    unfold Lib.parseUintM
    rw[if_pos hc,if_neg (by omega),if_neg (by omega),lL,show acc * 10+(c.toNat - 48)=10 * acc+(c.toNat - 48)by omega]
    refine GQ M hM s _ hd.2 (Nat.le_trans (Nat.mul_le_mul_right _ ?_) hb)
    omega
theorem D0 (c:UInt8) (h:qy c=true):¬ (c.toNat=43∨c.toNat=45):=by
  simp only[qy,Bool.and_eq_true,decide_eq_true_eq]at h;omega
theorem Ju (s:List UInt8) (h0:s≠[]) (hd:s.all qy=true) (hl:s.length≤10):Lib.parseIntB 64 s= .ok (cb s:Int):=by
  have hv:=Hu s 0 hd
  have hp:10 ^ s.length≤10 ^ 10:=Nat.pow_le_pow_right (by omega) hl
  have hu:Lib.parseUintB 64 s= .ok (cb s):=by
    unfold Lib.parseUintB
    rw[if_neg h0]
    exact GQ _ rfl s 0 hd (by omega)
  unfold Lib.parseIntB
  cases s with
  | nil=>exact absurd rfl h0
  | cons c r=>
    simp only[List.all_cons,Bool.and_eq_true]at hd
    have hc:=D0 c hd.1
    simp only[hc,if_false]
    rw[hu]
    have h45:¬ c.toNat=45:=λh=>hc (.inr h)
    have hlt:cb (c::r)<2 ^ 63:=by unfold cb;omega
    simp only[h45,not_false_eq_true,true_and,false_and,if_false]
    rw[if_neg (by omega)]
theorem oL {s:List UInt8} (h:oc s=true):s.all qy=true∧s≠[]∧(s=[48]∨s.head?≠some 48):=by
  unfold oc at h
  simp only[Bool.and_eq_true,Bool.or_eq_true,decide_eq_true_eq,Bool.not_eq_true',decide_eq_false_iff_not]at h
  refine⟨h.1,?_,?_⟩
  · rcases h.2 with h | h
    · rw[h];simp
    · exact h.1
  · exact h.2.imp id (·.2)
theorem Hv {s:List UInt8} (h:oc s=true) (hl:10<s.length):2147483647<cb s:=by
  obtain⟨h1,h2,h3⟩:=oL h
  cases s with
  | nil=>simp at hl
  | cons c r=>
    rcases h3 with h3 | h3
    · rw[h3]at hl;simp at hl
    · simp only[List.all_cons,Bool.and_eq_true]at h1
      have hc:=h1.1
      simp only[qy,Bool.and_eq_true,decide_eq_true_eq]at hc
      have hne:c.toNat≠48:=λe=>h3 (by rw[List.head?_cons];congr 1;exact UInt8.toNat_inj.1 (by simpa using e))
      unfold cb
      rw[lL]
      have hb:=wp r (10 * 0+(c.toNat - 48))
      have hp:10 ^ 10≤10 ^ r.length:=Nat.pow_le_pow_right (by omega) (by simp at hl;omega)
      have:1 * 10 ^ r.length≤(10 * 0+(c.toNat - 48)) * 10 ^ r.length:=Nat.mul_le_mul_right _ (by omega)
      omega
theorem vx {s:List UInt8} (h:oc s=true):∃ n,k9 s=some (n,decide (cb s≤2147483647))∧(cb s≤2147483647→n=cb s):=by
  obtain⟨h1,h2,h3⟩:=oL h
  unfold k9
  by_cases hl:10<s.length
  · have:=Hv h hl
    rw[if_pos (by simp<;>omega)]
    exact⟨0,by rw[show decide (cb s≤2147483647)=false by simp<;>omega],λh=>by omega⟩
  · rw[if_neg (by simp<;>omega)]
    unfold lH
    rw[if_pos ⟨rfl,rfl,by omega⟩,Ju s h2 h1 (by omega)]
    refine⟨cb s,?_,λ_=>rfl⟩
    simp only[Option.bind_some]
    congr 3
    apply propext
    omega
theorem pP (s:List UInt8) (hl:s.length≤4294967296):∀ (f:Nat) (n:Nat) (i:Int),0≤i→i≤(s.length:Int)→s.length - i.toNat<f→n≤2147483647→(s.drop i.toNat).all qy=true→
    cz s f n i=if jF n (s.drop i.toNat)≤2147483647 then fU s (jF n (s.drop i.toNat):Nat)else some (0,false)
  | 0,_,_,_,_,h,_,_=>absurd h (by omega)
  | f+1,n,i,h0,h1,hf,hn,hd=>by
    unfold cz jI
    by_cases h:i<(s.length:Int)
    · have ih:=pP s hl f
      rw[gq h0 h]
      rw[qJ h0 h]at hd ⊢
      revert hd
      generalize (s[i.toNat]'(by omega))=c
      intro hd
      simp only[List.all_cons,Bool.and_eq_true]at hd
      have hc:=hd.1
      simp only[qy,Bool.and_eq_true,decide_eq_true_eq]at hc
      have h45:decide (((c.toNat:Nat):Int)=45)=false:=by simp<;>omega
      simp only[h,h45,decide_true,if_true,Option.bind_some,Bool.false_eq_true,if_false]
      have e1:HY ((c.toNat:Int) - 48)=(c.toNat:Int) - 48:=by
        simp only[HY,IntKind.wrap,IntKind.signed,IntKind.bits]
        have:=c.toNat_lt
        simp<;>omega
      rw[e1,wi (p:=(n:Int) * 10) ⟨by omega,by omega⟩,wi (p:=(c.toNat:Int) - 48) ⟨by omega,by omega⟩,wi (p:=(n:Int) * 10+((c.toNat:Int) - 48)) ⟨by omega,by omega⟩,wi (p:=i+1) ⟨by omega,by omega⟩]
      have e2:(n:Int) * 10+((c.toNat:Int) - 48)=((10 * n+(c.toNat - 48):Nat):Int):=by omega
      rw[e2,lL]
      by_cases hb:10 * n+(c.toNat - 48)≤2147483647
      · rw[if_neg (by simp<;>omega)]
        exact ih (10 * n+(c.toNat - 48)) (i+1) (by omega) (by omega) (by omega) hb hd.2
      · have:=CN (s.drop (i+1).toNat) (10 * n+(c.toNat - 48))
        rw[if_pos (by simp<;>omega),if_neg (by omega)]
    · have e:s.drop i.toNat=[]:=List.drop_eq_nil_of_le (by omega)
      simp[h,e,jF,hn]
theorem xO {s:List UInt8} (hd:s.all qy=true) (n:Int):fU s n=some (n,true):=by
  unfold fU
  cases s with
  | nil=>rfl
  | cons c r=>
    simp only[List.all_cons,Bool.and_eq_true]at hd
    have hc:=D0 c hd.1
    have hlt:(0:Int)<((c::r).length:Int):=by simp<;>omega
    rw[gq (by omega) hlt]
    simp only[hlt,decide_true,gd,if_true,Option.bind_some,Bool.true_and,Int.toNat_zero,List.getElem_cons_zero]
    rw[if_neg (by simp<;>omega)]
theorem rh {s:List UInt8} (hl:s.length≤4294967296) (hd:s.all qy=true):iN s=some (if cb s≤2147483647 then((cb s:Int),true)else(0,false)):=by
  unfold iN
  have:=pP s hl fu 0 0 (by omega) (by omega) (by unfold fu;omega) (by omega) (by simpa using hd)
  rw[show((0:Nat):Int)=0 from rfl]at this
  rw[this]
  simp only[Int.toNat_zero,List.drop_zero]
  show(if cb s≤2147483647 then fU s (cb s:Nat)else some (0,false))=_
  split
  · rw[xO hd]
  · rfl
theorem xe {t:List UInt8} (hl:(45::t).length≤4294967296) (hd:t.all qy=true):iN (45::t)=some (if cb t≤2147483647 then(-(cb t:Int),true)else(0,false)):=by
  unfold iN
  have h0:(0:Int)<((45::t).length:Int):=by simp<;>omega
  have e:cz (45::t) fu 0 0=cz (45::t) (fu - 1) 0 1:=by
    show cz (45::t) (18446744073709551615+1) 0 0=cz (45::t) 18446744073709551615 0 1
    rw[cz,gq (by omega) h0]
    simp only[h0,decide_true,if_true,Option.bind_some,Int.toNat_zero,List.getElem_cons_zero,show decide ((((45:UInt8).toNat:Nat):Int)=45)=true from rfl]
    unfold jI
    rw[wi ⟨by omega,by omega⟩]
    rfl
  rw[e]
  have:=pP (45::t) hl (fu - 1) 0 1 (by omega) (by simp<;>omega) (by unfold fu;omega) (by omega) (by simpa using hd)
  rw[show((0:Nat):Int)=0 from rfl]at this
  rw[this]
  simp only[show(1:Int).toNat=1 from rfl,List.drop_one,List.tail_cons]
  show(if cb t≤2147483647 then fU (45::t) (cb t:Nat)else some (0,false))=_
  split
  · unfold fU
    rw[gq (by omega) h0]
    simp only[h0,decide_true,gd,if_true,Option.bind_some,Bool.true_and,Int.toNat_zero,List.getElem_cons_zero,show decide ((((45:UInt8).toNat:Nat):Int)=45)=true from rfl]
    rw[wi ⟨by omega,by omega⟩]
  · rfl
def kv (neg:Bool) (d b:List UInt8):GVal×Int:=
  if cb d≤2147483647∧cb b≤2147483647 then
    if qA ⟨if neg then -(cb d:Int)else cb d,cb b⟩then(⟨if neg then -(cb d:Int)else cb d,cb b⟩,0)else(⟨0,0⟩,5)
  else(⟨0,0⟩,3)
def pl (top:List UInt8) (bot:Option (List UInt8)):GVal×Int:=
  if mg top then
    match bot with
    | none=>kv (bj top).1 (bj top).2 [49]
    | some b=>if oc b&& !decide (b=[48])&& !decide (b=[49])then kv (bj top).1 (bj top).2 b else(⟨0,0⟩,5)
  else(⟨0,0⟩,5)
def mE:List UInt8→Option Nat
  | []=>none
  | c::r=>if c=47 then some 0 else(mE r).map (· +1)
def parseS (s:List UInt8):GVal×Int:=match mE s with
  | none=>pl s none
  | some i=>pl (s.take i) (some (s.drop (i+1)))
theorem tS {s:List UInt8} {i:Nat} (h:mE s=some i):i<s.length:=by
  induction s generalizing i with
  | nil=>cases h
  | cons c r ih=>
    unfold mE at h
    split at h
    · injection h with h;subst h;simp
    · obtain⟨j,hj,rfl⟩:=Option.map_eq_some_iff.1 h
      have:=ih hj
      simp<;>omega
theorem A7 (s:List UInt8):Lib.indexByte s 47=match mE s with | none=> -1 | some i=>(i:Int):=by
  induction s with
  | nil=>rfl
  | cons c r ih=>
    unfold Lib.indexByte mE
    by_cases h:c=47
    · simp[h]
    · have:(c==47)=false:=by simpa using h
      simp only[this,Bool.false_eq_true,if_false,h,ih]
      cases mE r with
      | none=>rfl
      | some i=>simp<;>omega
theorem H5 {s:List UInt8} (hl:s.length≤4294967296):nC s [47]=some (match mE s with | none=>(s,[],false) | some i=>(s.take i,s.drop (i+1),true)):=by
  unfold nC ii gH
  simp only[Option.bind_some,A7]
  cases h:mE s with
  | none=>simp
  | some i=>
    have hi:=tS h
    have e:au ((i:Int)+(([47]:List UInt8).length:Int))=(i:Int)+1:=wi ⟨by simp<;>omega,by simp<;>omega⟩
    rw[e]
    have h1:pV s (i:Int)=some (s.take i):=by unfold pV;rw[if_pos ⟨by omega,by omega⟩];simp
    have h2:jE s ((i:Int)+1)=some (s.drop (i+1)):=by unfold jE;rw[if_pos ⟨by omega,by omega⟩];rfl
    simp[h1,h2]
theorem us {s:List UInt8} (hl:s.length≤4294967296):jp s [45]=some ((bj s).2,(bj s).1):=by
  unfold jp fz fy
  cases s with
  | nil=>rfl
  | cons c r=>
    have h1:pV (c::r) (([45]:List UInt8).length:Int)=some [c]:=by unfold pV;rw[if_pos ⟨by simp,by simp<;>omega⟩];rfl
    have h2:jE (c::r) (([45]:List UInt8).length:Int)=some r:=by unfold jE;rw[if_pos ⟨by simp,by simp<;>omega⟩];rfl
    have h3:(([45]:List UInt8).length:Int)≤((c::r).length:Int):=by simp<;>omega
    simp only[h1,h2,h3,decide_true,gd,if_true,Option.bind_some,Bool.true_and]
    by_cases hc:c=45
    · subst hc;rfl
    · have:decide ([c]=([45]:List UInt8))=false:=by simpa using hc
      simp only[this,Bool.not_false,if_true,Option.bind_some]
      unfold bj
      split
      · rename_i h;simp at h;exact absurd h.1 hc
      · rfl
theorem tv {neg:Bool} {d b:List UInt8} (hd:oc d=true) (hb:oc b=true):ka (d,neg) b=some (kv neg d b):=by
  obtain⟨n,h1,h2⟩:=vx hd
  obtain⟨k,h3,h4⟩:=vx hb
  unfold ka lY kv
  simp only[h1,h3,Option.bind_some]
  by_cases c1:cb d≤2147483647
  · by_cases c2:cb b≤2147483647
    · rw[h2 c1,h4 c2]
      simp only[c1,c2,decide_true,Bool.not_true,Bool.or_self,Bool.false_eq_true,if_false,and_self,if_true]
      rw[wi (p:= -((cb d:Nat):Int)) ⟨by omega,by omega⟩]
      cases neg
      · simp only[Bool.false_eq_true,if_false]
        rw[uR ⟨⟨by simp<;>omega,by simp<;>omega⟩,by simp<;>omega,by simp<;>omega⟩]
        cases qA ⟨(cb d:Int),(cb b:Int)⟩<;>simp
      · simp only[if_true]
        rw[uR ⟨⟨by simp<;>omega,by simp<;>omega⟩,by simp<;>omega,by simp<;>omega⟩]
        cases qA ⟨-(cb d:Int),(cb b:Int)⟩<;>simp
    · simp[c1,c2]
  · simp[c1]
theorem DW {s:List UInt8} (hl:s.length≤4294967296):oD s=some (parseS s):=by
  unfold oD parseS
  rw[H5 hl]
  simp only[Option.bind_some]
  cases h:mE s with
  | none=>
    simp only[us hl,Option.bind_some]
    have hl2:(bj s).2.length≤4294967296:=by unfold bj;split<;>simp_all;omega
    rw[rW _ hl2]
    unfold pl mg
    simp only[Option.bind_some]
    cases hd:oc (bj s).2
    · simp
    · cases hn:(bj s).1&&decide ((bj s).2=[48])
      · simp[hn,tv hd (show oc [49]=true from rfl)]
      · simp[hn]
  | some i=>
    have hi:=tS h
    have hl1:(s.take i).length≤4294967296:=by rw[List.length_take];omega
    have hl3:(s.drop (i+1)).length≤4294967296:=by rw[List.length_drop];omega
    simp only[us hl1,Option.bind_some]
    have hl2:(bj (s.take i)).2.length≤4294967296:=by
      have:(bj (s.take i)).2.length≤(s.take i).length:=by unfold bj;split<;>simp_all
      omega
    rw[rW _ hl2]
    unfold pl mg
    simp only[Option.bind_some]
    obtain⟨b,hb0⟩:∃ b,s.drop (i+1)=b:=⟨_,rfl⟩
    simp only[hb0]at hl3 ⊢
    cases hd:oc (bj (s.take i)).2
    · simp
    · cases hn:(bj (s.take i)).1&&decide ((bj (s.take i)).2=[48])
      · simp only[hn,Bool.not_true,Bool.or_self,Bool.false_eq_true,if_false,Bool.not_false,Bool.and_self,if_true,rW _ hl3,Option.bind_some]
        cases hb:oc b
        · simp
        · cases h8:decide (b=[48])
          · cases h9:decide (b=[49])
            · simp[tv hd hb]
            · simp
          · simp
      · simp[hn]
theorem Dt {n:Int} (h:lq n):kx n=some (if n<0 then -n else n):=by
  obtain⟨h1,h2⟩:=h
  unfold kx
  by_cases hn:n<0
  · simp only[hn,decide_true,if_true]
    rw[wi (p:=n+1) ⟨by omega,by omega⟩,wi (p:= -(n+1)) ⟨by omega,by omega⟩,wu (p:= -(n+1)) ⟨by omega,by omega⟩,wu ⟨by omega,by omega⟩]
    congr 1;omega
  · simp only[hn,decide_false,Bool.false_eq_true,if_false]
    rw[wu ⟨by omega,by omega⟩]
theorem yy {b:List UInt8} (hb:oc b=true) (h:b≠[48]):1≤cb b:=by
  obtain⟨h1,h2,h3⟩:=oL hb
  cases b with
  | nil=>exact absurd rfl h2
  | cons c r=>
    have h3:=h3.resolve_left h
    simp only[List.all_cons,Bool.and_eq_true]at h1
    have hc:=h1.1
    simp only[qy,Bool.and_eq_true,decide_eq_true_eq]at hc
    have hne:c.toNat≠48:=λe=>h3 (by rw[List.head?_cons];congr 1;exact UInt8.toNat_inj.1 (by simpa using e))
    have:=CN r (10 * 0+(c.toNat - 48))
    unfold cb;rw[lL];omega
theorem sA {top b:List UInt8} (hl:top.length≤4294967296) (hl2:b.length≤4294967296) (hw:mg top=true) (hb:oc b=true) (h8:b≠[48]):jL top b=some (kv (bj top).1 (bj top).2 b):=by
  have hwd:oc (bj top).2=true:=by unfold mg at hw;simp only[Bool.and_eq_true]at hw;exact hw.1
  have hv:iN top=some (if cb (bj top).2≤2147483647 then(if(bj top).1 then -(cb (bj top).2:Int)else cb (bj top).2,true)else(0,false)):=by
    have hdg:=(oL hwd).1
    unfold bj at hdg ⊢
    split at hdg
    · rename_i t
      rw[xe hl hdg]
      simp
    · rw[rh hl hdg]
      split<;>simp_all
  have hp:=yy hb h8
  unfold jL kv
  rw[hv,rh hl2 (oL hb).1]
  generalize (bj top).1=neg
  generalize cb (bj top).2=p
  by_cases c1:p≤2147483647
  · by_cases c2:cb b≤2147483647
    · simp only[c1,c2,if_true,Option.bind_some,Bool.not_true,Bool.or_self,Bool.false_eq_true,if_false,and_self]
      rw[Dt (n:=if neg=true then -(p:Int)else p) (by cases neg<;>exact⟨by simp<;>omega,by simp<;>omega⟩),Dt (n:=(cb b:Int)) ⟨by omega,by omega⟩]
      simp only[Option.bind_some]
      rw[Fe (by split<;>omega) (by split<;>omega) (by split<;>omega),Option.bind_some]
      have e1:(if((cb b:Nat):Int)<0 then -((cb b:Nat):Int)else(cb b:Nat))=(cb b:Int):=by rw[if_neg (by omega)]
      rw[e1,BN]
      have e2:qA ⟨if neg=true then -(p:Int)else p,cb b⟩=decide (((Int.gcd (if neg=true then -(p:Int)else p) (cb b):Nat):Int)=1):=by
        unfold qA
        congr 1
        apply propext
        constructor
        · intro h;have:=h.2.2.2.2;simp only at this;omega
        · intro h;refine⟨by simp<;>omega,by simp<;>omega,?_,?_,?_⟩
          · cases neg<;>simp<;>omega
          · cases neg<;>simp<;>omega
          · simp only;omega
      rw[e2]
      cases decide (((Int.gcd (if neg=true then -(p:Int)else p) (cb b):Nat):Int)=1)<;>simp
    · simp[c1,c2]
  · simp[c1]
theorem tc {top:List UInt8} {down:List UInt8} (hl:top.length≤4294967296) (hl2:down.length≤4294967296) (hd:down=[]∨(oc down=true∧down≠[48])):kX top down=some (if mg top then kv (bj top).1 (bj top).2 (if down=[]then[49]else down)else(⟨0,0⟩,5)):=by
  unfold kX
  rw[wJ _ hl]
  cases hw:mg top
  · rfl
  · simp only[Option.bind_some,Bool.not_true,Bool.false_eq_true,if_false,if_true]
    by_cases h:down=[]
    · simp only[h,decide_true,if_true]
      exact sA hl (by simp) hw rfl (by decide)
    · simp only[h,decide_false,Bool.false_eq_true,if_false]
      obtain⟨h1,h2⟩:=hd.resolve_left h
      exact sA hl hl2 hw h1 h2
theorem B9 (s:List UInt8) (i:Nat) (h:∀ j<i,s[j]? ≠some 47):mE s=(mE (s.drop i)).map (· +i):=by
  induction i generalizing s with
  | zero=>simp
  | succ i ih=>
    cases s with
    | nil=>rfl
    | cons c r=>
      have hc:c≠47:=λe=>h 0 (by omega) (by simp[e])
      rw[mE,if_neg hc,ih r (λj hj=>by have:=h (j+1) (by omega);simpa using this),List.drop_succ_cons]
      cases mE (r.drop i)<;>simp<;>omega
theorem sy (s:List UInt8) (hl:s.length≤4294967296):∀ (f:Nat) (i:Int),0≤i→i≤(s.length:Int)→s.length - i.toNat<f→(∀ j<i.toNat,s[j]? ≠some 47)→dZ s (f+1) s [] i=some (parseS s)
  | f,i,h0,h1,hf,hno=>by
    have hst:=B9 s i.toNat hno
    rw[dZ]
    by_cases h:i<(s.length:Int)
    · simp only[h,decide_true,Bool.and_self,if_true]
      rw[gq h0 h]
      rw[qJ h0 h]at hst
      have hget:s[i.toNat]? =some (s[i.toNat]'(by omega)):=by simp
      revert hst hget
      generalize (s[i.toNat]'(by omega))=c
      intro hst hget
      simp only[Option.bind_some]
      by_cases hc:c=47
      · subst hc
        have hs:mE s=some i.toNat:=by rw[hst];simp[mE]
        have e1:pV s i=some (s.take i.toNat):=by unfold pV;rw[if_pos ⟨by omega,by omega⟩]
        have e2:jE s (au (i+1))=some (s.drop (i.toNat+1)):=by
          rw[wi ⟨by omega,by omega⟩];unfold jE;rw[if_pos ⟨by omega,by omega⟩];congr 2;omega
        rw[e1,e2]
        unfold parseS
        rw[hs]
        simp only[show decide ((((47:UInt8).toNat:Nat):Int)=47)=true from rfl,if_true,Option.bind_some]
        have hl3:(s.drop (i.toNat+1)).length≤4294967296:=by rw[List.length_drop];omega
        have hl4:(s.take i.toNat).length≤4294967296:=by rw[List.length_take];omega
        generalize s.drop (i.toNat+1)=b at hl3
        generalize s.take i.toNat=t at hl4
        rw[wJ b hl3]
        simp only[Option.bind_some]
        unfold pl
        by_cases hb:oc b=true
        · have hdg:=oL hb
          have hsp:=vC hdg.1
          have hw:mg b=true:=by unfold mg;rw[hsp];simp[hb]
          have hlen:(0:Int)<(b.length:Int):=by have:=DQ hdg.2.1;omega
          have h45:decide ((((b[(0:Int).toNat]'(by simpa using DQ hdg.2.1)).toNat:Nat):Int)=45)=false:=by
            cases b with
            | nil=>exact absurd rfl hdg.2.1
            | cons c r=>
              have:=hdg.1
              simp only[List.all_cons,Bool.and_eq_true]at this
              have:=D0 c this.1
              simp<;>omega
          rw[hw,gq (by omega) hlen]
          simp only[Bool.not_true,Bool.not_false,gd,if_true,Option.bind_some,h45,Bool.or_self,Bool.false_or,hb,Bool.true_and]
          by_cases h8:b=[48]
          · subst h8;simp
          · by_cases h9:b=[49]
            · subst h9;simp
            · simp only[h8,h9,decide_false,Bool.or_self,Bool.false_eq_true,if_false,Bool.not_false,Bool.and_self,if_true]
              unfold jK
              rw[wi ⟨by omega,by omega⟩]
              obtain⟨f',rfl⟩:∃ f',f=f'+1:=⟨f - 1,by omega⟩
              rw[dZ]
              have hne:b≠[]:=hdg.2.1
              rw[if_neg (by simp[hne])]
              rw[tc hl4 hl3 (.inr ⟨hb,h8⟩),if_neg hne]
        · have hb':oc b=false:=by simpa using hb
          have e3:(if mg t=true then(if(oc b&& !decide (b=[48])&& !decide (b=[49]))=true then kv (bj t).1 (bj t).2 b else(⟨0,0⟩,5))else((⟨0,0⟩,5):GVal×Int))=(⟨0,0⟩,5):=by
            rw[hb'];simp
          show _ =some (if mg t=true then(if(oc b&& !decide (b=[48])&& !decide (b=[49]))=true then kv (bj t).1 (bj t).2 b else(⟨0,0⟩,5))else((⟨0,0⟩,5):GVal×Int))
          rw[e3]
          cases hw:mg b
          · simp[gd]
          ·
            have hsg:∃ t,b=45::t:=by
              unfold mg bj at hw
              split at hw
              · exact⟨_,rfl⟩
              · simp[hb']at hw
            obtain⟨t',rfl⟩:=hsg
            have hlen:(0:Int)<((45::t').length:Int):=by simp<;>omega
            rw[gq (by omega) hlen]
            simp[gd]
      · have hcn:decide (((c.toNat:Nat):Int)=47)=false:=by
          simp only[decide_eq_false_iff_not]
          intro h;exact hc (UInt8.toNat_inj.1 (by have:c.toNat=47:=by omega
                                                  simpa using this))
        simp only[hcn,Bool.false_eq_true,if_false]
        unfold jK
        rw[wi ⟨by omega,by omega⟩]
        obtain⟨f',rfl⟩:∃ f',f=f'+1:=⟨f - 1,by omega⟩
        refine sy s hl f' (i+1) (by omega) (by omega) (by omega) λj hj=>?_
        rcases Nat.lt_or_ge j i.toNat with h2 | h2
        · exact hno j h2
        · have:j=i.toNat:=by omega
          subst this
          rw[hget];simpa using hc
    · have e:s.drop i.toNat=[]:=List.drop_eq_nil_of_le (by omega)
      rw[e]at hst
      simp only[h,decide_false,Bool.false_and,Bool.false_eq_true,if_false]
      rw[tc hl (by simp) (.inl rfl)]
      unfold parseS
      rw[hst]
      rfl
theorem Cp {s:List UInt8} (hl:s.length≤4294967296):nL s=some (parseS s):=by
  unfold nL
  show dZ s (18446744073709551615+1) s [] 0=_
  exact sy s hl _ 0 (by omega) (by omega) (by omega) (λj hj=>by simp at hj)
end Go.Proofs.YtmhoikfoogemnaaGreatDoor.Z01
