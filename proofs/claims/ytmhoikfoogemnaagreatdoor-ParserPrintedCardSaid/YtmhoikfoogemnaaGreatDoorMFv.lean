import Derived.Lib.ItoaNum
import Derived.Test.YtmhoikfoogemnaaGreatDoorMFs
namespace Go.Proofs.YtmhoikfoogemnaaGreatDoor.Z01
open Go Go.RowKit Go.Vc
set_option linter.unusedVariables false
set_option linter.unusedSimpArgs false
theorem E5 (M:Nat) (hM:M=18446744073709551615):∀ (s:List UInt8) (acc:Nat),s.all pd=true→(acc+1) * 10 ^ s.length≤18446744073709551616→Lib.parseUintM M acc s= .ok (ic acc s)
 | [],acc,_,_=>rfl
 | c::s,acc,hd,hb=>by
  simp only[List.all_cons,Bool.and_eq_true]at hd
  have hc:=hd.1
  simp only[pd,Bool.and_eq_true,decide_eq_true_eq]at hc
  have hp:(acc+1) * 10 ^ (c::s).length=(acc+1) * 10 * 10 ^ s.length:=by rw[List.length_cons,Nat.pow_succ,Nat.mul_comm (10 ^ s.length) 10, ← Nat.mul_assoc]
  rw[hp]at hb
  have h1:1≤10 ^ s.length:=Nat.one_le_pow _ _ (by omega)
  have h2:(acc+1) * 10≤(acc+1) * 10 * 10 ^ s.length:=Nat.le_mul_of_pos_right _ h1
  unfold Lib.parseUintM
  rw[if_pos hc,if_neg (by omega),if_neg (by omega),gH,show acc * 10+(c.toNat - 48)=10 * acc+(c.toNat - 48)by omega]
  refine E5 M hM s _ hd.2 (Nat.le_trans (Nat.mul_le_mul_right _ ?_) hb)
  omega
theorem Jt (c:UInt8) (h:pd c=true):¬ (c.toNat=43∨c.toNat=45):=by
 simp only[pd,Bool.and_eq_true,decide_eq_true_eq]at h;omega
theorem It (s:List UInt8) (h0:s≠[]) (hd:s.all pd=true) (hl:s.length≤10):Lib.parseIntB 64 s= .ok (cB s:Int):=by
 have hv:=FI s 0 hd
 have hp:10 ^ s.length≤10 ^ 10:=Nat.pow_le_pow_right (by omega) hl
 have hu:Lib.parseUintB 64 s= .ok (cB s):=by
  unfold Lib.parseUintB
  rw[if_neg h0]
  exact E5 _ rfl s 0 hd (by omega)
 unfold Lib.parseIntB
 cases s with
 | nil=>exact absurd rfl h0
 | cons c r=>
  simp only[List.all_cons,Bool.and_eq_true]at hd
  have hc:=Jt c hd.1
  simp only[hc,if_false]
  rw[hu]
  have h45:¬ c.toNat=45:=fun h=>hc (.inr h)
  have hlt:cB (c::r)<2 ^ 63:=by unfold cB;omega
  simp only[h45,not_false_eq_true,true_and,false_and,if_false]
  rw[if_neg (by omega)]
theorem pf {s:List UInt8} (h:pg s=true):s.all pd=true∧s≠[]∧(s=[48]∨s.head?≠some 48):=by
 unfold pg at h
 simp only[Bool.and_eq_true,Bool.or_eq_true,decide_eq_true_eq,Bool.not_eq_true',decide_eq_false_iff_not]at h
 refine⟨h.1,?_,?_⟩
 ·rcases h.2 with h | h
  ·rw[h];simp
  ·exact h.1
 ·exact h.2.imp id (·.2)
theorem FM {s:List UInt8} (h:pg s=true) (hl:10<s.length):2147483647<cB s:=by
 obtain⟨h1,h2,h3⟩:=pf h
 cases s with
 | nil=>simp at hl
 | cons c r=>
  rcases h3 with h3 | h3
  ·rw[h3]at hl;simp at hl
  ·simp only[List.all_cons,Bool.and_eq_true]at h1
   have hc:=h1.1
   simp only[pd,Bool.and_eq_true,decide_eq_true_eq]at hc
   have hne:c.toNat≠48:=fun e=>h3 (by rw[List.head?_cons];congr 1;exact UInt8.toNat_inj.1 (by simpa using e))
   unfold cB
   rw[gH]
   have hb:=o9 r (10 * 0+(c.toNat - 48))
   have hp:10 ^ 10≤10 ^ r.length:=Nat.pow_le_pow_right (by omega) (by simp at hl;omega)
   have:1 * 10 ^ r.length≤(10 * 0+(c.toNat - 48)) * 10 ^ r.length:=Nat.mul_le_mul_right _ (by omega)
   omega
theorem sK {s:List UInt8} (h:pg s=true):∃ n,jx s=some (n,decide (cB s≤2147483647))∧(cB s≤2147483647→n=cB s):=by
 obtain⟨h1,h2,h3⟩:=pf h
 unfold jx
 by_cases hl:10<s.length
 ·have:=FM h hl
  rw[if_pos (by simp<;>omega)]
  exact⟨0,by rw[show decide (cB s≤2147483647)=false by simp<;>omega],fun h=>by omega⟩
 ·rw[if_neg (by simp<;>omega)]
  unfold jK
  rw[if_pos ⟨rfl,rfl,by omega⟩,It s h2 h1 (by omega)]
  refine⟨cB s,?_,fun _=>rfl⟩
  simp only[Option.bind_some]
  congr 3
  apply propext
  omega
def m3 (neg:Bool) (d b:List UInt8):bj×Int:=
 if cB d≤2147483647∧cB b≤2147483647 then
  if k8 ⟨if neg then -(cB d:Int)else cB d,cB b⟩then(⟨if neg then -(cB d:Int)else cB d,cB b⟩,0)else(⟨0,0⟩,5)
 else(⟨0,0⟩,3)
def ox (top:List UInt8) (bot:Option (List UInt8)):bj×Int:=
 if rz top then
  match bot with
  | none=>m3 (bK top).1 (bK top).2 [49]
  | some b=>if pg b&& !decide (b=[48])&& !decide (b=[49])then m3 (bK top).1 (bK top).2 b else(⟨0,0⟩,5)
 else(⟨0,0⟩,5)
def iC:List UInt8→Option Nat
 | []=>none
 | c::r=>if c=47 then some 0 else(iC r).map (· +1)
def parseS (s:List UInt8):bj×Int:=match iC s with
 | none=>ox s none
 | some i=>ox (s.take i) (some (s.drop (i+1)))
theorem qR {s:List UInt8} {i:Nat} (h:iC s=some i):i<s.length:=by
 induction s generalizing i with
 | nil=>cases h
 | cons c r ih=>
  unfold iC at h
  split at h
  ·injection h with h;subst h;simp
  ·obtain⟨j,hj,rfl⟩:=Option.map_eq_some_iff.1 h
   have:=ih hj
   simp<;>omega
theorem yN (s:List UInt8):Lib.indexByte s 47=match iC s with | none=> -1 | some i=>(i:Int):=by
 induction s with
 | nil=>rfl
 | cons c r ih=>
  unfold Lib.indexByte iC
  by_cases h:c=47
  ·simp[h]
  ·have:(c==47)=false:=by simpa using h
   simp only[this,Bool.false_eq_true,if_false,h,ih]
   cases iC r with
   | none=>rfl
   | some i=>simp<;>omega
theorem Gz {s:List UInt8} (hl:s.length≤4294967296):li s [47]=some (match iC s with | none=>(s,[],false) | some i=>(s.take i,s.drop (i+1),true)):=by
 unfold li fC eU
 simp only[Option.bind_some,yN]
 cases h:iC s with
 | none=>simp
 | some i=>
  have hi:=qR h
  have e:au ((i:Int)+(([47]:List UInt8).length:Int))=(i:Int)+1:=wi ⟨by simp<;>omega,by simp<;>omega⟩
  rw[e]
  have h1:qo s (i:Int)=some (s.take i):=by unfold qo;rw[if_pos ⟨by omega,by omega⟩];simp
  have h2:gN s ((i:Int)+1)=some (s.drop (i+1)):=by unfold gN;rw[if_pos ⟨by omega,by omega⟩];rfl
  simp[h1,h2]
theorem ri {s:List UInt8} (hl:s.length≤4294967296):gK s [45]=some ((bK s).2,(bK s).1):=by
 unfold gK dY dX
 cases s with
 | nil=>rfl
 | cons c r=>
  have h1:qo (c::r) (([45]:List UInt8).length:Int)=some [c]:=by unfold qo;rw[if_pos ⟨by simp,by simp<;>omega⟩];rfl
  have h2:gN (c::r) (([45]:List UInt8).length:Int)=some r:=by unfold gN;rw[if_pos ⟨by simp,by simp<;>omega⟩];rfl
  have h3:(([45]:List UInt8).length:Int)≤((c::r).length:Int):=by simp<;>omega
  simp only[h1,h2,h3,decide_true,gd,if_true,Option.bind_some,Bool.true_and]
  by_cases hc:c=45
  ·subst hc;rfl
  ·have:decide ([c]=([45]:List UInt8))=false:=by simpa using hc
   simp only[this,Bool.not_false,if_true,Option.bind_some]
   unfold bK
   split
   ·rename_i h;simp at h;exact absurd h.1 hc
   ·rfl
theorem qr {neg:Bool} {d b:List UInt8} (hd:pg d=true) (hb:pg b=true):iL (d,neg) b=some (m3 neg d b):=by
 obtain⟨n,h1,h2⟩:=sK hd
 obtain⟨k,h3,h4⟩:=sK hb
 unfold iL jX m3
 simp only[h1,h3,Option.bind_some]
 by_cases c1:cB d≤2147483647
 ·by_cases c2:cB b≤2147483647
  ·rw[h2 c1,h4 c2]
   simp only[c1,c2,decide_true,Bool.not_true,Bool.or_self,Bool.false_eq_true,if_false,and_self,if_true]
   rw[wi (p:= -((cB d:Nat):Int)) ⟨by omega,by omega⟩]
   cases neg
   ·simp only[Bool.false_eq_true,if_false]
    rw[rJ ⟨⟨by simp<;>omega,by simp<;>omega⟩,⟨by simp<;>omega,by simp<;>omega⟩⟩]
    cases k8 ⟨(cB d:Int),(cB b:Int)⟩<;>simp
   ·simp only[if_true]
    rw[rJ ⟨⟨by simp<;>omega,by simp<;>omega⟩,⟨by simp<;>omega,by simp<;>omega⟩⟩]
    cases k8 ⟨-(cB d:Int),(cB b:Int)⟩<;>simp
  ·simp[c1,c2]
 ·simp[c1]
theorem BN {s:List UInt8} (hl:s.length≤4294967296):mi s=some (parseS s):=by
 unfold mi parseS
 rw[Gz hl]
 simp only[Option.bind_some]
 cases h:iC s with
 | none=>
  simp only[ri hl,Option.bind_some]
  have hl2:(bK s).2.length≤4294967296:=by unfold bK;split<;>simp_all;omega
  rw[pM _ hl2]
  unfold ox rz
  simp only[Option.bind_some]
  cases hd:pg (bK s).2
  ·simp
  ·cases hn:(bK s).1&&decide ((bK s).2=[48])
   ·simp[hn,qr hd (show pg [49]=true from rfl)]
   ·simp[hn]
 | some i=>
  have hi:=qR h
  have hl1:(s.take i).length≤4294967296:=by rw[List.length_take];omega
  have hl3:(s.drop (i+1)).length≤4294967296:=by rw[List.length_drop];omega
  simp only[ri hl1,Option.bind_some]
  have hl2:(bK (s.take i)).2.length≤4294967296:=by
   have:(bK (s.take i)).2.length≤(s.take i).length:=by unfold bK;split<;>simp_all
   omega
  rw[pM _ hl2]
  unfold ox rz
  simp only[Option.bind_some]
  obtain⟨b,hb0⟩:∃ b,s.drop (i+1)=b:=⟨_,rfl⟩
  simp only[hb0]at hl3 ⊢
  cases hd:pg (bK (s.take i)).2
  ·simp
  ·cases hn:(bK (s.take i)).1&&decide ((bK (s.take i)).2=[48])
   ·simp only[hn,Bool.not_true,Bool.or_self,Bool.false_eq_true,if_false,Bool.not_false,Bool.and_self,if_true,pM _ hl3,Option.bind_some]
    cases hb:pg b
    ·simp
    ·cases h8:decide (b=[48])
     ·cases h9:decide (b=[49])
      ·simp[qr hd hb]
      ·simp
     ·simp
   ·simp[hn]
theorem tt {n:Int} (h:jS n):fw n=some (if n<0 then -n else n):=by
 obtain⟨h1,h2⟩:=h
 unfold fw
 by_cases hn:n<0
 ·simp only[hn,decide_true,if_true]
  rw[wi (p:=n+1) ⟨by omega,by omega⟩,wi (p:= -(n+1)) ⟨by omega,by omega⟩,wu (p:= -(n+1)) ⟨by omega,by omega⟩,wu ⟨by omega,by omega⟩]
  congr 1;omega
 ·simp only[hn,decide_false,Bool.false_eq_true,if_false]
  rw[wu ⟨by omega,by omega⟩]
theorem AE {b:List UInt8} (hb:pg b=true) (h:b≠[48]):1≤cB b:=by
 obtain⟨h1,h2,h3⟩:=pf hb
 cases b with
 | nil=>exact absurd rfl h2
 | cons c r=>
  have h3:=h3.resolve_left h
  simp only[List.all_cons,Bool.and_eq_true]at h1
  have hc:=h1.1
  simp only[pd,Bool.and_eq_true,decide_eq_true_eq]at hc
  have hne:c.toNat≠48:=fun e=>h3 (by rw[List.head?_cons];congr 1;exact UInt8.toNat_inj.1 (by simpa using e))
  have:=FJ r (10 * 0+(c.toNat - 48))
  unfold cB;rw[gH];omega
end Go.Proofs.YtmhoikfoogemnaaGreatDoor.Z01
