import Derived.Test.YtmhoikfoogemnaaGreatDoorMVd
import Derived.Lib.ItoaNum
import Derived.Test.YtmhoikfoogemnaaGreatDoorMWj
namespace Go.Proofs.YtmhoikfoogemnaaGreatDoor
open Go Go.RowKit Go.Vc
set_option linter.unusedVariables false
set_option linter.unusedSimpArgs false
def pd (c:UInt8):Bool:=decide (48≤c.toNat)&&decide (c.toNat≤57)
def ic (n:Nat) (s:List UInt8):Nat:=s.foldl (fun n c=>10 * n+(c.toNat - 48)) n
def cB (s:List UInt8):Nat:=ic 0 s
theorem gH (n:Nat) (c:UInt8) (s:List UInt8):ic n (c::s)=ic (10 * n+(c.toNat - 48)) s:=by unfold ic;rw[List.foldl_cons]
theorem o9 (s:List UInt8) (n:Nat):n * 10 ^ s.length≤ic n s:=by
 induction s generalizing n with
 | nil=>simp[ic]
 | cons c s ih=>
  rw[gH]
  have h:=ih (10 * n+(c.toNat - 48))
  have:n * 10 ^ (c::s).length=(10 * n) * 10 ^ s.length:=by
   rw[List.length_cons,Nat.pow_succ,Nat.mul_comm (10 ^ s.length) 10, ← Nat.mul_assoc,Nat.mul_comm n 10]
  rw[this]
  exact Nat.le_trans (Nat.mul_le_mul_right _ (by omega)) h
theorem tt {n:Int} (h:jS n):fw n=some (if n<0 then -n else n):=by
 obtain⟨h1,h2⟩:=h
 unfold fw
 by_cases hn:n<0
 ·simp only[hn,decide_true,if_true]
  rw[wi (p:=n+1) ⟨by omega,by omega⟩,wi (p:= -(n+1)) ⟨by omega,by omega⟩,wu (p:= -(n+1)) ⟨by omega,by omega⟩,wu ⟨by omega,by omega⟩]
  congr 1;omega
 ·simp only[hn,decide_false,Bool.false_eq_true,if_false]
  rw[wu ⟨by omega,by omega⟩]
theorem nY (n:Nat) (s:List UInt8) (c:UInt8):ic n (s++[c])=10 * ic n s+(c.toNat - 48):=by
 unfold ic;rw[List.foldl_append];rfl
theorem yD {u:Nat} (h:u<10):(UInt8.ofNat (48+u)).toNat=48+u:=by
 rw[UInt8.toNat_ofNat'];omega
theorem AH {u:Nat} (h:u<10):pd (UInt8.ofNat (48+u))=true:=by
 unfold pd;rw[yD h];simp<;>omega
theorem gr {u:Nat} (h:u<10):Lib.decDigits u=[UInt8.ofNat (48+u)]:=by rw[Lib.decDigits,dif_pos h]
theorem qA {u:Nat} (h:¬ u<10):Lib.decDigits u=Lib.decDigits (u / 10)++[UInt8.ofNat (48+u % 10)]:=by rw[Lib.decDigits,dif_neg h]
theorem sF {s t:List UInt8} (h:s≠[]):(s++t).head?=s.head?:=by cases s with | nil=>exact absurd rfl h | cons c r=>rfl
theorem ja (u:Nat):(Lib.decDigits u).all pd=true∧cB (Lib.decDigits u)=u∧Lib.decDigits u≠[]∧(u≠0→(Lib.decDigits u).head?≠some 48):=by
 induction u using Nat.strongRecOn with
 | _ u ih=>
  by_cases h:u<10
  ·rw[gr h]
   refine⟨by rw[List.all_cons,AH h];rfl,?_,by simp,fun h0=> ?_⟩
   ·unfold cB;rw[gH];simp only[ic,List.foldl_nil];rw[yD h];omega
   ·rw[List.head?_cons]
    intro e
    injection e with e
    have:=congrArg UInt8.toNat e
    rw[yD h]at this
    simp at this;omega
  ·obtain⟨h1,h2,h3,h4⟩:=ih (u / 10) (by omega)
   rw[qA h]
   have hm:u % 10<10:=by omega
   refine⟨by rw[List.all_append,h1,List.all_cons,AH hm];rfl,?_,by simp,fun h0=> ?_⟩
   ·unfold cB at h2 ⊢;rw[nY,h2,yD hm];omega
   ·rw[sF h3];exact h4 (by omega)
theorem pP {u:Nat} (h:u<10000000000):(Lib.decDigits u).length≤10:=by
 obtain⟨h1,h2,h3,h4⟩:=ja u
 by_cases h0:10<(Lib.decDigits u).length
 ·obtain⟨c,r,he⟩:∃ c r,Lib.decDigits u=c::r:=by cases hd:Lib.decDigits u with | nil=>exact absurd hd h3 | cons c r=>exact⟨c,r,rfl⟩
  rw[he]at h0 h1 h2 h4
  by_cases hu:u=0
  ·subst hu;rw[gr (by omega)]at he;injection he with _ he;subst he;simp at h0
  ·have hne:=h4 hu
   simp only[List.all_cons,Bool.and_eq_true]at h1
   have hc:=h1.1
   simp only[pd,Bool.and_eq_true,decide_eq_true_eq]at hc
   have hne:c.toNat≠48:=fun e=>hne (by rw[List.head?_cons];congr 1;exact UInt8.toNat_inj.1 (by simpa using e))
   unfold cB at h2
   rw[gH]at h2
   have hb:=o9 r (10 * 0+(c.toNat - 48))
   have hp:10 ^ 10≤10 ^ r.length:=Nat.pow_le_pow_right (by omega) (by simp at h0;omega)
   have:1 * 10 ^ r.length≤(10 * 0+(c.toNat - 48)) * 10 ^ r.length:=Nat.mul_le_mul_right _ (by omega)
   omega
 ·omega
theorem k7 {n:Int} (h:0≤n):Lib.itoa n=Lib.decDigits n.toNat:=by unfold Lib.itoa;rw[if_neg (by omega)]
theorem mV {n:Int} (h:n<0):Lib.itoa n=45::Lib.decDigits n.natAbs:=by unfold Lib.itoa;rw[if_pos h]
theorem jT:∀ (f:Nat) (u:Nat) (s:List UInt8),u<f→u<18446744073709551616→(Lib.decDigits u).length+s.length≤4294967296→es f u s=some (Lib.decDigits u++s)
 | 0,_,_,h,_,_=>absurd h (by omega)
 | f+1,u,s,hf,hu,hl=>by
  have hpick:∀ d:Nat,d<10→rE ([48,49,50,51,52,53,54,55,56,57]:List UInt8) (d:Int) (ei ((d:Int)+1))=some [UInt8.ofNat (48+d)]:=fun d hd=>by
   rw[wu (p:=(d:Int)+1) ⟨by omega,by omega⟩]
   unfold rE
   rw[if_pos ⟨by omega,by omega,by simp<;>omega⟩]
   rw[show((d:Int)).toNat=d by omega,show((d:Int)+1).toNat - d=1 by omega]
   have:∀ d:Fin 10,some ((([48,49,50,51,52,53,54,55,56,57]:List UInt8).drop d.val).take 1)=some [UInt8.ofNat (48+d.val)]:=by decide
   exact this ⟨d,hd⟩
  unfold es
  by_cases h:u<10
  ·rw[if_neg (by simp<;>omega),hpick u h,gr h]
   rw[gr h]at hl
   unfold cF
   simp only[Option.bind_some]
   rw[if_pos (by simpa using hl)]
   rfl
  ·rw[if_pos (by simp<;>omega)]
   rw[qA h]at hl ⊢
   simp only[List.length_append,List.length_cons,List.length_nil]at hl
   have e1:Int.tmod (u:Int) 10=((u % 10:Nat):Int):=by rw[Int.tmod_eq_emod_of_nonneg (by omega)];rfl
   have e2:Int.tdiv (u:Int) 10=((u / 10:Nat):Int):=by rw[Int.tdiv_eq_ediv_of_nonneg (by omega)];rfl
   rw[e1,e2,hpick (u % 10) (by omega),wu (p:=((u / 10:Nat):Int)) ⟨by omega,by omega⟩]
   unfold cF
   simp only[Option.bind_some]
   rw[if_pos (by show _ ≤4294967296;simp only[List.length_cons,List.length_nil];omega),Option.bind_some]
   rw[jT f (u / 10) _ (by omega) (by omega) (by simp only[List.length_append,List.length_cons,List.length_nil];omega)]
   simp
theorem mZ {u:Nat} (hu:u<10000000000):hU (u:Int)=some (Lib.decDigits u):=by
 have:=pP hu
 unfold hU
 rw[jT fu u [] (by unfold fu;omega) (by omega) (by simp only[List.length_nil];omega)]
 simp
theorem jJ {n:Int} (h: -2147483647≤n∧n≤2147483647):d9 n=some (Lib.itoa n):=by
 unfold d9
 rw[tt ⟨by omega,by omega⟩]
 by_cases hn:n<0
 ·simp only[hn,decide_true,if_true,Option.bind_some]
  rw[show -n=((n.natAbs:Nat):Int)by omega,mZ (by omega),mV hn]
  have:=pP (u:=n.natAbs) (by omega)
  simp only[Option.bind_some]
  unfold cF
  rw[if_pos (by show 1+ _ ≤4294967296;omega)]
  rfl
 ·simp only[hn,decide_false,Bool.false_eq_true,if_false,Option.bind_some]
  obtain⟨u,rfl⟩:∃ u:Nat,n=u:=⟨n.toNat,by omega⟩
  rw[mZ (by omega),k7 (by omega)]
  rfl
theorem j0 {n:Int} (h: -2147483647≤n∧n≤2147483647):(Lib.itoa n).length≤11:=by
 by_cases hn:n<0
 ·rw[mV hn];have:=pP (u:=n.natAbs) (by omega);simp<;>omega
 ·rw[k7 (by omega)];have:=pP (u:=n.toNat) (by omega);omega
def om (a:bj):List UInt8:=if k8 a then(if a.D=1 then Lib.itoa a.N else Lib.itoa a.N++47::Lib.itoa a.D)else[]
theorem sj {a:bj} (ha:VaR a):il a=some (om a):=by
 unfold il om
 rw[tV ha]
 cases h:k8 a
 ·rfl
 ·obtain⟨a1,a2,a3,a4,a5⟩:=mW h
  simp only[Option.bind_some,Bool.not_true,Bool.false_eq_true,if_false,if_true,jJ ⟨a3,a4⟩,jJ (n:=a.D) ⟨by omega,by omega⟩]
  by_cases hd:a.D=1
  ·simp[hd]
  ·have l1:=j0 (n:=a.N) ⟨a3,a4⟩
   have l2:=j0 (n:=a.D) ⟨by omega,by omega⟩
   simp only[hd,decide_false,Bool.false_eq_true,if_false]
   unfold cF
   rw[if_pos (by show _ +1≤4294967296;omega),Option.bind_some,if_pos (by rw[List.length_append];show _ +1+ _ ≤4294967296;omega)]
   simp
end Go.Proofs.YtmhoikfoogemnaaGreatDoor
namespace Go.Proofs.YtmhoikfoogemnaaGreatDoor
open Go Go.RowKit Go.Vc
set_option linter.unusedVariables false
set_option linter.unusedSimpArgs false
theorem Hg:ij=some true:=by kernel_rfl
def vU (s:List UInt8):Bool:=decide (s=[48])||(decide (s≠[])&& !decide (s.head?=some 48))
def BW (s:List UInt8):Bool:=s.all pd&&vU s
theorem KN (s:List UInt8):gL s=some (vU s)∧oy s=some (vU s):=by
 unfold gL oy vU
 cases s with
 | nil=>exact⟨rfl,rfl⟩
 | cons c r=>
  have h:sat (c::r) 0=some (c.toNat:Int):=gD (i:=0) rfl
  have hc:decide ((c.toNat:Int)=48)=decide (c=48):=by
   rw[decide_eq_decide]
   exact⟨fun h=>UInt8.toNat_inj.1 (by simpa using(by omega:c.toNat=48)),fun h=>by rw[h];rfl⟩
  have hl:decide ((0:Int)<((c::r).length:Int))=true:=decide_eq_true (by simp only[List.length_cons];omega)
  rw[h,hl]
  by_cases e:c::r=[48]
  ·rw[e];exact⟨rfl,rfl⟩
  ·simp[gd,e,hc]
theorem Dh (d:UInt8):pd d=true↔¬ ((d.toNat:Int)<48)∧¬ (57<(d.toNat:Int)):=by
 unfold pd;simp only[Bool.and_eq_true,decide_eq_true_eq];omega
theorem vk (s:List UInt8) (hl:s.length<4611686018427387904):kV s=some (BW s):=by
 refine i7 (L:=fun f (_:Unit) i=>dG s f i) (n:=s.length) hl (fun i _=>(s.take i).all pd=true) (fun f i _ hi hI=> ?_) (fun f _ hI=> ?_) () (by simp)
 ·obtain⟨d,hd⟩:=bZ hi
  simp only[dG]
  rw[if_pos (bX hi),gD hd,Option.bind_some]
  by_cases h:pd d=true
  ·left
   obtain⟨h1,h2⟩:=(Dh d).1 h
   refine⟨(),by rw[bT hd,List.all_append,hI];simp[h],?_⟩
   simp only[gd,h1,h2,decide_false,Bool.not_false,if_true,Option.bind_some,Bool.or_false,Bool.false_eq_true,if_false,ni (show i<4611686018427387904 by omega)]
  ·right
   have hn:BW s=false:=by
    unfold BW;rw[Bool.eq_false_iff];intro h'
    exact h (List.all_eq_true.1 (Bool.and_eq_true _ _ ▸h').1 d (List.mem_of_getElem? hd))
   rw[hn]
   by_cases h1:(d.toNat:Int)<48
   ·simp[gd,h1]
   ·have h2:57<(d.toNat:Int):=Classical.byContradiction fun h2=>h ((Dh d).2 ⟨h1,h2⟩)
    simp[gd,h1];omega
 ·rw[List.take_length]at hI
  simp only[dG]
  rw[if_neg (by simp),(KN s).1];unfold BW;rw[hI,Bool.true_and]
def np (neg:Bool):Nat:=if neg then 9223372036854775808 else 9223372036854775807
def Kh (neg:Bool) (n:Nat):Int:=if neg then -(n:Int)else n
def JQ (s:List UInt8) (neg:Bool):Int×Bool:=if cB s≤np neg then(Kh neg (cB s),true)else(0,false)
theorem Jk (neg:Bool):np neg≤9223372036854775808:=by unfold np;split<;>omega
theorem DX {s:List UInt8} (i:Nat):cB (s.take i)≤cB s:=by
 have e:cB s=ic (cB (s.take i)) (s.drop i):=by
  unfold cB ic;rw[← List.foldl_append,List.take_append_drop]
 rw[e]
 have h:=o9 (s.drop i) (cB (s.take i))
 exact Nat.le_trans (Nat.le_mul_of_pos_right _ (Nat.pow_pos (by omega))) h
theorem DY {s:List UInt8} {i:Nat} {c:UInt8} (h:s[i]? =some c):cB (s.take (i+1))=10 * cB (s.take i)+(c.toNat - 48):=by
 rw[bT h];unfold cB;exact nY _ _ _
theorem FL {c:UInt8} (h:pd c=true):48≤c.toNat∧c.toNat≤57:=by
 unfold pd at h;simpa using h
theorem Gj {c:UInt8} (h:pd c=true):H5 ((c.toNat:Int) - 48)=(c.toNat:Int) - 48:=by
 have:=FL h
 exact J1 (p:=(c.toNat:Int) - 48) ⟨by omega,by omega⟩
theorem us (neg:Bool) {n:Nat} (h:n≤np neg):im neg (n:Int)=some (Kh neg n,true):=by
 unfold im Kh
 unfold np at h
 cases neg with
 | false=>
  simp only[Bool.false_eq_true,if_false]at h ⊢
  rw[wi ⟨by omega,by omega⟩]
 | true=>
  simp only[if_true]at h ⊢
  by_cases e:n=9223372036854775808
  ·subst e;rfl
  ·rw[wi (p:=(n:Int)) ⟨by omega,by omega⟩,wi ⟨by omega,by omega⟩]
theorem sn (s:List UInt8) (neg:Bool) (hl:s.length<4611686018427387904) (hd:s.all pd=true):dt s (np neg:Int) neg fu 0 0=some (JQ s neg):=by
 refine i7 (L:=fun f (n:Int) i=>dt s (np neg:Int) neg f n i) (n:=s.length) hl (fun i n=>n=(cB (s.take i):Int)∧cB (s.take i)≤np neg) (fun f i n hi hI=> ?_) (fun f n hI=> ?_) 0 (by simp[cB,ic])
 ·obtain⟨c,hc⟩:=bZ hi
  obtain⟨rfl,h2⟩:=hI
  have hdc:=List.all_eq_true.1 hd c (List.mem_of_getElem? hc)
  have hb:=FL hdc
  have hL:=Jk neg
  have hL2:9223372036854775807≤np neg:=by unfold np;split<;>omega
  have e1:ei ((c.toNat:Int) - 48)=(c.toNat:Int) - 48:=wu ⟨by omega,by omega⟩
  have e2:ei ((np neg:Int) - ((c.toNat:Int) - 48))=(np neg:Int) - ((c.toNat:Int) - 48):=wu ⟨by omega,by omega⟩
  have e3:Int.tdiv ((np neg:Int) - ((c.toNat:Int) - 48)) 10=((np neg:Int) - ((c.toNat:Int) - 48)) / 10:=Int.tdiv_eq_ediv_of_nonneg (by omega)
  simp only[dt]
  rw[if_pos (bX hi),gD hc,Option.bind_some,Gj hdc,e1,e2,e3,wu (p:=((np neg:Int) - ((c.toNat:Int) - 48)) / 10) ⟨by omega,by omega⟩]
  have hs:=DY hc
  by_cases h:((np neg:Int) - ((c.toNat:Int) - 48)) / 10<(cB (s.take i):Int)
  ·right
   rw[if_pos (by simpa using h)]
   have:=DX (s:=s) (i+1)
   unfold JQ
   rw[if_neg (by omega)]
  ·left
   have h3:cB (s.take (i+1))≤np neg:=by omega
   refine⟨(cB (s.take (i+1)):Int),⟨rfl,h3⟩,?_⟩
   rw[if_neg (by simpa using h),Option.bind_some,wu (p:=10 * (cB (s.take i):Int)) ⟨by omega,by omega⟩,wu ⟨by omega,by omega⟩,ni (show i<4611686018427387904 by omega)]
   congr 1;omega
 ·obtain⟨rfl,h2⟩:=hI
  rw[List.take_length]at h2 ⊢
  simp only[dt]
  rw[if_neg (by simp),us neg h2]
  unfold JQ;rw[if_pos h2]
theorem rk (s:List UInt8) (neg:Bool) (hl:s.length<4611686018427387904) (hd:s.all pd=true):iJ s neg=some (JQ s neg):=by
 have h:=sn s neg hl hd
 unfold iJ io
 cases neg with
 | false=>rw[show((np false:Nat):Int)=9223372036854775807 from rfl]at h;rw[if_neg (by simp),h]
 | true=>rw[show((np true:Nat):Int)=9223372036854775808 from rfl]at h;rw[if_pos rfl,h]
end Go.Proofs.YtmhoikfoogemnaaGreatDoor
