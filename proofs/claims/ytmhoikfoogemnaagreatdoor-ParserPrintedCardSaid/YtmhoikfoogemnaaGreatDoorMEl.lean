import Derived.Lib.ItoaNum
import Derived.Test.YtmhoikfoogemnaaGreatDoorMFv
import Derived.Test.YtmhoikfoogemnaaGreatDoorMFs
namespace Go.Proofs.YtmhoikfoogemnaaGreatDoor.Z01
open Go Go.RowKit Go.Vc
set_option linter.unusedVariables false
set_option linter.unusedSimpArgs false
theorem nY (n:Nat) (s:List UInt8) (c:UInt8):ic n (s++[c])=10 * ic n s+(c.toNat - 48):=by
 unfold ic;rw[List.foldl_append];rfl
theorem yD {u:Nat} (h:u<10):(UInt8.ofNat (48+u)).toNat=48+u:=by
 rw[UInt8.toNat_ofNat'];omega
theorem AH {u:Nat} (h:u<10):pd (UInt8.ofNat (48+u))=true:=by
 unfold pd;rw[yD h];simp<;>omega
theorem gr {u:Nat} (h:u<10):Lib.decDigits u=[UInt8.ofNat (48+u)]:=by rw[Lib.decDigits,dif_pos h]
theorem qA {u:Nat} (h:¬ u<10):Lib.decDigits u=Lib.decDigits (u / 10)++[UInt8.ofNat (48+u % 10)]:=by rw[Lib.decDigits,dif_neg h]
theorem sF {s t:List UInt8} (h:s≠[]):(s++t).head?=s.head?:=by cases s with | nil=>exact absurd rfl h | cons c r=>rfl
theorem ja (u:Nat):(Lib.decDigits u).all pd=true∧cB (Lib.decDigits u)=u∧Lib.decDigits u≠[]∧(u≠0→(Lib.decDigits u).head?≠some 48):=by
 induction u using Nat.strongRecOn with
 | _ u ih=>
  by_cases h:u<10
  ·rw[gr h]
   refine⟨by rw[List.all_cons,AH h];rfl,?_,by simp,fun h0=> ?_⟩
   ·unfold cB;rw[gH];simp only[ic,List.foldl_nil];rw[yD h];omega
   ·rw[List.head?_cons]
    intro e
    injection e with e
    have:=congrArg UInt8.toNat e
    rw[yD h]at this
    simp at this;omega
  ·obtain⟨h1,h2,h3,h4⟩:=ih (u / 10) (by omega)
   rw[qA h]
   have hm:u % 10<10:=by omega
   refine⟨by rw[List.all_append,h1,List.all_cons,AH hm];rfl,?_,by simp,fun h0=> ?_⟩
   ·unfold cB at h2 ⊢;rw[nY,h2,yD hm];omega
   ·rw[sF h3];exact h4 (by omega)
theorem Di (u:Nat):pg (Lib.decDigits u)=true:=by
 obtain⟨h1,h2,h3,h4⟩:=ja u
 unfold pg
 rw[h1]
 by_cases h:u=0
 ·subst h;rw[gr (by omega)];rfl
 ·simp[h3,h4 h]
theorem yX:∀ (n:Nat) (s:List UInt8),s.length=n→pg s=true→Lib.decDigits (cB s)=s
 | 0,s,hn,h=>absurd (List.eq_nil_of_length_eq_zero hn) (pf h).2.1
 | n+1,s,hn,h=>by
  obtain⟨h1,h2,h3⟩:=pf h
  have hs:=List.dropLast_concat_getLast h2
  have hlen:s.dropLast.length=n:=by rw[List.length_dropLast];omega
  generalize s.getLast h2=c at hs
  generalize s.dropLast=t at hs hlen
  subst hs
  simp only[List.all_append,List.all_cons,List.all_nil,Bool.and_true,Bool.and_eq_true]at h1
  have hc:=h1.2
  simp only[pd,Bool.and_eq_true,decide_eq_true_eq]at hc
  have hd:cB (t++[c])=10 * cB t+(c.toNat - 48):=nY 0 t c
  have e1:UInt8.ofNat (48+(c.toNat - 48))=c:=by rw[show 48+(c.toNat - 48)=c.toNat by omega];exact UInt8.ofNat_toNat
  rw[hd]
  by_cases ht:t=[]
  ·subst ht
   rw[show 10 * cB []+(c.toNat - 48)=c.toNat - 48 by simp[cB,ic],gr (by omega),e1];rfl
  ·have h4:t.head?≠some 48:=by
    have h5:=h3.resolve_left (fun e=>by
     have h6:=congrArg List.length e
     have:=Jj ht
     rw[List.length_append]at h6
     simp only[List.length_cons,List.length_nil]at h6
     omega)
    rwa [sF ht]at h5
   have hb:pg t=true:=by unfold pg;rw[h1.1];simp[ht,h4]
   have hne:t≠[48]:=fun e=>by rw[e]at h4;simp at h4
   have hp:=AE hb hne
   rw[qA (by omega),show(10 * cB t+(c.toNat - 48)) / 10=cB t by omega,show(10 * cB t+(c.toNat - 48)) % 10=c.toNat - 48 by omega,e1,yX n t hlen hb]
theorem pP {u:Nat} (h:u<10000000000):(Lib.decDigits u).length≤10:=by
 obtain⟨h1,h2,h3,h4⟩:=ja u
 by_cases h0:10<(Lib.decDigits u).length
 ·obtain⟨c,r,he⟩:∃ c r,Lib.decDigits u=c::r:=by cases hd:Lib.decDigits u with | nil=>exact absurd hd h3 | cons c r=>exact⟨c,r,rfl⟩
  rw[he]at h0 h1 h2 h4
  by_cases hu:u=0
  ·subst hu;rw[gr (by omega)]at he;injection he with _ he;subst he;simp at h0
  ·have hne:=h4 hu
   simp only[List.all_cons,Bool.and_eq_true]at h1
   have hc:=h1.1
   simp only[pd,Bool.and_eq_true,decide_eq_true_eq]at hc
   have hne:c.toNat≠48:=fun e=>hne (by rw[List.head?_cons];congr 1;exact UInt8.toNat_inj.1 (by simpa using e))
   unfold cB at h2
   rw[gH]at h2
   have hb:=o9 r (10 * 0+(c.toNat - 48))
   have hp:10 ^ 10≤10 ^ r.length:=Nat.pow_le_pow_right (by omega) (by simp at h0;omega)
   have:1 * 10 ^ r.length≤(10 * 0+(c.toNat - 48)) * 10 ^ r.length:=Nat.mul_le_mul_right _ (by omega)
   omega
 ·omega
theorem k7 {n:Int} (h:0≤n):Lib.itoa n=Lib.decDigits n.toNat:=by unfold Lib.itoa;rw[if_neg (by omega)]
theorem mV {n:Int} (h:n<0):Lib.itoa n=45::Lib.decDigits n.natAbs:=by unfold Lib.itoa;rw[if_pos h]
theorem jT:∀ (f:Nat) (u:Nat) (s:List UInt8),u<f→u<18446744073709551616→(Lib.decDigits u).length+s.length≤4294967296→es f u s=some (Lib.decDigits u++s)
 | 0,_,_,h,_,_=>absurd h (by omega)
 | f+1,u,s,hf,hu,hl=>by
  have hpick:∀ d:Nat,d<10→rE ([48,49,50,51,52,53,54,55,56,57]:List UInt8) (d:Int) (ei ((d:Int)+1))=some [UInt8.ofNat (48+d)]:=fun d hd=>by
   rw[wu (p:=(d:Int)+1) ⟨by omega,by omega⟩]
   unfold rE
   rw[if_pos ⟨by omega,by omega,by simp<;>omega⟩]
   rw[show((d:Int)).toNat=d by omega,show((d:Int)+1).toNat - d=1 by omega]
   have:∀ d:Fin 10,some ((([48,49,50,51,52,53,54,55,56,57]:List UInt8).drop d.val).take 1)=some [UInt8.ofNat (48+d.val)]:=by decide
   exact this ⟨d,hd⟩
  unfold es
  by_cases h:u<10
  ·rw[if_neg (by simp<;>omega),hpick u h,gr h]
   rw[gr h]at hl
   unfold cF
   simp only[Option.bind_some]
   rw[if_pos (by simpa using hl)]
   rfl
  ·rw[if_pos (by simp<;>omega)]
   rw[qA h]at hl ⊢
   simp only[List.length_append,List.length_cons,List.length_nil]at hl
   have e1:Int.tmod (u:Int) 10=((u % 10:Nat):Int):=by rw[Int.tmod_eq_emod_of_nonneg (by omega)];rfl
   have e2:Int.tdiv (u:Int) 10=((u / 10:Nat):Int):=by rw[Int.tdiv_eq_ediv_of_nonneg (by omega)];rfl
   rw[e1,e2,hpick (u % 10) (by omega),wu (p:=((u / 10:Nat):Int)) ⟨by omega,by omega⟩]
   unfold cF
   simp only[Option.bind_some]
   rw[if_pos (by show _ ≤4294967296;simp only[List.length_cons,List.length_nil];omega),Option.bind_some]
   rw[jT f (u / 10) _ (by omega) (by omega) (by simp only[List.length_append,List.length_cons,List.length_nil];omega)]
   simp
theorem mZ {u:Nat} (hu:u<10000000000):hU (u:Int)=some (Lib.decDigits u):=by
 have:=pP hu
 unfold hU
 rw[jT fu u [] (by unfold fu;omega) (by omega) (by simp only[List.length_nil];omega)]
 simp
theorem jJ {n:Int} (h: -2147483647≤n∧n≤2147483647):d9 n=some (Lib.itoa n):=by
 unfold d9
 rw[tt ⟨by omega,by omega⟩]
 by_cases hn:n<0
 ·simp only[hn,decide_true,if_true,Option.bind_some]
  rw[show -n=((n.natAbs:Nat):Int)by omega,mZ (by omega),mV hn]
  have:=pP (u:=n.natAbs) (by omega)
  simp only[Option.bind_some]
  unfold cF
  rw[if_pos (by show 1+ _ ≤4294967296;omega)]
  rfl
 ·simp only[hn,decide_false,Bool.false_eq_true,if_false,Option.bind_some]
  obtain⟨u,rfl⟩:∃ u:Nat,n=u:=⟨n.toNat,by omega⟩
  rw[mZ (by omega),k7 (by omega)]
  rfl
theorem j0 {n:Int} (h: -2147483647≤n∧n≤2147483647):(Lib.itoa n).length≤11:=by
 by_cases hn:n<0
 ·rw[mV hn];have:=pP (u:=n.natAbs) (by omega);simp<;>omega
 ·rw[k7 (by omega)];have:=pP (u:=n.toNat) (by omega);omega
def om (a:bj):List UInt8:=if k8 a then(if a.D=1 then Lib.itoa a.N else Lib.itoa a.N++47::Lib.itoa a.D)else[]
theorem sj {a:bj} (ha:VaR a):il a=some (om a):=by
 unfold il om
 rw[tV ha]
 cases h:k8 a
 ·rfl
 ·obtain⟨a1,a2,a3,a4,a5⟩:=mW h
  simp only[Option.bind_some,Bool.not_true,Bool.false_eq_true,if_false,if_true,jJ ⟨a3,a4⟩,jJ (n:=a.D) ⟨by omega,by omega⟩]
  by_cases hd:a.D=1
  ·simp[hd]
  ·have l1:=j0 (n:=a.N) ⟨a3,a4⟩
   have l2:=j0 (n:=a.D) ⟨by omega,by omega⟩
   simp only[hd,decide_false,Bool.false_eq_true,if_false]
   unfold cF
   rw[if_pos (by show _ +1≤4294967296;omega),Option.bind_some,if_pos (by rw[List.length_append];show _ +1+ _ ≤4294967296;omega)]
   simp
theorem xI {s:List UInt8} (h:s.all pd=true):iC s=none:=by
 induction s with
 | nil=>rfl
 | cons c r ih=>
  simp only[List.all_cons,Bool.and_eq_true]at h
  have hc:c≠47:=fun e=>by subst e;simp[pd]at h
  unfold iC
  rw[if_neg hc,ih h.2];rfl
theorem Bh {s:List UInt8} (h:iC s=none) (r:List UInt8):iC (s++47::r)=some s.length:=by
 induction s with
 | nil=>simp[iC]
 | cons c s ih=>
  unfold iC at h
  split at h
  ·cases h
  ·rename_i hc
   have hn:iC s=none:=by cases hs:iC s with | none=>rfl | some i=>rw[hs]at h;cases h
   rw[List.cons_append,iC,if_neg hc,ih hn];simp
theorem ud (n:Int):iC (Lib.itoa n)=none:=by
 by_cases hn:n<0
 ·rw[mV hn,iC,if_neg (by decide),xI (ja _).1];rfl
 ·rw[k7 (by omega)];exact xI (ja _).1
theorem tz (n:Int):bK (Lib.itoa n)=(decide (n<0),Lib.decDigits n.natAbs):=by
 by_cases hn:n<0
 ·rw[mV hn];simp[bK,hn]
 ·rw[k7 (by omega),yW (ja _).1,show n.natAbs=n.toNat by omega];simp[hn]
theorem vF (n:Int):rz (Lib.itoa n)=true:=by
 unfold rz
 rw[tz,Di]
 by_cases hn:n<0
 ·have:Lib.decDigits n.natAbs≠[48]:=fun e=>by
   have:=(ja n.natAbs).2.1
   rw[e]at this
   simp[cB,ic]at this
   omega
  simp[this]
 ·simp[hn]
theorem so {n d:Int} (h:k8 ⟨n,d⟩=true):m3 (decide (n<0)) (Lib.decDigits n.natAbs) (Lib.decDigits d.toNat)=(⟨n,d⟩,0):=by
 obtain⟨a1,a2,a3,a4,a5⟩:=mW h
 simp only at a1 a2 a3 a4
 unfold m3
 rw[(ja n.natAbs).2.1,(ja d.toNat).2.1,if_pos ⟨by omega,by omega⟩]
 have e1:(if decide (n<0)=true then -((n.natAbs:Nat):Int)else((n.natAbs:Nat):Int))=n:=by
  by_cases hn:n<0
  ·simp[hn]<;>omega
  ·simp[hn]<;>omega
 rw[e1,show((d.toNat:Nat):Int)=d by omega,h];rfl
theorem parse_fmt {a:bj} (h:k8 a=true):parseS (om a)=(a,0):=by
 obtain⟨a1,a2,a3,a4,a5⟩:=mW h
 unfold om
 rw[if_pos h]
 by_cases hd:a.D=1
 ·rw[if_pos hd]
  unfold parseS ox
  rw[ud]
  simp only[vF,if_true,tz]
  have:=so (n:=a.N) (d:=1) (by rw[← hd];exact h)
  rw[show Lib.decDigits (1:Int).toNat=[49]from gr (by decide)]at this
  rw[this, ← hd]
 ·rw[if_neg hd]
  unfold parseS ox
  rw[Bh (ud _)]
  simp only[List.take_left',show ∀ (x y:List UInt8),(x++47::y).drop (x.length+1)=y from fun x y=>by simp,vF,if_true,tz,k7 (show 0≤a.D by omega)]
  have k:cB (Lib.decDigits a.D.toNat)=a.D.toNat:=(ja _).2.1
  have n8:Lib.decDigits a.D.toNat≠[48]:=fun e=>by rw[e]at k;simp[cB,ic]at k;omega
  have n9:Lib.decDigits a.D.toNat≠[49]:=fun e=>by rw[e]at k;simp[cB,ic]at k;omega
  rw[Di]
  simp only[n8,n9,decide_false,Bool.not_false,Bool.and_self,if_true]
  exact so h
theorem xD {s:List UInt8} (h:rz s=true):Lib.itoa (if(bK s).1 then -(cB (bK s).2:Int)else cB (bK s).2)=s:=by
 unfold rz at h
 simp only[Bool.and_eq_true,Bool.not_eq_true',Bool.and_eq_false_iff,decide_eq_false_iff_not]at h
 obtain⟨h1,h2⟩:=h
 revert h1 h2
 unfold bK
 split
 ·rename_i t
  intro h1 h2
  have h8:=h2.resolve_left (by simp)
  have hp:=AE h1 h8
  show Lib.itoa (-(cB t:Int))=45::t
  replace hp:1≤cB t:=hp
  rw[mV (by omega),show(-(cB t:Int)).natAbs=cB t by omega,yX _ t rfl h1]
 ·intro h1 h2
  simp only[Bool.false_eq_true,if_false]
  rw[k7 (by omega),show((cB s:Nat):Int).toNat=cB s by omega,yX _ s rfl h1]
theorem rl {neg:Bool} {d b:List UInt8} {v:bj} (h:m3 neg d b=(v,0)):v=⟨if neg then -(cB d:Int)else cB d,cB b⟩∧k8 v=true:=by
 unfold m3 at h
 by_cases c:cB d≤2147483647∧cB b≤2147483647
 ·rw[if_pos c]at h
  by_cases hf:k8 ⟨if neg=true then -(cB d:Int)else cB d,cB b⟩=true
  ·rw[if_pos hf]at h
   injection h with h _
   subst h;exact⟨rfl,hf⟩
  ·rw[if_neg hf]at h
   injection h with _ h;cases h
 ·rw[if_neg c]at h
  injection h with _ h;cases h
theorem DR {s:List UInt8} {v:bj} (h:parseS s=(v,0)):k8 v=true∧om v=s:=by
 unfold parseS at h
 have no5:((⟨0,0⟩,5):bj×Int)≠(v,0):=fun e=>by injection e with _ e;cases e
 split at h
 ·rename_i hs
  unfold ox at h
  split at h
  ·rename_i hw
   obtain⟨h1,h2⟩:=rl h
   refine⟨h2,?_⟩
   unfold om
   rw[if_pos h2,h1]
   simp only[show((cB [49]:Nat):Int)=1 from rfl,if_true]
   exact xD hw
  ·exact absurd h no5
 ·rename_i i hs
  unfold ox at h
  split at h
  ·rename_i hw
   dsimp only at h
   split at h
   ·rename_i hb
    simp only[Bool.and_eq_true,Bool.not_eq_true',decide_eq_false_iff_not]at hb
    obtain⟨h1,h2⟩:=rl h
    refine⟨h2,?_⟩
    obtain⟨g1,g2,g3⟩:=pf hb.1.1
    have hD:Lib.decDigits (cB (s.drop (i+1)))=s.drop (i+1):=yX _ _ rfl hb.1.1
    have hne:¬ (cB (s.drop (i+1)):Int)=1:=fun e=>by
     rw[show cB (s.drop (i+1))=1 by omega,gr (by omega)]at hD
     exact hb.2 hD.symm
    unfold om
    rw[if_pos h2,h1]
    simp only[hne,if_false]
    rw[xD hw,k7 (by omega),show((cB (s.drop (i+1)):Nat):Int).toNat=cB (s.drop (i+1))by omega,hD]
    have hi:=qR hs
    have hc:s[i]? =some 47:=by
     clear h h1 h2 hb g1 g2 g3 hD hne hw no5 v
     induction s generalizing i with
     | nil=>cases hs
     | cons c r ih=>
      unfold iC at hs
      split at hs
      ·rename_i hc;injection hs with hs;subst hs;simp[hc]
      ·obtain⟨j,hj,rfl⟩:=Option.map_eq_some_iff.1 hs
       simpa using ih j hj (qR hj)
    have hd2:s.drop i=47::s.drop (i+1):=by
     rw[List.drop_eq_getElem_cons hi]
     congr 1
     rw[List.getElem?_eq_getElem hi]at hc
     exact Option.some.inj hc
    rw[← hd2,List.take_append_drop]
   ·exact absurd h no5
  ·exact absurd h no5
end Go.Proofs.YtmhoikfoogemnaaGreatDoor.Z01
namespace Go.Proofs.YtmhoikfoogemnaaGreatDoor.Z01
open Go Go.RowKit Go.Vc
set_option linter.unusedVariables false
set_option linter.unusedSimpArgs false
end Go.Proofs.YtmhoikfoogemnaaGreatDoor.Z01
namespace Go.Proofs.YtmhoikfoogemnaaGreatDoor.Z01
open Go Go.RowKit Go.Vc
set_option linter.unusedVariables false
set_option linter.unusedSimpArgs false
theorem E4 {s:List UInt8} (h:(parseS s).2=0):k8 (parseS s).1=true∧om (parseS s).1=s:=DR (v:=(parseS s).1) (by rw[← h])
def vparse (t:aM) (s:List UInt8):bj×Int:=
 if ol t=true then
  if(parseS s).2≠0 then(⟨0,0⟩,(parseS s).2)
  else if t.Kind=1 then((parseS s).1,0)
  else if t.Kind=3 then(if(parseS s).1.D=1 then((parseS s).1,0)else(⟨0,0⟩,5))
  else if Int.tmod (pw t.Frac) (parseS s).1.D=0 then
   (if tj t ⟨(parseS s).1.N * Int.tdiv (pw t.Frac) (parseS s).1.D,1⟩=true then(⟨(parseS s).1.N * Int.tdiv (pw t.Frac) (parseS s).1.D,1⟩,0)else(⟨0,0⟩,3))
  else(⟨0,0⟩,5)
 else(⟨0,0⟩,10)
theorem Ir {v:bj} {f:Int} (hv:k8 v=true) (h0:0≤f) (h:f≤30):0≤Int.tdiv (pw f) v.D∧Int.tdiv (pw f) v.D≤1073741824∧ -2305843009213693952≤v.N * Int.tdiv (pw f) v.D∧v.N * Int.tdiv (pw f) v.D≤2305843009213693952:=by
 obtain⟨a1,a2,a3,a4,a5⟩:=mW hv
 have hp:=sk h
 have hq:=(Gx (n:=pw f) (d:=v.D) (by omega)).1 (by omega)
 have:=Jg (x:=v.N) (y:=Int.tdiv (pw f) v.D) (B:=2147483648) ⟨by omega,by omega⟩ ⟨by omega,by omega⟩
 have h3:=Int.mul_le_mul_of_nonneg_right a4 hq.1
 have h4:=Int.mul_le_mul_of_nonneg_right a3 hq.1
 refine⟨by omega,by omega,by omega,by omega⟩
theorem value_Parse {t:aM} {s:List UInt8} (hl:s.length≤4294967296):lh t s=some (vparse t s):=by
 unfold lh vparse
 rw[jH]
 cases ht:ol t
 ·rfl
 rw[BN hl]
 simp only[if_true,Option.bind_some,decide_true,Bool.not_true,Bool.false_eq_true,if_false]
 by_cases h0:(parseS s).2=0
 ·obtain⟨hv,_⟩:=E4 h0
  simp only[h0,decide_true,Bool.not_true,Bool.false_eq_true,if_false,ne_eq,not_true_eq_false]
  revert hv
  generalize (parseS s).1=v
  intro hv
  obtain⟨a1,a2,a3,a4,a5⟩:=mW hv
  by_cases k3:t.Kind=3
  ·by_cases hd:v.D=1
   ·simp[k3,hd]
   ·simp[k3,hd]
  by_cases k2:t.Kind=2
  ·obtain⟨q1,q2,q3,q4,q5,q6,q7⟩:=ou ht k2
   have hp:=sk (n:=t.Frac) q4
   obtain⟨b1,b2,b3,b4⟩:=Ir hv q3 q4
   simp only[k2,show decide ((2:Int)=3)=false from rfl,Bool.false_eq_true,if_false,decide_true,if_true,q3,vj q3 q4,Int.one_mul,show ¬ ((2:Int)=1)by decide,show ¬ ((2:Int)=3)by decide,decide_false]
   rw[wi (p:=pw t.Frac) ⟨by omega,by omega⟩,if_pos (by omega),wi (p:=Int.tdiv (pw t.Frac) v.D) ⟨by omega,by omega⟩,wi (p:=v.N * Int.tdiv (pw t.Frac) v.D) ⟨by omega,by omega⟩,uh _ ht k2]
   by_cases hm:Int.tmod (pw t.Frac) v.D=0
   ·cases ho:tj t ⟨v.N * Int.tdiv (pw t.Frac) v.D,1⟩<;>simp[hm]
   ·simp[hm]
  ·have k1:t.Kind=1:=by rcases qk ht with k | k | k;exact k;exact absurd k k2;exact absurd k k3
   simp[k1]
 ·simp[h0]
end Go.Proofs.YtmhoikfoogemnaaGreatDoor.Z01
namespace Go.Proofs.YtmhoikfoogemnaaGreatDoor
open Go Go.RowKit Go.Vc
set_option linter.unusedVariables false
set_option linter.unusedSimpArgs false
variable {L:Cx}
abbrev cE (t:aM) (v:bj):ac:=⟨1,[],v,t,⟨0,[]⟩,[],[]⟩
end Go.Proofs.YtmhoikfoogemnaaGreatDoor
namespace Go.Proofs.YtmhoikfoogemnaaGreatDoor
open Go Go.RowKit Go.Vc
set_option linter.unusedVariables false
set_option linter.unusedSimpArgs false
variable {L:Cx}
def BL (r:PR):Bool:=D9 r&&Jn (A8 r 1) 3 [91]
theorem Iu {r:PR} (h:Rok L r) {β:Type} (A B:Option β):((cA r).bind fun r2=>
 (gd (r2&&(decide (au (r.at_+1)<(r.l.length:Int)))) (lat r.l (au (r.at_+1)))).bind fun e1=>
 (gd ((r2&&(decide (au (r.at_+1)<(r.l.length:Int))))&&(decide (e1.Kind=3))) (lat r.l (au (r.at_+1)))).bind fun e2=>
 if !(((r2&&(decide (au (r.at_+1)<(r.l.length:Int))))&&(decide (e1.Kind=3)))&&(decide (e2.Text=([91]:List UInt8))))then A else B)=if BL r=true then B else A:=by
 have h0:=h.a0
 rw[vm h,Option.bind_some,h.wi1]
 unfold BL
 cases D9 r with
 | false=>simp[gd]
 | true=>
  by_cases c:r.at_+1<r.l.length
  ·obtain⟨t,ht⟩:=bZ (l:=r.l) (i:=r.at_.toNat+1) (by omega)
   have e1:lat r.l (r.at_+1)=some t:=by unfold lat;rw[if_pos (by omega),show(r.at_+1).toNat=r.at_.toNat+1 by omega];exact ht
   have e2:A8 r 1=some t:=ht
   rw[e1,e2,decide_eq_true c]
   by_cases k:t.Kind=3
   ·by_cases k2:t.Text=[91]<;>simp[gd,k,k2,Jn]
   ·simp[gd,k,Jn]
  ·have e2:A8 r 1=none:=List.getElem?_eq_none (by omega)
   rw[e2,decide_eq_false c]
   simp[gd,Jn]
end Go.Proofs.YtmhoikfoogemnaaGreatDoor
namespace Go.Proofs.YtmhoikfoogemnaaGreatDoor
open Go Go.RowKit Go.Vc
set_option linter.unusedVariables false
set_option linter.unusedSimpArgs false
variable {L:Cx}
theorem rj {α:Type} (m:Option (bC (α×PR))):(pb m fun(x:α×PR)=>match x with | (a,s)=>some (.ret (a,s)))=m:=by
 cases m with
 | none=>rfl
 | some p=>cases p<;>rfl
def Gb (r:PR):PR:=⟨r.l,r.at_+1,r.deep+1⟩
def mz (r:PR):PR:=⟨r.l,r.at_,r.deep - 1⟩
abbrev zV:bj:=⟨0,0⟩
abbrev zT:aM:=⟨0,0,0,0,0⟩
abbrev zL:ay:=⟨0,[]⟩
theorem J3 (op:Int) (s:List UInt8) (v:bj) (t:aM) (f:ay) (ix:List av) (args:List ac):wE ⟨op,s,v,t,f,ix,args⟩=1+f.L.length+ix.length+(ix.map wI).sum+(args.map wE).sum:=rW _
end Go.Proofs.YtmhoikfoogemnaaGreatDoor
namespace Go.Proofs.YtmhoikfoogemnaaGreatDoor
open Go Go.RowKit Go.Vc
set_option linter.unusedVariables false
set_option linter.unusedSimpArgs false
variable {L:Cx}
def Bt (s10:PR):Option (bC (ac×PR)):=
 pb (bU s10) fun⟨r20,s15⟩=>
 pb (aA s15 ([91]:List UInt8)) fun⟨r21,s16⟩=>
 (aq s16 ([93]:List UInt8)).bind fun⟨r22,s17⟩=>
 if r22 then
  some (.ret ((⟨3,r20,zV,zT,zL,[],[]⟩:ac),s17))
 else
  pb (de s17) fun⟨r23,s18⟩=>
  bi fu s18 (⟨3,r20,zV,zT,zL,[r23],[]⟩:ac)
abbrev RP:=PR→Option (bC (ac×PR))
abbrev RR:=RS→Int→Option (ac×RS)
abbrev RF (rec':RR) (n:Int):Prop:=∀ p:RS,p.E≠0→∃ y,rec' p n=some (y,p)
theorem Iz {r:PR} (h:Rok L r) (c:wP r 3 [40]=true):cz r=bs r:=by
 unfold cz
 rw[qd h,Option.bind_some,c]
 exact rj _
end Go.Proofs.YtmhoikfoogemnaaGreatDoor
namespace Go.Proofs.YtmhoikfoogemnaaGreatDoor
open Go Go.RowKit Go.Vc
set_option linter.unusedVariables false
set_option linter.unusedSimpArgs false
variable {L:Cx}
abbrev Gl:List UInt8:=[109,105,110]
abbrev Gm:List UInt8:=[109,97,120]
abbrev K0:List UInt8:=[105,102]
abbrev Cn:List UInt8:=[99,97,115,116]
end Go.Proofs.YtmhoikfoogemnaaGreatDoor
