import Derived.Lib.ItoaNum
import Derived.Test.YtmhoikfoogemnaaGreatDoorHFv
namespace Go.Proofs.YtmhoikfoogemnaaGreatDoor.Z01
open Go Go.RowKit Go.Vc
set_option linter.unusedVariables false
set_option linter.unusedSimpArgs false
theorem qt (n:Nat) (s:List UInt8) (c:UInt8):iY n (s++[c])=10 * iY n s+(c.toNat - 48):=by
 unfold iY;rw[List.foldl_append];rfl
theorem Ch {u:Nat} (h:u<10):(UInt8.ofNat (48+u)).toNat=48+u:=by
 rw[UInt8.toNat_ofNat'];omega
theorem Ez {u:Nat} (h:u<10):rC (UInt8.ofNat (48+u))=true:=by
 unfold rC;rw[Ch h];simp<;>omega
theorem io {u:Nat} (h:u<10):Lib.decDigits u=[UInt8.ofNat (48+u)]:=by rw[Lib.decDigits,dif_pos h]
theorem tS {u:Nat} (h:¬ u<10):Lib.decDigits u=Lib.decDigits (u / 10)++[UInt8.ofNat (48+u % 10)]:=by rw[Lib.decDigits,dif_neg h]
theorem wl {s t:List UInt8} (h:s≠[]):(s++t).head?=s.head?:=by cases s with | nil=>exact absurd rfl h | cons c r=>rfl
theorem jJ (u:Nat):(Lib.decDigits u).all rC=true∧cZ (Lib.decDigits u)=u∧Lib.decDigits u≠[]∧(u≠0→(Lib.decDigits u).head?≠some 48):=by
 induction u using Nat.strongRecOn with
 | _ u ih=>
  by_cases h:u<10
  ·rw[io h]
   refine⟨by rw[List.all_cons,Ez h];rfl,?_,by simp,λh0=>?_⟩
   ·unfold cZ;rw[iF];simp only[iY,List.foldl_nil];rw[Ch h];omega
   ·rw[List.head?_cons]
    intro e
    injection e with e
    have:=congrArg UInt8.toNat e
    rw[Ch h]at this
    simp at this;omega
  ·obtain⟨h1,h2,h3,h4⟩:=ih (u / 10) (by omega)
   rw[tS h]
   have hm:u % 10<10:=by omega
   refine⟨by rw[List.all_append,h1,List.all_cons,Ez hm];rfl,?_,by simp,λh0=>?_⟩
   ·unfold cZ at h2 ⊢;rw[qt,h2,Ch hm];omega
   ·rw[wl h3];exact h4 (by omega)
theorem Ht (u:Nat):rE (Lib.decDigits u)=true:=by
 obtain⟨h1,h2,h3,h4⟩:=jJ u
 unfold rE
 rw[h1]
 by_cases h:u=0
 ·subst h;rw[io (by omega)];rfl
 ·simp[h3,h4 h]
theorem CJ:∀ (n:Nat) (s:List UInt8),s.length=n→rE s=true→Lib.decDigits (cZ s)=s
 | 0,s,hn,h=>absurd (List.eq_nil_of_length_eq_zero hn) (rD h).2.1
 | n+1,s,hn,h=>by
  obtain⟨h1,h2,h3⟩:=rD h
  have hs:=List.dropLast_concat_getLast h2
  have hlen:s.dropLast.length=n:=by rw[List.length_dropLast];omega
  generalize s.getLast h2=c at hs
  generalize s.dropLast=t at hs hlen
  subst hs
  simp only[List.all_append,List.all_cons,List.all_nil,Bool.and_true,Bool.and_eq_true]at h1
  have hc:=h1.2
  simp only[rC,Bool.and_eq_true,decide_eq_true_eq]at hc
  have hd:cZ (t++[c])=10 * cZ t+(c.toNat - 48):=qt 0 t c
  have e1:UInt8.ofNat (48+(c.toNat - 48))=c:=by rw[show 48+(c.toNat - 48)=c.toNat by omega];exact UInt8.ofNat_toNat
  rw[hd]
  by_cases ht:t=[]
  ·subst ht
   rw[show 10 * cZ []+(c.toNat - 48)=c.toNat - 48 by simp[cZ,iY],io (by omega),e1];rfl
  ·have h4:t.head?≠some 48:=by
    have h5:=h3.resolve_left (λe=>by
     have h6:=congrArg List.length e
     have:=OK ht
     rw[List.length_append]at h6
     simp only[List.length_cons,List.length_nil]at h6
     omega)
    rwa [wl ht]at h5
   have hb:rE t=true:=by unfold rE;rw[h1.1];simp[ht,h4]
   have hne:t≠[48]:=λe=>by rw[e]at h4;simp at h4
   have hp:=Ew hb hne
   rw[tS (by omega),show(10 * cZ t+(c.toNat - 48)) / 10=cZ t by omega,show(10 * cZ t+(c.toNat - 48)) % 10=c.toNat - 48 by omega,e1,CJ n t hlen hb]
theorem sA {u:Nat} (h:u<10000000000):(Lib.decDigits u).length≤10:=by
 obtain⟨h1,h2,h3,h4⟩:=jJ u
 by_cases h0:10<(Lib.decDigits u).length
 ·obtain⟨c,r,he⟩:∃ c r,Lib.decDigits u=c::r:=by cases hd:Lib.decDigits u with | nil=>exact absurd hd h3 | cons c r=>exact⟨c,r,rfl⟩
  rw[he]at h0 h1 h2 h4
  by_cases hu:u=0
  ·subst hu;rw[io (by omega)]at he;injection he with _ he;subst he;simp at h0
  ·have hne:=h4 hu
   simp only[List.all_cons,Bool.and_eq_true]at h1
   have hc:=h1.1
   simp only[rC,Bool.and_eq_true,decide_eq_true_eq]at hc
   have hne:c.toNat≠48:=λe=>hne (by rw[List.head?_cons];congr 1;exact UInt8.toNat_inj.1 (by simpa using e))
   unfold cZ at h2
   rw[iF]at h2
   have hb:=rA r (10 * 0+(c.toNat - 48))
   have hp:10 ^ 10≤10 ^ r.length:=Nat.pow_le_pow_right (by omega) (by simp at h0;omega)
   have:1 * 10 ^ r.length≤(10 * 0+(c.toNat - 48)) * 10 ^ r.length:=Nat.mul_le_mul_right _ (by omega)
   omega
 ·omega
theorem mz {n:Int} (h:0≤n):Lib.itoa n=Lib.decDigits n.toNat:=by unfold Lib.itoa;rw[if_neg (by omega)]
theorem oV {n:Int} (h:n<0):Lib.itoa n=45::Lib.decDigits n.natAbs:=by unfold Lib.itoa;rw[if_pos h]
theorem kY:∀ (f:Nat) (u:Nat) (s:List UInt8),u<f→u<18446744073709551616→(Lib.decDigits u).length+s.length≤4294967296→fp f u s=some (Lib.decDigits u++s)
 | 0,_,_,h,_,_=>absurd h (by omega)
 | f+1,u,s,hf,hu,hl=>by
  have hpick:∀ d:Nat,d<10→vh ([48,49,50,51,52,53,54,55,56,57]:List UInt8) (d:Int) (fi ((d:Int)+1))=some [UInt8.ofNat (48+d)]:=λd hd=>by
   rw[wu (p:=(d:Int)+1) ⟨by omega,by omega⟩]
   unfold vh
   rw[if_pos ⟨by omega,by omega,by simp<;>omega⟩]
   rw[show((d:Int)).toNat=d by omega,show((d:Int)+1).toNat - d=1 by omega]
   have:∀ d:Fin 10,some ((([48,49,50,51,52,53,54,55,56,57]:List UInt8).drop d.val).take 1)=some [UInt8.ofNat (48+d.val)]:=by decide
   exact this ⟨d,hd⟩
  unfold fp
  by_cases h:u<10
  ·rw[if_neg (by simp<;>omega),hpick u h,io h]
   rw[io h]at hl
   unfold bt
   simp only[Option.bind_some]
   rw[if_pos (by simpa using hl)]
   rfl
  ·rw[if_pos (by simp<;>omega)]
   rw[tS h]at hl ⊢
   simp only[List.length_append,List.length_cons,List.length_nil]at hl
   have e1:Int.tmod (u:Int) 10=((u % 10:Nat):Int):=by rw[Int.tmod_eq_emod_of_nonneg (by omega)];rfl
   have e2:Int.tdiv (u:Int) 10=((u / 10:Nat):Int):=by rw[Int.tdiv_eq_ediv_of_nonneg (by omega)];rfl
   rw[e1,e2,hpick (u % 10) (by omega),wu (p:=((u / 10:Nat):Int)) ⟨by omega,by omega⟩]
   unfold bt
   simp only[Option.bind_some]
   rw[if_pos (by show _ ≤4294967296;simp only[List.length_cons,List.length_nil];omega),Option.bind_some]
   rw[kY f (u / 10) _ (by omega) (by omega) (by simp only[List.length_append,List.length_cons,List.length_nil];omega)]
   simp
theorem o7 {u:Nat} (hu:u<10000000000):iV (u:Int)=some (Lib.decDigits u):=by
 have:=sA hu
 unfold iV
 rw[kY fu u [] (by unfold fu;omega) (by omega) (by simp only[List.length_nil];omega)]
 simp
theorem kN {n:Int} (h: -2147483647≤n∧n≤2147483647):eW n=some (Lib.itoa n):=by
 unfold eW
 rw[wO ⟨by omega,by omega⟩]
 by_cases hn:n<0
 ·simp only[hn,decide_true,if_true,Option.bind_some]
  rw[show -n=((n.natAbs:Nat):Int)by omega,o7 (by omega),oV hn]
  have:=sA (u:=n.natAbs) (by omega)
  simp only[Option.bind_some]
  unfold bt
  rw[if_pos (by show 1+ _ ≤4294967296;omega)]
  rfl
 ·simp only[hn,decide_false,Bool.false_eq_true,if_false,Option.bind_some]
  obtain⟨u,rfl⟩:∃ u:Nat,n=u:=⟨n.toNat,by omega⟩
  rw[o7 (by omega),mz (by omega)]
  rfl
theorem lj {n:Int} (h: -2147483647≤n∧n≤2147483647):(Lib.itoa n).length≤11:=by
 by_cases hn:n<0
 ·rw[oV hn];have:=sA (u:=n.natAbs) (by omega);simp<;>omega
 ·rw[mz (by omega)];have:=sA (u:=n.toNat) (by omega);omega
def qH (a:co):List UInt8:=if mA a then(if a.D=1 then Lib.itoa a.N else Lib.itoa a.N++47::Lib.itoa a.D)else[]
theorem vX {a:co} (ha:VaR a):ja a=some (qH a):=by
 unfold ja qH
 rw[xu ha]
 cases h:mA a
 ·rfl
 ·obtain⟨a1,a2,a3,a4,a5⟩:=oX h
  simp only[Option.bind_some,Bool.not_true,Bool.false_eq_true,if_false,if_true,kN ⟨a3,a4⟩,kN (n:=a.D) ⟨by omega,by omega⟩]
  by_cases hd:a.D=1
  ·simp[hd]
  ·have l1:=lj (n:=a.N) ⟨a3,a4⟩
   have l2:=lj (n:=a.D) ⟨by omega,by omega⟩
   simp only[hd,decide_false,Bool.false_eq_true,if_false]
   unfold bt
   rw[if_pos (by show _ +1≤4294967296;omega),Option.bind_some,if_pos (by rw[List.length_append];show _ +1+ _ ≤4294967296;omega)]
   simp
theorem Bb {s:List UInt8} (h:s.all rC=true):jl s=none:=by
 induction s with
 | nil=>rfl
 | cons c r ih=>
  simp only[List.all_cons,Bool.and_eq_true]at h
  have hc:c≠47:=λe=>by subst e;simp[rC]at h
  unfold jl
  rw[if_neg hc,ih h.2];rfl
theorem Fg {s:List UInt8} (h:jl s=none) (r:List UInt8):jl (s++47::r)=some s.length:=by
 induction s with
 | nil=>simp[jl]
 | cons c s ih=>
  unfold jl at h
  split at h
  ·cases h
  ·rename_i hc
   have hn:jl s=none:=by cases hs:jl s with | none=>rfl | some i=>rw[hs]at h;cases h
   rw[List.cons_append,jl,if_neg hc,ih hn];simp
theorem xC (n:Int):jl (Lib.itoa n)=none:=by
 by_cases hn:n<0
 ·rw[oV hn,jl,if_neg (by decide),Bb (jJ _).1];rfl
 ·rw[mz (by omega)];exact Bb (jJ _).1
theorem wV (n:Int):cc (Lib.itoa n)=(decide (n<0),Lib.decDigits n.natAbs):=by
 by_cases hn:n<0
 ·rw[oV hn];simp[cc,hn]
 ·rw[mz (by omega),CH (jJ _).1,show n.natAbs=n.toNat by omega];simp[hn]
theorem y8 (n:Int):va (Lib.itoa n)=true:=by
 unfold va
 rw[wV,Ht]
 by_cases hn:n<0
 ·have:Lib.decDigits n.natAbs≠[48]:=λe=>by
   have:=(jJ n.natAbs).2.1
   rw[e]at this
   simp[cZ,iY]at this
   omega
  simp[this]
 ·simp[hn]
theorem v8 {n d:Int} (h:mA ⟨n,d⟩=true):o8 (decide (n<0)) (Lib.decDigits n.natAbs) (Lib.decDigits d.toNat)=(⟨n,d⟩,0):=by
 obtain⟨a1,a2,a3,a4,a5⟩:=oX h
 simp only at a1 a2 a3 a4
 unfold o8
 rw[(jJ n.natAbs).2.1,(jJ d.toNat).2.1,if_pos ⟨by omega,by omega⟩]
 have e1:(if decide (n<0)=true then -((n.natAbs:Nat):Int)else((n.natAbs:Nat):Int))=n:=by
  by_cases hn:n<0
  ·simp[hn]<;>omega
  ·simp[hn]<;>omega
 rw[e1,show((d.toNat:Nat):Int)=d by omega,h];rfl
theorem parse_fmt {a:co} (h:mA a=true):parseS (qH a)=(a,0):=by
 obtain⟨a1,a2,a3,a4,a5⟩:=oX h
 unfold qH
 rw[if_pos h]
 by_cases hd:a.D=1
 ·rw[if_pos hd]
  unfold parseS qP
  rw[xC]
  simp only[y8,if_true,wV]
  have:=v8 (n:=a.N) (d:=1) (by rw[← hd];exact h)
  rw[show Lib.decDigits (1:Int).toNat=[49]from io (by decide)]at this
  rw[this, ← hd]
 ·rw[if_neg hd]
  unfold parseS qP
  rw[Fg (xC _)]
  simp only[List.take_left',show ∀ (x y:List UInt8),(x++47::y).drop (x.length+1)=y from λx y=>by simp,y8,if_true,wV,mz (show 0≤a.D by omega)]
  have k:cZ (Lib.decDigits a.D.toNat)=a.D.toNat:=(jJ _).2.1
  have n8:Lib.decDigits a.D.toNat≠[48]:=λe=>by rw[e]at k;simp[cZ,iY]at k;omega
  have n9:Lib.decDigits a.D.toNat≠[49]:=λe=>by rw[e]at k;simp[cZ,iY]at k;omega
  rw[Ht]
  simp only[n8,n9,decide_false,Bool.not_false,Bool.and_self,if_true]
  exact v8 h
theorem AX {s:List UInt8} (h:va s=true):Lib.itoa (if(cc s).1 then -(cZ (cc s).2:Int)else cZ (cc s).2)=s:=by
 unfold va at h
 simp only[Bool.and_eq_true,Bool.not_eq_true',Bool.and_eq_false_iff,decide_eq_false_iff_not]at h
 obtain⟨h1,h2⟩:=h
 revert h1 h2
 unfold cc
 split
 ·rename_i t
  intro h1 h2
  have h8:=h2.resolve_left (by simp)
  have hp:=Ew h1 h8
  show Lib.itoa (-(cZ t:Int))=45::t
  replace hp:1≤cZ t:=hp
  rw[oV (by omega),show(-(cZ t:Int)).natAbs=cZ t by omega,CJ _ t rfl h1]
 ·intro h1 h2
  simp only[Bool.false_eq_true,if_false]
  rw[mz (by omega),show((cZ s:Nat):Int).toNat=cZ s by omega,CJ _ s rfl h1]
theorem uN {neg:Bool} {d b:List UInt8} {v:co} (h:o8 neg d b=(v,0)):v=⟨if neg then -(cZ d:Int)else cZ d,cZ b⟩∧mA v=true:=by
 unfold o8 at h
 by_cases c:cZ d≤2147483647∧cZ b≤2147483647
 ·rw[if_pos c]at h
  by_cases hf:mA ⟨if neg=true then -(cZ d:Int)else cZ d,cZ b⟩=true
  ·rw[if_pos hf]at h
   injection h with h _
   subst h;exact⟨rfl,hf⟩
  ·rw[if_neg hf]at h
   injection h with _ h;cases h
 ·rw[if_neg c]at h
  injection h with _ h;cases h
theorem H7 {s:List UInt8} {v:co} (h:parseS s=(v,0)):mA v=true∧qH v=s:=by
 unfold parseS at h
 have no5:((⟨0,0⟩,5):co×Int)≠(v,0):=λe=>by injection e with _ e;cases e
 split at h
 ·rename_i hs
  unfold qP at h
  split at h
  ·rename_i hw
   obtain⟨h1,h2⟩:=uN h
   refine⟨h2,?_⟩
   unfold qH
   rw[if_pos h2,h1]
   simp only[show((cZ [49]:Nat):Int)=1 from rfl,if_true]
   exact AX hw
  ·exact absurd h no5
 ·rename_i i hs
  unfold qP at h
  split at h
  ·rename_i hw
   dsimp only at h
   split at h
   ·rename_i hb
    simp only[Bool.and_eq_true,Bool.not_eq_true',decide_eq_false_iff_not]at hb
    obtain⟨h1,h2⟩:=uN h
    refine⟨h2,?_⟩
    obtain⟨g1,g2,g3⟩:=rD hb.1.1
    have hD:Lib.decDigits (cZ (s.drop (i+1)))=s.drop (i+1):=CJ _ _ rfl hb.1.1
    have hne:¬ (cZ (s.drop (i+1)):Int)=1:=λe=>by
     rw[show cZ (s.drop (i+1))=1 by omega,io (by omega)]at hD
     exact hb.2 hD.symm
    unfold qH
    rw[if_pos h2,h1]
    simp only[hne,if_false]
    rw[AX hw,mz (by omega),show((cZ (s.drop (i+1)):Nat):Int).toNat=cZ (s.drop (i+1))by omega,hD]
    have hi:=uj hs
    have hc:s[i]? =some 47:=by
     clear h h1 h2 hb g1 g2 g3 hD hne hw no5 v
     induction s generalizing i with
     | nil=>cases hs
     | cons c r ih=>
      unfold jl at hs
      split at hs
      ·rename_i hc;injection hs with hs;subst hs;simp[hc]
      ·obtain⟨j,hj,rfl⟩:=Option.map_eq_some_iff.1 hs
       simpa using ih j hj (uj hj)
    have hd2:s.drop i=47::s.drop (i+1):=by
     rw[List.drop_eq_getElem_cons hi]
     congr 1
     rw[List.getElem?_eq_getElem hi]at hc
     exact Option.some.inj hc
    rw[← hd2,List.take_append_drop]
   ·exact absurd h no5
  ·exact absurd h no5
end Go.Proofs.YtmhoikfoogemnaaGreatDoor.Z01
namespace Go.Proofs.YtmhoikfoogemnaaGreatDoor.Z01
open Go Go.RowKit Go.Vc
set_option linter.unusedVariables false
set_option linter.unusedSimpArgs false
end Go.Proofs.YtmhoikfoogemnaaGreatDoor.Z01
namespace Go.Proofs.YtmhoikfoogemnaaGreatDoor.Z01
open Go Go.RowKit Go.Vc
set_option linter.unusedVariables false
set_option linter.unusedSimpArgs false
theorem Jq {s:List UInt8} (h:(parseS s).2=0):mA (parseS s).1=true∧qH (parseS s).1=s:=H7 (v:=(parseS s).1) (by rw[← h])
def vparse (t:bu) (s:List UInt8):co×Int:=
 if pF t=true then
  if(parseS s).2≠0 then(⟨0,0⟩,(parseS s).2)
  else if t.Kind=1 then((parseS s).1,0)
  else if t.Kind=3 then(if(parseS s).1.D=1 then((parseS s).1,0)else(⟨0,0⟩,5))
  else if Int.tmod (pw t.Frac) (parseS s).1.D=0 then
   (if wJ t ⟨(parseS s).1.N * Int.tdiv (pw t.Frac) (parseS s).1.D,1⟩=true then(⟨(parseS s).1.N * Int.tdiv (pw t.Frac) (parseS s).1.D,1⟩,0)else(⟨0,0⟩,3))
  else(⟨0,0⟩,5)
 else(⟨0,0⟩,10)
theorem NF {v:co} {f:Int} (hv:mA v=true) (h0:0≤f) (h:f≤30):0≤Int.tdiv (pw f) v.D∧Int.tdiv (pw f) v.D≤1073741824∧ -2305843009213693952≤v.N * Int.tdiv (pw f) v.D∧v.N * Int.tdiv (pw f) v.D≤2305843009213693952:=by
 obtain⟨a1,a2,a3,a4,a5⟩:=oX hv
 have hp:=vY h
 have hq:=(La (n:=pw f) (d:=v.D) (by omega)).1 (by omega)
 have:=OH (x:=v.N) (y:=Int.tdiv (pw f) v.D) (B:=2147483648) ⟨by omega,by omega⟩ ⟨by omega,by omega⟩
 have h3:=Int.mul_le_mul_of_nonneg_right a4 hq.1
 have h4:=Int.mul_le_mul_of_nonneg_right a3 hq.1
 refine⟨by omega,by omega,by omega,by omega⟩
theorem value_Parse {t:bu} {s:List UInt8} (hl:s.length≤4294967296):mM t s=some (vparse t s):=by
 unfold mM vparse
 rw[kL]
 cases ht:pF t
 ·rfl
 rw[FR hl]
 simp only[if_true,Option.bind_some,decide_true,Bool.not_true,Bool.false_eq_true,if_false]
 by_cases h0:(parseS s).2=0
 ·obtain⟨hv,_⟩:=Jq h0
  simp only[h0,decide_true,Bool.not_true,Bool.false_eq_true,if_false,ne_eq,not_true_eq_false]
  revert hv
  generalize (parseS s).1=v
  intro hv
  obtain⟨a1,a2,a3,a4,a5⟩:=oX hv
  by_cases k3:t.Kind=3
  ·by_cases hd:v.D=1
   ·simp[k3,hd]
   ·simp[k3,hd]
  by_cases k2:t.Kind=2
  ·obtain⟨q1,q2,q3,q4,q5,q6,q7⟩:=qN ht k2
   have hp:=vY (n:=t.Frac) q4
   obtain⟨b1,b2,b3,b4⟩:=NF hv q3 q4
   simp only[k2,show decide ((2:Int)=3)=false from rfl,Bool.false_eq_true,if_false,decide_true,if_true,q3,yJ q3 q4,Int.one_mul,show ¬ ((2:Int)=1)by decide,show ¬ ((2:Int)=3)by decide,decide_false]
   rw[wi (p:=pw t.Frac) ⟨by omega,by omega⟩,if_pos (by omega),wi (p:=Int.tdiv (pw t.Frac) v.D) ⟨by omega,by omega⟩,wi (p:=v.N * Int.tdiv (pw t.Frac) v.D) ⟨by omega,by omega⟩,xI _ ht k2]
   by_cases hm:Int.tmod (pw t.Frac) v.D=0
   ·cases ho:wJ t ⟨v.N * Int.tdiv (pw t.Frac) v.D,1⟩<;>simp[hm]
   ·simp[hm]
  ·have k1:t.Kind=1:=by rcases tt ht with k | k | k;exact k;exact absurd k k2;exact absurd k k3
   simp[k1]
 ·simp[h0]
end Go.Proofs.YtmhoikfoogemnaaGreatDoor.Z01
namespace Go.Proofs.YtmhoikfoogemnaaGreatDoor
open Go Go.RowKit Go.Vc
set_option linter.unusedVariables false
set_option linter.unusedSimpArgs false
variable {L:Cx}
abbrev cE (t:bu) (v:co):ae:=⟨1,[],v,t,⟨0,[]⟩,[],[]⟩
end Go.Proofs.YtmhoikfoogemnaaGreatDoor
namespace Go.Proofs.YtmhoikfoogemnaaGreatDoor
open Go Go.RowKit Go.Vc
set_option linter.unusedVariables false
set_option linter.unusedSimpArgs false
variable {L:Cx}
def FP (r:PR):Bool:=Ir r&&OT (Dy r 1) 3 [91]
theorem NK {r:PR} (h:Rok L r) {β:Type} (A B:Option β):((cX r).bind λr2=>
 (gd (r2&&(decide (av (r.at_+1)<(r.l.length:Int)))) (lat r.l (av (r.at_+1)))).bind λe1=>
 (gd ((r2&&(decide (av (r.at_+1)<(r.l.length:Int))))&&(decide (e1.Kind=3))) (lat r.l (av (r.at_+1)))).bind λe2=>
 if !(((r2&&(decide (av (r.at_+1)<(r.l.length:Int))))&&(decide (e1.Kind=3)))&&(decide (e2.Text=([91]:List UInt8))))then A else B)=if FP r=true then B else A:=by
 have h0:=h.a0
 rw[yN h,Option.bind_some,h.wi1]
 unfold FP
 cases Ir r with
 | false=>simp[gd]
 | true=>
  by_cases c:r.at_+1<r.l.length
  ·obtain⟨t,ht⟩:=bY (l:=r.l) (i:=r.at_.toNat+1) (by omega)
   have e1:lat r.l (r.at_+1)=some t:=by unfold lat;rw[if_pos (by omega),show(r.at_+1).toNat=r.at_.toNat+1 by omega];exact ht
   have e2:Dy r 1=some t:=ht
   rw[e1,e2,decide_eq_true c]
   by_cases k:t.Kind=3
   ·by_cases k2:t.Text=[91]<;>simp[gd,k,k2,OT]
   ·simp[gd,k,OT]
  ·have e2:Dy r 1=none:=List.getElem?_eq_none (by omega)
   rw[e2,decide_eq_false c]
   simp[gd,OT]
end Go.Proofs.YtmhoikfoogemnaaGreatDoor
namespace Go.Proofs.YtmhoikfoogemnaaGreatDoor
open Go Go.RowKit Go.Vc
set_option linter.unusedVariables false
set_option linter.unusedSimpArgs false
variable {L:Cx}
theorem uL {α:Type} (m:Option (bZ (α×PR))):(pb m λ(x:α×PR)=>match x with | (a,s)=>some (.ret (a,s)))=m:=by
 cases m with
 | none=>rfl
 | some p=>cases p<;>rfl
def KM (r:PR):PR:=⟨r.l,r.at_+1,r.deep+1⟩
def lv (r:PR):PR:=⟨r.l,r.at_,r.deep - 1⟩
abbrev zV:co:=⟨0,0⟩
abbrev zT:bu:=⟨0,0,0,0,0⟩
abbrev zL:aC:=⟨0,[]⟩
theorem PH (op:Int) (s:List UInt8) (v:co) (t:bu) (f:aC) (ix:List aM) (args:List ae):wE ⟨op,s,v,t,f,ix,args⟩=1+f.L.length+ix.length+(ix.map wI).sum+(args.map wE).sum:=vH _
end Go.Proofs.YtmhoikfoogemnaaGreatDoor
namespace Go.Proofs.YtmhoikfoogemnaaGreatDoor
open Go Go.RowKit Go.Vc
set_option linter.unusedVariables false
set_option linter.unusedSimpArgs false
variable {L:Cx}
def Fy (s10:PR):Option (bZ (ae×PR)):=
 pb (bi s10) λ⟨r20,s15⟩=>
 pb (ao s15 ([91]:List UInt8)) λ⟨r21,s16⟩=>
 (ay s16 ([93]:List UInt8)).bind λ⟨r22,s17⟩=>
 if r22 then
  some (.ret ((⟨3,r20,zV,zT,zL,[],[]⟩:ae),s17))
 else
  pb (dL s17) λ⟨r23,s18⟩=>
  bx fu s18 (⟨3,r20,zV,zT,zL,[r23],[]⟩:ae)
abbrev RP:=PR→Option (bZ (ae×PR))
abbrev RR:=RS→Int→Option (ae×RS)
abbrev RF (rec':RR) (n:Int):Prop:=∀ p:RS,p.E≠0→∃ y,rec' p n=some (y,p)
theorem NS {r:PR} (h:Rok L r) (c:za r 3 [40]=true):cW r=bM r:=by
 unfold cW
 rw[qd h,Option.bind_some,c]
 exact uL _
end Go.Proofs.YtmhoikfoogemnaaGreatDoor
namespace Go.Proofs.YtmhoikfoogemnaaGreatDoor
open Go Go.RowKit Go.Vc
set_option linter.unusedVariables false
set_option linter.unusedSimpArgs false
variable {L:Cx}
abbrev KY:List UInt8:=[109,105,110]
abbrev KZ:List UInt8:=[109,97,120]
abbrev QQ:List UInt8:=[105,102]
abbrev Gu:List UInt8:=[99,97,115,116]
end Go.Proofs.YtmhoikfoogemnaaGreatDoor
