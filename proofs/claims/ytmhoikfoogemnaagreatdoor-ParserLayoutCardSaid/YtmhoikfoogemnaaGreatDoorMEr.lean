import Derived.Test.YtmhoikfoogemnaaGreatDoorMEp
namespace Go.Proofs.YtmhoikfoogemnaaGreatDoor.Z13
open Go Go.RowKit Go.Vc
set_option linter.unusedVariables false
set_option linter.unusedSimpArgs false
theorem uV (l:List UInt8) (i:Nat) (h:i<l.length):∃ c,l[i]? =some c∧l.drop i=c::l.drop (i+1):=⟨l[i],by simp[h],List.drop_eq_getElem_cons h⟩
theorem Hg (c:UInt8):mn (c.toNat:Int)=(c.toNat:Int):=rX c
theorem zc {s:List UInt8} {f:Int→Option Bool} {p:Int→Bool} (hs:s.length<4611686018427387904) (hf:∀ c:UInt8,f (c.toNat:Int)=some (p (c.toNat:Int))):io s f=some (fk p s:Int):=by
 unfold io
 have key:∀ (g i:Nat),i≤s.length→s.length - i<g→eh s f g (i:Int)=some ((i+fk p (s.drop i):Nat):Int):=by
  intro g
  induction g with
  | zero=>intros;omega
  | succ g ih=>
   intro i hi hg
   simp only[eh]
   by_cases h:i<s.length
   ·obtain⟨c,hc,hd⟩:=uV s i h
    rw[bS h]
    simp only[gd,if_true,eS hc,Option.bind_some,Hg,hf,Bool.true_and]
    rw[hd]
    simp only[fk]
    cases hp:p (c.toNat:Int)with
    | true=>
     rw[if_pos rfl,lB (by omega),ih (i+1) (by omega) (by omega)]
     dsimp only
     rw[Nat.add_right_comm,Nat.add_assoc]
    | false=>rw[if_neg (by simp)];rfl
   ·rw[List.drop_of_length_le (by omega),decide_eq_false (by omega)]
    simp[gd,fk]
 have:=key fu 0 (by omega) (by unfold fu;omega)
 rw[List.drop_zero,Nat.zero_add]at this
 exact this
theorem yc:∀ n:Nat,n<256→lr (n:Int)=some (lL (n:Int))∧kJ (n:Int)=some (sb (n:Int)):=by decide+kernel
theorem D3 (c:UInt8):lr (c.toNat:Int)=some (lL (c.toNat:Int)):=(yc c.toNat c.toNat_lt).1
theorem uh (c:UInt8):kJ (c.toNat:Int)=some (sb (c.toNat:Int)):=(yc c.toNat c.toNat_lt).2
theorem HO:mi 35=true:=rfl
theorem v8 {c:UInt8} {l:List UInt8} (hs:lL (c.toNat:Int)=false) (hc:(c.toNat:Int)=35):skipL false (c::l)=fk mi (c::l)+skipL false ((c::l).drop (fk mi (c::l)))∧1≤fk mi (c::l):=by
 have e:skipL false (c::l)=skipL true (c::l):=by
  simp only[skipL]
  rw[hs,hc]
  simp only[HO,decide_true]
 refine⟨by rw[e];exact vv _,?_⟩
 simp only[fk,hc,HO];omega
theorem Cd {s:List UInt8} (hl:s.length≤1000000):k7 s=some (skipL false s:Int):=by
 unfold k7
 have key:∀ (g i:Nat),i≤s.length→s.length - i<g→fY s g (i:Int)=some ((i+skipL false (s.drop i):Nat):Int):=by
  intro g
  induction g with
  | zero=>intros;omega
  | succ g ih=>
   intro i hi hg
   simp only[fY]
   by_cases h:i<s.length
   ·obtain⟨c,hc,hd⟩:=uV s i h
    rw[if_pos (bS h),eS hc,Option.bind_some,Hg,D3,Option.bind_some]
    cases hsp:lL (c.toNat:Int)with
    | true=>
     rw[if_pos rfl,lB (by omega),ih (i+1) (by omega) (by omega),hd]
     simp only[skipL,hsp]
     rw[Nat.add_right_comm,Nat.add_assoc]
    | false=>
     rw[if_neg (by simp)]
     by_cases h35:(c.toNat:Int)=35
     ·obtain⟨q1,q2⟩:=v8 (l:=s.drop (i+1)) hsp h35
      rw[← hd]at q1 q2
      have hle:=rg mi (s.drop i)
      rw[List.length_drop]at hle
      have e1:iz s (i:Int)=some (s.drop i):=by unfold iz;rw[if_pos (by omega)];simp
      rw[if_pos (by simpa using h35),e1,Option.bind_some,zc (p:=mi) (by rw[List.length_drop];omega) (fun c=>rfl),Option.bind_some,He (by omega),ih (i+fk mi (s.drop i)) (by omega) (by omega),q1, ← List.drop_drop,Nat.add_assoc]
     ·rw[if_neg (by simpa using h35),hd]
      simp only[skipL,hsp,decide_eq_false h35]
      rfl
   ·rw[List.drop_of_length_le (by omega),if_neg (by simp;omega)];rfl
 have:=key fu 0 (by omega) (by unfold fu;omega)
 rw[List.drop_zero,Nat.zero_add]at this
 exact this
theorem AZ (c:UInt8) (l:List UInt8):sat (c::l) 0=some (c.toNat:Int):=eS (i:=0) rfl
theorem Dp (c:UInt8):cJ (c.toNat:Int)=some (gy (c.toNat:Int)):=by
 unfold cJ gK gE gy jz iT
 rw[Option.bind_some]
 cases (decide (97≤(c.toNat:Int))&&decide ((c.toNat:Int)≤122))<;>simp[gd]
theorem GE {s:List UInt8} (h0:0<s.length) (hl:s.length≤1000000):lX s=some (((nextL s).1:Int),((nextL s).2:Int)):=by
 obtain⟨c,l,rfl⟩:∃ c l,s=c::l:=by cases s with | nil=>simp at h0 | cons c l=>exact⟨c,l,rfl⟩
 unfold lX nextL
 rw[AZ,Option.bind_some,Hg,nI]
 dsimp only
 show((some (jz (c.toNat:Int))).bind _)=_
 rw[Option.bind_some]
 cases h1:jz (c.toNat:Int)with
 | true=>rw[if_pos rfl,if_pos rfl,zc (p:=gy) (by omega) Dp];rfl
 | false=>
  rw[if_neg (by simp),if_neg (by simp)]
  show((some (iT (c.toNat:Int))).bind _)=_
  rw[Option.bind_some]
  cases h2:iT (c.toNat:Int)with
  | true=>rw[if_pos rfl,if_pos rfl,zc (p:=iT) (by omega) (fun c=>rfl)];rfl
  | false=>
   rw[if_neg (by simp),if_neg (by simp)]
   cases l with
   | nil=>
    have e:decide ((1:Int)<((([c]:List UInt8).length:Nat):Int))=false:=by simp
    rw[e]
    simp only[gd,Bool.and_false,Bool.false_and,Bool.false_eq_true,if_false,Option.bind_some]
    rw[uh,Option.bind_some]
    cases sb (c.toNat:Int)<;>rfl
   | cons d l=>
    have e:decide ((1:Int)<(((c::d::l).length:Nat):Int))=true:=decide_eq_true (by simp only[List.length_cons];omega)
    have e1:sat (c::d::l) 1=some (d.toNat:Int):=eS (i:=1) rfl
    have e2:oy (c::d::l) 1=(d.toNat:Int):=rfl
    rw[e,e1,e2,Bool.and_true]
    cases hb:(decide ((c.toNat:Int)=60)||decide ((c.toNat:Int)=61))with
    | true=>
     simp only[gd,if_true,Option.bind_some,Bool.true_and]
     cases hd:decide ((d.toNat:Int)=61)with
     | true=>rfl
     | false=>
      simp only[Bool.false_eq_true,if_false]
      rw[uh,Option.bind_some]
      cases sb (c.toNat:Int)<;>rfl
    | false=>
     simp only[gd,Bool.false_and,Bool.false_eq_true,if_false,Option.bind_some]
     rw[uh,Option.bind_some]
     cases sb (c.toNat:Int)<;>rfl
def vx (out:List aG) (r:List aG×Nat×Nat):List aG×Int×Int:=if r.2.2=0 then(out++r.1,0,0)else([],(r.2.1:Int),(r.2.2:Int))
theorem Dh {s:List UInt8} {p n:Nat} (h:p+n≤s.length):zM s (p:Int) ((p+n:Nat):Int)=some ((s.drop p).take n):=by
 unfold zM;rw[if_pos (by omega),Int.toNat_natCast,Int.toNat_natCast,show p+n - p=n by omega]
theorem wW {s:List UInt8} {p:Nat} (h:p≤s.length):iz s (p:Int)=some (s.drop p):=by unfold iz;rw[if_pos (by omega)];simp
theorem AF {out:List aG} {t:aG} {r:List aG×Nat×Nat} :vx (out++[t]) r=vx out (t::r.1,r.2):=by
 unfold vx;dsimp only;split
 ·rw[List.append_assoc];rfl
 ·rfl
theorem Ho {s:List UInt8} (hl:s.length≤65536):∀ (g f p:Nat) (out:List aG),s.length<p+g→s.length<p+f→p≤s.length→out.length≤p→eE s g out (p:Int)=some (vx out (goT s f p)):=by
 intro g
 induction g with
 | zero=>intros;omega
 | succ g ih=>
  intro f p out hg hf hp ho
  obtain⟨f,rfl⟩:∃ k,f=k+1:=⟨f - 1,by omega⟩
  simp only[eE,goT]
  by_cases h:p<s.length
  ·have h0:0<(s.drop p).length:=by rw[List.length_drop];omega
   have hle:=rn (s.drop p) h0
   have hpos:=oC (s.drop p) h0
   rw[List.length_drop]at hle
   rw[if_pos (bS h),wW hp,Option.bind_some,GE h0 (by rw[List.length_drop];omega),Option.bind_some,if_pos h]
   by_cases hk:(nextL (s.drop p)).1=0
   ·rw[if_pos (by simpa using hk),if_pos hk];rfl
   ·have hpos:=hpos hk
    rw[if_neg (by simpa using hk),if_neg hk]
    by_cases hw:(nextL (s.drop p)).1=1∧16<(nextL (s.drop p)).2
    ·rw[if_pos hw,if_pos (by simp;omega)];rfl
    ·have hsk:=oz false (s.drop (p+(nextL (s.drop p)).2))
     rw[List.length_drop]at hsk
     rw[if_neg hw,if_neg (by simp;omega),He (by omega),Dh (by omega),Option.bind_some,cK (by simp only[List.length_cons,List.length_nil];omega),Option.bind_some,wW (by omega),Option.bind_some,Cd (by rw[List.length_drop];omega),Option.bind_some,Option.bind_some,He (by omega)]
     rw[ih f _ _ (by omega) (by omega) (by omega) (by simp only[List.length_append,List.length_cons,List.length_nil];omega),AF]
  ·rw[if_neg h,if_neg (by simp;omega)]
   unfold vx;simp
def tokI (s:List UInt8):List aG×Int×Int:=((tokens s).1,((tokens s).2.1:Int),((tokens s).2.2:Int))
theorem Aq {s:List UInt8} (h:¬ 65536<s.length):tokI s=vx [] (goT s (s.length+1) (skipL false s)):=by
 unfold tokI tokens vx
 rw[if_neg h]
 dsimp only
 split<;>simp
theorem lexer_Tokenize (s:List UInt8) (hl:s.length<4611686018427387904):iJ s=some (tokI s):=by
 unfold iJ
 by_cases h:65536<s.length
 ·rw[if_pos (by simp;omega)]
  unfold tokI tokens
  rw[if_pos h];rfl
 ·have hsk:=oz false s
  rw[if_neg (by simp;omega),Cd (by omega),Option.bind_some,Aq h]
  exact Ho (by omega) fu _ _ [] (by unfold fu;omega) (by omega) hsk (by simp)
theorem Cn (c:UInt8):mE (c.toNat:Int)=some (lL (c.toNat:Int)):=rfl
theorem Co {s:List UInt8} (hl:s.length≤1000000) (self:Int→Option Int):∀ (g i:Nat),i≤s.length→s.length - i<g→gX s self g (i:Int)=self ((i+fk mi (s.drop i):Nat):Int):=by
 intro g
 induction g with
 | zero=>intros;omega
 | succ g ih=>
  intro i hi hg
  simp only[gX]
  by_cases h:i<s.length
  ·obtain⟨c,hc,hd⟩:=uV s i h
   rw[bS h,hd]
   simp only[gd,if_true,eS hc,Option.bind_some,Bool.true_and,fk]
   show(if mi (c.toNat:Int)=true then _ else _)=_
   cases hn:mi (c.toNat:Int)with
   | true=>
    rw[if_pos rfl,lB (by omega),ih (i+1) (by omega) (by omega)]
    dsimp only
    rw[Nat.add_right_comm,Nat.add_assoc]
   | false=>rw[if_neg (by simp)];rfl
  ·rw[List.drop_of_length_le (by omega),decide_eq_false (by omega)]
   simp[gd,fk]
theorem AB {s:List UInt8} (hl:s.length≤1000000) {p:Nat} (hp:p≤s.length):kS s (p:Int)=some ((p+skipL false (s.drop p):Nat):Int):=by
 unfold kS
 have key:∀ (g i:Nat),i≤s.length→s.length - i<g→fe s g (i:Int)=some ((i+skipL false (s.drop i):Nat):Int):=by
  intro g
  induction g with
  | zero=>intros;omega
  | succ g ih=>
   intro i hi hg
   simp only[fe]
   by_cases h:i<s.length
   ·obtain⟨c,hc,hd⟩:=uV s i h
    rw[if_pos (bS h),eS hc,Option.bind_some,Cn,Option.bind_some]
    cases hsp:lL (c.toNat:Int)with
    | true=>
     rw[if_pos rfl,lB (by omega),ih (i+1) (by omega) (by omega),hd]
     simp only[skipL,hsp]
     rw[Nat.add_right_comm,Nat.add_assoc]
    | false=>
     rw[if_neg (by simp),Option.bind_some]
     by_cases h35:(c.toNat:Int)=35
     ·obtain⟨q1,q2⟩:=v8 (l:=s.drop (i+1)) hsp h35
      rw[← hd]at q1 q2
      have hle:=rg mi (s.drop i)
      rw[List.length_drop]at hle
      rw[if_pos (by simpa using h35),Co hl _ fu i hi (by unfold fu;omega),ih (i+fk mi (s.drop i)) (by omega) (by omega),q1, ← List.drop_drop,Nat.add_assoc]
     ·rw[if_neg (by simpa using h35),hd]
      simp only[skipL,hsp,decide_eq_false h35]
      rfl
   ·rw[List.drop_of_length_le (by omega),if_neg (by simp;omega)];rfl
 exact key fu p hp (by unfold fu;omega)
theorem Cp {s:List UInt8} (hl:s.length≤1000000) (kind:Int) (p:Int→Bool) (hk:(kind=1∧p=gy)∨(kind=2∧p=iT)):fM s kind fu 0=some ((fk p s:Int),kind):=by
 have key:∀ (g i:Nat),i≤s.length→s.length - i<g→fM s kind g (i:Int)=some (((i+fk p (s.drop i):Nat):Int),kind):=by
  intro g
  induction g with
  | zero=>intros;omega
  | succ g ih=>
   intro i hi hg
   simp only[fM]
   by_cases h:i<s.length
   ·obtain⟨c,hc,hd⟩:=uV s i h
    rw[bS h,hd]
    have fin:∀ (b:Bool),b=p (c.toNat:Int)→(if b=true then fM s kind g (az ((i:Int)+1))else some ((i:Int),kind))=some (((i+fk p (c::s.drop (i+1)):Nat):Int),kind):=fun b hb=>by
     simp only[fk]
     rw[← hb]
     cases b with
     | true=>
      rw[if_pos rfl,lB (by omega),ih (i+1) (by omega) (by omega)]
      dsimp only
      rw[Nat.add_right_comm,Nat.add_assoc]
     | false=>rw[if_neg (by simp)];rfl
    simp only[gd,if_true,eS hc,Option.bind_some,Bool.true_and]
    show((some (iT (c.toNat:Int))).bind _)=_
    rw[Option.bind_some]
    rcases hk with⟨rfl,rfl⟩ | ⟨rfl,rfl⟩
    ·cases hdg:iT (c.toNat:Int)with
     | true=>
      simp only[Bool.not_true,Bool.false_and,Bool.false_eq_true,if_false,Option.bind_some,Bool.true_or]
      exact fin true (by simp[gy,hdg])
     | false=>
      simp only[Bool.not_false,Bool.true_and,decide_true,if_true,Option.bind_some,Bool.false_or]
      show((some (jz (c.toNat:Int))).bind _)=_
      rw[Option.bind_some]
      cases hlt:jz (c.toNat:Int)with
      | true=>simp only[Bool.not_true,Bool.false_eq_true,if_false,Option.bind_some,Bool.true_or];exact fin true (by simp[gy,hlt])
      | false=>simp only[Bool.not_false,if_true,Option.bind_some,Bool.false_or];exact fin _ (by simp[gy,hlt,hdg])
    ·have e2:decide ((2:Int)=1)=false:=rfl
     simp only[e2,Bool.and_false,Bool.false_and,Bool.false_eq_true,if_false,Option.bind_some,Bool.or_false]
     exact fin _ rfl
   ·rw[List.drop_of_length_le (by omega),decide_eq_false (by omega)]
    simp[gd,fk]
 have:=key fu 0 (by omega) (by unfold fu;omega)
 rw[List.drop_zero,Nat.zero_add]at this
 exact this
theorem FD {s:List UInt8} (h0:0<s.length) (hl:s.length≤1000000):mN s=some (((wJ s).1:Int),((wJ s).2:Int)):=by
 obtain⟨c,l,rfl⟩:∃ c l,s=c::l:=by cases s with | nil=>simp at h0 | cons c l=>exact⟨c,l,rfl⟩
 unfold mN wJ
 rw[nI,AZ,decide_eq_true h0]
 have e0:decide ((c::l:List UInt8)=[])=false:=rfl
 rw[e0]
 simp only[gd,Bool.not_false,if_true,Option.bind_some,Bool.true_and,Bool.false_or,Bool.and_true]
 show((some (jz (c.toNat:Int))).bind _)=_
 rw[Option.bind_some]
 cases h1:jz (c.toNat:Int)with
 | true=>
  simp only[Bool.not_true,Bool.false_eq_true,if_false,Option.bind_some,Bool.false_and,if_true]
  show((some (jz (c.toNat:Int))).bind _)=_
  rw[h1,Option.bind_some,if_pos rfl]
  exact Cp hl 1 gy (.inl ⟨rfl,rfl⟩)
 | false=>
  simp only[Bool.not_false,if_true,Option.bind_some,Bool.true_and,Bool.false_eq_true,if_false]
  show((some (iT (c.toNat:Int))).bind _)=_
  rw[Option.bind_some]
  cases h2:iT (c.toNat:Int)with
  | true=>
   simp only[Bool.not_true,Bool.false_eq_true,if_false,if_true]
   show((some (jz (c.toNat:Int))).bind _)=_
   rw[h1,Option.bind_some,if_neg (by simp)]
   exact Cp hl 2 iT (.inr ⟨rfl,rfl⟩)
  | false=>rfl
theorem Bd {s:List UInt8} (hl:s.length≤1000000):kF s=some (vu s tq:Int):=by
 have key:∀ (l:List (List UInt8)) (pre:List (List UInt8)) (g:Nat),tq=pre++l→l.length<g→eJ tq s g (pre.length:Int)=some (vu s l:Int):=by
  intro l
  induction l with
  | nil=>
   intro pre g hp hg
   obtain⟨g,rfl⟩:∃ k,g=k+1:=⟨g - 1,by omega⟩
   simp only[eJ]
   rw[hp,List.append_nil,if_neg (by simp)];rfl
  | cons e l ih=>
   intro pre g hp hg
   obtain⟨g,rfl⟩:∃ k,g=k+1:=⟨g - 1,by omega⟩
   have hat:lat tq (pre.length:Int)=some e:=by rw[hp];exact wZ pre e l
   have hlt:decide ((pre.length:Int)<(tq.length:Int))=true:=by rw[hp];exact bS (by simp)
   have hn:tq.length=22:=rfl
   have hpl:pre.length<22:=by rw[← hn,hp];simp
   simp only[eJ]
   rw[if_pos hlt,hat,Option.bind_some]
   have ih':=ih (pre++[e]) g (by rw[hp];simp) (by simp only[List.length_cons]at hg;omega)
   rw[List.length_append,List.length_cons,List.length_nil,Nat.zero_add]at ih'
   simp only[vu,tA]
   by_cases hf:(e.length:Int)≤(s.length:Int)
   ·have hu:nb s (e.length:Int)=some (s.take e.length):=by unfold nb;rw[if_pos (by omega)];simp
    rw[decide_eq_true hf]
    simp only[gd,if_true,Option.bind_some,Bool.true_and,hu]
    by_cases ht:s.take e.length=e
    ·rw[if_pos (by simp[ht]),decide_eq_true ht]
    ·rw[if_neg (by simp[ht]),decide_eq_false ht,lB (by omega)];exact ih'
   ·rw[decide_eq_false hf]
    simp only[gd,Bool.false_eq_true,if_false,Option.bind_some,Bool.false_and]
    rw[lB (by omega)];exact ih'
 have e:lA=some tq:=rfl
 have k:=key tq [] fu rfl (show 22<fu by unfold fu;omega)
 rw[List.length_nil,show((0:Nat):Int)=0 from rfl]at k
 unfold kF
 rw[e,Option.bind_some,k]
theorem FC {s:List UInt8} (hl:s.length≤65536):∀ (g f p:Nat) (out:List aG),s.length<p+g→s.length<p+f→p≤s.length→out.length≤p→cx s g out (p:Int)=some (vx out (goT s f p)):=by
 intro g
 induction g with
 | zero=>intros;omega
 | succ g ih=>
  intro f p out hg hf hp ho
  obtain⟨f,rfl⟩:∃ k,f=k+1:=⟨f - 1,by omega⟩
  simp only[cx,goT]
  by_cases h:p<s.length
  ·have h0:0<(s.drop p).length:=by rw[List.length_drop];omega
   have hle:=rn (s.drop p) h0
   have hpos:=oC (s.drop p) h0
   have hnr:=Db (s.drop p) h0
   rw[List.length_drop]at hle
   rw[if_pos (bS h),wW hp,Option.bind_some,FD h0 (by rw[List.length_drop];omega),Option.bind_some,if_pos h]
   have fin:∀ (n k:Nat),(n,k)=(if(nextL (s.drop p)).1=0 then(0,3)else((nextL (s.drop p)).2,(nextL (s.drop p)).1))→fX (p:Int) s out (cx s g) (n:Int) (k:Int)=
     some (vx out (if(nextL (s.drop p)).1=0 then([],p,5)else if(nextL (s.drop p)).1=1∧16<(nextL (s.drop p)).2 then([],p,2)else((⟨((nextL (s.drop p)).1:Int),(p:Int),(s.drop p).take (nextL (s.drop p)).2⟩:aG)::(goT s f (p+(nextL (s.drop p)).2+skipL false (s.drop (p+(nextL (s.drop p)).2)))).1,(goT s f (p+(nextL (s.drop p)).2+skipL false (s.drop (p+(nextL (s.drop p)).2)))).2))):=fun n k e=>by
    unfold fX
    by_cases hk:(nextL (s.drop p)).1=0
    ·rw[if_pos hk]at e ⊢
     injection e with e1 e2;subst e1
     rw[if_pos (by simp)];rfl
    ·have hpos:=hpos hk
     rw[if_neg hk]at e ⊢
     injection e with e1 e2;subst e1;subst e2
     rw[if_neg (by simp;omega)]
     by_cases hw:(nextL (s.drop p)).1=1∧16<(nextL (s.drop p)).2
     ·rw[if_pos hw,if_pos (by simp;omega)];rfl
     ·have hsk:=oz false (s.drop (p+(nextL (s.drop p)).2))
      rw[List.length_drop]at hsk
      rw[if_neg hw,if_neg (by simp;omega),He (by omega),Dh (by omega),Option.bind_some,cK (by simp only[List.length_cons,List.length_nil];omega),Option.bind_some,AB (by omega) (by omega),Option.bind_some]
      rw[ih f _ _ (by omega) (by omega) (by omega) (by simp only[List.length_append,List.length_cons,List.length_nil];omega),AF]
   dsimp only
   by_cases hr:(wJ (s.drop p)).1=0
   ·rw[if_pos (by simpa using hr),Option.bind_some,Bd (by rw[List.length_drop];omega),Option.bind_some]
    exact fin (vu (s.drop p) tq) 3 (by rw[← hnr,if_pos hr])
   ·rw[if_neg (by simpa using hr)]
    exact fin (wJ (s.drop p)).1 (wJ (s.drop p)).2 (by rw[← hnr,if_neg hr])
  ·rw[if_neg h,if_neg (by simp;omega)]
   unfold vx;simp
theorem ref13_Tokenize (s:List UInt8) (hl:s.length<4611686018427387904):iH s=some (tokI s):=by
 unfold iH
 by_cases h:65536<s.length
 ·rw[if_pos (by simp;omega)]
  unfold tokI tokens
  rw[if_pos h];rfl
 ·have hsk:=oz false s
  have e:=AB (s:=s) (p:=0) (by omega) (by omega)
  rw[List.drop_zero,Nat.zero_add,show((0:Nat):Int)=0 from rfl]at e
  rw[if_neg (by simp;omega),e,Option.bind_some,Aq h]
  exact FC (by omega) fu _ _ [] (by unfold fu;omega) (by omega) hsk (by simp)
end Go.Proofs.YtmhoikfoogemnaaGreatDoor.Z13
