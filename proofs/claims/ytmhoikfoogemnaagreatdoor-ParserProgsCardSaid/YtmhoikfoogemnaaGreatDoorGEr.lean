import Derived.Test.YtmhoikfoogemnaaGreatDoorGEp
namespace Go.Proofs.YtmhoikfoogemnaaGreatDoor.Z13
open Go Go.RowKit Go.Vc
set_option linter.unusedVariables false
set_option linter.unusedSimpArgs false
theorem yz (l:List UInt8) (i:Nat) (h:i<l.length):∃ c,l[i]? =some c∧l.drop i=c::l.drop (i+1):=⟨l[i],by simp[h],List.drop_eq_getElem_cons h⟩
theorem Dq (c:UInt8):sY (c.toNat:Int)=(c.toNat:Int):=v7 c
theorem Dr {s:List UInt8} {f:Int→Option Bool} {p:Int→Bool} (hs:s.length<4611686018427387904) (hf:∀ c:UInt8,f (c.toNat:Int)=some (p (c.toNat:Int))):jv s f=some (jo p s:Int):=by
 unfold jv
 have key:∀ (g i:Nat),i≤s.length→s.length - i<g→fN s f g (i:Int)=some ((i+jo p (s.drop i):Nat):Int):=by
  intro g
  induction g with
  | zero=>intros;omega
  | succ g ih=>
   intro i hi hg
   simp only[fN]
   by_cases h:i<s.length
   ·obtain⟨c,hc,hd⟩:=yz s i h
    rw[bS h]
    simp only[gd,if_true,gq hc,Option.bind_some,Dq,hf,Bool.true_and]
    rw[hd]
    simp only[jo]
    cases hp:p (c.toNat:Int)with
    | true=>
     rw[if_pos rfl,nu (by omega),ih (i+1) (by omega) (by omega)]
     dsimp only
     rw[Nat.add_right_comm,Nat.add_assoc]
    | false=>rw[if_neg (by simp)];rfl
   ·rw[List.drop_of_length_le (by omega),decide_eq_false (by omega)]
    simp[gd,jo]
 have:=key fu 0 (by omega) (by unfold fu;omega)
 rw[List.drop_zero,Nat.zero_add]at this
 exact this
theorem Cf:∀ n:Nat,n<256→nO (n:Int)=some (rK (n:Int))∧mS (n:Int)=some (zg (n:Int)):=by decide+kernel
theorem H7 (c:UInt8):nO (c.toNat:Int)=some (rK (c.toNat:Int)):=(Cf c.toNat c.toNat_lt).1
theorem xR (c:UInt8):mS (c.toNat:Int)=some (zg (c.toNat:Int)):=(Cf c.toNat c.toNat_lt).2
theorem Li:oX 35=true:=rfl
theorem z6 {c:UInt8} {l:List UInt8} (hs:rK (c.toNat:Int)=false) (hc:(c.toNat:Int)=35):hH false (c::l)=jo oX (c::l)+hH false ((c::l).drop (jo oX (c::l)))∧1≤jo oX (c::l):=by
 have e:hH false (c::l)=hH true (c::l):=by
  simp only[hH]
  rw[hs,hc]
  simp only[Li,decide_true]
 refine⟨by rw[e];exact zh _,?_⟩
 simp only[jo,hc,Li];omega
theorem Gs {s:List UInt8} (hl:s.length≤1000000):ni s=some (hH false s:Int):=by
 unfold ni
 have key:∀ (g i:Nat),i≤s.length→s.length - i<g→iu s g (i:Int)=some ((i+hH false (s.drop i):Nat):Int):=by
  intro g
  induction g with
  | zero=>intros;omega
  | succ g ih=>
   intro i hi hg
   simp only[iu]
   by_cases h:i<s.length
   ·obtain⟨c,hc,hd⟩:=yz s i h
    rw[if_pos (bS h),gq hc,Option.bind_some,Dq,H7,Option.bind_some]
    cases hsp:rK (c.toNat:Int)with
    | true=>
     rw[if_pos rfl,nu (by omega),ih (i+1) (by omega) (by omega),hd]
     simp only[hH,hsp]
     rw[Nat.add_right_comm,Nat.add_assoc]
    | false=>
     rw[if_neg (by simp)]
     by_cases h35:(c.toNat:Int)=35
     ·obtain⟨q1,q2⟩:=z6 (l:=s.drop (i+1)) hsp h35
      rw[← hd]at q1 q2
      have hle:=vd oX (s.drop i)
      rw[List.length_drop]at hle
      have e1:jE s (i:Int)=some (s.drop i):=by unfold jE;rw[if_pos (by omega)];simp
      rw[if_pos (by simpa using h35),e1,Option.bind_some,Dr (p:=oX) (by rw[List.length_drop];omega) (λc=>rfl),Option.bind_some,KR (by omega),ih (i+jo oX (s.drop i)) (by omega) (by omega),q1, ← List.drop_drop,Nat.add_assoc]
     ·rw[if_neg (by simpa using h35),hd]
      simp only[hH,hsp,decide_eq_false h35]
      rfl
   ·rw[List.drop_of_length_le (by omega),if_neg (by simp;omega)];rfl
 have:=key fu 0 (by omega) (by unfold fu;omega)
 rw[List.drop_zero,Nat.zero_add]at this
 exact this
theorem E0 (c:UInt8) (l:List UInt8):sat (c::l) 0=some (c.toNat:Int):=gq (i:=0) rfl
theorem Hn (c:UInt8):eS (c.toNat:Int)=some (iZ (c.toNat:Int)):=by
 unfold eS iU jC iZ nq mh
 rw[Option.bind_some]
 cases (decide (97≤(c.toNat:Int))&&decide ((c.toNat:Int)≤122))<;>simp[gd]
theorem Ka {s:List UInt8} (h0:0<s.length) (hl:s.length≤1000000):oC s=some (((hP s).1:Int),((hP s).2:Int)):=by
 obtain⟨c,l,rfl⟩:∃ c l,s=c::l:=by cases s with | nil=>simp at h0 | cons c l=>exact⟨c,l,rfl⟩
 unfold oC hP
 rw[E0,Option.bind_some,Dq,rF]
 dsimp only
 show((some (nq (c.toNat:Int))).bind _)=_
 rw[Option.bind_some]
 cases h1:nq (c.toNat:Int)with
 | true=>rw[if_pos rfl,if_pos rfl,Dr (p:=iZ) (by omega) Hn];rfl
 | false=>
  rw[if_neg (by simp),if_neg (by simp)]
  show((some (mh (c.toNat:Int))).bind _)=_
  rw[Option.bind_some]
  cases h2:mh (c.toNat:Int)with
  | true=>rw[if_pos rfl,if_pos rfl,Dr (p:=mh) (by omega) (λc=>rfl)];rfl
  | false=>
   rw[if_neg (by simp),if_neg (by simp)]
   cases l with
   | nil=>
    have e:decide ((1:Int)<((([c]:List UInt8).length:Nat):Int))=false:=by simp
    rw[e]
    simp only[gd,Bool.and_false,Bool.false_and,Bool.false_eq_true,if_false,Option.bind_some]
    rw[xR,Option.bind_some]
    cases zg (c.toNat:Int)<;>rfl
   | cons d l=>
    have e:decide ((1:Int)<(((c::d::l).length:Nat):Int))=true:=decide_eq_true (by simp only[List.length_cons];omega)
    have e1:sat (c::d::l) 1=some (d.toNat:Int):=gq (i:=1) rfl
    have e2:zb (c::d::l) 1=(d.toNat:Int):=rfl
    rw[e,e1,e2,Bool.and_true]
    cases hb:(decide ((c.toNat:Int)=60)||decide ((c.toNat:Int)=61))with
    | true=>
     simp only[gd,if_true,Option.bind_some,Bool.true_and]
     cases hd:decide ((d.toNat:Int)=61)with
     | true=>rfl
     | false=>
      simp only[Bool.false_eq_true,if_false]
      rw[xR,Option.bind_some]
      cases zg (c.toNat:Int)<;>rfl
    | false=>
     simp only[gd,Bool.false_and,Bool.false_eq_true,if_false,Option.bind_some]
     rw[xR,Option.bind_some]
     cases zg (c.toNat:Int)<;>rfl
def zi (out:List bm) (r:List bm×Nat×Nat):List bm×Int×Int:=if r.2.2=0 then(out++r.1,0,0)else([],(r.2.1:Int),(r.2.2:Int))
theorem Hc {s:List UInt8} {p n:Nat} (h:p+n≤s.length):yk s (p:Int) ((p+n:Nat):Int)=some ((s.drop p).take n):=by
 unfold yk;rw[if_pos (by omega),Int.toNat_natCast,Int.toNat_natCast,show p+n - p=n by omega]
theorem AU {s:List UInt8} {p:Nat} (h:p≤s.length):jE s (p:Int)=some (s.drop p):=by unfold jE;rw[if_pos (by omega)];simp
theorem ED {out:List bm} {t:bm} {r:List bm×Nat×Nat} :zi (out++[t]) r=zi out (t::r.1,r.2):=by
 unfold zi;dsimp only;split
 ·rw[List.append_assoc];rfl
 ·rfl
theorem K2 {s:List UInt8} (hl:s.length≤65536):∀ (g f p:Nat) (out:List bm),s.length<p+g→s.length<p+f→p≤s.length→out.length≤p→gg s g out (p:Int)=some (zi out (ES s f p)):=by
 intro g
 induction g with
 | zero=>intros;omega
 | succ g ih=>
  intro f p out hg hf hp ho
  obtain⟨f,rfl⟩:∃ k,f=k+1:=⟨f - 1,by omega⟩
  simp only[gg,ES]
  by_cases h:p<s.length
  ·have h0:0<(s.drop p).length:=by rw[List.length_drop];omega
   have hle:=yg (s.drop p) h0
   have hpos:=wj (s.drop p) h0
   rw[List.length_drop]at hle
   rw[if_pos (bS h),AU hp,Option.bind_some,Ka h0 (by rw[List.length_drop];omega),Option.bind_some,if_pos h]
   by_cases hk:(hP (s.drop p)).1=0
   ·rw[if_pos (by simpa using hk),if_pos hk];rfl
   ·have hpos:=hpos hk
    rw[if_neg (by simpa using hk),if_neg hk]
    by_cases hw:(hP (s.drop p)).1=1∧16<(hP (s.drop p)).2
    ·rw[if_pos hw,if_pos (by simp;omega)];rfl
    ·have hsk:=rf false (s.drop (p+(hP (s.drop p)).2))
     rw[List.length_drop]at hsk
     rw[if_neg hw,if_neg (by simp;omega),KR (by omega),Hc (by omega),Option.bind_some,cJ (by simp only[List.length_cons,List.length_nil];omega),Option.bind_some,AU (by omega),Option.bind_some,Gs (by rw[List.length_drop];omega),Option.bind_some,Option.bind_some,KR (by omega)]
     rw[ih f _ _ (by omega) (by omega) (by omega) (by simp only[List.length_append,List.length_cons,List.length_nil];omega),ED]
  ·rw[if_neg h,if_neg (by simp;omega)]
   unfold zi;simp
def tokI (s:List UInt8):List bm×Int×Int:=((tokens s).1,((tokens s).2.1:Int),((tokens s).2.2:Int))
theorem En {s:List UInt8} (h:¬ 65536<s.length):tokI s=zi [] (ES s (s.length+1) (hH false s)):=by
 unfold tokI tokens zi
 rw[if_neg h]
 dsimp only
 split<;>simp
theorem lexer_Tokenize (s:List UInt8) (hl:s.length<4611686018427387904):jN s=some (tokI s):=by
 unfold jN
 by_cases h:65536<s.length
 ·rw[if_pos (by simp;omega)]
  unfold tokI tokens
  rw[if_pos h];rfl
 ·have hsk:=rf false s
  rw[if_neg (by simp;omega),Gs (by omega),Option.bind_some,En h]
  exact K2 (by omega) fu _ _ [] (by unfold fu;omega) (by omega) hsk (by simp)
theorem GE (c:UInt8):pr (c.toNat:Int)=some (rK (c.toNat:Int)):=rfl
theorem GF {s:List UInt8} (hl:s.length≤1000000) (self:Int→Option Int):∀ (g i:Nat),i≤s.length→s.length - i<g→jj s self g (i:Int)=self ((i+jo oX (s.drop i):Nat):Int):=by
 intro g
 induction g with
 | zero=>intros;omega
 | succ g ih=>
  intro i hi hg
  simp only[jj]
  by_cases h:i<s.length
  ·obtain⟨c,hc,hd⟩:=yz s i h
   rw[bS h,hd]
   simp only[gd,if_true,gq hc,Option.bind_some,Bool.true_and,jo]
   show(if oX (c.toNat:Int)=true then _ else _)=_
   cases hn:oX (c.toNat:Int)with
   | true=>
    rw[if_pos rfl,nu (by omega),ih (i+1) (by omega) (by omega)]
    dsimp only
    rw[Nat.add_right_comm,Nat.add_assoc]
   | false=>rw[if_neg (by simp)];rfl
  ·rw[List.drop_of_length_le (by omega),decide_eq_false (by omega)]
   simp[gd,jo]
theorem Ey {s:List UInt8} (hl:s.length≤1000000) {p:Nat} (hp:p≤s.length):m8 s (p:Int)=some ((p+hH false (s.drop p):Nat):Int):=by
 unfold m8
 have key:∀ (g i:Nat),i≤s.length→s.length - i<g→gG s g (i:Int)=some ((i+hH false (s.drop i):Nat):Int):=by
  intro g
  induction g with
  | zero=>intros;omega
  | succ g ih=>
   intro i hi hg
   simp only[gG]
   by_cases h:i<s.length
   ·obtain⟨c,hc,hd⟩:=yz s i h
    rw[if_pos (bS h),gq hc,Option.bind_some,GE,Option.bind_some]
    cases hsp:rK (c.toNat:Int)with
    | true=>
     rw[if_pos rfl,nu (by omega),ih (i+1) (by omega) (by omega),hd]
     simp only[hH,hsp]
     rw[Nat.add_right_comm,Nat.add_assoc]
    | false=>
     rw[if_neg (by simp),Option.bind_some]
     by_cases h35:(c.toNat:Int)=35
     ·obtain⟨q1,q2⟩:=z6 (l:=s.drop (i+1)) hsp h35
      rw[← hd]at q1 q2
      have hle:=vd oX (s.drop i)
      rw[List.length_drop]at hle
      rw[if_pos (by simpa using h35),GF hl _ fu i hi (by unfold fu;omega),ih (i+jo oX (s.drop i)) (by omega) (by omega),q1, ← List.drop_drop,Nat.add_assoc]
     ·rw[if_neg (by simpa using h35),hd]
      simp only[hH,hsp,decide_eq_false h35]
      rfl
   ·rw[List.drop_of_length_le (by omega),if_neg (by simp;omega)];rfl
 exact key fu p hp (by unfold fu;omega)
theorem GG {s:List UInt8} (hl:s.length≤1000000) (kind:Int) (p:Int→Bool) (hk:(kind=1∧p=iZ)∨(kind=2∧p=mh)):ib s kind fu 0=some ((jo p s:Int),kind):=by
 have key:∀ (g i:Nat),i≤s.length→s.length - i<g→ib s kind g (i:Int)=some (((i+jo p (s.drop i):Nat):Int),kind):=by
  intro g
  induction g with
  | zero=>intros;omega
  | succ g ih=>
   intro i hi hg
   simp only[ib]
   by_cases h:i<s.length
   ·obtain⟨c,hc,hd⟩:=yz s i h
    rw[bS h,hd]
    have fin:∀ (b:Bool),b=p (c.toNat:Int)→(if b=true then ib s kind g (au ((i:Int)+1))else some ((i:Int),kind))=some (((i+jo p (c::s.drop (i+1)):Nat):Int),kind):=λb hb=>by
     simp only[jo]
     rw[← hb]
     cases b with
     | true=>
      rw[if_pos rfl,nu (by omega),ih (i+1) (by omega) (by omega)]
      dsimp only
      rw[Nat.add_right_comm,Nat.add_assoc]
     | false=>rw[if_neg (by simp)];rfl
    simp only[gd,if_true,gq hc,Option.bind_some,Bool.true_and]
    show((some (mh (c.toNat:Int))).bind _)=_
    rw[Option.bind_some]
    rcases hk with⟨rfl,rfl⟩ | ⟨rfl,rfl⟩
    ·cases hdg:mh (c.toNat:Int)with
     | true=>
      simp only[Bool.not_true,Bool.false_and,Bool.false_eq_true,if_false,Option.bind_some,Bool.true_or]
      exact fin true (by simp[iZ,hdg])
     | false=>
      simp only[Bool.not_false,Bool.true_and,decide_true,if_true,Option.bind_some,Bool.false_or]
      show((some (nq (c.toNat:Int))).bind _)=_
      rw[Option.bind_some]
      cases hlt:nq (c.toNat:Int)with
      | true=>simp only[Bool.not_true,Bool.false_eq_true,if_false,Option.bind_some,Bool.true_or];exact fin true (by simp[iZ,hlt])
      | false=>simp only[Bool.not_false,if_true,Option.bind_some,Bool.false_or];exact fin _ (by simp[iZ,hlt,hdg])
    ·have e2:decide ((2:Int)=1)=false:=rfl
     simp only[e2,Bool.and_false,Bool.false_and,Bool.false_eq_true,if_false,Option.bind_some,Bool.or_false]
     exact fin _ rfl
   ·rw[List.drop_of_length_le (by omega),decide_eq_false (by omega)]
    simp[gd,jo]
 have:=key fu 0 (by omega) (by unfold fu;omega)
 rw[List.drop_zero,Nat.zero_add]at this
 exact this
theorem Jr {s:List UInt8} (h0:0<s.length) (hl:s.length≤1000000):pD s=some (((AF s).1:Int),((AF s).2:Int)):=by
 obtain⟨c,l,rfl⟩:∃ c l,s=c::l:=by cases s with | nil=>simp at h0 | cons c l=>exact⟨c,l,rfl⟩
 unfold pD AF
 rw[rF,E0,decide_eq_true h0]
 have e0:decide ((c::l:List UInt8)=[])=false:=rfl
 rw[e0]
 simp only[gd,Bool.not_false,if_true,Option.bind_some,Bool.true_and,Bool.false_or,Bool.and_true]
 show((some (nq (c.toNat:Int))).bind _)=_
 rw[Option.bind_some]
 cases h1:nq (c.toNat:Int)with
 | true=>
  simp only[Bool.not_true,Bool.false_eq_true,if_false,Option.bind_some,Bool.false_and,if_true]
  show((some (nq (c.toNat:Int))).bind _)=_
  rw[h1,Option.bind_some,if_pos rfl]
  exact GG hl 1 iZ (.inl ⟨rfl,rfl⟩)
 | false=>
  simp only[Bool.not_false,if_true,Option.bind_some,Bool.true_and,Bool.false_eq_true,if_false]
  show((some (mh (c.toNat:Int))).bind _)=_
  rw[Option.bind_some]
  cases h2:mh (c.toNat:Int)with
  | true=>
   simp only[Bool.not_true,Bool.false_eq_true,if_false,if_true]
   show((some (nq (c.toNat:Int))).bind _)=_
   rw[h1,Option.bind_some,if_neg (by simp)]
   exact GG hl 2 mh (.inr ⟨rfl,rfl⟩)
  | false=>rfl
theorem Fd {s:List UInt8} (hl:s.length≤1000000):mM s=some (zf s xa:Int):=by
 have key:∀ (l:List (List UInt8)) (pre:List (List UInt8)) (g:Nat),xa=pre++l→l.length<g→gi xa s g (pre.length:Int)=some (zf s l:Int):=by
  intro l
  induction l with
  | nil=>
   intro pre g hp hg
   obtain⟨g,rfl⟩:∃ k,g=k+1:=⟨g - 1,by omega⟩
   simp only[gi]
   rw[hp,List.append_nil,if_neg (by simp)];rfl
  | cons e l ih=>
   intro pre g hp hg
   obtain⟨g,rfl⟩:∃ k,g=k+1:=⟨g - 1,by omega⟩
   have hat:lat xa (pre.length:Int)=some e:=by rw[hp];exact AX pre e l
   have hlt:decide ((pre.length:Int)<(xa.length:Int))=true:=by rw[hp];exact bS (by simp)
   have hn:xa.length=22:=rfl
   have hpl:pre.length<22:=by rw[← hn,hp];simp
   simp only[gi]
   rw[if_pos hlt,hat,Option.bind_some]
   have ih':=ih (pre++[e]) g (by rw[hp];simp) (by simp only[List.length_cons]at hg;omega)
   rw[List.length_append,List.length_cons,List.length_nil,Nat.zero_add]at ih'
   simp only[zf,xi]
   by_cases hf:(e.length:Int)≤(s.length:Int)
   ·have hu:pV s (e.length:Int)=some (s.take e.length):=by unfold pV;rw[if_pos (by omega)];simp
    rw[decide_eq_true hf]
    simp only[gd,if_true,Option.bind_some,Bool.true_and,hu]
    by_cases ht:s.take e.length=e
    ·rw[if_pos (by simp[ht]),decide_eq_true ht]
    ·rw[if_neg (by simp[ht]),decide_eq_false ht,nu (by omega)];exact ih'
   ·rw[decide_eq_false hf]
    simp only[gd,Bool.false_eq_true,if_false,Option.bind_some,Bool.false_and]
    rw[nu (by omega)];exact ih'
 have e:nS=some xa:=rfl
 have k:=key xa [] fu rfl (show 22<fu by unfold fu;omega)
 rw[List.length_nil,show((0:Nat):Int)=0 from rfl]at k
 unfold mM
 rw[e,Option.bind_some,k]
theorem Jq {s:List UInt8} (hl:s.length≤65536):∀ (g f p:Nat) (out:List bm),s.length<p+g→s.length<p+f→p≤s.length→out.length≤p→di s g out (p:Int)=some (zi out (ES s f p)):=by
 intro g
 induction g with
 | zero=>intros;omega
 | succ g ih=>
  intro f p out hg hf hp ho
  obtain⟨f,rfl⟩:∃ k,f=k+1:=⟨f - 1,by omega⟩
  simp only[di,ES]
  by_cases h:p<s.length
  ·have h0:0<(s.drop p).length:=by rw[List.length_drop];omega
   have hle:=yg (s.drop p) h0
   have hpos:=wj (s.drop p) h0
   have hnr:=G6 (s.drop p) h0
   rw[List.length_drop]at hle
   rw[if_pos (bS h),AU hp,Option.bind_some,Jr h0 (by rw[List.length_drop];omega),Option.bind_some,if_pos h]
   have fin:∀ (n k:Nat),(n,k)=(if(hP (s.drop p)).1=0 then(0,3)else((hP (s.drop p)).2,(hP (s.drop p)).1))→io (p:Int) s out (di s g) (n:Int) (k:Int)=
     some (zi out (if(hP (s.drop p)).1=0 then([],p,5)else if(hP (s.drop p)).1=1∧16<(hP (s.drop p)).2 then([],p,2)else((⟨((hP (s.drop p)).1:Int),(p:Int),(s.drop p).take (hP (s.drop p)).2⟩:bm)::(ES s f (p+(hP (s.drop p)).2+hH false (s.drop (p+(hP (s.drop p)).2)))).1,(ES s f (p+(hP (s.drop p)).2+hH false (s.drop (p+(hP (s.drop p)).2)))).2))):=λn k e=>by
    unfold io
    by_cases hk:(hP (s.drop p)).1=0
    ·rw[if_pos hk]at e ⊢
     injection e with e1 e2;subst e1
     rw[if_pos (by simp)];rfl
    ·have hpos:=hpos hk
     rw[if_neg hk]at e ⊢
     injection e with e1 e2;subst e1;subst e2
     rw[if_neg (by simp;omega)]
     by_cases hw:(hP (s.drop p)).1=1∧16<(hP (s.drop p)).2
     ·rw[if_pos hw,if_pos (by simp;omega)];rfl
     ·have hsk:=rf false (s.drop (p+(hP (s.drop p)).2))
      rw[List.length_drop]at hsk
      rw[if_neg hw,if_neg (by simp;omega),KR (by omega),Hc (by omega),Option.bind_some,cJ (by simp only[List.length_cons,List.length_nil];omega),Option.bind_some,Ey (by omega) (by omega),Option.bind_some]
      rw[ih f _ _ (by omega) (by omega) (by omega) (by simp only[List.length_append,List.length_cons,List.length_nil];omega),ED]
   dsimp only
   by_cases hr:(AF (s.drop p)).1=0
   ·rw[if_pos (by simpa using hr),Option.bind_some,Fd (by rw[List.length_drop];omega),Option.bind_some]
    exact fin (zf (s.drop p) xa) 3 (by rw[← hnr,if_pos hr])
   ·rw[if_neg (by simpa using hr)]
    exact fin (AF (s.drop p)).1 (AF (s.drop p)).2 (by rw[← hnr,if_neg hr])
  ·rw[if_neg h,if_neg (by simp;omega)]
   unfold zi;simp
theorem ref13_Tokenize (s:List UInt8) (hl:s.length<4611686018427387904):jH s=some (tokI s):=by
 unfold jH
 by_cases h:65536<s.length
 ·rw[if_pos (by simp;omega)]
  unfold tokI tokens
  rw[if_pos h];rfl
 ·have hsk:=rf false s
  have e:=Ey (s:=s) (p:=0) (by omega) (by omega)
  rw[List.drop_zero,Nat.zero_add,show((0:Nat):Int)=0 from rfl]at e
  rw[if_neg (by simp;omega),e,Option.bind_some,En h]
  exact Jq (by omega) fu _ _ [] (by unfold fu;omega) (by omega) hsk (by simp)
end Go.Proofs.YtmhoikfoogemnaaGreatDoor.Z13
