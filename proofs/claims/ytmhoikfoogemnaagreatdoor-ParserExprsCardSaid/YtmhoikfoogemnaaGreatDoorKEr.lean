import Derived.Test.YtmhoikfoogemnaaGreatDoorKEp
namespace Go.Proofs.YtmhoikfoogemnaaGreatDoor.Z13
open Go Go.RowKit Go.Vc
set_option linter.unusedVariables false
set_option linter.unusedSimpArgs false
theorem wr (l:List UInt8) (i:Nat) (h:i<l.length):∃ c,l[i]? =some c∧l.drop i=c::l.drop (i+1):=⟨l[i],by simp[h],List.drop_eq_getElem_cons h⟩
theorem Dv (c:UInt8):qF (c.toNat:Int)=(c.toNat:Int):=tD c
theorem AO {s:List UInt8} {f:Int→Option Bool} {p:Int→Bool} (hs:s.length<4611686018427387904) (hf:∀ c:UInt8,f (c.toNat:Int)=some (p (c.toNat:Int))):iS s f=some (iH p s:Int):=by
 unfold iS
 have key:∀ (g i:Nat),i≤s.length→s.length - i<g→eT s f g (i:Int)=some ((i+iH p (s.drop i):Nat):Int):=by
  intro g
  induction g with
  | zero=>intros;omega
  | succ g ih=>
   intro i hi hg
   simp only[eT]
   by_cases h:i<s.length
   ·obtain⟨c,hc,hd⟩:=wr s i h
    rw[cb h]
    simp only[gd,if_true,fD hc,Option.bind_some,Dv,hf,Bool.true_and]
    rw[hd]
    simp only[iH]
    cases hp:p (c.toNat:Int)with
    | true=>
     rw[if_pos rfl,mU (by omega),ih (i+1) (by omega) (by omega)]
     dsimp only
     rw[Nat.add_right_comm,Nat.add_assoc]
    | false=>rw[if_neg (by simp)];rfl
   ·rw[List.drop_of_length_le (by omega),decide_eq_false (by omega)]
    simp[gd,iH]
 have:=key fu 0 (by omega) (by unfold fu;omega)
 rw[List.drop_zero,Nat.zero_add]at this
 exact this
theorem zH:∀ n:Nat,n<256→mE (n:Int)=some (pS (n:Int))∧lP (n:Int)=some (xc (n:Int)):=by decide+kernel
theorem Fb (c:UInt8):mE (c.toNat:Int)=some (pS (c.toNat:Int)):=(zH c.toNat c.toNat_lt).1
theorem vw (c:UInt8):lP (c.toNat:Int)=some (xc (c.toNat:Int)):=(zH c.toNat c.toNat_lt).2
theorem Ie:nG 35=true:=rfl
theorem xO {c:UInt8} {l:List UInt8} (hs:pS (c.toNat:Int)=false) (hc:(c.toNat:Int)=35):gr false (c::l)=iH nG (c::l)+gr false ((c::l).drop (iH nG (c::l)))∧1≤iH nG (c::l):=by
 have e:gr false (c::l)=gr true (c::l):=by
  simp only[gr]
  rw[hs,hc]
  simp only[Ie,decide_true]
 refine⟨by rw[e];exact xd _,?_⟩
 simp only[iH,hc,Ie];omega
theorem DC {s:List UInt8} (hl:s.length≤1000000):mg s=some (gr false s:Int):=by
 unfold mg
 have key:∀ (g i:Nat),i≤s.length→s.length - i<g→gK s g (i:Int)=some ((i+gr false (s.drop i):Nat):Int):=by
  intro g
  induction g with
  | zero=>intros;omega
  | succ g ih=>
   intro i hi hg
   simp only[gK]
   by_cases h:i<s.length
   ·obtain⟨c,hc,hd⟩:=wr s i h
    rw[if_pos (cb h),fD hc,Option.bind_some,Dv,Fb,Option.bind_some]
    cases hsp:pS (c.toNat:Int)with
    | true=>
     rw[if_pos rfl,mU (by omega),ih (i+1) (by omega) (by omega),hd]
     simp only[gr,hsp]
     rw[Nat.add_right_comm,Nat.add_assoc]
    | false=>
     rw[if_neg (by simp)]
     by_cases h35:(c.toNat:Int)=35
     ·obtain⟨q1,q2⟩:=xO (l:=s.drop (i+1)) hsp h35
      rw[← hd]at q1 q2
      have hle:=sC nG (s.drop i)
      rw[List.length_drop]at hle
      have e1:i7 s (i:Int)=some (s.drop i):=by unfold i7;rw[if_pos (by omega)];simp
      rw[if_pos (by simpa using h35),e1,Option.bind_some,AO (p:=nG) (by rw[List.length_drop];omega) (fun c=>rfl),Option.bind_some,HP (by omega),ih (i+iH nG (s.drop i)) (by omega) (by omega),q1, ← List.drop_drop,Nat.add_assoc]
     ·rw[if_neg (by simpa using h35),hd]
      simp only[gr,hsp,decide_eq_false h35]
      rfl
   ·rw[List.drop_of_length_le (by omega),if_neg (by simp;omega)];rfl
 have:=key fu 0 (by omega) (by unfold fu;omega)
 rw[List.drop_zero,Nat.zero_add]at this
 exact this
theorem Ch (c:UInt8) (l:List UInt8):sat (c::l) 0=some (c.toNat:Int):=fD (i:=0) rfl
theorem Ep (c:UInt8):dX (c.toNat:Int)=some (im (c.toNat:Int)):=by
 unfold dX ij iZ im mm lf
 rw[Option.bind_some]
 cases (decide (97≤(c.toNat:Int))&&decide ((c.toNat:Int)≤122))<;>simp[gd]
theorem He {s:List UInt8} (h0:0<s.length) (hl:s.length≤1000000):nj s=some (((gu s).1:Int),((gu s).2:Int)):=by
 obtain⟨c,l,rfl⟩:∃ c l,s=c::l:=by cases s with | nil=>simp at h0 | cons c l=>exact⟨c,l,rfl⟩
 unfold nj gu
 rw[Ch,Option.bind_some,Dv,pN]
 dsimp only
 show((some (mm (c.toNat:Int))).bind _)=_
 rw[Option.bind_some]
 cases h1:mm (c.toNat:Int)with
 | true=>rw[if_pos rfl,if_pos rfl,AO (p:=im) (by omega) Ep];rfl
 | false=>
  rw[if_neg (by simp),if_neg (by simp)]
  show((some (lf (c.toNat:Int))).bind _)=_
  rw[Option.bind_some]
  cases h2:lf (c.toNat:Int)with
  | true=>rw[if_pos rfl,if_pos rfl,AO (p:=lf) (by omega) (fun c=>rfl)];rfl
  | false=>
   rw[if_neg (by simp),if_neg (by simp)]
   cases l with
   | nil=>
    have e:decide ((1:Int)<((([c]:List UInt8).length:Nat):Int))=false:=by simp
    rw[e]
    simp only[gd,Bool.and_false,Bool.false_and,Bool.false_eq_true,if_false,Option.bind_some]
    rw[vw,Option.bind_some]
    cases xc (c.toNat:Int)<;>rfl
   | cons d l=>
    have e:decide ((1:Int)<(((c::d::l).length:Nat):Int))=true:=decide_eq_true (by simp only[List.length_cons];omega)
    have e1:sat (c::d::l) 1=some (d.toNat:Int):=fD (i:=1) rfl
    have e2:wY (c::d::l) 1=(d.toNat:Int):=rfl
    rw[e,e1,e2,Bool.and_true]
    cases hb:(decide ((c.toNat:Int)=60)||decide ((c.toNat:Int)=61))with
    | true=>
     simp only[gd,if_true,Option.bind_some,Bool.true_and]
     cases hd:decide ((d.toNat:Int)=61)with
     | true=>rfl
     | false=>
      simp only[Bool.false_eq_true,if_false]
      rw[vw,Option.bind_some]
      cases xc (c.toNat:Int)<;>rfl
    | false=>
     simp only[gd,Bool.false_and,Bool.false_eq_true,if_false,Option.bind_some]
     rw[vw,Option.bind_some]
     cases xc (c.toNat:Int)<;>rfl
def xf (out:List aS) (r:List aS×Nat×Nat):List aS×Int×Int:=if r.2.2=0 then(out++r.1,0,0)else([],(r.2.1:Int),(r.2.2:Int))
theorem Eh {s:List UInt8} {p n:Nat} (h:p+n≤s.length):Bg s (p:Int) ((p+n:Nat):Int)=some ((s.drop p).take n):=by
 unfold Bg;rw[if_pos (by omega),Int.toNat_natCast,Int.toNat_natCast,show p+n - p=n by omega]
theorem yt {s:List UInt8} {p:Nat} (h:p≤s.length):i7 s (p:Int)=some (s.drop p):=by unfold i7;rw[if_pos (by omega)];simp
theorem BW {out:List aS} {t:aS} {r:List aS×Nat×Nat} :xf (out++[t]) r=xf out (t::r.1,r.2):=by
 unfold xf;dsimp only;split
 ·rw[List.append_assoc];rfl
 ·rfl
theorem HZ {s:List UInt8} (hl:s.length≤65536):∀ (g f p:Nat) (out:List aS),s.length<p+g→s.length<p+f→p≤s.length→out.length≤p→fw s g out (p:Int)=some (xf out (B7 s f p)):=by
 intro g
 induction g with
 | zero=>intros;omega
 | succ g ih=>
  intro f p out hg hf hp ho
  obtain⟨f,rfl⟩:∃ k,f=k+1:=⟨f - 1,by omega⟩
  simp only[fw,B7]
  by_cases h:p<s.length
  ·have h0:0<(s.drop p).length:=by rw[List.length_drop];omega
   have hle:=vY (s.drop p) h0
   have hpos:=tJ (s.drop p) h0
   rw[List.length_drop]at hle
   rw[if_pos (cb h),yt hp,Option.bind_some,He h0 (by rw[List.length_drop];omega),Option.bind_some,if_pos h]
   by_cases hk:(gu (s.drop p)).1=0
   ·rw[if_pos (by simpa using hk),if_pos hk];rfl
   ·have hpos:=hpos hk
    rw[if_neg (by simpa using hk),if_neg hk]
    by_cases hw:(gu (s.drop p)).1=1∧16<(gu (s.drop p)).2
    ·rw[if_pos hw,if_pos (by simp;omega)];rfl
    ·have hsk:=px false (s.drop (p+(gu (s.drop p)).2))
     rw[List.length_drop]at hsk
     rw[if_neg hw,if_neg (by simp;omega),HP (by omega),Eh (by omega),Option.bind_some,eE (by simp only[List.length_cons,List.length_nil];omega),Option.bind_some,yt (by omega),Option.bind_some,DC (by rw[List.length_drop];omega),Option.bind_some,Option.bind_some,HP (by omega)]
     rw[ih f _ _ (by omega) (by omega) (by omega) (by simp only[List.length_append,List.length_cons,List.length_nil];omega),BW]
  ·rw[if_neg h,if_neg (by simp;omega)]
   unfold xf;simp
def tokI (s:List UInt8):List aS×Int×Int:=((tokens s).1,((tokens s).2.1:Int),((tokens s).2.2:Int))
theorem BJ {s:List UInt8} (h:¬ 65536<s.length):tokI s=xf [] (B7 s (s.length+1) (gr false s)):=by
 unfold tokI tokens xf
 rw[if_neg h]
 dsimp only
 split<;>simp
theorem lexer_Tokenize (s:List UInt8) (hl:s.length<4611686018427387904):jh s=some (tokI s):=by
 unfold jh
 by_cases h:65536<s.length
 ·rw[if_pos (by simp;omega)]
  unfold tokI tokens
  rw[if_pos h];rfl
 ·have hsk:=px false s
  rw[if_neg (by simp;omega),DC (by omega),Option.bind_some,BJ h]
  exact HZ (by omega) fu _ _ [] (by unfold fu;omega) (by omega) hsk (by simp)
theorem DN (c:UInt8):n0 (c.toNat:Int)=some (pS (c.toNat:Int)):=rfl
theorem DO {s:List UInt8} (hl:s.length≤1000000) (self:Int→Option Int):∀ (g i:Nat),i≤s.length→s.length - i<g→iC s self g (i:Int)=self ((i+iH nG (s.drop i):Nat):Int):=by
 intro g
 induction g with
 | zero=>intros;omega
 | succ g ih=>
  intro i hi hg
  simp only[iC]
  by_cases h:i<s.length
  ·obtain⟨c,hc,hd⟩:=wr s i h
   rw[cb h,hd]
   simp only[gd,if_true,fD hc,Option.bind_some,Bool.true_and,iH]
   show(if nG (c.toNat:Int)=true then _ else _)=_
   cases hn:nG (c.toNat:Int)with
   | true=>
    rw[if_pos rfl,mU (by omega),ih (i+1) (by omega) (by omega)]
    dsimp only
    rw[Nat.add_right_comm,Nat.add_assoc]
   | false=>rw[if_neg (by simp)];rfl
  ·rw[List.drop_of_length_le (by omega),decide_eq_false (by omega)]
   simp[gd,iH]
theorem BS {s:List UInt8} (hl:s.length≤1000000) {p:Nat} (hp:p≤s.length):mb s (p:Int)=some ((p+gr false (s.drop p):Nat):Int):=by
 unfold mb
 have key:∀ (g i:Nat),i≤s.length→s.length - i<g→fO s g (i:Int)=some ((i+gr false (s.drop i):Nat):Int):=by
  intro g
  induction g with
  | zero=>intros;omega
  | succ g ih=>
   intro i hi hg
   simp only[fO]
   by_cases h:i<s.length
   ·obtain⟨c,hc,hd⟩:=wr s i h
    rw[if_pos (cb h),fD hc,Option.bind_some,DN,Option.bind_some]
    cases hsp:pS (c.toNat:Int)with
    | true=>
     rw[if_pos rfl,mU (by omega),ih (i+1) (by omega) (by omega),hd]
     simp only[gr,hsp]
     rw[Nat.add_right_comm,Nat.add_assoc]
    | false=>
     rw[if_neg (by simp),Option.bind_some]
     by_cases h35:(c.toNat:Int)=35
     ·obtain⟨q1,q2⟩:=xO (l:=s.drop (i+1)) hsp h35
      rw[← hd]at q1 q2
      have hle:=sC nG (s.drop i)
      rw[List.length_drop]at hle
      rw[if_pos (by simpa using h35),DO hl _ fu i hi (by unfold fu;omega),ih (i+iH nG (s.drop i)) (by omega) (by omega),q1, ← List.drop_drop,Nat.add_assoc]
     ·rw[if_neg (by simpa using h35),hd]
      simp only[gr,hsp,decide_eq_false h35]
      rfl
   ·rw[List.drop_of_length_le (by omega),if_neg (by simp;omega)];rfl
 exact key fu p hp (by unfold fu;omega)
theorem DP {s:List UInt8} (hl:s.length≤1000000) (kind:Int) (p:Int→Bool) (hk:(kind=1∧p=im)∨(kind=2∧p=lf)):gx s kind fu 0=some ((iH p s:Int),kind):=by
 have key:∀ (g i:Nat),i≤s.length→s.length - i<g→gx s kind g (i:Int)=some (((i+iH p (s.drop i):Nat):Int),kind):=by
  intro g
  induction g with
  | zero=>intros;omega
  | succ g ih=>
   intro i hi hg
   simp only[gx]
   by_cases h:i<s.length
   ·obtain⟨c,hc,hd⟩:=wr s i h
    rw[cb h,hd]
    have fin:∀ (b:Bool),b=p (c.toNat:Int)→(if b=true then gx s kind g (ar ((i:Int)+1))else some ((i:Int),kind))=some (((i+iH p (c::s.drop (i+1)):Nat):Int),kind):=fun b hb=>by
     simp only[iH]
     rw[← hb]
     cases b with
     | true=>
      rw[if_pos rfl,mU (by omega),ih (i+1) (by omega) (by omega)]
      dsimp only
      rw[Nat.add_right_comm,Nat.add_assoc]
     | false=>rw[if_neg (by simp)];rfl
    simp only[gd,if_true,fD hc,Option.bind_some,Bool.true_and]
    show((some (lf (c.toNat:Int))).bind _)=_
    rw[Option.bind_some]
    rcases hk with⟨rfl,rfl⟩ | ⟨rfl,rfl⟩
    ·cases hdg:lf (c.toNat:Int)with
     | true=>
      simp only[Bool.not_true,Bool.false_and,Bool.false_eq_true,if_false,Option.bind_some,Bool.true_or]
      exact fin true (by simp[im,hdg])
     | false=>
      simp only[Bool.not_false,Bool.true_and,decide_true,if_true,Option.bind_some,Bool.false_or]
      show((some (mm (c.toNat:Int))).bind _)=_
      rw[Option.bind_some]
      cases hlt:mm (c.toNat:Int)with
      | true=>simp only[Bool.not_true,Bool.false_eq_true,if_false,Option.bind_some,Bool.true_or];exact fin true (by simp[im,hlt])
      | false=>simp only[Bool.not_false,if_true,Option.bind_some,Bool.false_or];exact fin _ (by simp[im,hlt,hdg])
    ·have e2:decide ((2:Int)=1)=false:=rfl
     simp only[e2,Bool.and_false,Bool.false_and,Bool.false_eq_true,if_false,Option.bind_some,Bool.or_false]
     exact fin _ rfl
   ·rw[List.drop_of_length_le (by omega),decide_eq_false (by omega)]
    simp[gd,iH]
 have:=key fu 0 (by omega) (by unfold fu;omega)
 rw[List.drop_zero,Nat.zero_add]at this
 exact this
theorem GB {s:List UInt8} (h0:0<s.length) (hl:s.length≤1000000):oa s=some (((yk s).1:Int),((yk s).2:Int)):=by
 obtain⟨c,l,rfl⟩:∃ c l,s=c::l:=by cases s with | nil=>simp at h0 | cons c l=>exact⟨c,l,rfl⟩
 unfold oa yk
 rw[pN,Ch,decide_eq_true h0]
 have e0:decide ((c::l:List UInt8)=[])=false:=rfl
 rw[e0]
 simp only[gd,Bool.not_false,if_true,Option.bind_some,Bool.true_and,Bool.false_or,Bool.and_true]
 show((some (mm (c.toNat:Int))).bind _)=_
 rw[Option.bind_some]
 cases h1:mm (c.toNat:Int)with
 | true=>
  simp only[Bool.not_true,Bool.false_eq_true,if_false,Option.bind_some,Bool.false_and,if_true]
  show((some (mm (c.toNat:Int))).bind _)=_
  rw[h1,Option.bind_some,if_pos rfl]
  exact DP hl 1 im (.inl ⟨rfl,rfl⟩)
 | false=>
  simp only[Bool.not_false,if_true,Option.bind_some,Bool.true_and,Bool.false_eq_true,if_false]
  show((some (lf (c.toNat:Int))).bind _)=_
  rw[Option.bind_some]
  cases h2:lf (c.toNat:Int)with
  | true=>
   simp only[Bool.not_true,Bool.false_eq_true,if_false,if_true]
   show((some (mm (c.toNat:Int))).bind _)=_
   rw[h1,Option.bind_some,if_neg (by simp)]
   exact DP hl 2 lf (.inr ⟨rfl,rfl⟩)
  | false=>rfl
theorem Cr {s:List UInt8} (hl:s.length≤1000000):lK s=some (xb s uy:Int):=by
 have key:∀ (l:List (List UInt8)) (pre:List (List UInt8)) (g:Nat),uy=pre++l→l.length<g→fA uy s g (pre.length:Int)=some (xb s l:Int):=by
  intro l
  induction l with
  | nil=>
   intro pre g hp hg
   obtain⟨g,rfl⟩:∃ k,g=k+1:=⟨g - 1,by omega⟩
   simp only[fA]
   rw[hp,List.append_nil,if_neg (by simp)];rfl
  | cons e l ih=>
   intro pre g hp hg
   obtain⟨g,rfl⟩:∃ k,g=k+1:=⟨g - 1,by omega⟩
   have hat:lat uy (pre.length:Int)=some e:=by rw[hp];exact yw pre e l
   have hlt:decide ((pre.length:Int)<(uy.length:Int))=true:=by rw[hp];exact cb (by simp)
   have hn:uy.length=22:=rfl
   have hpl:pre.length<22:=by rw[← hn,hp];simp
   simp only[fA]
   rw[if_pos hlt,hat,Option.bind_some]
   have ih':=ih (pre++[e]) g (by rw[hp];simp) (by simp only[List.length_cons]at hg;omega)
   rw[List.length_append,List.length_cons,List.length_nil,Nat.zero_add]at ih'
   simp only[xb,uG]
   by_cases hf:(e.length:Int)≤(s.length:Int)
   ·have hu:ox s (e.length:Int)=some (s.take e.length):=by unfold ox;rw[if_pos (by omega)];simp
    rw[decide_eq_true hf]
    simp only[gd,if_true,Option.bind_some,Bool.true_and,hu]
    by_cases ht:s.take e.length=e
    ·rw[if_pos (by simp[ht]),decide_eq_true ht]
    ·rw[if_neg (by simp[ht]),decide_eq_false ht,mU (by omega)];exact ih'
   ·rw[decide_eq_false hf]
    simp only[gd,Bool.false_eq_true,if_false,Option.bind_some,Bool.false_and]
    rw[mU (by omega)];exact ih'
 have e:mJ=some uy:=rfl
 have k:=key uy [] fu rfl (show 22<fu by unfold fu;omega)
 rw[List.length_nil,show((0:Nat):Int)=0 from rfl]at k
 unfold lK
 rw[e,Option.bind_some,k]
theorem GA {s:List UInt8} (hl:s.length≤65536):∀ (g f p:Nat) (out:List aS),s.length<p+g→s.length<p+f→p≤s.length→out.length≤p→cN s g out (p:Int)=some (xf out (B7 s f p)):=by
 intro g
 induction g with
 | zero=>intros;omega
 | succ g ih=>
  intro f p out hg hf hp ho
  obtain⟨f,rfl⟩:∃ k,f=k+1:=⟨f - 1,by omega⟩
  simp only[cN,B7]
  by_cases h:p<s.length
  ·have h0:0<(s.drop p).length:=by rw[List.length_drop];omega
   have hle:=vY (s.drop p) h0
   have hpos:=tJ (s.drop p) h0
   have hnr:=Eb (s.drop p) h0
   rw[List.length_drop]at hle
   rw[if_pos (cb h),yt hp,Option.bind_some,GB h0 (by rw[List.length_drop];omega),Option.bind_some,if_pos h]
   have fin:∀ (n k:Nat),(n,k)=(if(gu (s.drop p)).1=0 then(0,3)else((gu (s.drop p)).2,(gu (s.drop p)).1))→gH (p:Int) s out (cN s g) (n:Int) (k:Int)=
     some (xf out (if(gu (s.drop p)).1=0 then([],p,5)else if(gu (s.drop p)).1=1∧16<(gu (s.drop p)).2 then([],p,2)else((⟨((gu (s.drop p)).1:Int),(p:Int),(s.drop p).take (gu (s.drop p)).2⟩:aS)::(B7 s f (p+(gu (s.drop p)).2+gr false (s.drop (p+(gu (s.drop p)).2)))).1,(B7 s f (p+(gu (s.drop p)).2+gr false (s.drop (p+(gu (s.drop p)).2)))).2))):=fun n k e=>by
    unfold gH
    by_cases hk:(gu (s.drop p)).1=0
    ·rw[if_pos hk]at e ⊢
     injection e with e1 e2;subst e1
     rw[if_pos (by simp)];rfl
    ·have hpos:=hpos hk
     rw[if_neg hk]at e ⊢
     injection e with e1 e2;subst e1;subst e2
     rw[if_neg (by simp;omega)]
     by_cases hw:(gu (s.drop p)).1=1∧16<(gu (s.drop p)).2
     ·rw[if_pos hw,if_pos (by simp;omega)];rfl
     ·have hsk:=px false (s.drop (p+(gu (s.drop p)).2))
      rw[List.length_drop]at hsk
      rw[if_neg hw,if_neg (by simp;omega),HP (by omega),Eh (by omega),Option.bind_some,eE (by simp only[List.length_cons,List.length_nil];omega),Option.bind_some,BS (by omega) (by omega),Option.bind_some]
      rw[ih f _ _ (by omega) (by omega) (by omega) (by simp only[List.length_append,List.length_cons,List.length_nil];omega),BW]
   dsimp only
   by_cases hr:(yk (s.drop p)).1=0
   ·rw[if_pos (by simpa using hr),Option.bind_some,Cr (by rw[List.length_drop];omega),Option.bind_some]
    exact fin (xb (s.drop p) uy) 3 (by rw[← hnr,if_pos hr])
   ·rw[if_neg (by simpa using hr)]
    exact fin (yk (s.drop p)).1 (yk (s.drop p)).2 (by rw[← hnr,if_neg hr])
  ·rw[if_neg h,if_neg (by simp;omega)]
   unfold xf;simp
theorem ref13_Tokenize (s:List UInt8) (hl:s.length<4611686018427387904):jb s=some (tokI s):=by
 unfold jb
 by_cases h:65536<s.length
 ·rw[if_pos (by simp;omega)]
  unfold tokI tokens
  rw[if_pos h];rfl
 ·have hsk:=px false s
  have e:=BS (s:=s) (p:=0) (by omega) (by omega)
  rw[List.drop_zero,Nat.zero_add,show((0:Nat):Int)=0 from rfl]at e
  rw[if_neg (by simp;omega),e,Option.bind_some,BJ h]
  exact GA (by omega) fu _ _ [] (by unfold fu;omega) (by omega) hsk (by simp)
end Go.Proofs.YtmhoikfoogemnaaGreatDoor.Z13
