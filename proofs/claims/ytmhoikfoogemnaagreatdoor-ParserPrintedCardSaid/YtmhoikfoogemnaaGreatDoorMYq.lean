import Derived.Test.YtmhoikfoogemnaaGreatDoorMYn
namespace Go.Proofs.YtmhoikfoogemnaaGreatDoor
open Go Go.RowKit Go.Vc
set_option linter.unusedVariables false
set_option linter.unusedSimpArgs false
theorem GQ {e:ac} (hn:iU e=0):∀ x∈e.Idx,Bx x:=fun x hx=>by
 obtain⟨p1,p2,p3,p4,p5⟩:=ny hn
 unfold nK at p1
 unfold nj at p2
 unfold uf at p5
 simp only[Bool.and_eq_true,List.all_eq_true]at p1 p2 p5
 have q1:=p1.2 x hx
 have q2:=p2.2 x hx
 obtain⟨q3,q4⟩:=p5.2 x hx
 unfold Ga at q1
 refine⟨of_decide_eq_true q3,fun f hf=>of_decide_eq_true (q4 f hf),?_⟩
 by_cases hf:x.From=[]
 ·rw[if_pos hf]at q1 ⊢
  simpa using q1
 ·rw[if_neg hf]at q1 ⊢
  unfold yd at q1
  simp only[Bool.and_eq_true,decide_eq_true_eq]at q1
  simp only[hf,decide_false,Bool.false_or]at q2
  exact⟨q2,q1.1,List.length_eq_zero_iff.1 (by omega)⟩
structure F2 (e:ac):Prop where
 op1:1≤e.Op
 op2:e.Op≤18
 ty:(e.Op=1∨e.Op=12)→ol e.Type_=true
 nty:e.Op≠1→e.Op≠12→e.Type_=⟨0,0,0,0,0⟩
 val:e.Op=1→tj e.Type_ e.Val=true
 nval:e.Op≠1→e.Val=⟨0,0⟩
 lin:d8 e.Lin
 nlin:e.Op≠2→e.Lin=⟨0,[]⟩
 nam:e.Op=3→cp e.Name=true
 nnam:e.Op≠3→e.Name=[]∧e.Idx=[]
 ix:∀ x∈e.Idx,Bx x
 len:(e.Args.length:Int)=lJ e.Op
theorem Fb {e:ac} (hn:iU e=0):F2 e:=by
 have hix:=GQ hn
 obtain⟨p1,p2,p3,p4,p5⟩:=ny hn
 unfold nK yd JJ at p1
 unfold nj at p2
 unfold pY at p3
 unfold qj at p4
 unfold uf eX at p5
 simp only[Bool.and_eq_true,Bool.or_eq_true,decide_eq_true_eq,Bool.not_eq_true',decide_eq_false_iff_not]at p1 p2 p3 p4 p5
 obtain⟨⟨⟨⟨⟨⟨o1,o2⟩,v⟩,t⟩,l⟩,nm⟩,_⟩:=p1
 refine⟨o1,o2,fun h=> ?_,fun h1 h12=> ?_,fun h=> ?_,fun h=> ?_,p5.1.2,fun h=> ?_,fun h=> ?_,fun h=> ?_,hix,p3.1.1⟩
 ·rcases p4.1 with hh | hh
  ·rcases h with h | h<;>simp[h]at hh
  ·exact hh
 ·have:=t.resolve_left (by rintro(h | h)<;>contradiction)
  cases ht:e.Type_
  rw[ht]at this
  simp only at this
  obtain⟨⟨⟨⟨a,b⟩,c⟩,d⟩,f⟩:=this
  rw[a,b,c,d,f]
 ·exact p5.1.1.resolve_left (fun hh=>hh h)
 ·have:=v.resolve_left h
  cases hv:e.Val
  rw[hv]at this
  simp only at this
  rw[this.1,this.2]
 ·have:=l.resolve_left h
  cases hl:e.Lin with | mk K L=>
  rw[hl]at this
  simp only at this
  rw[this.1,List.length_eq_zero_iff.1 (show L.length=0 by omega)]
 ·exact p2.1.resolve_left (fun hh=>hh h)
 ·have:=nm.resolve_left h
  exact⟨this.1,List.length_eq_zero_iff.1 (by omega)⟩
theorem zR {t:List UInt8} (h:xF t):t.filter (fun c=>decide (c≠32))=t:=by
 rw[List.filter_eq_self]
 intro c hc
 have hw:∀ d:UInt8,(gl d=true→decide (d≠32)=true):=fun d hd=>by
  rw[decide_eq_true_eq];rintro rfl;revert hd;decide
 rcases h with⟨_,h2,_,_⟩ | ⟨h1,_⟩ | h
 ·exact hw c (List.all_eq_true.1 h2 c hc)
 ·exact hw c (zM (List.all_eq_true.1 h1 c hc))
 ·unfold fR at h
  simp only[List.mem_cons,List.not_mem_nil,or_false]at h
  rcases h with rfl | rfl | rfl | rfl | rfl | rfl | rfl | rfl | rfl | rfl | rfl | rfl | rfl | rfl | rfl | rfl | rfl<;>simp at hc<;>(first | (rcases hc with rfl | rfl<;>decide) | (subst hc;decide))
theorem He:∀ {ls:List (List UInt8)} {n:Option UInt8},sv ls n→ls.flatten.filter (fun c=>decide (c≠32))=(ls.filter jF).flatten
 | [],_,_=>rfl
 | t::ls,n,h=>by
  rw[List.flatten_cons,List.filter_append,He h.2]
  rcases h.1 with rfl | ⟨h1,_⟩
  ·rw[List.filter_cons_of_neg (by simp[jF])];rfl
  ·have:t≠[32]:=fun hh=>by
    have:=zR h1;rw[hh]at this;exact absurd this (by decide)
   rw[List.filter_cons_of_pos (by simp[jF,this]),List.flatten_cons,zR h1]
theorem CY:∀ {ls:List (List UInt8)} {n:Option UInt8},sv ls n→ls.length≤ls.flatten.length
 | [],_,_=>by simp
 | t::ls,n,h=>by
  have h2:=CY h.2
  have:1≤t.length:=by
   rcases h.1 with rfl | ⟨h1,_⟩
   ·simp
   ·obtain⟨c,q,rfl,_⟩:=pA h1;simp
  rw[List.flatten_cons,List.length_append,List.length_cons];omega
end Go.Proofs.YtmhoikfoogemnaaGreatDoor
namespace Go.Proofs.YtmhoikfoogemnaaGreatDoor
open Go Go.RowKit Go.Vc
set_option linter.unusedVariables false
set_option linter.unusedSimpArgs false
abbrev gI (ls:List (List UInt8)):List (List UInt8):=ls.filter jF
theorem Fc {t:List UInt8} (h:xF t):jF t=true:=by
 obtain⟨c,q,rfl,hc⟩:=pA h
 unfold jF
 rw[decide_eq_true_eq]
 intro hh
 injection hh with h1 h2
 subst h1
 revert hc;decide
theorem xK {t:List UInt8} (h:uu t):jF t=true:=Fc (Or.inl h)
theorem Kz {t:List UInt8} (h:BJ t):jF t=true:=Fc (Or.inr (Or.inl h))
theorem CS (u:Nat):jF (Lib.decDigits u)=true:=Kz (mt u)
theorem HJ {s t:List UInt8} (hs:BJ s) (ht:uu t):s≠t:=fun h=>by
 have h1:=nH hs
 have h2:=ht.1
 rw[h]at h1
 rw[qV h2]at h1;cases h1
theorem Cm {t:List UInt8} (h:uu t):t∉fR:=fun hs=>by
 have h2:=h.1
 unfold fR at hs
 simp only[List.mem_cons,List.not_mem_nil,or_false]at hs
 rcases hs with rfl | rfl | rfl | rfl | rfl | rfl | rfl | rfl | rfl | rfl | rfl | rfl | rfl | rfl | rfl | rfl | rfl<;>revert h2<;>decide
theorem yE {t:List UInt8} (h:BJ t):t∉fR:=fun hs=>by
 have h2:=nH h
 unfold fR at hs
 simp only[List.mem_cons,List.not_mem_nil,or_false]at hs
 rcases hs with rfl | rfl | rfl | rfl | rfl | rfl | rfl | rfl | rfl | rfl | rfl | rfl | rfl | rfl | rfl | rfl | rfl<;>revert h2<;>decide
theorem Ha (u:Nat) {s:List UInt8} (h:s∈fR):Lib.decDigits u≠s:=fun hh=>yE (mt u) (by rw[hh];exact h)
theorem kq {t s:List UInt8} (ht:uu t) (h:s∈fR):t≠s:=fun hh=>Cm ht (by rw[hh];exact h)
def stopF (r:List (List UInt8)):Prop:=∃ t s,r=t::s∧(t=[93]∨t=[41]∨t=[44])
theorem Ex {c:Int} {nm:List UInt8} (h:nm=[]∨cp nm=true):gI (kn c nm)=kn c nm:=by
 unfold gI kn
 split
 ·simp[CS]
 ·rename_i h0
  have:=xK (gA (h.resolve_left h0))
  split
  ·simp[this]
  ·simp[this,CS,show jF [42]=true by decide]
theorem Dn {c:Int} {nm:List UInt8} (h:nm=[]∨cp nm=true):∃ t s,kn c nm=t::s∧t∉fR:=by
 unfold kn
 split
 ·exact⟨_,_,rfl,yE (mt _)⟩
 ·rename_i h0
  split
  ·exact⟨_,_,rfl,Cm (gA (h.resolve_left h0))⟩
  ·exact⟨_,_,rfl,yE (mt _)⟩
def uo (first:Bool) (c:Int):List (List UInt8):=if c<0 then[[45]]else if first=true then[]else[[43]]
theorem Gt (b:Bool) (c:Int):gI (DA b c)=uo b c:=by
 unfold gI DA uo
 cases b<;>by_cases h:c<0<;>simp[h]<;>decide
abbrev HI (ts:List (Int×List UInt8)):Prop:=∀ x∈ts,x.2=[]∨cp x.2=true
theorem rY {b:Bool} {x:Int×List UInt8} {ts:List (Int×List UInt8)} (h:x.2=[]∨cp x.2=true):gI (oI b (x::ts))=uo b x.1++(kn x.1 x.2++gI (oI false ts)):=by
 rw[oI]
 show List.filter jF _ =_
 rw[List.filter_append,List.filter_append]
 rw[show List.filter jF (DA b x.1)=uo b x.1 from Gt b x.1,show List.filter jF (kn x.1 x.2)=kn x.1 x.2 from Ex h]
theorem Id {b:Bool} {x:Int×List UInt8} {ts:List (Int×List UInt8)} (h:x.2=[]∨cp x.2=true) (r:List (List UInt8)):∃ t s,gI (oI b (x::ts))++r=t::s∧t≠[93]∧t≠[41]∧t≠[44]∧t≠[42]:=by
 rw[rY h]
 unfold uo
 obtain⟨t,s,e,hn⟩:=Dn (c:=x.1) h
 split
 ·exact⟨_,_,rfl,by decide⟩
 ·split
  ·rw[e];exact⟨_,_,rfl,fun hh=>hn (by rw[hh];decide),fun hh=>hn (by rw[hh];decide),fun hh=>hn (by rw[hh];decide),fun hh=>hn (by rw[hh];decide)⟩
  ·exact⟨_,_,rfl,by decide⟩
theorem Fp {f:ay} (h:d8 f) (r:List (List UInt8)):∃ t s,gI (oM f)++r=t::s∧t≠[93]∧t≠[41]∧t≠[44]∧t≠[42]:=by
 unfold oM
 cases ht:iS f with
 | nil=>
  unfold iS at ht
  rw[List.append_eq_nil_iff,List.map_eq_nil_iff]at ht
  rw[ht.1]at ht
  simp at ht
 | cons x ts=>exact Id (rZ h x (by rw[ht];simp)) r
theorem yL {n:Int} (h:0≤n):mr n=[Lib.decDigits n.natAbs]:=by unfold mr;rw[if_neg (by omega)]
theorem Bf {t:aM} (h:ol t=true):gI (zD t)=if t.Kind=1 then[[102,114,97,99]]else if t.Kind=3 then[[105,110,116]]else[[102,105,120],[40],Lib.decDigits t.Bits.natAbs,[44],Lib.decDigits t.Frac.natAbs,[44],nM t.Round,[44],o4 t.Over,[41]]:=by
 unfold zD gI
 by_cases k1:t.Kind=1
 ·rw[if_pos k1,if_pos k1];decide
 by_cases k3:t.Kind=3
 ·rw[if_neg k1,if_neg k1,if_pos k3,if_pos k3];decide
 rw[if_neg k1,if_neg k1,if_neg k3,if_neg k3]
 unfold ol at h
 rw[if_neg (by simp[k1,k3])]at h
 simp only[decide_eq_true_eq]at h
 rw[yL (by omega),yL (by omega)]
 simp[CS,xK (xR _),xK (xQ _),show jF [102,105,120]=true by decide,show jF [40]=true by decide,show jF [44]=true by decide,show jF [41]=true by decide,show jF [32]=false by decide]
theorem Ew (n:Int):gI (mr n)=mr n:=by
 unfold gI mr
 split<;>simp[CS,show jF [45]=true by decide]
theorem uY {α:Type} (f:α→List (List UInt8)) (x y:α) (l:List α):gI (fO ((x::y::l).map f))=gI (f x)++([44]::gI (fO ((y::l).map f))):=by
 rw[List.map_cons,List.map_cons,fO]
 show List.filter jF _ =_
 rw[List.filter_append,List.filter_append]
 rfl
theorem Cw {x:av} (h:Bx x) (hf:x.From≠[]):gI (zF x)=x.From::[91]::(gI (fO (x.At.map oM))++[[93]]):=by
 have h3:=h.2.2
 rw[if_neg hf]at h3
 unfold zF
 rw[if_neg hf]
 show List.filter jF _ =_
 rw[List.filter_append,List.filter_append,List.filter_append,List.filter_cons_of_pos (xK (gA h3.1))]
 rfl
theorem KG {x:av} (h:Bx x) (r:List (List UInt8)):∃ t s,gI (zF x)++r=t::s∧t≠[93]∧t≠[41]:=by
 by_cases hf:x.From=[]
 ·unfold zF
  rw[if_pos hf]
  obtain⟨t,s,h1,h2,h3,_⟩:=Fp h.1 r
  exact⟨t,s,h1,h2,h3⟩
 ·rw[Cw h hf]
  have h3:=h.2.2
  rw[if_neg hf]at h3
  exact⟨_,_,rfl,kq (gA h3.1) (by decide),kq (gA h3.1) (by decide)⟩
theorem EC {b:Bool} {x:Int×List UInt8} {ts:List (Int×List UInt8)} {r s:List (List UInt8)} {t:List UInt8} (h:HI (x::ts)) (hr:stopF r) (ht:uu t) (e:gI (oI b (x::ts))++r=t::s):s.head?≠some [91]:=by
 have hx:=h x (by simp)
 rw[rY hx,List.append_assoc,List.append_assoc]at e
 unfold uo at e
 have hb:kn x.1 x.2++(gI (oI false ts)++r)=t::s:=by
  split at e
  ·exact absurd (List.cons.inj e).1.symm (kq ht (by decide))
  ·split at e
   ·exact e
   ·exact absurd (List.cons.inj e).1.symm (kq ht (by decide))
 unfold kn at hb
 split at hb
 ·exact absurd (List.cons.inj hb).1 (HJ (mt _) ht)
 ·split at hb
  ·have:=(List.cons.inj hb).2
   have this:gI (oI false ts)++r=s:=this
   cases ts with
   | nil=>
    obtain⟨a,c,rfl,hac⟩:=hr
    rw[← this]
    show some a≠ _
    rcases hac with rfl | rfl | rfl<;>decide
   | cons p q=>
    rw[rY (h p (by simp))]at this
    rw[← this]
    unfold uo
    split
    ·show some ([45]:List UInt8)≠ _;decide
    ·show some ([43]:List UInt8)≠ _;decide
  ·exact absurd (List.cons.inj hb).1 (HJ (mt _) ht)
end Go.Proofs.YtmhoikfoogemnaaGreatDoor
namespace Go.Proofs.YtmhoikfoogemnaaGreatDoor
open Go Go.RowKit Go.Vc
set_option linter.unusedVariables false
set_option linter.unusedSimpArgs false
abbrev VE (e:ac):Prop:=okGExpr e∧mv e=0
theorem VE.node {e:ac} (h:VE e):F2 e:=Fb (nI h.2).1
theorem VE.arg {e a:ac} (h:VE e) (ha:a∈e.Args):VE a:=⟨h.1.out.2.2.1 a ha,(nI h.2).2 a ha⟩
def IB (t:List UInt8):Int:=if t=[124]then 1 else if t=[38]then 2 else if t=[60]∨t=[60,61]∨t=[61,61]then 4 else if t=[43]∨t=[45]then 5 else if t=[42]∨t=[47]then 6 else 0
def stopE (L:Int) (r:List (List UInt8)):Prop:=∀ t s,r=t::s→IB t<L
theorem stopF.e {r:List (List UInt8)} (h:stopF r):stopE 1 r:=by
 obtain⟨t,s,rfl,h⟩:=h
 intro t' s' e
 injection e with e1 e2
 subst e1
 rcases h with rfl | rfl | rfl<;>decide
theorem stopE.mono {L M:Int} {r:List (List UInt8)} (h:stopE L r) (hl:L≤M):stopE M r:=fun t s e=>by have:=h t s e;omega
theorem BD (op:Int):1≤jR op∧jR op≤8:=by
 unfold jR
 repeat' split
 all_goals omega
def o8 (op:Int):Prop:=op=4∨op=5∨op=6∨op=7∨op=13∨op=14∨op=15∨op=16∨op=17
def AX (op:Int) (a b:ac):ac:=⟨op,[],⟨0,0⟩,⟨0,0,0,0,0⟩,⟨0,[]⟩,[],[a,b]⟩
theorem qt {e f:ac} (h1:e.Op=f.Op) (h2:e.Name=f.Name) (h3:e.Val=f.Val) (h4:e.Type_=f.Type_) (h5:e.Lin=f.Lin) (h6:e.Idx=f.Idx) (h7:e.Args=f.Args):e=f:=by
 cases e;cases f
 simp only at h1 h2 h3 h4 h5 h6 h7
 rw[h1,h2,h3,h4,h5,h6,h7]
theorem FT {op:Int} (h:o8 op):IB (lc op)=jR op∧lc op∈fR:=by
 unfold o8 at h
 rcases h with rfl | rfl | rfl | rfl | rfl | rfl | rfl | rfl | rfl<;>exact⟨by decide,by decide⟩
def unE (op:Int) (a:ac):ac:=⟨op,[],⟨0,0⟩,⟨0,0,0,0,0⟩,⟨0,[]⟩,[],[a]⟩
end Go.Proofs.YtmhoikfoogemnaaGreatDoor
