import Derived.Test.YtmhoikfoogemnaaGreatDoorHYg
namespace Go.Proofs.YtmhoikfoogemnaaGreatDoor
open Go Go.RowKit Go.Vc
set_option linter.unusedVariables false
set_option linter.unusedSimpArgs false
def kH (op:Int):Int:=
  if op=17 then 1 else if op=16 then 2 else if op=18 then 3 else if op=13∨op=14∨op=15 then 4
  else if op=4∨op=5 then 5 else if op=6∨op=7 then 6 else if op=8 then 7 else 8
def mE (op:Int):List UInt8:=
  if op=4 then[43]else if op=5 then[45]else if op=6 then[42]else if op=7 then[47]else if op=13 then[60]else if op=14 then[60,61]else if op=15 then[61,61]else if op=16 then[38]else if op=17 then[124]else[]
theorem Li (op:Int):nR op=some (if mE op=[]then[]else[32]++(mE op++[32])):=by
  unfold nR mE
  by_cases h4:op=4
  · simp[h4]
  by_cases h5:op=5
  · simp[h5]
  by_cases h6:op=6
  · simp[h6]
  by_cases h7:op=7
  · simp[h7]
  by_cases h13:op=13
  · simp[h13]
  by_cases h14:op=14
  · simp[h14]
  by_cases h15:op=15
  · simp[h15]
  by_cases h16:op=16
  · simp[h16]
  by_cases h17:op=17
  · simp[h17]
  simp[h4,h5,h6,h7,h13,h14,h15,h16,h17]
theorem DN (op:Int):(mE op).length≤2:=by unfold mE;repeat' split
                                         all_goals simp
def opd (a:ae) (t:List UInt8) (ph:Int):List UInt8:=if kH a.Op<ph then[40]++(t++[41])else t
theorem we (a:ae) (t:List UInt8) (ph:Int):(opd a t ph).length≤t.length+2:=by unfold opd;split<;>simp
theorem lK {α:Type} {f g:α→Nat} {l:List α} (h:∀ x∈l,f x≤g x):(l.map f).sum≤(l.map g).sum:=by
  induction l with
  | nil=>simp
  | cons x l ih=>
    rw[List.map_cons,List.map_cons,List.sum_cons,List.sum_cons]
    have:=h x (by simp)
    have:=ih λy hy=>h y (by simp[hy])
    omega
theorem oP {α:Type} (f:α→Nat) (c d:Nat) (l:List α):(l.map λx=>c * f x+d).sum=c * (l.map f).sum+d * l.length:=by
  induction l with
  | nil=>simp
  | cons x l ih=>simp only[List.map_cons,List.sum_cons,List.length_cons,ih,Nat.mul_add,Nat.mul_one];omega
theorem Ej {x:aM} (ho:nP x):(Cq x).length≤60 * wI x+60:=by
  obtain⟨o1,_,o2⟩:=ho
  have hj:=fv (x.At.map mw)
  have hs:mx (x.At.map mw)≤40 * (x.At.map (·.L.length)).sum+26 * x.At.length:=by
    unfold mx
    rw[List.map_map, ← oP]
    exact lK λf hf=>by have:=pg (o2.1 f hf).r;simp only[Function.comp];omega
  unfold wI Cq
  split
  · rename_i hk
    split
    · split
      · have:=Ef hk.1 o1.r.1 o1.r.2;omega
      · simp
    · split
      · rename_i hc
        have:=(oD hc.1).2
        simp only[List.length_append,List.length_cons,List.length_nil];omega
      · simp
  · simp
theorem pI {e:ae} (h:jA e=0):qc e=true∧pt e=true∧sW e=true∧tr e=true∧xF e=true:=by
  unfold jA at h
  repeat' split at h
  all_goals simp_all
theorem pX {e:ae} (h:ov e=0):jA e=0∧∀ a∈e.Args,ov a=0:=by
  rw[CF]at h
  by_cases hn:jA e=0
  · rw[if_pos hn]at h;exact⟨hn,Bo.1 h⟩
  · rw[if_neg hn]at h;exact absurd h hn
theorem H0 {α:Type} :∀ {l:List α},l.length=2→∃ a b,l=[a,b]
  | [a,b],_=>⟨a,b,rfl⟩
theorem len3 {α:Type} :∀ {l:List α},l.length=3→∃ a b c,l=[a,b,c]
  | [a,b,c],_=>⟨a,b,c,rfl⟩
end Go.Proofs.YtmhoikfoogemnaaGreatDoor
namespace Go.Proofs.YtmhoikfoogemnaaGreatDoor
open Go Go.RowKit Go.Vc
set_option linter.unusedVariables false
set_option linter.unusedSimpArgs false
theorem us:∀ {l:List Nat} {x:Nat},x∈l→x≤l.sum
 | y::l,x,h=>by
  rw[List.sum_cons]
  rcases List.mem_cons.1 h with rfl | h
  ·omega
  ·have:=us h;omega
theorem ug {e:ae} (h:vE e=0):ov e=0:=by
 unfold vE at h
 repeat' split at h
 all_goals simp_all
end Go.Proofs.YtmhoikfoogemnaaGreatDoor
namespace Go.Proofs.YtmhoikfoogemnaaGreatDoor
open Go Go.RowKit Go.Vc
set_option linter.unusedVariables false
set_option linter.unusedSimpArgs false
theorem eM {α:Type} {l:List α} {i:Nat} {x:α} (h:l[i]? =some x):i<l.length:=(List.getElem?_eq_some_iff.1 h).1
theorem Fe {α:Type} {L:Nat→Int→Option Bool} {l:List α} {ok:α→Bool} (hn:l.length<4611686018427387904)
    (rd:∀ f (i:Nat) x,l[i]? =some x→L (f+1) (i:Int)=if ok x=true then L f ((i+1:Nat):Int)else some false)
    (fin:∀ f,L (f+1) (l.length:Int)=some true):L fu 0=some (l.all ok):=by
  refine ib (L:=λf (_:Unit) i=>L f i) (n:=l.length) hn (λi _=>(l.take i).all ok=true) ?_ ?_ () (by simp)
  · intro f i _ hi hI
    obtain⟨x,hx⟩:=bY hi
    rw[rd f i x hx]
    by_cases ho:ok x=true
    · left;refine⟨(),?_,by rw[if_pos ho]⟩
      rw[bE hx,List.all_append,hI];simp[ho]
    · right;rw[if_neg ho]
      have:l.all ok=false:=by
        rw[Bool.eq_false_iff]
        intro h;exact ho (List.all_eq_true.1 h x (List.mem_of_getElem? hx))
      rw[this]
  · intro f _ hI
    rw[fin f];rw[List.take_length]at hI;rw[hI]
theorem wW {α R:Type} {L:Nat→List UInt8→Int→Option R} {l:List α} {ok:α→Bool} {tx:α→List UInt8} {c:α→Nat} {bad:Option R} {k:List UInt8→Option R} {s0:List UInt8} {B:Nat} (hn:l.length<4611686018427387904)
    (hc:∀ x∈l,(tx x).length≤c x) (hB:s0.length+(l.map c).sum≤B)
    (good:∀ f (i:Nat) s x,l[i]? =some x→ok x=true→s.length+c x≤B→L (f+1) s (i:Int)=L f (s++tx x) ((i+1:Nat):Int))
    (no:∀ f (i:Nat) s x,l[i]? =some x→ok x=false→L (f+1) s (i:Int)=bad)
    (fin:∀ f s,s.length≤B→L (f+1) s (l.length:Int)=k s):L fu s0 0=if l.all ok=true then k (s0++(l.map tx).flatten)else bad:=by
  refine ib (L:=L) (n:=l.length) hn (λi s=>(l.take i).all ok=true∧s=s0++((l.take i).map tx).flatten∧s.length≤s0.length+((l.take i).map c).sum) ?_ ?_ s0 ⟨by simp,by simp,by simp⟩
  · rintro f i s hi ⟨hI,hs,hl⟩
    obtain⟨x,hx⟩:=bY hi
    have hm:=List.mem_of_getElem? hx
    have h1:=tv (zs:=l.map c) (i:=i) (x:=c x) (by rw[List.getElem?_map,hx];rfl)
    have h2:=rS (l.map c) (i+1)
    rw[← List.map_take]at h1 h2
    rw[← List.map_take]at h1
    have h3:=hc x hm
    by_cases ho:ok x=true
    · left
      refine⟨_,⟨?_,?_,?_⟩,good f i s x hx ho (by omega)⟩
      · rw[bE hx,List.all_append,hI];simp[ho]
      · rw[bE hx,hs];simp
      · rw[List.length_append];omega
    · right
      rw[no f i s x hx (by simpa using ho),if_neg]
      intro h;exact ho (List.all_eq_true.1 h x hm)
  · rintro f s ⟨hI,hs,hl⟩
    rw[List.take_length]at *
    rw[fin f s (by omega),if_pos hI,hs]
theorem Bh {α:Type} {L:Nat→List UInt8→Int→Option (List UInt8×Bool)} {l:List α} {ok:α→Bool} {tx:α→List UInt8} (hn:l.length<4611686018427387904) (hl:mx (l.map tx)≤4294967296)
    (good:∀ f (i:Nat) s x,l[i]? =some x→ok x=true→s.length+(tx x).length+2≤4294967296→L (f+1) s (i:Int)=L f (if i=0 then s++tx x else s++([44,32]++tx x)) ((i+1:Nat):Int))
    (no:∀ f (i:Nat) s x,l[i]? =some x→ok x=false→L (f+1) s (i:Int)=some ([],false))
    (fin:∀ f s,L (f+1) s (l.length:Int)=some (s,true)):L fu [] 0=some (if l.all ok=true then(dP (l.map tx),true)else([],false)):=by
  refine ib (L:=L) (n:=l.length) hn (λi s=>(l.take i).all ok=true∧s=dP ((l.map tx).take i)) ?_ ?_ [] ⟨by simp,by simp[dP]⟩
  · rintro f i s hi ⟨hI,rfl⟩
    obtain⟨x,hx⟩:=bY hi
    have hm:=List.mem_of_getElem? hx
    have ht:(l.map tx)[i]? =some (tx x):=by rw[List.getElem?_map,hx];rfl
    have h4:=fv ((l.map tx).take i)
    have h5:=Cn ht
    by_cases ho:ok x=true
    · left
      refine⟨_,⟨?_,?_⟩,good f i _ x hx ho (by omega)⟩
      · rw[bE hx,List.all_append,hI];simp[ho]
      · rw[bE ht,so]
        cases i with
        | zero=>simp[dP]
        | succ i=>rw[if_neg (by omega),if_neg (BR (by rw[List.length_map];exact hi))]
    · right
      rw[no f i _ x hx (by simpa using ho),if_neg]
      intro h;exact ho (List.all_eq_true.1 h x hm)
  · rintro f s ⟨hI,rfl⟩
    rw[List.take_length]at hI
    rw[fin,if_pos hI,show l.length=(l.map tx).length by rw[List.length_map],List.take_length]
def Dr (a:fG):Bool:=bw a.Name&&decide (cv a.Size)
def E8 (a:fG):List UInt8:=a.Name++([32,60,32]++mw a.Size)
theorem iv {α:Type} (f:α→Nat) (l:List α):l.length≤oz f l:=by unfold oz;omega
theorem rU {α:Type} {f:α→Nat} {l:List α} {x:α} (h:x∈l):f x+1≤oz f l:=by
  have:=us (List.mem_map_of_mem (f:=f) h)
  have:0<l.length:=List.length_pos_of_mem h
  unfold oz;omega
theorem L6 {a:fG} (h:uo a):(E8 a).length≤40 * gp a+27:=by
  have h1:=pg h.2.r
  have h2:=iv lC a.Size.L
  unfold E8 gp jP
  simp only[List.length_append,List.length_cons,List.length_nil];omega
theorem rO {l:List fG} (h:Cc uo l):mx (l.map E8)≤40 * oz gp l:=by
  unfold mx oz
  rw[List.map_map]
  have h1:(l.map ((λt=>t.length+2)∘E8)).sum≤(l.map λx=>40 * gp x+29).sum:=lK λa ha=>by have:=L6 (h.1 a ha);simp only[Function.comp];omega
  rw[oP]at h1
  omega
theorem yq {l:List fG} {a:fG} (hl:oz gp l≤1048576) (ha:a∈l):a.Size.L.length≤1048576:=by
  have h1:=rU (f:=gp) ha
  have h2:=iv lC a.Size.L
  have e:gp a=a.Name.length+oz lC a.Size.L:=rfl
  omega
theorem yG {l:List fG} (h:Cc uo l) (hl:oz gp l≤1048576):mm l=some (if l.all Dr=true then(dP (l.map E8),true)else([],false)):=by
  have hn:=iv gp l
  have hj:=rO h
  unfold mm
  refine Bh (by omega) (by omega) (λf i s x hx ho hs=>?_) (λf i s x hx ho=>?_) λf s=>?_
  · have hi:=eM hx
    have hm:=List.mem_of_getElem? hx
    have h1:=yq hl hm
    have hr:=(h.1 x hm).2.r
    unfold Dr at ho
    rw[Bool.and_eq_true]at ho
    unfold E8 at hs
    simp only[List.length_append,List.length_cons,List.length_nil]at hs
    simp only[fc]
    rw[if_pos (bs hi)]
    unfold kZ
    simp only[bn hx,Option.bind_some,fh,ho.1,gd,Bool.not_true,Bool.not_false,if_true,(oo (show x.Size.L.length<4611686018427387904 by omega)).2,ho.2,Bool.or_false,Bool.false_eq_true,if_false,ml hr.1 hr.2 (by omega),mH (show i<4611686018427387904 by omega)]
    unfold E8
    cases i with
    | zero=>
      rw[if_neg (by simp),if_pos rfl]
      simp(disch:=(first | omega | (simp only[List.length_append,List.length_cons,List.length_nil];omega))) only[aR,Option.bind_some,List.append_assoc]
    | succ i=>
      rw[if_pos (by simp),if_neg (by omega)]
      simp(disch:=(first | omega | (simp only[List.length_append,List.length_cons,List.length_nil];omega))) only[aR,Option.bind_some,List.append_assoc]
  · have hi:=eM hx
    have hm:=List.mem_of_getElem? hx
    have h1:=yq hl hm
    unfold Dr at ho
    simp only[fc]
    rw[if_pos (bs hi)]
    simp only[bn hx,Option.bind_some,fh,(oo (show x.Size.L.length<4611686018427387904 by omega)).2]
    have hv:=(oo (show x.Size.L.length<4611686018427387904 by omega)).2
    cases hb:bw x.Name<;>by_cases hk:cv x.Size<;>simp_all [gd]
  · simp only[fc]
    rw[if_neg (by simp)]
def Is (n:Int):List UInt8:=if n=1 then[115,117,109]else if n=2 then[112,114,111,100]else if n=3 then[109,105,110]else if n=4 then[109,97,120]else[115,99,97,110]
theorem Hh (n:Int):(Is n).length≤4:=by unfold Is;repeat' split
                                       all_goals simp
def xH (d:cU):List UInt8:=if d.Fold=0 then[]else Is d.Fold++(if d.Red=[]then[58,32]else[32]++(dP (d.Red.map E8)++[58,32]))
def Kh (d:cU):Bool:=bw d.Name&&d.Dims.all Dr&&d.Red.all Dr&&pF d.Type_
def F3 (d:cU):Prop:=(0≤d.Fold∧d.Fold≤5)∧((d.Fold=0∨d.Fold=5)→d.Red=[])
instance (d:cU):Decidable (F3 d):=inferInstanceAs (Decidable (_ ∧ _))
def sy (d:cU):Bool:=Kh d&&decide (F3 d)&&decide (vE d.Body=0)
abbrev Pr (d:cU):Prop:=wR d∧wE d.Body≤300∧nq d≤1048576
theorem Hs (d:cU):oz gp d.Dims+oz gp d.Red+d.Name.length≤nq d:=by
  have e:nq d=d.Name.length+pH d.Type_+(oz gp) d.Dims+(oz gp) d.Red+oO d.Body:=rfl
  omega
theorem KV {n:Int} :nQ n=some (Is n):=by
  unfold nQ Is
  simp only[decide_eq_true_eq]
  repeat' split
  all_goals rfl
theorem Bp {d:cU} (h:Pr d):(xH d).length≤7+40 * oz gp d.Red:=by
  obtain⟨⟨o1,o2,o3,o4,o5,o6⟩,h300,hz⟩:=h
  have hj:=rO o4
  have hl:=fv (d.Red.map E8)
  have hw:=Hh d.Fold
  unfold xH
  split
  · simp
  · split<;>simp only[List.length_append,List.length_cons,List.length_nil]<;>omega
theorem ax {α:Type} [Inhabited α] (g:Bool) (v:α):gd g (some v)=some (if g=true then v else default):=by unfold gd;cases g<;>rfl
end Go.Proofs.YtmhoikfoogemnaaGreatDoor
namespace Go.Proofs.YtmhoikfoogemnaaGreatDoor
open Go Go.RowKit Go.Vc
set_option linter.unusedVariables false
set_option linter.unusedSimpArgs false
theorem vg {l:List (List UInt8)} :mx l≤2 * oz List.length l:=by
 unfold mx oz
 rw[show(l.map λt=>t.length+2)=l.map (λt=>1 * t.length+2)by simp,oP];omega
theorem xr {l:List (List UInt8)} (hl:oz List.length l≤1048576):jR l=some (if l.all bw=true then(dP l,true)else([],false)):=by
 have hn:=iv List.length l
 have hj:=vg (l:=l)
 have key:jR l=some (if l.all bw=true then(dP (l.map id),true)else([],false)):=by
  unfold jR
  refine Bh (by omega) (by rw[List.map_id];omega) (λf i s x hx ho hs=>?_) (λf i s x hx ho=>?_) λf s=>?_
  ·have hi:=eM hx
   simp only[id]at hs
   simp only[eo]
   rw[if_pos (bs hi)]
   unfold j8
   simp only[bn hx,Option.bind_some,fh,ho,Bool.not_true,Bool.false_eq_true,if_false,mH (show i<4611686018427387904 by omega),id]
   cases i with
   | zero=>
    rw[if_neg (by simp),if_pos rfl]
    simp(disch:=(first | omega | (simp only[List.length_append,List.length_cons,List.length_nil];omega))) only[aR,Option.bind_some,List.append_assoc]
   | succ i=>
    rw[if_pos (by simp),if_neg (by omega)]
    simp(disch:=(first | omega | (simp only[List.length_append,List.length_cons,List.length_nil];omega))) only[aR,Option.bind_some,List.append_assoc]
  ·have hi:=eM hx
   simp only[eo]
   rw[if_pos (bs hi)]
   simp[bn hx,fh,ho]
  ·simp only[eo]
   rw[if_neg (by simp)]
 rwa [List.map_id]at key
def wP (w:List UInt8) (l:List (List UInt8)):List UInt8:=if l=[]then[]else w++([32]++(dP l++[59,10]))
def CL (c:aD):Bool:=decide (cv c.Lin)
def Ii (c:aD):List UInt8:=if cv c.Lin then(if c.Eq=true then[48,32,61,61,32]++mw c.Lin else[48,32,60,61,32]++mw c.Lin)else[]
def KG (c:aD):List UInt8:=[119,104,101,114,101,32]++(Ii c++[59,10])
theorem EI {c:aD} (h:mJ c):(Ii c).length≤40 * cr c+29:=by
 have hL:=pg h.1.r
 have h2:=iv lC c.Lin.L
 have e:cr c=oz lC c.Lin.L:=rfl
 unfold Ii
 split
 ·split<;>simp only[List.length_append,List.length_cons,List.length_nil]<;>omega
 ·simp
theorem Km {l:List aD} {c:aD} (hl:oz cr l≤1048576) (hc:c∈l):c.Lin.L.length≤1048576:=by
 have h1:=rU (f:=cr) hc
 have h2:=iv lC c.Lin.L
 have e:cr c=oz lC c.Lin.L:=rfl
 omega
def wc (x:fE):Bool:=bw x.Name&&pF x.Type_&&decide (∀ f∈x.Dims,cv f)
def yM (x:fE):List UInt8:=[105,110,32]++(x.Name++([58,32]++(Dx x.Type_++([91]++(dP (x.Dims.map mw)++[93,59,10])))))
theorem wS {l:List aC} (h:Cc okGLin l):mx (l.map mw)≤40 * oz jP l:=by
 unfold mx oz
 rw[List.map_map]
 have h1:(l.map ((λt=>t.length+2)∘mw)).sum≤(l.map λx=>40 * jP x+26).sum:=lK λa ha=>by
  have:=pg (h.1 a ha).r
  have h2:=iv lC a.L
  have e:jP a=oz lC a.L:=rfl
  simp only[Function.comp];omega
 rw[oP]at h1
 omega
theorem yL {x:fE} (h:qf x):(yM x).length≤40 * ie x+70:=by
 have h1:=wS h.2.2
 have h2:=fv (x.Dims.map mw)
 have h3:=uh x.Type_
 have e:ie x=x.Name.length+pH x.Type_+(oz jP) x.Dims:=rfl
 unfold yM
 simp only[List.length_append,List.length_cons,List.length_nil];omega
theorem FK {l:List aC} {f:aC} (hl:oz jP l≤1048576) (hf:f∈l):f.L.length≤1048576:=by
 have h1:=rU (f:=jP) hf
 have h2:=iv lC f.L
 have e:jP f=oz lC f.L:=rfl
 omega
theorem Fw {x:fE} (h:ie x≤1048576):oz jP x.Dims≤1048576∧x.Name.length≤1048576:=by
 have e:ie x=x.Name.length+pH x.Type_+(oz jP) x.Dims:=rfl
 omega
theorem ws {α R:Type} {L:Nat→Int→Option R} {l:List α} {ok:α→Bool} {k bad:Option R} (hn:l.length<4611686018427387904)
  (rd:∀ f (i:Nat) x,l[i]? =some x→L (f+1) (i:Int)=if ok x=true then L f ((i+1:Nat):Int)else bad)
  (fin:∀ f,L (f+1) (l.length:Int)=k):L fu 0=if l.all ok=true then k else bad:=by
 refine ib (L:=λf (_:Unit) i=>L f i) (n:=l.length) hn (λi _=>(l.take i).all ok=true) ?_ ?_ () (by simp)
 ·intro f i _ hi hI
  obtain⟨x,hx⟩:=bY hi
  rw[rd f i x hx]
  by_cases ho:ok x=true
  ·left;refine⟨(),?_,by rw[if_pos ho]⟩
   rw[bE hx,List.all_append,hI];simp[ho]
  ·right;rw[if_neg ho,if_neg]
   intro h;exact ho (List.all_eq_true.1 h x (List.mem_of_getElem? hx))
 ·intro f _ hI
  rw[fin f];rw[List.take_length]at hI;rw[if_pos hI]
def P1 (f:aC):Bool:=decide (f.L.length≤40)&&f.L.all λm=>decide (m.Name.length≤40)
theorem D7 (f:aC):mV f=some (P1 f):=by
 unfold mV P1
 by_cases h:f.L.length≤40
 ·rw[if_neg (by simp;omega),ws (L:=gh f) (ok:=λm=>decide (m.Name.length≤40)) (k:=some true) (bad:=some false) (l:=f.L) (by omega) (λg i x hx=>?_) λg=>?_]
  ·simp only[h,decide_true,Bool.true_and];split<;>simp_all
  ·have hi:=eM hx
   simp only[gh]
   rw[if_pos (bs hi),bn hx,Option.bind_some,mH (by omega)]
   by_cases hc:x.Name.length≤40
   ·rw[if_neg (by simp;omega),if_pos (by simpa using hc)]
   ·rw[if_pos (by simp;omega),if_neg (by simpa using hc)]
  ·simp only[gh]
   rw[if_neg (by simp)]
 ·rw[if_pos (by simp;omega)];simp[h]
def Nq (l:List aC):Bool:=decide (l.length≤20)&&l.all P1
theorem D3 (l:List aC):mO l=some (Nq l):=by
 unfold mO Nq
 by_cases h:l.length≤20
 ·rw[if_neg (by simp;omega),ws (L:=gg l) (ok:=P1) (k:=some true) (bad:=some false) (l:=l) (by omega) (λg i x hx=>?_) λg=>?_]
  ·simp only[h,decide_true,Bool.true_and];split<;>simp_all
  ·have hi:=eM hx
   simp only[gg]
   rw[if_pos (bs hi),bn hx,Option.bind_some,D7,Option.bind_some,mH (by omega)]
   cases P1 x<;>simp
  ·simp only[gg]
   rw[if_neg (by simp)]
 ·rw[if_pos (by simp;omega)];simp[h]
def Fj (d:cU):Bool:=(decide (wE d.Body≤300)&&decide ((d.Dims.length:Int)≤20))&&decide ((d.Red.length:Int)≤20)
theorem yH {d:cU} (h:wR d):j9 d=some (Fj d):=by
 unfold j9 Fj
 rw[D4 h.2.2.2.2.2,Option.bind_some]
def HJ (p:aV):Bool:=(decide (p.Sizes.length≤20∧p.Where.length≤20∧p.Params.length≤20∧p.Defs.length≤20∧p.Outs.length≤20)&&p.Params.all λx=>Nq x.Dims)&&p.Defs.all Fj
theorem xT {p:aV} (h:yj p):jC p=some (HJ p):=by
 unfold jC HJ
 by_cases hl:p.Sizes.length≤20∧p.Where.length≤20∧p.Params.length≤20∧p.Defs.length≤20∧p.Outs.length≤20
 ·have q1:ig p=some (p.Defs.all Fj):=by
   unfold ig
   refine Fe (by omega) (λf i x hx=>?_) λf=>?_
   ·have hi:=eM hx
    simp only[eV]
    rw[if_pos (bs hi),bn hx,Option.bind_some,yH (h.2.2.2.1.1 x (List.mem_of_getElem? hx)),Option.bind_some,mH (by omega)]
    cases Fj x<;>simp
   ·simp only[eV]
    rw[if_neg (by simp)]
  rw[if_neg (by simp;omega),ws (L:=dS p) (ok:=λx=>Nq x.Dims) (k:=some (p.Defs.all Fj)) (bad:=some false) (l:=p.Params) (by omega) (λg i x hx=>?_) λg=>?_]
  ·simp only[hl,and_self,decide_true,Bool.true_and]
   cases (p.Params.all λx=>Nq x.Dims)<;>simp
  ·have hi:=eM hx
   simp only[dS]
   rw[if_pos (bs hi),bn hx,Option.bind_some,D3,Option.bind_some,mH (by omega)]
   cases Nq x.Dims<;>simp
  ·simp only[dS]
   rw[if_neg (by simp),q1]
 ·rw[if_pos (by simp;omega)];simp[hl]
def uK (p:aV):Bool:=(p.Sizes.all bw&&p.Outs.all bw)&&(p.Where.all CL&&(p.Params.all wc&&p.Defs.all sy))
def uC:List UInt8:=[111,117,116]
abbrev smP (p:aV):Prop:=yj p∧vN p≤1048576∧p.Defs.length≤20∧∀ d∈p.Defs,wE d.Body≤300
theorem tB (p:aV):oz List.length p.Sizes+oz cr p.Where+oz ie p.Params+oz nq p.Defs+oz List.length p.Outs=vN p:=rfl
theorem smP.d {p:aV} (h:smP p) {d:cU} (hd:d∈p.Defs):Pr d:=by
 have h1:=tB p
 have h2:=rU (f:=nq) hd
 exact⟨h.1.2.2.2.1.1 d hd,h.2.2.2 d hd,by have:=h.2.1;omega⟩
theorem smP.sums {p:aV} (h:smP p):(p.Where.map λc=>40 * cr c+40).sum≤50000000∧(p.Params.map λx=>40 * ie x+70).sum≤100000000∧(p.Defs.map λd=>40 * nq d+30201).sum≤100000000:=by
 have h1:=tB p
 have h2:=h.2.1
 have h3:=h.2.2.1
 rw[oP,oP,oP]
 unfold oz at h1
 omega
theorem NC {p:aV} (h:smP p) {s:List UInt8} (hs:s.length≤400000000):k7 p (dP p.Outs,true) s=some (s++wP uC p.Outs):=by
 have hsz:=tB p
 have h2:=h.2.1
 have hj:=vg (l:=p.Outs)
 have h1:=fv p.Outs
 unfold k7 wP uC
 by_cases hc:p.Outs=[]
 ·simp[hc]
 ·have hp:decide (0<(p.Outs.length:Int))=true:=by simpa using List.length_pos_iff.2 hc
  simp only[hp,hc,if_true,if_false]
  simp(disch:=(first | omega | (simp only[List.length_append,List.length_cons,List.length_nil];omega))) only[aR,Option.bind_some]
  simp
end Go.Proofs.YtmhoikfoogemnaaGreatDoor
