import Derived.Test.YtmhoikfoogemnaaGreatDoorJYe
namespace Go.Proofs.YtmhoikfoogemnaaGreatDoor
open Go Go.RowKit Go.Vc
set_option linter.unusedVariables false
set_option linter.unusedSimpArgs false
theorem oH {α R:Type} {m:Nat→Int→Option R} {l:List α} {p:α→Bool} {k r0:Option R} (hn:l.length<4611686018427387904)
  (rd:∀ (f i:Nat) x,l[i]? =some x→m (f+1) (i:Int)=if p x=true then m f ((i+1:Nat):Int)else r0) (ed:∀ f,m (f+1) (l.length:Int)=k):m fu 0=if l.all p=true then k else r0:=by
 refine kD (L:=fun f (_:Unit) i=>m f i) (n:=l.length) hn (fun i _=>(l.take i).all p=true) ?_ ?_ () (by simp)
 ·intro f i _ hi hI
  obtain⟨x,hx⟩:=ct hi
  by_cases h:p x=true
  ·left;exact⟨(),by rw[cx hx,List.all_append,hI];simp[h],by rw[rd f i x hx,if_pos h]⟩
  ·right
   rw[show m (f+1) (i:Int)=r0 by rw[rd f i x hx,if_neg h],if_neg]
   intro h2;exact h (List.all_eq_true.1 h2 x (List.mem_of_getElem? hx))
 ·intro f _ hI
  rw[List.take_length]at hI
  rw[if_pos hI];exact ed f
def xm {α:Type} (p:Nat→α→Bool):Nat→List α→Bool
 | _,[]=>true
 | k,x::r=>p k x&&xm p (k+1) r
theorem wC {α:Type} {p:Nat→α→Bool} :∀ {l:List α} {k:Nat},xm p k l=true↔∀ i x,l[i]? =some x→p (k+i) x=true
 | [],k=>by simp[xm]
 | a::l,k=>by
  rw[xm,Bool.and_eq_true,wC (l:=l)]
  constructor
  ·rintro⟨h1,h2⟩ i x hx
   cases i with
   | zero=>injection hx with hx;subst hx;exact h1
   | succ i=>have:=h2 i x hx;rwa [Nat.add_assoc,Nat.add_comm 1]at this
  ·intro h
   refine⟨h 0 a rfl,fun i x hx=> ?_⟩
   have:=h (i+1) x hx
   rwa [← Nat.add_assoc,Nat.add_right_comm]at this
theorem xG {α R:Type} {m:Nat→Int→Option R} {l:List α} {p:Nat→α→Bool} {k r0:Option R} (hn:l.length<4611686018427387904)
  (rd:∀ (f i:Nat) x,l[i]? =some x→m (f+1) (i:Int)=if p i x=true then m f ((i+1:Nat):Int)else r0) (ed:∀ f,m (f+1) (l.length:Int)=k):m fu 0=if xm p 0 l=true then k else r0:=by
 refine kD (L:=fun f (_:Unit) i=>m f i) (n:=l.length) hn (fun i _=>∀ j x,j<i→l[j]? =some x→p j x=true) ?_ ?_ () (fun j x h=>absurd h (by omega))
 ·intro f i _ hi hI
  obtain⟨x,hx⟩:=ct hi
  by_cases h:p i x=true
  ·left;exact⟨(),fun j y hj hy=>by
    by_cases e:j=i
    ·subst e;rw[hx]at hy;injection hy with hy;subst hy;exact h
    ·exact hI j y (by omega) hy,by rw[rd f i x hx,if_pos h]⟩
  ·right
   rw[show m (f+1) (i:Int)=r0 by rw[rd f i x hx,if_neg h],if_neg]
   intro h2;have:=wC.1 h2 i x hx;rw[Nat.zero_add]at this;exact h this
 ·intro f _ hI
  rw[if_pos (wC.2 fun i x hx=>by rw[Nat.zero_add];exact hI i x (List.getElem?_eq_some_iff.1 hx).1 hx)];exact ed f
theorem qF {l:List GIndex} {f:GIndex→Option Bool} {g:GIndex→Bool} (hn:l.length<4611686018427387904) (h:∀ x∈l,f x=some (g x)):aZ l f=some (!l.all fun x=> !g x):=by
 obtain⟨r,h1,h2⟩:=nM (L:=fun f' (_:Unit) i=>aN l f f' i) (n:=l.length) hn (fun i _=>(l.take i).all (fun x=> !g x)=true) (fun r=>decide (0≤r)= !l.all fun x=> !g x)
  (fun f' i _ hi hI=>by
   obtain⟨x,hx⟩:=ct hi
   have hm:=List.mem_of_getElem? hx
   simp only[aN]
   rw[if_pos (cz hi),cI hx,Option.bind_some,h x hm,Option.bind_some]
   by_cases hv:g x=true
   ·right;refine⟨(i:Int),by rw[if_pos hv],?_⟩
    rw[decide_eq_true (by omega)];symm
    rw[Bool.not_eq_true',Bool.eq_false_iff];intro h2
    have:=List.all_eq_true.1 h2 x hm;rw[hv]at this;cases this
   ·left;refine⟨(),?_,by rw[if_neg hv,nq (by omega)]⟩
    rw[cx hx,List.all_append,hI];simp[hv])
  (fun f' _ hI=>by
   rw[List.take_length]at hI
   simp only[aN]
   exact⟨-1,by rw[if_neg (by simp)],by rw[hI];rfl⟩) () (by simp)
 unfold aZ cO
 rw[show aN l f fu 0=some r from h1,Option.bind_some,h2]
def Ah (l:GLin):Bool:=decide (l.K=0)&&decide ((l.L.length:Int)=0)
def EJ (x:GIndex):Bool:=if x.From=[]then decide ((x.At.length:Int)=0)else Ah x.Lin
def fX (l:GLin):Bool:=decide (nQ l)
def GQ (t:GType):Bool:=(decide (t.Kind=0))&&(decide (t.Bits=0))&&(decide (t.Frac=0))&&(decide (t.Round=0))&&(decide (t.Over=0))
def rQ (e:GExpr):Bool:=decide (1≤e.Op)&&decide (e.Op≤18)&&(decide (e.Op=1)||(decide (e.Val.N=0)&&decide (e.Val.D=0)))&&(decide (e.Op=1)||decide (e.Op=12)||GQ e.Type_)&&
 (decide (e.Op=2)||Ah e.Lin)&&(decide (e.Op=3)||(decide (e.Name=[])&&decide ((e.Idx.length:Int)=0)))&&e.Idx.all EJ
def rR (e:GExpr):Bool:=(!decide (e.Op=3)||fk e.Name)&&e.Idx.all fun x=>decide (x.From=[])||fk x.From
def BW (op:Int):Int:=if op=1∨op=2∨op=3 then 0 else if op=8∨op=12∨op=18 then 1 else if op=11 then 3 else 2
def vh (e:GExpr):Bool:=decide ((e.Args.length:Int)=BW e.Op)&& !decide (6<(e.Idx.length:Int))&&e.Idx.all fun x=> !decide (6<(x.At.length:Int))
def qG (e:GExpr):Bool:=decide (13≤e.Op)&&decide (e.Op≤18)
def qd (op:Int) (i:Nat):Bool:=((decide (op=11)&&decide ((i:Int)=0))||decide (op=16)||decide (op=17))||decide (op=18)
def tR (e:GExpr):Bool:=(!(decide (e.Op=1)||decide (e.Op=12))||qW e.Type_)&&xm (fun i a=>qG a==qd e.Op i) 0 e.Args
def zI (e:GExpr):Bool:=(!decide (e.Op=1)||Az e.Type_ e.Val)&&fX e.Lin&&e.Idx.all fun x=>fX x.Lin&&x.At.all fX
def mL (e:GExpr):Int:=if rQ e=true then(if rR e=true then(if vh e=true then(if tR e=true then(if zI e=true then 0 else 1)else 10)else 11)else 7)else 5
abbrev vC (e:GExpr):Prop:=e.Idx.length<4611686018427387904∧e.Args.length<4611686018427387904∧e.Lin.L.length<4611686018427387904∧∀ x∈e.Idx,x.Lin.L.length<4611686018427387904∧x.At.length<4611686018427387904∧∀ f∈x.At,f.L.length<4611686018427387904
theorem okGExpr.len {e:GExpr} (h:okGExpr e):vC e:=by
 obtain⟨h1,h2,h3⟩:=h.out
 refine⟨by have:=h2.2;omega,by have:=h3.2;omega,by have:=h1.2.2;omega,fun x hx=> ?_⟩
 obtain⟨a,_,b⟩:=h2.1 x hx
 exact⟨by have:=a.2.2;omega,by have:=b.2;omega,fun f hf=>by have:=(b.1 f hf).2.2;omega⟩
theorem zM {e:GExpr} (h:vC e):mp e=some (rQ e):=by
 have hc:=qF (l:=e.Idx) (f:=jf) (g:=fun x=> !EJ x) h.1 (fun x _=>by
  unfold jf lh kU EJ
  by_cases hx:x.From=[]<;>simp[hx,Ah])
 unfold mp rQ
 rw[hc]
 simp only[kU,Bool.not_not]
 by_cases h1:e.Op<1
 ·simp[h1,show ¬ 1≤e.Op by omega]
 by_cases h2:18<e.Op
 ·simp[h2,show ¬ e.Op≤18 by omega]
 have g1:decide (1≤e.Op)=true:=decide_eq_true (by omega)
 have g2:decide (e.Op≤18)=true:=decide_eq_true (by omega)
 rw[g1,g2,decide_eq_false h1,decide_eq_false h2]
 cases a1:decide (e.Op=1)<;>cases a2:decide (e.Op=2)<;>cases a3:decide (e.Op=3)<;>cases a12:decide (e.Op=12)<;>
  cases b1:(decide (e.Val.N=0)&&decide (e.Val.D=0))<;>cases b2:GQ e.Type_<;>cases b3:Ah e.Lin<;>cases b4:decide (e.Name=[])<;>cases b5:decide ((e.Idx.length:Int)=0)<;>
  simp_all [gd,GQ,Ah]
theorem AN {e:GExpr} (h:vC e):mV e=some (rR e):=by
 have hc:=qF (l:=e.Idx) (f:=j5) (g:=fun x=> !(decide (x.From=[])||fk x.From)) h.1 (fun x _=>by
  unfold j5
  by_cases hx:x.From=[]<;>simp[hx,gd,vH])
 unfold mV rR
 rw[hc]
 simp only[vH,Bool.not_not]
 by_cases h3:e.Op=3
 ·cases fk e.Name<;>simp[h3,gd]
 ·simp[h3,gd]
theorem tV (op:Int):kM op=some (BW op)∧mN op=some (BW op):=by
 unfold kM gI gH mN ja i8 BW
 by_cases h1:op=1
 ·simp[h1]
 by_cases h2:op=2
 ·simp[h2]
 by_cases h3:op=3
 ·simp[h3]
 by_cases h8:op=8
 ·simp[h8]
 by_cases h12:op=12
 ·simp[h12]
 by_cases h18:op=18
 ·simp[h18]
 by_cases h11:op=11
 ·simp[h11]
 simp[h1,h2,h3,h8,h12,h18,h11]
theorem Cf {e:GExpr} (h:vC e):nS e=some (vh e):=by
 have hc:=qF (l:=e.Idx) (f:=mq) (g:=fun x=>decide (6<(x.At.length:Int))) h.1 (fun x _=>rfl)
 unfold nS vh
 rw[(tV _).1,hc]
 simp only[Option.bind_some,Bool.not_not]
 cases decide ((e.Args.length:Int)=BW e.Op)<;>cases decide (6<(e.Idx.length:Int))<;>simp
theorem yX (op:Int) (i:Nat):fv op (i:Int)=some (qd op i)∧me op (i:Int)=some (qd op i):=by
 unfold fv me qd
 by_cases h1:op=16
 ·simp[h1]
 by_cases h2:op=17
 ·simp[h2]
 by_cases h3:op=18
 ·simp[h3]
 simp[h1,h2,h3]
theorem uZ {e:GExpr} (h:vC e):fD e fu 0=some (xm (fun i a=>qG a==qd e.Op i) 0 e.Args)∧eK e fu 0=some (xm (fun i a=>qG a==qd e.Op i) 0 e.Args):=by
 constructor
 ·rw[xG (m:=fun f i=>fD e f i) (l:=e.Args) (p:=fun i a=>qG a==qd e.Op i) (k:=some true) (r0:=some false) h.2.1 ?_ ?_]
  ·cases xm (fun i a=>qG a==qd e.Op i) 0 e.Args<;>rfl
  ·intro f i x hx
   have hi:=(List.getElem?_eq_some_iff.1 hx).1
   have:=h.2.1
   simp only[fD]
   rw[if_pos (cz hi),cI hx,Option.bind_some,show kC x=some (qG x)from rfl,(yX _ _).1,Option.bind_some,Option.bind_some,nq (by omega)]
   cases qG x<;>cases qd e.Op i<;>rfl
  ·intro f
   simp only[fD]
   rw[if_neg (by simp)]
 ·rw[xG (m:=fun f i=>eK e f i) (l:=e.Args) (p:=fun i a=>qG a==qd e.Op i) (k:=some true) (r0:=some false) h.2.1 ?_ ?_]
  ·cases xm (fun i a=>qG a==qd e.Op i) 0 e.Args<;>rfl
  ·intro f i x hx
   have hi:=(List.getElem?_eq_some_iff.1 hx).1
   have:=h.2.1
   simp only[eK]
   rw[if_pos (cz hi),cI hx,Option.bind_some,show jO x=some (qG x)from rfl,(yX _ _).2,Option.bind_some,Option.bind_some,nq (by omega)]
   cases qG x<;>cases qd e.Op i<;>rfl
  ·intro f
   simp only[eK]
   rw[if_neg (by simp)]
theorem vT {e:GExpr} (h:vC e):mU e=some (tR e)∧mf e=some (tR e):=by
 unfold mU mf tR
 rw[(uZ h).1,(uZ h).2,kq,tM]
 cases (decide (e.Op=1)||decide (e.Op=12))<;>cases qW e.Type_<;>simp[gd]
theorem uL (n:Nat):decide (0<(n:Int))= !decide ((n:Int)=0):=by
 by_cases h:n=0
 ·subst h;rfl
 ·rw[decide_eq_true (by omega),decide_eq_false (by omega)];rfl
theorem zk {e:GExpr} (h:vC e):mg e=some (rQ e):=by
 have hl:eN e fu 0=some (e.Idx.all EJ):=by
  rw[oH (m:=fun f i=>eN e f i) (l:=e.Idx) (p:=EJ) (k:=some true) (r0:=some false) h.1 ?_ ?_]
  ·cases e.Idx.all EJ<;>rfl
  ·intro f i x hx
   have hi:=(List.getElem?_eq_some_iff.1 hx).1
   have:=h.1
   simp only[eN]
   rw[if_pos (cz hi),cI hx,Option.bind_some,nq (by omega)]
   have e1:(((decide (x.From=([]:List UInt8)))&&(decide (0<(x.At.length:Int))))||((!decide (x.From=([]:List UInt8)))&&((!decide (x.Lin.K=0))||(decide (0<(x.Lin.L.length:Int))))))= !EJ x:=by
    unfold EJ Ah
    have c1:decide (0<(x.At.length:Int))= !decide ((x.At.length:Int)=0):=uL _
    have c2:decide (0<(x.Lin.L.length:Int))= !decide ((x.Lin.L.length:Int)=0):=uL _
    rw[c1,c2]
    by_cases hx:x.From=[]<;>simp[hx]
   rw[e1]
   cases EJ x<;>rfl
  ·intro f
   simp only[eN]
   rw[if_neg (by simp)]
 unfold mg rQ
 rw[hl]
 by_cases h1:e.Op<1
 ·simp[h1,show ¬ 1≤e.Op by omega]
 by_cases h2:18<e.Op
 ·simp[h2,show ¬ e.Op≤18 by omega]
 have g1:decide (1≤e.Op)=true:=decide_eq_true (by omega)
 have g2:decide (e.Op≤18)=true:=decide_eq_true (by omega)
 have c1:decide (0<(e.Lin.L.length:Int))= !decide ((e.Lin.L.length:Int)=0):=uL _
 have c2:decide (0<(e.Idx.length:Int))= !decide ((e.Idx.length:Int)=0):=uL _
 rw[g1,g2,decide_eq_false h1,decide_eq_false h2,c1,c2]
 have e3:((decide (e.Type_.Kind=0))&&(decide (e.Type_.Bits=0))&&(decide (e.Type_.Frac=0))&&(decide (e.Type_.Round=0))&&(decide (e.Type_.Over=0)))=GQ e.Type_:=rfl
 rw[e3]
 unfold Ah
 generalize decide (e.Op=1)=a1,decide (e.Op=2)=a2,decide (e.Op=3)=a3,decide (e.Op=12)=a12,(decide (e.Val.N=0)&&decide (e.Val.D=0))=b1,GQ e.Type_=b2,decide (e.Lin.K=0)=b3,decide ((e.Lin.L.length:Int)=0)=b4,decide (e.Name=[])=b5,decide ((e.Idx.length:Int)=0)=b6
 cases a1<;>cases a2<;>cases a3<;>cases a12<;>cases b1<;>cases b2<;>cases b3<;>cases b4<;>cases b5<;>cases b6<;>simp
theorem zl {e:GExpr} (h:vC e):mh e=some (rR e):=by
 have hl:eO e fu 0=some (e.Idx.all fun x=>decide (x.From=[])||fk x.From):=by
  rw[oH (m:=fun f i=>eO e f i) (l:=e.Idx) (p:=fun x=>decide (x.From=[])||fk x.From) (k:=some true) (r0:=some false) h.1 ?_ ?_]
  ·cases e.Idx.all fun x=>decide (x.From=[])||fk x.From<;>rfl
  ·intro f i x hx
   have hi:=(List.getElem?_eq_some_iff.1 hx).1
   have:=h.1
   simp only[eO]
   rw[if_pos (cz hi),cI hx,Option.bind_some,nq (by omega)]
   by_cases hf:x.From=[]
   ·simp[hf,gd]
   ·cases hn:fk x.From<;>simp[hf,gd,jF,hn]
  ·intro f
   simp only[eO]
   rw[if_neg (by simp)]
 unfold mh rR
 rw[hl,jF]
 by_cases h3:e.Op=3
 ·cases fk e.Name<;>simp[h3,gd]
 ·simp[h3,gd]
theorem xV {e:GExpr} (h:vC e):lv e=some (vh e):=by
 have hl:en e fu 0=some (e.Idx.all fun x=> !decide (6<(x.At.length:Int))):=by
  rw[oH (m:=fun f i=>en e f i) (l:=e.Idx) (p:=fun x=> !decide (6<(x.At.length:Int))) (k:=some true) (r0:=some false) h.1 ?_ ?_]
  ·cases e.Idx.all fun x=> !decide (6<(x.At.length:Int))<;>rfl
  ·intro f i x hx
   have hi:=(List.getElem?_eq_some_iff.1 hx).1
   have:=h.1
   simp only[en]
   rw[if_pos (cz hi),cI hx,Option.bind_some,nq (by omega)]
   cases decide (6<(x.At.length:Int))<;>rfl
  ·intro f
   simp only[en]
   rw[if_neg (by simp)]
 unfold lv vh
 rw[(tV _).2,hl]
 simp only[Option.bind_some]
 cases decide ((e.Args.length:Int)=BW e.Op)<;>cases decide (6<(e.Idx.length:Int))<;>simp
theorem xW {e:GExpr} (h:vC e) (hv:VaR e.Val) (ht:e.Op=1→qW e.Type_=true):ly e=some (zI e):=by
 have hl:bS e fu 0=some (e.Idx.all fun x=>fX x.Lin&&x.At.all fX):=by
  rw[oH (m:=fun f i=>bS e f i) (l:=e.Idx) (p:=fun x=>fX x.Lin&&x.At.all fX) (k:=some true) (r0:=some false) h.1 ?_ ?_]
  ·cases e.Idx.all fun x=>fX x.Lin&&x.At.all fX<;>rfl
  ·intro f i x hx
   have hi:=(List.getElem?_eq_some_iff.1 hx).1
   have h0:=h.1
   obtain⟨p1,p2,p3⟩:=h.2.2.2 x (List.mem_of_getElem? hx)
   simp only[bS]
   rw[if_pos (cz hi),cI hx,Option.bind_some,(uQ p1).2,Option.bind_some]
   have hin:eo e (i:Int) (bS e f) fu 0=if x.At.all fX=true then bS e f ((i+1:Nat):Int)else some false:=by
    refine oH (m:=fun f' k=>eo e (i:Int) (bS e f) f' k) (l:=x.At) (p:=fX) p2 ?_ ?_
    ·intro f' k y hy
     have hk:=(List.getElem?_eq_some_iff.1 hy).1
     simp only[eo]
     rw[cI hx,Option.bind_some,if_pos (cz hk),Option.bind_some,cI hy,Option.bind_some,(uQ (p3 y (List.mem_of_getElem? hy))).2,Option.bind_some,nq (by omega)]
     unfold fX
     cases decide (nQ y)<;>rfl
    ·intro f'
     simp only[eo]
     rw[cI hx,Option.bind_some,if_neg (by simp)]
     unfold lg;rw[nq (by omega)]
   rw[hin]
   unfold fX
   cases decide (nQ x.Lin)<;>rfl
  ·intro f
   simp only[bS]
   rw[if_neg (by simp)]
 unfold ly zI
 rw[hl,(uQ h.2.2.1).2]
 unfold fX
 by_cases h1:e.Op=1
 ·rw[Ab (ht h1) hv]
  cases Az e.Type_ e.Val<;>cases decide (nQ e.Lin)<;>simp[h1,gd]
 ·cases decide (nQ e.Lin)<;>simp[h1,gd]
end Go.Proofs.YtmhoikfoogemnaaGreatDoor
