import Derived.Test.YtmhoikfoogemnaaGreatDoorGYe
namespace Go.Proofs.YtmhoikfoogemnaaGreatDoor
open Go Go.RowKit Go.Vc
set_option linter.unusedVariables false
set_option linter.unusedSimpArgs false
theorem qx {α R:Type} {m:Nat→Int→Option R} {l:List α} {p:α→Bool} {k r0:Option R} (hn:l.length<4611686018427387904)
  (rd:∀ (f i:Nat) x,l[i]? =some x→m (f+1) (i:Int)=if p x=true then m f ((i+1:Nat):Int)else r0) (ed:∀ f,m (f+1) (l.length:Int)=k):m fu 0=if l.all p=true then k else r0:=by
 refine kQ (L:=λf (_:Unit) i=>m f i) (n:=l.length) hn (λi _=>(l.take i).all p=true) ?_ ?_ () (by simp)
 ·intro f i _ hi hI
  obtain⟨x,hx⟩:=cC hi
  by_cases h:p x=true
  ·left;exact⟨(),by rw[dm hx,List.all_append,hI];simp[h],by rw[rd f i x hx,if_pos h]⟩
  ·right
   rw[show m (f+1) (i:Int)=r0 by rw[rd f i x hx,if_neg h],if_neg]
   intro h2;exact h (List.all_eq_true.1 h2 x (List.mem_of_getElem? hx))
 ·intro f _ hI
  rw[List.take_length]at hI
  rw[if_pos hI];exact ed f
def zU {α:Type} (p:Nat→α→Bool):Nat→List α→Bool
 | _,[]=>true
 | k,x::r=>p k x&&zU p (k+1) r
theorem zc {α:Type} {p:Nat→α→Bool} :∀ {l:List α} {k:Nat},zU p k l=true↔∀ i x,l[i]? =some x→p (k+i) x=true
 | [],k=>by simp[zU]
 | a::l,k=>by
  rw[zU,Bool.and_eq_true,zc (l:=l)]
  constructor
  ·rintro⟨h1,h2⟩ i x hx
   cases i with
   | zero=>injection hx with hx;subst hx;exact h1
   | succ i=>have:=h2 i x hx;rwa [Nat.add_assoc,Nat.add_comm 1]at this
  ·intro h
   refine⟨h 0 a rfl,λi x hx=>?_⟩
   have:=h (i+1) x hx
   rwa [← Nat.add_assoc,Nat.add_right_comm]at this
theorem Ao {α R:Type} {m:Nat→Int→Option R} {l:List α} {p:Nat→α→Bool} {k r0:Option R} (hn:l.length<4611686018427387904)
  (rd:∀ (f i:Nat) x,l[i]? =some x→m (f+1) (i:Int)=if p i x=true then m f ((i+1:Nat):Int)else r0) (ed:∀ f,m (f+1) (l.length:Int)=k):m fu 0=if zU p 0 l=true then k else r0:=by
 refine kQ (L:=λf (_:Unit) i=>m f i) (n:=l.length) hn (λi _=>∀ j x,j<i→l[j]? =some x→p j x=true) ?_ ?_ () (λj x h=>absurd h (by omega))
 ·intro f i _ hi hI
  obtain⟨x,hx⟩:=cC hi
  by_cases h:p i x=true
  ·left;exact⟨(),λj y hj hy=>by
    by_cases e:j=i
    ·subst e;rw[hx]at hy;injection hy with hy;subst hy;exact h
    ·exact hI j y (by omega) hy,by rw[rd f i x hx,if_pos h]⟩
  ·right
   rw[show m (f+1) (i:Int)=r0 by rw[rd f i x hx,if_neg h],if_neg]
   intro h2;have:=zc.1 h2 i x hx;rw[Nat.zero_add]at this;exact h this
 ·intro f _ hI
  rw[if_pos (zc.2 λi x hx=>by rw[Nat.zero_add];exact hI i x (List.getElem?_eq_some_iff.1 hx).1 hx)];exact ed f
theorem tC {l:List GIndex} {f:GIndex→Option Bool} {g:GIndex→Bool} (hn:l.length<4611686018427387904) (h:∀ x∈l,f x=some (g x)):br l f=some (!l.all λx=> !g x):=by
 obtain⟨r,h1,h2⟩:=qe (L:=λf' (_:Unit) i=>aY l f f' i) (n:=l.length) hn (λi _=>(l.take i).all (λx=> !g x)=true) (λr=>decide (0≤r)= !l.all λx=> !g x)
  (λf' i _ hi hI=>by
   obtain⟨x,hx⟩:=cC hi
   have hm:=List.mem_of_getElem? hx
   simp only[aY]
   rw[if_pos (bS hi),cD hx,Option.bind_some,h x hm,Option.bind_some]
   by_cases hv:g x=true
   ·right;refine⟨(i:Int),by rw[if_pos hv],?_⟩
    rw[decide_eq_true (by omega)];symm
    rw[Bool.not_eq_true',Bool.eq_false_iff];intro h2
    have:=List.all_eq_true.1 h2 x hm;rw[hv]at this;cases this
   ·left;refine⟨(),?_,by rw[if_neg hv,nu (by omega)]⟩
    rw[dm hx,List.all_append,hI];simp[hv])
  (λf' _ hI=>by
   rw[List.take_length]at hI
   simp only[aY]
   exact⟨-1,by rw[if_neg (by simp)],by rw[hI];rfl⟩) () (by simp)
 unfold br dx
 rw[show aY l f fu 0=some r from h1,Option.bind_some,h2]
def Dl (l:GLin):Bool:=decide (l.K=0)&&decide ((l.L.length:Int)=0)
def Is (x:GIndex):Bool:=if x.From=[]then decide ((x.At.length:Int)=0)else Dl x.Lin
def gY (l:GLin):Bool:=decide (pC l)
def KK (t:GType):Bool:=(decide (t.Kind=0))&&(decide (t.Bits=0))&&(decide (t.Frac=0))&&(decide (t.Round=0))&&(decide (t.Over=0))
def uM (e:GExpr):Bool:=decide (1≤e.Op)&&decide (e.Op≤18)&&(decide (e.Op=1)||(decide (e.Val.N=0)&&decide (e.Val.D=0)))&&(decide (e.Op=1)||decide (e.Op=12)||KK e.Type_)&&
 (decide (e.Op=2)||Dl e.Lin)&&(decide (e.Op=3)||(decide (e.Name=[])&&decide ((e.Idx.length:Int)=0)))&&e.Idx.all Is
def uO (e:GExpr):Bool:=(!decide (e.Op=3)||gr e.Name)&&e.Idx.all λx=>decide (x.From=[])||gr x.From
def Fm (op:Int):Int:=if op=1∨op=2∨op=3 then 0 else if op=8∨op=12∨op=18 then 1 else if op=11 then 3 else 2
def x5 (e:GExpr):Bool:=decide ((e.Args.length:Int)=Fm e.Op)&& !decide (6<(e.Idx.length:Int))&&e.Idx.all λx=> !decide (6<(x.At.length:Int))
def tD (e:GExpr):Bool:=decide (13≤e.Op)&&decide (e.Op≤18)
def sx (op:Int) (i:Nat):Bool:=((decide (op=11)&&decide ((i:Int)=0))||decide (op=16)||decide (op=17))||decide (op=18)
def wG (e:GExpr):Bool:=(!(decide (e.Op=1)||decide (e.Op=12))||tR e.Type_)&&zU (λi a=>tD a==sx e.Op i) 0 e.Args
def CH (e:GExpr):Bool:=(!decide (e.Op=1)||DH e.Type_ e.Val)&&gY e.Lin&&e.Idx.all λx=>gY x.Lin&&x.At.all gY
def oo (e:GExpr):Int:=if uM e=true then(if uO e=true then(if x5 e=true then(if wG e=true then(if CH e=true then 0 else 1)else 10)else 11)else 7)else 5
abbrev ym (e:GExpr):Prop:=e.Idx.length<4611686018427387904∧e.Args.length<4611686018427387904∧e.Lin.L.length<4611686018427387904∧∀ x∈e.Idx,x.Lin.L.length<4611686018427387904∧x.At.length<4611686018427387904∧∀ f∈x.At,f.L.length<4611686018427387904
theorem okGExpr.len {e:GExpr} (h:okGExpr e):ym e:=by
 obtain⟨h1,h2,h3⟩:=h.out
 refine⟨by have:=h2.2;omega,by have:=h3.2;omega,by have:=h1.2.2;omega,λx hx=>?_⟩
 obtain⟨a,_,b⟩:=h2.1 x hx
 exact⟨by have:=a.2.2;omega,by have:=b.2;omega,λf hf=>by have:=(b.1 f hf).2.2;omega⟩
theorem CL {e:GExpr} (h:ym e):nP e=some (uM e):=by
 have hc:=tC (l:=e.Idx) (f:=kb) (g:=λx=> !Is x) h.1 (λx _=>by
  unfold kb mB mc Is
  by_cases hx:x.From=[]<;>simp[hx,Dl])
 unfold nP uM
 rw[hc]
 simp only[mc,Bool.not_not]
 by_cases h1:e.Op<1
 ·simp[h1,show ¬ 1≤e.Op by omega]
 by_cases h2:18<e.Op
 ·simp[h2,show ¬ e.Op≤18 by omega]
 have g1:decide (1≤e.Op)=true:=decide_eq_true (by omega)
 have g2:decide (e.Op≤18)=true:=decide_eq_true (by omega)
 rw[g1,g2,decide_eq_false h1,decide_eq_false h2]
 cases a1:decide (e.Op=1)<;>cases a2:decide (e.Op=2)<;>cases a3:decide (e.Op=3)<;>cases a12:decide (e.Op=12)<;>
  cases b1:(decide (e.Val.N=0)&&decide (e.Val.D=0))<;>cases b2:KK e.Type_<;>cases b3:Dl e.Lin<;>cases b4:decide (e.Name=[])<;>cases b5:decide ((e.Idx.length:Int)=0)<;>
  simp_all [gd,KK,Dl]
theorem DX {e:GExpr} (h:ym e):oF e=some (uO e):=by
 have hc:=tC (l:=e.Idx) (f:=ld) (g:=λx=> !(decide (x.From=[])||gr x.From)) h.1 (λx _=>by
  unfold ld
  by_cases hx:x.From=[]<;>simp[hx,gd,yq])
 unfold oF uO
 rw[hc]
 simp only[yq,Bool.not_not]
 by_cases h3:e.Op=3
 ·cases gr e.Name<;>simp[h3,gd]
 ·simp[h3,gd]
theorem wL (op:Int):lZ op=some (Fm op)∧ow op=some (Fm op):=by
 unfold lZ iL iK ow j8 j7 Fm
 by_cases h1:op=1
 ·simp[h1]
 by_cases h2:op=2
 ·simp[h2]
 by_cases h3:op=3
 ·simp[h3]
 by_cases h8:op=8
 ·simp[h8]
 by_cases h12:op=12
 ·simp[h12]
 by_cases h18:op=18
 ·simp[h18]
 by_cases h11:op=11
 ·simp[h11]
 simp[h1,h2,h3,h8,h12,h18,h11]
theorem FJ {e:GExpr} (h:ym e):pE e=some (x5 e):=by
 have hc:=tC (l:=e.Idx) (f:=nQ) (g:=λx=>decide (6<(x.At.length:Int))) h.1 (λx _=>rfl)
 unfold pE x5
 rw[(wL _).1,hc]
 simp only[Option.bind_some,Bool.not_not]
 cases decide ((e.Args.length:Int)=Fm e.Op)<;>cases decide (6<(e.Idx.length:Int))<;>simp
theorem B1 (op:Int) (i:Nat):gx op (i:Int)=some (sx op i)∧nD op (i:Int)=some (sx op i):=by
 unfold gx nD sx
 by_cases h1:op=16
 ·simp[h1]
 by_cases h2:op=17
 ·simp[h2]
 by_cases h3:op=18
 ·simp[h3]
 simp[h1,h2,h3]
theorem xP {e:GExpr} (h:ym e):gJ e fu 0=some (zU (λi a=>tD a==sx e.Op i) 0 e.Args)∧fQ e fu 0=some (zU (λi a=>tD a==sx e.Op i) 0 e.Args):=by
 constructor
 ·rw[Ao (m:=λf i=>gJ e f i) (l:=e.Args) (p:=λi a=>tD a==sx e.Op i) (k:=some true) (r0:=some false) h.2.1 ?_ ?_]
  ·cases zU (λi a=>tD a==sx e.Op i) 0 e.Args<;>rfl
  ·intro f i x hx
   have hi:=(List.getElem?_eq_some_iff.1 hx).1
   have:=h.2.1
   simp only[gJ]
   rw[if_pos (bS hi),cD hx,Option.bind_some,show lJ x=some (tD x)from rfl,(B1 _ _).1,Option.bind_some,Option.bind_some,nu (by omega)]
   cases tD x<;>cases sx e.Op i<;>rfl
  ·intro f
   simp only[gJ]
   rw[if_neg (by simp)]
 ·rw[Ao (m:=λf i=>fQ e f i) (l:=e.Args) (p:=λi a=>tD a==sx e.Op i) (k:=some true) (r0:=some false) h.2.1 ?_ ?_]
  ·cases zU (λi a=>tD a==sx e.Op i) 0 e.Args<;>rfl
  ·intro f i x hx
   have hi:=(List.getElem?_eq_some_iff.1 hx).1
   have:=h.2.1
   simp only[fQ]
   rw[if_pos (bS hi),cD hx,Option.bind_some,show kN x=some (tD x)from rfl,(B1 _ _).2,Option.bind_some,Option.bind_some,nu (by omega)]
   cases tD x<;>cases sx e.Op i<;>rfl
  ·intro f
   simp only[fQ]
   rw[if_neg (by simp)]
theorem yx {e:GExpr} (h:ym e):oE e=some (wG e)∧nF e=some (wG e):=by
 unfold oE nF wG
 rw[(xP h).1,(xP h).2,ly,wB]
 cases (decide (e.Op=1)||decide (e.Op=12))<;>cases tR e.Type_<;>simp[gd]
theorem xD (n:Nat):decide (0<(n:Int))= !decide ((n:Int)=0):=by
 by_cases h:n=0
 ·subst h;rfl
 ·rw[decide_eq_true (by omega),decide_eq_false (by omega)];rfl
theorem Cn {e:GExpr} (h:ym e):nG e=some (uM e):=by
 have hl:fR e fu 0=some (e.Idx.all Is):=by
  rw[qx (m:=λf i=>fR e f i) (l:=e.Idx) (p:=Is) (k:=some true) (r0:=some false) h.1 ?_ ?_]
  ·cases e.Idx.all Is<;>rfl
  ·intro f i x hx
   have hi:=(List.getElem?_eq_some_iff.1 hx).1
   have:=h.1
   simp only[fR]
   rw[if_pos (bS hi),cD hx,Option.bind_some,nu (by omega)]
   have e1:(((decide (x.From=([]:List UInt8)))&&(decide (0<(x.At.length:Int))))||((!decide (x.From=([]:List UInt8)))&&((!decide (x.Lin.K=0))||(decide (0<(x.Lin.L.length:Int))))))= !Is x:=by
    unfold Is Dl
    have c1:decide (0<(x.At.length:Int))= !decide ((x.At.length:Int)=0):=xD _
    have c2:decide (0<(x.Lin.L.length:Int))= !decide ((x.Lin.L.length:Int)=0):=xD _
    rw[c1,c2]
    by_cases hx:x.From=[]<;>simp[hx]
   rw[e1]
   cases Is x<;>rfl
  ·intro f
   simp only[fR]
   rw[if_neg (by simp)]
 unfold nG uM
 rw[hl]
 by_cases h1:e.Op<1
 ·simp[h1,show ¬ 1≤e.Op by omega]
 by_cases h2:18<e.Op
 ·simp[h2,show ¬ e.Op≤18 by omega]
 have g1:decide (1≤e.Op)=true:=decide_eq_true (by omega)
 have g2:decide (e.Op≤18)=true:=decide_eq_true (by omega)
 have c1:decide (0<(e.Lin.L.length:Int))= !decide ((e.Lin.L.length:Int)=0):=xD _
 have c2:decide (0<(e.Idx.length:Int))= !decide ((e.Idx.length:Int)=0):=xD _
 rw[g1,g2,decide_eq_false h1,decide_eq_false h2,c1,c2]
 have e3:((decide (e.Type_.Kind=0))&&(decide (e.Type_.Bits=0))&&(decide (e.Type_.Frac=0))&&(decide (e.Type_.Round=0))&&(decide (e.Type_.Over=0)))=KK e.Type_:=rfl
 rw[e3]
 unfold Dl
 generalize decide (e.Op=1)=a1,decide (e.Op=2)=a2,decide (e.Op=3)=a3,decide (e.Op=12)=a12,(decide (e.Val.N=0)&&decide (e.Val.D=0))=b1,KK e.Type_=b2,decide (e.Lin.K=0)=b3,decide ((e.Lin.L.length:Int)=0)=b4,decide (e.Name=[])=b5,decide ((e.Idx.length:Int)=0)=b6
 cases a1<;>cases a2<;>cases a3<;>cases a12<;>cases b1<;>cases b2<;>cases b3<;>cases b4<;>cases b5<;>cases b6<;>simp
theorem Co {e:GExpr} (h:ym e):nH e=some (uO e):=by
 have hl:fS e fu 0=some (e.Idx.all λx=>decide (x.From=[])||gr x.From):=by
  rw[qx (m:=λf i=>fS e f i) (l:=e.Idx) (p:=λx=>decide (x.From=[])||gr x.From) (k:=some true) (r0:=some false) h.1 ?_ ?_]
  ·cases e.Idx.all λx=>decide (x.From=[])||gr x.From<;>rfl
  ·intro f i x hx
   have hi:=(List.getElem?_eq_some_iff.1 hx).1
   have:=h.1
   simp only[fS]
   rw[if_pos (bS hi),cD hx,Option.bind_some,nu (by omega)]
   by_cases hf:x.From=[]
   ·simp[hf,gd]
   ·cases hn:gr x.From<;>simp[hf,gd,kK,hn]
  ·intro f
   simp only[fS]
   rw[if_neg (by simp)]
 unfold nH uO
 rw[hl,kK]
 by_cases h3:e.Op=3
 ·cases gr e.Name<;>simp[h3,gd]
 ·simp[h3,gd]
theorem AJ {e:GExpr} (h:ym e):mJ e=some (x5 e):=by
 have hl:fv e fu 0=some (e.Idx.all λx=> !decide (6<(x.At.length:Int))):=by
  rw[qx (m:=λf i=>fv e f i) (l:=e.Idx) (p:=λx=> !decide (6<(x.At.length:Int))) (k:=some true) (r0:=some false) h.1 ?_ ?_]
  ·cases e.Idx.all λx=> !decide (6<(x.At.length:Int))<;>rfl
  ·intro f i x hx
   have hi:=(List.getElem?_eq_some_iff.1 hx).1
   have:=h.1
   simp only[fv]
   rw[if_pos (bS hi),cD hx,Option.bind_some,nu (by omega)]
   cases decide (6<(x.At.length:Int))<;>rfl
  ·intro f
   simp only[fv]
   rw[if_neg (by simp)]
 unfold mJ x5
 rw[(wL _).2,hl]
 simp only[Option.bind_some]
 cases decide ((e.Args.length:Int)=Fm e.Op)<;>cases decide (6<(e.Idx.length:Int))<;>simp
theorem AK {e:GExpr} (h:ym e) (hv:VaR e.Val) (ht:e.Op=1→tR e.Type_=true):mL e=some (CH e):=by
 have hl:ck e fu 0=some (e.Idx.all λx=>gY x.Lin&&x.At.all gY):=by
  rw[qx (m:=λf i=>ck e f i) (l:=e.Idx) (p:=λx=>gY x.Lin&&x.At.all gY) (k:=some true) (r0:=some false) h.1 ?_ ?_]
  ·cases e.Idx.all λx=>gY x.Lin&&x.At.all gY<;>rfl
  ·intro f i x hx
   have hi:=(List.getElem?_eq_some_iff.1 hx).1
   have h0:=h.1
   obtain⟨p1,p2,p3⟩:=h.2.2.2 x (List.mem_of_getElem? hx)
   simp only[ck]
   rw[if_pos (bS hi),cD hx,Option.bind_some,(xI p1).2,Option.bind_some]
   have hin:fw e (i:Int) (ck e f) fu 0=if x.At.all gY=true then ck e f ((i+1:Nat):Int)else some false:=by
    refine qx (m:=λf' k=>fw e (i:Int) (ck e f) f' k) (l:=x.At) (p:=gY) p2 ?_ ?_
    ·intro f' k y hy
     have hk:=(List.getElem?_eq_some_iff.1 hy).1
     simp only[fw]
     rw[cD hx,Option.bind_some,if_pos (bS hk),Option.bind_some,cD hy,Option.bind_some,(xI (p3 y (List.mem_of_getElem? hy))).2,Option.bind_some,nu (by omega)]
     unfold gY
     cases decide (pC y)<;>rfl
    ·intro f'
     simp only[fw]
     rw[cD hx,Option.bind_some,if_neg (by simp)]
     unfold mw;rw[nu (by omega)]
   rw[hin]
   unfold gY
   cases decide (pC x.Lin)<;>rfl
  ·intro f
   simp only[ck]
   rw[if_neg (by simp)]
 unfold mL CH
 rw[hl,(xI h.2.2.1).2]
 unfold gY
 by_cases h1:e.Op=1
 ·rw[De (ht h1) hv]
  cases DH e.Type_ e.Val<;>cases decide (pC e.Lin)<;>simp[h1,gd]
 ·cases decide (pC e.Lin)<;>simp[h1,gd]
end Go.Proofs.YtmhoikfoogemnaaGreatDoor
