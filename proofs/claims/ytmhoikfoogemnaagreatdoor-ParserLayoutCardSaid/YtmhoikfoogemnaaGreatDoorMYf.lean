import Derived.Test.YtmhoikfoogemnaaGreatDoorMYe
namespace Go.Proofs.YtmhoikfoogemnaaGreatDoor
open Go Go.RowKit Go.Vc
set_option linter.unusedVariables false
set_option linter.unusedSimpArgs false
theorem nJ {α R:Type} {m:Nat→Int→Option R} {l:List α} {p:α→Bool} {k r0:Option R} (hn:l.length<4611686018427387904)
  (rd:∀ (f i:Nat) x,l[i]? =some x→m (f+1) (i:Int)=if p x=true then m f ((i+1:Nat):Int)else r0) (ed:∀ f,m (f+1) (l.length:Int)=k):m fu 0=if l.all p=true then k else r0:=by
 refine jy (L:=fun f (_:Unit) i=>m f i) (n:=l.length) hn (fun i _=>(l.take i).all p=true) ?_ ?_ () (by simp)
 ·intro f i _ hi hI
  obtain⟨x,hx⟩:=bY hi
  by_cases h:p x=true
  ·left;exact⟨(),by rw[cy hx,List.all_append,hI];simp[h],by rw[rd f i x hx,if_pos h]⟩
  ·right
   rw[show m (f+1) (i:Int)=r0 by rw[rd f i x hx,if_neg h],if_neg]
   intro h2;exact h (List.all_eq_true.1 h2 x (List.mem_of_getElem? hx))
 ·intro f _ hI
  rw[List.take_length]at hI
  rw[if_pos hI];exact ed f
def vW {α:Type} (p:Nat→α→Bool):Nat→List α→Bool
 | _,[]=>true
 | k,x::r=>p k x&&vW p (k+1) r
theorem vr {α:Type} {p:Nat→α→Bool} :∀ {l:List α} {k:Nat},vW p k l=true↔∀ i x,l[i]? =some x→p (k+i) x=true
 | [],k=>by simp[vW]
 | a::l,k=>by
  rw[vW,Bool.and_eq_true,vr (l:=l)]
  constructor
  ·rintro⟨h1,h2⟩ i x hx
   cases i with
   | zero=>injection hx with hx;subst hx;exact h1
   | succ i=>have:=h2 i x hx;rwa [Nat.add_assoc,Nat.add_comm 1]at this
  ·intro h
   refine⟨h 0 a rfl,fun i x hx=> ?_⟩
   have:=h (i+1) x hx
   rwa [← Nat.add_assoc,Nat.add_right_comm]at this
theorem ww {α R:Type} {m:Nat→Int→Option R} {l:List α} {p:Nat→α→Bool} {k r0:Option R} (hn:l.length<4611686018427387904)
  (rd:∀ (f i:Nat) x,l[i]? =some x→m (f+1) (i:Int)=if p i x=true then m f ((i+1:Nat):Int)else r0) (ed:∀ f,m (f+1) (l.length:Int)=k):m fu 0=if vW p 0 l=true then k else r0:=by
 refine jy (L:=fun f (_:Unit) i=>m f i) (n:=l.length) hn (fun i _=>∀ j x,j<i→l[j]? =some x→p j x=true) ?_ ?_ () (fun j x h=>absurd h (by omega))
 ·intro f i _ hi hI
  obtain⟨x,hx⟩:=bY hi
  by_cases h:p i x=true
  ·left;exact⟨(),fun j y hj hy=>by
    by_cases e:j=i
    ·subst e;rw[hx]at hy;injection hy with hy;subst hy;exact h
    ·exact hI j y (by omega) hy,by rw[rd f i x hx,if_pos h]⟩
  ·right
   rw[show m (f+1) (i:Int)=r0 by rw[rd f i x hx,if_neg h],if_neg]
   intro h2;have:=vr.1 h2 i x hx;rw[Nat.zero_add]at this;exact h this
 ·intro f _ hI
  rw[if_pos (vr.2 fun i x hx=>by rw[Nat.zero_add];exact hI i x (List.getElem?_eq_some_iff.1 hx).1 hx)];exact ed f
theorem pO {l:List GIndex} {f:GIndex→Option Bool} {g:GIndex→Bool} (hn:l.length<4611686018427387904) (h:∀ x∈l,f x=some (g x)):bb l f=some (!l.all fun x=> !g x):=by
 obtain⟨r,h1,h2⟩:=nj (L:=fun f' (_:Unit) i=>aO l f f' i) (n:=l.length) hn (fun i _=>(l.take i).all (fun x=> !g x)=true) (fun r=>decide (0≤r)= !l.all fun x=> !g x)
  (fun f' i _ hi hI=>by
   obtain⟨x,hx⟩:=bY hi
   have hm:=List.mem_of_getElem? hx
   simp only[aO]
   rw[if_pos (bS hi),ck hx,Option.bind_some,h x hm,Option.bind_some]
   by_cases hv:g x=true
   ·right;refine⟨(i:Int),by rw[if_pos hv],?_⟩
    rw[decide_eq_true (by omega)];symm
    rw[Bool.not_eq_true',Bool.eq_false_iff];intro h2
    have:=List.all_eq_true.1 h2 x hm;rw[hv]at this;cases this
   ·left;refine⟨(),?_,by rw[if_neg hv,lB (by omega)]⟩
    rw[cy hx,List.all_append,hI];simp[hv])
  (fun f' _ hI=>by
   rw[List.take_length]at hI
   simp only[aO]
   exact⟨-1,by rw[if_neg (by simp)],by rw[hI];rfl⟩) () (by simp)
 unfold bb cF
 rw[show aO l f fu 0=some r from h1,Option.bind_some,h2]
def y7 (l:GLin):Bool:=decide (l.K=0)&&decide ((l.L.length:Int)=0)
def Em (x:GIndex):Bool:=if x.From=[]then decide ((x.At.length:Int)=0)else y7 x.Lin
def fG (l:GLin):Bool:=decide (mL l)
def G6 (t:GType):Bool:=(decide (t.Kind=0))&&(decide (t.Bits=0))&&(decide (t.Frac=0))&&(decide (t.Round=0))&&(decide (t.Over=0))
def qL (e:GExpr):Bool:=decide (1≤e.Op)&&decide (e.Op≤18)&&(decide (e.Op=1)||(decide (e.Val.N=0)&&decide (e.Val.D=0)))&&(decide (e.Op=1)||decide (e.Op=12)||G6 e.Type_)&&
 (decide (e.Op=2)||y7 e.Lin)&&(decide (e.Op=3)||(decide (e.Name=[])&&decide ((e.Idx.length:Int)=0)))&&e.Idx.all Em
def qN (e:GExpr):Bool:=(!decide (e.Op=3)||eT e.Name)&&e.Idx.all fun x=>decide (x.From=[])||eT x.From
def Bk (op:Int):Int:=if op=1∨op=2∨op=3 then 0 else if op=8∨op=12∨op=18 then 1 else if op=11 then 3 else 2
def uq (e:GExpr):Bool:=decide ((e.Args.length:Int)=Bk e.Op)&& !decide (6<(e.Idx.length:Int))&&e.Idx.all fun x=> !decide (6<(x.At.length:Int))
def pP (e:GExpr):Bool:=decide (13≤e.Op)&&decide (e.Op≤18)
def pk (op:Int) (i:Nat):Bool:=((decide (op=11)&&decide ((i:Int)=0))||decide (op=16)||decide (op=17))||decide (op=18)
def sQ (e:GExpr):Bool:=(!(decide (e.Op=1)||decide (e.Op=12))||pY e.Type_)&&vW (fun i a=>pP a==pk e.Op i) 0 e.Args
def yH (e:GExpr):Bool:=(!decide (e.Op=1)||zC e.Type_ e.Val)&&fG e.Lin&&e.Idx.all fun x=>fG x.Lin&&x.At.all fG
def lR (e:GExpr):Int:=if qL e=true then(if qN e=true then(if uq e=true then(if sQ e=true then(if yH e=true then 0 else 1)else 10)else 11)else 7)else 5
abbrev uH (e:GExpr):Prop:=e.Idx.length<4611686018427387904∧e.Args.length<4611686018427387904∧e.Lin.L.length<4611686018427387904∧∀ x∈e.Idx,x.Lin.L.length<4611686018427387904∧x.At.length<4611686018427387904∧∀ f∈x.At,f.L.length<4611686018427387904
theorem okGExpr.len {e:GExpr} (h:okGExpr e):uH e:=by
 obtain⟨h1,h2,h3⟩:=h.out
 refine⟨by have:=h2.2;omega,by have:=h3.2;omega,by have:=h1.2.2;omega,fun x hx=> ?_⟩
 obtain⟨a,_,b⟩:=h2.1 x hx
 exact⟨by have:=a.2.2;omega,by have:=b.2;omega,fun f hf=>by have:=(b.1 f hf).2.2;omega⟩
theorem yK {e:GExpr} (h:uH e):lu e=some (qL e):=by
 have hc:=pO (l:=e.Idx) (f:=g9) (g:=fun x=> !Em x) h.1 (fun x _=>by
  unfold g9 kw kl Em
  by_cases hx:x.From=[]<;>simp[hx,y7])
 unfold lu qL
 rw[hc]
 simp only[kl,Bool.not_not]
 by_cases h1:e.Op<1
 ·simp[h1,show ¬ 1≤e.Op by omega]
 by_cases h2:18<e.Op
 ·simp[h2,show ¬ e.Op≤18 by omega]
 have g1:decide (1≤e.Op)=true:=decide_eq_true (by omega)
 have g2:decide (e.Op≤18)=true:=decide_eq_true (by omega)
 rw[g1,g2,decide_eq_false h1,decide_eq_false h2]
 cases a1:decide (e.Op=1)<;>cases a2:decide (e.Op=2)<;>cases a3:decide (e.Op=3)<;>cases a12:decide (e.Op=12)<;>
  cases b1:(decide (e.Val.N=0)&&decide (e.Val.D=0))<;>cases b2:G6 e.Type_<;>cases b3:y7 e.Lin<;>cases b4:decide (e.Name=[])<;>cases b5:decide ((e.Idx.length:Int)=0)<;>
  simp_all [gd,G6,y7]
theorem zX {e:GExpr} (h:uH e):l0 e=some (qN e):=by
 have hc:=pO (l:=e.Idx) (f:=iQ) (g:=fun x=> !(decide (x.From=[])||eT x.From)) h.1 (fun x _=>by
  unfold iQ
  by_cases hx:x.From=[]<;>simp[hx,gd,uL])
 unfold l0 qN
 rw[hc]
 simp only[uL,Bool.not_not]
 by_cases h3:e.Op=3
 ·cases eT e.Name<;>simp[h3,gd]
 ·simp[h3,gd]
theorem sU (op:Int):ka op=some (Bk op)∧oR op=some (Bk op):=by
 unfold ka gw gu oR lz ly Bk
 by_cases h1:op=1
 ·simp[h1]
 by_cases h2:op=2
 ·simp[h2]
 by_cases h3:op=3
 ·simp[h3]
 by_cases h8:op=8
 ·simp[h8]
 by_cases h12:op=12
 ·simp[h12]
 by_cases h18:op=18
 ·simp[h18]
 by_cases h11:op=11
 ·simp[h11]
 simp[h1,h2,h3,h8,h12,h18,h11]
theorem BE {e:GExpr} (h:uH e):mO e=some (uq e):=by
 have hc:=pO (l:=e.Idx) (f:=kj) (g:=fun x=>decide (6<(x.At.length:Int))) h.1 (fun x _=>rfl)
 unfold mO uq
 rw[(sU _).1,hc]
 simp only[Option.bind_some,Bool.not_not]
 cases decide ((e.Args.length:Int)=Bk e.Op)<;>cases decide (6<(e.Idx.length:Int))<;>simp
theorem xW (op:Int) (i:Nat):eX op (i:Int)=some (pk op i)∧n8 op (i:Int)=some (pk op i):=by
 unfold eX n8 pk
 by_cases h1:op=16
 ·simp[h1]
 by_cases h2:op=17
 ·simp[h2]
 by_cases h3:op=18
 ·simp[h3]
 simp[h1,h2,h3]
theorem ue {e:GExpr} (h:uH e):fg e fu 0=some (vW (fun i a=>pP a==pk e.Op i) 0 e.Args)∧iD e fu 0=some (vW (fun i a=>pP a==pk e.Op i) 0 e.Args):=by
 constructor
 ·rw[ww (m:=fun f i=>fg e f i) (l:=e.Args) (p:=fun i a=>pP a==pk e.Op i) (k:=some true) (r0:=some false) h.2.1 ?_ ?_]
  ·cases vW (fun i a=>pP a==pk e.Op i) 0 e.Args<;>rfl
  ·intro f i x hx
   have hi:=(List.getElem?_eq_some_iff.1 hx).1
   have:=h.2.1
   simp only[fg]
   rw[if_pos (bS hi),ck hx,Option.bind_some,show jY x=some (pP x)from rfl,(xW _ _).1,Option.bind_some,Option.bind_some,lB (by omega)]
   cases pP x<;>cases pk e.Op i<;>rfl
  ·intro f
   simp only[fg]
   rw[if_neg (by simp)]
 ·rw[ww (m:=fun f i=>iD e f i) (l:=e.Args) (p:=fun i a=>pP a==pk e.Op i) (k:=some true) (r0:=some false) h.2.1 ?_ ?_]
  ·cases vW (fun i a=>pP a==pk e.Op i) 0 e.Args<;>rfl
  ·intro f i x hx
   have hi:=(List.getElem?_eq_some_iff.1 hx).1
   have:=h.2.1
   simp only[iD]
   rw[if_pos (bS hi),ck hx,Option.bind_some,show m9 x=some (pP x)from rfl,(xW _ _).2,Option.bind_some,Option.bind_some,lB (by omega)]
   cases pP x<;>cases pk e.Op i<;>rfl
  ·intro f
   simp only[iD]
   rw[if_neg (by simp)]
theorem uS {e:GExpr} (h:uH e):lZ e=some (sQ e)∧n9 e=some (sQ e):=by
 unfold lZ n9 sQ
 rw[(ue h).1,(ue h).2,jS,sF]
 cases (decide (e.Op=1)||decide (e.Op=12))<;>cases pY e.Type_<;>simp[gd]
theorem tR (n:Nat):decide (0<(n:Int))= !decide ((n:Int)=0):=by
 by_cases h:n=0
 ·subst h;rfl
 ·rw[decide_eq_true (by omega),decide_eq_false (by omega)];rfl
theorem yj {e:GExpr} (h:uH e):oa e=some (qL e):=by
 have hl:iE e fu 0=some (e.Idx.all Em):=by
  rw[nJ (m:=fun f i=>iE e f i) (l:=e.Idx) (p:=Em) (k:=some true) (r0:=some false) h.1 ?_ ?_]
  ·cases e.Idx.all Em<;>rfl
  ·intro f i x hx
   have hi:=(List.getElem?_eq_some_iff.1 hx).1
   have:=h.1
   simp only[iE]
   rw[if_pos (bS hi),ck hx,Option.bind_some,lB (by omega)]
   have e1:(((decide (x.From=([]:List UInt8)))&&(decide (0<(x.At.length:Int))))||((!decide (x.From=([]:List UInt8)))&&((!decide (x.Lin.K=0))||(decide (0<(x.Lin.L.length:Int))))))= !Em x:=by
    unfold Em y7
    have c1:decide (0<(x.At.length:Int))= !decide ((x.At.length:Int)=0):=tR _
    have c2:decide (0<(x.Lin.L.length:Int))= !decide ((x.Lin.L.length:Int)=0):=tR _
    rw[c1,c2]
    by_cases hx:x.From=[]<;>simp[hx]
   rw[e1]
   cases Em x<;>rfl
  ·intro f
   simp only[iE]
   rw[if_neg (by simp)]
 unfold oa qL
 rw[hl]
 by_cases h1:e.Op<1
 ·simp[h1,show ¬ 1≤e.Op by omega]
 by_cases h2:18<e.Op
 ·simp[h2,show ¬ e.Op≤18 by omega]
 have g1:decide (1≤e.Op)=true:=decide_eq_true (by omega)
 have g2:decide (e.Op≤18)=true:=decide_eq_true (by omega)
 have c1:decide (0<(e.Lin.L.length:Int))= !decide ((e.Lin.L.length:Int)=0):=tR _
 have c2:decide (0<(e.Idx.length:Int))= !decide ((e.Idx.length:Int)=0):=tR _
 rw[g1,g2,decide_eq_false h1,decide_eq_false h2,c1,c2]
 have e3:((decide (e.Type_.Kind=0))&&(decide (e.Type_.Bits=0))&&(decide (e.Type_.Frac=0))&&(decide (e.Type_.Round=0))&&(decide (e.Type_.Over=0)))=G6 e.Type_:=rfl
 rw[e3]
 unfold y7
 generalize decide (e.Op=1)=a1,decide (e.Op=2)=a2,decide (e.Op=3)=a3,decide (e.Op=12)=a12,(decide (e.Val.N=0)&&decide (e.Val.D=0))=b1,G6 e.Type_=b2,decide (e.Lin.K=0)=b3,decide ((e.Lin.L.length:Int)=0)=b4,decide (e.Name=[])=b5,decide ((e.Idx.length:Int)=0)=b6
 cases a1<;>cases a2<;>cases a3<;>cases a12<;>cases b1<;>cases b2<;>cases b3<;>cases b4<;>cases b5<;>cases b6<;>simp
theorem yk {e:GExpr} (h:uH e):ob e=some (qN e):=by
 have hl:iF e fu 0=some (e.Idx.all fun x=>decide (x.From=[])||eT x.From):=by
  rw[nJ (m:=fun f i=>iF e f i) (l:=e.Idx) (p:=fun x=>decide (x.From=[])||eT x.From) (k:=some true) (r0:=some false) h.1 ?_ ?_]
  ·cases e.Idx.all fun x=>decide (x.From=[])||eT x.From<;>rfl
  ·intro f i x hx
   have hi:=(List.getElem?_eq_some_iff.1 hx).1
   have:=h.1
   simp only[iF]
   rw[if_pos (bS hi),ck hx,Option.bind_some,lB (by omega)]
   by_cases hf:x.From=[]
   ·simp[hf,gd]
   ·cases hn:eT x.From<;>simp[hf,gd,jq,hn]
  ·intro f
   simp only[iF]
   rw[if_neg (by simp)]
 unfold ob qN
 rw[hl,jq]
 by_cases h3:e.Op=3
 ·cases eT e.Name<;>simp[h3,gd]
 ·simp[h3,gd]
theorem wM {e:GExpr} (h:uH e):nu e=some (uq e):=by
 have hl:gO e fu 0=some (e.Idx.all fun x=> !decide (6<(x.At.length:Int))):=by
  rw[nJ (m:=fun f i=>gO e f i) (l:=e.Idx) (p:=fun x=> !decide (6<(x.At.length:Int))) (k:=some true) (r0:=some false) h.1 ?_ ?_]
  ·cases e.Idx.all fun x=> !decide (6<(x.At.length:Int))<;>rfl
  ·intro f i x hx
   have hi:=(List.getElem?_eq_some_iff.1 hx).1
   have:=h.1
   simp only[gO]
   rw[if_pos (bS hi),ck hx,Option.bind_some,lB (by omega)]
   cases decide (6<(x.At.length:Int))<;>rfl
  ·intro f
   simp only[gO]
   rw[if_neg (by simp)]
 unfold nu uq
 rw[(sU _).2,hl]
 simp only[Option.bind_some]
 cases decide ((e.Args.length:Int)=Bk e.Op)<;>cases decide (6<(e.Idx.length:Int))<;>simp
theorem wN {e:GExpr} (h:uH e) (hv:VaR e.Val) (ht:e.Op=1→pY e.Type_=true):nw e=some (yH e):=by
 have hl:dV e fu 0=some (e.Idx.all fun x=>fG x.Lin&&x.At.all fG):=by
  rw[nJ (m:=fun f i=>dV e f i) (l:=e.Idx) (p:=fun x=>fG x.Lin&&x.At.all fG) (k:=some true) (r0:=some false) h.1 ?_ ?_]
  ·cases e.Idx.all fun x=>fG x.Lin&&x.At.all fG<;>rfl
  ·intro f i x hx
   have hi:=(List.getElem?_eq_some_iff.1 hx).1
   have h0:=h.1
   obtain⟨p1,p2,p3⟩:=h.2.2.2 x (List.mem_of_getElem? hx)
   simp only[dV]
   rw[if_pos (bS hi),ck hx,Option.bind_some,(tW p1).2,Option.bind_some]
   have hin:gP e (i:Int) (dV e f) fu 0=if x.At.all fG=true then dV e f ((i+1:Nat):Int)else some false:=by
    refine nJ (m:=fun f' k=>gP e (i:Int) (dV e f) f' k) (l:=x.At) (p:=fG) p2 ?_ ?_
    ·intro f' k y hy
     have hk:=(List.getElem?_eq_some_iff.1 hy).1
     simp only[gP]
     rw[ck hx,Option.bind_some,if_pos (bS hk),Option.bind_some,ck hy,Option.bind_some,(tW (p3 y (List.mem_of_getElem? hy))).2,Option.bind_some,lB (by omega)]
     unfold fG
     cases decide (mL y)<;>rfl
    ·intro f'
     simp only[gP]
     rw[ck hx,Option.bind_some,if_neg (by simp)]
     unfold nV;rw[lB (by omega)]
   rw[hin]
   unfold fG
   cases decide (mL x.Lin)<;>rfl
  ·intro f
   simp only[dV]
   rw[if_neg (by simp)]
 unfold nw yH
 rw[hl,(tW h.2.2.1).2]
 unfold fG
 by_cases h1:e.Op=1
 ·rw[yX (ht h1) hv]
  cases zC e.Type_ e.Val<;>cases decide (mL e.Lin)<;>simp[h1,gd]
 ·cases decide (mL e.Lin)<;>simp[h1,gd]
end Go.Proofs.YtmhoikfoogemnaaGreatDoor
