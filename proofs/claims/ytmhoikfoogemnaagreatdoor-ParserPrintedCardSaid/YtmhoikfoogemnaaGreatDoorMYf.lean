import Derived.Test.YtmhoikfoogemnaaGreatDoorMYe
namespace Go.Proofs.YtmhoikfoogemnaaGreatDoor
open Go Go.RowKit Go.Vc
set_option linter.unusedVariables false
set_option linter.unusedSimpArgs false
theorem oe {α R:Type} {m:Nat→Int→Option R} {l:List α} {p:α→Bool} {k r0:Option R} (hn:l.length<4611686018427387904)
  (rd:∀ (f i:Nat) x,l[i]? =some x→m (f+1) (i:Int)=if p x=true then m f ((i+1:Nat):Int)else r0) (ed:∀ f,m (f+1) (l.length:Int)=k):m fu 0=if l.all p=true then k else r0:=by
 refine i7 (L:=fun f (_:Unit) i=>m f i) (n:=l.length) hn (fun i _=>(l.take i).all p=true) ?_ ?_ () (by simp)
 ·intro f i _ hi hI
  obtain⟨x,hx⟩:=bZ hi
  by_cases h:p x=true
  ·left;exact⟨(),by rw[bT hx,List.all_append,hI];simp[h],by rw[rd f i x hx,if_pos h]⟩
  ·right
   rw[show m (f+1) (i:Int)=r0 by rw[rd f i x hx,if_neg h],if_neg]
   intro h2;exact h (List.all_eq_true.1 h2 x (List.mem_of_getElem? hx))
 ·intro f _ hI
  rw[List.take_length]at hI
  rw[if_pos hI];exact ed f
def xw {α:Type} (p:Nat→α→Bool):Nat→List α→Bool
 | _,[]=>true
 | k,x::r=>p k x&&xw p (k+1) r
theorem wH {α:Type} {p:Nat→α→Bool} :∀ {l:List α} {k:Nat},xw p k l=true↔∀ i x,l[i]? =some x→p (k+i) x=true
 | [],k=>by simp[xw]
 | a::l,k=>by
  rw[xw,Bool.and_eq_true,wH (l:=l)]
  constructor
  ·rintro⟨h1,h2⟩ i x hx
   cases i with
   | zero=>injection hx with hx;subst hx;exact h1
   | succ i=>have:=h2 i x hx;rwa [Nat.add_assoc,Nat.add_comm 1]at this
  ·intro h
   refine⟨h 0 a rfl,fun i x hx=> ?_⟩
   have:=h (i+1) x hx
   rwa [← Nat.add_assoc,Nat.add_right_comm]at this
theorem x9 {α R:Type} {m:Nat→Int→Option R} {l:List α} {p:Nat→α→Bool} {k r0:Option R} (hn:l.length<4611686018427387904)
  (rd:∀ (f i:Nat) x,l[i]? =some x→m (f+1) (i:Int)=if p i x=true then m f ((i+1:Nat):Int)else r0) (ed:∀ f,m (f+1) (l.length:Int)=k):m fu 0=if xw p 0 l=true then k else r0:=by
 refine i7 (L:=fun f (_:Unit) i=>m f i) (n:=l.length) hn (fun i _=>∀ j x,j<i→l[j]? =some x→p j x=true) ?_ ?_ () (fun j x h=>absurd h (by omega))
 ·intro f i _ hi hI
  obtain⟨x,hx⟩:=bZ hi
  by_cases h:p i x=true
  ·left;exact⟨(),fun j y hj hy=>by
    by_cases e:j=i
    ·subst e;rw[hx]at hy;injection hy with hy;subst hy;exact h
    ·exact hI j y (by omega) hy,by rw[rd f i x hx,if_pos h]⟩
  ·right
   rw[show m (f+1) (i:Int)=r0 by rw[rd f i x hx,if_neg h],if_neg]
   intro h2;have:=wH.1 h2 i x hx;rw[Nat.zero_add]at this;exact h this
 ·intro f _ hI
  rw[if_pos (wH.2 fun i x hx=>by rw[Nat.zero_add];exact hI i x (List.getElem?_eq_some_iff.1 hx).1 hx)];exact ed f
theorem qB {l:List av} {f:av→Option Bool} {g:av→Bool} (hn:l.length<4611686018427387904) (h:∀ x∈l,f x=some (g x)):aR l f=some (!l.all fun x=> !g x):=by
 obtain⟨r,h1,h2⟩:=oC (L:=fun f' (_:Unit) i=>aE l f f' i) (n:=l.length) hn (fun i _=>(l.take i).all (fun x=> !g x)=true) (fun r=>decide (0≤r)= !l.all fun x=> !g x)
  (fun f' i _ hi hI=>by
   obtain⟨x,hx⟩:=bZ hi
   have hm:=List.mem_of_getElem? hx
   simp only[aE]
   rw[if_pos (bX hi),bS hx,Option.bind_some,h x hm,Option.bind_some]
   by_cases hv:g x=true
   ·right;refine⟨(i:Int),by rw[if_pos hv],?_⟩
    rw[decide_eq_true (by omega)];symm
    rw[Bool.not_eq_true',Bool.eq_false_iff];intro h2
    have:=List.all_eq_true.1 h2 x hm;rw[hv]at this;cases this
   ·left;refine⟨(),?_,by rw[if_neg hv,ni (by omega)]⟩
    rw[bT hx,List.all_append,hI];simp[hv])
  (fun f' _ hI=>by
   rw[List.take_length]at hI
   simp only[aE]
   exact⟨-1,by rw[if_neg (by simp)],by rw[hI];rfl⟩) () (by simp)
 unfold aR cy
 rw[show aE l f fu 0=some r from h1,Option.bind_some,h2]
def yd (l:ay):Bool:=decide (l.K=0)&&decide ((l.L.length:Int)=0)
def Ga (x:av):Bool:=if x.From=[]then decide ((x.At.length:Int)=0)else yd x.Lin
def eX (l:ay):Bool:=decide (d8 l)
def JJ (t:aM):Bool:=(decide (t.Kind=0))&&(decide (t.Bits=0))&&(decide (t.Frac=0))&&(decide (t.Round=0))&&(decide (t.Over=0))
def nK (e:ac):Bool:=decide (1≤e.Op)&&decide (e.Op≤18)&&(decide (e.Op=1)||(decide (e.Val.N=0)&&decide (e.Val.D=0)))&&(decide (e.Op=1)||decide (e.Op=12)||JJ e.Type_)&&
 (decide (e.Op=2)||yd e.Lin)&&(decide (e.Op=3)||(decide (e.Name=[])&&decide ((e.Idx.length:Int)=0)))&&e.Idx.all Ga
def nj (e:ac):Bool:=(!decide (e.Op=3)||cp e.Name)&&e.Idx.all fun x=>decide (x.From=[])||cp x.From
def lJ (op:Int):Int:=if op=1∨op=2∨op=3 then 0 else if op=8∨op=12∨op=18 then 1 else if op=11 then 3 else 2
def pY (e:ac):Bool:=decide ((e.Args.length:Int)=lJ e.Op)&& !decide (6<(e.Idx.length:Int))&&e.Idx.all fun x=> !decide (6<(x.At.length:Int))
def qC (e:ac):Bool:=decide (13≤e.Op)&&decide (e.Op≤18)
def pX (op:Int) (i:Nat):Bool:=((decide (op=11)&&decide ((i:Int)=0))||decide (op=16)||decide (op=17))||decide (op=18)
def qj (e:ac):Bool:=(!(decide (e.Op=1)||decide (e.Op=12))||ol e.Type_)&&xw (fun i a=>qC a==pX e.Op i) 0 e.Args
def uf (e:ac):Bool:=(!decide (e.Op=1)||tj e.Type_ e.Val)&&eX e.Lin&&e.Idx.all fun x=>eX x.Lin&&x.At.all eX
def iU (e:ac):Int:=if nK e=true then(if nj e=true then(if pY e=true then(if qj e=true then(if uf e=true then 0 else 1)else 10)else 11)else 7)else 5
abbrev vy (e:ac):Prop:=e.Idx.length<4611686018427387904∧e.Args.length<4611686018427387904∧e.Lin.L.length<4611686018427387904∧∀ x∈e.Idx,x.Lin.L.length<4611686018427387904∧x.At.length<4611686018427387904∧∀ f∈x.At,f.L.length<4611686018427387904
theorem okGExpr.len {e:ac} (h:okGExpr e):vy e:=by
 obtain⟨h1,h2,h3⟩:=h.out
 refine⟨by have:=h2.2;omega,by have:=h3.2;omega,by have:=h1.2.2;omega,fun x hx=> ?_⟩
 obtain⟨a,_,b⟩:=h2.1 x hx
 exact⟨by have:=a.2.2;omega,by have:=b.2;omega,fun f hf=>by have:=(b.1 f hf).2.2;omega⟩
theorem AB {e:ac} (h:vy e):lz e=some (nK e):=by
 have hc:=qB (l:=e.Idx) (f:=iM) (g:=fun x=> !Ga x) h.1 (fun x _=>by
  unfold iM kh j6 Ga
  by_cases hx:x.From=[]<;>simp[hx,yd])
 unfold lz nK
 rw[hc]
 simp only[j6,Bool.not_not]
 by_cases h1:e.Op<1
 ·simp[h1,show ¬ 1≤e.Op by omega]
 by_cases h2:18<e.Op
 ·simp[h2,show ¬ e.Op≤18 by omega]
 have g1:decide (1≤e.Op)=true:=decide_eq_true (by omega)
 have g2:decide (e.Op≤18)=true:=decide_eq_true (by omega)
 rw[g1,g2,decide_eq_false h1,decide_eq_false h2]
 cases a1:decide (e.Op=1)<;>cases a2:decide (e.Op=2)<;>cases a3:decide (e.Op=3)<;>cases a12:decide (e.Op=12)<;>
  cases b1:(decide (e.Val.N=0)&&decide (e.Val.D=0))<;>cases b2:JJ e.Type_<;>cases b3:yd e.Lin<;>cases b4:decide (e.Name=[])<;>cases b5:decide ((e.Idx.length:Int)=0)<;>
  simp_all [gd,JJ,yd]
theorem BR {e:ac} (h:vy e):ml e=some (nj e):=by
 have hc:=qB (l:=e.Idx) (f:=jz) (g:=fun x=> !(decide (x.From=[])||cp x.From)) h.1 (fun x _=>by
  unfold jz
  by_cases hx:x.From=[]<;>simp[hx,gd,vH])
 unfold ml nj
 rw[hc]
 simp only[vH,Bool.not_not]
 by_cases h3:e.Op=3
 ·cases cp e.Name<;>simp[h3,gd]
 ·simp[h3,gd]
theorem tX (op:Int):jY op=some (lJ op)∧ma op=some (lJ op):=by
 unfold jY fY fX ma iI iH lJ
 by_cases h1:op=1
 ·simp[h1]
 by_cases h2:op=2
 ·simp[h2]
 by_cases h3:op=3
 ·simp[h3]
 by_cases h8:op=8
 ·simp[h8]
 by_cases h12:op=12
 ·simp[h12]
 by_cases h18:op=18
 ·simp[h18]
 by_cases h11:op=11
 ·simp[h11]
 simp[h1,h2,h3,h8,h12,h18,h11]
theorem DU {e:ac} (h:vy e):m4 e=some (pY e):=by
 have hc:=qB (l:=e.Idx) (f:=lB) (g:=fun x=>decide (6<(x.At.length:Int))) h.1 (fun x _=>rfl)
 unfold m4 pY
 rw[(tX _).1,hc]
 simp only[Option.bind_some,Bool.not_not]
 cases decide ((e.Args.length:Int)=lJ e.Op)<;>cases decide (6<(e.Idx.length:Int))<;>simp
theorem zN (op:Int) (i:Nat):eQ op (i:Int)=some (pX op i)∧ln op (i:Int)=some (pX op i):=by
 unfold eQ ln pX
 by_cases h1:op=16
 ·simp[h1]
 by_cases h2:op=17
 ·simp[h2]
 by_cases h3:op=18
 ·simp[h3]
 simp[h1,h2,h3]
theorem uX {e:ac} (h:vy e):eW e fu 0=some (xw (fun i a=>qC a==pX e.Op i) 0 e.Args)∧en e fu 0=some (xw (fun i a=>qC a==pX e.Op i) 0 e.Args):=by
 constructor
 ·rw[x9 (m:=fun f i=>eW e f i) (l:=e.Args) (p:=fun i a=>qC a==pX e.Op i) (k:=some true) (r0:=some false) h.2.1 ?_ ?_]
  ·cases xw (fun i a=>qC a==pX e.Op i) 0 e.Args<;>rfl
  ·intro f i x hx
   have hi:=(List.getElem?_eq_some_iff.1 hx).1
   have:=h.2.1
   simp only[eW]
   rw[if_pos (bX hi),bS hx,Option.bind_some,show jM x=some (qC x)from rfl,(zN _ _).1,Option.bind_some,Option.bind_some,ni (by omega)]
   cases qC x<;>cases pX e.Op i<;>rfl
  ·intro f
   simp only[eW]
   rw[if_neg (by simp)]
 ·rw[x9 (m:=fun f i=>en e f i) (l:=e.Args) (p:=fun i a=>qC a==pX e.Op i) (k:=some true) (r0:=some false) h.2.1 ?_ ?_]
  ·cases xw (fun i a=>qC a==pX e.Op i) 0 e.Args<;>rfl
  ·intro f i x hx
   have hi:=(List.getElem?_eq_some_iff.1 hx).1
   have:=h.2.1
   simp only[en]
   rw[if_pos (bX hi),bS hx,Option.bind_some,show jg x=some (qC x)from rfl,(zN _ _).2,Option.bind_some,Option.bind_some,ni (by omega)]
   cases qC x<;>cases pX e.Op i<;>rfl
  ·intro f
   simp only[en]
   rw[if_neg (by simp)]
theorem vT {e:ac} (h:vy e):mj e=some (qj e)∧lp e=some (qj e):=by
 unfold mj lp qj
 rw[(uX h).1,(uX h).2,jH,tM]
 cases (decide (e.Op=1)||decide (e.Op=12))<;>cases ol e.Type_<;>simp[gd]
theorem uM (n:Nat):decide (0<(n:Int))= !decide ((n:Int)=0):=by
 by_cases h:n=0
 ·subst h;rfl
 ·rw[decide_eq_true (by omega),decide_eq_false (by omega)];rfl
theorem Af {e:ac} (h:vy e):lq e=some (nK e):=by
 have hl:eo e fu 0=some (e.Idx.all Ga):=by
  rw[oe (m:=fun f i=>eo e f i) (l:=e.Idx) (p:=Ga) (k:=some true) (r0:=some false) h.1 ?_ ?_]
  ·cases e.Idx.all Ga<;>rfl
  ·intro f i x hx
   have hi:=(List.getElem?_eq_some_iff.1 hx).1
   have:=h.1
   simp only[eo]
   rw[if_pos (bX hi),bS hx,Option.bind_some,ni (by omega)]
   have e1:(((decide (x.From=([]:List UInt8)))&&(decide (0<(x.At.length:Int))))||((!decide (x.From=([]:List UInt8)))&&((!decide (x.Lin.K=0))||(decide (0<(x.Lin.L.length:Int))))))= !Ga x:=by
    unfold Ga yd
    have c1:decide (0<(x.At.length:Int))= !decide ((x.At.length:Int)=0):=uM _
    have c2:decide (0<(x.Lin.L.length:Int))= !decide ((x.Lin.L.length:Int)=0):=uM _
    rw[c1,c2]
    by_cases hx:x.From=[]<;>simp[hx]
   rw[e1]
   cases Ga x<;>rfl
  ·intro f
   simp only[eo]
   rw[if_neg (by simp)]
 unfold lq nK
 rw[hl]
 by_cases h1:e.Op<1
 ·simp[h1,show ¬ 1≤e.Op by omega]
 by_cases h2:18<e.Op
 ·simp[h2,show ¬ e.Op≤18 by omega]
 have g1:decide (1≤e.Op)=true:=decide_eq_true (by omega)
 have g2:decide (e.Op≤18)=true:=decide_eq_true (by omega)
 have c1:decide (0<(e.Lin.L.length:Int))= !decide ((e.Lin.L.length:Int)=0):=uM _
 have c2:decide (0<(e.Idx.length:Int))= !decide ((e.Idx.length:Int)=0):=uM _
 rw[g1,g2,decide_eq_false h1,decide_eq_false h2,c1,c2]
 have e3:((decide (e.Type_.Kind=0))&&(decide (e.Type_.Bits=0))&&(decide (e.Type_.Frac=0))&&(decide (e.Type_.Round=0))&&(decide (e.Type_.Over=0)))=JJ e.Type_:=rfl
 rw[e3]
 unfold yd
 generalize decide (e.Op=1)=a1,decide (e.Op=2)=a2,decide (e.Op=3)=a3,decide (e.Op=12)=a12,(decide (e.Val.N=0)&&decide (e.Val.D=0))=b1,JJ e.Type_=b2,decide (e.Lin.K=0)=b3,decide ((e.Lin.L.length:Int)=0)=b4,decide (e.Name=[])=b5,decide ((e.Idx.length:Int)=0)=b6
 cases a1<;>cases a2<;>cases a3<;>cases a12<;>cases b1<;>cases b2<;>cases b3<;>cases b4<;>cases b5<;>cases b6<;>simp
theorem Ag {e:ac} (h:vy e):lr e=some (nj e):=by
 have hl:ep e fu 0=some (e.Idx.all fun x=>decide (x.From=[])||cp x.From):=by
  rw[oe (m:=fun f i=>ep e f i) (l:=e.Idx) (p:=fun x=>decide (x.From=[])||cp x.From) (k:=some true) (r0:=some false) h.1 ?_ ?_]
  ·cases e.Idx.all fun x=>decide (x.From=[])||cp x.From<;>rfl
  ·intro f i x hx
   have hi:=(List.getElem?_eq_some_iff.1 hx).1
   have:=h.1
   simp only[ep]
   rw[if_pos (bX hi),bS hx,Option.bind_some,ni (by omega)]
   by_cases hf:x.From=[]
   ·simp[hf,gd]
   ·cases hn:cp x.From<;>simp[hf,gd,lE,hn]
  ·intro f
   simp only[ep]
   rw[if_neg (by simp)]
 unfold lr nj
 rw[hl,lE]
 by_cases h3:e.Op=3
 ·cases cp e.Name<;>simp[h3,gd]
 ·simp[h3,gd]
theorem yu {e:ac} (h:vy e):kz e=some (pY e):=by
 have hl:dU e fu 0=some (e.Idx.all fun x=> !decide (6<(x.At.length:Int))):=by
  rw[oe (m:=fun f i=>dU e f i) (l:=e.Idx) (p:=fun x=> !decide (6<(x.At.length:Int))) (k:=some true) (r0:=some false) h.1 ?_ ?_]
  ·cases e.Idx.all fun x=> !decide (6<(x.At.length:Int))<;>rfl
  ·intro f i x hx
   have hi:=(List.getElem?_eq_some_iff.1 hx).1
   have:=h.1
   simp only[dU]
   rw[if_pos (bX hi),bS hx,Option.bind_some,ni (by omega)]
   cases decide (6<(x.At.length:Int))<;>rfl
  ·intro f
   simp only[dU]
   rw[if_neg (by simp)]
 unfold kz pY
 rw[(tX _).2,hl]
 simp only[Option.bind_some]
 cases decide ((e.Args.length:Int)=lJ e.Op)<;>cases decide (6<(e.Idx.length:Int))<;>simp
theorem yv {e:ac} (h:vy e) (hv:VaR e.Val) (ht:e.Op=1→ol e.Type_=true):kB e=some (uf e):=by
 have hl:bv e fu 0=some (e.Idx.all fun x=>eX x.Lin&&x.At.all eX):=by
  rw[oe (m:=fun f i=>bv e f i) (l:=e.Idx) (p:=fun x=>eX x.Lin&&x.At.all eX) (k:=some true) (r0:=some false) h.1 ?_ ?_]
  ·cases e.Idx.all fun x=>eX x.Lin&&x.At.all eX<;>rfl
  ·intro f i x hx
   have hi:=(List.getElem?_eq_some_iff.1 hx).1
   have h0:=h.1
   obtain⟨p1,p2,p3⟩:=h.2.2.2 x (List.mem_of_getElem? hx)
   simp only[bv]
   rw[if_pos (bX hi),bS hx,Option.bind_some,(pK p1).2,Option.bind_some]
   have hin:dV e (i:Int) (bv e f) fu 0=if x.At.all eX=true then bv e f ((i+1:Nat):Int)else some false:=by
    refine oe (m:=fun f' k=>dV e (i:Int) (bv e f) f' k) (l:=x.At) (p:=eX) p2 ?_ ?_
    ·intro f' k y hy
     have hk:=(List.getElem?_eq_some_iff.1 hy).1
     simp only[dV]
     rw[bS hx,Option.bind_some,if_pos (bX hk),Option.bind_some,bS hy,Option.bind_some,(pK (p3 y (List.mem_of_getElem? hy))).2,Option.bind_some,ni (by omega)]
     unfold eX
     cases decide (d8 y)<;>rfl
    ·intro f'
     simp only[dV]
     rw[bS hx,Option.bind_some,if_neg (by simp)]
     unfold ke;rw[ni (by omega)]
   rw[hin]
   unfold eX
   cases decide (d8 x.Lin)<;>rfl
  ·intro f
   simp only[bv]
   rw[if_neg (by simp)]
 unfold kB uf
 rw[hl,(pK h.2.2.1).2]
 unfold eX
 by_cases h1:e.Op=1
 ·rw[wD (ht h1) hv]
  cases tj e.Type_ e.Val<;>cases decide (d8 e.Lin)<;>simp[h1,gd]
 ·cases decide (d8 e.Lin)<;>simp[h1,gd]
end Go.Proofs.YtmhoikfoogemnaaGreatDoor
