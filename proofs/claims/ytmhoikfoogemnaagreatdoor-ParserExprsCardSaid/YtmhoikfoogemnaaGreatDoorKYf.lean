import Derived.Test.YtmhoikfoogemnaaGreatDoorKYe
namespace Go.Proofs.YtmhoikfoogemnaaGreatDoor
open Go Go.RowKit Go.Vc
set_option linter.unusedVariables false
set_option linter.unusedSimpArgs false
theorem oU {α R:Type} {m:Nat→Int→Option R} {l:List α} {p:α→Bool} {k r0:Option R} (hn:l.length<4611686018427387904)
  (rd:∀ (f i:Nat) x,l[i]? =some x→m (f+1) (i:Int)=if p x=true then m f ((i+1:Nat):Int)else r0) (ed:∀ f,m (f+1) (l.length:Int)=k):m fu 0=if l.all p=true then k else r0:=by
 refine kO (L:=fun f (_:Unit) i=>m f i) (n:=l.length) hn (fun i _=>(l.take i).all p=true) ?_ ?_ () (by simp)
 ·intro f i _ hi hI
  obtain⟨x,hx⟩:=cx hi
  by_cases h:p x=true
  ·left;exact⟨(),by rw[cO hx,List.all_append,hI];simp[h],by rw[rd f i x hx,if_pos h]⟩
  ·right
   rw[show m (f+1) (i:Int)=r0 by rw[rd f i x hx,if_neg h],if_neg]
   intro h2;exact h (List.all_eq_true.1 h2 x (List.mem_of_getElem? hx))
 ·intro f _ hI
  rw[List.take_length]at hI
  rw[if_pos hI];exact ed f
def xK {α:Type} (p:Nat→α→Bool):Nat→List α→Bool
 | _,[]=>true
 | k,x::r=>p k x&&xK p (k+1) r
theorem wZ {α:Type} {p:Nat→α→Bool} :∀ {l:List α} {k:Nat},xK p k l=true↔∀ i x,l[i]? =some x→p (k+i) x=true
 | [],k=>by simp[xK]
 | a::l,k=>by
  rw[xK,Bool.and_eq_true,wZ (l:=l)]
  constructor
  ·rintro⟨h1,h2⟩ i x hx
   cases i with
   | zero=>injection hx with hx;subst hx;exact h1
   | succ i=>have:=h2 i x hx;rwa [Nat.add_assoc,Nat.add_comm 1]at this
  ·intro h
   refine⟨h 0 a rfl,fun i x hx=> ?_⟩
   have:=h (i+1) x hx
   rwa [← Nat.add_assoc,Nat.add_right_comm]at this
theorem x7 {α R:Type} {m:Nat→Int→Option R} {l:List α} {p:Nat→α→Bool} {k r0:Option R} (hn:l.length<4611686018427387904)
  (rd:∀ (f i:Nat) x,l[i]? =some x→m (f+1) (i:Int)=if p i x=true then m f ((i+1:Nat):Int)else r0) (ed:∀ f,m (f+1) (l.length:Int)=k):m fu 0=if xK p 0 l=true then k else r0:=by
 refine kO (L:=fun f (_:Unit) i=>m f i) (n:=l.length) hn (fun i _=>∀ j x,j<i→l[j]? =some x→p j x=true) ?_ ?_ () (fun j x h=>absurd h (by omega))
 ·intro f i _ hi hI
  obtain⟨x,hx⟩:=cx hi
  by_cases h:p i x=true
  ·left;exact⟨(),fun j y hj hy=>by
    by_cases e:j=i
    ·subst e;rw[hx]at hy;injection hy with hy;subst hy;exact h
    ·exact hI j y (by omega) hy,by rw[rd f i x hx,if_pos h]⟩
  ·right
   rw[show m (f+1) (i:Int)=r0 by rw[rd f i x hx,if_neg h],if_neg]
   intro h2;have:=wZ.1 h2 i x hx;rw[Nat.zero_add]at this;exact h this
 ·intro f _ hI
  rw[if_pos (wZ.2 fun i x hx=>by rw[Nat.zero_add];exact hI i x (List.getElem?_eq_some_iff.1 hx).1 hx)];exact ed f
theorem qP {l:List GIndex} {f:GIndex→Option Bool} {g:GIndex→Bool} (hn:l.length<4611686018427387904) (h:∀ x∈l,f x=some (g x)):be l f=some (!l.all fun x=> !g x):=by
 obtain⟨r,h1,h2⟩:=oA (L:=fun f' (_:Unit) i=>aP l f f' i) (n:=l.length) hn (fun i _=>(l.take i).all (fun x=> !g x)=true) (fun r=>decide (0≤r)= !l.all fun x=> !g x)
  (fun f' i _ hi hI=>by
   obtain⟨x,hx⟩:=cx hi
   have hm:=List.mem_of_getElem? hx
   simp only[aP]
   rw[if_pos (cb hi),cQ hx,Option.bind_some,h x hm,Option.bind_some]
   by_cases hv:g x=true
   ·right;refine⟨(i:Int),by rw[if_pos hv],?_⟩
    rw[decide_eq_true (by omega)];symm
    rw[Bool.not_eq_true',Bool.eq_false_iff];intro h2
    have:=List.all_eq_true.1 h2 x hm;rw[hv]at this;cases this
   ·left;refine⟨(),?_,by rw[if_neg hv,mU (by omega)]⟩
    rw[cO hx,List.all_append,hI];simp[hv])
  (fun f' _ hI=>by
   rw[List.take_length]at hI
   simp only[aP]
   exact⟨-1,by rw[if_neg (by simp)],by rw[hI];rfl⟩) () (by simp)
 unfold be cU
 rw[show aP l f fu 0=some r from h1,Option.bind_some,h2]
def AJ (l:GLin):Bool:=decide (l.K=0)&&decide ((l.L.length:Int)=0)
def Fw (x:GIndex):Bool:=if x.From=[]then decide ((x.At.length:Int)=0)else AJ x.Lin
def gm (l:GLin):Bool:=decide (n9 l)
def HF (t:GType):Bool:=(decide (t.Kind=0))&&(decide (t.Bits=0))&&(decide (t.Frac=0))&&(decide (t.Round=0))&&(decide (t.Over=0))
def sd (e:GExpr):Bool:=decide (1≤e.Op)&&decide (e.Op≤18)&&(decide (e.Op=1)||(decide (e.Val.N=0)&&decide (e.Val.D=0)))&&(decide (e.Op=1)||decide (e.Op=12)||HF e.Type_)&&
 (decide (e.Op=2)||AJ e.Lin)&&(decide (e.Op=3)||(decide (e.Name=[])&&decide ((e.Idx.length:Int)=0)))&&e.Idx.all Fw
def se (e:GExpr):Bool:=(!decide (e.Op=3)||fE e.Name)&&e.Idx.all fun x=>decide (x.From=[])||fE x.From
def Cy (op:Int):Int:=if op=1∨op=2∨op=3 then 0 else if op=8∨op=12∨op=18 then 1 else if op=11 then 3 else 2
def vF (e:GExpr):Bool:=decide ((e.Args.length:Int)=Cy e.Op)&& !decide (6<(e.Idx.length:Int))&&e.Idx.all fun x=> !decide (6<(x.At.length:Int))
def qQ (e:GExpr):Bool:=decide (13≤e.Op)&&decide (e.Op≤18)
def qp (op:Int) (i:Nat):Bool:=((decide (op=11)&&decide ((i:Int)=0))||decide (op=16)||decide (op=17))||decide (op=18)
def ue (e:GExpr):Bool:=(!(decide (e.Op=1)||decide (e.Op=12))||rh e.Type_)&&xK (fun i a=>qQ a==qp e.Op i) 0 e.Args
def Aj (e:GExpr):Bool:=(!decide (e.Op=1)||A9 e.Type_ e.Val)&&gm e.Lin&&e.Idx.all fun x=>gm x.Lin&&x.At.all gm
def m5 (e:GExpr):Int:=if sd e=true then(if se e=true then(if vF e=true then(if ue e=true then(if Aj e=true then 0 else 1)else 10)else 11)else 7)else 5
abbrev v8 (e:GExpr):Prop:=e.Idx.length<4611686018427387904∧e.Args.length<4611686018427387904∧e.Lin.L.length<4611686018427387904∧∀ x∈e.Idx,x.Lin.L.length<4611686018427387904∧x.At.length<4611686018427387904∧∀ f∈x.At,f.L.length<4611686018427387904
theorem okGExpr.len {e:GExpr} (h:okGExpr e):v8 e:=by
 obtain⟨h1,h2,h3⟩:=h.out
 refine⟨by have:=h2.2;omega,by have:=h3.2;omega,by have:=h1.2.2;omega,fun x hx=> ?_⟩
 obtain⟨a,_,b⟩:=h2.1 x hx
 exact⟨by have:=a.2.2;omega,by have:=b.2;omega,fun f hf=>by have:=(b.1 f hf).2.2;omega⟩
theorem Am {e:GExpr} (h:v8 e):mF e=some (sd e):=by
 have hc:=qP (l:=e.Idx) (f:=jC) (g:=fun x=> !Fw x) h.1 (fun x _=>by
  unfold jC lv k8 Fw
  by_cases hx:x.From=[]<;>simp[hx,AJ])
 unfold mF sd
 rw[hc]
 simp only[k8,Bool.not_not]
 by_cases h1:e.Op<1
 ·simp[h1,show ¬ 1≤e.Op by omega]
 by_cases h2:18<e.Op
 ·simp[h2,show ¬ e.Op≤18 by omega]
 have g1:decide (1≤e.Op)=true:=decide_eq_true (by omega)
 have g2:decide (e.Op≤18)=true:=decide_eq_true (by omega)
 rw[g1,g2,decide_eq_false h1,decide_eq_false h2]
 cases a1:decide (e.Op=1)<;>cases a2:decide (e.Op=2)<;>cases a3:decide (e.Op=3)<;>cases a12:decide (e.Op=12)<;>
  cases b1:(decide (e.Val.N=0)&&decide (e.Val.D=0))<;>cases b2:HF e.Type_<;>cases b3:AJ e.Lin<;>cases b4:decide (e.Name=[])<;>cases b5:decide ((e.Idx.length:Int)=0)<;>
  simp_all [gd,HF,AJ]
theorem Bm {e:GExpr} (h:v8 e):np e=some (se e):=by
 have hc:=qP (l:=e.Idx) (f:=kr) (g:=fun x=> !(decide (x.From=[])||fE x.From)) h.1 (fun x _=>by
  unfold kr
  by_cases hx:x.From=[]<;>simp[hx,gd,wg])
 unfold np se
 rw[hc]
 simp only[wg,Bool.not_not]
 by_cases h3:e.Op=3
 ·cases fE e.Name<;>simp[h3,gd]
 ·simp[h3,gd]
theorem ui (op:Int):kW op=some (Cy op)∧m8 op=some (Cy op):=by
 unfold kW g9 gZ m8 jx jw Cy
 by_cases h1:op=1
 ·simp[h1]
 by_cases h2:op=2
 ·simp[h2]
 by_cases h3:op=3
 ·simp[h3]
 by_cases h8:op=8
 ·simp[h8]
 by_cases h12:op=12
 ·simp[h12]
 by_cases h18:op=18
 ·simp[h18]
 by_cases h11:op=11
 ·simp[h11]
 simp[h1,h2,h3,h8,h12,h18,h11]
theorem CT {e:GExpr} (h:v8 e):ob e=some (vF e):=by
 have hc:=qP (l:=e.Idx) (f:=mG) (g:=fun x=>decide (6<(x.At.length:Int))) h.1 (fun x _=>rfl)
 unfold ob vF
 rw[(ui _).1,hc]
 simp only[Option.bind_some,Bool.not_not]
 cases decide ((e.Args.length:Int)=Cy e.Op)<;>cases decide (6<(e.Idx.length:Int))<;>simp
theorem zu (op:Int) (i:Nat):fJ op (i:Int)=some (qp op i)∧mv op (i:Int)=some (qp op i):=by
 unfold fJ mv qp
 by_cases h1:op=16
 ·simp[h1]
 by_cases h2:op=17
 ·simp[h2]
 by_cases h3:op=18
 ·simp[h3]
 simp[h1,h2,h3]
theorem vu {e:GExpr} (h:v8 e):fR e fu 0=some (xK (fun i a=>qQ a==qp e.Op i) 0 e.Args)∧fa e fu 0=some (xK (fun i a=>qQ a==qp e.Op i) 0 e.Args):=by
 constructor
 ·rw[x7 (m:=fun f i=>fR e f i) (l:=e.Args) (p:=fun i a=>qQ a==qp e.Op i) (k:=some true) (r0:=some false) h.2.1 ?_ ?_]
  ·cases xK (fun i a=>qQ a==qp e.Op i) 0 e.Args<;>rfl
  ·intro f i x hx
   have hi:=(List.getElem?_eq_some_iff.1 hx).1
   have:=h.2.1
   simp only[fR]
   rw[if_pos (cb hi),cQ hx,Option.bind_some,show kN x=some (qQ x)from rfl,(zu _ _).1,Option.bind_some,Option.bind_some,mU (by omega)]
   cases qQ x<;>cases qp e.Op i<;>rfl
  ·intro f
   simp only[fR]
   rw[if_neg (by simp)]
 ·rw[x7 (m:=fun f i=>fa e f i) (l:=e.Args) (p:=fun i a=>qQ a==qp e.Op i) (k:=some true) (r0:=some false) h.2.1 ?_ ?_]
  ·cases xK (fun i a=>qQ a==qp e.Op i) 0 e.Args<;>rfl
  ·intro f i x hx
   have hi:=(List.getElem?_eq_some_iff.1 hx).1
   have:=h.2.1
   simp only[fa]
   rw[if_pos (cb hi),cQ hx,Option.bind_some,show j1 x=some (qQ x)from rfl,(zu _ _).2,Option.bind_some,Option.bind_some,mU (by omega)]
   cases qQ x<;>cases qp e.Op i<;>rfl
  ·intro f
   simp only[fa]
   rw[if_neg (by simp)]
theorem wp {e:GExpr} (h:v8 e):no e=some (ue e)∧mw e=some (ue e):=by
 unfold no mw ue
 rw[(vu h).1,(vu h).2,kF,ua]
 cases (decide (e.Op=1)||decide (e.Op=12))<;>cases rh e.Type_<;>simp[gd]
theorem vc (n:Nat):decide (0<(n:Int))= !decide ((n:Int)=0):=by
 by_cases h:n=0
 ·subst h;rfl
 ·rw[decide_eq_true (by omega),decide_eq_false (by omega)];rfl
theorem zO {e:GExpr} (h:v8 e):mx e=some (sd e):=by
 have hl:fb e fu 0=some (e.Idx.all Fw):=by
  rw[oU (m:=fun f i=>fb e f i) (l:=e.Idx) (p:=Fw) (k:=some true) (r0:=some false) h.1 ?_ ?_]
  ·cases e.Idx.all Fw<;>rfl
  ·intro f i x hx
   have hi:=(List.getElem?_eq_some_iff.1 hx).1
   have:=h.1
   simp only[fb]
   rw[if_pos (cb hi),cQ hx,Option.bind_some,mU (by omega)]
   have e1:(((decide (x.From=([]:List UInt8)))&&(decide (0<(x.At.length:Int))))||((!decide (x.From=([]:List UInt8)))&&((!decide (x.Lin.K=0))||(decide (0<(x.Lin.L.length:Int))))))= !Fw x:=by
    unfold Fw AJ
    have c1:decide (0<(x.At.length:Int))= !decide ((x.At.length:Int)=0):=vc _
    have c2:decide (0<(x.Lin.L.length:Int))= !decide ((x.Lin.L.length:Int)=0):=vc _
    rw[c1,c2]
    by_cases hx:x.From=[]<;>simp[hx]
   rw[e1]
   cases Fw x<;>rfl
  ·intro f
   simp only[fb]
   rw[if_neg (by simp)]
 unfold mx sd
 rw[hl]
 by_cases h1:e.Op<1
 ·simp[h1,show ¬ 1≤e.Op by omega]
 by_cases h2:18<e.Op
 ·simp[h2,show ¬ e.Op≤18 by omega]
 have g1:decide (1≤e.Op)=true:=decide_eq_true (by omega)
 have g2:decide (e.Op≤18)=true:=decide_eq_true (by omega)
 have c1:decide (0<(e.Lin.L.length:Int))= !decide ((e.Lin.L.length:Int)=0):=vc _
 have c2:decide (0<(e.Idx.length:Int))= !decide ((e.Idx.length:Int)=0):=vc _
 rw[g1,g2,decide_eq_false h1,decide_eq_false h2,c1,c2]
 have e3:((decide (e.Type_.Kind=0))&&(decide (e.Type_.Bits=0))&&(decide (e.Type_.Frac=0))&&(decide (e.Type_.Round=0))&&(decide (e.Type_.Over=0)))=HF e.Type_:=rfl
 rw[e3]
 unfold AJ
 generalize decide (e.Op=1)=a1,decide (e.Op=2)=a2,decide (e.Op=3)=a3,decide (e.Op=12)=a12,(decide (e.Val.N=0)&&decide (e.Val.D=0))=b1,HF e.Type_=b2,decide (e.Lin.K=0)=b3,decide ((e.Lin.L.length:Int)=0)=b4,decide (e.Name=[])=b5,decide ((e.Idx.length:Int)=0)=b6
 cases a1<;>cases a2<;>cases a3<;>cases a12<;>cases b1<;>cases b2<;>cases b3<;>cases b4<;>cases b5<;>cases b6<;>simp
theorem zP {e:GExpr} (h:v8 e):my e=some (se e):=by
 have hl:fc e fu 0=some (e.Idx.all fun x=>decide (x.From=[])||fE x.From):=by
  rw[oU (m:=fun f i=>fc e f i) (l:=e.Idx) (p:=fun x=>decide (x.From=[])||fE x.From) (k:=some true) (r0:=some false) h.1 ?_ ?_]
  ·cases e.Idx.all fun x=>decide (x.From=[])||fE x.From<;>rfl
  ·intro f i x hx
   have hi:=(List.getElem?_eq_some_iff.1 hx).1
   have:=h.1
   simp only[fc]
   rw[if_pos (cb hi),cQ hx,Option.bind_some,mU (by omega)]
   by_cases hf:x.From=[]
   ·simp[hf,gd]
   ·cases hn:fE x.From<;>simp[hf,gd,jZ,hn]
  ·intro f
   simp only[fc]
   rw[if_neg (by simp)]
 unfold my se
 rw[hl,jZ]
 by_cases h3:e.Op=3
 ·cases fE e.Name<;>simp[h3,gd]
 ·simp[h3,gd]
theorem yn {e:GExpr} (h:v8 e):lH e=some (vF e):=by
 have hl:ez e fu 0=some (e.Idx.all fun x=> !decide (6<(x.At.length:Int))):=by
  rw[oU (m:=fun f i=>ez e f i) (l:=e.Idx) (p:=fun x=> !decide (6<(x.At.length:Int))) (k:=some true) (r0:=some false) h.1 ?_ ?_]
  ·cases e.Idx.all fun x=> !decide (6<(x.At.length:Int))<;>rfl
  ·intro f i x hx
   have hi:=(List.getElem?_eq_some_iff.1 hx).1
   have:=h.1
   simp only[ez]
   rw[if_pos (cb hi),cQ hx,Option.bind_some,mU (by omega)]
   cases decide (6<(x.At.length:Int))<;>rfl
  ·intro f
   simp only[ez]
   rw[if_neg (by simp)]
 unfold lH vF
 rw[(ui _).2,hl]
 simp only[Option.bind_some]
 cases decide ((e.Args.length:Int)=Cy e.Op)<;>cases decide (6<(e.Idx.length:Int))<;>simp
theorem yo {e:GExpr} (h:v8 e) (hv:VaR e.Val) (ht:e.Op=1→rh e.Type_=true):lJ e=some (Aj e):=by
 have hl:bT e fu 0=some (e.Idx.all fun x=>gm x.Lin&&x.At.all gm):=by
  rw[oU (m:=fun f i=>bT e f i) (l:=e.Idx) (p:=fun x=>gm x.Lin&&x.At.all gm) (k:=some true) (r0:=some false) h.1 ?_ ?_]
  ·cases e.Idx.all fun x=>gm x.Lin&&x.At.all gm<;>rfl
  ·intro f i x hx
   have hi:=(List.getElem?_eq_some_iff.1 hx).1
   have h0:=h.1
   obtain⟨p1,p2,p3⟩:=h.2.2.2 x (List.mem_of_getElem? hx)
   simp only[bT]
   rw[if_pos (cb hi),cQ hx,Option.bind_some,(vh p1).2,Option.bind_some]
   have hin:eB e (i:Int) (bT e f) fu 0=if x.At.all gm=true then bT e f ((i+1:Nat):Int)else some false:=by
    refine oU (m:=fun f' k=>eB e (i:Int) (bT e f) f' k) (l:=x.At) (p:=gm) p2 ?_ ?_
    ·intro f' k y hy
     have hk:=(List.getElem?_eq_some_iff.1 hy).1
     simp only[eB]
     rw[cQ hx,Option.bind_some,if_pos (cb hk),Option.bind_some,cQ hy,Option.bind_some,(vh (p3 y (List.mem_of_getElem? hy))).2,Option.bind_some,mU (by omega)]
     unfold gm
     cases decide (n9 y)<;>rfl
    ·intro f'
     simp only[eB]
     rw[cQ hx,Option.bind_some,if_neg (by simp)]
     unfold lu;rw[mU (by omega)]
   rw[hin]
   unfold gm
   cases decide (n9 x.Lin)<;>rfl
  ·intro f
   simp only[bT]
   rw[if_neg (by simp)]
 unfold lJ Aj
 rw[hl,(vh h.2.2.1).2]
 unfold gm
 by_cases h1:e.Op=1
 ·rw[AC (ht h1) hv]
  cases A9 e.Type_ e.Val<;>cases decide (n9 e.Lin)<;>simp[h1,gd]
 ·cases decide (n9 e.Lin)<;>simp[h1,gd]
end Go.Proofs.YtmhoikfoogemnaaGreatDoor
