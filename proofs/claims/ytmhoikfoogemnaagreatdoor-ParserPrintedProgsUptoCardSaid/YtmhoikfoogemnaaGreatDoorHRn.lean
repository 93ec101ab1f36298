import Derived.Test.YtmhoikfoogemnaaGreatDoorHRl
namespace Go.Proofs.YtmhoikfoogemnaaGreatDoor
open Go Go.RowKit Go.Vc
set_option linter.unusedVariables false
set_option linter.unusedSimpArgs false
def mF (p:aV):List (List UInt8):=(if p.Sizes=[]then[]else[yE [115,105,122,101] p.Sizes])++(p.Where.map PF++(p.Params.map Js++(p.Defs.map wY++(if p.Outs=[]then[]else[yE uC p.Outs]))))
def uJ (p:aV):Tx:=(if p.Sizes=[]then[]else BV [115,105,122,101] p.Sizes)++((p.Where.map Nf).flatten++((p.Params.map Fx).flatten++((p.Defs.map CI).flatten++(if p.Outs=[]then[]else BV uC p.Outs))))
theorem Jl (w:List UInt8) (l:List (List UInt8)):wP w l=((if l=[]then[]else[yE w l]).map (· ++[10])).flatten:=by
 unfold wP yE
 by_cases h:l=[]
 ·rw[if_pos h,if_pos h];rfl
 ·rw[if_neg h,if_neg h];simp
theorem FV {α:Type} {f g:α→List UInt8} {l:List α} (h:∀ x∈l,f x=g x++[10]):(l.map f).flatten=((l.map g).map (· ++[10])).flatten:=by
 rw[List.map_map]
 congr 1
 exact List.map_congr_left λx hx=>h x hx
theorem GR {p:aV} (h:uK p=true):mC p=((mF p).map (· ++[10])).flatten:=by
 have h':=h
 unfold uK at h'
 simp only[Bool.and_eq_true,List.all_eq_true]at h'
 obtain⟨⟨_,_⟩,h3,h4,h5⟩:=h'
 unfold mC mF
 rw[if_pos h,Jl,Jl]
 rw[FV (f:=KG) (g:=PF) λc hc=>by
  have:=h3 c hc
  unfold CL at this
  have ho:=of_decide_eq_true this
  unfold KG PF Ii LW
  rw[if_pos ho]
  cases c.Eq<;>simp]
 rw[FV (f:=yM) (g:=Js) λx hx=>by unfold yM Js;simp]
 rw[FV (f:=MZ) (g:=wY) λd hd=>by unfold MZ EF;rw[if_pos (h5 d hd)]]
 simp only[List.map_append,List.flatten_append,List.append_assoc]
theorem Ck {l:List (List UInt8)} {a:List UInt8} (h:a∈l):a.length+1≤((l.map (· ++[10])).flatten).length:=by
 induction l with
 | nil=>cases h
 | cons x l ih=>
  rw[List.map_cons,List.flatten_cons,List.length_append,List.length_append]
  rcases List.mem_cons.1 h with rfl | h
  ·simp
  ·have:=ih h;omega
theorem HX {p:aV} (h:smP p) (hb:uK p=true) (hl:(mC p).length≤65536):(∀ a∈mF p,(Z13.tokens a).2=(0,0))∧((mF p).map λa=>Z13.kt (Z13.tokens a).1).flatten=kx (uJ p):=by
 have hX:=GR hb
 have hm:∀ a∈mF p,a.length≤65536:=λa ha=>by have:=Ck ha;rw[← hX]at this;omega
 have hb':=hb
 unfold uK at hb'
 simp only[Bool.and_eq_true]at hb'
 obtain⟨⟨h1,h2⟩,h3,h4,h5⟩:=hb'
 have key:∀ {α:Type} (f:α→List UInt8) (g:α→Tx) (l:List α),(∀ x∈l,(f x).length≤65536→(Z13.tokens (f x)).2=(0,0)∧Z13.kt (Z13.tokens (f x)).1=kx (g x))→(∀ x∈l,f x∈mF p)→(∀ a∈l.map f,(Z13.tokens a).2=(0,0))∧((l.map f).map λa=>Z13.kt (Z13.tokens a).1).flatten=kx (l.map g).flatten:=λf g l q m=>by
  refine⟨λa ha=>?_,?_⟩
  ·obtain⟨x,hx,rfl⟩:=List.mem_map.1 ha
   exact(q x hx (hm _ (m x hx))).1
  ·clear hX
   induction l with
   | nil=>rfl
   | cons x l ih=>
    rw[List.map_cons,List.map_cons,List.map_cons,List.flatten_cons,List.flatten_cons,FM,ih (λy hy=>q y (by simp[hy])) (λy hy=>m y (by simp[hy])),(q x (by simp) (hm _ (m x (by simp)))).2]
 have row:∀ (w:List UInt8) (l:List (List UInt8)),td w→l.all bw=true→(∀ a∈(if l=[]then[]else[yE w l]),a∈mF p)→(∀ a∈(if l=[]then([]:List (List UInt8))else[yE w l]),(Z13.tokens a).2=(0,0))∧(((if l=[]then([]:List (List UInt8))else[yE w l]).map λa=>Z13.kt (Z13.tokens a).1).flatten=kx (if l=[]then[]else BV w l)):=λw l hw ha hmm=>by
  by_cases hn:l=[]
  ·simp only[if_pos hn]
   exact⟨λa ha=>absurd ha (by simp),rfl⟩
  ·simp only[if_neg hn]at hmm ⊢
   have hlen:=hm (yE w l) (hmm (yE w l) (by simp))
   obtain⟨k1,k2⟩:=tG (LH hw ha) ⟨w,_,rfl,λhh=>by have:=hw.1;rw[hh]at this;revert this;decide⟩ hlen
   exact⟨λa ha=>by rw[List.mem_singleton.1 ha];exact k1,by show Z13.kt (Z13.tokens (yE w l)).1++[]=_;rw[List.append_nil];exact k2⟩
 obtain⟨a1,a2⟩:=row [115,105,122,101] p.Sizes (Mq _ (by simp)) h1 λa ha=>by unfold mF;exact List.mem_append.2 (.inl ha)
 obtain⟨b1,b2⟩:=key PF Nf p.Where (λc hc hln=>tG (OM (of_decide_eq_true (by have:=List.all_eq_true.1 h3 c hc;unfold CL at this;exact this))) ⟨_,_,rfl,by decide⟩ hln) λc hc=>by unfold mF;simp only[List.mem_append,List.mem_map];exact .inr (.inl ⟨c,hc,rfl⟩)
 obtain⟨c1,c2⟩:=key Js Fx p.Params (λx hx hln=>tG (LI (List.all_eq_true.1 h4 x hx)) ⟨_,_,rfl,by decide⟩ hln) λc hc=>by unfold mF;simp only[List.mem_append,List.mem_map];exact .inr (.inr (.inl ⟨c,hc,rfl⟩))
 obtain⟨d1,d2⟩:=key wY CI p.Defs (λd hd hln=>LZ (List.all_eq_true.1 h5 d hd) (h.d hd).1.2.2.2.2.2 hln) λc hc=>by unfold mF;simp only[List.mem_append,List.mem_map];exact .inr (.inr (.inr (.inl ⟨c,hc,rfl⟩)))
 obtain⟨e1,e2⟩:=row uC p.Outs (Mq _ (by simp[uC])) h2 λa ha=>by unfold mF;simp only[List.mem_append];exact .inr (.inr (.inr (.inr ha)))
 refine⟨λa ha=>?_,?_⟩
 ·unfold mF at ha
  simp only[List.mem_append]at ha
  rcases ha with ha | ha | ha | ha | ha
  ·exact a1 a ha
  ·exact b1 a ha
  ·exact c1 a ha
  ·exact d1 a ha
  ·exact e1 a ha
 ·unfold mF uJ
  simp only[List.map_append,List.flatten_append,FM]
  rw[a2,b2,c2,d2,e2]
theorem HP {p:aV} (h:smP p) (hb:uK p=true) (hl:(mC p).length≤20000):∃ T,es (mC p)=some (T,0,0)∧Ry ⟨T,0,0⟩∧fH ⟨T,0,0⟩=uJ p:=by
 obtain⟨k1,k2⟩:=HX h hb (by omega)
 have hX:=GR hb
 have hlX:((mF p).map (· ++[10])).flatten.length≤65536:=by rw[← hX];omega
 obtain⟨t1,t2⟩:=Z13.tokens_lines (mF p) hlX λa ha=>by rw[k1 a ha]
 rw[← hX,k2]at t2
 rw[← hX]at t1
 have hZ:=Z13.lexer_Tokenize (mC p) (by omega)
 have htl:=K3 (s:=mC p) (by omega)
 have e:es (mC p)=some ((Z13.tokens (mC p)).1,0,0):=by
  rw[hZ]
  show some ((Z13.tokens (mC p)).1,((Z13.tokens (mC p)).2.1:Int),((Z13.tokens (mC p)).2.2:Int))=_
  rw[t1];rfl
 refine⟨_,e,⟨by show(0:Int)≤0;omega,by show(0:Int)≤ _;omega,by show(Z13.tokens (mC p)).1.length≤50000;omega,λt ht=>by have:=htl.2 t ht;omega,λt ht=>?_,by show(0:Int)≤0;omega,by show(0:Int)≤160;omega⟩,?_⟩
 ·have hm:(t.Kind,t.Text)∈kx (uJ p):=by rw[← t2];exact List.mem_map.2 ⟨t,ht,rfl⟩
  obtain⟨s,_,hs⟩:=List.mem_map.1 hm
  injection hs with h1 h2
  show t.Kind=im t.Text
  rw[← h1,h2]
 ·unfold fH
  show((Z13.tokens (mC p)).1.drop 0).map (·.Text)=_
  rw[List.drop_zero]
  have:(Z13.kt (Z13.tokens (mC p)).1).map Prod.snd=(kx (uJ p)).map Prod.snd:=by rw[t2]
  unfold Z13.kt kx at this
  rw[List.map_map,List.map_map]at this
  have e2:(uJ p).map (Prod.snd∘ λt=>(im t,t))=uJ p:=by
   conv=>rhs;rw[← List.map_id (uJ p)]
   rfl
  rw[e2]at this
  exact this
abbrev PL:=aE
theorem D9 {r:PR} {p:aV} (h:Ry r) (e:fH r=[]) (F:Nat):PL (F+1) r p=some (.ret (p,r)):=by
 have:¬ r.at_<(r.l.length:Int):=by
  have:=vV h e
  unfold Dy at this
  have:=List.getElem?_eq_none_iff.1 this
  have:=h.a0;omega
 simp only[PL,aE]
 rw[decide_eq_false this,if_neg (by simp)]
theorem vZ {r:PR} {p:aV} {t:List UInt8} {q:Tx} (h:Ry r) (e:fH r=t::q) (F:Nat) {i:Nat} (hi:m7 (λs=>decide (im t=1)&&decide (t=s)) [[115,105,122,101],[119,104,101,114,101],[105,110],[100,101,102],[111,117,116]]=some i):
  r.at_<(r.l.length:Int)∧bh r ([([115,105,122,101]:List UInt8),([119,104,101,114,101]:List UInt8),([105,110]:List UInt8),([100,101,102]:List UInt8),([111,117,116]:List UInt8)]:List (List UInt8))=some ((i:Int),mI r):=by
 obtain⟨_,_,_,_,h1,_⟩:=aU h e
 exact⟨h1,qY h e _ (by simp) hi⟩
theorem JU {f:PR→aV→Option (bZ (aV×PR))} {r:PR} {p:aV} {rest:Tx} (h:Ry r) (e:fH r=[59]::rest):bB f r p=f (mI r) p:=by
 unfold bB
 rw[kI h e (by decide),aW]
abbrev LM (n:Nat):Prop:=n≤100000
theorem Jk {w:List UInt8} {l:List (List UInt8)} (hw:td w):BV w l=w::(dg (cp (l.map JB))++[[59]]):=by
 unfold BV Nz
 rw[lB (uQ hw),rR,m8];rfl
theorem Lg {r:PR} {p:aV} {l:List (List UInt8)} {rest:Tx} (h:Ry r) (e:fH r=BV [115,105,122,101] l++rest) (ho:l.all bw=true) (h0:l≠[]) (hl:LM l.length) (hp:LM p.Sizes.length) (F:Nat):∃ r',PL (F+1) r p=PL F r' ⟨p.Sizes++l,p.Where,p.Params,p.Defs,p.Outs⟩∧Nw r r' rest:=by
 rw[Jk (Mq _ (by simp))]at e
 have e':fH r=[115,105,122,101]::(dg (cp (l.map JB))++[59]::rest):=by rw[e];simp
 obtain⟨q1,q2⟩:=vZ (p:=p) h e' F (i:=0) (by decide)
 obtain⟨_,_,_,_,_,w1⟩:=aU h e'
 obtain⟨r2,e2,w2⟩:=G4 w1.ok w1.rs (λn hn=>List.all_eq_true.1 ho n hn) h0 hl
 obtain⟨_,_,_,_,_,w3⟩:=aU w2.ok w2.rs
 refine⟨mI r2,?_,(w1.trans w2).trans w3⟩
 simp only[PL,aE]
 rw[decide_eq_true q1,if_pos rfl,q2,Option.bind_some]
 dsimp only
 rw[if_pos (by rfl),e2,aW]
 dsimp only
 rw[aR (by omega),Option.bind_some,JU w2.ok w2.rs]
theorem NL {r:PR} {p:aV} {l:List (List UInt8)} {rest:Tx} (h:Ry r) (e:fH r=BV uC l++rest) (ho:l.all bw=true) (h0:l≠[]) (hl:LM l.length) (hp:LM p.Outs.length) (F:Nat):∃ r',PL (F+1) r p=PL F r' ⟨p.Sizes,p.Where,p.Params,p.Defs,p.Outs++l⟩∧Nw r r' rest:=by
 rw[Jk (Mq _ (by simp[uC]))]at e
 have e':fH r=[111,117,116]::(dg (cp (l.map JB))++[59]::rest):=by rw[e];simp[uC]
 obtain⟨q1,q2⟩:=vZ (p:=p) h e' F (i:=4) (by decide)
 obtain⟨_,_,_,_,_,w1⟩:=aU h e'
 obtain⟨r2,e2,w2⟩:=G4 w1.ok w1.rs (λn hn=>List.all_eq_true.1 ho n hn) h0 hl
 obtain⟨_,_,_,_,_,w3⟩:=aU w2.ok w2.rs
 refine⟨mI r2,?_,(w1.trans w2).trans w3⟩
 simp only[PL,aE]
 rw[decide_eq_true q1,if_pos rfl,q2,Option.bind_some]
 dsimp only
 rw[if_neg (by simp),if_neg (by simp),if_neg (by simp),if_neg (by simp),if_pos (by rfl),e2,aW]
 dsimp only
 rw[aR (by omega),Option.bind_some,JU w2.ok w2.rs]
theorem KX {r:PR} {p:aV} {c:aD} {rest:Tx} (h:Ry r) (e:fH r=Nf c++rest) (hf:cv c.Lin) (ho:okGLin c.Lin) (hp:LM p.Where.length) (F:Nat):∃ r',PL (F+1) r p=PL F r' ⟨p.Sizes,p.Where++[c],p.Params,p.Defs,p.Outs⟩∧Nw r r' rest:=by
 rw[PE]at e
 have e':fH r=[119,104,101,114,101]::[48]::LW c.Eq::(dg (jY c.Lin)++[59]::rest):=by rw[e];simp
 obtain⟨q1,q2⟩:=vZ (p:=p) h e' F (i:=1) (by decide)
 obtain⟨_,_,_,_,_,w1⟩:=aU h e'
 obtain⟨r2,e2,w2⟩:=EH w1.ok w1.rs hf ho
 obtain⟨_,_,_,_,_,w3⟩:=aU w2.ok w2.rs
 refine⟨mI r2,?_,(w1.trans w2).trans w3⟩
 simp only[PL,aE]
 rw[decide_eq_true q1,if_pos rfl,q2,Option.bind_some]
 dsimp only
 rw[if_neg (by simp),if_pos (by rfl),e2,aW]
 dsimp only
 rw[aR (by simp only[List.length_cons,List.length_nil];omega),Option.bind_some,JU w2.ok w2.rs]
theorem in_t {r:PR} {p:aV} {x:fE} {rest:Tx} (h:Ry r) (e:fH r=Fx x++rest) (hx:wc x=true) (ho:qf x) (hl:LM x.Dims.length) (hp:LM p.Params.length) (F:Nat):∃ r',PL (F+1) r p=PL F r' ⟨p.Sizes,p.Where,p.Params++[x],p.Defs,p.Outs⟩∧Nw r r' rest:=by
 rw[NI hx]at e
 have e':fH r=[105,110]::x.Name::[58]::(dg (wK x.Type_)++([91]::(dg (cp (x.Dims.map jY))++([93]::[59]::rest)))):=by rw[e];simp
 obtain⟨q1,q2⟩:=vZ (p:=p) h e' F (i:=2) (by decide)
 obtain⟨_,_,_,_,_,w1⟩:=aU h e'
 obtain⟨r2,e2,w2⟩:=Lq w1.ok w1.rs hx ho hl
 obtain⟨_,_,_,_,_,w3⟩:=aU w2.ok w2.rs
 refine⟨mI r2,?_,(w1.trans w2).trans w3⟩
 simp only[PL,aE]
 rw[decide_eq_true q1,if_pos rfl,q2,Option.bind_some]
 dsimp only
 rw[if_neg (by simp),if_neg (by simp),if_pos (by rfl),e2,aW]
 dsimp only
 rw[aR (by simp only[List.length_cons,List.length_nil];omega),Option.bind_some,JU w2.ok w2.rs]
theorem df_t {r:PR} {p:aV} {d:cU} {rest:Tx} (h:Ry r) (hd:r.deep=0) (e:fH r=CI d++rest) (hx:sy d=true) (ho:wR d) (hw:wE d.Body≤300) (l1:LM d.Dims.length) (l2:LM d.Red.length) (hp:LM p.Defs.length) (F:Nat):∃ r',PL (F+1) r p=PL F r' ⟨p.Sizes,p.Where,p.Params,p.Defs++[d],p.Outs⟩∧Nw r r' rest:=by
 rw[O3 hx]at e
 have e':fH r=[100,101,102]::d.Name::[58]::(dg (wK d.Type_)++([91]::(dg (cp (d.Dims.map AO))++([93]::[61]::(uT d++(dg (nv d.Body)++[59]::rest)))))):=by rw[e];simp
 obtain⟨q1,q2⟩:=vZ (p:=p) h e' F (i:=3) (by decide)
 obtain⟨_,_,_,_,_,w1⟩:=aU h e'
 obtain⟨r2,e2,w2⟩:=QB w1.ok (by rw[w1.d,hd]) w1.rs hx ho hw l1 l2
 obtain⟨_,_,_,_,_,w3⟩:=aU w2.ok w2.rs
 refine⟨mI r2,?_,(w1.trans w2).trans w3⟩
 simp only[PL,aE]
 rw[decide_eq_true q1,if_pos rfl,q2,Option.bind_some]
 dsimp only
 rw[if_neg (by simp),if_neg (by simp),if_neg (by simp),if_pos (by rfl),e2,aW]
 dsimp only
 rw[aR (by simp only[List.length_cons,List.length_nil];omega),Option.bind_some,JU w2.ok w2.rs]
end Go.Proofs.YtmhoikfoogemnaaGreatDoor
namespace Go.Proofs.YtmhoikfoogemnaaGreatDoor
open Go Go.RowKit Go.Vc
set_option linter.unusedVariables false
set_option linter.unusedSimpArgs false
theorem pT {α R:Type} {L:Nat→Int→Option R} {l:List α} {k:Option R} (hn:l.length<4611686018427387904)
  (rd:∀ f (i:Nat) x,l[i]? =some x→L (f+1) (i:Int)=L f ((i+1:Nat):Int)) (fin:∀ f,L (f+1) (l.length:Int)=k):L fu 0=k:=by
 have:=ws (L:=L) (l:=l) (ok:=λ_=>true) (k:=k) (bad:=k) hn (λf i x hx=>by rw[if_pos rfl];exact rd f i x hx) fin
 rw[this];split<;>rfl
theorem vP {l:List (List UInt8)} (hn:l.length<4611686018427387904):kA l l=some true:=by
 unfold kA
 rw[if_neg (by simp)]
 refine pT (l:=l) hn (λf i x hx=>?_) λf=>?_
 ·have hi:=eM hx
  simp only[gD]
  rw[if_pos (bs hi),bn hx,Option.bind_some,Option.bind_some,if_neg (by simp),mH (by omega)]
 ·simp only[gD]
  rw[if_neg (by simp)]
theorem Ih {l:List aD} (hn:l.length<4611686018427387904) (h:∀ c∈l,c.Lin.L.length<4611686018427387904):pf l l=some true:=by
 unfold pf
 rw[if_neg (by simp)]
 refine pT (l:=l) hn (λf i x hx=>?_) λf=>?_
 ·have hi:=eM hx
  simp only[jg]
  rw[if_pos (bs hi),bn hx,Option.bind_some,Option.bind_some]
  unfold sk
  rw[rn _ (h x (List.mem_of_getElem? hx))]
  simp[gd,mH (show i<4611686018427387904 by omega)]
 ·simp only[jg]
  rw[if_neg (by simp)]
theorem HW {l:List aC} (hn:l.length<4611686018427387904) (h:∀ c∈l,c.L.length<4611686018427387904):kG l l=some true:=by
 unfold kG
 rw[if_neg (by simp)]
 refine pT (l:=l) hn (λf i x hx=>?_) λf=>?_
 ·have hi:=eM hx
  simp only[fR]
  rw[if_pos (bs hi),bn hx,Option.bind_some,Option.bind_some,rn _ (h x (List.mem_of_getElem? hx)),Option.bind_some,if_neg (by simp),mH (by omega)]
 ·simp only[fR]
  rw[if_neg (by simp)]
theorem Bw {l:List fG} (hn:l.length<4611686018427387904) (h:∀ c∈l,c.Size.L.length<4611686018427387904):nF l l=some true:=by
 unfold nF
 rw[if_neg (by simp)]
 refine pT (l:=l) hn (λf i x hx=>?_) λf=>?_
 ·have hi:=eM hx
  simp only[jh]
  rw[if_pos (bs hi)]
  simp[bn hx,rn _ (h x (List.mem_of_getElem? hx)),gd,mH (show i<4611686018427387904 by omega)]
 ·simp only[jh]
  rw[if_neg (by simp)]
theorem Kf {d:cU} (h:Pr d):qm d d=some true:=by
 obtain⟨⟨o1,o2,o3,o4,o5,o6⟩,h300,hz⟩:=h
 have hs:=Hs ({ d with } :cU)
 have hn1:=iv gp d.Dims
 have hn2:=iv gp d.Red
 have hs:oz gp d.Dims+oz gp d.Red+d.Name.length≤nq d:=Hs d
 unfold qm
 rw[Bw (by omega) λa ha=>by have:=yq (l:=d.Dims) (by omega) ha;omega,Bw (by omega) λa ha=>by have:=yq (l:=d.Red) (by omega) ha;omega,z8 o6 (by omega)]
 simp[gd]
theorem HQ {p:aV} (h:smP p):pd p p=some true:=by
 have h1:=tB p
 have h2:=h.2.1
 have n1:=iv List.length p.Sizes
 have n2:=iv cr p.Where
 have n3:=iv ie p.Params
 have n4:=iv nq p.Defs
 have n5:=iv List.length p.Outs
 have l1:il p p fu 0=some true:=by
  refine pT (l:=p.Defs) (by omega) (λf i x hx=>?_) λf=>?_
  ·have hi:=eM hx
   simp only[il]
   rw[if_pos (bs hi),bn hx,Option.bind_some,Option.bind_some,Kf (h.d (List.mem_of_getElem? hx)),Option.bind_some,if_neg (by simp),mH (by omega)]
  ·simp only[il]
   rw[if_neg (by simp)]
 have l2:ik p p fu 0=some true:=by
  refine pT (l:=p.Params) (by omega) (λf i x hx=>?_) λf=>?_
  ·have hi:=eM hx
   have hm:=List.mem_of_getElem? hx
   have hz:=rU (f:=ie) hm
   obtain⟨z1,z2⟩:=Fw (x:=x) (by omega)
   have hn:=iv jP x.Dims
   simp only[ik]
   rw[if_pos (bs hi)]
   simp[bn hx,gd,HW (l:=x.Dims) (by omega) λf hf=>(by have:=FK z1 hf;omega),mH (show i<4611686018427387904 by omega)]
  ·simp only[ik]
   rw[if_neg (by simp)]
   exact l1
 unfold pd
 rw[vP (by omega),vP (by omega),Ih (by omega) λc hc=>by have:=Km (l:=p.Where) (by omega) hc;omega]
 simp[gd,l2]
theorem GP {α:Type} {K:α→Tx} {add:aV→α→aV} {sz:aV→Nat} (hadd:∀ p x,sz (add p x)=sz p+1):∀ (l:List α),(∀ x∈l,∀ (r:PR) (p:aV) (rest:Tx) (F:Nat),Ry r→r.deep=0→fH r=K x++rest→LM (sz p)→∃ r',PL (F+1) r p=PL F r' (add p x)∧Nw r r' rest)→
  ∀ (r:PR) (p:aV) (rest:Tx) (F:Nat),Ry r→r.deep=0→fH r=(l.map K).flatten++rest→sz p+l.length≤100000→∃ r',PL (F+l.length) r p=PL F r' (l.foldl add p)∧Nw r r' rest
 | [],_,r,p,rest,F,h,_,e,_=>⟨r,rfl,h,rfl,rfl,e⟩
 | x::l,step,r,p,rest,F,h,hd,e,hs=>by
  have e':fH r=K x++((l.map K).flatten++rest):=by rw[e];simp
  simp only[List.length_cons]at hs
  obtain⟨r1,q1,w1⟩:=step x (by simp) r p _ (F+l.length) h hd e' (by show sz p≤ _;omega)
  obtain⟨r2,q2,w2⟩:=GP hadd l (λy hy=>step y (by simp[hy])) r1 (add p x) rest F w1.ok (by rw[w1.d,hd]) w1.rs (by rw[hadd];omega)
  refine⟨r2,?_,w1.trans w2⟩
  show PL (F+(l.length+1)) r p=_
  rw[show F+(l.length+1)=F+l.length+1 by omega,q1,q2];rfl
def QZ (p:aV) (x:aD):aV:=⟨p.Sizes,p.Where++[x],p.Params,p.Defs,p.Outs⟩
def Q0 (p:aV) (x:fE):aV:=⟨p.Sizes,p.Where,p.Params++[x],p.Defs,p.Outs⟩
def Q1 (p:aV) (x:cU):aV:=⟨p.Sizes,p.Where,p.Params,p.Defs++[x],p.Outs⟩
theorem MU:∀ (l:List aD) (p:aV),l.foldl QZ p=⟨p.Sizes,p.Where++l,p.Params,p.Defs,p.Outs⟩
 | [],p=>by simp
 | x::l,p=>by rw[List.foldl_cons,MU l];simp[QZ]
theorem MV:∀ (l:List fE) (p:aV),l.foldl Q0 p=⟨p.Sizes,p.Where,p.Params++l,p.Defs,p.Outs⟩
 | [],p=>by simp
 | x::l,p=>by rw[List.foldl_cons,MV l];simp[Q0]
theorem MW:∀ (l:List cU) (p:aV),l.foldl Q1 p=⟨p.Sizes,p.Where,p.Params,p.Defs++l,p.Outs⟩
 | [],p=>by simp
 | x::l,p=>by rw[List.foldl_cons,MW l];simp[Q1]
theorem DS {p:aV} (h:HJ p=true):(p.Sizes.length≤20∧p.Where.length≤20∧p.Params.length≤20∧p.Defs.length≤20∧p.Outs.length≤20)∧(∀ x∈p.Params,x.Dims.length≤20)∧∀ d∈p.Defs,wE d.Body≤300∧d.Dims.length≤20∧d.Red.length≤20:=by
 unfold HJ at h
 simp only[Bool.and_eq_true,decide_eq_true_eq,List.all_eq_true]at h
 obtain⟨⟨h1,h2⟩,h3⟩:=h
 refine⟨h1,λx hx=>?_,λd hd=>?_⟩
 ·have:=h2 x hx
  unfold Nq at this
  simp only[Bool.and_eq_true,decide_eq_true_eq]at this
  exact this.1
 ·have:=h3 d hd
  unfold Fj at this
  simp only[Bool.and_eq_true,decide_eq_true_eq]at this
  obtain⟨⟨a,b⟩,c⟩:=this
  exact⟨a,by omega,by omega⟩
theorem HO {p:aV} (h:smP p) (hb:uK p=true) (hs:HJ p=true) {r:PR} (hr:Ry r) (hd:r.deep=0) (e:fH r=uJ p):∃ r',iL r=some (.ret (p,r')):=by
 obtain⟨⟨s1,s2,s3,s4,s5⟩,sP,sD⟩:=DS hs
 have hb':=hb
 unfold uK at hb'
 simp only[Bool.and_eq_true,List.all_eq_true]at hb'
 obtain⟨⟨b1,b2⟩,b3,b4,b5⟩:=hb'
 obtain⟨o1,o2,o3,o4,o5⟩:=h.1
 unfold uJ at e
 have step5:∀ (F:Nat) (q:PR) (g:aV),Ry q→g.Outs=[]→fH q=(if p.Outs=[]then[]else BV uC p.Outs)→∃ r',PL (F+2) q g=some (.ret (⟨g.Sizes,g.Where,g.Params,g.Defs,p.Outs⟩,r')):=λF q g hq z he=>by
  by_cases ho:p.Outs=[]
  ·rw[if_pos ho]at he
   refine⟨q,?_⟩
   rw[show F+2=(F+1)+1 by omega,D9 hq he]
   cases g;simp only at z ⊢;subst z;rw[ho]
  ·rw[if_neg ho]at he
   obtain⟨r1,q1,w1⟩:=NL (p:=g) hq (rest:=[]) (by rw[he,List.append_nil]) (List.all_eq_true.2 b2) ho (by omega) (by rw[z];simp) (F+1)
   refine⟨r1,?_⟩
   rw[show F+2=(F+1)+1 by omega,q1,D9 w1.ok w1.rs,z];rfl
 obtain⟨F,hF⟩:∃ F,fu=F+2+p.Defs.length+p.Params.length+p.Where.length+1:=⟨fu - (2+p.Defs.length+p.Params.length+p.Where.length+1),by unfold fu;omega⟩
 have step1:∃ r1 F',(PL fu r ⟨[],[],[],[],[]⟩=PL (F'+2+p.Defs.length+p.Params.length+p.Where.length) r1 ⟨p.Sizes,[],[],[],[]⟩)∧Nw r r1 ((p.Where.map Nf).flatten++((p.Params.map Fx).flatten++((p.Defs.map CI).flatten++(if p.Outs=[]then[]else BV uC p.Outs)))):=by
  rw[hF]
  by_cases hz:p.Sizes=[]
  ·rw[if_pos hz]at e
   exact⟨r,F+1,by rw[hz];congr 1;omega,hr,rfl,rfl,e⟩
  ·rw[if_neg hz]at e
   obtain⟨r1,q1,w1⟩:=Lg (p:=⟨[],[],[],[],[]⟩) hr e (List.all_eq_true.2 b1) hz (by omega) (by simp) (F+2+p.Defs.length+p.Params.length+p.Where.length)
   exact⟨r1,F,q1,w1⟩
 obtain⟨r1,F,q1,w1⟩:=step1
 obtain⟨r2,q2,w2⟩:=GP (K:=Nf) (add:=QZ) (sz:=λp=>p.Where.length) (λp x=>by simp[QZ]) p.Where (λc hc r g rest F hr _ he hl=>KX hr he (by have:=b3 c hc;unfold CL at this;exact of_decide_eq_true this) (o2.1 c hc).1 hl F) r1 ⟨p.Sizes,[],[],[],[]⟩ _ (F+2+p.Defs.length+p.Params.length) w1.ok (by rw[w1.d,hd]) w1.rs (by simp;omega)
 rw[MU]at q2
 have v2:=w1.trans w2
 obtain⟨r3,q3,w3⟩:=GP (K:=Fx) (add:=Q0) (sz:=λp=>p.Params.length) (λp x=>by simp[Q0]) p.Params (λx hx r g rest F hr _ he hl=>in_t hr he (b4 x hx) (o3.1 x hx) (by have:=sP x hx;omega) hl F) r2 ⟨p.Sizes,[]++p.Where,[],[],[]⟩ _ (F+2+p.Defs.length) v2.ok (by rw[v2.d,hd]) v2.rs (by simp;omega)
 rw[MV]at q3
 have v3:=v2.trans w3
 obtain⟨r4,q4,w4⟩:=GP (K:=CI) (add:=Q1) (sz:=λp=>p.Defs.length) (λp x=>by simp[Q1]) p.Defs (λd hd2 r g rest F hr hd0 he hl=>df_t hr hd0 he (b5 d hd2) (o4.1 d hd2) (sD d hd2).1 (by have:=(sD d hd2).2.1;omega) (by have:=(sD d hd2).2.2;omega) hl F) r3 ⟨p.Sizes,[]++p.Where,[]++p.Params,[],[]⟩ _ (F+2) v3.ok (by rw[v3.d,hd]) v3.rs (by simp;omega)
 rw[MW]at q4
 have v4:=v3.trans w4
 obtain⟨r5,q5⟩:=step5 F r4 ⟨p.Sizes,[]++p.Where,[]++p.Params,[]++p.Defs,[]⟩ v4.ok rfl v4.rs
 refine⟨r5,?_⟩
 show PL fu r ⟨[],[],[],[],[]⟩=_
 rw[q1,q2,q3,q4,q5]
 simp
theorem sn (p:aV) (ho:yj p) (hz:vN p≤1048576):gB p=some true:=by
 unfold gB
 rw[xT ho,Option.bind_some,L8]
 by_cases h:HJ p=true
 rotate_left
 ·rw[Bool.not_eq_true]at h;rw[h];rfl
 obtain⟨⟨s1,s2,s3,s4,s5⟩,sP,sD⟩:=DS h
 have hs:smP p:=⟨ho,hz,s4,λd hd=>(sD d hd).1⟩
 rw[h,if_neg (by simp),Fp hs,Option.bind_some]
 by_cases hb:uK p=true
 rotate_left
 ·have:mC p=[]:=by unfold mC;rw[if_neg hb]
  simp[this]
 by_cases hl:(20000:Int)<((mC p).length:Int)
 ·simp[hl]
 rw[decide_eq_false hl,Bool.or_false]
 by_cases hne:mC p=[]
 ·simp[hne]
 rw[decide_eq_false hne,if_neg (by simp)]
 obtain⟨T,t1,t2,t3⟩:=HP hs hb (by omega)
 obtain⟨r',e1⟩:=HO hs hb h t2 rfl t3
 have hp:mY (mC p)=some (p,0,0):=by
  unfold mY kQ
  rw[t1,Option.bind_some,if_neg (by simp),e1]
  rfl
 rw[hp,Option.bind_some]
 dsimp only
 rw[HQ hs]
 simp[gd]
end Go.Proofs.YtmhoikfoogemnaaGreatDoor
