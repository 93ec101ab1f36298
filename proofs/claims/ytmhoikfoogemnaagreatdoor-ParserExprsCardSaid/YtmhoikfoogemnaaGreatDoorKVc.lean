import Derived.Test.YtmhoikfoogemnaaGreatDoorKOrd
import Derived.Tactics
import Derived.WalkKit
import Derived.WalkLawsBesides
import Derived.WalkSpells
namespace Go.Vc
open Go Go.RowKit
abbrev kE:=List (Nat×Value)
structure Fr where
 n:Nat
 ds:List Nat:=[]
def z7 (ds:List Nat):List Deferred:=ds.map fun r=> { target:= .collected r,args:=#[] }
def look:kE→Nat→Option Value
 | [],_=>none
 | (k,v)::r,t=>match Nat.beq k t with | true=>some v | false=>look r t
structure Has (n:Fr) (a:Act) (env:kE):Prop where
 df:a.defers=z7 n.ds
 sz:a.tmps.size=n.n
 rd:∀ t v,look env t=some v→t<n.n→a.tmps.getD t undef=v
def Ev (n:Fr) (env:kE) (x:Operand) (v:Value):Prop:=∀ a,Has n a env→a.eval x=v
theorem aK {n:Fr} {env:kE} {t:Nat} {v:Value} (h:look env t=some v) (ht:Nat.blt t n.n=true):Ev n env (.tmp t) v:=
 fun _ ha=>ha.rd t v h (by simpa[Nat.blt_eq]using ht)
theorem ao {n:Fr} {env:kE} {v:Value} :Ev n env (.const v) v:=fun _ _=>rfl
theorem B9 {n:Fr} {env:kE} {f:FuncId} :Ev n env (.func f) (.func (.func f) #[] #[]):=fun _ _=>rfl
theorem CU {n:Fr} {env:kE} {g:Nat} :Ev n env (.global g) (.pointer (some ⟨g,0,none⟩)):=fun _ _=>rfl
def gv (c:Bool) (v:Value):Value:=match c with | true=>v | false=>undef
theorem Hn {c:Bool} {v:Value} (h:c=true):gv c v=v:=by subst h;rfl
theorem pl {c:Bool} {v:Value} (h:c=false):gv c v=undef:=by subst h;rfl
theorem aQ {n:Fr} {env:kE} {x:Operand} {c:Bool} {v:Value} (h:Ev n env x (gv c v)) (hc:c=true):Ev n env x v:=
 fun a ha=>(h a ha).trans (Hn hc)
theorem Has.put {n:Fr} {a:Act} {env:kE} (h:Has n a env) (d:Nat) (v:Value):Has n (a.put (some d) v) ((d,v)::env):=by
 refine⟨h.df,by simp[Act.put,h.sz],fun t u hl ht=> ?_⟩
 simp only[look]at hl
 simp only[Act.put]
 by_cases e:d=t
 ·subst e
  simp at hl
  subst hl
  simp[Array.getD_eq_getD_getElem?,h.sz,ht]
 ·have hb:Nat.beq d t=false:=by
   rw[Bool.eq_false_iff];intro hc;exact e (Nat.eq_of_beq_eq_true hc)
  rw[hb]at hl
  simp only at hl
  have:=h.rd t u hl ht
  simp only[Array.getD_eq_getD_getElem?]at this ⊢
  rw[Array.getElem?_setIfInBounds_ne e]
  exact this
def Sub:kE→kE→Prop
 | [],_=>True
 | (t,v)::r,env=>look env t=some v∧Sub r env
theorem Sub.spec {e env:kE} (h:Sub e env):∀ t v,look e t=some v→look env t=some v:=by
 induction e with
 | nil=>intro t v h;cases h
 | cons p r ih=>
  obtain⟨k,u⟩:=p
  obtain⟨h1,h2⟩:=h
  intro t v hl
  simp only[look]at hl
  cases hb:Nat.beq k t with
  | true=>
   rw[hb]at hl
   injection hl with hl
   subst hl
   rw[← Nat.eq_of_beq_eq_true hb]
   exact h1
  | false=>
   rw[hb]at hl
   exact ih h2 t v hl
theorem Has.sub {n:Fr} {a:Act} {e env:kE} (h:Has n a env) (hs:Sub e env):Has n a e:=
 ⟨h.df,h.sz,fun t v hl ht=>h.rd t v (hs.spec t v hl) ht⟩
structure Ro where
 r:Option Nat
 kp:List PanicEntry→World→Prop
def Ro.plain:Ro:=⟨none,fun _ _=>False⟩
def Ro.rnd (l:Nat):Ro:=⟨some l,fun _ _=>False⟩
def Ro.pan (K:Ending→World→Prop):Ro:=⟨none,fun ch w=>K (.panicked ch) w⟩
theorem iK {K:Ending→World→Prop} {ch:List PanicEntry} {w:World} (h:K (.panicked ch) w):(Ro.pan K).kp ch w:=h
def sA (ro:Ro) (Kn:Act→World→Prop) (Ke:Nat→Act→World→Prop) (Kr:Act→World→Prop):Exit→Act→World→Prop
 | .normal,a,w=>Kn a w
 | .exit id,a,w=>Ke id a w
 | .ret,a,w=>Kr a w
 | .panic ch,a,w=>a.defers=[]∧ro.kp ch w
 | _,_,_=>False
def gG (P:Program) (ro:Ro) (n:Fr) (c:Code) (Kn:Act→World→Prop) (Ke:Nat→Act→World→Prop) (Kr:Act→World→Prop) (env:kE) (w:World):Prop:=
 ∀ a,Has n a env→Code.wpIn (FW ro.r) 0 P c (sA ro Kn Ke Kr) a w
section
variable {P:Program} {ro:Ro} {n:Fr} {Kn:Act→World→Prop} {Ke:Nat→Act→World→Prop} {Kr:Act→World→Prop} {env:kE} {w:World}
theorem DX (a:Act) (d:Option Nat) (v:Value):(a.put d v).defers=a.defers:=by cases d<;>rfl
theorem BX:∀ c a d v w,sA ro Kn Ke Kr (.panic c) (a.put d v) w→sA ro Kn Ke Kr (.panic c) a w:=fun c a d v w ⟨h1,h2⟩=>⟨by rw[← h1,DX],h2⟩
theorem Ed (K:Act→World→Prop):Exit.then K (sA ro Kn Ke Kr)=sA ro K Ke Kr:=by
 funext e a w;cases e<;>rfl
theorem al {x y:Code} (h:gG P ro n x (fun a w=>Code.wpIn (FW ro.r) 0 P y (sA ro Kn Ke Kr) a w) Ke Kr env w):gG P ro n (.seq x y) Kn Ke Kr env w:=
 fun a ha=>wpIn_seq (by rw[Ed];exact h a ha)
theorem bf (h:∀ a,Has n a env→Kn a w):gG P ro n .skip Kn Ke Kr env w:=fun a ha=>wpIn_skip (h a ha)
theorem aA (h:∀ a,Has n a env→Kr a w):gG P ro n .ret Kn Ke Kr env w:=fun a ha=>wpIn_ret (h a ha)
theorem bk {id:Nat} (h:∀ a,Has n a env→Ke id a w):gG P ro n (.exit id) Kn Ke Kr env w:=fun a ha=>wpIn_exit (h a ha)
def HC (id:Nat) (Kn:Act→World→Prop) (Ke:Nat→Act→World→Prop) (k:Nat) (a:Act) (w:World):Prop:=
 match Nat.beq k id with
 | true=>Kn a w
 | false=>Ke k a w
theorem oE {id:Nat} {c:Code} (h:gG P ro n c Kn (HC id Kn Ke) Kr env w):gG P ro n (.block id c) Kn Ke Kr env w:=
 fun a ha=>wpIn_block (by
  refine wpIn_mono (h a ha) fun e a w q=> ?_
  cases e with
  | exit k=>
   simp only[Exit.inBlock]
   simp only[sA,HC]at q
   cases hb:Nat.beq k id with
   | true=>rw[hb]at q;rw[if_pos (Nat.eq_of_beq_eq_true hb)];exact q
   | false=>rw[hb]at q;rw[if_neg (fun e=>by subst e;simp at hb)];exact q
  | _=>exact q)
theorem q8 {c:Operand} {x y:Code} {b:Bool} (hc:Ev n env c (.bool b)) (ht:b=true→gG P ro n x Kn Ke Kr env w) (hf:b=false→gG P ro n y Kn Ke Kr env w):
  gG P ro n (.cond c x y) Kn Ke Kr env w:=
 fun a ha=>wpIn_cond_split (hc a ha) (fun h=>ht h a ha) (fun h=>hf h a ha)
theorem Gi {c:Code} {e:kE} (hs:Sub e env) (h:gG P ro n c Kn Ke Kr e w):gG P ro n c Kn Ke Kr env w:=
 fun a ha=>h a (ha.sub hs)
theorem yv (Q:Nat→Prop) (h:∃ m,Q m):∃ m,Q m∧∀ k,Q k→m≤k:=by
 obtain⟨m,hm⟩:=h
 induction m using Nat.strongRecOn with
 | _ m ih=>
  by_cases hc:∃ k,k<m∧Q k
  ·obtain⟨k,hk,hq⟩:=hc
   exact ih k hk hq
  ·exact⟨m,hm,fun k hk=>Nat.le_of_not_lt fun hlt=>hc ⟨k,hlt,hk⟩⟩
open Classical in
noncomputable def B1 (Q:Nat→Prop):Nat:=if h:∃ m,Q m∧∀ k,Q k→m≤k then Classical.choose h else 0
theorem wc (Q:Nat→Prop) (h:∃ m,Q m):Q (B1 Q)∧∀ k,Q k→B1 Q≤k:=by
 have h':=yv Q h
 unfold B1
 rw[dif_pos h']
 exact Classical.choose_spec h'
def EM {α:Type} (n:Fr) (E:α→kE) (I:α→World→Prop) (μ:α→World→Nat) (m:Nat) (a:Act) (w:World):Prop:=∃ x,Has n a (E x)∧I x w∧μ x w<m
def EO {α:Type} (N:α→Fr) (E:α→kE) (J:α→World→Prop) (a:Act) (w:World):Prop:=∃ x,Has (N x) a (E x)∧J x w
theorem bh {c:Code} {α:Type} (I:α→World→Prop) (μ:α→World→Nat) (E:α→kE) (x0:α) (h0:I x0 w) (hE:Sub (E x0) env)
  (round:∀ x w,I x w→gG P ro n c (EM n E I μ (μ x w)) Ke Kr (E x) w):gG P ro n (.loop c) Kn Ke Kr env w:=by
 intro a ha
 refine wpIn_loop (fun a w=>∃ x,Has n a (E x)∧I x w) (fun a w=>B1 fun m=>∃ x,Has n a (E x)∧I x w∧μ x w=m) ⟨x0,ha.sub hE,h0⟩ ?_
 rintro a w ⟨y,hy,hIy⟩
 obtain⟨⟨x,hx,hIx,hm⟩,_⟩:=wc (fun m=>∃ x,Has n a (E x)∧I x w∧μ x w=m) ⟨_,y,hy,hIy,rfl⟩
 refine wpIn_mono (round x w hIx a hx) fun e a' w' q=> ?_
 cases e with
 | normal=>
  obtain⟨x',hx',hI',hlt⟩:=q
  refine⟨⟨x',hx',hI'⟩,?_⟩
  refine Nat.lt_of_le_of_lt ((wc (fun m=>∃ x,Has n a' (E x)∧I x w'∧μ x w'=m) ⟨_,x',hx',hI',rfl⟩).2 _ ⟨x',hx',hI',rfl⟩) ?_
  rw[← hm]
  exact hlt
 | exit id=>exact q
 | ret=>exact q
 | goto l=>exact q.elim
 | panic ch=>exact q
 | outgrown=>exact q.elim
def dm (P:Program) (ro:Ro) (n:Fr) (ops:Array Oper) (Kn:Act→World→Prop) (Ke:Nat→Act→World→Prop) (Kr:Act→World→Prop) (l:List Oper) (env:kE) (w:World):Prop:=
 ∀ a,l.all gt=true→Has n a env→wpListIn (FW ro.r) 0 P ops (sA ro Kn Ke Kr) l a w
def mN (P:Program) (n:Fr) (env:kE) (o:Oper) (w:World) (r:Result Next):Prop:=∀ a,Has n a env→(execOp a.eval o).run P w=r
def hH (P:Program) (n:Fr) (env:kE) (o:Oper) (v:Value) (w:World):Prop:=mN P n env o w (.ok (.value v) w)
def nC (n:Fr) (env:kE) (ops:Array Oper) (o:Oper) (c:Bool):Prop:=∀ a,Has n a env→Region.wanted o (yielded ops a.tmps)=c
theorem Eq {ops:Array Oper} {o:Oper} {c:Bool} (hg:nC n env ops o c) (hc:c=true):nC n env ops o true:=hc▸hg
theorem bA {ops:Array Oper} {o:Oper} (hg:o.guard=none):nC n env ops o true:=fun _ _=>by simp[Region.wanted,hg]
theorem kz {id:Nat} {l:List Oper} (hn:l.all gt=true) (h:dm P ro n l.toArray Kn Ke Kr l env w):gG P ro n (.region id l.toArray false) Kn Ke Kr env w:=
 fun a ha=>wpIn_region_lit (h a hn ha)
section
variable {ops:Array Oper} {rest:List Oper} {o:Oper} {d:Nat} {v:Value} {w':World}
theorem aM (h:∀ a,Has n a env→Kn a w):dm P ro n ops Kn Ke Kr [] env w:=fun a _ ha=>wpListIn_nil (h a ha)
theorem pU (h:∀ a,gt o=true→Has n a env→qn P ro.r ops (sA ro Kn Ke Kr) o (fun a' w'=>∃ env',Has n a' env'∧dm P ro n ops Kn Ke Kr rest env' w') a w):dm P ro n ops Kn Ke Kr (o::rest) env w:=fun a hn ha=>by
 simp only[List.all_cons,Bool.and_eq_true]at hn
 have h1:=h a hn.1 ha
 refine wpListIn_step fun K hK=> ?_
 unfold qn at h1
 have hk:∀ a' w',(∃ env',Has n a' env'∧dm P ro n ops Kn Ke Kr rest env' w')→K a' w':=fun a' w' ⟨_,h2,h3⟩=>hK _ _ (h3 a' hn.2 h2)
 by_cases hw:Region.wanted o (yielded ops a.tmps)=true
 ·rw[if_pos hw]at h1 ⊢;exact Oper.wpIn_mono hk h1
 ·rw[if_neg hw]at h1 ⊢;exact⟨h1.1,hk _ _ h1.2⟩
theorem zK (hg:nC n env ops o true) (hd:o.dst=some d) (hr:mN P n env o w (.ok (.value v) w')) (h:dm P ro n ops Kn Ke Kr rest ((d,v)::env) w'):
  dm P ro n ops Kn Ke Kr (o::rest) env w:=pU fun a hn ha=>qN hn (hg a ha) (hr a ha) ⟨_,by rw[hd];exact ha.put d v,h⟩
theorem DG (hg:nC n env ops o true) (hd:o.dst=none) (hr:mN P n env o w (.ok .skip w')) (h:dm P ro n ops Kn Ke Kr rest env w'):
  dm P ro n ops Kn Ke Kr (o::rest) env w:=pU fun a hn ha=>tP hn (hg a ha) (hr a ha) ⟨_,by rw[hd];exact ha,h⟩
theorem AH (hg:nC n env ops o true) (hd:o.dst=some d) (hr:hH P n env o v w) (h:dm P ro n ops Kn Ke Kr rest ((d,v)::env) w):
  dm P ro n ops Kn Ke Kr (o::rest) env w:=zK hg hd hr h
theorem aB {f:FuncId} {args:Array Value} (hg:nC n env ops o true) (hd:o.dst=some d) (hr:mN P n env o w (.ok (.enter f args) w))
  (h:Calls P f args w fun e w'=>∃ v,e= .returned v∧dm P ro n ops Kn Ke Kr rest ((d,v)::env) w'):
  dm P ro n ops Kn Ke Kr (o::rest) env w:=pU fun a hn ha=>pB hn (hg a ha) (hr a ha) (h.mono fun e w' ⟨u,h1,h2⟩=>⟨u,h1,_,by rw[hd];exact ha.put d u,h2⟩)
theorem az {c:Bool} (hg:nC n env ops o c) (hd:o.dst=some d) (hr:c=true→hH P n env o v w) (h:dm P ro n ops Kn Ke Kr rest ((d,gv c v)::env) w):
  dm P ro n ops Kn Ke Kr (o::rest) env w:=pU fun a hn ha=>by
 cases c with
 | true=>exact qN hn (hg a ha) (hr rfl a ha) ⟨_,by rw[hd];exact ha.put d v,h⟩
 | false=>exact qO (hg a ha) ⟨_,by rw[hd];exact ha.put d undef,h⟩
theorem pT {f:FuncId} {args:Array Value} {c:Bool} (Ψ:Value→World→Prop) (hg:nC n env ops o c) (hd:o.dst=some d) (hr:c=true→mN P n env o w (.ok (.enter f args) w))
  (hc:c=true→Calls P f args w fun e w'=>∃ v,e= .returned v∧Ψ v w')
  (h:∀ v w',(c=true→Ψ v w')→(c=false→w'=w)→dm P ro n ops Kn Ke Kr rest ((d,gv c v)::env) w'):
  dm P ro n ops Kn Ke Kr (o::rest) env w:=pU fun a hn ha=>by
 cases c with
 | true=>exact pB hn (hg a ha) (hr rfl a ha) ((hc rfl).mono fun e w' ⟨u,h1,h2⟩=>⟨u,h1,_,by rw[hd];exact ha.put d u,h u w' (fun _=>h2) (fun e=>by cases e)⟩)
 | false=>exact qO (hg a ha) ⟨_,by rw[hd];exact ha.put d undef,h undef w (fun e=>by cases e) fun _=>rfl⟩
end
inductive Fl where
 | q
 | s
 | t
def Fl.solo:Fl→Bool
 | .q=>false
 | _=>true
inductive Tr where
 | n
 | c (p:Nat×Fl) (r:Tr)
 | two (i:Nat) (a:Tr) (j:Nat) (b:Tr)
 | three (i:Nat) (a:Tr) (j:Nat) (b:Tr) (k:Nat) (c:Tr)
 | four (i:Nat) (a:Tr) (j:Nat) (b:Tr) (k:Nat) (c:Tr) (l:Nat) (d:Tr)
def Tr.len:Tr→Nat
 | .n=>0
 | .c _ r=>r.len+1
 | .two _ a _ _=>a.len+1
 | .three _ a _ _ _ _=>a.len+1
 | .four _ a _ _ _ _ _ _=>a.len+1
def Tr.nums:Tr→List Nat
 | .n=>[]
 | .c p r=>p.1::r.nums
 | .two i a _ _=>i::a.nums
 | .three i a _ _ _ _=>i::a.nums
 | .four i a _ _ _ _ _ _=>i::a.nums
def Tr.plain:Tr→Bool
 | .c (_,.t) _=>false
 | _=>true
def dS (ops:Array Oper):Tr→Array Bool→Bool
 | .n,listed=>(Region.ready .any ops listed).isEmpty
 | .c (i,fq) r,listed=>
  (match fq with
   | .q=>(Region.ready .any ops listed).contains i&&Region.free .any ops listed i
   | .s=>(Region.ready .any ops listed)==[i]
   | .t=>(Region.ready .any ops listed).contains i)&&dS ops r (listed.setIfInBounds i true)&&r.plain
 | .two i a j b,listed=>(Region.ready .any ops listed)==[i,j]&&dS ops a (listed.setIfInBounds i true)&&dS ops b (listed.setIfInBounds j true)&&(a.len==b.len)&&a.plain&&b.plain
 | .three i a j b k c,listed=>(Region.ready .any ops listed)==[i,j,k]&&dS ops a (listed.setIfInBounds i true)&&dS ops b (listed.setIfInBounds j true)&&dS ops c (listed.setIfInBounds k true)&&(a.len==b.len)&&(a.len==c.len)&&a.plain&&b.plain&&c.plain
 | .four i a j b k c l d,listed=>(Region.ready .any ops listed)==[i,j,k,l]&&dS ops a (listed.setIfInBounds i true)&&dS ops b (listed.setIfInBounds j true)&&dS ops c (listed.setIfInBounds k true)&&dS ops d (listed.setIfInBounds l true)&&(a.len==b.len)&&(a.len==c.len)&&(a.len==d.len)&&a.plain&&b.plain&&c.plain&&d.plain
def plainOps (ops:Array Oper):Bool:=Region.noSelect ops&&ops.toList.all gt
theorem plainOps.nd {ops:Array Oper} (h:plainOps ops=true) (j:Nat) (o:Oper) (ho:ops[j]? =some o):gt o=true:=by
 simp only[plainOps,Bool.and_eq_true]at h
 exact List.all_eq_true.1 h.2 o (by rw[Array.mem_toList_iff];exact Array.mem_of_getElem? ho)
theorem plainOps.ns {ops:Array Oper} (h:plainOps ops=true):Region.noSelect ops=true:=by
 simp only[plainOps,Bool.and_eq_true]at h;exact h.1
structure Sn where
 x:List Nat
 now:World→Prop
def Sn.free (S:Sn) (l:Array Bool):Prop:=S.x.any (fun j=>l.getD j false)=false
def Sn.f (S:Sn) (l:Array Bool) (w:World):Prop:=S.free l→S.now w
def HQ (ops:Array Oper) (x:List Nat) (i:Nat):Bool:=x.all fun j=>j != i&&(match ops[j]? with | some o=>o.after.any fun e=>Region.binds .any e&&e.on==i | none=>false)
theorem EI {x:List Nat} {i:Nat} {l:Array Bool} (hx:x.contains i=false):x.any (fun j=>(l.setIfInBounds i true).getD j false)=x.any (fun j=>l.getD j false):=by
 induction x with
 | nil=>rfl
 | cons k x ih=>
  simp only[List.contains_cons,Bool.or_eq_false_iff]at hx
  have hne:i≠k:=by have:=hx.1;simpa using this
  rw[List.any_cons,List.any_cons,ih hx.2]
  congr 1
  simp only[Array.getD_eq_getD_getElem?]
  rw[Array.getElem?_setIfInBounds_ne hne]
theorem Sn.f_ne {S:Sn} {i:Nat} (hx:S.x.contains i=false) (l:Array Bool) (w:World):S.f (l.setIfInBounds i true) w↔S.f l w:=by
 unfold Sn.f Sn.free;rw[EI hx]
theorem Sn.free_ne {S:Sn} {i:Nat} (hx:S.x.contains i=false) {l:Array Bool} (h:S.free l):S.free (l.setIfInBounds i true):=by
 unfold Sn.free at *;rw[EI hx];exact h
theorem Hz {ops:Array Oper} {x:List Nat} {i j:Nat} {l:Array Bool} (h:HQ ops x i=true) (hj:j∈Region.ready .any ops l) (hi:l.getD i true=false):x.contains j=false:=by
 rw[Bool.eq_false_iff]
 intro hc
 have hc:j∈x:=by simpa using hc
 have h1:=List.all_eq_true.1 h j hc
 simp only[Bool.and_eq_true]at h1
 obtain⟨_,oj,hoj,hafter⟩:=mem_ready.1 hj
 rw[hoj]at h1
 obtain⟨e,he,h2⟩:=Array.any_eq_true'.1 h1.2
 simp only[Bool.and_eq_true,beq_iff_eq]at h2
 have h3:=hafter e he h2.1
 rw[h2.2]at h3
 rcases Nat.lt_or_ge i l.size with h' | h'
 ·simp[h']at h3 hi;rw[hi]at h3;cases h3
 ·simp[Array.getElem?_eq_none h']at h3
def mX (ops:Array Oper) (i:Nat) (Y:List Nat) (j:Nat):Bool:=j != i&&(match ops[j]? with | some o=>o.after.any fun e=>Region.binds .any e&&(e.on==i||Y.contains e.on) | none=>false)
def mM (ops:Array Oper) (i:Nat):List Nat→List Nat→List Nat
 | [],Y=>Y
 | j::r,Y=>mM ops i r (match mX ops i Y j with | true=>j::Y | false=>Y)
def yd (ops:Array Oper) (x:List Nat) (rest:Tr) (i:Nat):Bool:=x.all fun j=>(mM ops i rest.nums []).contains j
theorem ye {ops:Array Oper} {i j:Nat} {Y Y':List Nat} (hs:∀ y∈Y,y∈Y') (h:mX ops i Y j=true):mX ops i Y' j=true:=by
 unfold mX at *
 simp only[Bool.and_eq_true]at h ⊢
 refine⟨h.1,?_⟩
 have h2:=h.2
 cases ho:ops[j]? with
 | none=>rw[ho]at h2;exact h2
 | some o=>
  rw[ho]at h2
  obtain⟨e,he,h3⟩:=Array.any_eq_true'.1 h2
  refine Array.any_eq_true'.2 ⟨e,he,?_⟩
  simp only[Bool.and_eq_true,Bool.or_eq_true,List.contains_iff_mem]at h3 ⊢
  exact⟨h3.1,h3.2.imp id (hs _)⟩
theorem Br {ops:Array Oper} {i:Nat} (r:List Nat) (Y:List Nat):∀ y∈Y,y∈mM ops i r Y:=by
 induction r generalizing Y with
 | nil=>exact fun _ h=>h
 | cons j r ih=>
  intro y hy
  unfold mM
  split
  ·exact ih _ y (by simp[hy])
  ·exact ih _ y hy
theorem Ap {ops:Array Oper} {i:Nat} (r:List Nat) (Y Z:List Nat) (hZ:∀ y∈mM ops i r Y,y∈Z) (h:∀ y∈Y,mX ops i Z y=true):∀ y∈mM ops i r Y,mX ops i Z y=true:=by
 induction r generalizing Y with
 | nil=>exact h
 | cons j r ih=>
  cases hj:mX ops i Y j with
  | true=>
   simp only[mM,hj]at hZ ⊢
   refine ih (j::Y) hZ fun y hy=> ?_
   simp only[List.mem_cons]at hy
   rcases hy with rfl | hy
   ·exact ye (fun z hz=>hZ z (Br r _ z (by simp[hz]))) hj
   ·exact h y hy
  | false=>
   simp only[mM,hj]at hZ ⊢
   exact ih Y hZ h
theorem CW {ops:Array Oper} {i:Nat} (r:List Nat) (Y:List Nat):∀ y∈mM ops i r Y,y∈Y∨y∈r:=by
 induction r generalizing Y with
 | nil=>exact fun y h=> .inl h
 | cons j r ih=>
  unfold mM
  split
  ·intro y hy
   rcases ih _ y hy with h | h
   ·simp only[List.mem_cons]at h
    rcases h with rfl | h
    ·exact .inr (by simp)
    ·exact .inl h
   ·exact .inr (by simp[h])
  ·intro y hy
   rcases ih _ y hy with h | h
   ·exact .inl h
   ·exact .inr (by simp[h])
theorem m3 {ops:Array Oper} {l:Array Bool} {y:Nat} (hm:y∈Region.ready .any ops l):l.getD y false=false:=by
 have h2:=(mem_ready.1 hm).1
 rcases Nat.lt_or_ge y l.size with h' | h'
 ·simp[h']at h2 ⊢;exact h2
 ·simp[Array.getElem?_eq_none h']
theorem wx {ops:Array Oper} {r:Tr} {l:Array Bool} (h:dS ops r l=true) {y:Nat} (hy:y∈r.nums):l.getD y false=false:=by
 induction r generalizing l with
 | n=>simp[Tr.nums]at hy
 | c p r ih=>
  obtain⟨j,b⟩:=p
  simp only[dS,Bool.and_eq_true]at h
  have hm:j∈Region.ready .any ops l:=by
   have h1:=h.1.1
   cases b with
   | q=>simp only[Bool.and_eq_true,List.contains_iff_mem]at h1;exact h1.1
   | s=>simp only[beq_iff_eq]at h1;rw[h1];simp
   | t=>simp only[List.contains_iff_mem]at h1;exact h1
  by_cases e:y=j
  ·rw[e];exact m3 hm
  ·simp only[Tr.nums,List.mem_cons]at hy
   have:=ih h.1.2 (hy.resolve_left e)
   simp only[Array.getD_eq_getD_getElem?]at this ⊢
   rwa [Array.getElem?_setIfInBounds_ne (fun e'=>e e'.symm)]at this
 | two i a j b iha _=>
  simp only[dS,Bool.and_eq_true]at h
  by_cases e:y=i
  ·rw[e];refine m3 (ops:=ops) ?_
   have:=h.1.1.1.1.1;simp only[beq_iff_eq]at this;rw[this];simp
  ·simp only[Tr.nums,List.mem_cons]at hy
   have:=iha h.1.1.1.1.2 (hy.resolve_left e)
   simp only[Array.getD_eq_getD_getElem?]at this ⊢
   rwa [Array.getElem?_setIfInBounds_ne (fun e'=>e e'.symm)]at this
 | three i a j b k c iha _ _=>
  simp only[dS,Bool.and_eq_true]at h
  by_cases e:y=i
  ·rw[e];refine m3 (ops:=ops) ?_
   have:=h.1.1.1.1.1.1.1.1;simp only[beq_iff_eq]at this;rw[this];simp
  ·simp only[Tr.nums,List.mem_cons]at hy
   have:=iha h.1.1.1.1.1.1.1.2 (hy.resolve_left e)
   simp only[Array.getD_eq_getD_getElem?]at this ⊢
   rwa [Array.getElem?_setIfInBounds_ne (fun e'=>e e'.symm)]at this
 | four i a j b k c l d iha _ _ _=>
  simp only[dS,Bool.and_eq_true]at h
  by_cases e:y=i
  ·rw[e];refine m3 (ops:=ops) ?_
   have:=h.1.1.1.1.1.1.1.1.1.1.1;simp only[beq_iff_eq]at this;rw[this];simp
  ·simp only[Tr.nums,List.mem_cons]at hy
   have:=iha h.1.1.1.1.1.1.1.1.1.1.2 (hy.resolve_left e)
   simp only[Array.getD_eq_getD_getElem?]at this ⊢
   rwa [Array.getElem?_setIfInBounds_ne (fun e'=>e e'.symm)]at this
theorem CV {ops:Array Oper} {i j:Nat} {Y:List Nat} {l:Array Bool} (hY:∀ y∈Y,mX ops i Y y=true) (hp:∀ y∈Y,l.getD y false=false) (hj:j∈Region.ready .any ops l) (hi:l.getD i true=false):∀ y∈Y,(l.setIfInBounds j true).getD y false=false:=by
 intro y hy
 by_cases e:j=y
 ·subst e
  exfalso
  have h1:=hY j hy
  unfold mX at h1
  simp only[Bool.and_eq_true]at h1
  obtain⟨_,oj,hoj,hafter⟩:=mem_ready.1 hj
  rw[hoj]at h1
  obtain⟨e,he,h2⟩:=Array.any_eq_true'.1 h1.2
  simp only[Bool.and_eq_true,Bool.or_eq_true,beq_iff_eq,List.contains_iff_mem]at h2
  have h3:=hafter e he h2.1
  rcases h2.2 with h4 | h4
  ·rw[h4]at h3
   rcases Nat.lt_or_ge i l.size with h' | h'
   ·simp[h']at h3 hi;rw[hi]at h3;cases h3
   ·simp[Array.getElem?_eq_none h']at h3
  ·have h5:=hp _ h4
   rcases Nat.lt_or_ge e.on l.size with h' | h'
   ·simp[h']at h3 h5;rw[h5]at h3;cases h3
   ·simp[Array.getElem?_eq_none h']at h3
 ·have:=hp y hy
  simp only[Array.getD_eq_getD_getElem?]at this ⊢
  rw[Array.getElem?_setIfInBounds_ne e];exact this
def AnyT (P:Program) (ro:Option Nat) (ops:Array Oper) (Q:Exit→Act→World→Prop) (S:Array Bool→World→Prop):Tr→Array Bool→Act→World→Prop
 | .c (i,.t) r,listed,a,w=>rE P ro ops Q i (fun a' w'=>S (listed.setIfInBounds i true) w'∧Any P ro ops Q S r.len (listed.setIfInBounds i true) a' w') a w
 | t,listed,a,w=>Any P ro ops Q S t.len listed a w
def db (P:Program) (ro:Ro) (n:Fr) (ops:Array Oper) (Kn:Act→World→Prop) (Ke:Nat→Act→World→Prop) (Kr:Act→World→Prop) (S:Sn) (l:Tr) (env:kE) (w:World):Prop:=
 ∀ a listed,plainOps ops=true→dS ops l listed=true→S.free listed→Has n a env→S.now w→AnyT P ro.r ops (sA ro Kn Ke Kr) S.f l listed a w
theorem AnyT.any {P:Program} {ro:Option Nat} {ops:Array Oper} {Q:Exit→Act→World→Prop} {S:Array Bool→World→Prop} {t:Tr} {l:Array Bool} {a:Act} {w:World} (h:AnyT P ro ops Q S t l a w) (hp:t.plain=true):Any P ro ops Q S t.len l a w:=by
 unfold AnyT at h
 split at h
 ·cases hp
 ·exact h
theorem Ht {id:Nat} {ops:Array Oper} (S:Sn) (order:Tr) (hm:P.follows .mixedOrders=true) (hs:(plainOps ops&&dS ops order (Array.replicate ops.size false)&&(order.len==ops.size)&&order.plain)=true)
  (hS:S.now w.drew) (h:db P ro n ops Kn Ke Kr S order env w.drew):gG P ro n (.region id ops true) Kn Ke Kr env w:=fun a ha=>by
 simp only[Bool.and_eq_true,beq_iff_eq]at hs
 obtain⟨⟨⟨h1,h2⟩,h3⟩,h5⟩:=hs
 have hfree:S.free (Array.replicate ops.size false):=by
  unfold Sn.free
  rw[List.any_eq_false]
  intro j _
  rw[Array.getD_eq_getD_getElem?,Array.getElem?_replicate]
  split<;>simp
 have h4:=(h a _ h1 h2 hfree ha hS).any h5
 rw[h3]at h4
 exact wpIn_region_any hm (Ci _ _ _ _ h4)
section
variable {ops:Array Oper} {S:Sn} {rest:Tr} {fl:Fl} {o:Oper} {i d:Nat} {v:Value} {w':World}
theorem Hw (S':World→Prop) (hS:∀ w,S' w→S.now w) (hw:S' w) (h:db P ro n ops Kn Ke Kr ⟨S.x,S'⟩ rest env w):db P ro n ops Kn Ke Kr S rest env w:=by
 intro a listed h1 h2 hf ha _
 have h0:=h a listed h1 h2 hf ha hw
 have key:∀ m l a w,Any P ro.r ops (sA ro Kn Ke Kr) (Sn.f ⟨S.x,S'⟩) m l a w→Any P ro.r ops (sA ro Kn Ke Kr) S.f m l a w:=fun m l a w h=>
  ze (fun _=>True) (fun _ _ _=>trivial) (fun _ _ _ h3 h4=>hS _ (h3 h4)) _ _ _ _ trivial h
 unfold AnyT at h0 ⊢
 split
 ·exact wpOpIn_mono (fun a' w' h'=>⟨fun h4=>hS _ (h'.1 h4),key _ _ _ _ h'.2⟩) h0
 ·rename_i hne
  split at h0
  ·exact absurd rfl (hne _ _)
  ·exact key _ _ _ _ h0
theorem oq (h:∀ a,Has n a env→Kn a w):db P ro n ops Kn Ke Kr S .n env w:=fun a listed _ h2 _ ha _=>
 ⟨by simpa[dS,List.isEmpty_iff]using h2,h a ha⟩
theorem cj {α:Type} {T T':Tr} (E:α→kE) (J:α→World→Prop) (S':α→World→Sn)
  (later:∀ x w',J x w'→db P ro n ops Kn Ke Kr (S' x w') T (E x) w')
  (first:(∀ x w',J x w'→db P ro n ops Kn Ke Kr (S' x w') T (E x) w')→db P ro n ops Kn Ke Kr S T' env w):db P ro n ops Kn Ke Kr S T' env w:=first later
theorem aW {T:Tr} {e:kE} (h:db P ro n ops Kn Ke Kr S T e w) (hs:Sub e env):db P ro n ops Kn Ke Kr S T env w:=
 fun a listed h1 h2 hf ha hS=>h a listed h1 h2 hf (ha.sub hs) hS
theorem da {j:Nat} {x y:Tr} (hi:db P ro n ops Kn Ke Kr S (.c (i,.t) x) env w) (hj:db P ro n ops Kn Ke Kr S (.c (j,.t) y) env w):db P ro n ops Kn Ke Kr S (.two i x j y) env w:=fun a listed h1 h2 hf ha hS=>by
 simp only[dS,Bool.and_eq_true,beq_iff_eq]at h2
 obtain⟨⟨⟨⟨⟨hr,h3⟩,h4⟩,h5⟩,h6⟩,h7⟩:=h2
 have k1:=hi a listed h1 (by simp only[dS,Bool.and_eq_true];exact⟨⟨by rw[hr];simp,h3⟩,h6⟩) hf ha hS
 have k2:=hj a listed h1 (by simp only[dS,Bool.and_eq_true];exact⟨⟨by rw[hr];simp,h4⟩,h7⟩) hf ha hS
 refine And.intro (fun h0=>by rw[hr]at h0;cases h0) (fun k hk=> ?_)
 rw[hr]at hk
 simp only[List.mem_cons,List.not_mem_nil,or_false]at hk
 rcases hk with rfl | rfl
 ·exact k1
 ·have k3:rE P ro.r ops (sA ro Kn Ke Kr) k (fun a' w'=>S.f (listed.setIfInBounds k true) w'∧Any P ro.r ops (sA ro Kn Ke Kr) S.f y.len (listed.setIfInBounds k true) a' w') a w:=k2
  rw[← h5]at k3
  exact k3
theorem tw {j k:Nat} {x y z:Tr} (hi:db P ro n ops Kn Ke Kr S (.c (i,.t) x) env w) (hj:db P ro n ops Kn Ke Kr S (.c (j,.t) y) env w) (hk:db P ro n ops Kn Ke Kr S (.c (k,.t) z) env w):db P ro n ops Kn Ke Kr S (.three i x j y k z) env w:=fun a listed h1 h2 hf ha hS=>by
 simp only[dS,Bool.and_eq_true,beq_iff_eq]at h2
 obtain⟨⟨⟨⟨⟨⟨⟨⟨hr,h3⟩,h4⟩,h5⟩,e1⟩,e2⟩,h6⟩,h7⟩,h8⟩:=h2
 have k1:=hi a listed h1 (by simp only[dS,Bool.and_eq_true];exact⟨⟨by rw[hr];simp,h3⟩,h6⟩) hf ha hS
 have k2:=hj a listed h1 (by simp only[dS,Bool.and_eq_true];exact⟨⟨by rw[hr];simp,h4⟩,h7⟩) hf ha hS
 have k3:=hk a listed h1 (by simp only[dS,Bool.and_eq_true];exact⟨⟨by rw[hr];simp,h5⟩,h8⟩) hf ha hS
 refine And.intro (fun h0=>by rw[hr]at h0;cases h0) (fun q hq=> ?_)
 rw[hr]at hq
 simp only[List.mem_cons,List.not_mem_nil,or_false]at hq
 rcases hq with rfl | rfl | rfl
 ·exact k1
 ·have k4:rE P ro.r ops (sA ro Kn Ke Kr) q (fun a' w'=>S.f (listed.setIfInBounds q true) w'∧Any P ro.r ops (sA ro Kn Ke Kr) S.f y.len (listed.setIfInBounds q true) a' w') a w:=k2
  rw[← e1]at k4
  exact k4
 ·have k4:rE P ro.r ops (sA ro Kn Ke Kr) q (fun a' w'=>S.f (listed.setIfInBounds q true) w'∧Any P ro.r ops (sA ro Kn Ke Kr) S.f z.len (listed.setIfInBounds q true) a' w') a w:=k3
  rw[← e2]at k4
  exact k4
theorem oV {c:Bool} (hi:ops[i]? =some o) (hg:nC n env ops o c) (hd:o.dst=some d) (hr:c=true→∀ w',hH P n env o v w')
  (h:db P ro n ops Kn Ke Kr S rest ((d,gv c v)::env) w) (hx:S.x.contains i=false:=by rfl):db P ro n ops Kn Ke Kr S (.c (i,.q) rest) env w:=fun a listed h1 h2 hf ha hS=>by
 simp only[dS,Bool.and_eq_true]at h2
 obtain⟨⟨⟨h3,h4⟩,h5⟩,h8⟩:=h2
 refine x6 (v:=gv c v) hi (Region.noSelect_spec (plainOps.ns h1)) (plainOps.nd h1) BX (fun _=>True) (fun _ _ _ _ _=>trivial) (Sn.f_ne hx) _ listed a w (Region.free_spec hi h4) (by simpa using h3) trivial ?_ (fun _=>hS) ?_
 ·cases c with
  | true=>exact .inl ⟨hg a ha,fun w' _=>hr rfl w' a ha⟩
  | false=>exact .inr ⟨hg a ha,rfl⟩
 ·rw[hd]
  exact(h _ _ h1 h5 (Sn.free_ne hx hf) (ha.put d _) hS).any h8
theorem vn {c:Bool} (hi:ops[i]? =some o) (hg:nC n env ops o c) (hd:o.dst=some d) (hr:c=true→∀ w',S.now w'→hH P n env o v w')
  (hw:yd ops S.x rest i=true) (h:db P ro n ops Kn Ke Kr S rest ((d,gv c v)::env) w):db P ro n ops Kn Ke Kr S (.c (i,.q) rest) env w:=fun a listed h1 h2 hf ha hS=>by
 simp only[dS,Bool.and_eq_true]at h2
 obtain⟨⟨⟨h3,h4⟩,h5⟩,h8⟩:=h2
 have hY:=Ap (ops:=ops) (i:=i) rest.nums [] (mM ops i rest.nums []) (fun _ h=>h) (fun _ h=>by simp at h)
 have hXY:∀ j∈S.x,j∈mM ops i rest.nums []:=fun j hj=>by have:=List.all_eq_true.1 hw j hj;simpa using this
 have hx:S.x.contains i=false:=by
  rw[Bool.eq_false_iff];intro hc
  have:=hY i (hXY i (by simpa using hc))
  simp[mX]at this
 have hp0:∀ y∈mM ops i rest.nums [],listed.getD y false=false:=fun y hy=>by
  rcases CW rest.nums [] y hy with h | h
  ·simp at h
  ·have:=wx h5 h
   have hne:i≠y:=fun e=>by subst e;have:=hY i hy;simp[mX]at this
   simp only[Array.getD_eq_getD_getElem?]at this ⊢
   rwa [Array.getElem?_setIfInBounds_ne hne]at this
 have hfr:∀ l:Array Bool,(∀ y∈mM ops i rest.nums [],l.getD y false=false)→S.free l:=fun l hl=>by
  unfold Sn.free;rw[List.any_eq_false];intro j hj;rw[hl j (hXY j hj)];simp
 refine x6 (v:=gv c v) hi (Region.noSelect_spec (plainOps.ns h1)) (plainOps.nd h1) BX (fun l=>∀ y∈mM ops i rest.nums [],l.getD y false=false) (fun l j hl hj hi=>CV hY hl hj ?_) (Sn.f_ne hx) _ listed a w (Region.free_spec hi h4) (by simpa using h3) hp0 ?_ (fun _=>hS) ?_
 ·exact hi
 ·cases c with
  | true=>exact .inl ⟨hg a ha,fun w' ⟨_,h6,h7⟩=>hr rfl w' (h7 (hfr _ h6)) a ha⟩
  | false=>exact .inr ⟨hg a ha,rfl⟩
 ·rw[hd]
  exact(h _ _ h1 h5 (Sn.free_ne hx hf) (ha.put d _) hS).any h8
theorem l6 (hi:ops[i]? =some o) (hg:nC n env ops o true) (hd:o.dst=some d) (hr:∀ w',hH P n env o v w')
  (h:db P ro n ops Kn Ke Kr S rest ((d,v)::env) w) (hx:S.x.contains i=false:=by rfl):db P ro n ops Kn Ke Kr S (.c (i,.q) rest) env w:=
 oV (c:=true) hi hg hd (fun _=>hr) h hx
theorem ct (hi:ops[i]? =some o) (hg:nC n env ops o true) (hd:o.dst=some d) (hr:∀ w',S.now w'→hH P n env o v w')
  (hw:yd ops S.x rest i=true) (h:db P ro n ops Kn Ke Kr S rest ((d,v)::env) w):db P ro n ops Kn Ke Kr S (.c (i,.q) rest) env w:=
 vn (c:=true) hi hg hd (fun _=>hr) hw h
theorem ub (hi:ops[i]? =some o) (h:∀ a,gt o=true→Has n a env→qn P ro.r ops (sA ro Kn Ke Kr) o (fun a' w'=>S.now w'∧∃ env',Has n a' env'∧db P ro n ops Kn Ke Kr S rest env' w') a w) (hx:S.x.contains i=false:=by rfl) (hfl:fl.solo=true:=by rfl):db P ro n ops Kn Ke Kr S (.c (i,fl) rest) env w:=fun a listed h1 h2 hf ha _=>by
 simp only[dS,Bool.and_eq_true]at h2
 have T:rE P ro.r ops (sA ro Kn Ke Kr) i (fun a' w'=>S.f (listed.setIfInBounds i true) w'∧Any P ro.r ops (sA ro Kn Ke Kr) S.f rest.len (listed.setIfInBounds i true) a' w') a w:=
  wpOpIn_mono (fun a' w' ⟨hS,env',h3,h4⟩=>⟨fun _=>hS,(h4 _ _ h1 h2.1.2 (Sn.free_ne hx hf) h3 hS).any h2.2⟩) (yh hi (h a (plainOps.nd h1 _ _ hi) ha))
 cases fl with
 | q=>cases hfl
 | t=>exact T
 | s=>
  have hr:Region.ready .any ops listed=[i]:=by simpa using h2.1.1
  refine And.intro (fun h0=>by rw[hr]at h0;cases h0) (fun j hj=> ?_)
  rw[hr]at hj
  simp only[List.mem_singleton]at hj
  subst hj
  exact T
theorem FD {S2:World→Prop} (hx:S.x.contains i=true) (hw:S2 w) (hin:Nat.blt i ops.size=true) (h:db P ro n ops Kn Ke Kr ⟨[],S2⟩ (.c (i,.s) rest) env w):db P ro n ops Kn Ke Kr S (.c (i,.s) rest) env w:=fun a listed h1 h2 _ ha _=>by
 have h3:Any P ro.r ops (sA ro Kn Ke Kr) (Sn.f ⟨[],S2⟩) (rest.len+1) listed a w:=h a listed h1 h2 rfl ha hw
 simp only[dS,Bool.and_eq_true]at h2
 have hr:Region.ready .any ops listed=[i]:=by simpa using h2.1.1
 refine And.intro (fun h0=>by rw[hr]at h0;cases h0) (fun j hj=> ?_)
 have h4:=h3.2 j hj
 rw[hr]at hj
 simp only[List.mem_singleton]at hj
 subst hj
 have hun:=(mem_ready.1 (show j∈Region.ready .any ops listed by rw[hr];simp)).1
 have hlt:j<listed.size:=by
  rcases Nat.lt_or_ge j listed.size with h' | h'
  ·exact h'
  ·simp[Array.getElem?_eq_none h']at hun
 have _:=hin
 refine wpOpIn_mono (fun a' w' ⟨_,h5⟩=> ?_) h4
 have hmem:j∈S.x:=by simpa using hx
 have key:∀ l:Array Bool,l.getD j false=true→∀ w,¬ S.free l∨S.f l w:=fun l hl w=> .inl fun hfr=>by
  unfold Sn.free at hfr
  rw[List.any_eq_false]at hfr
  exact hfr j hmem hl
 have hset:(listed.setIfInBounds j true).getD j false=true:=by simp[hlt]
 refine⟨fun hfr=>absurd hfr ((key _ hset w').elim id fun h6=>fun hfr=>by unfold Sn.free at hfr;rw[List.any_eq_false]at hfr;exact hfr j hmem hset),?_⟩
 refine ze (fun l=>l.getD j false=true) (fun l i hl=> ?_) (fun l w hl _ hfr=> ?_) _ _ _ _ hset h5
 ·by_cases e:i=j
  ·subst e
   have:i<l.size:=by
    rcases Nat.lt_or_ge i l.size with h' | h'
    ·exact h'
    ·simp[Array.getElem?_eq_none h']at hl
   simp[this]
  ·simp only[Array.getD_eq_getD_getElem?]at hl ⊢
   rw[Array.getElem?_setIfInBounds_ne e];exact hl
 ·unfold Sn.free at hfr;rw[List.any_eq_false]at hfr;exact absurd hl (hfr j hmem)
theorem bn (hi:ops[i]? =some o) (hg:nC n env ops o true) (hd:o.dst=some d) (hr:mN P n env o w (.ok (.value v) w')) (hS':S.now w')
  (h:db P ro n ops Kn Ke Kr S rest ((d,v)::env) w') (hx:S.x.contains i=false:=by rfl) (hfl:fl.solo=true:=by rfl):db P ro n ops Kn Ke Kr S (.c (i,fl) rest) env w:=
 ub (hfl:=hfl) hi (fun a hn ha=>qN hn (hg a ha) (hr a ha) ⟨hS',_,by rw[hd];exact ha.put d v,h⟩) hx
theorem Hv (hi:ops[i]? =some o) (hg:nC n env ops o true) (hd:o.dst=none) (hr:mN P n env o w (.ok .skip w')) (hS':S.now w')
  (h:db P ro n ops Kn Ke Kr S rest env w') (hx:S.x.contains i=false:=by rfl) (hfl:fl.solo=true:=by rfl):db P ro n ops Kn Ke Kr S (.c (i,fl) rest) env w:=
 ub (hfl:=hfl) hi (fun a hn ha=>tP hn (hg a ha) (hr a ha) ⟨hS',_,by rw[hd];exact ha,h⟩) hx
theorem EK {f:FuncId} {args:Array Value} (hi:ops[i]? =some o) (hg:nC n env ops o true) (hd:o.dst=some d) (hr:mN P n env o w (.ok (.enter f args) w))
  (h:Calls P f args w fun e w'=>∃ v,e= .returned v∧S.now w'∧db P ro n ops Kn Ke Kr S rest ((d,v)::env) w') (hx:S.x.contains i=false:=by rfl) (hfl:fl.solo=true:=by rfl):db P ro n ops Kn Ke Kr S (.c (i,fl) rest) env w:=
 ub (hfl:=hfl) hi (fun a hn ha=>pB hn (hg a ha) (hr a ha) (h.mono fun e w' ⟨u,h1,h2,h3⟩=>⟨u,h1,h2,_,by rw[hd];exact ha.put d u,h3⟩)) hx
theorem FE {f:FuncId} {args:Array Value} {c:Bool} (Ψ:Value→World→Prop) (hi:ops[i]? =some o) (hg:nC n env ops o c) (hd:o.dst=some d) (hr:c=true→mN P n env o w (.ok (.enter f args) w))
  (hc:c=true→Calls P f args w fun e w'=>∃ v,e= .returned v∧S.now w'∧Ψ v w') (hSw:S.now w)
  (h:∀ v w',S.now w'→(c=true→Ψ v w')→(c=false→w'=w)→db P ro n ops Kn Ke Kr S rest ((d,gv c v)::env) w') (hx:S.x.contains i=false:=by rfl) (hfl:fl.solo=true:=by rfl):db P ro n ops Kn Ke Kr S (.c (i,fl) rest) env w:=
 ub (hfl:=hfl) hi (fun a hn ha=>by
  cases c with
  | true=>exact pB hn (hg a ha) (hr rfl a ha) ((hc rfl).mono fun e w' ⟨u,h1,h2,h3⟩=>⟨u,h1,h2,_,by rw[hd];exact ha.put d u,h u w' h2 (fun _=>h3) (fun e=>by cases e)⟩)
  | false=>exact qO (hg a ha) ⟨hSw,_,by rw[hd];exact ha.put d undef,h undef w hSw (fun e=>by cases e) fun _=>rfl⟩) hx
end
section
variable {ops:Array Oper} {o:Oper} {t j:Nat} {b c:Bool}
theorem pQ {a:Act} (ha:Has n a env) (hj:(ops[j]?).bind (·.dst)=some t) {v:Value} (hl:look env t=some v) (ht:Nat.blt t n.n=true):
  yielded ops a.tmps j=match v with | .bool b=>some b | _=>none:=by
 have hlt:t<n.n:=by simpa[Nat.blt_eq]using ht
 have h:=ha.rd t v hl hlt
 have hs:a.tmps[t]? =some v:=by
  have:t<a.tmps.size:=by rw[ha.sz];exact hlt
  rw[Array.getD_eq_getD_getElem?,Array.getElem?_eq_getElem this]at h
  rw[Array.getElem?_eq_getElem this]
  simpa using h
 unfold yielded
 rw[hj]
 simp only[Option.bind_some,hs]
 cases v<;>rfl
theorem aT (hg:o.guard=some (j,true)) (hj:(ops[j]?).bind (·.dst)=some t) (hl:look env t=some (.bool b)) (ht:Nat.blt t n.n=true):nC n env ops o b:=fun a ha=>by
 simp only[Region.wanted,hg,pQ ha hj hl ht];cases b<;>rfl
theorem cq (hg:o.guard=some (j,false)) (hj:(ops[j]?).bind (·.dst)=some t) (hl:look env t=some (.bool b)) (ht:Nat.blt t n.n=true):nC n env ops o (!b):=fun a ha=>by
 simp only[Region.wanted,hg,pQ ha hj hl ht];cases b<;>rfl
theorem iy (hg:o.guard=some (j,true)) (hj:(ops[j]?).bind (·.dst)=some t) (hl:look env t=some (gv c (.bool b))) (ht:Nat.blt t n.n=true):nC n env ops o (c&&b):=fun a ha=>by
 simp only[Region.wanted,hg,pQ ha hj hl ht];cases c<;>cases b<;>rfl
theorem gP (hg:o.guard=some (j,false)) (hj:(ops[j]?).bind (·.dst)=some t) (hl:look env t=some (gv c (.bool b))) (ht:Nat.blt t n.n=true):nC n env ops o (c&& !b):=fun a ha=>by
 simp only[Region.wanted,hg,pQ ha hj hl ht];cases c<;>cases b<;>rfl
end
section
variable {o:Oper} {x y z:Operand} {t t':TypeId} {k k':IntKind} {p q:Int} {b c:Bool} {v u:Value}
theorem ft (ho:o.op= .move x) (hx:Ev n env x v):hH P n env o v w:=fun a ha=>by simp[execOp,ho,hx a ha]
theorem cy (ho:o.op= .assign x) (hx:Ev n env x v):hH P n env o v w:=fun a ha=>by simp[execOp,ho,hx a ha]
theorem rG (ho:o.op= .pick x y (.const (.bool false))) (hx:Ev n env x (.bool b)) (hy:Ev n env y (gv b (.bool c))):hH P n env o (.bool (b&&c)) w:=fun a ha=>by
 simp only[execOp,ho,hx a ha,hy a ha];cases b<;>simp[asBool,gv,Act.eval]
theorem ya (ho:o.op= .pick x (.const (.bool true)) y) (hx:Ev n env x (.bool b)) (hy:Ev n env y (gv (!b) (.bool c))):hH P n env o (.bool (b||c)) w:=fun a ha=>by
 simp only[execOp,ho,hx a ha,hy a ha];cases b<;>simp[asBool,gv,Act.eval]
theorem vq {d:Bool} (ho:o.op= .pick x y (.const (.bool false))) (hd:d=true) (hx:Ev n env x (gv d (.bool b))) (hy:Ev n env y (gv (d&&b) (.bool c))):hH P n env o (.bool (b&&c)) w:=by
 subst hd;exact rG ho hx hy
theorem zn {d:Bool} (ho:o.op= .pick x (.const (.bool true)) y) (hd:d=true) (hx:Ev n env x (gv d (.bool b))) (hy:Ev n env y (gv (d&& !b) (.bool c))):hH P n env o (.bool (b||c)) w:=by
 subst hd;exact ya ho hx hy
theorem xM (ho:o.op= .unOp .not t x) (hx:Ev n env x (.bool b)):hH P n env o (.bool (!b)) w:=fun a ha=>by
 simp only[execOp,ho,hx a ha];simp[go_sem]
theorem Dk (ho:o.op= .unOp .neg t x) (hx:Ev n env x (.int k p)):hH P n env o (.int k (k.wrap (-p))) w:=fun a ha=>by
 simp only[execOp,ho,hx a ha];simp[Op.unary,go_sem]
theorem ji {op:BinOp} {r:Value} (ho:o.op= .binOp op t x y t') (hx:Ev n env x v) (hy:Ev n env y u) (hr:(binOp op t v u).run P w= .ok r w) (hg:(eqGuard op t x y v u).run P w= .ok () w):hH P n env o r w:=fun a ha=>by
 simp only[execOp,ho,hx a ha,hy a ha];simp[hr,hg]
end
end
end Go.Vc
