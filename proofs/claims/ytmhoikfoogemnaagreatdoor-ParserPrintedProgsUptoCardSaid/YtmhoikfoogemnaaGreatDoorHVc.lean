import Derived.Test.YtmhoikfoogemnaaGreatDoorHOrd
import Derived.Tactics
import Derived.WalkKit
import Derived.WalkLawsBesides
import Derived.WalkSpells
namespace Go.Vc
open Go Go.RowKit
abbrev kW:=List (Nat×Value)
structure Fr where
 n:Nat
 ds:List Nat:=[]
def Ed (ds:List Nat):List Deferred:=ds.map λr=> { target:= .collected r,args:=#[] }
def look:kW→Nat→Option Value
 | [],_=>none
 | (k,v)::r,t=>match Nat.beq k t with | true=>some v | false=>look r t
structure Has (n:Fr) (a:Act) (env:kW):Prop where
 df:a.defers=Ed n.ds
 sz:a.tmps.size=n.n
 rd:∀ t v,look env t=some v→t<n.n→a.tmps.getD t undef=v
def Ev (n:Fr) (env:kW) (x:Operand) (v:Value):Prop:=∀ a,Has n a env→a.eval x=v
theorem aT {n:Fr} {env:kW} {t:Nat} {v:Value} (h:look env t=some v) (ht:Nat.blt t n.n=true):Ev n env (.tmp t) v:=
 λ_ ha=>ha.rd t v h (by simpa[Nat.blt_eq]using ht)
theorem ah {n:Fr} {env:kW} {v:Value} :Ev n env (.const v) v:=λ_ _=>rfl
theorem Hp {n:Fr} {env:kW} {f:FuncId} :Ev n env (.func f) (.func (.func f) #[] #[]):=λ_ _=>rfl
theorem Ib {n:Fr} {env:kW} {g:Nat} :Ev n env (.global g) (.pointer (some ⟨g,0,none⟩)):=λ_ _=>rfl
def gv (c:Bool) (v:Value):Value:=match c with | true=>v | false=>undef
theorem OV {c:Bool} {v:Value} (h:c=true):gv c v=v:=by subst h;rfl
theorem J0 {c:Bool} {v:Value} (h:c=false):gv c v=undef:=by subst h;rfl
theorem aI {n:Fr} {env:kW} {x:Operand} {c:Bool} {v:Value} (h:Ev n env x (gv c v)) (hc:c=true):Ev n env x v:=
 λa ha=>(h a ha).trans (OV hc)
theorem Has.put {n:Fr} {a:Act} {env:kW} (h:Has n a env) (d:Nat) (v:Value):Has n (a.put (some d) v) ((d,v)::env):=by
 refine⟨h.df,by simp[Act.put,h.sz],λt u hl ht=>?_⟩
 simp only[look]at hl
 simp only[Act.put]
 by_cases e:d=t
 ·subst e
  simp at hl
  subst hl
  simp[Array.getD_eq_getD_getElem?,h.sz,ht]
 ·have hb:Nat.beq d t=false:=by
   rw[Bool.eq_false_iff];intro hc;exact e (Nat.eq_of_beq_eq_true hc)
  rw[hb]at hl
  simp only at hl
  have:=h.rd t u hl ht
  simp only[Array.getD_eq_getD_getElem?]at this ⊢
  rw[Array.getElem?_setIfInBounds_ne e]
  exact this
def Sub:kW→kW→Prop
 | [],_=>True
 | (t,v)::r,env=>look env t=some v∧Sub r env
theorem Sub.spec {e env:kW} (h:Sub e env):∀ t v,look e t=some v→look env t=some v:=by
 induction e with
 | nil=>intro t v h;cases h
 | cons p r ih=>
  obtain⟨k,u⟩:=p
  obtain⟨h1,h2⟩:=h
  intro t v hl
  simp only[look]at hl
  cases hb:Nat.beq k t with
  | true=>
   rw[hb]at hl
   injection hl with hl
   subst hl
   rw[← Nat.eq_of_beq_eq_true hb]
   exact h1
  | false=>
   rw[hb]at hl
   exact ih h2 t v hl
theorem Has.sub {n:Fr} {a:Act} {e env:kW} (h:Has n a env) (hs:Sub e env):Has n a e:=
 ⟨h.df,h.sz,λt v hl ht=>h.rd t v (hs.spec t v hl) ht⟩
structure Ro where
 r:Option Nat
 kp:List PanicEntry→World→Prop
def Ro.plain:Ro:=⟨none,λ_ _=>False⟩
def Ro.rnd (l:Nat):Ro:=⟨some l,λ_ _=>False⟩
def Ro.pan (K:Ending→World→Prop):Ro:=⟨none,λch w=>K (.panicked ch) w⟩
theorem fB {K:Ending→World→Prop} {ch:List PanicEntry} {w:World} (h:K (.panicked ch) w):(Ro.pan K).kp ch w:=h
def vD (ro:Ro) (Kn:Act→World→Prop) (Ke:Nat→Act→World→Prop) (Kr:Act→World→Prop):Exit→Act→World→Prop
 | .normal,a,w=>Kn a w
 | .exit id,a,w=>Ke id a w
 | .ret,a,w=>Kr a w
 | .panic ch,a,w=>a.defers=[]∧ro.kp ch w
 | _,_,_=>False
def gH (P:Program) (ro:Ro) (n:Fr) (c:Code) (Kn:Act→World→Prop) (Ke:Nat→Act→World→Prop) (Kr:Act→World→Prop) (env:kW) (w:World):Prop:=
 ∀ a,Has n a env→Code.wpIn (FW ro.r) 0 P c (vD ro Kn Ke Kr) a w
section
variable {P:Program} {ro:Ro} {n:Fr} {Kn:Act→World→Prop} {Ke:Nat→Act→World→Prop} {Kr:Act→World→Prop} {env:kW} {w:World}
theorem Jo (a:Act) (d:Option Nat) (v:Value):(a.put d v).defers=a.defers:=by cases d<;>rfl
theorem G7:∀ c a d v w,vD ro Kn Ke Kr (.panic c) (a.put d v) w→vD ro Kn Ke Kr (.panic c) a w:=λc a d v w ⟨h1,h2⟩=>⟨by rw[← h1,Jo],h2⟩
theorem JH (K:Act→World→Prop):Exit.then K (vD ro Kn Ke Kr)=vD ro K Ke Kr:=by
 funext e a w;cases e<;>rfl
theorem aj {x y:Code} (h:gH P ro n x (λa w=>Code.wpIn (FW ro.r) 0 P y (vD ro Kn Ke Kr) a w) Ke Kr env w):gH P ro n (.seq x y) Kn Ke Kr env w:=
 λa ha=>wpIn_seq (by rw[JH];exact h a ha)
theorem aZ (h:∀ a,Has n a env→Kn a w):gH P ro n .skip Kn Ke Kr env w:=λa ha=>wpIn_skip (h a ha)
theorem aO (h:∀ a,Has n a env→Kr a w):gH P ro n .ret Kn Ke Kr env w:=λa ha=>wpIn_ret (h a ha)
theorem bl {id:Nat} (h:∀ a,Has n a env→Ke id a w):gH P ro n (.exit id) Kn Ke Kr env w:=λa ha=>wpIn_exit (h a ha)
def Pu (id:Nat) (Kn:Act→World→Prop) (Ke:Nat→Act→World→Prop) (k:Nat) (a:Act) (w:World):Prop:=
 match Nat.beq k id with
 | true=>Kn a w
 | false=>Ke k a w
theorem mB {id:Nat} {c:Code} (h:gH P ro n c Kn (Pu id Kn Ke) Kr env w):gH P ro n (.block id c) Kn Ke Kr env w:=
 λa ha=>wpIn_block (by
  refine wpIn_mono (h a ha) λe a w q=>?_
  cases e with
  | exit k=>
   simp only[Exit.inBlock]
   simp only[vD,Pu]at q
   cases hb:Nat.beq k id with
   | true=>rw[hb]at q;rw[if_pos (Nat.eq_of_beq_eq_true hb)];exact q
   | false=>rw[hb]at q;rw[if_neg (λe=>by subst e;simp at hb)];exact q
  | _=>exact q)
theorem sO {c:Operand} {x y:Code} {b:Bool} (hc:Ev n env c (.bool b)) (ht:b=true→gH P ro n x Kn Ke Kr env w) (hf:b=false→gH P ro n y Kn Ke Kr env w):
  gH P ro n (.cond c x y) Kn Ke Kr env w:=
 λa ha=>wpIn_cond_split (hc a ha) (λh=>ht h a ha) (λh=>hf h a ha)
theorem QK {c:Code} {e:kW} (hs:Sub e env) (h:gH P ro n c Kn Ke Kr e w):gH P ro n c Kn Ke Kr env w:=
 λa ha=>h a (ha.sub hs)
theorem Co (Q:Nat→Prop) (h:∃ m,Q m):∃ m,Q m∧∀ k,Q k→m≤k:=by
 obtain⟨m,hm⟩:=h
 induction m using Nat.strongRecOn with
 | _ m ih=>
  by_cases hc:∃ k,k<m∧Q k
  ·obtain⟨k,hk,hq⟩:=hc
   exact ih k hk hq
  ·exact⟨m,hm,λk hk=>Nat.le_of_not_lt λhlt=>hc ⟨k,hlt,hk⟩⟩
open Classical in
noncomputable def ph (Q:Nat→Prop):Nat:=if h:∃ m,Q m∧∀ k,Q k→m≤k then Classical.choose h else 0
theorem yW (Q:Nat→Prop) (h:∃ m,Q m):Q (ph Q)∧∀ k,Q k→ph Q≤k:=by
 have h':=Co Q h
 unfold ph
 rw[dif_pos h']
 exact Classical.choose_spec h'
def KB {α:Type} (n:Fr) (E:α→kW) (I:α→World→Prop) (μ:α→World→Nat) (m:Nat) (a:Act) (w:World):Prop:=∃ x,Has n a (E x)∧I x w∧μ x w<m
def KD {α:Type} (N:α→Fr) (E:α→kW) (J:α→World→Prop) (a:Act) (w:World):Prop:=∃ x,Has (N x) a (E x)∧J x w
theorem bk {c:Code} {α:Type} (I:α→World→Prop) (μ:α→World→Nat) (E:α→kW) (x0:α) (h0:I x0 w) (hE:Sub (E x0) env)
  (round:∀ x w,I x w→gH P ro n c (KB n E I μ (μ x w)) Ke Kr (E x) w):gH P ro n (.loop c) Kn Ke Kr env w:=by
 intro a ha
 refine wpIn_loop (λa w=>∃ x,Has n a (E x)∧I x w) (λa w=>ph λm=>∃ x,Has n a (E x)∧I x w∧μ x w=m) ⟨x0,ha.sub hE,h0⟩ ?_
 rintro a w ⟨y,hy,hIy⟩
 obtain⟨⟨x,hx,hIx,hm⟩,_⟩:=yW (λm=>∃ x,Has n a (E x)∧I x w∧μ x w=m) ⟨_,y,hy,hIy,rfl⟩
 refine wpIn_mono (round x w hIx a hx) λe a' w' q=>?_
 cases e with
 | normal=>
  obtain⟨x',hx',hI',hlt⟩:=q
  refine⟨⟨x',hx',hI'⟩,?_⟩
  refine Nat.lt_of_le_of_lt ((yW (λm=>∃ x,Has n a' (E x)∧I x w'∧μ x w'=m) ⟨_,x',hx',hI',rfl⟩).2 _ ⟨x',hx',hI',rfl⟩) ?_
  rw[← hm]
  exact hlt
 | exit id=>exact q
 | ret=>exact q
 | goto l=>exact q.elim
 | panic ch=>exact q
 | outgrown=>exact q.elim
def dD (P:Program) (ro:Ro) (n:Fr) (ops:Array Oper) (Kn:Act→World→Prop) (Ke:Nat→Act→World→Prop) (Kr:Act→World→Prop) (l:List Oper) (env:kW) (w:World):Prop:=
 ∀ a,l.all gu=true→Has n a env→wpListIn (FW ro.r) 0 P ops (vD ro Kn Ke Kr) l a w
def nA (P:Program) (n:Fr) (env:kW) (o:Oper) (w:World) (r:Result Next):Prop:=∀ a,Has n a env→(execOp a.eval o).run P w=r
def hH (P:Program) (n:Fr) (env:kW) (o:Oper) (v:Value) (w:World):Prop:=nA P n env o w (.ok (.value v) w)
def oC (n:Fr) (env:kW) (ops:Array Oper) (o:Oper) (c:Bool):Prop:=∀ a,Has n a env→Region.wanted o (yielded ops a.tmps)=c
theorem J1 {ops:Array Oper} {o:Oper} {c:Bool} (hg:oC n env ops o c) (hc:c=true):oC n env ops o true:=hc▸hg
theorem bD {ops:Array Oper} {o:Oper} (hg:o.guard=none):oC n env ops o true:=λ_ _=>by simp[Region.wanted,hg]
theorem ip {id:Nat} {l:List Oper} (hn:l.all gu=true) (h:dD P ro n l.toArray Kn Ke Kr l env w):gH P ro n (.region id l.toArray false) Kn Ke Kr env w:=
 λa ha=>wpIn_region_lit (h a hn ha)
section
variable {ops:Array Oper} {rest:List Oper} {o:Oper} {d:Nat} {v:Value} {w':World}
theorem aG (h:∀ a,Has n a env→Kn a w):dD P ro n ops Kn Ke Kr [] env w:=λa _ ha=>wpListIn_nil (h a ha)
theorem rV (h:∀ a,gu o=true→Has n a env→sS P ro.r ops (vD ro Kn Ke Kr) o (λa' w'=>∃ env',Has n a' env'∧dD P ro n ops Kn Ke Kr rest env' w') a w):dD P ro n ops Kn Ke Kr (o::rest) env w:=λa hn ha=>by
 simp only[List.all_cons,Bool.and_eq_true]at hn
 have h1:=h a hn.1 ha
 refine wpListIn_step λK hK=>?_
 unfold sS at h1
 have hk:∀ a' w',(∃ env',Has n a' env'∧dD P ro n ops Kn Ke Kr rest env' w')→K a' w':=λa' w' ⟨_,h2,h3⟩=>hK _ _ (h3 a' hn.2 h2)
 by_cases hw:Region.wanted o (yielded ops a.tmps)=true
 ·rw[if_pos hw]at h1 ⊢;exact Oper.wpIn_mono hk h1
 ·rw[if_neg hw]at h1 ⊢;exact⟨h1.1,hk _ _ h1.2⟩
theorem DX (hg:oC n env ops o true) (hd:o.dst=some d) (hr:nA P n env o w (.ok (.value v) w')) (h:dD P ro n ops Kn Ke Kr rest ((d,v)::env) w'):
  dD P ro n ops Kn Ke Kr (o::rest) env w:=rV λa hn ha=>tO hn (hg a ha) (hr a ha) ⟨_,by rw[hd];exact ha.put d v,h⟩
theorem Nv (hg:oC n env ops o true) (hd:o.dst=none) (hr:nA P n env o w (.ok .skip w')) (h:dD P ro n ops Kn Ke Kr rest env w'):
  dD P ro n ops Kn Ke Kr (o::rest) env w:=rV λa hn ha=>wX hn (hg a ha) (hr a ha) ⟨_,by rw[hd];exact ha,h⟩
theorem E6 (hg:oC n env ops o true) (hd:o.dst=some d) (hr:hH P n env o v w) (h:dD P ro n ops Kn Ke Kr rest ((d,v)::env) w):
  dD P ro n ops Kn Ke Kr (o::rest) env w:=DX hg hd hr h
theorem bf {f:FuncId} {args:Array Value} (hg:oC n env ops o true) (hd:o.dst=some d) (hr:nA P n env o w (.ok (.enter f args) w))
  (h:Calls P f args w λe w'=>∃ v,e= .returned v∧dD P ro n ops Kn Ke Kr rest ((d,v)::env) w'):
  dD P ro n ops Kn Ke Kr (o::rest) env w:=rV λa hn ha=>rB hn (hg a ha) (hr a ha) (h.mono λe w' ⟨u,h1,h2⟩=>⟨u,h1,_,by rw[hd];exact ha.put d u,h2⟩)
theorem aw {c:Bool} (hg:oC n env ops o c) (hd:o.dst=some d) (hr:c=true→hH P n env o v w) (h:dD P ro n ops Kn Ke Kr rest ((d,gv c v)::env) w):
  dD P ro n ops Kn Ke Kr (o::rest) env w:=rV λa hn ha=>by
 cases c with
 | true=>exact tO hn (hg a ha) (hr rfl a ha) ⟨_,by rw[hd];exact ha.put d v,h⟩
 | false=>exact tP (hg a ha) ⟨_,by rw[hd];exact ha.put d undef,h⟩
theorem BT {f:FuncId} {args:Array Value} {c:Bool} (Ψ:Value→World→Prop) (hg:oC n env ops o c) (hd:o.dst=some d) (hr:c=true→nA P n env o w (.ok (.enter f args) w))
  (hc:c=true→Calls P f args w λe w'=>∃ v,e= .returned v∧Ψ v w')
  (h:∀ v w',(c=true→Ψ v w')→(c=false→w'=w)→dD P ro n ops Kn Ke Kr rest ((d,gv c v)::env) w'):
  dD P ro n ops Kn Ke Kr (o::rest) env w:=rV λa hn ha=>by
 cases c with
 | true=>exact rB hn (hg a ha) (hr rfl a ha) ((hc rfl).mono λe w' ⟨u,h1,h2⟩=>⟨u,h1,_,by rw[hd];exact ha.put d u,h u w' (λ_=>h2) (λe=>by cases e)⟩)
 | false=>exact tP (hg a ha) ⟨_,by rw[hd];exact ha.put d undef,h undef w (λe=>by cases e) λ_=>rfl⟩
end
inductive Fl where
 | q
 | s
 | t
def Fl.solo:Fl→Bool
 | .q=>false
 | _=>true
inductive Tr where
 | n
 | c (p:Nat×Fl) (r:Tr)
 | two (i:Nat) (a:Tr) (j:Nat) (b:Tr)
 | three (i:Nat) (a:Tr) (j:Nat) (b:Tr) (k:Nat) (c:Tr)
 | four (i:Nat) (a:Tr) (j:Nat) (b:Tr) (k:Nat) (c:Tr) (l:Nat) (d:Tr)
def Tr.len:Tr→Nat
 | .n=>0
 | .c _ r=>r.len+1
 | .two _ a _ _=>a.len+1
 | .three _ a _ _ _ _=>a.len+1
 | .four _ a _ _ _ _ _ _=>a.len+1
def Tr.nums:Tr→List Nat
 | .n=>[]
 | .c p r=>p.1::r.nums
 | .two i a _ _=>i::a.nums
 | .three i a _ _ _ _=>i::a.nums
 | .four i a _ _ _ _ _ _=>i::a.nums
def Tr.plain:Tr→Bool
 | .c (_,.t) _=>false
 | _=>true
def d6 (ops:Array Oper):Tr→Array Bool→Bool
 | .n,listed=>(Region.ready .any ops listed).isEmpty
 | .c (i,fq) r,listed=>
  (match fq with
   | .q=>(Region.ready .any ops listed).contains i&&Region.free .any ops listed i
   | .s=>(Region.ready .any ops listed)==[i]
   | .t=>(Region.ready .any ops listed).contains i)&&d6 ops r (listed.setIfInBounds i true)&&r.plain
 | .two i a j b,listed=>(Region.ready .any ops listed)==[i,j]&&d6 ops a (listed.setIfInBounds i true)&&d6 ops b (listed.setIfInBounds j true)&&(a.len==b.len)&&a.plain&&b.plain
 | .three i a j b k c,listed=>(Region.ready .any ops listed)==[i,j,k]&&d6 ops a (listed.setIfInBounds i true)&&d6 ops b (listed.setIfInBounds j true)&&d6 ops c (listed.setIfInBounds k true)&&(a.len==b.len)&&(a.len==c.len)&&a.plain&&b.plain&&c.plain
 | .four i a j b k c l d,listed=>(Region.ready .any ops listed)==[i,j,k,l]&&d6 ops a (listed.setIfInBounds i true)&&d6 ops b (listed.setIfInBounds j true)&&d6 ops c (listed.setIfInBounds k true)&&d6 ops d (listed.setIfInBounds l true)&&(a.len==b.len)&&(a.len==c.len)&&(a.len==d.len)&&a.plain&&b.plain&&c.plain&&d.plain
def plainOps (ops:Array Oper):Bool:=Region.noSelect ops&&ops.toList.all gu
theorem plainOps.nd {ops:Array Oper} (h:plainOps ops=true) (j:Nat) (o:Oper) (ho:ops[j]? =some o):gu o=true:=by
 simp only[plainOps,Bool.and_eq_true]at h
 exact List.all_eq_true.1 h.2 o (by rw[Array.mem_toList_iff];exact Array.mem_of_getElem? ho)
theorem plainOps.ns {ops:Array Oper} (h:plainOps ops=true):Region.noSelect ops=true:=by
 simp only[plainOps,Bool.and_eq_true]at h;exact h.1
structure Sn where
 x:List Nat
 now:World→Prop
def Sn.free (S:Sn) (l:Array Bool):Prop:=S.x.any (λj=>l.getD j false)=false
def Sn.f (S:Sn) (l:Array Bool) (w:World):Prop:=S.free l→S.now w
def PG (ops:Array Oper) (x:List Nat) (i:Nat):Bool:=x.all λj=>j != i&&(match ops[j]? with | some o=>o.after.any λe=>Region.binds .any e&&e.on==i | none=>false)
theorem Ku {x:List Nat} {i:Nat} {l:Array Bool} (hx:x.contains i=false):x.any (λj=>(l.setIfInBounds i true).getD j false)=x.any (λj=>l.getD j false):=by
 induction x with
 | nil=>rfl
 | cons k x ih=>
  simp only[List.contains_cons,Bool.or_eq_false_iff]at hx
  have hne:i≠k:=by have:=hx.1;simpa using this
  rw[List.any_cons,List.any_cons,ih hx.2]
  congr 1
  simp only[Array.getD_eq_getD_getElem?]
  rw[Array.getElem?_setIfInBounds_ne hne]
theorem Sn.f_ne {S:Sn} {i:Nat} (hx:S.x.contains i=false) (l:Array Bool) (w:World):S.f (l.setIfInBounds i true) w↔S.f l w:=by
 unfold Sn.f Sn.free;rw[Ku hx]
theorem Sn.free_ne {S:Sn} {i:Nat} (hx:S.x.contains i=false) {l:Array Bool} (h:S.free l):S.free (l.setIfInBounds i true):=by
 unfold Sn.free at *;rw[Ku hx];exact h
theorem Pn {ops:Array Oper} {x:List Nat} {i j:Nat} {l:Array Bool} (h:PG ops x i=true) (hj:j∈Region.ready .any ops l) (hi:l.getD i true=false):x.contains j=false:=by
 rw[Bool.eq_false_iff]
 intro hc
 have hc:j∈x:=by simpa using hc
 have h1:=List.all_eq_true.1 h j hc
 simp only[Bool.and_eq_true]at h1
 obtain⟨_,oj,hoj,hafter⟩:=mem_ready.1 hj
 rw[hoj]at h1
 obtain⟨e,he,h2⟩:=Array.any_eq_true'.1 h1.2
 simp only[Bool.and_eq_true,beq_iff_eq]at h2
 have h3:=hafter e he h2.1
 rw[h2.2]at h3
 rcases Nat.lt_or_ge i l.size with h' | h'
 ·simp[h']at h3 hi;rw[hi]at h3;cases h3
 ·simp[Array.getElem?_eq_none h']at h3
def nJ (ops:Array Oper) (i:Nat) (Y:List Nat) (j:Nat):Bool:=j != i&&(match ops[j]? with | some o=>o.after.any λe=>Region.binds .any e&&(e.on==i||Y.contains e.on) | none=>false)
def ny (ops:Array Oper) (i:Nat):List Nat→List Nat→List Nat
 | [],Y=>Y
 | j::r,Y=>ny ops i r (match nJ ops i Y j with | true=>j::Y | false=>Y)
def BI (ops:Array Oper) (x:List Nat) (rest:Tr) (i:Nat):Bool:=x.all λj=>(ny ops i rest.nums []).contains j
theorem BJ {ops:Array Oper} {i j:Nat} {Y Y':List Nat} (hs:∀ y∈Y,y∈Y') (h:nJ ops i Y j=true):nJ ops i Y' j=true:=by
 unfold nJ at *
 simp only[Bool.and_eq_true]at h ⊢
 refine⟨h.1,?_⟩
 have h2:=h.2
 cases ho:ops[j]? with
 | none=>rw[ho]at h2;exact h2
 | some o=>
  rw[ho]at h2
  obtain⟨e,he,h3⟩:=Array.any_eq_true'.1 h2
  refine Array.any_eq_true'.2 ⟨e,he,?_⟩
  simp only[Bool.and_eq_true,Bool.or_eq_true,List.contains_iff_mem]at h3 ⊢
  exact⟨h3.1,h3.2.imp id (hs _)⟩
theorem F0 {ops:Array Oper} {i:Nat} (r:List Nat) (Y:List Nat):∀ y∈Y,y∈ny ops i r Y:=by
 induction r generalizing Y with
 | nil=>exact λ_ h=>h
 | cons j r ih=>
  intro y hy
  unfold ny
  split
  ·exact ih _ y (by simp[hy])
  ·exact ih _ y hy
theorem EB {ops:Array Oper} {i:Nat} (r:List Nat) (Y Z:List Nat) (hZ:∀ y∈ny ops i r Y,y∈Z) (h:∀ y∈Y,nJ ops i Z y=true):∀ y∈ny ops i r Y,nJ ops i Z y=true:=by
 induction r generalizing Y with
 | nil=>exact h
 | cons j r ih=>
  cases hj:nJ ops i Y j with
  | true=>
   simp only[ny,hj]at hZ ⊢
   refine ih (j::Y) hZ λy hy=>?_
   simp only[List.mem_cons]at hy
   rcases hy with rfl | hy
   ·exact BJ (λz hz=>hZ z (F0 r _ z (by simp[hz]))) hj
   ·exact h y hy
  | false=>
   simp only[ny,hj]at hZ ⊢
   exact ih Y hZ h
theorem Ig {ops:Array Oper} {i:Nat} (r:List Nat) (Y:List Nat):∀ y∈ny ops i r Y,y∈Y∨y∈r:=by
 induction r generalizing Y with
 | nil=>exact λy h=> .inl h
 | cons j r ih=>
  unfold ny
  split
  ·intro y hy
   rcases ih _ y hy with h | h
   ·simp only[List.mem_cons]at h
    rcases h with rfl | h
    ·exact .inr (by simp)
    ·exact .inl h
   ·exact .inr (by simp[h])
  ·intro y hy
   rcases ih _ y hy with h | h
   ·exact .inl h
   ·exact .inr (by simp[h])
theorem nN {ops:Array Oper} {l:Array Bool} {y:Nat} (hm:y∈Region.ready .any ops l):l.getD y false=false:=by
 have h2:=(mem_ready.1 hm).1
 rcases Nat.lt_or_ge y l.size with h' | h'
 ·simp[h']at h2 ⊢;exact h2
 ·simp[Array.getElem?_eq_none h']
theorem zr {ops:Array Oper} {r:Tr} {l:Array Bool} (h:d6 ops r l=true) {y:Nat} (hy:y∈r.nums):l.getD y false=false:=by
 induction r generalizing l with
 | n=>simp[Tr.nums]at hy
 | c p r ih=>
  obtain⟨j,b⟩:=p
  simp only[d6,Bool.and_eq_true]at h
  have hm:j∈Region.ready .any ops l:=by
   have h1:=h.1.1
   cases b with
   | q=>simp only[Bool.and_eq_true,List.contains_iff_mem]at h1;exact h1.1
   | s=>simp only[beq_iff_eq]at h1;rw[h1];simp
   | t=>simp only[List.contains_iff_mem]at h1;exact h1
  by_cases e:y=j
  ·rw[e];exact nN hm
  ·simp only[Tr.nums,List.mem_cons]at hy
   have:=ih h.1.2 (hy.resolve_left e)
   simp only[Array.getD_eq_getD_getElem?]at this ⊢
   rwa [Array.getElem?_setIfInBounds_ne (λe'=>e e'.symm)]at this
 | two i a j b iha _=>
  simp only[d6,Bool.and_eq_true]at h
  by_cases e:y=i
  ·rw[e];refine nN (ops:=ops) ?_
   have:=h.1.1.1.1.1;simp only[beq_iff_eq]at this;rw[this];simp
  ·simp only[Tr.nums,List.mem_cons]at hy
   have:=iha h.1.1.1.1.2 (hy.resolve_left e)
   simp only[Array.getD_eq_getD_getElem?]at this ⊢
   rwa [Array.getElem?_setIfInBounds_ne (λe'=>e e'.symm)]at this
 | three i a j b k c iha _ _=>
  simp only[d6,Bool.and_eq_true]at h
  by_cases e:y=i
  ·rw[e];refine nN (ops:=ops) ?_
   have:=h.1.1.1.1.1.1.1.1;simp only[beq_iff_eq]at this;rw[this];simp
  ·simp only[Tr.nums,List.mem_cons]at hy
   have:=iha h.1.1.1.1.1.1.1.2 (hy.resolve_left e)
   simp only[Array.getD_eq_getD_getElem?]at this ⊢
   rwa [Array.getElem?_setIfInBounds_ne (λe'=>e e'.symm)]at this
 | four i a j b k c l d iha _ _ _=>
  simp only[d6,Bool.and_eq_true]at h
  by_cases e:y=i
  ·rw[e];refine nN (ops:=ops) ?_
   have:=h.1.1.1.1.1.1.1.1.1.1.1;simp only[beq_iff_eq]at this;rw[this];simp
  ·simp only[Tr.nums,List.mem_cons]at hy
   have:=iha h.1.1.1.1.1.1.1.1.1.1.2 (hy.resolve_left e)
   simp only[Array.getD_eq_getD_getElem?]at this ⊢
   rwa [Array.getElem?_setIfInBounds_ne (λe'=>e e'.symm)]at this
theorem Ie {ops:Array Oper} {i j:Nat} {Y:List Nat} {l:Array Bool} (hY:∀ y∈Y,nJ ops i Y y=true) (hp:∀ y∈Y,l.getD y false=false) (hj:j∈Region.ready .any ops l) (hi:l.getD i true=false):∀ y∈Y,(l.setIfInBounds j true).getD y false=false:=by
 intro y hy
 by_cases e:j=y
 ·subst e
  exfalso
  have h1:=hY j hy
  unfold nJ at h1
  simp only[Bool.and_eq_true]at h1
  obtain⟨_,oj,hoj,hafter⟩:=mem_ready.1 hj
  rw[hoj]at h1
  obtain⟨e,he,h2⟩:=Array.any_eq_true'.1 h1.2
  simp only[Bool.and_eq_true,Bool.or_eq_true,beq_iff_eq,List.contains_iff_mem]at h2
  have h3:=hafter e he h2.1
  rcases h2.2 with h4 | h4
  ·rw[h4]at h3
   rcases Nat.lt_or_ge i l.size with h' | h'
   ·simp[h']at h3 hi;rw[hi]at h3;cases h3
   ·simp[Array.getElem?_eq_none h']at h3
  ·have h5:=hp _ h4
   rcases Nat.lt_or_ge e.on l.size with h' | h'
   ·simp[h']at h3 h5;rw[h5]at h3;cases h3
   ·simp[Array.getElem?_eq_none h']at h3
 ·have:=hp y hy
  simp only[Array.getD_eq_getD_getElem?]at this ⊢
  rw[Array.getElem?_setIfInBounds_ne e];exact this
def AnyT (P:Program) (ro:Option Nat) (ops:Array Oper) (Q:Exit→Act→World→Prop) (S:Array Bool→World→Prop):Tr→Array Bool→Act→World→Prop
 | .c (i,.t) r,listed,a,w=>uF P ro ops Q i (λa' w'=>S (listed.setIfInBounds i true) w'∧Any P ro ops Q S r.len (listed.setIfInBounds i true) a' w') a w
 | t,listed,a,w=>Any P ro ops Q S t.len listed a w
def di (P:Program) (ro:Ro) (n:Fr) (ops:Array Oper) (Kn:Act→World→Prop) (Ke:Nat→Act→World→Prop) (Kr:Act→World→Prop) (S:Sn) (l:Tr) (env:kW) (w:World):Prop:=
 ∀ a listed,plainOps ops=true→d6 ops l listed=true→S.free listed→Has n a env→S.now w→AnyT P ro.r ops (vD ro Kn Ke Kr) S.f l listed a w
theorem AnyT.any {P:Program} {ro:Option Nat} {ops:Array Oper} {Q:Exit→Act→World→Prop} {S:Array Bool→World→Prop} {t:Tr} {l:Array Bool} {a:Act} {w:World} (h:AnyT P ro ops Q S t l a w) (hp:t.plain=true):Any P ro ops Q S t.len l a w:=by
 unfold AnyT at h
 split at h
 ·cases hp
 ·exact h
theorem Pf {id:Nat} {ops:Array Oper} (S:Sn) (order:Tr) (hm:P.follows .mixedOrders=true) (hs:(plainOps ops&&d6 ops order (Array.replicate ops.size false)&&(order.len==ops.size)&&order.plain)=true)
  (hS:S.now w.drew) (h:di P ro n ops Kn Ke Kr S order env w.drew):gH P ro n (.region id ops true) Kn Ke Kr env w:=λa ha=>by
 simp only[Bool.and_eq_true,beq_iff_eq]at hs
 obtain⟨⟨⟨h1,h2⟩,h3⟩,h5⟩:=hs
 have hfree:S.free (Array.replicate ops.size false):=by
  unfold Sn.free
  rw[List.any_eq_false]
  intro j _
  rw[Array.getD_eq_getD_getElem?,Array.getElem?_replicate]
  split<;>simp
 have h4:=(h a _ h1 h2 hfree ha hS).any h5
 rw[h3]at h4
 exact wpIn_region_any hm (Hz _ _ _ _ h4)
section
variable {ops:Array Oper} {S:Sn} {rest:Tr} {fl:Fl} {o:Oper} {i d:Nat} {v:Value} {w':World}
theorem Pi (S':World→Prop) (hS:∀ w,S' w→S.now w) (hw:S' w) (h:di P ro n ops Kn Ke Kr ⟨S.x,S'⟩ rest env w):di P ro n ops Kn Ke Kr S rest env w:=by
 intro a listed h1 h2 hf ha _
 have h0:=h a listed h1 h2 hf ha hw
 have key:∀ m l a w,Any P ro.r ops (vD ro Kn Ke Kr) (Sn.f ⟨S.x,S'⟩) m l a w→Any P ro.r ops (vD ro Kn Ke Kr) S.f m l a w:=λm l a w h=>
  Dt (λ_=>True) (λ_ _ _=>trivial) (λ_ _ _ h3 h4=>hS _ (h3 h4)) _ _ _ _ trivial h
 unfold AnyT at h0 ⊢
 split
 ·exact wpOpIn_mono (λa' w' h'=>⟨λh4=>hS _ (h'.1 h4),key _ _ _ _ h'.2⟩) h0
 ·rename_i hne
  split at h0
  ·exact absurd rfl (hne _ _)
  ·exact key _ _ _ _ h0
theorem pp (h:∀ a,Has n a env→Kn a w):di P ro n ops Kn Ke Kr S .n env w:=λa listed _ h2 _ ha _=>
 ⟨by simpa[d6,List.isEmpty_iff]using h2,h a ha⟩
theorem fU {α:Type} {T T':Tr} (E:α→kW) (J:α→World→Prop) (S':α→World→Sn)
  (later:∀ x w',J x w'→di P ro n ops Kn Ke Kr (S' x w') T (E x) w')
  (first:(∀ x w',J x w'→di P ro n ops Kn Ke Kr (S' x w') T (E x) w')→di P ro n ops Kn Ke Kr S T' env w):di P ro n ops Kn Ke Kr S T' env w:=first later
theorem cn {T:Tr} {e:kW} (h:di P ro n ops Kn Ke Kr S T e w) (hs:Sub e env):di P ro n ops Kn Ke Kr S T env w:=
 λa listed h1 h2 hf ha hS=>h a listed h1 h2 hf (ha.sub hs) hS
theorem gG {j:Nat} {x y:Tr} (hi:di P ro n ops Kn Ke Kr S (.c (i,.t) x) env w) (hj:di P ro n ops Kn Ke Kr S (.c (j,.t) y) env w):di P ro n ops Kn Ke Kr S (.two i x j y) env w:=λa listed h1 h2 hf ha hS=>by
 simp only[d6,Bool.and_eq_true,beq_iff_eq]at h2
 obtain⟨⟨⟨⟨⟨hr,h3⟩,h4⟩,h5⟩,h6⟩,h7⟩:=h2
 have k1:=hi a listed h1 (by simp only[d6,Bool.and_eq_true];exact⟨⟨by rw[hr];simp,h3⟩,h6⟩) hf ha hS
 have k2:=hj a listed h1 (by simp only[d6,Bool.and_eq_true];exact⟨⟨by rw[hr];simp,h4⟩,h7⟩) hf ha hS
 refine And.intro (λh0=>by rw[hr]at h0;cases h0) (λk hk=>?_)
 rw[hr]at hk
 simp only[List.mem_cons,List.not_mem_nil,or_false]at hk
 rcases hk with rfl | rfl
 ·exact k1
 ·have k3:uF P ro.r ops (vD ro Kn Ke Kr) k (λa' w'=>S.f (listed.setIfInBounds k true) w'∧Any P ro.r ops (vD ro Kn Ke Kr) S.f y.len (listed.setIfInBounds k true) a' w') a w:=k2
  rw[← h5]at k3
  exact k3
theorem wH {j k:Nat} {x y z:Tr} (hi:di P ro n ops Kn Ke Kr S (.c (i,.t) x) env w) (hj:di P ro n ops Kn Ke Kr S (.c (j,.t) y) env w) (hk:di P ro n ops Kn Ke Kr S (.c (k,.t) z) env w):di P ro n ops Kn Ke Kr S (.three i x j y k z) env w:=λa listed h1 h2 hf ha hS=>by
 simp only[d6,Bool.and_eq_true,beq_iff_eq]at h2
 obtain⟨⟨⟨⟨⟨⟨⟨⟨hr,h3⟩,h4⟩,h5⟩,e1⟩,e2⟩,h6⟩,h7⟩,h8⟩:=h2
 have k1:=hi a listed h1 (by simp only[d6,Bool.and_eq_true];exact⟨⟨by rw[hr];simp,h3⟩,h6⟩) hf ha hS
 have k2:=hj a listed h1 (by simp only[d6,Bool.and_eq_true];exact⟨⟨by rw[hr];simp,h4⟩,h7⟩) hf ha hS
 have k3:=hk a listed h1 (by simp only[d6,Bool.and_eq_true];exact⟨⟨by rw[hr];simp,h5⟩,h8⟩) hf ha hS
 refine And.intro (λh0=>by rw[hr]at h0;cases h0) (λq hq=>?_)
 rw[hr]at hq
 simp only[List.mem_cons,List.not_mem_nil,or_false]at hq
 rcases hq with rfl | rfl | rfl
 ·exact k1
 ·have k4:uF P ro.r ops (vD ro Kn Ke Kr) q (λa' w'=>S.f (listed.setIfInBounds q true) w'∧Any P ro.r ops (vD ro Kn Ke Kr) S.f y.len (listed.setIfInBounds q true) a' w') a w:=k2
  rw[← e1]at k4
  exact k4
 ·have k4:uF P ro.r ops (vD ro Kn Ke Kr) q (λa' w'=>S.f (listed.setIfInBounds q true) w'∧Any P ro.r ops (vD ro Kn Ke Kr) S.f z.len (listed.setIfInBounds q true) a' w') a w:=k3
  rw[← e2]at k4
  exact k4
theorem Dv {c:Bool} (hi:ops[i]? =some o) (hg:oC n env ops o c) (hd:o.dst=some d) (hr:c=true→∀ w',hH P n env o v w')
  (h:di P ro n ops Kn Ke Kr S rest ((d,gv c v)::env) w) (hx:S.x.contains i=false:=by rfl):di P ro n ops Kn Ke Kr S (.c (i,.q) rest) env w:=λa listed h1 h2 hf ha hS=>by
 simp only[d6,Bool.and_eq_true]at h2
 obtain⟨⟨⟨h3,h4⟩,h5⟩,h8⟩:=h2
 refine Bx (v:=gv c v) hi (Region.noSelect_spec (plainOps.ns h1)) (plainOps.nd h1) G7 (λ_=>True) (λ_ _ _ _ _=>trivial) (Sn.f_ne hx) _ listed a w (Region.free_spec hi h4) (by simpa using h3) trivial ?_ (λ_=>hS) ?_
 ·cases c with
  | true=>exact .inl ⟨hg a ha,λw' _=>hr rfl w' a ha⟩
  | false=>exact .inr ⟨hg a ha,rfl⟩
 ·rw[hd]
  exact(h _ _ h1 h5 (Sn.free_ne hx hf) (ha.put d _) hS).any h8
theorem uB {c:Bool} (hi:ops[i]? =some o) (hg:oC n env ops o c) (hd:o.dst=some d) (hr:c=true→∀ w',S.now w'→hH P n env o v w')
  (hw:BI ops S.x rest i=true) (h:di P ro n ops Kn Ke Kr S rest ((d,gv c v)::env) w):di P ro n ops Kn Ke Kr S (.c (i,.q) rest) env w:=λa listed h1 h2 hf ha hS=>by
 simp only[d6,Bool.and_eq_true]at h2
 obtain⟨⟨⟨h3,h4⟩,h5⟩,h8⟩:=h2
 have hY:=EB (ops:=ops) (i:=i) rest.nums [] (ny ops i rest.nums []) (λ_ h=>h) (λ_ h=>by simp at h)
 have hXY:∀ j∈S.x,j∈ny ops i rest.nums []:=λj hj=>by have:=List.all_eq_true.1 hw j hj;simpa using this
 have hx:S.x.contains i=false:=by
  rw[Bool.eq_false_iff];intro hc
  have:=hY i (hXY i (by simpa using hc))
  simp[nJ]at this
 have hp0:∀ y∈ny ops i rest.nums [],listed.getD y false=false:=λy hy=>by
  rcases Ig rest.nums [] y hy with h | h
  ·simp at h
  ·have:=zr h5 h
   have hne:i≠y:=λe=>by subst e;have:=hY i hy;simp[nJ]at this
   simp only[Array.getD_eq_getD_getElem?]at this ⊢
   rwa [Array.getElem?_setIfInBounds_ne hne]at this
 have hfr:∀ l:Array Bool,(∀ y∈ny ops i rest.nums [],l.getD y false=false)→S.free l:=λl hl=>by
  unfold Sn.free;rw[List.any_eq_false];intro j hj;rw[hl j (hXY j hj)];simp
 refine Bx (v:=gv c v) hi (Region.noSelect_spec (plainOps.ns h1)) (plainOps.nd h1) G7 (λl=>∀ y∈ny ops i rest.nums [],l.getD y false=false) (λl j hl hj hi=>Ie hY hl hj ?_) (Sn.f_ne hx) _ listed a w (Region.free_spec hi h4) (by simpa using h3) hp0 ?_ (λ_=>hS) ?_
 ·exact hi
 ·cases c with
  | true=>exact .inl ⟨hg a ha,λw' ⟨_,h6,h7⟩=>hr rfl w' (h7 (hfr _ h6)) a ha⟩
  | false=>exact .inr ⟨hg a ha,rfl⟩
 ·rw[hd]
  exact(h _ _ h1 h5 (Sn.free_ne hx hf) (ha.put d _) hS).any h8
theorem iq (hi:ops[i]? =some o) (hg:oC n env ops o true) (hd:o.dst=some d) (hr:∀ w',hH P n env o v w')
  (h:di P ro n ops Kn Ke Kr S rest ((d,v)::env) w) (hx:S.x.contains i=false:=by rfl):di P ro n ops Kn Ke Kr S (.c (i,.q) rest) env w:=
 Dv (c:=true) hi hg hd (λ_=>hr) h hx
theorem dl (hi:ops[i]? =some o) (hg:oC n env ops o true) (hd:o.dst=some d) (hr:∀ w',S.now w'→hH P n env o v w')
  (hw:BI ops S.x rest i=true) (h:di P ro n ops Kn Ke Kr S rest ((d,v)::env) w):di P ro n ops Kn Ke Kr S (.c (i,.q) rest) env w:=
 uB (c:=true) hi hg hd (λ_=>hr) hw h
theorem xj (hi:ops[i]? =some o) (h:∀ a,gu o=true→Has n a env→sS P ro.r ops (vD ro Kn Ke Kr) o (λa' w'=>S.now w'∧∃ env',Has n a' env'∧di P ro n ops Kn Ke Kr S rest env' w') a w) (hx:S.x.contains i=false:=by rfl) (hfl:fl.solo=true:=by rfl):di P ro n ops Kn Ke Kr S (.c (i,fl) rest) env w:=λa listed h1 h2 hf ha _=>by
 simp only[d6,Bool.and_eq_true]at h2
 have T:uF P ro.r ops (vD ro Kn Ke Kr) i (λa' w'=>S.f (listed.setIfInBounds i true) w'∧Any P ro.r ops (vD ro Kn Ke Kr) S.f rest.len (listed.setIfInBounds i true) a' w') a w:=
  wpOpIn_mono (λa' w' ⟨hS,env',h3,h4⟩=>⟨λ_=>hS,(h4 _ _ h1 h2.1.2 (Sn.free_ne hx hf) h3 hS).any h2.2⟩) (BO hi (h a (plainOps.nd h1 _ _ hi) ha))
 cases fl with
 | q=>cases hfl
 | t=>exact T
 | s=>
  have hr:Region.ready .any ops listed=[i]:=by simpa using h2.1.1
  refine And.intro (λh0=>by rw[hr]at h0;cases h0) (λj hj=>?_)
  rw[hr]at hj
  simp only[List.mem_singleton]at hj
  subst hj
  exact T
theorem Ma {S2:World→Prop} (hx:S.x.contains i=true) (hw:S2 w) (hin:Nat.blt i ops.size=true) (h:di P ro n ops Kn Ke Kr ⟨[],S2⟩ (.c (i,.s) rest) env w):di P ro n ops Kn Ke Kr S (.c (i,.s) rest) env w:=λa listed h1 h2 _ ha _=>by
 have h3:Any P ro.r ops (vD ro Kn Ke Kr) (Sn.f ⟨[],S2⟩) (rest.len+1) listed a w:=h a listed h1 h2 rfl ha hw
 simp only[d6,Bool.and_eq_true]at h2
 have hr:Region.ready .any ops listed=[i]:=by simpa using h2.1.1
 refine And.intro (λh0=>by rw[hr]at h0;cases h0) (λj hj=>?_)
 have h4:=h3.2 j hj
 rw[hr]at hj
 simp only[List.mem_singleton]at hj
 subst hj
 have hun:=(mem_ready.1 (show j∈Region.ready .any ops listed by rw[hr];simp)).1
 have hlt:j<listed.size:=by
  rcases Nat.lt_or_ge j listed.size with h' | h'
  ·exact h'
  ·simp[Array.getElem?_eq_none h']at hun
 have _:=hin
 refine wpOpIn_mono (λa' w' ⟨_,h5⟩=>?_) h4
 have hmem:j∈S.x:=by simpa using hx
 have key:∀ l:Array Bool,l.getD j false=true→∀ w,¬ S.free l∨S.f l w:=λl hl w=> .inl λhfr=>by
  unfold Sn.free at hfr
  rw[List.any_eq_false]at hfr
  exact hfr j hmem hl
 have hset:(listed.setIfInBounds j true).getD j false=true:=by simp[hlt]
 refine⟨λhfr=>absurd hfr ((key _ hset w').elim id λh6=>λhfr=>by unfold Sn.free at hfr;rw[List.any_eq_false]at hfr;exact hfr j hmem hset),?_⟩
 refine Dt (λl=>l.getD j false=true) (λl i hl=>?_) (λl w hl _ hfr=>?_) _ _ _ _ hset h5
 ·by_cases e:i=j
  ·subst e
   have:i<l.size:=by
    rcases Nat.lt_or_ge i l.size with h' | h'
    ·exact h'
    ·simp[Array.getElem?_eq_none h']at hl
   simp[this]
  ·simp only[Array.getD_eq_getD_getElem?]at hl ⊢
   rw[Array.getElem?_setIfInBounds_ne e];exact hl
 ·unfold Sn.free at hfr;rw[List.any_eq_false]at hfr;exact absurd hl (hfr j hmem)
theorem dz (hi:ops[i]? =some o) (hg:oC n env ops o true) (hd:o.dst=some d) (hr:nA P n env o w (.ok (.value v) w')) (hS':S.now w')
  (h:di P ro n ops Kn Ke Kr S rest ((d,v)::env) w') (hx:S.x.contains i=false:=by rfl) (hfl:fl.solo=true:=by rfl):di P ro n ops Kn Ke Kr S (.c (i,fl) rest) env w:=
 xj (hfl:=hfl) hi (λa hn ha=>tO hn (hg a ha) (hr a ha) ⟨hS',_,by rw[hd];exact ha.put d v,h⟩) hx
theorem Ph (hi:ops[i]? =some o) (hg:oC n env ops o true) (hd:o.dst=none) (hr:nA P n env o w (.ok .skip w')) (hS':S.now w')
  (h:di P ro n ops Kn Ke Kr S rest env w') (hx:S.x.contains i=false:=by rfl) (hfl:fl.solo=true:=by rfl):di P ro n ops Kn Ke Kr S (.c (i,fl) rest) env w:=
 xj (hfl:=hfl) hi (λa hn ha=>wX hn (hg a ha) (hr a ha) ⟨hS',_,by rw[hd];exact ha,h⟩) hx
theorem Kw {f:FuncId} {args:Array Value} (hi:ops[i]? =some o) (hg:oC n env ops o true) (hd:o.dst=some d) (hr:nA P n env o w (.ok (.enter f args) w))
  (h:Calls P f args w λe w'=>∃ v,e= .returned v∧S.now w'∧di P ro n ops Kn Ke Kr S rest ((d,v)::env) w') (hx:S.x.contains i=false:=by rfl) (hfl:fl.solo=true:=by rfl):di P ro n ops Kn Ke Kr S (.c (i,fl) rest) env w:=
 xj (hfl:=hfl) hi (λa hn ha=>rB hn (hg a ha) (hr a ha) (h.mono λe w' ⟨u,h1,h2,h3⟩=>⟨u,h1,h2,_,by rw[hd];exact ha.put d u,h3⟩)) hx
theorem Mb {f:FuncId} {args:Array Value} {c:Bool} (Ψ:Value→World→Prop) (hi:ops[i]? =some o) (hg:oC n env ops o c) (hd:o.dst=some d) (hr:c=true→nA P n env o w (.ok (.enter f args) w))
  (hc:c=true→Calls P f args w λe w'=>∃ v,e= .returned v∧S.now w'∧Ψ v w') (hSw:S.now w)
  (h:∀ v w',S.now w'→(c=true→Ψ v w')→(c=false→w'=w)→di P ro n ops Kn Ke Kr S rest ((d,gv c v)::env) w') (hx:S.x.contains i=false:=by rfl) (hfl:fl.solo=true:=by rfl):di P ro n ops Kn Ke Kr S (.c (i,fl) rest) env w:=
 xj (hfl:=hfl) hi (λa hn ha=>by
  cases c with
  | true=>exact rB hn (hg a ha) (hr rfl a ha) ((hc rfl).mono λe w' ⟨u,h1,h2,h3⟩=>⟨u,h1,h2,_,by rw[hd];exact ha.put d u,h u w' h2 (λ_=>h3) (λe=>by cases e)⟩)
  | false=>exact tP (hg a ha) ⟨hSw,_,by rw[hd];exact ha.put d undef,h undef w hSw (λe=>by cases e) λ_=>rfl⟩) hx
end
section
variable {ops:Array Oper} {o:Oper} {t j:Nat} {b c:Bool}
theorem rQ {a:Act} (ha:Has n a env) (hj:(ops[j]?).bind (·.dst)=some t) {v:Value} (hl:look env t=some v) (ht:Nat.blt t n.n=true):
  yielded ops a.tmps j=match v with | .bool b=>some b | _=>none:=by
 have hlt:t<n.n:=by simpa[Nat.blt_eq]using ht
 have h:=ha.rd t v hl hlt
 have hs:a.tmps[t]? =some v:=by
  have:t<a.tmps.size:=by rw[ha.sz];exact hlt
  rw[Array.getD_eq_getD_getElem?,Array.getElem?_eq_getElem this]at h
  rw[Array.getElem?_eq_getElem this]
  simpa using h
 unfold yielded
 rw[hj]
 simp only[Option.bind_some,hs]
 cases v<;>rfl
theorem bg (hg:o.guard=some (j,true)) (hj:(ops[j]?).bind (·.dst)=some t) (hl:look env t=some (.bool b)) (ht:Nat.blt t n.n=true):oC n env ops o b:=λa ha=>by
 simp only[Region.wanted,hg,rQ ha hj hl ht];cases b<;>rfl
theorem bj (hg:o.guard=some (j,false)) (hj:(ops[j]?).bind (·.dst)=some t) (hl:look env t=some (.bool b)) (ht:Nat.blt t n.n=true):oC n env ops o (!b):=λa ha=>by
 simp only[Region.wanted,hg,rQ ha hj hl ht];cases b<;>rfl
theorem iR (hg:o.guard=some (j,true)) (hj:(ops[j]?).bind (·.dst)=some t) (hl:look env t=some (gv c (.bool b))) (ht:Nat.blt t n.n=true):oC n env ops o (c&&b):=λa ha=>by
 simp only[Region.wanted,hg,rQ ha hj hl ht];cases c<;>cases b<;>rfl
theorem gV (hg:o.guard=some (j,false)) (hj:(ops[j]?).bind (·.dst)=some t) (hl:look env t=some (gv c (.bool b))) (ht:Nat.blt t n.n=true):oC n env ops o (c&& !b):=λa ha=>by
 simp only[Region.wanted,hg,rQ ha hj hl ht];cases c<;>cases b<;>rfl
end
section
variable {o:Oper} {x y z:Operand} {t t':TypeId} {k k':IntKind} {p q:Int} {b c:Bool} {v u:Value}
theorem fC (ho:o.op= .move x) (hx:Ev n env x v):hH P n env o v w:=λa ha=>by simp[execOp,ho,hx a ha]
theorem cx (ho:o.op= .assign x) (hx:Ev n env x v):hH P n env o v w:=λa ha=>by simp[execOp,ho,hx a ha]
theorem tq (ho:o.op= .pick x y (.const (.bool false))) (hx:Ev n env x (.bool b)) (hy:Ev n env y (gv b (.bool c))):hH P n env o (.bool (b&&c)) w:=λa ha=>by
 simp only[execOp,ho,hx a ha,hy a ha];cases b<;>simp[asBool,gv,Act.eval]
theorem xP (ho:o.op= .pick x (.const (.bool true)) y) (hx:Ev n env x (.bool b)) (hy:Ev n env y (gv (!b) (.bool c))):hH P n env o (.bool (b||c)) w:=λa ha=>by
 simp only[execOp,ho,hx a ha,hy a ha];cases b<;>simp[asBool,gv,Act.eval]
theorem yu {d:Bool} (ho:o.op= .pick x y (.const (.bool false))) (hd:d=true) (hx:Ev n env x (gv d (.bool b))) (hy:Ev n env y (gv (d&&b) (.bool c))):hH P n env o (.bool (b&&c)) w:=by
 subst hd;exact tq ho hx hy
theorem DC {d:Bool} (ho:o.op= .pick x (.const (.bool true)) y) (hd:d=true) (hx:Ev n env x (gv d (.bool b))) (hy:Ev n env y (gv (d&& !b) (.bool c))):hH P n env o (.bool (b||c)) w:=by
 subst hd;exact xP ho hx hy
theorem uH (ho:o.op= .unOp .not t x) (hx:Ev n env x (.bool b)):hH P n env o (.bool (!b)) w:=λa ha=>by
 simp only[execOp,ho,hx a ha];simp[go_sem]
theorem Ml (ho:o.op= .unOp .neg t x) (hx:Ev n env x (.int k p)):hH P n env o (.int k (k.wrap (-p))) w:=λa ha=>by
 simp only[execOp,ho,hx a ha];simp[Op.unary,go_sem]
theorem iT {op:BinOp} {r:Value} (ho:o.op= .binOp op t x y t') (hx:Ev n env x v) (hy:Ev n env y u) (hr:(binOp op t v u).run P w= .ok r w) (hg:(eqGuard op t x y v u).run P w= .ok () w):hH P n env o r w:=λa ha=>by
 simp only[execOp,ho,hx a ha,hy a ha];simp[hr,hg]
end
end
theorem af:True:=trivial
end Go.Vc
