import Derived.OrdersIn
import Derived.TacticsIn
import Derived.OrdersHeld
namespace Go.Vc
open Go
def FW (ro:Option Nat):Fence:= { Fence.wide with round:=ro }
theorem LT {ro:Option Nat} (m:Nat):(FW ro).room m:=λ_ h=>by cases h
theorem wm {ro:Option Nat} {p:Prop} :(FW ro).depth.isSome=true→p:=λh=>by simp[FW,Fence.wide]at h
theorem vu {ro:Option Nat} {m:Nat} {P:Program} {f:FuncId} {args:Array Value} {w:World} {R:Ending→World→Prop} (h:Calls P f args w R):CallsIn (FW ro) m P f args w R:=callsIn_wide.2 h
def gu (o:Oper):Bool:=match o.op with | .defer _=>false | _=>true
theorem xz {o:Oper} (h:gu o=true) (ro:Option Nat) (ρ:Operand→Value):o.semAt ro ρ=execOp ρ o:=
 Oper.semAt_eq ro ρ o λc hc=>by simp[gu,hc]at h
section
variable {P:Program} {ro:Option Nat} {ops:Array Oper} {Q:Exit→Act→World→Prop} {S:World→Prop} {K:Act→World→Prop} {a:Act} {w w':World} {i j:Nat} {o oi oj:Oper} {v:Value}
def sS (P:Program) (ro:Option Nat) (ops:Array Oper) (Q:Exit→Act→World→Prop) (o:Oper) (K:Act→World→Prop) (a:Act) (w:World):Prop:=
 if Region.wanted o (yielded ops a.tmps)then o.wpIn (FW ro) 0 P a w K Q else(∀ f,o.about P w a.eval=some f→(FW ro).fn f)∧K (a.put o.dst undef) w
theorem uw (hn:gu o=true) (hw:Region.wanted o (yielded ops a.tmps)=true) {r:Result Next} (hr:(execOp a.eval o).run P w=r) (h:o.uponIn (FW ro) 0 P a K Q r):sS P ro ops Q o K a w:=by
 unfold sS
 rw[if_pos hw]
 refine⟨λ_ _=>trivial,?_⟩
 rw[xz hn,hr];exact h
theorem tO (hn:gu o=true) (hw:Region.wanted o (yielded ops a.tmps)=true) (hr:(execOp a.eval o).run P w= .ok (.value v) w') (h:K (a.put o.dst v) w'):sS P ro ops Q o K a w:=uw hn hw hr h
theorem wX (hn:gu o=true) (hw:Region.wanted o (yielded ops a.tmps)=true) (hr:(execOp a.eval o).run P w= .ok .skip w') (h:K (a.put o.dst undef) w'):sS P ro ops Q o K a w:=uw hn hw hr h
theorem rB {f:FuncId} {args:Array Value} (hn:gu o=true) (hw:Region.wanted o (yielded ops a.tmps)=true) (hr:(execOp a.eval o).run P w= .ok (.enter f args) w')
  (h:Calls P f args w' λe w''=>∃ u,e= .returned u∧K (a.put o.dst u) w''):sS P ro ops Q o K a w:=
 uw hn hw hr ⟨wm,vu (h.mono (by rintro e w'' ⟨u,rfl,hk⟩;exact hk))⟩
def Round (P:Program) (l:Nat) (f:FuncId) (tmps:Array Value) (assign body:Code) (w:World) (R:Ending→World→Prop):Prop:=∀ m,RoundIn Fence.wide m P l f tmps assign body w R
theorem FZ {l:Nat} {f:FuncId} {tmps:Array Value} {assign body:Code} (hn:gu o=true) (hw:Region.wanted o (yielded ops a.tmps)=true) (hr:(execOp a.eval o).run P w= .ok (.round l f tmps assign body) w')
  (h:Round P l f tmps assign body w' λe w''=>∃ u,e= .returned u∧K (a.put o.dst u) w''):sS P ro ops Q o K a w:=by
 have h2:RoundIn (FW ro) (0 - 1) P l f tmps assign body w' λe w''=>∃ u,e= .returned u∧K (a.put o.dst u) w'':=h _
 exact uw hn hw hr ⟨wm,h2.mono (by rintro e w'' ⟨u,rfl,hk⟩;exact hk)⟩
theorem tP (hw:Region.wanted o (yielded ops a.tmps)=false) (h:K (a.put o.dst undef) w):sS P ro ops Q o K a w:=by
 unfold sS
 rw[if_neg (by simp[hw])]
 exact⟨λ_ _=>trivial,h⟩
abbrev uF (P:Program) (ro:Option Nat) (ops:Array Oper) (Q:Exit→Act→World→Prop) (i:Nat) (K:Act→World→Prop) (a:Act) (w:World):Prop:=wpOpIn (FW ro) 0 P ops Q i K a w
theorem BO (hi:ops[i]? =some o) (h:sS P ro ops Q o K a w):uF P ro ops Q i K a w:=by
 unfold uF wpOpIn
 simp only[hi]
 exact h
theorem IM (hi:ops[i]? =some o) (hn:gu o=true) (hw:Region.wanted o (yielded ops a.tmps)=true) (hr:(execOp a.eval o).run P w= .ok (.value v) w') (h:K (a.put o.dst v) w'):uF P ro ops Q i K a w:=BO hi (tO hn hw hr h)
theorem IP (hi:ops[i]? =some o) (hw:Region.wanted o (yielded ops a.tmps)=false) (h:K (a.put o.dst undef) w):uF P ro ops Q i K a w:=BO hi (tP hw h)
def Leaves (P:Program) (ops:Array Oper) (S:World→Prop) (o:Oper) (v:Value) (a:Act):Prop:=
 (Region.wanted o (yielded ops a.tmps)=true∧∀ w,S w→(execOp a.eval o).run P w= .ok (.value v) w)∨(Region.wanted o (yielded ops a.tmps)=false∧v=undef)
def Any (P:Program) (ro:Option Nat) (ops:Array Oper) (Q:Exit→Act→World→Prop) (S:Array Bool→World→Prop):Nat→Array Bool→Act→World→Prop
 | 0,listed,a,w=>Region.ready .any ops listed=[]∧Q .normal a w
 | m+1,listed,a,w=>(Region.ready .any ops listed=[]→Q .normal a w)∧∀ i∈Region.ready .any ops listed,uF P ro ops Q i (λa' w'=>S (listed.setIfInBounds i true) w'∧Any P ro ops Q S m (listed.setIfInBounds i true) a' w') a w
section
variable {S:Array Bool→World→Prop}
theorem Hz:∀ (m:Nat) (listed:Array Bool) (a:Act) (w:World),Any P ro ops Q S m listed a w→wpAnyIn (FW ro) 0 P .any ops Q m listed a w
 | 0,_,_,_,h=>h
 | m+1,_,_,_,h=>⟨h.1,λi hi=>wpOpIn_mono (λa' w' h'=>Hz m _ a' w' h'.2) (h.2 i hi)⟩
theorem Dt {S':Array Bool→World→Prop} (p:Array Bool→Prop) (hp:∀ l i,p l→p (l.setIfInBounds i true)) (hS:∀ l w,p l→S' l w→S l w):∀ (m:Nat) (listed:Array Bool) (a:Act) (w:World),p listed→Any P ro ops Q S' m listed a w→Any P ro ops Q S m listed a w
 | 0,_,_,_,_,h=>h
 | m+1,_,_,_,h0,h=>⟨h.1,λi hi=>wpOpIn_mono (λa' w' h'=>⟨hS _ _ (hp _ i h0) h'.1,Dt p hp hS m _ a' w' (hp _ i h0) h'.2⟩) (h.2 i hi)⟩
end
theorem Leaves.turn (hi:ops[i]? =some oi) (hn:gu oi=true) (hl:Leaves P ops S oi v a) (hS:S w) (h:K (a.put oi.dst v) w):uF P ro ops Q i K a w:=by
 rcases hl with⟨h1,h2⟩ | ⟨h1,rfl⟩
 ·exact IM hi hn h1 (h2 w hS) h
 ·exact IP hi h1 h
theorem HE (hj:ops[j]? =some oj) (hn:gu oj=true) (hap:oi.apart ops oj=true) (hsi:∀ cs b,oi.op≠ .select cs b) (hsj:∀ cs b,oj.op≠ .select cs b) (hQ:∀ c a d v w,Q (.panic c) (a.put d v) w→Q (.panic c) a w)
  (hl:Leaves P ops S oi v a) (h:uF P ro ops Q j K (a.put oi.dst v) w):uF P ro ops Q j (λa' w'=>Leaves P ops S oi v a'∧K (a'.put oi.dst v) w') a w:=by
 obtain⟨h1,h2,h3⟩:=Oper.apart_spec hap
 have stay:∀ u,Leaves P ops S oi v (a.put oj.dst u):=λu=>by
  unfold Leaves
  rw[execOp_put oi hsi a oj.dst u h3,wanted_put oi a oj.dst u h3];exact hl
 have move:∀ u w',K ((a.put oi.dst v).put oj.dst u) w'→Leaves P ops S oi v (a.put oj.dst u)∧K ((a.put oj.dst u).put oi.dst v) w':=λu w' hk=>⟨stay u,by rw[← Act.put_comm a v u h2];exact hk⟩
 unfold uF wpOpIn at h ⊢
 simp only[hj]at h ⊢
 rw[wanted_put oj a oi.dst v h1]at h
 by_cases hw:Region.wanted oj (yielded ops a.tmps)=true
 ·rw[if_pos hw]at h ⊢
  refine⟨λ_ _=>trivial,?_⟩
  have h:=h.2
  have e1:∀ ρ,oj.semAt (FW ro).round ρ=execOp ρ oj:=xz hn _
  rw[e1,execOp_put oj hsj a oi.dst v h1]at h
  rw[e1]
  generalize (execOp a.eval oj).run P w=r at h ⊢
  cases r with
  | halt x w'=>cases x<;>first | exact h | exact hQ _ _ _ _ _ h
  | ok x w'=>
   cases x with
   | value u=>exact move u w' h
   | skip=>exact move undef w' h
   | defer d=>
    have h':K (({ (a.put oi.dst v)with defers:=d::(a.put oi.dst v).defers } :Act).put oj.dst undef) w':=h
    refine⟨?_,?_⟩
    ·show Leaves P ops S oi v (({ a with defers:=d::a.defers } :Act).put oj.dst undef)
     have:=stay undef
     unfold Leaves at this ⊢
     have e2:(({ a with defers:=d::a.defers } :Act).put oj.dst undef).tmps=(a.put oj.dst undef).tmps:=by cases oj.dst<;>rfl
     have e3:(({ a with defers:=d::a.defers } :Act).put oj.dst undef).eval=(a.put oj.dst undef).eval:=by funext x;cases x<;>simp[Act.eval,e2]
     rw[e2,e3];exact this
    ·have e2:((({ a with defers:=d::a.defers } :Act).put oj.dst undef).put oi.dst v)=(({ (a.put oi.dst v)with defers:=d::(a.put oi.dst v).defers } :Act).put oj.dst undef):=by
      rw[← Act.put_comm _ v undef h2];cases oi.dst<;>rfl
     rw[e2];exact h'
   | enter f args=>exact⟨h.1,h.2.mono λe w'' he=>by cases e with | returned u=>exact move u w'' he | panicked c=>exact hQ _ _ _ _ _ he | outgrown=>exact he⟩
   | row r args=>exact⟨h.1,h.2.mono λu w'' he=>move u w'' he⟩
   | round l f tmps assign body=>exact⟨h.1,h.2.mono λe w'' he=>by cases e with | returned u=>exact move u w'' he | panicked c=>exact hQ _ _ _ _ _ he | outgrown=>exact he⟩
   | _=>exact h
 ·rw[if_neg hw]at h ⊢
  exact⟨λ_ _=>trivial,move undef w h.2⟩
theorem Bx {S:Array Bool→World→Prop} (hi:ops[i]? =some oi) (hsel:∀ (j:Nat) (o:Oper) cs b,ops[j]? =some o→o.op≠ .select cs b) (hnd:∀ (j:Nat) (o:Oper),ops[j]? =some o→gu o=true) (hQ:∀ c a d v w,Q (.panic c) (a.put d v) w→Q (.panic c) a w)
  (p:Array Bool→Prop) (hp:∀ l j,p l→j∈Region.ready .any ops l→l.getD i true=false→p (l.setIfInBounds j true)) (hSi:∀ l w,S (l.setIfInBounds i true) w↔S l w):
  ∀ (m:Nat) (listed:Array Bool) (a:Act) (w:World),(∀ j oj,ops[j]? =some oj→j≠i→listed.getD j true=false→(∀ e∈oj.after,Region.binds .any e=true→e.on≠i)→oi.apart ops oj=true)→
   i∈Region.ready .any ops listed→p listed→Leaves P ops (λw=>∃ l,p l∧S l w) oi v a→S listed w→Any P ro ops Q S m (listed.setIfInBounds i true) (a.put oi.dst v) w→Any P ro ops Q S (m+1) listed a w:=by
 intro m
 induction m with
 | zero=>
  intro listed a w _ hr hpl hl hS H
  refine⟨λh=>absurd hr (by rw[h];simp),λj hj=>?_⟩
  rcases Decidable.em (j=i)with rfl | hji
  ·exact hl.turn hi (hnd _ _ hi) ⟨_,hpl,hS⟩ ⟨(hSi _ _).2 hS,H⟩
  ·exact absurd (ready_mono hj hji) (by rw[H.1];simp)
 | succ m ih=>
  intro listed a w hfree hr hpl hl hS H
  refine⟨λh=>absurd hr (by rw[h];simp),λj hj=>?_⟩
  rcases Decidable.em (j=i)with rfl | hji
  ·exact hl.turn hi (hnd _ _ hi) ⟨_,hpl,hS⟩ ⟨(hSi _ _).2 hS,H⟩
  obtain⟨hun,oj,hoj,hafter⟩:=mem_ready.1 hj
  have hwait:∀ e∈oj.after,Region.binds .any e=true→e.on≠i:=λe he hb heq=>by
   have h1:=hafter e he hb
   have h0:=(mem_ready.1 hr).1
   rw[heq]at h1
   rcases Nat.lt_or_ge i listed.size with h' | h'
   ·simp[h']at h0 h1;rw[h0]at h1;cases h1
   ·simp[Array.getElem?_eq_none h']at h1
  have hsw:=HE hoj (hnd _ _ hoj) (hfree j oj hoj hji hun hwait) (λcs b=>hsel i oi cs b hi) (λcs b=>hsel j oj cs b hoj) hQ hl (H.2 j (ready_mono hj hji))
  refine wpOpIn_mono (λa' w' hk=>?_) hsw
  obtain⟨hl',hS',hk⟩:=hk
  rw[Array.setIfInBounds_comm _ _ (Ne.symm hji)]at hS' hk
  refine⟨(hSi _ _).1 hS',ih _ a' w' (λk ok hk hki hku hkw=>?_) (ready_mono hr (Ne.symm hji)) (hp _ _ hpl hj (mem_ready.1 hr).1) hl' ((hSi _ _).1 hS') hk⟩
  refine hfree k ok hk hki ?_ hkw
  rcases Decidable.em (j=k)with rfl | hjk
  ·exact hun
  ·rwa [getD_set_ne true hjk]at hku
end
end Go.Vc
