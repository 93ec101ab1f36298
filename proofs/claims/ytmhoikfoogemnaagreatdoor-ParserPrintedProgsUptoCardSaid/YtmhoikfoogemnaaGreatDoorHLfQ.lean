import Derived.Test.YtmhoikfoogemnaaGreatDoorHLfF
import Derived.Deep.Slices
import Derived.WideShapes
import Derived.Carry
import Derived.OpenShut
import Derived.Lib.LaidTab
import Derived.Sort.Grow
import Derived.Deep.Draws
import Derived.RangeFuncRecord
import Derived.MapKept
namespace Go.Vc
open Go Go.RowKit Go.WideShapes
theorem F5 {w:World} {base:Nat} {a:Addr} {n:Nat} {cs:List Value} (h:w.cells? base a n=some cs):cs.length=n∧CellsAt w a cs:=by
 unfold World.cells? at h
 split at h
 ·have hl:=Lib.mapM_length h
  rw[List.length_range]at hl
  refine⟨hl,λj u hu=>?_⟩
  have hj:j<n:=by rw[← hl];exact(List.getElem?_eq_some_iff.1 hu).1
  obtain⟨b,hb,he⟩:=Lib.mapM_at h j j (by simp[hj])
  rw[hu]at hb
  injection hb with hb
  subst hb
  exact he
 ·cases h
theorem LG {α:Type} (p:Nat→α→Prop) (n:Nat) (h:∀ i,i<n→∃ x,p i x):∃ l:List α,l.length=n∧∀ (i:Nat) (hi:i<l.length),p i l[i]:=by
 induction n with
 | zero=>exact⟨[],rfl,λi hi=>absurd hi (by simp)⟩
 | succ n ih=>
  obtain⟨l,hl,hp⟩:=ih λi hi=>h i (by omega)
  obtain⟨x,hx⟩:=h n (by omega)
  refine⟨l++[x],by simp[hl],λi hi=>?_⟩
  rcases Nat.lt_or_ge i l.length with h1 | h1
  ·rw[List.getElem_append_left h1];exact hp i h1
  ·have:i=n:=by simp at hi;omega
   subst this
   rw[List.getElem_append_right h1]
   simp[hl,hx]
theorem CellsAt.flat {w:World} {a:Addr} {k:Nat} (l:List (List Value)) (hk:∀ x∈l,x.length=k) (h:∀ (i:Nat) (hi:i<l.length),CellsAt w (a.add (i * k)) l[i]):CellsAt w a l.flatten:=by
 rcases Nat.eq_zero_or_pos k with h0 | h0
 ·have:l.flatten=[]:=by
   apply List.eq_nil_iff_forall_not_mem.2
   intro x hx
   obtain⟨y,hy,hxy⟩:=List.mem_flatten.1 hx
   have:=hk y hy
   rw[h0]at this
   rw[List.eq_nil_of_length_eq_zero this]at hxy
   cases hxy
  rw[this];intro j u hu;simp at hu
 intro j u hu
 have key:∀ (l:List (List Value)),(∀ x∈l,x.length=k)→∀ j u,l.flatten[j]? =some u→∃ hi:j / k<l.length,(l[j / k])[j % k]? =some u:=by
  intro l
  induction l with
  | nil=>intro _ j u hu;simp at hu
  | cons x l ih=>
   intro hk j u hu
   have hx:=hk x (by simp)
   rw[List.flatten_cons]at hu
   rcases Nat.lt_or_ge j k with hj | hj
   ·rw[List.getElem?_append_left (by omega)]at hu
    refine⟨by rw[Nat.div_eq_of_lt hj];simp,?_⟩
    simp only[Nat.div_eq_of_lt hj,Nat.mod_eq_of_lt hj,List.getElem_cons_zero]
    exact hu
   ·rw[List.getElem?_append_right (by omega),hx]at hu
    obtain⟨h1,h2⟩:=ih (λy hy=>hk y (by simp[hy])) (j - k) u hu
    have e1:j / k=(j - k) / k+1:=by rw[Nat.div_eq_sub_div h0 hj]
    have e2:j % k=(j - k) % k:=Nat.mod_eq_sub_mod hj
    refine⟨by rw[e1];simp;omega,?_⟩
    simp only[e1,e2,List.getElem_cons_succ]
    exact h2
 obtain⟨hi,hx⟩:=key l hk j u hu
 have:=h (j / k) hi (j % k) u hx
 rw[HA,Nat.mul_comm,Nat.div_add_mod]at this
 exact this
abbrev GY (k:IntKind) (n:Int):Prop:=(Lit.int k n).wf=true
abbrev KK (s:List UInt8):Prop:=s.length≤maxLen
abbrev okB (_:Bool):Prop:=True
section
variable {P:Program} {t e:TypeId} {α:Type} {c:Cod α} {ok:α→Prop}
theorem Rels.of_pairs {D:NP} {w:World} {l:List (α×List Value)} (h:∀ q∈l,c.rel D w q.1 q.2):Rels c D w (l.map (·.1)) (l.map (·.2)):=by
 induction l with
 | nil=>trivial
 | cons q l ih=>exact⟨h q (by simp),ih λp hp=>h p (by simp[hp])⟩
theorem CellsAt.lives {w:World} {a:Addr} {l:List Value} (h:CellsAt w a l) (h0:0<l.length):a.block<w.heap.size:=by
 obtain⟨v,hv⟩:∃ v,l[0]? =some v:=⟨l[0],by simp[h0]⟩
 have h1:=h 0 v hv
 rw[Addr.add_zero']at h1
 unfold World.cell? at h1
 by_cases hb:a.block<w.heap.size
 ·exact hb
 ·have:w.heap[a.block]? =none:=by simp;omega
  simp[this]at h1
theorem Qj {w:World} {r:Reach} {base:Nat} {v:Value} (ht:(match P.underlying t with | some (.struct _) | some (.array _ _)=>true | _=>false)=true) (h:Value.okWide P w r base t v):∃ cs,v= .agg cs:=by
 unfold Value.okWide at h
 split at h
 ·obtain⟨cs,h,_⟩:=h;exact⟨cs,h⟩
 ·obtain⟨cs,h,_⟩:=h;exact⟨cs,h⟩
 ·rename_i h1 h2
  split at ht
  ·rename_i h3;exact absurd h3 (h1 _)
  ·rename_i h3;exact absurd h3 (h2 _ _)
  ·cases ht
theorem Gh {name:String} {g:Nat} {k:IntKind} {zs:List Int} {w w':World} (hg:P.globalNamed name=some g) (h:Lib.TabIs P w name k zs) (he:w'.heap[g]? =w.heap[g]?):Lib.TabIs P w' name k zs:=by
 unfold Lib.TabIs World.var? at *
 rw[hg]at *
 simp only[Option.bind_some]at *
 rw[he];exact h
def tabCl {name:String} {g:Nat} (hg:P.globalNamed name=some g) (k:IntKind) (zs:List Int):Cl:=
 ⟨λD w=>Lib.TabIs P w name k zs∧g<w.heap.size∧¬ D g,λhs ⟨h1,h2,h3⟩=>⟨Gh hg h1 (hs.keep _ h2 h3).1,Nat.lt_of_lt_of_le h2 hs.size,(hs.keep _ h2 h3).2⟩⟩
theorem tabCl.start {name:String} {g:Nat} (hg:P.globalNamed name=some g) {k:IntKind} {zs:List Int} {w:World} (h:Lib.TabIs P w name k zs):(tabCl hg k zs).p cH w:=by
 refine⟨h,?_,λh=>h⟩
 unfold Lib.TabIs World.var? at h
 rw[hg]at h
 by_cases hb:g<w.heap.size
 ·exact hb
 ·have e:w.heap[g]? =none:=by simp;omega
  simp[e]at h
theorem Ng {k:IntKind} {n:Int} (h:(Lit.int k n).wf=true):k.min≤n∧n≤k.max:=by
 simpa[Lit.wf,IntKind.has]using h
end
end Go.Vc
namespace Go.Vc
open Go Go.RowKit
def Q9 (r:Nat) (o:Obj):MO where
 inv C _ w:=(∀ k,C k↔k=r)∧w.heap[r]? =some o
 lt h k hk:=by rw[(h.1 k).1 hk];exact(Array.getElem?_eq_some_iff.1 h.2).1
 sp h hc _:=⟨h.1,(hc r ((h.1 r).2 rfl)).trans h.2⟩
abbrev MO.dfr (r:Nat):MO:=Q9 r (.deferred (some []))
abbrev LR (st:LoopState) (pe:Option Code) (fn:FuncId) (tmps:Array Value) (ps:Array Tmp) (assign body:Code) (r:Nat):Loop:=⟨st,pe,fn,tmps,ps,assign,body,r⟩
abbrev MO.loop (l:Nat) (r:Loop):MO:=Q9 l (.loop r)
def Pt (js:List Code):Nat→Option Code
 | 0=>none
 | k+1=>js[k]?
def FJ (fn:FuncId) (tmps:Array Value) (ps:Array Tmp) (assign body:Code) (r:Nat) (js:List Code) (out:Nat):Loop:=
 LR (if(Pt js out).isNone then .ready else .done) (Pt js out) fn tmps ps assign body r
section
variable {P:Program} {C0 F C:NP} {w0 w w':World} {os os':List MO} {cl:List Cl} {f:MO→List MO} {r l:Nat} {o o':Obj} {rc:Loop}
theorem Bun.oat (h:Bun C0 F w0 C w os cl) (ha:At os (Q9 r o) f):w.heap[r]? =some o:=by
 obtain⟨C1,h1,_⟩:=h.look ha;exact h1.2
theorem Bun.newObj (h:Bun C0 F w0 C w os cl) (o:Obj):∃ C',(∀ md,Sp (DM md F C) w (DM md F C') (w.alloc o))∧Bun C0 F w0 C' (w.alloc o) (Q9 w.heap.size o::os) cl:=
 h.new (b:=w.heap.size) (Ext.alloc _) rfl (by simp) λD _=>⟨λ_=>Iff.rfl,heap_alloc_new w o⟩
theorem Bun.putObj (h:Bun C0 F w0 C w os cl) (ha:At os (Q9 r o) f) (o':Obj):∃ C',Sp (Dj F C) w (Dj F C') (w.putObj r o')∧Bun C0 F w0 C' (w.putObj r o') (f (Q9 r o')) cl:=by
 obtain⟨C1,h1,h2,h3⟩:=h.turn ha
 have hlt:r<w.heap.size:=(Array.getElem?_eq_some_iff.1 h1.2).1
 obtain⟨C',h4,h5⟩:=h3 (w.putObj r o') C1 ⟨rfl,rfl,rfl,by simp,λk hk hn=>⟨World.putObj_heap_other λe=>hn ((h1.1 k).2 e),hn⟩,λk hk=>by rw[(h1.1 k).1 hk];simpa using hlt⟩
 exact⟨C',h4,h5 (Q9 r o') ⟨h1.1,World.putObj_heap_same hlt⟩⟩
theorem Bun.shut {ds:List Nat} {K:World→Prop} (h:Bun C0 F w0 C w os cl) (ha:At os (MO.dfr r) f) (hk:∀ C' w',Bun C0 F w0 C' w' (f (Q9 r (.deferred none))) cl→∃ w2,rP P ds w' w2∧K w2):∃ w2,rP P (r::ds) w w2∧K w2:=by
 obtain⟨C',_,h2⟩:=h.putObj ha (.deferred none)
 obtain⟨w2,h3,h4⟩:=hk _ _ h2
 exact⟨w2,⟨_,run_takeDeferred (h.oat ha),h3⟩,h4⟩
theorem rr {K:World→Prop} (hk:K w):∃ w2,rP P [] w w2∧K w2:=⟨w,rfl,hk⟩
end
def StI.loop {σ β:Type} (l:Nat) (rc:Nat→Loop) (os:σ→β→List MO) (cl:σ→β→List Cl):StI (Nat×σ):=
 StI.of (λs b=>MO.loop l (rc s.1)::os s.2 b) (λs b=>cl s.2 b)
section
variable {P:Program} {ro:Ro} {n:Fr} {Kn:Act→World→Prop} {Ke:Nat→Act→World→Prop} {Kr:Act→World→Prop} {env:kW} {w:World}
variable {C0 F C:NP} {w0:World} {os:List MO} {cl:List Cl} {f:MO→List MO} {l r m:Nat} {fn:FuncId} {tmps:Array Value} {ps:Array Tmp} {assign body:Code} {R:Ending→World→Prop}
theorem DE {k:Nat} {c:Code} {Q:Exit→Act→World→Prop} {a:Act} (h:c.wpIn (FW ro.r) 0 P Q a w):c.wpIn (FW ro.r) k P Q a w:=λb ks cs h1 h2 _=>h b ks cs h1 h2 (LT _)
theorem tW {args:List Value} {env1:kW} {js:List Code} {oss:List MO} (hI:Bun C0 F w0 C w (MO.loop l (FJ fn tmps ps assign body r js 0)::oss) cl) (hps:args.length=ps.size)
  (henv:Has ⟨m,[]⟩ { tmps:=(ps.zip args.toArray).foldl (λt (p,v)=>t.setIfInBounds p v) tmps,defers:=[] } env1)
  (h:gH P (.rnd l) ⟨m,[]⟩ assign (λa1 w1=>∃ w2,(Instr.beginRound l).run P w1= .ok () w2∧Code.wpIn (FW (some l)) 0 P body (roundPost P l R) a1 w2) (λ_ _ _=>False) (λ_ _=>False) env1 w):CallV P (.func (.yield l) #[] #[]) args w R:=by
 have hat:w.heap[l]? =some (.loop (LR .ready none fn tmps ps assign body r)):=hI.oat .z
 refine .inr ⟨l,fn,_,assign,body,rfl,run_yield hat (by simpa using hps),λk=>?_⟩
 refine roundIn_of_wpIn (F:=Fence.wide) trivial ?_
 have h1:=h _ henv
 refine DE (ro:= .rnd l) (k:=k) (wpIn_mono h1 λe a w' q=>?_)
 cases e with
 | normal=>obtain⟨w2,h2,h3⟩:=q;exact⟨w2,h2,DE (ro:= .rnd l) (k:=k) h3⟩
 | exit id=>exact q
 | ret=>exact q
 | panic ch=>exact q.2.elim
 | goto l=>exact q.elim
 | outgrown=>exact q.elim
theorem Subs.up {c:Cl} {L L':List Cl} (h:Subs L L'):Subs (c::L) L':=by
 induction L' with
 | nil=>trivial
 | cons a L' ih=>exact⟨.s h.1,ih h.2⟩
theorem Subs.refl (L:List Cl):Subs L L:=by
 induction L with
 | nil=>trivial
 | cons a L ih=>exact⟨.z,ih.up⟩
def Mi (P:Program) (l:Nat) (R:Ending→World→Prop) (jump:Option Code) (w3:World):Prop:=∃ v w4,(Instr.endRound l jump).run P w3= .ok v w4∧R (.returned v) w4
theorem Cp {js:List Code} (hI:Bun C0 F w0 C w os cl) (ha:At os (MO.loop l (FJ fn tmps ps assign body r js 0)) f)
  (h:∀ C' w2,Bun C0 F w0 C' w2 (f (MO.loop l (LR .busy none fn tmps ps assign body r))) cl→
   gH P (.rnd l) n body (λ_ w3=>Mi P l R none w3) (λid _ w3=>Mi P l R (some (.exit id)) w3) (λ_ w3=>Mi P l R (some .ret) w3) env w2):
  ∀ a,Has n a env→∃ w2,(Instr.beginRound l).run P w= .ok () w2∧Code.wpIn (FW (some l)) 0 P body (roundPost P l R) a w2:=λa hA=>by
 obtain⟨C',_,h2⟩:=hI.putObj ha (.loop (LR .busy none fn tmps ps assign body r))
 have hat:w.heap[l]? =some (.loop (LR .ready none fn tmps ps assign body r)):=hI.oat ha
 refine⟨_,run_beginRound hat rfl,wpIn_mono (h C' _ h2 a hA) λe a' w' q=>?_⟩
 cases e with
 | normal=>exact q
 | exit id=>exact q
 | ret=>exact q
 | panic ch=>exact q.2.elim
 | goto l=>exact q.elim
 | outgrown=>exact q.elim
theorem ut {σ β:Type} {js:List Code} {oS:σ→β→List MO} {cS:σ→β→List Cl} {out:Nat} {s:σ} {b:β} {jump:Option Code} (hI:Bun C0 F w0 C w (MO.loop l (LR .busy none fn tmps ps assign body r)::oS s b) (cS s b)) (hj:Pt js out=jump)
  (h:∀ C' w2,Bun C0 F w0 C' w2 [MO.st (StI.loop l (FJ fn tmps ps assign body r js) oS cS) (out,s)] []→R (.returned (.bool jump.isNone)) w2):Mi P l R jump w:=by
 have hat:w.heap[l]? =some (.loop (LR .busy none fn tmps ps assign body r)):=hI.oat .z
 obtain⟨C',_,h2⟩:=hI.putObj .z (.loop (LR (if jump.isNone then .ready else .done) jump fn tmps ps assign body r))
 subst hj
 refine⟨_,_,run_endRound _ hat,h C' _ ?_⟩
 have h3:=Bun.mkst (os:=λ(s:Nat×σ) b=>MO.loop l (FJ fn tmps ps assign body r js s.1)::oS s.2 b) (cl:=λ(s:Nat×σ) b=>cS s.2 b) (s:=(out,s)) (b:=b) (L:=cS s b) h2 (Subs.refl _)
 exact h3.subs trivial
theorem tY {gf:FuncId} {cap:List Value} {g:Operand} (js:List Code) (hI:Bun C0 F w0 C w os cl) (hg:Ev n env g (.func (.func gf) #[] cap.toArray)) (hok:dv P gf)
  (h:∀ (l r:Nat) (fn:FuncId) (tmps:Array Value) (rc:Nat→Loop) (_:rc=FJ fn tmps ps assign body r js) (C':NP) (w':World),(∀ n':Fr,n'.n=n.n→n'.ds=[]→Has n' { tmps:=tmps,defers:=[] } env)→
   Bun C0 F w0 C' w' (MO.loop l (rc 0)::MO.dfr r::os) cl→
   Calls P gf (.func (.yield l) #[] #[]::cap).toArray w' λe w2=>∃ v,e= .returned v∧∃ jump w3,(Instr.endLoop l).run P w2= .ok jump w3∧
    match jump with
    | none=>∀ a,Has ⟨n.n,r::n.ds⟩ a env→Kn a w3
    | some c=>gH P .plain ⟨n.n,r::n.ds⟩ c Kn Ke Kr env w3):gH P .plain n (.rangeFunc g ps assign body) Kn Ke Kr env w:=λa ha=>by
 refine wpIn_rangeFunc λfn _=>?_
 obtain⟨Ca,_,hIa⟩:=hI.newObj (.deferred (some []))
 obtain⟨Cb,_,hIb⟩:=hIa.newObj (.loop (LR .ready none fn a.tmps ps assign body w.heap.size))
 have hx:=h _ _ fn a.tmps _ rfl Cb _ (λn' e1 e2=>⟨by rw[e2];rfl,ha.sz.trans e1.symm,λt v hl ht=>ha.rd t v hl (e1▸ht)⟩) hIb
 have hsz:(w.alloc (.deferred (some []))).heap.size=w.heap.size+1:=by simp
 let W:=(w.alloc (.deferred (some []))).alloc (.loop (LR .ready none fn a.tmps ps assign body w.heap.size))
 refine⟨w.heap.size+1,[{ target:= .collected w.heap.size,args:=#[] }],W,Deferred.mk (Target.fn (Fn.func gf) cap.toArray) #[Value.func (Fn.yield (w.heap.size+1)) #[] #[]],W,gf,#[Value.func (Fn.yield (w.heap.size+1)) #[] #[]]++cap.toArray,W,run_enterLoop_outer _ _ _ _ _,?_,λ_ _=>trivial,?_,wm,?_⟩
 ·simp only[resolve,hg a ha]
  simp[go_sem]
 ·simp[invoke,rW hok]
 ·rw[hsz]at hx
  have e1:(#[Value.func (Fn.yield (w.heap.size+1)) #[] #[]]++cap.toArray:Array Value)=(Value.func (Fn.yield (w.heap.size+1)) #[] #[]::cap).toArray:=by simp
  rw[e1]
  refine vu (hx.mono ?_)
  rintro e w2 ⟨v,rfl,jump,w3,h1,h2⟩
  refine⟨jump,w3,h1,?_⟩
  cases jump with
  | none=>exact h2 _ ⟨by simp[Ed,ha.df],ha.sz,ha.rd⟩
  | some c=>exact h2 _ ⟨by simp[Ed,ha.df],ha.sz,ha.rd⟩
theorem wU {js:List Code} {out:Nat} {K:Option Code→World→Prop} (hI:Bun C0 F w0 C w os cl) (ha:At os (MO.loop l (FJ fn tmps ps assign body r js out)) f)
  (h:∀ C' w3,Bun C0 F w0 C' w3 (f (MO.loop l (LR .exhausted (Pt js out) fn tmps ps assign body r))) cl→K (Pt js out) w3):∃ jump w3,(Instr.endLoop l).run P w= .ok jump w3∧K jump w3:=by
 obtain⟨C',_,h2⟩:=hI.putObj ha (.loop (LR .exhausted (Pt js out) fn tmps ps assign body r))
 exact⟨_,_,run_endLoop (hI.oat ha) (by simp only[FJ];split<;>simp),h C' _ h2⟩
theorem vk {tmps:Array Value} {n':Fr} {p:Tmp} {v:Value} (h:Has n' { tmps:=tmps,defers:=[] } env):Has n' { tmps:=((#[p]:Array Tmp).zip ([v].toArray)).foldl (λt (p,v)=>t.setIfInBounds p v) tmps,defers:=[] } ((p,v)::env):=by
 have:=h.put p v
 simpa[Act.put]using this
end
end Go.Vc
namespace Go.Vc
open Go Go.RowKit
structure KC (κ:Type) [DecidableEq κ] where
 enc:κ→Value
 d:TypeDesc
 key:∀ a,MapKept.IsKey d (enc a)
 same:∀ a b,Instr.sameNow d (enc a) (enc b)=some (decide (a=b))
 bits:∀ a,Instr.sameBits 10000 (enc a) (enc a)=true
section
variable {κ β:Type} [DecidableEq κ]
end
section
variable {κ β:Type} [DecidableEq κ] {kc:KC κ} {ev:β→Value} {m:List (κ×β)}
variable {P:Program} {ro:Ro} {n:Fr} {Kn:Act→World→Prop} {Ke:Nat→Act→World→Prop} {Kr:Act→World→Prop} {env:kW} {w:World}
variable {ops:Array Oper} {rest:List Oper} {rs:Tr} {fl:Fl} {o:Oper} {i d:Nat} {v:Value} {x y z:Operand} {t kt et:TypeId} {md:Bool} {X:List Nat}
variable {C0 F C:NP} {w0:World} {os:List MO} {cl:List Cl} {f:MO→List MO} {b:Nat}
end
end Go.Vc
namespace Go.Vc
open Go Go.RowKit
section
variable {P:Program} {ro:Ro} {n:Fr} {Kn:Act→World→Prop} {Ke:Nat→Act→World→Prop} {Kr:Act→World→Prop} {env:kW} {w:World}
variable {ops:Array Oper} {rest:List Oper} {rs:Tr} {fl:Fl} {o:Oper} {i d:Nat} {v:Value} {x y z:Operand} {t t' e:TypeId} {md:Bool} {X:List Nat}
variable {C0 F C:NP} {w0:World} {os os':List MO} {cl:List Cl} {f:MO→List MO} {b N:Nat} {T:TypeId} {α:Type} {enc:α→Value} {xs ys:List α} {c:Cod α} {A A2:Option Addr}
theorem DZ {D:NP} (hc:∀ D w u,c.rel D w u [enc u]):∀ xs:List α,Rels c D w xs (xs.map λu=>[enc u])
 | []=>trivial
 | _ ::r=>⟨hc _ _ _,DZ hc r⟩
theorem Es:∀ xs:List α,(xs.map λu=>[enc u]).flatten=xs.map enc
 | []=>rfl
 | u::r=>by simp[Es r]
end
end Go.Vc
namespace Go.Vc
open Go Go.RowKit
section
variable {P:Program} {ro:Ro} {n:Fr} {Kn:Act→World→Prop} {Ke:Nat→Act→World→Prop} {Kr:Act→World→Prop} {env:kW} {w:World}
variable {ops:Array Oper} {o:Oper} {i d:Nat} {v:Value} {S:Sn} {rest:Tr}
theorem Kv {S2:World→Prop} (hx:S.x.contains i=true) (hw:S2 w) (hin:Nat.blt i ops.size=true) (h:di P ro n ops Kn Ke Kr ⟨[],S2⟩ (.c (i,.t) rest) env w):di P ro n ops Kn Ke Kr S (.c (i,.t) rest) env w:=λa listed h1 h2 _ ha _=>by
 have h4:uF P ro.r ops (vD ro Kn Ke Kr) i (λa' w'=>Sn.f ⟨[],S2⟩ (listed.setIfInBounds i true) w'∧Any P ro.r ops (vD ro Kn Ke Kr) (Sn.f ⟨[],S2⟩) rest.len (listed.setIfInBounds i true) a' w') a w:=h a listed h1 h2 rfl ha hw
 show uF P ro.r ops (vD ro Kn Ke Kr) i (λa' w'=>S.f (listed.setIfInBounds i true) w'∧Any P ro.r ops (vD ro Kn Ke Kr) S.f rest.len (listed.setIfInBounds i true) a' w') a w
 simp only[d6,Bool.and_eq_true]at h2
 have hj:i∈Region.ready .any ops listed:=by simpa using h2.1.1
 have hun:=(mem_ready.1 hj).1
 have hlt:i<listed.size:=by
  rcases Nat.lt_or_ge i listed.size with h' | h'
  ·exact h'
  ·simp[Array.getElem?_eq_none h']at hun
 have _:=hin
 refine wpOpIn_mono (λa' w' ⟨_,h5⟩=>?_) h4
 have hmem:i∈S.x:=by simpa using hx
 have key:∀ l:Array Bool,l.getD i false=true→∀ w,¬ S.free l∨S.f l w:=λl hl w=> .inl λhfr=>by
  unfold Sn.free at hfr
  rw[List.any_eq_false]at hfr
  exact hfr i hmem hl
 have hset:(listed.setIfInBounds i true).getD i false=true:=by simp[hlt]
 refine⟨λhfr=>absurd hfr ((key _ hset w').elim id λh6=>λhfr=>by unfold Sn.free at hfr;rw[List.any_eq_false]at hfr;exact hfr i hmem hset),?_⟩
 refine Dt (λl=>l.getD i false=true) (λl i' hl=>?_) (λl w hl _ hfr=>?_) _ _ _ _ hset h5
 ·by_cases e:i'=i
  ·subst e
   have:i'<l.size:=by
    rcases Nat.lt_or_ge i' l.size with h' | h'
    ·exact h'
    ·simp[Array.getElem?_eq_none h']at hl
   simp[this]
  ·simp only[Array.getD_eq_getD_getElem?]at hl ⊢
   rw[Array.getElem?_setIfInBounds_ne e];exact hl
 ·unfold Sn.free at hfr;rw[List.any_eq_false]at hfr;exact absurd hl (hfr i hmem)
theorem dC {F C D:NP} {X:List Nat} (hx:X.contains i=true) (hin:Nat.blt i ops.size=true) (h:di P ro n ops Kn Ke Kr (SN [] (DM true F C) w) (.c (i,.t) rest) env w):di P ro n ops Kn Ke Kr (SN X D w) (.c (i,.t) rest) env w:=
 Kv (S:=SN X D w) (S2:=SX (DM true F C) w) hx Q7 hin h
end
section
variable {P:Program} {ro:Ro} {n:Fr} {Kn:Act→World→Prop} {Ke:Nat→Act→World→Prop} {Kr:Act→World→Prop} {env:kW} {w:World}
variable {ops:Array Oper} {rest:List Oper} {rs:Tr} {fl:Fl} {o:Oper} {i d:Nat} {v u:Value} {x y z:Operand} {t t' e:TypeId} {md:Bool} {X:List Nat}
variable {C0 F C:NP} {w0:World} {os:List MO} {cl:List Cl} {f:MO→List MO} {α:Type} {c:Cod α} {A A2:Option Addr} {xs ys:List α}
theorem Jh {β:Type} [Inhabited β] {g:FuncId} {args:Array Value} {b:Bool} (V:β→Value) (Ψ:β→World→Prop) (hg:oC n env ops o b) (hd:o.dst=some d) (hr:b=true→nA P n env o w (.ok (.enter g args) w))
  (hc:b=true→Calls P g args w λe w'=>∃ x,e= .returned (V x)∧Ext w w'∧Ψ x w')
  (h:∀ x w',Ext w w'→(b=true→Ψ x w')→dD P ro n ops Kn Ke Kr rest ((d,gv b (V x))::env) w'):dD P ro n ops Kn Ke Kr (o::rest) env w:=
 BT (λu w'=>∃ x,u=V x∧Ext w w'∧Ψ x w') hg hd hr (λhb=>(hc hb).mono λe w' ⟨x,h1,h2⟩=>⟨V x,h1,x,rfl,h2⟩) λu w' h1 h2=>by
  cases b with
  | true=>obtain⟨x,rfl,hx,hp⟩:=h1 rfl;exact h x w' hx λ_=>hp
  | false=>rw[h2 rfl];exact h default w .rfl' λhb=>by cases hb
end
end Go.Vc
namespace Go.Vc
open Go Go.RowKit
abbrev vi (x:Int):Value:= .int .i64 x
abbrev vs (A:Option Addr) (n c:Nat):Value:= .slice A n c
abbrev vb (b:Bool):Value:= .bool b
abbrev vp (b k:Nat):Value:= .pointer (some ⟨b,k,none⟩)
section
variable {P:Program} {ro:Ro} {n:Fr} {Kn:Act→World→Prop} {Ke:Nat→Act→World→Prop} {Kr:Act→World→Prop} {env:kW} {w:World}
variable {ops:Array Oper} {rest:List Oper} {rs:Tr} {fl:Fl} {o:Oper} {i d t:Nat} {v:Value} {S:Sn}
theorem et (h:look env t=some v:=by rfl) (ht:Nat.blt t n.n=true:=by rfl):Ev n env (.tmp t) v:=aT h ht
theorem gn {ops:Array Oper} (hg:o.guard=none:=by rfl):oC n env ops o true:=bD hg
theorem sq (hr:hH P n env o v w) (h:dD P ro n ops Kn Ke Kr rest ((d,v)::env) w) (hg:o.guard=none:=by rfl) (hd:o.dst=some d:=by rfl):dD P ro n ops Kn Ke Kr (o::rest) env w:=E6 (bD hg) hd hr h
theorem sw {f:FuncId} {fn:Func} {c:Code} {l:List Value} {m:Nat} {K:Ending→World→Prop} (hf:P.funcs[f]? =some fn) (hb:fn.body=some c) (hn:fn.ntmps=m) (hl:Nat.ble l.length m=true)
  (h:gH P .plain ⟨m,[]⟩ c (yc P fn λv w=>K (.returned v) w) (λ_ _ _=>False) (yc P fn λv w=>K (.returned v) w) (ue 0 l) w):Calls P f l.toArray w K:=
 Ly (enter hf hb hn hl h) λ_ _ h=>h
theorem aS {c:Code} (h:gH P ro n c Kn Ke Kr env w):∀ a,Has n a env→Code.wpIn (FW ro.r) 0 P c (vD ro Kn Ke Kr) a w:=λa ha=>h a ha
variable {ops':Array Oper} {Kn':Act→World→Prop} {Ke':Nat→Act→World→Prop} {Kr':Act→World→Prop}
theorem nk {c:Code} (h:gH P ro n c Kn' Ke' Kr' env w):dD P ro n ops (λa w=>Code.wpIn (FW ro.r) 0 P c (vD ro Kn' Ke' Kr') a w) Ke Kr [] env w:=aG (aS h)
theorem sr {y:Code} {id:Nat} {l:List Oper} (h:dD P ro n l.toArray (λa w=>Code.wpIn (FW ro.r) 0 P y (vD ro Kn Ke Kr) a w) Ke Kr l env w) (hn:l.all gu=true:=by rfl):gH P ro n (.seq (.region id l.toArray false) y) Kn Ke Kr env w:=aj (ip hn h)
theorem sm (h:dD P ro n ops Kn Ke Kr rest ((d,v)::env) w) (ho:o.op= .move (.tmp t):=by rfl) (hl:look env t=some v:=by rfl) (ht:Nat.blt t n.n=true:=by rfl) (hg:o.guard=none:=by rfl) (hd:o.dst=some d:=by rfl):dD P ro n ops Kn Ke Kr (o::rest) env w:=E6 (bD hg) hd (fC ho (aT hl ht)) h
theorem sa (h:dD P ro n ops Kn Ke Kr rest ((d,v)::env) w) (ho:o.op= .assign (.tmp t):=by rfl) (hl:look env t=some v:=by rfl) (ht:Nat.blt t n.n=true:=by rfl) (hg:o.guard=none:=by rfl) (hd:o.dst=some d:=by rfl):dD P ro n ops Kn Ke Kr (o::rest) env w:=E6 (bD hg) hd (cx ho (aT hl ht)) h
theorem xp {v:Value} (h:dD P ro n ops Kn Ke Kr rest ((d,v)::env) w) (ho:o.op= .assign (.const v):=by rfl) (hg:o.guard=none:=by rfl) (hd:o.dst=some d:=by rfl):dD P ro n ops Kn Ke Kr (o::rest) env w:=E6 (bD hg) hd (cx ho ah) h
end
section
variable {α:Type} {c:Cod α} {e:TypeId} {A:Option Addr} {m cap:Nat} {xs:List α} {C0 F C:NP} {w0 w:World} {os:List MO} {cl:List Cl} {f:MO→List MO}
variable {P:Program} {ro:Ro} {n:Fr} {Kn:Act→World→Prop} {Ke:Nat→Act→World→Prop} {Kr:Act→World→Prop} {env:kW}
variable {ops:Array Oper} {rs:Tr} {fl:Fl} {o:Oper} {i d t te:Nat} {v u:Value} {x fx:Operand} {ys:List Operand} {args:List Value} {ts:Array TypeId} {X:List Nat} {md:Bool}
end
section
variable {C0 F C C':NP} {w0 w w':World} {os os':List MO} {cl cl':List Cl}
variable {P:Program} {ro:Ro} {n:Fr} {Kn:Act→World→Prop} {Ke:Nat→Act→World→Prop} {Kr:Act→World→Prop} {env:kW} {ops:Array Oper} {rs:Tr} {X:List Nat} {md:Bool}
end
end Go.Vc
