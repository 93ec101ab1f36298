import Derived.Test.YtmhoikfoogemnaaGreatDoorMLfZ
namespace Go.Vc
open Go Go.RowKit Go.Proofs
set_option linter.unusedVariables false
theorem ca {α:Type _} (a:α) (s t:List α):a::s++t=a::(s++t):=rfl
theorem yQ {D:NP} {w:World} {ad:Addr} {a b:List Value} (h:a=b) (k:CA D w ad a):CA D w ad b:=h▸k
theorem na {α:Type _} (t:List α):[]++t=t:=rfl
section
variable {ro:Ro} {n:Fr} {Kn:Act→World→Prop} {Ke:Nat→Act→World→Prop} {Kr:Act→World→Prop} {env:kq} {w w0:World}
variable {ops:Array Oper} {rest:List Oper} {o:Oper} {v:Value} {d:Nat}
variable {α β:Type} {a b:Int} {T0:TypeId} {X:Ending→World→Prop} {C0 F C1 F1 C:NP} {os:List MO} {cl:List Cl}
abbrev Hk (C0 F:NP) (w0:World) (C:NP) (w:World) (C1 F1:NP) (os:List MO) (cl:List Cl):Prop:=∀ (C1':NP) (w':World) (sl':List MO) (cl1:List Cl),Bun C1 F1 w C1' w' sl' cl1→∃ C',Sp (Dj F C) w (Dj F C') w'∧Bun C0 F w0 C' w' (sl'++os) (cl1++cl)
theorem ky {r:bk β} (hk:Hk C0 F w0 C w C1 F1 os cl):∀ (a b:Int) (e:Ending) (w':World),r= .pan a b→(e= .panicked [pe T0 a b]∧∃ C',Bun C1 F1 w C' w' [] [])→
  ∃ ch,e= .panicked ch∧(Ro.pan fun e w=>X e w∨∃ pa pn,r= .pan pa pn∧e= .panicked [pe T0 pa pn]∧∃ C,Bun C0 F w0 C w [] []).kp ch w':=by
 rintro a b e w' rfl ⟨rfl,C_,hB⟩
 obtain⟨C9,-,hI⟩:=hk _ _ _ _ hB
 exact⟨_,rfl,ib (.inr ⟨_,_,rfl,rfl,_,hI.arr .n trivial⟩)⟩
theorem dY {m:Option (bk α)} {k:α→Option (bk β)} {r:bk β} {A:α→Ending→World→Prop} {B:Int→Int→Ending→World→Prop} {f:FuncId} {args:Array Value}
  (h:pb m k=some r) (hc:∀ q,m=some q→Calls Tryz.prog f args w fun e w'=>(∃ x,q= .ret x∧A x e w')∨∃ a b,q= .pan a b∧B a b e w')
  (hp:∀ a b e w',r= .pan a b→B a b e w'→∃ ch,e= .panicked ch∧ro.kp ch w') (hr:m0 Tryz.prog n env o w (.ok (.enter f args) w))
  (hn:∀ x,m=some (.ret x)→k x=some r→∀ e w',A x e w'→∃ v,e= .returned v∧eN Tryz.prog ro n ops Kn Ke Kr rest ((d,v)::env) w')
  (hg:my n env ops o true:=by exact gn) (hd:o.dst=some d:=by rfl) (hds:n.ds=[]:=by rfl):eN Tryz.prog ro n ops Kn Ke Kr (o::rest) env w:=by
 rcases ii h with⟨x,h1,h2⟩ | ⟨a,b,h1,h2⟩
 ·exact aE hg hd hr ((hc _ h1).mono fun e w' q=>hn x h1 h2 e w' (en (A:=fun x=>A x e w') (B:=fun a b=>B a b e w') q))
 ·exact mz hg hd hr ((hc _ h1).mono fun e w' q=> .inr (hp a b e w' h2 (eo (A:=fun x=>A x e w') (B:=fun a b=>B a b e w') q))) hds
theorem RL.t {t:Nat} {r:List ResultVar} {s:List Value} (h:look env t=some v) (ht:Nat.blt t n.n=true) (k:ResL Tryz.prog n env w r s):ResL Tryz.prog n env w (.tmp t::r) (v::s):=⟨aZ h ht,k⟩
theorem RL.e:ResL Tryz.prog n env w [] []:=trivial
theorem QF {fn:Func} {rs:List ResultVar} {vs:List Value} {v':Value} {cl':List Cl} (hI:Bun d5 F w0 C w os cl) (hr:fn.results.toList=rs:=by rfl) (h:ResL Tryz.prog n env w rs vs:=by repeat (first | exact RL.e | (apply RL.t;(rfl);(rfl)))) (hv:ul vs=v':=by rfl) (hs:Subs cl cl':=by exact trivial) (hn:n.ds=[]:=by rfl):
  ∀ a,Has n a env→vY Tryz.prog fn (fun u w=>Ending.returned u=Ending.returned v'∧Ext w0 w∧AllCl cl' F w) a w:=
 jt (R:=fun u w=>Ending.returned u=Ending.returned v'∧Ext w0 w∧AllCl cl' F w) (rs:=rs) (by subst hr;simp) h (by subst hv;exact⟨rfl,hI.ext0,hI.fin hs⟩) hn
theorem Ei {t:Nat} {y:Operand} (hk:Bs (.load t y)=some (y,true)):(∃ fs,x5 t=some (.struct fs))∨∃ k e,x5 t=some (.array k e):=by
 unfold Bs at hk
 dsimp only at hk
 split at hk
 ·next e=>exact .inl ⟨_,e⟩
 ·next e=>exact .inr ⟨_,_,e⟩
 ·next h1 h2 h3=>injection hk with hk;injection hk with _ hk;cases hk
 ·cases hk
theorem Di {t b T:Nat} {cs:Array Value} {y:Operand} (hb:Blk w b T cs) (hk:Bs (.load t y)=some (y,true)) (hs:Fu t=some cs.size):(loadVar t ⟨b,0,none⟩).run Tryz.prog w= .ok (.agg cs) w:=by
 have h3:(Tryz.prog.info? t).map (·.size)=some cs.toList.length:=ug (Array.length_toList▸hs)
 rcases Ei hk with⟨fs,h1⟩ | ⟨k,e,h1⟩
 ·exact ia (jT h1) rfl h3 (xD hb)
 ·exact ia (jT h1) rfl h3 (xD hb)
theorem RL.g {p t b T:Nat} {cs:Array Value} {y:Operand} {r:List ResultVar} {s:List Value} (h:look env p=some (.pointer (some ⟨b,0,none⟩))) (ht:Nat.blt p n.n=true) (hb:Blk w b T cs) (hk:Bs (.load t y)=some (y,true)) (hs:Fu t=some cs.size) (k:ResL Tryz.prog n env w r s):ResL Tryz.prog n env w (.cell p t::r) (.agg cs::s):=
 ⟨⟨_,aZ h ht,Di hb hk hs⟩,k⟩
theorem QG {fn:Func} {R:Value→World→Prop} {rs:List ResultVar} {vs:List Value} (hR:R (ul vs) w) (hr:fn.results.toList=rs:=by rfl) (h:ResL Tryz.prog n env w rs vs:=by repeat (first | exact RL.e | (apply RL.t;(rfl);(rfl)) | (apply RL.g (y:= .tmp 0);(rfl);(rfl);(exact hI.blk PO);(rfl);(rfl)))) (hn:n.ds=[]:=by rfl):
  ∀ a,Has n a env→vY Tryz.prog fn R a w:=
 jt (R:=R) (rs:=rs) (by subst hr;simp) h hR hn
end
end Go.Vc
