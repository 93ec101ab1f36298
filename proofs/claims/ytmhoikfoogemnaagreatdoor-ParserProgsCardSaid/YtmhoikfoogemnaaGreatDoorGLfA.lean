import Derived.Test.YtmhoikfoogemnaaGreatDoorGLfR
namespace Go.Vc
open Go Go.RowKit
section
variable {P:Program} {ro:Ro} {n:Fr} {Kn:Act→World→Prop} {Ke:Nat→Act→World→Prop} {Kr:Act→World→Prop} {env:lw} {w:World}
variable {ops:Array Oper} {rest:List Oper} {rs:Tr} {fl:Fl} {o:Oper} {i d:Nat} {v:Value} {x y z:Operand} {t e:TypeId} {md:Bool} {X:List Nat}
variable {C0 F C:NP} {w0:World} {os:List MO} {cl:List Cl} {f:MO→List MO} {α:Type} {c:Cod α} {A A2:Option Addr} {xs ys:List α}
theorem Bun.newRow {cs:Array Value} {cap:Nat} {css:List (List Value)} (hI:Bun C0 F w0 C w os cl) (hr:Rels c (Dj F C) w xs css) (hle:xs.length≤cap) (hcap:cap≤maxLen) (hsz:cs.size=cap * c.n) (htake:cs.toList.take (xs.length * c.n)=css.flatten):
  ∃ C',(∀ md,Sp (DM md F C) w (DM md F C') (w.alloc (.cells cs e)))∧Bun C0 F w0 C' (w.alloc (.cells cs e)) (LV c e (some ⟨w.heap.size,0,none⟩) cap xs::os) cl:=
 hI.new (b:=w.heap.size) (Ext.alloc _) rfl (by simp) λD hs=> .inr ⟨css,hr.sp hs,⟨hr.flat,.inr ⟨w.heap.size,cap,cs,rfl,Nat.zero_le _,heap_alloc_new w _,hle,hcap,hsz,htake⟩⟩,λk=>⟨λh=>by subst h;rfl,λh=>by injection h with h;exact h.symm⟩⟩
theorem Bun.nil (hI:Bun C0 F w0 C w os cl) (c:Cod α) (e:TypeId) (A:Option Addr):Bun C0 F w0 C w (LV c e A 0 []::os) cl:=
 ⟨hI.st,⟨λ_=>False,C,.inl ⟨rfl,rfl,λ_ h=>h⟩,hI.mo,λ_ h=>h.elim,λ_ h=>h.elim,λ_ h=>h⟩,hI.cl,hI.dj,hI.fl⟩
theorem I3 {len bytes:Nat} {zv:Value} {ps:List (Nat×Operand)} {vs:List (Nat×Value)} {cs:Array Value} {css:List (List Value)} (hI:Bun C0 F w0 C w os cl) (hg:oU n env ops o true) (hd:o.dst=some d) (ho:o.op= .buildSlice t len ps.toArray) (ht:P.underlying t=some (.slice e)) (hi:re P e c.n bytes zv) (hlen:Nat.ble (len * c.n) 16777216=true)
  (hp:EvL n env ps vs) (hf:Instr.fill (λi=>some (i * c.n,c.n)) ((Array.range (len * c.n)).map (λi=>(if len * c.n=0 then #[]else zv.cells)[i % (if len * c.n=0 then #[]else zv.cells).size]!)) vs=some cs)
  (hr:Rels c (Dj F C) w xs css) (hx:xs.length=len) (hcs:cs.toList=css.flatten) (hl2:Nat.ble len 4294967296=true)
  (h:∀ b C' w',Bun C0 F w0 C' w' (LV c e (some ⟨b,0,none⟩) len xs::os) cl→dM P ro n ops Kn Ke Kr rest ((d,.slice (some ⟨b,0,none⟩) xs.length len)::env) w'):dM P ro n ops Kn Ke Kr (o::rest) env w:=by
 subst hx
 have hl2:=Nat.le_of_ble_eq_true hl2
 have hsz:cs.size=xs.length * c.n:=by rw[← Array.length_toList,hcs,hr.flat]
 obtain⟨C',_,h2⟩:=hI.newRow (e:=e) (cs:=cs) (cap:=xs.length) hr (Nat.le_refl _) (by simp only[maxLen];omega) hsz (by rw[← hsz, ← Array.length_toList,List.take_length,hcs])
 exact Cj hg hd (w':=w.alloc (.cells cs e)) (λa ha=>by
  unfold execOp
  simp only[ho,hp.map ha,Sem.run_bind,ta (w:=w) ht hi hlen hf,Result.andThen_ok,Sem.run_pure]) (h _ _ _ h2)
theorem Kh {len bytes:Nat} {zv:Value} {ps:List (Nat×Operand)} {vs:List (Nat×Value)} {cs:Array Value} {css:List (List Value)} (hI:Bun C0 F w0 C w os cl) (hix:ops[i]? =some o) (hg:oU n env ops o true) (hd:o.dst=some d) (ho:o.op= .buildSlice t len ps.toArray) (ht:P.underlying t=some (.slice e)) (hi:re P e c.n bytes zv) (hlen:Nat.ble (len * c.n) 16777216=true)
  (hp:EvL n env ps vs) (hf:Instr.fill (λi=>some (i * c.n,c.n)) ((Array.range (len * c.n)).map (λi=>(if len * c.n=0 then #[]else zv.cells)[i % (if len * c.n=0 then #[]else zv.cells).size]!)) vs=some cs)
  (hr:Rels c (Dj F C) w xs css) (hx:xs.length=len) (hcs:cs.toList=css.flatten) (hl2:Nat.ble len 4294967296=true)
  (h:∀ b C' w',Bun C0 F w0 C' w' (LV c e (some ⟨b,0,none⟩) len xs::os) cl→dw P ro n ops Kn Ke Kr (SN X (DM md F C') w') rs ((d,.slice (some ⟨b,0,none⟩) xs.length len)::env) w') (hX:X.contains i=false:=by rfl) (hfl:fl.solo=true:=by rfl):dw P ro n ops Kn Ke Kr (SN X (DM md F C) w) (.c (i,fl) rs) env w:=by
 subst hx
 have hl2:=Nat.le_of_ble_eq_true hl2
 have hsz:cs.size=xs.length * c.n:=by rw[← Array.length_toList,hcs,hr.flat]
 obtain⟨C',h1,h2⟩:=hI.newRow (e:=e) (cs:=cs) (cap:=xs.length) hr (Nat.le_refl _) (by simp only[maxLen];omega) hsz (by rw[← hsz, ← Array.length_toList,List.take_length,hcs])
 refine bq (hfl:=hfl) (S:=SN X (DM md F C) w) (hx:=hX) hix hg hd (w':=w.alloc (.cells cs e)) (λa ha=>by
  unfold execOp
  simp only[ho,hp.map ha,Sem.run_bind,ta (w:=w) ht hi hlen hf,Result.andThen_ok,Sem.run_pure]) ⟨_,h1 md⟩ (zW (h1 md) (h _ _ _ h2))
theorem xd {i:TypeInfo} (ht:P.underlying t=some (.slice e)) (hi:P.info? e=some i) (ty:TypeId) {m cap c2:Nat} (hm:m≤cap):
  (Builtin.append_ #[t,t] ty #[.slice A m cap,.slice A2 0 c2]).run P w= .ok (.slice A m cap) w:=by
 cases A<;>cases A2<;>simp[Builtin.append_,run_underlying ht,sizeOf,typeInfo,hi,Builtin.lenOf,Builtin.firstCells,loadCells,loadCellsFrom,hm,storeCells]
theorem Js {C1 D:NP} {cap:Nat} (h:(LV c e A cap xs).inv C1 D w):xs.length≤cap:=by
 rcases h with⟨rfl,rfl,_⟩ | ⟨css,_,h2,_⟩
 ·simp
 ·rcases h2.2 with⟨h3,h4⟩ | ⟨g,cap',cur,hv,_,_,h5,_⟩
  ·omega
  ·injection hv with _ _ h6;omega
theorem xV {C1 D:NP} {cap c2 bytes:Nat} {zv:Value} (ht:P.underlying t=some (.slice e)) (hi:re P e c.n bytes zv) (hsz:0<c.n) (hby:bytes≤32768) (ty:TypeId) (h:(LV c e A cap xs).inv C1 D w) (hlt:∀ k,C1 k→k<w.heap.size) (hd:Rd c D w A2 ys) (hlen:xs.length+ys.length≤LIM):
  ∃ A' cap' w' C1',(Builtin.append_ #[t,t] ty #[.slice A xs.length cap,.slice A2 ys.length c2]).run P w= .ok (.slice A' (xs++ys).length cap') w'∧Stp C1 w C1' w'∧∀ D',Sp D w D' w'→(LV c e A' cap' (xs++ys)).inv C1' D' w':=by
 have hle:=Js h
 obtain⟨j,hj,hz,hs,hb,hzs⟩:=hi
 rcases Nat.eq_zero_or_pos ys.length with h0 | h0
 ·have hy:=List.eq_nil_of_length_eq_zero h0
  subst hy
  refine⟨A,cap,w,C1,?_,⟨rfl,rfl,rfl,Nat.le_refl _,λ_ _ h=>⟨rfl,h⟩,hlt⟩,λD' hs=>?_⟩
  ·rw[List.append_nil];exact xd ht hj ty hle
  ·rw[List.append_nil];exact(LV c e A cap xs).sp h (λ_ _=>rfl) hs
 ·obtain⟨ad,hA,dss,hr2,hc2⟩:=hd h0
  subst hA
  have hl2:=hr2.flat
  have hone:=hr2.one
  have hlen:xs.length+ys.length≤4294967296:=hlen
  have hbytes:(xs.length+ys.length) * bytes≤140737488355328:=by
   have h1:(xs.length+ys.length) * bytes≤4294967296 * 32768:=Nat.mul_le_mul hlen hby
   omega
  rcases h with⟨rfl,rfl,hC⟩ | ⟨css,h1,h2,h3⟩
  ·
   have hfin:∃ w',(Builtin.append_ #[t,t] ty #[.slice A 0 0,.slice (some ad) ys.length c2]).run P w= .ok (.slice (some ⟨w.heap.size,0,none⟩) ys.length (grownCap w ys.length 0 e)) w'∧w'=w.drew.alloc (.cells (dss.flatten.toArray++Builtin.zeroCells zv.cells (grownCap w ys.length 0 e - ys.length)) e):=by
    refine⟨_,?_,rfl⟩
    cases A with
    | none=>exact run_append_nil (P:=P) w t ty e j zv ht hj hz ad ys.length c2 dss.flatten (by rw[hs];exact hl2) hc2 h0 (by simp at hlen;omega) (by rw[hb];simp at hbytes;omega)
    | some b=>
     have:=run_append_grow (P:=P) w t ty e j zv ht hj hz b 0 0 [] (by simp) (λj v h=>by simp at h) ad ys.length c2 dss.flatten (by rw[hs];exact hl2) hc2 (by omega) (by simp at hlen ⊢;omega) (by rw[hb];exact growslice_fits (by omega) (by simpa using hbytes))
     simpa using this
   obtain⟨w',hrun,rfl⟩:=hfin
   have hge:=grownCap_ge w ys.length 0 e
   have hcm:grownCap w ys.length 0 e≤maxLen:=grownCap_le_maxLen w ys.length 0 e (by simp at hlen;simp only[maxLen];omega)
   refine⟨_,_,w.drew.alloc (.cells (dss.flatten.toArray++Builtin.zeroCells zv.cells (grownCap w ys.length 0 e - ys.length)) e),λk=>k=w.heap.size,by simpa using hrun,⟨rfl,rfl,rfl,by simp,λk hk hn=>⟨heap_alloc_old w.drew _ hk,λe=>by omega⟩,λk hk=>by subst hk;simp⟩,λD' hs'=>?_⟩
   rw[List.nil_append]
   refine .inr ⟨dss,hr2.sp hs',⟨hl2,.inr ⟨w.heap.size,_,_,rfl,Nat.zero_le _,heap_alloc_new w.drew _,hge,hcm,?_,?_⟩⟩,λk=>⟨λh=>by subst h;rfl,λh=>by injection h with h;exact h.symm⟩⟩
   ·simp only[Array.size_append,List.size_toArray,size_zeroCells,hzs,hl2, ← Nat.add_mul]
    congr 1
    omega
   ·simp only[Array.toList_append]
    rw[← hl2]
    exact List.take_left
  ·obtain⟨v',w',k1,k2,k3,_,k5⟩:=run_append_own_at (P:=P) w 0 t ty e j zv c.n bytes ht hj hz hs hb hzs hsz (.slice A xs.length cap) xs.length css.flatten h2 ad ys.length c2 dss.flatten hl2 hc2 (λu hu=>List.all_eq_true.1 hone u hu) (by simp only[maxLen];omega) hbytes (Nat.zero_le _)
   have hv:∃ A' c',v'= .slice A' (xs.length+ys.length) c':=by
    rcases k2.2 with⟨e1,e2⟩ | ⟨g,cap,_,e1,_⟩
    ·exact⟨none,0,by rw[e1,e2]⟩
    ·exact⟨_,_,e1⟩
   obtain⟨A',c',rfl⟩:=hv
   rw[mF,mF]at k5
   rw[mF]at k3
   have hlt':∀ k,LK A'=some k→k<w'.heap.size:=λk hk=>(k2.lt k (by rw[mF];exact hk)).2
   refine⟨A',c',w',λk=>LK A'=some k,by simpa using k1,⟨k3.os,k3.tape,k3.output,k3.size,λk hk hn=>⟨k3.block k hk (λe=>hn ((h3 k).2 e.symm)),λhk'=>?_⟩,hlt'⟩,λD' hs'=> .inr ⟨css++dss,(h1.sp hs').append (hr2.sp hs'),?_,λk=>Iff.rfl⟩⟩
   ·rcases k5 with e1 | e1
    ·exact hn ((h3 k).2 (e1▸hk'))
    ·rw[e1]at hk';injection hk' with hk';omega
   ·rw[List.flatten_append,List.length_append];exact k2
theorem Bun.append {cap c2 bytes:Nat} {zv:Value} {zs:List α} (hI:Bun C0 F w0 C w os cl) (ha:At os (LV c e A cap xs) f) (hd:Rd c (Dj F C) w A2 ys) (hz:gm xs ys=some zs) (ht:P.underlying t=some (.slice e)) (hi:re P e c.n bytes zv) (hsz:Nat.ble 1 c.n=true) (hby:Nat.ble bytes 32768=true) (ty:TypeId):
  ∃ A' cap' C' w',(Builtin.append_ #[t,t] ty #[.slice A xs.length cap,.slice A2 ys.length c2]).run P w= .ok (.slice A' zs.length cap') w'∧Sp (Dj F C) w (Dj F C') w'∧Bun C0 F w0 C' w' (f (LV c e A' cap' zs)) cl:=by
 obtain⟨h0,rfl⟩:=Ab hz
 obtain⟨C1,h1,h2,h3⟩:=hI.turn ha
 obtain⟨A',cap',w',C1',k1,k2,k3⟩:=xV (c2:=c2) ht hi (Nat.le_of_ble_eq_true hsz) (Nat.le_of_ble_eq_true hby) ty h1 (λk hk=>(LV c e A cap xs).lt h1 k hk) hd h0
 obtain⟨C',h4,h5⟩:=h3 w' C1' k2
 exact⟨A',cap',C',w',k1,h4,h5 _ (k3 _ h4)⟩
theorem il {cap c2 bytes:Nat} {zv:Value} {zs:List α} (hI:Bun C0 F w0 C w os cl) (ha:At os (LV c e A cap xs) f) (hd:Rd c (Dj F C) w A2 ys) (hz:gm xs ys=some zs) (hg:oU n env ops o true) (hdst:o.dst=some d)
  (ho:o.op= .call { callee:= .builtin .append,args:=#[x,y],argTypes:=#[t,t] }) (ht:P.underlying t=some (.slice e)) (hi:re P e c.n bytes zv) (hsz:Nat.ble 1 c.n=true) (hby:Nat.ble bytes 32768=true) (hx:Ev n env x (.slice A xs.length cap)) (hy:Ev n env y (.slice A2 ys.length c2))
  (h:∀ A' cap' C' w',Bun C0 F w0 C' w' (f (LV c e A' cap' zs)) cl→dM P ro n ops Kn Ke Kr rest ((d,.slice A' zs.length cap')::env) w'):dM P ro n ops Kn Ke Kr (o::rest) env w:=by
 obtain⟨A',cap',C',w',h1,_,h3⟩:=hI.append (c2:=c2) ha hd hz ht hi hsz hby o.type
 refine Cj hg hdst (w':=w') (λa ha=>?_) (h _ _ _ _ h3)
 unfold execOp
 simp only[ho,resolve,invoke,builtin,Sem.run_bind,Sem.run_pure,Result.andThen_ok,List.map_toArray,List.map_cons,List.map_nil,hx a ha,hy a ha,h1]
theorem nr {cap c2 bytes:Nat} {zv:Value} {zs:List α} (hI:Bun C0 F w0 C w os cl) (ha:At os (LV c e A cap xs) f) (hd:Rd c (Dj F C) w A2 ys) (hz:gm xs ys=some zs) (hix:ops[i]? =some o) (hg:oU n env ops o true) (hdst:o.dst=some d)
  (ho:o.op= .call { callee:= .builtin .append,args:=#[x,y],argTypes:=#[t,t] }) (ht:P.underlying t=some (.slice e)) (hi:re P e c.n bytes zv) (hsz:Nat.ble 1 c.n=true) (hby:Nat.ble bytes 32768=true) (hx:Ev n env x (.slice A xs.length cap)) (hy:Ev n env y (.slice A2 ys.length c2))
  (h:∀ A' cap' C' w',Bun C0 F w0 C' w' (f (LV c e A' cap' zs)) cl→dw P ro n ops Kn Ke Kr (SN [] (Dj F C') w') rs ((d,.slice A' zs.length cap')::env) w') (hfl:fl.solo=true:=by rfl):dw P ro n ops Kn Ke Kr (SN [] (DM true F C) w) (.c (i,fl) rs) env w:=by
 obtain⟨A',cap',C',w',h1,h2,h3⟩:=hI.append (c2:=c2) ha hd hz ht hi hsz hby o.type
 refine bq (hfl:=hfl) (S:=SN [] (DM true F C) w) hix hg hdst (w':=w') (λa ha=>?_) ⟨_,h2⟩ (zW h2 (h _ _ _ _ h3))
 unfold execOp
 simp only[ho,resolve,invoke,builtin,Sem.run_bind,Sem.run_pure,Result.andThen_ok,List.map_toArray,List.map_cons,List.map_nil,hx a ha,hy a ha,h1]
theorem Jd {cap size:Nat} {k k':IntKind} {p q:Int} {zs:List α} {B:Option Addr} (ho:o.op= .slice t x (some y) (some z) none) (ht:P.underlying t=some (.slice e)) (hs:(P.info? e).map (·.size)=some size) (hx:Ev n env x (.slice A xs.length cap)) (hy:Ev n env y (.int k p)) (hz:Ev n env z (.int k' q))
  (h:yk xs p q=some zs) (hcap:xs.length≤cap) (hB:B=(if cap=p.toNat then A else A.map (·.add (p.toNat * size)))):iE P n env o (.slice B zs.length (cap - p.toNat)) w:=by
 obtain⟨h0,rfl⟩:=wn h
 subst hB
 have:=F8 (P:=P) (w:=w) (o:=o) (r:=none) ho rfl ht hs hx hy hz (by omega)
 refine va this ?_
 congr 1
 simp;omega
theorem xy {cap size:Nat} {k:IntKind} {p:Int} {zs:List α} {B:Option Addr} (ho:o.op= .slice t x (some y) none none) (ht:P.underlying t=some (.slice e)) (hs:(P.info? e).map (·.size)=some size) (hx:Ev n env x (.slice A xs.length cap)) (hy:Ev n env y (.int k p))
  (h:jE xs p=some zs) (hB:B=(if cap=p.toNat then A else A.map (·.add (p.toNat * size)))):iE P n env o (.slice B zs.length (cap - p.toNat)) w:=by
 obtain⟨h0,rfl⟩:=uP h
 subst hB
 have:=Do (P:=P) (w:=w) (o:=o) (r:=none) ho rfl ht hs hx hy (by omega)
 refine va this ?_
 congr 1
 simp
theorem Bun.sub {cap:Nat} {l h:Int} {zs:List α} (hI:Bun C0 F w0 C w os cl) (hi:In cl (LT c A cap xs)) (hz:yk xs l h=some zs) {B:Option Addr} (hB:B=(if cap=l.toNat then A else A.map (·.add (l.toNat * c.n)))):Bun C0 F w0 C w os (LT c B (cap - l.toNat) zs::cl):=by
 obtain⟨h0,rfl⟩:=wn hz
 have hg:SlC c (Dj F C) w A cap xs:=hI.get hi
 have h1:=(SlC.drop hg l.toNat).take (h.toNat - l.toNat)
 by_cases hc:cap=l.toNat
 ·have:=hg.1
  have e1:(xs.drop l.toNat).take (h.toNat - l.toNat)=[]:=by rw[List.drop_eq_nil_of_le (by omega)];simp
  rw[e1]
  exact hI.add (c:=LT _ _ _ _) SlC.nil
 ·rw[if_neg hc]at hB
  subst hB
  exact hI.add (c:=LT _ _ _ _) h1
theorem Bun.from_ {cap:Nat} {l:Int} {zs:List α} (hI:Bun C0 F w0 C w os cl) (hi:In cl (LT c A cap xs)) (hz:jE xs l=some zs) {B:Option Addr} (hB:B=(if cap=l.toNat then A else A.map (·.add (l.toNat * c.n)))):Bun C0 F w0 C w os (LT c B (cap - l.toNat) zs::cl):=by
 obtain⟨h0,rfl⟩:=uP hz
 have hg:SlC c (Dj F C) w A cap xs:=hI.get hi
 have h1:=SlC.drop hg l.toNat
 by_cases hc:cap=l.toNat
 ·have:=hg.1
  have e1:xs.drop l.toNat=[]:=List.drop_eq_nil_of_le (by omega)
  rw[e1]
  exact hI.add (c:=LT _ _ _ _) SlC.nil
 ·rw[if_neg hc]at hB
  subst hB
  exact hI.add (c:=LT _ _ _ _) h1
theorem Bun.cap_ {cap:Nat} (hI:Bun C0 F w0 C w os cl) (hi:In cl (LT c A cap xs)):xs.length≤cap:=by
 have hg:SlC c (Dj F C) w A cap xs:=hI.get hi
 exact hg.1
theorem Bun.crd {cap:Nat} (hI:Bun C0 F w0 C w os cl) (hi:In cl (LT c A cap xs)):Rd c (Dj F C) w A xs:=by
 have hg:SlC c (Dj F C) w A cap xs:=hI.get hi
 exact hg.rd
abbrev au (x:Int):Int:=IntKind.i64.wrap x
abbrev sY (x:Int):Int:=IntKind.i32.wrap x
abbrev lr (x:Int):Int:=IntKind.u64.wrap x
abbrev HY (x:Int):Int:=IntKind.u8.wrap x
theorem uH {k k':IntKind} {p q:Int} {s:Nat} {t t':TypeId} (ho:o.op= .binOp .shr t x y t') (hx:Ev n env x (.int k p)) (hy:Ev n env y (.int k' q)) (h0:0≤q) (hs:min q.toNat k.bits=s):iE P n env o (.int k (p.fdiv (2 ^ s))) w:=by
 subst hs;exact KL ho hx hy h0
theorem v6 {l l' s:List UInt8} {t t':TypeId} (ho:o.op= .binOp .add t x y t') (hx:Ev n env x (aT l)) (hy:Ev n env y (aT l')) (h:gm l l'=some s):iE P n env o (aT s) w:=by
 obtain⟨h0,rfl⟩:=Ab h
 have:l.length+l'.length≤4294967296:=h0
 exact KP ho hx hy (by omega)
theorem F9 {l:List UInt8} {k:IntKind} {p b:Int} {t:TypeId} (ho:o.op= .index t x y) (ht:P.underlying t=some .string) (hx:Ev n env x (aT l)) (hy:Ev n env y (.int k p)) (h:Vc.sat l p=some b):iE P n env o (.int .u8 b) w:=by
 obtain⟨h0,rfl⟩:=Jo h
 exact Gf ho ht hx hy h0
theorem F7 {l s:List UInt8} {k k':IntKind} {p q:Int} {t:TypeId} (ho:o.op= .slice t x (some y) (some z) none) (ht:P.underlying t=some .string) (hx:Ev n env x (aT l)) (hy:Ev n env y (.int k p)) (hz:Ev n env z (.int k' q)) (h:yk l p q=some s):iE P n env o (aT s) w:=by
 obtain⟨h0,rfl⟩:=wn h
 exact BQ ho rfl ht hx hy hz (by omega)
theorem HX {l s:List UInt8} {k:IntKind} {p:Int} {t:TypeId} (ho:o.op= .slice t x (some y) none none) (ht:P.underlying t=some .string) (hx:Ev n env x (aT l)) (hy:Ev n env y (.int k p)) (h:jE l p=some s):iE P n env o (aT s) w:=by
 obtain⟨h0,rfl⟩:=uP h
 exact Dm ho rfl ht hx hy (by omega)
theorem HW {l s:List UInt8} {k:IntKind} {q:Int} {t:TypeId} (ho:o.op= .slice t x none (some z) none) (ht:P.underlying t=some .string) (hx:Ev n env x (aT l)) (hz:Ev n env z (.int k q)) (h:pV l q=some s):iE P n env o (aT s) w:=by
 obtain⟨h0,rfl⟩:=DO h
 exact Dn ho rfl ht hx hz (by omega)
theorem Gz {g:FuncId} {args:Array Value} {b:Bool} (hg:oU n env ops o b) (hd:o.dst=some d) (hr:b=true→nY P n env o w (.ok (.enter g args) w)) (hc:b=true→Calls P g args w λe w'=>e= .returned v∧Ext w w')
  (h:∀ w',Ext w w'→dM P ro n ops Kn Ke Kr rest ((d,gv b v)::env) w'):dM P ro n ops Kn Ke Kr (o::rest) env w:=
 AE (λu w'=>u=v∧Ext w w') hg hd hr (λhb=>(hc hb).mono λe w' ⟨h1,h2⟩=>⟨v,h1,rfl,h2⟩) λu w' h1 h2=>by
  cases b with
  | true=>obtain⟨rfl,hx⟩:=h1 rfl;exact h w' hx
  | false=>rw[h2 rfl];exact h w .rfl'
theorem lj {g:FuncId} {args:Array Value} {b:Bool} (hi:ops[i]? =some o) (hg:oU n env ops o b) (hd:o.dst=some d) (hr:b=true→nY P n env o w (.ok (.enter g args) w)) (hc:b=true→Calls P g args w λe w'=>e= .returned v∧Ext w w')
  (h:∀ w',Ext w w'→dw P ro n ops Kn Ke Kr (SN X (DM md F C) w') rs ((d,gv b v)::env) w') (hX:X.contains i=false:=by rfl) (hfl:fl.solo=true:=by rfl):dw P ro n ops Kn Ke Kr (SN X (DM md F C) w) (.c (i,fl) rs) env w:=
 IA (hfl:=hfl) (S:=SN X (DM md F C) w) (hx:=hX) (λu w'=>u=v∧Ext w w') hi hg hd hr (λhb=>(hc hb).mono λe w' ⟨h1,h2⟩=>⟨v,h1,⟨_,L0 h2⟩,rfl,h2⟩) LW λu w' hS h1 h2=>by
  cases b with
  | true=>obtain⟨rfl,hx⟩:=h1 rfl;exact zW (L0 hx) (h w' hx)
  | false=>have e:=h2 rfl;subst e;exact h _ .rfl'
theorem dk {g:FuncId} {args:Array Value} (hi:ops[i]? =some o) (hg:oU n env ops o true) (hd:o.dst=some d) (hr:nY P n env o w (.ok (.enter g args) w))
  (h:Calls P g args w λe w'=>∃ v,e= .returned v∧Ext w w'∧dw P ro n ops Kn Ke Kr (SN X (DM md F C) w') rs ((d,v)::env) w') (hX:X.contains i=false:=by rfl) (hfl:fl.solo=true:=by rfl):dw P ro n ops Kn Ke Kr (SN X (DM md F C) w) (.c (i,fl) rs) env w:=
 HG (hfl:=hfl) (S:=SN X (DM md F C) w) (hx:=hX) hi hg hd hr (h.mono λe w' ⟨v,h1,h2,h3⟩=>⟨v,h1,⟨_,L0 h2⟩,zW (L0 h2) h3⟩)
theorem Ce {cs0 new:List Value} (h:cs0.length=new.length):FZ cs0 0 new=new:=by
 unfold FZ;simp[← h]
theorem Ij {P:Program} {g:FuncId} {args:Array Value} {w:World} {R:Value→World→Prop} {K:Ending→World→Prop} (h:Calls P g args w λe w'=>∃ v,e= .returned v∧R v w') (hk:∀ v w',R v w'→K (.returned v) w'):Calls P g args w K:=
 h.mono λ_ _ ⟨_,h1,h2⟩=>h1▸hk _ _ h2
end
end Go.Vc
