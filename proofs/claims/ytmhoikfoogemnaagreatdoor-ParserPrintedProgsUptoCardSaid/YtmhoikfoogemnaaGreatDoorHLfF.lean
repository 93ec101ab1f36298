import Derived.Test.YtmhoikfoogemnaaGreatDoorHLfR
namespace Go.Vc
open Go Go.RowKit
section
variable {P:Program} {ro:Ro} {n:Fr} {Kn:Act→World→Prop} {Ke:Nat→Act→World→Prop} {Kr:Act→World→Prop} {env:kW} {w:World}
variable {ops:Array Oper} {rest:List Oper} {rs:Tr} {fl:Fl} {o:Oper} {i d:Nat} {v:Value} {x y z:Operand} {t e:TypeId} {md:Bool} {X:List Nat}
variable {C0 F C:NP} {w0:World} {os:List MO} {cl:List Cl} {f:MO→List MO} {α:Type} {c:Cod α} {A A2:Option Addr} {xs ys:List α}
theorem Bun.newRow {cs:Array Value} {cap:Nat} {css:List (List Value)} (hI:Bun C0 F w0 C w os cl) (hr:Rels c (Dj F C) w xs css) (hle:xs.length≤cap) (hcap:cap≤maxLen) (hsz:cs.size=cap * c.n) (htake:cs.toList.take (xs.length * c.n)=css.flatten):
  ∃ C',(∀ md,Sp (DM md F C) w (DM md F C') (w.alloc (.cells cs e)))∧Bun C0 F w0 C' (w.alloc (.cells cs e)) (Q6 c e (some ⟨w.heap.size,0,none⟩) cap xs::os) cl:=
 hI.new (b:=w.heap.size) (Ext.alloc _) rfl (by simp) λD hs=> .inr ⟨css,hr.sp hs,⟨hr.flat,.inr ⟨w.heap.size,cap,cs,rfl,Nat.zero_le _,heap_alloc_new w _,hle,hcap,hsz,htake⟩⟩,λk=>⟨λh=>by subst h;rfl,λh=>by injection h with h;exact h.symm⟩⟩
theorem Bun.nil (hI:Bun C0 F w0 C w os cl) (c:Cod α) (e:TypeId) (A:Option Addr):Bun C0 F w0 C w (Q6 c e A 0 []::os) cl:=
 ⟨hI.st,⟨λ_=>False,C,.inl ⟨rfl,rfl,λ_ h=>h⟩,hI.mo,λ_ h=>h.elim,λ_ h=>h.elim,λ_ h=>h⟩,hI.cl,hI.dj,hI.fl⟩
theorem MM {len bytes:Nat} {zv:Value} {ps:List (Nat×Operand)} {vs:List (Nat×Value)} {cs:Array Value} {css:List (List Value)} (hI:Bun C0 F w0 C w os cl) (hg:oC n env ops o true) (hd:o.dst=some d) (ho:o.op= .buildSlice t len ps.toArray) (ht:P.underlying t=some (.slice e)) (hi:qM P e c.n bytes zv) (hlen:Nat.ble (len * c.n) 16777216=true)
  (hp:EvL n env ps vs) (hf:Instr.fill (λi=>some (i * c.n,c.n)) ((Array.range (len * c.n)).map (λi=>(if len * c.n=0 then #[]else zv.cells)[i % (if len * c.n=0 then #[]else zv.cells).size]!)) vs=some cs)
  (hr:Rels c (Dj F C) w xs css) (hx:xs.length=len) (hcs:cs.toList=css.flatten) (hl2:Nat.ble len 4294967296=true)
  (h:∀ b C' w',Bun C0 F w0 C' w' (Q6 c e (some ⟨b,0,none⟩) len xs::os) cl→dD P ro n ops Kn Ke Kr rest ((d,.slice (some ⟨b,0,none⟩) xs.length len)::env) w'):dD P ro n ops Kn Ke Kr (o::rest) env w:=by
 subst hx
 have hl2:=Nat.le_of_ble_eq_true hl2
 have hsz:cs.size=xs.length * c.n:=by rw[← Array.length_toList,hcs,hr.flat]
 obtain⟨C',_,h2⟩:=hI.newRow (e:=e) (cs:=cs) (cap:=xs.length) hr (Nat.le_refl _) (by simp only[maxLen];omega) hsz (by rw[← hsz, ← Array.length_toList,List.take_length,hcs])
 exact DX hg hd (w':=w.alloc (.cells cs e)) (λa ha=>by
  unfold execOp
  simp only[ho,hp.map ha,Sem.run_bind,tz (w:=w) ht hi hlen hf,Result.andThen_ok,Sem.run_pure]) (h _ _ _ h2)
theorem OR {len bytes:Nat} {zv:Value} {ps:List (Nat×Operand)} {vs:List (Nat×Value)} {cs:Array Value} {css:List (List Value)} (hI:Bun C0 F w0 C w os cl) (hix:ops[i]? =some o) (hg:oC n env ops o true) (hd:o.dst=some d) (ho:o.op= .buildSlice t len ps.toArray) (ht:P.underlying t=some (.slice e)) (hi:qM P e c.n bytes zv) (hlen:Nat.ble (len * c.n) 16777216=true)
  (hp:EvL n env ps vs) (hf:Instr.fill (λi=>some (i * c.n,c.n)) ((Array.range (len * c.n)).map (λi=>(if len * c.n=0 then #[]else zv.cells)[i % (if len * c.n=0 then #[]else zv.cells).size]!)) vs=some cs)
  (hr:Rels c (Dj F C) w xs css) (hx:xs.length=len) (hcs:cs.toList=css.flatten) (hl2:Nat.ble len 4294967296=true)
  (h:∀ b C' w',Bun C0 F w0 C' w' (Q6 c e (some ⟨b,0,none⟩) len xs::os) cl→di P ro n ops Kn Ke Kr (SN X (DM md F C') w') rs ((d,.slice (some ⟨b,0,none⟩) xs.length len)::env) w') (hX:X.contains i=false:=by rfl) (hfl:fl.solo=true:=by rfl):di P ro n ops Kn Ke Kr (SN X (DM md F C) w) (.c (i,fl) rs) env w:=by
 subst hx
 have hl2:=Nat.le_of_ble_eq_true hl2
 have hsz:cs.size=xs.length * c.n:=by rw[← Array.length_toList,hcs,hr.flat]
 obtain⟨C',h1,h2⟩:=hI.newRow (e:=e) (cs:=cs) (cap:=xs.length) hr (Nat.le_refl _) (by simp only[maxLen];omega) hsz (by rw[← hsz, ← Array.length_toList,List.take_length,hcs])
 refine dz (hfl:=hfl) (S:=SN X (DM md F C) w) (hx:=hX) hix hg hd (w':=w.alloc (.cells cs e)) (λa ha=>by
  unfold execOp
  simp only[ho,hp.map ha,Sem.run_bind,tz (w:=w) ht hi hlen hf,Result.andThen_ok,Sem.run_pure]) ⟨_,h1 md⟩ (Du (h1 md) (h _ _ _ h2))
theorem xS {i:TypeInfo} (ht:P.underlying t=some (.slice e)) (hi:P.info? e=some i) (ty:TypeId) {m cap c2:Nat} (hm:m≤cap):
  (Builtin.append_ #[t,t] ty #[.slice A m cap,.slice A2 0 c2]).run P w= .ok (.slice A m cap) w:=by
 cases A<;>cases A2<;>simp[Builtin.append_,run_underlying ht,sizeOf,typeInfo,hi,Builtin.lenOf,Builtin.firstCells,loadCells,loadCellsFrom,hm,storeCells]
theorem Ny {C1 D:NP} {cap:Nat} (h:(Q6 c e A cap xs).inv C1 D w):xs.length≤cap:=by
 rcases h with⟨rfl,rfl,_⟩ | ⟨css,_,h2,_⟩
 ·simp
 ·rcases h2.2 with⟨h3,h4⟩ | ⟨g,cap',cur,hv,_,_,h5,_⟩
  ·omega
  ·injection hv with _ _ h6;omega
theorem yD {C1 D:NP} {cap c2 bytes:Nat} {zv:Value} (ht:P.underlying t=some (.slice e)) (hi:qM P e c.n bytes zv) (hsz:0<c.n) (hby:bytes≤32768) (ty:TypeId) (h:(Q6 c e A cap xs).inv C1 D w) (hlt:∀ k,C1 k→k<w.heap.size) (hd:Rd c D w A2 ys) (hlen:xs.length+ys.length≤LIM):
  ∃ A' cap' w' C1',(Builtin.append_ #[t,t] ty #[.slice A xs.length cap,.slice A2 ys.length c2]).run P w= .ok (.slice A' (xs++ys).length cap') w'∧Stp C1 w C1' w'∧∀ D',Sp D w D' w'→(Q6 c e A' cap' (xs++ys)).inv C1' D' w':=by
 have hle:=Ny h
 obtain⟨j,hj,hz,hs,hb,hzs⟩:=hi
 rcases Nat.eq_zero_or_pos ys.length with h0 | h0
 ·have hy:=List.eq_nil_of_length_eq_zero h0
  subst hy
  refine⟨A,cap,w,C1,?_,⟨rfl,rfl,rfl,Nat.le_refl _,λ_ _ h=>⟨rfl,h⟩,hlt⟩,λD' hs=>?_⟩
  ·rw[List.append_nil];exact xS ht hj ty hle
  ·rw[List.append_nil];exact(Q6 c e A cap xs).sp h (λ_ _=>rfl) hs
 ·obtain⟨ad,hA,dss,hr2,hc2⟩:=hd h0
  subst hA
  have hl2:=hr2.flat
  have hone:=hr2.one
  have hlen:xs.length+ys.length≤4294967296:=hlen
  have hbytes:(xs.length+ys.length) * bytes≤140737488355328:=by
   have h1:(xs.length+ys.length) * bytes≤4294967296 * 32768:=Nat.mul_le_mul hlen hby
   omega
  rcases h with⟨rfl,rfl,hC⟩ | ⟨css,h1,h2,h3⟩
  ·
   have hfin:∃ w',(Builtin.append_ #[t,t] ty #[.slice A 0 0,.slice (some ad) ys.length c2]).run P w= .ok (.slice (some ⟨w.heap.size,0,none⟩) ys.length (grownCap w ys.length 0 e)) w'∧w'=w.drew.alloc (.cells (dss.flatten.toArray++Builtin.zeroCells zv.cells (grownCap w ys.length 0 e - ys.length)) e):=by
    refine⟨_,?_,rfl⟩
    cases A with
    | none=>exact run_append_nil (P:=P) w t ty e j zv ht hj hz ad ys.length c2 dss.flatten (by rw[hs];exact hl2) hc2 h0 (by simp at hlen;omega) (by rw[hb];simp at hbytes;omega)
    | some b=>
     have:=run_append_grow (P:=P) w t ty e j zv ht hj hz b 0 0 [] (by simp) (λj v h=>by simp at h) ad ys.length c2 dss.flatten (by rw[hs];exact hl2) hc2 (by omega) (by simp at hlen ⊢;omega) (by rw[hb];exact growslice_fits (by omega) (by simpa using hbytes))
     simpa using this
   obtain⟨w',hrun,rfl⟩:=hfin
   have hge:=grownCap_ge w ys.length 0 e
   have hcm:grownCap w ys.length 0 e≤maxLen:=grownCap_le_maxLen w ys.length 0 e (by simp at hlen;simp only[maxLen];omega)
   refine⟨_,_,w.drew.alloc (.cells (dss.flatten.toArray++Builtin.zeroCells zv.cells (grownCap w ys.length 0 e - ys.length)) e),λk=>k=w.heap.size,by simpa using hrun,⟨rfl,rfl,rfl,by simp,λk hk hn=>⟨heap_alloc_old w.drew _ hk,λe=>by omega⟩,λk hk=>by subst hk;simp⟩,λD' hs'=>?_⟩
   rw[List.nil_append]
   refine .inr ⟨dss,hr2.sp hs',⟨hl2,.inr ⟨w.heap.size,_,_,rfl,Nat.zero_le _,heap_alloc_new w.drew _,hge,hcm,?_,?_⟩⟩,λk=>⟨λh=>by subst h;rfl,λh=>by injection h with h;exact h.symm⟩⟩
   ·simp only[Array.size_append,List.size_toArray,size_zeroCells,hzs,hl2, ← Nat.add_mul]
    congr 1
    omega
   ·simp only[Array.toList_append]
    rw[← hl2]
    exact List.take_left
  ·obtain⟨v',w',k1,k2,k3,_,k5⟩:=run_append_own_at (P:=P) w 0 t ty e j zv c.n bytes ht hj hz hs hb hzs hsz (.slice A xs.length cap) xs.length css.flatten h2 ad ys.length c2 dss.flatten hl2 hc2 (λu hu=>List.all_eq_true.1 hone u hu) (by simp only[maxLen];omega) hbytes (Nat.zero_le _)
   have hv:∃ A' c',v'= .slice A' (xs.length+ys.length) c':=by
    rcases k2.2 with⟨e1,e2⟩ | ⟨g,cap,_,e1,_⟩
    ·exact⟨none,0,by rw[e1,e2]⟩
    ·exact⟨_,_,e1⟩
   obtain⟨A',c',rfl⟩:=hv
   rw[lM,lM]at k5
   rw[lM]at k3
   have hlt':∀ k,QY A'=some k→k<w'.heap.size:=λk hk=>(k2.lt k (by rw[lM];exact hk)).2
   refine⟨A',c',w',λk=>QY A'=some k,by simpa using k1,⟨k3.os,k3.tape,k3.output,k3.size,λk hk hn=>⟨k3.block k hk (λe=>hn ((h3 k).2 e.symm)),λhk'=>?_⟩,hlt'⟩,λD' hs'=> .inr ⟨css++dss,(h1.sp hs').append (hr2.sp hs'),?_,λk=>Iff.rfl⟩⟩
   ·rcases k5 with e1 | e1
    ·exact hn ((h3 k).2 (e1▸hk'))
    ·rw[e1]at hk';injection hk' with hk';omega
   ·rw[List.flatten_append,List.length_append];exact k2
theorem Bun.append {cap c2 bytes:Nat} {zv:Value} {zs:List α} (hI:Bun C0 F w0 C w os cl) (ha:At os (Q6 c e A cap xs) f) (hd:Rd c (Dj F C) w A2 ys) (hz:bt xs ys=some zs) (ht:P.underlying t=some (.slice e)) (hi:qM P e c.n bytes zv) (hsz:Nat.ble 1 c.n=true) (hby:Nat.ble bytes 32768=true) (ty:TypeId):
  ∃ A' cap' C' w',(Builtin.append_ #[t,t] ty #[.slice A xs.length cap,.slice A2 ys.length c2]).run P w= .ok (.slice A' zs.length cap') w'∧Sp (Dj F C) w (Dj F C') w'∧Bun C0 F w0 C' w' (f (Q6 c e A' cap' zs)) cl:=by
 obtain⟨h0,rfl⟩:=Be hz
 obtain⟨C1,h1,h2,h3⟩:=hI.turn ha
 obtain⟨A',cap',w',C1',k1,k2,k3⟩:=yD (c2:=c2) ht hi (Nat.le_of_ble_eq_true hsz) (Nat.le_of_ble_eq_true hby) ty h1 (λk hk=>(Q6 c e A cap xs).lt h1 k hk) hd h0
 obtain⟨C',h4,h5⟩:=h3 w' C1' k2
 exact⟨A',cap',C',w',k1,h4,h5 _ (k3 _ h4)⟩
theorem qn {cap c2 bytes:Nat} {zv:Value} {zs:List α} (hI:Bun C0 F w0 C w os cl) (ha:At os (Q6 c e A cap xs) f) (hd:Rd c (Dj F C) w A2 ys) (hz:bt xs ys=some zs) (hg:oC n env ops o true) (hdst:o.dst=some d)
  (ho:o.op= .call { callee:= .builtin .append,args:=#[x,y],argTypes:=#[t,t] }) (ht:P.underlying t=some (.slice e)) (hi:qM P e c.n bytes zv) (hsz:Nat.ble 1 c.n=true) (hby:Nat.ble bytes 32768=true) (hx:Ev n env x (.slice A xs.length cap)) (hy:Ev n env y (.slice A2 ys.length c2))
  (h:∀ A' cap' C' w',Bun C0 F w0 C' w' (f (Q6 c e A' cap' zs)) cl→dD P ro n ops Kn Ke Kr rest ((d,.slice A' zs.length cap')::env) w'):dD P ro n ops Kn Ke Kr (o::rest) env w:=by
 obtain⟨A',cap',C',w',h1,_,h3⟩:=hI.append (c2:=c2) ha hd hz ht hi hsz hby o.type
 refine DX hg hdst (w':=w') (λa ha=>?_) (h _ _ _ _ h3)
 unfold execOp
 simp only[ho,resolve,invoke,builtin,Sem.run_bind,Sem.run_pure,Result.andThen_ok,List.map_toArray,List.map_cons,List.map_nil,hx a ha,hy a ha,h1]
theorem oI {cap c2 bytes:Nat} {zv:Value} {zs:List α} (hI:Bun C0 F w0 C w os cl) (ha:At os (Q6 c e A cap xs) f) (hd:Rd c (Dj F C) w A2 ys) (hz:bt xs ys=some zs) (hix:ops[i]? =some o) (hg:oC n env ops o true) (hdst:o.dst=some d)
  (ho:o.op= .call { callee:= .builtin .append,args:=#[x,y],argTypes:=#[t,t] }) (ht:P.underlying t=some (.slice e)) (hi:qM P e c.n bytes zv) (hsz:Nat.ble 1 c.n=true) (hby:Nat.ble bytes 32768=true) (hx:Ev n env x (.slice A xs.length cap)) (hy:Ev n env y (.slice A2 ys.length c2))
  (h:∀ A' cap' C' w',Bun C0 F w0 C' w' (f (Q6 c e A' cap' zs)) cl→di P ro n ops Kn Ke Kr (SN [] (Dj F C') w') rs ((d,.slice A' zs.length cap')::env) w') (hfl:fl.solo=true:=by rfl):di P ro n ops Kn Ke Kr (SN [] (DM true F C) w) (.c (i,fl) rs) env w:=by
 obtain⟨A',cap',C',w',h1,h2,h3⟩:=hI.append (c2:=c2) ha hd hz ht hi hsz hby o.type
 refine dz (hfl:=hfl) (S:=SN [] (DM true F C) w) hix hg hdst (w':=w') (λa ha=>?_) ⟨_,h2⟩ (Du h2 (h _ _ _ _ h3))
 unfold execOp
 simp only[ho,resolve,invoke,builtin,Sem.run_bind,Sem.run_pure,Result.andThen_ok,List.map_toArray,List.map_cons,List.map_nil,hx a ha,hy a ha,h1]
theorem yd {cap size:Nat} {k:IntKind} {p:Int} {zs:List α} {B:Option Addr} (ho:o.op= .slice t x (some y) none none) (ht:P.underlying t=some (.slice e)) (hs:(P.info? e).map (·.size)=some size) (hx:Ev n env x (.slice A xs.length cap)) (hy:Ev n env y (.int k p))
  (h:iJ xs p=some zs) (hB:B=(if cap=p.toNat then A else A.map (·.add (p.toNat * size)))):hH P n env o (.slice B zs.length (cap - p.toNat)) w:=by
 obtain⟨h0,rfl⟩:=vj h
 subst hB
 have:=Fb (P:=P) (w:=w) (o:=o) (r:=none) ho rfl ht hs hx hy (by omega)
 refine vz this ?_
 congr 1
 simp
theorem Bun.from_ {cap:Nat} {l:Int} {zs:List α} (hI:Bun C0 F w0 C w os cl) (hi:In cl (Cl.sl c A cap xs)) (hz:iJ xs l=some zs) {B:Option Addr} (hB:B=(if cap=l.toNat then A else A.map (·.add (l.toNat * c.n)))):Bun C0 F w0 C w os (Cl.sl c B (cap - l.toNat) zs::cl):=by
 obtain⟨h0,rfl⟩:=vj hz
 have hg:SlC c (Dj F C) w A cap xs:=hI.get hi
 have h1:=SlC.drop hg l.toNat
 by_cases hc:cap=l.toNat
 ·have:=hg.1
  have e1:xs.drop l.toNat=[]:=List.drop_eq_nil_of_le (by omega)
  rw[e1]
  exact hI.add (c:=Cl.sl _ _ _ _) SlC.nil
 ·rw[if_neg hc]at hB
  subst hB
  exact hI.add (c:=Cl.sl _ _ _ _) h1
theorem Bun.crd {cap:Nat} (hI:Bun C0 F w0 C w os cl) (hi:In cl (Cl.sl c A cap xs)):Rd c (Dj F C) w A xs:=by
 have hg:SlC c (Dj F C) w A cap xs:=hI.get hi
 exact hg.rd
abbrev av (x:Int):Int:=IntKind.i64.wrap x
abbrev qZ (x:Int):Int:=IntKind.i32.wrap x
abbrev fi (x:Int):Int:=IntKind.u64.wrap x
abbrev M9 (x:Int):Int:=IntKind.u8.wrap x
theorem u7 {k k':IntKind} {p q:Int} {s:Nat} {t t':TypeId} (ho:o.op= .binOp .shr t x y t') (hx:Ev n env x (.int k p)) (hy:Ev n env y (.int k' q)) (h0:0≤q) (hs:min q.toNat k.bits=s):hH P n env o (.int k (p.fdiv (2 ^ s))) w:=by
 subst hs;exact Pz ho hx hy h0
theorem aH {l l' s:List UInt8} {t t':TypeId} (ho:o.op= .binOp .add t x y t') (hx:Ev n env x (str l)) (hy:Ev n env y (str l')) (h:bt l l'=some s):hH P n env o (str s) w:=by
 obtain⟨h0,rfl⟩:=Be h
 have:l.length+l'.length≤4294967296:=h0
 exact PC ho hx hy (by omega)
theorem M8 {l:List UInt8} {k:IntKind} {p b:Int} {t:TypeId} (ho:o.op= .index t x y) (ht:P.underlying t=some .string) (hx:Ev n env x (str l)) (hy:Ev n env y (.int k p)) (h:Vc.sat l p=some b):hH P n env o (.int .u8 b) w:=by
 obtain⟨h0,rfl⟩:=Nu h
 exact IB ho ht hx hy h0
theorem BE {l s:List UInt8} {k k':IntKind} {p q:Int} {t:TypeId} (ho:o.op= .slice t x (some y) (some z) none) (ht:P.underlying t=some .string) (hx:Ev n env x (str l)) (hy:Ev n env y (.int k p)) (hz:Ev n env z (.int k' q)) (h:vh l p q=some s):hH P n env o (str s) w:=by
 obtain⟨h0,rfl⟩:=HU h
 exact DA ho rfl ht hx hy hz (by omega)
theorem KT {l s:List UInt8} {k:IntKind} {p:Int} {t:TypeId} (ho:o.op= .slice t x (some y) none none) (ht:P.underlying t=some .string) (hx:Ev n env x (str l)) (hy:Ev n env y (.int k p)) (h:iJ l p=some s):hH P n env o (str s) w:=by
 obtain⟨h0,rfl⟩:=vj h
 exact E9 ho rfl ht hx hy (by omega)
theorem KS {l s:List UInt8} {k:IntKind} {q:Int} {t:TypeId} (ho:o.op= .slice t x none (some z) none) (ht:P.underlying t=some .string) (hx:Ev n env x (str l)) (hz:Ev n env z (.int k q)) (h:tF l q=some s):hH P n env o (str s) w:=by
 obtain⟨h0,rfl⟩:=FI h
 exact Fa ho rfl ht hx hz (by omega)
theorem Jg {g:FuncId} {args:Array Value} {b:Bool} (hg:oC n env ops o b) (hd:o.dst=some d) (hr:b=true→nA P n env o w (.ok (.enter g args) w)) (hc:b=true→Calls P g args w λe w'=>e= .returned v∧Ext w w')
  (h:∀ w',Ext w w'→dD P ro n ops Kn Ke Kr rest ((d,gv b v)::env) w'):dD P ro n ops Kn Ke Kr (o::rest) env w:=
 BT (λu w'=>u=v∧Ext w w') hg hd hr (λhb=>(hc hb).mono λe w' ⟨h1,h2⟩=>⟨v,h1,rfl,h2⟩) λu w' h1 h2=>by
  cases b with
  | true=>obtain⟨rfl,hx⟩:=h1 rfl;exact h w' hx
  | false=>rw[h2 rfl];exact h w .rfl'
theorem my {g:FuncId} {args:Array Value} {b:Bool} (hi:ops[i]? =some o) (hg:oC n env ops o b) (hd:o.dst=some d) (hr:b=true→nA P n env o w (.ok (.enter g args) w)) (hc:b=true→Calls P g args w λe w'=>e= .returned v∧Ext w w')
  (h:∀ w',Ext w w'→di P ro n ops Kn Ke Kr (SN X (DM md F C) w') rs ((d,gv b v)::env) w') (hX:X.contains i=false:=by rfl) (hfl:fl.solo=true:=by rfl):di P ro n ops Kn Ke Kr (SN X (DM md F C) w) (.c (i,fl) rs) env w:=
 Mb (hfl:=hfl) (S:=SN X (DM md F C) w) (hx:=hX) (λu w'=>u=v∧Ext w w') hi hg hd hr (λhb=>(hc hb).mono λe w' ⟨h1,h2⟩=>⟨v,h1,⟨_,Rb h2⟩,rfl,h2⟩) Q7 λu w' hS h1 h2=>by
  cases b with
  | true=>obtain⟨rfl,hx⟩:=h1 rfl;exact Du (Rb hx) (h w' hx)
  | false=>have e:=h2 rfl;subst e;exact h _ .rfl'
theorem bF {g:FuncId} {args:Array Value} (hi:ops[i]? =some o) (hg:oC n env ops o true) (hd:o.dst=some d) (hr:nA P n env o w (.ok (.enter g args) w))
  (h:Calls P g args w λe w'=>∃ v,e= .returned v∧Ext w w'∧di P ro n ops Kn Ke Kr (SN X (DM md F C) w') rs ((d,v)::env) w') (hX:X.contains i=false:=by rfl) (hfl:fl.solo=true:=by rfl):di P ro n ops Kn Ke Kr (SN X (DM md F C) w) (.c (i,fl) rs) env w:=
 Kw (hfl:=hfl) (S:=SN X (DM md F C) w) (hx:=hX) hi hg hd hr (h.mono λe w' ⟨v,h1,h2,h3⟩=>⟨v,h1,⟨_,Rb h2⟩,Du (Rb h2) h3⟩)
theorem Ly {P:Program} {g:FuncId} {args:Array Value} {w:World} {R:Value→World→Prop} {K:Ending→World→Prop} (h:Calls P g args w λe w'=>∃ v,e= .returned v∧R v w') (hk:∀ v w',R v w'→K (.returned v) w'):Calls P g args w K:=
 h.mono λ_ _ ⟨_,h1,h2⟩=>h1▸hk _ _ h2
end
end Go.Vc
namespace Go.Vc
open Go Go.RowKit
def CallV (P:Program) (v:Value) (args:List Value) (w:World) (R:Ending→World→Prop):Prop:=
 (∃ (f:FuncId) (fs cap:List Value),v= .func (.func f) fs.toArray cap.toArray∧dv P f∧Calls P f (fs++args++cap).toArray w R)∨
 (∃ (l:Nat) (fn:FuncId) (tmps:Array Value) (assign body:Code),v= .func (.yield l) #[] #[]∧(Instr.yield l args.toArray).run P w= .ok (.round l fn tmps assign body) w∧Round P l fn tmps assign body w R)
def JX:Value→Bool
 | .func _ _ _=>true
 | _=>false
section
variable {P:Program} {v:Value} {args:List Value} {w:World} {R R':Ending→World→Prop}
theorem CallV.mono (h:CallV P v args w R) (hr:∀ e w',R e w'→R' e w'):CallV P v args w R':=by
 rcases h with⟨f,fs,cap,h1,h2,h3⟩ | ⟨l,fn,tmps,assign,body,h1,h2,h3⟩
 ·exact .inl ⟨f,fs,cap,h1,h2,h3.mono hr⟩
 ·exact .inr ⟨l,fn,tmps,assign,body,h1,h2,λm=>(h3 m).mono hr⟩
theorem CallV.fn {f:FuncId} {cap:List Value} (hok:dv P f) (h:Calls P f (args++cap).toArray w R):CallV P (.func (.func f) #[] cap.toArray) args w R:=
 .inl ⟨f,[],cap,rfl,hok,by simpa using h⟩
end
section
variable {P:Program} {ro:Ro} {n:Fr} {Kn:Act→World→Prop} {Ke:Nat→Act→World→Prop} {Kr:Act→World→Prop} {env:kW} {w:World}
variable {ops:Array Oper} {rest:List Oper} {rs:Tr} {fl:Fl} {o:Oper} {i d:Nat} {v u:Value} {fx:Operand} {xs:List Operand} {args:List Value} {ts:Array TypeId} {D D':NP} {X:List Nat}
theorem vv {K:Act→World→Prop} {Q:Exit→Act→World→Prop} {a:Act} (hn:gu o=true) (hw:Region.wanted o (yielded ops a.tmps)=true) (ha:Has n a env) (ho:o.op= .call { callee:= .value fx,args:=xs.toArray,argTypes:=ts }) (hf:Ev n env fx v) (hxs:EvA n env xs args)
  (h:CallV P v args w λe w'=>∃ u,e= .returned u∧K (a.put o.dst u) w'):sS P ro.r ops Q o K a w:=by
 rcases h with⟨f,fs,cap,rfl,h2,h3⟩ | ⟨l,fn,tmps,assign,body,rfl,h2,h3⟩
 ·exact rB hn hw (tA (P:=P) (w:=w) ho hf h2 hxs a ha) h3
 ·refine FZ hn hw ?_ h3
  simp only[execOp,ho,resolve,hxs.map ha,hf a ha,Deferred.ofValue,Sem.run_bind,Sem.run_pure,Result.andThen_ok,invoke]
  simpa using h2
theorem vR (hg:oC n env ops o true) (hd:o.dst=some d) (ho:o.op= .call { callee:= .value fx,args:=xs.toArray,argTypes:=ts }) (hf:Ev n env fx v) (hxs:EvA n env xs args)
  (h:CallV P v args w λe w'=>∃ u,e= .returned u∧dD P ro n ops Kn Ke Kr rest ((d,u)::env) w'):dD P ro n ops Kn Ke Kr (o::rest) env w:=
 rV λa hn ha=>vv hn (hg a ha) ha ho hf hxs (h.mono λ_ _ ⟨u,h1,h2⟩=>⟨u,h1,_,by rw[hd];exact ha.put d u,h2⟩)
theorem yX (hi:ops[i]? =some o) (hg:oC n env ops o true) (hd:o.dst=some d) (ho:o.op= .call { callee:= .value fx,args:=xs.toArray,argTypes:=ts }) (hf:Ev n env fx v) (hxs:EvA n env xs args)
  (h:CallV P v args w λe w'=>∃ u,e= .returned u∧∃ D',Sp D w D' w'∧di P ro n ops Kn Ke Kr (SN X D' w') rs ((d,u)::env) w') (hX:X.contains i=false:=by rfl) (hfl:fl.solo=true:=by rfl):di P ro n ops Kn Ke Kr (SN X D w) (.c (i,fl) rs) env w:=
 xj (hfl:=hfl) (S:=SN X D w) (hx:=hX) hi λa hn ha=>vv hn (hg a ha) ha ho hf hxs (h.mono λ_ _ ⟨u,h1,D',h2,h3⟩=>⟨u,h1,⟨D',h2⟩,_,by rw[hd];exact ha.put d u,Du h2 h3⟩)
theorem Jf {c:Bool} (hg:oC n env ops o c) (hd:o.dst=some d) (ho:o.op= .call { callee:= .value fx,args:=xs.toArray,argTypes:=ts }) (hf:c=true→Ev n env fx v) (hxs:c=true→EvA n env xs args)
  (hc:c=true→CallV P v args w λe w'=>e= .returned u∧Ext w w') (h:∀ w',Ext w w'→dD P ro n ops Kn Ke Kr rest ((d,gv c u)::env) w'):dD P ro n ops Kn Ke Kr (o::rest) env w:=
 rV λa hn ha=>by
  cases c with
  | true=>exact vv hn (hg a ha) ha ho (hf rfl) (hxs rfl) ((hc rfl).mono λ_ _ ⟨h1,h2⟩=>⟨u,h1,_,by rw[hd];exact ha.put d u,h _ h2⟩)
  | false=>exact tP (hg a ha) ⟨_,by rw[hd];exact ha.put d undef,h _ .rfl'⟩
theorem eN {g:FuncId} {args:Array Value} (hi:ops[i]? =some o) (hg:oC n env ops o true) (hd:o.dst=some d) (hr:nA P n env o w (.ok (.enter g args) w))
  (h:Calls P g args w λe w'=>∃ v,e= .returned v∧∃ D',Sp D w D' w'∧di P ro n ops Kn Ke Kr (SN X D' w') rs ((d,v)::env) w') (hX:X.contains i=false:=by rfl) (hfl:fl.solo=true:=by rfl):di P ro n ops Kn Ke Kr (SN X D w) (.c (i,fl) rs) env w:=
 Kw (hfl:=hfl) (S:=SN X D w) (hx:=hX) hi hg hd hr (h.mono λe w' ⟨v,h1,D',h2,h3⟩=>⟨v,h1,⟨D',h2⟩,Du h2 h3⟩)
theorem np {f:FuncId} {ys:List Operand} {vs cap:List Value} {xs:Array Operand} (ho:o.op= .makeFunc (.func f) xs ys.toArray) (hx0:xs= #[]) (hys:EvA n env ys cap):hH P n env o (.func (.func f) #[] cap.toArray) w:=λa ha=>by
 have _:=vs
 subst hx0
 simp[execOp,ho,hys.map ha,Instr.makeFunc]
end
def Cl.blk (b:Nat) (T:TypeId) (cs:Array Value):Cl:=⟨λD w=>b<w.heap.size∧¬ D b∧Blk w b T cs,λhs ⟨h1,h2,h3⟩=>⟨Nat.lt_of_lt_of_le h1 hs.size,(hs.keep _ h1 h2).2,(hs.keep _ h1 h2).1.trans h3⟩⟩
section
variable {C0 F C D:NP} {w0 w w':World} {os os':List MO} {cl cl':List Cl} {f:MO→List MO} {b:Nat} {T:TypeId} {cs:Array Value}
theorem Bun.kblk {off:Nat} {l:List Value} (h:Bun C0 F w0 C w os cl) (hi:In cl (Cl.blk b T cs)) (hl:(cs.toList.drop off).take l.length=l):CA (Dj F C) w ⟨b,off,none⟩ l:=
 have hb:=h.get hi
 ⟨Q5 hb.2.2 hl,λ_=>⟨hb.1,hb.2.1⟩⟩
theorem Bun.lendBox (h:Bun C0 F w0 C w os cl) (ha:At os (MO.box b T cs) f):(Cl.blk b T cs).p cH w:=⟨(h.blk ha).lt,λh=>h,h.blk ha⟩
theorem Bun.relBox (h:Bun C0 F w0 C w os cl) (hr:Rm os (MO.box b T cs) os'):∃ C',Bun C0 F w0 C' w os' (Cl.blk b T cs::cl):=by
 obtain⟨C1,h1,h2,h3⟩:=h.mo.rm hr
 have hless:Sp (Dj F C) w (Dj F λk=>C k∧¬ C1 k) w:=Ra λk hk=>hk.imp id And.left
 refine⟨λk=>C k∧¬ C1 k,⟨h.st.os,h.st.tape,h.st.output,h.st.size,λk hk hn=>⟨(h.st.keep k hk hn).1,λh'=>(h.st.keep k hk hn).2 h'.1⟩,λk hk=>h.st.lt k hk.1⟩,h3.sp (λ_ _ _=>rfl) hless,⟨⟨h1.2.lt,?_,h1.2⟩,h.cl.sp hless⟩,λk hk hc=>h.dj k hk hc.1,h.fl⟩
 rintro(hf | hc)
 ·exact h.dj b hf (h2 b ((h1.1 b).2 rfl))
 ·exact hc.2 ((h1.1 b).2 rfl)
theorem Bun.subs (h:Bun C0 F w0 C w os cl) (hs:Subs cl cl'):Bun C0 F w0 C w os cl':=⟨h.st,h.mo,h.cl.subs hs,h.dj,h.fl⟩
theorem Bun.ord (h:Bun C0 F w0 C w os cl) (hg:KP os os'):Bun C0 F w0 C w os' cl:=⟨h.st,h.mo.got hg,h.cl,h.dj,h.fl⟩
theorem Bun.hands {sl rest:List MO} (h:Bun C0 F w0 C w os cl) (hs:M5 os sl rest):∃ C1 F1,Bun C1 F1 w C1 w sl cl∧(∀ k,Dj F1 C1 k→Dj F C k)∧
  ∀ (C1':NP) (w':World) (sl':List MO) (cl1:List Cl),Bun C1 F1 w C1' w' sl' cl1→∃ C',Sp (Dj F C) w (Dj F C') w'∧Bun C0 F w0 C' w' (sl'++rest) (cl1++cl):=by
 obtain⟨C1,C2,h1,h2,h3,h4,h5,h6,h7⟩:=h.mo.sel hs
 have e12:Sp (Dj F C) w (Dj (Dj F C2) C1) w:=Ra λk hk=>hk.elim (λh=>h.imp id (h5 k)) (λh=> .inr (h4 k h))
 refine⟨C1,Dj F C2,⟨⟨rfl,rfl,rfl,Nat.le_refl _,λk _ hn=>⟨rfl,hn⟩,h6⟩,h1.sp (λ_ _ _=>rfl) e12,h.cl.sp e12,λk hk hc=>hk.elim (λhf=>h.dj k hf (h4 k hc)) (h3 k hc),λk hk=>hk.elim (h.fl k) (h7 k)⟩,λk hk=>hk.elim (λh=>h.imp id (h5 k)) (λh=> .inr (h4 k h)),λC1' w' sl' cl1 hb=>?_⟩
 have hsp:Sp (Dj F C) w (Dj F λk=>C1' k∨C2 k) w':=⟨hb.st.size,λk hk hn=>by
  have hn1:¬ C1 k:=λh=>hn (.inr (h4 k h))
  refine⟨(hb.st.keep k hk hn1).1,?_⟩
  rintro(h | h | h)
  ·exact hn (.inl h)
  ·exact(hb.st.keep k hk hn1).2 h
  ·exact hn (.inr (h5 k h))⟩
 have e1:Sp (Dj (Dj F C2) C1') w' (Dj F λk=>C1' k∨C2 k) w':=Ra λk hk=>hk.elim (λh=> .inl (.inl h)) (λh=>h.elim .inr (λh=> .inl (.inr h)))
 have hd:∀ k,C1' k→¬ C2 k:=λk hk h2'=>hb.dj k (.inr h2') hk
 refine⟨λk=>C1' k∨C2 k,hsp,⟨hb.st.os.trans h.st.os,hb.st.tape.trans h.st.tape,hb.st.output.trans h.st.output,Nat.le_trans h.st.size hb.st.size,λk hk hn=>?_,λk hk=>hk.elim (hb.st.lt k) (λh=>Nat.lt_of_lt_of_le (h7 k h) hb.st.size)⟩,?_,(hb.cl.sp e1).app (h.cl.sp hsp),λk hk hc=>hc.elim (hb.dj k (.inl hk)) (λhc=>h.dj k hk (h5 k hc)),λk hk=>Nat.lt_of_lt_of_le (h.fl k hk) hb.st.size⟩
 ·have hk':=Nat.lt_of_lt_of_le hk h.st.size
  have hn1:¬ C1 k:=λh'=>(h.st.keep k hk hn).2 (h4 k h')
  refine⟨(hb.st.keep k hk' hn1).1.trans (h.st.keep k hk hn).1,?_⟩
  rintro(h' | h')
  ·exact(hb.st.keep k hk' hn1).2 h'
  ·exact(h.st.keep k hk hn).2 (h5 k h')
 ·have h2':AllMO rest C2 (Dj F λk=>C1' k∨C2 k) w':=AllMO.sp h2 (λk hk hlt=>(hb.st.keep k hlt (λh1'=>h3 k h1' hk)).1) hsp
  exact AllMO.app (AllMO.sp hb.mo (λ_ _ _=>rfl) e1) h2' hd
end
structure StI (σ:Type) where
 inv:σ→NP→NP→World→Prop
 lt:∀ {s C D w},inv s C D w→∀ k,C k→k<w.heap.size
 sp:∀ {s C D w D' w'},inv s C D w→(∀ k,C k→w'.heap[k]? =w.heap[k]?)→Sp D w D' w'→inv s C D' w'
def MO.st {σ:Type} (I:StI σ) (s:σ):MO:=⟨I.inv s,I.lt,I.sp⟩
def StI.of {σ β:Type} (os:σ→β→List MO) (cl:σ→β→List Cl):StI σ where
 inv s C D w:=(∃ b,AllMO (os s b) C D w∧AllCl (cl s b) D w)∧∀ k,C k→k<w.heap.size
 lt h:=h.2
 sp:=λ⟨⟨b,h1,h2⟩,h3⟩ hc hs=>⟨⟨b,h1.sp (λk hk _=>hc k hk) hs,h2.sp hs⟩,λk hk=>Nat.lt_of_lt_of_le (h3 k hk) hs.size⟩
section
variable {σ β:Type} {os:σ→β→List MO} {cl:σ→β→List Cl} {s:σ} {C0 F C:NP} {w0 w:World} {L:List Cl}
theorem Bun.unst (h:Bun C0 F w0 C w [MO.st (StI.of os cl) s] L):∃ b,Bun C0 F w0 C w (os s b) (cl s b++L):=by
 obtain⟨C1,C2,⟨⟨b,h1,h2⟩,h3⟩,_,_,h5,_⟩:=h.mo
 exact⟨b,h.st,h1.mono h5,h2.app h.cl,h.dj,h.fl⟩
theorem Bun.mkst {b:β} (h:Bun C0 F w0 C w (os s b) L) (hs:Subs L (cl s b)):Bun C0 F w0 C w [MO.st (StI.of os cl) s] L:=
 ⟨h.st,⟨C,λ_=>False,⟨⟨b,h.mo,h.cl.subs hs⟩,h.st.lt⟩,af,λ_ _ h=>h,λ_ h=>h,λ_ h=>h.elim⟩,h.cl,h.dj,h.fl⟩
end
end Go.Vc
