import Derived.Test.YtmhoikfoogemnaaGreatDoorHVc
import Derived.Laws.Cells
import Derived.Laws.Tables
import Derived.Lib.Strings
import Derived.RangeFuncLeaves
namespace Go.Vc
open Go Go.RowKit
abbrev Ext (w w':World):Prop:=Below w.heap.size w w'
theorem Ext.rfl' {w:World} :Ext w w:=Below.refl _ _
theorem Ext.drew {w:World} :Ext w w.drew:=(Below.refl _ w).drew
theorem Ext.alloc {w:World} (o:Obj):Ext w (w.alloc o):=(Below.refl _ w).alloc (Nat.le_refl _) o
def Blk (w:World) (g:Nat) (t:TypeId) (cs:Array Value):Prop:=w.heap[g]? =some (.cells cs t (0,0))
section
variable {w w':World} {g:Nat} {t:TypeId} {cs:Array Value}
theorem Blk.lt (h:Blk w g t cs):g<w.heap.size:=by
 rcases Nat.lt_or_ge g w.heap.size with hlt | hge
 ·exact hlt
 ·unfold Blk at h;rw[Array.getElem?_eq_none hge]at h;cases h
theorem Blk.cell (h:Blk w g t cs) (i:Nat):w.cell? ⟨g,i,none⟩=cs[i]? :=cell_of_row w g i cs t (0,0) h
theorem Blk.new {w:World} {t:TypeId} {cs:Array Value} :Blk (w.alloc (.cells cs t)) w.heap.size t cs:=heap_alloc_new w _
end
def CellsAt (w:World) (ad:Addr) (l:List Value):Prop:=∀ j u,l[j]? =some u→w.cell? (ad.add j)=some u
theorem Q5 {w:World} {g:Nat} {t:TypeId} {cs:Array Value} {off:Nat} {l:List Value} (h:Blk w g t cs) (hl:(cs.toList.drop off).take l.length=l):CellsAt w ⟨g,off,none⟩ l:=λj u hu=>by
 rw[Addr.add_lit,h.cell, ← Array.getElem?_toList]
 rw[← hl,List.getElem?_take]at hu
 split at hu
 ·rw[List.getElem?_drop]at hu;exact hu
 ·cases hu
section
variable {P:Program} {n:Fr} {env:kW} {w:World} {o:Oper} {x y z:Operand} {t t' e:TypeId} {k k':IntKind} {p q:Int} {b c:Bool} {v u:Value} {l l':List UInt8}
theorem Do (l l':List UInt8):(l==l')=decide (l=l'):=by rw[Bool.eq_iff_iff];simp
abbrev str (l:List UInt8):Value:= .string ⟨l.toArray⟩
theorem nB (ho:o.op= .binOp .add t x y t') (hx:Ev n env x (.int k p)) (hy:Ev n env y (.int k q)):hH P n env o (.int k (k.wrap (p+q))) w:=iT ho hx hy (by simp[go_sem,Op.intArith]) (by simp[go_sem])
theorem Iy (ho:o.op= .binOp .sub t x y t') (hx:Ev n env x (.int k p)) (hy:Ev n env y (.int k q)):hH P n env o (.int k (k.wrap (p - q))) w:=iT ho hx hy (by simp[go_sem,Op.intArith]) (by simp[go_sem])
theorem xk (ho:o.op= .binOp .mul t x y t') (hx:Ev n env x (.int k p)) (hy:Ev n env y (.int k q)):hH P n env o (.int k (k.wrap (p * q))) w:=iT ho hx hy (by simp[go_sem,Op.intArith]) (by simp[go_sem])
theorem AR (ho:o.op= .binOp .quo t x y t') (hx:Ev n env x (.int k p)) (hy:Ev n env y (.int k q)) (h0:q≠0):hH P n env o (.int k (k.wrap (p.tdiv q))) w:=iT ho hx hy (by rw[binOp_quo];simp[Op.intDiv,h0]) (by simp[go_sem])
theorem yr (ho:o.op= .binOp .rem t x y t') (hx:Ev n env x (.int k p)) (hy:Ev n env y (.int k q)) (h0:q≠0):hH P n env o (.int k (p.tmod q)) w:=iT ho hx hy (by rw[binOp_rem];simp[Op.intDiv,h0]) (by simp[go_sem])
theorem yt {op:BinOp} (ho:o.op= .binOp op t x y t') (hx:Ev n env x (.int k p)) (hy:Ev n env y (.int k q)) (hop:(match op with | .and | .or | .xor | .andNot=>true | _=>false)=true):hH P n env o (.int k (bits op k p q)) w:=by
 cases op<;>first | (cases hop;done) | exact iT ho hx hy (by simp[go_sem,Op.intBits,bits]) (by simp[go_sem])
theorem DB (ho:o.op= .binOp .shl t x y t') (hx:Ev n env x (.int k p)) (hy:Ev n env y (.int k' q)) (h0:0≤q):hH P n env o (.int k (k.wrap (p * 2 ^ (min q.toNat k.bits)))) w:=iT ho hx hy (by rw[binOp_shl];simp[Op.shift,Int.not_lt.2 h0]) (by simp[go_sem])
theorem Pz (ho:o.op= .binOp .shr t x y t') (hx:Ev n env x (.int k p)) (hy:Ev n env y (.int k' q)) (h0:0≤q):hH P n env o (.int k (p.fdiv (2 ^ (min q.toNat k.bits)))) w:=iT ho hx hy (by rw[binOp_shr];simp[Op.shift,Int.not_lt.2 h0]) (by simp[go_sem])
theorem Gr (ho:o.op= .binOp .eql t x y t') (hx:Ev n env x (.int k p)) (hy:Ev n env y (.int k q)):hH P n env o (.bool (decide (p=q))) w:=iT ho hx hy (by rw[binOp_eql];rfl) (by simp[go_sem])
theorem pE (ho:o.op= .binOp .neq t x y t') (hx:Ev n env x (.int k p)) (hy:Ev n env y (.int k q)):hH P n env o (.bool (!decide (p=q))) w:=iT ho hx hy (by rw[binOp_neq];rfl) (by simp[go_sem])
theorem rp (ho:o.op= .binOp .lss t x y t') (hx:Ev n env x (.int k p)) (hy:Ev n env y (.int k q)):hH P n env o (.bool (decide (p<q))) w:=iT ho hx hy (by rw[binOp_lss];rfl) (by simp[go_sem])
theorem AU (ho:o.op= .binOp .leq t x y t') (hx:Ev n env x (.int k p)) (hy:Ev n env y (.int k q)):hH P n env o (.bool (decide (p≤q))) w:=iT ho hx hy (by rw[binOp_leq];rfl) (by simp[go_sem])
theorem tn (ho:o.op= .binOp .gtr t x y t') (hx:Ev n env x (.int k p)) (hy:Ev n env y (.int k q)):hH P n env o (.bool (decide (q<p))) w:=iT ho hx hy (by rw[binOp_gtr];rfl) (by simp[go_sem])
theorem IC (ho:o.op= .binOp .geq t x y t') (hx:Ev n env x (.int k p)) (hy:Ev n env y (.int k q)):hH P n env o (.bool (decide (q≤p))) w:=iT ho hx hy (by rw[binOp_geq];rfl) (by simp[go_sem])
theorem ID (ho:o.op= .convert t t' x) (ht:(P.underlying t).isSome=true) (ht':P.underlying t'=some (.int k)) (hx:Ev n env x (.int k' p)):hH P n env o (.int k (k.wrap p)) w:=λa ha=>by
 obtain⟨d,hd⟩:=Option.isSome_iff_exists.1 ht
 simp only[execOp,ho,hx a ha]
 simp[convert,run_underlying hd,run_underlying ht',Conv.intToInt]
theorem Mo (ho:o.op= .binOp .eql t x y t') (ht:P.underlying t=some .bool) (hx:Ev n env x (.bool b)) (hy:Ev n env y (.bool c)):hH P n env o (.bool (b==c)) w:=iT ho hx hy (run_eql_bool w t b c ht) (by simp[go_sem])
theorem Gn (ho:o.op= .binOp .neq t x y t') (ht:P.underlying t=some .bool) (hx:Ev n env x (.bool b)) (hy:Ev n env y (.bool c)):hH P n env o (.bool (b != c)) w:=iT ho hx hy (run_neq_bool w t b c ht) (by simp[go_sem])
theorem Gq (ho:o.op= .binOp .eql t x y t') (hx:Ev n env x (str l)) (hy:Ev n env y (str l')):hH P n env o (.bool (decide (l=l'))) w:=iT ho hx hy (by rw[binOp_string_eql];simp only[ByteArray.toList_mk,Do];rfl) (by simp[go_sem])
theorem Gm (ho:o.op= .binOp .neq t x y t') (hx:Ev n env x (str l)) (hy:Ev n env y (str l')):hH P n env o (.bool (!decide (l=l'))) w:=iT ho hx hy (by rw[binOp_string_neq];simp only[ByteArray.toList_mk,Do];rfl) (by simp[go_sem])
theorem Mm (ho:o.op= .binOp .lss t x y t') (hx:Ev n env x (str l)) (hy:Ev n env y (str l')):hH P n env o (.bool (Op.bytesLess l l')) w:=iT ho hx hy (by rw[binOp_string_lss];simp) (by simp[go_sem])
theorem Mn (ho:o.op= .binOp .geq t x y t') (hx:Ev n env x (str l)) (hy:Ev n env y (str l')):hH P n env o (.bool (!Op.bytesLess l l')) w:=iT ho hx hy (by simp[binOp,Op.stringOp]) (by simp[go_sem])
theorem PC (ho:o.op= .binOp .add t x y t') (hx:Ev n env x (str l)) (hy:Ev n env y (str l')) (hl:l.length+l'.length≤9223372036854775807):hH P n env o (str (l++l')) w:=iT ho hx hy (by
 simp only[binOp,Op.stringOp]
 rw[if_neg (by simp[ByteArray.size];omega)]
 have:(⟨l.toArray⟩:ByteArray)++⟨l'.toArray⟩=⟨(l++l').toArray⟩:=by
  apply ByteArray.ext;simp
 rw[this];rfl) (by simp[go_sem])
theorem IA (ho:o.op= .call { callee:= .builtin .len,args:=#[x],argTypes:=#[t] }) (ht:P.underlying t=some .string) (hx:Ev n env x (str l)):hH P n env o (.int .i64 l.length) w:=λa ha=>by
 simp only[execOp,ho,resolve,invoke,builtin]
 simp[hx a ha,run_len_string _ t _ _ ht,ByteArray.size,goInt]
theorem jM {A:Option Addr} {m c:Nat} (ho:o.op= .call { callee:= .builtin .len,args:=#[x],argTypes:=#[t] }) (ht:P.underlying t=some (.slice e)) (hx:Ev n env x (.slice A m c)):hH P n env o (.int .i64 m) w:=λa ha=>by
 simp only[execOp,ho,resolve,invoke,builtin]
 have h:P.underlying t=some (.slice (P.elem t)):=by simp[Program.elem,ht]
 simp[hx a ha,run_len_slice _ t _ _ _ _ h,goInt]
def Ge (l:List UInt8) (i:Nat):Int:=((l.getD i 0).toNat:Int)
theorem IB (ho:o.op= .index t x y) (ht:P.underlying t=some .string) (hx:Ev n env x (str l)) (hy:Ev n env y (.int k p)) (h0:0≤p∧p<l.length):hH P n env o (.int .u8 (Ge l p.toNat)) w:=λa ha=>by
 simp only[execOp,ho,hx a ha,hy a ha]
 have hlt:p.toNat<l.length:=by omega
 have h1:0≤p∧p<(⟨l.toArray⟩:ByteArray).size:=by simpa[ByteArray.size]using h0
 rw[Sem.run_bind,run_index_string _ t _ k p ht,dif_pos h1]
 simp only[Result.andThen_ok,Sem.run_pure,Ge]
 congr 4
 rw[List.getD_eq_getElem?_getD,List.getElem?_eq_getElem hlt]
 rfl
theorem tL (l:List UInt8) (a b:Nat):(⟨l.toArray⟩:ByteArray).extract a b=⟨((l.drop a).take (b - a)).toArray⟩:=by
 rw[Lib.extract_eq]
theorem DA {r:Option Operand} (ho:o.op= .slice t x (some y) (some z) r) (hr:r=none) (ht:P.underlying t=some .string) (hx:Ev n env x (str l)) (hy:Ev n env y (.int k p)) (hz:Ev n env z (.int k' q)) (h0:0≤p∧p≤q∧q≤l.length):
  hH P n env o (str ((l.drop p.toNat).take (q.toNat - p.toNat))) w:=λa ha=>by
 subst hr
 simp only[execOp,ho,hx a ha,hy a ha,hz a ha,Option.map_some,Option.map_none]
 rw[Sem.run_bind,run_sliceAt_string _ t _ _ _ _ ht]
 rw[run_slice_string _ t _ k k' p q ht (by omega) (by omega) (by simp[ByteArray.size];omega),tL]
 simp
theorem E9 {r:Option Operand} (ho:o.op= .slice t x (some y) none r) (hr:r=none) (ht:P.underlying t=some .string) (hx:Ev n env x (str l)) (hy:Ev n env y (.int k p)) (h0:0≤p∧p≤l.length):
  hH P n env o (str (l.drop p.toNat)) w:=λa ha=>by
 subst hr
 simp only[execOp,ho,hx a ha,hy a ha,Option.map_some,Option.map_none]
 rw[Sem.run_bind,run_sliceAt_string _ t _ _ _ _ ht]
 rw[run_slice_string_l _ t _ ht k p (by omega) (by simp[ByteArray.size];omega),tL]
 have:(l.drop p.toNat).take ((⟨l.toArray⟩:ByteArray).size - p.toNat)=l.drop p.toNat:=List.take_of_length_le (by simp[ByteArray.size])
 rw[this]
 simp
theorem Fa {r:Option Operand} (ho:o.op= .slice t x none (some z) r) (hr:r=none) (ht:P.underlying t=some .string) (hx:Ev n env x (str l)) (hz:Ev n env z (.int k' q)) (h0:0≤q∧q≤l.length):
  hH P n env o (str (l.take q.toNat)) w:=λa ha=>by
 subst hr
 simp only[execOp,ho,hx a ha,hz a ha,Option.map_some,Option.map_none]
 rw[Sem.run_bind,run_sliceAt_string _ t _ _ _ _ ht]
 rw[run_slice_string_h _ t _ ht k' q (by omega) (by simp[ByteArray.size];omega),tL]
 simp
theorem ir {vs:Array Value} {i:Nat} (ho:o.op= .extract x i) (hx:Ev n env x (.tuple vs)) (hv:vs[i]? =some v):hH P n env o v w:=λa ha=>by
 simp only[execOp,ho,hx a ha];simp[Instr.extract,hv]
def EvL (n:Fr) (env:kW):List (Nat×Operand)→List (Nat×Value)→Prop
 | [],[]=>True
 | (i,x)::r,(j,v)::s=>i=j∧Ev n env x v∧EvL n env r s
 | _,_=>False
theorem EvL.map {ps:List (Nat×Operand)} {vs:List (Nat×Value)} (h:EvL n env ps vs) {a:Act} (ha:Has n a env):ps.toArray.map (λ(i,x)=>(i,a.eval x))=vs.toArray:=by
 suffices hl:ps.map (λ(i,x)=>(i,a.eval x))=vs by rw[List.map_toArray];exact congrArg List.toArray hl
 induction ps generalizing vs with
 | nil=>cases vs with
  | nil=>rfl
  | cons=>exact h.elim
 | cons p ps ih=>cases vs with
  | nil=>exact h.elim
  | cons v vs=>
   obtain⟨h1,h2,h3⟩:=h
   simp only[List.map_cons]
   rw[h2 a ha,h1,ih h3]
theorem aK {ps:List (Nat×Operand)} {vs:List (Nat×Value)} {cs:Array Value} (ho:o.op= .build t ps.toArray) (hp:EvL n env ps vs) (hb:P.built t vs=some cs):hH P n env o (.agg cs) w:=λa ha=>by
 simp only[execOp,ho,hp.map ha]
 rw[Sem.run_bind,run_build w t vs.toArray cs (by simpa using hb)]
 rfl
theorem P7 {cs:Array Value} {i:Nat} {d:TypeDesc} (ht:P.underlying t=some d) (hd:(match d with | .struct _ | .array _ _=>true | _=>false)=false) (hv:cs[i]? =some v):(part t cs i).run P w= .ok v w:=by
 have:(isAgg t).run P w= .ok false w:=by cases d<;>first | (cases hd;done) | simp[isAgg,run_underlying ht]
 simp[part,this,hv]
theorem nn {ad:Addr} (ho:o.op= .nilCheck x) (hx:Ev n env x (.pointer (some ad))):hH P n env o (.pointer (some ad)) w:=λa ha=>by
 simp only[execOp,ho,hx a ha];rfl
theorem aq {fs:Array Field} {f:Field} {i:Nat} {ad:Addr} (ho:o.op= .fieldAddr t x i) (hx:Ev n env x (.pointer (some ad))) (ht:P.underlying t=some (.struct fs)) (hf:fs[i]? =some f) {s off:Nat} (hs:(P.info? f.type).map (·.size)=some (s+1)) (hoff:f.offset=off):hH P n env o (.pointer (some (ad.add off))) w:=λa ha=>by
 obtain⟨j,hj,hs⟩:=Option.map_eq_some_iff.1 hs
 simp only[execOp,ho,hx a ha]
 simp[Instr.fieldAt,run_underlying ht,hf,Instr.sureAddr,fieldPlace,sizeOf,typeInfo,hj,hs,hoff]
theorem iS {A:Option Addr} {ad:Addr} {m c s:Nat} (ho:o.op= .indexAddr t x y) (ht:P.underlying t=some (.slice e)) (hs:(P.info? e).map (·.size)=some s) (hx:Ev n env x (.slice A m c)) (hy:Ev n env y (.int k p)) (h0:0≤p∧p<m) (hA:A=some ad):
  hH P n env o (.pointer (some (ad.add (p.toNat * s)))) w:=λa ha=>by
 subst hA
 obtain⟨j,hj,hs⟩:=Option.map_eq_some_iff.1 hs
 simp only[execOp,ho,hx a ha,hy a ha]
 have h:P.underlying t=some (.slice (P.elem t)):=by simp[Program.elem,ht]
 have he:P.elem t=e:=by simp[Program.elem,ht]
 rw[Sem.run_bind,run_indexAt_slice _ t _ _ _ _ _ h,if_pos h0,he]
 simp[sizeOf,typeInfo,hj,hs]
theorem aF {ad:Addr} {d:TypeDesc} (ho:o.op= .load t x) (hx:Ev n env x (.pointer (some ad))) (ht:P.underlying t=some d) (hd:(match d with | .struct _ | .array _ _=>true | _=>false)=false) (hc:CellsAt w ad [v]):hH P n env o v w:=λa ha=>by
 simp only[execOp,ho,hx a ha]
 have h1:(isAgg t).run P w= .ok false w:=by cases d<;>first | (cases hd;done) | simp[isAgg,run_underlying ht]
 have h2:=hc 0 v rfl
 rw[Addr.add_zero']at h2
 simp[Instr.loadAt,Instr.sureAddr,loadVar,h1,load,Sem.run,h2]
theorem am {ad:Addr} {d:TypeDesc} {l:List Value} (ho:o.op= .load t x) (hx:Ev n env x (.pointer (some ad))) (ht:P.underlying t=some d) (hd:(match d with | .struct _ | .array _ _=>true | _=>false)=true) (hs:(P.info? t).map (·.size)=some l.length) (hc:CellsAt w ad l):
  hH P n env o (.agg l.toArray) w:=λa ha=>by
 simp only[execOp,ho,hx a ha]
 have h1:(isAgg t).run P w= .ok true w:=by cases d<;>first | (cases hd;done) | simp[isAgg,run_underlying ht]
 obtain⟨j,hj,hs⟩:=Option.map_eq_some_iff.1 hs
 have h2:(sizeOf t).run P w= .ok l.length w:=by simp[sizeOf,typeInfo,hj,hs]
 have h3:=run_loadCells_list (P:=P) (w:=w) ad l hc
 simp[Instr.loadAt,Instr.sureAddr,loadVar,h1,h2,h3]
theorem yg {z:Value} (ho:o.op= .alloc t) (hz:((P.info? t).bind (·.zero))=some z):nA P n env o w (.ok (.value (.pointer (some ⟨w.heap.size,0,none⟩))) (w.alloc (.cells z.cells t))):=λa _=>by
 obtain⟨j,hj,hz⟩:=Option.bind_eq_some_iff.1 hz
 simp only[execOp,ho]
 simp[Instr.alloc,zeroValue,typeInfo,hj,hz,newVar,newRow,newObj,Sem.run]
theorem P4 (ho:o.op= .box t x) (hx:Ev n env x v):nA P n env o w (.ok (.value (.pointer (some ⟨w.heap.size,0,none⟩))) (w.alloc (.cells v.cells t))):=λa ha=>by
 simp only[execOp,ho,hx a ha]
 simp[Instr.box,newVar,newRow,newObj,Sem.run]
theorem Blk.setRow {w:World} {g:Nat} {t:TypeId} {cs ds:Array Value} (h:Blk w g t cs):Blk (w.setRow g ds) g t ds:=setRow_heap w g cs ds t (0,0) h
theorem Blk.farRow {w:World} {g g':Nat} {t:TypeId} {cs ds:Array Value} (h:Blk w g t cs) (hn:g≠g'):Blk (w.setRow g' ds) g t cs:=(setRow_other w g' g ds hn).trans h
theorem yf {g off:Nat} {T:TypeId} {cs cs':Array Value} {new:List Value} (ho:o.op= .store t x y) (hx:Ev n env x (.pointer (some ⟨g,off,none⟩))) (hy:Ev n env y v) (hv:v.cells.toList=new) (hs:(P.info? t).map (·.size)=some new.length) (hB:Blk w g T cs)
  (hone:new.all (·.oneCell')=true) (hfit:Nat.ble (off+new.length) cs.size=true) (hcs:(cs.toList.take off++new++cs.toList.drop (off+new.length)).toArray=cs'):nA P n env o w (.ok .skip (w.setRow g cs')):=λa ha=>by
 obtain⟨j,hj,hs⟩:=Option.map_eq_some_iff.1 hs
 simp only[execOp,ho,hx a ha,hy a ha]
 have h1:=run_storeCells_at P g off T new 0 cs w hB (by simpa using Nat.le_of_ble_eq_true hfit) (λu hu=>List.all_eq_true.1 hone u hu)
 simp only[Nat.add_zero,hcs]at h1
 have hsz:v.cells.size=j.size:=by rw[hs, ← hv];simp
 simp[Instr.storeAt,Instr.sureAddr,storeVar,sizeOf,typeInfo,hj,hsz,hv,h1]
def dv (P:Program) (f:FuncId):Prop:=∃ fn,P.funcs[f]? =some fn∧(fn.name== "runtime.NumGoroutine")=false∧fn.body.isNone=false
theorem rW {f:FuncId} (h:dv P f) (args:Array Value):(callFunc f args).run P w= .ok (.enter f args) w:=by
 obtain⟨fn,h1,h2,h3⟩:=h
 have e2:fn.name≠ "runtime.NumGoroutine" :=by simpa using h2
 have e3:fn.body≠none:=λe=>by simp[e]at h3
 simp[callFunc,program,Sem.run,h1,e2,e3]
def EvA (n:Fr) (env:kW):List Operand→List Value→Prop
 | [],[]=>True
 | x::r,v::s=>Ev n env x v∧EvA n env r s
 | _,_=>False
theorem EvA.map {xs:List Operand} {vs:List Value} (h:EvA n env xs vs) {a:Act} (ha:Has n a env):xs.toArray.map a.eval=vs.toArray:=by
 suffices hl:xs.map a.eval=vs by rw[List.map_toArray];exact congrArg List.toArray hl
 induction xs generalizing vs with
 | nil=>cases vs with
  | nil=>rfl
  | cons=>exact h.elim
 | cons x xs ih=>cases vs with
  | nil=>exact h.elim
  | cons v vs=>obtain⟨h2,h3⟩:=h;simp only[List.map_cons];rw[h2 a ha,ih h3]
theorem tA {f:FuncId} {fx:Operand} {xs:List Operand} {ts:Array TypeId} {vs:List Value} {fs cap:List Value} (ho:o.op= .call { callee:= .value fx,args:=xs.toArray,argTypes:=ts }) (hf:Ev n env fx (.func (.func f) fs.toArray cap.toArray)) (hok:dv P f) (hxs:EvA n env xs vs):
  nA P n env o w (.ok (.enter f (fs++vs++cap).toArray) w):=λa ha=>by
 simp only[execOp,ho]
 have e1:fs.toArray++vs.toArray++cap.toArray=(fs++vs++cap).toArray:=by simp
 simp only[resolve,hxs.map ha,hf a ha,Deferred.ofValue,Sem.run_bind,Sem.run_pure,Result.andThen_ok,invoke]
 rw[e1,rW hok]
def ue:Nat→List Value→kW
 | _,[]=>[]
 | i,v::r=>(i,v)::ue (i+1) r
theorem Ee (l:List Value):∀ (i t:Nat) (v:Value),look (ue i l) t=some v→i≤t∧l[t - i]? =some v:=by
 induction l with
 | nil=>intro i t v h;cases h
 | cons u r ih=>
  intro i t v h
  simp only[ue,look]at h
  cases hb:Nat.beq i t with
  | true=>
   rw[hb]at h
   injection h with h
   have:=Nat.eq_of_beq_eq_true hb
   subst this
   simp[h]
  | false=>
   rw[hb]at h
   obtain⟨h1,h2⟩:=ih (i+1) t v h
   refine⟨by omega,?_⟩
   rw[show t - i=(t - (i+1))+1 by omega]
   simpa using h2
theorem En {m:Nat} {l:List Value} (hl:Nat.ble l.length m=true):Has ⟨m,[]⟩ { tmps:=l.toArray++Array.replicate (m - l.toArray.size) undef,defers:=[] } (ue 0 l):=by
 have hle:=Nat.le_of_ble_eq_true hl
 refine⟨rfl,by simp;omega,λt v h ht=>?_⟩
 obtain⟨_,h2⟩:=Ee l 0 t v h
 simp only[Nat.sub_zero]at h2
 rw[Array.getD_eq_getD_getElem?,Array.getElem?_append]
 have hlt:t<l.length:=(List.getElem?_eq_some_iff.1 h2).1
 rw[if_pos (by simpa using hlt)]
 simp[h2]
def rP (P:Program):List Nat→World→World→Prop
 | [],w,w'=>w=w'
 | r::ds,w,w'=>∃ w1,(Instr.takeDeferred r).run P w= .ok [] w1∧rP P ds w1 w'
def yc (P:Program) (fn:Func) (R:Value→World→Prop) (a:Act) (w:World):Prop:=∃ ds w',a.defers=Ed ds∧rP P ds w w'∧∃ v,(results fn a.tmps).run P w'= .ok v w'∧R v w'
theorem nM {fn:Func} {tmps:Array Value} {R:Ending→World→Prop} {v:Value} {w':World} (hv:(results fn tmps).run P w'= .ok v w') (hR:R (.returned v) w'):∀ (ds:List Nat) (w:World),rP P ds w w'→LeavesInM Fence.wide 0 P fn tmps R (Ed ds) .returning w
 | [],w,h=>by
  have h:w=w':=h
  subst h;exact⟨v,hv,hR⟩
 | r::ds,w,⟨w1,h1,h2⟩=>⟨by simp,.inl ⟨r,w1,rfl,h1,nM hv hR ds w1 h2⟩⟩
theorem enter {f:FuncId} {fn:Func} {c:Code} {l:List Value} {m:Nat} {R:Value→World→Prop} (hf:P.funcs[f]? =some fn) (hb:fn.body=some c) (hn:fn.ntmps=m) (hl:Nat.ble l.length m=true)
  (h:gH P .plain ⟨m,[]⟩ c (yc P fn R) (λ_ _ _=>False) (yc P fn R) (ue 0 l) w):Calls P f l.toArray w λe w'=>∃ v,e= .returned v∧R v w':=by
 refine(callsIn_wide (n:=0)).1 (callsIn_of_wp_marks hf hb af ?_)
 subst hn
 refine wpIn_mono (h _ (En hl)) λe a w q=>?_
 cases e with
 | normal=>obtain⟨ds,w',h1,h2,v,h3,h4⟩:=q;show LeavesInM _ _ _ _ _ _ _ _ _;rw[h1];exact nM h3 ⟨v,rfl,h4⟩ ds w h2
 | ret=>obtain⟨ds,w',h1,h2,v,h3,h4⟩:=q;show LeavesInM _ _ _ _ _ _ _ _ _;rw[h1];exact nM h3 ⟨v,rfl,h4⟩ ds w h2
 | panic ch=>exact q.2.elim
 | exit id=>exact q.elim
 | goto l=>exact q.elim
 | outgrown=>exact q.elim
def ResL (P:Program) (n:Fr) (env:kW) (w:World):List ResultVar→List Value→Prop
 | [],[]=>True
 | .tmp t::r,v::s=>Ev n env (.tmp t) v∧ResL P n env w r s
 | .cell p t::r,v::s=>(∃ ad,Ev n env (.tmp p) (.pointer (some ad))∧(loadVar t ad).run P w= .ok v w)∧ResL P n env w r s
 | _,_=>False
def AY (tmps:Array Value):ResultVar→Sem Value
 | .tmp t=>pure (tmps.getD t undef)
 | .cell p t=>do loadVar t (← asAddr (tmps.getD p undef))
theorem ResL.run {rs:List ResultVar} {vs:List Value} (h:ResL P n env w rs vs) {a:Act} (ha:Has n a env):(rs.mapM (AY a.tmps)).run P w= .ok vs w:=by
 induction rs generalizing vs with
 | nil=>cases vs with
  | nil=>rfl
  | cons=>exact h.elim
 | cons r rs ih=>
  cases vs with
  | nil=>cases r<;>exact h.elim
  | cons v vs=>
   have h1:(AY a.tmps r).run P w= .ok v w∧ResL P n env w rs vs:=by
    cases r with
    | tmp t=>
     have h3:a.tmps.getD t undef=v:=h.1 a ha
     exact⟨by simp only[AY,h3];rfl,h.2⟩
    | cell p t=>
     obtain⟨⟨ad,h1,h4⟩,h2⟩:=h
     have h3:a.tmps.getD p undef= .pointer (some ad):=h1 a ha
     exact⟨by simp only[AY,h3,asAddr,Sem.run_bind,Sem.run_pure,Result.andThen_ok,h4],h2⟩
   simp only[List.mapM_cons,Sem.run_bind,Sem.run_pure,Result.andThen_ok,h1.1,ih h1.2]
def yF:List Value→Value
 | [v]=>v
 | vs=> .tuple vs.toArray
theorem vc {fn:Func} {R:Value→World→Prop} {rs:List ResultVar} {vs:List Value} {w0:World} (hs:rP P n.ds w0 w) (hr:fn.results=rs.toArray) (h:ResL P n env w rs vs) (hR:R (yF vs) w):∀ a,Has n a env→yc P fn R a w0:=λa ha=>by
 refine⟨n.ds,w,ha.df,hs,yF vs,?_,hR⟩
 have h1:=h.run ha
 have h2:results fn a.tmps=((rs.mapM (AY a.tmps))>>= λl=>pure l.toArray)>>= λvs=>pure (if h:vs.size=1 then vs[0]else .tuple vs):=by
  show _ =(List.toArray<$>rs.mapM (AY a.tmps))>>= λvs=>pure (if h:vs.size=1 then vs[0]else .tuple vs)
  rw[← List.mapM_toArray, ← hr]
  unfold results
  congr 2
 rw[h2]
 simp only[Sem.run_bind,h1,Result.andThen_ok,Sem.run_pure]
 match vs with
 | []=>rfl
 | [v]=>rfl
 | _ :: _ :: _=>rfl
theorem gR {fn:Func} {R:Value→World→Prop} {rs:List ResultVar} {vs:List Value} (hr:fn.results=rs.toArray) (h:ResL P n env w rs vs) (hR:R (yF vs) w) (hn:n.ds=[]:=by rfl):∀ a,Has n a env→yc P fn R a w:=vc (by rw[hn];rfl) hr h hR
theorem kB {ad:Addr} {d:TypeDesc} (ht:P.underlying t=some d) (hd:(match d with | .struct _ | .array _ _=>true | _=>false)=false) (hc:CellsAt w ad [v]):(loadVar t ad).run P w= .ok v w:=by
 have h1:(isAgg t).run P w= .ok false w:=by cases d<;>first | (cases hd;done) | simp[isAgg,run_underlying ht]
 have h2:=hc 0 v rfl
 rw[Addr.add_zero']at h2
 simp[loadVar,h1,load,Sem.run,h2]
theorem jI {ad:Addr} {d:TypeDesc} {l:List Value} (ht:P.underlying t=some d) (hd:(match d with | .struct _ | .array _ _=>true | _=>false)=true) (hs:(P.info? t).map (·.size)=some l.length) (hc:CellsAt w ad l):
  (loadVar t ad).run P w= .ok (.agg l.toArray) w:=by
 have h1:(isAgg t).run P w= .ok true w:=by cases d<;>first | (cases hd;done) | simp[isAgg,run_underlying ht]
 obtain⟨j,hj,hs⟩:=Option.map_eq_some_iff.1 hs
 have h2:(sizeOf t).run P w= .ok l.length w:=by simp[sizeOf,typeInfo,hj,hs]
 have h3:=run_loadCells_list (P:=P) (w:=w) ad l hc
 simp[loadVar,h1,h2,h3]
end
end Go.Vc
namespace Go.Vc
open Go Go.RowKit
section
variable {P:Program} {ro:Ro} {n:Fr} {Kn:Act→World→Prop} {Ke:Nat→Act→World→Prop} {Kr:Act→World→Prop} {env:kW} {w:World}
variable {ops:Array Oper} {rest:List Oper} {rs:Tr} {fl:Fl} {o:Oper} {i d:Nat} {v:Value} {x y:Operand} {t:TypeId} {S:World→Prop} {c b:Bool}
theorem oq {c:Code} {e:kW} (hs:Sub e env) (h:gH P ro n c Kn Ke Kr e w):∀ a,Has n a env→Code.wpIn (FW ro.r) 0 P c (vD ro Kn Ke Kr) a w:=λa ha=>h a (ha.sub hs)
theorem eZ {id:Nat} (h:∀ a,Has n a env→Kn a w):∀ a,Has n a env→Pu id Kn Ke id a w:=λa ha=>by
 have hb:Nat.beq id id=true:=by simp
 simp only[Pu,hb];exact h a ha
theorem Qs {id k:Nat} (hb:Nat.beq k id=false) (h:∀ a,Has n a env→Ke k a w):∀ a,Has n a env→Pu id Kn Ke k a w:=λa ha=>by
 simp only[Pu,hb];exact h a ha
theorem qo {α:Type} {E:α→kW} {I:α→World→Prop} {μ:α→World→Nat} {m:Nat} (x:α) (hs:Sub (E x) env) (hI:I x w) (hm:μ x w<m):∀ a,Has n a env→KB n E I μ m a w:=
 λ_ ha=>⟨x,ha.sub hs,hI,hm⟩
theorem bI {α:Type} {N:α→Fr} {E:α→kW} {J:α→World→Prop} (x:α) (hs:Sub (E x) env) (hj:J x w) (hn:N x=n):∀ a,Has n a env→KD N E J a w:=λ_ ha=>⟨x,hn▸ha.sub hs,hj⟩
theorem bO {c c':Code} {α:Type} (N:α→Fr) (E:α→kW) (J:α→World→Prop) (hy:∀ x w',J x w'→gH P ro (N x) c' Kn Ke Kr (E x) w') (hx:gH P ro n c (KD N E J) Ke Kr env w):gH P ro n (.seq c c') Kn Ke Kr env w:=
 aj λa ha=>wpIn_mono (hx a ha) λe a' w' q=>by
  cases e with
  | normal=>obtain⟨x,h1,h2⟩:=q;exact hy x w' h2 a' h1
  | exit id=>exact q
  | ret=>exact q
  | panic ch=>exact q
  | _=>exact q.elim
theorem ar {f:FuncId} {xs:List Operand} {ts:Array TypeId} {vs:List Value} (ho:o.op= .call { callee:= .value (.func f),args:=xs.toArray,argTypes:=ts }) (hok:dv P f) (hxs:EvA n env xs vs):
  nA P n env o w (.ok (.enter f vs.toArray) w):=by
 have h:=tA (P:=P) (n:=n) (env:=env) (w:=w) (fs:=[]) (cap:=[]) ho Hp hok hxs
 simpa using h
abbrev kX (p:Int):Prop:= -9223372036854775808≤p∧p≤9223372036854775807
abbrev R32 (p:Int):Prop:= -2147483648≤p∧p≤2147483647
abbrev QO (p:Int):Prop:=0≤p∧p≤18446744073709551615
abbrev RU8 (p:Int):Prop:=0≤p∧p≤255
theorem yv {p:Int} (h:kX p):IntKind.i64.wrap p=p:=by obtain⟨h1,h2⟩:=h;simp[IntKind.wrap,IntKind.signed,IntKind.bits];omega
theorem Nb {p:Int} (h:R32 p):IntKind.i32.wrap p=p:=by obtain⟨h1,h2⟩:=h;simp[IntKind.wrap,IntKind.signed,IntKind.bits];omega
theorem Na {p:Int} (h:QO p):IntKind.u64.wrap p=p:=by obtain⟨h1,h2⟩:=h;simp[IntKind.wrap,IntKind.signed,IntKind.bits];omega
theorem PD {p:Int} (h:RU8 p):IntKind.u8.wrap p=p:=by obtain⟨h1,h2⟩:=h;simp[IntKind.wrap,IntKind.signed,IntKind.bits];omega
end
end Go.Vc
namespace Go.Vc
open Go Go.RowKit
theorem CellsAt.part {w:World} {ad:Addr} {l l':List Value} {k:Nat} (h:CellsAt w ad l) (hl:(l.drop k).take l'.length=l'):CellsAt w (ad.add k) l':=λj u hu=>by
 have e:(ad.add k).add j=ad.add (k+j):=by
  unfold Addr.add
  by_cases hi:k=0<;>by_cases hj:j=0<;>simp[hi,hj,Nat.add_assoc]
 rw[e]
 refine h (k+j) u ?_
 rw[← hl,List.getElem?_take]at hu
 split at hu
 ·rw[List.getElem?_drop]at hu;exact hu
 ·cases hu
theorem vz {P:Program} {n:Fr} {env:kW} {w:World} {o:Oper} {v u:Value} (h:hH P n env o v w) (e:v=u):hH P n env o u w:=e▸h
end Go.Vc
