import Derived.Test.YtmhoikfoogemnaaGreatDoorHXc
import Derived.Test.YtmhoikfoogemnaaGreatDoorHLfH
namespace Go.Proofs.YtmhoikfoogemnaaGreatDoor
open Go Go.RowKit Go.Vc
set_option maxRecDepth 100000
set_option maxHeartbeats 4000000
set_option linter.unusedVariables false
set_option linter.unusedSimpArgs false
abbrev Kx:Array Value:=#[(str []),vi 0,vi 0,vi 0,vi 0,vi 0,vs none 0 0,vs none 0 0,vi 0,vi 0,(str []),vi 0,vi 0,vi 0,vi 0,vi 0,vi 0,vi 0,vi 0,vs none 0 0,vs none 0 0,vs none 0 0]
abbrev mD:Array Value:=#[vi 0,(str []),vi 0,vi 0,vi 0,vi 0,vi 0,vi 0,vi 0,vi 0,vs none 0 0,vs none 0 0,vs none 0 0]
abbrev Q2:List Value:=[vi 0,(str []),vi 0,vi 0,vi 0,vi 0,vi 0,vi 0,vi 0,vi 0,vs none 0 0,vs none 0 0,vs none 0 0]
abbrev YW3:List (List UInt8):=[([102,108,111,111,114]:List UInt8),([99,101,105,108]:List UInt8),([122,101,114,111]:List UInt8),([101,118,101,110]:List UInt8)]
abbrev YW4:List (List UInt8):=[([115,97,116]:List UInt8),([119,114,97,112]:List UInt8)]
abbrev YW5:List (List UInt8):=[([102,114,97,99]:List UInt8),([105,110,116]:List UInt8),([102,105,120]:List UInt8)]
abbrev YW6:List (List UInt8):=[([115,117,109]:List UInt8),([112,114,111,100]:List UInt8),([109,105,110]:List UInt8),([109,97,120]:List UInt8),([115,99,97,110]:List UInt8)]
abbrev Md:List (List UInt8):=[([115,105,122,101]:List UInt8),([119,104,101,114,101]:List UInt8),([105,110]:List UInt8),([100,101,102]:List UInt8),([111,117,116]:List UInt8)]
abbrev dF (F:NP) (w0:World):Prop:=∀ k,F k→k<w0.heap.size
theorem NE {m:Nat} :∀ k,cH k→k<m:=λ_ k=>k.elim
abbrev CR (F:NP) (w0:World) (f:FuncId) (args:Array Value) (v:Value) (cl:List Cl):Prop:=Calls Tryz.prog f args w0 λe w=>e= .returned v∧Ext w0 w∧AllCl cl F w
abbrev Cg:= @Calls Tryz.prog
abbrev CP {α:Type} (C0 F:NP) (w0:World) (f:FuncId) (args:Array Value) (r:bZ α) (A:α→Ending→World→Prop):Prop:=Calls Tryz.prog f args w0 λe w=>(∃ rx:α,r= .ret rx∧A rx e w)∨∃ (pa pn:Int),r= .pan pa pn∧e= .panicked [pe 114 pa pn]∧∃ C:NP,Bun C0 F w0 C w [] []
theorem E7 {P:Program} {ro:Ro} {n:Fr} {Kn:Act→World→Prop} {Ke:Nat→Act→World→Prop} {Kr:Act→World→Prop} {env:kW} {w:World} {c:Operand} {x y:Code} {b:Bool} {β:Type} {p q:Option β} {r:β} (h:(if b=true then p else q)=some r) (hc:Ev n env c (.bool b)) (ht:b=true→p=some r→gH P ro n x Kn Ke Kr env w) (hf:b=false→q=some r→gH P ro n y Kn Ke Kr env w):gH P ro n (.cond c x y) Kn Ke Kr env w:=sO hc (λhb=>ht hb (MN hb h)) (λhb=>hf hb (MP hb h))
theorem fq {F C:NP} {w0 w:World} {os:List MO} {cl cl':List Cl} {e:Ending} (h:Bun cH F w0 C w os cl) (hs:Subs cl cl'):e=e∧Ext w0 w∧AllCl cl' F w:=⟨rfl,h.ext0,h.fin hs⟩
abbrev oJ (x:bp):List Value:=[vi x.Kind,vi x.At,str x.Text]
abbrev ac (x:aa) (A1:Option Addr) (C1:Nat):Array Value:=#[vs A1 x.l.length C1,vi x.at_,vi x.deep]
abbrev li (x:bv):List Value:=[str x.Name,vi x.By]
abbrev fS (x:aC) (A1:Option Addr) (C1:Nat):List Value:=[vi x.K,vs A1 x.L.length C1]
abbrev eP (x:aC) (A1:Option Addr) (C1:Nat):Array Value:=#[vi x.K,vs A1 x.L.length C1]
abbrev bU (x:bu):List Value:=[vi x.Kind,vi x.Bits,vi x.Frac,vi x.Round,vi x.Over]
abbrev fV (x:bu):Array Value:=#[vi x.Kind,vi x.Bits,vi x.Frac,vi x.Round,vi x.Over]
abbrev BA:Array Value:=#[vi 0,vi 0,vi 0,vi 0,vi 0]
abbrev oA (x:co):List Value:=[vi x.N,vi x.D]
abbrev sT (x:co):Array Value:=#[vi x.N,vi x.D]
abbrev tJ (x:aM) (A1:Option Addr) (C1:Nat) (A2:Option Addr) (C2:Nat):List Value:=[vi x.Lin.K,vs A1 x.Lin.L.length C1,str x.From,vs A2 x.At.length C2]
abbrev oN (x:aM) (A1:Option Addr) (C1:Nat) (A2:Option Addr) (C2:Nat):Array Value:=#[vi x.Lin.K,vs A1 x.Lin.L.length C1,str x.From,vs A2 x.At.length C2]
abbrev ba (x:ae) (A1:Option Addr) (C1:Nat) (A2:Option Addr) (C2:Nat) (A3:Option Addr) (C3:Nat):List Value:=[vi x.Op,str x.Name,vi x.Val.N,vi x.Val.D,vi x.Type_.Kind,vi x.Type_.Bits,vi x.Type_.Frac,vi x.Type_.Round,vi x.Type_.Over,vi x.Lin.K,vs A1 x.Lin.L.length C1,vs A2 x.Idx.length C2,vs A3 x.Args.length C3]
abbrev aA (x:ae) (A1:Option Addr) (C1:Nat) (A2:Option Addr) (C2:Nat) (A3:Option Addr) (C3:Nat):Array Value:=#[vi x.Op,str x.Name,vi x.Val.N,vi x.Val.D,vi x.Type_.Kind,vi x.Type_.Bits,vi x.Type_.Frac,vi x.Type_.Round,vi x.Type_.Over,vi x.Lin.K,vs A1 x.Lin.L.length C1,vs A2 x.Idx.length C2,vs A3 x.Args.length C3]
abbrev qV (x:aD) (A1:Option Addr) (C1:Nat):List Value:=[vi x.Lin.K,vs A1 x.Lin.L.length C1,vb x.Eq]
abbrev kK (x:aD) (A1:Option Addr) (C1:Nat):Array Value:=#[vi x.Lin.K,vs A1 x.Lin.L.length C1,vb x.Eq]
abbrev uf:Array Value:=#[vi 0,vs none 0 0,vb false]
abbrev tI (x:fE) (A1:Option Addr) (C1:Nat):List Value:=[str x.Name,vi x.Type_.Kind,vi x.Type_.Bits,vi x.Type_.Frac,vi x.Type_.Round,vi x.Type_.Over,vs A1 x.Dims.length C1]
abbrev KF (x:fE) (A1:Option Addr) (C1:Nat):Array Value:=#[str x.Name,vi x.Type_.Kind,vi x.Type_.Bits,vi x.Type_.Frac,vi x.Type_.Round,vi x.Type_.Over,vs A1 x.Dims.length C1]
abbrev Bf (x:fG) (A1:Option Addr) (C1:Nat):List Value:=[str x.Name,vi x.Size.K,vs A1 x.Size.L.length C1]
abbrev Qr (x:cU) (A1:Option Addr) (C1:Nat) (A2:Option Addr) (C2:Nat) (A3:Option Addr) (C3:Nat) (A4:Option Addr) (C4:Nat) (A5:Option Addr) (C5:Nat):List Value:=[str x.Name,vi x.Type_.Kind,vi x.Type_.Bits,vi x.Type_.Frac,vi x.Type_.Round,vi x.Type_.Over,vs A1 x.Dims.length C1,vs A2 x.Red.length C2,vi x.Fold,vi x.Body.Op,str x.Body.Name,vi x.Body.Val.N,vi x.Body.Val.D,vi x.Body.Type_.Kind,vi x.Body.Type_.Bits,vi x.Body.Type_.Frac,vi x.Body.Type_.Round,vi x.Body.Type_.Over,vi x.Body.Lin.K,vs A3 x.Body.Lin.L.length C3,vs A4 x.Body.Idx.length C4,vs A5 x.Body.Args.length C5]
abbrev vC (x:cU) (A1:Option Addr) (C1:Nat) (A2:Option Addr) (C2:Nat) (A3:Option Addr) (C3:Nat) (A4:Option Addr) (C4:Nat) (A5:Option Addr) (C5:Nat):Array Value:=#[str x.Name,vi x.Type_.Kind,vi x.Type_.Bits,vi x.Type_.Frac,vi x.Type_.Round,vi x.Type_.Over,vs A1 x.Dims.length C1,vs A2 x.Red.length C2,vi x.Fold,vi x.Body.Op,str x.Body.Name,vi x.Body.Val.N,vi x.Body.Val.D,vi x.Body.Type_.Kind,vi x.Body.Type_.Bits,vi x.Body.Type_.Frac,vi x.Body.Type_.Round,vi x.Body.Type_.Over,vi x.Body.Lin.K,vs A3 x.Body.Lin.L.length C3,vs A4 x.Body.Idx.length C4,vs A5 x.Body.Args.length C5]
abbrev yY (x:aV) (A1:Option Addr) (C1:Nat) (A2:Option Addr) (C2:Nat) (A3:Option Addr) (C3:Nat) (A4:Option Addr) (C4:Nat) (A5:Option Addr) (C5:Nat):List Value:=[vs A1 x.Sizes.length C1,vs A2 x.Where.length C2,vs A3 x.Params.length C3,vs A4 x.Defs.length C4,vs A5 x.Outs.length C5]
abbrev hP (x:aV) (A1:Option Addr) (C1:Nat) (A2:Option Addr) (C2:Nat) (A3:Option Addr) (C3:Nat) (A4:Option Addr) (C4:Nat) (A5:Option Addr) (C5:Nat):Array Value:=#[vs A1 x.Sizes.length C1,vs A2 x.Where.length C2,vs A3 x.Params.length C3,vs A4 x.Defs.length C4,vs A5 x.Outs.length C5]
abbrev pq:Array Value:=#[vs none 0 0,vs none 0 0,vs none 0 0,vs none 0 0,vs none 0 0]
abbrev u2:= @Tryz.underlying2
abbrev u3:= @Tryz.underlying3
abbrev u4:= @Tryz.underlying4
abbrev u5:= @Tryz.underlying5
abbrev u9:= @Tryz.underlying9
abbrev QT:= @Tryz.underlying22
abbrev BL:= @Tryz.underlying25
abbrev pr:= @Tryz.underlying27
abbrev IK:= @Tryz.underlying28
abbrev Gy:= @Tryz.underlying33
abbrev qF:= @Tryz.underlying35
abbrev xm:= @Tryz.underlying36
abbrev K2:= @Tryz.underlying37
abbrev jZ:= @Tryz.underlying39
abbrev K1:= @Tryz.underlying50
abbrev PP:= @Tryz.underlying51
abbrev PN:= @Tryz.underlying52
abbrev PM:= @Tryz.underlying53
abbrev QS:= @Tryz.underlying55
abbrev u64:= @Tryz.underlying64
abbrev QR:= @Tryz.underlying65
abbrev PK:= @Tryz.underlying67
abbrev E5:= @Tryz.underlying93
abbrev u98:= @Tryz.underlying98
abbrev Ac:= @Tryz.underlying100
abbrev Nj:= @Tryz.underlying107
abbrev u114:= @Tryz.underlying114
abbrev o0:= @Tryz.underlying132
abbrev u219:= @Tryz.underlying219
theorem DP:Tryz.prog.stoodInHeld 33=false:=by kernel_rfl
theorem Eu (a0 b0:Int) (a1 b1:Int) (w:World):(binOp .eql 33 (.agg #[(Value.int .i64 a0),(Value.int .i64 a1)]) (.agg #[(Value.int .i64 b0),(Value.int .i64 b1)])).run Tryz.prog w= .ok (.bool ((decide (a0=b0))&&(decide (a1=b1)))) w:=by
  simp[go_sem,DP,Tryz.underlying33,qs,qr]
  all_goals (by_cases h0:a0=b0<;>by_cases h1:a1=b1<;>simp[h0,h1])
theorem wo (a0 b0:Int) (a1 b1:Int) (w:World):(binOp .neq 33 (.agg #[(Value.int .i64 a0),(Value.int .i64 a1)]) (.agg #[(Value.int .i64 b0),(Value.int .i64 b1)])).run Tryz.prog w= .ok (.bool (!((decide (a0=b0))&&(decide (a1=b1))))) w:=by
  simp[go_sem,DP,Tryz.underlying33,qs,qr]
  all_goals (by_cases h0:a0=b0<;>by_cases h1:a1=b1<;>simp[h0,h1])
theorem vr (op:BinOp) (x y:Operand) (xs ys:Array Value) (w:World):(eqGuard op 33 x y (.agg xs) (.agg ys)).run Tryz.prog w= .ok () w:=run_eqGuard_agg w op 33 x y xs ys (by kernel_rfl)
theorem DO:Tryz.prog.stoodInHeld 35=false:=by kernel_rfl
theorem tN (a0 b0:Int) (a1 b1:Int) (a2 b2:Int) (a3 b3:Int) (a4 b4:Int) (w:World):(binOp .eql 35 (.agg #[(Value.int .i64 a0),(Value.int .i64 a1),(Value.int .i64 a2),(Value.int .i64 a3),(Value.int .i64 a4)]) (.agg #[(Value.int .i64 b0),(Value.int .i64 b1),(Value.int .i64 b2),(Value.int .i64 b3),(Value.int .i64 b4)])).run Tryz.prog w= .ok (.bool ((decide (a0=b0))&&(decide (a1=b1))&&(decide (a2=b2))&&(decide (a3=b3))&&(decide (a4=b4)))) w:=by
  simp[go_sem,DO,Tryz.underlying35,qs,qr]
  all_goals (by_cases h0:a0=b0<;>by_cases h1:a1=b1<;>by_cases h2:a2=b2<;>by_cases h3:a3=b3<;>by_cases h4:a4=b4<;>simp[h0,h1,h2,h3,h4])
theorem sv (a0 b0:Int) (a1 b1:Int) (a2 b2:Int) (a3 b3:Int) (a4 b4:Int) (w:World):(binOp .neq 35 (.agg #[(Value.int .i64 a0),(Value.int .i64 a1),(Value.int .i64 a2),(Value.int .i64 a3),(Value.int .i64 a4)]) (.agg #[(Value.int .i64 b0),(Value.int .i64 b1),(Value.int .i64 b2),(Value.int .i64 b3),(Value.int .i64 b4)])).run Tryz.prog w= .ok (.bool (!((decide (a0=b0))&&(decide (a1=b1))&&(decide (a2=b2))&&(decide (a3=b3))&&(decide (a4=b4))))) w:=by
  simp[go_sem,DO,Tryz.underlying35,qs,qr]
  all_goals (by_cases h0:a0=b0<;>by_cases h1:a1=b1<;>by_cases h2:a2=b2<;>by_cases h3:a3=b3<;>by_cases h4:a4=b4<;>simp[h0,h1,h2,h3,h4])
theorem oK (op:BinOp) (x y:Operand) (xs ys:Array Value) (w:World):(eqGuard op 35 x y (.agg xs) (.agg ys)).run Tryz.prog w= .ok () w:=run_eqGuard_agg w op 35 x y xs ys (by kernel_rfl)
theorem I4:Tryz.prog.stoodInHeld 64=false:=by kernel_rfl
theorem CD (a0 b0:List UInt8) (a1 b1:Int) (w:World):(binOp .neq 64 (.agg #[(str a0),(Value.int .i64 a1)]) (.agg #[(str b0),(Value.int .i64 b1)])).run Tryz.prog w= .ok (.bool (!((decide (a0=b0))&&(decide (a1=b1))))) w:=by
  simp[go_sem,I4,Tryz.underlying64,qs,qr]
  all_goals (by_cases h0:a0=b0<;>by_cases h1:a1=b1<;>simp[h0,h1])
theorem FY (op:BinOp) (x y:Operand) (xs ys:Array Value) (w:World):(eqGuard op 64 x y (.agg xs) (.agg ys)).run Tryz.prog w= .ok () w:=run_eqGuard_agg w op 64 x y xs ys (by kernel_rfl)
theorem zd:qM Tryz.prog 100 22 272 (Value.agg #[(str []),(Value.int .i64 0),(Value.int .i64 0),(Value.int .i64 0),(Value.int .i64 0),(Value.int .i64 0),(Value.slice none 0 0),(Value.slice none 0 0),(Value.int .i64 0),(Value.int .i64 0),(str []),(Value.int .i64 0),(Value.int .i64 0),(Value.int .i64 0),(Value.int .i64 0),(Value.int .i64 0),(Value.int .i64 0),(Value.int .i64 0),(Value.int .i64 0),(Value.slice none 0 0),(Value.slice none 0 0),(Value.slice none 0 0)]):=ni (by kernel_rfl) rfl
theorem zc:qM Tryz.prog 107 3 40 (Value.agg #[(Value.int .i64 0),(Value.slice none 0 0),(Value.bool false)]):=ni (by kernel_rfl) rfl
theorem wk:qM Tryz.prog 132 4 72 (Value.agg #[(Value.int .i64 0),(Value.slice none 0 0),(str []),(Value.slice none 0 0)]):=ni (by kernel_rfl) rfl
theorem Em:qM Tryz.prog 204 3 48 (Value.agg #[(str []),(Value.int .i64 0),(Value.slice none 0 0)]):=ni (by kernel_rfl) rfl
theorem Ct:qM Tryz.prog 27 2 32 (Value.agg #[(Value.int .i64 0),(Value.slice none 0 0)]):=ni (by kernel_rfl) rfl
theorem zb:qM Tryz.prog 3 1 8 (Value.int .i64 0):=ni (by kernel_rfl) rfl
theorem oW:qM Tryz.prog 39 13 160 (Value.agg #[(Value.int .i64 0),(str []),(Value.int .i64 0),(Value.int .i64 0),(Value.int .i64 0),(Value.int .i64 0),(Value.int .i64 0),(Value.int .i64 0),(Value.int .i64 0),(Value.int .i64 0),(Value.slice none 0 0),(Value.slice none 0 0),(Value.slice none 0 0)]):=ni (by kernel_rfl) rfl
theorem OU:qM Tryz.prog 5 1 1 (Value.int .u8 0):=ni (by kernel_rfl) rfl
theorem yn:qM Tryz.prog 62 3 32 (Value.agg #[(Value.int .i64 0),(Value.int .i64 0),(str [])]):=ni (by kernel_rfl) rfl
theorem uu:qM Tryz.prog 64 2 24 (Value.agg #[(str []),(Value.int .i64 0)]):=ni (by kernel_rfl) rfl
theorem lw:qM Tryz.prog 9 1 16 (str []):=ni (by kernel_rfl) rfl
theorem Cs:qM Tryz.prog 95 7 80 (Value.agg #[(str []),(Value.int .i64 0),(Value.int .i64 0),(Value.int .i64 0),(Value.int .i64 0),(Value.int .i64 0),(Value.slice none 0 0)]):=ni (by kernel_rfl) rfl
theorem B9:dv Tryz.prog 100:=⟨_,Tryz.func100,by kernel_rfl,by kernel_rfl⟩
theorem B8:dv Tryz.prog 101:=⟨_,Tryz.func101,by kernel_rfl,by kernel_rfl⟩
theorem B7:dv Tryz.prog 102:=⟨_,Tryz.func102,by kernel_rfl,by kernel_rfl⟩
theorem B6:dv Tryz.prog 104:=⟨_,Tryz.func104,by kernel_rfl,by kernel_rfl⟩
theorem OB:dv Tryz.prog 111:=⟨_,Tryz.func111,by kernel_rfl,by kernel_rfl⟩
theorem OA:dv Tryz.prog 116:=⟨_,Tryz.func116,by kernel_rfl,by kernel_rfl⟩
theorem B5:dv Tryz.prog 117:=⟨_,Tryz.func117,by kernel_rfl,by kernel_rfl⟩
theorem Oz:dv Tryz.prog 118:=⟨_,Tryz.func118,by kernel_rfl,by kernel_rfl⟩
theorem Qi:dv Tryz.prog 12:=⟨_,Tryz.func12,by kernel_rfl,by kernel_rfl⟩
theorem Oy:dv Tryz.prog 125:=⟨_,Tryz.func125,by kernel_rfl,by kernel_rfl⟩
theorem Ox:dv Tryz.prog 126:=⟨_,Tryz.func126,by kernel_rfl,by kernel_rfl⟩
theorem Ow:dv Tryz.prog 128:=⟨_,Tryz.func128,by kernel_rfl,by kernel_rfl⟩
theorem Jx:dv Tryz.prog 14:=⟨_,Tryz.func14,by kernel_rfl,by kernel_rfl⟩
theorem Ov:dv Tryz.prog 140:=⟨_,Tryz.func140,by kernel_rfl,by kernel_rfl⟩
theorem Jw:dv Tryz.prog 142:=⟨_,Tryz.func142,by kernel_rfl,by kernel_rfl⟩
theorem Ou:dv Tryz.prog 155:=⟨_,Tryz.func155,by kernel_rfl,by kernel_rfl⟩
theorem Jv:dv Tryz.prog 157:=⟨_,Tryz.func157,by kernel_rfl,by kernel_rfl⟩
theorem Ot:dv Tryz.prog 158:=⟨_,Tryz.func158,by kernel_rfl,by kernel_rfl⟩
theorem Qh:dv Tryz.prog 17:=⟨_,Tryz.func17,by kernel_rfl,by kernel_rfl⟩
theorem Oq:dv Tryz.prog 171:=⟨_,Tryz.func171,by kernel_rfl,by kernel_rfl⟩
theorem Oo:dv Tryz.prog 172:=⟨_,Tryz.func172,by kernel_rfl,by kernel_rfl⟩
theorem On:dv Tryz.prog 173:=⟨_,Tryz.func173,by kernel_rfl,by kernel_rfl⟩
theorem Om:dv Tryz.prog 174:=⟨_,Tryz.func174,by kernel_rfl,by kernel_rfl⟩
theorem Ol:dv Tryz.prog 176:=⟨_,Tryz.func176,by kernel_rfl,by kernel_rfl⟩
theorem Ok:dv Tryz.prog 177:=⟨_,Tryz.func177,by kernel_rfl,by kernel_rfl⟩
theorem GW:dv Tryz.prog 18:=⟨_,Tryz.func18,by kernel_rfl,by kernel_rfl⟩
theorem Oj:dv Tryz.prog 184:=⟨_,Tryz.func184,by kernel_rfl,by kernel_rfl⟩
theorem Oi:dv Tryz.prog 185:=⟨_,Tryz.func185,by kernel_rfl,by kernel_rfl⟩
theorem Oh:dv Tryz.prog 193:=⟨_,Tryz.func193,by kernel_rfl,by kernel_rfl⟩
theorem Og:dv Tryz.prog 197:=⟨_,Tryz.func197,by kernel_rfl,by kernel_rfl⟩
theorem Of:dv Tryz.prog 199:=⟨_,Tryz.func199,by kernel_rfl,by kernel_rfl⟩
theorem Oe:dv Tryz.prog 200:=⟨_,Tryz.func200,by kernel_rfl,by kernel_rfl⟩
theorem Od:dv Tryz.prog 201:=⟨_,Tryz.func201,by kernel_rfl,by kernel_rfl⟩
theorem Oc:dv Tryz.prog 203:=⟨_,Tryz.func203,by kernel_rfl,by kernel_rfl⟩
theorem Ob:dv Tryz.prog 204:=⟨_,Tryz.func204,by kernel_rfl,by kernel_rfl⟩
theorem Oa:dv Tryz.prog 208:=⟨_,Tryz.func208,by kernel_rfl,by kernel_rfl⟩
theorem N9:dv Tryz.prog 212:=⟨_,Tryz.func212,by kernel_rfl,by kernel_rfl⟩
theorem N8:dv Tryz.prog 213:=⟨_,Tryz.func213,by kernel_rfl,by kernel_rfl⟩
theorem N7:dv Tryz.prog 214:=⟨_,Tryz.func214,by kernel_rfl,by kernel_rfl⟩
theorem N6:dv Tryz.prog 217:=⟨_,Tryz.func217,by kernel_rfl,by kernel_rfl⟩
theorem N5:dv Tryz.prog 218:=⟨_,Tryz.func218,by kernel_rfl,by kernel_rfl⟩
theorem Qg:dv Tryz.prog 22:=⟨_,Tryz.func22,by kernel_rfl,by kernel_rfl⟩
theorem N4:dv Tryz.prog 225:=⟨_,Tryz.func225,by kernel_rfl,by kernel_rfl⟩
theorem N3:dv Tryz.prog 227:=⟨_,Tryz.func227,by kernel_rfl,by kernel_rfl⟩
theorem N2:dv Tryz.prog 230:=⟨_,Tryz.func230,by kernel_rfl,by kernel_rfl⟩
theorem N1:dv Tryz.prog 231:=⟨_,Tryz.func231,by kernel_rfl,by kernel_rfl⟩
theorem N0:dv Tryz.prog 232:=⟨_,Tryz.func232,by kernel_rfl,by kernel_rfl⟩
theorem NZ:dv Tryz.prog 233:=⟨_,Tryz.func233,by kernel_rfl,by kernel_rfl⟩
theorem NY:dv Tryz.prog 234:=⟨_,Tryz.func234,by kernel_rfl,by kernel_rfl⟩
theorem NX:dv Tryz.prog 235:=⟨_,Tryz.func235,by kernel_rfl,by kernel_rfl⟩
theorem NW:dv Tryz.prog 242:=⟨_,Tryz.func242,by kernel_rfl,by kernel_rfl⟩
theorem B4:dv Tryz.prog 258:=⟨_,Tryz.func258,by kernel_rfl,by kernel_rfl⟩
theorem NV:dv Tryz.prog 271:=⟨_,Tryz.func271,by kernel_rfl,by kernel_rfl⟩
theorem MA:dv Tryz.prog 30:=⟨_,Tryz.func30,by kernel_rfl,by kernel_rfl⟩
theorem Mz:dv Tryz.prog 33:=⟨_,Tryz.func33,by kernel_rfl,by kernel_rfl⟩
theorem ru:dv Tryz.prog 34:=⟨_,Tryz.func34,by kernel_rfl,by kernel_rfl⟩
theorem xy:dv Tryz.prog 45:=⟨_,Tryz.func45,by kernel_rfl,by kernel_rfl⟩
theorem My:dv Tryz.prog 49:=⟨_,Tryz.func49,by kernel_rfl,by kernel_rfl⟩
theorem Qf:dv Tryz.prog 54:=⟨_,Tryz.func54,by kernel_rfl,by kernel_rfl⟩
theorem Qe:dv Tryz.prog 55:=⟨_,Tryz.func55,by kernel_rfl,by kernel_rfl⟩
theorem Qd:dv Tryz.prog 61:=⟨_,Tryz.func61,by kernel_rfl,by kernel_rfl⟩
theorem GV:dv Tryz.prog 64:=⟨_,Tryz.func64,by kernel_rfl,by kernel_rfl⟩
theorem Mx:dv Tryz.prog 65:=⟨_,Tryz.func65,by kernel_rfl,by kernel_rfl⟩
theorem Qc:dv Tryz.prog 68:=⟨_,Tryz.func68,by kernel_rfl,by kernel_rfl⟩
theorem Mw:dv Tryz.prog 69:=⟨_,Tryz.func69,by kernel_rfl,by kernel_rfl⟩
theorem xx:dv Tryz.prog 70:=⟨_,Tryz.func70,by kernel_rfl,by kernel_rfl⟩
theorem uO:dv Tryz.prog 71:=⟨_,Tryz.func71,by kernel_rfl,by kernel_rfl⟩
theorem Qb:dv Tryz.prog 75:=⟨_,Tryz.func75,by kernel_rfl,by kernel_rfl⟩
theorem Qa:dv Tryz.prog 82:=⟨_,Tryz.func82,by kernel_rfl,by kernel_rfl⟩
theorem Mv:dv Tryz.prog 89:=⟨_,Tryz.func89,by kernel_rfl,by kernel_rfl⟩
theorem Mu:dv Tryz.prog 90:=⟨_,Tryz.func90,by kernel_rfl,by kernel_rfl⟩
theorem P9:dv Tryz.prog 91:=⟨_,Tryz.func91,by kernel_rfl,by kernel_rfl⟩
theorem P8:dv Tryz.prog 92:=⟨_,Tryz.func92,by kernel_rfl,by kernel_rfl⟩
theorem xw:dv Tryz.prog 99:=⟨_,Tryz.func99,by kernel_rfl,by kernel_rfl⟩
theorem nL:(Tryz.prog.info? 100).map (·.size)=some 22:=by kernel_rfl
theorem tw:(Tryz.prog.info? 107).map (·.size)=some 3:=by kernel_rfl
theorem lL:(Tryz.prog.info? 132).map (·.size)=some 4:=by kernel_rfl
theorem Fk:(Tryz.prog.info? 2).map (·.size)=some 1:=by kernel_rfl
theorem I9:(Tryz.prog.info? 204).map (·.size)=some 3:=by kernel_rfl
theorem ul:(Tryz.prog.info? 25).map (·.size)=some 1:=by kernel_rfl
theorem bc:(Tryz.prog.info? 27).map (·.size)=some 2:=by kernel_rfl
theorem lE:(Tryz.prog.info? 28).map (·.size)=some 1:=by kernel_rfl
theorem jQ:(Tryz.prog.info? 3).map (·.size)=some 1:=by kernel_rfl
theorem kM:(Tryz.prog.info? 33).map (·.size)=some 2:=by kernel_rfl
theorem bN:(Tryz.prog.info? 35).map (·.size)=some 5:=by kernel_rfl
theorem nK:(Tryz.prog.info? 36).map (·.size)=some 1:=by kernel_rfl
theorem GL:(Tryz.prog.info? 37).map (·.size)=some 1:=by kernel_rfl
theorem aJ:(Tryz.prog.info? 39).map (·.size)=some 13:=by kernel_rfl
theorem ye:(Tryz.prog.info? 55).map (·.size)=some 5:=by kernel_rfl
theorem uk:(Tryz.prog.info? 64).map (·.size)=some 2:=by kernel_rfl
theorem wN:(Tryz.prog.info? 9).map (·.size)=some 1:=by kernel_rfl
theorem qO:(Tryz.prog.info? 93).map (·.size)=some 1:=by kernel_rfl
theorem GK:(Tryz.prog.info? 95).map (·.size)=some 7:=by kernel_rfl
theorem Lh:(Tryz.prog.info? 98).map (·.size)=some 1:=by kernel_rfl
theorem Ix:(Tryz.prog.info? 100).bind (·.zero)=some (Value.agg #[(str []),(Value.int .i64 0),(Value.int .i64 0),(Value.int .i64 0),(Value.int .i64 0),(Value.int .i64 0),(Value.slice none 0 0),(Value.slice none 0 0),(Value.int .i64 0),(Value.int .i64 0),(str []),(Value.int .i64 0),(Value.int .i64 0),(Value.int .i64 0),(Value.int .i64 0),(Value.int .i64 0),(Value.int .i64 0),(Value.int .i64 0),(Value.int .i64 0),(Value.slice none 0 0),(Value.slice none 0 0),(Value.slice none 0 0)]):=by kernel_rfl
theorem Iw:(Tryz.prog.info? 107).bind (·.zero)=some (Value.agg #[(Value.int .i64 0),(Value.slice none 0 0),(Value.bool false)]):=by kernel_rfl
theorem Iu:(Tryz.prog.info? 132).bind (·.zero)=some (Value.agg #[(Value.int .i64 0),(Value.slice none 0 0),(str []),(Value.slice none 0 0)]):=by kernel_rfl
theorem mj:(Tryz.prog.info? 27).bind (·.zero)=some (Value.agg #[(Value.int .i64 0),(Value.slice none 0 0)]):=by kernel_rfl
theorem Gj:(Tryz.prog.info? 28).bind (·.zero)=some (Value.int .i64 0):=by kernel_rfl
theorem It:(Tryz.prog.info? 3).bind (·.zero)=some (Value.int .i64 0):=by kernel_rfl
theorem BC:(Tryz.prog.info? 33).bind (·.zero)=some (Value.agg #[(Value.int .i64 0),(Value.int .i64 0)]):=by kernel_rfl
theorem KR:(Tryz.prog.info? 35).bind (·.zero)=some (Value.agg #[(Value.int .i64 0),(Value.int .i64 0),(Value.int .i64 0),(Value.int .i64 0),(Value.int .i64 0)]):=by kernel_rfl
theorem fW:(Tryz.prog.info? 39).bind (·.zero)=some (Value.agg #[(Value.int .i64 0),(str []),(Value.int .i64 0),(Value.int .i64 0),(Value.int .i64 0),(Value.int .i64 0),(Value.int .i64 0),(Value.int .i64 0),(Value.int .i64 0),(Value.int .i64 0),(Value.slice none 0 0),(Value.slice none 0 0),(Value.slice none 0 0)]):=by kernel_rfl
theorem Gi:(Tryz.prog.info? 55).bind (·.zero)=some (Value.agg #[(Value.slice none 0 0),(Value.slice none 0 0),(Value.slice none 0 0),(Value.slice none 0 0),(Value.slice none 0 0)]):=by kernel_rfl
theorem KQ:(Tryz.prog.info? 95).bind (·.zero)=some (Value.agg #[(str []),(Value.int .i64 0),(Value.int .i64 0),(Value.int .i64 0),(Value.int .i64 0),(Value.int .i64 0),(Value.slice none 0 0)]):=by kernel_rfl
variable {σ:Type} {C0 F:NP} {w0:World} {a1 a2 a3 a4 a5 a6 a7 a8 a9 a10 a11 a12:Option Addr} {b1 b2 b3 b4 b5 b6 b7 b8 b9 b10 b11 b12 c1 c2 c3 c4 c5 c6 c7 c8 c9 c10 c11 c12:Nat}
theorem Ax (hF:dF F w0) {c1:Int} (hc:AllCl [] F w0) {r:Bool} (h:ra c1=some r):CR F w0 94 #[(Value.int .u8 c1)] (vb r) []:=by
 refine EN Tryz.func94 Tryz.ntmps94 hF hc λhI=>?_
 rw[ra]at h
 exact RF
theorem ww (hF:dF F w0) {s1:List UInt8} {at1:Int} (hc:AllCl [] F w0) {r:Int} (h:pJ s1 at1=some r):CR F w0 46 #[(str s1),vi at1] (vi r) []:=by
 refine EN Tryz.func46 Tryz.ntmps46 hF hc λhI=>?_
 rw[pJ]at h
 refine T ?_
 refine aj (T ?_)
 refine bk (α:=Nat×Int) (λx=>λw=>∃ C,Bun cH F w0 C w [] []∧iD s1 (x.1) (x.2)=some r) (λx _=>x.1) (λx=>[(0,(str s1)),(1,vi (x.2))]) (fu,at1) BH SB ?_
 clear h hI;rintro⟨fuel1,at2⟩ w1 ⟨c1,hI,h⟩
 dsimp only at hI h ⊢
 rcases fuel1 with _ | fuel1
 ·rw[iD]at h;cases h
 rw[iD]at h
 refine aj (T ?_)
 refine TC (λhb h=>?_) λhb h=>?_
 ·refine T ?_
  obtain⟨b1,hx1,h⟩:=ab h
  refine sI ?_
  refine sB h (λ_ k=>Ax hI.lt trivial k) (Rc Tryz.func94) λr1 w2 h hI=>?_
  refine TC (λhb h=>?_) λhb h=>?_
  ·refine T ?_
   refine aG ?_
   exact kl (fuel1,av (at2+1))
  refine T ?_
  obtain⟨b2,hx4,h⟩:=ab h
  refine sI ?_
  refine TC (λhb h=>?_) λhb h=>?_
  ·refine T ?_
   refine bk (α:=Nat×Int) (λx=>λw=>∃ C,Bun cH F w0 C w [] []∧lc s1 (iD s1 fuel1) (x.1) (x.2)=some r) (λx _=>x.1) (λx=>[(0,(str s1)),(1,vi (x.2))]) (fu,at2) BH SB ?_
   clear h hI;rintro⟨fuel2,at3⟩ w3 ⟨c2,hI,h⟩
   dsimp only at hI h ⊢
   rcases fuel2 with _ | fuel2
   ·rw[lc]at h;cases h
   rw[lc]at h
   refine aj (T ?_)
   obtain⟨b3,hx5,h⟩:=ab h
   replace hx5:=ax hx5
   refine sJ ?_
   refine TC (λhb h=>?_) λhb h=>?_
   ·refine T ?_
    refine aG ?_
    exact kl (fuel2,av (at3+1))
   refine bl ?_
   refine eZ ?_
   exact kl (fuel1,at3)
  exact RF
 refine bl ?_
 refine eZ ?_
 refine aS ?_
 exact RF
theorem qw (hF:dF F w0) {c1:Int} (hc:AllCl [] F w0) {r:Bool} (h:lY c1=some r):CR F w0 95 #[(Value.int .u8 c1)] (vb r) []:=by
 refine EN Tryz.func95 Tryz.ntmps95 hF hc λhI=>?_
 rw[lY]at h
 exact RF
theorem uY (hF:dF F w0) {c1:Int} (hc:AllCl [] F w0) {r:Bool} (h:oT c1=some r):CR F w0 96 #[(Value.int .u8 c1)] (vb r) []:=by
 refine EN Tryz.func96 Tryz.ntmps96 hF hc λhI=>?_
 rw[oT]at h
 exact RF
theorem EK (hF:dF F w0) {s1:List UInt8} (hc:AllCl [] F w0) {r:Int×Int} (h:tD s1=some r):CR F w0 47 #[(str s1)] (Value.tuple #[vi r.1,vi r.2]) []:=by
 refine EN Tryz.func47 Tryz.ntmps47 hF hc λhI=>?_
 rw[tD]at h
 refine T ?_
 refine aj (T ?_)
 obtain⟨b1,hx1,h⟩:=ab h
 replace hx1:=ax hx1
 refine sJ ?_
 obtain⟨r1,hx2,h⟩:=ab h
 replace hx2:=ax hx2
 refine sU (λhc=>qw hI.lt trivial (hx2 hc)) (Rg Tryz.func95) λw1 hI=>?_
 refine T ?_
 obtain⟨b2,hx4,h⟩:=ab h
 replace hx4:=ax hx4
 refine sJ ?_
 obtain⟨r2,hx5,h⟩:=ab h
 replace hx5:=ax hx5
 refine sU (λhc=>uY hI.lt trivial (hx5 hc)) (Rg Tryz.func96) λw2 hI=>?_
 refine TR λhb h=>?_
 refine T ?_
 refine bO (α:=Int) (λ_=>⟨53,[]⟩) (λx=>[(0,(str s1)),(4,vi x)]) (λx=>λw=>∃ C,Bun cH F w0 C w [] []∧nX s1 x=some r) ?_ ?_
 ·clear h hI;rintro kind1 w3 ⟨c1,hI,h⟩
  try dsimp only at hI h ⊢
  rw[nX]at h
  refine T ?_
  refine aj (T ?_)
  refine bk (α:=Nat×Int) (λx=>λw=>∃ C,Bun cH F w0 C w [] []∧lW s1 kind1 (x.1) (x.2)=some r) (λx _=>x.1) (λx=>[(0,(str s1)),(4,vi kind1),(5,vi (x.2))]) (fu,0) BH SB ?_
  clear h hI;rintro⟨fuel1,n1⟩ w4 ⟨c2,hI,h⟩
  dsimp only at hI h ⊢
  rcases fuel1 with _ | fuel1
  ·rw[lW]at h;cases h
  rw[lW]at h
  refine aj (T ?_)
  obtain⟨b3,hx7,h⟩:=ab h
  replace hx7:=ax hx7
  refine sJ ?_
  obtain⟨r3,hx8,h⟩:=ab h
  replace hx8:=ax hx8
  refine sU (λhc=>uY hI.lt trivial (hx8 hc)) (Rg Tryz.func96) λw5 hI=>?_
  refine T ?_
  obtain⟨b4,hx10,h⟩:=ab h
  replace hx10:=ax hx10
  refine sJ ?_
  obtain⟨r4,hx11,h⟩:=ab h
  replace hx11:=ax hx11
  refine sU (λhc=>qw hI.lt trivial (hx11 hc)) (Rg Tryz.func95) λw6 hI=>?_
  refine T ?_
  obtain⟨b5,hx13,h⟩:=ab h
  replace hx13:=ax hx13
  refine sJ ?_
  refine TC (λhb h=>?_) λhb h=>?_
  ·refine T ?_
   refine aG ?_
   exact kl (fuel1,av (n1+1))
  refine bl ?_
  refine eZ ?_
  refine aS ?_
  exact RF
 refine T ?_
 obtain⟨b6,hx14,h⟩:=ab h
 refine sI ?_
 refine sB h (λ_ k=>qw hI.lt trivial k) (Rc Tryz.func95) λr5 w7 h hI=>?_
 refine TC (λhb h=>?_) λhb h=>?_
 ·refine T ?_
  refine aG ?_
  exact kj 1
 exact aZ (bI 2 SB BH rfl)
theorem xY (hF:dF F w0) (hc:AllCl [] F w0) {r:List (List UInt8)} (h:px=some r):Cg 97 #[] w0 λe w=>∃ a1 c1,e= .returned (vs a1 r.length c1)∧Ext w0 w∧AllCl [Cl.sl be a1 c1 r] F w:=by
 refine EN Tryz.func97 Tryz.ntmps97 hF hc λhI=>?_
 rw[px]at h
 refine T ?_
 refine ll hI be ([[60,61],[61,61],[40],[41],[91],[93],[123],[125],[44],[59],[58],[43],[45],[42],[47],[60],[61],[38],[124],[33],[46],[64]]:List (List UInt8)) lw Rr λb1 c2 w1 hI=>?_
 refine T ?_
 refine aO ?_
 obtain⟨c3,hI⟩:=hI.release .z
 obtain rfl:=ak h
 refine QG ?_
 exact⟨some ⟨b1,0,none⟩,22,rfl,hI.ext0,hI.fin ⟨.z,af⟩⟩
theorem zF (hF:dF F w0) {s1:List UInt8} (hc:AllCl [] F w0) {r:Int} (h:qi s1=some r):CR F w0 48 #[(str s1)] (vi r) []:=by
 refine EN Tryz.func48 Tryz.ntmps48 hF hc λhI=>?_
 rw[qi]at h
 refine T ?_
 obtain⟨r1,hx1,h⟩:=ab h
 refine bf gn rfl (Rc Tryz.func97) (Calls.mono (xY hI.lt af hx1) ?_)
 rintro _ w1 ⟨a1,c1,rfl,hx2,hl1⟩
 refine⟨_,rfl,?_⟩
 replace hI:=(hI.ext hx2).adds hl1;dsimp only[ca,na]at hI
 refine T ?_
 refine aj (T ?_)
 refine bk (α:=Nat×Int) (λx=>λw=>∃ C,Bun cH F w0 C w [] [Cl.sl be a1 c1 r1]∧jD r1 s1 (x.1) (x.2)=some r) (λx _=>x.1) (λx=>[(0,(str s1)),(3,vs a1 r1.length c1),(4,vi (x.2))]) (fu,0) BH SB ?_
 clear h hI;rintro⟨fuel1,i1⟩ w2 ⟨c2,hI,h⟩
 dsimp only at hI h ⊢
 rcases fuel1 with _ | fuel1
 ·rw[jD]at h;cases h
 rw[jD]at h
 refine aj (T ?_)
 refine TC (λhb h=>?_) λhb h=>?_
 ·refine T ?_
  refine aj (T ?_)
  refine aj (aL [] false (.c (0,.q) (.c (1,.q) (.c (2,.q) (.c (3,.q) (.c (4,.q) (.c (5,.q) (.c (6,.q) (.c (7,.q) (.c (8,.q) (.c (9,.q) (.c (10,.q) (.c (11,.q) (.c (12,.q) (.c (13,.q) (.c (14,.q) (.c (15,.q) (.c (16,.q) (.c (17,.q) (.c (18,.q) (.c (19,.q) (.c (20,.q) (.c (21,.q) .n)))))))))))))))))))))) hI (by kernel_rfl) (by kernel_rfl) ?_)
  intro w3 hI
  refine V ?_
  obtain⟨e1,hx3,h⟩:=ab h
  obtain⟨ad1,cs1,hA1,hr1,hq1⟩:=hI.clat .z hx3
  obtain rfl:cs1=[(str e1)]:=hr1
  refine vI ?_
  refine V ?_
  obtain⟨e2,hx4,h⟩:=ab h
  replace hx4:=ax hx4
  obtain⟨ad2,cs2,hq2⟩:=hI.gclat .z hx4
  have hq3:(decide ((e1.length:Int)≤(s1.length:Int)))=true→CA (Dj F c2) w3 (ad2.add (Int.toNat i1 * 1)) [(str e2)]:=λhc=>vF (hq2 hc).2.1 (hq2 hc).2.2
  refine vJ ?_
  refine V ?_
  obtain⟨s2,hx5,h⟩:=ab h
  replace hx5:=ax hx5
  refine vJ ?_
  refine V ?_
  obtain⟨e3,hx6,h⟩:=ab h
  replace hx6:=ax hx6
  obtain⟨ad3,cs3,hq4⟩:=hI.gclat .z hx6
  have hq5:(decide ((e1.length:Int)≤(s1.length:Int)))=true→CA (Dj F c2) w3 (ad3.add (Int.toNat i1 * 1)) [(str e3)]:=λhc=>vF (hq4 hc).2.1 (hq4 hc).2.2
  refine vJ ?_
  refine V ?_
  refine TC (λhb h=>?_) λhb h=>?_
  ·refine T ?_
   obtain⟨e4,hx7,h⟩:=ab h
   obtain⟨ad4,cs4,hA4,hr4,hq6⟩:=hI.clat .z hx7
   obtain rfl:cs4=[(str e4)]:=hr4
   refine sI ?_
   exact RF
  refine T ?_
  refine aG ?_
  exact kl (fuel1,av (i1+1))
 refine bl ?_
 refine eZ ?_
 refine aS ?_
 exact RF
theorem xc (hF:dF F w0) {s1:List UInt8} (hc:AllCl [] F w0) {r:List bp×Int×Int} (h:oF s1=some r):Cg 22 #[(str s1)] w0 λe w=>∃ a1 c1,e= .returned (Value.tuple #[vs a1 r.1.length c1,vi r.2.1,vi r.2.2])∧Ext w0 w∧AllCl [Cl.sl ag a1 c1 r.1] F w:=by
 refine EN Tryz.func22 Tryz.ntmps22 hF hc λhI=>?_
 rw[oF]at h
 refine T ?_
 refine aj (T ?_)
 refine TC (λhb h=>?_) λhb h=>?_
 ·refine T ?_
  refine aO ?_
  have hI:=hI.add (c:=Cl.sl ag none 0 ([]:List bp)) SlC.nil
  obtain rfl:=ak h
  refine QG ?_
  exact⟨none,0,rfl,hI.ext0,hI.fin ⟨.z,af⟩⟩
 refine T ?_
 refine aj (T ?_)
 refine sB h (λ_ k=>ww hI.lt trivial k) (Rc Tryz.func46) λr1 w1 h hI=>?_
 refine T ?_
 have hI:=hI.nil ag 62 none
 refine bk (α:=Nat×(List bp)×Int×(Option Addr)×Nat) (λx=>λw=>∃ C,Bun cH F w0 C w [Q6 ag 62 (x.2.2.2.1) (x.2.2.2.2) (x.2.1)] []∧fD s1 (x.1) (x.2.1) (x.2.2.1)=some r) (λx _=>x.1) (λx=>[(0,(str s1)),(5,vs (x.2.2.2.1) (x.2.1).length (x.2.2.2.2)),(6,vi (x.2.2.1))]) (fu,([]:List bp),r1,none,0) BH SB ?_
 clear h hI;rintro⟨fuel1,lv,at1,a2,c2⟩ w2 ⟨c3,hI,h⟩
 dsimp only at hI h ⊢
 rcases fuel1 with _ | fuel1
 ·rw[fD]at h;cases h
 rw[fD]at h
 refine aj (T ?_)
 refine TC (λhb h=>?_) λhb h=>?_
 ·refine T ?_
  refine aj (T ?_)
  obtain⟨s2,hx3,h⟩:=ab h
  refine sI ?_
  refine sB h (λ_ k=>EK hI.lt trivial k) (Rc Tryz.func47) λr2 w3 h hI=>?_
  refine T ?_
  refine bO (α:=Int×Int) (λ_=>⟨60,[]⟩) (λx=>[(0,(str s1)),(5,vs a2 lv.length c2),(6,vi at1),(7,vi (x.1)),(8,vi (x.2))]) (λx=>λw=>∃ C,Bun cH F w0 C w [Q6 ag 62 a2 c2 lv] []∧j5 at1 s1 lv (fD s1 fuel1) (x.1) (x.2)=some r) ?_ ?_
  ·clear h hI;rintro⟨n1,kind1⟩ w4 ⟨c4,hI,h⟩
   try dsimp only at hI h ⊢
   rw[j5]at h
   refine aj (T ?_)
   refine TC (λhb h=>?_) λhb h=>?_
   ·refine T ?_
    refine aO ?_
    have hI:=hI.add (c:=Cl.sl ag none 0 ([]:List bp)) SlC.nil
    obtain rfl:=ak h
    refine QG ?_
    exact⟨none,0,rfl,hI.ext0,hI.fin ⟨.z,af⟩⟩
   refine T ?_
   refine aj (T ?_)
   refine TC (λhb h=>?_) λhb h=>?_
   ·refine T ?_
    refine aO ?_
    have hI:=hI.add (c:=Cl.sl ag none 0 ([]:List bp)) SlC.nil
    obtain rfl:=ak h
    refine QG ?_
    exact⟨none,0,rfl,hI.ext0,hI.fin ⟨.z,af⟩⟩
   refine T ?_
   obtain⟨s3,hx6,h⟩:=ab h
   refine sq (BE rfl u9 et et et hx6) ?_
   refine sq (aK (vs:=[(0,vi kind1),(1,vi at1),(2,(str s3))]) (cs:=#[vi kind1,vi at1,(str s3)]) rfl ⟨rfl,et,rfl,et,rfl,et,af⟩ (by kernel_rfl)) ?_
   refine ll hI ag ([⟨kind1,at1,s3⟩]:List bp) yn Rr λb1 c5 w5 hI=>?_
   obtain⟨zs1,hx7,h⟩:=ab h
   refine qn (xs:=lv) (ys:=([⟨kind1,at1,s3⟩]:List bp)) hI .p1 (hI.rd .z) hx7 gn rfl rfl QT yn rfl rfl et et ?_
   intro a3 c6 c7 w6 hI
   refine T ?_
   refine sB h (λ_ k=>ww hI.lt trivial k) (Rc Tryz.func46) λr3 w7 h hI=>?_
   refine sa ?_
   refine aG ?_
   exact kl (fuel1,zs1,r3,a3,c6)
  refine TC (λhb h=>?_) λhb h=>?_
  ·refine T ?_
   obtain⟨s4,hx10,h⟩:=ab h
   refine sI ?_
   refine sB h (λ_ k=>zF hI.lt trivial k) (Rc Tryz.func48) λr4 w8 h hI=>?_
   refine T ?_
   refine aG ?_
   exact kj (r4,3)
  exact aZ (bI (r2.1,r2.2) SB BH rfl)
 refine bl ?_
 refine eZ ?_
 refine aS ?_
 refine T ?_
 refine aO ?_
 obtain⟨c8,hI⟩:=hI.release .z
 obtain rfl:=ak h
 refine QG ?_
 exact⟨a2,c2,rfl,hI.ext0,hI.fin ⟨.z,af⟩⟩
theorem bG (hF:dF F w0) {r1:aa} {kind1:Int} {s1:List UInt8} (hc:AllCl [Cl.sl ag a1 c1 r1.l,Cl.blk b1 67 (ac r1 a1 c1)] F w0) {r:Bool} (h:aY r1 kind1 s1=some r):CR F w0 121 #[vp b1 0,vi kind1,(str s1)] (vb r) []:=by
 refine EN Tryz.func121 Tryz.ntmps121 hF hc λhI=>?_
 rw[aY]at h
 refine T ?_
 refine aj (aL [] false (.c (0,.q) (.c (1,.q) (.c (2,.q) (.c (3,.q) (.c (4,.q) (.c (5,.q) (.c (6,.q) (.c (7,.q) (.c (8,.q) (.c (9,.q) (.c (10,.q) (.c (11,.q) (.c (12,.q) (.c (13,.q) (.c (14,.q) (.c (15,.q) (.c (16,.q) (.c (17,.q) (.c (18,.q) (.c (19,.q) (.c (20,.q) (.c (21,.q) (.c (22,.q) (.c (23,.q) (.c (24,.q) (.c (25,.q) (.c (26,.q) (.c (27,.q) (.c (28,.q) (.c (29,.q) (.c (30,.q) (.c (31,.q) (.c (32,.q) (.c (33,.q) (.c (34,.q) (.c (35,.q) (.c (36,.q) (.c (37,.q) (.c (38,.q) (.c (39,.q) (.c (40,.q) .n))))))))))))))))))))))))))))))))))))))))) hI (by kernel_rfl) (by kernel_rfl) ?_)
 intro w1 hI
 refine V ?_
 obtain⟨e1,hx1,h⟩:=ab h
 replace hx1:=ax hx1
 obtain⟨ad1,cs1,hq1⟩:=hI.gclat .z hx1
 have hq2:(decide (r1.at_<(r1.l.length:Int)))=true→CA (Dj F cH) w1 (ad1.add (Int.toNat r1.at_ * 3)) (oJ e1):=λhc=>vF (hq1 hc).2.1 (hq1 hc).2.2
 refine vJ ?_
 refine V ?_
 obtain⟨e2,hx2,h⟩:=ab h
 replace hx2:=ax hx2
 obtain⟨ad2,cs2,hq3⟩:=hI.gclat .z hx2
 have hq4:((decide (r1.at_<(r1.l.length:Int)))&&(decide (e1.Kind=kind1)))=true→CA (Dj F cH) w1 (ad2.add (Int.toNat r1.at_ * 3)) (oJ e2):=λhc=>vF (hq3 hc).2.1 (hq3 hc).2.2
 refine vJ ?_
 refine V ?_
 exact RF
theorem qy (hF:dF F w0) {r1:Int} (hc:AllCl [] F w0) {r:Bool} (h:fO r1=some r):CR F w0 156 #[(Value.int .i32 r1)] (vb r) []:=by
 refine EN Tryz.func156 Tryz.ntmps156 hF hc λhI=>?_
 rw[fO]at h
 exact RF
theorem pS (hF:dF F w0) {s1:List UInt8} {ok1:(Int→Option Bool)} {fv1:Value} (hc:AllCl [uy fv1 ok1] F w0) {r:Int} (h:hU s1 ok1=some r):CR F w0 154 #[(str s1),fv1] (vi r) []:=by
 refine EN Tryz.func154 Tryz.ntmps154 hF hc λhI=>?_
 rw[hU]at h
 refine T ?_
 refine aj (T ?_)
 refine bk (α:=Nat×Int) (λx=>λw=>∃ C,Bun cH F w0 C w [] [uy fv1 ok1]∧cR s1 ok1 (x.1) (x.2)=some r) (λx _=>x.1) (λx=>[(0,(str s1)),(1,fv1),(5,vi (x.2))]) (fu,0) BH SB ?_
 clear h hI;rintro⟨fuel1,n1⟩ w1 ⟨c1,hI,h⟩
 dsimp only at hI h ⊢
 rcases fuel1 with _ | fuel1
 ·rw[cR]at h;cases h
 rw[cR]at h
 refine aj (T ?_)
 obtain⟨b1,hx1,h⟩:=ab h
 replace hx1:=ax hx1
 refine sJ ?_
 refine T ?_
 obtain⟨r1,hx2,h⟩:=ab h
 replace hx2:=ax hx2
 refine Jf (u:=(vb r1)) (args:=[(Value.int .i32 (qZ b1))]) (bg rfl rfl rfl rfl) rfl rfl (λhc=>(aI et hc)) (λhc=>⟨(aI et hc),af⟩) (λhc=>CallV.mono ((hI.get .z).2 (Dj F c1) w1 (Rb .rfl') hI.lt (qZ b1) r1 trivial (hx2 hc)) λ_ _ k=>⟨k.1,k.2.1⟩) ?_
 intro w2 hx3;replace hI:=hI.ext hx3
 refine TC (λhb h=>?_) λhb h=>?_
 ·refine T ?_
  refine aG ?_
  exact kl (fuel1,av (n1+1))
 refine bl ?_
 refine eZ ?_
 refine aS ?_
 exact RF
theorem rk (hF:dF F w0) {r1:Int} (hc:AllCl [] F w0) {r:Bool} (h:fP r1=some r):CR F w0 158 #[(Value.int .i32 r1)] (vb r) []:=by
 refine EN Tryz.func158 Tryz.ntmps158 hF hc λhI=>?_
 rw[fP]at h
 exact RF
theorem tZ (hF:dF F w0) {r1:Int} (hc:AllCl [] F w0) {r:Bool} (h:ej r1=some r):CR F w0 157 #[(Value.int .i32 r1)] (vb r) []:=by
 refine EN Tryz.func157 Tryz.ntmps157 hF hc λhI=>?_
 rw[ej]at h
 refine T ?_
 refine sB h (λ_ k=>qy hI.lt trivial k) (Rc Tryz.func156) λr2 w1 h hI=>?_
 refine T ?_
 obtain⟨r3,hx3,h⟩:=ab h
 replace hx3:=ax hx3
 refine sU (λhc=>rk hI.lt trivial (hx3 hc)) (Rg Tryz.func158) λw2 hI=>?_
 exact RF
theorem xf (hF:dF F w0) (hc:AllCl [au] F w0) {r:List (List UInt8)} (h:mr=some r):Cg 241 #[] w0 λe w=>∃ a1 c1,e= .returned (vs a1 r.length c1)∧Ext w0 w∧AllCl [Cl.sl be a1 c1 r] F w:=by
 refine EN Tryz.func241 Tryz.ntmps241 hF hc λhI=>?_
 rw[mr]at h
 refine T ?_
 obtain⟨r1,hx1,h⟩:=ab h
 refine bf gn rfl (Rc Tryz.func247) (Calls.mono (wZ (Dj F cH) w0 hI.lt ([115,105,122,101,32,119,104,101,114,101,32,105,110,32,100,101,102,32,111,117,116,32,115,117,109,32,112,114,111,100,32,109,105,110,32,109,97,120,32,115,99,97,110,32,111,118,101,114,32,105,102,32,99,97,115,116,32,102,114,97,99,32,105,110,116,32,102,105,120,32,99,101,105,108,32,102,108,111,111,114,32,122,101,114,111,32,101,118,101,110,32,115,97,116,32,119,114,97,112]:List UInt8) ⟨(hI.get .z),af⟩ r1 hx1) ?_)
 rintro _ w1 ⟨a2,c2,rfl,hx2,hl1⟩
 refine⟨_,rfl,?_⟩
 replace hI:=(hI.ext hx2).adds hl1;dsimp only[ca,na]at hI
 refine T ?_
 refine aO ?_
 obtain rfl:=ak h
 refine QG ?_
 exact⟨a2,c2,rfl,hI.ext0,hI.fin ⟨.z,af⟩⟩
theorem pB (hF:dF F w0) {s1:List (List UInt8)} {v1:List UInt8} (hc:AllCl [Cl.sl be a1 c1 s1] F w0) {r:Int} (h:fX s1 v1=some r):CR F w0 246 #[vs a1 s1.length c1,(str v1)] (vi r) []:=by
 refine EN Tryz.func246 Tryz.ntmps246 hF hc λhI=>?_
 rw[fX]at h
 refine T ?_
 refine aj (T ?_)
 refine bk (α:=Nat×Int) (λx=>λw=>∃ C,Bun cH F w0 C w [] [Cl.sl be a1 c1 s1]∧bm s1 v1 (x.1) (x.2)=some r) (λx _=>x.1) (λx=>[(0,vs a1 s1.length c1),(1,(str v1)),(7,vi (s1.length:Int)),(8,vi (x.2))]) (fu,0) BH SB ?_
 clear h hI;rintro⟨fuel1,i1⟩ w1 ⟨c2,hI,h⟩
 dsimp only at hI h ⊢
 rcases fuel1 with _ | fuel1
 ·rw[bm]at h;cases h
 rw[bm]at h
 refine T ?_
 refine aj (E7 h et (λhb h=>?_) (λhb h=>?_))
 ·refine T ?_
  refine aj (T ?_)
  obtain⟨e1,hx1,h⟩:=ab h
  obtain⟨ad1,cs1,hA1,hr1,hq1⟩:=hI.clat .z hx1
  obtain rfl:cs1=[(str e1)]:=hr1
  refine sI ?_
  refine TR λhb h=>?_
  refine T ?_
  refine aG ?_
  exact kl (fuel1,av (i1+1))
 refine bl ?_
 refine eZ ?_
 refine aS ?_
 exact RF
theorem oB (hF:dF F w0) {s1:List (List UInt8)} {v1:List UInt8} (hc:AllCl [Cl.sl be a1 c1 s1] F w0) {r:Bool} (h:du s1 v1=some r):CR F w0 240 #[vs a1 s1.length c1,(str v1)] (vb r) []:=by
 refine EN Tryz.func240 Tryz.ntmps240 hF hc λhI=>?_
 rw[du]at h
 refine T ?_
 refine sB h (λ_ k=>pB hI.lt FS k) (Rc Tryz.func246) λr1 w1 h hI=>?_
 exact RF
theorem wz (hF:dF F w0) {s1:List UInt8} (hc:AllCl [au] F w0) {r:Bool} (h:jF s1=some r):CR F w0 222 #[(str s1)] (vb r) []:=by
 refine EN Tryz.func222 Tryz.ntmps222 hF hc λhI=>?_
 rw[jF]at h
 refine T ?_
 obtain⟨r1,hx1,h⟩:=ab h
 refine bf gn rfl (Rc Tryz.func241) (Calls.mono (xf hI.lt FS hx1) ?_)
 rintro _ w1 ⟨a1,c1,rfl,hx2,hl1⟩
 refine⟨_,rfl,?_⟩
 replace hI:=(hI.ext hx2).adds hl1;dsimp only[ca,na]at hI
 refine sm ?_
 refine sB h (λ_ k=>oB hI.lt FS k) (Rc Tryz.func240) λr2 w2 h hI=>?_
 exact RF
theorem qz (hF:dF F w0) {s1:List UInt8} (hc:AllCl [au] F w0) {r:Bool} (h:gA s1=some r):CR F w0 185 #[(str s1)] (vb r) []:=by
 refine EN Tryz.func185 Tryz.ntmps185 hF hc λhI=>?_
 rw[gA]at h
 refine T ?_
 obtain⟨b1,hx1,h⟩:=ab h
 replace hx1:=ax hx1
 refine sJ ?_
 refine T ?_
 obtain⟨r1,hx2,h⟩:=ab h
 replace hx2:=ax hx2
 refine sU (λhc=>qy hI.lt trivial (hx2 hc)) (Rg Tryz.func156) λw1 hI=>?_
 refine T ?_
 have hI:=hI.add (c:=uy (Value.func (.func 157) #[] #[]) ej) ⟨rfl,λD' w' hs hl x_1 r k h=>CallV.fn (cap:=[]) Jv (tZ hl af h)⟩
 obtain⟨r2,hx4,h⟩:=ab h
 replace hx4:=ax hx4
 refine sU (λhc=>pS hI.lt FS (hx4 hc)) (Rg Tryz.func154) λw2 hI=>?_
 refine T ?_
 obtain⟨r3,hx6,h⟩:=ab h
 replace hx6:=ax hx6
 refine sU (λhc=>wz hI.lt FS (hx6 hc)) (Rg Tryz.func222) λw3 hI=>?_
 exact RF
theorem kT (hF:dF F w0) {r1:aa} (hc:AllCl [Cl.sl ag a1 c1 r1.l,Cl.blk b1 67 (ac r1 a1 c1),au] F w0) {r:Bool} (h:cX r1=some r):CR F w0 126 #[vp b1 0] (vb r) []:=by
 refine EN Tryz.func126 Tryz.ntmps126 hF hc λhI=>?_
 rw[cX]at h
 refine T ?_
 refine aj (aL [] false (.c (0,.q) (.c (1,.q) (.c (2,.q) (.c (3,.q) (.c (4,.q) (.c (5,.q) (.c (6,.q) (.c (7,.q) (.c (8,.q) (.c (9,.q) (.c (10,.q) (.c (11,.q) (.c (12,.q) (.c (13,.q) (.c (14,.q) (.c (15,.q) (.c (16,.q) (.c (17,.q) (.c (18,.q) (.c (19,.q) (.c (20,.q) (.c (21,.q) (.c (22,.q) (.c (23,.q) (.c (24,.q) (.c (25,.q) (.c (26,.q) (.c (27,.q) (.c (28,.q) (.c (29,.q) (.c (30,.q) (.c (31,.q) (.c (32,.q) (.c (33,.q) (.c (34,.q) (.c (35,.q) (.c (36,.s) (.c (37,.q) (.c (38,.q) .n))))))))))))))))))))))))))))))))))))))) hI (by kernel_rfl) (by kernel_rfl) ?_)
 intro w1 hI
 refine V ?_
 obtain⟨e1,hx1,h⟩:=ab h
 replace hx1:=ax hx1
 obtain⟨ad1,cs1,hq1⟩:=hI.gclat .z hx1
 have hq2:(decide (r1.at_<(r1.l.length:Int)))=true→CA (Dj F cH) w1 (ad1.add (Int.toNat r1.at_ * 3)) (oJ e1):=λhc=>vF (hq1 hc).2.1 (hq1 hc).2.2
 refine vJ ?_
 refine V ?_
 obtain⟨e2,hx2,h⟩:=ab h
 replace hx2:=ax hx2
 obtain⟨ad2,cs2,hq3⟩:=hI.gclat .z hx2
 have hq4:((decide (r1.at_<(r1.l.length:Int)))&&(decide (e1.Kind=1)))=true→CA (Dj F cH) w1 (ad2.add (Int.toNat r1.at_ * 3)) (oJ e2):=λhc=>vF (hq3 hc).2.1 (hq3 hc).2.2
 refine vJ ?_
 refine V ?_
 obtain⟨r2,hx3,h⟩:=ab h
 replace hx3:=ax hx3
 refine my (v:=(vb r2)) rfl (bg rfl rfl rfl rfl) rfl (λhc=>(ar (vs:=[(str e2.Text)]) rfl Oi ⟨(aI et hc),af⟩)) (λhc=>(qz hI.lt FS (hx3 hc)).mono λ_ _ k=>⟨k.1,k.2.1⟩) ?_
 intro w2 hx4;replace hI:=hI.ext hx4
 refine V ?_
 exact RF
theorem aP (hF:dF F w0) {r1:aa} {at1 e1:Int} (hc:AllCl [Cl.sl ag a1 c1 r1.l,Cl.blk b1 67 (ac r1 a1 c1)] F w0) {r:bZ Unit} (h:bL r1 at1 e1=some r):Cg 71 #[vp b1 0,vi at1,vi e1] w0 λe w=>(∃ rx:Unit,r= .ret rx∧e= .returned (Value.tuple #[])∧Ext w0 w∧AllCl [] F w)∨∃ (pa pn:Int),r= .pan pa pn∧e= .panicked [pe 114 pa pn]∧Ext w0 w:=by
 refine fa (l:=[vp b1 0,vi at1,vi e1]) Tryz.func71 rfl Tryz.ntmps71 rfl ?_
 have hI:=Bun.start hF hc
 clear hc
 rw[bL]at h
 refine T ?_
 refine sq (aK (vs:=[(0,vi at1),(1,vi e1)]) (cs:=#[vi at1,vi e1]) rfl ⟨rfl,et,rfl,et,af⟩ (by kernel_rfl)) ?_
 refine sq (DD rfl u114 rfl et) ?_
 obtain rfl:=ak h
 exact Lk gn rfl et (fB (.inr ⟨_,_,rfl,rfl,hI.ext0⟩))
theorem zJ (hF:dF F w0) {s1:List UInt8} (hc:AllCl [] F w0) {r:Bool} (h:l8 s1=some r):CR F w0 221 #[(str s1)] (vb r) []:=by
 refine EN Tryz.func221 Tryz.ntmps221 hF hc λhI=>?_
 rw[l8]at h
 refine T ?_
 refine aj (T ?_)
 refine aj (T ?_)
 refine TC (λhb h=>?_) λhb h=>?_
 ·refine TR λhb h=>?_
  exact RF
 refine TC (λhb h=>?_) λhb h=>?_
 ·refine TR λhb h=>?_
  exact RF
 refine TC (λhb h=>?_) λhb h=>?_
 ·refine TR λhb h=>?_
  exact RF
 refine TC (λhb h=>?_) λhb h=>?_
 ·refine TR λhb h=>?_
  exact RF
 refine TC (λhb h=>?_) λhb h=>?_
 ·refine TR λhb h=>?_
  exact RF
 refine TC (λhb h=>?_) λhb h=>?_
 ·refine TR λhb h=>?_
  exact RF
 refine TC (λhb h=>?_) λhb h=>?_
 ·refine TR λhb h=>?_
  exact RF
 refine TC (λhb h=>?_) λhb h=>?_
 ·refine TR λhb h=>?_
  exact RF
 refine TC (λhb h=>?_) λhb h=>?_
 ·refine TR λhb h=>?_
  exact RF
 refine TC (λhb h=>?_) λhb h=>?_
 ·refine TR λhb h=>?_
  exact RF
 refine TC (λhb h=>?_) λhb h=>?_
 ·refine TR λhb h=>?_
  exact RF
 refine TC (λhb h=>?_) λhb h=>?_
 ·refine TR λhb h=>?_
  exact RF
 refine TC (λhb h=>?_) λhb h=>?_
 ·refine TR λhb h=>?_
  exact RF
 refine TC (λhb h=>?_) λhb h=>?_
 ·refine TR λhb h=>?_
  exact RF
 refine TC (λhb h=>?_) λhb h=>?_
 ·refine TR λhb h=>?_
  exact RF
 refine TC (λhb h=>?_) λhb h=>?_
 ·refine TR λhb h=>?_
  exact RF
 refine TC (λhb h=>?_) λhb h=>?_
 ·refine TR λhb h=>?_
  exact RF
 refine TC (λhb h=>?_) λhb h=>?_
 ·refine TR λhb h=>?_
  exact RF
 refine TC (λhb h=>?_) λhb h=>?_
 ·refine TR λhb h=>?_
  exact RF
 refine TC (λhb h=>?_) λhb h=>?_
 ·refine TR λhb h=>?_
  exact RF
 refine TC (λhb h=>?_) λhb h=>?_
 ·refine TR λhb h=>?_
  exact RF
 refine TR λhb h=>?_
 exact RF
theorem rM (hF:dF F w0) {s1:List UInt8} (hc:AllCl [] F w0) {r:Bool} (h:i7 s1=some r):CR F w0 184 #[(str s1)] (vb r) []:=by
 refine EN Tryz.func184 Tryz.ntmps184 hF hc λhI=>?_
 rw[i7]at h
 refine T ?_
 refine aj (T ?_)
 obtain⟨r1,hx1,h⟩:=ab h
 replace hx1:=ax hx1
 refine sU (λhc=>zJ hI.lt trivial (hx1 hc)) (Rg Tryz.func221) λw1 hI=>?_
 refine T ?_
 obtain⟨b1,hx3,h⟩:=ab h
 replace hx3:=ax hx3
 refine sJ ?_
 refine T ?_
 obtain⟨b2,hx4,h⟩:=ab h
 replace hx4:=ax hx4
 refine sJ ?_
 refine TR λhb h=>?_
 refine T ?_
 refine aj (T ?_)
 refine bk (α:=Nat×Int) (λx=>λw=>∃ C,Bun cH F w0 C w [] []∧dA s1 (x.1) (x.2)=some r) (λx _=>x.1) (λx=>[(0,(str s1)),(28,vi (s1.length:Int)),(29,vi (x.2))]) (fu,0) BH SB ?_
 clear h hI;rintro⟨fuel1,i1⟩ w2 ⟨c1,hI,h⟩
 dsimp only at hI h ⊢
 rcases fuel1 with _ | fuel1
 ·rw[dA]at h;cases h
 rw[dA]at h
 refine T ?_
 refine aj (E7 h et (λhb h=>?_) (λhb h=>?_))
 ·refine T ?_
  refine aj (T ?_)
  obtain⟨b3,hx5,h⟩:=ab h
  refine sI ?_
  refine TR λhb h=>?_
  refine T ?_
  refine aG ?_
  exact kl (fuel1,av (i1+1))
 refine bl ?_
 refine eZ ?_
 refine aS ?_
 exact RF
theorem Bu (hF:dF F w0) {name1:List UInt8} (hc:AllCl [] F w0) {r:aC} (h:pU name1=some r):Cg 127 #[(str name1)] w0 λe w=>∃ a1 c1,e= .returned (Value.agg (eP r a1 c1))∧Ext w0 w∧AllCl [Cl.sl ai a1 c1 r.L] F w:=by
 refine EN Tryz.func127 Tryz.ntmps127 hF hc λhI=>?_
 rw[pU]at h
 refine sr (cY (cs:=#[vi 0,vs none 0 0]) hI gn rfl rfl mj rfl ?_)
 intro b1 c2 w1 hI
 refine nk (aj (T ?_))
 refine sB h (λ_ k=>rM hI.lt trivial k) (Rc Tryz.func184) λr1 w2 h hI=>?_
 refine TC (λhb h=>?_) λhb h=>?_
 ·refine sr (sq (aK (vs:=[]) (cs:=#[vi 0,vs none 0 0]) rfl trivial (by kernel_rfl)) ?_)
  refine lA λc3 w3 hI=>?_
  refine nk (aO ?_)
  have hI:=hI.add (c:=Cl.sl ai none 0 ([]:List bv)) SlC.nil
  obtain rfl:=ak h
  refine QG ?_
  exact⟨none,0,rfl,hI.ext0,hI.fin ⟨.z,af⟩⟩
 refine T ?_
 refine sq (aK (vs:=[(0,(str name1)),(1,vi 1)]) (cs:=#[(str name1),vi 1]) rfl ⟨rfl,et,rfl,ah,af⟩ (by kernel_rfl)) ?_
 refine ll hI ai ([⟨name1,1⟩]:List bv) uu Rr λb2 c4 w4 hI=>?_
 refine sq (aK (vs:=[(1,(vs (some ⟨b2,0,none⟩) ([⟨name1,1⟩]:List bv).length 1))]) (cs:=#[vi 0,(vs (some ⟨b2,0,none⟩) ([⟨name1,1⟩]:List bv).length 1)]) rfl ⟨rfl,et,af⟩ (by kernel_rfl)) ?_
 refine lA λc5 w5 hI=>?_
 refine nk (aO ?_)
 obtain⟨c6,hI⟩:=hI.release .z
 obtain rfl:=ak h
 refine QG ?_
 exact⟨some ⟨b2,0,none⟩,1,rfl,hI.ext0,hI.fin ⟨.z,af⟩⟩
theorem ow (hF:dF F w0) {l1:aC} (hc:AllCl [Cl.sl ai a1 c1 l1.L] F w0) {r:Int} (h:ij l1=some r):CR F w0 122 #[(Value.agg (eP l1 a1 c1))] (vi r) []:=by
 refine EN Tryz.func122 Tryz.ntmps122 hF hc λhI=>?_
 rw[ij]at h
 refine sr (lX λb1 c3 w1 hI=>?_)
 refine T ?_
 refine aj (T ?_)
 refine bk (α:=Nat×Int) (λx=>λw=>∃ C,Bun cH F w0 C w [] [Cl.blk b1 27 (eP l1 a1 c1),Cl.sl ai a1 c1 l1.L]∧dQ l1 (x.1) (x.2)=some r) (λx _=>x.1) (λx=>[(1,vp b1 0),(6,vs a1 l1.L.length c1),(7,vi (l1.L.length:Int)),(8,vi (x.2))]) (fu,0) BH SB ?_
 clear h hI;rintro⟨fuel1,i1⟩ w2 ⟨c4,hI,h⟩
 dsimp only at hI h ⊢
 rcases fuel1 with _ | fuel1
 ·rw[dQ]at h;cases h
 rw[dQ]at h
 refine T ?_
 refine aj (E7 h et (λhb h=>?_) (λhb h=>?_))
 ·refine T ?_
  refine aj (T ?_)
  obtain⟨e1,hx1,h⟩:=ab h
  obtain⟨ad1,cs1,hA1,hr1,hq1⟩:=hI.clat .p1 hx1
  obtain rfl:cs1=(li e1):=hr1
  refine sI ?_
  refine T ?_
  refine lN λb2 c5 w3 hI=>?_
  refine sa ?_
  refine lA λc6 w4 hI=>?_
  refine nk (aj (aL [] false (.c (0,.q) (.c (1,.q) (.c (2,.s) (.c (3,.q) (.c (4,.q) (.c (5,.q) (.c (6,.q) (.c (7,.q) (.c (8,.q) (.c (9,.q) (.c (10,.q) (.c (11,.q) (.c (12,.q) (.c (13,.q) (.c (14,.q) (.c (15,.q) (.c (16,.q) (.c (17,.q) (.c (18,.q) (.c (19,.q) (.c (20,.q) (.c (21,.q) (.c (22,.q) (.c (23,.q) (.c (24,.q) .n))))))))))))))))))))))))) hI (by kernel_rfl) (by kernel_rfl) ?_))
  intro w5 hI
  refine V ?_
  obtain⟨r1,hx2,h⟩:=ab h
  refine bF rfl gn rfl (ar (vs:=[(str e1.Name)]) rfl Oj ⟨et,af⟩) (Calls.mono (rM hI.lt af hx2) ?_)
  rintro _ w6 ⟨rfl,hx3,hl1⟩
  refine⟨_,rfl,hx3,?_⟩
  replace hI:=(hI.ext hx3)
  refine V ?_
  obtain⟨e2,hx4,h⟩:=ab h
  replace hx4:=ax hx4
  obtain⟨ad2,cs2,hq2⟩:=hI.gclat .p1 hx4
  have hq3:((!((!r1)||(decide (e1.By=0))))&&(decide (0<i1)))=true→CA (Dj F c6) w6 (ad2.add (Int.toNat (av (i1 - 1)) * 2)) (li e2):=λhc=>vF (hq2 hc).2.1 (hq2 hc).2.2
  refine vJ ?_
  refine V ?_
  refine TR λhb h=>?_
  refine T ?_
  refine aG ?_
  exact kl (fuel1,av (i1+1))
 refine bl ?_
 refine eZ ?_
 refine aS ?_
 exact RF
theorem ta (hF:dF F w0) {n1:Int} (hc:AllCl [] F w0) {r:Int} (h:jt n1=some r):CR F w0 224 #[vi n1] (Value.int .u64 r) []:=by
 refine EN Tryz.func224 Tryz.ntmps224 hF hc λhI=>?_
 rw[jt]at h
 refine T ?_
 refine aj (T ?_)
 refine TR λhb h=>?_
 exact RF
theorem AD (hF:dF F w0) {a1 b1:Int} (hc:AllCl [] F w0) {r:Int×Int} (h:mZ a1 b1=some r):CR F w0 223 #[(Value.int .u64 a1),(Value.int .u64 b1)] (Value.tuple #[(Value.int .u64 r.1),(Value.int .u64 r.2)]) []:=by
 refine EN Tryz.func223 Tryz.ntmps223 hF hc λhI=>?_
 rw[mZ]at h
 refine sr (xp ?_)
 refine xp ?_
 refine nk (sr (sm ?_))
 refine sq (yt rfl et ah rfl) ?_
 refine sm ?_
 refine sq (yt rfl et ah rfl) ?_
 refine sq (xk rfl et et) ?_
 obtain⟨low1,hx1,h⟩:=ab h
 refine sq (vz (cx rfl et) (congrArg (Value.int .u64) (ak hx1))) ?_
 refine nk (sr (sm ?_))
 refine sq (u7 (s:=32) rfl et ah (by decide) rfl) ?_
 refine sm ?_
 refine sq (yt rfl et ah rfl) ?_
 refine sq (xk rfl et et) ?_
 refine sm ?_
 refine sq (u7 (s:=32) rfl et ah (by decide) rfl) ?_
 refine sq (nB rfl et et) ?_
 obtain⟨mid1,hx2,h⟩:=ab h
 refine sq (vz (cx rfl et) (congrArg (Value.int .u64) (ak hx2))) ?_
 refine nk (sr (sm ?_))
 refine sq (yt rfl et ah rfl) ?_
 refine sm ?_
 refine sq (u7 (s:=32) rfl et ah (by decide) rfl) ?_
 refine sq (xk rfl et et) ?_
 refine sm ?_
 refine sq (yt rfl et ah rfl) ?_
 refine sq (nB rfl et et) ?_
 obtain⟨cross1,hx3,h⟩:=ab h
 refine sq (vz (cx rfl et) (congrArg (Value.int .u64) (ak hx3))) ?_
 refine aG ?_
 refine oq (e:=[(0,(Value.int .u64 a1)),(1,(Value.int .u64 b1)),(7,(Value.int .u64 mid1)),(8,(Value.int .u64 cross1))]) SB ?_
 refine sr (sm ?_)
 refine sq (u7 (s:=32) rfl et ah (by decide) rfl) ?_
 refine sm ?_
 refine sq (u7 (s:=32) rfl et ah (by decide) rfl) ?_
 refine sq (xk rfl et et) ?_
 refine sm ?_
 refine sq (u7 (s:=32) rfl et ah (by decide) rfl) ?_
 refine sq (nB rfl et et) ?_
 refine sm ?_
 refine sq (u7 (s:=32) rfl et ah (by decide) rfl) ?_
 refine sq (nB rfl et et) ?_
 refine sm ?_
 refine sm ?_
 refine sq (xk rfl et et) ?_
 obtain⟨hi1,hx4,h⟩:=ab h
 refine sq (vz (cx rfl et) (congrArg (Value.int .u64) (ak hx4))) ?_
 exact RF
theorem xK (hF:dF F w0) {a1 b1:Int} (hc:AllCl [] F w0) {r:Int×Bool} (h:nD a1 b1=some r):CR F w0 186 #[vi a1,vi b1] (Value.tuple #[vi r.1,vb r.2]) []:=by
 refine EN Tryz.func186 Tryz.ntmps186 hF hc λhI=>?_
 rw[nD]at h
 refine T ?_
 refine sB h (λ_ k=>ta hI.lt trivial k) (Rc Tryz.func224) λr1 w1 h hI=>?_
 refine sm ?_
 refine sB h (λ_ k=>ta hI.lt trivial k) (Rc Tryz.func224) λr2 w2 h hI=>?_
 refine sB h (λ_ k=>AD hI.lt trivial k) (Rc Tryz.func223) λr3 w3 h hI=>?_
 refine sm ?_
 refine sq (ir rfl et rfl) ?_
 refine sq (ir rfl et rfl) ?_
 refine sa ?_
 refine sa ?_
 refine nk (sr (sm ?_))
 refine sq (rp rfl et ah) ?_
 refine sm ?_
 refine sq (rp rfl et ah) ?_
 refine sq (Gn rfl u4 et et) ?_
 obtain⟨negative1,hx7,h⟩:=ab h
 refine sq (vz (cx rfl et) (congrArg Value.bool (ak hx7))) ?_
 refine nk (aj (T ?_))
 refine TR λhb h=>?_
 refine TR λhb h=>?_
 exact RF
theorem xL (hF:dF F w0) {a1:aC} {by1:Int} (hc:AllCl [Cl.sl ai a2 c1 a1.L] F w0) {r:aC×Int} (h:kF a1 by1=some r):Cg 129 #[(Value.agg (eP a1 a2 c1)),vi by1] w0 λe w=>∃ a3 c2,e= .returned (Value.tuple #[(Value.agg (eP r.1 a3 c2)),vi r.2])∧Ext w0 w∧AllCl [Cl.sl ai a3 c2 r.1.L] F w:=by
 refine EN Tryz.func129 Tryz.ntmps129 hF hc λhI=>?_
 rw[kF]at h
 refine sr (lX λb1 c4 w1 hI=>?_)
 refine lN λb2 c5 w2 hI=>?_
 refine T ?_
 refine aj (sr (sq (am (l:=(fS a1 a2 c1)) rfl et pr rfl bc (hI.kblk (l:=(fS a1 a2 c1)) .z rfl).1) ?_))
 refine sB h (λ_ k=>ow hI.lt FS k) (Rc Tryz.func122) λr1 w3 h hI=>?_
 refine TC (λhb h=>?_) λhb h=>?_
 ·refine sr (sq (aK (vs:=[]) (cs:=#[vi 0,vs none 0 0]) rfl trivial (by kernel_rfl)) ?_)
  refine lA λc6 w4 hI=>?_
  refine T ?_
  refine aO ?_
  have hI:=hI.add (c:=Cl.sl ai none 0 ([]:List bv)) SlC.nil
  obtain rfl:=ak h
  refine QG ?_
  exact⟨none,0,rfl,hI.ext0,hI.fin ⟨.z,af⟩⟩
 refine T ?_
 refine aj (T ?_)
 refine TC (λhb h=>?_) λhb h=>?_
 ·refine sr (sq (aK (vs:=[]) (cs:=#[vi 0,vs none 0 0]) rfl trivial (by kernel_rfl)) ?_)
  refine lA λc7 w5 hI=>?_
  refine T ?_
  refine aO ?_
  have hI:=hI.add (c:=Cl.sl ai none 0 ([]:List bv)) SlC.nil
  obtain rfl:=ak h
  refine QG ?_
  exact⟨none,0,rfl,hI.ext0,hI.fin ⟨.z,af⟩⟩
 refine T ?_
 refine sB h (λ_ k=>xK hI.lt trivial k) (Rc Tryz.func186) λr2 w6 h hI=>?_
 refine T ?_
 refine sq (aK (vs:=[(0,vi r2.1)]) (cs:=#[vi r2.1,vs none 0 0]) rfl ⟨rfl,et,af⟩ (by kernel_rfl)) ?_
 refine lN λb3 c8 w7 hI=>?_
 refine lA λc9 w8 hI=>?_
 refine nk (bO (α:=Bool×aC×(Option Addr)×Nat) (λ_=>⟨61,[]⟩) (λx=>[(4,vp b2 0),(7,vb (x.1)),(8,vp b3 0)]) (λx=>λw=>∃ C,Bun cH F w0 C w [Q6 ai 64 (x.2.2.1) (x.2.2.2) (x.2.1).L,MO.box b2 27 #[vi 0,vs none 0 0],MO.box b3 27 (eP (x.2.1) (x.2.2.1) (x.2.2.2))] []∧oa (x.1) (x.2.1)=some r) ?_ ?_)
 ·clear h hI;rintro⟨fits1,lv,a4,c10⟩ w9 ⟨c11,hI,h⟩
  try dsimp only at hI h ⊢
  rw[oa]at h
  refine aj (T ?_)
  refine TC (λhb h=>?_) λhb h=>?_
  ·refine sr (sq (aK (vs:=[]) (cs:=#[vi 0,vs none 0 0]) rfl trivial (by kernel_rfl)) ?_)
   refine lA λc12 w10 hI=>?_
   refine T ?_
   refine aO ?_
   have hI:=hI.add (c:=Cl.sl ai none 0 ([]:List bv)) SlC.nil
   obtain rfl:=ak h
   refine QG ?_
   exact⟨none,0,rfl,hI.ext0,hI.fin ⟨.z,af⟩⟩
  refine T ?_
  refine lA λc13 w11 hI=>?_
  refine T ?_
  refine aO ?_
  obtain⟨c14,hI⟩:=hI.release .z
  obtain rfl:=ak h
  refine QG ?_
  exact⟨a4,c10,rfl,hI.ext0,hI.fin ⟨.z,af⟩⟩
 refine T ?_
 have hI:=hI.nil ai 64 none
 refine bk (α:=Nat×Bool×Int×aC×(Option Addr)×Nat) (λx=>λw=>∃ C,Bun cH F w0 C w [Q6 ai 64 (x.2.2.2.2.1) (x.2.2.2.2.2) (x.2.2.2.1).L,MO.box b2 27 #[vi 0,vs none 0 0],MO.box b3 27 (eP (x.2.2.2.1) (x.2.2.2.2.1) (x.2.2.2.2.2))] [Cl.sl ai a2 c1 a1.L]∧gz a1 by1 (x.1) (x.2.1) (x.2.2.1) (x.2.2.2.1)=some r) (λx _=>x.1) (λx=>[(1,vi by1),(4,vp b2 0),(7,vb (x.2.1)),(8,vp b3 0),(30,vs a2 a1.L.length c1),(31,vi (a1.L.length:Int)),(32,vi (x.2.2.1))]) (fu,r2.2,0,(⟨r2.1,[]⟩:aC),none,0) ⟨_,hI.arr (.c .z (.c .p1 (.c .z .n))) ⟨.p1,af⟩,h⟩ SB ?_
 clear h hI;rintro⟨fuel1,fits2,i1,out2,a5,c15⟩ w12 ⟨c16,hI,h⟩
 dsimp only at hI h ⊢
 rcases fuel1 with _ | fuel1
 ·rw[gz]at h;cases h
 rw[gz]at h
 refine T ?_
 refine aj (E7 h et (λhb h=>?_) (λhb h=>?_))
 ·refine T ?_
  refine aj (T ?_)
  obtain⟨e1,hx5,h⟩:=ab h
  obtain⟨ad1,cs1,hA1,hr1,hq1⟩:=hI.clat .z hx5
  obtain rfl:cs1=(li e1):=hr1
  refine sI ?_
  refine T ?_
  refine lN λb4 c17 w13 hI=>?_
  refine lA λc18 w14 hI=>?_
  refine T ?_
  refine sB h (λ_ k=>xK hI.lt trivial k) (Rc Tryz.func186) λr3 w15 h hI=>?_
  refine T ?_
  refine sq (aK (vs:=[(0,(str e1.Name)),(1,vi r3.1)]) (cs:=#[(str e1.Name),vi r3.1]) rfl ⟨rfl,et,rfl,et,af⟩ (by kernel_rfl)) ?_
  refine ll hI ai ([⟨e1.Name,r3.1⟩]:List bv) uu Rr λb5 c19 w16 hI=>?_
  obtain⟨zs1,hx8,h⟩:=ab h
  refine qn (xs:=out2.L) (ys:=([⟨e1.Name,r3.1⟩]:List bv)) hI .p2 (hI.rd .z) hx8 gn rfl rfl BL uu rfl rfl et et ?_
  intro a6 c20 c21 w17 hI
  refine T ?_
  refine lS λc22 w18 hI=>?_
  refine T ?_
  refine aG ?_
  exact qo (fuel1,fits2&&r3.2,av (i1+1),(⟨out2.K,zs1⟩:aC),a6,c20) SB ⟨_,hI.arr GO SU,h⟩ (Nat.lt_succ_self _)
 refine bl ?_
 refine eZ ?_
 exact bI (fits2,out2,a5,c15) SB ⟨_,hI.arr GO SU,h⟩ rfl
theorem xe (hF:dF F w0) {s1:List UInt8} (hc:AllCl [] F w0) {r:Bool} (h:mp s1=some r):CR F w0 225 #[(str s1)] (vb r) []:=by
 refine EN Tryz.func225 Tryz.ntmps225 hF hc λhI=>?_
 rw[mp]at h
 refine T ?_
 refine bO (α:=Unit) (λ_=>⟨31,[]⟩) (λ_=>[(0,(str s1))]) (λ_=>λw=>∃ C,Bun cH F w0 C w [] []∧iI s1=some r) ?_ ?_
 ·clear h hI;rintro _ w1 ⟨c1,hI,h⟩
  try dsimp only at hI h ⊢
  rw[iI]at h
  refine T ?_
  obtain⟨b1,hx1,h⟩:=ab h
  replace hx1:=ax hx1
  refine sJ ?_
  exact RF
 refine T ?_
 refine bk (α:=Nat×Int) (λx=>λw=>∃ C,Bun cH F w0 C w [] []∧eu s1 (x.1) (x.2)=some r) (λx _=>x.1) (λx=>[(0,(str s1)),(5,vi (s1.length:Int)),(6,vi (x.2))]) (fu,0) BH SB ?_
 clear h hI;rintro⟨fuel1,i1⟩ w2 ⟨c2,hI,h⟩
 dsimp only at hI h ⊢
 rcases fuel1 with _ | fuel1
 ·rw[eu]at h;cases h
 rw[eu]at h
 refine T ?_
 refine aj (E7 h et (λhb h=>?_) (λhb h=>?_))
 ·refine T ?_
  refine aj (T ?_)
  obtain⟨b2,hx2,h⟩:=ab h
  refine sI ?_
  refine T ?_
  obtain⟨b3,hx3,h⟩:=ab h
  replace hx3:=ax hx3
  refine sJ ?_
  refine TR λhb h=>?_
  refine T ?_
  refine aG ?_
  exact kl (fuel1,av (i1+1))
 refine bl ?_
 refine eZ ?_
 exact kj ()
theorem rf (hF:dF F w0) {r1:aa} (hc:AllCl [Cl.sl ag a1 c1 r1.l,Cl.blk b1 67 (ac r1 a1 c1)] F w0) {r:Bool} (h:fM r1=some r):CR F w0 187 #[vp b1 0] (vb r) []:=by
 refine EN Tryz.func187 Tryz.ntmps187 hF hc λhI=>?_
 rw[fM]at h
 refine T ?_
 refine aj (aL [] false (.c (0,.q) (.c (1,.q) (.c (2,.q) (.c (3,.q) (.c (4,.q) (.c (5,.q) (.c (6,.q) (.c (7,.q) (.c (8,.q) (.c (9,.q) (.c (10,.q) (.c (11,.q) (.c (12,.q) (.c (13,.q) (.c (14,.q) (.c (15,.q) (.c (16,.q) (.c (17,.q) (.c (18,.q) (.c (19,.q) (.c (20,.q) (.c (21,.q) (.c (22,.q) (.c (23,.q) (.c (24,.q) (.c (25,.q) (.c (26,.q) (.c (27,.q) (.c (28,.q) (.c (29,.q) (.c (30,.q) (.c (31,.q) (.c (32,.q) (.c (33,.q) (.c (34,.q) (.c (35,.q) (.c (36,.s) (.c (37,.q) (.c (38,.q) .n))))))))))))))))))))))))))))))))))))))) hI (by kernel_rfl) (by kernel_rfl) ?_)
 intro w1 hI
 refine V ?_
 obtain⟨e1,hx1,h⟩:=ab h
 replace hx1:=ax hx1
 obtain⟨ad1,cs1,hq1⟩:=hI.gclat .z hx1
 have hq2:(decide (r1.at_<(r1.l.length:Int)))=true→CA (Dj F cH) w1 (ad1.add (Int.toNat r1.at_ * 3)) (oJ e1):=λhc=>vF (hq1 hc).2.1 (hq1 hc).2.2
 refine vJ ?_
 refine V ?_
 obtain⟨e2,hx2,h⟩:=ab h
 replace hx2:=ax hx2
 obtain⟨ad2,cs2,hq3⟩:=hI.gclat .z hx2
 have hq4:((decide (r1.at_<(r1.l.length:Int)))&&(decide (e1.Kind=2)))=true→CA (Dj F cH) w1 (ad2.add (Int.toNat r1.at_ * 3)) (oJ e2):=λhc=>vF (hq3 hc).2.1 (hq3 hc).2.2
 refine vJ ?_
 refine V ?_
 obtain⟨r2,hx3,h⟩:=ab h
 replace hx3:=ax hx3
 refine my (v:=(vb r2)) rfl (bg rfl rfl rfl rfl) rfl (λhc=>(ar (vs:=[(str e2.Text)]) rfl N4 ⟨(aI et hc),af⟩)) (λhc=>(xe hI.lt af (hx3 hc)).mono λ_ _ k=>⟨k.1,k.2.1⟩) ?_
 intro w2 hx4;replace hI:=hI.ext hx4
 refine V ?_
 exact RF
theorem sZ (hF:dF F w0) {s1:List UInt8} {negative1:Bool} (hc:AllCl [] F w0) {r:Int×Bool} (h:jr s1 negative1=some r):CR F w0 131 #[(str s1),vb negative1] (Value.tuple #[vi r.1,vb r.2]) []:=by
 refine EN Tryz.func131 Tryz.ntmps131 hF hc λhI=>?_
 rw[jr]at h
 refine T ?_
 refine bO (α:=Int) (λ_=>⟨38,[]⟩) (λx=>[(0,(str s1)),(1,vb negative1),(6,(Value.int .u64 x))]) (λx=>λw=>∃ C,Bun cH F w0 C w [] []∧jc s1 negative1 x=some r) ?_ ?_
 ·clear h hI;rintro limit1 w1 ⟨c1,hI,h⟩
  try dsimp only at hI h ⊢
  rw[jc]at h
  refine T ?_
  refine bO (α:=Int) (λ_=>⟨38,[]⟩) (λx=>[(1,vb negative1),(7,(Value.int .u64 x))]) (λx=>λw=>∃ C,Bun cH F w0 C w [] []∧jb negative1 x=some r) ?_ ?_
  ·clear h hI;rintro n1 w2 ⟨c2,hI,h⟩
   try dsimp only at hI h ⊢
   rw[jb]at h
   refine aj (T ?_)
   refine TR λhb h=>?_
   exact RF
  refine T ?_
  refine bk (α:=Nat×Int×Int) (λx=>λw=>∃ C,Bun cH F w0 C w [] []∧dY s1 limit1 negative1 (x.1) (x.2.1) (x.2.2)=some r) (λx _=>x.1) (λx=>[(0,(str s1)),(1,vb negative1),(6,(Value.int .u64 limit1)),(7,(Value.int .u64 (x.2.1))),(12,vi (s1.length:Int)),(13,vi (x.2.2))]) (fu,0,0) BH SB ?_
  clear h hI;rintro⟨fuel1,n2,i1⟩ w3 ⟨c3,hI,h⟩
  dsimp only at hI h ⊢
  rcases fuel1 with _ | fuel1
  ·rw[dY]at h;cases h
  rw[dY]at h
  refine T ?_
  refine aj (E7 h et (λhb h=>?_) (λhb h=>?_))
  ·refine T ?_
   refine aj (T ?_)
   obtain⟨b1,hx1,h⟩:=ab h
   refine sI ?_
   refine T ?_
   refine aj (T ?_)
   refine sq (AR rfl et ah (by decide)) ?_
   refine TR λhb h=>?_
   refine aZ (aS (ip rfl ?_))
   refine sm ?_
   refine sq (xk rfl ah et) ?_
   refine sm ?_
   refine sq (nB rfl et et) ?_
   obtain⟨n3,hx2,h⟩:=ab h
   refine sq (vz (cx rfl et) (congrArg (Value.int .u64) (ak hx2))) ?_
   refine T ?_
   refine aG ?_
   exact kl (fuel1,n3,av (i1+1))
  refine bl ?_
  refine eZ ?_
  exact kj n2
 refine TC (λhb h=>?_) λhb h=>?_
 ·refine T ?_
  refine aG ?_
  exact kj 9223372036854775808
 exact aZ (bI 9223372036854775807 SB BH rfl)
theorem EP (hF:dF F w0) {k1:Int} (hc:AllCl [] F w0) {r:aC} (h:tE k1=some r):Cg 132 #[vi k1] w0 λe w=>∃ a1 c1,e= .returned (Value.agg (eP r a1 c1))∧Ext w0 w∧AllCl [Cl.sl ai a1 c1 r.L] F w:=by
 refine EN Tryz.func132 Tryz.ntmps132 hF hc λhI=>?_
 rw[tE]at h
 refine sr (cY (cs:=#[vi 0,vs none 0 0]) hI gn rfl rfl mj rfl ?_)
 intro b1 c2 w1 hI
 refine T ?_
 refine sq (aK (vs:=[(0,vi k1)]) (cs:=#[vi k1,vs none 0 0]) rfl ⟨rfl,et,af⟩ (by kernel_rfl)) ?_
 refine lA λc3 w2 hI=>?_
 refine nk (aO ?_)
 have hI:=hI.add (c:=Cl.sl ai none 0 ([]:List bv)) SlC.nil
 obtain rfl:=ak h
 refine QG ?_
 exact⟨none,0,rfl,hI.ext0,hI.fin ⟨.z,af⟩⟩
theorem zK (hF:dF F w0) {a1 b1:Int} (hc:AllCl [] F w0) {r:Int×Bool} (h:oH a1 b1=some r):CR F w0 123 #[vi a1,vi b1] (Value.tuple #[vi r.1,vb r.2]) []:=by
 refine EN Tryz.func123 Tryz.ntmps123 hF hc λhI=>?_
 rw[oH]at h
 refine T ?_
 refine sq (Mo rfl u4 et et) ?_
 exact RF
theorem AF {name1:List UInt8} {x1 y1:Int} {a1:Bool} {a2:aC} (hI:Bun C0 F w0 C0 w0 [MO.box b1 4 #[vb a1],MO.box b2 27 (eP a2 a3 c1),Q6 ai 64 a3 c1 a2.L] []) {r:Unit×Bool×aC} (h:ff name1 x1 y1 a1 a2=some r):Cg 125 #[(str name1),vi x1,vi y1,vp b1 0,vp b2 0] w0 λe w=>∃ a4 c2 C,e= .returned (Value.tuple #[])∧Bun C0 F w0 C w [MO.box b1 4 #[vb r.2.1],MO.box b2 27 (eP r.2.2 a4 c2),Q6 ai 64 a4 c2 r.2.2.L] []:=by
 refine sw Tryz.func125 rfl Tryz.ntmps125 rfl ?_
 rw[ff]at h
 refine T ?_
 refine sB h (λ_ k=>zK hI.lt trivial k) (Rc Tryz.func123) λr1 w1 h hI=>?_
 refine T ?_
 refine lS λc3 w2 hI=>?_
 refine TC (λhb h=>?_) λhb h=>?_
 ·refine T ?_
  refine sq (aK (vs:=[(0,(str name1)),(1,vi r1.1)]) (cs:=#[(str name1),vi r1.1]) rfl ⟨rfl,et,rfl,et,af⟩ (by kernel_rfl)) ?_
  refine ll hI ai ([⟨name1,r1.1⟩]:List bv) uu Rr λb3 c4 w3 hI=>?_
  obtain⟨zs1,hx3,h⟩:=ab h
  refine qn (xs:=a2.L) (ys:=([⟨name1,r1.1⟩]:List bv)) hI .p3 (hI.rd .z) hx3 gn rfl rfl BL uu rfl rfl et et ?_
  intro a5 c5 c6 w4 hI
  refine T ?_
  refine lS λc7 w5 hI=>?_
  refine aG ?_
  obtain rfl:=ak h
  refine QG ?_
  exact⟨a5,c5,_,rfl,hI.arr GO SU⟩
 refine aZ ?_
 obtain rfl:=ak h
 refine QG ?_
 exact⟨a3,c1,_,rfl,hI.arr GO SU⟩
theorem AE {I:StI σ} {a1 b1:List bv} {each1:((List UInt8)→Int→Int→σ→Option (Unit×σ))} {s1:σ} {fv1:Value} (hI:Bun C0 F w0 C0 w0 [MO.st I s1] [Cl.sl ai a2 c1 a1,Cl.sl ai a3 c2 b1,zp I fv1 each1]) {r:Unit×σ} (h:oU a1 b1 each1 s1=some r):Cg 124 #[vs a2 a1.length c1,vs a3 b1.length c2,fv1] w0 λe w=>∃ C,e= .returned (Value.tuple #[])∧Bun C0 F w0 C w [MO.st I r.2] []:=by
 refine sw Tryz.func124 rfl Tryz.ntmps124 rfl ?_
 rw[oU]at h
 refine T ?_
 refine bk (α:=Nat×(List bv)×(List bv)×σ×(Option Addr)×Nat×(Option Addr)×Nat) (λx=>λw=>∃ C,Bun C0 F w0 C w [MO.st I (x.2.2.2.1)] [Cl.sl ai (x.2.2.2.2.1) (x.2.2.2.2.2.1) (x.2.1),Cl.sl ai (x.2.2.2.2.2.2.1) (x.2.2.2.2.2.2.2) (x.2.2.1),zp I fv1 each1]∧cQ each1 (x.1) (x.2.1) (x.2.2.1) (x.2.2.2.1)=some r) (λx _=>x.1) (λx=>[(0,vs (x.2.2.2.2.1) (x.2.1).length (x.2.2.2.2.2.1)),(1,vs (x.2.2.2.2.2.2.1) (x.2.2.1).length (x.2.2.2.2.2.2.2)),(2,fv1)]) (fu,a1,b1,s1,a2,c1,a3,c2) BH SB ?_
 clear h hI;rintro⟨fuel1,a4,b2,s2,a5,c3,a6,c4⟩ w1 ⟨c5,hI,h⟩
 dsimp only at hI h ⊢
 rcases fuel1 with _ | fuel1
 ·rw[cQ]at h;cases h
 rw[cQ]at h
 refine aj (T ?_)
 refine TC (λhb h=>?_) λhb h=>?_
 ·refine T ?_
  refine aj (aL [] false (.c (0,.q) (.c (1,.q) (.c (2,.q) (.c (3,.q) (.c (4,.q) (.c (5,.q) (.c (6,.q) (.c (7,.q) (.c (8,.q) (.c (9,.q) (.c (10,.q) (.c (11,.q) (.c (12,.q) (.c (13,.q) (.c (14,.q) (.c (15,.q) (.c (16,.q) (.c (17,.q) (.c (18,.q) (.c (19,.q) .n)))))))))))))))))))) hI (by kernel_rfl) (by kernel_rfl) ?_)
  intro w2 hI
  refine V ?_
  obtain⟨e1,hx1,h⟩:=ab h
  replace hx1:=ax hx1
  obtain⟨ad1,cs1,hq1⟩:=hI.gclat .z hx1
  have hq2:((!(decide ((b2.length:Int)=0)))&&(decide (0<(a4.length:Int))))=true→CA (Dj F c5) w2 (ad1.add (Int.toNat 0 * 2)) (li e1):=λhc=>vF (hq1 hc).2.1 (hq1 hc).2.2
  refine vJ ?_
  refine V ?_
  obtain⟨e2,hx2,h⟩:=ab h
  replace hx2:=ax hx2
  obtain⟨ad2,cs2,hq3⟩:=hI.gclat .p1 hx2
  have hq4:((!(decide ((b2.length:Int)=0)))&&(decide (0<(a4.length:Int))))=true→CA (Dj F c5) w2 (ad2.add (Int.toNat 0 * 2)) (li e2):=λhc=>vF (hq3 hc).2.1 (hq3 hc).2.2
  refine vJ ?_
  refine V ?_
  refine TC (λhb h=>?_) λhb h=>?_
  ·refine aj (aL [9] false (.c (0,.q) (.c (1,.q) (.c (2,.q) (.c (3,.q) (.c (4,.q) (.c (5,.q) (.c (6,.q) (.c (7,.q) (.c (8,.q) (.c (9,.s) .n)))))))))) hI (by kernel_rfl) (by kernel_rfl) ?_)
   intro w3 hI
   refine V ?_
   obtain⟨e3,hx3,h⟩:=ab h
   obtain⟨ad3,cs3,hA3,hr3,hq5⟩:=hI.clat .z hx3
   obtain rfl:cs3=(li e3):=hr3
   refine vI ?_
   refine V ?_
   obtain⟨e4,hx4,h⟩:=ab h
   obtain⟨ad4,cs4,hA4,hr4,hq6⟩:=hI.clat .z hx4
   obtain rfl:cs4=(li e4):=hr4
   refine vI ?_
   refine V ?_
   refine gQ (F:=F) (C:=c5) rfl rfl ?_
   obtain⟨⟨r1,s3⟩,hx5,h⟩:=ab h
   try dsimp only at h
   obtain⟨c6,f1,hB,hl1,hk1⟩:=hI.hands (.l .n)
   refine yX (args:=[(str e3.Name),vi e4.By,vi 0]) rfl gn rfl rfl et ⟨et,et,ah,af⟩ (CallV.mono ((hI.get .p2).2 c6 f1 w3 (Ra hl1) e3.Name e4.By 0 s2 _ (hB.subs af) hx5) ?_)
   rintro _ w4 ⟨c7,rfl,hB2⟩
   obtain⟨c8,hs1,hI⟩:=hk1 _ _ _ _ hB2
   dsimp only[ca,na]at hI
   refine⟨_,rfl,DM true F c8,hs1,?_⟩
   refine V ?_
   refine T ?_
   obtain⟨zs1,hx6,h⟩:=ab h
   obtain⟨a7,hB1⟩:∃ B:Option Addr,B=(if c3=Int.toNat 1 then a5 else Option.map (·.add (Int.toNat 1 * 2)) a5):=⟨_,rfl⟩
   refine sq (yd rfl BL uk et ah hx6 hB1) ?_
   replace hI:=hI.from_ .z hx6 hB1
   refine sa ?_
   refine aG ?_
   exact kl (fuel1,zs1,b2,s3,a7,c3 - Int.toNat 1,a6,c4)
  refine aj (aL [] false (.c (0,.q) (.c (1,.q) (.c (2,.q) (.c (3,.q) (.c (4,.q) (.c (5,.q) (.c (6,.q) (.c (7,.q) (.c (8,.q) (.c (9,.q) (.c (10,.q) (.c (11,.q) (.c (12,.q) (.c (13,.q) (.c (14,.q) .n))))))))))))))) hI (by kernel_rfl) (by kernel_rfl) ?_)
  intro w5 hI
  refine V ?_
  obtain⟨e5,hx7,h⟩:=ab h
  replace hx7:=ax hx7
  obtain⟨ad5,cs5,hq7⟩:=hI.gclat .p1 hx7
  have hq8:(!(decide ((a4.length:Int)=0)))=true→CA (Dj F c5) w5 (ad5.add (Int.toNat 0 * 2)) (li e5):=λhc=>vF (hq7 hc).2.1 (hq7 hc).2.2
  refine vJ ?_
  refine V ?_
  obtain⟨e6,hx8,h⟩:=ab h
  replace hx8:=ax hx8
  obtain⟨ad6,cs6,hq9⟩:=hI.gclat .z hx8
  have hq10:(!(decide ((a4.length:Int)=0)))=true→CA (Dj F c5) w5 (ad6.add (Int.toNat 0 * 2)) (li e6):=λhc=>vF (hq9 hc).2.1 (hq9 hc).2.2
  refine vJ ?_
  refine V ?_
  refine TC (λhb h=>?_) λhb h=>?_
  ·refine aj (aL [9] false (.c (0,.q) (.c (1,.q) (.c (2,.q) (.c (3,.q) (.c (4,.q) (.c (5,.q) (.c (6,.q) (.c (7,.q) (.c (8,.q) (.c (9,.s) .n)))))))))) hI (by kernel_rfl) (by kernel_rfl) ?_)
   intro w6 hI
   refine V ?_
   obtain⟨e7,hx9,h⟩:=ab h
   obtain⟨ad7,cs7,hA7,hr7,hq11⟩:=hI.clat .p1 hx9
   obtain rfl:cs7=(li e7):=hr7
   refine vI ?_
   refine V ?_
   obtain⟨e8,hx10,h⟩:=ab h
   obtain⟨ad8,cs8,hA8,hr8,hq12⟩:=hI.clat .p1 hx10
   obtain rfl:cs8=(li e8):=hr8
   refine vI ?_
   refine V ?_
   refine gQ (F:=F) (C:=c5) rfl rfl ?_
   obtain⟨⟨r2,s4⟩,hx11,h⟩:=ab h
   try dsimp only at h
   obtain⟨c9,f2,hB,hl2,hk2⟩:=hI.hands (.l .n)
   refine yX (args:=[(str e7.Name),vi 0,vi e8.By]) rfl gn rfl rfl et ⟨et,ah,et,af⟩ (CallV.mono ((hI.get .p2).2 c9 f2 w6 (Ra hl2) e7.Name 0 e8.By s2 _ (hB.subs af) hx11) ?_)
   rintro _ w7 ⟨c10,rfl,hB2⟩
   obtain⟨c11,hs2,hI⟩:=hk2 _ _ _ _ hB2
   dsimp only[ca,na]at hI
   refine⟨_,rfl,DM true F c11,hs2,?_⟩
   refine V ?_
   refine T ?_
   obtain⟨zs2,hx12,h⟩:=ab h
   obtain⟨a8,hB2⟩:∃ B:Option Addr,B=(if c4=Int.toNat 1 then a6 else Option.map (·.add (Int.toNat 1 * 2)) a6):=⟨_,rfl⟩
   refine sq (yd rfl BL uk et ah hx12 hB2) ?_
   replace hI:=hI.from_ .p1 hx12 hB2
   refine sa ?_
   refine aG ?_
   exact kl (fuel1,a4,zs2,s4,a5,c3,a8,c4 - Int.toNat 1)
  refine aj (aL [13] false (.c (0,.q) (.c (1,.q) (.c (2,.q) (.c (3,.q) (.c (4,.q) (.c (5,.q) (.c (6,.q) (.c (7,.q) (.c (8,.q) (.c (9,.q) (.c (10,.q) (.c (11,.q) (.c (12,.q) (.c (13,.s) .n)))))))))))))) hI (by kernel_rfl) (by kernel_rfl) ?_)
  intro w8 hI
  refine V ?_
  obtain⟨e9,hx13,h⟩:=ab h
  obtain⟨ad9,cs9,hA9,hr9,hq13⟩:=hI.clat .z hx13
  obtain rfl:cs9=(li e9):=hr9
  refine vI ?_
  refine V ?_
  obtain⟨e10,hx14,h⟩:=ab h
  obtain⟨ad10,cs10,hA10,hr10,hq14⟩:=hI.clat .z hx14
  obtain rfl:cs10=(li e10):=hr10
  refine vI ?_
  refine V ?_
  obtain⟨e11,hx15,h⟩:=ab h
  obtain⟨ad11,cs11,hA11,hr11,hq15⟩:=hI.clat .p1 hx15
  obtain rfl:cs11=(li e11):=hr11
  refine vI ?_
  refine V ?_
  refine gQ (F:=F) (C:=c5) rfl rfl ?_
  obtain⟨⟨r3,s5⟩,hx16,h⟩:=ab h
  try dsimp only at h
  obtain⟨c12,f3,hB,hl3,hk3⟩:=hI.hands (.l .n)
  refine yX (args:=[(str e9.Name),vi e10.By,vi e11.By]) rfl gn rfl rfl et ⟨et,et,et,af⟩ (CallV.mono ((hI.get .p2).2 c12 f3 w8 (Ra hl3) e9.Name e10.By e11.By s2 _ (hB.subs af) hx16) ?_)
  rintro _ w9 ⟨c13,rfl,hB2⟩
  obtain⟨c14,hs3,hI⟩:=hk3 _ _ _ _ hB2
  dsimp only[ca,na]at hI
  refine⟨_,rfl,DM true F c14,hs3,?_⟩
  refine V ?_
  refine aL [] false (.c (0,.q) (.c (1,.q) (.c (2,.q) (.c (3,.q) (.c (4,.q) (.c (5,.q) .n)))))) hI (by kernel_rfl) (by kernel_rfl) ?_
  intro w10 hI
  refine V ?_
  obtain⟨zs3,hx17,h⟩:=ab h
  obtain⟨a9,hB3⟩:∃ B:Option Addr,B=(if c3=Int.toNat 1 then a5 else Option.map (·.add (Int.toNat 1 * 2)) a5):=⟨_,rfl⟩
  refine iq rfl gn rfl (λw'=>yd rfl BL uk et ah hx17 hB3) ?_
  replace hI:=hI.from_ .z hx17 hB3
  refine V ?_
  obtain⟨zs4,hx18,h⟩:=ab h
  obtain⟨a10,hB4⟩:∃ B:Option Addr,B=(if c4=Int.toNat 1 then a6 else Option.map (·.add (Int.toNat 1 * 2)) a6):=⟨_,rfl⟩
  refine iq rfl gn rfl (λw'=>yd rfl BL uk et ah hx18 hB4) ?_
  replace hI:=hI.from_ .p2 hx18 hB4
  refine V ?_
  refine pp ?_
  exact kl (fuel1,zs3,zs4,s5,a9,c3 - Int.toNat 1,a10,c4 - Int.toNat 1)
 refine bl ?_
 refine eZ ?_
 obtain rfl:=ak h
 refine QG ?_
 exact⟨_,rfl,hI.arr GO SU⟩
theorem Bv (hF:dF F w0) {a1 b1:aC} (hc:AllCl [Cl.sl ai a2 c1 a1.L,Cl.sl ai a3 c2 b1.L] F w0) {r:aC×Int} (h:pV a1 b1=some r):Cg 69 #[(Value.agg (eP a1 a2 c1)),(Value.agg (eP b1 a3 c2))] w0 λe w=>∃ a4 c3,e= .returned (Value.tuple #[(Value.agg (eP r.1 a4 c3)),vi r.2])∧Ext w0 w∧AllCl [Cl.sl ai a4 c3 r.1.L] F w:=by
 refine EN Tryz.func69 Tryz.ntmps69 hF hc λhI=>?_
 rw[pV]at h
 refine sr (lX λb2 c5 w1 hI=>?_)
 refine lX λb3 c7 w2 hI=>?_
 refine lN λb4 c8 w3 hI=>?_
 refine T ?_
 refine aj (sr (sq (am (l:=(fS a1 a2 c1)) rfl et pr rfl bc (hI.kblk (l:=(fS a1 a2 c1)) .p1 rfl).1) ?_))
 refine sB h (λ_ k=>ow hI.lt FS k) (Rc Tryz.func122) λr1 w4 h hI=>?_
 refine T ?_
 refine aw (bj rfl rfl rfl rfl) rfl (λhc=>(am (l:=(fS b1 a3 c2)) rfl et pr rfl bc (hI.kblk (l:=(fS b1 a3 c2)) .z rfl).1)) ?_
 obtain⟨r2,hx3,h⟩:=ab h
 replace hx3:=ax hx3
 refine sU (λhc=>ow hI.lt FS (hx3 hc)) (Rg Tryz.func122) λw5 hI=>?_
 refine TC (λhb h=>?_) λhb h=>?_
 ·refine sr (sq (aK (vs:=[]) (cs:=#[vi 0,vs none 0 0]) rfl trivial (by kernel_rfl)) ?_)
  refine lA λc9 w6 hI=>?_
  refine T ?_
  refine aO ?_
  have hI:=hI.add (c:=Cl.sl ai none 0 ([]:List bv)) SlC.nil
  obtain rfl:=ak h
  refine QG ?_
  exact⟨none,0,rfl,hI.ext0,hI.fin ⟨.z,af⟩⟩
 refine T ?_
 refine lN λb5 c10 w7 hI=>?_
 refine T ?_
 refine lN λb6 c11 w8 hI=>?_
 refine T ?_
 refine sB h (λ_ k=>zK hI.lt trivial k) (Rc Tryz.func123) λr3 w9 h hI=>?_
 refine T ?_
 refine lS λc12 w10 hI=>?_
 refine lS λc13 w11 hI=>?_
 refine T ?_
 refine sq (np (vs:=[]) (cap:=[vp b6 0,vp b5 0]) rfl rfl ⟨et,et,af⟩) ?_
 have hI:=hI.nil ai 64 none
 obtain⟨c14,f1,hB,hl4,hk1⟩:=hI.hands (.l (.l (.l (.r .n))))
 replace hB:=hB.ord (.c .p1 (.c .p1 (.c .z .n)))
 have hB:Bun c14 f1 w11 c14 w11 [MO.st (StI.of (λ(s:Bool×aC) (b:(Option Addr)×Nat)=>[MO.box b6 4 #[vb (s.1)],MO.box b5 27 #[(vi ((s.2).K)),(vs (b.1) ((s.2).L).length (b.2))],Q6 ai 64 (b.1) (b.2) ((s.2).L)]) (λ(s:Bool×aC) (b:(Option Addr)×Nat)=>[])) (r3.2,(⟨r3.1,[]⟩:aC))] _:=Bun.mkst (b:=(none,0)) hB trivial
 have hC:=hB
 have hY1:fnS_k2 (StI.of (λ(s:Bool×aC) (b:(Option Addr)×Nat)=>[MO.box b6 4 #[vb (s.1)],MO.box b5 27 #[(vi ((s.2).K)),(vs (b.1) ((s.2).L).length (b.2))],Q6 ai 64 (b.1) (b.2) ((s.2).L)]) (λ(s:Bool×aC) (b:(Option Addr)×Nat)=>[])) (Value.func (.func 125) #[] #[vp b6 0,vp b5 0]) (λx_1 x_2 x_3 s=>ff x_1 x_2 x_3 (s.1) (s.2)) (Dj f1 c14) w11:=by
  refine⟨rfl,λC0 F w' hs x_1 x_2 x_3 s r hB h=>?_⟩
  obtain⟨⟨a5,c15⟩,hB⟩:=Bun.unst hB
  refine CallV.fn (cap:=[vp b6 0,vp b5 0]) Oy (Calls.mono (AF HS h) ?_)
  rintro _ w'' ⟨z1,z2,C',rfl,hB2⟩
  exact⟨C',rfl,(Bun.mkst (os:=(λ(s:Bool×aC) (b:(Option Addr)×Nat)=>[MO.box b6 4 #[vb (s.1)],MO.box b5 27 #[(vi ((s.2).K)),(vs (b.1) ((s.2).L).length (b.2))],Q6 ai 64 (b.1) (b.2) ((s.2).L)])) (cl:=(λ(s:Bool×aC) (b:(Option Addr)×Nat)=>[])) (s:=r.2) (b:=(z1,z2)) hB2 trivial).subs trivial⟩
 obtain⟨⟨r4,s1⟩,hx7,h⟩:=ab h
 try dsimp only at h
 refine bf gn rfl (Rc Tryz.func124) (Calls.mono (AE ((hB.add (c:=(zp (StI.of (λ(s:Bool×aC) (b:(Option Addr)×Nat)=>[MO.box b6 4 #[vb (s.1)],MO.box b5 27 #[(vi ((s.2).K)),(vs (b.1) ((s.2).L).length (b.2))],Q6 ai 64 (b.1) (b.2) ((s.2).L)]) (λ(s:Bool×aC) (b:(Option Addr)×Nat)=>[])) (Value.func (.func 125) #[] #[vp b6 0,vp b5 0]) (λx_1 x_2 x_3 s=>ff x_1 x_2 x_3 (s.1) (s.2)))) hY1).subs ⟨.p3,.p4,.z,af⟩) hx7) ?_)
 rintro _ w12 ⟨c16,rfl,hB2⟩
 obtain⟨⟨a6,c17⟩,hB2⟩:=Bun.unst hB2
 refine HN hk1 hB2 λc18 hI=>?_
 refine⟨_,rfl,?_⟩
 refine T ?_
 refine aj (T ?_)
 refine TC (λhb h=>?_) λhb h=>?_
 ·refine sr (sq (aK (vs:=[]) (cs:=#[vi 0,vs none 0 0]) rfl trivial (by kernel_rfl)) ?_)
  refine lA λc19 w13 hI=>?_
  refine T ?_
  refine aO ?_
  have hI:=hI.add (c:=Cl.sl ai none 0 ([]:List bv)) SlC.nil
  obtain rfl:=ak h
  refine QG ?_
  exact⟨none,0,rfl,hI.ext0,hI.fin ⟨.z,af⟩⟩
 refine T ?_
 refine lA λc20 w14 hI=>?_
 refine T ?_
 refine aO ?_
 obtain⟨c21,hI⟩:=hI.release .p2
 obtain rfl:=ak h
 refine QG ?_
 exact⟨a6,c17,rfl,hI.ext0,hI.fin ⟨.z,af⟩⟩
theorem aQ {r1:aa} {s1:List UInt8} (hI:Bun C0 F w0 C0 w0 [MO.box b1 67 (ac r1 a1 c1)] [Cl.sl ag a1 c1 r1.l]) {r:Bool×aa} (h:ay r1 s1=some r):Cg 68 #[vp b1 0,(str s1)] w0 λe w=>∃ a2 c2 C,e= .returned (vb r.1)∧Bun C0 F w0 C w [MO.box b1 67 (ac r.2 a2 c2)] [Cl.sl ag a2 c2 r.2.l]:=by
 refine sw Tryz.func68 rfl Tryz.ntmps68 rfl ?_
 rw[ay]at h
 refine T ?_
 refine aj (T ?_)
 refine sB h (λ_ k=>bG NE ⟨(hI.get0 .z),hI.lendBox .z,af⟩ k) (Rc Tryz.func121) λr2 w1 h hI=>?_
 refine TC (λhb h=>?_) λhb h=>?_
 ·refine T ?_
  refine lS λc3 w2 hI=>?_
  refine T ?_
  refine aO ?_
  obtain rfl:=ak h
  refine QG ?_
  exact⟨a1,c1,_,rfl,hI.arr GO SU⟩
 refine T ?_
 refine aO ?_
 obtain rfl:=ak h
 refine QG ?_
 exact⟨a1,c1,_,rfl,hI.arr GO SU⟩
theorem cg {r1:aa} (hI:Bun C0 F w0 C0 w0 [MO.box b1 67 (ac r1 a1 c1)] [Cl.sl ag a1 c1 r1.l]) {r:bZ (Unit×aa)} (h:bC r1=some r):CP C0 F w0 103 #[vp b1 0] r λrx e w=>∃ a2 c2 C,e= .returned (Value.tuple #[])∧Bun C0 F w0 C w [MO.box b1 67 (ac rx.2 a2 c2)] [Cl.sl ag a2 c2 rx.2.l]:=by
 refine fa (l:=[vp b1 0]) Tryz.func103 rfl Tryz.ntmps103 rfl ?_
 rw[bC]at h
 refine aj (aj (aL [] false (.c (0,.q) (.c (1,.q) (.c (2,.q) (.c (3,.q) (.c (4,.q) (.c (5,.q) (.c (6,.q) (.c (7,.q) (.c (8,.q) (.c (9,.q) .n)))))))))) hI (by kernel_rfl) (by kernel_rfl) ?_))
 intro w1 hI
 refine V ?_
 refine TC (λhb h=>?_) λhb h=>?_
 ·refine T ?_
  rcases en h with⟨r2,hx1,h⟩ | ⟨pa_,pn_,hx1,hp_⟩
  rotate_left
  ·subst hp_
   refine iw gn rfl (ar (vs:=[vp b1 0,vi (r1.l.length:Int),vi 6]) rfl uO ⟨et,et,ah,af⟩) (Calls.mono (aP NE ⟨(hI.get0 .z),hI.lendBox .z,af⟩ hx1) ?_)
   intro e_ w_ hq_;obtain⟨rfl,hx_⟩:=cz hq_;have hI_:=hI.ext hx_;exact .inr ⟨_,rfl,fB (.inr ⟨_,_,rfl,rfl,_,hI_.arr .n trivial⟩)⟩
  try dsimp only at h
  refine bf gn rfl (Rc Tryz.func71) (Calls.mono (aP NE ⟨(hI.get0 .z),hI.lendBox .z,af⟩ hx1) ?_)
  intro e_ w2 hq_;obtain⟨rfl,hx2,hl1⟩:=cy hq_
  refine⟨_,rfl,?_⟩
  replace hI:=(hI.ext hx2)
  refine T ?_
  rcases en h with⟨r3,hx3,h⟩ | ⟨pa_,pn_,hx3,hp_⟩
  rotate_left
  ·subst hp_
   refine iw gn rfl (ar (vs:=[vp b1 0,vi r1.at_,vi 5]) rfl uO ⟨et,et,ah,af⟩) (Calls.mono (aP NE ⟨(hI.get0 .z),hI.lendBox .z,af⟩ hx3) ?_)
   intro e_ w_ hq_;obtain⟨rfl,hx_⟩:=cz hq_;have hI_:=hI.ext hx_;exact .inr ⟨_,rfl,fB (.inr ⟨_,_,rfl,rfl,_,hI_.arr .n trivial⟩)⟩
  try dsimp only at h
  refine bf gn rfl (Rc Tryz.func71) (Calls.mono (aP NE ⟨(hI.get0 .z),hI.lendBox .z,af⟩ hx3) ?_)
  intro e_ w3 hq_;obtain⟨rfl,hx4,hl2⟩:=cy hq_
  refine⟨_,rfl,?_⟩
  replace hI:=(hI.ext hx4)
  refine aG ?_
  obtain rfl:=ak h
  refine QG ?_
  exact .inl ⟨_,rfl,a1,c1,_,rfl,hI.arr GO SU⟩
 refine T ?_
 rcases en h with⟨r4,hx5,h⟩ | ⟨pa_,pn_,hx5,hp_⟩
 rotate_left
 ·subst hp_
  refine iw gn rfl (ar (vs:=[vp b1 0,vi r1.at_,vi 5]) rfl uO ⟨et,et,ah,af⟩) (Calls.mono (aP NE ⟨(hI.get0 .z),hI.lendBox .z,af⟩ hx5) ?_)
  intro e_ w_ hq_;obtain⟨rfl,hx_⟩:=cz hq_;have hI_:=hI.ext hx_;exact .inr ⟨_,rfl,fB (.inr ⟨_,_,rfl,rfl,_,hI_.arr .n trivial⟩)⟩
 try dsimp only at h
 refine bf gn rfl (Rc Tryz.func71) (Calls.mono (aP NE ⟨(hI.get0 .z),hI.lendBox .z,af⟩ hx5) ?_)
 intro e_ w4 hq_;obtain⟨rfl,hx6,hl3⟩:=cy hq_
 refine⟨_,rfl,?_⟩
 replace hI:=(hI.ext hx6)
 refine aG ?_
 obtain rfl:=ak h
 refine QG ?_
 exact .inl ⟨_,rfl,a1,c1,_,rfl,hI.arr GO SU⟩
theorem bT {r1:aa} (hI:Bun C0 F w0 C0 w0 [MO.box b1 67 (ac r1 a1 c1)] [Cl.sl ag a1 c1 r1.l,au]) {r:bZ (List UInt8×aa)} (h:bi r1=some r):CP C0 F w0 128 #[vp b1 0] r λrx e w=>∃ a2 c2 C,e= .returned (str rx.1)∧Bun C0 F w0 C w [MO.box b1 67 (ac rx.2 a2 c2)] [Cl.sl ag a2 c2 rx.2.l]:=by
 refine fa (l:=[vp b1 0]) Tryz.func128 rfl Tryz.ntmps128 rfl ?_
 rw[bi]at h
 refine T ?_
 refine bO (α:=aa×(Option Addr)×Nat) (λ_=>⟨27,[]⟩) (λx=>[(0,vp b1 0)]) (λx=>λw=>∃ C,Bun C0 F w0 C w [MO.box b1 67 (ac (x.1) (x.2.1) (x.2.2))] [Cl.sl ag (x.2.1) (x.2.2) (x.1).l,au]∧fA (x.1)=some r) ?_ ?_
 ·clear h hI;rintro⟨r2,a3,c3⟩ w1 ⟨c4,hI,h⟩
  try dsimp only at hI h ⊢
  rw[fA]at h
  refine T ?_
  refine lS λc5 w2 hI=>?_
  refine nk (aj (aL [] false (.c (0,.q) (.c (1,.q) (.c (2,.q) (.c (3,.q) (.c (4,.q) (.c (5,.q) (.c (6,.q) (.c (7,.q) (.c (8,.q) (.c (9,.q) (.c (10,.q) (.c (11,.q) (.c (12,.q) .n))))))))))))) hI (by kernel_rfl) (by kernel_rfl) ?_))
  intro w3 hI
  refine V ?_
  obtain⟨e1,hx1,h⟩:=ab h
  obtain⟨ad1,cs1,hA1,hr1,hq1⟩:=hI.clat .z hx1
  obtain rfl:cs1=(oJ e1):=hr1
  refine vI ?_
  refine V ?_
  refine aO ?_
  obtain rfl:=ak h
  refine QG ?_
  exact .inl ⟨_,rfl,a3,c3,_,rfl,hI.arr GO SU⟩
 refine T ?_
 refine sB h (λ_ k=>kT NE ⟨(hI.get0 .z),hI.lendBox .z,hI.get0 .p1,af⟩ k) (Rc Tryz.func126) λr3 w4 h hI=>?_
 refine TC (λhb h=>?_) λhb h=>?_
 ·refine T ?_
  obtain⟨c6,f1,hB,hl2,hk1⟩:=hI.hands (.l .n)
  refine dh h (λ_ hx4=>cg HS hx4) (jL hk1) (Rc Tryz.func103) ?_
  rintro⟨r4,s1⟩ hx4 h _ w5 ⟨a4,c7,c8,rfl,hB2⟩
  try dsimp only at h
  refine HN hk1 hB2 λc9 hI=>?_
  refine⟨_,rfl,?_⟩
  refine aG ?_
  exact kj (s1,a4,c7)
 exact aZ (bI (r1,a1,c1) ⟨rfl,af⟩ BH rfl)
theorem ic {r1:aa} (hI:Bun C0 F w0 C0 w0 [MO.box b1 67 (ac r1 a1 c1)] [Cl.sl ag a1 c1 r1.l]) {r:bZ (List UInt8×aa)} (h:bS r1=some r):CP C0 F w0 130 #[vp b1 0] r λrx e w=>∃ a2 c2 C,e= .returned (str rx.1)∧Bun C0 F w0 C w [MO.box b1 67 (ac rx.2 a2 c2)] [Cl.sl ag a2 c2 rx.2.l]:=by
 refine fa (l:=[vp b1 0]) Tryz.func130 rfl Tryz.ntmps130 rfl ?_
 rw[bS]at h
 refine T ?_
 refine bO (α:=aa×(Option Addr)×Nat) (λ_=>⟨27,[]⟩) (λx=>[(0,vp b1 0)]) (λx=>λw=>∃ C,Bun C0 F w0 C w [MO.box b1 67 (ac (x.1) (x.2.1) (x.2.2))] [Cl.sl ag (x.2.1) (x.2.2) (x.1).l]∧eH (x.1)=some r) ?_ ?_
 ·clear h hI;rintro⟨r2,a3,c3⟩ w1 ⟨c4,hI,h⟩
  try dsimp only at hI h ⊢
  rw[eH]at h
  refine T ?_
  refine lS λc5 w2 hI=>?_
  refine nk (aj (aL [] false (.c (0,.q) (.c (1,.q) (.c (2,.q) (.c (3,.q) (.c (4,.q) (.c (5,.q) (.c (6,.q) (.c (7,.q) (.c (8,.q) (.c (9,.q) (.c (10,.q) (.c (11,.q) (.c (12,.q) .n))))))))))))) hI (by kernel_rfl) (by kernel_rfl) ?_))
  intro w3 hI
  refine V ?_
  obtain⟨e1,hx1,h⟩:=ab h
  obtain⟨ad1,cs1,hA1,hr1,hq1⟩:=hI.clat .z hx1
  obtain rfl:cs1=(oJ e1):=hr1
  refine vI ?_
  refine V ?_
  refine aO ?_
  obtain rfl:=ak h
  refine QG ?_
  exact .inl ⟨_,rfl,a3,c3,_,rfl,hI.arr GO SU⟩
 refine T ?_
 refine sB h (λ_ k=>rf NE ⟨(hI.get0 .z),hI.lendBox .z,af⟩ k) (Rc Tryz.func187) λr3 w4 h hI=>?_
 refine TC (λhb h=>?_) λhb h=>?_
 ·refine T ?_
  obtain⟨c6,f1,hB,hl2,hk1⟩:=hI.hands (.l .n)
  refine dh h (λ_ hx4=>cg HS hx4) (jL hk1) (Rc Tryz.func103) ?_
  rintro⟨r4,s1⟩ hx4 h _ w5 ⟨a4,c7,c8,rfl,hB2⟩
  try dsimp only at h
  refine HN hk1 hB2 λc9 hI=>?_
  refine⟨_,rfl,?_⟩
  refine aG ?_
  exact kj (s1,a4,c7)
 exact aZ (bI (r1,a1,c1) ⟨rfl,af⟩ BH rfl)
end Go.Proofs.YtmhoikfoogemnaaGreatDoor
