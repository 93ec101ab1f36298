import Derived.Test.YtmhoikfoogemnaaGreatDoorGXc
import Derived.Test.YtmhoikfoogemnaaGreatDoorGLfH
namespace Go.Proofs.YtmhoikfoogemnaaGreatDoor
open Go Go.RowKit Go.Vc
set_option maxRecDepth 100000
set_option maxHeartbeats 4000000
set_option linter.unusedVariables false
set_option linter.unusedSimpArgs false
abbrev FV:Array Value:=#[(aT []),vi 0,vi 0,vi 0,vi 0,vi 0,vs none 0 0,vs none 0 0,vi 0,vi 0,(aT []),vi 0,vi 0,vi 0,vi 0,vi 0,vi 0,vi 0,vi 0,vs none 0 0,vs none 0 0,vs none 0 0]
abbrev lp:Array Value:=#[vi 0,(aT []),vi 0,vi 0,vi 0,vi 0,vi 0,vi 0,vi 0,vi 0,vs none 0 0,vs none 0 0,vs none 0 0]
abbrev KH:List Value:=[vi 0,(aT []),vi 0,vi 0,vi 0,vi 0,vi 0,vi 0,vi 0,vi 0,vs none 0 0,vs none 0 0,vs none 0 0]
abbrev LO:List (List UInt8):=[([102,108,111,111,114]:List UInt8),([99,101,105,108]:List UInt8),([122,101,114,111]:List UInt8),([101,118,101,110]:List UInt8)]
abbrev LN:List (List UInt8):=[([115,97,116]:List UInt8),([119,114,97,112]:List UInt8)]
abbrev LM:List (List UInt8):=[([102,114,97,99]:List UInt8),([105,110,116]:List UInt8),([102,105,120]:List UInt8)]
abbrev LB:List (List UInt8):=[([115,117,109]:List UInt8),([112,114,111,100]:List UInt8),([109,105,110]:List UInt8),([109,97,120]:List UInt8),([115,99,97,110]:List UInt8)]
abbrev HQ:List (List UInt8):=[([115,105,122,101]:List UInt8),([119,104,101,114,101]:List UInt8),([105,110]:List UInt8),([100,101,102]:List UInt8),([111,117,116]:List UInt8)]
abbrev YW8:List (List UInt8):=[([109,105,110]:List UInt8),([109,97,120]:List UInt8)]
abbrev dK (F:NP) (w0:World):Prop:=∀ k,F k→k<w0.heap.size
theorem NE {m:Nat} :∀ k,du k→k<m:=λ_ k=>k.elim
abbrev CR (F:NP) (w0:World) (f:FuncId) (args:Array Value) (v:Value) (cl:List Cl):Prop:=Calls Tryz.prog f args w0 λe w=>e= .returned v∧Ext w0 w∧AllCl cl F w
abbrev Cg:= @Calls Tryz.prog
abbrev CP {α:Type} (C0 F:NP) (w0:World) (f:FuncId) (args:Array Value) (r:bL α) (A:α→Ending→World→Prop):Prop:=Calls Tryz.prog f args w0 λe w=>(∃ rx:α,r= .ret rx∧A rx e w)∨∃ (pa pn:Int),r= .pan pa pn∧e= .panicked [pe 114 pa pn]∧∃ C:NP,Bun C0 F w0 C w [] []
theorem CU {P:Program} {ro:Ro} {n:Fr} {Kn:Act→World→Prop} {Ke:Nat→Act→World→Prop} {Kr:Act→World→Prop} {env:lw} {w:World} {c:Operand} {x y:Code} {b:Bool} {β:Type} {p q:Option β} {r:β} (h:(if b=true then p else q)=some r) (hc:Ev n env c (.bool b)) (ht:b=true→p=some r→im P ro n x Kn Ke Kr env w) (hf:b=false→q=some r→im P ro n y Kn Ke Kr env w):im P ro n (.cond c x y) Kn Ke Kr env w:=sg hc (λhb=>ht hb (I4 hb h)) (λhb=>hf hb (I5 hb h))
theorem fq {F C:NP} {w0 w:World} {os:List MO} {cl cl':List Cl} {e:Ending} (h:Bun du F w0 C w os cl) (hs:Subs cl cl'):e=e∧Ext w0 w∧AllCl cl' F w:=⟨rfl,h.ext0,h.fin hs⟩
abbrev jx (x:bm):List Value:=[vi x.Kind,vi x.At,aT x.Text]
abbrev ai (x:aa) (A1:Option Addr) (C1:Nat):Array Value:=#[vs A1 x.l.length C1,vi x.at_,vi x.deep]
abbrev lk (x:GMono):List Value:=[aT x.Name,vi x.By]
abbrev fI (x:GLin) (A1:Option Addr) (C1:Nat):List Value:=[vi x.K,vs A1 x.L.length C1]
abbrev cx (x:GLin) (A1:Option Addr) (C1:Nat):Array Value:=#[vi x.K,vs A1 x.L.length C1]
abbrev cU (x:GType):List Value:=[vi x.Kind,vi x.Bits,vi x.Frac,vi x.Round,vi x.Over]
abbrev d9 (x:GType):Array Value:=#[vi x.Kind,vi x.Bits,vi x.Frac,vi x.Round,vi x.Over]
abbrev Ap:Array Value:=#[vi 0,vi 0,vi 0,vi 0,vi 0]
abbrev sR (x:GVal):List Value:=[vi x.N,vi x.D]
abbrev uk (x:GVal):Array Value:=#[vi x.N,vi x.D]
abbrev tr (x:GIndex) (A1:Option Addr) (C1:Nat) (A2:Option Addr) (C2:Nat):List Value:=[vi x.Lin.K,vs A1 x.Lin.L.length C1,aT x.From,vs A2 x.At.length C2]
abbrev oT (x:GIndex) (A1:Option Addr) (C1:Nat) (A2:Option Addr) (C2:Nat):Array Value:=#[vi x.Lin.K,vs A1 x.Lin.L.length C1,aT x.From,vs A2 x.At.length C2]
abbrev bz (x:GExpr) (A1:Option Addr) (C1:Nat) (A2:Option Addr) (C2:Nat) (A3:Option Addr) (C3:Nat):List Value:=[vi x.Op,aT x.Name,vi x.Val.N,vi x.Val.D,vi x.Type_.Kind,vi x.Type_.Bits,vi x.Type_.Frac,vi x.Type_.Round,vi x.Type_.Over,vi x.Lin.K,vs A1 x.Lin.L.length C1,vs A2 x.Idx.length C2,vs A3 x.Args.length C3]
abbrev aI (x:GExpr) (A1:Option Addr) (C1:Nat) (A2:Option Addr) (C2:Nat) (A3:Option Addr) (C3:Nat):Array Value:=#[vi x.Op,aT x.Name,vi x.Val.N,vi x.Val.D,vi x.Type_.Kind,vi x.Type_.Bits,vi x.Type_.Frac,vi x.Type_.Round,vi x.Type_.Over,vi x.Lin.K,vs A1 x.Lin.L.length C1,vs A2 x.Idx.length C2,vs A3 x.Args.length C3]
abbrev ag (x:ab) (A1:Option Addr) (C1:Nat):List Value:=[vs A1 x.L.length C1,vi x.At,vi x.Deep,vi x.E,vi x.Pos]
abbrev ac (x:ab) (A1:Option Addr) (C1:Nat):Array Value:=#[vs A1 x.L.length C1,vi x.At,vi x.Deep,vi x.E,vi x.Pos]
abbrev av:Array Value:=#[vs none 0 0,vi 0,vi 0,vi 0,vi 0]
abbrev wQ (x:aX) (A1:Option Addr) (C1:Nat):List Value:=[vi x.Lin.K,vs A1 x.Lin.L.length C1,vb x.Eq]
abbrev m0 (x:aX) (A1:Option Addr) (C1:Nat):Array Value:=#[vi x.Lin.K,vs A1 x.Lin.L.length C1,vb x.Eq]
abbrev qO:Array Value:=#[vi 0,vs none 0 0,vb false]
abbrev tq (x:iz) (A1:Option Addr) (C1:Nat):List Value:=[aT x.Name,vi x.Type_.Kind,vi x.Type_.Bits,vi x.Type_.Frac,vi x.Type_.Round,vi x.Type_.Over,vs A1 x.Dims.length C1]
abbrev Eg (x:iz) (A1:Option Addr) (C1:Nat):Array Value:=#[aT x.Name,vi x.Type_.Kind,vi x.Type_.Bits,vi x.Type_.Frac,vi x.Type_.Round,vi x.Type_.Over,vs A1 x.Dims.length C1]
abbrev EO (x:gl) (A1:Option Addr) (C1:Nat):List Value:=[aT x.Name,vi x.Size.K,vs A1 x.Size.L.length C1]
abbrev Lm (x:eF) (A1:Option Addr) (C1:Nat) (A2:Option Addr) (C2:Nat) (A3:Option Addr) (C3:Nat) (A4:Option Addr) (C4:Nat) (A5:Option Addr) (C5:Nat):List Value:=[aT x.Name,vi x.Type_.Kind,vi x.Type_.Bits,vi x.Type_.Frac,vi x.Type_.Round,vi x.Type_.Over,vs A1 x.Dims.length C1,vs A2 x.Red.length C2,vi x.Fold,vi x.Body.Op,aT x.Body.Name,vi x.Body.Val.N,vi x.Body.Val.D,vi x.Body.Type_.Kind,vi x.Body.Type_.Bits,vi x.Body.Type_.Frac,vi x.Body.Type_.Round,vi x.Body.Type_.Over,vi x.Body.Lin.K,vs A3 x.Body.Lin.L.length C3,vs A4 x.Body.Idx.length C4,vs A5 x.Body.Args.length C5]
abbrev ul (x:eF) (A1:Option Addr) (C1:Nat) (A2:Option Addr) (C2:Nat) (A3:Option Addr) (C3:Nat) (A4:Option Addr) (C4:Nat) (A5:Option Addr) (C5:Nat):Array Value:=#[aT x.Name,vi x.Type_.Kind,vi x.Type_.Bits,vi x.Type_.Frac,vi x.Type_.Round,vi x.Type_.Over,vs A1 x.Dims.length C1,vs A2 x.Red.length C2,vi x.Fold,vi x.Body.Op,aT x.Body.Name,vi x.Body.Val.N,vi x.Body.Val.D,vi x.Body.Type_.Kind,vi x.Body.Type_.Bits,vi x.Body.Type_.Frac,vi x.Body.Type_.Round,vi x.Body.Type_.Over,vi x.Body.Lin.K,vs A3 x.Body.Lin.L.length C3,vs A4 x.Body.Idx.length C4,vs A5 x.Body.Args.length C5]
abbrev EM (x:bI) (A1:Option Addr) (C1:Nat) (A2:Option Addr) (C2:Nat) (A3:Option Addr) (C3:Nat) (A4:Option Addr) (C4:Nat) (A5:Option Addr) (C5:Nat):List Value:=[vs A1 x.Sizes.length C1,vs A2 x.Where.length C2,vs A3 x.Params.length C3,vs A4 x.Defs.length C4,vs A5 x.Outs.length C5]
abbrev iY (x:bI) (A1:Option Addr) (C1:Nat) (A2:Option Addr) (C2:Nat) (A3:Option Addr) (C3:Nat) (A4:Option Addr) (C4:Nat) (A5:Option Addr) (C5:Nat):Array Value:=#[vs A1 x.Sizes.length C1,vs A2 x.Where.length C2,vs A3 x.Params.length C3,vs A4 x.Defs.length C4,vs A5 x.Outs.length C5]
abbrev IJ:List Value:=[vs none 0 0,vs none 0 0,vs none 0 0,vs none 0 0,vs none 0 0]
abbrev j3:Array Value:=#[vs none 0 0,vs none 0 0,vs none 0 0,vs none 0 0,vs none 0 0]
abbrev u2:= @Tryz.underlying2
abbrev u3:= @Tryz.underlying3
abbrev u4:= @Tryz.underlying4
abbrev u5:= @Tryz.underlying5
abbrev u9:= @Tryz.underlying9
abbrev KV:= @Tryz.underlying22
abbrev E9:= @Tryz.underlying25
abbrev pk:= @Tryz.underlying27
abbrev Di:= @Tryz.underlying28
abbrev HM:= @Tryz.underlying33
abbrev qQ:= @Tryz.underlying35
abbrev Dh:= @Tryz.underlying36
abbrev KE:= @Tryz.underlying37
abbrev mD:= @Tryz.underlying39
abbrev zY:= @Tryz.underlying50
abbrev KD:= @Tryz.underlying51
abbrev KB:= @Tryz.underlying52
abbrev KA:= @Tryz.underlying53
abbrev Kz:= @Tryz.underlying55
abbrev u64:= @Tryz.underlying64
abbrev LH:= @Tryz.underlying65
abbrev KU:= @Tryz.underlying67
abbrev jO:= @Tryz.underlying72
abbrev IQ:= @Tryz.underlying93
abbrev u98:= @Tryz.underlying98
abbrev wZ:= @Tryz.underlying100
abbrev KW:= @Tryz.underlying107
abbrev u114:= @Tryz.underlying114
abbrev wY:= @Tryz.underlying132
theorem Cd:Tryz.prog.stoodInHeld 33=false:=by kernel_rfl
theorem CM (a0 b0:Int) (a1 b1:Int) (w:World):(binOp .eql 33 (.agg #[(Value.int .i64 a0),(Value.int .i64 a1)]) (.agg #[(Value.int .i64 b0),(Value.int .i64 b1)])).run Tryz.prog w= .ok (.bool ((decide (a0=b0))&&(decide (a1=b1)))) w:=by
  simp[go_sem,Cd,Tryz.underlying33,qp,qo]
  all_goals (by_cases h0:a0=b0<;>by_cases h1:a1=b1<;>simp[h0,h1])
theorem vy (a0 b0:Int) (a1 b1:Int) (w:World):(binOp .neq 33 (.agg #[(Value.int .i64 a0),(Value.int .i64 a1)]) (.agg #[(Value.int .i64 b0),(Value.int .i64 b1)])).run Tryz.prog w= .ok (.bool (!((decide (a0=b0))&&(decide (a1=b1))))) w:=by
  simp[go_sem,Cd,Tryz.underlying33,qp,qo]
  all_goals (by_cases h0:a0=b0<;>by_cases h1:a1=b1<;>simp[h0,h1])
theorem uS (op:BinOp) (x y:Operand) (xs ys:Array Value) (w:World):(eqGuard op 33 x y (.agg xs) (.agg ys)).run Tryz.prog w= .ok () w:=run_eqGuard_agg w op 33 x y xs ys (by kernel_rfl)
theorem Cc:Tryz.prog.stoodInHeld 35=false:=by kernel_rfl
theorem tz (a0 b0:Int) (a1 b1:Int) (a2 b2:Int) (a3 b3:Int) (a4 b4:Int) (w:World):(binOp .eql 35 (.agg #[(Value.int .i64 a0),(Value.int .i64 a1),(Value.int .i64 a2),(Value.int .i64 a3),(Value.int .i64 a4)]) (.agg #[(Value.int .i64 b0),(Value.int .i64 b1),(Value.int .i64 b2),(Value.int .i64 b3),(Value.int .i64 b4)])).run Tryz.prog w= .ok (.bool ((decide (a0=b0))&&(decide (a1=b1))&&(decide (a2=b2))&&(decide (a3=b3))&&(decide (a4=b4)))) w:=by
  simp[go_sem,Cc,Tryz.underlying35,qp,qo]
  all_goals (by_cases h0:a0=b0<;>by_cases h1:a1=b1<;>by_cases h2:a2=b2<;>by_cases h3:a3=b3<;>by_cases h4:a4=b4<;>simp[h0,h1,h2,h3,h4])
theorem rX (a0 b0:Int) (a1 b1:Int) (a2 b2:Int) (a3 b3:Int) (a4 b4:Int) (w:World):(binOp .neq 35 (.agg #[(Value.int .i64 a0),(Value.int .i64 a1),(Value.int .i64 a2),(Value.int .i64 a3),(Value.int .i64 a4)]) (.agg #[(Value.int .i64 b0),(Value.int .i64 b1),(Value.int .i64 b2),(Value.int .i64 b3),(Value.int .i64 b4)])).run Tryz.prog w= .ok (.bool (!((decide (a0=b0))&&(decide (a1=b1))&&(decide (a2=b2))&&(decide (a3=b3))&&(decide (a4=b4))))) w:=by
  simp[go_sem,Cc,Tryz.underlying35,qp,qo]
  all_goals (by_cases h0:a0=b0<;>by_cases h1:a1=b1<;>by_cases h2:a2=b2<;>by_cases h3:a3=b3<;>by_cases h4:a4=b4<;>simp[h0,h1,h2,h3,h4])
theorem pd (op:BinOp) (x y:Operand) (xs ys:Array Value) (w:World):(eqGuard op 35 x y (.agg xs) (.agg ys)).run Tryz.prog w= .ok () w:=run_eqGuard_agg w op 35 x y xs ys (by kernel_rfl)
theorem Gq:Tryz.prog.stoodInHeld 64=false:=by kernel_rfl
theorem Bg (a0 b0:List UInt8) (a1 b1:Int) (w:World):(binOp .neq 64 (.agg #[(aT a0),(Value.int .i64 a1)]) (.agg #[(aT b0),(Value.int .i64 b1)])).run Tryz.prog w= .ok (.bool (!((decide (a0=b0))&&(decide (a1=b1))))) w:=by
  simp[go_sem,Gq,Tryz.underlying64,qp,qo]
  all_goals (by_cases h0:a0=b0<;>by_cases h1:a1=b1<;>simp[h0,h1])
theorem DY (op:BinOp) (x y:Operand) (xs ys:Array Value) (w:World):(eqGuard op 64 x y (.agg xs) (.agg ys)).run Tryz.prog w= .ok () w:=run_eqGuard_agg w op 64 x y xs ys (by kernel_rfl)
theorem tu:re Tryz.prog 100 22 272 (Value.agg #[(aT []),(Value.int .i64 0),(Value.int .i64 0),(Value.int .i64 0),(Value.int .i64 0),(Value.int .i64 0),(Value.slice none 0 0),(Value.slice none 0 0),(Value.int .i64 0),(Value.int .i64 0),(aT []),(Value.int .i64 0),(Value.int .i64 0),(Value.int .i64 0),(Value.int .i64 0),(Value.int .i64 0),(Value.int .i64 0),(Value.int .i64 0),(Value.int .i64 0),(Value.slice none 0 0),(Value.slice none 0 0),(Value.slice none 0 0)]):=oJ (by kernel_rfl) rfl
theorem tt:re Tryz.prog 107 3 40 (Value.agg #[(Value.int .i64 0),(Value.slice none 0 0),(Value.bool false)]):=oJ (by kernel_rfl) rfl
theorem pI:re Tryz.prog 132 4 72 (Value.agg #[(Value.int .i64 0),(Value.slice none 0 0),(aT []),(Value.slice none 0 0)]):=oJ (by kernel_rfl) rfl
theorem vv:re Tryz.prog 204 3 48 (Value.agg #[(aT []),(Value.int .i64 0),(Value.slice none 0 0)]):=oJ (by kernel_rfl) rfl
theorem qI:re Tryz.prog 27 2 32 (Value.agg #[(Value.int .i64 0),(Value.slice none 0 0)]):=oJ (by kernel_rfl) rfl
theorem yr:re Tryz.prog 3 1 8 (Value.int .i64 0):=oJ (by kernel_rfl) rfl
theorem mC:re Tryz.prog 39 13 160 (Value.agg #[(Value.int .i64 0),(aT []),(Value.int .i64 0),(Value.int .i64 0),(Value.int .i64 0),(Value.int .i64 0),(Value.int .i64 0),(Value.int .i64 0),(Value.int .i64 0),(Value.int .i64 0),(Value.slice none 0 0),(Value.slice none 0 0),(Value.slice none 0 0)]):=oJ (by kernel_rfl) rfl
theorem xJ:re Tryz.prog 62 3 32 (Value.agg #[(Value.int .i64 0),(Value.int .i64 0),(aT [])]):=oJ (by kernel_rfl) rfl
theorem oK:re Tryz.prog 64 2 24 (Value.agg #[(aT []),(Value.int .i64 0)]):=oJ (by kernel_rfl) rfl
theorem gK:re Tryz.prog 9 1 16 (aT []):=oJ (by kernel_rfl) rfl
theorem vu:re Tryz.prog 95 7 80 (Value.agg #[(aT []),(Value.int .i64 0),(Value.int .i64 0),(Value.int .i64 0),(Value.int .i64 0),(Value.int .i64 0),(Value.slice none 0 0)]):=oJ (by kernel_rfl) rfl
theorem AR:eG Tryz.prog 100:=⟨_,Tryz.func100,by kernel_rfl,by kernel_rfl⟩
theorem AQ:eG Tryz.prog 101:=⟨_,Tryz.func101,by kernel_rfl,by kernel_rfl⟩
theorem AP:eG Tryz.prog 102:=⟨_,Tryz.func102,by kernel_rfl,by kernel_rfl⟩
theorem AO:eG Tryz.prog 104:=⟨_,Tryz.func104,by kernel_rfl,by kernel_rfl⟩
theorem wg:eG Tryz.prog 110:=⟨_,Tryz.func110,by kernel_rfl,by kernel_rfl⟩
theorem J6:eG Tryz.prog 111:=⟨_,Tryz.func111,by kernel_rfl,by kernel_rfl⟩
theorem J5:eG Tryz.prog 116:=⟨_,Tryz.func116,by kernel_rfl,by kernel_rfl⟩
theorem Lh:eG Tryz.prog 12:=⟨_,Tryz.func12,by kernel_rfl,by kernel_rfl⟩
theorem J4:eG Tryz.prog 125:=⟨_,Tryz.func125,by kernel_rfl,by kernel_rfl⟩
theorem J3:eG Tryz.prog 126:=⟨_,Tryz.func126,by kernel_rfl,by kernel_rfl⟩
theorem J2:eG Tryz.prog 128:=⟨_,Tryz.func128,by kernel_rfl,by kernel_rfl⟩
theorem G0:eG Tryz.prog 14:=⟨_,Tryz.func14,by kernel_rfl,by kernel_rfl⟩
theorem J1:eG Tryz.prog 140:=⟨_,Tryz.func140,by kernel_rfl,by kernel_rfl⟩
theorem GZ:eG Tryz.prog 142:=⟨_,Tryz.func142,by kernel_rfl,by kernel_rfl⟩
theorem J0:eG Tryz.prog 155:=⟨_,Tryz.func155,by kernel_rfl,by kernel_rfl⟩
theorem GY:eG Tryz.prog 157:=⟨_,Tryz.func157,by kernel_rfl,by kernel_rfl⟩
theorem JZ:eG Tryz.prog 158:=⟨_,Tryz.func158,by kernel_rfl,by kernel_rfl⟩
theorem Lg:eG Tryz.prog 17:=⟨_,Tryz.func17,by kernel_rfl,by kernel_rfl⟩
theorem JY:eG Tryz.prog 174:=⟨_,Tryz.func174,by kernel_rfl,by kernel_rfl⟩
theorem JX:eG Tryz.prog 176:=⟨_,Tryz.func176,by kernel_rfl,by kernel_rfl⟩
theorem JW:eG Tryz.prog 177:=⟨_,Tryz.func177,by kernel_rfl,by kernel_rfl⟩
theorem EF:eG Tryz.prog 18:=⟨_,Tryz.func18,by kernel_rfl,by kernel_rfl⟩
theorem GX:eG Tryz.prog 181:=⟨_,Tryz.func181,by kernel_rfl,by kernel_rfl⟩
theorem JV:eG Tryz.prog 184:=⟨_,Tryz.func184,by kernel_rfl,by kernel_rfl⟩
theorem JU:eG Tryz.prog 185:=⟨_,Tryz.func185,by kernel_rfl,by kernel_rfl⟩
theorem JT:eG Tryz.prog 190:=⟨_,Tryz.func190,by kernel_rfl,by kernel_rfl⟩
theorem GW:eG Tryz.prog 192:=⟨_,Tryz.func192,by kernel_rfl,by kernel_rfl⟩
theorem JS:eG Tryz.prog 193:=⟨_,Tryz.func193,by kernel_rfl,by kernel_rfl⟩
theorem JR:eG Tryz.prog 197:=⟨_,Tryz.func197,by kernel_rfl,by kernel_rfl⟩
theorem JQ:eG Tryz.prog 199:=⟨_,Tryz.func199,by kernel_rfl,by kernel_rfl⟩
theorem JP:eG Tryz.prog 200:=⟨_,Tryz.func200,by kernel_rfl,by kernel_rfl⟩
theorem JO:eG Tryz.prog 201:=⟨_,Tryz.func201,by kernel_rfl,by kernel_rfl⟩
theorem JN:eG Tryz.prog 203:=⟨_,Tryz.func203,by kernel_rfl,by kernel_rfl⟩
theorem JM:eG Tryz.prog 204:=⟨_,Tryz.func204,by kernel_rfl,by kernel_rfl⟩
theorem JL:eG Tryz.prog 208:=⟨_,Tryz.func208,by kernel_rfl,by kernel_rfl⟩
theorem GV:eG Tryz.prog 210:=⟨_,Tryz.func210,by kernel_rfl,by kernel_rfl⟩
theorem JK:eG Tryz.prog 212:=⟨_,Tryz.func212,by kernel_rfl,by kernel_rfl⟩
theorem JJ:eG Tryz.prog 213:=⟨_,Tryz.func213,by kernel_rfl,by kernel_rfl⟩
theorem JI:eG Tryz.prog 214:=⟨_,Tryz.func214,by kernel_rfl,by kernel_rfl⟩
theorem DG:eG Tryz.prog 218:=⟨_,Tryz.func218,by kernel_rfl,by kernel_rfl⟩
theorem Lf:eG Tryz.prog 22:=⟨_,Tryz.func22,by kernel_rfl,by kernel_rfl⟩
theorem JH:eG Tryz.prog 225:=⟨_,Tryz.func225,by kernel_rfl,by kernel_rfl⟩
theorem JG:eG Tryz.prog 227:=⟨_,Tryz.func227,by kernel_rfl,by kernel_rfl⟩
theorem JF:eG Tryz.prog 230:=⟨_,Tryz.func230,by kernel_rfl,by kernel_rfl⟩
theorem JE:eG Tryz.prog 231:=⟨_,Tryz.func231,by kernel_rfl,by kernel_rfl⟩
theorem JD:eG Tryz.prog 232:=⟨_,Tryz.func232,by kernel_rfl,by kernel_rfl⟩
theorem JC:eG Tryz.prog 233:=⟨_,Tryz.func233,by kernel_rfl,by kernel_rfl⟩
theorem JB:eG Tryz.prog 234:=⟨_,Tryz.func234,by kernel_rfl,by kernel_rfl⟩
theorem JA:eG Tryz.prog 235:=⟨_,Tryz.func235,by kernel_rfl,by kernel_rfl⟩
theorem Jz:eG Tryz.prog 242:=⟨_,Tryz.func242,by kernel_rfl,by kernel_rfl⟩
theorem AN:eG Tryz.prog 258:=⟨_,Tryz.func258,by kernel_rfl,by kernel_rfl⟩
theorem Jy:eG Tryz.prog 271:=⟨_,Tryz.func271,by kernel_rfl,by kernel_rfl⟩
theorem IY:eG Tryz.prog 30:=⟨_,Tryz.func30,by kernel_rfl,by kernel_rfl⟩
theorem IX:eG Tryz.prog 33:=⟨_,Tryz.func33,by kernel_rfl,by kernel_rfl⟩
theorem rj:eG Tryz.prog 34:=⟨_,Tryz.func34,by kernel_rfl,by kernel_rfl⟩
theorem IW:eG Tryz.prog 42:=⟨_,Tryz.func42,by kernel_rfl,by kernel_rfl⟩
theorem IV:eG Tryz.prog 49:=⟨_,Tryz.func49,by kernel_rfl,by kernel_rfl⟩
theorem Le:eG Tryz.prog 54:=⟨_,Tryz.func54,by kernel_rfl,by kernel_rfl⟩
theorem Ld:eG Tryz.prog 55:=⟨_,Tryz.func55,by kernel_rfl,by kernel_rfl⟩
theorem Lc:eG Tryz.prog 61:=⟨_,Tryz.func61,by kernel_rfl,by kernel_rfl⟩
theorem Lb:eG Tryz.prog 68:=⟨_,Tryz.func68,by kernel_rfl,by kernel_rfl⟩
theorem IU:eG Tryz.prog 69:=⟨_,Tryz.func69,by kernel_rfl,by kernel_rfl⟩
theorem wN:eG Tryz.prog 70:=⟨_,Tryz.func70,by kernel_rfl,by kernel_rfl⟩
theorem uw:eG Tryz.prog 71:=⟨_,Tryz.func71,by kernel_rfl,by kernel_rfl⟩
theorem GU:eG Tryz.prog 72:=⟨_,Tryz.func72,by kernel_rfl,by kernel_rfl⟩
theorem La:eG Tryz.prog 75:=⟨_,Tryz.func75,by kernel_rfl,by kernel_rfl⟩
theorem K9:eG Tryz.prog 82:=⟨_,Tryz.func82,by kernel_rfl,by kernel_rfl⟩
theorem wM:eG Tryz.prog 99:=⟨_,Tryz.func99,by kernel_rfl,by kernel_rfl⟩
theorem lR:(Tryz.prog.info? 100).map (·.size)=some 22:=by kernel_rfl
theorem vf:(Tryz.prog.info? 107).map (·.size)=some 3:=by kernel_rfl
theorem qh:(Tryz.prog.info? 132).map (·.size)=some 4:=by kernel_rfl
theorem Gv:(Tryz.prog.info? 2).map (·.size)=some 1:=by kernel_rfl
theorem Gu:(Tryz.prog.info? 204).map (·.size)=some 3:=by kernel_rfl
theorem Es:(Tryz.prog.info? 25).map (·.size)=some 1:=by kernel_rfl
theorem bt:(Tryz.prog.info? 27).map (·.size)=some 2:=by kernel_rfl
theorem ku:(Tryz.prog.info? 28).map (·.size)=some 1:=by kernel_rfl
theorem jP:(Tryz.prog.info? 3).map (·.size)=some 1:=by kernel_rfl
theorem oe:(Tryz.prog.info? 33).map (·.size)=some 2:=by kernel_rfl
theorem bX:(Tryz.prog.info? 35).map (·.size)=some 5:=by kernel_rfl
theorem ve:(Tryz.prog.info? 36).map (·.size)=some 1:=by kernel_rfl
theorem Ia:(Tryz.prog.info? 37).map (·.size)=some 1:=by kernel_rfl
theorem aS:(Tryz.prog.info? 39).map (·.size)=some 13:=by kernel_rfl
theorem tU:(Tryz.prog.info? 55).map (·.size)=some 5:=by kernel_rfl
theorem tT:(Tryz.prog.info? 64).map (·.size)=some 2:=by kernel_rfl
theorem aG:(Tryz.prog.info? 72).map (·.size)=some 5:=by kernel_rfl
theorem pO:(Tryz.prog.info? 9).map (·.size)=some 1:=by kernel_rfl
theorem Er:(Tryz.prog.info? 93).map (·.size)=some 1:=by kernel_rfl
theorem Ep:(Tryz.prog.info? 95).map (·.size)=some 7:=by kernel_rfl
theorem H9:(Tryz.prog.info? 98).map (·.size)=some 1:=by kernel_rfl
theorem F6:(Tryz.prog.info? 100).bind (·.zero)=some (Value.agg #[(aT []),(Value.int .i64 0),(Value.int .i64 0),(Value.int .i64 0),(Value.int .i64 0),(Value.int .i64 0),(Value.slice none 0 0),(Value.slice none 0 0),(Value.int .i64 0),(Value.int .i64 0),(aT []),(Value.int .i64 0),(Value.int .i64 0),(Value.int .i64 0),(Value.int .i64 0),(Value.int .i64 0),(Value.int .i64 0),(Value.int .i64 0),(Value.int .i64 0),(Value.slice none 0 0),(Value.slice none 0 0),(Value.slice none 0 0)]):=by kernel_rfl
theorem F5:(Tryz.prog.info? 107).bind (·.zero)=some (Value.agg #[(Value.int .i64 0),(Value.slice none 0 0),(Value.bool false)]):=by kernel_rfl
theorem F3:(Tryz.prog.info? 132).bind (·.zero)=some (Value.agg #[(Value.int .i64 0),(Value.slice none 0 0),(aT []),(Value.slice none 0 0)]):=by kernel_rfl
theorem mi:(Tryz.prog.info? 27).bind (·.zero)=some (Value.agg #[(Value.int .i64 0),(Value.slice none 0 0)]):=by kernel_rfl
theorem Eh:(Tryz.prog.info? 28).bind (·.zero)=some (Value.int .i64 0):=by kernel_rfl
theorem F2:(Tryz.prog.info? 3).bind (·.zero)=some (Value.int .i64 0):=by kernel_rfl
theorem rH:(Tryz.prog.info? 33).bind (·.zero)=some (Value.agg #[(Value.int .i64 0),(Value.int .i64 0)]):=by kernel_rfl
theorem HV:(Tryz.prog.info? 35).bind (·.zero)=some (Value.agg #[(Value.int .i64 0),(Value.int .i64 0),(Value.int .i64 0),(Value.int .i64 0),(Value.int .i64 0)]):=by kernel_rfl
theorem gA:(Tryz.prog.info? 39).bind (·.zero)=some (Value.agg #[(Value.int .i64 0),(aT []),(Value.int .i64 0),(Value.int .i64 0),(Value.int .i64 0),(Value.int .i64 0),(Value.int .i64 0),(Value.int .i64 0),(Value.int .i64 0),(Value.int .i64 0),(Value.slice none 0 0),(Value.slice none 0 0),(Value.slice none 0 0)]):=by kernel_rfl
theorem Ar:(Tryz.prog.info? 55).bind (·.zero)=some (Value.agg #[(Value.slice none 0 0),(Value.slice none 0 0),(Value.slice none 0 0),(Value.slice none 0 0),(Value.slice none 0 0)]):=by kernel_rfl
theorem HU:(Tryz.prog.info? 95).bind (·.zero)=some (Value.agg #[(aT []),(Value.int .i64 0),(Value.int .i64 0),(Value.int .i64 0),(Value.int .i64 0),(Value.int .i64 0),(Value.slice none 0 0)]):=by kernel_rfl
variable {σ:Type} {C0 F:NP} {w0:World} {a1 a2 a3 a4 a5 a6 a7 a8 a9 a10 a11 a12:Option Addr} {b1 b2 b3 b4 b5 b6 b7 b8 b9 b10 b11 b12 c1 c2 c3 c4 c5 c6 c7 c8 c9 c10 c11 c12:Nat}
theorem zA (hF:dK F w0) {c1:Int} (hc:AllCl [] F w0) {r:Bool} (h:pr c1=some r):CR F w0 94 #[(Value.int .u8 c1)] (vb r) []:=by
 refine EN Tryz.func94 Tryz.ntmps94 hF hc λhI=>?_
 rw[pr]at h
 exact RF
theorem vK (hF:dK F w0) {s1:List UInt8} {at1:Int} (hc:AllCl [] F w0) {r:Int} (h:m8 s1 at1=some r):CR F w0 46 #[(aT s1),vi at1] (vi r) []:=by
 refine EN Tryz.func46 Tryz.ntmps46 hF hc λhI=>?_
 rw[m8]at h
 refine T ?_
 refine al (T ?_)
 refine bs (α:=Nat×Int) (λx=>λw=>∃ C,Bun du F w0 C w [] []∧gG s1 (x.1) (x.2)=some r) (λx _=>x.1) (λx=>[(0,(aT s1)),(1,vi (x.2))]) (fu,at1) BH SB ?_
 clear h hI;rintro⟨fuel1,at2⟩ w1 ⟨c1,hI,h⟩
 dsimp only at hI h ⊢
 rcases fuel1 with _ | fuel1
 ·rw[gG]at h;cases h
 rw[gG]at h
 refine al (T ?_)
 refine TC (λhb h=>?_) λhb h=>?_
 ·refine T ?_
  obtain⟨b1,hx1,h⟩:=ae h
  refine sI ?_
  refine sB h (λ_ k=>zA hI.lt trivial k) (Rc Tryz.func94) λr1 w2 h hI=>?_
  refine TC (λhb h=>?_) λhb h=>?_
  ·refine T ?_
   refine aO ?_
   exact kl (fuel1,au (at2+1))
  refine T ?_
  obtain⟨b2,hx4,h⟩:=ae h
  refine sI ?_
  refine TC (λhb h=>?_) λhb h=>?_
  ·refine T ?_
   refine bs (α:=Nat×Int) (λx=>λw=>∃ C,Bun du F w0 C w [] []∧jj s1 (gG s1 fuel1) (x.1) (x.2)=some r) (λx _=>x.1) (λx=>[(0,(aT s1)),(1,vi (x.2))]) (fu,at2) BH SB ?_
   clear h hI;rintro⟨fuel2,at3⟩ w3 ⟨c2,hI,h⟩
   dsimp only at hI h ⊢
   rcases fuel2 with _ | fuel2
   ·rw[jj]at h;cases h
   rw[jj]at h
   refine al (T ?_)
   obtain⟨b3,hx5,h⟩:=ae h
   replace hx5:=ay hx5
   refine sJ ?_
   refine TC (λhb h=>?_) λhb h=>?_
   ·refine T ?_
    refine aO ?_
    exact kl (fuel2,au (at3+1))
   refine bv ?_
   refine fi ?_
   exact kl (fuel1,at3)
  exact RF
 refine bv ?_
 refine fi ?_
 refine bh ?_
 exact RF
theorem qq (hF:dK F w0) {c1:Int} (hc:AllCl [] F w0) {r:Bool} (h:mN c1=some r):CR F w0 95 #[(Value.int .u8 c1)] (vb r) []:=by
 refine EN Tryz.func95 Tryz.ntmps95 hF hc λhI=>?_
 rw[mN]at h
 exact RF
theorem uB (hF:dK F w0) {c1:Int} (hc:AllCl [] F w0) {r:Bool} (h:pq c1=some r):CR F w0 96 #[(Value.int .u8 c1)] (vb r) []:=by
 refine EN Tryz.func96 Tryz.ntmps96 hF hc λhI=>?_
 rw[pq]at h
 exact RF
theorem CW (hF:dK F w0) {s1:List UInt8} (hc:AllCl [] F w0) {r:Int×Int} (h:pD s1=some r):CR F w0 47 #[(aT s1)] (Value.tuple #[vi r.1,vi r.2]) []:=by
 refine EN Tryz.func47 Tryz.ntmps47 hF hc λhI=>?_
 rw[pD]at h
 refine T ?_
 refine al (T ?_)
 obtain⟨b1,hx1,h⟩:=ae h
 replace hx1:=ay hx1
 refine sJ ?_
 obtain⟨r1,hx2,h⟩:=ae h
 replace hx2:=ay hx2
 refine sU (λhc=>qq hI.lt trivial (hx2 hc)) (Rg Tryz.func95) λw1 hI=>?_
 refine T ?_
 obtain⟨b2,hx4,h⟩:=ae h
 replace hx4:=ay hx4
 refine sJ ?_
 obtain⟨r2,hx5,h⟩:=ae h
 replace hx5:=ay hx5
 refine sU (λhc=>uB hI.lt trivial (hx5 hc)) (Rg Tryz.func96) λw2 hI=>?_
 refine TR λhb h=>?_
 refine T ?_
 refine bM (α:=Int) (λ_=>⟨53,[]⟩) (λx=>[(0,(aT s1)),(4,vi x)]) (λx=>λw=>∃ C,Bun du F w0 C w [] []∧oy s1 x=some r) ?_ ?_
 ·clear h hI;rintro kind1 w3 ⟨c1,hI,h⟩
  try dsimp only at hI h ⊢
  rw[oy]at h
  refine T ?_
  refine al (T ?_)
  refine bs (α:=Nat×Int) (λx=>λw=>∃ C,Bun du F w0 C w [] []∧ib s1 kind1 (x.1) (x.2)=some r) (λx _=>x.1) (λx=>[(0,(aT s1)),(4,vi kind1),(5,vi (x.2))]) (fu,0) BH SB ?_
  clear h hI;rintro⟨fuel1,n1⟩ w4 ⟨c2,hI,h⟩
  dsimp only at hI h ⊢
  rcases fuel1 with _ | fuel1
  ·rw[ib]at h;cases h
  rw[ib]at h
  refine al (T ?_)
  obtain⟨b3,hx7,h⟩:=ae h
  replace hx7:=ay hx7
  refine sJ ?_
  obtain⟨r3,hx8,h⟩:=ae h
  replace hx8:=ay hx8
  refine sU (λhc=>uB hI.lt trivial (hx8 hc)) (Rg Tryz.func96) λw5 hI=>?_
  refine T ?_
  obtain⟨b4,hx10,h⟩:=ae h
  replace hx10:=ay hx10
  refine sJ ?_
  obtain⟨r4,hx11,h⟩:=ae h
  replace hx11:=ay hx11
  refine sU (λhc=>qq hI.lt trivial (hx11 hc)) (Rg Tryz.func95) λw6 hI=>?_
  refine T ?_
  obtain⟨b5,hx13,h⟩:=ae h
  replace hx13:=ay hx13
  refine sJ ?_
  refine TC (λhb h=>?_) λhb h=>?_
  ·refine T ?_
   refine aO ?_
   exact kl (fuel1,au (n1+1))
  refine bv ?_
  refine fi ?_
  refine bh ?_
  exact RF
 refine T ?_
 obtain⟨b6,hx14,h⟩:=ae h
 refine sI ?_
 refine sB h (λ_ k=>qq hI.lt trivial k) (Rc Tryz.func95) λr5 w7 h hI=>?_
 refine TC (λhb h=>?_) λhb h=>?_
 ·refine T ?_
  refine aO ?_
  exact kj 1
 exact bl (bu 2 SB BH rfl)
theorem xo (hF:dK F w0) (hc:AllCl [] F w0) {r:List (List UInt8)} (h:nS=some r):Cg 97 #[] w0 λe w=>∃ a1 c1,e= .returned (vs a1 r.length c1)∧Ext w0 w∧AllCl [LT bk a1 c1 r] F w:=by
 refine EN Tryz.func97 Tryz.ntmps97 hF hc λhI=>?_
 rw[nS]at h
 refine T ?_
 refine ll hI bk ([[60,61],[61,61],[40],[41],[91],[93],[123],[125],[44],[59],[58],[43],[45],[42],[47],[60],[61],[38],[124],[33],[46],[64]]:List (List UInt8)) gK Rr λb1 c2 w1 hI=>?_
 refine T ?_
 refine aF ?_
 obtain⟨c3,hI⟩:=hI.release .z
 obtain rfl:=ak h
 refine QG ?_
 exact⟨some ⟨b1,0,none⟩,22,rfl,hI.ext0,hI.fin ⟨.z,ah⟩⟩
theorem yQ (hF:dK F w0) {s1:List UInt8} (hc:AllCl [] F w0) {r:Int} (h:mM s1=some r):CR F w0 48 #[(aT s1)] (vi r) []:=by
 refine EN Tryz.func48 Tryz.ntmps48 hF hc λhI=>?_
 rw[mM]at h
 refine T ?_
 obtain⟨r1,hx1,h⟩:=ae h
 refine aw gn rfl (Rc Tryz.func97) (Calls.mono (xo hI.lt ah hx1) ?_)
 rintro _ w1 ⟨a1,c1,rfl,hx2,hl1⟩
 refine⟨_,rfl,?_⟩
 replace hI:=(hI.ext hx2).adds hl1;dsimp only[ca,na]at hI
 refine T ?_
 refine al (T ?_)
 refine bs (α:=Nat×Int) (λx=>λw=>∃ C,Bun du F w0 C w [] [LT bk a1 c1 r1]∧gi r1 s1 (x.1) (x.2)=some r) (λx _=>x.1) (λx=>[(0,(aT s1)),(3,vs a1 r1.length c1),(4,vi (x.2))]) (fu,0) BH SB ?_
 clear h hI;rintro⟨fuel1,i1⟩ w2 ⟨c2,hI,h⟩
 dsimp only at hI h ⊢
 rcases fuel1 with _ | fuel1
 ·rw[gi]at h;cases h
 rw[gi]at h
 refine al (T ?_)
 refine TC (λhb h=>?_) λhb h=>?_
 ·refine T ?_
  refine al (T ?_)
  refine al (aJ [] false (.c (0,.q) (.c (1,.q) (.c (2,.q) (.c (3,.q) (.c (4,.q) (.c (5,.q) (.c (6,.q) (.c (7,.q) (.c (8,.q) (.c (9,.q) (.c (10,.q) (.c (11,.q) (.c (12,.q) (.c (13,.q) (.c (14,.q) (.c (15,.q) (.c (16,.q) (.c (17,.q) (.c (18,.q) (.c (19,.q) (.c (20,.q) (.c (21,.q) .n)))))))))))))))))))))) hI (by kernel_rfl) (by kernel_rfl) ?_)
  intro w3 hI
  refine V ?_
  obtain⟨e1,hx3,h⟩:=ae h
  obtain⟨ad1,cs1,hA1,hr1,hq1⟩:=hI.clat .z hx3
  obtain rfl:cs1=[(aT e1)]:=hr1
  refine vI ?_
  refine V ?_
  obtain⟨e2,hx4,h⟩:=ae h
  replace hx4:=ay hx4
  obtain⟨ad2,cs2,hq2⟩:=hI.gclat .z hx4
  have hq3:(decide ((e1.length:Int)≤(s1.length:Int)))=true→CA (Dj F c2) w3 (ad2.add (Int.toNat i1 * 1)) [(aT e2)]:=λhc=>sW (hq2 hc).2.1 (hq2 hc).2.2
  refine vJ ?_
  refine V ?_
  obtain⟨s2,hx5,h⟩:=ae h
  replace hx5:=ay hx5
  refine vJ ?_
  refine V ?_
  obtain⟨e3,hx6,h⟩:=ae h
  replace hx6:=ay hx6
  obtain⟨ad3,cs3,hq4⟩:=hI.gclat .z hx6
  have hq5:(decide ((e1.length:Int)≤(s1.length:Int)))=true→CA (Dj F c2) w3 (ad3.add (Int.toNat i1 * 1)) [(aT e3)]:=λhc=>sW (hq4 hc).2.1 (hq4 hc).2.2
  refine vJ ?_
  refine V ?_
  refine TC (λhb h=>?_) λhb h=>?_
  ·refine T ?_
   obtain⟨e4,hx7,h⟩:=ae h
   obtain⟨ad4,cs4,hA4,hr4,hq6⟩:=hI.clat .z hx7
   obtain rfl:cs4=[(aT e4)]:=hr4
   refine sI ?_
   exact RF
  refine T ?_
  refine aO ?_
  exact kl (fuel1,au (i1+1))
 refine bv ?_
 refine fi ?_
 refine bh ?_
 exact RF
theorem rv (hF:dK F w0) {s1:List UInt8} (hc:AllCl [] F w0) {r:List bm×Int×Int} (h:jH s1=some r):Cg 22 #[(aT s1)] w0 λe w=>∃ a1 c1,e= .returned (Value.tuple #[vs a1 r.1.length c1,vi r.2.1,vi r.2.2])∧Ext w0 w∧AllCl [LT af a1 c1 r.1] F w:=by
 refine EN Tryz.func22 Tryz.ntmps22 hF hc λhI=>?_
 rw[jH]at h
 refine T ?_
 refine al (T ?_)
 refine TC (λhb h=>?_) λhb h=>?_
 ·refine T ?_
  refine aF ?_
  have hI:=hI.add (c:=LT af none 0 ([]:List bm)) SlC.nil
  obtain rfl:=ak h
  refine QG ?_
  exact⟨none,0,rfl,hI.ext0,hI.fin ⟨.z,ah⟩⟩
 refine T ?_
 refine al (T ?_)
 refine sB h (λ_ k=>vK hI.lt trivial k) (Rc Tryz.func46) λr1 w1 h hI=>?_
 refine T ?_
 have hI:=hI.nil af 62 none
 refine bs (α:=Nat×(List bm)×Int×(Option Addr)×Nat) (λx=>λw=>∃ C,Bun du F w0 C w [LV af 62 (x.2.2.2.1) (x.2.2.2.2) (x.2.1)] []∧di s1 (x.1) (x.2.1) (x.2.2.1)=some r) (λx _=>x.1) (λx=>[(0,(aT s1)),(5,vs (x.2.2.2.1) (x.2.1).length (x.2.2.2.2)),(6,vi (x.2.2.1))]) (fu,([]:List bm),r1,none,0) BH SB ?_
 clear h hI;rintro⟨fuel1,aN,at1,a2,c2⟩ w2 ⟨c3,hI,h⟩
 dsimp only at hI h ⊢
 rcases fuel1 with _ | fuel1
 ·rw[di]at h;cases h
 rw[di]at h
 refine al (T ?_)
 refine TC (λhb h=>?_) λhb h=>?_
 ·refine T ?_
  refine al (T ?_)
  obtain⟨s2,hx3,h⟩:=ae h
  refine sI ?_
  refine sB h (λ_ k=>CW hI.lt trivial k) (Rc Tryz.func47) λr2 w3 h hI=>?_
  refine T ?_
  refine bM (α:=Int×Int) (λ_=>⟨60,[]⟩) (λx=>[(0,(aT s1)),(5,vs a2 aN.length c2),(6,vi at1),(7,vi (x.1)),(8,vi (x.2))]) (λx=>λw=>∃ C,Bun du F w0 C w [LV af 62 a2 c2 aN] []∧io at1 s1 aN (di s1 fuel1) (x.1) (x.2)=some r) ?_ ?_
  ·clear h hI;rintro⟨n1,kind1⟩ w4 ⟨c4,hI,h⟩
   try dsimp only at hI h ⊢
   rw[io]at h
   refine al (T ?_)
   refine TC (λhb h=>?_) λhb h=>?_
   ·refine T ?_
    refine aF ?_
    have hI:=hI.add (c:=LT af none 0 ([]:List bm)) SlC.nil
    obtain rfl:=ak h
    refine QG ?_
    exact⟨none,0,rfl,hI.ext0,hI.fin ⟨.z,ah⟩⟩
   refine T ?_
   refine al (T ?_)
   refine TC (λhb h=>?_) λhb h=>?_
   ·refine T ?_
    refine aF ?_
    have hI:=hI.add (c:=LT af none 0 ([]:List bm)) SlC.nil
    obtain rfl:=ak h
    refine QG ?_
    exact⟨none,0,rfl,hI.ext0,hI.fin ⟨.z,ah⟩⟩
   refine T ?_
   obtain⟨s3,hx6,h⟩:=ae h
   refine sq (F7 rfl u9 et et et hx6) ?_
   refine sq (aC (vs:=[(0,vi kind1),(1,vi at1),(2,(aT s3))]) (cs:=#[vi kind1,vi at1,(aT s3)]) rfl ⟨rfl,et,rfl,et,rfl,et,ah⟩ (by kernel_rfl)) ?_
   refine ll hI af ([⟨kind1,at1,s3⟩]:List bm) xJ Rr λb1 c5 w5 hI=>?_
   obtain⟨zs1,hx7,h⟩:=ae h
   refine il (xs:=aN) (ys:=([⟨kind1,at1,s3⟩]:List bm)) hI .p1 (hI.rd .z) hx7 gn rfl rfl KV xJ rfl rfl et et ?_
   intro a3 c6 c7 w6 hI
   refine T ?_
   refine sB h (λ_ k=>vK hI.lt trivial k) (Rc Tryz.func46) λr3 w7 h hI=>?_
   refine sa ?_
   refine aO ?_
   exact kl (fuel1,zs1,r3,a3,c6)
  refine TC (λhb h=>?_) λhb h=>?_
  ·refine T ?_
   obtain⟨s4,hx10,h⟩:=ae h
   refine sI ?_
   refine sB h (λ_ k=>yQ hI.lt trivial k) (Rc Tryz.func48) λr4 w8 h hI=>?_
   refine T ?_
   refine aO ?_
   exact kj (r4,3)
  exact bl (bu (r2.1,r2.2) SB BH rfl)
 refine bv ?_
 refine fi ?_
 refine bh ?_
 refine T ?_
 refine aF ?_
 obtain⟨c8,hI⟩:=hI.release .z
 obtain rfl:=ak h
 refine QG ?_
 exact⟨a2,c2,rfl,hI.ext0,hI.fin ⟨.z,ah⟩⟩
theorem bW (hF:dK F w0) {r1:aa} {kind1:Int} {s1:List UInt8} (hc:AllCl [LT af a1 c1 r1.l,Cl.blk b1 67 (ai r1 a1 c1)] F w0) {r:Bool} (h:bi r1 kind1 s1=some r):CR F w0 121 #[vp b1 0,vi kind1,(aT s1)] (vb r) []:=by
 refine EN Tryz.func121 Tryz.ntmps121 hF hc λhI=>?_
 rw[bi]at h
 refine T ?_
 refine al (aJ [] false (.c (0,.q) (.c (1,.q) (.c (2,.q) (.c (3,.q) (.c (4,.q) (.c (5,.q) (.c (6,.q) (.c (7,.q) (.c (8,.q) (.c (9,.q) (.c (10,.q) (.c (11,.q) (.c (12,.q) (.c (13,.q) (.c (14,.q) (.c (15,.q) (.c (16,.q) (.c (17,.q) (.c (18,.q) (.c (19,.q) (.c (20,.q) (.c (21,.q) (.c (22,.q) (.c (23,.q) (.c (24,.q) (.c (25,.q) (.c (26,.q) (.c (27,.q) (.c (28,.q) (.c (29,.q) (.c (30,.q) (.c (31,.q) (.c (32,.q) (.c (33,.q) (.c (34,.q) (.c (35,.q) (.c (36,.q) (.c (37,.q) (.c (38,.q) (.c (39,.q) (.c (40,.q) .n))))))))))))))))))))))))))))))))))))))))) hI (by kernel_rfl) (by kernel_rfl) ?_)
 intro w1 hI
 refine V ?_
 obtain⟨e1,hx1,h⟩:=ae h
 replace hx1:=ay hx1
 obtain⟨ad1,cs1,hq1⟩:=hI.gclat .z hx1
 have hq2:(decide (r1.at_<(r1.l.length:Int)))=true→CA (Dj F du) w1 (ad1.add (Int.toNat r1.at_ * 3)) (jx e1):=λhc=>sW (hq1 hc).2.1 (hq1 hc).2.2
 refine vJ ?_
 refine V ?_
 obtain⟨e2,hx2,h⟩:=ae h
 replace hx2:=ay hx2
 obtain⟨ad2,cs2,hq3⟩:=hI.gclat .z hx2
 have hq4:((decide (r1.at_<(r1.l.length:Int)))&&(decide (e1.Kind=kind1)))=true→CA (Dj F du) w1 (ad2.add (Int.toNat r1.at_ * 3)) (jx e2):=λhc=>sW (hq3 hc).2.1 (hq3 hc).2.2
 refine vJ ?_
 refine V ?_
 exact RF
theorem qs (hF:dK F w0) {r1:Int} (hc:AllCl [] F w0) {r:Bool} (h:iU r1=some r):CR F w0 156 #[(Value.int .i32 r1)] (vb r) []:=by
 refine EN Tryz.func156 Tryz.ntmps156 hF hc λhI=>?_
 rw[iU]at h
 exact RF
theorem qf (hF:dK F w0) {s1:List UInt8} {ok1:(Int→Option Bool)} {fv1:Value} (hc:AllCl [ub fv1 ok1] F w0) {r:Int} (h:jv s1 ok1=some r):CR F w0 154 #[(aT s1),fv1] (vi r) []:=by
 refine EN Tryz.func154 Tryz.ntmps154 hF hc λhI=>?_
 rw[jv]at h
 refine T ?_
 refine al (T ?_)
 refine bs (α:=Nat×Int) (λx=>λw=>∃ C,Bun du F w0 C w [] [ub fv1 ok1]∧fN s1 ok1 (x.1) (x.2)=some r) (λx _=>x.1) (λx=>[(0,(aT s1)),(1,fv1),(5,vi (x.2))]) (fu,0) BH SB ?_
 clear h hI;rintro⟨fuel1,n1⟩ w1 ⟨c1,hI,h⟩
 dsimp only at hI h ⊢
 rcases fuel1 with _ | fuel1
 ·rw[fN]at h;cases h
 rw[fN]at h
 refine al (T ?_)
 obtain⟨b1,hx1,h⟩:=ae h
 replace hx1:=ay hx1
 refine sJ ?_
 refine T ?_
 obtain⟨r1,hx2,h⟩:=ae h
 replace hx2:=ay hx2
 refine Gy (u:=(vb r1)) (args:=[(Value.int .i32 (sY b1))]) (bg rfl rfl rfl rfl) rfl rfl (λhc=>(aU et hc)) (λhc=>⟨(aU et hc),ah⟩) (λhc=>CallV.mono ((hI.get .z).2 (Dj F c1) w1 (L0 .rfl') hI.lt (sY b1) r1 trivial (hx2 hc)) λ_ _ k=>⟨k.1,k.2.1⟩) ?_
 intro w2 hx3;replace hI:=hI.ext hx3
 refine TC (λhb h=>?_) λhb h=>?_
 ·refine T ?_
  refine aO ?_
  exact kl (fuel1,au (n1+1))
 refine bv ?_
 refine fi ?_
 refine bh ?_
 exact RF
theorem q8 (hF:dK F w0) {r1:Int} (hc:AllCl [] F w0) {r:Bool} (h:jC r1=some r):CR F w0 158 #[(Value.int .i32 r1)] (vb r) []:=by
 refine EN Tryz.func158 Tryz.ntmps158 hF hc λhI=>?_
 rw[jC]at h
 exact RF
theorem tJ (hF:dK F w0) {r1:Int} (hc:AllCl [] F w0) {r:Bool} (h:eS r1=some r):CR F w0 157 #[(Value.int .i32 r1)] (vb r) []:=by
 refine EN Tryz.func157 Tryz.ntmps157 hF hc λhI=>?_
 rw[eS]at h
 refine T ?_
 refine sB h (λ_ k=>qs hI.lt trivial k) (Rc Tryz.func156) λr2 w1 h hI=>?_
 refine T ?_
 obtain⟨r3,hx3,h⟩:=ae h
 replace hx3:=ay hx3
 refine sU (λhc=>q8 hI.lt trivial (hx3 hc)) (Rg Tryz.func158) λw2 hI=>?_
 exact RF
theorem wx (hF:dK F w0) (hc:AllCl [aA] F w0) {r:List (List UInt8)} (h:nj=some r):Cg 241 #[] w0 λe w=>∃ a1 c1,e= .returned (vs a1 r.length c1)∧Ext w0 w∧AllCl [LT bk a1 c1 r] F w:=by
 refine EN Tryz.func241 Tryz.ntmps241 hF hc λhI=>?_
 rw[nj]at h
 refine T ?_
 obtain⟨r1,hx1,h⟩:=ae h
 refine aw gn rfl (Rc Tryz.func247) (Calls.mono (ws (Dj F du) w0 hI.lt ([115,105,122,101,32,119,104,101,114,101,32,105,110,32,100,101,102,32,111,117,116,32,115,117,109,32,112,114,111,100,32,109,105,110,32,109,97,120,32,115,99,97,110,32,111,118,101,114,32,105,102,32,99,97,115,116,32,102,114,97,99,32,105,110,116,32,102,105,120,32,99,101,105,108,32,102,108,111,111,114,32,122,101,114,111,32,101,118,101,110,32,115,97,116,32,119,114,97,112]:List UInt8) ⟨(hI.get .z),ah⟩ r1 hx1) ?_)
 rintro _ w1 ⟨a2,c2,rfl,hx2,hl1⟩
 refine⟨_,rfl,?_⟩
 replace hI:=(hI.ext hx2).adds hl1;dsimp only[ca,na]at hI
 refine T ?_
 refine aF ?_
 obtain rfl:=ak h
 refine QG ?_
 exact⟨a2,c2,rfl,hI.ext0,hI.fin ⟨.z,ah⟩⟩
theorem pS (hF:dK F w0) {s1:List (List UInt8)} {v1:List UInt8} (hc:AllCl [LT bk a1 c1 s1] F w0) {r:Int} (h:gB s1 v1=some r):CR F w0 246 #[vs a1 s1.length c1,(aT v1)] (vi r) []:=by
 refine EN Tryz.func246 Tryz.ntmps246 hF hc λhI=>?_
 rw[gB]at h
 refine T ?_
 refine al (T ?_)
 refine bs (α:=Nat×Int) (λx=>λw=>∃ C,Bun du F w0 C w [] [LT bk a1 c1 s1]∧bA s1 v1 (x.1) (x.2)=some r) (λx _=>x.1) (λx=>[(0,vs a1 s1.length c1),(1,(aT v1)),(7,vi (s1.length:Int)),(8,vi (x.2))]) (fu,0) BH SB ?_
 clear h hI;rintro⟨fuel1,i1⟩ w1 ⟨c2,hI,h⟩
 dsimp only at hI h ⊢
 rcases fuel1 with _ | fuel1
 ·rw[bA]at h;cases h
 rw[bA]at h
 refine T ?_
 refine al (CU h et (λhb h=>?_) (λhb h=>?_))
 ·refine T ?_
  refine al (T ?_)
  obtain⟨e1,hx1,h⟩:=ae h
  obtain⟨ad1,cs1,hA1,hr1,hq1⟩:=hI.clat .z hx1
  obtain rfl:cs1=[(aT e1)]:=hr1
  refine sI ?_
  refine TR λhb h=>?_
  refine T ?_
  refine aO ?_
  exact kl (fuel1,au (i1+1))
 refine bv ?_
 refine fi ?_
 refine bh ?_
 exact RF
theorem oW (hF:dK F w0) {s1:List (List UInt8)} {v1:List UInt8} (hc:AllCl [LT bk a1 c1 s1] F w0) {r:Bool} (h:dL s1 v1=some r):CR F w0 240 #[vs a1 s1.length c1,(aT v1)] (vb r) []:=by
 refine EN Tryz.func240 Tryz.ntmps240 hF hc λhI=>?_
 rw[dL]at h
 refine T ?_
 refine sB h (λ_ k=>pS hI.lt FS k) (Rc Tryz.func246) λr1 w1 h hI=>?_
 exact RF
theorem vP (hF:dK F w0) {s1:List UInt8} (hc:AllCl [aA] F w0) {r:Bool} (h:kz s1=some r):CR F w0 222 #[(aT s1)] (vb r) []:=by
 refine EN Tryz.func222 Tryz.ntmps222 hF hc λhI=>?_
 rw[kz]at h
 refine T ?_
 obtain⟨r1,hx1,h⟩:=ae h
 refine aw gn rfl (Rc Tryz.func241) (Calls.mono (wx hI.lt FS hx1) ?_)
 rintro _ w1 ⟨a1,c1,rfl,hx2,hl1⟩
 refine⟨_,rfl,?_⟩
 replace hI:=(hI.ext hx2).adds hl1;dsimp only[ca,na]at hI
 refine sm ?_
 refine sB h (λ_ k=>oW hI.lt FS k) (Rc Tryz.func240) λr2 w2 h hI=>?_
 exact RF
theorem qt (hF:dK F w0) {s1:List UInt8} (hc:AllCl [aA] F w0) {r:Bool} (h:ig s1=some r):CR F w0 185 #[(aT s1)] (vb r) []:=by
 refine EN Tryz.func185 Tryz.ntmps185 hF hc λhI=>?_
 rw[ig]at h
 refine T ?_
 obtain⟨b1,hx1,h⟩:=ae h
 replace hx1:=ay hx1
 refine sJ ?_
 refine T ?_
 obtain⟨r1,hx2,h⟩:=ae h
 replace hx2:=ay hx2
 refine sU (λhc=>qs hI.lt trivial (hx2 hc)) (Rg Tryz.func156) λw1 hI=>?_
 refine T ?_
 have hI:=hI.add (c:=ub (Value.func (.func 157) #[] #[]) eS) ⟨rfl,λD' w' hs hl x_1 r k h=>CallV.fn (cap:=[]) GY (tJ hl ah h)⟩
 obtain⟨r2,hx4,h⟩:=ae h
 replace hx4:=ay hx4
 refine sU (λhc=>qf hI.lt FS (hx4 hc)) (Rg Tryz.func154) λw2 hI=>?_
 refine T ?_
 obtain⟨r3,hx6,h⟩:=ae h
 replace hx6:=ay hx6
 refine sU (λhc=>vP hI.lt FS (hx6 hc)) (Rg Tryz.func222) λw3 hI=>?_
 exact RF
theorem lO (hF:dK F w0) {r1:aa} (hc:AllCl [LT af a1 c1 r1.l,Cl.blk b1 67 (ai r1 a1 c1),aA] F w0) {r:Bool} (h:dz r1=some r):CR F w0 126 #[vp b1 0] (vb r) []:=by
 refine EN Tryz.func126 Tryz.ntmps126 hF hc λhI=>?_
 rw[dz]at h
 refine T ?_
 refine al (aJ [] false (.c (0,.q) (.c (1,.q) (.c (2,.q) (.c (3,.q) (.c (4,.q) (.c (5,.q) (.c (6,.q) (.c (7,.q) (.c (8,.q) (.c (9,.q) (.c (10,.q) (.c (11,.q) (.c (12,.q) (.c (13,.q) (.c (14,.q) (.c (15,.q) (.c (16,.q) (.c (17,.q) (.c (18,.q) (.c (19,.q) (.c (20,.q) (.c (21,.q) (.c (22,.q) (.c (23,.q) (.c (24,.q) (.c (25,.q) (.c (26,.q) (.c (27,.q) (.c (28,.q) (.c (29,.q) (.c (30,.q) (.c (31,.q) (.c (32,.q) (.c (33,.q) (.c (34,.q) (.c (35,.q) (.c (36,.s) (.c (37,.q) (.c (38,.q) .n))))))))))))))))))))))))))))))))))))))) hI (by kernel_rfl) (by kernel_rfl) ?_)
 intro w1 hI
 refine V ?_
 obtain⟨e1,hx1,h⟩:=ae h
 replace hx1:=ay hx1
 obtain⟨ad1,cs1,hq1⟩:=hI.gclat .z hx1
 have hq2:(decide (r1.at_<(r1.l.length:Int)))=true→CA (Dj F du) w1 (ad1.add (Int.toNat r1.at_ * 3)) (jx e1):=λhc=>sW (hq1 hc).2.1 (hq1 hc).2.2
 refine vJ ?_
 refine V ?_
 obtain⟨e2,hx2,h⟩:=ae h
 replace hx2:=ay hx2
 obtain⟨ad2,cs2,hq3⟩:=hI.gclat .z hx2
 have hq4:((decide (r1.at_<(r1.l.length:Int)))&&(decide (e1.Kind=1)))=true→CA (Dj F du) w1 (ad2.add (Int.toNat r1.at_ * 3)) (jx e2):=λhc=>sW (hq3 hc).2.1 (hq3 hc).2.2
 refine vJ ?_
 refine V ?_
 obtain⟨r2,hx3,h⟩:=ae h
 replace hx3:=ay hx3
 refine lj (v:=(vb r2)) rfl (bg rfl rfl rfl rfl) rfl (λhc=>(aD (vs:=[(aT e2.Text)]) rfl JU ⟨(aU et hc),ah⟩)) (λhc=>(qt hI.lt FS (hx3 hc)).mono λ_ _ k=>⟨k.1,k.2.1⟩) ?_
 intro w2 hx4;replace hI:=hI.ext hx4
 refine V ?_
 exact RF
theorem aZ (hF:dK F w0) {r1:aa} {at1 e1:Int} (hc:AllCl [LT af a1 c1 r1.l,Cl.blk b1 67 (ai r1 a1 c1)] F w0) {r:bL Unit} (h:bP r1 at1 e1=some r):Cg 71 #[vp b1 0,vi at1,vi e1] w0 λe w=>(∃ rx:Unit,r= .ret rx∧e= .returned (Value.tuple #[])∧Ext w0 w∧AllCl [] F w)∨∃ (pa pn:Int),r= .pan pa pn∧e= .panicked [pe 114 pa pn]∧Ext w0 w:=by
 refine fJ (l:=[vp b1 0,vi at1,vi e1]) Tryz.func71 rfl Tryz.ntmps71 rfl ?_
 have hI:=Bun.start hF hc
 clear hc
 rw[bP]at h
 refine T ?_
 refine sq (aC (vs:=[(0,vi at1),(1,vi e1)]) (cs:=#[vi at1,vi e1]) rfl ⟨rfl,et,rfl,et,ah⟩ (by kernel_rfl)) ?_
 refine sq (BV rfl u114 rfl et) ?_
 obtain rfl:=ak h
 exact Ic gn rfl et (gc (.inr ⟨_,_,rfl,rfl,hI.ext0⟩))
theorem yR (hF:dK F w0) {s1:List UInt8} (hc:AllCl [] F w0) {r:Bool} (h:mR s1=some r):CR F w0 221 #[(aT s1)] (vb r) []:=by
 refine EN Tryz.func221 Tryz.ntmps221 hF hc λhI=>?_
 rw[mR]at h
 refine T ?_
 refine al (T ?_)
 refine al (T ?_)
 refine TC (λhb h=>?_) λhb h=>?_
 ·refine TR λhb h=>?_
  exact RF
 refine TC (λhb h=>?_) λhb h=>?_
 ·refine TR λhb h=>?_
  exact RF
 refine TC (λhb h=>?_) λhb h=>?_
 ·refine TR λhb h=>?_
  exact RF
 refine TC (λhb h=>?_) λhb h=>?_
 ·refine TR λhb h=>?_
  exact RF
 refine TC (λhb h=>?_) λhb h=>?_
 ·refine TR λhb h=>?_
  exact RF
 refine TC (λhb h=>?_) λhb h=>?_
 ·refine TR λhb h=>?_
  exact RF
 refine TC (λhb h=>?_) λhb h=>?_
 ·refine TR λhb h=>?_
  exact RF
 refine TC (λhb h=>?_) λhb h=>?_
 ·refine TR λhb h=>?_
  exact RF
 refine TC (λhb h=>?_) λhb h=>?_
 ·refine TR λhb h=>?_
  exact RF
 refine TC (λhb h=>?_) λhb h=>?_
 ·refine TR λhb h=>?_
  exact RF
 refine TC (λhb h=>?_) λhb h=>?_
 ·refine TR λhb h=>?_
  exact RF
 refine TC (λhb h=>?_) λhb h=>?_
 ·refine TR λhb h=>?_
  exact RF
 refine TC (λhb h=>?_) λhb h=>?_
 ·refine TR λhb h=>?_
  exact RF
 refine TC (λhb h=>?_) λhb h=>?_
 ·refine TR λhb h=>?_
  exact RF
 refine TC (λhb h=>?_) λhb h=>?_
 ·refine TR λhb h=>?_
  exact RF
 refine TC (λhb h=>?_) λhb h=>?_
 ·refine TR λhb h=>?_
  exact RF
 refine TC (λhb h=>?_) λhb h=>?_
 ·refine TR λhb h=>?_
  exact RF
 refine TC (λhb h=>?_) λhb h=>?_
 ·refine TR λhb h=>?_
  exact RF
 refine TC (λhb h=>?_) λhb h=>?_
 ·refine TR λhb h=>?_
  exact RF
 refine TC (λhb h=>?_) λhb h=>?_
 ·refine TR λhb h=>?_
  exact RF
 refine TC (λhb h=>?_) λhb h=>?_
 ·refine TR λhb h=>?_
  exact RF
 refine TR λhb h=>?_
 exact RF
theorem rC (hF:dK F w0) {s1:List UInt8} (hc:AllCl [] F w0) {r:Bool} (h:jM s1=some r):CR F w0 184 #[(aT s1)] (vb r) []:=by
 refine EN Tryz.func184 Tryz.ntmps184 hF hc λhI=>?_
 rw[jM]at h
 refine T ?_
 refine al (T ?_)
 obtain⟨r1,hx1,h⟩:=ae h
 replace hx1:=ay hx1
 refine sU (λhc=>yR hI.lt trivial (hx1 hc)) (Rg Tryz.func221) λw1 hI=>?_
 refine T ?_
 obtain⟨b1,hx3,h⟩:=ae h
 replace hx3:=ay hx3
 refine sJ ?_
 refine T ?_
 obtain⟨b2,hx4,h⟩:=ae h
 replace hx4:=ay hx4
 refine sJ ?_
 refine TR λhb h=>?_
 refine T ?_
 refine al (T ?_)
 refine bs (α:=Nat×Int) (λx=>λw=>∃ C,Bun du F w0 C w [] []∧dS s1 (x.1) (x.2)=some r) (λx _=>x.1) (λx=>[(0,(aT s1)),(28,vi (s1.length:Int)),(29,vi (x.2))]) (fu,0) BH SB ?_
 clear h hI;rintro⟨fuel1,i1⟩ w2 ⟨c1,hI,h⟩
 dsimp only at hI h ⊢
 rcases fuel1 with _ | fuel1
 ·rw[dS]at h;cases h
 rw[dS]at h
 refine T ?_
 refine al (CU h et (λhb h=>?_) (λhb h=>?_))
 ·refine T ?_
  refine al (T ?_)
  obtain⟨b3,hx5,h⟩:=ae h
  refine sI ?_
  refine TR λhb h=>?_
  refine T ?_
  refine aO ?_
  exact kl (fuel1,au (i1+1))
 refine bv ?_
 refine fi ?_
 refine bh ?_
 exact RF
theorem Aj (hF:dK F w0) {name1:List UInt8} (hc:AllCl [] F w0) {r:GLin} (h:nh name1=some r):Cg 127 #[(aT name1)] w0 λe w=>∃ a1 c1,e= .returned (Value.agg (cx r a1 c1))∧Ext w0 w∧AllCl [LT aj a1 c1 r.L] F w:=by
 refine EN Tryz.func127 Tryz.ntmps127 hF hc λhI=>?_
 rw[nh]at h
 refine sr (dl (cs:=#[vi 0,vs none 0 0]) hI gn rfl rfl mi rfl ?_)
 intro b1 c2 w1 hI
 refine nk (al (T ?_))
 refine sB h (λ_ k=>rC hI.lt trivial k) (Rc Tryz.func184) λr1 w2 h hI=>?_
 refine TC (λhb h=>?_) λhb h=>?_
 ·refine sr (sq (aC (vs:=[]) (cs:=#[vi 0,vs none 0 0]) rfl trivial (by kernel_rfl)) ?_)
  refine lA λc3 w3 hI=>?_
  refine nk (aF ?_)
  have hI:=hI.add (c:=LT aj none 0 ([]:List GMono)) SlC.nil
  obtain rfl:=ak h
  refine QG ?_
  exact⟨none,0,rfl,hI.ext0,hI.fin ⟨.z,ah⟩⟩
 refine T ?_
 refine sq (aC (vs:=[(0,(aT name1)),(1,vi 1)]) (cs:=#[(aT name1),vi 1]) rfl ⟨rfl,et,rfl,ao,ah⟩ (by kernel_rfl)) ?_
 refine ll hI aj ([⟨name1,1⟩]:List GMono) oK Rr λb2 c4 w4 hI=>?_
 refine sq (aC (vs:=[(1,(vs (some ⟨b2,0,none⟩) ([⟨name1,1⟩]:List GMono).length 1))]) (cs:=#[vi 0,(vs (some ⟨b2,0,none⟩) ([⟨name1,1⟩]:List GMono).length 1)]) rfl ⟨rfl,et,ah⟩ (by kernel_rfl)) ?_
 refine lA λc5 w5 hI=>?_
 refine nk (aF ?_)
 obtain⟨c6,hI⟩:=hI.release .z
 obtain rfl:=ak h
 refine QG ?_
 exact⟨some ⟨b2,0,none⟩,1,rfl,hI.ext0,hI.fin ⟨.z,ah⟩⟩
theorem oO (hF:dK F w0) {l1:GLin} (hc:AllCl [LT aj a1 c1 l1.L] F w0) {r:Int} (h:iT l1=some r):CR F w0 122 #[(Value.agg (cx l1 a1 c1))] (vi r) []:=by
 refine EN Tryz.func122 Tryz.ntmps122 hF hc λhI=>?_
 rw[iT]at h
 refine sr (lX λb1 c3 w1 hI=>?_)
 refine T ?_
 refine al (T ?_)
 refine bs (α:=Nat×Int) (λx=>λw=>∃ C,Bun du F w0 C w [] [Cl.blk b1 27 (cx l1 a1 c1),LT aj a1 c1 l1.L]∧d8 l1 (x.1) (x.2)=some r) (λx _=>x.1) (λx=>[(1,vp b1 0),(6,vs a1 l1.L.length c1),(7,vi (l1.L.length:Int)),(8,vi (x.2))]) (fu,0) BH SB ?_
 clear h hI;rintro⟨fuel1,i1⟩ w2 ⟨c4,hI,h⟩
 dsimp only at hI h ⊢
 rcases fuel1 with _ | fuel1
 ·rw[d8]at h;cases h
 rw[d8]at h
 refine T ?_
 refine al (CU h et (λhb h=>?_) (λhb h=>?_))
 ·refine T ?_
  refine al (T ?_)
  obtain⟨e1,hx1,h⟩:=ae h
  obtain⟨ad1,cs1,hA1,hr1,hq1⟩:=hI.clat .p1 hx1
  obtain rfl:cs1=(lk e1):=hr1
  refine sI ?_
  refine T ?_
  refine lN λb2 c5 w3 hI=>?_
  refine sa ?_
  refine lA λc6 w4 hI=>?_
  refine nk (al (aJ [] false (.c (0,.q) (.c (1,.q) (.c (2,.s) (.c (3,.q) (.c (4,.q) (.c (5,.q) (.c (6,.q) (.c (7,.q) (.c (8,.q) (.c (9,.q) (.c (10,.q) (.c (11,.q) (.c (12,.q) (.c (13,.q) (.c (14,.q) (.c (15,.q) (.c (16,.q) (.c (17,.q) (.c (18,.q) (.c (19,.q) (.c (20,.q) (.c (21,.q) (.c (22,.q) (.c (23,.q) (.c (24,.q) .n))))))))))))))))))))))))) hI (by kernel_rfl) (by kernel_rfl) ?_))
  intro w5 hI
  refine V ?_
  obtain⟨r1,hx2,h⟩:=ae h
  refine dk rfl gn rfl (aD (vs:=[(aT e1.Name)]) rfl JV ⟨et,ah⟩) (Calls.mono (rC hI.lt ah hx2) ?_)
  rintro _ w6 ⟨rfl,hx3,hl1⟩
  refine⟨_,rfl,hx3,?_⟩
  replace hI:=(hI.ext hx3)
  refine V ?_
  obtain⟨e2,hx4,h⟩:=ae h
  replace hx4:=ay hx4
  obtain⟨ad2,cs2,hq2⟩:=hI.gclat .p1 hx4
  have hq3:((!((!r1)||(decide (e1.By=0))))&&(decide (0<i1)))=true→CA (Dj F c6) w6 (ad2.add (Int.toNat (au (i1 - 1)) * 2)) (lk e2):=λhc=>sW (hq2 hc).2.1 (hq2 hc).2.2
  refine vJ ?_
  refine V ?_
  refine TR λhb h=>?_
  refine T ?_
  refine aO ?_
  exact kl (fuel1,au (i1+1))
 refine bv ?_
 refine fi ?_
 refine bh ?_
 exact RF
theorem sH (hF:dK F w0) {n1:Int} (hc:AllCl [] F w0) {r:Int} (h:j9 n1=some r):CR F w0 224 #[vi n1] (Value.int .u64 r) []:=by
 refine EN Tryz.func224 Tryz.ntmps224 hF hc λhI=>?_
 rw[j9]at h
 refine T ?_
 refine al (T ?_)
 refine TR λhb h=>?_
 exact RF
theorem zH (hF:dK F w0) {a1 b1:Int} (hc:AllCl [] F w0) {r:Int×Int} (h:nN a1 b1=some r):CR F w0 223 #[(Value.int .u64 a1),(Value.int .u64 b1)] (Value.tuple #[(Value.int .u64 r.1),(Value.int .u64 r.2)]) []:=by
 refine EN Tryz.func223 Tryz.ntmps223 hF hc λhI=>?_
 rw[nN]at h
 refine sr (tV ?_)
 refine tV ?_
 refine nk (sr (sm ?_))
 refine sq (xM rfl et ao rfl) ?_
 refine sm ?_
 refine sq (xM rfl et ao rfl) ?_
 refine sq (wF rfl et et) ?_
 obtain⟨low1,hx1,h⟩:=ae h
 refine sq (va (cP rfl et) (congrArg (Value.int .u64) (ak hx1))) ?_
 refine nk (sr (sm ?_))
 refine sq (uH (s:=32) rfl et ao (by decide) rfl) ?_
 refine sm ?_
 refine sq (xM rfl et ao rfl) ?_
 refine sq (wF rfl et et) ?_
 refine sm ?_
 refine sq (uH (s:=32) rfl et ao (by decide) rfl) ?_
 refine sq (sv rfl et et) ?_
 obtain⟨mid1,hx2,h⟩:=ae h
 refine sq (va (cP rfl et) (congrArg (Value.int .u64) (ak hx2))) ?_
 refine nk (sr (sm ?_))
 refine sq (xM rfl et ao rfl) ?_
 refine sm ?_
 refine sq (uH (s:=32) rfl et ao (by decide) rfl) ?_
 refine sq (wF rfl et et) ?_
 refine sm ?_
 refine sq (xM rfl et ao rfl) ?_
 refine sq (sv rfl et et) ?_
 obtain⟨cross1,hx3,h⟩:=ae h
 refine sq (va (cP rfl et) (congrArg (Value.int .u64) (ak hx3))) ?_
 refine aO ?_
 refine pc (e:=[(0,(Value.int .u64 a1)),(1,(Value.int .u64 b1)),(7,(Value.int .u64 mid1)),(8,(Value.int .u64 cross1))]) SB ?_
 refine sr (sm ?_)
 refine sq (uH (s:=32) rfl et ao (by decide) rfl) ?_
 refine sm ?_
 refine sq (uH (s:=32) rfl et ao (by decide) rfl) ?_
 refine sq (wF rfl et et) ?_
 refine sm ?_
 refine sq (uH (s:=32) rfl et ao (by decide) rfl) ?_
 refine sq (sv rfl et et) ?_
 refine sm ?_
 refine sq (uH (s:=32) rfl et ao (by decide) rfl) ?_
 refine sq (sv rfl et et) ?_
 refine sm ?_
 refine sm ?_
 refine sq (wF rfl et et) ?_
 obtain⟨hi1,hx4,h⟩:=ae h
 refine sq (va (cP rfl et) (congrArg (Value.int .u64) (ak hx4))) ?_
 exact RF
theorem wT (hF:dK F w0) {a1 b1:Int} (hc:AllCl [] F w0) {r:Int×Bool} (h:n6 a1 b1=some r):CR F w0 186 #[vi a1,vi b1] (Value.tuple #[vi r.1,vb r.2]) []:=by
 refine EN Tryz.func186 Tryz.ntmps186 hF hc λhI=>?_
 rw[n6]at h
 refine T ?_
 refine sB h (λ_ k=>sH hI.lt trivial k) (Rc Tryz.func224) λr1 w1 h hI=>?_
 refine sm ?_
 refine sB h (λ_ k=>sH hI.lt trivial k) (Rc Tryz.func224) λr2 w2 h hI=>?_
 refine sB h (λ_ k=>zH hI.lt trivial k) (Rc Tryz.func223) λr3 w3 h hI=>?_
 refine sm ?_
 refine sq (fO rfl et rfl) ?_
 refine sq (fO rfl et rfl) ?_
 refine sa ?_
 refine sa ?_
 refine nk (sr (sm ?_))
 refine sq (sX rfl et ao) ?_
 refine sm ?_
 refine sq (sX rfl et ao) ?_
 refine sq (Gb rfl u4 et et) ?_
 obtain⟨negative1,hx7,h⟩:=ae h
 refine sq (va (cP rfl et) (congrArg Value.bool (ak hx7))) ?_
 refine nk (al (T ?_))
 refine TR λhb h=>?_
 refine TR λhb h=>?_
 exact RF
theorem wU (hF:dK F w0) {a1:GLin} {by1:Int} (hc:AllCl [LT aj a2 c1 a1.L] F w0) {r:GLin×Int} (h:jB a1 by1=some r):Cg 129 #[(Value.agg (cx a1 a2 c1)),vi by1] w0 λe w=>∃ a3 c2,e= .returned (Value.tuple #[(Value.agg (cx r.1 a3 c2)),vi r.2])∧Ext w0 w∧AllCl [LT aj a3 c2 r.1.L] F w:=by
 refine EN Tryz.func129 Tryz.ntmps129 hF hc λhI=>?_
 rw[jB]at h
 refine sr (lX λb1 c4 w1 hI=>?_)
 refine lN λb2 c5 w2 hI=>?_
 refine T ?_
 refine al (sr (sq (am (l:=(fI a1 a2 c1)) rfl et pk rfl bt (hI.kblk (l:=(fI a1 a2 c1)) .z rfl).1) ?_))
 refine sB h (λ_ k=>oO hI.lt FS k) (Rc Tryz.func122) λr1 w3 h hI=>?_
 refine TC (λhb h=>?_) λhb h=>?_
 ·refine sr (sq (aC (vs:=[]) (cs:=#[vi 0,vs none 0 0]) rfl trivial (by kernel_rfl)) ?_)
  refine lA λc6 w4 hI=>?_
  refine T ?_
  refine aF ?_
  have hI:=hI.add (c:=LT aj none 0 ([]:List GMono)) SlC.nil
  obtain rfl:=ak h
  refine QG ?_
  exact⟨none,0,rfl,hI.ext0,hI.fin ⟨.z,ah⟩⟩
 refine T ?_
 refine al (T ?_)
 refine TC (λhb h=>?_) λhb h=>?_
 ·refine sr (sq (aC (vs:=[]) (cs:=#[vi 0,vs none 0 0]) rfl trivial (by kernel_rfl)) ?_)
  refine lA λc7 w5 hI=>?_
  refine T ?_
  refine aF ?_
  have hI:=hI.add (c:=LT aj none 0 ([]:List GMono)) SlC.nil
  obtain rfl:=ak h
  refine QG ?_
  exact⟨none,0,rfl,hI.ext0,hI.fin ⟨.z,ah⟩⟩
 refine T ?_
 refine sB h (λ_ k=>wT hI.lt trivial k) (Rc Tryz.func186) λr2 w6 h hI=>?_
 refine T ?_
 refine sq (aC (vs:=[(0,vi r2.1)]) (cs:=#[vi r2.1,vs none 0 0]) rfl ⟨rfl,et,ah⟩ (by kernel_rfl)) ?_
 refine lN λb3 c8 w7 hI=>?_
 refine lA λc9 w8 hI=>?_
 refine nk (bM (α:=Bool×GLin×(Option Addr)×Nat) (λ_=>⟨61,[]⟩) (λx=>[(4,vp b2 0),(7,vb (x.1)),(8,vp b3 0)]) (λx=>λw=>∃ C,Bun du F w0 C w [LV aj 64 (x.2.2.1) (x.2.2.2) (x.2.1).L,MO.box b2 27 #[vi 0,vs none 0 0],MO.box b3 27 (cx (x.2.1) (x.2.2.1) (x.2.2.2))] []∧oA (x.1) (x.2.1)=some r) ?_ ?_)
 ·clear h hI;rintro⟨fits1,aN,a4,c10⟩ w9 ⟨c11,hI,h⟩
  try dsimp only at hI h ⊢
  rw[oA]at h
  refine al (T ?_)
  refine TC (λhb h=>?_) λhb h=>?_
  ·refine sr (sq (aC (vs:=[]) (cs:=#[vi 0,vs none 0 0]) rfl trivial (by kernel_rfl)) ?_)
   refine lA λc12 w10 hI=>?_
   refine T ?_
   refine aF ?_
   have hI:=hI.add (c:=LT aj none 0 ([]:List GMono)) SlC.nil
   obtain rfl:=ak h
   refine QG ?_
   exact⟨none,0,rfl,hI.ext0,hI.fin ⟨.z,ah⟩⟩
  refine T ?_
  refine lA λc13 w11 hI=>?_
  refine T ?_
  refine aF ?_
  obtain⟨c14,hI⟩:=hI.release .z
  obtain rfl:=ak h
  refine QG ?_
  exact⟨a4,c10,rfl,hI.ext0,hI.fin ⟨.z,ah⟩⟩
 refine T ?_
 have hI:=hI.nil aj 64 none
 refine bs (α:=Nat×Bool×Int×GLin×(Option Addr)×Nat) (λx=>λw=>∃ C,Bun du F w0 C w [LV aj 64 (x.2.2.2.2.1) (x.2.2.2.2.2) (x.2.2.2.1).L,MO.box b2 27 #[vi 0,vs none 0 0],MO.box b3 27 (cx (x.2.2.2.1) (x.2.2.2.2.1) (x.2.2.2.2.2))] [LT aj a2 c1 a1.L]∧ie a1 by1 (x.1) (x.2.1) (x.2.2.1) (x.2.2.2.1)=some r) (λx _=>x.1) (λx=>[(1,vi by1),(4,vp b2 0),(7,vb (x.2.1)),(8,vp b3 0),(30,vs a2 a1.L.length c1),(31,vi (a1.L.length:Int)),(32,vi (x.2.2.1))]) (fu,r2.2,0,(⟨r2.1,[]⟩:GLin),none,0) ⟨_,hI.arr (.c .z (.c .p1 (.c .z .n))) ⟨.p1,ah⟩,h⟩ SB ?_
 clear h hI;rintro⟨fuel1,fits2,i1,out2,a5,c15⟩ w12 ⟨c16,hI,h⟩
 dsimp only at hI h ⊢
 rcases fuel1 with _ | fuel1
 ·rw[ie]at h;cases h
 rw[ie]at h
 refine T ?_
 refine al (CU h et (λhb h=>?_) (λhb h=>?_))
 ·refine T ?_
  refine al (T ?_)
  obtain⟨e1,hx5,h⟩:=ae h
  obtain⟨ad1,cs1,hA1,hr1,hq1⟩:=hI.clat .z hx5
  obtain rfl:cs1=(lk e1):=hr1
  refine sI ?_
  refine T ?_
  refine lN λb4 c17 w13 hI=>?_
  refine lA λc18 w14 hI=>?_
  refine T ?_
  refine sB h (λ_ k=>wT hI.lt trivial k) (Rc Tryz.func186) λr3 w15 h hI=>?_
  refine T ?_
  refine sq (aC (vs:=[(0,(aT e1.Name)),(1,vi r3.1)]) (cs:=#[(aT e1.Name),vi r3.1]) rfl ⟨rfl,et,rfl,et,ah⟩ (by kernel_rfl)) ?_
  refine ll hI aj ([⟨e1.Name,r3.1⟩]:List GMono) oK Rr λb5 c19 w16 hI=>?_
  obtain⟨zs1,hx8,h⟩:=ae h
  refine il (xs:=out2.L) (ys:=([⟨e1.Name,r3.1⟩]:List GMono)) hI .p2 (hI.rd .z) hx8 gn rfl rfl E9 oK rfl rfl et et ?_
  intro a6 c20 c21 w17 hI
  refine T ?_
  refine lS λc22 w18 hI=>?_
  refine T ?_
  refine aO ?_
  exact ny (fuel1,fits2&&r3.2,au (i1+1),(⟨out2.K,zs1⟩:GLin),a6,c20) SB ⟨_,hI.arr GO SU,h⟩ (Nat.lt_succ_self _)
 refine bv ?_
 refine fi ?_
 exact bu (fits2,out2,a5,c15) SB ⟨_,hI.arr GO SU,h⟩ rfl
theorem ww (hF:dK F w0) {s1:List UInt8} (hc:AllCl [] F w0) {r:Bool} (h:nb s1=some r):CR F w0 225 #[(aT s1)] (vb r) []:=by
 refine EN Tryz.func225 Tryz.ntmps225 hF hc λhI=>?_
 rw[nb]at h
 refine T ?_
 refine bM (α:=Unit) (λ_=>⟨31,[]⟩) (λ_=>[(0,(aT s1))]) (λ_=>λw=>∃ C,Bun du F w0 C w [] []∧jq s1=some r) ?_ ?_
 ·clear h hI;rintro _ w1 ⟨c1,hI,h⟩
  try dsimp only at hI h ⊢
  rw[jq]at h
  refine T ?_
  obtain⟨b1,hx1,h⟩:=ae h
  replace hx1:=ay hx1
  refine sJ ?_
  exact RF
 refine T ?_
 refine bs (α:=Nat×Int) (λx=>λw=>∃ C,Bun du F w0 C w [] []∧fe s1 (x.1) (x.2)=some r) (λx _=>x.1) (λx=>[(0,(aT s1)),(5,vi (s1.length:Int)),(6,vi (x.2))]) (fu,0) BH SB ?_
 clear h hI;rintro⟨fuel1,i1⟩ w2 ⟨c2,hI,h⟩
 dsimp only at hI h ⊢
 rcases fuel1 with _ | fuel1
 ·rw[fe]at h;cases h
 rw[fe]at h
 refine T ?_
 refine al (CU h et (λhb h=>?_) (λhb h=>?_))
 ·refine T ?_
  refine al (T ?_)
  obtain⟨b2,hx2,h⟩:=ae h
  refine sI ?_
  refine T ?_
  obtain⟨b3,hx3,h⟩:=ae h
  replace hx3:=ay hx3
  refine sJ ?_
  refine TR λhb h=>?_
  refine T ?_
  refine aO ?_
  exact kl (fuel1,au (i1+1))
 refine bv ?_
 refine fi ?_
 exact kj ()
theorem qV (hF:dK F w0) {r1:aa} (hc:AllCl [LT af a1 c1 r1.l,Cl.blk b1 67 (ai r1 a1 c1)] F w0) {r:Bool} (h:gw r1=some r):CR F w0 187 #[vp b1 0] (vb r) []:=by
 refine EN Tryz.func187 Tryz.ntmps187 hF hc λhI=>?_
 rw[gw]at h
 refine T ?_
 refine al (aJ [] false (.c (0,.q) (.c (1,.q) (.c (2,.q) (.c (3,.q) (.c (4,.q) (.c (5,.q) (.c (6,.q) (.c (7,.q) (.c (8,.q) (.c (9,.q) (.c (10,.q) (.c (11,.q) (.c (12,.q) (.c (13,.q) (.c (14,.q) (.c (15,.q) (.c (16,.q) (.c (17,.q) (.c (18,.q) (.c (19,.q) (.c (20,.q) (.c (21,.q) (.c (22,.q) (.c (23,.q) (.c (24,.q) (.c (25,.q) (.c (26,.q) (.c (27,.q) (.c (28,.q) (.c (29,.q) (.c (30,.q) (.c (31,.q) (.c (32,.q) (.c (33,.q) (.c (34,.q) (.c (35,.q) (.c (36,.s) (.c (37,.q) (.c (38,.q) .n))))))))))))))))))))))))))))))))))))))) hI (by kernel_rfl) (by kernel_rfl) ?_)
 intro w1 hI
 refine V ?_
 obtain⟨e1,hx1,h⟩:=ae h
 replace hx1:=ay hx1
 obtain⟨ad1,cs1,hq1⟩:=hI.gclat .z hx1
 have hq2:(decide (r1.at_<(r1.l.length:Int)))=true→CA (Dj F du) w1 (ad1.add (Int.toNat r1.at_ * 3)) (jx e1):=λhc=>sW (hq1 hc).2.1 (hq1 hc).2.2
 refine vJ ?_
 refine V ?_
 obtain⟨e2,hx2,h⟩:=ae h
 replace hx2:=ay hx2
 obtain⟨ad2,cs2,hq3⟩:=hI.gclat .z hx2
 have hq4:((decide (r1.at_<(r1.l.length:Int)))&&(decide (e1.Kind=2)))=true→CA (Dj F du) w1 (ad2.add (Int.toNat r1.at_ * 3)) (jx e2):=λhc=>sW (hq3 hc).2.1 (hq3 hc).2.2
 refine vJ ?_
 refine V ?_
 obtain⟨r2,hx3,h⟩:=ae h
 replace hx3:=ay hx3
 refine lj (v:=(vb r2)) rfl (bg rfl rfl rfl rfl) rfl (λhc=>(aD (vs:=[(aT e2.Text)]) rfl JH ⟨(aU et hc),ah⟩)) (λhc=>(ww hI.lt ah (hx3 hc)).mono λ_ _ k=>⟨k.1,k.2.1⟩) ?_
 intro w2 hx4;replace hI:=hI.ext hx4
 refine V ?_
 exact RF
theorem sF (hF:dK F w0) {s1:List UInt8} {negative1:Bool} (hc:AllCl [] F w0) {r:Int×Bool} (h:jk s1 negative1=some r):CR F w0 131 #[(aT s1),vb negative1] (Value.tuple #[vi r.1,vb r.2]) []:=by
 refine EN Tryz.func131 Tryz.ntmps131 hF hc λhI=>?_
 rw[jk]at h
 refine T ?_
 refine bM (α:=Int) (λ_=>⟨38,[]⟩) (λx=>[(0,(aT s1)),(1,vb negative1),(6,(Value.int .u64 x))]) (λx=>λw=>∃ C,Bun du F w0 C w [] []∧jT s1 negative1 x=some r) ?_ ?_
 ·clear h hI;rintro limit1 w1 ⟨c1,hI,h⟩
  try dsimp only at hI h ⊢
  rw[jT]at h
  refine T ?_
  refine bM (α:=Int) (λ_=>⟨38,[]⟩) (λx=>[(1,vb negative1),(7,(Value.int .u64 x))]) (λx=>λw=>∃ C,Bun du F w0 C w [] []∧jS negative1 x=some r) ?_ ?_
  ·clear h hI;rintro n1 w2 ⟨c2,hI,h⟩
   try dsimp only at hI h ⊢
   rw[jS]at h
   refine al (T ?_)
   refine TR λhb h=>?_
   exact RF
  refine T ?_
  refine bs (α:=Nat×Int×Int) (λx=>λw=>∃ C,Bun du F w0 C w [] []∧ew s1 limit1 negative1 (x.1) (x.2.1) (x.2.2)=some r) (λx _=>x.1) (λx=>[(0,(aT s1)),(1,vb negative1),(6,(Value.int .u64 limit1)),(7,(Value.int .u64 (x.2.1))),(12,vi (s1.length:Int)),(13,vi (x.2.2))]) (fu,0,0) BH SB ?_
  clear h hI;rintro⟨fuel1,n2,i1⟩ w3 ⟨c3,hI,h⟩
  dsimp only at hI h ⊢
  rcases fuel1 with _ | fuel1
  ·rw[ew]at h;cases h
  rw[ew]at h
  refine T ?_
  refine al (CU h et (λhb h=>?_) (λhb h=>?_))
  ·refine T ?_
   refine al (T ?_)
   obtain⟨b1,hx1,h⟩:=ae h
   refine sI ?_
   refine T ?_
   refine al (T ?_)
   refine sq (BT rfl et ao (by decide)) ?_
   refine TR λhb h=>?_
   refine bl (bh (jX rfl ?_))
   refine sm ?_
   refine sq (wF rfl ao et) ?_
   refine sm ?_
   refine sq (sv rfl et et) ?_
   obtain⟨n3,hx2,h⟩:=ae h
   refine sq (va (cP rfl et) (congrArg (Value.int .u64) (ak hx2))) ?_
   refine T ?_
   refine aO ?_
   exact kl (fuel1,n3,au (i1+1))
  refine bv ?_
  refine fi ?_
  exact kj n2
 refine TC (λhb h=>?_) λhb h=>?_
 ·refine T ?_
  refine aO ?_
  exact kj 9223372036854775808
 exact bl (bu 9223372036854775807 SB BH rfl)
theorem C6 (hF:dK F w0) {k1:Int} (hc:AllCl [] F w0) {r:GLin} (h:tj k1=some r):Cg 132 #[vi k1] w0 λe w=>∃ a1 c1,e= .returned (Value.agg (cx r a1 c1))∧Ext w0 w∧AllCl [LT aj a1 c1 r.L] F w:=by
 refine EN Tryz.func132 Tryz.ntmps132 hF hc λhI=>?_
 rw[tj]at h
 refine sr (dl (cs:=#[vi 0,vs none 0 0]) hI gn rfl rfl mi rfl ?_)
 intro b1 c2 w1 hI
 refine T ?_
 refine sq (aC (vs:=[(0,vi k1)]) (cs:=#[vi k1,vs none 0 0]) rfl ⟨rfl,et,ah⟩ (by kernel_rfl)) ?_
 refine lA λc3 w2 hI=>?_
 refine nk (aF ?_)
 have hI:=hI.add (c:=LT aj none 0 ([]:List GMono)) SlC.nil
 obtain rfl:=ak h
 refine QG ?_
 exact⟨none,0,rfl,hI.ext0,hI.fin ⟨.z,ah⟩⟩
theorem yS (hF:dK F w0) {a1 b1:Int} (hc:AllCl [] F w0) {r:Int×Bool} (h:o7 a1 b1=some r):CR F w0 123 #[vi a1,vi b1] (Value.tuple #[vi r.1,vb r.2]) []:=by
 refine EN Tryz.func123 Tryz.ntmps123 hF hc λhI=>?_
 rw[o7]at h
 refine T ?_
 refine sq (IM rfl u4 et et) ?_
 exact RF
theorem zJ {name1:List UInt8} {x1 y1:Int} {a1:Bool} {a2:GLin} (hI:Bun C0 F w0 C0 w0 [MO.box b1 4 #[vb a1],MO.box b2 27 (cx a2 a3 c1),LV aj 64 a3 c1 a2.L] []) {r:Unit×Bool×GLin} (h:fM name1 x1 y1 a1 a2=some r):Cg 125 #[(aT name1),vi x1,vi y1,vp b1 0,vp b2 0] w0 λe w=>∃ a4 c2 C,e= .returned (Value.tuple #[])∧Bun C0 F w0 C w [MO.box b1 4 #[vb r.2.1],MO.box b2 27 (cx r.2.2 a4 c2),LV aj 64 a4 c2 r.2.2.L] []:=by
 refine pR Tryz.func125 rfl Tryz.ntmps125 rfl ?_
 rw[fM]at h
 refine T ?_
 refine sB h (λ_ k=>yS hI.lt trivial k) (Rc Tryz.func123) λr1 w1 h hI=>?_
 refine T ?_
 refine lS λc3 w2 hI=>?_
 refine TC (λhb h=>?_) λhb h=>?_
 ·refine T ?_
  refine sq (aC (vs:=[(0,(aT name1)),(1,vi r1.1)]) (cs:=#[(aT name1),vi r1.1]) rfl ⟨rfl,et,rfl,et,ah⟩ (by kernel_rfl)) ?_
  refine ll hI aj ([⟨name1,r1.1⟩]:List GMono) oK Rr λb3 c4 w3 hI=>?_
  obtain⟨zs1,hx3,h⟩:=ae h
  refine il (xs:=a2.L) (ys:=([⟨name1,r1.1⟩]:List GMono)) hI .p3 (hI.rd .z) hx3 gn rfl rfl E9 oK rfl rfl et et ?_
  intro a5 c5 c6 w4 hI
  refine T ?_
  refine lS λc7 w5 hI=>?_
  refine aO ?_
  obtain rfl:=ak h
  refine QG ?_
  exact⟨a5,c5,_,rfl,hI.arr GO SU⟩
 refine bl ?_
 obtain rfl:=ak h
 refine QG ?_
 exact⟨a3,c1,_,rfl,hI.arr GO SU⟩
theorem zI {I:StI σ} {a1 b1:List GMono} {each1:((List UInt8)→Int→Int→σ→Option (Unit×σ))} {s1:σ} {fv1:Value} (hI:Bun C0 F w0 C0 w0 [MO.st I s1] [LT aj a2 c1 a1,LT aj a3 c2 b1,yD I fv1 each1]) {r:Unit×σ} (h:pt a1 b1 each1 s1=some r):Cg 124 #[vs a2 a1.length c1,vs a3 b1.length c2,fv1] w0 λe w=>∃ C,e= .returned (Value.tuple #[])∧Bun C0 F w0 C w [MO.st I r.2] []:=by
 refine pR Tryz.func124 rfl Tryz.ntmps124 rfl ?_
 rw[pt]at h
 refine T ?_
 refine bs (α:=Nat×(List GMono)×(List GMono)×σ×(Option Addr)×Nat×(Option Addr)×Nat) (λx=>λw=>∃ C,Bun C0 F w0 C w [MO.st I (x.2.2.2.1)] [LT aj (x.2.2.2.2.1) (x.2.2.2.2.2.1) (x.2.1),LT aj (x.2.2.2.2.2.2.1) (x.2.2.2.2.2.2.2) (x.2.2.1),yD I fv1 each1]∧dv each1 (x.1) (x.2.1) (x.2.2.1) (x.2.2.2.1)=some r) (λx _=>x.1) (λx=>[(0,vs (x.2.2.2.2.1) (x.2.1).length (x.2.2.2.2.2.1)),(1,vs (x.2.2.2.2.2.2.1) (x.2.2.1).length (x.2.2.2.2.2.2.2)),(2,fv1)]) (fu,a1,b1,s1,a2,c1,a3,c2) BH SB ?_
 clear h hI;rintro⟨fuel1,a4,b2,s2,a5,c3,a6,c4⟩ w1 ⟨c5,hI,h⟩
 dsimp only at hI h ⊢
 rcases fuel1 with _ | fuel1
 ·rw[dv]at h;cases h
 rw[dv]at h
 refine al (T ?_)
 refine TC (λhb h=>?_) λhb h=>?_
 ·refine T ?_
  refine al (aJ [] false (.c (0,.q) (.c (1,.q) (.c (2,.q) (.c (3,.q) (.c (4,.q) (.c (5,.q) (.c (6,.q) (.c (7,.q) (.c (8,.q) (.c (9,.q) (.c (10,.q) (.c (11,.q) (.c (12,.q) (.c (13,.q) (.c (14,.q) (.c (15,.q) (.c (16,.q) (.c (17,.q) (.c (18,.q) (.c (19,.q) .n)))))))))))))))))))) hI (by kernel_rfl) (by kernel_rfl) ?_)
  intro w2 hI
  refine V ?_
  obtain⟨e1,hx1,h⟩:=ae h
  replace hx1:=ay hx1
  obtain⟨ad1,cs1,hq1⟩:=hI.gclat .z hx1
  have hq2:((!(decide ((b2.length:Int)=0)))&&(decide (0<(a4.length:Int))))=true→CA (Dj F c5) w2 (ad1.add (Int.toNat 0 * 2)) (lk e1):=λhc=>sW (hq1 hc).2.1 (hq1 hc).2.2
  refine vJ ?_
  refine V ?_
  obtain⟨e2,hx2,h⟩:=ae h
  replace hx2:=ay hx2
  obtain⟨ad2,cs2,hq3⟩:=hI.gclat .p1 hx2
  have hq4:((!(decide ((b2.length:Int)=0)))&&(decide (0<(a4.length:Int))))=true→CA (Dj F c5) w2 (ad2.add (Int.toNat 0 * 2)) (lk e2):=λhc=>sW (hq3 hc).2.1 (hq3 hc).2.2
  refine vJ ?_
  refine V ?_
  refine TC (λhb h=>?_) λhb h=>?_
  ·refine al (aJ [9] false (.c (0,.q) (.c (1,.q) (.c (2,.q) (.c (3,.q) (.c (4,.q) (.c (5,.q) (.c (6,.q) (.c (7,.q) (.c (8,.q) (.c (9,.s) .n)))))))))) hI (by kernel_rfl) (by kernel_rfl) ?_)
   intro w3 hI
   refine V ?_
   obtain⟨e3,hx3,h⟩:=ae h
   obtain⟨ad3,cs3,hA3,hr3,hq5⟩:=hI.clat .z hx3
   obtain rfl:cs3=(lk e3):=hr3
   refine vI ?_
   refine V ?_
   obtain⟨e4,hx4,h⟩:=ae h
   obtain⟨ad4,cs4,hA4,hr4,hq6⟩:=hI.clat .z hx4
   obtain rfl:cs4=(lk e4):=hr4
   refine vI ?_
   refine V ?_
   refine bK (F:=F) (C:=c5) rfl rfl ?_
   obtain⟨⟨r1,s3⟩,hx5,h⟩:=ae h
   try dsimp only at h
   obtain⟨c6,f1,hB,hl1,hk1⟩:=hI.hands (.l .n)
   refine yo (args:=[(aT e3.Name),vi e4.By,vi 0]) rfl gn rfl rfl et ⟨et,et,ao,ah⟩ (CallV.mono ((hI.get .p2).2 c6 f1 w3 (LZ hl1) e3.Name e4.By 0 s2 _ (hB.subs ah) hx5) ?_)
   rintro _ w4 ⟨c7,rfl,hB2⟩
   obtain⟨c8,hs1,hI⟩:=hk1 _ _ _ _ hB2
   dsimp only[ca,na]at hI
   refine⟨_,rfl,DM true F c8,hs1,?_⟩
   refine V ?_
   refine T ?_
   obtain⟨zs1,hx6,h⟩:=ae h
   obtain⟨a7,hB1⟩:∃ B:Option Addr,B=(if c3=Int.toNat 1 then a5 else Option.map (·.add (Int.toNat 1 * 2)) a5):=⟨_,rfl⟩
   refine sq (xy rfl E9 tT et ao hx6 hB1) ?_
   replace hI:=hI.from_ .z hx6 hB1
   refine sa ?_
   refine aO ?_
   exact kl (fuel1,zs1,b2,s3,a7,c3 - Int.toNat 1,a6,c4)
  refine al (aJ [] false (.c (0,.q) (.c (1,.q) (.c (2,.q) (.c (3,.q) (.c (4,.q) (.c (5,.q) (.c (6,.q) (.c (7,.q) (.c (8,.q) (.c (9,.q) (.c (10,.q) (.c (11,.q) (.c (12,.q) (.c (13,.q) (.c (14,.q) .n))))))))))))))) hI (by kernel_rfl) (by kernel_rfl) ?_)
  intro w5 hI
  refine V ?_
  obtain⟨e5,hx7,h⟩:=ae h
  replace hx7:=ay hx7
  obtain⟨ad5,cs5,hq7⟩:=hI.gclat .p1 hx7
  have hq8:(!(decide ((a4.length:Int)=0)))=true→CA (Dj F c5) w5 (ad5.add (Int.toNat 0 * 2)) (lk e5):=λhc=>sW (hq7 hc).2.1 (hq7 hc).2.2
  refine vJ ?_
  refine V ?_
  obtain⟨e6,hx8,h⟩:=ae h
  replace hx8:=ay hx8
  obtain⟨ad6,cs6,hq9⟩:=hI.gclat .z hx8
  have hq10:(!(decide ((a4.length:Int)=0)))=true→CA (Dj F c5) w5 (ad6.add (Int.toNat 0 * 2)) (lk e6):=λhc=>sW (hq9 hc).2.1 (hq9 hc).2.2
  refine vJ ?_
  refine V ?_
  refine TC (λhb h=>?_) λhb h=>?_
  ·refine al (aJ [9] false (.c (0,.q) (.c (1,.q) (.c (2,.q) (.c (3,.q) (.c (4,.q) (.c (5,.q) (.c (6,.q) (.c (7,.q) (.c (8,.q) (.c (9,.s) .n)))))))))) hI (by kernel_rfl) (by kernel_rfl) ?_)
   intro w6 hI
   refine V ?_
   obtain⟨e7,hx9,h⟩:=ae h
   obtain⟨ad7,cs7,hA7,hr7,hq11⟩:=hI.clat .p1 hx9
   obtain rfl:cs7=(lk e7):=hr7
   refine vI ?_
   refine V ?_
   obtain⟨e8,hx10,h⟩:=ae h
   obtain⟨ad8,cs8,hA8,hr8,hq12⟩:=hI.clat .p1 hx10
   obtain rfl:cs8=(lk e8):=hr8
   refine vI ?_
   refine V ?_
   refine bK (F:=F) (C:=c5) rfl rfl ?_
   obtain⟨⟨r2,s4⟩,hx11,h⟩:=ae h
   try dsimp only at h
   obtain⟨c9,f2,hB,hl2,hk2⟩:=hI.hands (.l .n)
   refine yo (args:=[(aT e7.Name),vi 0,vi e8.By]) rfl gn rfl rfl et ⟨et,ao,et,ah⟩ (CallV.mono ((hI.get .p2).2 c9 f2 w6 (LZ hl2) e7.Name 0 e8.By s2 _ (hB.subs ah) hx11) ?_)
   rintro _ w7 ⟨c10,rfl,hB2⟩
   obtain⟨c11,hs2,hI⟩:=hk2 _ _ _ _ hB2
   dsimp only[ca,na]at hI
   refine⟨_,rfl,DM true F c11,hs2,?_⟩
   refine V ?_
   refine T ?_
   obtain⟨zs2,hx12,h⟩:=ae h
   obtain⟨a8,hB2⟩:∃ B:Option Addr,B=(if c4=Int.toNat 1 then a6 else Option.map (·.add (Int.toNat 1 * 2)) a6):=⟨_,rfl⟩
   refine sq (xy rfl E9 tT et ao hx12 hB2) ?_
   replace hI:=hI.from_ .p1 hx12 hB2
   refine sa ?_
   refine aO ?_
   exact kl (fuel1,a4,zs2,s4,a5,c3,a8,c4 - Int.toNat 1)
  refine al (aJ [13] false (.c (0,.q) (.c (1,.q) (.c (2,.q) (.c (3,.q) (.c (4,.q) (.c (5,.q) (.c (6,.q) (.c (7,.q) (.c (8,.q) (.c (9,.q) (.c (10,.q) (.c (11,.q) (.c (12,.q) (.c (13,.s) .n)))))))))))))) hI (by kernel_rfl) (by kernel_rfl) ?_)
  intro w8 hI
  refine V ?_
  obtain⟨e9,hx13,h⟩:=ae h
  obtain⟨ad9,cs9,hA9,hr9,hq13⟩:=hI.clat .z hx13
  obtain rfl:cs9=(lk e9):=hr9
  refine vI ?_
  refine V ?_
  obtain⟨e10,hx14,h⟩:=ae h
  obtain⟨ad10,cs10,hA10,hr10,hq14⟩:=hI.clat .z hx14
  obtain rfl:cs10=(lk e10):=hr10
  refine vI ?_
  refine V ?_
  obtain⟨e11,hx15,h⟩:=ae h
  obtain⟨ad11,cs11,hA11,hr11,hq15⟩:=hI.clat .p1 hx15
  obtain rfl:cs11=(lk e11):=hr11
  refine vI ?_
  refine V ?_
  refine bK (F:=F) (C:=c5) rfl rfl ?_
  obtain⟨⟨r3,s5⟩,hx16,h⟩:=ae h
  try dsimp only at h
  obtain⟨c12,f3,hB,hl3,hk3⟩:=hI.hands (.l .n)
  refine yo (args:=[(aT e9.Name),vi e10.By,vi e11.By]) rfl gn rfl rfl et ⟨et,et,et,ah⟩ (CallV.mono ((hI.get .p2).2 c12 f3 w8 (LZ hl3) e9.Name e10.By e11.By s2 _ (hB.subs ah) hx16) ?_)
  rintro _ w9 ⟨c13,rfl,hB2⟩
  obtain⟨c14,hs3,hI⟩:=hk3 _ _ _ _ hB2
  dsimp only[ca,na]at hI
  refine⟨_,rfl,DM true F c14,hs3,?_⟩
  refine V ?_
  refine aJ [] false (.c (0,.q) (.c (1,.q) (.c (2,.q) (.c (3,.q) (.c (4,.q) (.c (5,.q) .n)))))) hI (by kernel_rfl) (by kernel_rfl) ?_
  intro w10 hI
  refine V ?_
  obtain⟨zs3,hx17,h⟩:=ae h
  obtain⟨a9,hB3⟩:∃ B:Option Addr,B=(if c3=Int.toNat 1 then a5 else Option.map (·.add (Int.toNat 1 * 2)) a5):=⟨_,rfl⟩
  refine nv rfl gn rfl (λw'=>xy rfl E9 tT et ao hx17 hB3) ?_
  replace hI:=hI.from_ .z hx17 hB3
  refine V ?_
  obtain⟨zs4,hx18,h⟩:=ae h
  obtain⟨a10,hB4⟩:∃ B:Option Addr,B=(if c4=Int.toNat 1 then a6 else Option.map (·.add (Int.toNat 1 * 2)) a6):=⟨_,rfl⟩
  refine nv rfl gn rfl (λw'=>xy rfl E9 tT et ao hx18 hB4) ?_
  replace hI:=hI.from_ .p2 hx18 hB4
  refine V ?_
  refine oY ?_
  exact kl (fuel1,zs3,zs4,s5,a9,c3 - Int.toNat 1,a10,c4 - Int.toNat 1)
 refine bv ?_
 refine fi ?_
 obtain rfl:=ak h
 refine QG ?_
 exact⟨_,rfl,hI.arr GO SU⟩
theorem Ak (hF:dK F w0) {a1 b1:GLin} (hc:AllCl [LT aj a2 c1 a1.L,LT aj a3 c2 b1.L] F w0) {r:GLin×Int} (h:iJ a1 b1=some r):Cg 69 #[(Value.agg (cx a1 a2 c1)),(Value.agg (cx b1 a3 c2))] w0 λe w=>∃ a4 c3,e= .returned (Value.tuple #[(Value.agg (cx r.1 a4 c3)),vi r.2])∧Ext w0 w∧AllCl [LT aj a4 c3 r.1.L] F w:=by
 refine EN Tryz.func69 Tryz.ntmps69 hF hc λhI=>?_
 rw[iJ]at h
 refine sr (lX λb2 c5 w1 hI=>?_)
 refine lX λb3 c7 w2 hI=>?_
 refine lN λb4 c8 w3 hI=>?_
 refine T ?_
 refine al (sr (sq (am (l:=(fI a1 a2 c1)) rfl et pk rfl bt (hI.kblk (l:=(fI a1 a2 c1)) .p1 rfl).1) ?_))
 refine sB h (λ_ k=>oO hI.lt FS k) (Rc Tryz.func122) λr1 w4 h hI=>?_
 refine T ?_
 refine aH (bV rfl rfl rfl rfl) rfl (λhc=>(am (l:=(fI b1 a3 c2)) rfl et pk rfl bt (hI.kblk (l:=(fI b1 a3 c2)) .z rfl).1)) ?_
 obtain⟨r2,hx3,h⟩:=ae h
 replace hx3:=ay hx3
 refine sU (λhc=>oO hI.lt FS (hx3 hc)) (Rg Tryz.func122) λw5 hI=>?_
 refine TC (λhb h=>?_) λhb h=>?_
 ·refine sr (sq (aC (vs:=[]) (cs:=#[vi 0,vs none 0 0]) rfl trivial (by kernel_rfl)) ?_)
  refine lA λc9 w6 hI=>?_
  refine T ?_
  refine aF ?_
  have hI:=hI.add (c:=LT aj none 0 ([]:List GMono)) SlC.nil
  obtain rfl:=ak h
  refine QG ?_
  exact⟨none,0,rfl,hI.ext0,hI.fin ⟨.z,ah⟩⟩
 refine T ?_
 refine lN λb5 c10 w7 hI=>?_
 refine T ?_
 refine lN λb6 c11 w8 hI=>?_
 refine T ?_
 refine sB h (λ_ k=>yS hI.lt trivial k) (Rc Tryz.func123) λr3 w9 h hI=>?_
 refine T ?_
 refine lS λc12 w10 hI=>?_
 refine lS λc13 w11 hI=>?_
 refine T ?_
 refine sq (nW (vs:=[]) (cap:=[vp b6 0,vp b5 0]) rfl rfl ⟨et,et,ah⟩) ?_
 have hI:=hI.nil aj 64 none
 obtain⟨c14,f1,hB,hl4,hk1⟩:=hI.hands (.l (.l (.l (.r .n))))
 replace hB:=hB.ord (.c .p1 (.c .p1 (.c .z .n)))
 have hB:Bun c14 f1 w11 c14 w11 [MO.st (StI.of (λ(s:Bool×GLin) (b:(Option Addr)×Nat)=>[MO.box b6 4 #[vb (s.1)],MO.box b5 27 #[(vi ((s.2).K)),(vs (b.1) ((s.2).L).length (b.2))],LV aj 64 (b.1) (b.2) ((s.2).L)]) (λ(s:Bool×GLin) (b:(Option Addr)×Nat)=>[])) (r3.2,(⟨r3.1,[]⟩:GLin))] _:=Bun.mkst (b:=(none,0)) hB trivial
 have hC:=hB
 have hY1:fnS_k2 (StI.of (λ(s:Bool×GLin) (b:(Option Addr)×Nat)=>[MO.box b6 4 #[vb (s.1)],MO.box b5 27 #[(vi ((s.2).K)),(vs (b.1) ((s.2).L).length (b.2))],LV aj 64 (b.1) (b.2) ((s.2).L)]) (λ(s:Bool×GLin) (b:(Option Addr)×Nat)=>[])) (Value.func (.func 125) #[] #[vp b6 0,vp b5 0]) (λx_1 x_2 x_3 s=>fM x_1 x_2 x_3 (s.1) (s.2)) (Dj f1 c14) w11:=by
  refine⟨rfl,λC0 F w' hs x_1 x_2 x_3 s r hB h=>?_⟩
  obtain⟨⟨a5,c15⟩,hB⟩:=Bun.unst hB
  refine CallV.fn (cap:=[vp b6 0,vp b5 0]) J4 (Calls.mono (zJ HS h) ?_)
  rintro _ w'' ⟨z1,z2,C',rfl,hB2⟩
  exact⟨C',rfl,(Bun.mkst (os:=(λ(s:Bool×GLin) (b:(Option Addr)×Nat)=>[MO.box b6 4 #[vb (s.1)],MO.box b5 27 #[(vi ((s.2).K)),(vs (b.1) ((s.2).L).length (b.2))],LV aj 64 (b.1) (b.2) ((s.2).L)])) (cl:=(λ(s:Bool×GLin) (b:(Option Addr)×Nat)=>[])) (s:=r.2) (b:=(z1,z2)) hB2 trivial).subs trivial⟩
 obtain⟨⟨r4,s1⟩,hx7,h⟩:=ae h
 try dsimp only at h
 refine aw gn rfl (Rc Tryz.func124) (Calls.mono (zI ((hB.add (c:=(yD (StI.of (λ(s:Bool×GLin) (b:(Option Addr)×Nat)=>[MO.box b6 4 #[vb (s.1)],MO.box b5 27 #[(vi ((s.2).K)),(vs (b.1) ((s.2).L).length (b.2))],LV aj 64 (b.1) (b.2) ((s.2).L)]) (λ(s:Bool×GLin) (b:(Option Addr)×Nat)=>[])) (Value.func (.func 125) #[] #[vp b6 0,vp b5 0]) (λx_1 x_2 x_3 s=>fM x_1 x_2 x_3 (s.1) (s.2)))) hY1).subs ⟨.p3,.p4,.z,ah⟩) hx7) ?_)
 rintro _ w12 ⟨c16,rfl,hB2⟩
 obtain⟨⟨a6,c17⟩,hB2⟩:=Bun.unst hB2
 refine HN hk1 hB2 λc18 hI=>?_
 refine⟨_,rfl,?_⟩
 refine T ?_
 refine al (T ?_)
 refine TC (λhb h=>?_) λhb h=>?_
 ·refine sr (sq (aC (vs:=[]) (cs:=#[vi 0,vs none 0 0]) rfl trivial (by kernel_rfl)) ?_)
  refine lA λc19 w13 hI=>?_
  refine T ?_
  refine aF ?_
  have hI:=hI.add (c:=LT aj none 0 ([]:List GMono)) SlC.nil
  obtain rfl:=ak h
  refine QG ?_
  exact⟨none,0,rfl,hI.ext0,hI.fin ⟨.z,ah⟩⟩
 refine T ?_
 refine lA λc20 w14 hI=>?_
 refine T ?_
 refine aF ?_
 obtain⟨c21,hI⟩:=hI.release .p2
 obtain rfl:=ak h
 refine QG ?_
 exact⟨a6,c17,rfl,hI.ext0,hI.fin ⟨.z,ah⟩⟩
theorem bb {r1:aa} {s1:List UInt8} (hI:Bun C0 F w0 C0 w0 [MO.box b1 67 (ai r1 a1 c1)] [LT af a1 c1 r1.l]) {r:Bool×aa} (h:aE r1 s1=some r):Cg 68 #[vp b1 0,(aT s1)] w0 λe w=>∃ a2 c2 C,e= .returned (vb r.1)∧Bun C0 F w0 C w [MO.box b1 67 (ai r.2 a2 c2)] [LT af a2 c2 r.2.l]:=by
 refine pR Tryz.func68 rfl Tryz.ntmps68 rfl ?_
 rw[aE]at h
 refine T ?_
 refine al (T ?_)
 refine sB h (λ_ k=>bW NE ⟨(hI.get0 .z),hI.lendBox .z,ah⟩ k) (Rc Tryz.func121) λr2 w1 h hI=>?_
 refine TC (λhb h=>?_) λhb h=>?_
 ·refine T ?_
  refine lS λc3 w2 hI=>?_
  refine T ?_
  refine aF ?_
  obtain rfl:=ak h
  refine QG ?_
  exact⟨a1,c1,_,rfl,hI.arr GO SU⟩
 refine T ?_
 refine aF ?_
 obtain rfl:=ak h
 refine QG ?_
 exact⟨a1,c1,_,rfl,hI.arr GO SU⟩
theorem cB {r1:aa} (hI:Bun C0 F w0 C0 w0 [MO.box b1 67 (ai r1 a1 c1)] [LT af a1 c1 r1.l]) {r:bL (Unit×aa)} (h:aW r1=some r):CP C0 F w0 103 #[vp b1 0] r λrx e w=>∃ a2 c2 C,e= .returned (Value.tuple #[])∧Bun C0 F w0 C w [MO.box b1 67 (ai rx.2 a2 c2)] [LT af a2 c2 rx.2.l]:=by
 refine fJ (l:=[vp b1 0]) Tryz.func103 rfl Tryz.ntmps103 rfl ?_
 rw[aW]at h
 refine al (al (aJ [] false (.c (0,.q) (.c (1,.q) (.c (2,.q) (.c (3,.q) (.c (4,.q) (.c (5,.q) (.c (6,.q) (.c (7,.q) (.c (8,.q) (.c (9,.q) .n)))))))))) hI (by kernel_rfl) (by kernel_rfl) ?_))
 intro w1 hI
 refine V ?_
 refine TC (λhb h=>?_) λhb h=>?_
 ·refine T ?_
  rcases eU h with⟨r2,hx1,h⟩ | ⟨pa_,pn_,hx1,hp_⟩
  rotate_left
  ·subst hp_
   refine ja gn rfl (aD (vs:=[vp b1 0,vi (r1.l.length:Int),vi 6]) rfl uw ⟨et,et,ao,ah⟩) (Calls.mono (aZ NE ⟨(hI.get0 .z),hI.lendBox .z,ah⟩ hx1) ?_)
   intro e_ w_ hq_;obtain⟨rfl,hx_⟩:=cW hq_;have hI_:=hI.ext hx_;exact .inr ⟨_,rfl,gc (.inr ⟨_,_,rfl,rfl,_,hI_.arr .n trivial⟩)⟩
  try dsimp only at h
  refine aw gn rfl (Rc Tryz.func71) (Calls.mono (aZ NE ⟨(hI.get0 .z),hI.lendBox .z,ah⟩ hx1) ?_)
  intro e_ w2 hq_;obtain⟨rfl,hx2,hl1⟩:=cV hq_
  refine⟨_,rfl,?_⟩
  replace hI:=(hI.ext hx2)
  refine T ?_
  rcases eU h with⟨r3,hx3,h⟩ | ⟨pa_,pn_,hx3,hp_⟩
  rotate_left
  ·subst hp_
   refine ja gn rfl (aD (vs:=[vp b1 0,vi r1.at_,vi 5]) rfl uw ⟨et,et,ao,ah⟩) (Calls.mono (aZ NE ⟨(hI.get0 .z),hI.lendBox .z,ah⟩ hx3) ?_)
   intro e_ w_ hq_;obtain⟨rfl,hx_⟩:=cW hq_;have hI_:=hI.ext hx_;exact .inr ⟨_,rfl,gc (.inr ⟨_,_,rfl,rfl,_,hI_.arr .n trivial⟩)⟩
  try dsimp only at h
  refine aw gn rfl (Rc Tryz.func71) (Calls.mono (aZ NE ⟨(hI.get0 .z),hI.lendBox .z,ah⟩ hx3) ?_)
  intro e_ w3 hq_;obtain⟨rfl,hx4,hl2⟩:=cV hq_
  refine⟨_,rfl,?_⟩
  replace hI:=(hI.ext hx4)
  refine aO ?_
  obtain rfl:=ak h
  refine QG ?_
  exact .inl ⟨_,rfl,a1,c1,_,rfl,hI.arr GO SU⟩
 refine T ?_
 rcases eU h with⟨r4,hx5,h⟩ | ⟨pa_,pn_,hx5,hp_⟩
 rotate_left
 ·subst hp_
  refine ja gn rfl (aD (vs:=[vp b1 0,vi r1.at_,vi 5]) rfl uw ⟨et,et,ao,ah⟩) (Calls.mono (aZ NE ⟨(hI.get0 .z),hI.lendBox .z,ah⟩ hx5) ?_)
  intro e_ w_ hq_;obtain⟨rfl,hx_⟩:=cW hq_;have hI_:=hI.ext hx_;exact .inr ⟨_,rfl,gc (.inr ⟨_,_,rfl,rfl,_,hI_.arr .n trivial⟩)⟩
 try dsimp only at h
 refine aw gn rfl (Rc Tryz.func71) (Calls.mono (aZ NE ⟨(hI.get0 .z),hI.lendBox .z,ah⟩ hx5) ?_)
 intro e_ w4 hq_;obtain⟨rfl,hx6,hl3⟩:=cV hq_
 refine⟨_,rfl,?_⟩
 replace hI:=(hI.ext hx6)
 refine aO ?_
 obtain rfl:=ak h
 refine QG ?_
 exact .inl ⟨_,rfl,a1,c1,_,rfl,hI.arr GO SU⟩
theorem cr {r1:aa} (hI:Bun C0 F w0 C0 w0 [MO.box b1 67 (ai r1 a1 c1)] [LT af a1 c1 r1.l,aA]) {r:bL (List UInt8×aa)} (h:aV r1=some r):CP C0 F w0 128 #[vp b1 0] r λrx e w=>∃ a2 c2 C,e= .returned (aT rx.1)∧Bun C0 F w0 C w [MO.box b1 67 (ai rx.2 a2 c2)] [LT af a2 c2 rx.2.l]:=by
 refine fJ (l:=[vp b1 0]) Tryz.func128 rfl Tryz.ntmps128 rfl ?_
 rw[aV]at h
 refine T ?_
 refine bM (α:=aa×(Option Addr)×Nat) (λ_=>⟨27,[]⟩) (λx=>[(0,vp b1 0)]) (λx=>λw=>∃ C,Bun C0 F w0 C w [MO.box b1 67 (ai (x.1) (x.2.1) (x.2.2))] [LT af (x.2.1) (x.2.2) (x.1).l,aA]∧ga (x.1)=some r) ?_ ?_
 ·clear h hI;rintro⟨r2,a3,c3⟩ w1 ⟨c4,hI,h⟩
  try dsimp only at hI h ⊢
  rw[ga]at h
  refine T ?_
  refine lS λc5 w2 hI=>?_
  refine nk (al (aJ [] false (.c (0,.q) (.c (1,.q) (.c (2,.q) (.c (3,.q) (.c (4,.q) (.c (5,.q) (.c (6,.q) (.c (7,.q) (.c (8,.q) (.c (9,.q) (.c (10,.q) (.c (11,.q) (.c (12,.q) .n))))))))))))) hI (by kernel_rfl) (by kernel_rfl) ?_))
  intro w3 hI
  refine V ?_
  obtain⟨e1,hx1,h⟩:=ae h
  obtain⟨ad1,cs1,hA1,hr1,hq1⟩:=hI.clat .z hx1
  obtain rfl:cs1=(jx e1):=hr1
  refine vI ?_
  refine V ?_
  refine aF ?_
  obtain rfl:=ak h
  refine QG ?_
  exact .inl ⟨_,rfl,a3,c3,_,rfl,hI.arr GO SU⟩
 refine T ?_
 refine sB h (λ_ k=>lO NE ⟨(hI.get0 .z),hI.lendBox .z,hI.get0 .p1,ah⟩ k) (Rc Tryz.func126) λr3 w4 h hI=>?_
 refine TC (λhb h=>?_) λhb h=>?_
 ·refine T ?_
  obtain⟨c6,f1,hB,hl2,hk1⟩:=hI.hands (.l .n)
  refine dC h (λ_ hx4=>cB HS hx4) (kD hk1) (Rc Tryz.func103) ?_
  rintro⟨r4,s1⟩ hx4 h _ w5 ⟨a4,c7,c8,rfl,hB2⟩
  try dsimp only at h
  refine HN hk1 hB2 λc9 hI=>?_
  refine⟨_,rfl,?_⟩
  refine aO ?_
  exact kj (s1,a4,c7)
 exact bl (bu (r1,a1,c1) ⟨rfl,ah⟩ BH rfl)
theorem iQ {r1:aa} (hI:Bun C0 F w0 C0 w0 [MO.box b1 67 (ai r1 a1 c1)] [LT af a1 c1 r1.l]) {r:bL (List UInt8×aa)} (h:bU r1=some r):CP C0 F w0 130 #[vp b1 0] r λrx e w=>∃ a2 c2 C,e= .returned (aT rx.1)∧Bun C0 F w0 C w [MO.box b1 67 (ai rx.2 a2 c2)] [LT af a2 c2 rx.2.l]:=by
 refine fJ (l:=[vp b1 0]) Tryz.func130 rfl Tryz.ntmps130 rfl ?_
 rw[bU]at h
 refine T ?_
 refine bM (α:=aa×(Option Addr)×Nat) (λ_=>⟨27,[]⟩) (λx=>[(0,vp b1 0)]) (λx=>λw=>∃ C,Bun C0 F w0 C w [MO.box b1 67 (ai (x.1) (x.2.1) (x.2.2))] [LT af (x.2.1) (x.2.2) (x.1).l]∧cN (x.1)=some r) ?_ ?_
 ·clear h hI;rintro⟨r2,a3,c3⟩ w1 ⟨c4,hI,h⟩
  try dsimp only at hI h ⊢
  rw[cN]at h
  refine T ?_
  refine lS λc5 w2 hI=>?_
  refine nk (al (aJ [] false (.c (0,.q) (.c (1,.q) (.c (2,.q) (.c (3,.q) (.c (4,.q) (.c (5,.q) (.c (6,.q) (.c (7,.q) (.c (8,.q) (.c (9,.q) (.c (10,.q) (.c (11,.q) (.c (12,.q) .n))))))))))))) hI (by kernel_rfl) (by kernel_rfl) ?_))
  intro w3 hI
  refine V ?_
  obtain⟨e1,hx1,h⟩:=ae h
  obtain⟨ad1,cs1,hA1,hr1,hq1⟩:=hI.clat .z hx1
  obtain rfl:cs1=(jx e1):=hr1
  refine vI ?_
  refine V ?_
  refine aF ?_
  obtain rfl:=ak h
  refine QG ?_
  exact .inl ⟨_,rfl,a3,c3,_,rfl,hI.arr GO SU⟩
 refine T ?_
 refine sB h (λ_ k=>qV NE ⟨(hI.get0 .z),hI.lendBox .z,ah⟩ k) (Rc Tryz.func187) λr3 w4 h hI=>?_
 refine TC (λhb h=>?_) λhb h=>?_
 ·refine T ?_
  obtain⟨c6,f1,hB,hl2,hk1⟩:=hI.hands (.l .n)
  refine dC h (λ_ hx4=>cB HS hx4) (kD hk1) (Rc Tryz.func103) ?_
  rintro⟨r4,s1⟩ hx4 h _ w5 ⟨a4,c7,c8,rfl,hB2⟩
  try dsimp only at h
  refine HN hk1 hB2 λc9 hI=>?_
  refine⟨_,rfl,?_⟩
  refine aO ?_
  exact kj (s1,a4,c7)
 exact bl (bu (r1,a1,c1) ⟨rfl,ah⟩ BH rfl)
end Go.Proofs.YtmhoikfoogemnaaGreatDoor
