import Derived.Test.YtmhoikfoogemnaaGreatDoorKXc
import Derived.Test.YtmhoikfoogemnaaGreatDoorKLfJ
namespace Go.Proofs.YtmhoikfoogemnaaGreatDoor
open Go Go.RowKit Go.Vc
set_option maxRecDepth 100000
set_option maxHeartbeats 4000000
set_option linter.unusedVariables false
set_option linter.unusedSimpArgs false
abbrev dG (F:NP) (w0:World):Prop:=∀ k,F k→k<w0.heap.size
theorem NE {m:Nat} :∀ k,du k→k<m:=fun _ k=>k.elim
abbrev CR (F:NP) (w0:World) (f:FuncId) (args:Array Value) (v:Value) (cl:List Cl):Prop:=Calls Tryz.prog f args w0 fun e w=>e= .returned v∧Ext w0 w∧AllCl cl F w
abbrev Cg:= @Calls Tryz.prog
abbrev CP {α:Type} (C0 F:NP) (w0:World) (f:FuncId) (args:Array Value) (r:bz α) (A:α→Ending→World→Prop):Prop:=Calls Tryz.prog f args w0 fun e w=>(∃ rx:α,r= .ret rx∧A rx e w)∨∃ (pa pn:Int),r= .pan pa pn∧e= .panicked [pe 114 pa pn]∧∃ C:NP,Bun C0 F w0 C w [] []
theorem vm {P:Program} {ro:Ro} {n:Fr} {Kn:Act→World→Prop} {Ke:Nat→Act→World→Prop} {Kr:Act→World→Prop} {env:kE} {w:World} {c:Operand} {x y:Code} {b:Bool} {β:Type} {p q:Option β} {r:β} (h:(if b=true then p else q)=some r) (hc:Ev n env c (.bool b)) (ht:b=true→p=some r→gG P ro n x Kn Ke Kr env w) (hf:b=false→q=some r→gG P ro n y Kn Ke Kr env w):gG P ro n (.cond c x y) Kn Ke Kr env w:=q8 hc (fun hb=>ht hb (Gc hb h)) (fun hb=>hf hb (Gd hb h))
theorem fq {F C:NP} {w0 w:World} {os:List MO} {cl cl':List Cl} {e:Ending} (h:Bun du F w0 C w os cl) (hs:Subs cl cl'):e=e∧Ext w0 w∧AllCl cl' F w:=⟨rfl,h.ext0,h.fin hs⟩
abbrev kx (x:aS):List Value:=[vi x.Kind,vi x.At,aE x.Text]
abbrev af (x:aa) (A1:Option Addr) (C1:Nat):Array Value:=#[vs A1 x.l.length C1,vi x.at_,vi x.deep]
abbrev ky (x:GMono):List Value:=[aE x.Name,vi x.By]
abbrev gc (x:GLin) (A1:Option Addr) (C1:Nat):List Value:=[vi x.K,vs A1 x.L.length C1]
abbrev bQ (x:GLin) (A1:Option Addr) (C1:Nat):Array Value:=#[vi x.K,vs A1 x.L.length C1]
abbrev dD (x:GType):List Value:=[vi x.Kind,vi x.Bits,vi x.Frac,vi x.Round,vi x.Over]
abbrev co (x:GType):Array Value:=#[vi x.Kind,vi x.Bits,vi x.Frac,vi x.Round,vi x.Over]
abbrev x8:Array Value:=#[vi 0,vi 0,vi 0,vi 0,vi 0]
abbrev qD (x:GVal):List Value:=[vi x.N,vi x.D]
abbrev o6 (x:GVal):Array Value:=#[vi x.N,vi x.D]
abbrev qK (x:GIndex) (A1:Option Addr) (C1:Nat) (A2:Option Addr) (C2:Nat):List Value:=[vi x.Lin.K,vs A1 x.Lin.L.length C1,aE x.From,vs A2 x.At.length C2]
abbrev mO (x:GIndex) (A1:Option Addr) (C1:Nat) (A2:Option Addr) (C2:Nat):Array Value:=#[vi x.Lin.K,vs A1 x.Lin.L.length C1,aE x.From,vs A2 x.At.length C2]
abbrev aX (x:GExpr) (A1:Option Addr) (C1:Nat) (A2:Option Addr) (C2:Nat) (A3:Option Addr) (C3:Nat):List Value:=[vi x.Op,aE x.Name,vi x.Val.N,vi x.Val.D,vi x.Type_.Kind,vi x.Type_.Bits,vi x.Type_.Frac,vi x.Type_.Round,vi x.Type_.Over,vi x.Lin.K,vs A1 x.Lin.L.length C1,vs A2 x.Idx.length C2,vs A3 x.Args.length C3]
abbrev aq (x:GExpr) (A1:Option Addr) (C1:Nat) (A2:Option Addr) (C2:Nat) (A3:Option Addr) (C3:Nat):Array Value:=#[vi x.Op,aE x.Name,vi x.Val.N,vi x.Val.D,vi x.Type_.Kind,vi x.Type_.Bits,vi x.Type_.Frac,vi x.Type_.Round,vi x.Type_.Over,vi x.Lin.K,vs A1 x.Lin.L.length C1,vs A2 x.Idx.length C2,vs A3 x.Args.length C3]
abbrev ah (x:ac) (A1:Option Addr) (C1:Nat):List Value:=[vs A1 x.L.length C1,vi x.At,vi x.Deep,vi x.E,vi x.Pos]
abbrev ab (x:ac) (A1:Option Addr) (C1:Nat):Array Value:=#[vs A1 x.L.length C1,vi x.At,vi x.Deep,vi x.E,vi x.Pos]
abbrev au:Array Value:=#[vs none 0 0,vi 0,vi 0,vi 0,vi 0]
abbrev u2:= @Tryz.underlying2
abbrev u3:= @Tryz.underlying3
abbrev u4:= @Tryz.underlying4
abbrev u5:= @Tryz.underlying5
abbrev u9:= @Tryz.underlying9
abbrev HT:= @Tryz.underlying22
abbrev Cn:= @Tryz.underlying25
abbrev oy:= @Tryz.underlying27
abbrev AG:= @Tryz.underlying28
abbrev ES:= @Tryz.underlying33
abbrev qr:= @Tryz.underlying35
abbrev AF:= @Tryz.underlying36
abbrev HA:= @Tryz.underlying37
abbrev jT:= @Tryz.underlying39
abbrev FV:= @Tryz.underlying50
abbrev u64:= @Tryz.underlying64
abbrev Iy:= @Tryz.underlying65
abbrev Ix:= @Tryz.underlying67
abbrev j5:= @Tryz.underlying72
abbrev FU:= @Tryz.underlying93
abbrev u114:= @Tryz.underlying114
abbrev ux:= @Tryz.underlying132
theorem zF:Tryz.prog.stoodInHeld 33=false:=by kernel_rfl
theorem An (a0 b0:Int) (a1 b1:Int) (w:World):(binOp .eql 33 (.agg #[(Value.int .i64 a0),(Value.int .i64 a1)]) (.agg #[(Value.int .i64 b0),(Value.int .i64 b1)])).run Tryz.prog w= .ok (.bool ((decide (a0=b0))&&(decide (a1=b1)))) w:=by
  simp[go_sem,zF,Tryz.underlying33,oM,oL]
  all_goals (by_cases h0:a0=b0<;>by_cases h1:a1=b1<;>simp[h0,h1])
theorem sX (a0 b0:Int) (a1 b1:Int) (w:World):(binOp .neq 33 (.agg #[(Value.int .i64 a0),(Value.int .i64 a1)]) (.agg #[(Value.int .i64 b0),(Value.int .i64 b1)])).run Tryz.prog w= .ok (.bool (!((decide (a0=b0))&&(decide (a1=b1))))) w:=by
  simp[go_sem,zF,Tryz.underlying33,oM,oL]
  all_goals (by_cases h0:a0=b0<;>by_cases h1:a1=b1<;>simp[h0,h1])
theorem sj (op:BinOp) (x y:Operand) (xs ys:Array Value) (w:World):(eqGuard op 33 x y (.agg xs) (.agg ys)).run Tryz.prog w= .ok () w:=run_eqGuard_agg w op 33 x y xs ys (by kernel_rfl)
theorem zD:Tryz.prog.stoodInHeld 35=false:=by kernel_rfl
theorem uo (a0 b0:Int) (a1 b1:Int) (a2 b2:Int) (a3 b3:Int) (a4 b4:Int) (w:World):(binOp .eql 35 (.agg #[(Value.int .i64 a0),(Value.int .i64 a1),(Value.int .i64 a2),(Value.int .i64 a3),(Value.int .i64 a4)]) (.agg #[(Value.int .i64 b0),(Value.int .i64 b1),(Value.int .i64 b2),(Value.int .i64 b3),(Value.int .i64 b4)])).run Tryz.prog w= .ok (.bool ((decide (a0=b0))&&(decide (a1=b1))&&(decide (a2=b2))&&(decide (a3=b3))&&(decide (a4=b4)))) w:=by
  simp[go_sem,zD,Tryz.underlying35,oM,oL]
  all_goals (by_cases h0:a0=b0<;>by_cases h1:a1=b1<;>by_cases h2:a2=b2<;>by_cases h3:a3=b3<;>by_cases h4:a4=b4<;>simp[h0,h1,h2,h3,h4])
theorem sW (a0 b0:Int) (a1 b1:Int) (a2 b2:Int) (a3 b3:Int) (a4 b4:Int) (w:World):(binOp .neq 35 (.agg #[(Value.int .i64 a0),(Value.int .i64 a1),(Value.int .i64 a2),(Value.int .i64 a3),(Value.int .i64 a4)]) (.agg #[(Value.int .i64 b0),(Value.int .i64 b1),(Value.int .i64 b2),(Value.int .i64 b3),(Value.int .i64 b4)])).run Tryz.prog w= .ok (.bool (!((decide (a0=b0))&&(decide (a1=b1))&&(decide (a2=b2))&&(decide (a3=b3))&&(decide (a4=b4))))) w:=by
  simp[go_sem,zD,Tryz.underlying35,oM,oL]
  all_goals (by_cases h0:a0=b0<;>by_cases h1:a1=b1<;>by_cases h2:a2=b2<;>by_cases h3:a3=b3<;>by_cases h4:a4=b4<;>simp[h0,h1,h2,h3,h4])
theorem qd (op:BinOp) (x y:Operand) (xs ys:Array Value) (w:World):(eqGuard op 35 x y (.agg xs) (.agg ys)).run Tryz.prog w= .ok () w:=run_eqGuard_agg w op 35 x y xs ys (by kernel_rfl)
theorem DA:Tryz.prog.stoodInHeld 64=false:=by kernel_rfl
theorem yF (a0 b0:List UInt8) (a1 b1:Int) (w:World):(binOp .neq 64 (.agg #[(aE a0),(Value.int .i64 a1)]) (.agg #[(aE b0),(Value.int .i64 b1)])).run Tryz.prog w= .ok (.bool (!((decide (a0=b0))&&(decide (a1=b1))))) w:=by
  simp[go_sem,DA,Tryz.underlying64,oM,oL]
  all_goals (by_cases h0:a0=b0<;>by_cases h1:a1=b1<;>simp[h0,h1])
theorem Bn (op:BinOp) (x y:Operand) (xs ys:Array Value) (w:World):(eqGuard op 64 x y (.agg xs) (.agg ys)).run Tryz.prog w= .ok () w:=run_eqGuard_agg w op 64 x y xs ys (by kernel_rfl)
theorem oe:rg Tryz.prog 132 4 72 (Value.agg #[(Value.int .i64 0),(Value.slice none 0 0),(aE ([]:List UInt8)),(Value.slice none 0 0)]):=p9 (by kernel_rfl) rfl
theorem pd:rg Tryz.prog 27 2 32 (Value.agg #[(Value.int .i64 0),(Value.slice none 0 0)]):=p9 (by kernel_rfl) rfl
theorem wh:rg Tryz.prog 3 1 8 (Value.int .i64 0):=p9 (by kernel_rfl) rfl
theorem jr:rg Tryz.prog 39 13 160 (Value.agg #[(Value.int .i64 0),(aE ([]:List UInt8)),(Value.int .i64 0),(Value.int .i64 0),(Value.int .i64 0),(Value.int .i64 0),(Value.int .i64 0),(Value.int .i64 0),(Value.int .i64 0),(Value.int .i64 0),(Value.slice none 0 0),(Value.slice none 0 0),(Value.slice none 0 0)]):=p9 (by kernel_rfl) rfl
theorem vj:rg Tryz.prog 62 3 32 (Value.agg #[(Value.int .i64 0),(Value.int .i64 0),(aE ([]:List UInt8))]):=p9 (by kernel_rfl) rfl
theorem nu:rg Tryz.prog 64 2 24 (Value.agg #[(aE ([]:List UInt8)),(Value.int .i64 0)]):=p9 (by kernel_rfl) rfl
theorem lZ:rg Tryz.prog 9 1 16 (aE ([]:List UInt8)):=p9 (by kernel_rfl) rfl
theorem Id:fy Tryz.prog 11:=⟨_,Tryz.func11,by kernel_rfl,by kernel_rfl⟩
theorem vW:fy Tryz.prog 110:=⟨_,Tryz.func110,by kernel_rfl,by kernel_rfl⟩
theorem Hb:fy Tryz.prog 116:=⟨_,Tryz.func116,by kernel_rfl,by kernel_rfl⟩
theorem Ic:fy Tryz.prog 12:=⟨_,Tryz.func12,by kernel_rfl,by kernel_rfl⟩
theorem Ha:fy Tryz.prog 125:=⟨_,Tryz.func125,by kernel_rfl,by kernel_rfl⟩
theorem G9:fy Tryz.prog 126:=⟨_,Tryz.func126,by kernel_rfl,by kernel_rfl⟩
theorem F6:fy Tryz.prog 14:=⟨_,Tryz.func14,by kernel_rfl,by kernel_rfl⟩
theorem vV:fy Tryz.prog 140:=⟨_,Tryz.func140,by kernel_rfl,by kernel_rfl⟩
theorem D8:fy Tryz.prog 142:=⟨_,Tryz.func142,by kernel_rfl,by kernel_rfl⟩
theorem G8:fy Tryz.prog 155:=⟨_,Tryz.func155,by kernel_rfl,by kernel_rfl⟩
theorem D7:fy Tryz.prog 157:=⟨_,Tryz.func157,by kernel_rfl,by kernel_rfl⟩
theorem G7:fy Tryz.prog 158:=⟨_,Tryz.func158,by kernel_rfl,by kernel_rfl⟩
theorem F5:fy Tryz.prog 17:=⟨_,Tryz.func17,by kernel_rfl,by kernel_rfl⟩
theorem zZ:fy Tryz.prog 18:=⟨_,Tryz.func18,by kernel_rfl,by kernel_rfl⟩
theorem G6:fy Tryz.prog 184:=⟨_,Tryz.func184,by kernel_rfl,by kernel_rfl⟩
theorem G5:fy Tryz.prog 185:=⟨_,Tryz.func185,by kernel_rfl,by kernel_rfl⟩
theorem Ib:fy Tryz.prog 19:=⟨_,Tryz.func19,by kernel_rfl,by kernel_rfl⟩
theorem G4:fy Tryz.prog 190:=⟨_,Tryz.func190,by kernel_rfl,by kernel_rfl⟩
theorem D6:fy Tryz.prog 192:=⟨_,Tryz.func192,by kernel_rfl,by kernel_rfl⟩
theorem vU:fy Tryz.prog 193:=⟨_,Tryz.func193,by kernel_rfl,by kernel_rfl⟩
theorem G3:fy Tryz.prog 197:=⟨_,Tryz.func197,by kernel_rfl,by kernel_rfl⟩
theorem G0:fy Tryz.prog 199:=⟨_,Tryz.func199,by kernel_rfl,by kernel_rfl⟩
theorem GZ:fy Tryz.prog 200:=⟨_,Tryz.func200,by kernel_rfl,by kernel_rfl⟩
theorem GY:fy Tryz.prog 201:=⟨_,Tryz.func201,by kernel_rfl,by kernel_rfl⟩
theorem GX:fy Tryz.prog 203:=⟨_,Tryz.func203,by kernel_rfl,by kernel_rfl⟩
theorem GW:fy Tryz.prog 204:=⟨_,Tryz.func204,by kernel_rfl,by kernel_rfl⟩
theorem GV:fy Tryz.prog 208:=⟨_,Tryz.func208,by kernel_rfl,by kernel_rfl⟩
theorem D5:fy Tryz.prog 210:=⟨_,Tryz.func210,by kernel_rfl,by kernel_rfl⟩
theorem GU:fy Tryz.prog 212:=⟨_,Tryz.func212,by kernel_rfl,by kernel_rfl⟩
theorem GT:fy Tryz.prog 213:=⟨_,Tryz.func213,by kernel_rfl,by kernel_rfl⟩
theorem GS:fy Tryz.prog 214:=⟨_,Tryz.func214,by kernel_rfl,by kernel_rfl⟩
theorem A7:fy Tryz.prog 218:=⟨_,Tryz.func218,by kernel_rfl,by kernel_rfl⟩
theorem F4:fy Tryz.prog 22:=⟨_,Tryz.func22,by kernel_rfl,by kernel_rfl⟩
theorem GR:fy Tryz.prog 225:=⟨_,Tryz.func225,by kernel_rfl,by kernel_rfl⟩
theorem vT:fy Tryz.prog 227:=⟨_,Tryz.func227,by kernel_rfl,by kernel_rfl⟩
theorem GQ:fy Tryz.prog 230:=⟨_,Tryz.func230,by kernel_rfl,by kernel_rfl⟩
theorem GP:fy Tryz.prog 231:=⟨_,Tryz.func231,by kernel_rfl,by kernel_rfl⟩
theorem GN:fy Tryz.prog 232:=⟨_,Tryz.func232,by kernel_rfl,by kernel_rfl⟩
theorem GM:fy Tryz.prog 233:=⟨_,Tryz.func233,by kernel_rfl,by kernel_rfl⟩
theorem GL:fy Tryz.prog 234:=⟨_,Tryz.func234,by kernel_rfl,by kernel_rfl⟩
theorem GK:fy Tryz.prog 235:=⟨_,Tryz.func235,by kernel_rfl,by kernel_rfl⟩
theorem vR:fy Tryz.prog 242:=⟨_,Tryz.func242,by kernel_rfl,by kernel_rfl⟩
theorem yr:fy Tryz.prog 258:=⟨_,Tryz.func258,by kernel_rfl,by kernel_rfl⟩
theorem GJ:fy Tryz.prog 271:=⟨_,Tryz.func271,by kernel_rfl,by kernel_rfl⟩
theorem F3:fy Tryz.prog 30:=⟨_,Tryz.func30,by kernel_rfl,by kernel_rfl⟩
theorem F2:fy Tryz.prog 33:=⟨_,Tryz.func33,by kernel_rfl,by kernel_rfl⟩
theorem qw:fy Tryz.prog 34:=⟨_,Tryz.func34,by kernel_rfl,by kernel_rfl⟩
theorem Ia:fy Tryz.prog 36:=⟨_,Tryz.func36,by kernel_rfl,by kernel_rfl⟩
theorem H9:fy Tryz.prog 41:=⟨_,Tryz.func41,by kernel_rfl,by kernel_rfl⟩
theorem F0:fy Tryz.prog 42:=⟨_,Tryz.func42,by kernel_rfl,by kernel_rfl⟩
theorem H8:fy Tryz.prog 61:=⟨_,Tryz.func61,by kernel_rfl,by kernel_rfl⟩
theorem zY:fy Tryz.prog 68:=⟨_,Tryz.func68,by kernel_rfl,by kernel_rfl⟩
theorem FZ:fy Tryz.prog 69:=⟨_,Tryz.func69,by kernel_rfl,by kernel_rfl⟩
theorem uj:fy Tryz.prog 70:=⟨_,Tryz.func70,by kernel_rfl,by kernel_rfl⟩
theorem sO:fy Tryz.prog 71:=⟨_,Tryz.func71,by kernel_rfl,by kernel_rfl⟩
theorem FY:fy Tryz.prog 72:=⟨_,Tryz.func72,by kernel_rfl,by kernel_rfl⟩
theorem zX:fy Tryz.prog 75:=⟨_,Tryz.func75,by kernel_rfl,by kernel_rfl⟩
theorem H7:fy Tryz.prog 82:=⟨_,Tryz.func82,by kernel_rfl,by kernel_rfl⟩
theorem oG:(Tryz.prog.info? 132).map (·.size)=some 4:=by kernel_rfl
theorem DE:(Tryz.prog.info? 2).map (·.size)=some 1:=by kernel_rfl
theorem BN:(Tryz.prog.info? 25).map (·.size)=some 1:=by kernel_rfl
theorem bt:(Tryz.prog.info? 27).map (·.size)=some 2:=by kernel_rfl
theorem jK:(Tryz.prog.info? 28).map (·.size)=some 1:=by kernel_rfl
theorem jt:(Tryz.prog.info? 3).map (·.size)=some 1:=by kernel_rfl
theorem mY:(Tryz.prog.info? 33).map (·.size)=some 2:=by kernel_rfl
theorem cD:(Tryz.prog.info? 35).map (·.size)=some 5:=by kernel_rfl
theorem sD:(Tryz.prog.info? 36).map (·.size)=some 1:=by kernel_rfl
theorem Fd:(Tryz.prog.info? 37).map (·.size)=some 1:=by kernel_rfl
theorem aC:(Tryz.prog.info? 39).map (·.size)=some 13:=by kernel_rfl
theorem rj:(Tryz.prog.info? 64).map (·.size)=some 2:=by kernel_rfl
theorem aG:(Tryz.prog.info? 72).map (·.size)=some 5:=by kernel_rfl
theorem oF:(Tryz.prog.info? 9).map (·.size)=some 1:=by kernel_rfl
theorem BM:(Tryz.prog.info? 93).map (·.size)=some 1:=by kernel_rfl
theorem Df:(Tryz.prog.info? 132).bind (·.zero)=some (Value.agg #[(Value.int .i64 0),(Value.slice none 0 0),(aE ([]:List UInt8)),(Value.slice none 0 0)]):=by kernel_rfl
theorem lg:(Tryz.prog.info? 27).bind (·.zero)=some (Value.agg #[(Value.int .i64 0),(Value.slice none 0 0)]):=by kernel_rfl
theorem BB:(Tryz.prog.info? 28).bind (·.zero)=some (Value.int .i64 0):=by kernel_rfl
theorem De:(Tryz.prog.info? 3).bind (·.zero)=some (Value.int .i64 0):=by kernel_rfl
theorem pP:(Tryz.prog.info? 33).bind (·.zero)=some (Value.agg #[(Value.int .i64 0),(Value.int .i64 0)]):=by kernel_rfl
theorem EX:(Tryz.prog.info? 35).bind (·.zero)=some (Value.agg #[(Value.int .i64 0),(Value.int .i64 0),(Value.int .i64 0),(Value.int .i64 0),(Value.int .i64 0)]):=by kernel_rfl
theorem dN:(Tryz.prog.info? 39).bind (·.zero)=some (Value.agg #[(Value.int .i64 0),(aE ([]:List UInt8)),(Value.int .i64 0),(Value.int .i64 0),(Value.int .i64 0),(Value.int .i64 0),(Value.int .i64 0),(Value.int .i64 0),(Value.int .i64 0),(Value.int .i64 0),(Value.slice none 0 0),(Value.slice none 0 0),(Value.slice none 0 0)]):=by kernel_rfl
theorem EW:(Tryz.prog.info? 72).bind (·.zero)=some (Value.agg #[(Value.slice none 0 0),(Value.int .i64 0),(Value.int .i64 0),(Value.int .i64 0),(Value.int .i64 0)]):=by kernel_rfl
variable {σ:Type} {C0 F:NP} {w0:World} {a1 a2 a3 a4 a5 a6 a7 a8 a9 a10 a11 a12:Option Addr} {b1 b2 b3 b4 b5 b6 b7 b8 b9 b10 b11 b12 c1 c2 c3 c4 c5 c6 c7 c8 c9 c10 c11 c12:Nat}
theorem xv (hF:dG F w0) {c1:Int} (hc:AllCl [] F w0) {r:Bool} (h:n0 c1=some r):CR F w0 94 #[(Value.int .u8 c1)] (vb r) []:=by
 refine EN Tryz.func94 Tryz.ntmps94 hF hc fun hI=> ?_
 rw[n0]at h
 exact RF
theorem td (hF:dG F w0) {s1:List UInt8} {at1:Int} (hc:AllCl [] F w0) {r:Int} (h:mb s1 at1=some r):CR F w0 46 #[(aE s1),vi at1] (vi r) []:=by
 refine EN Tryz.func46 Tryz.ntmps46 hF hc fun hI=> ?_
 rw[mb]at h
 refine T ?_
 refine al (T ?_)
 refine bh (α:=Nat×Int) (fun x=>fun w=>∃ C,Bun du F w0 C w [] []∧fO s1 (x.1) (x.2)=some r) (fun x _=>x.1) (fun x=>[(0,(aE s1)),(1,vi (x.2))]) (fu,at1) BH SB ?_
 clear h hI;rintro⟨fuel1,at2⟩ w1 ⟨c1,hI,h⟩
 dsimp only at hI h ⊢
 rcases fuel1 with _ | fuel1
 ·rw[fO]at h;cases h
 rw[fO]at h
 refine al (T ?_)
 refine TC (fun hb h=> ?_) fun hb h=> ?_
 ·refine T ?_
  obtain⟨b1,hx1,h⟩:=ae h
  refine sI ?_
  refine sB h (fun _ k=>xv hI.lt trivial k) (Rc Tryz.func94) fun r1 w2 h hI=> ?_
  refine TC (fun hb h=> ?_) fun hb h=> ?_
  ·refine T ?_
   refine aM ?_
   exact kl (fuel1,ar (at2+1))
  refine T ?_
  obtain⟨b2,hx4,h⟩:=ae h
  refine sI ?_
  refine TC (fun hb h=> ?_) fun hb h=> ?_
  ·refine T ?_
   refine bh (α:=Nat×Int) (fun x=>fun w=>∃ C,Bun du F w0 C w [] []∧iC s1 (fO s1 fuel1) (x.1) (x.2)=some r) (fun x _=>x.1) (fun x=>[(0,(aE s1)),(1,vi (x.2))]) (fu,at2) BH SB ?_
   clear h hI;rintro⟨fuel2,at3⟩ w3 ⟨c2,hI,h⟩
   dsimp only at hI h ⊢
   rcases fuel2 with _ | fuel2
   ·rw[iC]at h;cases h
   rw[iC]at h
   refine al (T ?_)
   obtain⟨b3,hx5,h⟩:=ae h
   replace hx5:=ay hx5
   refine sJ ?_
   refine TC (fun hb h=> ?_) fun hb h=> ?_
   ·refine T ?_
    refine aM ?_
    exact kl (fuel2,ar (at3+1))
   refine bk ?_
   refine eU ?_
   exact kl (fuel1,at3)
  exact RF
 refine bk ?_
 refine eU ?_
 refine bb ?_
 exact RF
theorem oP (hF:dG F w0) {c1:Int} (hc:AllCl [] F w0) {r:Bool} (h:lL c1=some r):CR F w0 95 #[(Value.int .u8 c1)] (vb r) []:=by
 refine EN Tryz.func95 Tryz.ntmps95 hF hc fun hI=> ?_
 rw[lL]at h
 exact RF
theorem rQ (hF:dG F w0) {c1:Int} (hc:AllCl [] F w0) {r:Bool} (h:nZ c1=some r):CR F w0 96 #[(Value.int .u8 c1)] (vb r) []:=by
 refine EN Tryz.func96 Tryz.ntmps96 hF hc fun hI=> ?_
 rw[nZ]at h
 exact RF
theorem As (hF:dG F w0) {s1:List UInt8} (hc:AllCl [] F w0) {r:Int×Int} (h:oa s1=some r):CR F w0 47 #[(aE s1)] (Value.tuple #[vi r.1,vi r.2]) []:=by
 refine EN Tryz.func47 Tryz.ntmps47 hF hc fun hI=> ?_
 rw[oa]at h
 refine T ?_
 refine al (T ?_)
 obtain⟨b1,hx1,h⟩:=ae h
 replace hx1:=ay hx1
 refine sJ ?_
 obtain⟨r1,hx2,h⟩:=ae h
 replace hx2:=ay hx2
 refine sU (fun hc=>oP hI.lt trivial (hx2 hc)) (Rg Tryz.func95) fun w1 hI=> ?_
 refine T ?_
 obtain⟨b2,hx4,h⟩:=ae h
 replace hx4:=ay hx4
 refine sJ ?_
 obtain⟨r2,hx5,h⟩:=ae h
 replace hx5:=ay hx5
 refine sU (fun hc=>rQ hI.lt trivial (hx5 hc)) (Rg Tryz.func96) fun w2 hI=> ?_
 refine TR fun hb h=> ?_
 refine T ?_
 refine bw (α:=Int) (fun _=>⟨53,[]⟩) (fun x=>[(0,(aE s1)),(4,vi x)]) (fun x=>fun w=>∃ C,Bun du F w0 C w [] []∧nb s1 x=some r) ?_ ?_
 ·clear h hI;rintro kind1 w3 ⟨c1,hI,h⟩
  try dsimp only at hI h ⊢
  rw[nb]at h
  refine T ?_
  refine al (T ?_)
  refine bh (α:=Nat×Int) (fun x=>fun w=>∃ C,Bun du F w0 C w [] []∧gx s1 kind1 (x.1) (x.2)=some r) (fun x _=>x.1) (fun x=>[(0,(aE s1)),(4,vi kind1),(5,vi (x.2))]) (fu,0) BH SB ?_
  clear h hI;rintro⟨fuel1,n1⟩ w4 ⟨c2,hI,h⟩
  dsimp only at hI h ⊢
  rcases fuel1 with _ | fuel1
  ·rw[gx]at h;cases h
  rw[gx]at h
  refine al (T ?_)
  obtain⟨b3,hx7,h⟩:=ae h
  replace hx7:=ay hx7
  refine sJ ?_
  obtain⟨r3,hx8,h⟩:=ae h
  replace hx8:=ay hx8
  refine sU (fun hc=>rQ hI.lt trivial (hx8 hc)) (Rg Tryz.func96) fun w5 hI=> ?_
  refine T ?_
  obtain⟨b4,hx10,h⟩:=ae h
  replace hx10:=ay hx10
  refine sJ ?_
  obtain⟨r4,hx11,h⟩:=ae h
  replace hx11:=ay hx11
  refine sU (fun hc=>oP hI.lt trivial (hx11 hc)) (Rg Tryz.func95) fun w6 hI=> ?_
  refine T ?_
  obtain⟨b5,hx13,h⟩:=ae h
  replace hx13:=ay hx13
  refine sJ ?_
  refine TC (fun hb h=> ?_) fun hb h=> ?_
  ·refine T ?_
   refine aM ?_
   exact kl (fuel1,ar (n1+1))
  refine bk ?_
  refine eU ?_
  refine bb ?_
  exact RF
 refine T ?_
 obtain⟨b6,hx14,h⟩:=ae h
 refine sI ?_
 refine sB h (fun _ k=>oP hI.lt trivial k) (Rc Tryz.func95) fun r5 w7 h hI=> ?_
 refine TC (fun hb h=> ?_) fun hb h=> ?_
 ·refine T ?_
  refine aM ?_
  exact kj 1
 exact bf (bi 2 SB BH rfl)
theorem uM (hF:dG F w0) (hc:AllCl [] F w0) {r:List (List UInt8)} (h:mJ=some r):Cg 97 #[] w0 fun e w=>∃ a1 c1,e= .returned (vs a1 r.length c1)∧Ext w0 w∧AllCl [Cl.sl dF a1 c1 r] F w:=by
 refine EN Tryz.func97 Tryz.ntmps97 hF hc fun hI=> ?_
 rw[mJ]at h
 refine T ?_
 refine ll hI dF ([([60,61]:List UInt8),([61,61]:List UInt8),([40]:List UInt8),([41]:List UInt8),([91]:List UInt8),([93]:List UInt8),([123]:List UInt8),([125]:List UInt8),([44]:List UInt8),([59]:List UInt8),([58]:List UInt8),([43]:List UInt8),([45]:List UInt8),([42]:List UInt8),([47]:List UInt8),([60]:List UInt8),([61]:List UInt8),([38]:List UInt8),([124]:List UInt8),([33]:List UInt8),([46]:List UInt8),([64]:List UInt8)]:List (List UInt8)) lZ Rr fun b1 c2 w1 hI=> ?_
 refine T ?_
 refine aA ?_
 obtain⟨c3,hI⟩:=hI.release .z
 obtain rfl:=aj h
 refine QG ?_
 exact⟨some ⟨b1,0,none⟩,22,rfl,hI.ext0,hI.fin ⟨.z,trivial⟩⟩
theorem wJ (hF:dG F w0) {s1:List UInt8} (hc:AllCl [] F w0) {r:Int} (h:lK s1=some r):CR F w0 48 #[(aE s1)] (vi r) []:=by
 refine EN Tryz.func48 Tryz.ntmps48 hF hc fun hI=> ?_
 rw[lK]at h
 refine T ?_
 obtain⟨r1,hx1,h⟩:=ae h
 refine aB gn rfl (Rc Tryz.func97) (Calls.mono (uM hI.lt trivial hx1) ?_)
 rintro _ w1 ⟨a1,c1,rfl,hx2,hl1⟩
 refine⟨_,rfl,?_⟩
 replace hI:=(hI.ext hx2).adds hl1;dsimp only[ca,na]at hI
 refine T ?_
 refine al (T ?_)
 refine bh (α:=Nat×Int) (fun x=>fun w=>∃ C,Bun du F w0 C w [] [Cl.sl dF a1 c1 r1]∧fA r1 s1 (x.1) (x.2)=some r) (fun x _=>x.1) (fun x=>[(0,(aE s1)),(3,vs a1 r1.length c1),(4,vi (x.2))]) (fu,0) BH SB ?_
 clear h hI;rintro⟨fuel1,i1⟩ w2 ⟨c2,hI,h⟩
 dsimp only at hI h ⊢
 rcases fuel1 with _ | fuel1
 ·rw[fA]at h;cases h
 rw[fA]at h
 refine al (T ?_)
 refine TC (fun hb h=> ?_) fun hb h=> ?_
 ·refine T ?_
  refine al (T ?_)
  refine al (aI [] false (.c (0,.q) (.c (1,.q) (.c (2,.q) (.c (3,.q) (.c (4,.q) (.c (5,.q) (.c (6,.q) (.c (7,.q) (.c (8,.q) (.c (9,.q) (.c (10,.q) (.c (11,.q) (.c (12,.q) (.c (13,.q) (.c (14,.q) (.c (15,.q) (.c (16,.q) (.c (17,.q) (.c (18,.q) (.c (19,.q) (.c (20,.q) (.c (21,.q) .n)))))))))))))))))))))) hI (by kernel_rfl) (by kernel_rfl) ?_)
  intro w3 hI
  refine V ?_
  obtain⟨e1,hx3,h⟩:=ae h
  obtain⟨ad1,cs1,hA1,hr1,hq1⟩:=hI.clat .z hx3
  obtain rfl:cs1=[(aE e1)]:=hr1
  refine vI ?_
  refine V ?_
  obtain⟨e2,hx4,h⟩:=ae h
  replace hx4:=ay hx4
  obtain⟨ad2,cs2,hq2⟩:=hI.gclat .z hx4
  have hq3:(decide ((e1.length:Int)≤(s1.length:Int)))=true→CA (Dj F c2) w3 (ad2.add (Int.toNat i1 * 1)) [(aE e2)]:=fun hc=>uq (hq2 hc).2.1 (hq2 hc).2.2
  refine vJ ?_
  refine V ?_
  obtain⟨s2,hx5,h⟩:=ae h
  replace hx5:=ay hx5
  refine vJ ?_
  refine V ?_
  obtain⟨e3,hx6,h⟩:=ae h
  replace hx6:=ay hx6
  obtain⟨ad3,cs3,hq4⟩:=hI.gclat .z hx6
  have hq5:(decide ((e1.length:Int)≤(s1.length:Int)))=true→CA (Dj F c2) w3 (ad3.add (Int.toNat i1 * 1)) [(aE e3)]:=fun hc=>uq (hq4 hc).2.1 (hq4 hc).2.2
  refine vJ ?_
  refine V ?_
  refine TC (fun hb h=> ?_) fun hb h=> ?_
  ·refine T ?_
   obtain⟨e4,hx7,h⟩:=ae h
   obtain⟨ad4,cs4,hA4,hr4,hq6⟩:=hI.clat .z hx7
   obtain rfl:cs4=[(aE e4)]:=hr4
   refine sI ?_
   exact RF
  refine T ?_
  refine aM ?_
  exact kl (fuel1,ar (i1+1))
 refine bk ?_
 refine eU ?_
 refine bb ?_
 exact RF
theorem pG (hF:dG F w0) {s1:List UInt8} (hc:AllCl [] F w0) {r:List aS×Int×Int} (h:jb s1=some r):Cg 22 #[(aE s1)] w0 fun e w=>∃ a1 c1,e= .returned (Value.tuple #[vs a1 r.1.length c1,vi r.2.1,vi r.2.2])∧Ext w0 w∧AllCl [Cl.sl ag a1 c1 r.1] F w:=by
 refine EN Tryz.func22 Tryz.ntmps22 hF hc fun hI=> ?_
 rw[jb]at h
 refine T ?_
 refine al (T ?_)
 refine TC (fun hb h=> ?_) fun hb h=> ?_
 ·refine T ?_
  refine aA ?_
  have hI:=hI.add (c:=Cl.sl ag none 0 ([]:List aS)) SlC.nil
  obtain rfl:=aj h
  refine QG ?_
  exact⟨none,0,rfl,hI.ext0,hI.fin ⟨.z,trivial⟩⟩
 refine T ?_
 refine al (T ?_)
 refine sB h (fun _ k=>td hI.lt trivial k) (Rc Tryz.func46) fun r1 w1 h hI=> ?_
 refine T ?_
 have hI:=hI.nil ag 62 none
 refine bh (α:=Nat×(List aS)×Int×(Option Addr)×Nat) (fun x=>fun w=>∃ C,Bun du F w0 C w [MO.row ag 62 (x.2.2.2.1) (x.2.2.2.2) (x.2.1)] []∧cN s1 (x.1) (x.2.1) (x.2.2.1)=some r) (fun x _=>x.1) (fun x=>[(0,(aE s1)),(5,vs (x.2.2.2.1) (x.2.1).length (x.2.2.2.2)),(6,vi (x.2.2.1))]) (fu,([]:List aS),r1,none,0) BH SB ?_
 clear h hI;rintro⟨fuel1,bg,at1,a2,c2⟩ w2 ⟨c3,hI,h⟩
 dsimp only at hI h ⊢
 rcases fuel1 with _ | fuel1
 ·rw[cN]at h;cases h
 rw[cN]at h
 refine al (T ?_)
 refine TC (fun hb h=> ?_) fun hb h=> ?_
 ·refine T ?_
  refine al (T ?_)
  obtain⟨s2,hx3,h⟩:=ae h
  refine sI ?_
  refine sB h (fun _ k=>As hI.lt trivial k) (Rc Tryz.func47) fun r2 w3 h hI=> ?_
  refine T ?_
  refine bw (α:=Int×Int) (fun _=>⟨60,[]⟩) (fun x=>[(0,(aE s1)),(5,vs a2 bg.length c2),(6,vi at1),(7,vi (x.1)),(8,vi (x.2))]) (fun x=>fun w=>∃ C,Bun du F w0 C w [MO.row ag 62 a2 c2 bg] []∧gH at1 s1 bg (cN s1 fuel1) (x.1) (x.2)=some r) ?_ ?_
  ·clear h hI;rintro⟨n1,kind1⟩ w4 ⟨c4,hI,h⟩
   try dsimp only at hI h ⊢
   rw[gH]at h
   refine al (T ?_)
   refine TC (fun hb h=> ?_) fun hb h=> ?_
   ·refine T ?_
    refine aA ?_
    have hI:=hI.add (c:=Cl.sl ag none 0 ([]:List aS)) SlC.nil
    obtain rfl:=aj h
    refine QG ?_
    exact⟨none,0,rfl,hI.ext0,hI.fin ⟨.z,trivial⟩⟩
   refine T ?_
   refine al (T ?_)
   refine TC (fun hb h=> ?_) fun hb h=> ?_
   ·refine T ?_
    refine aA ?_
    have hI:=hI.add (c:=Cl.sl ag none 0 ([]:List aS)) SlC.nil
    obtain rfl:=aj h
    refine QG ?_
    exact⟨none,0,rfl,hI.ext0,hI.fin ⟨.z,trivial⟩⟩
   refine T ?_
   obtain⟨s3,hx6,h⟩:=ae h
   refine sq (Dh rfl u9 et et et hx6) ?_
   refine sq (ax (vs:=[(0,vi kind1),(1,vi at1),(2,(aE s3))]) (cs:=#[vi kind1,vi at1,(aE s3)]) rfl ⟨rfl,et,⟨rfl,et,⟨rfl,et,trivial⟩⟩⟩ (by kernel_rfl)) ?_
   refine ll hI ag ([(⟨kind1,at1,s3⟩:aS)]:List aS) vj Rr fun b1 c5 w5 hI=> ?_
   obtain⟨zs1,hx7,h⟩:=ae h
   refine lY (xs:=bg) (ys:=([(⟨kind1,at1,s3⟩:aS)]:List aS)) hI (.s .z) (hI.rd .z) hx7 gn rfl rfl HT vj rfl rfl et et ?_
   intro a3 c6 c7 w6 hI
   refine T ?_
   refine sB h (fun _ k=>td hI.lt trivial k) (Rc Tryz.func46) fun r3 w7 h hI=> ?_
   refine sa ?_
   refine aM ?_
   exact kl (fuel1,zs1,r3,a3,c6)
  refine TC (fun hb h=> ?_) fun hb h=> ?_
  ·refine T ?_
   obtain⟨s4,hx10,h⟩:=ae h
   refine sI ?_
   refine sB h (fun _ k=>wJ hI.lt trivial k) (Rc Tryz.func48) fun r4 w8 h hI=> ?_
   refine T ?_
   refine aM ?_
   exact kj (r4,3)
  exact bf (bi (r2.1,r2.2) SB BH rfl)
 refine bk ?_
 refine eU ?_
 refine bb ?_
 refine T ?_
 refine aA ?_
 obtain⟨c8,hI⟩:=hI.release .z
 obtain rfl:=aj h
 refine QG ?_
 exact⟨a2,c2,rfl,hI.ext0,hI.fin ⟨.z,trivial⟩⟩
theorem dT (hF:dG F w0) {r1:aa} {kind1:Int} {s1:List UInt8} (hc:AllCl [Cl.sl ag a1 c1 r1.l,Cl.blk b1 67 (af r1 a1 c1)] F w0) {r:Bool} (h:bZ r1 kind1 s1=some r):CR F w0 121 #[vp b1 0,vi kind1,(aE s1)] (vb r) []:=by
 refine EN Tryz.func121 Tryz.ntmps121 hF hc fun hI=> ?_
 rw[bZ]at h
 refine T ?_
 refine al (aI [] false (.c (0,.q) (.c (1,.q) (.c (2,.q) (.c (3,.q) (.c (4,.q) (.c (5,.q) (.c (6,.q) (.c (7,.q) (.c (8,.q) (.c (9,.q) (.c (10,.q) (.c (11,.q) (.c (12,.q) (.c (13,.q) (.c (14,.q) (.c (15,.q) (.c (16,.q) (.c (17,.q) (.c (18,.q) (.c (19,.q) (.c (20,.q) (.c (21,.q) (.c (22,.q) (.c (23,.q) (.c (24,.q) (.c (25,.q) (.c (26,.q) (.c (27,.q) (.c (28,.q) (.c (29,.q) (.c (30,.q) (.c (31,.q) (.c (32,.q) (.c (33,.q) (.c (34,.q) (.c (35,.q) (.c (36,.q) (.c (37,.q) (.c (38,.q) (.c (39,.q) (.c (40,.q) .n))))))))))))))))))))))))))))))))))))))))) hI (by kernel_rfl) (by kernel_rfl) ?_)
 intro w1 hI
 refine V ?_
 obtain⟨e1,hx1,h⟩:=ae h
 replace hx1:=ay hx1
 obtain⟨ad1,cs1,hq1⟩:=hI.gclat .z hx1
 have hq2:(decide (r1.at_<(r1.l.length:Int)))=true→CA (Dj F du) w1 (ad1.add (Int.toNat r1.at_ * 3)) (kx e1):=fun hc=>uq (hq1 hc).2.1 (hq1 hc).2.2
 refine vJ ?_
 refine V ?_
 obtain⟨e2,hx2,h⟩:=ae h
 replace hx2:=ay hx2
 obtain⟨ad2,cs2,hq3⟩:=hI.gclat .z hx2
 have hq4:((decide (r1.at_<(r1.l.length:Int)))&&(decide (e1.Kind=kind1)))=true→CA (Dj F du) w1 (ad2.add (Int.toNat r1.at_ * 3)) (kx e2):=fun hc=>uq (hq3 hc).2.1 (hq3 hc).2.2
 refine vJ ?_
 refine V ?_
 exact RF
theorem oQ (hF:dG F w0) {r1:Int} (hc:AllCl [] F w0) {r:Bool} (h:ij r1=some r):CR F w0 156 #[(Value.int .i32 r1)] (vb r) []:=by
 refine EN Tryz.func156 Tryz.ntmps156 hF hc fun hI=> ?_
 rw[ij]at h
 exact RF
theorem oD (hF:dG F w0) {s1:List UInt8} {ok1:(Int→Option Bool)} {fv1:Value} (hc:AllCl [rv fv1 ok1] F w0) {r:Int} (h:iS s1 ok1=some r):CR F w0 154 #[(aE s1),fv1] (vi r) []:=by
 refine EN Tryz.func154 Tryz.ntmps154 hF hc fun hI=> ?_
 rw[iS]at h
 refine T ?_
 refine al (T ?_)
 refine bh (α:=Nat×Int) (fun x=>fun w=>∃ C,Bun du F w0 C w [] [rv fv1 ok1]∧eT s1 ok1 (x.1) (x.2)=some r) (fun x _=>x.1) (fun x=>[(0,(aE s1)),(1,fv1),(5,vi (x.2))]) (fu,0) BH SB ?_
 clear h hI;rintro⟨fuel1,n1⟩ w1 ⟨c1,hI,h⟩
 dsimp only at hI h ⊢
 rcases fuel1 with _ | fuel1
 ·rw[eT]at h;cases h
 rw[eT]at h
 refine al (T ?_)
 obtain⟨b1,hx1,h⟩:=ae h
 replace hx1:=ay hx1
 refine sJ ?_
 refine T ?_
 obtain⟨r1,hx2,h⟩:=ae h
 replace hx2:=ay hx2
 refine DH (u:=(vb r1)) (args:=[(Value.int .i32 (qF b1))]) (aT rfl rfl rfl rfl) rfl rfl (fun hc=>(aQ et hc)) (fun hc=>⟨(aQ et hc),trivial⟩) (fun hc=>CallV.mono ((hI.get .z).2 (Dj F c1) w1 (Sp.of_ext .rfl') hI.lt (qF b1) r1 trivial (hx2 hc)) fun _ _ k=>⟨k.1,k.2.1⟩) ?_
 intro w2 hx3;replace hI:=hI.ext hx3
 refine TC (fun hb h=> ?_) fun hb h=> ?_
 ·refine T ?_
  refine aM ?_
  exact kl (fuel1,ar (n1+1))
 refine bk ?_
 refine eU ?_
 refine bb ?_
 exact RF
theorem pu (hF:dG F w0) {r1:Int} (hc:AllCl [] F w0) {r:Bool} (h:iZ r1=some r):CR F w0 158 #[(Value.int .i32 r1)] (vb r) []:=by
 refine EN Tryz.func158 Tryz.ntmps158 hF hc fun hI=> ?_
 rw[iZ]at h
 exact RF
theorem qX (hF:dG F w0) {r1:Int} (hc:AllCl [] F w0) {r:Bool} (h:dX r1=some r):CR F w0 157 #[(Value.int .i32 r1)] (vb r) []:=by
 refine EN Tryz.func157 Tryz.ntmps157 hF hc fun hI=> ?_
 rw[dX]at h
 refine T ?_
 refine sB h (fun _ k=>oQ hI.lt trivial k) (Rc Tryz.func156) fun r2 w1 h hI=> ?_
 refine T ?_
 obtain⟨r3,hx3,h⟩:=ae h
 replace hx3:=ay hx3
 refine sU (fun hc=>pu hI.lt trivial (hx3 hc)) (Rg Tryz.func158) fun w2 hI=> ?_
 exact RF
theorem tV (hF:dG F w0) (hc:AllCl [av] F w0) {r:List (List UInt8)} (h:mh=some r):Cg 241 #[] w0 fun e w=>∃ a1 c1,e= .returned (vs a1 r.length c1)∧Ext w0 w∧AllCl [Cl.sl dF a1 c1 r] F w:=by
 refine EN Tryz.func241 Tryz.ntmps241 hF hc fun hI=> ?_
 rw[mh]at h
 refine T ?_
 obtain⟨r1,hx1,h⟩:=ae h
 refine aB gn rfl (Rc Tryz.func247) (Calls.mono (tR (Dj F du) w0 hI.lt ([115,105,122,101,32,119,104,101,114,101,32,105,110,32,100,101,102,32,111,117,116,32,115,117,109,32,112,114,111,100,32,109,105,110,32,109,97,120,32,115,99,97,110,32,111,118,101,114,32,105,102,32,99,97,115,116,32,102,114,97,99,32,105,110,116,32,102,105,120,32,99,101,105,108,32,102,108,111,111,114,32,122,101,114,111,32,101,118,101,110,32,115,97,116,32,119,114,97,112]:List UInt8) ⟨(hI.get .z),trivial⟩ r1 hx1) ?_)
 rintro _ w1 ⟨a2,c2,rfl,hx2,hl1⟩
 refine⟨_,rfl,?_⟩
 replace hI:=(hI.ext hx2).adds hl1;dsimp only[ca,na]at hI
 refine T ?_
 refine aA ?_
 obtain rfl:=aj h
 refine QG ?_
 exact⟨a2,c2,rfl,hI.ext0,hI.fin ⟨.z,trivial⟩⟩
theorem ou (hF:dG F w0) {s1:List (List UInt8)} {v1:List UInt8} (hc:AllCl [Cl.sl dF a1 c1 s1] F w0) {r:Int} (h:fL s1 v1=some r):CR F w0 246 #[vs a1 s1.length c1,(aE v1)] (vi r) []:=by
 refine EN Tryz.func246 Tryz.ntmps246 hF hc fun hI=> ?_
 rw[fL]at h
 refine T ?_
 refine al (T ?_)
 refine bh (α:=Nat×Int) (fun x=>fun w=>∃ C,Bun du F w0 C w [] [Cl.sl dF a1 c1 s1]∧bj s1 v1 (x.1) (x.2)=some r) (fun x _=>x.1) (fun x=>[(0,vs a1 s1.length c1),(1,(aE v1)),(7,vi (s1.length:Int)),(8,vi (x.2))]) (fu,0) BH SB ?_
 clear h hI;rintro⟨fuel1,i1⟩ w1 ⟨c2,hI,h⟩
 dsimp only at hI h ⊢
 rcases fuel1 with _ | fuel1
 ·rw[bj]at h;cases h
 rw[bj]at h
 refine T ?_
 refine al (vm h et (fun hb h=> ?_) (fun hb h=> ?_))
 ·refine T ?_
  refine al (T ?_)
  obtain⟨e1,hx1,h⟩:=ae h
  obtain⟨ad1,cs1,hA1,hr1,hq1⟩:=hI.clat .z hx1
  obtain rfl:cs1=[(aE e1)]:=hr1
  refine sI ?_
  refine TR fun hb h=> ?_
  refine T ?_
  refine aM ?_
  exact kl (fuel1,ar (i1+1))
 refine bk ?_
 refine eU ?_
 refine bb ?_
 exact RF
theorem nF (hF:dG F w0) {s1:List (List UInt8)} {v1:List UInt8} (hc:AllCl [Cl.sl dF a1 c1 s1] F w0) {r:Bool} (h:dl s1 v1=some r):CR F w0 240 #[vs a1 s1.length c1,(aE v1)] (vb r) []:=by
 refine EN Tryz.func240 Tryz.ntmps240 hF hc fun hI=> ?_
 rw[dl]at h
 refine T ?_
 refine sB h (fun _ k=>ou hI.lt FS k) (Rc Tryz.func246) fun r1 w1 h hI=> ?_
 exact RF
theorem th (hF:dG F w0) {s1:List UInt8} (hc:AllCl [av] F w0) {r:Bool} (h:jP s1=some r):CR F w0 222 #[(aE s1)] (vb r) []:=by
 refine EN Tryz.func222 Tryz.ntmps222 hF hc fun hI=> ?_
 rw[jP]at h
 refine T ?_
 obtain⟨r1,hx1,h⟩:=ae h
 refine aB gn rfl (Rc Tryz.func241) (Calls.mono (tV hI.lt FS hx1) ?_)
 rintro _ w1 ⟨a1,c1,rfl,hx2,hl1⟩
 refine⟨_,rfl,?_⟩
 replace hI:=(hI.ext hx2).adds hl1;dsimp only[ca,na]at hI
 refine sm ?_
 refine sB h (fun _ k=>nF hI.lt FS k) (Rc Tryz.func240) fun r2 w2 h hI=> ?_
 exact RF
theorem oR (hF:dG F w0) {s1:List UInt8} (hc:AllCl [av] F w0) {r:Bool} (h:gB s1=some r):CR F w0 185 #[(aE s1)] (vb r) []:=by
 refine EN Tryz.func185 Tryz.ntmps185 hF hc fun hI=> ?_
 rw[gB]at h
 refine T ?_
 obtain⟨b1,hx1,h⟩:=ae h
 replace hx1:=ay hx1
 refine sJ ?_
 refine T ?_
 obtain⟨r1,hx2,h⟩:=ae h
 replace hx2:=ay hx2
 refine sU (fun hc=>oQ hI.lt trivial (hx2 hc)) (Rg Tryz.func156) fun w1 hI=> ?_
 refine T ?_
 have hI:=hI.add (c:=rv (Value.func (.func 157) #[] #[]) dX) ⟨rfl,fun D' w' hs hl x_1 r k h=>CallV.fn (cap:=[]) D7 (qX hl trivial h)⟩
 obtain⟨r2,hx4,h⟩:=ae h
 replace hx4:=ay hx4
 refine sU (fun hc=>oD hI.lt FS (hx4 hc)) (Rg Tryz.func154) fun w2 hI=> ?_
 refine T ?_
 obtain⟨r3,hx6,h⟩:=ae h
 replace hx6:=ay hx6
 refine sU (fun hc=>th hI.lt FS (hx6 hc)) (Rg Tryz.func222) fun w3 hI=> ?_
 exact RF
theorem kR (hF:dG F w0) {r1:aa} (hc:AllCl [Cl.sl ag a1 c1 r1.l,Cl.blk b1 67 (af r1 a1 c1),av] F w0) {r:Bool} (h:cX r1=some r):CR F w0 126 #[vp b1 0] (vb r) []:=by
 refine EN Tryz.func126 Tryz.ntmps126 hF hc fun hI=> ?_
 rw[cX]at h
 refine T ?_
 refine al (aI [] false (.c (0,.q) (.c (1,.q) (.c (2,.q) (.c (3,.q) (.c (4,.q) (.c (5,.q) (.c (6,.q) (.c (7,.q) (.c (8,.q) (.c (9,.q) (.c (10,.q) (.c (11,.q) (.c (12,.q) (.c (13,.q) (.c (14,.q) (.c (15,.q) (.c (16,.q) (.c (17,.q) (.c (18,.q) (.c (19,.q) (.c (20,.q) (.c (21,.q) (.c (22,.q) (.c (23,.q) (.c (24,.q) (.c (25,.q) (.c (26,.q) (.c (27,.q) (.c (28,.q) (.c (29,.q) (.c (30,.q) (.c (31,.q) (.c (32,.q) (.c (33,.q) (.c (34,.q) (.c (35,.q) (.c (36,.s) (.c (37,.q) (.c (38,.q) .n))))))))))))))))))))))))))))))))))))))) hI (by kernel_rfl) (by kernel_rfl) ?_)
 intro w1 hI
 refine V ?_
 obtain⟨e1,hx1,h⟩:=ae h
 replace hx1:=ay hx1
 obtain⟨ad1,cs1,hq1⟩:=hI.gclat .z hx1
 have hq2:(decide (r1.at_<(r1.l.length:Int)))=true→CA (Dj F du) w1 (ad1.add (Int.toNat r1.at_ * 3)) (kx e1):=fun hc=>uq (hq1 hc).2.1 (hq1 hc).2.2
 refine vJ ?_
 refine V ?_
 obtain⟨e2,hx2,h⟩:=ae h
 replace hx2:=ay hx2
 obtain⟨ad2,cs2,hq3⟩:=hI.gclat .z hx2
 have hq4:((decide (r1.at_<(r1.l.length:Int)))&&(decide (e1.Kind=1)))=true→CA (Dj F du) w1 (ad2.add (Int.toNat r1.at_ * 3)) (kx e2):=fun hc=>uq (hq3 hc).2.1 (hq3 hc).2.2
 refine vJ ?_
 refine V ?_
 obtain⟨r2,hx3,h⟩:=ae h
 replace hx3:=ay hx3
 refine nQ (v:=(vb r2)) rfl (aT rfl rfl rfl rfl) rfl (fun hc=>(aF (vs:=[(aE e2.Text)]) rfl G5 ⟨(aQ et hc),trivial⟩)) (fun hc=>(oR hI.lt FS (hx3 hc)).mono fun _ _ k=>⟨k.1,k.2.1⟩) ?_
 intro w2 hx4;replace hI:=hI.ext hx4
 refine V ?_
 exact RF
theorem aU (hF:dG F w0) {r1:aa} {at1 e1:Int} (hc:AllCl [Cl.sl ag a1 c1 r1.l,Cl.blk b1 67 (af r1 a1 c1)] F w0) {r:bz Unit} (h:bM r1 at1 e1=some r):Cg 71 #[vp b1 0,vi at1,vi e1] w0 fun e w=>(∃ rx:Unit,r= .ret rx∧e= .returned (Value.tuple #[])∧Ext w0 w∧AllCl [] F w)∨∃ (pa pn:Int),r= .pan pa pn∧e= .panicked [pe 114 pa pn]∧Ext w0 w:=by
 refine fU (l:=[vp b1 0,vi at1,vi e1]) Tryz.func71 rfl Tryz.ntmps71 rfl ?_
 have hI:=Bun.start hF hc
 clear hc
 rw[bM]at h
 refine T ?_
 refine sq (ax (vs:=[(0,vi at1),(1,vi e1)]) (cs:=#[vi at1,vi e1]) rfl ⟨rfl,et,⟨rfl,et,trivial⟩⟩ (by kernel_rfl)) ?_
 refine sq (zo rfl u114 rfl et) ?_
 obtain rfl:=aj h
 exact Ff gn rfl et (iK (.inr ⟨_,_,rfl,rfl,hI.ext0⟩))
theorem wK (hF:dG F w0) {s1:List UInt8} (hc:AllCl [] F w0) {r:Bool} (h:lO s1=some r):CR F w0 221 #[(aE s1)] (vb r) []:=by
 refine EN Tryz.func221 Tryz.ntmps221 hF hc fun hI=> ?_
 rw[lO]at h
 refine T ?_
 refine al (T ?_)
 refine al (T ?_)
 refine TC (fun hb h=> ?_) fun hb h=> ?_
 ·refine TR fun hb h=> ?_
  exact RF
 refine TC (fun hb h=> ?_) fun hb h=> ?_
 ·refine TR fun hb h=> ?_
  exact RF
 refine TC (fun hb h=> ?_) fun hb h=> ?_
 ·refine TR fun hb h=> ?_
  exact RF
 refine TC (fun hb h=> ?_) fun hb h=> ?_
 ·refine TR fun hb h=> ?_
  exact RF
 refine TC (fun hb h=> ?_) fun hb h=> ?_
 ·refine TR fun hb h=> ?_
  exact RF
 refine TC (fun hb h=> ?_) fun hb h=> ?_
 ·refine TR fun hb h=> ?_
  exact RF
 refine TC (fun hb h=> ?_) fun hb h=> ?_
 ·refine TR fun hb h=> ?_
  exact RF
 refine TC (fun hb h=> ?_) fun hb h=> ?_
 ·refine TR fun hb h=> ?_
  exact RF
 refine TC (fun hb h=> ?_) fun hb h=> ?_
 ·refine TR fun hb h=> ?_
  exact RF
 refine TC (fun hb h=> ?_) fun hb h=> ?_
 ·refine TR fun hb h=> ?_
  exact RF
 refine TC (fun hb h=> ?_) fun hb h=> ?_
 ·refine TR fun hb h=> ?_
  exact RF
 refine TC (fun hb h=> ?_) fun hb h=> ?_
 ·refine TR fun hb h=> ?_
  exact RF
 refine TC (fun hb h=> ?_) fun hb h=> ?_
 ·refine TR fun hb h=> ?_
  exact RF
 refine TC (fun hb h=> ?_) fun hb h=> ?_
 ·refine TR fun hb h=> ?_
  exact RF
 refine TC (fun hb h=> ?_) fun hb h=> ?_
 ·refine TR fun hb h=> ?_
  exact RF
 refine TC (fun hb h=> ?_) fun hb h=> ?_
 ·refine TR fun hb h=> ?_
  exact RF
 refine TC (fun hb h=> ?_) fun hb h=> ?_
 ·refine TR fun hb h=> ?_
  exact RF
 refine TC (fun hb h=> ?_) fun hb h=> ?_
 ·refine TR fun hb h=> ?_
  exact RF
 refine TC (fun hb h=> ?_) fun hb h=> ?_
 ·refine TR fun hb h=> ?_
  exact RF
 refine TC (fun hb h=> ?_) fun hb h=> ?_
 ·refine TR fun hb h=> ?_
  exact RF
 refine TC (fun hb h=> ?_) fun hb h=> ?_
 ·refine TR fun hb h=> ?_
  exact RF
 refine TR fun hb h=> ?_
 exact RF
theorem pL (hF:dG F w0) {s1:List UInt8} (hc:AllCl [] F w0) {r:Bool} (h:jg s1=some r):CR F w0 184 #[(aE s1)] (vb r) []:=by
 refine EN Tryz.func184 Tryz.ntmps184 hF hc fun hI=> ?_
 rw[jg]at h
 refine T ?_
 refine al (T ?_)
 obtain⟨r1,hx1,h⟩:=ae h
 replace hx1:=ay hx1
 refine sU (fun hc=>wK hI.lt trivial (hx1 hc)) (Rg Tryz.func221) fun w1 hI=> ?_
 refine T ?_
 obtain⟨b1,hx3,h⟩:=ae h
 replace hx3:=ay hx3
 refine sJ ?_
 refine T ?_
 obtain⟨b2,hx4,h⟩:=ae h
 replace hx4:=ay hx4
 refine sJ ?_
 refine TR fun hb h=> ?_
 refine T ?_
 refine al (T ?_)
 refine bh (α:=Nat×Int) (fun x=>fun w=>∃ C,Bun du F w0 C w [] []∧dn s1 (x.1) (x.2)=some r) (fun x _=>x.1) (fun x=>[(0,(aE s1)),(28,vi (s1.length:Int)),(29,vi (x.2))]) (fu,0) BH SB ?_
 clear h hI;rintro⟨fuel1,i1⟩ w2 ⟨c1,hI,h⟩
 dsimp only at hI h ⊢
 rcases fuel1 with _ | fuel1
 ·rw[dn]at h;cases h
 rw[dn]at h
 refine T ?_
 refine al (vm h et (fun hb h=> ?_) (fun hb h=> ?_))
 ·refine T ?_
  refine al (T ?_)
  obtain⟨b3,hx5,h⟩:=ae h
  refine sI ?_
  refine TR fun hb h=> ?_
  refine T ?_
  refine aM ?_
  exact kl (fuel1,ar (i1+1))
 refine bk ?_
 refine eU ?_
 refine bb ?_
 exact RF
theorem xZ (hF:dG F w0) {name1:List UInt8} (hc:AllCl [] F w0) {r:GLin} (h:mf name1=some r):Cg 127 #[(aE name1)] w0 fun e w=>∃ a1 c1,e= .returned (Value.agg (bQ r a1 c1))∧Ext w0 w∧AllCl [Cl.sl ai a1 c1 r.L] F w:=by
 refine EN Tryz.func127 Tryz.ntmps127 hF hc fun hI=> ?_
 rw[mf]at h
 refine sr (cF (cs:=#[vi 0,vs none 0 0]) hI gn rfl rfl lg rfl ?_)
 intro b1 c2 w1 hI
 refine nk (al (T ?_))
 refine sB h (fun _ k=>pL hI.lt trivial k) (Rc Tryz.func184) fun r1 w2 h hI=> ?_
 refine TC (fun hb h=> ?_) fun hb h=> ?_
 ·refine sr (sq (ax (vs:=[]) (cs:=#[vi 0,vs none 0 0]) rfl trivial (by kernel_rfl)) ?_)
  refine lA fun c3 w3 hI=> ?_
  refine nk (aA ?_)
  have hI:=hI.add (c:=Cl.sl ai none 0 ([]:List GMono)) SlC.nil
  obtain rfl:=aj h
  refine QG ?_
  exact⟨none,0,rfl,hI.ext0,hI.fin ⟨.z,trivial⟩⟩
 refine T ?_
 refine sq (ax (vs:=[(0,(aE name1)),(1,vi 1)]) (cs:=#[(aE name1),vi 1]) rfl ⟨rfl,et,⟨rfl,ao,trivial⟩⟩ (by kernel_rfl)) ?_
 refine ll hI ai ([(⟨name1,1⟩:GMono)]:List GMono) nu Rr fun b2 c4 w4 hI=> ?_
 refine sq (ax (vs:=[(1,(vs (some ⟨b2,0,none⟩) ([(⟨name1,1⟩:GMono)]:List GMono).length 1))]) (cs:=#[vi 0,(vs (some ⟨b2,0,none⟩) ([(⟨name1,1⟩:GMono)]:List GMono).length 1)]) rfl ⟨rfl,et,trivial⟩ (by kernel_rfl)) ?_
 refine lA fun c5 w5 hI=> ?_
 refine nk (aA ?_)
 obtain⟨c6,hI⟩:=hI.release .z
 obtain rfl:=aj h
 refine QG ?_
 exact⟨some ⟨b2,0,none⟩,1,rfl,hI.ext0,hI.fin ⟨.z,trivial⟩⟩
theorem nz (hF:dG F w0) {l1:GLin} (hc:AllCl [Cl.sl ai a1 c1 l1.L] F w0) {r:Int} (h:ii l1=some r):CR F w0 122 #[(Value.agg (bQ l1 a1 c1))] (vi r) []:=by
 refine EN Tryz.func122 Tryz.ntmps122 hF hc fun hI=> ?_
 rw[ii]at h
 refine sr (lX fun b1 c3 w1 hI=> ?_)
 refine T ?_
 refine al (T ?_)
 refine bh (α:=Nat×Int) (fun x=>fun w=>∃ C,Bun du F w0 C w [] [Cl.blk b1 27 (bQ l1 a1 c1),Cl.sl ai a1 c1 l1.L]∧dB l1 (x.1) (x.2)=some r) (fun x _=>x.1) (fun x=>[(1,vp b1 0),(6,vs a1 l1.L.length c1),(7,vi (l1.L.length:Int)),(8,vi (x.2))]) (fu,0) BH SB ?_
 clear h hI;rintro⟨fuel1,i1⟩ w2 ⟨c4,hI,h⟩
 dsimp only at hI h ⊢
 rcases fuel1 with _ | fuel1
 ·rw[dB]at h;cases h
 rw[dB]at h
 refine T ?_
 refine al (vm h et (fun hb h=> ?_) (fun hb h=> ?_))
 ·refine T ?_
  refine al (T ?_)
  obtain⟨e1,hx1,h⟩:=ae h
  obtain⟨ad1,cs1,hA1,hr1,hq1⟩:=hI.clat (.s .z) hx1
  obtain rfl:cs1=(ky e1):=hr1
  refine sI ?_
  refine T ?_
  refine lN fun b2 c5 w3 hI=> ?_
  refine sa ?_
  refine lA fun c6 w4 hI=> ?_
  refine nk (al (aI [] false (.c (0,.q) (.c (1,.q) (.c (2,.s) (.c (3,.q) (.c (4,.q) (.c (5,.q) (.c (6,.q) (.c (7,.q) (.c (8,.q) (.c (9,.q) (.c (10,.q) (.c (11,.q) (.c (12,.q) (.c (13,.q) (.c (14,.q) (.c (15,.q) (.c (16,.q) (.c (17,.q) (.c (18,.q) (.c (19,.q) (.c (20,.q) (.c (21,.q) (.c (22,.q) (.c (23,.q) (.c (24,.q) .n))))))))))))))))))))))))) hI (by kernel_rfl) (by kernel_rfl) ?_))
  intro w5 hI
  refine V ?_
  obtain⟨r1,hx2,h⟩:=ae h
  refine dC rfl gn rfl (aF (vs:=[(aE e1.Name)]) rfl G6 ⟨et,trivial⟩) (Calls.mono (pL hI.lt trivial hx2) ?_)
  rintro _ w6 ⟨rfl,hx3,hl1⟩
  refine⟨_,rfl,hx3,?_⟩
  replace hI:=(hI.ext hx3)
  refine V ?_
  obtain⟨e2,hx4,h⟩:=ae h
  replace hx4:=ay hx4
  obtain⟨ad2,cs2,hq2⟩:=hI.gclat (.s .z) hx4
  have hq3:((!((!r1)||(decide (e1.By=0))))&&(decide (0<i1)))=true→CA (Dj F c6) w6 (ad2.add (Int.toNat (ar (i1 - 1)) * 2)) (ky e2):=fun hc=>uq (hq2 hc).2.1 (hq2 hc).2.2
  refine vJ ?_
  refine V ?_
  refine TR fun hb h=> ?_
  refine T ?_
  refine aM ?_
  exact kl (fuel1,ar (i1+1))
 refine bk ?_
 refine eU ?_
 refine bb ?_
 exact RF
theorem qz (hF:dG F w0) {n1:Int} (hc:AllCl [] F w0) {r:Int} (h:jA n1=some r):CR F w0 224 #[vi n1] (Value.int .u64 r) []:=by
 refine EN Tryz.func224 Tryz.ntmps224 hF hc fun hI=> ?_
 rw[jA]at h
 refine T ?_
 refine al (T ?_)
 refine TR fun hb h=> ?_
 exact RF
theorem xA (hF:dG F w0) {a1 b1:Int} (hc:AllCl [] F w0) {r:Int×Int} (h:mD a1 b1=some r):CR F w0 223 #[(Value.int .u64 a1),(Value.int .u64 b1)] (Value.tuple #[(Value.int .u64 r.1),(Value.int .u64 r.2)]) []:=by
 refine EN Tryz.func223 Tryz.ntmps223 hF hc fun hI=> ?_
 rw[mD]at h
 refine sr (rJ ?_)
 refine rJ ?_
 refine nk (sr (sm ?_))
 refine sq (vo rfl et ao rfl) ?_
 refine sm ?_
 refine sq (vo rfl et ao rfl) ?_
 refine sq (ud rfl et et) ?_
 obtain⟨low1,hx1,h⟩:=ae h
 refine sq (tu (cy rfl et) (congrArg (Value.int .u64) (aj hx1))) ?_
 refine nk (sr (sm ?_))
 refine sq (rX (s:=32) rfl et ao (by decide) rfl) ?_
 refine sm ?_
 refine sq (vo rfl et ao rfl) ?_
 refine sq (ud rfl et et) ?_
 refine sm ?_
 refine sq (rX (s:=32) rfl et ao (by decide) rfl) ?_
 refine sq (qo rfl et et) ?_
 obtain⟨mid1,hx2,h⟩:=ae h
 refine sq (tu (cy rfl et) (congrArg (Value.int .u64) (aj hx2))) ?_
 refine nk (sr (sm ?_))
 refine sq (vo rfl et ao rfl) ?_
 refine sm ?_
 refine sq (rX (s:=32) rfl et ao (by decide) rfl) ?_
 refine sq (ud rfl et et) ?_
 refine sm ?_
 refine sq (vo rfl et ao rfl) ?_
 refine sq (qo rfl et et) ?_
 obtain⟨cross1,hx3,h⟩:=ae h
 refine sq (tu (cy rfl et) (congrArg (Value.int .u64) (aj hx3))) ?_
 refine aM ?_
 refine nR (e:=[(0,(Value.int .u64 a1)),(1,(Value.int .u64 b1)),(7,(Value.int .u64 mid1)),(8,(Value.int .u64 cross1))]) SB ?_
 refine sr (sm ?_)
 refine sq (rX (s:=32) rfl et ao (by decide) rfl) ?_
 refine sm ?_
 refine sq (rX (s:=32) rfl et ao (by decide) rfl) ?_
 refine sq (ud rfl et et) ?_
 refine sm ?_
 refine sq (rX (s:=32) rfl et ao (by decide) rfl) ?_
 refine sq (qo rfl et et) ?_
 refine sm ?_
 refine sq (rX (s:=32) rfl et ao (by decide) rfl) ?_
 refine sq (qo rfl et et) ?_
 refine sm ?_
 refine sm ?_
 refine sq (ud rfl et et) ?_
 obtain⟨hi1,hx4,h⟩:=ae h
 refine sq (tu (cy rfl et) (congrArg (Value.int .u64) (aj hx4))) ?_
 exact RF
theorem uu (hF:dG F w0) {a1 b1:Int} (hc:AllCl [] F w0) {r:Int×Bool} (h:mQ a1 b1=some r):CR F w0 186 #[vi a1,vi b1] (Value.tuple #[vi r.1,vb r.2]) []:=by
 refine EN Tryz.func186 Tryz.ntmps186 hF hc fun hI=> ?_
 rw[mQ]at h
 refine T ?_
 refine sB h (fun _ k=>qz hI.lt trivial k) (Rc Tryz.func224) fun r1 w1 h hI=> ?_
 refine sm ?_
 refine sB h (fun _ k=>qz hI.lt trivial k) (Rc Tryz.func224) fun r2 w2 h hI=> ?_
 refine sB h (fun _ k=>xA hI.lt trivial k) (Rc Tryz.func223) fun r3 w3 h hI=> ?_
 refine sm ?_
 refine sq (eW rfl et rfl) ?_
 refine sq (eW rfl et rfl) ?_
 refine sa ?_
 refine sa ?_
 refine nk (sr (sm ?_))
 refine sq (qE rfl et ao) ?_
 refine sm ?_
 refine sq (qE rfl et ao) ?_
 refine sq (Dl rfl u4 et et) ?_
 obtain⟨negative1,hx7,h⟩:=ae h
 refine sq (tu (cy rfl et) (congrArg Value.bool (aj hx7))) ?_
 refine nk (al (T ?_))
 refine TR fun hb h=> ?_
 refine TR fun hb h=> ?_
 exact RF
theorem uv (hF:dG F w0) {a1:GLin} {by1:Int} (hc:AllCl [Cl.sl ai a2 c1 a1.L] F w0) {r:GLin×Int} (h:iY a1 by1=some r):Cg 129 #[(Value.agg (bQ a1 a2 c1)),vi by1] w0 fun e w=>∃ a3 c2,e= .returned (Value.tuple #[(Value.agg (bQ r.1 a3 c2)),vi r.2])∧Ext w0 w∧AllCl [Cl.sl ai a3 c2 r.1.L] F w:=by
 refine EN Tryz.func129 Tryz.ntmps129 hF hc fun hI=> ?_
 rw[iY]at h
 refine sr (lX fun b1 c4 w1 hI=> ?_)
 refine lN fun b2 c5 w2 hI=> ?_
 refine T ?_
 refine al (sr (sq (am (l:=(gc a1 a2 c1)) rfl et oy rfl bt (hI.kblk (l:=(gc a1 a2 c1)) .z rfl).1) ?_))
 refine sB h (fun _ k=>nz hI.lt FS k) (Rc Tryz.func122) fun r1 w3 h hI=> ?_
 refine TC (fun hb h=> ?_) fun hb h=> ?_
 ·refine sr (sq (ax (vs:=[]) (cs:=#[vi 0,vs none 0 0]) rfl trivial (by kernel_rfl)) ?_)
  refine lA fun c6 w4 hI=> ?_
  refine T ?_
  refine aA ?_
  have hI:=hI.add (c:=Cl.sl ai none 0 ([]:List GMono)) SlC.nil
  obtain rfl:=aj h
  refine QG ?_
  exact⟨none,0,rfl,hI.ext0,hI.fin ⟨.z,trivial⟩⟩
 refine T ?_
 refine al (T ?_)
 refine TC (fun hb h=> ?_) fun hb h=> ?_
 ·refine sr (sq (ax (vs:=[]) (cs:=#[vi 0,vs none 0 0]) rfl trivial (by kernel_rfl)) ?_)
  refine lA fun c7 w5 hI=> ?_
  refine T ?_
  refine aA ?_
  have hI:=hI.add (c:=Cl.sl ai none 0 ([]:List GMono)) SlC.nil
  obtain rfl:=aj h
  refine QG ?_
  exact⟨none,0,rfl,hI.ext0,hI.fin ⟨.z,trivial⟩⟩
 refine T ?_
 refine sB h (fun _ k=>uu hI.lt trivial k) (Rc Tryz.func186) fun r2 w6 h hI=> ?_
 refine T ?_
 refine sq (ax (vs:=[(0,vi r2.1)]) (cs:=#[vi r2.1,vs none 0 0]) rfl ⟨rfl,et,trivial⟩ (by kernel_rfl)) ?_
 refine lN fun b3 c8 w7 hI=> ?_
 refine lA fun c9 w8 hI=> ?_
 refine nk (bw (α:=Bool×GLin×(Option Addr)×Nat) (fun _=>⟨61,[]⟩) (fun x=>[(4,vp b2 0),(7,vb (x.1)),(8,vp b3 0)]) (fun x=>fun w=>∃ C,Bun du F w0 C w [MO.row ai 64 (x.2.2.1) (x.2.2.2) (x.2.1).L,MO.box b2 27 #[vi 0,vs none 0 0],MO.box b3 27 (bQ (x.2.1) (x.2.2.1) (x.2.2.2))] []∧nh (x.1) (x.2.1)=some r) ?_ ?_)
 ·clear h hI;rintro⟨fits1,bg,a4,c10⟩ w9 ⟨c11,hI,h⟩
  try dsimp only at hI h ⊢
  rw[nh]at h
  refine al (T ?_)
  refine TC (fun hb h=> ?_) fun hb h=> ?_
  ·refine sr (sq (ax (vs:=[]) (cs:=#[vi 0,vs none 0 0]) rfl trivial (by kernel_rfl)) ?_)
   refine lA fun c12 w10 hI=> ?_
   refine T ?_
   refine aA ?_
   have hI:=hI.add (c:=Cl.sl ai none 0 ([]:List GMono)) SlC.nil
   obtain rfl:=aj h
   refine QG ?_
   exact⟨none,0,rfl,hI.ext0,hI.fin ⟨.z,trivial⟩⟩
  refine T ?_
  refine lA fun c13 w11 hI=> ?_
  refine T ?_
  refine aA ?_
  obtain⟨c14,hI⟩:=hI.release .z
  obtain rfl:=aj h
  refine QG ?_
  exact⟨a4,c10,rfl,hI.ext0,hI.fin ⟨.z,trivial⟩⟩
 refine T ?_
 have hI:=hI.nil ai 64 none
 refine bh (α:=Nat×Bool×Int×GLin×(Option Addr)×Nat) (fun x=>fun w=>∃ C,Bun du F w0 C w [MO.row ai 64 (x.2.2.2.2.1) (x.2.2.2.2.2) (x.2.2.2.1).L,MO.box b2 27 #[vi 0,vs none 0 0],MO.box b3 27 (bQ (x.2.2.2.1) (x.2.2.2.2.1) (x.2.2.2.2.2))] [Cl.sl ai a2 c1 a1.L]∧gA a1 by1 (x.1) (x.2.1) (x.2.2.1) (x.2.2.2.1)=some r) (fun x _=>x.1) (fun x=>[(1,vi by1),(4,vp b2 0),(7,vb (x.2.1)),(8,vp b3 0),(30,vs a2 a1.L.length c1),(31,vi (a1.L.length:Int)),(32,vi (x.2.2.1))]) (fu,r2.2,0,(⟨r2.1,([]:List GMono)⟩:GLin),none,0) ⟨_,hI.arr (.c .z (.c (.s .z) (.c .z .n))) ⟨(.s .z),trivial⟩,h⟩ SB ?_
 clear h hI;rintro⟨fuel1,fits2,i1,out2,a5,c15⟩ w12 ⟨c16,hI,h⟩
 dsimp only at hI h ⊢
 rcases fuel1 with _ | fuel1
 ·rw[gA]at h;cases h
 rw[gA]at h
 refine T ?_
 refine al (vm h et (fun hb h=> ?_) (fun hb h=> ?_))
 ·refine T ?_
  refine al (T ?_)
  obtain⟨e1,hx5,h⟩:=ae h
  obtain⟨ad1,cs1,hA1,hr1,hq1⟩:=hI.clat .z hx5
  obtain rfl:cs1=(ky e1):=hr1
  refine sI ?_
  refine T ?_
  refine lN fun b4 c17 w13 hI=> ?_
  refine lA fun c18 w14 hI=> ?_
  refine T ?_
  refine sB h (fun _ k=>uu hI.lt trivial k) (Rc Tryz.func186) fun r3 w15 h hI=> ?_
  refine T ?_
  refine sq (ax (vs:=[(0,(aE e1.Name)),(1,vi r3.1)]) (cs:=#[(aE e1.Name),vi r3.1]) rfl ⟨rfl,et,⟨rfl,et,trivial⟩⟩ (by kernel_rfl)) ?_
  refine ll hI ai ([(⟨e1.Name,r3.1⟩:GMono)]:List GMono) nu Rr fun b5 c19 w16 hI=> ?_
  obtain⟨zs1,hx8,h⟩:=ae h
  refine lY (xs:=out2.L) (ys:=([(⟨e1.Name,r3.1⟩:GMono)]:List GMono)) hI (.s (.s .z)) (hI.rd .z) hx8 gn rfl rfl Cn nu rfl rfl et et ?_
  intro a6 c20 c21 w17 hI
  refine T ?_
  refine lS fun c22 w18 hI=> ?_
  refine T ?_
  refine aM ?_
  exact jY (fuel1,fits2&&r3.2,ar (i1+1),(⟨out2.K,zs1⟩:GLin),a6,c20) SB ⟨_,hI.arr GO SU,h⟩ (Nat.lt_succ_self _)
 refine bk ?_
 refine eU ?_
 exact bi (fits2,out2,a5,c15) SB ⟨_,hI.arr GO SU,h⟩ rfl
theorem tU (hF:dG F w0) {s1:List UInt8} (hc:AllCl [] F w0) {r:Bool} (h:me s1=some r):CR F w0 225 #[(aE s1)] (vb r) []:=by
 refine EN Tryz.func225 Tryz.ntmps225 hF hc fun hI=> ?_
 rw[me]at h
 refine T ?_
 refine bw (α:=Unit) (fun _=>⟨31,[]⟩) (fun _=>[(0,(aE s1))]) (fun _=>fun w=>∃ C,Bun du F w0 C w [] []∧iJ s1=some r) ?_ ?_
 ·clear h hI;rintro _ w1 ⟨c1,hI,h⟩
  try dsimp only at hI h ⊢
  rw[iJ]at h
  refine T ?_
  obtain⟨b1,hx1,h⟩:=ae h
  replace hx1:=ay hx1
  refine sJ ?_
  exact RF
 refine T ?_
 refine bh (α:=Nat×Int) (fun x=>fun w=>∃ C,Bun du F w0 C w [] []∧d9 s1 (x.1) (x.2)=some r) (fun x _=>x.1) (fun x=>[(0,(aE s1)),(5,vi (s1.length:Int)),(6,vi (x.2))]) (fu,0) BH SB ?_
 clear h hI;rintro⟨fuel1,i1⟩ w2 ⟨c2,hI,h⟩
 dsimp only at hI h ⊢
 rcases fuel1 with _ | fuel1
 ·rw[d9]at h;cases h
 rw[d9]at h
 refine T ?_
 refine al (vm h et (fun hb h=> ?_) (fun hb h=> ?_))
 ·refine T ?_
  refine al (T ?_)
  obtain⟨b2,hx2,h⟩:=ae h
  refine sI ?_
  refine T ?_
  obtain⟨b3,hx3,h⟩:=ae h
  replace hx3:=ay hx3
  refine sJ ?_
  refine TR fun hb h=> ?_
  refine T ?_
  refine aM ?_
  exact kl (fuel1,ar (i1+1))
 refine bk ?_
 refine eU ?_
 exact kj ()
theorem po (hF:dG F w0) {r1:aa} (hc:AllCl [Cl.sl ag a1 c1 r1.l,Cl.blk b1 67 (af r1 a1 c1)] F w0) {r:Bool} (h:fH r1=some r):CR F w0 187 #[vp b1 0] (vb r) []:=by
 refine EN Tryz.func187 Tryz.ntmps187 hF hc fun hI=> ?_
 rw[fH]at h
 refine T ?_
 refine al (aI [] false (.c (0,.q) (.c (1,.q) (.c (2,.q) (.c (3,.q) (.c (4,.q) (.c (5,.q) (.c (6,.q) (.c (7,.q) (.c (8,.q) (.c (9,.q) (.c (10,.q) (.c (11,.q) (.c (12,.q) (.c (13,.q) (.c (14,.q) (.c (15,.q) (.c (16,.q) (.c (17,.q) (.c (18,.q) (.c (19,.q) (.c (20,.q) (.c (21,.q) (.c (22,.q) (.c (23,.q) (.c (24,.q) (.c (25,.q) (.c (26,.q) (.c (27,.q) (.c (28,.q) (.c (29,.q) (.c (30,.q) (.c (31,.q) (.c (32,.q) (.c (33,.q) (.c (34,.q) (.c (35,.q) (.c (36,.s) (.c (37,.q) (.c (38,.q) .n))))))))))))))))))))))))))))))))))))))) hI (by kernel_rfl) (by kernel_rfl) ?_)
 intro w1 hI
 refine V ?_
 obtain⟨e1,hx1,h⟩:=ae h
 replace hx1:=ay hx1
 obtain⟨ad1,cs1,hq1⟩:=hI.gclat .z hx1
 have hq2:(decide (r1.at_<(r1.l.length:Int)))=true→CA (Dj F du) w1 (ad1.add (Int.toNat r1.at_ * 3)) (kx e1):=fun hc=>uq (hq1 hc).2.1 (hq1 hc).2.2
 refine vJ ?_
 refine V ?_
 obtain⟨e2,hx2,h⟩:=ae h
 replace hx2:=ay hx2
 obtain⟨ad2,cs2,hq3⟩:=hI.gclat .z hx2
 have hq4:((decide (r1.at_<(r1.l.length:Int)))&&(decide (e1.Kind=2)))=true→CA (Dj F du) w1 (ad2.add (Int.toNat r1.at_ * 3)) (kx e2):=fun hc=>uq (hq3 hc).2.1 (hq3 hc).2.2
 refine vJ ?_
 refine V ?_
 obtain⟨r2,hx3,h⟩:=ae h
 replace hx3:=ay hx3
 refine nQ (v:=(vb r2)) rfl (aT rfl rfl rfl rfl) rfl (fun hc=>(aF (vs:=[(aE e2.Text)]) rfl GR ⟨(aQ et hc),trivial⟩)) (fun hc=>(tU hI.lt trivial (hx3 hc)).mono fun _ _ k=>⟨k.1,k.2.1⟩) ?_
 intro w2 hx4;replace hI:=hI.ext hx4
 refine V ?_
 exact RF
theorem qy (hF:dG F w0) {s1:List UInt8} {negative1:Bool} (hc:AllCl [] F w0) {r:Int×Bool} (h:iD s1 negative1=some r):CR F w0 131 #[(aE s1),vb negative1] (Value.tuple #[vi r.1,vb r.2]) []:=by
 refine EN Tryz.func131 Tryz.ntmps131 hF hc fun hI=> ?_
 rw[iD]at h
 refine T ?_
 refine bw (α:=Int) (fun _=>⟨38,[]⟩) (fun x=>[(0,(aE s1)),(1,vb negative1),(6,(Value.int .u64 x))]) (fun x=>fun w=>∃ C,Bun du F w0 C w [] []∧jl s1 negative1 x=some r) ?_ ?_
 ·clear h hI;rintro limit1 w1 ⟨c1,hI,h⟩
  try dsimp only at hI h ⊢
  rw[jl]at h
  refine T ?_
  refine bw (α:=Int) (fun _=>⟨38,[]⟩) (fun x=>[(1,vb negative1),(7,(Value.int .u64 x))]) (fun x=>fun w=>∃ C,Bun du F w0 C w [] []∧jk negative1 x=some r) ?_ ?_
  ·clear h hI;rintro n1 w2 ⟨c2,hI,h⟩
   try dsimp only at hI h ⊢
   rw[jk]at h
   refine al (T ?_)
   refine TR fun hb h=> ?_
   exact RF
  refine T ?_
  refine bh (α:=Nat×Int×Int) (fun x=>fun w=>∃ C,Bun du F w0 C w [] []∧dP s1 limit1 negative1 (x.1) (x.2.1) (x.2.2)=some r) (fun x _=>x.1) (fun x=>[(0,(aE s1)),(1,vb negative1),(6,(Value.int .u64 limit1)),(7,(Value.int .u64 (x.2.1))),(12,vi (s1.length:Int)),(13,vi (x.2.2))]) (fu,0,0) BH SB ?_
  clear h hI;rintro⟨fuel1,n2,i1⟩ w3 ⟨c3,hI,h⟩
  dsimp only at hI h ⊢
  rcases fuel1 with _ | fuel1
  ·rw[dP]at h;cases h
  rw[dP]at h
  refine T ?_
  refine al (vm h et (fun hb h=> ?_) (fun hb h=> ?_))
  ·refine T ?_
   refine al (T ?_)
   obtain⟨b1,hx1,h⟩:=ae h
   refine sI ?_
   refine T ?_
   refine al (T ?_)
   refine sq (zm rfl et ao (by decide)) ?_
   refine TR fun hb h=> ?_
   refine bf (bb (kz rfl ?_))
   refine sm ?_
   refine sq (ud rfl ao et) ?_
   refine sm ?_
   refine sq (qo rfl et et) ?_
   obtain⟨n3,hx2,h⟩:=ae h
   refine sq (tu (cy rfl et) (congrArg (Value.int .u64) (aj hx2))) ?_
   refine T ?_
   refine aM ?_
   exact kl (fuel1,n3,ar (i1+1))
  refine bk ?_
  refine eU ?_
  exact kj n2
 refine TC (fun hb h=> ?_) fun hb h=> ?_
 ·refine T ?_
  refine aM ?_
  exact kj 9223372036854775808
 exact bf (bi 9223372036854775807 SB BH rfl)
theorem Aw (hF:dG F w0) {k1:Int} (hc:AllCl [] F w0) {r:GLin} (h:qJ k1=some r):Cg 132 #[vi k1] w0 fun e w=>∃ a1 c1,e= .returned (Value.agg (bQ r a1 c1))∧Ext w0 w∧AllCl [Cl.sl ai a1 c1 r.L] F w:=by
 refine EN Tryz.func132 Tryz.ntmps132 hF hc fun hI=> ?_
 rw[qJ]at h
 refine sr (cF (cs:=#[vi 0,vs none 0 0]) hI gn rfl rfl lg rfl ?_)
 intro b1 c2 w1 hI
 refine T ?_
 refine sq (ax (vs:=[(0,vi k1)]) (cs:=#[vi k1,vs none 0 0]) rfl ⟨rfl,et,trivial⟩ (by kernel_rfl)) ?_
 refine lA fun c3 w2 hI=> ?_
 refine nk (aA ?_)
 have hI:=hI.add (c:=Cl.sl ai none 0 ([]:List GMono)) SlC.nil
 obtain rfl:=aj h
 refine QG ?_
 exact⟨none,0,rfl,hI.ext0,hI.fin ⟨.z,trivial⟩⟩
theorem wL (hF:dG F w0) {a1 b1:Int} (hc:AllCl [] F w0) {r:Int×Bool} (h:nN a1 b1=some r):CR F w0 123 #[vi a1,vi b1] (Value.tuple #[vi r.1,vb r.2]) []:=by
 refine EN Tryz.func123 Tryz.ntmps123 hF hc fun hI=> ?_
 rw[nN]at h
 refine T ?_
 refine sq (HL rfl u4 et et) ?_
 exact RF
theorem xC {name1:List UInt8} {x1 y1:Int} {a1:Bool} {a2:GLin} (hI:Bun C0 F w0 C0 w0 [MO.box b1 4 #[vb a1],MO.box b2 27 (bQ a2 a3 c1),MO.row ai 64 a3 c1 a2.L] []) {r:Unit×Bool×GLin} (h:eS name1 x1 y1 a1 a2=some r):Cg 125 #[(aE name1),vi x1,vi y1,vp b1 0,vp b2 0] w0 fun e w=>∃ a4 c2 C,e= .returned (Value.tuple #[])∧Bun C0 F w0 C w [MO.box b1 4 #[vb r.2.1],MO.box b2 27 (bQ r.2.2 a4 c2),MO.row ai 64 a4 c2 r.2.2.L] []:=by
 refine oN Tryz.func125 rfl Tryz.ntmps125 rfl ?_
 rw[eS]at h
 refine T ?_
 refine sB h (fun _ k=>wL hI.lt trivial k) (Rc Tryz.func123) fun r1 w1 h hI=> ?_
 refine T ?_
 refine lS fun c3 w2 hI=> ?_
 refine TC (fun hb h=> ?_) fun hb h=> ?_
 ·refine T ?_
  refine sq (ax (vs:=[(0,(aE name1)),(1,vi r1.1)]) (cs:=#[(aE name1),vi r1.1]) rfl ⟨rfl,et,⟨rfl,et,trivial⟩⟩ (by kernel_rfl)) ?_
  refine ll hI ai ([(⟨name1,r1.1⟩:GMono)]:List GMono) nu Rr fun b3 c4 w3 hI=> ?_
  obtain⟨zs1,hx3,h⟩:=ae h
  refine lY (xs:=a2.L) (ys:=([(⟨name1,r1.1⟩:GMono)]:List GMono)) hI (.s (.s (.s .z))) (hI.rd .z) hx3 gn rfl rfl Cn nu rfl rfl et et ?_
  intro a5 c5 c6 w4 hI
  refine T ?_
  refine lS fun c7 w5 hI=> ?_
  refine aM ?_
  obtain rfl:=aj h
  refine QG ?_
  exact⟨a5,c5,_,rfl,hI.arr GO SU⟩
 refine bf ?_
 obtain rfl:=aj h
 refine QG ?_
 exact⟨a3,c1,_,rfl,hI.arr GO SU⟩
theorem xB {I:StI σ} {a1 b1:List GMono} {each1:((List UInt8)→Int→Int→σ→Option (Unit×σ))} {s1:σ} {fv1:Value} (hI:Bun C0 F w0 C0 w0 [MO.st I s1] [Cl.sl ai a2 c1 a1,Cl.sl ai a3 c2 b1,wv I fv1 each1]) {r:Unit×σ} (h:n5 a1 b1 each1 s1=some r):Cg 124 #[vs a2 a1.length c1,vs a3 b1.length c2,fv1] w0 fun e w=>∃ C,e= .returned (Value.tuple #[])∧Bun C0 F w0 C w [MO.st I r.2] []:=by
 refine oN Tryz.func124 rfl Tryz.ntmps124 rfl ?_
 rw[n5]at h
 refine T ?_
 refine bh (α:=Nat×(List GMono)×(List GMono)×σ×(Option Addr)×Nat×(Option Addr)×Nat) (fun x=>fun w=>∃ C,Bun C0 F w0 C w [MO.st I (x.2.2.2.1)] [Cl.sl ai (x.2.2.2.2.1) (x.2.2.2.2.2.1) (x.2.1),Cl.sl ai (x.2.2.2.2.2.2.1) (x.2.2.2.2.2.2.2) (x.2.2.1),wv I fv1 each1]∧cT each1 (x.1) (x.2.1) (x.2.2.1) (x.2.2.2.1)=some r) (fun x _=>x.1) (fun x=>[(0,vs (x.2.2.2.2.1) (x.2.1).length (x.2.2.2.2.2.1)),(1,vs (x.2.2.2.2.2.2.1) (x.2.2.1).length (x.2.2.2.2.2.2.2)),(2,fv1)]) (fu,a1,b1,s1,a2,c1,a3,c2) BH SB ?_
 clear h hI;rintro⟨fuel1,a4,b2,s2,a5,c3,a6,c4⟩ w1 ⟨c5,hI,h⟩
 dsimp only at hI h ⊢
 rcases fuel1 with _ | fuel1
 ·rw[cT]at h;cases h
 rw[cT]at h
 refine al (T ?_)
 refine TC (fun hb h=> ?_) fun hb h=> ?_
 ·refine T ?_
  refine al (aI [] false (.c (0,.q) (.c (1,.q) (.c (2,.q) (.c (3,.q) (.c (4,.q) (.c (5,.q) (.c (6,.q) (.c (7,.q) (.c (8,.q) (.c (9,.q) (.c (10,.q) (.c (11,.q) (.c (12,.q) (.c (13,.q) (.c (14,.q) (.c (15,.q) (.c (16,.q) (.c (17,.q) (.c (18,.q) (.c (19,.q) .n)))))))))))))))))))) hI (by kernel_rfl) (by kernel_rfl) ?_)
  intro w2 hI
  refine V ?_
  obtain⟨e1,hx1,h⟩:=ae h
  replace hx1:=ay hx1
  obtain⟨ad1,cs1,hq1⟩:=hI.gclat .z hx1
  have hq2:((!(decide ((b2.length:Int)=0)))&&(decide (0<(a4.length:Int))))=true→CA (Dj F c5) w2 (ad1.add (Int.toNat 0 * 2)) (ky e1):=fun hc=>uq (hq1 hc).2.1 (hq1 hc).2.2
  refine vJ ?_
  refine V ?_
  obtain⟨e2,hx2,h⟩:=ae h
  replace hx2:=ay hx2
  obtain⟨ad2,cs2,hq3⟩:=hI.gclat (.s .z) hx2
  have hq4:((!(decide ((b2.length:Int)=0)))&&(decide (0<(a4.length:Int))))=true→CA (Dj F c5) w2 (ad2.add (Int.toNat 0 * 2)) (ky e2):=fun hc=>uq (hq3 hc).2.1 (hq3 hc).2.2
  refine vJ ?_
  refine V ?_
  refine TC (fun hb h=> ?_) fun hb h=> ?_
  ·refine al (aI [9] false (.c (0,.q) (.c (1,.q) (.c (2,.q) (.c (3,.q) (.c (4,.q) (.c (5,.q) (.c (6,.q) (.c (7,.q) (.c (8,.q) (.c (9,.s) .n)))))))))) hI (by kernel_rfl) (by kernel_rfl) ?_)
   intro w3 hI
   refine V ?_
   obtain⟨e3,hx3,h⟩:=ae h
   obtain⟨ad3,cs3,hA3,hr3,hq5⟩:=hI.clat .z hx3
   obtain rfl:cs3=(ky e3):=hr3
   refine vI ?_
   refine V ?_
   obtain⟨e4,hx4,h⟩:=ae h
   obtain⟨ad4,cs4,hA4,hr4,hq6⟩:=hI.clat .z hx4
   obtain rfl:cs4=(ky e4):=hr4
   refine vI ?_
   refine V ?_
   refine bJ (F:=F) (C:=c5) rfl rfl ?_
   obtain⟨⟨r1,s3⟩,hx5,h⟩:=ae h
   try dsimp only at h
   obtain⟨c6,f1,hB,hl1,hk1⟩:=hI.hands (.l .n)
   refine wd (args:=[(aE e3.Name),vi e4.By,vi 0]) rfl gn rfl rfl et ⟨et,⟨et,⟨ao,trivial⟩⟩⟩ (CallV.mono ((hI.get (.s (.s .z))).2 c6 f1 w3 (Sp.less hl1) e3.Name e4.By 0 s2 _ (hB.subs trivial) hx5) ?_)
   rintro _ w4 ⟨c7,rfl,hB2⟩
   obtain⟨c8,hs1,hI⟩:=hk1 _ _ _ _ hB2
   dsimp only[ca,na]at hI
   refine⟨_,rfl,DM true F c8,hs1,?_⟩
   refine V ?_
   refine T ?_
   obtain⟨zs1,hx6,h⟩:=ae h
   obtain⟨a7,hB1⟩:∃ B:Option Addr,B=(if c3=Int.toNat 1 then a5 else Option.map (·.add (Int.toNat 1 * 2)) a5):=⟨_,rfl⟩
   refine sq (uX rfl Cn rj et ao hx6 hB1) ?_
   replace hI:=hI.from_ .z hx6 hB1
   refine sa ?_
   refine aM ?_
   exact kl (fuel1,zs1,b2,s3,a7,c3 - Int.toNat 1,a6,c4)
  refine al (aI [] false (.c (0,.q) (.c (1,.q) (.c (2,.q) (.c (3,.q) (.c (4,.q) (.c (5,.q) (.c (6,.q) (.c (7,.q) (.c (8,.q) (.c (9,.q) (.c (10,.q) (.c (11,.q) (.c (12,.q) (.c (13,.q) (.c (14,.q) .n))))))))))))))) hI (by kernel_rfl) (by kernel_rfl) ?_)
  intro w5 hI
  refine V ?_
  obtain⟨e5,hx7,h⟩:=ae h
  replace hx7:=ay hx7
  obtain⟨ad5,cs5,hq7⟩:=hI.gclat (.s .z) hx7
  have hq8:(!(decide ((a4.length:Int)=0)))=true→CA (Dj F c5) w5 (ad5.add (Int.toNat 0 * 2)) (ky e5):=fun hc=>uq (hq7 hc).2.1 (hq7 hc).2.2
  refine vJ ?_
  refine V ?_
  obtain⟨e6,hx8,h⟩:=ae h
  replace hx8:=ay hx8
  obtain⟨ad6,cs6,hq9⟩:=hI.gclat .z hx8
  have hq10:(!(decide ((a4.length:Int)=0)))=true→CA (Dj F c5) w5 (ad6.add (Int.toNat 0 * 2)) (ky e6):=fun hc=>uq (hq9 hc).2.1 (hq9 hc).2.2
  refine vJ ?_
  refine V ?_
  refine TC (fun hb h=> ?_) fun hb h=> ?_
  ·refine al (aI [9] false (.c (0,.q) (.c (1,.q) (.c (2,.q) (.c (3,.q) (.c (4,.q) (.c (5,.q) (.c (6,.q) (.c (7,.q) (.c (8,.q) (.c (9,.s) .n)))))))))) hI (by kernel_rfl) (by kernel_rfl) ?_)
   intro w6 hI
   refine V ?_
   obtain⟨e7,hx9,h⟩:=ae h
   obtain⟨ad7,cs7,hA7,hr7,hq11⟩:=hI.clat (.s .z) hx9
   obtain rfl:cs7=(ky e7):=hr7
   refine vI ?_
   refine V ?_
   obtain⟨e8,hx10,h⟩:=ae h
   obtain⟨ad8,cs8,hA8,hr8,hq12⟩:=hI.clat (.s .z) hx10
   obtain rfl:cs8=(ky e8):=hr8
   refine vI ?_
   refine V ?_
   refine bJ (F:=F) (C:=c5) rfl rfl ?_
   obtain⟨⟨r2,s4⟩,hx11,h⟩:=ae h
   try dsimp only at h
   obtain⟨c9,f2,hB,hl2,hk2⟩:=hI.hands (.l .n)
   refine wd (args:=[(aE e7.Name),vi 0,vi e8.By]) rfl gn rfl rfl et ⟨et,⟨ao,⟨et,trivial⟩⟩⟩ (CallV.mono ((hI.get (.s (.s .z))).2 c9 f2 w6 (Sp.less hl2) e7.Name 0 e8.By s2 _ (hB.subs trivial) hx11) ?_)
   rintro _ w7 ⟨c10,rfl,hB2⟩
   obtain⟨c11,hs2,hI⟩:=hk2 _ _ _ _ hB2
   dsimp only[ca,na]at hI
   refine⟨_,rfl,DM true F c11,hs2,?_⟩
   refine V ?_
   refine T ?_
   obtain⟨zs2,hx12,h⟩:=ae h
   obtain⟨a8,hB2⟩:∃ B:Option Addr,B=(if c4=Int.toNat 1 then a6 else Option.map (·.add (Int.toNat 1 * 2)) a6):=⟨_,rfl⟩
   refine sq (uX rfl Cn rj et ao hx12 hB2) ?_
   replace hI:=hI.from_ (.s .z) hx12 hB2
   refine sa ?_
   refine aM ?_
   exact kl (fuel1,a4,zs2,s4,a5,c3,a8,c4 - Int.toNat 1)
  refine al (aI [13] false (.c (0,.q) (.c (1,.q) (.c (2,.q) (.c (3,.q) (.c (4,.q) (.c (5,.q) (.c (6,.q) (.c (7,.q) (.c (8,.q) (.c (9,.q) (.c (10,.q) (.c (11,.q) (.c (12,.q) (.c (13,.s) .n)))))))))))))) hI (by kernel_rfl) (by kernel_rfl) ?_)
  intro w8 hI
  refine V ?_
  obtain⟨e9,hx13,h⟩:=ae h
  obtain⟨ad9,cs9,hA9,hr9,hq13⟩:=hI.clat .z hx13
  obtain rfl:cs9=(ky e9):=hr9
  refine vI ?_
  refine V ?_
  obtain⟨e10,hx14,h⟩:=ae h
  obtain⟨ad10,cs10,hA10,hr10,hq14⟩:=hI.clat .z hx14
  obtain rfl:cs10=(ky e10):=hr10
  refine vI ?_
  refine V ?_
  obtain⟨e11,hx15,h⟩:=ae h
  obtain⟨ad11,cs11,hA11,hr11,hq15⟩:=hI.clat (.s .z) hx15
  obtain rfl:cs11=(ky e11):=hr11
  refine vI ?_
  refine V ?_
  refine bJ (F:=F) (C:=c5) rfl rfl ?_
  obtain⟨⟨r3,s5⟩,hx16,h⟩:=ae h
  try dsimp only at h
  obtain⟨c12,f3,hB,hl3,hk3⟩:=hI.hands (.l .n)
  refine wd (args:=[(aE e9.Name),vi e10.By,vi e11.By]) rfl gn rfl rfl et ⟨et,⟨et,⟨et,trivial⟩⟩⟩ (CallV.mono ((hI.get (.s (.s .z))).2 c12 f3 w8 (Sp.less hl3) e9.Name e10.By e11.By s2 _ (hB.subs trivial) hx16) ?_)
  rintro _ w9 ⟨c13,rfl,hB2⟩
  obtain⟨c14,hs3,hI⟩:=hk3 _ _ _ _ hB2
  dsimp only[ca,na]at hI
  refine⟨_,rfl,DM true F c14,hs3,?_⟩
  refine V ?_
  refine aI [] false (.c (0,.q) (.c (1,.q) (.c (2,.q) (.c (3,.q) (.c (4,.q) (.c (5,.q) .n)))))) hI (by kernel_rfl) (by kernel_rfl) ?_
  intro w10 hI
  refine V ?_
  obtain⟨zs3,hx17,h⟩:=ae h
  obtain⟨a9,hB3⟩:∃ B:Option Addr,B=(if c3=Int.toNat 1 then a5 else Option.map (·.add (Int.toNat 1 * 2)) a5):=⟨_,rfl⟩
  refine l6 rfl gn rfl (fun w'=>uX rfl Cn rj et ao hx17 hB3) ?_
  replace hI:=hI.from_ .z hx17 hB3
  refine V ?_
  obtain⟨zs4,hx18,h⟩:=ae h
  obtain⟨a10,hB4⟩:∃ B:Option Addr,B=(if c4=Int.toNat 1 then a6 else Option.map (·.add (Int.toNat 1 * 2)) a6):=⟨_,rfl⟩
  refine l6 rfl gn rfl (fun w'=>uX rfl Cn rj et ao hx18 hB4) ?_
  replace hI:=hI.from_ (.s (.s .z)) hx18 hB4
  refine V ?_
  refine oq ?_
  exact kl (fuel1,zs3,zs4,s5,a9,c3 - Int.toNat 1,a10,c4 - Int.toNat 1)
 refine bk ?_
 refine eU ?_
 obtain rfl:=aj h
 refine QG ?_
 exact⟨_,rfl,hI.arr GO SU⟩
theorem x5 (hF:dG F w0) {a1 b1:GLin} (hc:AllCl [Cl.sl ai a2 c1 a1.L,Cl.sl ai a3 c2 b1.L] F w0) {r:GLin×Int} (h:gY a1 b1=some r):Cg 69 #[(Value.agg (bQ a1 a2 c1)),(Value.agg (bQ b1 a3 c2))] w0 fun e w=>∃ a4 c3,e= .returned (Value.tuple #[(Value.agg (bQ r.1 a4 c3)),vi r.2])∧Ext w0 w∧AllCl [Cl.sl ai a4 c3 r.1.L] F w:=by
 refine EN Tryz.func69 Tryz.ntmps69 hF hc fun hI=> ?_
 rw[gY]at h
 refine sr (lX fun b2 c5 w1 hI=> ?_)
 refine lX fun b3 c7 w2 hI=> ?_
 refine lN fun b4 c8 w3 hI=> ?_
 refine T ?_
 refine al (sr (sq (am (l:=(gc a1 a2 c1)) rfl et oy rfl bt (hI.kblk (l:=(gc a1 a2 c1)) (.s .z) rfl).1) ?_))
 refine sB h (fun _ k=>nz hI.lt FS k) (Rc Tryz.func122) fun r1 w4 h hI=> ?_
 refine T ?_
 refine az (cq rfl rfl rfl rfl) rfl (fun hc=>(am (l:=(gc b1 a3 c2)) rfl et oy rfl bt (hI.kblk (l:=(gc b1 a3 c2)) .z rfl).1)) ?_
 obtain⟨r2,hx3,h⟩:=ae h
 replace hx3:=ay hx3
 refine sU (fun hc=>nz hI.lt FS (hx3 hc)) (Rg Tryz.func122) fun w5 hI=> ?_
 refine TC (fun hb h=> ?_) fun hb h=> ?_
 ·refine sr (sq (ax (vs:=[]) (cs:=#[vi 0,vs none 0 0]) rfl trivial (by kernel_rfl)) ?_)
  refine lA fun c9 w6 hI=> ?_
  refine T ?_
  refine aA ?_
  have hI:=hI.add (c:=Cl.sl ai none 0 ([]:List GMono)) SlC.nil
  obtain rfl:=aj h
  refine QG ?_
  exact⟨none,0,rfl,hI.ext0,hI.fin ⟨.z,trivial⟩⟩
 refine T ?_
 refine lN fun b5 c10 w7 hI=> ?_
 refine T ?_
 refine lN fun b6 c11 w8 hI=> ?_
 refine T ?_
 refine sB h (fun _ k=>wL hI.lt trivial k) (Rc Tryz.func123) fun r3 w9 h hI=> ?_
 refine T ?_
 refine lS fun c12 w10 hI=> ?_
 refine lS fun c13 w11 hI=> ?_
 refine T ?_
 refine sq (nJ (vs:=[]) (cap:=[vp b6 0,vp b5 0]) rfl rfl ⟨et,⟨et,trivial⟩⟩) ?_
 have hI:=hI.nil ai 64 none
 obtain⟨c14,f1,hB,hl4,hk1⟩:=hI.hands (.l (.l (.l (.r .n))))
 replace hB:=hB.ord (.c (.s .z) (.c (.s .z) (.c .z .n)))
 have hB:Bun c14 f1 w11 c14 w11 [MO.st (StI.of (fun(s:Bool×GLin) (b:(Option Addr)×Nat)=>[MO.box b6 4 #[vb (s.1)],MO.box b5 27 #[(vi ((s.2).K)),(vs (b.1) ((s.2).L).length (b.2))],MO.row ai 64 (b.1) (b.2) ((s.2).L)]) (fun(s:Bool×GLin) (b:(Option Addr)×Nat)=>[])) (r3.2,(⟨r3.1,([]:List GMono)⟩:GLin))] _:=Bun.mkst (b:=(none,0)) hB trivial
 have hC:=hB
 have hY1:fnS_k2 (StI.of (fun(s:Bool×GLin) (b:(Option Addr)×Nat)=>[MO.box b6 4 #[vb (s.1)],MO.box b5 27 #[(vi ((s.2).K)),(vs (b.1) ((s.2).L).length (b.2))],MO.row ai 64 (b.1) (b.2) ((s.2).L)]) (fun(s:Bool×GLin) (b:(Option Addr)×Nat)=>[])) (Value.func (.func 125) #[] #[vp b6 0,vp b5 0]) (fun x_1 x_2 x_3 s=>eS x_1 x_2 x_3 (s.1) (s.2)) (Dj f1 c14) w11:=by
  refine⟨rfl,fun C0 F w' hs x_1 x_2 x_3 s r hB h=> ?_⟩
  obtain⟨⟨a5,c15⟩,hB⟩:=Bun.unst hB
  refine CallV.fn (cap:=[vp b6 0,vp b5 0]) Ha (Calls.mono (xC HS h) ?_)
  rintro _ w'' ⟨z1,z2,C',rfl,hB2⟩
  exact⟨C',rfl,(Bun.mkst (os:=(fun(s:Bool×GLin) (b:(Option Addr)×Nat)=>[MO.box b6 4 #[vb (s.1)],MO.box b5 27 #[(vi ((s.2).K)),(vs (b.1) ((s.2).L).length (b.2))],MO.row ai 64 (b.1) (b.2) ((s.2).L)])) (cl:=(fun(s:Bool×GLin) (b:(Option Addr)×Nat)=>[])) (s:=r.2) (b:=(z1,z2)) hB2 trivial).subs trivial⟩
 obtain⟨⟨r4,s1⟩,hx7,h⟩:=ae h
 try dsimp only at h
 refine aB gn rfl (Rc Tryz.func124) (Calls.mono (xB ((hB.add (c:=(wv (StI.of (fun(s:Bool×GLin) (b:(Option Addr)×Nat)=>[MO.box b6 4 #[vb (s.1)],MO.box b5 27 #[(vi ((s.2).K)),(vs (b.1) ((s.2).L).length (b.2))],MO.row ai 64 (b.1) (b.2) ((s.2).L)]) (fun(s:Bool×GLin) (b:(Option Addr)×Nat)=>[])) (Value.func (.func 125) #[] #[vp b6 0,vp b5 0]) (fun x_1 x_2 x_3 s=>eS x_1 x_2 x_3 (s.1) (s.2)))) hY1).subs ⟨(.s (.s (.s .z))),(.s (.s (.s (.s .z)))),.z,trivial⟩) hx7) ?_)
 rintro _ w12 ⟨c16,rfl,hB2⟩
 obtain⟨⟨a6,c17⟩,hB2⟩:=Bun.unst hB2
 refine HN hk1 hB2 fun c18 hI=> ?_
 refine⟨_,rfl,?_⟩
 refine T ?_
 refine al (T ?_)
 refine TC (fun hb h=> ?_) fun hb h=> ?_
 ·refine sr (sq (ax (vs:=[]) (cs:=#[vi 0,vs none 0 0]) rfl trivial (by kernel_rfl)) ?_)
  refine lA fun c19 w13 hI=> ?_
  refine T ?_
  refine aA ?_
  have hI:=hI.add (c:=Cl.sl ai none 0 ([]:List GMono)) SlC.nil
  obtain rfl:=aj h
  refine QG ?_
  exact⟨none,0,rfl,hI.ext0,hI.fin ⟨.z,trivial⟩⟩
 refine T ?_
 refine lA fun c20 w14 hI=> ?_
 refine T ?_
 refine aA ?_
 obtain⟨c21,hI⟩:=hI.release (.s (.s .z))
 obtain rfl:=aj h
 refine QG ?_
 exact⟨a6,c17,rfl,hI.ext0,hI.fin ⟨.z,trivial⟩⟩
theorem aO {r1:aa} {s1:List UInt8} (hI:Bun C0 F w0 C0 w0 [MO.box b1 67 (af r1 a1 c1)] [Cl.sl ag a1 c1 r1.l]) {r:Bool×aa} (h:aw r1 s1=some r):Cg 68 #[vp b1 0,(aE s1)] w0 fun e w=>∃ a2 c2 C,e= .returned (vb r.1)∧Bun C0 F w0 C w [MO.box b1 67 (af r.2 a2 c2)] [Cl.sl ag a2 c2 r.2.l]:=by
 refine oN Tryz.func68 rfl Tryz.ntmps68 rfl ?_
 rw[aw]at h
 refine T ?_
 refine al (T ?_)
 refine sB h (fun _ k=>dT NE ⟨(hI.get0 .z),hI.lendBox .z,trivial⟩ k) (Rc Tryz.func121) fun r2 w1 h hI=> ?_
 refine TC (fun hb h=> ?_) fun hb h=> ?_
 ·refine T ?_
  refine lS fun c3 w2 hI=> ?_
  refine T ?_
  refine aA ?_
  obtain rfl:=aj h
  refine QG ?_
  exact⟨a1,c1,_,rfl,hI.arr GO SU⟩
 refine T ?_
 refine aA ?_
 obtain rfl:=aj h
 refine QG ?_
 exact⟨a1,c1,_,rfl,hI.arr GO SU⟩
theorem dA {r1:aa} (hI:Bun C0 F w0 C0 w0 [MO.box b1 67 (af r1 a1 c1)] [Cl.sl ag a1 c1 r1.l]) {r:bz (Unit×aa)} (h:bc r1=some r):CP C0 F w0 103 #[vp b1 0] r fun rx e w=>∃ a2 c2 C,e= .returned (Value.tuple #[])∧Bun C0 F w0 C w [MO.box b1 67 (af rx.2 a2 c2)] [Cl.sl ag a2 c2 rx.2.l]:=by
 refine fU (l:=[vp b1 0]) Tryz.func103 rfl Tryz.ntmps103 rfl ?_
 rw[bc]at h
 refine al (al (aI [] false (.c (0,.q) (.c (1,.q) (.c (2,.q) (.c (3,.q) (.c (4,.q) (.c (5,.q) (.c (6,.q) (.c (7,.q) (.c (8,.q) (.c (9,.q) .n)))))))))) hI (by kernel_rfl) (by kernel_rfl) ?_))
 intro w1 hI
 refine V ?_
 refine TC (fun hb h=> ?_) fun hb h=> ?_
 ·refine T ?_
  rcases iM h with⟨r2,hx1,h⟩ | ⟨pa_,pn_,hx1,hp_⟩
  rotate_left
  ·subst hp_
   refine nU gn rfl (aF (vs:=[vp b1 0,vi (r1.l.length:Int),vi 6]) rfl sO ⟨et,⟨et,⟨ao,trivial⟩⟩⟩) (Calls.mono (aU NE ⟨(hI.get0 .z),hI.lendBox .z,trivial⟩ hx1) ?_)
   intro e_ w_ hq_;obtain⟨rfl,hx_⟩:=eY hq_;have hI_:=hI.ext hx_;exact .inr ⟨_,rfl,iK (.inr ⟨_,_,rfl,rfl,⟨_,hI_.arr .n trivial⟩⟩)⟩
  try dsimp only at h
  refine aB gn rfl (Rc Tryz.func71) (Calls.mono (aU NE ⟨(hI.get0 .z),hI.lendBox .z,trivial⟩ hx1) ?_)
  intro e_ w2 hq_;obtain⟨rfl,hx2,hl1⟩:=eX hq_
  refine⟨_,rfl,?_⟩
  replace hI:=(hI.ext hx2)
  refine T ?_
  rcases iM h with⟨r3,hx3,h⟩ | ⟨pa_,pn_,hx3,hp_⟩
  rotate_left
  ·subst hp_
   refine nU gn rfl (aF (vs:=[vp b1 0,vi r1.at_,vi 5]) rfl sO ⟨et,⟨et,⟨ao,trivial⟩⟩⟩) (Calls.mono (aU NE ⟨(hI.get0 .z),hI.lendBox .z,trivial⟩ hx3) ?_)
   intro e_ w_ hq_;obtain⟨rfl,hx_⟩:=eY hq_;have hI_:=hI.ext hx_;exact .inr ⟨_,rfl,iK (.inr ⟨_,_,rfl,rfl,⟨_,hI_.arr .n trivial⟩⟩)⟩
  try dsimp only at h
  refine aB gn rfl (Rc Tryz.func71) (Calls.mono (aU NE ⟨(hI.get0 .z),hI.lendBox .z,trivial⟩ hx3) ?_)
  intro e_ w3 hq_;obtain⟨rfl,hx4,hl2⟩:=eX hq_
  refine⟨_,rfl,?_⟩
  replace hI:=(hI.ext hx4)
  refine aM ?_
  obtain rfl:=aj h
  refine QG ?_
  exact .inl ⟨_,rfl,a1,c1,_,rfl,hI.arr GO SU⟩
 refine T ?_
 rcases iM h with⟨r4,hx5,h⟩ | ⟨pa_,pn_,hx5,hp_⟩
 rotate_left
 ·subst hp_
  refine nU gn rfl (aF (vs:=[vp b1 0,vi r1.at_,vi 5]) rfl sO ⟨et,⟨et,⟨ao,trivial⟩⟩⟩) (Calls.mono (aU NE ⟨(hI.get0 .z),hI.lendBox .z,trivial⟩ hx5) ?_)
  intro e_ w_ hq_;obtain⟨rfl,hx_⟩:=eY hq_;have hI_:=hI.ext hx_;exact .inr ⟨_,rfl,iK (.inr ⟨_,_,rfl,rfl,⟨_,hI_.arr .n trivial⟩⟩)⟩
 try dsimp only at h
 refine aB gn rfl (Rc Tryz.func71) (Calls.mono (aU NE ⟨(hI.get0 .z),hI.lendBox .z,trivial⟩ hx5) ?_)
 intro e_ w4 hq_;obtain⟨rfl,hx6,hl3⟩:=eX hq_
 refine⟨_,rfl,?_⟩
 replace hI:=(hI.ext hx6)
 refine aM ?_
 obtain rfl:=aj h
 refine QG ?_
 exact .inl ⟨_,rfl,a1,c1,_,rfl,hI.arr GO SU⟩
theorem iV {r1:aa} (hI:Bun C0 F w0 C0 w0 [MO.box b1 67 (af r1 a1 c1)] [Cl.sl ag a1 c1 r1.l,av]) {r:bz (List UInt8×aa)} (h:br r1=some r):CP C0 F w0 128 #[vp b1 0] r fun rx e w=>∃ a2 c2 C,e= .returned (aE rx.1)∧Bun C0 F w0 C w [MO.box b1 67 (af rx.2 a2 c2)] [Cl.sl ag a2 c2 rx.2.l]:=by
 refine fU (l:=[vp b1 0]) Tryz.func128 rfl Tryz.ntmps128 rfl ?_
 rw[br]at h
 refine T ?_
 refine bw (α:=aa×(Option Addr)×Nat) (fun _=>⟨27,[]⟩) (fun x=>[(0,vp b1 0)]) (fun x=>fun w=>∃ C,Bun C0 F w0 C w [MO.box b1 67 (af (x.1) (x.2.1) (x.2.2))] [Cl.sl ag (x.2.1) (x.2.2) (x.1).l,av]∧fk (x.1)=some r) ?_ ?_
 ·clear h hI;rintro⟨r2,a3,c3⟩ w1 ⟨c4,hI,h⟩
  try dsimp only at hI h ⊢
  rw[fk]at h
  refine T ?_
  refine lS fun c5 w2 hI=> ?_
  refine nk (al (aI [] false (.c (0,.q) (.c (1,.q) (.c (2,.q) (.c (3,.q) (.c (4,.q) (.c (5,.q) (.c (6,.q) (.c (7,.q) (.c (8,.q) (.c (9,.q) (.c (10,.q) (.c (11,.q) (.c (12,.q) .n))))))))))))) hI (by kernel_rfl) (by kernel_rfl) ?_))
  intro w3 hI
  refine V ?_
  obtain⟨e1,hx1,h⟩:=ae h
  obtain⟨ad1,cs1,hA1,hr1,hq1⟩:=hI.clat .z hx1
  obtain rfl:cs1=(kx e1):=hr1
  refine vI ?_
  refine V ?_
  refine aA ?_
  obtain rfl:=aj h
  refine QG ?_
  exact .inl ⟨_,rfl,a3,c3,_,rfl,hI.arr GO SU⟩
 refine T ?_
 refine sB h (fun _ k=>kR NE ⟨(hI.get0 .z),hI.lendBox .z,hI.get0 (.s .z),trivial⟩ k) (Rc Tryz.func126) fun r3 w4 h hI=> ?_
 refine TC (fun hb h=> ?_) fun hb h=> ?_
 ·refine T ?_
  obtain⟨c6,f1,hB,hl2,hk1⟩:=hI.hands (.l .n)
  refine eG h (fun _ hx4=>dA HS hx4) (lw hk1) (Rc Tryz.func103) ?_
  rintro⟨r4,s1⟩ hx4 h _ w5 ⟨a4,c7,c8,rfl,hB2⟩
  try dsimp only at h
  refine HN hk1 hB2 fun c9 hI=> ?_
  refine⟨_,rfl,?_⟩
  refine aM ?_
  exact kj (s1,a4,c7)
 exact bf (bi (r1,a1,c1) ⟨rfl,trivial⟩ BH rfl)
theorem ib {r1:aa} (hI:Bun C0 F w0 C0 w0 [MO.box b1 67 (af r1 a1 c1)] [Cl.sl ag a1 c1 r1.l]) {r:bz (List UInt8×aa)} (h:bG r1=some r):CP C0 F w0 130 #[vp b1 0] r fun rx e w=>∃ a2 c2 C,e= .returned (aE rx.1)∧Bun C0 F w0 C w [MO.box b1 67 (af rx.2 a2 c2)] [Cl.sl ag a2 c2 rx.2.l]:=by
 refine fU (l:=[vp b1 0]) Tryz.func130 rfl Tryz.ntmps130 rfl ?_
 rw[bG]at h
 refine T ?_
 refine bw (α:=aa×(Option Addr)×Nat) (fun _=>⟨27,[]⟩) (fun x=>[(0,vp b1 0)]) (fun x=>fun w=>∃ C,Bun C0 F w0 C w [MO.box b1 67 (af (x.1) (x.2.1) (x.2.2))] [Cl.sl ag (x.2.1) (x.2.2) (x.1).l]∧cv (x.1)=some r) ?_ ?_
 ·clear h hI;rintro⟨r2,a3,c3⟩ w1 ⟨c4,hI,h⟩
  try dsimp only at hI h ⊢
  rw[cv]at h
  refine T ?_
  refine lS fun c5 w2 hI=> ?_
  refine nk (al (aI [] false (.c (0,.q) (.c (1,.q) (.c (2,.q) (.c (3,.q) (.c (4,.q) (.c (5,.q) (.c (6,.q) (.c (7,.q) (.c (8,.q) (.c (9,.q) (.c (10,.q) (.c (11,.q) (.c (12,.q) .n))))))))))))) hI (by kernel_rfl) (by kernel_rfl) ?_))
  intro w3 hI
  refine V ?_
  obtain⟨e1,hx1,h⟩:=ae h
  obtain⟨ad1,cs1,hA1,hr1,hq1⟩:=hI.clat .z hx1
  obtain rfl:cs1=(kx e1):=hr1
  refine vI ?_
  refine V ?_
  refine aA ?_
  obtain rfl:=aj h
  refine QG ?_
  exact .inl ⟨_,rfl,a3,c3,_,rfl,hI.arr GO SU⟩
 refine T ?_
 refine sB h (fun _ k=>po NE ⟨(hI.get0 .z),hI.lendBox .z,trivial⟩ k) (Rc Tryz.func187) fun r3 w4 h hI=> ?_
 refine TC (fun hb h=> ?_) fun hb h=> ?_
 ·refine T ?_
  obtain⟨c6,f1,hB,hl2,hk1⟩:=hI.hands (.l .n)
  refine eG h (fun _ hx4=>dA HS hx4) (lw hk1) (Rc Tryz.func103) ?_
  rintro⟨r4,s1⟩ hx4 h _ w5 ⟨a4,c7,c8,rfl,hB2⟩
  try dsimp only at h
  refine HN hk1 hB2 fun c9 hI=> ?_
  refine⟨_,rfl,?_⟩
  refine aM ?_
  exact kj (s1,a4,c7)
 exact bf (bi (r1,a1,c1) ⟨rfl,trivial⟩ BH rfl)
end Go.Proofs.YtmhoikfoogemnaaGreatDoor
