import Derived.Test.YtmhoikfoogemnaaGreatDoorMXc
import Derived.Test.YtmhoikfoogemnaaGreatDoorMLfW
namespace Go.Proofs.YtmhoikfoogemnaaGreatDoor
open Go Go.RowKit Go.Vc
set_option maxRecDepth 100000
set_option maxHeartbeats 4000000
set_option linter.unusedVariables false
set_option linter.unusedSimpArgs false
theorem bc {P:Program} {ro:Ro} {n:Fr} {Kn:Act→World→Prop} {Ke:Nat→Act→World→Prop} {Kr:Act→World→Prop} {env:kq} {w:World} {c:Operand} {x y:Code} {b:Bool} {β:Type} {p q:Option β} {r:β} (h:(if b=true then p else q)=some r) (hc:Ev n env c (.bool b)) (ht:b=true→p=some r→gM P ro n x Kn Ke Kr env w) (hf:b=false→q=some r→gM P ro n y Kn Ke Kr env w):gM P ro n (.cond c x y) Kn Ke Kr env w:=q8 hc (fun hb=>ht hb (HU hb h)) (fun hb=>hf hb (HV hb h))
theorem fq {F C:NP} {w0 w:World} {os:List MO} {cl cl':List Cl} {e:Ending} (h:Bun d5 F w0 C w os cl) (hs:Subs cl cl'):e=e∧Ext w0 w∧AllCl cl' F w:=⟨rfl,h.ext0,h.fin hs⟩
abbrev m6 (x:aG):List Value:=[vi x.Kind,vi x.At,aC x.Text]
abbrev ab (x:aa) (A1:Option Addr) (C1:Nat):Array Value:=#[vs A1 x.l.length C1,vi x.at_,vi x.deep]
abbrev lH (x:GMono):List Value:=[aC x.Name,vi x.By]
abbrev Ff (x:GMono):Array Value:=#[aC x.Name,vi x.By]
abbrev gx (x:GLin) (A1:Option Addr) (C1:Nat):List Value:=[vi x.K,vs A1 x.L.length C1]
abbrev bI (x:GLin) (A1:Option Addr) (C1:Nat):Array Value:=#[vi x.K,vs A1 x.L.length C1]
abbrev gz (x:GType):List Value:=[vi x.Kind,vi x.Bits,vi x.Frac,vi x.Round,vi x.Over]
abbrev cv (x:GType):Array Value:=#[vi x.Kind,vi x.Bits,vi x.Frac,vi x.Round,vi x.Over]
abbrev th:Array Value:=#[vi 0,vi 0,vi 0,vi 0,vi 0]
abbrev qn (x:GVal):List Value:=[vi x.N,vi x.D]
abbrev oM (x:GVal):Array Value:=#[vi x.N,vi x.D]
abbrev o4 (x:GIndex) (A1:Option Addr) (C1:Nat) (A2:Option Addr) (C2:Nat):List Value:=[vi x.Lin.K,vs A1 x.Lin.L.length C1,aC x.From,vs A2 x.At.length C2]
abbrev eF (x:GIndex) (A1:Option Addr) (C1:Nat) (A2:Option Addr) (C2:Nat):Array Value:=#[vi x.Lin.K,vs A1 x.Lin.L.length C1,aC x.From,vs A2 x.At.length C2]
abbrev aQ (x:GExpr) (A1:Option Addr) (C1:Nat) (A2:Option Addr) (C2:Nat) (A3:Option Addr) (C3:Nat):List Value:=[vi x.Op,aC x.Name,vi x.Val.N,vi x.Val.D,vi x.Type_.Kind,vi x.Type_.Bits,vi x.Type_.Frac,vi x.Type_.Round,vi x.Type_.Over,vi x.Lin.K,vs A1 x.Lin.L.length C1,vs A2 x.Idx.length C2,vs A3 x.Args.length C3]
abbrev am (x:GExpr) (A1:Option Addr) (C1:Nat) (A2:Option Addr) (C2:Nat) (A3:Option Addr) (C3:Nat):Array Value:=#[vi x.Op,aC x.Name,vi x.Val.N,vi x.Val.D,vi x.Type_.Kind,vi x.Type_.Bits,vi x.Type_.Frac,vi x.Type_.Round,vi x.Type_.Over,vi x.Lin.K,vs A1 x.Lin.L.length C1,vs A2 x.Idx.length C2,vs A3 x.Args.length C3]
abbrev u2:= @Tryz.underlying2
abbrev u3:= @Tryz.underlying3
abbrev u4:= @Tryz.underlying4
abbrev u5:= @Tryz.underlying5
abbrev u9:= @Tryz.underlying9
abbrev G1:= @Tryz.underlying22
abbrev DP:= @Tryz.underlying25
abbrev rZ:= @Tryz.underlying27
abbrev B4:= @Tryz.underlying28
abbrev G0:= @Tryz.underlying33
abbrev tj:= @Tryz.underlying35
abbrev B3:= @Tryz.underlying36
abbrev xP:= @Tryz.underlying37
abbrev nq:= @Tryz.underlying39
abbrev DO:= @Tryz.underlying50
abbrev u64:= @Tryz.underlying64
abbrev H6:= @Tryz.underlying65
abbrev H5:= @Tryz.underlying67
abbrev GZ:= @Tryz.underlying93
abbrev u114:= @Tryz.underlying114
abbrev B5:= @Tryz.underlying123
abbrev A9:= @Tryz.underlying132
theorem yb:Tryz.prog.stoodInHeld 33=false:=by kernel_rfl
theorem yL (a0 b0:Int) (a1 b1:Int) (w:World):(binOp .eql 33 (.agg #[(Value.int .i64 a0),(Value.int .i64 a1)]) (.agg #[(Value.int .i64 b0),(Value.int .i64 b1)])).run Tryz.prog w= .ok (.bool ((decide (a0=b0))&&(decide (a1=b1)))) w:=by
  simp[go_sem,yb,Tryz.underlying33,nB,nA]
  all_goals (by_cases h0:a0=b0<;>by_cases h1:a1=b1<;>simp[h0,h1])
theorem xl (a0 b0:Int) (a1 b1:Int) (w:World):(binOp .neq 33 (.agg #[(Value.int .i64 a0),(Value.int .i64 a1)]) (.agg #[(Value.int .i64 b0),(Value.int .i64 b1)])).run Tryz.prog w= .ok (.bool (!((decide (a0=b0))&&(decide (a1=b1))))) w:=by
  simp[go_sem,yb,Tryz.underlying33,nB,nA]
  all_goals (by_cases h0:a0=b0<;>by_cases h1:a1=b1<;>simp[h0,h1])
theorem uT (op:BinOp) (x y:Operand) (xs ys:Array Value) (w:World):(eqGuard op 33 x y (.agg xs) (.agg ys)).run Tryz.prog w= .ok () w:=run_eqGuard_agg w op 33 x y xs ys (by kernel_rfl)
theorem ya:Tryz.prog.stoodInHeld 35=false:=by kernel_rfl
theorem ta (a0 b0:Int) (a1 b1:Int) (a2 b2:Int) (a3 b3:Int) (a4 b4:Int) (w:World):(binOp .eql 35 (.agg #[(Value.int .i64 a0),(Value.int .i64 a1),(Value.int .i64 a2),(Value.int .i64 a3),(Value.int .i64 a4)]) (.agg #[(Value.int .i64 b0),(Value.int .i64 b1),(Value.int .i64 b2),(Value.int .i64 b3),(Value.int .i64 b4)])).run Tryz.prog w= .ok (.bool ((decide (a0=b0))&&(decide (a1=b1))&&(decide (a2=b2))&&(decide (a3=b3))&&(decide (a4=b4)))) w:=by
  simp[go_sem,ya,Tryz.underlying35,nB,nA]
  all_goals (by_cases h0:a0=b0<;>by_cases h1:a1=b1<;>by_cases h2:a2=b2<;>by_cases h3:a3=b3<;>by_cases h4:a4=b4<;>simp[h0,h1,h2,h3,h4])
theorem xk (a0 b0:Int) (a1 b1:Int) (a2 b2:Int) (a3 b3:Int) (a4 b4:Int) (w:World):(binOp .neq 35 (.agg #[(Value.int .i64 a0),(Value.int .i64 a1),(Value.int .i64 a2),(Value.int .i64 a3),(Value.int .i64 a4)]) (.agg #[(Value.int .i64 b0),(Value.int .i64 b1),(Value.int .i64 b2),(Value.int .i64 b3),(Value.int .i64 b4)])).run Tryz.prog w= .ok (.bool (!((decide (a0=b0))&&(decide (a1=b1))&&(decide (a2=b2))&&(decide (a3=b3))&&(decide (a4=b4))))) w:=by
  simp[go_sem,ya,Tryz.underlying35,nB,nA]
  all_goals (by_cases h0:a0=b0<;>by_cases h1:a1=b1<;>by_cases h2:a2=b2<;>by_cases h3:a3=b3<;>by_cases h4:a4=b4<;>simp[h0,h1,h2,h3,h4])
theorem qS (op:BinOp) (x y:Operand) (xs ys:Array Value) (w:World):(eqGuard op 35 x y (.agg xs) (.agg ys)).run Tryz.prog w= .ok () w:=run_eqGuard_agg w op 35 x y xs ys (by kernel_rfl)
theorem B9:Tryz.prog.stoodInHeld 64=false:=by kernel_rfl
theorem xj (a0 b0:List UInt8) (a1 b1:Int) (w:World):(binOp .neq 64 (.agg #[(aC a0),(Value.int .i64 a1)]) (.agg #[(aC b0),(Value.int .i64 b1)])).run Tryz.prog w= .ok (.bool (!((decide (a0=b0))&&(decide (a1=b1))))) w:=by
  simp[go_sem,B9,Tryz.underlying64,nB,nA]
  all_goals (by_cases h0:a0=b0<;>by_cases h1:a1=b1<;>simp[h0,h1])
theorem zY (op:BinOp) (x y:Operand) (xs ys:Array Value) (w:World):(eqGuard op 64 x y (.agg xs) (.agg ys)).run Tryz.prog w= .ok () w:=run_eqGuard_agg w op 64 x y xs ys (by kernel_rfl)
theorem ry:rb Tryz.prog 132 4 72 (Value.agg #[(Value.int .i64 0),(Value.slice none 0 0),(aC ([]:List UInt8)),(Value.slice none 0 0)]):=o5 (by kernel_rfl) rfl
theorem xc:rb Tryz.prog 27 2 32 (Value.agg #[(Value.int .i64 0),(Value.slice none 0 0)]):=o5 (by kernel_rfl) rfl
theorem uM:rb Tryz.prog 3 1 8 (Value.int .i64 0):=o5 (by kernel_rfl) rfl
theorem kx:rb Tryz.prog 39 13 160 (Value.agg #[(Value.int .i64 0),(aC ([]:List UInt8)),(Value.int .i64 0),(Value.int .i64 0),(Value.int .i64 0),(Value.int .i64 0),(Value.int .i64 0),(Value.int .i64 0),(Value.int .i64 0),(Value.int .i64 0),(Value.slice none 0 0),(Value.slice none 0 0),(Value.slice none 0 0)]):=o5 (by kernel_rfl) rfl
theorem tX:rb Tryz.prog 62 3 32 (Value.agg #[(Value.int .i64 0),(Value.int .i64 0),(aC ([]:List UInt8))]):=o5 (by kernel_rfl) rfl
theorem qe:rb Tryz.prog 64 2 24 (Value.agg #[(aC ([]:List UInt8)),(Value.int .i64 0)]):=o5 (by kernel_rfl) rfl
theorem ol:rb Tryz.prog 9 1 16 (aC ([]:List UInt8)):=o5 (by kernel_rfl) rfl
theorem qM:bf Tryz.prog 103:=⟨_,Tryz.func103,by kernel_rfl,by kernel_rfl⟩
theorem lC:bf Tryz.prog 104:=⟨_,Tryz.func104,by kernel_rfl,by kernel_rfl⟩
theorem AK:bf Tryz.prog 11:=⟨_,Tryz.func11,by kernel_rfl,by kernel_rfl⟩
theorem HN:bf Tryz.prog 12:=⟨_,Tryz.func12,by kernel_rfl,by kernel_rfl⟩
theorem oQ:bf Tryz.prog 121:=⟨_,Tryz.func121,by kernel_rfl,by kernel_rfl⟩
theorem wV:bf Tryz.prog 122:=⟨_,Tryz.func122,by kernel_rfl,by kernel_rfl⟩
theorem C7:bf Tryz.prog 123:=⟨_,Tryz.func123,by kernel_rfl,by kernel_rfl⟩
theorem GA:bf Tryz.prog 124:=⟨_,Tryz.func124,by kernel_rfl,by kernel_rfl⟩
theorem Gz:bf Tryz.prog 125:=⟨_,Tryz.func125,by kernel_rfl,by kernel_rfl⟩
theorem zA:bf Tryz.prog 126:=⟨_,Tryz.func126,by kernel_rfl,by kernel_rfl⟩
theorem C6:bf Tryz.prog 127:=⟨_,Tryz.func127,by kernel_rfl,by kernel_rfl⟩
theorem wU:bf Tryz.prog 128:=⟨_,Tryz.func128,by kernel_rfl,by kernel_rfl⟩
theorem CZ:bf Tryz.prog 129:=⟨_,Tryz.func129,by kernel_rfl,by kernel_rfl⟩
theorem wT:bf Tryz.prog 130:=⟨_,Tryz.func130,by kernel_rfl,by kernel_rfl⟩
theorem CY:bf Tryz.prog 131:=⟨_,Tryz.func131,by kernel_rfl,by kernel_rfl⟩
theorem Gy:bf Tryz.prog 132:=⟨_,Tryz.func132,by kernel_rfl,by kernel_rfl⟩
theorem AJ:bf Tryz.prog 14:=⟨_,Tryz.func14,by kernel_rfl,by kernel_rfl⟩
theorem sg:bf Tryz.prog 140:=⟨_,Tryz.func140,by kernel_rfl,by kernel_rfl⟩
theorem CX:bf Tryz.prog 141:=⟨_,Tryz.func141,by kernel_rfl,by kernel_rfl⟩
theorem CW:bf Tryz.prog 142:=⟨_,Tryz.func142,by kernel_rfl,by kernel_rfl⟩
theorem CV:bf Tryz.prog 143:=⟨_,Tryz.func143,by kernel_rfl,by kernel_rfl⟩
theorem Gx:bf Tryz.prog 144:=⟨_,Tryz.func144,by kernel_rfl,by kernel_rfl⟩
theorem Gw:bf Tryz.prog 145:=⟨_,Tryz.func145,by kernel_rfl,by kernel_rfl⟩
theorem Gv:bf Tryz.prog 146:=⟨_,Tryz.func146,by kernel_rfl,by kernel_rfl⟩
theorem Gu:bf Tryz.prog 147:=⟨_,Tryz.func147,by kernel_rfl,by kernel_rfl⟩
theorem Gt:bf Tryz.prog 148:=⟨_,Tryz.func148,by kernel_rfl,by kernel_rfl⟩
theorem Gs:bf Tryz.prog 149:=⟨_,Tryz.func149,by kernel_rfl,by kernel_rfl⟩
theorem HM:bf Tryz.prog 15:=⟨_,Tryz.func15,by kernel_rfl,by kernel_rfl⟩
theorem Gr:bf Tryz.prog 153:=⟨_,Tryz.func153,by kernel_rfl,by kernel_rfl⟩
theorem wS:bf Tryz.prog 154:=⟨_,Tryz.func154,by kernel_rfl,by kernel_rfl⟩
theorem Gq:bf Tryz.prog 155:=⟨_,Tryz.func155,by kernel_rfl,by kernel_rfl⟩
theorem zz:bf Tryz.prog 156:=⟨_,Tryz.func156,by kernel_rfl,by kernel_rfl⟩
theorem CU:bf Tryz.prog 157:=⟨_,Tryz.func157,by kernel_rfl,by kernel_rfl⟩
theorem zy:bf Tryz.prog 158:=⟨_,Tryz.func158,by kernel_rfl,by kernel_rfl⟩
theorem Gp:bf Tryz.prog 159:=⟨_,Tryz.func159,by kernel_rfl,by kernel_rfl⟩
theorem CT:bf Tryz.prog 17:=⟨_,Tryz.func17,by kernel_rfl,by kernel_rfl⟩
theorem CS:bf Tryz.prog 174:=⟨_,Tryz.func174,by kernel_rfl,by kernel_rfl⟩
theorem Gn:bf Tryz.prog 175:=⟨_,Tryz.func175,by kernel_rfl,by kernel_rfl⟩
theorem uA:bf Tryz.prog 18:=⟨_,Tryz.func18,by kernel_rfl,by kernel_rfl⟩
theorem CR:bf Tryz.prog 184:=⟨_,Tryz.func184,by kernel_rfl,by kernel_rfl⟩
theorem zx:bf Tryz.prog 185:=⟨_,Tryz.func185,by kernel_rfl,by kernel_rfl⟩
theorem CQ:bf Tryz.prog 186:=⟨_,Tryz.func186,by kernel_rfl,by kernel_rfl⟩
theorem Gm:bf Tryz.prog 187:=⟨_,Tryz.func187,by kernel_rfl,by kernel_rfl⟩
theorem uz:bf Tryz.prog 193:=⟨_,Tryz.func193,by kernel_rfl,by kernel_rfl⟩
theorem wR:bf Tryz.prog 194:=⟨_,Tryz.func194,by kernel_rfl,by kernel_rfl⟩
theorem CP:bf Tryz.prog 195:=⟨_,Tryz.func195,by kernel_rfl,by kernel_rfl⟩
theorem zw:bf Tryz.prog 196:=⟨_,Tryz.func196,by kernel_rfl,by kernel_rfl⟩
theorem Gl:bf Tryz.prog 197:=⟨_,Tryz.func197,by kernel_rfl,by kernel_rfl⟩
theorem Gk:bf Tryz.prog 198:=⟨_,Tryz.func198,by kernel_rfl,by kernel_rfl⟩
theorem Gj:bf Tryz.prog 199:=⟨_,Tryz.func199,by kernel_rfl,by kernel_rfl⟩
theorem Gi:bf Tryz.prog 200:=⟨_,Tryz.func200,by kernel_rfl,by kernel_rfl⟩
theorem Gh:bf Tryz.prog 201:=⟨_,Tryz.func201,by kernel_rfl,by kernel_rfl⟩
theorem wQ:bf Tryz.prog 202:=⟨_,Tryz.func202,by kernel_rfl,by kernel_rfl⟩
theorem Gg:bf Tryz.prog 203:=⟨_,Tryz.func203,by kernel_rfl,by kernel_rfl⟩
theorem Gf:bf Tryz.prog 204:=⟨_,Tryz.func204,by kernel_rfl,by kernel_rfl⟩
theorem CO:bf Tryz.prog 205:=⟨_,Tryz.func205,by kernel_rfl,by kernel_rfl⟩
theorem Ge:bf Tryz.prog 206:=⟨_,Tryz.func206,by kernel_rfl,by kernel_rfl⟩
theorem CN:bf Tryz.prog 207:=⟨_,Tryz.func207,by kernel_rfl,by kernel_rfl⟩
theorem Gd:bf Tryz.prog 208:=⟨_,Tryz.func208,by kernel_rfl,by kernel_rfl⟩
theorem CM:bf Tryz.prog 219:=⟨_,Tryz.func219,by kernel_rfl,by kernel_rfl⟩
theorem E3:bf Tryz.prog 22:=⟨_,Tryz.func22,by kernel_rfl,by kernel_rfl⟩
theorem Gc:bf Tryz.prog 221:=⟨_,Tryz.func221,by kernel_rfl,by kernel_rfl⟩
theorem Gb:bf Tryz.prog 222:=⟨_,Tryz.func222,by kernel_rfl,by kernel_rfl⟩
theorem Ga:bf Tryz.prog 223:=⟨_,Tryz.func223,by kernel_rfl,by kernel_rfl⟩
theorem CL:bf Tryz.prog 224:=⟨_,Tryz.func224,by kernel_rfl,by kernel_rfl⟩
theorem F9:bf Tryz.prog 225:=⟨_,Tryz.func225,by kernel_rfl,by kernel_rfl⟩
theorem uy:bf Tryz.prog 227:=⟨_,Tryz.func227,by kernel_rfl,by kernel_rfl⟩
theorem F8:bf Tryz.prog 228:=⟨_,Tryz.func228,by kernel_rfl,by kernel_rfl⟩
theorem F7:bf Tryz.prog 229:=⟨_,Tryz.func229,by kernel_rfl,by kernel_rfl⟩
theorem E0:bf Tryz.prog 23:=⟨_,Tryz.func23,by kernel_rfl,by kernel_rfl⟩
theorem CK:bf Tryz.prog 230:=⟨_,Tryz.func230,by kernel_rfl,by kernel_rfl⟩
theorem F6:bf Tryz.prog 231:=⟨_,Tryz.func231,by kernel_rfl,by kernel_rfl⟩
theorem F5:bf Tryz.prog 232:=⟨_,Tryz.func232,by kernel_rfl,by kernel_rfl⟩
theorem F4:bf Tryz.prog 233:=⟨_,Tryz.func233,by kernel_rfl,by kernel_rfl⟩
theorem F3:bf Tryz.prog 234:=⟨_,Tryz.func234,by kernel_rfl,by kernel_rfl⟩
theorem F2:bf Tryz.prog 235:=⟨_,Tryz.func235,by kernel_rfl,by kernel_rfl⟩
theorem F0:bf Tryz.prog 240:=⟨_,Tryz.func240,by kernel_rfl,by kernel_rfl⟩
theorem FZ:bf Tryz.prog 241:=⟨_,Tryz.func241,by kernel_rfl,by kernel_rfl⟩
theorem sf:bf Tryz.prog 242:=⟨_,Tryz.func242,by kernel_rfl,by kernel_rfl⟩
theorem CJ:bf Tryz.prog 243:=⟨_,Tryz.func243,by kernel_rfl,by kernel_rfl⟩
theorem FY:bf Tryz.prog 246:=⟨_,Tryz.func246,by kernel_rfl,by kernel_rfl⟩
theorem FX:bf Tryz.prog 247:=⟨_,Tryz.func247,by kernel_rfl,by kernel_rfl⟩
theorem FV:bf Tryz.prog 248:=⟨_,Tryz.func248,by kernel_rfl,by kernel_rfl⟩
theorem zu:bf Tryz.prog 253:=⟨_,Tryz.func253,by kernel_rfl,by kernel_rfl⟩
theorem zt:bf Tryz.prog 254:=⟨_,Tryz.func254,by kernel_rfl,by kernel_rfl⟩
theorem zr:bf Tryz.prog 255:=⟨_,Tryz.func255,by kernel_rfl,by kernel_rfl⟩
theorem zq:bf Tryz.prog 256:=⟨_,Tryz.func256,by kernel_rfl,by kernel_rfl⟩
theorem FU:bf Tryz.prog 257:=⟨_,Tryz.func257,by kernel_rfl,by kernel_rfl⟩
theorem ux:bf Tryz.prog 258:=⟨_,Tryz.func258,by kernel_rfl,by kernel_rfl⟩
theorem FT:bf Tryz.prog 260:=⟨_,Tryz.func260,by kernel_rfl,by kernel_rfl⟩
theorem FS:bf Tryz.prog 263:=⟨_,Tryz.func263,by kernel_rfl,by kernel_rfl⟩
theorem FR:bf Tryz.prog 264:=⟨_,Tryz.func264,by kernel_rfl,by kernel_rfl⟩
theorem FQ:bf Tryz.prog 265:=⟨_,Tryz.func265,by kernel_rfl,by kernel_rfl⟩
theorem CI:bf Tryz.prog 266:=⟨_,Tryz.func266,by kernel_rfl,by kernel_rfl⟩
theorem CH:bf Tryz.prog 267:=⟨_,Tryz.func267,by kernel_rfl,by kernel_rfl⟩
theorem FP:bf Tryz.prog 268:=⟨_,Tryz.func268,by kernel_rfl,by kernel_rfl⟩
theorem FO:bf Tryz.prog 269:=⟨_,Tryz.func269,by kernel_rfl,by kernel_rfl⟩
theorem FN:bf Tryz.prog 270:=⟨_,Tryz.func270,by kernel_rfl,by kernel_rfl⟩
theorem FM:bf Tryz.prog 271:=⟨_,Tryz.func271,by kernel_rfl,by kernel_rfl⟩
theorem FL:bf Tryz.prog 272:=⟨_,Tryz.func272,by kernel_rfl,by kernel_rfl⟩
theorem AH:bf Tryz.prog 29:=⟨_,Tryz.func29,by kernel_rfl,by kernel_rfl⟩
theorem EZ:bf Tryz.prog 30:=⟨_,Tryz.func30,by kernel_rfl,by kernel_rfl⟩
theorem yt:bf Tryz.prog 31:=⟨_,Tryz.func31,by kernel_rfl,by kernel_rfl⟩
theorem EY:bf Tryz.prog 33:=⟨_,Tryz.func33,by kernel_rfl,by kernel_rfl⟩
theorem nS:bf Tryz.prog 34:=⟨_,Tryz.func34,by kernel_rfl,by kernel_rfl⟩
theorem HL:bf Tryz.prog 35:=⟨_,Tryz.func35,by kernel_rfl,by kernel_rfl⟩
theorem HK:bf Tryz.prog 37:=⟨_,Tryz.func37,by kernel_rfl,by kernel_rfl⟩
theorem HJ:bf Tryz.prog 38:=⟨_,Tryz.func38,by kernel_rfl,by kernel_rfl⟩
theorem HI:bf Tryz.prog 39:=⟨_,Tryz.func39,by kernel_rfl,by kernel_rfl⟩
theorem HH:bf Tryz.prog 40:=⟨_,Tryz.func40,by kernel_rfl,by kernel_rfl⟩
theorem EX:bf Tryz.prog 46:=⟨_,Tryz.func46,by kernel_rfl,by kernel_rfl⟩
theorem HG:bf Tryz.prog 47:=⟨_,Tryz.func47,by kernel_rfl,by kernel_rfl⟩
theorem HF:bf Tryz.prog 48:=⟨_,Tryz.func48,by kernel_rfl,by kernel_rfl⟩
theorem HE:bf Tryz.prog 54:=⟨_,Tryz.func54,by kernel_rfl,by kernel_rfl⟩
theorem mK:bf Tryz.prog 68:=⟨_,Tryz.func68,by kernel_rfl,by kernel_rfl⟩
theorem EW:bf Tryz.prog 69:=⟨_,Tryz.func69,by kernel_rfl,by kernel_rfl⟩
theorem sV:bf Tryz.prog 70:=⟨_,Tryz.func70,by kernel_rfl,by kernel_rfl⟩
theorem mh:bf Tryz.prog 71:=⟨_,Tryz.func71,by kernel_rfl,by kernel_rfl⟩
theorem yr:bf Tryz.prog 74:=⟨_,Tryz.func74,by kernel_rfl,by kernel_rfl⟩
theorem yq:bf Tryz.prog 75:=⟨_,Tryz.func75,by kernel_rfl,by kernel_rfl⟩
theorem HD:bf Tryz.prog 76:=⟨_,Tryz.func76,by kernel_rfl,by kernel_rfl⟩
theorem HC:bf Tryz.prog 77:=⟨_,Tryz.func77,by kernel_rfl,by kernel_rfl⟩
theorem EU:bf Tryz.prog 78:=⟨_,Tryz.func78,by kernel_rfl,by kernel_rfl⟩
theorem HB:bf Tryz.prog 79:=⟨_,Tryz.func79,by kernel_rfl,by kernel_rfl⟩
theorem HA:bf Tryz.prog 82:=⟨_,Tryz.func82,by kernel_rfl,by kernel_rfl⟩
theorem ET:bf Tryz.prog 83:=⟨_,Tryz.func83,by kernel_rfl,by kernel_rfl⟩
theorem Hz:bf Tryz.prog 84:=⟨_,Tryz.func84,by kernel_rfl,by kernel_rfl⟩
theorem Hy:bf Tryz.prog 94:=⟨_,Tryz.func94,by kernel_rfl,by kernel_rfl⟩
theorem CG:bf Tryz.prog 95:=⟨_,Tryz.func95,by kernel_rfl,by kernel_rfl⟩
theorem ES:bf Tryz.prog 96:=⟨_,Tryz.func96,by kernel_rfl,by kernel_rfl⟩
theorem Hx:bf Tryz.prog 97:=⟨_,Tryz.func97,by kernel_rfl,by kernel_rfl⟩
theorem AG:bf Tryz.prog 98:=⟨_,Tryz.func98,by kernel_rfl,by kernel_rfl⟩
theorem lM:(Tryz.prog.info? 132).map (·.size)=some 4:=by kernel_rfl
theorem Fw:(Tryz.prog.info? 2).map (·.size)=some 1:=by kernel_rfl
theorem Aw:(Tryz.prog.info? 25).map (·.size)=some 1:=by kernel_rfl
theorem aW:(Tryz.prog.info? 27).map (·.size)=some 2:=by kernel_rfl
theorem jU:(Tryz.prog.info? 28).map (·.size)=some 1:=by kernel_rfl
theorem gb:(Tryz.prog.info? 3).map (·.size)=some 1:=by kernel_rfl
theorem fH:(Tryz.prog.info? 33).map (·.size)=some 2:=by kernel_rfl
theorem d4:(Tryz.prog.info? 35).map (·.size)=some 5:=by kernel_rfl
theorem wH:(Tryz.prog.info? 36).map (·.size)=some 1:=by kernel_rfl
theorem D5:(Tryz.prog.info? 37).map (·.size)=some 1:=by kernel_rfl
theorem aF:(Tryz.prog.info? 39).map (·.size)=some 13:=by kernel_rfl
theorem Cf:(Tryz.prog.info? 4).map (·.size)=some 1:=by kernel_rfl
theorem nR:(Tryz.prog.info? 64).map (·.size)=some 2:=by kernel_rfl
theorem Av:(Tryz.prog.info? 65).map (·.size)=some 1:=by kernel_rfl
theorem Au:(Tryz.prog.info? 93).map (·.size)=some 1:=by kernel_rfl
theorem tZ:(Tryz.prog.info? 132).bind (·.zero)=some (Value.agg #[(Value.int .i64 0),(Value.slice none 0 0),(aC ([]:List UInt8)),(Value.slice none 0 0)]):=by kernel_rfl
theorem fA:(Tryz.prog.info? 27).bind (·.zero)=some (Value.agg #[(Value.int .i64 0),(Value.slice none 0 0)]):=by kernel_rfl
theorem tM:(Tryz.prog.info? 28).bind (·.zero)=some (Value.int .i64 0):=by kernel_rfl
theorem y6:(Tryz.prog.info? 3).bind (·.zero)=some (Value.int .i64 0):=by kernel_rfl
theorem rf:(Tryz.prog.info? 33).bind (·.zero)=some (Value.agg #[(Value.int .i64 0),(Value.int .i64 0)]):=by kernel_rfl
theorem tL:(Tryz.prog.info? 35).bind (·.zero)=some (Value.agg #[(Value.int .i64 0),(Value.int .i64 0),(Value.int .i64 0),(Value.int .i64 0),(Value.int .i64 0)]):=by kernel_rfl
theorem bA:(Tryz.prog.info? 39).bind (·.zero)=some (Value.agg #[(Value.int .i64 0),(aC ([]:List UInt8)),(Value.int .i64 0),(Value.int .i64 0),(Value.int .i64 0),(Value.int .i64 0),(Value.int .i64 0),(Value.int .i64 0),(Value.int .i64 0),(Value.int .i64 0),(Value.slice none 0 0),(Value.slice none 0 0),(Value.slice none 0 0)]):=by kernel_rfl
theorem Fg:(Tryz.prog.info? 4).bind (·.zero)=some (Value.bool false):=by kernel_rfl
theorem Ai:(Tryz.prog.info? 64).bind (·.zero)=some (Value.agg #[(aC ([]:List UInt8)),(Value.int .i64 0)]):=by kernel_rfl
theorem Ah:(Tryz.prog.info? 65).bind (·.zero)=some (Value.pointer none):=by kernel_rfl
theorem vF (F:NP) (w0:World) (hF:∀ k,F k→k<w0.heap.size) (c1:Int) (hc:AllCl [] F w0) (r:Bool)
  (h:mE c1=some r):
  Calls Tryz.prog 94 #[(Value.int .u8 c1)] w0 fun e w=>e= .returned (vb r)∧Ext w0 w∧AllCl [] F w:=by
 refine aL Tryz.func94 rfl Tryz.ntmps94 rfl ?_
 have hI:=Bun.start hF hc
 clear hc
 rw[mE]at h
 refine T ?_
 refine al ?_
 obtain rfl:=ac h
 exact QF hI
theorem rG (F:NP) (w0:World) (hF:∀ k,F k→k<w0.heap.size) (s1:List UInt8) (at1:Int) (hc:AllCl [] F w0) (r:Int)
  (h:kS s1 at1=some r):
  Calls Tryz.prog 46 #[(aC s1),vi at1] w0 fun e w=>e= .returned (vi r)∧Ext w0 w∧AllCl [] F w:=by
 refine aL Tryz.func46 rfl Tryz.ntmps46 rfl ?_
 have hI:=Bun.start hF hc
 clear hc
 rw[kS]at h
 refine T ?_
 refine aB (T ?_)
 refine cO (α:=Nat×Int) (fun x=>fun w=>∃ C,Bun d5 F w0 C w [] []∧fe s1 (x.1) (x.2)=some r) (fun x _=>x.1) (fun x=>[(0,(aC s1)),(1,vi (x.2))]) (fu,at1) ⟨_,hI.arr .n trivial,h⟩ SB ?_
 clear h hI;rintro⟨fuel1,at2⟩ w1 ⟨c1,hI,h⟩
 dsimp only at hI h
 rcases fuel1 with _ | fuel1
 ·rw[fe]at h;cases h
 rw[fe]at h
 refine bz (e:=[(0,(aC s1)),(1,vi at2)]) SB ?_
 refine aB (T ?_)
 refine bc h et (fun hb h=> ?_) (fun hb h=> ?_)
 ·refine T ?_
  obtain⟨b1,hx1,h⟩:=af h
  refine sI ?_
  obtain⟨r1,hx2,h⟩:=af h
  refine aE gn rfl (ag (vs:=[(Value.int .u8 b1)]) rfl Hy ⟨et,trivial⟩) (Calls.mono (vF (Dj F c1) w1 hI.lt b1 trivial r1 hx2) ?_)
  rintro _ w2 ⟨rfl,hx3,hl1⟩
  refine⟨_,rfl,?_⟩
  replace hI:=(hI.ext hx3)
  refine nk (bc h et (fun hb h=> ?_) (fun hb h=> ?_))
  ·refine T ?_
   refine bl ?_
   exact cg (fuel1,az (at2+1)) SB ⟨_,hI.arr GO SU,h⟩ (Nat.lt_succ_self _)
  refine T ?_
  obtain⟨b2,hx4,h⟩:=af h
  refine sI ?_
  refine T ?_
  refine bc h et (fun hb h=> ?_) (fun hb h=> ?_)
  ·refine T ?_
   refine cO (α:=Nat×Int) (fun x=>fun w=>∃ C,Bun d5 F w0 C w [] []∧gX s1 (fe s1 fuel1) (x.1) (x.2)=some r) (fun x _=>x.1) (fun x=>[(0,(aC s1)),(1,vi (x.2))]) (fu,at2) ⟨_,hI.arr .n trivial,h⟩ SB ?_
   clear h hI;rintro⟨fuel2,at3⟩ w3 ⟨c2,hI,h⟩
   dsimp only at hI h
   rcases fuel2 with _ | fuel2
   ·rw[gX]at h;cases h
   rw[gX]at h
   refine bz (e:=[(0,(aC s1)),(1,vi at3)]) SB ?_
   refine aB (T ?_)
   obtain⟨b3,hx5,h⟩:=af h
   replace hx5:=aP hx5
   refine sJ ?_
   refine T ?_
   refine bc h et (fun hb h=> ?_) (fun hb h=> ?_)
   ·refine T ?_
    refine bl ?_
    exact cg (fuel2,az (at3+1)) SB ⟨_,hI.arr GO SU,h⟩ (Nat.lt_succ_self _)
   refine dv ?_
   refine kb ?_
   exact cg (fuel1,at3) SB ⟨_,hI.arr GO SU,h⟩ (Nat.lt_succ_self _)
  refine T ?_
  refine al ?_
  obtain rfl:=ac h
  exact QF hI
 refine dv ?_
 refine kb ?_
 refine cA ?_
 refine T ?_
 refine al ?_
 obtain rfl:=ac h
 exact QF hI
theorem nC (F:NP) (w0:World) (hF:∀ k,F k→k<w0.heap.size) (c1:Int) (hc:AllCl [] F w0) (r:Bool)
  (h:kG c1=some r):
  Calls Tryz.prog 95 #[(Value.int .u8 c1)] w0 fun e w=>e= .returned (vb r)∧Ext w0 w∧AllCl [] F w:=by
 refine aL Tryz.func95 rfl Tryz.ntmps95 rfl ?_
 have hI:=Bun.start hF hc
 clear hc
 rw[kG]at h
 refine T ?_
 refine al ?_
 obtain rfl:=ac h
 exact QF hI
theorem qC (F:NP) (w0:World) (hF:∀ k,F k→k<w0.heap.size) (c1:Int) (hc:AllCl [] F w0) (r:Bool)
  (h:mD c1=some r):
  Calls Tryz.prog 96 #[(Value.int .u8 c1)] w0 fun e w=>e= .returned (vb r)∧Ext w0 w∧AllCl [] F w:=by
 refine aL Tryz.func96 rfl Tryz.ntmps96 rfl ?_
 have hI:=Bun.start hF hc
 clear hc
 rw[mD]at h
 refine T ?_
 refine al ?_
 obtain rfl:=ac h
 exact QF hI
theorem yR (F:NP) (w0:World) (hF:∀ k,F k→k<w0.heap.size) (s1:List UInt8) (hc:AllCl [] F w0) (r:Int×Int)
  (h:mN s1=some r):
  Calls Tryz.prog 47 #[(aC s1)] w0 fun e w=>e= .returned (Value.tuple #[vi r.1,vi r.2])∧Ext w0 w∧AllCl [] F w:=by
 refine aL Tryz.func47 rfl Tryz.ntmps47 rfl ?_
 have hI:=Bun.start hF hc
 clear hc
 rw[mN]at h
 refine T ?_
 refine aB (T ?_)
 obtain⟨b1,hx1,h⟩:=af h
 replace hx1:=aP hx1
 refine sJ ?_
 obtain⟨r1,hx2,h⟩:=af h
 replace hx2:=aP hx2
 refine dx (v:=(vb r1)) (gg rfl rfl rfl rfl) rfl (fun hc=>(ag (vs:=[(Value.int .u8 b1)]) rfl CG ⟨(bg et hc),trivial⟩)) (fun hc=>(nC (Dj F d5) w0 hI.lt b1 trivial r1 (hx2 hc)).mono fun _ _ k=>⟨k.1,k.2.1⟩) ?_
 intro w1 hx3;replace hI:=hI.ext hx3
 refine T ?_
 obtain⟨b2,hx4,h⟩:=af h
 replace hx4:=aP hx4
 refine sJ ?_
 obtain⟨r2,hx5,h⟩:=af h
 replace hx5:=aP hx5
 refine dx (v:=(vb r2)) (qf rfl rfl rfl rfl) rfl (fun hc=>(ag (vs:=[(Value.int .u8 b2)]) rfl ES ⟨(bg et hc),trivial⟩)) (fun hc=>(qC (Dj F d5) w1 hI.lt b2 trivial r2 (hx5 hc)).mono fun _ _ k=>⟨k.1,k.2.1⟩) ?_
 intro w2 hx6;replace hI:=hI.ext hx6
 refine T ?_
 refine bc h et (fun hb h=> ?_) (fun hb h=> ?_)
 ·refine T ?_
  refine al ?_
  obtain rfl:=ac h
  exact QF hI
 refine T ?_
 refine du (α:=Int) (fun _=>⟨53,[]⟩) (fun x=>[(0,(aC s1)),(4,vi x)]) (fun x=>fun w=>∃ C,Bun d5 F w0 C w [] []∧lT s1 x=some r) ?_ ?_
 ·clear h hI;rintro kind1 w3 ⟨c1,hI,h⟩
  try dsimp only at hI h
  rw[lT]at h
  refine bz (e:=[(0,(aC s1)),(4,vi kind1)]) SB ?_
  refine T ?_
  refine aB (T ?_)
  refine cO (α:=Nat×Int) (fun x=>fun w=>∃ C,Bun d5 F w0 C w [] []∧fM s1 kind1 (x.1) (x.2)=some r) (fun x _=>x.1) (fun x=>[(0,(aC s1)),(4,vi kind1),(5,vi (x.2))]) (fu,0) ⟨_,hI.arr .n trivial,h⟩ SB ?_
  clear h hI;rintro⟨fuel1,n1⟩ w4 ⟨c2,hI,h⟩
  dsimp only at hI h
  rcases fuel1 with _ | fuel1
  ·rw[fM]at h;cases h
  rw[fM]at h
  refine bz (e:=[(0,(aC s1)),(4,vi kind1),(5,vi n1)]) SB ?_
  refine aB (T ?_)
  obtain⟨b3,hx7,h⟩:=af h
  replace hx7:=aP hx7
  refine sJ ?_
  obtain⟨r3,hx8,h⟩:=af h
  replace hx8:=aP hx8
  refine dx (v:=(vb r3)) (bE rfl rfl rfl rfl) rfl (fun hc=>(ag (vs:=[(Value.int .u8 b3)]) rfl ES ⟨(bg et hc),trivial⟩)) (fun hc=>(qC (Dj F c2) w4 hI.lt b3 trivial r3 (hx8 hc)).mono fun _ _ k=>⟨k.1,k.2.1⟩) ?_
  intro w5 hx9;replace hI:=hI.ext hx9
  refine T ?_
  obtain⟨b4,hx10,h⟩:=af h
  replace hx10:=aP hx10
  refine sJ ?_
  obtain⟨r4,hx11,h⟩:=af h
  replace hx11:=aP hx11
  refine dx (v:=(vb r4)) (qf rfl rfl rfl rfl) rfl (fun hc=>(ag (vs:=[(Value.int .u8 b4)]) rfl CG ⟨(bg et hc),trivial⟩)) (fun hc=>(nC (Dj F c2) w5 hI.lt b4 trivial r4 (hx11 hc)).mono fun _ _ k=>⟨k.1,k.2.1⟩) ?_
  intro w6 hx12;replace hI:=hI.ext hx12
  refine T ?_
  obtain⟨b5,hx13,h⟩:=af h
  replace hx13:=aP hx13
  refine sJ ?_
  refine T ?_
  refine bc h et (fun hb h=> ?_) (fun hb h=> ?_)
  ·refine T ?_
   refine bl ?_
   exact cg (fuel1,az (n1+1)) SB ⟨_,hI.arr GO SU,h⟩ (Nat.lt_succ_self _)
  refine dv ?_
  refine kb ?_
  refine cA ?_
  refine T ?_
  refine al ?_
  obtain rfl:=ac h
  exact QF hI
 refine T ?_
 obtain⟨b6,hx14,h⟩:=af h
 refine sI ?_
 obtain⟨r5,hx15,h⟩:=af h
 refine aE gn rfl (ag (vs:=[(Value.int .u8 b6)]) rfl CG ⟨et,trivial⟩) (Calls.mono (nC (Dj F d5) w2 hI.lt b6 trivial r5 hx15) ?_)
 rintro _ w7 ⟨rfl,hx16,hl5⟩
 refine⟨_,rfl,?_⟩
 replace hI:=(hI.ext hx16)
 refine nk (bc h et (fun hb h=> ?_) (fun hb h=> ?_))
 ·refine T ?_
  refine bl ?_
  exact bi 1 SB ⟨_,hI.arr GO SU,h⟩ rfl
 exact cc (bi 2 SB ⟨_,hI.arr GO SU,h⟩ rfl)
theorem tB (F:NP) (w0:World) (hF:∀ k,F k→k<w0.heap.size) (hc:AllCl [] F w0) (r:List (List UInt8))
  (h:lA=some r):
  Calls Tryz.prog 97 #[] w0 fun e w=>∃ (a1:Option Addr) (c1:Nat),e= .returned (vs a1 r.length c1)∧Ext w0 w∧AllCl [Cl.sl ie a1 c1 r] F w:=by
 refine aL Tryz.func97 rfl Tryz.ntmps97 rfl ?_
 have hI:=Bun.start hF hc
 clear hc
 rw[lA]at h
 refine T ?_
 refine jR (c:=ie) (xs:=([([60,61]:List UInt8),([61,61]:List UInt8),([40]:List UInt8),([41]:List UInt8),([91]:List UInt8),([93]:List UInt8),([123]:List UInt8),([125]:List UInt8),([44]:List UInt8),([59]:List UInt8),([58]:List UInt8),([43]:List UInt8),([45]:List UInt8),([42]:List UInt8),([47]:List UInt8),([60]:List UInt8),([61]:List UInt8),([38]:List UInt8),([124]:List UInt8),([33]:List UInt8),([46]:List UInt8),([64]:List UInt8)]:List (List UInt8))) (vs:=[(0,(aC ([60,61]:List UInt8))),(1,(aC ([61,61]:List UInt8))),(2,(aC ([40]:List UInt8))),(3,(aC ([41]:List UInt8))),(4,(aC ([91]:List UInt8))),(5,(aC ([93]:List UInt8))),(6,(aC ([123]:List UInt8))),(7,(aC ([125]:List UInt8))),(8,(aC ([44]:List UInt8))),(9,(aC ([59]:List UInt8))),(10,(aC ([58]:List UInt8))),(11,(aC ([43]:List UInt8))),(12,(aC ([45]:List UInt8))),(13,(aC ([42]:List UInt8))),(14,(aC ([47]:List UInt8))),(15,(aC ([60]:List UInt8))),(16,(aC ([61]:List UInt8))),(17,(aC ([38]:List UInt8))),(18,(aC ([124]:List UInt8))),(19,(aC ([33]:List UInt8))),(20,(aC ([46]:List UInt8))),(21,(aC ([64]:List UInt8)))]) (cs:=#[(aC ([60,61]:List UInt8)),(aC ([61,61]:List UInt8)),(aC ([40]:List UInt8)),(aC ([41]:List UInt8)),(aC ([91]:List UInt8)),(aC ([93]:List UInt8)),(aC ([123]:List UInt8)),(aC ([125]:List UInt8)),(aC ([44]:List UInt8)),(aC ([59]:List UInt8)),(aC ([58]:List UInt8)),(aC ([43]:List UInt8)),(aC ([45]:List UInt8)),(aC ([42]:List UInt8)),(aC ([47]:List UInt8)),(aC ([60]:List UInt8)),(aC ([61]:List UInt8)),(aC ([38]:List UInt8)),(aC ([124]:List UInt8)),(aC ([33]:List UInt8)),(aC ([46]:List UInt8)),(aC ([64]:List UInt8))]) (css:=[[(aC ([60,61]:List UInt8))],[(aC ([61,61]:List UInt8))],[(aC ([40]:List UInt8))],[(aC ([41]:List UInt8))],[(aC ([91]:List UInt8))],[(aC ([93]:List UInt8))],[(aC ([123]:List UInt8))],[(aC ([125]:List UInt8))],[(aC ([44]:List UInt8))],[(aC ([59]:List UInt8))],[(aC ([58]:List UInt8))],[(aC ([43]:List UInt8))],[(aC ([45]:List UInt8))],[(aC ([42]:List UInt8))],[(aC ([47]:List UInt8))],[(aC ([60]:List UInt8))],[(aC ([61]:List UInt8))],[(aC ([38]:List UInt8))],[(aC ([124]:List UInt8))],[(aC ([33]:List UInt8))],[(aC ([46]:List UInt8))],[(aC ([64]:List UInt8))]]) hI gn rfl rfl DO ol rfl ⟨rfl,ai,⟨rfl,ai,⟨rfl,ai,⟨rfl,ai,⟨rfl,ai,⟨rfl,ai,⟨rfl,ai,⟨rfl,ai,⟨rfl,ai,⟨rfl,ai,⟨rfl,ai,⟨rfl,ai,⟨rfl,ai,⟨rfl,ai,⟨rfl,ai,⟨rfl,ai,⟨rfl,ai,⟨rfl,ai,⟨rfl,ai,⟨rfl,ai,⟨rfl,ai,⟨rfl,ai,trivial⟩⟩⟩⟩⟩⟩⟩⟩⟩⟩⟩⟩⟩⟩⟩⟩⟩⟩⟩⟩⟩⟩ (by kernel_rfl) ⟨rfl,⟨rfl,⟨rfl,⟨rfl,⟨rfl,⟨rfl,⟨rfl,⟨rfl,⟨rfl,⟨rfl,⟨rfl,⟨rfl,⟨rfl,⟨rfl,⟨rfl,⟨rfl,⟨rfl,⟨rfl,⟨rfl,⟨rfl,⟨rfl,⟨rfl,trivial⟩⟩⟩⟩⟩⟩⟩⟩⟩⟩⟩⟩⟩⟩⟩⟩⟩⟩⟩⟩⟩⟩ rfl rfl rfl ?_
 clear hI;intro b1 c2 w1 hI
 refine T ?_
 refine al ?_
 obtain⟨c3,hI⟩:=hI.release .z
 obtain rfl:=ac h
 refine QG ?_
 exact⟨some ⟨b1,0,none⟩,22,rfl,hI.ext0,hI.fin ⟨.z,trivial⟩⟩
theorem vd (F:NP) (w0:World) (hF:∀ k,F k→k<w0.heap.size) (s1:List UInt8) (hc:AllCl [] F w0) (r:Int)
  (h:kF s1=some r):
  Calls Tryz.prog 48 #[(aC s1)] w0 fun e w=>e= .returned (vi r)∧Ext w0 w∧AllCl [] F w:=by
 refine aL Tryz.func48 rfl Tryz.ntmps48 rfl ?_
 have hI:=Bun.start hF hc
 clear hc
 rw[kF]at h
 refine T ?_
 obtain⟨r1,hx1,h⟩:=af h
 refine aE gn rfl (ag (vs:=[]) rfl Hx trivial) (Calls.mono (tB (Dj F d5) w0 hI.lt trivial r1 hx1) ?_)
 rintro _ w1 ⟨a1,c1,rfl,hx2,hl1⟩
 refine⟨_,rfl,?_⟩
 replace hI:=(hI.ext hx2).adds hl1;dsimp only[ca,na]at hI
 refine T ?_
 refine aB (T ?_)
 refine cO (α:=Nat×Int) (fun x=>fun w=>∃ C,Bun d5 F w0 C w [] [Cl.sl ie a1 c1 r1]∧eJ r1 s1 (x.1) (x.2)=some r) (fun x _=>x.1) (fun x=>[(0,(aC s1)),(3,vs a1 r1.length c1),(4,vi (x.2))]) (fu,0) ⟨_,hI.arr .n ⟨.z,trivial⟩,h⟩ SB ?_
 clear h hI;rintro⟨fuel1,i1⟩ w2 ⟨c2,hI,h⟩
 dsimp only at hI h
 rcases fuel1 with _ | fuel1
 ·rw[eJ]at h;cases h
 rw[eJ]at h
 refine bz (e:=[(0,(aC s1)),(3,vs a1 r1.length c1),(4,vi i1)]) SB ?_
 refine aB (T ?_)
 refine bc h et (fun hb h=> ?_) (fun hb h=> ?_)
 ·refine T ?_
  refine aB (T ?_)
  refine aB (bx [] false (.c (0,.q) (.c (1,.q) (.c (2,.q) (.c (3,.q) (.c (4,.q) (.c (5,.q) (.c (6,.q) (.c (7,.q) (.c (8,.q) (.c (9,.q) (.c (10,.q) (.c (11,.q) (.c (12,.q) (.c (13,.q) (.c (14,.q) (.c (15,.q) (.c (16,.q) (.c (17,.q) (.c (18,.q) (.c (19,.q) (.c (20,.q) (.c (21,.q) .n)))))))))))))))))))))) hI (by kernel_rfl) (by kernel_rfl) ?_)
  clear hI;intro w3 hI
  refine V ?_
  obtain⟨e1,hx3,h⟩:=af h
  obtain⟨ad1,cs1,hA1,hr1,hq1⟩:=hI.clat .z hx3
  obtain rfl:cs1=[(aC e1)]:=hr1
  refine vI ?_
  refine V ?_
  obtain⟨e2,hx4,h⟩:=af h
  replace hx4:=aP hx4
  obtain⟨ad2,cs2,hq2⟩:=hI.gclat .z hx4
  have hq3:(decide ((e1.length:Int)≤(s1.length:Int)))=true→CA (Dj F c2) w3 (ad2.add (Int.toNat i1 * 1)) [(aC e2)]:=fun hc=>yQ (hq2 hc).2.1 (hq2 hc).2.2
  refine vJ ?_
  refine V ?_
  obtain⟨s2,hx5,h⟩:=af h
  replace hx5:=aP hx5
  refine vJ ?_
  refine V ?_
  obtain⟨e3,hx6,h⟩:=af h
  replace hx6:=aP hx6
  obtain⟨ad3,cs3,hq4⟩:=hI.gclat .z hx6
  have hq5:(decide ((e1.length:Int)≤(s1.length:Int)))=true→CA (Dj F c2) w3 (ad3.add (Int.toNat i1 * 1)) [(aC e3)]:=fun hc=>yQ (hq4 hc).2.1 (hq4 hc).2.2
  refine vJ ?_
  refine V ?_
  refine bc h et (fun hb h=> ?_) (fun hb h=> ?_)
  ·refine T ?_
   obtain⟨e4,hx7,h⟩:=af h
   obtain⟨ad4,cs4,hA4,hr4,hq6⟩:=hI.clat .z hx7
   obtain rfl:cs4=[(aC e4)]:=hr4
   refine sI ?_
   refine T ?_
   refine al ?_
   obtain rfl:=ac h
   exact QF hI
  refine T ?_
  refine bl ?_
  exact cg (fuel1,az (i1+1)) SB ⟨_,hI.arr GO SU,h⟩ (Nat.lt_succ_self _)
 refine dv ?_
 refine kb ?_
 refine cA ?_
 refine T ?_
 refine al ?_
 obtain rfl:=ac h
 exact QF hI
theorem oF (F:NP) (w0:World) (hF:∀ k,F k→k<w0.heap.size) (s1:List UInt8) (hc:AllCl [] F w0) (r:List aG×Int×Int)
  (h:iH s1=some r):
  Calls Tryz.prog 22 #[(aC s1)] w0 fun e w=>∃ (a1:Option Addr) (c1:Nat),e= .returned (Value.tuple #[vs a1 r.1.length c1,vi r.2.1,vi r.2.2])∧Ext w0 w∧AllCl [Cl.sl ah a1 c1 r.1] F w:=by
 refine aL Tryz.func22 rfl Tryz.ntmps22 rfl ?_
 have hI:=Bun.start hF hc
 clear hc
 rw[iH]at h
 refine T ?_
 refine aB (T ?_)
 refine bc h et (fun hb h=> ?_) (fun hb h=> ?_)
 ·refine T ?_
  refine al ?_
  have hI:=hI.add (c:=Cl.sl ah none 0 ([]:List aG)) SlC.nil
  obtain rfl:=ac h
  refine QG ?_
  exact⟨none,0,rfl,hI.ext0,hI.fin ⟨.z,trivial⟩⟩
 refine T ?_
 refine aB (T ?_)
 obtain⟨r1,hx1,h⟩:=af h
 refine aE gn rfl (ag (vs:=[(aC s1),vi 0]) rfl EX ⟨et,⟨ai,trivial⟩⟩) (Calls.mono (rG (Dj F d5) w0 hI.lt s1 0 trivial r1 hx1) ?_)
 rintro _ w1 ⟨rfl,hx2,hl1⟩
 refine⟨_,rfl,?_⟩
 replace hI:=(hI.ext hx2)
 refine T ?_
 have hI:=hI.nil ah 62 none
 refine cO (α:=Nat×(List aG)×Int×(Option Addr)×Nat) (fun x=>fun w=>∃ C,Bun d5 F w0 C w [MO.row ah 62 (x.2.2.2.1) (x.2.2.2.2) (x.2.1)] []∧cx s1 (x.1) (x.2.1) (x.2.2.1)=some r) (fun x _=>x.1) (fun x=>[(0,(aC s1)),(5,vs (x.2.2.2.1) (x.2.1).length (x.2.2.2.2)),(6,vi (x.2.2.1))]) (fu,([]:List aG),r1,none,0) ⟨_,hI.arr (.c .z .n) trivial,h⟩ SB ?_
 clear h hI;rintro⟨fuel1,gh,at1,a2,c2⟩ w2 ⟨c3,hI,h⟩
 dsimp only at hI h
 rcases fuel1 with _ | fuel1
 ·rw[cx]at h;cases h
 rw[cx]at h
 refine bz (e:=[(0,(aC s1)),(5,vs a2 gh.length c2),(6,vi at1)]) SB ?_
 refine aB (T ?_)
 refine bc h et (fun hb h=> ?_) (fun hb h=> ?_)
 ·refine T ?_
  refine aB (T ?_)
  obtain⟨s2,hx3,h⟩:=af h
  refine sI ?_
  obtain⟨r2,hx4,h⟩:=af h
  refine aE gn rfl (ag (vs:=[(aC s2)]) rfl HG ⟨et,trivial⟩) (Calls.mono (yR (Dj F c3) w2 hI.lt s2 trivial r2 hx4) ?_)
  rintro _ w3 ⟨rfl,hx5,hl2⟩
  refine⟨_,rfl,?_⟩
  replace hI:=(hI.ext hx5)
  refine T ?_
  refine du (α:=Int×Int) (fun _=>⟨60,[]⟩) (fun x=>[(0,(aC s1)),(5,vs a2 gh.length c2),(6,vi at1),(7,vi (x.1)),(8,vi (x.2))]) (fun x=>fun w=>∃ C,Bun d5 F w0 C w [MO.row ah 62 a2 c2 gh] []∧fX at1 s1 gh (cx s1 fuel1) (x.1) (x.2)=some r) ?_ ?_
  ·clear h hI;rintro⟨n1,kind1⟩ w4 ⟨c4,hI,h⟩
   try dsimp only at hI h
   rw[fX]at h
   refine bz (e:=[(0,(aC s1)),(5,vs a2 gh.length c2),(6,vi at1),(7,vi n1),(8,vi kind1)]) SB ?_
   refine aB (T ?_)
   refine bc h et (fun hb h=> ?_) (fun hb h=> ?_)
   ·refine T ?_
    refine al ?_
    have hI:=hI.add (c:=Cl.sl ah none 0 ([]:List aG)) SlC.nil
    obtain rfl:=ac h
    refine QG ?_
    exact⟨none,0,rfl,hI.ext0,hI.fin ⟨.z,trivial⟩⟩
   refine T ?_
   refine aB (T ?_)
   refine bc h et (fun hb h=> ?_) (fun hb h=> ?_)
   ·refine T ?_
    refine al ?_
    have hI:=hI.add (c:=Cl.sl ah none 0 ([]:List aG)) SlC.nil
    obtain rfl:=ac h
    refine QG ?_
    exact⟨none,0,rfl,hI.ext0,hI.fin ⟨.z,trivial⟩⟩
   refine T ?_
   obtain⟨s3,hx6,h⟩:=af h
   refine sq (BQ rfl u9 et et et hx6) ?_
   refine sq (aV (vs:=[(0,vi kind1),(1,vi at1),(2,(aC s3))]) (cs:=#[vi kind1,vi at1,(aC s3)]) rfl ⟨rfl,et,⟨rfl,et,⟨rfl,et,trivial⟩⟩⟩ (by kernel_rfl)) ?_
   refine jR (c:=ah) (xs:=([(⟨kind1,at1,s3⟩:aG)]:List aG)) (vs:=[(0,(Value.agg #[vi kind1,vi at1,(aC s3)]))]) (cs:=#[vi kind1,vi at1,(aC s3)]) (css:=[[vi kind1,vi at1,(aC s3)]]) hI gn rfl rfl G1 tX rfl ⟨rfl,et,trivial⟩ (by kernel_rfl) ⟨rfl,trivial⟩ rfl rfl rfl ?_
   clear hI;intro b1 c5 w5 hI
   obtain⟨zs1,hx7,h⟩:=af h
   refine pJ (xs:=gh) (ys:=([(⟨kind1,at1,s3⟩:aG)]:List aG)) hI (.s .z) (hI.rd .z) hx7 gn rfl rfl G1 tX rfl rfl et et ?_
   clear hI;intro a3 c6 c7 w6 hI
   refine T ?_
   obtain⟨r3,hx8,h⟩:=af h
   refine aE gn rfl (ag (vs:=[(aC s1),(vi (az (at1+n1)))]) rfl EX ⟨et,⟨et,trivial⟩⟩) (Calls.mono (rG (Dj F c7) w6 hI.lt s1 (az (at1+n1)) trivial r3 hx8) ?_)
   rintro _ w7 ⟨rfl,hx9,hl3⟩
   refine⟨_,rfl,?_⟩
   replace hI:=(hI.ext hx9)
   refine sa ?_
   refine bl ?_
   exact cg (fuel1,zs1,r3,a3,c6) SB ⟨_,hI.arr GO SU,h⟩ (Nat.lt_succ_self _)
  refine T ?_
  refine bc h et (fun hb h=> ?_) (fun hb h=> ?_)
  ·refine T ?_
   obtain⟨s4,hx10,h⟩:=af h
   refine sI ?_
   obtain⟨r4,hx11,h⟩:=af h
   refine aE gn rfl (ag (vs:=[(aC s4)]) rfl HF ⟨et,trivial⟩) (Calls.mono (vd (Dj F c3) w3 hI.lt s4 trivial r4 hx11) ?_)
   rintro _ w8 ⟨rfl,hx12,hl4⟩
   refine⟨_,rfl,?_⟩
   replace hI:=(hI.ext hx12)
   refine T ?_
   refine bl ?_
   exact bi (r4,3) SB ⟨_,hI.arr GO SU,h⟩ rfl
  exact cc (bi (r2.1,r2.2) SB ⟨_,hI.arr GO SU,h⟩ rfl)
 refine dv ?_
 refine kb ?_
 refine cA ?_
 refine T ?_
 refine al ?_
 obtain⟨c8,hI⟩:=hI.release .z
 obtain rfl:=ac h
 refine QG ?_
 exact⟨a2,c2,rfl,hI.ext0,hI.fin ⟨.z,trivial⟩⟩
theorem dt (F:NP) (w0:World) (hF:∀ k,F k→k<w0.heap.size) (r1:aa) (kind1:Int) (s1:List UInt8) (b1:Nat) (a1:Option Addr) (c1:Nat) (hc:AllCl [Cl.sl ah a1 c1 r1.l,Cl.blk b1 67 (ab r1 a1 c1)] F w0) (r:Bool)
  (h:bR r1 kind1 s1=some r):
  Calls Tryz.prog 121 #[vp b1 0,vi kind1,(aC s1)] w0 fun e w=>e= .returned (vb r)∧Ext w0 w∧AllCl [] F w:=by
 refine aL Tryz.func121 rfl Tryz.ntmps121 rfl ?_
 have hI:=Bun.start hF hc
 clear hc
 rw[bR]at h
 refine T ?_
 refine aB (bx [] false (.c (0,.q) (.c (1,.q) (.c (2,.q) (.c (3,.q) (.c (4,.q) (.c (5,.q) (.c (6,.q) (.c (7,.q) (.c (8,.q) (.c (9,.q) (.c (10,.q) (.c (11,.q) (.c (12,.q) (.c (13,.q) (.c (14,.q) (.c (15,.q) (.c (16,.q) (.c (17,.q) (.c (18,.q) (.c (19,.q) (.c (20,.q) (.c (21,.q) (.c (22,.q) (.c (23,.q) (.c (24,.q) (.c (25,.q) (.c (26,.q) (.c (27,.q) (.c (28,.q) (.c (29,.q) (.c (30,.q) (.c (31,.q) (.c (32,.q) (.c (33,.q) (.c (34,.q) (.c (35,.q) (.c (36,.q) (.c (37,.q) (.c (38,.q) (.c (39,.q) (.c (40,.q) .n))))))))))))))))))))))))))))))))))))))))) hI (by kernel_rfl) (by kernel_rfl) ?_)
 clear hI;intro w1 hI
 refine V ?_
 obtain⟨e1,hx1,h⟩:=af h
 replace hx1:=aP hx1
 obtain⟨ad1,cs1,hq1⟩:=hI.gclat .z hx1
 have hq2:(decide (r1.at_<(r1.l.length:Int)))=true→CA (Dj F d5) w1 (ad1.add (Int.toNat r1.at_ * 3)) (m6 e1):=fun hc=>yQ (hq1 hc).2.1 (hq1 hc).2.2
 refine vJ ?_
 refine V ?_
 obtain⟨e2,hx2,h⟩:=af h
 replace hx2:=aP hx2
 obtain⟨ad2,cs2,hq3⟩:=hI.gclat .z hx2
 have hq4:((decide (r1.at_<(r1.l.length:Int)))&&(decide (e1.Kind=kind1)))=true→CA (Dj F d5) w1 (ad2.add (Int.toNat r1.at_ * 3)) (m6 e2):=fun hc=>yQ (hq3 hc).2.1 (hq3 hc).2.2
 refine vJ ?_
 refine V ?_
 refine al ?_
 obtain rfl:=ac h
 exact QF hI
theorem nD (F:NP) (w0:World) (hF:∀ k,F k→k<w0.heap.size) (r1:Int) (hc:AllCl [] F w0) (r:Bool)
  (h:gK r1=some r):
  Calls Tryz.prog 156 #[(Value.int .i32 r1)] w0 fun e w=>e= .returned (vb r)∧Ext w0 w∧AllCl [] F w:=by
 refine aL Tryz.func156 rfl Tryz.ntmps156 rfl ?_
 have hI:=Bun.start hF hc
 clear hc
 rw[gK]at h
 refine T ?_
 refine al ?_
 obtain rfl:=ac h
 exact QF hI
theorem np (F:NP) (w0:World) (hF:∀ k,F k→k<w0.heap.size) (s1:List UInt8) (ok1:(Int→Option Bool)) (fv1:Value) (hc:AllCl [qj fv1 ok1] F w0) (r:Int)
  (h:io s1 ok1=some r):
  Calls Tryz.prog 154 #[(aC s1),fv1] w0 fun e w=>e= .returned (vi r)∧Ext w0 w∧AllCl [] F w:=by
 refine aL Tryz.func154 rfl Tryz.ntmps154 rfl ?_
 have hI:=Bun.start hF hc
 clear hc
 rw[io]at h
 refine T ?_
 refine aB (T ?_)
 refine cO (α:=Nat×Int) (fun x=>fun w=>∃ C,Bun d5 F w0 C w [] [qj fv1 ok1]∧eh s1 ok1 (x.1) (x.2)=some r) (fun x _=>x.1) (fun x=>[(0,(aC s1)),(1,fv1),(5,vi (x.2))]) (fu,0) ⟨_,hI.arr .n ⟨.z,trivial⟩,h⟩ SB ?_
 clear h hI;rintro⟨fuel1,n1⟩ w1 ⟨c1,hI,h⟩
 dsimp only at hI h
 rcases fuel1 with _ | fuel1
 ·rw[eh]at h;cases h
 rw[eh]at h
 refine bz (e:=[(0,(aC s1)),(1,fv1),(5,vi n1)]) SB ?_
 refine aB (T ?_)
 obtain⟨b1,hx1,h⟩:=af h
 replace hx1:=aP hx1
 refine sJ ?_
 refine T ?_
 obtain⟨r1,hx2,h⟩:=af h
 replace hx2:=aP hx2
 refine Cj (u:=(vb r1)) (args:=[(Value.int .i32 (mn b1))]) (bE rfl rfl rfl rfl) rfl rfl (fun hc=>(bg et hc)) (fun hc=>⟨(bg et hc),trivial⟩) (fun hc=>CallV.mono ((hI.get .z).2 (Dj F c1) w1 (Sp.of_ext .rfl') hI.lt (mn b1) r1 trivial (hx2 hc)) fun _ _ k=>⟨k.1,k.2.1⟩) ?_
 intro w2 hx3;replace hI:=hI.ext hx3
 refine T ?_
 refine bc h et (fun hb h=> ?_) (fun hb h=> ?_)
 ·refine T ?_
  refine bl ?_
  exact cg (fuel1,az (n1+1)) SB ⟨_,hI.arr GO SU,h⟩ (Nat.lt_succ_self _)
 refine dv ?_
 refine kb ?_
 refine cA ?_
 refine T ?_
 refine al ?_
 obtain rfl:=ac h
 exact QF hI
theorem ow (F:NP) (w0:World) (hF:∀ k,F k→k<w0.heap.size) (r1:Int) (hc:AllCl [] F w0) (r:Bool)
  (h:gE r1=some r):
  Calls Tryz.prog 158 #[(Value.int .i32 r1)] w0 fun e w=>e= .returned (vb r)∧Ext w0 w∧AllCl [] F w:=by
 refine aL Tryz.func158 rfl Tryz.ntmps158 rfl ?_
 have hI:=Bun.start hF hc
 clear hc
 rw[gE]at h
 refine T ?_
 refine al ?_
 obtain rfl:=ac h
 exact QF hI
theorem pT (F:NP) (w0:World) (hF:∀ k,F k→k<w0.heap.size) (r1:Int) (hc:AllCl [] F w0) (r:Bool)
  (h:cJ r1=some r):
  Calls Tryz.prog 157 #[(Value.int .i32 r1)] w0 fun e w=>e= .returned (vb r)∧Ext w0 w∧AllCl [] F w:=by
 refine aL Tryz.func157 rfl Tryz.ntmps157 rfl ?_
 have hI:=Bun.start hF hc
 clear hc
 rw[cJ]at h
 refine T ?_
 obtain⟨r2,hx1,h⟩:=af h
 refine aE gn rfl (ag (vs:=[(Value.int .i32 r1)]) rfl zz ⟨et,trivial⟩) (Calls.mono (nD (Dj F d5) w0 hI.lt r1 trivial r2 hx1) ?_)
 rintro _ w1 ⟨rfl,hx2,hl1⟩
 refine⟨_,rfl,?_⟩
 replace hI:=(hI.ext hx2)
 refine T ?_
 obtain⟨r3,hx3,h⟩:=af h
 replace hx3:=aP hx3
 refine dx (v:=(vb r3)) (gg rfl rfl rfl rfl) rfl (fun hc=>(ag (vs:=[(Value.int .i32 r1)]) rfl zy ⟨(bg et hc),trivial⟩)) (fun hc=>(ow (Dj F d5) w1 hI.lt r1 trivial r3 (hx3 hc)).mono fun _ _ k=>⟨k.1,k.2.1⟩) ?_
 intro w2 hx4;replace hI:=hI.ext hx4
 refine T ?_
 refine al ?_
 obtain rfl:=ac h
 exact QF hI
theorem sA (F:NP) (w0:World) (hF:∀ k,F k→k<w0.heap.size) (hc:AllCl [aA] F w0) (r:List (List UInt8))
  (h:k8=some r):
  Calls Tryz.prog 241 #[] w0 fun e w=>∃ (a1:Option Addr) (c1:Nat),e= .returned (vs a1 r.length c1)∧Ext w0 w∧AllCl [Cl.sl ie a1 c1 r] F w:=by
 refine aL Tryz.func241 rfl Tryz.ntmps241 rfl ?_
 have hI:=Bun.start hF hc
 clear hc
 rw[k8]at h
 refine T ?_
 obtain⟨r1,hx1,h⟩:=af h
 refine aE gn rfl (ag (vs:=[(aC ([115,105,122,101,32,119,104,101,114,101,32,105,110,32,100,101,102,32,111,117,116,32,115,117,109,32,112,114,111,100,32,109,105,110,32,109,97,120,32,115,99,97,110,32,111,118,101,114,32,105,102,32,99,97,115,116,32,102,114,97,99,32,105,110,116,32,102,105,120,32,99,101,105,108,32,102,108,111,111,114,32,122,101,114,111,32,101,118,101,110,32,115,97,116,32,119,114,97,112]:List UInt8))]) rfl FX ⟨ai,trivial⟩) (Calls.mono (sx (Dj F d5) w0 hI.lt ([115,105,122,101,32,119,104,101,114,101,32,105,110,32,100,101,102,32,111,117,116,32,115,117,109,32,112,114,111,100,32,109,105,110,32,109,97,120,32,115,99,97,110,32,111,118,101,114,32,105,102,32,99,97,115,116,32,102,114,97,99,32,105,110,116,32,102,105,120,32,99,101,105,108,32,102,108,111,111,114,32,122,101,114,111,32,101,118,101,110,32,115,97,116,32,119,114,97,112]:List UInt8) ⟨(hI.get .z),trivial⟩ r1 hx1) ?_)
 rintro _ w1 ⟨a2,c2,rfl,hx2,hl1⟩
 refine⟨_,rfl,?_⟩
 replace hI:=(hI.ext hx2).adds hl1;dsimp only[ca,na]at hI
 refine T ?_
 refine al ?_
 obtain rfl:=ac h
 refine QG ?_
 exact⟨a2,c2,rfl,hI.ext0,hI.fin ⟨.z,trivial⟩⟩
theorem m7 (F:NP) (w0:World) (hF:∀ k,F k→k<w0.heap.size) (s1:List (List UInt8)) (v1:List UInt8) (a1:Option Addr) (c1:Nat) (hc:AllCl [Cl.sl ie a1 c1 s1] F w0) (r:Int)
  (h:eY s1 v1=some r):
  Calls Tryz.prog 246 #[vs a1 s1.length c1,(aC v1)] w0 fun e w=>e= .returned (vi r)∧Ext w0 w∧AllCl [] F w:=by
 refine aL Tryz.func246 rfl Tryz.ntmps246 rfl ?_
 have hI:=Bun.start hF hc
 clear hc
 rw[eY]at h
 refine T ?_
 refine aB (T ?_)
 refine cO (α:=Nat×Int) (fun x=>fun w=>∃ C,Bun d5 F w0 C w [] [Cl.sl ie a1 c1 s1]∧be s1 v1 (x.1) (x.2)=some r) (fun x _=>x.1) (fun x=>[(0,vs a1 s1.length c1),(1,(aC v1)),(7,vi (s1.length:Int)),(8,vi (x.2))]) (fu,0) ⟨_,hI.arr .n ⟨.z,trivial⟩,h⟩ SB ?_
 clear h hI;rintro⟨fuel1,i1⟩ w1 ⟨c2,hI,h⟩
 dsimp only at hI h
 rcases fuel1 with _ | fuel1
 ·rw[be]at h;cases h
 rw[be]at h
 refine bz (e:=[(0,vs a1 s1.length c1),(1,(aC v1)),(7,vi (s1.length:Int)),(8,vi i1)]) SB ?_
 refine T ?_
 refine aB (bc h et (fun hb h=> ?_) (fun hb h=> ?_))
 ·refine T ?_
  refine aB (T ?_)
  obtain⟨e1,hx1,h⟩:=af h
  obtain⟨ad1,cs1,hA1,hr1,hq1⟩:=hI.clat .z hx1
  obtain rfl:cs1=[(aC e1)]:=hr1
  refine sI ?_
  refine T ?_
  refine bc h et (fun hb h=> ?_) (fun hb h=> ?_)
  ·refine T ?_
   refine al ?_
   obtain rfl:=ac h
   exact QF hI
  refine T ?_
  refine bl ?_
  exact cg (fuel1,az (i1+1)) SB ⟨_,hI.arr GO SU,h⟩ (Nat.lt_succ_self _)
 refine dv ?_
 refine kb ?_
 refine cA ?_
 refine T ?_
 refine al ?_
 obtain rfl:=ac h
 exact QF hI
theorem mg (F:NP) (w0:World) (hF:∀ k,F k→k<w0.heap.size) (s1:List (List UInt8)) (v1:List UInt8) (a1:Option Addr) (c1:Nat) (hc:AllCl [Cl.sl ie a1 c1 s1] F w0) (r:Bool)
  (h:cV s1 v1=some r):
  Calls Tryz.prog 240 #[vs a1 s1.length c1,(aC v1)] w0 fun e w=>e= .returned (vb r)∧Ext w0 w∧AllCl [] F w:=by
 refine aL Tryz.func240 rfl Tryz.ntmps240 rfl ?_
 have hI:=Bun.start hF hc
 clear hc
 rw[cV]at h
 refine T ?_
 obtain⟨r1,hx1,h⟩:=af h
 refine aE gn rfl (ag (vs:=[vs a1 s1.length c1,(aC v1)]) rfl FY ⟨et,⟨et,trivial⟩⟩) (Calls.mono (m7 (Dj F d5) w0 hI.lt s1 v1 a1 c1 ⟨(hI.get .z),trivial⟩ r1 hx1) ?_)
 rintro _ w1 ⟨rfl,hx2,hl1⟩
 refine⟨_,rfl,?_⟩
 replace hI:=(hI.ext hx2)
 refine T ?_
 refine al ?_
 obtain rfl:=ac h
 exact QF hI
theorem rJ (F:NP) (w0:World) (hF:∀ k,F k→k<w0.heap.size) (s1:List UInt8) (hc:AllCl [aA] F w0) (r:Bool)
  (h:jg s1=some r):
  Calls Tryz.prog 222 #[(aC s1)] w0 fun e w=>e= .returned (vb r)∧Ext w0 w∧AllCl [] F w:=by
 refine aL Tryz.func222 rfl Tryz.ntmps222 rfl ?_
 have hI:=Bun.start hF hc
 clear hc
 rw[jg]at h
 refine T ?_
 obtain⟨r1,hx1,h⟩:=af h
 refine aE gn rfl (ag (vs:=[]) rfl FZ trivial) (Calls.mono (sA (Dj F d5) w0 hI.lt ⟨(hI.get .z),trivial⟩ r1 hx1) ?_)
 rintro _ w1 ⟨a1,c1,rfl,hx2,hl1⟩
 refine⟨_,rfl,?_⟩
 replace hI:=(hI.ext hx2).adds hl1;dsimp only[ca,na]at hI
 refine sm ?_
 obtain⟨r2,hx3,h⟩:=af h
 refine aE gn rfl (ag (vs:=[vs a1 r1.length c1,(aC s1)]) rfl F0 ⟨et,⟨et,trivial⟩⟩) (Calls.mono (mg (Dj F d5) w1 hI.lt r1 s1 a1 c1 ⟨(hI.get .z),trivial⟩ r2 hx3) ?_)
 rintro _ w2 ⟨rfl,hx4,hl2⟩
 refine⟨_,rfl,?_⟩
 replace hI:=(hI.ext hx4)
 refine T ?_
 refine al ?_
 obtain rfl:=ac h
 exact QF hI
theorem nF (F:NP) (w0:World) (hF:∀ k,F k→k<w0.heap.size) (s1:List UInt8) (hc:AllCl [aA] F w0) (r:Bool)
  (h:fR s1=some r):
  Calls Tryz.prog 185 #[(aC s1)] w0 fun e w=>e= .returned (vb r)∧Ext w0 w∧AllCl [] F w:=by
 refine aL Tryz.func185 rfl Tryz.ntmps185 rfl ?_
 have hI:=Bun.start hF hc
 clear hc
 rw[fR]at h
 refine T ?_
 obtain⟨b1,hx1,h⟩:=af h
 replace hx1:=aP hx1
 refine sJ ?_
 refine T ?_
 obtain⟨r1,hx2,h⟩:=af h
 replace hx2:=aP hx2
 refine dx (v:=(vb r1)) (bE rfl rfl rfl rfl) rfl (fun hc=>(ag (vs:=[(Value.int .i32 (mn b1))]) rfl zz ⟨(bg et hc),trivial⟩)) (fun hc=>(nD (Dj F d5) w0 hI.lt (mn b1) trivial r1 (hx2 hc)).mono fun _ _ k=>⟨k.1,k.2.1⟩) ?_
 intro w1 hx3;replace hI:=hI.ext hx3
 refine T ?_
 have hI:=hI.add (c:=qj (Value.func (.func 157) #[] #[]) cJ) ⟨rfl,fun D' w' hs hl x_1 r k h=>CallV.fn (cap:=[]) CU (pT D' w' hl x_1 trivial r h)⟩
 obtain⟨r2,hx4,h⟩:=af h
 replace hx4:=aP hx4
 refine dx (v:=(vi r2)) (bE rfl rfl rfl rfl) rfl (fun hc=>(ag (vs:=[(aC s1),(Value.func (.func 157) #[] #[])]) rfl wS ⟨(bg et hc),⟨nn,trivial⟩⟩)) (fun hc=>(np (Dj F d5) w1 hI.lt s1 cJ (Value.func (.func 157) #[] #[]) ⟨(hI.get .z),trivial⟩ r2 (hx4 hc)).mono fun _ _ k=>⟨k.1,k.2.1⟩) ?_
 intro w2 hx5;replace hI:=hI.ext hx5
 refine T ?_
 obtain⟨r3,hx6,h⟩:=af h
 replace hx6:=aP hx6
 refine dx (v:=(vb r3)) (bE rfl rfl rfl rfl) rfl (fun hc=>(ag (vs:=[(aC s1)]) rfl Gb ⟨(bg et hc),trivial⟩)) (fun hc=>(rJ (Dj F d5) w2 hI.lt s1 ⟨(hI.get (.s .z)),trivial⟩ r3 (hx6 hc)).mono fun _ _ k=>⟨k.1,k.2.1⟩) ?_
 intro w3 hx7;replace hI:=hI.ext hx7
 refine T ?_
 refine al ?_
 obtain rfl:=ac h
 exact QF hI
theorem j4 (F:NP) (w0:World) (hF:∀ k,F k→k<w0.heap.size) (r1:aa) (b1:Nat) (a1:Option Addr) (c1:Nat) (hc:AllCl [Cl.sl ah a1 c1 r1.l,Cl.blk b1 67 (ab r1 a1 c1),aA] F w0) (r:Bool)
  (h:cH r1=some r):
  Calls Tryz.prog 126 #[vp b1 0] w0 fun e w=>e= .returned (vb r)∧Ext w0 w∧AllCl [] F w:=by
 refine aL Tryz.func126 rfl Tryz.ntmps126 rfl ?_
 have hI:=Bun.start hF hc
 clear hc
 rw[cH]at h
 refine T ?_
 refine aB (bx [] false (.c (0,.q) (.c (1,.q) (.c (2,.q) (.c (3,.q) (.c (4,.q) (.c (5,.q) (.c (6,.q) (.c (7,.q) (.c (8,.q) (.c (9,.q) (.c (10,.q) (.c (11,.q) (.c (12,.q) (.c (13,.q) (.c (14,.q) (.c (15,.q) (.c (16,.q) (.c (17,.q) (.c (18,.q) (.c (19,.q) (.c (20,.q) (.c (21,.q) (.c (22,.q) (.c (23,.q) (.c (24,.q) (.c (25,.q) (.c (26,.q) (.c (27,.q) (.c (28,.q) (.c (29,.q) (.c (30,.q) (.c (31,.q) (.c (32,.q) (.c (33,.q) (.c (34,.q) (.c (35,.q) (.c (36,.s) (.c (37,.q) (.c (38,.q) .n))))))))))))))))))))))))))))))))))))))) hI (by kernel_rfl) (by kernel_rfl) ?_)
 clear hI;intro w1 hI
 refine V ?_
 obtain⟨e1,hx1,h⟩:=af h
 replace hx1:=aP hx1
 obtain⟨ad1,cs1,hq1⟩:=hI.gclat .z hx1
 have hq2:(decide (r1.at_<(r1.l.length:Int)))=true→CA (Dj F d5) w1 (ad1.add (Int.toNat r1.at_ * 3)) (m6 e1):=fun hc=>yQ (hq1 hc).2.1 (hq1 hc).2.2
 refine vJ ?_
 refine V ?_
 obtain⟨e2,hx2,h⟩:=af h
 replace hx2:=aP hx2
 obtain⟨ad2,cs2,hq3⟩:=hI.gclat .z hx2
 have hq4:((decide (r1.at_<(r1.l.length:Int)))&&(decide (e1.Kind=1)))=true→CA (Dj F d5) w1 (ad2.add (Int.toNat r1.at_ * 3)) (m6 e2):=fun hc=>yQ (hq3 hc).2.1 (hq3 hc).2.2
 refine vJ ?_
 refine V ?_
 obtain⟨r2,hx3,h⟩:=af h
 replace hx3:=aP hx3
 refine mx (v:=(vb r2)) rfl (bE rfl rfl rfl rfl) rfl (fun hc=>(ag (vs:=[(aC e2.Text)]) rfl zx ⟨(bg et hc),trivial⟩)) (fun hc=>(nF (Dj F d5) w1 hI.lt e2.Text ⟨(hI.get (.s (.s .z))),trivial⟩ r2 (hx3 hc)).mono fun _ _ k=>⟨k.1,k.2.1⟩) ?_
 intro w2 hx4;replace hI:=hI.ext hx4
 refine V ?_
 refine al ?_
 obtain rfl:=ac h
 exact QF hI
theorem aT (F:NP) (w0:World) (hF:∀ k,F k→k<w0.heap.size) (r1:aa) (at1:Int) (e1:Int) (b1:Nat) (a1:Option Addr) (c1:Nat) (hc:AllCl [Cl.sl ah a1 c1 r1.l,Cl.blk b1 67 (ab r1 a1 c1)] F w0) (r:bk Unit)
  (h:bG r1 at1 e1=some r):
  Calls Tryz.prog 71 #[vp b1 0,vi at1,vi e1] w0 fun e w=>(∃ rx:Unit,r= .ret rx∧e= .returned (Value.tuple #[])∧Ext w0 w∧AllCl [] F w)∨∃ (pa pn:Int),r= .pan pa pn∧e= .panicked [pe 114 pa pn]∧Ext w0 w:=by
 refine fj (l:=[vp b1 0,vi at1,vi e1]) Tryz.func71 rfl Tryz.ntmps71 rfl ?_
 have hI:=Bun.start hF hc
 clear hc
 rw[bG]at h
 refine T ?_
 refine sq (aV (vs:=[(0,vi at1),(1,vi e1)]) (cs:=#[vi at1,vi e1]) rfl ⟨rfl,et,⟨rfl,et,trivial⟩⟩ (by kernel_rfl)) ?_
 refine sq (xR rfl u114 rfl et) ?_
 obtain rfl:=ac h
 exact D7 gn rfl et (ib (.inr ⟨_,_,rfl,rfl,hI.ext0⟩))
theorem ve (F:NP) (w0:World) (hF:∀ k,F k→k<w0.heap.size) (s1:List UInt8) (hc:AllCl [] F w0) (r:Bool)
  (h:kI s1=some r):
  Calls Tryz.prog 221 #[(aC s1)] w0 fun e w=>e= .returned (vb r)∧Ext w0 w∧AllCl [] F w:=by
 refine aL Tryz.func221 rfl Tryz.ntmps221 rfl ?_
 have hI:=Bun.start hF hc
 clear hc
 rw[kI]at h
 refine T ?_
 refine aB (T ?_)
 refine aB (T ?_)
 refine bc h et (fun hb h=> ?_) (fun hb h=> ?_)
 ·refine T ?_
  refine bc h et (fun hb h=> ?_) (fun hb h=> ?_)
  ·refine T ?_
   refine al ?_
   obtain rfl:=ac h
   exact QF hI
  refine T ?_
  refine al ?_
  obtain rfl:=ac h
  exact QF hI
 refine T ?_
 refine bc h et (fun hb h=> ?_) (fun hb h=> ?_)
 ·refine T ?_
  refine bc h et (fun hb h=> ?_) (fun hb h=> ?_)
  ·refine T ?_
   refine al ?_
   obtain rfl:=ac h
   exact QF hI
  refine T ?_
  refine al ?_
  obtain rfl:=ac h
  exact QF hI
 refine T ?_
 refine bc h et (fun hb h=> ?_) (fun hb h=> ?_)
 ·refine T ?_
  refine bc h et (fun hb h=> ?_) (fun hb h=> ?_)
  ·refine T ?_
   refine al ?_
   obtain rfl:=ac h
   exact QF hI
  refine T ?_
  refine al ?_
  obtain rfl:=ac h
  exact QF hI
 refine T ?_
 refine bc h et (fun hb h=> ?_) (fun hb h=> ?_)
 ·refine T ?_
  refine bc h et (fun hb h=> ?_) (fun hb h=> ?_)
  ·refine T ?_
   refine al ?_
   obtain rfl:=ac h
   exact QF hI
  refine T ?_
  refine al ?_
  obtain rfl:=ac h
  exact QF hI
 refine T ?_
 refine bc h et (fun hb h=> ?_) (fun hb h=> ?_)
 ·refine T ?_
  refine bc h et (fun hb h=> ?_) (fun hb h=> ?_)
  ·refine T ?_
   refine al ?_
   obtain rfl:=ac h
   exact QF hI
  refine T ?_
  refine al ?_
  obtain rfl:=ac h
  exact QF hI
 refine T ?_
 refine bc h et (fun hb h=> ?_) (fun hb h=> ?_)
 ·refine T ?_
  refine bc h et (fun hb h=> ?_) (fun hb h=> ?_)
  ·refine T ?_
   refine al ?_
   obtain rfl:=ac h
   exact QF hI
  refine T ?_
  refine al ?_
  obtain rfl:=ac h
  exact QF hI
 refine T ?_
 refine bc h et (fun hb h=> ?_) (fun hb h=> ?_)
 ·refine T ?_
  refine bc h et (fun hb h=> ?_) (fun hb h=> ?_)
  ·refine T ?_
   refine al ?_
   obtain rfl:=ac h
   exact QF hI
  refine T ?_
  refine al ?_
  obtain rfl:=ac h
  exact QF hI
 refine T ?_
 refine bc h et (fun hb h=> ?_) (fun hb h=> ?_)
 ·refine T ?_
  refine bc h et (fun hb h=> ?_) (fun hb h=> ?_)
  ·refine T ?_
   refine al ?_
   obtain rfl:=ac h
   exact QF hI
  refine T ?_
  refine al ?_
  obtain rfl:=ac h
  exact QF hI
 refine T ?_
 refine bc h et (fun hb h=> ?_) (fun hb h=> ?_)
 ·refine T ?_
  refine bc h et (fun hb h=> ?_) (fun hb h=> ?_)
  ·refine T ?_
   refine al ?_
   obtain rfl:=ac h
   exact QF hI
  refine T ?_
  refine al ?_
  obtain rfl:=ac h
  exact QF hI
 refine T ?_
 refine bc h et (fun hb h=> ?_) (fun hb h=> ?_)
 ·refine T ?_
  refine bc h et (fun hb h=> ?_) (fun hb h=> ?_)
  ·refine T ?_
   refine al ?_
   obtain rfl:=ac h
   exact QF hI
  refine T ?_
  refine al ?_
  obtain rfl:=ac h
  exact QF hI
 refine T ?_
 refine bc h et (fun hb h=> ?_) (fun hb h=> ?_)
 ·refine T ?_
  refine bc h et (fun hb h=> ?_) (fun hb h=> ?_)
  ·refine T ?_
   refine al ?_
   obtain rfl:=ac h
   exact QF hI
  refine T ?_
  refine al ?_
  obtain rfl:=ac h
  exact QF hI
 refine T ?_
 refine bc h et (fun hb h=> ?_) (fun hb h=> ?_)
 ·refine T ?_
  refine bc h et (fun hb h=> ?_) (fun hb h=> ?_)
  ·refine T ?_
   refine al ?_
   obtain rfl:=ac h
   exact QF hI
  refine T ?_
  refine al ?_
  obtain rfl:=ac h
  exact QF hI
 refine T ?_
 refine bc h et (fun hb h=> ?_) (fun hb h=> ?_)
 ·refine T ?_
  refine bc h et (fun hb h=> ?_) (fun hb h=> ?_)
  ·refine T ?_
   refine al ?_
   obtain rfl:=ac h
   exact QF hI
  refine T ?_
  refine al ?_
  obtain rfl:=ac h
  exact QF hI
 refine T ?_
 refine bc h et (fun hb h=> ?_) (fun hb h=> ?_)
 ·refine T ?_
  refine bc h et (fun hb h=> ?_) (fun hb h=> ?_)
  ·refine T ?_
   refine al ?_
   obtain rfl:=ac h
   exact QF hI
  refine T ?_
  refine al ?_
  obtain rfl:=ac h
  exact QF hI
 refine T ?_
 refine bc h et (fun hb h=> ?_) (fun hb h=> ?_)
 ·refine T ?_
  refine bc h et (fun hb h=> ?_) (fun hb h=> ?_)
  ·refine T ?_
   refine al ?_
   obtain rfl:=ac h
   exact QF hI
  refine T ?_
  refine al ?_
  obtain rfl:=ac h
  exact QF hI
 refine T ?_
 refine bc h et (fun hb h=> ?_) (fun hb h=> ?_)
 ·refine T ?_
  refine bc h et (fun hb h=> ?_) (fun hb h=> ?_)
  ·refine T ?_
   refine al ?_
   obtain rfl:=ac h
   exact QF hI
  refine T ?_
  refine al ?_
  obtain rfl:=ac h
  exact QF hI
 refine T ?_
 refine bc h et (fun hb h=> ?_) (fun hb h=> ?_)
 ·refine T ?_
  refine bc h et (fun hb h=> ?_) (fun hb h=> ?_)
  ·refine T ?_
   refine al ?_
   obtain rfl:=ac h
   exact QF hI
  refine T ?_
  refine al ?_
  obtain rfl:=ac h
  exact QF hI
 refine T ?_
 refine bc h et (fun hb h=> ?_) (fun hb h=> ?_)
 ·refine T ?_
  refine bc h et (fun hb h=> ?_) (fun hb h=> ?_)
  ·refine T ?_
   refine al ?_
   obtain rfl:=ac h
   exact QF hI
  refine T ?_
  refine al ?_
  obtain rfl:=ac h
  exact QF hI
 refine T ?_
 refine bc h et (fun hb h=> ?_) (fun hb h=> ?_)
 ·refine T ?_
  refine bc h et (fun hb h=> ?_) (fun hb h=> ?_)
  ·refine T ?_
   refine al ?_
   obtain rfl:=ac h
   exact QF hI
  refine T ?_
  refine al ?_
  obtain rfl:=ac h
  exact QF hI
 refine T ?_
 refine bc h et (fun hb h=> ?_) (fun hb h=> ?_)
 ·refine T ?_
  refine bc h et (fun hb h=> ?_) (fun hb h=> ?_)
  ·refine T ?_
   refine al ?_
   obtain rfl:=ac h
   exact QF hI
  refine T ?_
  refine al ?_
  obtain rfl:=ac h
  exact QF hI
 refine T ?_
 refine bc h et (fun hb h=> ?_) (fun hb h=> ?_)
 ·refine T ?_
  refine bc h et (fun hb h=> ?_) (fun hb h=> ?_)
  ·refine T ?_
   refine al ?_
   obtain rfl:=ac h
   exact QF hI
  refine T ?_
  refine al ?_
  obtain rfl:=ac h
  exact QF hI
 refine T ?_
 refine bc h et (fun hb h=> ?_) (fun hb h=> ?_)
 ·refine T ?_
  refine al ?_
  obtain rfl:=ac h
  exact QF hI
 refine T ?_
 refine al ?_
 obtain rfl:=ac h
 exact QF hI
theorem oK (F:NP) (w0:World) (hF:∀ k,F k→k<w0.heap.size) (s1:List UInt8) (hc:AllCl [] F w0) (r:Bool)
  (h:iI s1=some r):
  Calls Tryz.prog 184 #[(aC s1)] w0 fun e w=>e= .returned (vb r)∧Ext w0 w∧AllCl [] F w:=by
 refine aL Tryz.func184 rfl Tryz.ntmps184 rfl ?_
 have hI:=Bun.start hF hc
 clear hc
 rw[iI]at h
 refine T ?_
 refine aB (T ?_)
 obtain⟨r1,hx1,h⟩:=af h
 replace hx1:=aP hx1
 refine dx (v:=(vb r1)) (gg rfl rfl rfl rfl) rfl (fun hc=>(ag (vs:=[(aC s1)]) rfl Gc ⟨(bg et hc),trivial⟩)) (fun hc=>(ve (Dj F d5) w0 hI.lt s1 trivial r1 (hx1 hc)).mono fun _ _ k=>⟨k.1,k.2.1⟩) ?_
 intro w1 hx2;replace hI:=hI.ext hx2
 refine T ?_
 obtain⟨b1,hx3,h⟩:=af h
 replace hx3:=aP hx3
 refine sJ ?_
 refine T ?_
 obtain⟨b2,hx4,h⟩:=af h
 replace hx4:=aP hx4
 refine sJ ?_
 refine T ?_
 refine bc h et (fun hb h=> ?_) (fun hb h=> ?_)
 ·refine T ?_
  refine al ?_
  obtain rfl:=ac h
  exact QF hI
 refine T ?_
 refine aB (T ?_)
 refine cO (α:=Nat×Int) (fun x=>fun w=>∃ C,Bun d5 F w0 C w [] []∧cW s1 (x.1) (x.2)=some r) (fun x _=>x.1) (fun x=>[(0,(aC s1)),(28,vi (s1.length:Int)),(29,vi (x.2))]) (fu,0) ⟨_,hI.arr .n trivial,h⟩ SB ?_
 clear h hI;rintro⟨fuel1,i1⟩ w2 ⟨c1,hI,h⟩
 dsimp only at hI h
 rcases fuel1 with _ | fuel1
 ·rw[cW]at h;cases h
 rw[cW]at h
 refine bz (e:=[(0,(aC s1)),(28,vi (s1.length:Int)),(29,vi i1)]) SB ?_
 refine T ?_
 refine aB (bc h et (fun hb h=> ?_) (fun hb h=> ?_))
 ·refine T ?_
  refine aB (T ?_)
  obtain⟨b3,hx5,h⟩:=af h
  refine sI ?_
  refine T ?_
  refine bc h et (fun hb h=> ?_) (fun hb h=> ?_)
  ·refine T ?_
   refine al ?_
   obtain rfl:=ac h
   exact QF hI
  refine T ?_
  refine bl ?_
  exact cg (fuel1,az (i1+1)) SB ⟨_,hI.arr GO SU,h⟩ (Nat.lt_succ_self _)
 refine dv ?_
 refine kb ?_
 refine cA ?_
 refine T ?_
 refine al ?_
 obtain rfl:=ac h
 exact QF hI
theorem ws (F:NP) (w0:World) (hF:∀ k,F k→k<w0.heap.size) (name1:List UInt8) (hc:AllCl [] F w0) (r:GLin)
  (h:k0 name1=some r):
  Calls Tryz.prog 127 #[(aC name1)] w0 fun e w=>∃ (a1:Option Addr) (c1:Nat),e= .returned (Value.agg (bI r a1 c1))∧Ext w0 w∧AllCl [Cl.sl aj a1 c1 r.L] F w:=by
 refine aL Tryz.func127 rfl Tryz.ntmps127 rfl ?_
 have hI:=Bun.start hF hc
 clear hc
 rw[k0]at h
 refine sr (aN (cs:=#[vi 0,vs none 0 0]) hI gn rfl rfl fA rfl ?_)
 clear hI;intro b1 c2 w1 hI
 refine nk (aB (T ?_))
 obtain⟨r1,hx1,h⟩:=af h
 refine aE gn rfl (ag (vs:=[(aC name1)]) rfl CR ⟨et,trivial⟩) (Calls.mono (oK (Dj F c2) w1 hI.lt name1 trivial r1 hx1) ?_)
 rintro _ w2 ⟨rfl,hx2,hl1⟩
 refine⟨_,rfl,?_⟩
 replace hI:=(hI.ext hx2)
 refine T ?_
 refine bc h et (fun hb h=> ?_) (fun hb h=> ?_)
 ·refine sr (sq (aV (vs:=[]) (cs:=#[vi 0,vs none 0 0]) rfl trivial (by kernel_rfl)) ?_)
  refine ay (new:=[vi 0,vs none 0 0]) (cs':=#[vi 0,vs none 0 0]) hI .z gn rfl rfl et et rfl aW rfl rfl rfl ?_
  clear hI;intro c3 w3 hI
  refine nk (al ?_)
  have hI:=hI.add (c:=Cl.sl aj none 0 ([]:List GMono)) SlC.nil
  obtain rfl:=ac h
  refine QG ?_
  exact⟨none,0,rfl,hI.ext0,hI.fin ⟨.z,trivial⟩⟩
 refine T ?_
 refine sq (aV (vs:=[(0,(aC name1)),(1,vi 1)]) (cs:=#[(aC name1),vi 1]) rfl ⟨rfl,et,⟨rfl,ai,trivial⟩⟩ (by kernel_rfl)) ?_
 refine jR (c:=aj) (xs:=([(⟨name1,1⟩:GMono)]:List GMono)) (vs:=[(0,(Value.agg #[(aC name1),vi 1]))]) (cs:=#[(aC name1),vi 1]) (css:=[[(aC name1),vi 1]]) hI gn rfl rfl DP qe rfl ⟨rfl,et,trivial⟩ (by kernel_rfl) ⟨rfl,trivial⟩ rfl rfl rfl ?_
 clear hI;intro b2 c4 w4 hI
 refine sq (aV (vs:=[(1,(vs (some ⟨b2,0,none⟩) ([(⟨name1,1⟩:GMono)]:List GMono).length 1))]) (cs:=#[vi 0,(vs (some ⟨b2,0,none⟩) ([(⟨name1,1⟩:GMono)]:List GMono).length 1)]) rfl ⟨rfl,et,trivial⟩ (by kernel_rfl)) ?_
 refine ay (new:=[vi 0,(vs (some ⟨b2,0,none⟩) ([(⟨name1,1⟩:GMono)]:List GMono).length 1)]) (cs':=#[vi 0,(vs (some ⟨b2,0,none⟩) ([(⟨name1,1⟩:GMono)]:List GMono).length 1)]) hI (.s .z) gn rfl rfl et et rfl aW rfl rfl rfl ?_
 clear hI;intro c5 w5 hI
 refine nk (al ?_)
 obtain⟨c6,hI⟩:=hI.release .z
 obtain rfl:=ac h
 refine QG ?_
 exact⟨some ⟨b2,0,none⟩,1,rfl,hI.ext0,hI.fin ⟨.z,trivial⟩⟩
theorem ma (F:NP) (w0:World) (hF:∀ k,F k→k<w0.heap.size) (l1:GLin) (a1:Option Addr) (c1:Nat) (hc:AllCl [Cl.sl aj a1 c1 l1.L] F w0) (r:Int)
  (h:gJ l1=some r):
  Calls Tryz.prog 122 #[(Value.agg (bI l1 a1 c1))] w0 fun e w=>e= .returned (vi r)∧Ext w0 w∧AllCl [] F w:=by
 refine aL Tryz.func122 rfl Tryz.ntmps122 rfl ?_
 have hI:=Bun.start hF hc
 clear hc
 rw[gJ]at h
 refine sr (fU (v:=(Value.agg (bI l1 a1 c1))) (cs:=(bI l1 a1 c1)) hI gn rfl rfl et rfl ?_)
 clear hI;intro b1 c2 w1 hI
 obtain⟨c3,hI⟩:=hI.relBox .z
 refine T ?_
 refine aB (T ?_)
 refine cO (α:=Nat×Int) (fun x=>fun w=>∃ C,Bun d5 F w0 C w [] [Cl.blk b1 27 (bI l1 a1 c1),Cl.sl aj a1 c1 l1.L]∧dg l1 (x.1) (x.2)=some r) (fun x _=>x.1) (fun x=>[(1,vp b1 0),(6,vs a1 l1.L.length c1),(7,vi (l1.L.length:Int)),(8,vi (x.2))]) (fu,0) ⟨_,hI.arr .n ⟨.z,(.s .z),trivial⟩,h⟩ SB ?_
 clear h hI;rintro⟨fuel1,i1⟩ w2 ⟨c4,hI,h⟩
 dsimp only at hI h
 rcases fuel1 with _ | fuel1
 ·rw[dg]at h;cases h
 rw[dg]at h
 refine bz (e:=[(1,vp b1 0),(6,vs a1 l1.L.length c1),(7,vi (l1.L.length:Int)),(8,vi i1)]) SB ?_
 refine T ?_
 refine aB (bc h et (fun hb h=> ?_) (fun hb h=> ?_))
 ·refine T ?_
  refine aB (T ?_)
  obtain⟨e1,hx1,h⟩:=af h
  obtain⟨ad1,cs1,hA1,hr1,hq1⟩:=hI.clat (.s .z) hx1
  obtain rfl:cs1=(lH e1):=hr1
  refine sI ?_
  refine T ?_
  refine aN (cs:=#[(aC ([]:List UInt8)),vi 0]) hI gn rfl rfl Ai rfl ?_
  clear hI;intro b2 c5 w3 hI
  refine sa ?_
  refine ay (new:=(lH e1)) (cs':=(Ff e1)) hI .z gn rfl rfl et et rfl nR rfl rfl rfl ?_
  clear hI;intro c6 w4 hI
  refine nk (aB (bx [] false (.c (0,.q) (.c (1,.q) (.c (2,.s) (.c (3,.q) (.c (4,.q) (.c (5,.q) (.c (6,.q) (.c (7,.q) (.c (8,.q) (.c (9,.q) (.c (10,.q) (.c (11,.q) (.c (12,.q) (.c (13,.q) (.c (14,.q) (.c (15,.q) (.c (16,.q) (.c (17,.q) (.c (18,.q) (.c (19,.q) (.c (20,.q) (.c (21,.q) (.c (22,.q) (.c (23,.q) (.c (24,.q) .n))))))))))))))))))))))))) hI (by kernel_rfl) (by kernel_rfl) ?_))
  clear hI;intro w5 hI
  refine V ?_
  obtain⟨r1,hx2,h⟩:=af h
  refine l8 rfl gn rfl (ag (vs:=[(aC e1.Name)]) rfl CR ⟨et,trivial⟩) (Calls.mono (oK (Dj F c6) w5 hI.lt e1.Name trivial r1 hx2) ?_)
  rintro _ w6 ⟨rfl,hx3,hl1⟩
  refine⟨_,rfl,hx3,?_⟩
  replace hI:=(hI.ext hx3)
  refine V ?_
  obtain⟨e2,hx4,h⟩:=af h
  replace hx4:=aP hx4
  obtain⟨ad2,cs2,hq2⟩:=hI.gclat (.s .z) hx4
  have hq3:((!((!r1)||(decide (e1.By=0))))&&(decide (0<i1)))=true→CA (Dj F c6) w6 (ad2.add (Int.toNat (az (i1 - 1)) * 2)) (lH e2):=fun hc=>yQ (hq2 hc).2.1 (hq2 hc).2.2
  refine vJ ?_
  refine V ?_
  refine bc h et (fun hb h=> ?_) (fun hb h=> ?_)
  ·refine T ?_
   refine al ?_
   obtain rfl:=ac h
   exact QF hI
  refine T ?_
  refine bl ?_
  exact cg (fuel1,az (i1+1)) SB ⟨_,hI.arr GO SU,h⟩ (Nat.lt_succ_self _)
 refine dv ?_
 refine kb ?_
 refine cA ?_
 refine T ?_
 refine al ?_
 obtain rfl:=ac h
 exact QF hI
theorem pq (F:NP) (w0:World) (hF:∀ k,F k→k<w0.heap.size) (n1:Int) (hc:AllCl [] F w0) (r:Int)
  (h:i6 n1=some r):
  Calls Tryz.prog 224 #[vi n1] w0 fun e w=>e= .returned (Value.int .u64 r)∧Ext w0 w∧AllCl [] F w:=by
 refine aL Tryz.func224 rfl Tryz.ntmps224 rfl ?_
 have hI:=Bun.start hF hc
 clear hc
 rw[i6]at h
 refine T ?_
 refine aB (T ?_)
 refine bc h et (fun hb h=> ?_) (fun hb h=> ?_)
 ·refine T ?_
  refine al ?_
  obtain rfl:=ac h
  exact QF hI
 refine T ?_
 refine al ?_
 obtain rfl:=ac h
 exact QF hI
theorem vH (F:NP) (w0:World) (hF:∀ k,F k→k<w0.heap.size) (a1:Int) (b1:Int) (hc:AllCl [] F w0) (r:Int×Int)
  (h:lq a1 b1=some r):
  Calls Tryz.prog 223 #[(Value.int .u64 a1),(Value.int .u64 b1)] w0 fun e w=>e= .returned (Value.tuple #[(Value.int .u64 r.1),(Value.int .u64 r.2)])∧Ext w0 w∧AllCl [] F w:=by
 refine aL Tryz.func223 rfl Tryz.ntmps223 rfl ?_
 have hI:=Bun.start hF hc
 clear hc
 rw[lq]at h
 refine sr (Ci ?_)
 refine Ci ?_
 refine nk (sr (sm ?_))
 refine sq (ub rfl et ai rfl) ?_
 refine sm ?_
 refine sq (ub rfl et ai rfl) ?_
 refine sq (sO rfl et et) ?_
 obtain⟨low1,hx1,h⟩:=af h
 refine sq (vU (dN rfl et) (congrArg (Value.int .u64) (ac hx1))) ?_
 refine nk (sr (sm ?_))
 refine sq (qF (s:=32) rfl et ai (by decide) rfl) ?_
 refine sm ?_
 refine sq (ub rfl et ai rfl) ?_
 refine sq (sO rfl et et) ?_
 refine sm ?_
 refine sq (qF (s:=32) rfl et ai (by decide) rfl) ?_
 refine sq (qq rfl et et) ?_
 obtain⟨mid1,hx2,h⟩:=af h
 refine sq (vU (dN rfl et) (congrArg (Value.int .u64) (ac hx2))) ?_
 refine nk (sr (sm ?_))
 refine sq (ub rfl et ai rfl) ?_
 refine sm ?_
 refine sq (qF (s:=32) rfl et ai (by decide) rfl) ?_
 refine sq (sO rfl et et) ?_
 refine sm ?_
 refine sq (ub rfl et ai rfl) ?_
 refine sq (qq rfl et et) ?_
 obtain⟨cross1,hx3,h⟩:=af h
 refine sq (vU (dN rfl et) (congrArg (Value.int .u64) (ac hx3))) ?_
 refine bl ?_
 refine qP (e:=[(0,(Value.int .u64 a1)),(1,(Value.int .u64 b1)),(7,(Value.int .u64 mid1)),(8,(Value.int .u64 cross1))]) SB ?_
 refine sr (sm ?_)
 refine sq (qF (s:=32) rfl et ai (by decide) rfl) ?_
 refine sm ?_
 refine sq (qF (s:=32) rfl et ai (by decide) rfl) ?_
 refine sq (sO rfl et et) ?_
 refine sm ?_
 refine sq (qF (s:=32) rfl et ai (by decide) rfl) ?_
 refine sq (qq rfl et et) ?_
 refine sm ?_
 refine sq (qF (s:=32) rfl et ai (by decide) rfl) ?_
 refine sq (qq rfl et et) ?_
 refine sm ?_
 refine sm ?_
 refine sq (sO rfl et et) ?_
 obtain⟨hi1,hx4,h⟩:=af h
 refine sq (vU (dN rfl et) (congrArg (Value.int .u64) (ac hx4))) ?_
 refine T ?_
 refine al ?_
 obtain rfl:=ac h
 exact QF hI
theorem tc (F:NP) (w0:World) (hF:∀ k,F k→k<w0.heap.size) (a1:Int) (b1:Int) (hc:AllCl [] F w0) (r:Int×Bool)
  (h:lF a1 b1=some r):
  Calls Tryz.prog 186 #[vi a1,vi b1] w0 fun e w=>e= .returned (Value.tuple #[vi r.1,vb r.2])∧Ext w0 w∧AllCl [] F w:=by
 refine aL Tryz.func186 rfl Tryz.ntmps186 rfl ?_
 have hI:=Bun.start hF hc
 clear hc
 rw[lF]at h
 refine T ?_
 obtain⟨r1,hx1,h⟩:=af h
 refine aE gn rfl (ag (vs:=[vi a1]) rfl CL ⟨et,trivial⟩) (Calls.mono (pq (Dj F d5) w0 hI.lt a1 trivial r1 hx1) ?_)
 rintro _ w1 ⟨rfl,hx2,hl1⟩
 refine⟨_,rfl,?_⟩
 replace hI:=(hI.ext hx2)
 refine sm ?_
 obtain⟨r2,hx3,h⟩:=af h
 refine aE gn rfl (ag (vs:=[vi b1]) rfl CL ⟨et,trivial⟩) (Calls.mono (pq (Dj F d5) w1 hI.lt b1 trivial r2 hx3) ?_)
 rintro _ w2 ⟨rfl,hx4,hl2⟩
 refine⟨_,rfl,?_⟩
 replace hI:=(hI.ext hx4)
 obtain⟨r3,hx5,h⟩:=af h
 refine aE gn rfl (ag (vs:=[(Value.int .u64 r1),(Value.int .u64 r2)]) rfl Ga ⟨et,⟨et,trivial⟩⟩) (Calls.mono (vH (Dj F d5) w2 hI.lt r1 r2 trivial r3 hx5) ?_)
 rintro _ w3 ⟨rfl,hx6,hl3⟩
 refine⟨_,rfl,?_⟩
 replace hI:=(hI.ext hx6)
 refine sm ?_
 refine sq (gN rfl et rfl) ?_
 refine sq (gN rfl et rfl) ?_
 refine sa ?_
 refine sa ?_
 refine nk (sr (sm ?_))
 refine sq (sP rfl et ai) ?_
 refine sm ?_
 refine sq (sP rfl et ai) ?_
 refine sq (EK rfl u4 et et) ?_
 obtain⟨negative1,hx7,h⟩:=af h
 refine sq (vU (dN rfl et) (congrArg Value.bool (ac hx7))) ?_
 refine nk (aB (T ?_))
 refine bc h et (fun hb h=> ?_) (fun hb h=> ?_)
 ·refine T ?_
  refine al ?_
  obtain rfl:=ac h
  exact QF hI
 refine T ?_
 refine bc h et (fun hb h=> ?_) (fun hb h=> ?_)
 ·refine T ?_
  refine al ?_
  obtain rfl:=ac h
  exact QF hI
 refine T ?_
 refine al ?_
 obtain rfl:=ac h
 exact QF hI
theorem td (F:NP) (w0:World) (hF:∀ k,F k→k<w0.heap.size) (a1:GLin) (by1:Int) (a2:Option Addr) (c1:Nat) (hc:AllCl [Cl.sl aj a2 c1 a1.L] F w0) (r:GLin×Int)
  (h:iv a1 by1=some r):
  Calls Tryz.prog 129 #[(Value.agg (bI a1 a2 c1)),vi by1] w0 fun e w=>∃ (a3:Option Addr) (c2:Nat),e= .returned (Value.tuple #[(Value.agg (bI r.1 a3 c2)),vi r.2])∧Ext w0 w∧AllCl [Cl.sl aj a3 c2 r.1.L] F w:=by
 refine aL Tryz.func129 rfl Tryz.ntmps129 rfl ?_
 have hI:=Bun.start hF hc
 clear hc
 rw[iv]at h
 refine sr (fU (v:=(Value.agg (bI a1 a2 c1))) (cs:=(bI a1 a2 c1)) hI gn rfl rfl et rfl ?_)
 clear hI;intro b1 c3 w1 hI
 obtain⟨c4,hI⟩:=hI.relBox .z
 refine aN (cs:=#[vi 0,vs none 0 0]) hI gn rfl rfl fA rfl ?_
 clear hI;intro b2 c5 w2 hI
 refine T ?_
 refine aB (sr (sq (aJ (l:=(gx a1 a2 c1)) rfl et rZ rfl aW (hI.kblk (l:=(gx a1 a2 c1)) .z rfl).1) ?_))
 obtain⟨r1,hx1,h⟩:=af h
 refine aE gn rfl (ag (vs:=[(Value.agg (bI a1 a2 c1))]) rfl wV ⟨et,trivial⟩) (Calls.mono (ma (Dj F c5) w2 hI.lt a1 a2 c1 ⟨(hI.get (.s .z)),trivial⟩ r1 hx1) ?_)
 rintro _ w3 ⟨rfl,hx2,hl1⟩
 refine⟨_,rfl,?_⟩
 replace hI:=(hI.ext hx2)
 refine T ?_
 refine bc h et (fun hb h=> ?_) (fun hb h=> ?_)
 ·refine sr (sq (aV (vs:=[]) (cs:=#[vi 0,vs none 0 0]) rfl trivial (by kernel_rfl)) ?_)
  refine ay (new:=[vi 0,vs none 0 0]) (cs':=#[vi 0,vs none 0 0]) hI .z gn rfl rfl et et rfl aW rfl rfl rfl ?_
  clear hI;intro c6 w4 hI
  refine T ?_
  refine al ?_
  have hI:=hI.add (c:=Cl.sl aj none 0 ([]:List GMono)) SlC.nil
  obtain rfl:=ac h
  refine QG ?_
  exact⟨none,0,rfl,hI.ext0,hI.fin ⟨.z,trivial⟩⟩
 refine T ?_
 refine aB (T ?_)
 refine bc h et (fun hb h=> ?_) (fun hb h=> ?_)
 ·refine sr (sq (aV (vs:=[]) (cs:=#[vi 0,vs none 0 0]) rfl trivial (by kernel_rfl)) ?_)
  refine ay (new:=[vi 0,vs none 0 0]) (cs':=#[vi 0,vs none 0 0]) hI .z gn rfl rfl et et rfl aW rfl rfl rfl ?_
  clear hI;intro c7 w5 hI
  refine T ?_
  refine al ?_
  have hI:=hI.add (c:=Cl.sl aj none 0 ([]:List GMono)) SlC.nil
  obtain rfl:=ac h
  refine QG ?_
  exact⟨none,0,rfl,hI.ext0,hI.fin ⟨.z,trivial⟩⟩
 refine T ?_
 obtain⟨r2,hx3,h⟩:=af h
 refine aE gn rfl (ag (vs:=[vi a1.K,vi by1]) rfl CQ ⟨et,⟨et,trivial⟩⟩) (Calls.mono (tc (Dj F c5) w3 hI.lt a1.K by1 trivial r2 hx3) ?_)
 rintro _ w6 ⟨rfl,hx4,hl2⟩
 refine⟨_,rfl,?_⟩
 replace hI:=(hI.ext hx4)
 refine T ?_
 refine sq (aV (vs:=[(0,vi r2.1)]) (cs:=#[vi r2.1,vs none 0 0]) rfl ⟨rfl,et,trivial⟩ (by kernel_rfl)) ?_
 refine aN (cs:=#[vi 0,vs none 0 0]) hI gn rfl rfl fA rfl ?_
 clear hI;intro b3 c8 w7 hI
 refine ay (new:=[vi r2.1,vs none 0 0]) (cs':=#[vi r2.1,vs none 0 0]) hI .z gn rfl rfl et et rfl aW rfl rfl rfl ?_
 clear hI;intro c9 w8 hI
 refine nk (du (α:=Bool×GLin×(Option Addr)×Nat) (fun _=>⟨61,[]⟩) (fun x=>[(4,vp b2 0),(7,vb (x.1)),(8,vp b3 0)]) (fun x=>fun w=>∃ C,Bun d5 F w0 C w [MO.row aj 64 (x.2.2.1) (x.2.2.2) (x.2.1).L,MO.box b2 27 #[vi 0,vs none 0 0],MO.box b3 27 (bI (x.2.1) (x.2.2.1) (x.2.2.2))] []∧lW (x.1) (x.2.1)=some r) ?_ ?_)
 ·clear h hI;rintro⟨fits1,gh,a4,c10⟩ w9 ⟨c11,hI,h⟩
  try dsimp only at hI h
  rw[lW]at h
  refine bz (e:=[(4,vp b2 0),(7,vb fits1),(8,vp b3 0)]) SB ?_
  refine aB (T ?_)
  refine bc h et (fun hb h=> ?_) (fun hb h=> ?_)
  ·refine sr (sq (aV (vs:=[]) (cs:=#[vi 0,vs none 0 0]) rfl trivial (by kernel_rfl)) ?_)
   refine ay (new:=[vi 0,vs none 0 0]) (cs':=#[vi 0,vs none 0 0]) hI (.s .z) gn rfl rfl et et rfl aW rfl rfl rfl ?_
   clear hI;intro c12 w10 hI
   refine T ?_
   refine al ?_
   have hI:=hI.add (c:=Cl.sl aj none 0 ([]:List GMono)) SlC.nil
   obtain rfl:=ac h
   refine QG ?_
   exact⟨none,0,rfl,hI.ext0,hI.fin ⟨.z,trivial⟩⟩
  refine T ?_
  refine ay (new:=(gx gh a4 c10)) (cs':=(bI gh a4 c10)) hI (.s .z) gn rfl rfl et et rfl aW rfl rfl rfl ?_
  clear hI;intro c13 w11 hI
  refine T ?_
  refine al ?_
  obtain⟨c14,hI⟩:=hI.release .z
  obtain rfl:=ac h
  refine QG ?_
  exact⟨a4,c10,rfl,hI.ext0,hI.fin ⟨.z,trivial⟩⟩
 refine T ?_
 have hI:=hI.nil aj 64 none
 refine cO (α:=Nat×Bool×Int×GLin×(Option Addr)×Nat) (fun x=>fun w=>∃ C,Bun d5 F w0 C w [MO.row aj 64 (x.2.2.2.2.1) (x.2.2.2.2.2) (x.2.2.2.1).L,MO.box b2 27 #[vi 0,vs none 0 0],MO.box b3 27 (bI (x.2.2.2.1) (x.2.2.2.2.1) (x.2.2.2.2.2))] [Cl.sl aj a2 c1 a1.L]∧fQ a1 by1 (x.1) (x.2.1) (x.2.2.1) (x.2.2.2.1)=some r) (fun x _=>x.1) (fun x=>[(1,vi by1),(4,vp b2 0),(7,vb (x.2.1)),(8,vp b3 0),(30,vs a2 a1.L.length c1),(31,vi (a1.L.length:Int)),(32,vi (x.2.2.1))]) (fu,r2.2,0,(⟨r2.1,([]:List GMono)⟩:GLin),none,0) ⟨_,hI.arr (.c .z (.c (.s .z) (.c .z .n))) ⟨(.s .z),trivial⟩,h⟩ SB ?_
 clear h hI;rintro⟨fuel1,fits2,i1,out2,a5,c15⟩ w12 ⟨c16,hI,h⟩
 dsimp only at hI h
 rcases fuel1 with _ | fuel1
 ·rw[fQ]at h;cases h
 rw[fQ]at h
 refine bz (e:=[(1,vi by1),(4,vp b2 0),(7,vb fits2),(8,vp b3 0),(30,vs a2 a1.L.length c1),(31,vi (a1.L.length:Int)),(32,vi i1)]) SB ?_
 refine T ?_
 refine aB (bc h et (fun hb h=> ?_) (fun hb h=> ?_))
 ·refine T ?_
  refine aB (T ?_)
  obtain⟨e1,hx5,h⟩:=af h
  obtain⟨ad1,cs1,hA1,hr1,hq1⟩:=hI.clat .z hx5
  obtain rfl:cs1=(lH e1):=hr1
  refine sI ?_
  refine T ?_
  refine aN (cs:=#[(aC ([]:List UInt8)),vi 0]) hI gn rfl rfl Ai rfl ?_
  clear hI;intro b4 c17 w13 hI
  refine ay (new:=(lH e1)) (cs':=(Ff e1)) hI .z gn rfl rfl et et rfl nR rfl rfl rfl ?_
  clear hI;intro c18 w14 hI
  refine T ?_
  obtain⟨r3,hx6,h⟩:=af h
  refine aE gn rfl (ag (vs:=[vi e1.By,vi by1]) rfl CQ ⟨et,⟨et,trivial⟩⟩) (Calls.mono (tc (Dj F c18) w14 hI.lt e1.By by1 trivial r3 hx6) ?_)
  rintro _ w15 ⟨rfl,hx7,hl3⟩
  refine⟨_,rfl,?_⟩
  replace hI:=(hI.ext hx7)
  refine T ?_
  refine sq (aV (vs:=[(0,(aC e1.Name)),(1,vi r3.1)]) (cs:=#[(aC e1.Name),vi r3.1]) rfl ⟨rfl,et,⟨rfl,et,trivial⟩⟩ (by kernel_rfl)) ?_
  refine jR (c:=aj) (xs:=([(⟨e1.Name,r3.1⟩:GMono)]:List GMono)) (vs:=[(0,(Value.agg #[(aC e1.Name),vi r3.1]))]) (cs:=#[(aC e1.Name),vi r3.1]) (css:=[[(aC e1.Name),vi r3.1]]) hI gn rfl rfl DP qe rfl ⟨rfl,et,trivial⟩ (by kernel_rfl) ⟨rfl,trivial⟩ rfl rfl rfl ?_
  clear hI;intro b5 c19 w16 hI
  obtain⟨zs1,hx8,h⟩:=af h
  refine pJ (xs:=out2.L) (ys:=([(⟨e1.Name,r3.1⟩:GMono)]:List GMono)) hI (.s (.s .z)) (hI.rd .z) hx8 gn rfl rfl DP qe rfl rfl et et ?_
  clear hI;intro a6 c20 c21 w17 hI
  refine T ?_
  refine ay (new:=[vs a6 zs1.length c20]) (cs':=#[vi out2.K,vs a6 zs1.length c20]) hI (.s (.s (.s (.s .z)))) gn rfl rfl et et rfl Aw rfl rfl rfl ?_
  clear hI;intro c22 w18 hI
  refine T ?_
  refine bl ?_
  exact cg (fuel1,fits2&&r3.2,az (i1+1),(⟨out2.K,zs1⟩:GLin),a6,c20) SB ⟨_,hI.arr GO SU,h⟩ (Nat.lt_succ_self _)
 refine dv ?_
 refine kb ?_
 exact bi (fits2,out2,a5,c15) SB ⟨_,hI.arr GO SU,h⟩ rfl
theorem sy (F:NP) (w0:World) (hF:∀ k,F k→k<w0.heap.size) (s1:List UInt8) (hc:AllCl [] F w0) (r:Bool)
  (h:kZ s1=some r):
  Calls Tryz.prog 225 #[(aC s1)] w0 fun e w=>e= .returned (vb r)∧Ext w0 w∧AllCl [] F w:=by
 refine aL Tryz.func225 rfl Tryz.ntmps225 rfl ?_
 have hI:=Bun.start hF hc
 clear hc
 rw[kZ]at h
 refine T ?_
 refine du (α:=Unit) (fun _=>⟨31,[]⟩) (fun _=>[(0,(aC s1))]) (fun _=>fun w=>∃ C,Bun d5 F w0 C w [] []∧hV s1=some r) ?_ ?_
 ·clear h hI;rintro _ w1 ⟨c1,hI,h⟩
  try dsimp only at hI h
  rw[hV]at h
  refine bz (e:=[(0,(aC s1))]) ⟨rfl,trivial⟩ ?_
  refine T ?_
  obtain⟨b1,hx1,h⟩:=af h
  replace hx1:=aP hx1
  refine sJ ?_
  refine T ?_
  refine al ?_
  obtain rfl:=ac h
  exact QF hI
 refine T ?_
 refine cO (α:=Nat×Int) (fun x=>fun w=>∃ C,Bun d5 F w0 C w [] []∧dJ s1 (x.1) (x.2)=some r) (fun x _=>x.1) (fun x=>[(0,(aC s1)),(5,vi (s1.length:Int)),(6,vi (x.2))]) (fu,0) ⟨_,hI.arr .n trivial,h⟩ SB ?_
 clear h hI;rintro⟨fuel1,i1⟩ w2 ⟨c2,hI,h⟩
 dsimp only at hI h
 rcases fuel1 with _ | fuel1
 ·rw[dJ]at h;cases h
 rw[dJ]at h
 refine bz (e:=[(0,(aC s1)),(5,vi (s1.length:Int)),(6,vi i1)]) SB ?_
 refine T ?_
 refine aB (bc h et (fun hb h=> ?_) (fun hb h=> ?_))
 ·refine T ?_
  refine aB (T ?_)
  obtain⟨b2,hx2,h⟩:=af h
  refine sI ?_
  refine T ?_
  obtain⟨b3,hx3,h⟩:=af h
  replace hx3:=aP hx3
  refine sJ ?_
  refine T ?_
  refine bc h et (fun hb h=> ?_) (fun hb h=> ?_)
  ·refine T ?_
   refine al ?_
   obtain rfl:=ac h
   exact QF hI
  refine T ?_
  refine bl ?_
  exact cg (fuel1,az (i1+1)) SB ⟨_,hI.arr GO SU,h⟩ (Nat.lt_succ_self _)
 refine dv ?_
 refine kb ?_
 exact bi () ⟨rfl,trivial⟩ ⟨_,hI.arr GO SU,h⟩ rfl
theorem oo (F:NP) (w0:World) (hF:∀ k,F k→k<w0.heap.size) (r1:aa) (b1:Nat) (a1:Option Addr) (c1:Nat) (hc:AllCl [Cl.sl ah a1 c1 r1.l,Cl.blk b1 67 (ab r1 a1 c1)] F w0) (r:Bool)
  (h:eV r1=some r):
  Calls Tryz.prog 187 #[vp b1 0] w0 fun e w=>e= .returned (vb r)∧Ext w0 w∧AllCl [] F w:=by
 refine aL Tryz.func187 rfl Tryz.ntmps187 rfl ?_
 have hI:=Bun.start hF hc
 clear hc
 rw[eV]at h
 refine T ?_
 refine aB (bx [] false (.c (0,.q) (.c (1,.q) (.c (2,.q) (.c (3,.q) (.c (4,.q) (.c (5,.q) (.c (6,.q) (.c (7,.q) (.c (8,.q) (.c (9,.q) (.c (10,.q) (.c (11,.q) (.c (12,.q) (.c (13,.q) (.c (14,.q) (.c (15,.q) (.c (16,.q) (.c (17,.q) (.c (18,.q) (.c (19,.q) (.c (20,.q) (.c (21,.q) (.c (22,.q) (.c (23,.q) (.c (24,.q) (.c (25,.q) (.c (26,.q) (.c (27,.q) (.c (28,.q) (.c (29,.q) (.c (30,.q) (.c (31,.q) (.c (32,.q) (.c (33,.q) (.c (34,.q) (.c (35,.q) (.c (36,.s) (.c (37,.q) (.c (38,.q) .n))))))))))))))))))))))))))))))))))))))) hI (by kernel_rfl) (by kernel_rfl) ?_)
 clear hI;intro w1 hI
 refine V ?_
 obtain⟨e1,hx1,h⟩:=af h
 replace hx1:=aP hx1
 obtain⟨ad1,cs1,hq1⟩:=hI.gclat .z hx1
 have hq2:(decide (r1.at_<(r1.l.length:Int)))=true→CA (Dj F d5) w1 (ad1.add (Int.toNat r1.at_ * 3)) (m6 e1):=fun hc=>yQ (hq1 hc).2.1 (hq1 hc).2.2
 refine vJ ?_
 refine V ?_
 obtain⟨e2,hx2,h⟩:=af h
 replace hx2:=aP hx2
 obtain⟨ad2,cs2,hq3⟩:=hI.gclat .z hx2
 have hq4:((decide (r1.at_<(r1.l.length:Int)))&&(decide (e1.Kind=2)))=true→CA (Dj F d5) w1 (ad2.add (Int.toNat r1.at_ * 3)) (m6 e2):=fun hc=>yQ (hq3 hc).2.1 (hq3 hc).2.2
 refine vJ ?_
 refine V ?_
 obtain⟨r2,hx3,h⟩:=af h
 replace hx3:=aP hx3
 refine mx (v:=(vb r2)) rfl (bE rfl rfl rfl rfl) rfl (fun hc=>(ag (vs:=[(aC e2.Text)]) rfl F9 ⟨(bg et hc),trivial⟩)) (fun hc=>(sy (Dj F d5) w1 hI.lt e2.Text trivial r2 (hx3 hc)).mono fun _ _ k=>⟨k.1,k.2.1⟩) ?_
 intro w2 hx4;replace hI:=hI.ext hx4
 refine V ?_
 refine al ?_
 obtain rfl:=ac h
 exact QF hI
theorem pp (F:NP) (w0:World) (hF:∀ k,F k→k<w0.heap.size) (s1:List UInt8) (negative1:Bool) (hc:AllCl [] F w0) (r:Int×Bool)
  (h:gY s1 negative1=some r):
  Calls Tryz.prog 131 #[(aC s1),vb negative1] w0 fun e w=>e= .returned (Value.tuple #[vi r.1,vb r.2])∧Ext w0 w∧AllCl [] F w:=by
 refine aL Tryz.func131 rfl Tryz.ntmps131 rfl ?_
 have hI:=Bun.start hF hc
 clear hc
 rw[gY]at h
 refine T ?_
 refine du (α:=Int) (fun _=>⟨38,[]⟩) (fun x=>[(0,(aC s1)),(1,vb negative1),(6,(Value.int .u64 x))]) (fun x=>fun w=>∃ C,Bun d5 F w0 C w [] []∧iO s1 negative1 x=some r) ?_ ?_
 ·clear h hI;rintro limit1 w1 ⟨c1,hI,h⟩
  try dsimp only at hI h
  rw[iO]at h
  refine bz (e:=[(0,(aC s1)),(1,vb negative1),(6,(Value.int .u64 limit1))]) SB ?_
  refine T ?_
  refine du (α:=Int) (fun _=>⟨38,[]⟩) (fun x=>[(1,vb negative1),(7,(Value.int .u64 x))]) (fun x=>fun w=>∃ C,Bun d5 F w0 C w [] []∧iN negative1 x=some r) ?_ ?_
  ·clear h hI;rintro n1 w2 ⟨c2,hI,h⟩
   try dsimp only at hI h
   rw[iN]at h
   refine bz (e:=[(1,vb negative1),(7,(Value.int .u64 n1))]) SB ?_
   refine aB (T ?_)
   refine bc h et (fun hb h=> ?_) (fun hb h=> ?_)
   ·refine T ?_
    refine al ?_
    obtain rfl:=ac h
    exact QF hI
   refine T ?_
   refine al ?_
   obtain rfl:=ac h
   exact QF hI
  refine T ?_
  refine cO (α:=Nat×Int×Int) (fun x=>fun w=>∃ C,Bun d5 F w0 C w [] []∧dp s1 limit1 negative1 (x.1) (x.2.1) (x.2.2)=some r) (fun x _=>x.1) (fun x=>[(0,(aC s1)),(1,vb negative1),(6,(Value.int .u64 limit1)),(7,(Value.int .u64 (x.2.1))),(12,vi (s1.length:Int)),(13,vi (x.2.2))]) (fu,0,0) ⟨_,hI.arr .n trivial,h⟩ SB ?_
  clear h hI;rintro⟨fuel1,n2,i1⟩ w3 ⟨c3,hI,h⟩
  dsimp only at hI h
  rcases fuel1 with _ | fuel1
  ·rw[dp]at h;cases h
  rw[dp]at h
  refine bz (e:=[(0,(aC s1)),(1,vb negative1),(6,(Value.int .u64 limit1)),(7,(Value.int .u64 n2)),(12,vi (s1.length:Int)),(13,vi i1)]) SB ?_
  refine T ?_
  refine aB (bc h et (fun hb h=> ?_) (fun hb h=> ?_))
  ·refine T ?_
   refine aB (T ?_)
   obtain⟨b1,hx1,h⟩:=af h
   refine sI ?_
   refine T ?_
   refine aB (T ?_)
   refine sq (EF rfl et ai (by decide)) ?_
   refine T ?_
   refine bc h et (fun hb h=> ?_) (fun hb h=> ?_)
   ·refine T ?_
    refine al ?_
    obtain rfl:=ac h
    exact QF hI
   refine cc (cA (mW rfl ?_))
   refine sm ?_
   refine sq (sO rfl ai et) ?_
   refine sm ?_
   refine sq (qq rfl et et) ?_
   obtain⟨n3,hx2,h⟩:=af h
   refine sq (vU (dN rfl et) (congrArg (Value.int .u64) (ac hx2))) ?_
   refine T ?_
   refine bl ?_
   exact cg (fuel1,n3,az (i1+1)) SB ⟨_,hI.arr GO SU,h⟩ (Nat.lt_succ_self _)
  refine dv ?_
  refine kb ?_
  exact bi n2 SB ⟨_,hI.arr GO SU,h⟩ rfl
 refine T ?_
 refine bc h et (fun hb h=> ?_) (fun hb h=> ?_)
 ·refine T ?_
  refine bl ?_
  exact bi 9223372036854775808 SB ⟨_,hI.arr GO SU,h⟩ rfl
 exact cc (bi 9223372036854775807 SB ⟨_,hI.arr GO SU,h⟩ rfl)
theorem yS (F:NP) (w0:World) (hF:∀ k,F k→k<w0.heap.size) (k1:Int) (hc:AllCl [] F w0) (r:GLin)
  (h:pH k1=some r):
  Calls Tryz.prog 132 #[vi k1] w0 fun e w=>∃ (a1:Option Addr) (c1:Nat),e= .returned (Value.agg (bI r a1 c1))∧Ext w0 w∧AllCl [Cl.sl aj a1 c1 r.L] F w:=by
 refine aL Tryz.func132 rfl Tryz.ntmps132 rfl ?_
 have hI:=Bun.start hF hc
 clear hc
 rw[pH]at h
 refine sr (aN (cs:=#[vi 0,vs none 0 0]) hI gn rfl rfl fA rfl ?_)
 clear hI;intro b1 c2 w1 hI
 refine T ?_
 refine sq (aV (vs:=[(0,vi k1)]) (cs:=#[vi k1,vs none 0 0]) rfl ⟨rfl,et,trivial⟩ (by kernel_rfl)) ?_
 refine ay (new:=[vi k1,vs none 0 0]) (cs':=#[vi k1,vs none 0 0]) hI .z gn rfl rfl et et rfl aW rfl rfl rfl ?_
 clear hI;intro c3 w2 hI
 refine nk (al ?_)
 have hI:=hI.add (c:=Cl.sl aj none 0 ([]:List GMono)) SlC.nil
 obtain rfl:=ac h
 refine QG ?_
 exact⟨none,0,rfl,hI.ext0,hI.fin ⟨.z,trivial⟩⟩
theorem vf (F:NP) (w0:World) (hF:∀ k,F k→k<w0.heap.size) (a1:Int) (b1:Int) (hc:AllCl [] F w0) (r:Int×Bool)
  (h:mv a1 b1=some r):
  Calls Tryz.prog 123 #[vi a1,vi b1] w0 fun e w=>e= .returned (Value.tuple #[vi r.1,vb r.2])∧Ext w0 w∧AllCl [] F w:=by
 refine aL Tryz.func123 rfl Tryz.ntmps123 rfl ?_
 have hI:=Bun.start hF hc
 clear hc
 rw[mv]at h
 refine T ?_
 refine sq (Hb rfl u4 et et) ?_
 refine T ?_
 refine al ?_
 obtain rfl:=ac h
 exact QF hI
theorem vN (C0 F:NP) (w0:World) (name1:List UInt8) (x1:Int) (y1:Int) (a1:Bool) (a2:GLin) (b1:Nat) (b2:Nat) (a3:Option Addr) (c1:Nat) (hI:Bun C0 F w0 C0 w0 [MO.box b1 4 #[vb a1],MO.box b2 27 (bI a2 a3 c1),MO.row aj 64 a3 c1 a2.L] []) (r:Unit×Bool×GLin)
  (h:dG name1 x1 y1 a1 a2=some r):
  Calls Tryz.prog 125 #[(aC name1),vi x1,vi y1,vp b1 0,vp b2 0] w0 fun e w=>∃ (a4:Option Addr) (c2:Nat) (C:NP),e= .returned (Value.tuple #[])∧Bun C0 F w0 C w [MO.box b1 4 #[vb r.2.1],MO.box b2 27 (bI r.2.2 a4 c2),MO.row aj 64 a4 c2 r.2.2.L] []:=by
 refine aL Tryz.func125 rfl Tryz.ntmps125 rfl ?_
 rw[dG]at h
 refine T ?_
 obtain⟨r1,hx1,h⟩:=af h
 refine aE gn rfl (ag (vs:=[vi x1,vi y1]) rfl C7 ⟨et,⟨et,trivial⟩⟩) (Calls.mono (vf (Dj F C0) w0 hI.lt x1 y1 trivial r1 hx1) ?_)
 rintro _ w1 ⟨rfl,hx2,hl1⟩
 refine⟨_,rfl,?_⟩
 replace hI:=(hI.ext hx2)
 refine T ?_
 refine ay (new:=[vb (a1&&r1.2)]) (cs':=#[vb (a1&&r1.2)]) hI .z gn rfl rfl et et rfl Cf rfl rfl rfl ?_
 clear hI;intro c3 w2 hI
 refine T ?_
 refine bc h et (fun hb h=> ?_) (fun hb h=> ?_)
 ·refine T ?_
  refine sq (aV (vs:=[(0,(aC name1)),(1,vi r1.1)]) (cs:=#[(aC name1),vi r1.1]) rfl ⟨rfl,et,⟨rfl,et,trivial⟩⟩ (by kernel_rfl)) ?_
  refine jR (c:=aj) (xs:=([(⟨name1,r1.1⟩:GMono)]:List GMono)) (vs:=[(0,(Value.agg #[(aC name1),vi r1.1]))]) (cs:=#[(aC name1),vi r1.1]) (css:=[[(aC name1),vi r1.1]]) hI gn rfl rfl DP qe rfl ⟨rfl,et,trivial⟩ (by kernel_rfl) ⟨rfl,trivial⟩ rfl rfl rfl ?_
  clear hI;intro b3 c4 w3 hI
  obtain⟨zs1,hx3,h⟩:=af h
  refine pJ (xs:=a2.L) (ys:=([(⟨name1,r1.1⟩:GMono)]:List GMono)) hI (.s (.s (.s .z))) (hI.rd .z) hx3 gn rfl rfl DP qe rfl rfl et et ?_
  clear hI;intro a5 c5 c6 w4 hI
  refine T ?_
  refine ay (new:=[vs a5 zs1.length c5]) (cs':=#[vi a2.K,vs a5 zs1.length c5]) hI (.s (.s .z)) gn rfl rfl et et rfl Aw rfl rfl rfl ?_
  clear hI;intro c7 w5 hI
  refine bl ?_
  obtain rfl:=ac h
  refine QG ?_
  exact⟨a5,c5,_,rfl,hI.arr GO SU⟩
 refine cc ?_
 obtain rfl:=ac h
 refine QG ?_
 exact⟨a3,c1,_,rfl,hI.arr GO SU⟩
theorem vK {σ:Type} (I:StI σ) (C0 F:NP) (w0:World) (a1:List GMono) (b1:List GMono) (each1:((List UInt8)→Int→Int→σ→Option (Unit×σ))) (s1:σ) (a2:Option Addr) (c1:Nat) (a3:Option Addr) (c2:Nat) (fv1:Value) (hI:Bun C0 F w0 C0 w0 [MO.st I s1] [Cl.sl aj a2 c1 a1,Cl.sl aj a3 c2 b1,uY I fv1 each1]) (r:Unit×σ)
  (h:mG a1 b1 each1 s1=some r):
  Calls Tryz.prog 124 #[vs a2 a1.length c1,vs a3 b1.length c2,fv1] w0 fun e w=>∃ (C:NP),e= .returned (Value.tuple #[])∧Bun C0 F w0 C w [MO.st I r.2] []:=by
 refine aL Tryz.func124 rfl Tryz.ntmps124 rfl ?_
 rw[mG]at h
 refine T ?_
 refine cO (α:=Nat×(List GMono)×(List GMono)×σ×(Option Addr)×Nat×(Option Addr)×Nat) (fun x=>fun w=>∃ C,Bun C0 F w0 C w [MO.st I (x.2.2.2.1)] [Cl.sl aj (x.2.2.2.2.1) (x.2.2.2.2.2.1) (x.2.1),Cl.sl aj (x.2.2.2.2.2.2.1) (x.2.2.2.2.2.2.2) (x.2.2.1),uY I fv1 each1]∧cD each1 (x.1) (x.2.1) (x.2.2.1) (x.2.2.2.1)=some r) (fun x _=>x.1) (fun x=>[(0,vs (x.2.2.2.2.1) (x.2.1).length (x.2.2.2.2.2.1)),(1,vs (x.2.2.2.2.2.2.1) (x.2.2.1).length (x.2.2.2.2.2.2.2)),(2,fv1)]) (fu,a1,b1,s1,a2,c1,a3,c2) ⟨_,hI.arr (.c .z .n) ⟨.z,(.s .z),(.s (.s .z)),trivial⟩,h⟩ SB ?_
 clear h hI;rintro⟨fuel1,a4,b2,s2,a5,c3,a6,c4⟩ w1 ⟨c5,hI,h⟩
 dsimp only at hI h
 rcases fuel1 with _ | fuel1
 ·rw[cD]at h;cases h
 rw[cD]at h
 refine bz (e:=[(0,vs a5 a4.length c3),(1,vs a6 b2.length c4),(2,fv1)]) SB ?_
 refine aB (T ?_)
 refine bc h et (fun hb h=> ?_) (fun hb h=> ?_)
 ·refine T ?_
  refine aB (bx [] false (.c (0,.q) (.c (1,.q) (.c (2,.q) (.c (3,.q) (.c (4,.q) (.c (5,.q) (.c (6,.q) (.c (7,.q) (.c (8,.q) (.c (9,.q) (.c (10,.q) (.c (11,.q) (.c (12,.q) (.c (13,.q) (.c (14,.q) (.c (15,.q) (.c (16,.q) (.c (17,.q) (.c (18,.q) (.c (19,.q) .n)))))))))))))))))))) hI (by kernel_rfl) (by kernel_rfl) ?_)
  clear hI;intro w2 hI
  refine V ?_
  obtain⟨e1,hx1,h⟩:=af h
  replace hx1:=aP hx1
  obtain⟨ad1,cs1,hq1⟩:=hI.gclat .z hx1
  have hq2:((!(decide ((b2.length:Int)=0)))&&(decide (0<(a4.length:Int))))=true→CA (Dj F c5) w2 (ad1.add (Int.toNat 0 * 2)) (lH e1):=fun hc=>yQ (hq1 hc).2.1 (hq1 hc).2.2
  refine vJ ?_
  refine V ?_
  obtain⟨e2,hx2,h⟩:=af h
  replace hx2:=aP hx2
  obtain⟨ad2,cs2,hq3⟩:=hI.gclat (.s .z) hx2
  have hq4:((!(decide ((b2.length:Int)=0)))&&(decide (0<(a4.length:Int))))=true→CA (Dj F c5) w2 (ad2.add (Int.toNat 0 * 2)) (lH e2):=fun hc=>yQ (hq3 hc).2.1 (hq3 hc).2.2
  refine vJ ?_
  refine V ?_
  refine bc h et (fun hb h=> ?_) (fun hb h=> ?_)
  ·refine aB (bx [9] false (.c (0,.q) (.c (1,.q) (.c (2,.q) (.c (3,.q) (.c (4,.q) (.c (5,.q) (.c (6,.q) (.c (7,.q) (.c (8,.q) (.c (9,.s) .n)))))))))) hI (by kernel_rfl) (by kernel_rfl) ?_)
   clear hI;intro w3 hI
   refine V ?_
   obtain⟨e3,hx3,h⟩:=af h
   obtain⟨ad3,cs3,hA3,hr3,hq5⟩:=hI.clat .z hx3
   obtain rfl:cs3=(lH e3):=hr3
   refine vI ?_
   refine V ?_
   obtain⟨e4,hx4,h⟩:=af h
   obtain⟨ad4,cs4,hA4,hr4,hq6⟩:=hI.clat .z hx4
   obtain rfl:cs4=(lH e4):=hr4
   refine vI ?_
   refine V ?_
   refine hO (F:=F) (C:=c5) rfl rfl ?_
   obtain⟨⟨r1,s3⟩,hx5,h⟩:=af h
   try dsimp only at h
   obtain⟨c6,f1,hB,hl1,hk1⟩:=hI.hands (.l .n)
   refine uK (args:=[(aC e3.Name),vi e4.By,vi 0]) rfl gn rfl rfl et ⟨et,⟨et,⟨ai,trivial⟩⟩⟩ (CallV.mono ((hI.get (.s (.s .z))).2 c6 f1 w3 (Sp.less hl1) e3.Name e4.By 0 s2 _ (hB.subs trivial) hx5) ?_)
   rintro _ w4 ⟨c7,rfl,hB2⟩
   obtain⟨c8,hs1,hI⟩:=hk1 _ _ _ _ hB2
   dsimp only[ca,na]at hI
   refine⟨_,rfl,DM true F c8,hs1,?_⟩
   refine V ?_
   refine T ?_
   obtain⟨zs1,hx6,h⟩:=af h
   obtain⟨a7,hB1⟩:∃ B:Option Addr,B=(if c3=Int.toNat 1 then a5 else Option.map (·.add (Int.toNat 1 * 2)) a5):=⟨_,rfl⟩
   refine sq (tN rfl DP nR et ai hx6 hB1) ?_
   replace hI:=hI.from_ .z hx6 hB1
   refine sa ?_
   refine bl ?_
   exact cg (fuel1,zs1,b2,s3,a7,c3 - Int.toNat 1,a6,c4) SB ⟨_,hI.arr GO SU,h⟩ (Nat.lt_succ_self _)
  refine aB (bx [] false (.c (0,.q) (.c (1,.q) (.c (2,.q) (.c (3,.q) (.c (4,.q) (.c (5,.q) (.c (6,.q) (.c (7,.q) (.c (8,.q) (.c (9,.q) (.c (10,.q) (.c (11,.q) (.c (12,.q) (.c (13,.q) (.c (14,.q) .n))))))))))))))) hI (by kernel_rfl) (by kernel_rfl) ?_)
  clear hI;intro w5 hI
  refine V ?_
  obtain⟨e5,hx7,h⟩:=af h
  replace hx7:=aP hx7
  obtain⟨ad5,cs5,hq7⟩:=hI.gclat (.s .z) hx7
  have hq8:(!(decide ((a4.length:Int)=0)))=true→CA (Dj F c5) w5 (ad5.add (Int.toNat 0 * 2)) (lH e5):=fun hc=>yQ (hq7 hc).2.1 (hq7 hc).2.2
  refine vJ ?_
  refine V ?_
  obtain⟨e6,hx8,h⟩:=af h
  replace hx8:=aP hx8
  obtain⟨ad6,cs6,hq9⟩:=hI.gclat .z hx8
  have hq10:(!(decide ((a4.length:Int)=0)))=true→CA (Dj F c5) w5 (ad6.add (Int.toNat 0 * 2)) (lH e6):=fun hc=>yQ (hq9 hc).2.1 (hq9 hc).2.2
  refine vJ ?_
  refine V ?_
  refine bc h et (fun hb h=> ?_) (fun hb h=> ?_)
  ·refine aB (bx [9] false (.c (0,.q) (.c (1,.q) (.c (2,.q) (.c (3,.q) (.c (4,.q) (.c (5,.q) (.c (6,.q) (.c (7,.q) (.c (8,.q) (.c (9,.s) .n)))))))))) hI (by kernel_rfl) (by kernel_rfl) ?_)
   clear hI;intro w6 hI
   refine V ?_
   obtain⟨e7,hx9,h⟩:=af h
   obtain⟨ad7,cs7,hA7,hr7,hq11⟩:=hI.clat (.s .z) hx9
   obtain rfl:cs7=(lH e7):=hr7
   refine vI ?_
   refine V ?_
   obtain⟨e8,hx10,h⟩:=af h
   obtain⟨ad8,cs8,hA8,hr8,hq12⟩:=hI.clat (.s .z) hx10
   obtain rfl:cs8=(lH e8):=hr8
   refine vI ?_
   refine V ?_
   refine hO (F:=F) (C:=c5) rfl rfl ?_
   obtain⟨⟨r2,s4⟩,hx11,h⟩:=af h
   try dsimp only at h
   obtain⟨c9,f2,hB,hl2,hk2⟩:=hI.hands (.l .n)
   refine uK (args:=[(aC e7.Name),vi 0,vi e8.By]) rfl gn rfl rfl et ⟨et,⟨ai,⟨et,trivial⟩⟩⟩ (CallV.mono ((hI.get (.s (.s .z))).2 c9 f2 w6 (Sp.less hl2) e7.Name 0 e8.By s2 _ (hB.subs trivial) hx11) ?_)
   rintro _ w7 ⟨c10,rfl,hB2⟩
   obtain⟨c11,hs2,hI⟩:=hk2 _ _ _ _ hB2
   dsimp only[ca,na]at hI
   refine⟨_,rfl,DM true F c11,hs2,?_⟩
   refine V ?_
   refine T ?_
   obtain⟨zs2,hx12,h⟩:=af h
   obtain⟨a8,hB2⟩:∃ B:Option Addr,B=(if c4=Int.toNat 1 then a6 else Option.map (·.add (Int.toNat 1 * 2)) a6):=⟨_,rfl⟩
   refine sq (tN rfl DP nR et ai hx12 hB2) ?_
   replace hI:=hI.from_ (.s .z) hx12 hB2
   refine sa ?_
   refine bl ?_
   exact cg (fuel1,a4,zs2,s4,a5,c3,a8,c4 - Int.toNat 1) SB ⟨_,hI.arr GO SU,h⟩ (Nat.lt_succ_self _)
  refine aB (bx [13] false (.c (0,.q) (.c (1,.q) (.c (2,.q) (.c (3,.q) (.c (4,.q) (.c (5,.q) (.c (6,.q) (.c (7,.q) (.c (8,.q) (.c (9,.q) (.c (10,.q) (.c (11,.q) (.c (12,.q) (.c (13,.s) .n)))))))))))))) hI (by kernel_rfl) (by kernel_rfl) ?_)
  clear hI;intro w8 hI
  refine V ?_
  obtain⟨e9,hx13,h⟩:=af h
  obtain⟨ad9,cs9,hA9,hr9,hq13⟩:=hI.clat .z hx13
  obtain rfl:cs9=(lH e9):=hr9
  refine vI ?_
  refine V ?_
  obtain⟨e10,hx14,h⟩:=af h
  obtain⟨ad10,cs10,hA10,hr10,hq14⟩:=hI.clat .z hx14
  obtain rfl:cs10=(lH e10):=hr10
  refine vI ?_
  refine V ?_
  obtain⟨e11,hx15,h⟩:=af h
  obtain⟨ad11,cs11,hA11,hr11,hq15⟩:=hI.clat (.s .z) hx15
  obtain rfl:cs11=(lH e11):=hr11
  refine vI ?_
  refine V ?_
  refine hO (F:=F) (C:=c5) rfl rfl ?_
  obtain⟨⟨r3,s5⟩,hx16,h⟩:=af h
  try dsimp only at h
  obtain⟨c12,f3,hB,hl3,hk3⟩:=hI.hands (.l .n)
  refine uK (args:=[(aC e9.Name),vi e10.By,vi e11.By]) rfl gn rfl rfl et ⟨et,⟨et,⟨et,trivial⟩⟩⟩ (CallV.mono ((hI.get (.s (.s .z))).2 c12 f3 w8 (Sp.less hl3) e9.Name e10.By e11.By s2 _ (hB.subs trivial) hx16) ?_)
  rintro _ w9 ⟨c13,rfl,hB2⟩
  obtain⟨c14,hs3,hI⟩:=hk3 _ _ _ _ hB2
  dsimp only[ca,na]at hI
  refine⟨_,rfl,DM true F c14,hs3,?_⟩
  refine V ?_
  refine bx [] false (.c (0,.q) (.c (1,.q) (.c (2,.q) (.c (3,.q) (.c (4,.q) (.c (5,.q) .n)))))) hI (by kernel_rfl) (by kernel_rfl) ?_
  clear hI;intro w10 hI
  refine V ?_
  obtain⟨zs3,hx17,h⟩:=af h
  obtain⟨a9,hB3⟩:∃ B:Option Addr,B=(if c3=Int.toNat 1 then a5 else Option.map (·.add (Int.toNat 1 * 2)) a5):=⟨_,rfl⟩
  refine pt rfl gn rfl (fun w'=>tN rfl DP nR et ai hx17 hB3) ?_
  replace hI:=hI.from_ .z hx17 hB3
  refine V ?_
  obtain⟨zs4,hx18,h⟩:=af h
  obtain⟨a10,hB4⟩:∃ B:Option Addr,B=(if c4=Int.toNat 1 then a6 else Option.map (·.add (Int.toNat 1 * 2)) a6):=⟨_,rfl⟩
  refine pt rfl gn rfl (fun w'=>tN rfl DP nR et ai hx18 hB4) ?_
  replace hI:=hI.from_ (.s (.s .z)) hx18 hB4
  refine V ?_
  refine pu ?_
  exact cg (fuel1,zs3,zs4,s5,a9,c3 - Int.toNat 1,a10,c4 - Int.toNat 1) SB ⟨_,hI.arr GO SU,h⟩ (Nat.lt_succ_self _)
 refine dv ?_
 refine kb ?_
 obtain rfl:=ac h
 refine QG ?_
 exact⟨_,rfl,hI.arr GO SU⟩
theorem wt (F:NP) (w0:World) (hF:∀ k,F k→k<w0.heap.size) (a1:GLin) (b1:GLin) (a2:Option Addr) (c1:Nat) (a3:Option Addr) (c2:Nat) (hc:AllCl [Cl.sl aj a2 c1 a1.L,Cl.sl aj a3 c2 b1.L] F w0) (r:GLin×Int)
  (h:gr a1 b1=some r):
  Calls Tryz.prog 69 #[(Value.agg (bI a1 a2 c1)),(Value.agg (bI b1 a3 c2))] w0 fun e w=>∃ (a4:Option Addr) (c3:Nat),e= .returned (Value.tuple #[(Value.agg (bI r.1 a4 c3)),vi r.2])∧Ext w0 w∧AllCl [Cl.sl aj a4 c3 r.1.L] F w:=by
 refine aL Tryz.func69 rfl Tryz.ntmps69 rfl ?_
 have hI:=Bun.start hF hc
 clear hc
 rw[gr]at h
 refine sr (fU (v:=(Value.agg (bI a1 a2 c1))) (cs:=(bI a1 a2 c1)) hI gn rfl rfl et rfl ?_)
 clear hI;intro b2 c4 w1 hI
 obtain⟨c5,hI⟩:=hI.relBox .z
 refine fU (v:=(Value.agg (bI b1 a3 c2))) (cs:=(bI b1 a3 c2)) hI gn rfl rfl et rfl ?_
 clear hI;intro b3 c6 w2 hI
 obtain⟨c7,hI⟩:=hI.relBox .z
 refine aN (cs:=#[vi 0,vs none 0 0]) hI gn rfl rfl fA rfl ?_
 clear hI;intro b4 c8 w3 hI
 refine T ?_
 refine aB (sr (sq (aJ (l:=(gx a1 a2 c1)) rfl et rZ rfl aW (hI.kblk (l:=(gx a1 a2 c1)) (.s .z) rfl).1) ?_))
 obtain⟨r1,hx1,h⟩:=af h
 refine aE gn rfl (ag (vs:=[(Value.agg (bI a1 a2 c1))]) rfl wV ⟨et,trivial⟩) (Calls.mono (ma (Dj F c8) w3 hI.lt a1 a2 c1 ⟨(hI.get (.s (.s .z))),trivial⟩ r1 hx1) ?_)
 rintro _ w4 ⟨rfl,hx2,hl1⟩
 refine⟨_,rfl,?_⟩
 replace hI:=(hI.ext hx2)
 refine T ?_
 refine bZ (gg rfl rfl rfl rfl) rfl (fun hc=>(aJ (l:=(gx b1 a3 c2)) rfl et rZ rfl aW (hI.kblk (l:=(gx b1 a3 c2)) .z rfl).1)) ?_
 obtain⟨r2,hx3,h⟩:=af h
 replace hx3:=aP hx3
 refine dx (v:=(vi r2)) (gg rfl rfl rfl rfl) rfl (fun hc=>(ag (vs:=[(Value.agg (bI b1 a3 c2))]) rfl wV ⟨(bg et hc),trivial⟩)) (fun hc=>(ma (Dj F c8) w4 hI.lt b1 a3 c2 ⟨(hI.get (.s (.s (.s .z)))),trivial⟩ r2 (hx3 hc)).mono fun _ _ k=>⟨k.1,k.2.1⟩) ?_
 intro w5 hx4;replace hI:=hI.ext hx4
 refine T ?_
 refine bc h et (fun hb h=> ?_) (fun hb h=> ?_)
 ·refine sr (sq (aV (vs:=[]) (cs:=#[vi 0,vs none 0 0]) rfl trivial (by kernel_rfl)) ?_)
  refine ay (new:=[vi 0,vs none 0 0]) (cs':=#[vi 0,vs none 0 0]) hI .z gn rfl rfl et et rfl aW rfl rfl rfl ?_
  clear hI;intro c9 w6 hI
  refine T ?_
  refine al ?_
  have hI:=hI.add (c:=Cl.sl aj none 0 ([]:List GMono)) SlC.nil
  obtain rfl:=ac h
  refine QG ?_
  exact⟨none,0,rfl,hI.ext0,hI.fin ⟨.z,trivial⟩⟩
 refine T ?_
 refine aN (cs:=#[vi 0,vs none 0 0]) hI gn rfl rfl fA rfl ?_
 clear hI;intro b5 c10 w7 hI
 refine T ?_
 refine aN (cs:=#[vb false]) hI gn rfl rfl Fg rfl ?_
 clear hI;intro b6 c11 w8 hI
 refine T ?_
 obtain⟨r3,hx5,h⟩:=af h
 refine aE gn rfl (ag (vs:=[vi a1.K,vi b1.K]) rfl C7 ⟨et,⟨et,trivial⟩⟩) (Calls.mono (vf (Dj F c11) w8 hI.lt a1.K b1.K trivial r3 hx5) ?_)
 rintro _ w9 ⟨rfl,hx6,hl3⟩
 refine⟨_,rfl,?_⟩
 replace hI:=(hI.ext hx6)
 refine T ?_
 refine ay (new:=[vi r3.1]) (cs':=#[vi r3.1,vs none 0 0]) hI (.s .z) gn rfl rfl et et rfl Fw rfl rfl rfl ?_
 clear hI;intro c12 w10 hI
 refine ay (new:=[vb r3.2]) (cs':=#[vb r3.2]) hI .z gn rfl rfl et et rfl Cf rfl rfl rfl ?_
 clear hI;intro c13 w11 hI
 refine T ?_
 refine sq (mm (vs:=[]) (cap:=[vp b6 0,vp b5 0]) rfl rfl ⟨et,⟨et,trivial⟩⟩) ?_
 have hI:=hI.nil aj 64 none
 obtain⟨c14,f1,hB,hl4,hk1⟩:=hI.hands (.l (.l (.l (.r .n))))
 replace hB:=hB.ord (.c (.s .z) (.c (.s .z) (.c .z .n)))
 have hB:Bun c14 f1 w11 c14 w11 [MO.st (StI.of (fun(s:Bool×GLin) (b:(Option Addr)×Nat)=>[MO.box b6 4 #[vb (s.1)],MO.box b5 27 #[(vi ((s.2).K)),(vs (b.1) ((s.2).L).length (b.2))],MO.row aj 64 (b.1) (b.2) ((s.2).L)]) (fun(s:Bool×GLin) (b:(Option Addr)×Nat)=>[])) (r3.2,(⟨r3.1,([]:List GMono)⟩:GLin))] _:=Bun.mkst (b:=(none,0)) hB trivial
 have hC:=hB
 have hY1:fnS_k2 (StI.of (fun(s:Bool×GLin) (b:(Option Addr)×Nat)=>[MO.box b6 4 #[vb (s.1)],MO.box b5 27 #[(vi ((s.2).K)),(vs (b.1) ((s.2).L).length (b.2))],MO.row aj 64 (b.1) (b.2) ((s.2).L)]) (fun(s:Bool×GLin) (b:(Option Addr)×Nat)=>[])) (Value.func (.func 125) #[] #[vp b6 0,vp b5 0]) (fun x_1 x_2 x_3 s=>dG x_1 x_2 x_3 (s.1) (s.2)) (Dj f1 c14) w11:=by
  refine⟨rfl,fun C0 F w' hs x_1 x_2 x_3 s r hB h=> ?_⟩
  obtain⟨⟨a5,c15⟩,hB⟩:=Bun.unst hB
  refine CallV.fn (cap:=[vp b6 0,vp b5 0]) Gz (Calls.mono (vN C0 F w' x_1 x_2 x_3 (s.1) (s.2) b6 b5 a5 c15 (hB.subs trivial) r h) ?_)
  rintro _ w'' ⟨z1,z2,C',rfl,hB2⟩
  exact⟨C',rfl,(Bun.mkst (os:=(fun(s:Bool×GLin) (b:(Option Addr)×Nat)=>[MO.box b6 4 #[vb (s.1)],MO.box b5 27 #[(vi ((s.2).K)),(vs (b.1) ((s.2).L).length (b.2))],MO.row aj 64 (b.1) (b.2) ((s.2).L)])) (cl:=(fun(s:Bool×GLin) (b:(Option Addr)×Nat)=>[])) (s:=r.2) (b:=(z1,z2)) hB2 trivial).subs trivial⟩
 obtain⟨⟨r4,s1⟩,hx7,h⟩:=af h
 try dsimp only at h
 refine aE gn rfl (ag (vs:=[vs a2 a1.L.length c1,vs a3 b1.L.length c2,(Value.func (.func 125) #[] #[vp b6 0,vp b5 0])]) rfl GA ⟨et,⟨et,⟨et,trivial⟩⟩⟩) (Calls.mono (vK (StI.of (fun(s:Bool×GLin) (b:(Option Addr)×Nat)=>[MO.box b6 4 #[vb (s.1)],MO.box b5 27 #[(vi ((s.2).K)),(vs (b.1) ((s.2).L).length (b.2))],MO.row aj 64 (b.1) (b.2) ((s.2).L)]) (fun(s:Bool×GLin) (b:(Option Addr)×Nat)=>[])) c14 f1 w11 a1.L b1.L (fun x_1 x_2 x_3 s=>dG x_1 x_2 x_3 (s.1) (s.2)) (r3.2,(⟨r3.1,([]:List GMono)⟩:GLin)) a2 c1 a3 c2 (Value.func (.func 125) #[] #[vp b6 0,vp b5 0]) ((hB.add (c:=(uY (StI.of (fun(s:Bool×GLin) (b:(Option Addr)×Nat)=>[MO.box b6 4 #[vb (s.1)],MO.box b5 27 #[(vi ((s.2).K)),(vs (b.1) ((s.2).L).length (b.2))],MO.row aj 64 (b.1) (b.2) ((s.2).L)]) (fun(s:Bool×GLin) (b:(Option Addr)×Nat)=>[])) (Value.func (.func 125) #[] #[vp b6 0,vp b5 0]) (fun x_1 x_2 x_3 s=>dG x_1 x_2 x_3 (s.1) (s.2)))) hY1).subs ⟨(.s (.s (.s .z))),(.s (.s (.s (.s .z)))),.z,trivial⟩) _ hx7) ?_)
 rintro _ w12 ⟨c16,rfl,hB2⟩
 obtain⟨⟨a6,c17⟩,hB2⟩:=Bun.unst hB2
 obtain⟨c18,hs1,hI⟩:=hk1 _ _ _ _ hB2
 dsimp only[ca,na]at hI
 refine⟨_,rfl,?_⟩
 refine T ?_
 refine aB (T ?_)
 refine bc h et (fun hb h=> ?_) (fun hb h=> ?_)
 ·refine sr (sq (aV (vs:=[]) (cs:=#[vi 0,vs none 0 0]) rfl trivial (by kernel_rfl)) ?_)
  refine ay (new:=[vi 0,vs none 0 0]) (cs':=#[vi 0,vs none 0 0]) hI (.s (.s (.s .z))) gn rfl rfl et et rfl aW rfl rfl rfl ?_
  clear hI;intro c19 w13 hI
  refine T ?_
  refine al ?_
  have hI:=hI.add (c:=Cl.sl aj none 0 ([]:List GMono)) SlC.nil
  obtain rfl:=ac h
  refine QG ?_
  exact⟨none,0,rfl,hI.ext0,hI.fin ⟨.z,trivial⟩⟩
 refine T ?_
 refine ay (new:=[(vi ((s1.2).K)),(vs a6 ((s1.2).L).length c17)]) (cs':=#[(vi ((s1.2).K)),(vs a6 ((s1.2).L).length c17)]) hI (.s (.s (.s .z))) gn rfl rfl et et rfl aW rfl rfl rfl ?_
 clear hI;intro c20 w14 hI
 refine T ?_
 refine al ?_
 obtain⟨c21,hI⟩:=hI.release (.s (.s .z))
 obtain rfl:=ac h
 refine QG ?_
 exact⟨a6,c17,rfl,hI.ext0,hI.fin ⟨.z,trivial⟩⟩
theorem aM (C0 F:NP) (w0:World) (r1:aa) (s1:List UInt8) (b1:Nat) (a1:Option Addr) (c1:Nat) (hI:Bun C0 F w0 C0 w0 [MO.box b1 67 (ab r1 a1 c1)] [Cl.sl ah a1 c1 r1.l]) (r:Bool×aa)
  (h:aD r1 s1=some r):
  Calls Tryz.prog 68 #[vp b1 0,(aC s1)] w0 fun e w=>∃ (a2:Option Addr) (c2:Nat) (C:NP),e= .returned (vb r.1)∧Bun C0 F w0 C w [MO.box b1 67 (ab r.2 a2 c2)] [Cl.sl ah a2 c2 r.2.l]:=by
 refine aL Tryz.func68 rfl Tryz.ntmps68 rfl ?_
 rw[aD]at h
 refine T ?_
 refine aB (T ?_)
 obtain⟨r2,hx1,h⟩:=af h
 refine aE gn rfl (ag (vs:=[vp b1 0,vi 3,(aC s1)]) rfl oQ ⟨et,⟨ai,⟨et,trivial⟩⟩⟩) (Calls.mono (dt d5 w0 (fun _ k=>k.elim) r1 3 s1 b1 a1 c1 ⟨(hI.get0 .z),hI.lendBox .z,trivial⟩ r2 hx1) ?_)
 rintro _ w1 ⟨rfl,hx2,hl1⟩
 refine⟨_,rfl,?_⟩
 replace hI:=(hI.ext hx2)
 refine nk (bc h et (fun hb h=> ?_) (fun hb h=> ?_))
 ·refine T ?_
  refine ay (new:=[(vi (az (r1.at_+1)))]) (cs':=#[vs a1 r1.l.length c1,(vi (az (r1.at_+1))),vi r1.deep]) hI .z gn rfl rfl et et rfl gb rfl rfl rfl ?_
  clear hI;intro c3 w2 hI
  refine T ?_
  refine al ?_
  obtain rfl:=ac h
  refine QG ?_
  exact⟨a1,c1,_,rfl,hI.arr GO SU⟩
 refine T ?_
 refine al ?_
 obtain rfl:=ac h
 refine QG ?_
 exact⟨a1,c1,_,rfl,hI.arr GO SU⟩
theorem dd (C0 F:NP) (w0:World) (r1:aa) (b1:Nat) (a1:Option Addr) (c1:Nat) (hI:Bun C0 F w0 C0 w0 [MO.box b1 67 (ab r1 a1 c1)] [Cl.sl ah a1 c1 r1.l]) (r:bk (Unit×aa))
  (h:ba r1=some r):
  Calls Tryz.prog 103 #[vp b1 0] w0 fun e w=>(∃ rx:Unit×aa,r= .ret rx∧∃ (a2:Option Addr) (c2:Nat) (C:NP),e= .returned (Value.tuple #[])∧Bun C0 F w0 C w [MO.box b1 67 (ab rx.2 a2 c2)] [Cl.sl ah a2 c2 rx.2.l])∨∃ (pa pn:Int),r= .pan pa pn∧e= .panicked [pe 114 pa pn]∧∃ C:NP,Bun C0 F w0 C w [] []:=by
 refine fj (l:=[vp b1 0]) Tryz.func103 rfl Tryz.ntmps103 rfl ?_
 rw[ba]at h
 refine aB (aB (bx [] false (.c (0,.q) (.c (1,.q) (.c (2,.q) (.c (3,.q) (.c (4,.q) (.c (5,.q) (.c (6,.q) (.c (7,.q) (.c (8,.q) (.c (9,.q) .n)))))))))) hI (by kernel_rfl) (by kernel_rfl) ?_))
 clear hI;intro w1 hI
 refine V ?_
 refine bc h et (fun hb h=> ?_) (fun hb h=> ?_)
 ·refine T ?_
  rcases ii h with⟨r2,hx1,h⟩ | ⟨pa_,pn_,hx1,hp_⟩
  rotate_left
  ·subst hp_
   refine mz gn rfl (ag (vs:=[vp b1 0,vi (r1.l.length:Int),vi 6]) rfl mh ⟨et,⟨et,⟨ai,trivial⟩⟩⟩) (Calls.mono (aT d5 w1 (fun _ k=>k.elim) r1 (r1.l.length:Int) 6 b1 a1 c1 ⟨(hI.get0 .z),hI.lendBox .z,trivial⟩ (.pan pa_ pn_) hx1) ?_)
   intro e_ w_ hq_;obtain⟨rfl,hx_⟩:=eo hq_;have hI_:=hI.ext hx_;exact .inr ⟨_,rfl,ib (.inr ⟨_,_,rfl,rfl,⟨_,hI_.arr .n trivial⟩⟩)⟩
  try dsimp only at h
  refine aE gn rfl (ag (vs:=[vp b1 0,vi (r1.l.length:Int),vi 6]) rfl mh ⟨et,⟨et,⟨ai,trivial⟩⟩⟩) (Calls.mono (aT d5 w1 (fun _ k=>k.elim) r1 (r1.l.length:Int) 6 b1 a1 c1 ⟨(hI.get0 .z),hI.lendBox .z,trivial⟩ (.ret r2) hx1) ?_)
  intro e_ w2 hq_;obtain⟨rfl,hx2,hl1⟩:=en hq_
  refine⟨_,rfl,?_⟩
  replace hI:=(hI.ext hx2)
  refine T ?_
  rcases ii h with⟨r3,hx3,h⟩ | ⟨pa_,pn_,hx3,hp_⟩
  rotate_left
  ·subst hp_
   refine mz gn rfl (ag (vs:=[vp b1 0,vi r1.at_,vi 5]) rfl mh ⟨et,⟨et,⟨ai,trivial⟩⟩⟩) (Calls.mono (aT d5 w2 (fun _ k=>k.elim) r1 r1.at_ 5 b1 a1 c1 ⟨(hI.get0 .z),hI.lendBox .z,trivial⟩ (.pan pa_ pn_) hx3) ?_)
   intro e_ w_ hq_;obtain⟨rfl,hx_⟩:=eo hq_;have hI_:=hI.ext hx_;exact .inr ⟨_,rfl,ib (.inr ⟨_,_,rfl,rfl,⟨_,hI_.arr .n trivial⟩⟩)⟩
  try dsimp only at h
  refine aE gn rfl (ag (vs:=[vp b1 0,vi r1.at_,vi 5]) rfl mh ⟨et,⟨et,⟨ai,trivial⟩⟩⟩) (Calls.mono (aT d5 w2 (fun _ k=>k.elim) r1 r1.at_ 5 b1 a1 c1 ⟨(hI.get0 .z),hI.lendBox .z,trivial⟩ (.ret r3) hx3) ?_)
  intro e_ w3 hq_;obtain⟨rfl,hx4,hl2⟩:=en hq_
  refine⟨_,rfl,?_⟩
  replace hI:=(hI.ext hx4)
  refine bl ?_
  obtain rfl:=ac h
  refine QG ?_
  exact .inl ⟨_,rfl,a1,c1,_,rfl,hI.arr GO SU⟩
 refine T ?_
 rcases ii h with⟨r4,hx5,h⟩ | ⟨pa_,pn_,hx5,hp_⟩
 rotate_left
 ·subst hp_
  refine mz gn rfl (ag (vs:=[vp b1 0,vi r1.at_,vi 5]) rfl mh ⟨et,⟨et,⟨ai,trivial⟩⟩⟩) (Calls.mono (aT d5 w1 (fun _ k=>k.elim) r1 r1.at_ 5 b1 a1 c1 ⟨(hI.get0 .z),hI.lendBox .z,trivial⟩ (.pan pa_ pn_) hx5) ?_)
  intro e_ w_ hq_;obtain⟨rfl,hx_⟩:=eo hq_;have hI_:=hI.ext hx_;exact .inr ⟨_,rfl,ib (.inr ⟨_,_,rfl,rfl,⟨_,hI_.arr .n trivial⟩⟩)⟩
 try dsimp only at h
 refine aE gn rfl (ag (vs:=[vp b1 0,vi r1.at_,vi 5]) rfl mh ⟨et,⟨et,⟨ai,trivial⟩⟩⟩) (Calls.mono (aT d5 w1 (fun _ k=>k.elim) r1 r1.at_ 5 b1 a1 c1 ⟨(hI.get0 .z),hI.lendBox .z,trivial⟩ (.ret r4) hx5) ?_)
 intro e_ w4 hq_;obtain⟨rfl,hx6,hl3⟩:=en hq_
 refine⟨_,rfl,?_⟩
 replace hI:=(hI.ext hx6)
 refine bl ?_
 obtain rfl:=ac h
 refine QG ?_
 exact .inl ⟨_,rfl,a1,c1,_,rfl,hI.arr GO SU⟩
theorem iq (C0 F:NP) (w0:World) (r1:aa) (b1:Nat) (a1:Option Addr) (c1:Nat) (hI:Bun C0 F w0 C0 w0 [MO.box b1 67 (ab r1 a1 c1)] [Cl.sl ah a1 c1 r1.l,aA]) (r:bk (List UInt8×aa))
  (h:bh r1=some r):
  Calls Tryz.prog 128 #[vp b1 0] w0 fun e w=>(∃ rx:List UInt8×aa,r= .ret rx∧∃ (a2:Option Addr) (c2:Nat) (C:NP),e= .returned (aC rx.1)∧Bun C0 F w0 C w [MO.box b1 67 (ab rx.2 a2 c2)] [Cl.sl ah a2 c2 rx.2.l])∨∃ (pa pn:Int),r= .pan pa pn∧e= .panicked [pe 114 pa pn]∧∃ C:NP,Bun C0 F w0 C w [] []:=by
 refine fj (l:=[vp b1 0]) Tryz.func128 rfl Tryz.ntmps128 rfl ?_
 rw[bh]at h
 refine T ?_
 refine du (α:=aa×(Option Addr)×Nat) (fun _=>⟨27,[]⟩) (fun x=>[(0,vp b1 0)]) (fun x=>fun w=>∃ C,Bun C0 F w0 C w [MO.box b1 67 (ab (x.1) (x.2.1) (x.2.2))] [Cl.sl ah (x.2.1) (x.2.2) (x.1).l,aA]∧ew (x.1)=some r) ?_ ?_
 ·clear h hI;rintro⟨r2,a3,c3⟩ w1 ⟨c4,hI,h⟩
  try dsimp only at hI h
  rw[ew]at h
  refine bz (e:=[(0,vp b1 0)]) ⟨rfl,trivial⟩ ?_
  refine T ?_
  refine ay (new:=[(vi (az (r2.at_+1)))]) (cs':=#[vs a3 r2.l.length c3,(vi (az (r2.at_+1))),vi r2.deep]) hI .z gn rfl rfl et et rfl gb rfl rfl rfl ?_
  clear hI;intro c5 w2 hI
  refine nk (aB (bx [] false (.c (0,.q) (.c (1,.q) (.c (2,.q) (.c (3,.q) (.c (4,.q) (.c (5,.q) (.c (6,.q) (.c (7,.q) (.c (8,.q) (.c (9,.q) (.c (10,.q) (.c (11,.q) (.c (12,.q) .n))))))))))))) hI (by kernel_rfl) (by kernel_rfl) ?_))
  clear hI;intro w3 hI
  refine V ?_
  obtain⟨e1,hx1,h⟩:=af h
  obtain⟨ad1,cs1,hA1,hr1,hq1⟩:=hI.clat .z hx1
  obtain rfl:cs1=(m6 e1):=hr1
  refine vI ?_
  refine V ?_
  refine al ?_
  obtain rfl:=ac h
  refine QG ?_
  exact .inl ⟨_,rfl,a3,c3,_,rfl,hI.arr GO SU⟩
 refine T ?_
 obtain⟨r3,hx2,h⟩:=af h
 refine aE gn rfl (ag (vs:=[vp b1 0]) rfl zA ⟨et,trivial⟩) (Calls.mono (j4 d5 w0 (fun _ k=>k.elim) r1 b1 a1 c1 ⟨(hI.get0 .z),hI.lendBox .z,hI.get0 (.s .z),trivial⟩ r3 hx2) ?_)
 rintro _ w4 ⟨rfl,hx3,hl1⟩
 refine⟨_,rfl,?_⟩
 replace hI:=(hI.ext hx3)
 refine T ?_
 refine bc h et (fun hb h=> ?_) (fun hb h=> ?_)
 ·refine T ?_
  obtain⟨c6,f1,hB,hl2,hk1⟩:=hI.hands (.l .n)
  refine dY h (fun _ hx4=>dd c6 f1 w4 r1 b1 a1 c1 (hB.subs ⟨.z,trivial⟩) _ hx4) (ky hk1) (ag rfl qM ⟨et,trivial⟩) ?_
  rintro⟨r4,s1⟩ hx4 h _ w5 ⟨a4,c7,c8,rfl,hB2⟩
  try dsimp only at h
  obtain⟨c9,hs1,hI⟩:=hk1 _ _ _ _ hB2
  dsimp only[ca,na]at hI
  refine⟨_,rfl,?_⟩
  refine bl ?_
  exact bi (s1,a4,c7) ⟨rfl,trivial⟩ ⟨_,hI.arr GO SU,h⟩ rfl
 exact cc (bi (r1,a1,c1) ⟨rfl,trivial⟩ ⟨_,hI.arr GO SU,h⟩ rfl)
theorem gG (C0 F:NP) (w0:World) (r1:aa) (b1:Nat) (a1:Option Addr) (c1:Nat) (hI:Bun C0 F w0 C0 w0 [MO.box b1 67 (ab r1 a1 c1)] [Cl.sl ah a1 c1 r1.l]) (r:bk (List UInt8×aa))
  (h:bB r1=some r):
  Calls Tryz.prog 130 #[vp b1 0] w0 fun e w=>(∃ rx:List UInt8×aa,r= .ret rx∧∃ (a2:Option Addr) (c2:Nat) (C:NP),e= .returned (aC rx.1)∧Bun C0 F w0 C w [MO.box b1 67 (ab rx.2 a2 c2)] [Cl.sl ah a2 c2 rx.2.l])∨∃ (pa pn:Int),r= .pan pa pn∧e= .panicked [pe 114 pa pn]∧∃ C:NP,Bun C0 F w0 C w [] []:=by
 refine fj (l:=[vp b1 0]) Tryz.func130 rfl Tryz.ntmps130 rfl ?_
 rw[bB]at h
 refine T ?_
 refine du (α:=aa×(Option Addr)×Nat) (fun _=>⟨27,[]⟩) (fun x=>[(0,vp b1 0)]) (fun x=>fun w=>∃ C,Bun C0 F w0 C w [MO.box b1 67 (ab (x.1) (x.2.1) (x.2.2))] [Cl.sl ah (x.2.1) (x.2.2) (x.1).l]∧cb (x.1)=some r) ?_ ?_
 ·clear h hI;rintro⟨r2,a3,c3⟩ w1 ⟨c4,hI,h⟩
  try dsimp only at hI h
  rw[cb]at h
  refine bz (e:=[(0,vp b1 0)]) ⟨rfl,trivial⟩ ?_
  refine T ?_
  refine ay (new:=[(vi (az (r2.at_+1)))]) (cs':=#[vs a3 r2.l.length c3,(vi (az (r2.at_+1))),vi r2.deep]) hI .z gn rfl rfl et et rfl gb rfl rfl rfl ?_
  clear hI;intro c5 w2 hI
  refine nk (aB (bx [] false (.c (0,.q) (.c (1,.q) (.c (2,.q) (.c (3,.q) (.c (4,.q) (.c (5,.q) (.c (6,.q) (.c (7,.q) (.c (8,.q) (.c (9,.q) (.c (10,.q) (.c (11,.q) (.c (12,.q) .n))))))))))))) hI (by kernel_rfl) (by kernel_rfl) ?_))
  clear hI;intro w3 hI
  refine V ?_
  obtain⟨e1,hx1,h⟩:=af h
  obtain⟨ad1,cs1,hA1,hr1,hq1⟩:=hI.clat .z hx1
  obtain rfl:cs1=(m6 e1):=hr1
  refine vI ?_
  refine V ?_
  refine al ?_
  obtain rfl:=ac h
  refine QG ?_
  exact .inl ⟨_,rfl,a3,c3,_,rfl,hI.arr GO SU⟩
 refine T ?_
 obtain⟨r3,hx2,h⟩:=af h
 refine aE gn rfl (ag (vs:=[vp b1 0]) rfl Gm ⟨et,trivial⟩) (Calls.mono (oo d5 w0 (fun _ k=>k.elim) r1 b1 a1 c1 ⟨(hI.get0 .z),hI.lendBox .z,trivial⟩ r3 hx2) ?_)
 rintro _ w4 ⟨rfl,hx3,hl1⟩
 refine⟨_,rfl,?_⟩
 replace hI:=(hI.ext hx3)
 refine T ?_
 refine bc h et (fun hb h=> ?_) (fun hb h=> ?_)
 ·refine T ?_
  obtain⟨c6,f1,hB,hl2,hk1⟩:=hI.hands (.l .n)
  refine dY h (fun _ hx4=>dd c6 f1 w4 r1 b1 a1 c1 (hB.subs ⟨.z,trivial⟩) _ hx4) (ky hk1) (ag rfl qM ⟨et,trivial⟩) ?_
  rintro⟨r4,s1⟩ hx4 h _ w5 ⟨a4,c7,c8,rfl,hB2⟩
  try dsimp only at h
  obtain⟨c9,hs1,hI⟩:=hk1 _ _ _ _ hB2
  dsimp only[ca,na]at hI
  refine⟨_,rfl,?_⟩
  refine bl ?_
  exact bi (s1,a4,c7) ⟨rfl,trivial⟩ ⟨_,hI.arr GO SU,h⟩ rfl
 exact cc (bi (r1,a1,c1) ⟨rfl,trivial⟩ ⟨_,hI.arr GO SU,h⟩ rfl)
theorem cL (C0 F:NP) (w0:World) (r1:aa) (negative1:Bool) (b1:Nat) (a1:Option Addr) (c1:Nat) (hI:Bun C0 F w0 C0 w0 [MO.box b1 67 (ab r1 a1 c1)] [Cl.sl ah a1 c1 r1.l,aA]) (r:bk (GLin×aa))
  (h:dq r1 negative1=some r):
  Calls Tryz.prog 70 #[vp b1 0,vb negative1] w0 fun e w=>(∃ rx:GLin×aa,r= .ret rx∧∃ (a2:Option Addr) (c2:Nat) (a3:Option Addr) (c3:Nat) (C:NP),e= .returned (Value.agg (bI rx.1 a2 c2))∧Bun C0 F w0 C w [MO.box b1 67 (ab rx.2 a3 c3)] [Cl.sl aj a2 c2 rx.1.L,Cl.sl ah a3 c3 rx.2.l])∨∃ (pa pn:Int),r= .pan pa pn∧e= .panicked [pe 114 pa pn]∧∃ C:NP,Bun C0 F w0 C w [] []:=by
 refine fj (l:=[vp b1 0,vb negative1]) Tryz.func70 rfl Tryz.ntmps70 rfl ?_
 rw[dq]at h
 refine sr (aN (cs:=#[vi 0,vs none 0 0]) hI gn rfl rfl fA rfl ?_)
 clear hI;intro b2 c4 w1 hI
 refine T ?_
 refine aB (T ?_)
 obtain⟨r2,hx1,h⟩:=af h
 refine aE gn rfl (ag (vs:=[vp b1 0]) rfl zA ⟨et,trivial⟩) (Calls.mono (j4 d5 w1 (fun _ k=>k.elim) r1 b1 a1 c1 ⟨(hI.get0 .z),hI.lendBox (.s .z),hI.get0 (.s .z),trivial⟩ r2 hx1) ?_)
 rintro _ w2 ⟨rfl,hx2,hl1⟩
 refine⟨_,rfl,?_⟩
 replace hI:=(hI.ext hx2)
 refine nk (bc h et (fun hb h=> ?_) (fun hb h=> ?_))
 ·refine T ?_
  obtain⟨c5,f1,hB,hl2,hk1⟩:=hI.hands (.r (.l .n))
  refine dY h (fun _ hx3=>iq c5 f1 w2 r1 b1 a1 c1 (hB.subs ⟨.z,(.s .z),trivial⟩) _ hx3) (ky hk1) (ag rfl wU ⟨et,trivial⟩) ?_
  rintro⟨r3,s1⟩ hx3 h _ w3 ⟨a4,c6,c7,rfl,hB2⟩
  try dsimp only at h
  obtain⟨c8,hs1,hI⟩:=hk1 _ _ _ _ hB2
  dsimp only[ca,na]at hI
  refine⟨_,rfl,?_⟩
  obtain⟨r4,hx4,h⟩:=af h
  refine aE gn rfl (ag (vs:=[(aC r3)]) rfl C6 ⟨et,trivial⟩) (Calls.mono (ws (Dj F c8) w3 hI.lt r3 trivial r4 hx4) ?_)
  rintro _ w4 ⟨a5,c9,rfl,hx5,hl3⟩
  refine⟨_,rfl,?_⟩
  replace hI:=(hI.ext hx5).adds hl3;dsimp only[ca,na]at hI
  refine aN (cs:=#[vi 0,vs none 0 0]) hI gn rfl rfl fA rfl ?_
  clear hI;intro b3 c10 w5 hI
  refine ay (new:=(gx r4 a5 c9)) (cs':=(bI r4 a5 c9)) hI .z gn rfl rfl et et rfl aW rfl rfl rfl ?_
  clear hI;intro c11 w6 hI
  refine nk (aB (T ?_))
  refine bc h et (fun hb h=> ?_) (fun hb h=> ?_)
  ·refine T ?_
   obtain⟨r5,hx6,h⟩:=af h
   refine aE gn rfl (ag (vs:=[(Value.agg (bI r4 a5 c9)),vi (-1)]) rfl CZ ⟨et,⟨ai,trivial⟩⟩) (Calls.mono (td (Dj F c11) w6 hI.lt r4 (-1) a5 c9 ⟨(hI.get .z),trivial⟩ r5 hx6) ?_)
   rintro _ w7 ⟨a6,c12,rfl,hx7,hl4⟩
   refine⟨_,rfl,?_⟩
   replace hI:=(hI.ext hx7).adds hl4;dsimp only[ca,na]at hI
   refine T ?_
   refine ay (new:=(gx r5.1 a6 c12)) (cs':=(bI r5.1 a6 c12)) hI .z gn rfl rfl et et rfl aW rfl rfl rfl ?_
   clear hI;intro c13 w8 hI
   refine T ?_
   refine ay (new:=(gx r5.1 a6 c12)) (cs':=(bI r5.1 a6 c12)) hI (.s (.s .z)) gn rfl rfl et et rfl aW rfl rfl rfl ?_
   clear hI;intro c14 w9 hI
   refine nk (al ?_)
   obtain rfl:=ac h
   refine QG ?_
   exact .inl ⟨_,rfl,a6,c12,a4,c6,_,rfl,hI.arr GO SU⟩
  refine T ?_
  refine ay (new:=(gx r4 a5 c9)) (cs':=(bI r4 a5 c9)) hI (.s (.s .z)) gn rfl rfl et et rfl aW rfl rfl rfl ?_
  clear hI;intro c15 w10 hI
  refine nk (al ?_)
  obtain rfl:=ac h
  refine QG ?_
  exact .inl ⟨_,rfl,a5,c9,a4,c6,_,rfl,hI.arr GO SU⟩
 refine T ?_
 obtain⟨c16,f2,hB,hl5,hk2⟩:=hI.hands (.r (.l .n))
 refine dY h (fun _ hx8=>gG c16 f2 w2 r1 b1 a1 c1 (hB.subs ⟨.z,trivial⟩) _ hx8) (ky hk2) (ag rfl wT ⟨et,trivial⟩) ?_
 rintro⟨r6,s2⟩ hx8 h _ w11 ⟨a7,c17,c18,rfl,hB2⟩
 try dsimp only at h
 obtain⟨c19,hs2,hI⟩:=hk2 _ _ _ _ hB2
 dsimp only[ca,na]at hI
 refine⟨_,rfl,?_⟩
 refine T ?_
 refine du (α:=(List UInt8)×aa×(Option Addr)×Nat) (fun _=>⟨58,[]⟩) (fun x=>[(0,vp b1 0),(1,vb negative1),(4,vp b2 0),(5,vi r1.at_),(7,(aC r6)),(8,(aC (x.1)))]) (fun x=>fun w=>∃ C,Bun C0 F w0 C w [MO.box b1 67 (ab (x.2.1) (x.2.2.1) (x.2.2.2)),MO.box b2 27 #[vi 0,vs none 0 0]] [Cl.sl ah (x.2.2.1) (x.2.2.2) (x.2.1).l,aA]∧aX r6 negative1 r1 (x.1) (x.2.1)=some r) ?_ ?_
 ·clear h hI;rintro⟨name1,r7,a8,c20⟩ w12 ⟨c21,hI,h⟩
  try dsimp only at hI h
  rw[aX]at h
  refine bz (e:=[(0,vp b1 0),(1,vb negative1),(4,vp b2 0),(5,vi r1.at_),(7,(aC r6)),(8,(aC name1))]) SB ?_
  refine T ?_
  obtain⟨r8,hx9,h⟩:=af h
  refine aE gn rfl (ag (vs:=[(aC r6),vb negative1]) rfl CY ⟨et,⟨et,trivial⟩⟩) (Calls.mono (pp (Dj F c21) w12 hI.lt r6 negative1 trivial r8 hx9) ?_)
  rintro _ w13 ⟨rfl,hx10,hl6⟩
  refine⟨_,rfl,?_⟩
  replace hI:=(hI.ext hx10)
  refine T ?_
  refine du (α:=Unit) (fun _=>⟨58,[]⟩) (fun _=>[(4,vp b2 0),(8,(aC name1)),(9,vi r8.1)]) (fun _=>fun w=>∃ C,Bun C0 F w0 C w [MO.box b2 27 #[vi 0,vs none 0 0],MO.box b1 67 (ab r7 a8 c20)] [Cl.sl ah a8 c20 r7.l,aA]∧dk name1 r8 r7=some r) ?_ ?_
  ·clear h hI;rintro _ w14 ⟨c22,hI,h⟩
   try dsimp only at hI h
   rw[dk]at h
   refine bz (e:=[(4,vp b2 0),(8,(aC name1)),(9,vi r8.1)]) SB ?_
   refine aB (T ?_)
   refine bc h et (fun hb h=> ?_) (fun hb h=> ?_)
   ·refine T ?_
    obtain⟨r9,hx11,h⟩:=af h
    refine aE gn rfl (ag (vs:=[vi r8.1]) rfl Gy ⟨et,trivial⟩) (Calls.mono (yS (Dj F c22) w14 hI.lt r8.1 trivial r9 hx11) ?_)
    rintro _ w15 ⟨a9,c23,rfl,hx12,hl7⟩
    refine⟨_,rfl,?_⟩
    replace hI:=(hI.ext hx12).adds hl7;dsimp only[ca,na]at hI
    refine ay (new:=(gx r9 a9 c23)) (cs':=(bI r9 a9 c23)) hI .z gn rfl rfl et et rfl aW rfl rfl rfl ?_
    clear hI;intro c24 w16 hI
    refine nk (al ?_)
    obtain rfl:=ac h
    refine QG ?_
    exact .inl ⟨_,rfl,a9,c23,a8,c20,_,rfl,hI.arr GO SU⟩
   refine T ?_
   obtain⟨r10,hx13,h⟩:=af h
   refine aE gn rfl (ag (vs:=[(aC name1)]) rfl C6 ⟨et,trivial⟩) (Calls.mono (ws (Dj F c22) w14 hI.lt name1 trivial r10 hx13) ?_)
   rintro _ w17 ⟨a10,c25,rfl,hx14,hl8⟩
   refine⟨_,rfl,?_⟩
   replace hI:=(hI.ext hx14).adds hl8;dsimp only[ca,na]at hI
   refine sm ?_
   obtain⟨r11,hx15,h⟩:=af h
   refine aE gn rfl (ag (vs:=[(Value.agg (bI r10 a10 c25)),vi r8.1]) rfl CZ ⟨et,⟨et,trivial⟩⟩) (Calls.mono (td (Dj F c22) w17 hI.lt r10 r8.1 a10 c25 ⟨(hI.get .z),trivial⟩ r11 hx15) ?_)
   rintro _ w18 ⟨a11,c26,rfl,hx16,hl9⟩
   refine⟨_,rfl,?_⟩
   replace hI:=(hI.ext hx16).adds hl9;dsimp only[ca,na]at hI
   refine T ?_
   refine aN (cs:=#[vi 0,vs none 0 0]) hI gn rfl rfl fA rfl ?_
   clear hI;intro b4 c27 w19 hI
   refine ay (new:=(gx r11.1 a11 c26)) (cs':=(bI r11.1 a11 c26)) hI .z gn rfl rfl et et rfl aW rfl rfl rfl ?_
   clear hI;intro c28 w20 hI
   refine T ?_
   refine ay (new:=(gx r11.1 a11 c26)) (cs':=(bI r11.1 a11 c26)) hI (.s .z) gn rfl rfl et et rfl aW rfl rfl rfl ?_
   clear hI;intro c29 w21 hI
   refine nk (al ?_)
   obtain rfl:=ac h
   refine QG ?_
   exact .inl ⟨_,rfl,a11,c26,a8,c20,_,rfl,hI.arr GO SU⟩
  refine T ?_
  refine bc h et (fun hb h=> ?_) (fun hb h=> ?_)
  ·refine T ?_
   rcases ii h with⟨r12,hx17,h⟩ | ⟨pa_,pn_,hx17,hp_⟩
   rotate_left
   ·subst hp_
    refine mz gn rfl (ag (vs:=[vp b1 0,vi r1.at_,vi 3]) rfl mh ⟨et,⟨et,⟨ai,trivial⟩⟩⟩) (Calls.mono (aT d5 w13 (fun _ k=>k.elim) r7 r1.at_ 3 b1 a8 c20 ⟨(hI.get0 .z),hI.lendBox .z,trivial⟩ (.pan pa_ pn_) hx17) ?_)
    intro e_ w_ hq_;obtain⟨rfl,hx_⟩:=eo hq_;have hI_:=hI.ext hx_;exact .inr ⟨_,rfl,ib (.inr ⟨_,_,rfl,rfl,⟨_,hI_.arr .n trivial⟩⟩)⟩
   try dsimp only at h
   refine aE gn rfl (ag (vs:=[vp b1 0,vi r1.at_,vi 3]) rfl mh ⟨et,⟨et,⟨ai,trivial⟩⟩⟩) (Calls.mono (aT d5 w13 (fun _ k=>k.elim) r7 r1.at_ 3 b1 a8 c20 ⟨(hI.get0 .z),hI.lendBox .z,trivial⟩ (.ret r12) hx17) ?_)
   intro e_ w22 hq_;obtain⟨rfl,hx18,hl10⟩:=en hq_
   refine⟨_,rfl,?_⟩
   replace hI:=(hI.ext hx18)
   refine bl ?_
   exact bi () SB ⟨_,hI.arr GO SU,h⟩ rfl
  exact cc (bi () SB ⟨_,hI.arr GO SU,h⟩ rfl)
 refine T ?_
 obtain⟨c30,f3,hB,hl11,hk3⟩:=hI.hands (.l (.r .n))
 obtain⟨⟨r13,s3⟩,hx19,h⟩:=af h
 try dsimp only at h
 refine aE gn rfl (ag (vs:=[vp b1 0,(aC ([42]:List UInt8))]) rfl mK ⟨et,⟨ai,trivial⟩⟩) (Calls.mono (aM c30 f3 w11 s2 ([42]:List UInt8) b1 a7 c17 (hB.subs ⟨.z,trivial⟩) _ hx19) ?_)
 rintro _ w23 ⟨a12,c31,c32,rfl,hB2⟩
 obtain⟨c33,hs3,hI⟩:=hk3 _ _ _ _ hB2
 dsimp only[ca,na]at hI
 refine⟨_,rfl,?_⟩
 refine nk (bc h et (fun hb h=> ?_) (fun hb h=> ?_))
 ·refine T ?_
  obtain⟨c34,f4,hB,hl12,hk4⟩:=hI.hands (.l (.r .n))
  refine dY h (fun _ hx20=>iq c34 f4 w23 s3 b1 a12 c31 (hB.subs ⟨.z,(.s (.s (.s .z))),trivial⟩) _ hx20) (ky hk4) (ag rfl wU ⟨et,trivial⟩) ?_
  rintro⟨r14,s4⟩ hx20 h _ w24 ⟨a13,c35,c36,rfl,hB2⟩
  try dsimp only at h
  obtain⟨c37,hs4,hI⟩:=hk4 _ _ _ _ hB2
  dsimp only[ca,na]at hI
  refine⟨_,rfl,?_⟩
  refine sa ?_
  refine bl ?_
  exact bi (r14,s4,a13,c35) SB ⟨_,hI.arr GO SU,h⟩ rfl
 exact cc (bi (([]:List UInt8),s3,a12,c31) SB ⟨_,hI.arr GO SU,h⟩ rfl)
end Go.Proofs.YtmhoikfoogemnaaGreatDoor
