import Derived.Test.YtmhoikfoogemnaaGreatDoorHXc
namespace Go.Vc
open Go Go.RowKit Go.Proofs
set_option linter.unusedVariables false
set_option maxRecDepth 100000
noncomputable def tyC:List (List TypeInfo):=[[Tryz.t0,Tryz.t1,Tryz.t2,Tryz.t3,Tryz.t4,Tryz.t5,Tryz.t6,Tryz.t7,Tryz.t8,Tryz.t9,Tryz.t10,Tryz.t11,Tryz.t12,Tryz.t13,Tryz.t14,Tryz.t15],[Tryz.t16,Tryz.t17,Tryz.t18,Tryz.t19,Tryz.t20,Tryz.t21,Tryz.t22,Tryz.t23,Tryz.t24,Tryz.t25,Tryz.t26,Tryz.t27,Tryz.t28,Tryz.t29,Tryz.t30,Tryz.t31],[Tryz.t32,Tryz.t33,Tryz.t34,Tryz.t35,Tryz.t36,Tryz.t37,Tryz.t38,Tryz.t39,Tryz.t40,Tryz.t41,Tryz.t42,Tryz.t43,Tryz.t44,Tryz.t45,Tryz.t46,Tryz.t47],[Tryz.t48,Tryz.t49,Tryz.t50,Tryz.t51,Tryz.t52,Tryz.t53,Tryz.t54,Tryz.t55,Tryz.t56,Tryz.t57,Tryz.t58,Tryz.t59,Tryz.t60,Tryz.t61,Tryz.t62,Tryz.t63],[Tryz.t64,Tryz.t65,Tryz.t66,Tryz.t67,Tryz.t68,Tryz.t69,Tryz.t70,Tryz.t71,Tryz.t72,Tryz.t73,Tryz.t74,Tryz.t75,Tryz.t76,Tryz.t77,Tryz.t78,Tryz.t79],[Tryz.t80,Tryz.t81,Tryz.t82,Tryz.t83,Tryz.t84,Tryz.t85,Tryz.t86,Tryz.t87,Tryz.t88,Tryz.t89,Tryz.t90,Tryz.t91,Tryz.t92,Tryz.t93,Tryz.t94,Tryz.t95],[Tryz.t96,Tryz.t97,Tryz.t98,Tryz.t99,Tryz.t100,Tryz.t101,Tryz.t102,Tryz.t103,Tryz.t104,Tryz.t105,Tryz.t106,Tryz.t107,Tryz.t108,Tryz.t109,Tryz.t110,Tryz.t111],[Tryz.t112,Tryz.t113,Tryz.t114,Tryz.t115,Tryz.t116,Tryz.t117,Tryz.t118,Tryz.t119,Tryz.t120,Tryz.t121,Tryz.t122,Tryz.t123,Tryz.t124,Tryz.t125,Tryz.t126,Tryz.t127],[Tryz.t128,Tryz.t129,Tryz.t130,Tryz.t131,Tryz.t132,Tryz.t133,Tryz.t134,Tryz.t135,Tryz.t136,Tryz.t137,Tryz.t138,Tryz.t139,Tryz.t140,Tryz.t141,Tryz.t142,Tryz.t143],[Tryz.t144,Tryz.t145,Tryz.t146,Tryz.t147,Tryz.t148,Tryz.t149,Tryz.t150,Tryz.t151,Tryz.t152,Tryz.t153,Tryz.t154,Tryz.t155,Tryz.t156,Tryz.t157,Tryz.t158,Tryz.t159],[Tryz.t160,Tryz.t161,Tryz.t162,Tryz.t163,Tryz.t164,Tryz.t165,Tryz.t166,Tryz.t167,Tryz.t168,Tryz.t169,Tryz.t170,Tryz.t171,Tryz.t172,Tryz.t173,Tryz.t174,Tryz.t175],[Tryz.t176,Tryz.t177,Tryz.t178,Tryz.t179,Tryz.t180,Tryz.t181,Tryz.t182,Tryz.t183,Tryz.t184,Tryz.t185,Tryz.t186,Tryz.t187,Tryz.t188,Tryz.t189,Tryz.t190,Tryz.t191],[Tryz.t192,Tryz.t193,Tryz.t194,Tryz.t195,Tryz.t196,Tryz.t197,Tryz.t198,Tryz.t199,Tryz.t200,Tryz.t201,Tryz.t202,Tryz.t203,Tryz.t204,Tryz.t205,Tryz.t206,Tryz.t207],[Tryz.t208,Tryz.t209,Tryz.t210,Tryz.t211,Tryz.t212,Tryz.t213,Tryz.t214,Tryz.t215,Tryz.t216,Tryz.t217,Tryz.t218,Tryz.t219,Tryz.t220,Tryz.t221,Tryz.t222,Tryz.t223],[Tryz.t224,Tryz.t225,Tryz.t226,Tryz.t227,Tryz.t228,Tryz.t229,Tryz.t230,Tryz.t231,Tryz.t232,Tryz.t233,Tryz.t234,Tryz.t235,Tryz.t236,Tryz.t237,Tryz.t238,Tryz.t239]]
def xB {α:Type} :List α→Nat→Option α
 | [],_=>none
 | x:: _,0=>some x
 | _ ::r,n+1=>xB r n
noncomputable def KH (t:Nat):Option TypeInfo:=match xB tyC (t / 16)with | some l=>xB l (t % 16) | none=>none
def TyL:Nat→List TypeInfo→Prop
 | _,[]=>True
 | k,i::r=>Tryz.prog.info? k=some i∧TyL (k+1) r
def TyA:Nat→List (List TypeInfo)→Prop
 | _,[]=>True
 | k,l::r=>TyL (k * 16) l∧TyA (k+1) r
theorem ty_0:TyL 0 [Tryz.t0,Tryz.t1,Tryz.t2,Tryz.t3,Tryz.t4,Tryz.t5,Tryz.t6,Tryz.t7,Tryz.t8,Tryz.t9,Tryz.t10,Tryz.t11,Tryz.t12,Tryz.t13,Tryz.t14,Tryz.t15]:=⟨by kernel_rfl,by kernel_rfl,by kernel_rfl,by kernel_rfl,by kernel_rfl,by kernel_rfl,by kernel_rfl,by kernel_rfl,by kernel_rfl,by kernel_rfl,by kernel_rfl,by kernel_rfl,by kernel_rfl,by kernel_rfl,by kernel_rfl,by kernel_rfl,af⟩
theorem ty_1:TyL 16 [Tryz.t16,Tryz.t17,Tryz.t18,Tryz.t19,Tryz.t20,Tryz.t21,Tryz.t22,Tryz.t23,Tryz.t24,Tryz.t25,Tryz.t26,Tryz.t27,Tryz.t28,Tryz.t29,Tryz.t30,Tryz.t31]:=⟨by kernel_rfl,by kernel_rfl,by kernel_rfl,by kernel_rfl,by kernel_rfl,by kernel_rfl,by kernel_rfl,by kernel_rfl,by kernel_rfl,by kernel_rfl,by kernel_rfl,by kernel_rfl,by kernel_rfl,by kernel_rfl,by kernel_rfl,by kernel_rfl,af⟩
theorem ty_2:TyL 32 [Tryz.t32,Tryz.t33,Tryz.t34,Tryz.t35,Tryz.t36,Tryz.t37,Tryz.t38,Tryz.t39,Tryz.t40,Tryz.t41,Tryz.t42,Tryz.t43,Tryz.t44,Tryz.t45,Tryz.t46,Tryz.t47]:=⟨by kernel_rfl,by kernel_rfl,by kernel_rfl,by kernel_rfl,by kernel_rfl,by kernel_rfl,by kernel_rfl,by kernel_rfl,by kernel_rfl,by kernel_rfl,by kernel_rfl,by kernel_rfl,by kernel_rfl,by kernel_rfl,by kernel_rfl,by kernel_rfl,af⟩
theorem ty_3:TyL 48 [Tryz.t48,Tryz.t49,Tryz.t50,Tryz.t51,Tryz.t52,Tryz.t53,Tryz.t54,Tryz.t55,Tryz.t56,Tryz.t57,Tryz.t58,Tryz.t59,Tryz.t60,Tryz.t61,Tryz.t62,Tryz.t63]:=⟨by kernel_rfl,by kernel_rfl,by kernel_rfl,by kernel_rfl,by kernel_rfl,by kernel_rfl,by kernel_rfl,by kernel_rfl,by kernel_rfl,by kernel_rfl,by kernel_rfl,by kernel_rfl,by kernel_rfl,by kernel_rfl,by kernel_rfl,by kernel_rfl,af⟩
theorem ty_4:TyL 64 [Tryz.t64,Tryz.t65,Tryz.t66,Tryz.t67,Tryz.t68,Tryz.t69,Tryz.t70,Tryz.t71,Tryz.t72,Tryz.t73,Tryz.t74,Tryz.t75,Tryz.t76,Tryz.t77,Tryz.t78,Tryz.t79]:=⟨by kernel_rfl,by kernel_rfl,by kernel_rfl,by kernel_rfl,by kernel_rfl,by kernel_rfl,by kernel_rfl,by kernel_rfl,by kernel_rfl,by kernel_rfl,by kernel_rfl,by kernel_rfl,by kernel_rfl,by kernel_rfl,by kernel_rfl,by kernel_rfl,af⟩
theorem ty_5:TyL 80 [Tryz.t80,Tryz.t81,Tryz.t82,Tryz.t83,Tryz.t84,Tryz.t85,Tryz.t86,Tryz.t87,Tryz.t88,Tryz.t89,Tryz.t90,Tryz.t91,Tryz.t92,Tryz.t93,Tryz.t94,Tryz.t95]:=⟨by kernel_rfl,by kernel_rfl,by kernel_rfl,by kernel_rfl,by kernel_rfl,by kernel_rfl,by kernel_rfl,by kernel_rfl,by kernel_rfl,by kernel_rfl,by kernel_rfl,by kernel_rfl,by kernel_rfl,by kernel_rfl,by kernel_rfl,by kernel_rfl,af⟩
theorem ty_6:TyL 96 [Tryz.t96,Tryz.t97,Tryz.t98,Tryz.t99,Tryz.t100,Tryz.t101,Tryz.t102,Tryz.t103,Tryz.t104,Tryz.t105,Tryz.t106,Tryz.t107,Tryz.t108,Tryz.t109,Tryz.t110,Tryz.t111]:=⟨by kernel_rfl,by kernel_rfl,by kernel_rfl,by kernel_rfl,by kernel_rfl,by kernel_rfl,by kernel_rfl,by kernel_rfl,by kernel_rfl,by kernel_rfl,by kernel_rfl,by kernel_rfl,by kernel_rfl,by kernel_rfl,by kernel_rfl,by kernel_rfl,af⟩
theorem ty_7:TyL 112 [Tryz.t112,Tryz.t113,Tryz.t114,Tryz.t115,Tryz.t116,Tryz.t117,Tryz.t118,Tryz.t119,Tryz.t120,Tryz.t121,Tryz.t122,Tryz.t123,Tryz.t124,Tryz.t125,Tryz.t126,Tryz.t127]:=⟨by kernel_rfl,by kernel_rfl,by kernel_rfl,by kernel_rfl,by kernel_rfl,by kernel_rfl,by kernel_rfl,by kernel_rfl,by kernel_rfl,by kernel_rfl,by kernel_rfl,by kernel_rfl,by kernel_rfl,by kernel_rfl,by kernel_rfl,by kernel_rfl,af⟩
theorem ty_8:TyL 128 [Tryz.t128,Tryz.t129,Tryz.t130,Tryz.t131,Tryz.t132,Tryz.t133,Tryz.t134,Tryz.t135,Tryz.t136,Tryz.t137,Tryz.t138,Tryz.t139,Tryz.t140,Tryz.t141,Tryz.t142,Tryz.t143]:=⟨by kernel_rfl,by kernel_rfl,by kernel_rfl,by kernel_rfl,by kernel_rfl,by kernel_rfl,by kernel_rfl,by kernel_rfl,by kernel_rfl,by kernel_rfl,by kernel_rfl,by kernel_rfl,by kernel_rfl,by kernel_rfl,by kernel_rfl,by kernel_rfl,af⟩
theorem ty_9:TyL 144 [Tryz.t144,Tryz.t145,Tryz.t146,Tryz.t147,Tryz.t148,Tryz.t149,Tryz.t150,Tryz.t151,Tryz.t152,Tryz.t153,Tryz.t154,Tryz.t155,Tryz.t156,Tryz.t157,Tryz.t158,Tryz.t159]:=⟨by kernel_rfl,by kernel_rfl,by kernel_rfl,by kernel_rfl,by kernel_rfl,by kernel_rfl,by kernel_rfl,by kernel_rfl,by kernel_rfl,by kernel_rfl,by kernel_rfl,by kernel_rfl,by kernel_rfl,by kernel_rfl,by kernel_rfl,by kernel_rfl,af⟩
theorem PV:TyL 160 [Tryz.t160,Tryz.t161,Tryz.t162,Tryz.t163,Tryz.t164,Tryz.t165,Tryz.t166,Tryz.t167,Tryz.t168,Tryz.t169,Tryz.t170,Tryz.t171,Tryz.t172,Tryz.t173,Tryz.t174,Tryz.t175]:=⟨by kernel_rfl,by kernel_rfl,by kernel_rfl,by kernel_rfl,by kernel_rfl,by kernel_rfl,by kernel_rfl,by kernel_rfl,by kernel_rfl,by kernel_rfl,by kernel_rfl,by kernel_rfl,by kernel_rfl,by kernel_rfl,by kernel_rfl,by kernel_rfl,af⟩
theorem PU:TyL 176 [Tryz.t176,Tryz.t177,Tryz.t178,Tryz.t179,Tryz.t180,Tryz.t181,Tryz.t182,Tryz.t183,Tryz.t184,Tryz.t185,Tryz.t186,Tryz.t187,Tryz.t188,Tryz.t189,Tryz.t190,Tryz.t191]:=⟨by kernel_rfl,by kernel_rfl,by kernel_rfl,by kernel_rfl,by kernel_rfl,by kernel_rfl,by kernel_rfl,by kernel_rfl,by kernel_rfl,by kernel_rfl,by kernel_rfl,by kernel_rfl,by kernel_rfl,by kernel_rfl,by kernel_rfl,by kernel_rfl,af⟩
theorem PT:TyL 192 [Tryz.t192,Tryz.t193,Tryz.t194,Tryz.t195,Tryz.t196,Tryz.t197,Tryz.t198,Tryz.t199,Tryz.t200,Tryz.t201,Tryz.t202,Tryz.t203,Tryz.t204,Tryz.t205,Tryz.t206,Tryz.t207]:=⟨by kernel_rfl,by kernel_rfl,by kernel_rfl,by kernel_rfl,by kernel_rfl,by kernel_rfl,by kernel_rfl,by kernel_rfl,by kernel_rfl,by kernel_rfl,by kernel_rfl,by kernel_rfl,by kernel_rfl,by kernel_rfl,by kernel_rfl,by kernel_rfl,af⟩
theorem PS:TyL 208 [Tryz.t208,Tryz.t209,Tryz.t210,Tryz.t211,Tryz.t212,Tryz.t213,Tryz.t214,Tryz.t215,Tryz.t216,Tryz.t217,Tryz.t218,Tryz.t219,Tryz.t220,Tryz.t221,Tryz.t222,Tryz.t223]:=⟨by kernel_rfl,by kernel_rfl,by kernel_rfl,by kernel_rfl,by kernel_rfl,by kernel_rfl,by kernel_rfl,by kernel_rfl,by kernel_rfl,by kernel_rfl,by kernel_rfl,by kernel_rfl,by kernel_rfl,by kernel_rfl,by kernel_rfl,by kernel_rfl,af⟩
theorem PQ:TyL 224 [Tryz.t224,Tryz.t225,Tryz.t226,Tryz.t227,Tryz.t228,Tryz.t229,Tryz.t230,Tryz.t231,Tryz.t232,Tryz.t233,Tryz.t234,Tryz.t235,Tryz.t236,Tryz.t237,Tryz.t238,Tryz.t239]:=⟨by kernel_rfl,by kernel_rfl,by kernel_rfl,by kernel_rfl,by kernel_rfl,by kernel_rfl,by kernel_rfl,by kernel_rfl,by kernel_rfl,by kernel_rfl,by kernel_rfl,by kernel_rfl,by kernel_rfl,by kernel_rfl,by kernel_rfl,by kernel_rfl,af⟩
theorem tyA:TyA 0 tyC:=⟨ty_0,ty_1,ty_2,ty_3,ty_4,ty_5,ty_6,ty_7,ty_8,ty_9,PV,PU,PT,PS,PQ,af⟩
theorem TyL.get:∀ {l:List TypeInfo} {k j:Nat} {i:TypeInfo},TyL k l→xB l j=some i→Tryz.prog.info? (k+j)=some i
 | [],_,_,_,_,h=>by cases h
 | _ :: _,k,0,_,h,e=>by injection e with e;subst e;exact h.1
 | _ ::r,k,j+1,_,h,e=>by have:=TyL.get (l:=r) h.2 e;rw[Nat.add_right_comm]at this;exact this
theorem TyA.get:∀ {l:List (List TypeInfo)} {k j:Nat} {q:List TypeInfo},TyA k l→xB l j=some q→TyL ((k+j) * 16) q
 | [],_,_,_,_,h=>by cases h
 | _ :: _,k,0,_,h,e=>by injection e with e;subst e;exact h.1
 | _ ::r,k,j+1,_,h,e=>by have:=TyA.get (l:=r) h.2 e;rw[Nat.add_right_comm]at this;exact this
theorem BN {t:Nat} {i:TypeInfo} (h:KH t=some i):Tryz.prog.info? t=some i:=by
 unfold KH at h
 split at h
 ·next l e=>
  have:=(tyA.get e).get h
  rwa [Nat.zero_add,Nat.mul_comm,Nat.div_add_mod]at this
 ·cases h
def Qz:TypeInfo→TypeDesc
 | { desc:=d,.. } =>d
def siz:TypeInfo→Nat
 | { size:=z,.. } =>z
theorem O1 (i:TypeInfo):Qz i=i.desc:=by cases i;rfl
theorem Nr (i:TypeInfo):siz i=i.size:=by cases i;rfl
noncomputable def PI:TypeDesc→Option TypeDesc
 | .named _ u=>match KH u with | some i=>some (Qz i) | none=>none
 | d=>some d
noncomputable def BK (t:Nat):Option TypeDesc:=match KH t with | some i=>PI (Qz i) | none=>none
noncomputable def Ip (t:Nat):Option Nat:=match KH t with | some i=>some (siz i) | none=>none
theorem jO {t:Nat} {d:TypeDesc} (h:BK t=some d):Tryz.prog.underlying t=some d:=by
 unfold BK at h
 unfold Program.underlying
 cases e:KH t with
 | none=>rw[e]at h;cases h
 | some i=>
  rw[e]at h
  rw[BN e]
  cases i with
  | mk desc=>
   dsimp only[Qz]at h
   cases desc with
   | named q u=>
    unfold PI at h
    dsimp only at h ⊢
    cases e2:KH u with
    | none=>rw[e2]at h;cases h
    | some i2=>rw[e2]at h;rw[BN e2, ← h];show some i2.desc=some (Qz i2);rw[O1]
   | _=>exact h
theorem rT {t s:Nat} (h:Ip t=some s):(Tryz.prog.info? t).map (·.size)=some s:=by
 unfold Ip at h
 cases e:KH t with
 | none=>rw[e]at h;cases h
 | some i=>rw[e]at h;rw[BN e, ← h];show some i.size=some (siz i);rw[Nr]
section
variable {ro:Ro} {n:Fr} {Kn:Act→World→Prop} {Ke:Nat→Act→World→Prop} {Kr:Act→World→Prop} {env:kW} {w:World}
variable {ops:Array Oper} {rest:List Oper} {o:Oper} {v:Value} {x:Operand} {c:Bool}
def HT (m:Nat) (env:kW):Operand→Option Value
 | .tmp t=>match Nat.blt t m with | true=>look env t | false=>none
 | .const v=>some v
 | .func f=>some (.func (.func f) #[] #[])
 | .global g=>some (.pointer (some ⟨g,0,none⟩))
theorem nO (h:HT n.n env x=some v):Ev n env x v:=by
 cases x with
 | tmp t=>
  unfold HT at h;dsimp only at h
  cases hb:Nat.blt t n.n with
  | true=>rw[hb]at h;exact aT h hb
  | false=>rw[hb]at h;cases h
 | const u=>injection h with h;subst h;exact ah
 | func f=>injection h with h;subst h;exact Hp
 | global g=>injection h with h;subst h;exact Ib
def QM (k:IntKind) (p q:Int):BinOp→Option Value
 | .add=>some (.int k (k.wrap (p+q)))
 | .sub=>some (.int k (k.wrap (p - q)))
 | .mul=>some (.int k (k.wrap (p * q)))
 | .eql=>some (.bool (decide (p=q)))
 | .neq=>some (.bool (!decide (p=q)))
 | .lss=>some (.bool (decide (p<q)))
 | .leq=>some (.bool (decide (p≤q)))
 | .gtr=>some (.bool (decide (q<p)))
 | .geq=>some (.bool (decide (q≤p)))
 | _=>none
def QL (l l':List UInt8):BinOp→Option Value
 | .eql=>some (.bool (decide (l=l')))
 | .neq=>some (.bool (!decide (l=l')))
 | .lss=>some (.bool (Op.bytesLess l l'))
 | .geq=>some (.bool (!Op.bytesLess l l'))
 | _=>none
def P5 (bop:BinOp):Value→Value→Option Value
 | .int k p,.int k' q=>match decide (k=k')with | true=>QM k p q bop | false=>none
 | .string ⟨⟨l⟩⟩,.string ⟨⟨l'⟩⟩=>QL l l' bop
 | _,_=>none
theorem yU {α:Type} :∀ {l:List α} {i:Nat} {x:α},xB l i=some x→l[i]? =some x
 | [],_,_,h=>by cases h
 | y:: _,0,x,h=>h
 | _ ::r,n+1,x,h=>by rw[List.getElem?_cons_succ];exact yU (l:=r) h
theorem nh {α:Type} {a:Array α} {i:Nat} {x:α} (h:xB a.toList i=some x):a[i]? =some x:=by rw[← Array.getElem?_toList];exact yU h
theorem ym {ops:Array Oper} {j t:Nat} (h:(xB ops.toList j).bind (·.dst)=some t):(ops[j]?).bind (·.dst)=some t:=by
 cases e:xB ops.toList j with
 | none=>rw[e]at h;cases h
 | some y=>rw[e]at h;rw[nh e];exact h
noncomputable def Ln (ad:Addr) (i:Nat):Option TypeDesc→Option Value
 | some (.struct ⟨fs⟩)=>match xB fs i with
  | some ⟨_,t,o,_,_,_,_⟩=>match Ip t with | some (_ +1)=>some (.pointer (some (ad.add o))) | _=>none
  | none=>none
 | _=>none
noncomputable def Lm:Option TypeDesc→Value→Option Value
 | some .string,.string ⟨⟨l⟩⟩=>some (.int .i64 l.length)
 | some (.slice _),.slice _ m _=>some (.int .i64 m)
 | _,_=>none
noncomputable def Lo:Option TypeDesc→Option TypeDesc→Value→Option Value
 | some _,some (.int k),.int _ p=>some (.int k (k.wrap p))
 | _,_,_=>none
noncomputable def qv (m:Nat) (env:kW):Op→Option Value
 | .move x=>HT m env x
 | .assign x=>HT m env x
 | .nilCheck x=>match HT m env x with | some (.pointer (some ad))=>some (.pointer (some ad)) | _=>none
 | .extract x i=>match HT m env x with | some (.tuple ⟨vs⟩)=>xB vs i | _=>none
 | .fieldAddr t x i=>match HT m env x with | some (.pointer (some ad))=>Ln ad i (BK t) | _=>none
 | .binOp bop _ x y _=>match HT m env x,HT m env y with | some a,some b=>P5 bop a b | _,_=>none
 | .unOp .not _ x=>match HT m env x with | some (.bool b)=>some (.bool (!b)) | _=>none
 | .unOp .neg _ x=>match HT m env x with | some (.int k p)=>some (.int k (k.wrap (-p))) | _=>none
 | .convert t t' x=>match HT m env x with | some a=>Lo (BK t) (BK t') a | none=>none
 | .call ⟨.builtin .len,⟨[x]⟩,⟨[t]⟩⟩=>match HT m env x with | some a=>Lm (BK t) a | none=>none
 | _=>none
theorem GQ {op:Op} (ho:o.op=op) (h:qv n.n env op=some v):hH Tryz.prog n env o v w:=by
 unfold qv at h
 split at h
 ·exact fC ho (nO h)
 ·exact cx ho (nO h)
 ·split at h
  ·next e=>injection h with h;subst h;exact nn ho (nO e)
  ·cases h
 ·split at h
  ·next e=>exact ir ho (nO e) (by rw[List.getElem?_toArray];exact yU h)
  ·cases h
 ·split at h
  ·next e=>
   unfold Ln at h
   split at h
   ·next e1=>
    split at h
    ·next e2=>
     split at h
     ·next e3=>injection h with h;subst h;exact aq ho (nO e) (jO e1) (by rw[List.getElem?_toArray];exact yU e2) (rT e3) rfl
     ·cases h
    ·cases h
   ·cases h
  ·cases h
 ·split at h
  ·next bop t x y t' _ _ a b ea eb=>
   unfold P5 at h
   split at h
   ·next k p k' q=>
    split at h
    ·next ek=>
     have ek:=of_decide_eq_true ek
     subst ek
     unfold QM at h
     have ha:=nO ea;have hb:=nO eb
     split at h<;>first | (cases h;done) | (injection h with h;subst h)
     ·exact nB ho ha hb
     ·exact Iy ho ha hb
     ·exact xk ho ha hb
     ·exact Gr ho ha hb
     ·exact pE ho ha hb
     ·exact rp ho ha hb
     ·exact AU ho ha hb
     ·exact tn ho ha hb
     ·exact IC ho ha hb
    ·cases h
   ·next l l'=>
    have ha:Ev n env x (str l):=nO ea
    have hb:Ev n env y (str l'):=nO eb
    unfold QL at h
    split at h<;>first | (cases h;done) | (injection h with h;subst h)
    ·exact Gq ho ha hb
    ·exact Gm ho ha hb
    ·exact Mm ho ha hb
    ·exact Mn ho ha hb
   ·cases h
  ·cases h
 ·split at h
  ·next e=>injection h with h;subst h;exact uH ho (nO e)
  ·cases h
 ·split at h
  ·next e=>injection h with h;subst h;exact Ml ho (nO e)
  ·cases h
 ·split at h
  ·next e=>
   unfold Lo at h
   split at h
   ·next e1 e2=>injection h with h;subst h;exact ID ho (by rw[jO e1];rfl) (jO e2) (nO e)
   ·cases h
  ·cases h
 ·split at h
  ·next e=>
   unfold Lm at h
   split at h
   ·next e1=>injection h with h;subst h;exact IA ho (jO e1) (nO e)
   ·next e1=>injection h with h;subst h;exact jM ho (jO e1) (nO e)
   ·cases h
  ·cases h
 ·cases h
noncomputable def Ji (m:Nat):List Oper→kW→List Oper×kW
 | [],env=>([],env)
 | o::rest,env=>match o.guard,o.dst with
  | none,some d=>match qv m env o.op with | some v=>Ji m rest ((d,v)::env) | none=>(o::rest,env)
  | _,_=>(o::rest,env)
theorem GM:∀ {l:List Oper} {env:kW},dD Tryz.prog ro n ops Kn Ke Kr (Ji n.n l env).1 (Ji n.n l env).2 w→dD Tryz.prog ro n ops Kn Ke Kr l env w
 | [],_,h=>h
 | o::rest,env,h=>by
  unfold Ji at h
  split at h
  ·next hg hd=>
   split at h
   ·next e=>exact E6 (bD hg) hd (GQ rfl e) (GM h)
   ·exact h
  ·exact h
theorem qu {d:Nat} {l':List Oper} {env':kW} (h:dD Tryz.prog ro n ops Kn Ke Kr l' env' w) (hv:qv n.n env o.op=some v:=by rfl) (hg:o.guard=none:=by rfl) (hd:o.dst=some d:=by rfl) (hr:Ji n.n rest ((d,v)::env)=(l',env'):=by rfl):dD Tryz.prog ro n ops Kn Ke Kr (o::rest) env w:=
 E6 (bD hg) hd (GQ rfl hv) (GM (by rw[hr];exact h))
noncomputable def Jj (m:Nat) (ops:Array Oper) (X:List Nat):Tr→kW→Tr×kW
 | .c (i,.q) rs,env=>match xB ops.toList i with
  | some o=>match o.guard,o.dst,X.contains i with
   | none,some d,false=>match qv m env o.op with | some v=>Jj m ops X rs ((d,v)::env) | none=>(.c (i,.q) rs,env)
   | _,_,_=>(.c (i,.q) rs,env)
  | none=>(.c (i,.q) rs,env)
 | T,env=>(T,env)
theorem GN {S:Sn} :∀ {T:Tr} {env:kW},di Tryz.prog ro n ops Kn Ke Kr S (Jj n.n ops S.x T env).1 (Jj n.n ops S.x T env).2 w→di Tryz.prog ro n ops Kn Ke Kr S T env w
 | .c (i,.q) rs,env,h=>by
  unfold Jj at h
  split at h
  ·next o e=>
   split at h
   ·next hg hd hx=>
    split at h
    ·next e2=>exact iq (nh e) (bD hg) hd (λw'=>GQ rfl e2) (GN h) hx
    ·exact h
   ·exact h
  ·exact h
 | .c (i,.s) rs,env,h=>h
 | .c (i,.t) rs,env,h=>h
 | .n,env,h=>h
 | .two ..,env,h=>h
 | .three ..,env,h=>h
 | .four ..,env,h=>h
theorem qa {S:Sn} {i d:Nat} {rs T':Tr} {env':kW} (h:di Tryz.prog ro n ops Kn Ke Kr S T' env' w) (hi:xB ops.toList i=some o:=by rfl) (hv:qv n.n env o.op=some v:=by rfl) (hg:o.guard=none:=by rfl) (hd:o.dst=some d:=by rfl) (hx:S.x.contains i=false:=by rfl) (hr:Jj n.n ops S.x rs ((d,v)::env)=(T',env'):=by rfl):di Tryz.prog ro n ops Kn Ke Kr S (.c (i,.q) rs) env w:=
 iq (nh hi) (bD hg) hd (λw'=>GQ rfl hv) (GN (by rw[hr];exact h)) hx
noncomputable def H1:Op→Option (Operand×Bool)
 | .load t x=>match BK t with
  | some (.struct _)=>some (x,true)
  | some (.array _ _)=>some (x,true)
  | some _=>some (x,false)
  | none=>none
 | _=>none
noncomputable def ldsz:Op→Option Nat
 | .load t _=>Ip t
 | _=>none
theorem Gp {ad:Addr} (hk:H1 o.op=some (x,false)) (hx:Ev n env x (.pointer (some ad))) (hc:CellsAt w ad [v]):hH Tryz.prog n env o v w:=by
 unfold H1 at hk
 split at hk
 ·next t y e=>
  split at hk
  ·cases hk
  ·cases hk
  ·next d h1 h2 h3=>
   injection hk with hk;injection hk with hk _;subst hk
   exact aF e hx (jO h3) (by cases d<;>first | rfl | exact absurd rfl (h1 _) | exact absurd rfl (h2 _ _)) hc
  ·cases hk
 ·cases hk
theorem PB {ad:Addr} {l:List Value} (hk:H1 o.op=some (x,true)) (hx:Ev n env x (.pointer (some ad))) (hc:CellsAt w ad l) (hs:ldsz o.op=some l.length):hH Tryz.prog n env o (.agg l.toArray) w:=by
 unfold H1 at hk
 split at hk
 ·next t y e=>
  have hs:(Tryz.prog.info? t).map (·.size)=some l.length:=by rw[e]at hs;exact rT hs
  split at hk
  ·next e2=>injection hk with hk;injection hk with hk _;subst hk;exact am e hx (jO e2) rfl hs hc
  ·next e2=>injection hk with hk;injection hk with hk _;subst hk;exact am e hx (jO e2) rfl hs hc
  ·next h1 h2 h3=>injection hk with hk;injection hk with _ hk;cases hk
  ·cases hk
 ·cases hk
theorem Dn {b:Nat} {t:TypeId} {cs:Array Value} (h:Blk w b t cs):CellsAt w ⟨b,0,none⟩ cs.toList:=Q5 h (by rw[List.drop_zero];exact List.take_length)
def Lv:Op→Nat
 | .move _=>1
 | .assign _=>1
 | .fieldAddr _ _ _=>2
 | .nilCheck _=>2
 | .pick _ _ _=>3
 | .binOp _ _ _ _ _=>4
 | .unOp _ _ _=>5
 | .convert _ _ _=>5
 | .extract _ _=>5
 | .call ⟨.builtin .len,_,_⟩=>5
 | _=>0
section
variable {y:Operand} {t e:TypeId} {ad:Addr} {p:Int} {k:IntKind} {a:Value}
theorem Py {i:Nat} (ho:o.op= .fieldAddr t x i) (hx:Ev n env x (.pointer (some ad))) (h:Ln ad i (BK t)=some v):hH Tryz.prog n env o v w:=by
 unfold Ln at h
 split at h
 ·next e1=>
  split at h
  ·next e2=>
   split at h
   ·next e3=>injection h with h;subst h;exact aq ho hx (jO e1) (by rw[List.getElem?_toArray];exact yU e2) (rT e3) rfl
   ·cases h
  ·cases h
 ·cases h
theorem Mk {A:Option Addr} {m c s:Nat} (ho:o.op= .indexAddr t x y) (ht:BK t=some (.slice e)) (hs:Ip e=some s) (hx:Ev n env x (.slice A m c)) (hy:Ev n env y (.int k p)) (h0:0≤p∧p<m) (hA:A=some ad):hH Tryz.prog n env o (.pointer (some (ad.add (p.toNat * s)))) w:=iS ho (jO ht) (rT hs) hx hy h0 hA
theorem Mj {l:List UInt8} {b:Int} (ho:o.op= .index t x y) (ht:BK t=some .string) (hx:Ev n env x (str l)) (hy:Ev n env y (.int k p)) (h:Vc.sat l p=some b):hH Tryz.prog n env o (.int .u8 b) w:=M8 ho (jO ht) hx hy h
theorem Gl {l s:List UInt8} (ho:o.op= .slice t x (some y) none none) (ht:BK t=some .string) (hx:Ev n env x (str l)) (hy:Ev n env y (.int k p)) (h:iJ l p=some s):hH Tryz.prog n env o (str s) w:=KT ho (jO ht) hx hy h
theorem Gk {l s:List UInt8} (ho:o.op= .slice t x none (some y) none) (ht:BK t=some .string) (hx:Ev n env x (str l)) (hy:Ev n env y (.int k p)) (h:tF l p=some s):hH Tryz.prog n env o (str s) w:=KS ho (jO ht) hx hy h
theorem Px (ho:o.op= .call ⟨.builtin .len,⟨[x]⟩,⟨[t]⟩⟩) (hx:Ev n env x a) (h:Lm (BK t) a=some v):hH Tryz.prog n env o v w:=by
 unfold Lm at h
 split at h
 ·next e1=>injection h with h;subst h;exact IA ho (jO e1) hx
 ·next e1=>injection h with h;subst h;exact jM ho (jO e1) hx
 ·cases h
theorem M7 {t':TypeId} (ho:o.op= .convert t t' x) (hx:Ev n env x a) (h:Lo (BK t) (BK t') a=some v):hH Tryz.prog n env o v w:=by
 unfold Lo at h
 split at h
 ·next e1 e2=>injection h with h;subst h;exact ID ho (by rw[jO e1];rfl) (jO e2) hx
 ·cases h
end
structure Wr (p:Prop):Prop where
 out:p
theorem EV (h:Ev n env x v:=by first | exact et | exact ah | exact aI et hc):Ev n env x v:=h
section
variable {t j:Nat} {b c:Bool}
theorem gT (hg:o.guard=some (j,true)) (hj:(xB ops.toList j).bind (·.dst)=some t) (hl:look env t=some (.bool b)) (ht:Nat.blt t n.n=true):oC n env ops o b:=bg hg (ym hj) hl ht
theorem gF (hg:o.guard=some (j,false)) (hj:(xB ops.toList j).bind (·.dst)=some t) (hl:look env t=some (.bool b)) (ht:Nat.blt t n.n=true):oC n env ops o (!b):=bj hg (ym hj) hl ht
theorem gT2 (hg:o.guard=some (j,true)) (hj:(xB ops.toList j).bind (·.dst)=some t) (hl:look env t=some (gv c (.bool b))) (ht:Nat.blt t n.n=true):oC n env ops o (c&&b):=iR hg (ym hj) hl ht
theorem gF2 (hg:o.guard=some (j,false)) (hj:(xB ops.toList j).bind (·.dst)=some t) (hl:look env t=some (gv c (.bool b))) (ht:Nat.blt t n.n=true):oC n env ops o (c&& !b):=gV hg (ym hj) hl ht
end
theorem EG (h:Ev n env x v:=by first | exact aI et hc | exact et | exact ah):Ev n env x v:=h
theorem GD (h:oC n env ops o c:=by first | exact gT rfl rfl rfl rfl | exact gF rfl rfl rfl rfl | exact gT2 rfl rfl rfl rfl | exact gF2 rfl rfl rfl rfl):oC n env ops o c:=h
theorem PO {os:List MO} {m:MO} {f:MO→List MO} (h:At os m f:=by repeat (first | with_reducible exact At.z | apply At.s)):At os m f:=h
theorem IN {L:List Cl} {a:Cl} (h:In L a:=by repeat (first | with_reducible exact In.z | refine In.s ?_)):In L a:=h
theorem RM {os os':List MO} {m:MO} (h:Rm os m os':=by repeat (first | with_reducible exact Rm.z | apply Rm.s)):Rm os m os':=h
theorem GO {os os':List MO} (h:KP os os':=by repeat (first | exact KP.n | refine KP.c RM ?_)):KP os os':=h
theorem SU {L L':List Cl} (h:Subs L L':=by repeat (first | exact trivial | refine⟨IN,?_⟩)):Subs L L':=h
theorem SB {e:kW} (h:Sub e env:=by repeat (first | exact trivial | refine⟨rfl,?_⟩)):Sub e env:=h
theorem ss {p q:Prop} (h:p→q) (hp:p):q:=h hp
theorem CA.now {D:NP} {ad:Addr} {l:List Value} (h:CA D w ad l):CellsAt w ad l:=h.1
theorem LD {ad:Addr} {l:List Value} (h:CellsAt w ad l:=by first
 | exact Q5 (hI.blk PO) (by rfl)
 | exact CA.now (by assumption)
 | exact(CA.part (by assumption) (by rfl)).1
 | exact(hI.kblk IN (by rfl)).1
 | exact CA.now (ss (by assumption) hc)
 | exact(CA.part (ss (by assumption) hc) (by rfl)).1):CellsAt w ad l:=h
theorem LA {ad:Addr} {l:List Value} (h:CellsAt w ad l:=by first
 | exact Dn (hI.blk PO)
 | exact CA.now (by assumption)):CellsAt w ad l:=h
theorem LX {ad:Addr} {l:List Value} (h:CellsAt w ad l:=by first
 | exact(CA.blk (hI.blk PO) (by rfl)).at_ (SX.any rfl hw')
 | exact CA.at_ (by assumption) (SX.any rfl hw')
 | exact(CA.part (by assumption) (by rfl)).at_ (SX.any rfl hw')
 | exact(hI.kblk IN (by rfl)).at_ (SX.any rfl hw')
 | exact CA.at_ (ss (by assumption) hc) (SX.any rfl hw')
 | exact(CA.part (ss (by assumption) hc) (by rfl)).at_ (SX.any rfl hw')
 | exact CA.at_ (by assumption) hw'
 | exact(CA.part (by assumption) (by rfl)).at_ hw'
 | exact(hI.kblk IN (by rfl)).at_ hw'):CellsAt w ad l:=h
theorem YM (h:hH Tryz.prog n env o v w:=by first | exact tq rfl et et | exact xP rfl et et):hH Tryz.prog n env o v w:=h
theorem YI (h:hH Tryz.prog n env o v w:=by first
 | exact Mk rfl (by rfl) (by rfl) EV EV (pA (by assumption)) (by assumption)
 | exact Mj rfl (by rfl) EV EV (by assumption)
 | exact Gl rfl (by rfl) EV EV (by assumption)
 | exact Gk rfl (by rfl) EV EV (by assumption)):hH Tryz.prog n env o v w:=h
theorem Y1 (hk:Lv o.op=1:=by rfl) (h:hH Tryz.prog n env o v w:=by first
 | exact fC rfl (aI et hc) | exact fC rfl et | exact fC rfl ah
 | exact cx rfl (aI et hc) | exact cx rfl et | exact cx rfl ah):hH Tryz.prog n env o v w:=h
theorem Y2 (hk:Lv o.op=2:=by rfl) (h:hH Tryz.prog n env o v w:=by first
 | exact Py rfl EV (by rfl)
 | exact nn rfl EV):hH Tryz.prog n env o v w:=h
theorem Y3 (hk:Lv o.op=3:=by rfl) (h:hH Tryz.prog n env o v w:=by first
 | exact yu rfl hc et et | exact DC rfl hc et et | exact tq rfl et et | exact xP rfl et et):hH Tryz.prog n env o v w:=h
theorem Y4 (hk:Lv o.op=4:=by rfl) (h:hH Tryz.prog n env o v w:=by first
 | exact Gr rfl EV EV | exact pE rfl EV EV | exact rp rfl EV EV | exact tn rfl EV EV | exact IC rfl EV EV | exact AU rfl EV EV
 | exact Gq rfl EV EV | exact Gm rfl EV EV
 | exact nB rfl EV EV | exact Iy rfl EV EV | exact xk rfl EV EV
 | exact Mm rfl EV EV | exact Mn rfl EV EV):hH Tryz.prog n env o v w:=h
theorem Y5 (hk:Lv o.op=5:=by rfl) (h:hH Tryz.prog n env o v w:=by first
 | exact uH rfl EV
 | exact Px rfl EG (by rfl)
 | exact ir rfl EV rfl | exact Ml rfl EV
 | exact M7 rfl EG (by rfl)):hH Tryz.prog n env o v w:=h
theorem YJ (h:hH Tryz.prog n env o v w:=by first
 | exact Mk rfl (by rfl) (by rfl) EV EV (pA (ss (by assumption) hc)) (And.left (ss (by assumption) hc))
 | exact Mj rfl (by rfl) EV EV (ss (by assumption) hc)
 | exact Gl rfl (by rfl) EV EV (ss (by assumption) hc)
 | exact Gk rfl (by rfl) EV EV (ss (by assumption) hc)):hH Tryz.prog n env o v w:=h
theorem Y (h:hH Tryz.prog n env o v w:=by first | exact Y1 | exact Y4 | exact Y2 | exact Y5 | exact Y3):hH Tryz.prog n env o v w:=h
theorem sG {d:Nat} (h:dD Tryz.prog ro n ops Kn Ke Kr rest ((d,gv c v)::env) w) (hi:o.guard.isSome=true:=by rfl) (hl:(Nat.blt 0 (Lv o.op))=true:=by rfl) (hg:oC n env ops o c:=by first | exact gT rfl rfl rfl rfl | exact gF rfl rfl rfl rfl | exact gT2 rfl rfl rfl rfl | exact gF2 rfl rfl rfl rfl) (hd:o.dst=some d:=by rfl) (hr:c=true→hH Tryz.prog n env o v w:=by exact λhc=>Y):dD Tryz.prog ro n ops Kn Ke Kr (o::rest) env w:=aw hg hd hr h
theorem sGL {d:Nat} {x:Operand} (h:dD Tryz.prog ro n ops Kn Ke Kr rest ((d,gv c v)::env) w) (hi:o.guard.isSome=true:=by rfl) (hl:H1 o.op=some (x,false):=by rfl) (hg:oC n env ops o c:=by first | exact gT rfl rfl rfl rfl | exact gF rfl rfl rfl rfl | exact gT2 rfl rfl rfl rfl | exact gF2 rfl rfl rfl rfl) (hd:o.dst=some d:=by rfl) (hr:c=true→hH Tryz.prog n env o v w:=by exact λhc=>Gp (by rfl) EV LD):dD Tryz.prog ro n ops Kn Ke Kr (o::rest) env w:=aw hg hd hr h
theorem sM {d:Nat} (h:dD Tryz.prog ro n ops Kn Ke Kr rest ((d,v)::env) w) (hg:o.guard=none:=by rfl) (hl:Lv o.op=3:=by rfl) (hd:o.dst=some d:=by rfl) (hr:hH Tryz.prog n env o v w:=by exact YM):dD Tryz.prog ro n ops Kn Ke Kr (o::rest) env w:=sq hr h hg hd
theorem sI {d:Nat} (h:dD Tryz.prog ro n ops Kn Ke Kr rest ((d,v)::env) w) (hg:o.guard=none:=by rfl) (hd:o.dst=some d:=by rfl) (hr:hH Tryz.prog n env o v w:=by exact YI):dD Tryz.prog ro n ops Kn Ke Kr (o::rest) env w:=sq hr h hg hd
theorem sJ {d:Nat} (h:dD Tryz.prog ro n ops Kn Ke Kr rest ((d,gv c v)::env) w) (hg:oC n env ops o c:=by exact GD) (hd:o.dst=some d:=by rfl) (hr:c=true→hH Tryz.prog n env o v w:=by exact λhc=>YJ):dD Tryz.prog ro n ops Kn Ke Kr (o::rest) env w:=aw hg hd hr h
theorem sL {d:Nat} {x:Operand} (h:dD Tryz.prog ro n ops Kn Ke Kr rest ((d,v)::env) w) (hl:H1 o.op=some (x,false):=by rfl) (hg:o.guard=none:=by rfl) (hd:o.dst=some d:=by rfl) (hr:hH Tryz.prog n env o v w:=by exact Gp (by rfl) EV LD):dD Tryz.prog ro n ops Kn Ke Kr (o::rest) env w:=sq hr h hg hd
theorem sN {d:Nat} {x:Operand} (h:dD Tryz.prog ro n ops Kn Ke Kr rest ((d,v)::env) w) (hl:H1 o.op=some (x,true):=by rfl) (hg:o.guard=none:=by rfl) (hd:o.dst=some d:=by rfl) (hr:hH Tryz.prog n env o v w:=by exact PB (by rfl) EV LA (by rfl)):dD Tryz.prog ro n ops Kn Ke Kr (o::rest) env w:=sq hr h hg hd
section
variable {S:Sn} {i d:Nat} {rs:Tr}
theorem vM (h:di Tryz.prog ro n ops Kn Ke Kr S rs ((d,v)::env) w) (hi:xB ops.toList i=some o:=by rfl) (hg:o.guard=none:=by rfl) (hl:Lv o.op=3:=by rfl) (hd:o.dst=some d:=by rfl) (hr:∀ w',hH Tryz.prog n env o v w':=by exact λw'=>YM) (hx:S.x.contains i=false:=by rfl):di Tryz.prog ro n ops Kn Ke Kr S (.c (i,.q) rs) env w:=iq (nh hi) (bD hg) hd hr h hx
theorem vI (h:di Tryz.prog ro n ops Kn Ke Kr S rs ((d,v)::env) w) (hi:xB ops.toList i=some o:=by rfl) (hg:o.guard=none:=by rfl) (hd:o.dst=some d:=by rfl) (hr:∀ w',hH Tryz.prog n env o v w':=by exact λw'=>YI) (hx:S.x.contains i=false:=by rfl):di Tryz.prog ro n ops Kn Ke Kr S (.c (i,.q) rs) env w:=iq (nh hi) (bD hg) hd hr h hx
theorem vJ (h:di Tryz.prog ro n ops Kn Ke Kr S rs ((d,gv c v)::env) w) (hi:xB ops.toList i=some o:=by rfl) (hg:oC n env ops o c:=by exact GD) (hd:o.dst=some d:=by rfl) (hr:c=true→∀ w',hH Tryz.prog n env o v w':=by exact λhc w'=>YJ) (hx:S.x.contains i=false:=by rfl):di Tryz.prog ro n ops Kn Ke Kr S (.c (i,.q) rs) env w:=Dv (nh hi) hg hd hr h hx
theorem vG (h:di Tryz.prog ro n ops Kn Ke Kr S rs ((d,gv c v)::env) w) (hi:xB ops.toList i=some o:=by rfl) (hs:o.guard.isSome=true:=by rfl) (hl:(Nat.blt 0 (Lv o.op))=true:=by rfl) (hg:oC n env ops o c:=by exact GD) (hd:o.dst=some d:=by rfl) (hr:c=true→∀ w',hH Tryz.prog n env o v w':=by exact λhc w'=>Y) (hx:S.x.contains i=false:=by rfl):di Tryz.prog ro n ops Kn Ke Kr S (.c (i,.q) rs) env w:=Dv (nh hi) hg hd hr h hx
theorem vL {x:Operand} (h:di Tryz.prog ro n ops Kn Ke Kr S rs ((d,v)::env) w) (hi:xB ops.toList i=some o:=by rfl) (hl:H1 o.op=some (x,false):=by rfl) (hg:o.guard=none:=by rfl) (hd:o.dst=some d:=by rfl) (hr:∀ w',S.now w'→hH Tryz.prog n env o v w':=by exact λw' hw'=>Gp (by rfl) EV LX) (hw:BI ops S.x rs i=true:=by kernel_rfl):di Tryz.prog ro n ops Kn Ke Kr S (.c (i,.q) rs) env w:=dl (nh hi) (bD hg) hd hr hw h
theorem vGL {x:Operand} (h:di Tryz.prog ro n ops Kn Ke Kr S rs ((d,gv c v)::env) w) (hi:xB ops.toList i=some o:=by rfl) (hl:H1 o.op=some (x,false):=by rfl) (hs:o.guard.isSome=true:=by rfl) (hg:oC n env ops o c:=by exact GD) (hd:o.dst=some d:=by rfl) (hr:c=true→∀ w',S.now w'→hH Tryz.prog n env o v w':=by exact λhc w' hw'=>Gp (by rfl) EV LX) (hw:BI ops S.x rs i=true:=by kernel_rfl):di Tryz.prog ro n ops Kn Ke Kr S (.c (i,.q) rs) env w:=uB (nh hi) hg hd hr hw h
end
theorem T {G' G:Prop} (h:G') (t:Wr G'→G:=by
 intro h_
 (repeat (first
  | refine qu ?_
  | refine sr ?_
  | refine nk ?_
  | refine sL ?_
  | refine sG ?_
  | refine sM ?_
  | refine sGL ?_
  | refine sN ?_
  | refine mB ?_
  | refine aZ (aS ?_)
  | refine ip rfl ?_))
 exact h_.out):G:=t ⟨h⟩
theorem V {G' G:Prop} (h:G') (t:Wr G'→G:=by
 intro h_
 (repeat (first
  | refine qa ?_
  | refine vL ?_
  | refine vG ?_
  | refine vGL ?_
  | refine vM ?_
  | refine pp (aS ?_)))
 exact h_.out):G:=t ⟨h⟩
end
end Go.Vc
